/- What Sum (the program's, the document's) and walCopy, walSame do. No condition. -/
import Derived.Test.YthpeadoidpimmaaGSum
import Derived.Test.YthpeadoidpimmaaCrc
namespace Go.Proofs.Ythpeadoidpimmaa
open Go Tw
set_option linter.unusedVariables false
set_option maxRecDepth 10000

theorem crcFrom_take (x : BitVec 32) (bs : List UInt8) (n : Nat) (hn : n < bs.length) : crcFrom x (bs.take (n + 1)) = byteStep (crcFrom x (bs.take n)) bs[n] := by
  unfold crcFrom
  rw [List.take_add_one, List.getElem?_eq_getElem hn, List.foldl_append]
  rfl

theorem tabVals : ∀ n : Nat, n < 16 → ([.int .u32 0, .int .u32 498536548, .int .u32 997073096, .int .u32 651767980, .int .u32 1994146192, .int .u32 1802195444, .int .u32 1303535960, .int .u32 1342533948, .int .u32 3988292384, .int .u32 4027552580, .int .u32 3604390888, .int .u32 3412177804, .int .u32 2607071920, .int .u32 2262029012, .int .u32 2685067896, .int .u32 3183342108] : List Value)[n]? = some (.int .u32 ((BitVec.ofNat 32 (tab.getD n 0)).toNat : Int))
  | 0, _ => rfl | 1, _ => rfl | 2, _ => rfl | 3, _ => rfl | 4, _ => rfl | 5, _ => rfl | 6, _ => rfl | 7, _ => rfl | 8, _ => rfl | 9, _ => rfl | 10, _ => rfl | 11, _ => rfl | 12, _ => rfl | 13, _ => rfl | 14, _ => rfl | 15, _ => rfl
  | n + 16, h => by omega

theorem wal_half_c {x : BitVec 32} {K : Int → Hp → Prop} {h : Hp} (hK : ∀ h', Kp (fun _ => False) h h' → K ((halfOf x).toNat : Int) h') : wal_half (x.toNat : Int) K h := by
  have hlt : x.toNat % 16 < 16 := Nat.mod_lt _ (by omega)
  have hb := Bk.new h [.int .u32 0, .int .u32 0, .int .u32 0, .int .u32 0, .int .u32 0, .int .u32 0, .int .u32 0, .int .u32 0, .int .u32 0, .int .u32 0, .int .u32 0, .int .u32 0, .int .u32 0, .int .u32 0, .int .u32 0, .int .u32 0] 193
  refine ⟨_, _, rfl, rfl, _, hb.st (by decide), _, (and15_u32 x).symm, by omega, by omega, _, ?_, hK _ ?_⟩
  · rw [add_nA]
    refine hb.set.rd ?_
    rw [Nat.mul_one, Nat.zero_add, Int.toNat_natCast]
    exact tabVals _ hlt
  · exact Kp.set (Kp.push (Kp.refl _ _) _) _ (.inl (Nat.le_refl _))

theorem wal_Sum_c {s : Sl} {bs : List UInt8} {K : Int → Hp → Prop} {h : Hp} (hs : Byt h s bs) (hb : bs.length < 9223372036854775807)
    (hK : ∀ h', Kp (fun _ => False) h h' → K ((crc bs).toNat : Int) h') : wal_Sum s K h := by
  refine ⟨fun m r n h' => ∃ k : Nat, n = k ∧ k ≤ bs.length ∧ m = bs.length - k ∧ r = ((crcFrom 4294967295#32 (bs.take k)).toNat : Int) ∧ Kp (fun _ => False) h h', ⟨_, 0, rfl, by omega, rfl, rfl, Kp.refl _ _⟩, ?_⟩
  rintro m r n h1 ⟨k, rfl, hk, rfl, rfl, hkp⟩
  have hs1 := hs.kp hkp (fun _ _ hf => hf)
  rw [hs.len]
  refine dcd (fun hlt => ?_) (fun hge => ?_)
  · have hlt' : k < bs.length := by omega
    obtain ⟨a, ha, hr⟩ := hs1.at hlt'
    refine ⟨a, ha, by omega, by omega, (bs[k].toNat : Int), ?_, _, rfl, _, rfl, _, rfl, ?_⟩
    · rw [Nat.mul_one, Int.toNat_natCast]; exact hr
    rw [byte_u32 bs[k] rfl, xor_u32]
    generalize hx : crcFrom 4294967295#32 (List.take k bs) ^^^ BitVec.ofNat 32 bs[k].toNat = x
    rw [show ((2 : Int) ^ (min (Int.toNat 4) (IntKind.bits .u32))) = 2 ^ (min (Int.toNat ((4 : Nat) : Int)) (IntKind.bits .u32)) from rfl, shr_u32 x 4 (by omega)]
    refine wal_half_c fun h2 hk2 => ?_
    refine ⟨_, rfl, _, rfl, ?_⟩
    rw [xor_u32, half_four]
    rw [shr_u32 _ 4 (by omega)]
    refine wal_half_c fun h3 hk3 => ?_
    refine ⟨_, rfl, _, Wr.i64 (by omega) (by omega), _, ?_, k + 1, by omega, by omega, rfl, ?_, (hkp.trans hk2).trans hk3⟩
    · omega
    · rw [xor_u32, half_four, crcFrom_take _ _ _ hlt', ← hx]
      rfl
  · refine ⟨_, rfl, ?_⟩
    have hkl : k = bs.length := by omega
    subst hkl
    have : IntKind.u32.wrap ((BitVec.ofInt (IntKind.bits .u32) (IntKind.max .u32) ^^^ BitVec.ofInt (IntKind.bits .u32) ((crcFrom 4294967295#32 (List.take bs.length bs)).toNat : Int)).toNat : Int) = ((crc bs).toNat : Int) := by
      have e : (IntKind.max .u32 : Int) = ((4294967295#32).toNat : Int) := rfl
      rw [e, xor_u32, List.take_length, BitVec.xor_comm]; rfl
    rw [this]
    exact hK _ hkp

theorem bitStep_t {x : BitVec 32} (h : x.getLsbD 0 = true) : (x >>> 1) ^^^ 3988292384#32 = bitStep x := by
  unfold bitStep; rw [h]; rfl
theorem bitStep_f {x : BitVec 32} (h : x.getLsbD 0 = false) : (x >>> 1) = bitStep x := by
  unfold bitStep; rw [h]; show _ = _ ^^^ 0#32; simp

def bitSteps : Nat → BitVec 32 → BitVec 32
  | 0, x => x
  | n + 1, x => bitStep (bitSteps n x)

theorem ref3_Sum_c {s : Sl} {bs : List UInt8} {K : Int → Hp → Prop} {h : Hp} (hs : Byt h s bs) (hb : bs.length < 9223372036854775807)
    (hK : K ((crc bs).toNat : Int) h) : ref3_Sum s K h := by
  refine ⟨fun m r n h' => ∃ k : Nat, n = k ∧ k ≤ bs.length ∧ m = bs.length - k ∧ r = ((crcFrom 4294967295#32 (bs.take k)).toNat : Int) ∧ h' = h, ⟨_, 0, rfl, by omega, rfl, rfl, rfl⟩, ?_⟩
  rintro m r n h1 ⟨k, rfl, hk, rfl, rfl, rfl⟩
  rw [hs.len]
  refine dcd (fun hlt => ?_) (fun hge => ?_)
  · have hlt' : k < bs.length := by omega
    obtain ⟨a, ha, hr⟩ := hs.at hlt'
    refine ⟨a, ha, by omega, by omega, (bs[k].toNat : Int), ?_, _, rfl, _, rfl, ?_⟩
    · rw [Nat.mul_one, Int.toNat_natCast]; exact hr
    rw [byte_u32 bs[k] rfl, xor_u32]
    generalize hx : crcFrom 4294967295#32 (List.take k bs) ^^^ BitVec.ofNat 32 bs[k].toNat = x
    refine ⟨fun m r j h' => ∃ i : Nat, j = i ∧ i ≤ 8 ∧ m = 8 - i ∧ r = ((bitSteps i x).toNat : Int) ∧ h' = h1, ⟨_, 0, rfl, by omega, rfl, rfl, rfl⟩, ?_⟩
    rintro m r j h2 ⟨i, rfl, hi, rfl, rfl, rfl⟩
    refine dcd (fun hlt2 => ?_) (fun hge2 => ?_)
    · refine ⟨fun r h' => r = ((bitSteps (i + 1) x).toNat : Int) ∧ h' = h2, ?_, ?_⟩
      · rintro r h3 ⟨rfl, rfl⟩
        exact ⟨_, Wr.i64 (by omega) (by omega), 8 - (i + 1), by omega, i + 1, by omega, by omega, rfl, rfl, rfl⟩
      · refine ⟨_, rfl, ?_⟩
        rw [mod2_u32]
        have hs1 : Int.fdiv ((bitSteps i x).toNat : Int) (2 ^ (min (Int.toNat 1) (IntKind.bits .u32))) = ((bitSteps i x >>> 1).toNat : Int) := shr_u32 _ 1 (by omega)
        refine ⟨fun hb1 => ⟨_, rfl, _, rfl, ?_, rfl⟩, fun hb0 => ⟨_, rfl, ?_, rfl⟩⟩
        · rw [hs1]
          have := xor_u32 (bitSteps i x >>> 1) 3988292384#32
          rw [bitStep_t hb1] at this
          exact this
        · rw [hs1, bitStep_f hb0]; rfl
    · have hi8 : i = 8 := by omega
      subst hi8
      refine ⟨_, Wr.i64 (by omega) (by omega), bs.length - (k + 1), by omega, k + 1, by omega, by omega, rfl, ?_, rfl⟩
      rw [crcFrom_take _ _ _ hlt', ← hx]
      rfl
  · refine ⟨_, rfl, ?_⟩
    have hkl : k = bs.length := by omega
    subst hkl
    have : IntKind.u32.wrap ((BitVec.ofInt (IntKind.bits .u32) ((crcFrom 4294967295#32 (List.take bs.length bs)).toNat : Int) ^^^ BitVec.ofInt (IntKind.bits .u32) 4294967295).toNat : Int) = ((crc bs).toNat : Int) := by
      have e : (4294967295 : Int) = ((4294967295#32).toNat : Int) := rfl
      rw [e, xor_u32, List.take_length]; rfl
    rw [this]
    exact hK

theorem Byt.of_vec {h : Hp} {s : Sl} {bs : List UInt8} {el : TypeId} (hv : Vec h s 1 el (bs.map bv)) : Byt h s bs := by
  have hl := hv.len
  simp at hl
  refine ⟨hl.symm, hv.cap, ?_⟩
  have h1 := hv.rd
  cases hp : s.p with
  | none =>
    rw [hp] at h1
    exact ⟨List.length_eq_zero_iff.1 (by omega), h1.2⟩
  | some a =>
    rw [hp] at h1
    have := hv.rdl hp (i := 0) (vs := bs.map bv) (fun j v hj => by simpa using hj)
    rw [add_zero'] at this
    exact this

theorem Byt.rds {h : Hp} {s : Sl} {bs : List UInt8} (hb : Byt h s bs) : RdS h s 1 (bs.map bv) := by
  have h1 := hb.rd
  have h2 := hb.len
  unfold RdS
  cases hp : s.p with
  | none => rw [hp] at h1; rw [h1.1] at h2 ⊢; exact ⟨h2, rfl⟩
  | some a => rw [hp] at h1; exact ⟨by simp [h2], h1⟩

theorem toNat_n (n : Nat) : Int.toNat (n : Int) = n := Int.toNat_natCast n

theorem law3_walCopy_c {s : Sl} {bs : List UInt8} {K : Sl → Hp → Prop} {h : Hp} (hs : Byt h s bs) (hb : bs.length + 8 ≤ 140737488355328)
    (hK : ∀ s' h', Kp (fun _ => False) h h' → Vec h' s' 1 5 (bs.map bv) → (∀ b, s'.blk b → h.size ≤ b) → K s' h') : law3_walCopy s K h := by
  have hl := hs.len
  refine ⟨(bs.length : Int) + 8, by rw [hl]; exact Wr.i64 (by omega) (by omega), by omega, by omega, by omega, _, _, _, rfl, rfl, rfl, ?_⟩
  refine ⟨fun m s' n h' => ∃ k : Nat, n = k ∧ k ≤ bs.length ∧ m = bs.length - k ∧ Kp (fun _ => False) h h' ∧ Vec h' s' 1 5 ((bs.take k).map bv) ∧ ∀ b, s'.blk b → h.size ≤ b, ⟨_, 0, rfl, by omega, rfl, Kp.push (Kp.refl _ _) _, ?_, ?_⟩, ?_⟩
  · refine Vec.mk0 _ _ _ _ _ _ _ ?_ ?_ ?_
    · rw [zr_len]
    · show 0 ≤ _; omega
    · simp
  · rintro b ⟨a, ha, rfl⟩
    cases ha
    exact Nat.le_refl _
  rintro m s' n h1 ⟨k, rfl, hk, rfl, hkp, hv, hbl⟩
  rw [hl]
  refine dcd (fun hlt => ?_) (fun hge => ?_)
  · have hlt' : k < bs.length := by omega
    obtain ⟨a, ha, hr⟩ := (hs.kp hkp (fun _ _ hf => hf)).at hlt'
    refine ⟨a, ha, by omega, by omega, (bs[k].toNat : Int), ?_, _, _, _, rfl, rfl, rfl, ?_⟩
    · rw [Nat.mul_one, Int.toNat_natCast]; exact hr
    have hv2 := hv.kp (Kp.push (Kp.refl (fun _ => False) h1) (Cel [bv bs[k]] 5)) (fun _ _ hf => hf)
    have hvl := hv2.len
    simp at hvl
    refine hv2.app (news := [bv bs[k]]) ?_ ?_ ?_ ?_
    · exact ⟨rfl, RdL.of_bk (Bk.new h1 _ 5) (fun j v hj => by simpa using hj)⟩
    · intro v hv'; simp at hv'; subst hv'; rfl
    · show (s'.len + 1) * 1 ≤ _; omega
    · intro s2 h2 hv3 hl3 hk3 hb3
      refine ⟨_, Wr.i64 (by omega) (by omega), bs.length - (k + 1), by omega, k + 1, by omega, by omega, rfl, ?_, ?_, ?_⟩
      · exact (hkp.push _).and hk3 fun b hb => .inl (hbl b hb)
      · rw [List.take_add_one, List.getElem?_eq_getElem hlt', List.map_append]
        exact hv3
      · intro b hb
        rcases hb3 b hb with h4 | h4
        · exact hbl b h4
        · have := hkp.size; simp at h4; omega
  · have hkl : k = bs.length := by omega
    subst hkl
    rw [List.take_length] at hv
    exact hK _ _ hkp hv hbl
end Go.Proofs.Ythpeadoidpimmaa
