/- Sectors of the log: what the program's functions on them do. No condition. -/
import Derived.Test.YthpeadoidpimmaaGWalA
import Derived.Test.YthpeadoidpimmaaWalM
import Derived.Test.YthpeadoidpimmaaSumC
import Derived.Test.YthpeadoidpimmaaDiskD
namespace Go.Proofs.Ythpeadoidpimmaa
open Go Tw
set_option linter.unusedVariables false
set_option linter.unusedSimpArgs false
set_option maxRecDepth 10000

section
variable {h : Hp}

theorem ovr_snoc {l d : List UInt8} {a : Nat} {x : UInt8} (h : a + d.length < l.length) : (ovr l a d).set (a + d.length) x = ovr l a (d ++ [x]) := by
  have hl1 : (d ++ [x]).length = d.length + 1 := by simp
  apply List.ext_getElem?
  intro j
  rw [List.getElem?_set, ovr_get (by omega), ovr_get (by omega), ovr_len (by omega)]
  by_cases e : a + d.length = j
  · subst e
    rw [if_pos rfl, if_pos h, if_pos (by omega), List.getElem?_append_right (by omega)]
    have : a + d.length - a - d.length = 0 := by omega
    rw [this]; rfl
  · rw [if_neg e]
    by_cases hj : a ≤ j ∧ j < a + d.length
    · rw [if_pos hj, if_pos (by omega), List.getElem?_append_left (by omega)]
    · rw [if_neg hj, if_neg (by omega)]
theorem ovr_nil {l : List UInt8} {a : Nat} : ovr l a [] = l := by simp [ovr]

theorem shr_u64 (v k : Nat) (hk : k ≤ 7) : Int.fdiv (v : Int) (2 ^ (min (Int.toNat ((8 * k : Nat) : Int)) (IntKind.bits .u64))) = ((v / 256 ^ k : Nat) : Int) := by
  have : min (Int.toNat ((8 * k : Nat) : Int)) (IntKind.bits .u64) = 8 * k := by
    show min (Int.toNat ((8 * k : Nat) : Int)) 64 = 8 * k
    rw [Int.toNat_natCast]; omega
  rw [this, Int.fdiv_eq_ediv_of_nonneg _ (by exact Int.le_of_lt (Int.pow_pos (by omega)))]
  have e : (256 : Nat) ^ k = 2 ^ (8 * k) := by rw [Nat.pow_mul]
  rw [e]; simp

theorem wal_put_c {b : Nat} {t : TypeId} {l : List UInt8} {at_ n v : Nat} {K : Hp → Prop} (hb : Bk h b (l.map bv) t) (hl : l.length = 128) (ha : at_ + n ≤ 128) (hn : n ≤ 8)
    (hK : ∀ h', Kp (fun x => x = b) h h' → Bk h' b ((putL l at_ n v).map bv) t → K h') : wal_sector_put (some (nA b)) at_ n v K h := by
  have hbe := be_len n v
  refine ⟨fun k i hh => ∃ j : Nat, i = j ∧ j ≤ n ∧ k = n - j ∧ Kp (fun x => x = b) h hh ∧ Bk hh b ((ovr l at_ ((be n v).take j)).map bv) t, ⟨_, 0, rfl, by omega, rfl, Kp.refl _ _, by rw [List.take_zero, ovr_nil]; exact hb⟩, ?_⟩
  rintro k i h1 ⟨j, rfl, hj, rfl, hk1, hb1⟩
  refine dcd (fun hlt => ?_) (fun hge => ?_)
  · have hlt' : j < n := by omega
    have htl : ((be n v).take j).length = j := by simp; omega
    have hol : (ovr l at_ ((be n v).take j)).length = 128 := by rw [ovr_len (by omega)]; exact hl
    have hg := be_get n v j hlt'
    have e1 : ((8 * (n - 1 - j) : Nat) : Int) = 8 * ((n : Int) - 1 - j) := by omega
    have e2 : Int.toNat ((at_ : Int) + j) * 1 = at_ + j := by omega
    refine ⟨(at_ : Int) + j, Wr.i64 (by omega) (by omega), (n : Int) - 1, Wr.i64 (by omega) (by omega), (n : Int) - 1 - j, Wr.i64 (by omega) (by omega), ((8 * (n - 1 - j) : Nat) : Int), ?_, by omega, _, rfl, _, Wr.u8 _, nA b, rfl, by omega, by omega, setB h1 b (Cel (((ovr l at_ ((be n v).take j)).map bv).set (at_ + j) (.int .u8 (Int.fdiv (v : Int) (2 ^ (min (Int.toNat ((8 * (n - 1 - j) : Nat) : Int)) (IntKind.bits .u64))) % 256))) t), ?_, _, Wr.i64 (by omega) (by omega), n - (j + 1), by omega, j + 1, by omega, by omega, rfl, hk1.set _ (.inr rfl), ?_⟩
    · rw [e1]; exact Wr.i64 (by omega) (by omega)
    · rw [e2]; exact hb1.sti (at_ + j) _ (by simp; omega)
    · have e3 : (.int .u8 (Int.fdiv (v : Int) (2 ^ (min (Int.toNat ((8 * (n - 1 - j) : Nat) : Int)) (IntKind.bits .u64))) % 256) : Value) = bv (UInt8.ofNat (v / 256 ^ (n - 1 - j))) := by
        rw [shr_u64 _ _ (by omega)]
        simp only [bv, Value.int.injEq, true_and, UInt8.toNat_ofNat']
        omega
      rw [e3, ← List.map_set]
      have e4 : (ovr l at_ ((be n v).take j)).set (at_ + j) (UInt8.ofNat (v / 256 ^ (n - 1 - j))) = ovr l at_ ((be n v).take (j + 1)) := by
        rw [List.take_add_one, hg, Option.toList_some, ← ovr_snoc (by omega), htl]
      rw [e4]
      exact hb1.set
  · have hjn : j = n := by omega
    subst hjn
    refine hK h1 hk1 ?_
    rw [List.take_of_length_le (by omega)] at hb1
    exact hb1

theorem or_u64 (x y : Nat) (hx : x < 72057594037927936) (hy : y < 256) :
    IntKind.u64.wrap ((BitVec.ofInt (IntKind.bits .u64) ((x * 256 : Nat) : Int) ||| BitVec.ofInt (IntKind.bits .u64) (y : Int)).toNat : Int) = ((x * 256 + y : Nat) : Int) := by
  have e : (BitVec.ofInt (IntKind.bits .u64) ((x * 256 : Nat) : Int) ||| BitVec.ofInt (IntKind.bits .u64) (y : Int)).toNat = x * 256 + y := by
    show (BitVec.ofInt 64 ((x * 256 : Nat) : Int) ||| BitVec.ofInt 64 (y : Int)).toNat = _
    rw [BitVec.ofInt_natCast, BitVec.ofInt_natCast, BitVec.toNat_or, BitVec.toNat_ofNat, BitVec.toNat_ofNat, Nat.mod_eq_of_lt (by omega), Nat.mod_eq_of_lt (by omega)]
    have := Nat.two_pow_add_eq_or_of_lt (i := 8) (b := y) (by omega) x
    rw [Nat.mul_comm x 256]
    exact this.symm
  rw [e, wrap_u64]; omega

theorem wal_get_c {b : Nat} {t : TypeId} {l : List UInt8} {at_ n : Nat} {K : Int → Hp → Prop} (hb : Bk h b (l.map bv) t) (hl : l.length = 128) (ha : at_ + n ≤ 128) (hn : n ≤ 8)
    (hK : K ((fld l at_ n : Nat) : Int) h) : wal_sector_get (some (nA b)) at_ n K h := by
  refine ⟨fun k v i hh => ∃ j : Nat, i = j ∧ j ≤ n ∧ k = n - j ∧ v = ((fld l at_ j : Nat) : Int) ∧ hh = h, ⟨_, 0, rfl, by omega, rfl, rfl, rfl⟩, ?_⟩
  rintro k v i h1 ⟨j, rfl, hj, rfl, rfl, rfl⟩
  refine dcd (fun hlt => ?_) (fun hge => ?_)
  · have hlt' : j < n := by omega
    have hf := fld_lt l at_ j
    have hf7 : fld l at_ j < 72057594037927936 := Nat.lt_of_lt_of_le hf (Nat.pow_le_pow_right (by omega) (show j ≤ 7 by omega))
    have hj128 : at_ + j < l.length := by omega
    have hx := (l[at_ + j]).toNat_lt
    have e1 : IntKind.u64.wrap (((fld l at_ j : Nat) : Int) * 2 ^ (min (Int.toNat 8) (IntKind.bits .u64))) = ((fld l at_ j * 256 : Nat) : Int) := by
      show IntKind.u64.wrap (((fld l at_ j : Nat) : Int) * 2 ^ 8) = _
      rw [wrap_u64]; omega
    have e2 : Int.toNat ((at_ : Int) + j) * 1 = at_ + j := by omega
    refine ⟨_, rfl, (at_ : Int) + j, Wr.i64 (by omega) (by omega), nA b, rfl, by omega, by omega, (l[at_ + j].toNat : Int), ?_, (l[at_ + j].toNat : Int), ?_, _, rfl, _, Wr.i64 (by omega) (by omega), n - (j + 1), by omega, j + 1, by omega, by omega, rfl, ?_, rfl⟩
    · rw [e2]; exact hb.rdi _ (by simp [hj128, bv])
    · unfold Wr; rw [wrap_u64]; omega
    · rw [e1, or_u64 _ _ hf7 hx, fld_succ hj128]
  · have hjn : j = n := by omega
    subst hjn
    exact hK

theorem slA_byt {b : Nat} {t : TypeId} {l : List UInt8} {lo hi : Nat} (hb : Bk h b (l.map bv) t) (hl : l.length = 128) (h1 : lo ≤ hi) (h2 : hi ≤ 128) (h3 : lo < 128) : Byt h (slA (nA b) 128 1 lo hi) ((l.drop lo).take (hi - lo)) := by
  refine ⟨?_, ?_, ?_⟩
  · simp only [slA]; simp; omega
  · simp only [slA]; omega
  · simp only [slA]
    rw [if_neg (by omega), Nat.mul_one, add_nA, Nat.zero_add]
    refine RdL.of_bk hb fun j v hj => ?_
    rw [List.getElem?_map, List.getElem?_take] at hj
    split at hj
    · rw [List.getElem?_drop] at hj; rw [List.getElem?_map]; exact hj
    · cases hj

theorem tail_byt {b : Nat} {t : TypeId} {l : List UInt8} (hb : Bk h b (l.map bv) t) (hl : l.length = 128) : Byt h (slA (nA b) 128 1 (Int.toNat (4 : Int)) (Int.toNat ((128 : Nat) : Int))) (l.drop 4) := by
  have := slA_byt hb hl (lo := 4) (hi := 128) (by omega) (by omega) (by omega)
  rwa [List.take_of_length_le (by simp; omega)] at this

theorem Wr.u64n (v : Nat) (hv : v < 18446744073709551616) : Wr .u64 (v : Int) (v : Int) := by
  unfold Wr; rw [wrap_u64]; omega
theorem Wr.u64i (v : Nat) (hv : v < 9223372036854775808) : Wr .i64 (v : Int) (v : Int) := Wr.i64 (by omega) (by omega)

theorem wal_seal_c {b : Nat} {t : TypeId} {l : List UInt8} {K : Hp → Prop} (hb : Bk h b (l.map bv) t) (hl : l.length = 128)
    (hK : ∀ h', Kp (fun x => x = b) h h' → Bk h' b ((sealL l).map bv) t → K h') : wal_sector_seal (some (nA b)) K h := by
  refine ⟨nA b, rfl, _, rfl, wal_Sum_c (tail_byt hb hl) (by simp; omega) fun h1 hk1 => ?_⟩
  have hlt := (crc (l.drop 4)).isLt
  refine ⟨((crc (l.drop 4)).toNat : Int), Wr.u64n _ (by omega), ?_⟩
  have hb1 := hb.kp hk1 fun h => h
  have := wal_put_c (at_ := 0) (n := 4) (v := (crc (l.drop 4)).toNat) (K := fun h13 => K h13) hb1 hl (by omega) (by omega) fun h2 hk2 hb2 => hK h2 ((hk1.mono fun _ _ h => h.elim).trans hk2) hb2
  exact this
theorem wal_whole_c {b : Nat} {t : TypeId} {l : List UInt8} {K : Bool → Hp → Prop} (hb : Bk h b (l.map bv) t) (hl : l.length = 128)
    (hK : ∀ h', Kp (fun _ => False) h h' → K (whole l) h') : wal_sector_whole (some (nA b)) K h := by
  refine ⟨nA b, rfl, _, rfl, ?_⟩
  refine wal_get_c (at_ := 0) (n := 4) hb hl (by omega) (by omega) (wal_Sum_c (tail_byt hb hl) (by simp; omega) fun h1 hk1 => ?_)
  have hlt := (crc (l.drop 4)).isLt
  refine ⟨((crc (l.drop 4)).toNat : Int), Wr.u64n _ (by omega), ?_⟩
  have : (((fld l 0 4 : Nat) : Int) == ((crc (l.drop 4)).toNat : Int)) = whole l := by
    unfold whole; rw [Bool.eq_iff_iff]; simp only [beq_iff_eq]; omega
  rw [this]
  exact hK h1 hk1
end
end Go.Proofs.Ythpeadoidpimmaa
