/- Sectors of the log: what the document's functions on them do. No condition. -/
import Derived.Test.YthpeadoidpimmaaGreatGRefB
import Derived.Test.YthpeadoidpimmaaGreatLogT
namespace Go.Proofs.YthpeadoidpimmaaGreat
open Go Tw
set_option linter.unusedVariables false
set_option linter.unusedSimpArgs false
set_option maxRecDepth 10000
set_option maxHeartbeats 1000000

section
variable {h : Hp}

/-- The number as the document reads it. -/
def getV (l : List UInt8) (a n : Nat) : Int := if n = 8 ∧ 18014398509481984 ≤ fld l a 7 then -1 else (fld l a n : Nat)

theorem ref3_get_c {s : Sl} {l : List UInt8} {a n : Nat} {K : Int → Hp → Prop} (hs : Byt h s l) (ha : a + n ≤ l.length) (hl : l.length ≤ 1000000) (hn : n ≤ 8) (hK : K (getV l a n) h) : ref3_get s a n K h := by
  have hsl := hs.len
  refine ⟨fun k v i hh => ∃ j : Nat, i = j ∧ j ≤ n ∧ k = n - j ∧ v = ((fld l a j : Nat) : Int) ∧ hh = h ∧ (j = 8 → fld l a 7 < 18014398509481984), ⟨_, 0, rfl, by omega, rfl, by rw [fld_zero]; rfl, rfl, by omega⟩, ?_⟩
  rintro k v i h1 ⟨j, rfl, hj, rfl, rfl, rfl, h7⟩
  refine dcd (fun hlt => ?_) (fun hge => ?_)
  · have hlt' : j < n := by omega
    have hf := fld_lt l a j
    refine dcd (fun hbig => ?_) (fun hsmall => ?_)
    · have hj7 : j = 7 := by
        rcases (show j ≤ 6 ∨ j = 7 by omega) with h | h
        · have : fld l a j < 256 ^ 6 := Nat.lt_of_lt_of_le hf (Nat.pow_le_pow_right (by omega) h)
          omega
        · exact h
      subst hj7
      have e : getV l a n = -1 := if_pos ⟨by omega, by omega⟩
      rw [e] at hK; exact hK
    · have hjl : a + j < l.length := by omega
      obtain ⟨p, hp, hr⟩ := hs.at hjl
      have hx := (l[a + j]).toNat_lt
      have e2 : Int.toNat ((a : Int) + j) * 1 = a + j := by omega
      refine ⟨((fld l a j : Nat) : Int) * 256, Wr.i64 (by omega) (by omega), (a : Int) + j, Wr.i64 (by omega) (by omega), p, hp, by omega, by omega, (l[a + j].toNat : Int), by rw [e2]; exact hr, (l[a + j].toNat : Int), Wr.i64 (by omega) (by omega), ((fld l a (j + 1) : Nat) : Int), ?_, _, Wr.i64 (by omega) (by omega), n - (j + 1), by omega, j + 1, by omega, by omega, rfl, rfl, rfl, fun h8 => ?_⟩
      · have e3 : ((fld l a (j + 1) : Nat) : Int) = ((fld l a j : Nat) : Int) * 256 + (l[a + j].toNat : Int) := by rw [fld_succ hjl]; omega
        rw [e3]; exact Wr.i64 (by omega) (by omega)
      · have : j = 7 := by omega
        subst this; omega
  · have hjn : j = n := by omega
    subst hjn
    have e : getV l a j = ((fld l a j : Nat) : Int) := if_neg fun hh => by have := h7 hh.1; omega
    rw [e] at hK; exact hK
theorem getV_lt {l : List UInt8} {a n : Nat} (h : n ≤ 7) : getV l a n = ((fld l a n : Nat) : Int) := if_neg fun hh => by omega
theorem fld_8 {l : List UInt8} {a : Nat} (h : a + 7 < l.length) : fld l a 7 * 256 ≤ fld l a 8 := by rw [fld_succ (n := 7) h]; omega

theorem ref3_right_c {s : Sl} {l : List UInt8} {K : Bool → Hp → Prop} (hs : Byt h s l) (hl : l.length = 128) (hK : K (whole l) h) : ref3_right s K h := by
  have hsl := hs.len
  have hcap := hs.cap
  refine dcb (fun _ => ?_) (fun hne => by omega)
  refine ⟨by omega, by omega, _, rfl, ref3_get_c (a := 0) (n := 4) hs (by omega) (by omega) (by omega) ?_⟩
  have hcut := Byt.cut hs (lo := 4) (hi := 128) (by omega) (by omega)
  rw [List.take_of_length_le (by simp; omega)] at hcut
  have e : (slS s 1 (Int.toNat (4 : Int)) (Int.toNat (s.len : Int))) = slS s 1 4 128 := by rw [Int.toNat_natCast, hsl, hl]; rfl
  rw [e]
  refine ref3_Sum_c hcut (by simp; omega) ?_
  have hlt := (crc (l.drop 4)).isLt
  refine ⟨((crc (l.drop 4)).toNat : Int), Wr.i64 (by omega) (by omega), ?_⟩
  rw [getV_lt (by omega)]
  have : (((fld l 0 4 : Nat) : Int) == ((crc (l.drop 4)).toNat : Int)) = whole l := by
    unfold whole; rw [Bool.eq_iff_iff]; simp only [beq_iff_eq]; omega
  rw [this]; exact hK

theorem magic_at : ∀ i : Nat, i < 8 → (⟨#[116, 114, 101, 108, 108, 105, 115, 49]⟩ : ByteArray)[i]? = some (magicL.getD i 0)
  | 0, _ => rfl | 1, _ => rfl | 2, _ => rfl | 3, _ => rfl | 4, _ => rfl | 5, _ => rfl | 6, _ => rfl | 7, _ => rfl
  | n + 8, h => by omega

theorem ref3_headOf_c {s : Sl} {l : List UInt8} {n odd : Nat} {K : Int → Int → Int → Int → Hp → Prop} (hs : Byt h s l) (hl : l.length = 128)
    (hK1 : ∀ hd, okHead l n odd = some hd → K hd.round hd.lsn hd.turn hd.floor h) (hK0 : okHead l n odd = none → K 0 0 0 0 h) : ref3_headOf s n odd K h := by
  have hsl := hs.len
  refine ref3_right_c hs hl ⟨fun hw => hK0 (okHead_none fun hh => by rw [hh.1] at hw; cases hw), fun hw => ?_⟩
  have hw' : whole l = true := by simpa using hw
  refine ref3_get_c (a := 4) (n := 4) hs (by omega) (by omega) (by omega) (ref3_get_c (a := 8) (n := 8) hs (by omega) (by omega) (by omega) (ref3_get_c (a := 16) (n := 8) hs (by omega) (by omega) (by omega) (ref3_get_c (a := 36) (n := 4) hs (by omega) (by omega) (by omega) ?_)))
  rw [getV_lt (n := 4) (by omega), getV_lt (n := 4) (by omega)]
  have q8 : ∀ a, a + 7 < 128 → (getV l a 8 = (fld l a 8 : Nat) ∨ (getV l a 8 = -1 ∧ 1099511627776 < fld l a 8)) := by
    intro a ha
    unfold getV
    split
    · rename_i hh
      have := fld_8 (l := l) (a := a) (by omega)
      exact .inr ⟨rfl, by omega⟩
    · exact .inl rfl
  have q1 := q8 8 (by omega)
  have q2 := q8 16 (by omega)
  refine ⟨fun c h2 => h2 = h ∧ c = !decide ((1 ≤ fld l 4 4 ∧ fld l 4 4 ≤ 2147483647) ∧ (1 ≤ fld l 8 8 ∧ fld l 8 8 ≤ 1099511627776) ∧ (1 ≤ fld l 16 8 ∧ fld l 16 8 ≤ 1099511627776) ∧ (1 ≤ fld l 36 4 ∧ fld l 36 4 ≤ fld l 4 4) ∧ fld l 16 8 % 2 = odd), ?_, ?_⟩
  · rintro c h2 ⟨rfl, rfl⟩
    refine ⟨fun hc => hK0 (okHead_none fun hh => ?_), fun hc => ?_⟩
    · simp only [Bool.not_eq_true', decide_eq_false_iff_not] at hc
      exact hc ⟨hh.2.2.2.1, hh.2.2.2.2.1, hh.2.2.2.2.2.1, hh.2.2.2.2.2.2.1, hh.2.2.2.2.2.2.2⟩
    have hr : (1 ≤ fld l 4 4 ∧ fld l 4 4 ≤ 2147483647) ∧ (1 ≤ fld l 8 8 ∧ fld l 8 8 ≤ 1099511627776) ∧ (1 ≤ fld l 16 8 ∧ fld l 16 8 ≤ 1099511627776) ∧ (1 ≤ fld l 36 4 ∧ fld l 36 4 ≤ fld l 4 4) ∧ fld l 16 8 % 2 = odd := by
      simpa only [Bool.not_eq_false', decide_eq_true_eq] using hc
    refine ⟨fun k i h3 => ∃ j : Nat, i = j ∧ j ≤ 8 ∧ k = 8 - j ∧ h3 = h2 ∧ ∀ q, q < j → l[24 + q]? = magicL[q]?, ⟨_, 0, rfl, by omega, rfl, rfl, fun q hq => by omega⟩, ?_⟩
    rintro k i h3 ⟨j, rfl, hj, rfl, rfl, hm⟩
    refine dcd (fun hlt => ?_) (fun hge => ?_)
    · have hj8 : j < 8 := by omega
      have hjl : 24 + j < l.length := by omega
      obtain ⟨p, hp, hrd⟩ := hs.at hjl
      have e2 : Int.toNat ((24 : Int) + j) * 1 = 24 + j := by omega
      have hmj : magicL[j]? = some (magicL.getD j 0) := by
        rw [List.getD, List.getElem?_eq_getElem (show j < magicL.length from hj8)]; rfl
      refine ⟨(24 : Int) + j, Wr.i64 (by omega) (by omega), p, hp, by omega, by omega, (l[24 + j].toNat : Int), by rw [e2]; exact hrd, ((magicL.getD j 0).toNat : Int), by omega, ⟨magicL.getD j 0, by rw [Int.toNat_natCast]; exact magic_at j hj8, rfl⟩, dcn (fun hne => hK0 (okHead_none fun hh => hne ?_)) (fun he => ?_)⟩
      · have h1 : ((l.drop 24).take 8)[j]? = magicL[j]? := by rw [hh.2.1]
        rw [List.getElem?_take, if_pos hj8, List.getElem?_drop, List.getElem?_eq_getElem hjl, hmj] at h1
        rw [Option.some.inj h1]
      · refine ⟨_, Wr.i64 (by omega) (by omega), 8 - (j + 1), by omega, j + 1, by omega, by omega, rfl, rfl, fun q hq => ?_⟩
        by_cases e : q = j
        · subst e
          rw [List.getElem?_eq_getElem hjl, hmj]
          congr 1
          exact UInt8.toNat_inj.1 (by omega)
        · exact hm q (by omega)
    · have hj8 : j = 8 := by omega
      subst hj8
      have hmm : (l.drop 24).take 8 = magicL := by
        apply List.ext_getElem?
        intro q
        rw [List.getElem?_take, List.getElem?_drop]
        by_cases hq : q < 8
        · rw [if_pos hq]; exact hm q hq
        · rw [if_neg hq, List.getElem?_eq_none (by show 8 ≤ q; omega)]
      refine ref3_get_c (a := 32) (n := 4) hs (by omega) (by omega) (by omega) ?_
      rw [getV_lt (by omega)]
      refine dcn (fun hne => hK0 (okHead_none fun hh => hne (by rw [hh.2.2.1]))) (fun he => ?_)
      have e8 : getV l 8 8 = (fld l 8 8 : Nat) := by omega
      have e16 : getV l 16 8 = (fld l 16 8 : Nat) := by omega
      rw [e8, e16]
      exact hK1 ⟨fld l 4 4, fld l 8 8, fld l 16 8, fld l 36 4⟩ (if_pos ⟨hw', hmm, by omega, hr.1, hr.2.1, hr.2.2.1, hr.2.2.2.1, hr.2.2.2.2⟩)
  · have f4 := fld_lt l 4 4
    have f36 := fld_lt l 36 4
    have no : ∀ {P : Prop} [Decidable P], ¬ P → true = !decide P := by intro P _ hP; simp [hP]
    refine dcd (fun h1 => ⟨rfl, no (by omega)⟩) (fun h1 => dcd (fun h2 => ⟨rfl, no (by omega)⟩) (fun h2 => dcd (fun h3 => ⟨rfl, no (by omega)⟩) (fun h3 => dcd (fun h4 => ⟨rfl, no (by omega)⟩) (fun h4 => dcd (fun h5 => ⟨rfl, no (by omega)⟩) (fun h5 => dcd (fun h6 => ⟨rfl, no (by omega)⟩) (fun h6 => ⟨_, rfl, ?_⟩))))))
    have e16 : getV l 16 8 = (fld l 16 8 : Nat) := by omega
    have e8 : getV l 8 8 = (fld l 8 8 : Nat) := by omega
    have et : Int.tmod (getV l 16 8) 2 = ((fld l 16 8 % 2 : Nat) : Int) := by rw [e16, Int.tmod_eq_emod_of_nonneg (by omega)]; omega
    rw [et]
    refine dcn (fun hne => ⟨rfl, no (by omega)⟩) (fun he => dcd (fun h7 => ⟨rfl, no (by omega)⟩) (fun h7 => ⟨rfl, ?_⟩))
    rw [Bool.eq_iff_iff]; simp only [decide_eq_true_eq, Bool.not_eq_true', decide_eq_false_iff_not]; omega

/-! ### Writing sectors -/
theorem ovr_pre {l d : List UInt8} {a : Nat} {x : UInt8} (h : 1 ≤ a) (hl : a + d.length ≤ l.length) : (ovr l a d).set (a - 1) x = ovr l (a - 1) (x :: d) := by
  apply List.ext_getElem?
  intro j
  have hc : (x :: d).length = d.length + 1 := rfl
  rw [List.getElem?_set, ovr_get (by omega), ovr_get (by omega), ovr_len (by omega)]
  by_cases e : a - 1 = j
  · subst e
    rw [if_pos rfl, if_pos (by omega), if_pos (by omega), Nat.sub_self]; rfl
  · rw [if_neg e]
    by_cases hj : a ≤ j ∧ j < a + d.length
    · rw [if_pos hj, if_pos (by omega)]
      have : j - (a - 1) = (j - a) + 1 := by omega
      rw [this]; rfl
    · rw [if_neg hj, if_neg (by omega)]

theorem be_drop : ∀ (n v k : Nat), k ≤ n → (be n v).drop k = be (n - k) v
  | n, v, 0, _ => rfl
  | n + 1, v, k + 1, h => by
    simp only [be, List.drop_succ_cons]
    rw [be_drop n v k (by omega)]
    congr 1; omega

def slB (b : Nat) : Sl := ⟨some (nA b), 128, 128⟩

theorem tmod256 (w : Nat) : Int.tmod (w : Int) 256 = ((w % 256 : Nat) : Int) := by
  rw [Int.tmod_eq_emod_of_nonneg (by omega)]; omega
theorem tdiv256 (w : Nat) (hw : w < 9223372036854775808) : IntKind.i64.wrap (Int.tdiv (w : Int) 256) = ((w / 256 : Nat) : Int) := by
  rw [Int.tdiv_eq_ediv_of_nonneg (by omega), wrap_i64 (by omega) (by omega)]; omega

theorem ref3_put_c {b : Nat} {t : TypeId} {l : List UInt8} {at_ n v : Nat} {K : Hp → Prop} (hb : Bk h b (l.map bv) t) (hl : l.length = 128) (ha : at_ + n ≤ 128) (hn : n ≤ 8) (hv : v < 9223372036854775808)
    (hK : ∀ h', Kp (fun x => x = b) h h' → Bk h' b ((putL l at_ n v).map bv) t → K h') : ref3_put (slB b) at_ n v K h := by
  have hbe := be_len n v
  refine ⟨(n : Int) - 1, Wr.i64 (by omega) (by omega), fun k w i hh => ∃ j : Nat, i = (n : Int) - 1 - j ∧ j ≤ n ∧ k = n - j ∧ w = ((v / 256 ^ j : Nat) : Int) ∧ Kp (fun x => x = b) h hh ∧ Bk hh b ((ovr l (at_ + (n - j)) ((be n v).drop (n - j))).map bv) t,
    ⟨_, 0, by omega, by omega, rfl, by simp, Kp.refl _ _, by rw [List.drop_of_length_le (by omega), ovr_nil]; exact hb⟩, ?_⟩
  rintro k w i h1 ⟨j, rfl, hj, rfl, rfl, hk1, hb1⟩
  refine dcd (fun hge => ?_) (fun hlt => ?_)
  · have hlt' : j < n := by omega
    have hdl : ((be n v).drop (n - j)).length = j := by simp; omega
    have hol : (ovr l (at_ + (n - j)) ((be n v).drop (n - j))).length = 128 := by rw [ovr_len (by omega)]; exact hl
    have hvj : v / 256 ^ j ≤ v := Nat.div_le_self _ _
    have e16 : Int.toNat ((at_ : Int) + ((n : Int) - 1 - j)) * 1 = at_ + (n - 1 - j) := by omega
    have etm : Int.tmod ((v / 256 ^ j : Nat) : Int) 256 = ((v / 256 ^ j % 256 : Nat) : Int) := tmod256 _
    have etd : IntKind.i64.wrap (Int.tdiv ((v / 256 ^ j : Nat) : Int) 256) = ((v / 256 ^ (j + 1) : Nat) : Int) := by
      rw [tdiv256 _ (by omega), Nat.pow_succ, ← Nat.div_div_eq_div_mul]
    refine ⟨(at_ : Int) + ((n : Int) - 1 - j), Wr.i64 (by omega) (by omega), _, rfl, ((v / 256 ^ j % 256 : Nat) : Int), ?_, nA b, rfl, by omega, by show _ < (128 : Int); omega,
      setB h1 b (Cel (((ovr l (at_ + (n - j)) ((be n v).drop (n - j))).map bv).set (at_ + (n - 1 - j)) (.int .u8 ((v / 256 ^ j % 256 : Nat) : Int))) t), ?_, _, rfl, (n : Int) - 1 - j - 1, Wr.i64 (by omega) (by omega), n - (j + 1), by omega, j + 1, by omega, by omega, rfl, etd, hk1.set _ (.inr rfl), ?_⟩
    · rw [etm]; unfold Wr; rw [wrap_u8]; omega
    · rw [e16]; exact hb1.sti _ _ (by simp; omega)
    · have e3 : (.int .u8 ((v / 256 ^ j % 256 : Nat) : Int) : Value) = bv (UInt8.ofNat (v / 256 ^ j)) := by
        simp only [bv, Value.int.injEq, true_and, UInt8.toNat_ofNat']
      have e4 : (ovr l (at_ + (n - j)) ((be n v).drop (n - j))).set (at_ + (n - 1 - j)) (UInt8.ofNat (v / 256 ^ j)) = ovr l (at_ + (n - (j + 1))) ((be n v).drop (n - (j + 1))) := by
        have h1 : (be n v).drop (n - (j + 1)) = UInt8.ofNat (v / 256 ^ j) :: (be n v).drop (n - j) := by
          rw [be_drop _ _ _ (by omega), be_drop _ _ _ (by omega)]
          have a1 : n - (n - (j + 1)) = j + 1 := by omega
          have a2 : n - (n - j) = j := by omega
          rw [a1, a2]; rfl
        have := ovr_pre (l := l) (d := (be n v).drop (n - j)) (a := at_ + (n - j)) (x := UInt8.ofNat (v / 256 ^ j)) (by omega) (by omega)
        have a3 : at_ + (n - j) - 1 = at_ + (n - 1 - j) := by omega
        have a4 : at_ + (n - (j + 1)) = at_ + (n - j) - 1 := by omega
        rw [h1, a4, ← this, a3]
      rw [e3, ← List.map_set, e4]
      exact hb1.set
  · have hjn : j = n := by omega
    subst hjn
    rw [Nat.sub_self, List.drop_zero, Nat.add_zero] at hb1
    exact hK h1 hk1 hb1

theorem slB_byt {b : Nat} {t : TypeId} {l : List UInt8} (hb : Bk h b (l.map bv) t) (hl : l.length = 128) : Byt h (slB b) l := ⟨hl.symm, Nat.le_refl _, hb.rd0⟩

theorem ref3_sealed_c {b : Nat} {t : TypeId} {l : List UInt8} {K : Sl → Hp → Prop} (hb : Bk h b (l.map bv) t) (hl : l.length = 128)
    (hK : ∀ h', Kp (fun x => x = b) h h' → Bk h' b ((sealL l).map bv) t → K (slB b) h') : ref3_sealed (slB b) K h := by
  have hs := slB_byt hb hl
  have hcut := Byt.cut hs (lo := 4) (hi := 128) (by omega) (by omega)
  rw [List.take_of_length_le (by simp; omega)] at hcut
  refine ⟨by show (4 : Int) ≤ 128; omega, by show (128 : Int) ≤ 128; omega, _, rfl, ?_⟩
  refine ref3_Sum_c (bs := l.drop 4) hcut (by simp; omega) ?_
  have hlt := (crc (l.drop 4)).isLt
  exact ⟨((crc (l.drop 4)).toNat : Int), Wr.i64 (by omega) (by omega), ref3_put_c (at_ := 0) (n := 4) hb hl (by omega) (by omega) (by omega) hK⟩

theorem ref3_headB_c {d : Hd} {n : Nat} {K : Sl → Hp → Prop} (ok : d.Ok) (hn : n < 9223372036854775808)
    (hK : ∀ b h', Kp (fun _ => False) h h' → Bk h' b ((headB n d).map bv) 5 → h.size ≤ b → K (slB b) h') : ref3_headBytes n d.round d.lsn d.turn d.floor K h := by
  unfold headB at hK
  have hb0 := Bk.new h (zr [.int .u8 0] (Int.toNat 128 * 1)) 5
  have hz : zr [.int .u8 0] (Int.toNat 128 * 1) = zeroS.map bv := zr_u8 128
  have hk0 : Kp (fun _ => False) h (h.push (Cel (zr [.int .u8 0] (Int.toNat 128 * 1)) 5)) := Kp.push (Kp.refl _ _) _
  refine ⟨by omega, by omega, by omega, _, _, _, rfl, rfl, rfl, ?_⟩
  rw [hz] at hb0 hk0 ⊢
  have esl : (⟨some (nA h.size), Int.toNat 128, Int.toNat 128⟩ : Sl) = slB h.size := rfl
  rw [esl]
  generalize h.push (Cel (zeroS.map bv) 5) = h1 at *
  generalize hq : h.size = q at *
  have up : ∀ {ha hb : Hp}, Kp (fun _ => False) h ha → Kp (fun x => x = q) ha hb → Kp (fun _ => False) h hb := fun a b => a.and b fun i hi => .inl (by omega)
  have z0 : zeroS.length = 128 := rfl
  refine ref3_put_c (at_ := 4) (n := 4) hb0 z0 (by omega) (by omega) ok.r fun h2 k2 b2 => ?_
  have z2 : (putL zeroS 4 4 d.round).length = 128 := by rw [putL_len] <;> omega
  refine ref3_put_c (at_ := 8) (n := 8) b2 z2 (by omega) (by omega) ok.l fun h3 k3 b3 => ?_
  have z3 : (putL (putL zeroS 4 4 d.round) 8 8 d.lsn).length = 128 := by rw [putL_len] <;> omega
  refine ref3_put_c (at_ := 16) (n := 8) b3 z3 (by omega) (by omega) ok.t fun h4 k4 b4 => ?_
  have z4 : (putL (putL (putL zeroS 4 4 d.round) 8 8 d.lsn) 16 8 d.turn).length = 128 := by rw [putL_len] <;> omega
  have k04 := up (up (up hk0 k2) k3) k4
  generalize hl4 : putL (putL (putL zeroS 4 4 d.round) 8 8 d.lsn) 16 8 d.turn = l4 at *
  refine ⟨fun k i hx => ∃ j : Nat, i = j ∧ j ≤ 8 ∧ k = 8 - j ∧ Kp (fun _ => False) h hx ∧ Bk hx q ((ovr l4 24 (magicL.take j)).map bv) 5, ⟨_, 0, rfl, by omega, rfl, k04, by rw [List.take_zero, ovr_nil]; exact b4⟩, ?_⟩
  rintro k i h5 ⟨j, rfl, hj, rfl, k5, b5⟩
  have hml : magicL.length = 8 := rfl
  refine dcd (fun hlt => ?_) (fun hge => ?_)
  · have hj8 : j < 8 := by omega
    have hmj : magicL[j]? = some (magicL.getD j 0) := by
      rw [List.getD, List.getElem?_eq_getElem (show j < magicL.length from hj8)]; rfl
    have htl : (magicL.take j).length = j := by simp; omega
    have z5 : (ovr l4 24 (magicL.take j)).length = 128 := by rw [ovr_len (by omega)]; exact z4
    have e2 : Int.toNat ((24 : Int) + j) * 1 = 24 + j := by omega
    refine ⟨(24 : Int) + j, Wr.i64 (by omega) (by omega), ((magicL.getD j 0).toNat : Int), by omega, ⟨magicL.getD j 0, by rw [Int.toNat_natCast]; exact magic_at j hj8, rfl⟩, nA q, rfl, by omega, by show _ < (128 : Int); omega,
      setB h5 q (Cel (((ovr l4 24 (magicL.take j)).map bv).set (24 + j) (bv (magicL.getD j 0))) 5), ?_, _, Wr.i64 (by omega) (by omega), 8 - (j + 1), by omega, j + 1, by omega, by omega, rfl, k5.set _ (.inl (by omega)), ?_⟩
    · rw [e2]; exact b5.sti _ _ (by simp; omega)
    · rw [← List.map_set]
      have e4 : (ovr l4 24 (magicL.take j)).set (24 + j) (magicL.getD j 0) = ovr l4 24 (magicL.take (j + 1)) := by
        rw [List.take_add_one, hmj, Option.toList_some, ← ovr_snoc (by omega), htl]
      rw [e4]; exact b5.set
  · have hj8 : j = 8 := by omega
    subst hj8
    have e8 : magicL.take 8 = magicL := rfl
    rw [e8] at b5
    have z5 : (ovr l4 24 magicL).length = 128 := by rw [ovr_len (by rw [z4]; decide)]; exact z4
    refine ref3_put_c (at_ := 32) (n := 4) b5 z5 (by omega) (by omega) hn fun h6 k6 b6 => ?_
    have z6 : (putL (ovr l4 24 magicL) 32 4 n).length = 128 := by rw [putL_len] <;> omega
    refine ref3_put_c (at_ := 36) (n := 4) b6 z6 (by omega) (by omega) ok.f fun h7 k7 b7 => ?_
    have z7 : (putL (putL (ovr l4 24 magicL) 32 4 n) 36 4 d.floor).length = 128 := by rw [putL_len] <;> omega
    refine ref3_sealed_c b7 z7 fun h8 k8 b8 => hK q h8 (up (up (up k5 k6) k7) k8) ?_ (by omega)
    exact b8

/-! ### A record's sectors -/
theorem ref3_Need_n {k : Nat} {K : Int → Hp → Prop} (hk : k ≤ 32768) (hK : K ((needN k : Nat) : Int) h) : ref3_Need k K h := by
  refine ref3_Need_c ?_
  rw [need_nat k hk]; exact hK

/-- May the sector begin a record? -/
def FirstOk (l : List UInt8) (p low high room : Nat) (mk : Mk) : Prop :=
  okMark l = some mk ∧ mk.lsn = p ∧ mk.part = 0 ∧ low ≤ mk.round ∧ mk.round ≤ high ∧ needN mk.len ≤ room ∧ p + needN mk.len - 1 ≤ 1099511627776

theorem okMark_iff {l : List UInt8} {mk : Mk} (h : okMark l = some mk) : whole l = true ∧ fld l 17 1 = 0 ∧ mk = ⟨fld l 4 4, fld l 8 8, fld l 16 1, fld l 18 2, fld l 20 4⟩ := by
  unfold okMark at h
  split at h
  · rename_i hh; cases h; exact ⟨hh.1, hh.2.1, rfl⟩
  · cases h
theorem okMark_mk {l : List UInt8} (h : whole l = true ∧ fld l 17 1 = 0 ∧ fld l 16 1 ≠ 0 ∧ fld l 8 8 ≤ 1099511627776 ∧ fld l 4 4 ≤ 2147483647 ∧ fld l 20 4 ≤ 32768) : okMark l = some ⟨fld l 4 4, fld l 8 8, fld l 16 1, fld l 18 2, fld l 20 4⟩ := if_pos h

theorem ref3_further_c {s1 s2 : Sl} {l a : List UInt8} {p i : Nat} {mk : Mk} {K : Bool → Hp → Prop} (h1 : Byt h s1 l) (h2 : Byt h s2 a) (hl : l.length = 128) (hal : a.length = 128) (hmk : okMark a = some mk) (hp : 1 ≤ p) (hpi : p + i ≤ 1099511627776)
    (hK : K (okMark l == some ⟨mk.round, p + i, mk.kind, i, mk.len⟩) h) : ref3_further s1 s2 p i K h := by
  obtain ⟨w1, w2, rfl⟩ := okMark_iff hmk
  have hmo := okMark_some hmk
  have s1l := h1.len
  have s2l := h2.len
  simp only at hmo hK
  have fa16 : fld a 16 1 = (a[16]'(by omega)).toNat := fld_one (by omega)
  have fl16 : fld l 16 1 = (l[16]'(by omega)).toNat := fld_one (by omega)
  have fl17 : fld l 17 1 = (l[17]'(by omega)).toNat := fld_one (by omega)
  obtain ⟨p1, hp1, r16⟩ := h1.at (i := 16) (by omega)
  obtain ⟨p1', hp1', r17⟩ := h1.at (i := 17) (by omega)
  rw [hp1] at hp1'; cases hp1'
  obtain ⟨p2, hp2, q16⟩ := h2.at (i := 16) (by omega)
  have good : (okMark l == some ⟨fld a 4 4, p + i, fld a 16 1, i, fld a 20 4⟩) = decide (whole l = true ∧ fld l 4 4 = fld a 4 4 ∧ getV l 8 8 = ((p + i : Nat) : Int) ∧ fld l 16 1 = fld a 16 1 ∧ fld l 17 1 = 0 ∧ fld l 18 2 = i ∧ fld l 20 4 = fld a 20 4) := by
    have e8 : getV l 8 8 = ((p + i : Nat) : Int) ↔ fld l 8 8 = p + i := by
      unfold getV
      split
      · rename_i hh
        have := fld_8 (l := l) (a := 8) (by omega)
        constructor
        · intro h; omega
        · intro h; omega
      · omega
    rw [Bool.eq_iff_iff, beq_iff_eq, decide_eq_true_eq]
    constructor
    · intro he
      obtain ⟨x1, x2, x3⟩ := okMark_iff he
      simp only [Mk.mk.injEq] at x3
      exact ⟨x1, x3.1.symm, e8.2 x3.2.1.symm, x3.2.2.1.symm, x2, x3.2.2.2.1.symm, x3.2.2.2.2.symm⟩
    · rintro ⟨y1, y2, y3, y4, y5, y6, y7⟩
      have y3' := e8.1 y3
      have := okMark_mk (l := l) ⟨y1, y5, by rw [y4]; exact hmo.2.2.2.1, by omega, by omega, by omega⟩
      rw [this, y2, y3', y4, y6, y7]
  rw [good] at hK
  have bad : ∀ {P : Prop} [Decidable P], ¬ P → (decide P = false) := fun hP => decide_eq_false hP
  refine ⟨fun c hx => hx = h ∧ c = !decide (whole l = true ∧ fld l 4 4 = fld a 4 4 ∧ getV l 8 8 = ((p + i : Nat) : Int)), ?_, ?_⟩
  · rintro c hx ⟨rfl, rfl⟩
    refine ⟨fun hc => ?_, fun hc => ?_⟩
    · simp only [Bool.not_eq_true', decide_eq_false_iff_not] at hc
      rw [decide_eq_false (fun hh => hc ⟨hh.1, hh.2.1, hh.2.2.1⟩)] at hK; exact hK
    have hc' : whole l = true ∧ fld l 4 4 = fld a 4 4 ∧ getV l 8 8 = ((p + i : Nat) : Int) := by simpa only [Bool.not_eq_false', decide_eq_true_eq] using hc
    refine ⟨p1, hp1, by omega, (l[16].toNat : Int), r16, p2, hp2, by omega, (a[16].toNat : Int), q16, dcb (fun he => ⟨by omega, (l[17].toNat : Int), r17, dcb (fun h17 => ?_) (fun h17 => ?_)⟩) (fun hne => ?_)⟩
    · refine ref3_get_c (a := 18) (n := 2) h1 (by omega) (by omega) (by omega) ?_
      rw [getV_lt (by omega)]
      refine dcb (fun h18 => ?_) (fun h18 => ?_)
      · refine ref3_get_c (a := 20) (n := 4) h1 (by omega) (by omega) (by omega) (ref3_get_c (a := 20) (n := 4) h2 (by omega) (by omega) (by omega) ?_)
        rw [getV_lt (by omega), getV_lt (by omega)]
        have : (((fld l 20 4 : Nat) : Int) == ((fld a 20 4 : Nat) : Int)) = decide (whole l = true ∧ fld l 4 4 = fld a 4 4 ∧ getV l 8 8 = ((p + i : Nat) : Int) ∧ fld l 16 1 = fld a 16 1 ∧ fld l 17 1 = 0 ∧ fld l 18 2 = i ∧ fld l 20 4 = fld a 20 4) := by
          rw [Bool.eq_iff_iff, beq_iff_eq, decide_eq_true_eq]
          exact ⟨fun h => ⟨hc'.1, hc'.2.1, hc'.2.2, by omega, by omega, by omega, by omega⟩, fun h => by have := h.2.2.2.2.2.2; omega⟩
        rw [this]; exact hK
      · rw [decide_eq_false (fun hh => h18 (by have := hh.2.2.2.2.2.1; omega))] at hK; exact hK
    · rw [decide_eq_false (fun hh => h17 (by have := hh.2.2.2.2.1; omega))] at hK; exact hK
    · rw [decide_eq_false (fun hh => hne (by have := hh.2.2.2.1; omega))] at hK; exact hK
  · refine ref3_right_c h1 hl ⟨fun hw => ⟨rfl, ?_⟩, fun hw => ?_⟩
    · have : whole l = false := by simpa using hw
      simp [this]
    have hw' : whole l = true := by simpa using hw
    refine ref3_get_c (a := 4) (n := 4) h1 (by omega) (by omega) (by omega) (ref3_get_c (a := 4) (n := 4) h2 (by omega) (by omega) (by omega) ?_)
    rw [getV_lt (by omega), getV_lt (by omega)]
    refine dcn (fun hne => ⟨rfl, ?_⟩) (fun he => ?_)
    · symm; simp only [Bool.not_eq_true', decide_eq_false_iff_not]; intro hh; exact hne (by rw [hh.2.1])
    · refine ref3_get_c (a := 8) (n := 8) h1 (by omega) (by omega) (by omega) ⟨((p + i : Nat) : Int), ?_, rfl, ?_⟩
      · have : ((p + i : Nat) : Int) = (p : Int) + i := by omega
        rw [this]; exact Wr.i64 (by omega) (by omega)
      · rw [Bool.eq_iff_iff]; simp only [bne_iff_ne, ne_eq, Bool.not_eq_true', decide_eq_false_iff_not]
        exact ⟨fun h1 h2 => h1 h2.2.2, fun h1 h2 => h1 ⟨hw', by omega, h2⟩⟩
end
end Go.Proofs.YthpeadoidpimmaaGreat
