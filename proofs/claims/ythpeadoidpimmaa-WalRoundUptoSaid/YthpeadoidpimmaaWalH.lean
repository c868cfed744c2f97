/- Heads and marks of the log: what the program's functions on them do. No condition. -/
import Derived.Test.YthpeadoidpimmaaWalA
import Derived.Test.YthpeadoidpimmaaLawE
namespace Go.Proofs.Ythpeadoidpimmaa
open Go Tw
set_option linter.unusedVariables false
set_option linter.unusedSimpArgs false
set_option maxRecDepth 10000
set_option maxHeartbeats 1000000

section
variable {h : Hp}

theorem wal_inside_c {v most : Int} {K : Bool → Hp → Prop} (hK : K (decide (1 ≤ v ∧ v ≤ most)) h) : wal_inside v most K h := by
  refine dcd (fun h1 => ?_) (fun h1 => ?_)
  · have : decide (v ≤ most) = decide (1 ≤ v ∧ v ≤ most) := by rw [Bool.eq_iff_iff]; simp; omega
    rw [this]; exact hK
  · have : false = decide (1 ≤ v ∧ v ≤ most) := by symm; simp; omega
    rw [this]; exact hK

def hdC (d : Hd) : List Value := [.int .i64 d.round, .int .i64 d.lsn, .int .i64 d.turn, .int .i64 d.floor]

theorem wal_side_c {d : Hd} {K : Int → Hp → Prop} (hK : ∀ h', Kp (fun _ => False) h h' → K ((d.turn % 2 : Nat) : Int) h') : wal_lead_side d.round d.lsn d.turn d.floor K h := by
  have hb := Bk.new h (hdC d) 170
  have e : ((((d.turn : Int) % 2).toNat : Nat) : Int) = ((d.turn % 2 : Nat) : Int) := by omega
  refine ⟨_, _, rfl, rfl, _, hb.rdi 2 rfl, _, rfl, ?_⟩
  rw [and1_i64, e]
  exact hK _ (Kp.push (Kp.refl _ _) _)

theorem wal_headB_c {d : Hd} {n : Nat} {K : List UInt8 → Hp → Prop} (ok : d.Ok) (hn : n < 9223372036854775808) (hK : ∀ h', Kp (fun _ => False) h h' → K (headB n d) h') : wal_lead_bytes d.round d.lsn d.turn d.floor n K h := by
  unfold headB at hK
  have hb1 := Bk.new h (hdC d) 170
  have k1 : Kp (fun _ => False) h (h.push (Cel (hdC d) 170)) := Kp.push (Kp.refl _ _) _
  refine ⟨_, _, rfl, rfl, ?_⟩
  have e1 : (h.push (Cel [.int .i64 d.round, .int .i64 d.lsn, .int .i64 d.turn, .int .i64 d.floor] 170)) = h.push (Cel (hdC d) 170) := rfl
  rw [e1]
  have s1 : (h.push (Cel (hdC d) 170)).size = h.size + 1 := by simp
  generalize h.push (Cel (hdC d) 170) = h1 at *
  have hb2 := Bk.new h1 (zeroS.map bv) 178
  have s2 : (h1.push (Cel (zeroS.map bv) 178)).size = h1.size + 1 := by simp
  have k2 : Kp (fun _ => False) h (h1.push (Cel (zeroS.map bv) 178)) := Kp.push k1 _
  have hb12 := hb1.push (Cel (zeroS.map bv) 178)
  refine ⟨_, _, rfl, rfl, ?_⟩
  have e2 : (h1.push (Cel ((List.replicate 128 (0 : UInt8)).map bv) 178)) = h1.push (Cel (zeroS.map bv) 178) := rfl
  rw [e2]
  generalize h1.push (Cel (zeroS.map bv) 178) = h2 at *
  have hb3 := Bk.new h2 (zeroS.map bv) 178
  have k3 : Kp (fun _ => False) h (h2.push (Cel (zeroS.map bv) 178)) := Kp.push k2 _
  have hb13 := hb12.push (Cel (zeroS.map bv) 178)
  have hb23 := hb2.push (Cel (zeroS.map bv) 178)
  refine ⟨_, _, rfl, rfl, ?_⟩
  have e3 : (h2.push (Cel ((List.replicate 128 (0 : UInt8)).map bv) 178)) = h2.push (Cel (zeroS.map bv) 178) := rfl
  rw [e3]
  generalize h2.push (Cel (zeroS.map bv) 178) = h3 at *
  generalize hq1 : h.size = q1 at *
  generalize hq2 : h1.size = q2 at *
  generalize hq3 : h2.size = q3 at *
  have n1 : q1 ≠ q3 := by omega
  have n2 : q2 ≠ q3 := by omega
  have hz : zeroS.length = 128 := rfl
  have up : ∀ {ha hb : Hp}, Kp (fun _ => False) h ha → Kp (fun x => x = q3) ha hb → Kp (fun _ => False) h hb := fun a b => a.and b fun i hi => .inl (by omega)
  refine ⟨d.round, hb13.rdi 0 rfl, d.round, Wr.u64n _ (by have := ok.r; omega), ?_⟩
  refine wal_put_c (at_ := 4) (n := 4) hb3 hz (by omega) (by omega) fun h4 k4 hb4 => ?_
  have z4 : (putL zeroS 4 4 d.round).length = 128 := by rw [putL_len] <;> omega
  have hb14 := hb13.kp k4 n1
  have hb24 := hb23.kp k4 n2
  refine ⟨d.lsn, hb14.rdi 1 rfl, d.lsn, Wr.u64n _ (by have := ok.l; omega), ?_⟩
  refine wal_put_c (at_ := 8) (n := 8) hb4 z4 (by omega) (by omega) fun h5 k5 hb5 => ?_
  have z5 : (putL (putL zeroS 4 4 d.round) 8 8 d.lsn).length = 128 := by rw [putL_len] <;> omega
  have hb15 := hb14.kp k5 n1
  have hb25 := hb24.kp k5 n2
  refine ⟨d.turn, hb15.rdi 2 rfl, d.turn, Wr.u64n _ (by have := ok.t; omega), ?_⟩
  refine wal_put_c (at_ := 16) (n := 8) hb5 z5 (by omega) (by omega) fun h6 k6 hb6 => ?_
  have z6 : (putL (putL (putL zeroS 4 4 d.round) 8 8 d.lsn) 16 8 d.turn).length = 128 := by rw [putL_len] <;> omega
  have hb16 := hb15.kp k6 n1
  have hb26 := hb25.kp k6 n2
  have k36 := up (up (up k3 k4) k5) k6
  generalize putL (putL (putL zeroS 4 4 d.round) 8 8 d.lsn) 16 8 d.turn = l6 at *
  have hst := hb6.st (i := 24) (vs := magicL.map bv) (by simp [z6, magicL])
  have k7 : Kp (fun x => x = q3) h6 (setB h6 q3 (Cel (splice (l6.map bv) 24 (magicL.map bv)) 178)) := Kp.set (F := fun x => x = q3) (Kp.refl _ _) _ (.inr rfl)
  have hb7 : Bk (setB h6 q3 (Cel (splice (l6.map bv) 24 (magicL.map bv)) 178)) q3 ((ovr l6 24 magicL).map bv) 178 := by rw [ovr_map]; exact hb6.set
  have hb17 := hb16.kp k7 n1
  have hb27 := hb26.kp k7 n2
  refine ⟨_, rfl, setB h6 q3 (Cel (splice (l6.map bv) 24 (magicL.map bv)) 178), 8, ?_, rfl, n, Wr.u64n _ (by omega), ?_⟩
  · show StL h6 (((nA q3).add 24).add 0) (magicL.map bv) _
    rw [add_zero', add_nA, Nat.zero_add]; exact hst
  have z7 : (ovr l6 24 magicL).length = 128 := by rw [ovr_len (by rw [z6]; decide)]; exact z6
  generalize setB h6 q3 (Cel (splice (l6.map bv) 24 (magicL.map bv)) 178) = h7 at *
  refine wal_put_c (at_ := 32) (n := 4) hb7 z7 (by omega) (by omega) fun h8 k8 hb8 => ?_
  have z8 : (putL (ovr l6 24 magicL) 32 4 n).length = 128 := by rw [putL_len] <;> omega
  have hb18 := hb17.kp k8 n1
  have hb28 := hb27.kp k8 n2
  refine ⟨d.floor, hb18.rdi 3 rfl, d.floor, Wr.u64n _ (by have := ok.f; omega), ?_⟩
  refine wal_put_c (at_ := 36) (n := 4) hb8 z8 (by omega) (by omega) fun h9 k9 hb9 => ?_
  have z9 : (putL (putL (ovr l6 24 magicL) 32 4 n) 36 4 d.floor).length = 128 := by rw [putL_len] <;> omega
  have hb29 := hb28.kp k9 n2
  refine wal_seal_c hb9 z9 fun h10 k10 hb10 => ?_
  have hb210 := hb29.kp k10 n2
  have z10 : (sealL (putL (putL (ovr l6 24 magicL) 32 4 n) 36 4 d.floor)).length = 128 := by rw [sealL_len] <;> omega
  have k11 : Kp (fun x => x = q2) h10 (setB h10 q2 (Cel ((sealL (putL (putL (ovr l6 24 magicL) 32 4 n) 36 4 d.floor)).map bv) 178)) := Kp.set (F := fun x => x = q2) (Kp.refl _ _) _ (.inr rfl)
  refine ⟨_, z10, hb10.rd0, _, z10, hb210.st0 (by simp [z10, hz]), _, z10, hb210.set.rd0, ?_⟩
  have kk := (up (up (up (up k36 k7) k8) k9) k10).and k11 fun i hi => .inl (by omega)
  exact hK _ kk

theorem okHead_none {l : List UInt8} {n side : Nat} (h : ¬ (whole l = true ∧ (l.drop 24).take 8 = magicL ∧ fld l 32 4 = n ∧ (1 ≤ fld l 4 4 ∧ fld l 4 4 ≤ 2147483647) ∧ (1 ≤ fld l 8 8 ∧ fld l 8 8 ≤ 1099511627776) ∧
      (1 ≤ fld l 16 8 ∧ fld l 16 8 ≤ 1099511627776) ∧ (1 ≤ fld l 36 4 ∧ fld l 36 4 ≤ fld l 4 4) ∧ fld l 16 8 % 2 = side)) : okHead l n side = none := if_neg h

theorem wal_readLead_c {b : Nat} {t : TypeId} {l : List UInt8} {n side : Nat} {K : Int → Int → Int → Int → Bool → Hp → Prop} (hb : Bk h b (l.map bv) t) (hl : l.length = 128) (hn : n < 9223372036854775808)
    (hK1 : ∀ hd h', okHead l n side = some hd → Kp (fun _ => False) h h' → K hd.round hd.lsn hd.turn hd.floor true h')
    (hK0 : okHead l n side = none → ∀ x y z w h', Kp (fun _ => False) h h' → K x y z w false h') : wal_readLead (some (nA b)) n side K h := by
  have hq := Bk.new h [.int .i64 0, .int .i64 0, .int .i64 0, .int .i64 0] 170
  have hk1 : Kp (fun _ => False) h (h.push (Cel [.int .i64 0, .int .i64 0, .int .i64 0, .int .i64 0] 170)) := Kp.push (Kp.refl _ _) _
  have hb1 := hb.push (Cel [.int .i64 0, .int .i64 0, .int .i64 0, .int .i64 0] 170)
  refine ⟨_, _, rfl, rfl, ?_⟩
  generalize h.push (Cel [.int .i64 0, .int .i64 0, .int .i64 0, .int .i64 0] 170) = h1 at *
  generalize hqq : h.size = q at *
  have b4 := fld_lt l 4 4
  have b8 := fld_lt l 8 8
  have b16 := fld_lt l 16 8
  have b36 := fld_lt l 36 4
  refine wal_get_c (at_ := 4) (n := 4) hb1 hl (by omega) (by omega) (wal_get_c (at_ := 8) (n := 8) hb1 hl (by omega) (by omega) (wal_get_c (at_ := 16) (n := 8) hb1 hl (by omega) (by omega) (wal_get_c (at_ := 36) (n := 4) hb1 hl (by omega) (by omega) ?_)))
  have zero : okHead l n side = none → ∀ h2, Kp (fun _ => False) h1 h2 → ∃ h23 : Hp, StL h2 (nA q) [.int .i64 0, .int .i64 0, .int .i64 0, .int .i64 0] h23 ∧ ∃ (n25 : Int) (n26 : Int) (n27 : Int) (n28 : Int), RdL h23 (nA q) [.int .i64 n25, .int .i64 n26, .int .i64 n27, .int .i64 n28] ∧ K n25 n26 n27 n28 false h23 := by
    intro hno h2 k2
    have hq2 := hq.kp k2 fun h => h
    refine ⟨_, hq2.st0 rfl, 0, 0, 0, 0, hq2.set.rd0, hK0 hno _ _ _ _ _ ?_⟩
    exact (hk1.trans k2).set _ (.inl (by omega))
  refine ⟨fun c h2 => Kp (fun _ => False) h1 h2 ∧ c = !decide (whole l = true ∧ (l.drop 24).take 8 = magicL ∧ fld l 32 4 = n), ?_, ?_⟩
  · rintro c h2 ⟨k2, rfl⟩
    refine ⟨fun hc => zero (okHead_none fun hh => ?_) h2 k2, fun hc => ?_⟩
    · simp only [Bool.not_eq_true', decide_eq_false_iff_not] at hc
      exact hc ⟨hh.1, hh.2.1, hh.2.2.1⟩
    have hw : whole l = true ∧ (l.drop 24).take 8 = magicL ∧ fld l 32 4 = n := by simpa using hc
    refine ⟨fun c h3 => h3 = h2 ∧ c = !decide ((1 ≤ fld l 4 4 ∧ fld l 4 4 ≤ 2147483647) ∧ (1 ≤ fld l 8 8 ∧ fld l 8 8 ≤ 1099511627776) ∧ (1 ≤ fld l 16 8 ∧ fld l 16 8 ≤ 1099511627776) ∧ (1 ≤ fld l 36 4 ∧ fld l 36 4 ≤ fld l 4 4)), ?_, ?_⟩
    · rintro c h3 ⟨rfl, rfl⟩
      refine ⟨fun hc => zero (okHead_none fun hh => ?_) h3 k2, fun hc => ?_⟩
      · simp only [Bool.not_eq_true', decide_eq_false_iff_not] at hc
        exact hc ⟨hh.2.2.2.1, hh.2.2.2.2.1, hh.2.2.2.2.2.1, hh.2.2.2.2.2.2.1⟩
      have hr : (1 ≤ fld l 4 4 ∧ fld l 4 4 ≤ 2147483647) ∧ (1 ≤ fld l 8 8 ∧ fld l 8 8 ≤ 1099511627776) ∧ (1 ≤ fld l 16 8 ∧ fld l 16 8 ≤ 1099511627776) ∧ (1 ≤ fld l 36 4 ∧ fld l 36 4 ≤ fld l 4 4) := by
        simpa only [Bool.not_eq_false', decide_eq_true_eq] using hc
      have hq2 := hq.kp k2 fun h => h
      have hp := Bk.new h3 [.int .i64 0, .int .i64 0, .int .i64 0, .int .i64 0] 170
      have hqp := hq2.push (Cel [.int .i64 0, .int .i64 0, .int .i64 0, .int .i64 0] 170)
      have hsz := hk1.size
      have hsz2 := k2.size
      have hqlt := hq.lt
      refine ⟨_, Wr.u64i _ (by omega), _, Wr.u64i _ (by omega), _, Wr.u64i _ (by omega), _, Wr.u64i _ (by omega), _, _, rfl, rfl, _, hp.st0 (vs := hdC ⟨fld l 4 4, fld l 8 8, fld l 16 8, fld l 36 4⟩) rfl, _, _, _, _, hp.set.rd0, _, _, _, _, hp.set.rd0, ?_⟩
      have hqs : Bk (setB (h3.push (Cel [.int .i64 0, .int .i64 0, .int .i64 0, .int .i64 0] 170)) h3.size (Cel (hdC ⟨fld l 4 4, fld l 8 8, fld l 16 8, fld l 36 4⟩) 170)) q [.int .i64 0, .int .i64 0, .int .i64 0, .int .i64 0] 170 := hqp.set_ne (by omega)
      have kks : Kp (fun _ => False) h (setB (h3.push (Cel [.int .i64 0, .int .i64 0, .int .i64 0, .int .i64 0] 170)) h3.size (Cel (hdC ⟨fld l 4 4, fld l 8 8, fld l 16 8, fld l 36 4⟩) 170)) := ((hk1.trans k2).push _).set _ (.inl (by omega))
      have hps : Bk (setB (h3.push (Cel [.int .i64 0, .int .i64 0, .int .i64 0, .int .i64 0] 170)) h3.size (Cel (hdC ⟨fld l 4 4, fld l 8 8, fld l 16 8, fld l 36 4⟩) 170)) h3.size (hdC ⟨fld l 4 4, fld l 8 8, fld l 16 8, fld l 36 4⟩) 170 := hp.set
      generalize setB (h3.push (Cel [.int .i64 0, .int .i64 0, .int .i64 0, .int .i64 0] 170)) h3.size (Cel (hdC ⟨fld l 4 4, fld l 8 8, fld l 16 8, fld l 36 4⟩) 170) = h4 at *
      refine wal_side_c (d := ⟨fld l 4 4, fld l 8 8, fld l 16 8, fld l 36 4⟩) fun h5 k5 => ?_
      have hq5 := hqs.kp k5 fun h => h
      have hp5 := hps.kp k5 fun h => h
      refine ⟨hp5.rd0, _, hq5.st0 (vs := hdC ⟨fld l 4 4, fld l 8 8, fld l 16 8, fld l 36 4⟩) rfl, _, _, _, _, hq5.set.rd0, ?_⟩
      have kk5 : Kp (fun _ => False) h (setB h5 q (Cel (hdC ⟨fld l 4 4, fld l 8 8, fld l 16 8, fld l 36 4⟩) 170)) := (kks.trans k5).set _ (.inl (by omega))
      by_cases hs : fld l 16 8 % 2 = side
      · have : ((((⟨fld l 4 4, fld l 8 8, fld l 16 8, fld l 36 4⟩ : Hd).turn % 2 : Nat) : Int) == (side : Int)) = true := by simp; omega
        rw [this]
        exact hK1 ⟨fld l 4 4, fld l 8 8, fld l 16 8, fld l 36 4⟩ _ (if_pos ⟨hw.1, hw.2.1, hw.2.2, hr.1, hr.2.1, hr.2.2.1, hr.2.2.2, hs⟩) kk5
      · have : ((((⟨fld l 4 4, fld l 8 8, fld l 16 8, fld l 36 4⟩ : Hd).turn % 2 : Nat) : Int) == (side : Int)) = false := by simp; omega
        rw [this]
        exact hK0 (okHead_none fun hh => hs hh.2.2.2.2.2.2.2) _ _ _ _ _ kk5
    · refine wal_inside_c ⟨fun hc => ⟨rfl, ?_⟩, fun hc => wal_inside_c ⟨fun hc2 => ⟨rfl, ?_⟩, fun hc2 => wal_inside_c ⟨fun hc3 => ⟨rfl, ?_⟩, fun hc3 => wal_inside_c ⟨rfl, ?_⟩⟩⟩⟩
      · simp only [Bool.not_eq_true', decide_eq_false_iff_not] at hc
        symm; simp only [Bool.not_eq_true', decide_eq_false_iff_not]; omega
      · simp only [Bool.not_eq_true', decide_eq_false_iff_not] at hc2
        symm; simp only [Bool.not_eq_true', decide_eq_false_iff_not]; omega
      · simp only [Bool.not_eq_true', decide_eq_false_iff_not] at hc3
        symm; simp only [Bool.not_eq_true', decide_eq_false_iff_not]; omega
      · simp only [Bool.not_eq_false', decide_eq_true_eq] at hc hc2 hc3
        congr 1
        rw [Bool.eq_iff_iff]; simp only [decide_eq_true_eq]; omega
  · refine wal_whole_c hb1 hl fun h2 k2 => ⟨fun hc => ⟨k2, ?_⟩, fun hc => ?_⟩
    · have : whole l = false := by simpa using hc
      symm; simp [this]
    have hw : whole l = true := by simpa using hc
    have hb2 := hb1.kp k2 fun h => h
    have hby := slA_byt hb2 hl (lo := 24) (hi := 32) (by omega) (by omega) (by omega)
    refine ⟨nA b, rfl, _, rfl, (l.drop 24).take 8, Byt.rds hby, ?_⟩
    have hm : ((⟨((l.drop 24).take 8).toArray⟩ : ByteArray).toList == (⟨#[116, 114, 101, 108, 108, 105, 115, 49]⟩ : ByteArray).toList) = decide ((l.drop 24).take 8 = magicL) := by
      rw [Bool.eq_iff_iff, beq_iff_eq, decide_eq_true_eq, ByteArray.toList_eq, ByteArray.toList_eq]
      exact Iff.rfl
    rw [hm]
    refine ⟨fun hc2 => ⟨k2, ?_⟩, fun hc2 => ?_⟩
    · have : ¬ (l.drop 24).take 8 = magicL := by simpa using hc2
      symm; simp [this]
    have hmm : (l.drop 24).take 8 = magicL := by simpa using hc2
    refine wal_get_c (at_ := 32) (n := 4) hb2 hl (by omega) (by omega) ⟨n, Wr.u64n _ (by omega), k2, ?_⟩
    rw [Bool.eq_iff_iff]; simp [hw, hmm]; omega
end
end Go.Proofs.Ythpeadoidpimmaa
