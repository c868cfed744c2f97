/- Marks, places, reading a sector, the head that holds: what the program's functions do. No condition. -/
import Derived.Test.YthpeadoidpimmaaWalH
namespace Go.Proofs.Ythpeadoidpimmaa
open Go Tw
set_option linter.unusedVariables false
set_option linter.unusedSimpArgs false
set_option maxRecDepth 10000
set_option maxHeartbeats 1000000

section
variable {h : Hp}

def mkC (m : Mk) : List Value := [.int .i64 m.round, .int .i64 m.lsn, .int .u8 m.kind, .int .i64 m.part, .int .i64 m.len]

theorem wal_markB_c {m : Mk} {sx : Sl} {data : List UInt8} {K : List UInt8 → Hp → Prop} (h1 : m.round < 9223372036854775808) (h2 : m.lsn < 9223372036854775808) (h3 : m.kind < 256) (h4 : m.part < 9223372036854775808) (h5 : m.len < 9223372036854775808)
    (hx : Byt h sx data) (hd : data.length ≤ 104) (hK : ∀ h', Kp (fun _ => False) h h' → K (markB m data) h') : wal_mark_bytes m.round m.lsn m.kind m.part m.len sx K h := by
  unfold markB at hK
  have hb1 := Bk.new h (mkC m) 177
  have k1 : Kp (fun _ => False) h (h.push (Cel (mkC m) 177)) := Kp.push (Kp.refl _ _) _
  refine ⟨_, _, rfl, rfl, ?_⟩
  have e1 : (h.push (Cel [.int .i64 m.round, .int .i64 m.lsn, .int .u8 m.kind, .int .i64 m.part, .int .i64 m.len] 177)) = h.push (Cel (mkC m) 177) := rfl
  rw [e1]
  have s1 : (h.push (Cel (mkC m) 177)).size = h.size + 1 := by simp
  generalize hh1 : h.push (Cel (mkC m) 177) = h1 at *
  have hb2 := Bk.new h1 (zeroS.map bv) 178
  have s2 : (h1.push (Cel (zeroS.map bv) 178)).size = h1.size + 1 := by simp
  have k2 : Kp (fun _ => False) h (h1.push (Cel (zeroS.map bv) 178)) := Kp.push k1 _
  have hb12 := hb1.push (Cel (zeroS.map bv) 178)
  refine ⟨_, _, rfl, rfl, ?_⟩
  have e2 : (h1.push (Cel ((List.replicate 128 (0 : UInt8)).map bv) 178)) = h1.push (Cel (zeroS.map bv) 178) := rfl
  rw [e2]
  generalize h1.push (Cel (zeroS.map bv) 178) = h2 at *
  have hb3 := Bk.new h2 (zeroS.map bv) 178
  have k3 : Kp (fun _ => False) h (h2.push (Cel (zeroS.map bv) 178)) := Kp.push k2 _
  have hb13 := hb12.push (Cel (zeroS.map bv) 178)
  have hb23 := hb2.push (Cel (zeroS.map bv) 178)
  refine ⟨_, _, rfl, rfl, ?_⟩
  have e3 : (h2.push (Cel ((List.replicate 128 (0 : UInt8)).map bv) 178)) = h2.push (Cel (zeroS.map bv) 178) := rfl
  rw [e3]
  generalize h2.push (Cel (zeroS.map bv) 178) = h3 at *
  generalize hq1 : h.size = q1 at *
  generalize hq2 : h1.size = q2 at *
  generalize hq3 : h2.size = q3 at *
  have n1 : q1 ≠ q3 := by omega
  have n2 : q2 ≠ q3 := by omega
  have hz : zeroS.length = 128 := rfl
  have up : ∀ {ha hb : Hp}, Kp (fun _ => False) h ha → Kp (fun x => x = q3) ha hb → Kp (fun _ => False) h hb := fun a b => a.and b fun i hi => .inl (by omega)
  refine ⟨m.round, hb13.rdi 0 rfl, m.round, Wr.u64n _ (by omega), ?_⟩
  refine wal_put_c (at_ := 4) (n := 4) hb3 hz (by omega) (by omega) fun h4 k4 hb4 => ?_
  have z4 : (putL zeroS 4 4 m.round).length = 128 := by rw [putL_len] <;> omega
  have hb14 := hb13.kp k4 n1
  have hb24 := hb23.kp k4 n2
  refine ⟨m.lsn, hb14.rdi 1 rfl, m.lsn, Wr.u64n _ (by omega), ?_⟩
  refine wal_put_c (at_ := 8) (n := 8) hb4 z4 (by omega) (by omega) fun h5 k5 hb5 => ?_
  have z5 : (putL (putL zeroS 4 4 m.round) 8 8 m.lsn).length = 128 := by rw [putL_len] <;> omega
  have hb15 := hb14.kp k5 n1
  have hb25 := hb24.kp k5 n2
  have k35 := up (up k3 k4) k5
  generalize putL (putL zeroS 4 4 m.round) 8 8 m.lsn = l5 at *
  have hst := hb5.sti 16 (.int .u8 m.kind) (by simp [z5])
  have k6 : Kp (fun x => x = q3) h5 (setB h5 q3 (Cel ((l5.map bv).set 16 (.int .u8 m.kind)) 178)) := Kp.set (F := fun x => x = q3) (Kp.refl _ _) _ (.inr rfl)
  have hb6 : Bk (setB h5 q3 (Cel ((l5.map bv).set 16 (.int .u8 m.kind)) 178)) q3 ((ovr l5 16 [UInt8.ofNat m.kind]).map bv) 178 := by
    have e : (ovr l5 16 [UInt8.ofNat m.kind]).map bv = (l5.map bv).set 16 (.int .u8 m.kind) := by
      have := ovr_snoc (l := l5) (d := []) (a := 16) (x := UInt8.ofNat m.kind) (by simp [z5])
      rw [List.nil_append, ovr_nil] at this
      rw [← this, List.map_set]
      congr 1
      simp only [bv, Value.int.injEq, true_and, UInt8.toNat_ofNat']
      omega
    rw [e]; exact hb5.set
  have hb16 := hb15.kp k6 n1
  have hb26 := hb25.kp k6 n2
  refine ⟨m.kind, hb15.rdi 2 rfl, _, hst, ?_⟩
  have z6 : (ovr l5 16 [UInt8.ofNat m.kind]).length = 128 := by rw [ovr_len (by rw [z5]; simp)]; exact z5
  generalize setB h5 q3 (Cel ((l5.map bv).set 16 (.int .u8 m.kind)) 178) = h6 at *
  refine ⟨m.part, hb16.rdi 3 rfl, m.part, Wr.u64n _ (by omega), ?_⟩
  refine wal_put_c (at_ := 18) (n := 2) hb6 z6 (by omega) (by omega) fun h7 k7 hb7 => ?_
  have z7 : (putL (ovr l5 16 [UInt8.ofNat m.kind]) 18 2 m.part).length = 128 := by rw [putL_len] <;> omega
  have hb17 := hb16.kp k7 n1
  have hb27 := hb26.kp k7 n2
  refine ⟨m.len, hb17.rdi 4 rfl, m.len, Wr.u64n _ (by omega), ?_⟩
  refine wal_put_c (at_ := 20) (n := 4) hb7 z7 (by omega) (by omega) fun h8 k8 hb8 => ?_
  have z8 : (putL (putL (ovr l5 16 [UInt8.ofNat m.kind]) 18 2 m.part) 20 4 m.len).length = 128 := by rw [putL_len] <;> omega
  have hb28 := hb27.kp k8 n2
  have k38 := up (up (up k35 k6) k7) k8
  have hx8 : Byt h8 sx data := hx.kp k38 fun _ _ h => h
  generalize putL (putL (ovr l5 16 [UInt8.ofNat m.kind]) 18 2 m.part) 20 4 m.len = l8 at *
  have hst8 := hb8.st (i := 24) (vs := data.map bv) (by simp [z8]; omega)
  have k9 : Kp (fun x => x = q3) h8 (setB h8 q3 (Cel (splice (l8.map bv) 24 (data.map bv)) 178)) := Kp.set (F := fun x => x = q3) (Kp.refl _ _) _ (.inr rfl)
  have hb9 : Bk (setB h8 q3 (Cel (splice (l8.map bv) 24 (data.map bv)) 178)) q3 ((ovr l8 24 data).map bv) 178 := by rw [ovr_map]; exact hb8.set
  have hb29 := hb28.kp k9 n2
  have hml : Nat.min sx.len (slA (nA q3) 128 1 (Int.toNat (24 : Int)) (Int.toNat ((128 : Nat) : Int))).len = sx.len := by
    show Nat.min sx.len 104 = sx.len
    exact Nat.min_eq_left (by rw [hx.len]; exact hd)
  refine ⟨_, rfl, data.map bv, setB h8 q3 (Cel (splice (l8.map bv) 24 (data.map bv)) 178), _, ?_, oneC_bytes _, ?_, rfl, ?_⟩
  · rw [hml]; exact Byt.rds hx8
  · show StL h8 (((nA q3).add 24).add 0) (data.map bv) _
    rw [add_zero', add_nA, Nat.zero_add]; exact hst8
  have z9 : (ovr l8 24 data).length = 128 := by rw [ovr_len (by rw [z8]; omega)]; exact z8
  generalize setB h8 q3 (Cel (splice (l8.map bv) 24 (data.map bv)) 178) = h9 at *
  refine wal_seal_c hb9 z9 fun h10 k10 hb10 => ?_
  have hb210 := hb29.kp k10 n2
  have z10 : (sealL (ovr l8 24 data)).length = 128 := by rw [sealL_len] <;> omega
  have k11 : Kp (fun x => x = q2) h10 (setB h10 q2 (Cel ((sealL (ovr l8 24 data)).map bv) 178)) := Kp.set (F := fun x => x = q2) (Kp.refl _ _) _ (.inr rfl)
  have kk := (up (up k38 k9) k10).and k11 fun i hi => .inl (by omega)
  exact ⟨_, z10, hb10.rd0, _, z10, hb210.st0 (by simp [z10, hz]), _, z10, hb210.set.rd0, hK _ kk⟩

theorem okMark_none {l : List UInt8} (h : ¬ (whole l = true ∧ fld l 17 1 = 0 ∧ fld l 16 1 ≠ 0 ∧ fld l 8 8 ≤ 1099511627776 ∧ fld l 4 4 ≤ 2147483647 ∧ fld l 20 4 ≤ 32768)) : okMark l = none := if_neg h

theorem wal_readMark_c {b : Nat} {t : TypeId} {l : List UInt8} {K : Int → Int → Int → Int → Int → Bool → Hp → Prop} (hb : Bk h b (l.map bv) t) (hl : l.length = 128)
    (hK1 : ∀ mk h', okMark l = some mk → Kp (fun _ => False) h h' → K mk.round mk.lsn mk.kind mk.part mk.len true h')
    (hK0 : okMark l = none → ∀ h', Kp (fun _ => False) h h' → K 0 0 0 0 0 false h') : wal_readMark (some (nA b)) K h := by
  have hq := Bk.new h [.int .i64 0, .int .i64 0, .int .u8 0, .int .i64 0, .int .i64 0] 177
  have hk1 : Kp (fun _ => False) h (h.push (Cel [.int .i64 0, .int .i64 0, .int .u8 0, .int .i64 0, .int .i64 0] 177)) := Kp.push (Kp.refl _ _) _
  have hb1 := hb.push (Cel [.int .i64 0, .int .i64 0, .int .u8 0, .int .i64 0, .int .i64 0] 177)
  refine ⟨_, _, rfl, rfl, ?_⟩
  generalize h.push (Cel [.int .i64 0, .int .i64 0, .int .u8 0, .int .i64 0, .int .i64 0] 177) = h1 at *
  generalize hqq : h.size = q at *
  have b4 := fld_lt l 4 4
  have b8 := fld_lt l 8 8
  have b20 := fld_lt l 20 4
  have b18 := fld_lt l 18 2
  have f16 : fld l 16 1 = (l[16]'(by omega)).toNat := fld_one (by omega)
  have f17 : fld l 17 1 = (l[17]'(by omega)).toNat := fld_one (by omega)
  refine wal_get_c (at_ := 4) (n := 4) hb1 hl (by omega) (by omega) (wal_get_c (at_ := 8) (n := 8) hb1 hl (by omega) (by omega) (wal_get_c (at_ := 20) (n := 4) hb1 hl (by omega) (by omega) ?_))
  refine ⟨fun c h2 => Kp (fun _ => False) h1 h2 ∧ c = !decide (whole l = true ∧ fld l 17 1 = 0 ∧ fld l 16 1 ≠ 0 ∧ fld l 8 8 ≤ 1099511627776 ∧ fld l 4 4 ≤ 2147483647 ∧ fld l 20 4 ≤ 32768), ?_, ?_⟩
  · rintro c h2 ⟨k2, rfl⟩
    have hq2 := hq.kp k2 fun h => h
    have hb2 := hb1.kp k2 fun h => h
    have kq : ∀ o, Kp (fun _ => False) h (setB h2 q o) := fun o => (hk1.trans k2).set _ (.inl (by omega))
    refine ⟨fun hc => ⟨_, hq2.st0 rfl, 0, 0, 0, 0, 0, hq2.set.rd0, hK0 (okMark_none (by simpa only [Bool.not_eq_true', decide_eq_false_iff_not] using hc)) _ (kq _)⟩, fun hc => ?_⟩
    have hr : whole l = true ∧ fld l 17 1 = 0 ∧ fld l 16 1 ≠ 0 ∧ fld l 8 8 ≤ 1099511627776 ∧ fld l 4 4 ≤ 2147483647 ∧ fld l 20 4 ≤ 32768 := by
      simpa only [Bool.not_eq_false', decide_eq_true_eq] using hc
    have r16 : rdc h2 ((nA b).add (Int.toNat 16 * 1)) = some (.int .u8 ((fld l 16 1 : Nat) : Int)) := by rw [f16]; exact hb2.rdi 16 (by simp [hl, bv])
    refine ⟨_, Wr.u64i _ (by omega), _, Wr.u64i _ (by omega), nA b, rfl, ((fld l 16 1 : Nat) : Int), r16, _, Wr.u64i _ (by omega), wal_get_c (at_ := 18) (n := 2) hb2 hl (by omega) (by omega) ⟨r16, _, Wr.u64i _ (by omega), ?_⟩⟩
    exact ⟨_, hq2.st0 (vs := mkC ⟨fld l 4 4, fld l 8 8, fld l 16 1, fld l 18 2, fld l 20 4⟩) rfl, _, _, _, _, _, hq2.set.rd0, hK1 ⟨fld l 4 4, fld l 8 8, fld l 16 1, fld l 18 2, fld l 20 4⟩ _ (if_pos hr) (kq _)⟩
  · refine wal_whole_c hb1 hl fun h2 k2 => ⟨fun hc => ⟨k2, ?_⟩, fun hc => ?_⟩
    · have : whole l = false := by simpa using hc
      symm; simp [this]
    have hw : whole l = true := by simpa using hc
    have hb2 := hb1.kp k2 fun h => h
    refine ⟨nA b, rfl, ((fld l 17 1 : Nat) : Int), by rw [f17]; exact hb2.rdi 17 (by simp [hl, bv]), dcn (fun hn => ⟨k2, ?_⟩) (fun h17 => ⟨((fld l 16 1 : Nat) : Int), by rw [f16]; exact hb2.rdi 16 (by simp [hl, bv]), dcb (fun h16 => ⟨k2, ?_⟩) (fun h16 => dcd (fun h8 => ⟨k2, ?_⟩) (fun h8 => dcd (fun h4 => ⟨k2, ?_⟩) (fun h4 => ⟨k2, ?_⟩)))⟩)⟩
    · symm; simp only [Bool.not_eq_true', decide_eq_false_iff_not]; omega
    · symm; simp only [Bool.not_eq_true', decide_eq_false_iff_not]; omega
    · symm; simp only [Bool.not_eq_true', decide_eq_false_iff_not]; omega
    · symm; simp only [Bool.not_eq_true', decide_eq_false_iff_not]; omega
    · rw [Bool.eq_iff_iff]; simp only [decide_eq_true_eq, Bool.not_eq_true', decide_eq_false_iff_not, hw, true_and]; omega

/-! ### The area -/
def arC (p : Option Addr) (st n : Nat) : List Value := [.pointer p, .int .i64 st, .int .i64 n]

theorem wal_ring_c {p : Option Addr} {st n : Nat} {K : Int → Hp → Prop} (hn : 4 ≤ n) (hm : n ≤ 4096) (hK : ∀ h', Kp (fun _ => False) h h' → K ((n - 2 : Nat) : Int) h') : wal_area_ring p st n K h := by
  have hb := Bk.new h (arC p st n) 164
  refine ⟨_, _, rfl, rfl, _, hb.rdi 2 rfl, ((n - 2 : Nat) : Int), ?_, hK _ (Kp.push (Kp.refl _ _) _)⟩
  have : ((n - 2 : Nat) : Int) = (n : Int) - 2 := by omega
  rw [this]; exact Wr.i64 (by omega) (by omega)

theorem wal_place_c {p : Option Addr} {st n q : Nat} {K : Int → Hp → Prop} (hn : 4 ≤ n) (hm : st + n ≤ 4096) (hq : 1 ≤ q) (hq2 : q < 9223372036854775808) (hK : ∀ h', Kp (fun _ => False) h h' → K ((place st n q : Nat) : Int) h') : wal_area_place p st n q K h := by
  have hb := Bk.new h (arC p st n) 164
  have hk : Kp (fun _ => False) h (h.push (Cel (arC p st n) 164)) := Kp.push (Kp.refl _ _) _
  have e1 : ((q - 1 : Nat) : Int) = (q : Int) - 1 := by omega
  refine ⟨_, _, rfl, rfl, _, hb.rdi 1 rfl, _, Wr.i64 (by omega) (by omega), ((q - 1 : Nat) : Int), by rw [e1]; exact Wr.i64 (by omega) (by omega), p, st, n, hb.rd0, wal_ring_c hn (by omega) fun h2 k2 => ?_⟩
  have hb2 := hb.kp k2 fun h => h
  have hlt : (q - 1) % (n - 2) < n - 2 := Nat.mod_lt _ (by omega)
  refine ⟨hb2.rdi 1 rfl, by omega, _, rfl, ((place st n q : Nat) : Int), ?_, hK _ (hk.trans k2)⟩
  have e2 : Int.tmod ((q - 1 : Nat) : Int) ((n - 2 : Nat) : Int) = (((q - 1) % (n - 2) : Nat) : Int) := by
    rw [Int.tmod_eq_emod_of_nonneg (by omega)]; rfl
  have e3 : ((place st n q : Nat) : Int) = (st : Int) + 2 + Int.tmod ((q - 1 : Nat) : Int) ((n - 2 : Nat) : Int) := by rw [e2]; unfold place; omega
  rw [e3]
  exact Wr.i64 (by rw [e2]; omega) (by rw [e2]; omega)
theorem place_lt {st n q : Nat} (hn : 4 ≤ n) : st ≤ place st n q ∧ place st n q < st + n := by
  have hlt : (q - 1) % (n - 2) < n - 2 := Nat.mod_lt _ (by omega)
  unfold place; omega

/-- May these sectors be a log's? -/
def areaOk (m : Md) (start n : Int) : Prop := 0 ≤ start ∧ 4 ≤ n ∧ start + n ≤ m.laid.length
instance (m : Md) (start n : Int) : Decidable (areaOk m start n) := by unfold areaOk; infer_instance

theorem wal_at_none_c {start n : Int} {K : Option Addr → Int → Int → Bool → Hp → Prop} (hK : ∀ x y z h', Kp (fun _ => False) h h' → K x y z false h') : wal_at none start n K h := by
  have hb := Bk.new h [.pointer none, .int .i64 0, .int .i64 0] 164
  have hk : Kp (fun _ => False) h (h.push (Cel [.pointer none, .int .i64 0, .int .i64 0] 164)) := Kp.push (Kp.refl _ _) _
  refine ⟨_, _, rfl, rfl, fun b h' => b = true ∧ h' = h.push (Cel [.pointer none, .int .i64 0, .int .i64 0] 164), ?_, isN0 ⟨rfl, rfl⟩⟩
  rintro b h' ⟨rfl, rfl⟩
  exact ⟨fun _ => ⟨_, hb.st0 rfl, none, 0, 0, hb.set.rd0, hK _ _ _ _ (hk.set _ (.inl (Nat.le_refl _)))⟩, fun h => (nomatch h)⟩

theorem wal_at_c {p : Option Addr} {m : Md} {F : Nat → Prop} {start n : Int} {K : Option Addr → Int → Int → Bool → Hp → Prop} (d : PD h p m F)
    (hK0 : ¬ areaOk m start n → ∀ x y z h', Kp (fun _ => False) h h' → K x y z false h')
    (hK1 : areaOk m start n → ∀ h', Kp (fun _ => False) h h' → K p start n true h') : wal_at p start n K h := by
  have hb := Bk.new h [.pointer none, .int .i64 0, .int .i64 0] 164
  have hk : Kp (fun _ => False) h (h.push (Cel [.pointer none, .int .i64 0, .int .i64 0] 164)) := Kp.push (Kp.refl _ _) _
  obtain ⟨b, bl, r, sp, rfl, q⟩ := d
  have hhi := q.wf.hi
  have q1 := PDi.kpb q hk
  refine ⟨_, _, rfl, rfl, ?_⟩
  have kk : ∀ o, Kp (fun _ => False) h (setB (h.push (Cel [.pointer none, .int .i64 0, .int .i64 0] 164)) h.size o) := fun o => hk.set _ (.inl (Nat.le_refl _))
  generalize h.push (Cel [.pointer none, .int .i64 0, .int .i64 0] 164) = h1 at *
  refine ⟨fun c h' => h' = h1 ∧ c = decide (start < 0 ∨ n < 4), ?_, isN (dcd (fun hs => ⟨rfl, by simp [hs]⟩) (fun hs => ⟨rfl, by simp [hs]⟩))⟩
  rintro c h' ⟨rfl, rfl⟩
  refine dcd (fun hbad => ⟨_, hb.st0 rfl, none, 0, 0, hb.set.rd0, hK0 (by unfold areaOk; omega) _ _ _ _ (kk _)⟩) (fun hgood => disk_Sectors_i q1 (dcd (fun hle => ?_) (fun hnle => ?_)))
  · refine ⟨(m.laid.length : Int) - n, Wr.i64 (by omega) (by omega), _, hb.st0 rfl, some (nA b), start, n, hb.set.rd0, ?_⟩
    by_cases hok : areaOk m start n
    · have : decide (start ≤ (m.laid.length : Int) - n) = true := by simp; unfold areaOk at hok; omega
      rw [this]
      exact hK1 hok _ (kk _)
    · have : decide (start ≤ (m.laid.length : Int) - n) = false := by simp; unfold areaOk at hok; omega
      rw [this]
      exact hK0 hok _ _ _ _ (kk _)
  · exact ⟨_, hb.st0 rfl, some (nA b), start, n, hb.set.rd0, hK0 (by unfold areaOk; omega) _ _ _ _ (kk _)⟩

theorem Md.read_len {m : Md} (hw : m.Wf) {a : Int} (h0 : (m.read a).2 = 0) : (m.read a).1.length = 128 := by
  unfold Md.read at h0 ⊢
  split
  · rename_i hh; rw [if_pos hh] at h0; cases h0
  · rename_i hh; rw [if_neg hh] at h0
    split
    · rename_i h2; rw [if_pos h2] at h0; cases h0
    · exact Md.newest_len hw (by omega)
theorem Md.read_len2 {m : Md} (hw : m.Wf) {a : Int} : (m.read a).1.length ≤ 128 := by
  unfold Md.read
  split
  · simp
  · split
    · simp
    · rw [Md.newest_len hw (by omega)]; exact Nat.le_refl _

theorem wal_read_c {p : Option Addr} {m : Md} {F : Nat → Prop} {st n : Nat} {a : Int} {K : List UInt8 → Int → Hp → Prop} (d : PD h p m F)
    (hK : ∀ bs h', Kp (fun _ => False) h h' → bs.length = 128 → ((m.read a).2 = 0 → bs = (m.read a).1) → K bs (m.read a).2 h') : wal_area_read p st n a K h := by
  have hwf := d.wf
  have hb1 := Bk.new h (arC p st n) 164
  have k1 : Kp (fun _ => False) h (h.push (Cel (arC p st n) 164)) := Kp.push (Kp.refl _ _) _
  refine ⟨_, _, rfl, rfl, ?_⟩
  have e1 : (h.push (Cel [.pointer p, .int .i64 (st : Int), .int .i64 (n : Int)] 164)) = h.push (Cel (arC p st n) 164) := rfl
  rw [e1]
  have s1 : (h.push (Cel (arC p st n) 164)).size = h.size + 1 := by simp
  generalize h.push (Cel (arC p st n) 164) = h1 at *
  have hb2 := Bk.new h1 (zeroS.map bv) 178
  have s2 : (h1.push (Cel (zeroS.map bv) 178)).size = h1.size + 1 := by simp
  have k2 : Kp (fun _ => False) h (h1.push (Cel (zeroS.map bv) 178)) := Kp.push k1 _
  have hb12 := hb1.push (Cel (zeroS.map bv) 178)
  refine ⟨_, _, rfl, rfl, ?_⟩
  have e2 : (h1.push (Cel ((List.replicate 128 (0 : UInt8)).map bv) 178)) = h1.push (Cel (zeroS.map bv) 178) := rfl
  rw [e2]
  generalize h1.push (Cel (zeroS.map bv) 178) = h2 at *
  have hb3 := Bk.new h2 (zeroS.map bv) 178
  have k3 : Kp (fun _ => False) h (h2.push (Cel (zeroS.map bv) 178)) := Kp.push k2 _
  have hb13 := hb12.push (Cel (zeroS.map bv) 178)
  have hb23 := hb2.push (Cel (zeroS.map bv) 178)
  refine ⟨_, _, rfl, rfl, ?_⟩
  have e3 : (h2.push (Cel ((List.replicate 128 (0 : UInt8)).map bv) 178)) = h2.push (Cel (zeroS.map bv) 178) := rfl
  rw [e3]
  generalize h2.push (Cel (zeroS.map bv) 178) = h3 at *
  generalize hq1 : h.size = q1 at *
  generalize hq2 : h1.size = q2 at *
  generalize hq3 : h2.size = q3 at *
  refine ⟨p, hb13.rdi 0 rfl, ?_⟩
  obtain ⟨b, bl, r, sp, rfl, q⟩ := d
  refine disk_Read_i (PDi.kpb q k3) fun s h4 k4 hv4 hn4 => ?_
  have hby := Byt.of_vec hv4
  have hrl := Md.read_len2 hwf (a := a)
  have hml : Nat.min s.len (slA (nA q3) 128 1 (Int.toNat (0 : Int)) (Int.toNat ((128 : Nat) : Int))).len = s.len := by
    show Nat.min s.len 128 = s.len
    exact Nat.min_eq_left (by rw [hby.len]; exact hrl)
  have hb24 := hb23.kp k4 fun h => h
  have hb34 := hb3.kp k4 fun h => h
  generalize hdt : (m.read a).1 = dt at *
  have hst := hb34.st (i := 0) (vs := dt.map bv) (by simp; show dt.length ≤ zeroS.length; exact hrl)
  have hz : zeroS.length = 128 := rfl
  have k5 : Kp (fun x => x = q3) h4 (setB h4 q3 (Cel (splice (zeroS.map bv) 0 (dt.map bv)) 178)) := Kp.set (F := fun x => x = q3) (Kp.refl _ _) _ (.inr rfl)
  have hb5 : Bk (setB h4 q3 (Cel (splice (zeroS.map bv) 0 (dt.map bv)) 178)) q3 ((ovr zeroS 0 dt).map bv) 178 := by rw [ovr_map]; exact hb34.set
  have hb25 := hb24.kp k5 (show q2 ≠ q3 by omega)
  refine ⟨_, rfl, dt.map bv, setB h4 q3 (Cel (splice (zeroS.map bv) 0 (dt.map bv)) 178), _, ?_, oneC_bytes _, ?_, rfl, ?_⟩
  · rw [hml]; exact Byt.rds hby
  · show StL h4 (((nA q3).add 0).add 0) (dt.map bv) _
    rw [add_zero', add_zero']; exact hst
  have z5 : (ovr zeroS 0 dt).length = 128 := by rw [ovr_len (by rw [hz]; omega)]; exact hz
  generalize setB h4 q3 (Cel (splice (zeroS.map bv) 0 (dt.map bv)) 178) = h5 at *
  have k6 : Kp (fun x => x = q2) h5 (setB h5 q2 (Cel ((ovr zeroS 0 dt).map bv) 178)) := Kp.set (F := fun x => x = q2) (Kp.refl _ _) _ (.inr rfl)
  have kk := ((k3.trans k4).and k5 fun i hi => .inl (by omega)).and k6 fun i hi => .inl (by omega)
  refine ⟨_, z5, hb5.rd0, _, z5, hb25.st0 (by simp [z5, hz]), _, z5, hb25.set.rd0, hK _ _ kk z5 fun h0 => ?_⟩
  have h128 := Md.read_len hwf h0
  rw [hdt] at h128
  unfold ovr
  rw [List.take_zero, List.nil_append, List.drop_of_length_le (by rw [hz]; omega), List.append_nil]
end
end Go.Proofs.Ythpeadoidpimmaa
