/- The document's log: Reserve, Release, Flush, Append. No condition. -/
import Derived.Test.YthpeadoidpimmaaGreatGRefC
import Derived.Test.YthpeadoidpimmaaGreatRefO
import Derived.Test.YthpeadoidpimmaaGreatLogR
namespace Go.Proofs.YthpeadoidpimmaaGreat
open Go Tw
set_option linter.unusedVariables false
set_option linter.unusedSimpArgs false
set_option maxRecDepth 10000
set_option maxHeartbeats 1000000

section
variable {h h1 h2 : Hp} {o : Nat → Nat} {A : Nat → Ass} {p q : Option Addr} {m : Md} {l l' : Lg} {st n i j : Nat}

theorem ref3_Reserve_none_c {k : Int} {K : Int → Hp → Prop} (hK : K 1 h) : ref3_Log_Reserve none k K h :=
  ⟨fun b h' => b = true ∧ h' = h, by rintro b h' ⟨rfl, rfl⟩; exact ⟨fun _ => hK, fun h => (nomatch h)⟩, isN0 ⟨rfl, rfl⟩⟩
theorem ref3_Reserve_c {k : Int} {K : Int → Hp → Prop} (w : Ow h o A) (hj : A j = Ass.rlog q p l) (hw : l.Wf)
    (hK : ∀ h' o', Ow h' o' (upd A j (Ass.rlog q p (l.reserve k).2)) → Stp (fun x => x = j) h o h' o' → K (l.reserve k).1 h') : ref3_Log_Reserve q k K h := by
  obtain ⟨b, sr, sv, rs, rfl, hp⟩ := w.rlog hj
  have hn4 := hw.n4
  have hnm := hw.nm
  have hro := hw.room
  refine ⟨fun c h' => c = decide (k < 0) ∧ h' = h, ?_, isN ⟨rfl, rfl⟩⟩
  rintro c h' ⟨rfl, rfl⟩
  have keep : ∀ e : Int, l.reserve k = (e, l) → K e h' := fun e he => by
    rw [he] at hK
    exact hK h' o (by rw [upd_same hj]; exact w) (Stp.refl _ _ _)
  refine dcd (fun hneg => keep 1 (by unfold Lg.reserve; rw [if_pos hneg])) (fun hpos => ⟨nA b, rfl, l.dead, hp.st.rdi 12 rfl, fun hd => keep 2 (by unfold Lg.reserve; rw [if_neg hpos, if_pos hd]), fun hd => ?_⟩)
  refine ref3_free_c hp.st hw (dcd (fun hgt => keep 31 (by unfold Lg.reserve; rw [if_neg hpos, if_neg (by simp [hd]), if_pos (by omega)])) (fun hle => ?_))
  have e : l.reserve k = (0, { l with reserved := l.reserved + k.toNat }) := by unfold Lg.reserve; rw [if_neg hpos, if_neg (by simp [hd]), if_neg (by omega)]
  rw [e] at hK
  have hfr : l.free = l.n - 2 - (l.next - l.head.lsn) - l.reserved := rfl
  have e2 : ((l.reserved + k.toNat : Nat) : Int) = (l.reserved : Int) + k := by omega
  obtain ⟨w2, s2⟩ := w.rlset (l' := { l with reserved := l.reserved + k.toNat }) hj hp rfl
  exact ⟨l.reserved, hp.st.rdi 9 rfl, ((l.reserved + k.toNat : Nat) : Int), by rw [e2]; exact Wr.i64 (by omega) (by omega), _, hp.st.sti 9 (.int .i64 ((l.reserved + k.toNat : Nat) : Int)) (by simp [rgC]), hK _ _ w2 s2⟩

theorem ref3_Release_none_c {k : Int} {K : Int → Hp → Prop} (hK : K 1 h) : ref3_Log_Release none k K h :=
  ⟨fun b h' => b = true ∧ h' = h, by rintro b h' ⟨rfl, rfl⟩; exact ⟨fun _ => hK, fun h => (nomatch h)⟩, isN0 ⟨rfl, rfl⟩⟩
theorem ref3_Release_c {k : Int} {K : Int → Hp → Prop} (w : Ow h o A) (hj : A j = Ass.rlog q p l) (hw : l.Wf)
    (hK : ∀ h' o', Ow h' o' (upd A j (Ass.rlog q p (l.release k).2)) → Stp (fun x => x = j) h o h' o' → K (l.release k).1 h') : ref3_Log_Release q k K h := by
  obtain ⟨b, sr, sv, rs, rfl, hp⟩ := w.rlog hj
  have hn4 := hw.n4
  have hnm := hw.nm
  have hro := hw.room
  refine ⟨fun c h' => c = decide (k < 0) ∧ h' = h, ?_, isN ⟨rfl, rfl⟩⟩
  rintro c h' ⟨rfl, rfl⟩
  have keep : ∀ e : Int, l.release k = (e, l) → K e h' := fun e he => by
    rw [he] at hK
    exact hK h' o (by rw [upd_same hj]; exact w) (Stp.refl _ _ _)
  refine dcd (fun hneg => keep 1 (by unfold Lg.release; rw [if_pos hneg])) (fun hpos => ⟨nA b, rfl, l.dead, hp.st.rdi 12 rfl, fun hd => keep 2 (by unfold Lg.release; rw [if_neg hpos, if_pos hd]), fun hd => ⟨l.reserved, hp.st.rdi 9 rfl, ?_⟩⟩)
  refine dcd (fun hgt => keep 34 (by unfold Lg.release; rw [if_neg hpos, if_neg (by simp [hd]), if_pos (by omega)])) (fun hle => ?_)
  have e : l.release k = (0, { l with reserved := l.reserved - k.toNat }) := by unfold Lg.release; rw [if_neg hpos, if_neg (by simp [hd]), if_neg (by omega)]
  rw [e] at hK
  have e2 : ((l.reserved - k.toNat : Nat) : Int) = (l.reserved : Int) - k := by omega
  obtain ⟨w2, s2⟩ := w.rlset (l' := { l with reserved := l.reserved - k.toNat }) hj hp rfl
  exact ⟨l.reserved, hp.st.rdi 9 rfl, ((l.reserved - k.toNat : Nat) : Int), by rw [e2]; exact Wr.i64 (by omega) (by omega), _, hp.st.sti 9 (.int .i64 ((l.reserved - k.toNat : Nat) : Int)) (by simp [rgC]), hK _ _ w2 s2⟩

theorem ref3_Flush_none_c {K : Int → Hp → Prop} (hK : K 1 h) : ref3_Log_Flush none K h := isN0 hK
theorem ref3_Flush_c {K : Int → Hp → Prop} (w : Ow h o A) (hi : A i = Ass.rdisk p m) (hj : A j = Ass.rlog q p l) (hij : i ≠ j) (hcap : m.pend.length ≤ 1000000000000)
    (hK : ∀ h' o', Ow h' o' (upd (upd A i (Ass.rdisk p (l.flush m).2.2)) j (Ass.rlog q p (l.flush m).2.1)) → Stp (fun x => x = i ∨ x = j) h o h' o' → K (l.flush m).1 h') : ref3_Log_Flush q K h := by
  obtain ⟨b, sr, sv, rs, rfl, hp⟩ := w.rlog hj
  have keep : ∀ e : Int, l.flush m = (e, l, m) → K e h := fun e he => by
    rw [he] at hK
    exact hK h o (by rw [upd_same hi, upd_same hj]; exact w) (Stp.refl _ _ _)
  refine isN ⟨nA b, rfl, l.dead, hp.st.rdi 12 rfl, fun hd => keep 2 (by unfold Lg.flush; rw [if_pos hd]), fun hd => ⟨l.durable, hp.st.rdi 8 rfl, l.next, hp.st.rdi 7 rfl, dcb (fun he => keep 0 (by unfold Lg.flush; rw [if_neg (by simp [hd]), if_pos (by omega)])) (fun hne => ?_)⟩⟩
  refine ⟨p, hp.st.rdi 0 rfl, rw_Flush w hi hcap fun h1 w1 s1 => ?_⟩
  have e : l.flush m = if m.flush.1 = 0 then (0, { l with durable := l.next }, m.flush.2) else (m.flush.1, { l with dead := true }, m.flush.2) := by
    unfold Lg.flush; rw [if_neg (by simp [hd]), if_neg (by omega)]
  rw [e] at hK
  have hj1 : (upd A i (Ass.rdisk p m.flush.2)) j = Ass.rlog (some (nA b)) p l := by rw [upd_ne (Ne.symm hij)]; exact hj
  have p1 := RLg.own hp s1 (Ne.symm hij)
  refine dcn (fun hne => ?_) (fun h0 => ?_)
  · rw [if_neg hne] at hK
    obtain ⟨w2, s2⟩ := w1.rlset (l' := { l with dead := true }) hj1 p1 rfl
    exact ⟨_, p1.st.sti 12 (.bool true) (by simp [rgC]), hK _ _ w2 ((s1.mono fun _ h => .inl h).trans (s2.mono fun _ h => .inr h))⟩
  · rw [if_pos h0] at hK
    obtain ⟨w2, s2⟩ := w1.rlset (l' := { l with durable := l.next }) hj1 p1 rfl
    exact ⟨l.next, p1.st.rdi 7 rfl, _, p1.st.sti 8 (.int .i64 l.next) (by simp [rgC]), hK _ _ w2 ((s1.mono fun _ h => .inl h).trans (s2.mono fun _ h => .inr h))⟩

/-! ### A record's sector -/
theorem ref3_recB_c {round q i kind : Nat} {sx : Sl} {data : List UInt8} {K : Sl → Hp → Prop} (hr : round < 9223372036854775808) (hq : q + i < 9223372036854775808) (hk : kind < 256) (hx : Byt h sx data) (hd : data.length ≤ 32768) (hi : i < needN data.length)
    (hK : ∀ b h', Kp (fun _ => False) h h' → Bk h' b ((markB ⟨round, q + i, kind, i, data.length⟩ (partOf data i)).map bv) 5 → h.size ≤ b → K (slB b) h') : ref3_recSector round q kind sx i K h := by
  unfold markB at hK
  have hnl := needN_le _ hd
  have h104 := needN_in hi
  have hxl := hx.len
  have hb0 := Bk.new h (zr [.int .u8 0] (Int.toNat 128 * 1)) 5
  have hz : zr [.int .u8 0] (Int.toNat 128 * 1) = zeroS.map bv := zr_u8 128
  have hk0 : Kp (fun _ => False) h (h.push (Cel (zr [.int .u8 0] (Int.toNat 128 * 1)) 5)) := Kp.push (Kp.refl _ _) _
  refine ⟨by omega, by omega, by omega, _, _, _, rfl, rfl, rfl, ?_⟩
  rw [hz] at hb0 hk0 ⊢
  have esl : (⟨some (nA h.size), Int.toNat 128, Int.toNat 128⟩ : Sl) = slB h.size := rfl
  rw [esl]
  generalize h.push (Cel (zeroS.map bv) 5) = h1 at *
  generalize hqq : h.size = qb at *
  have up : ∀ {ha hb : Hp}, Kp (fun _ => False) h ha → Kp (fun x => x = qb) ha hb → Kp (fun _ => False) h hb := fun a b => a.and b fun i hi => .inl (by omega)
  have z0 : zeroS.length = 128 := rfl
  refine ref3_put_c (at_ := 4) (n := 4) hb0 z0 (by omega) (by omega) hr fun h2 k2 b2 => ?_
  have z2 : (putL zeroS 4 4 round).length = 128 := by rw [putL_len] <;> omega
  have e16 : ((q + i : Nat) : Int) = (q : Int) + i := by omega
  refine ⟨((q + i : Nat) : Int), by rw [e16]; exact Wr.i64 (by omega) (by omega), ref3_put_c (at_ := 8) (n := 8) b2 z2 (by omega) (by omega) hq fun h3 k3 b3 => ?_⟩
  have z3 : (putL (putL zeroS 4 4 round) 8 8 (q + i)).length = 128 := by rw [putL_len] <;> omega
  have k13 := up (up hk0 k2) k3
  simp only at hK
  generalize hl3 : putL (putL zeroS 4 4 round) 8 8 (q + i) = l3 at *
  have hst := b3.sti 16 (.int .u8 kind) (by simp [z3])
  have k4 : Kp (fun x => x = qb) h3 (setB h3 qb (Cel ((l3.map bv).set 16 (.int .u8 kind)) 5)) := Kp.set (F := fun x => x = qb) (Kp.refl _ _) _ (.inr rfl)
  have b4 : Bk (setB h3 qb (Cel ((l3.map bv).set 16 (.int .u8 kind)) 5)) qb ((ovr l3 16 [UInt8.ofNat kind]).map bv) 5 := by
    have e : (ovr l3 16 [UInt8.ofNat kind]).map bv = (l3.map bv).set 16 (.int .u8 kind) := by
      have := ovr_snoc (l := l3) (d := []) (a := 16) (x := UInt8.ofNat kind) (by simp [z3])
      rw [List.nil_append, ovr_nil] at this
      rw [← this, List.map_set]
      congr 1
      simp only [bv, Value.int.injEq, true_and, UInt8.toNat_ofNat']
      omega
    rw [e]; exact b3.set
  refine ⟨(kind : Int), by unfold Wr; rw [wrap_u8]; omega, nA qb, rfl, by show (16 : Int) < 128; omega, _, hst, ?_⟩
  have z4 : (ovr l3 16 [UInt8.ofNat kind]).length = 128 := by rw [ovr_len (by rw [z3]; simp)]; exact z3
  have k14 := up k13 k4
  generalize setB h3 qb (Cel ((l3.map bv).set 16 (.int .u8 kind)) 5) = h4 at *
  refine ref3_put_c (at_ := 18) (n := 2) b4 z4 (by omega) (by omega) (by omega) fun h5 k5 b5 => ?_
  have z5 : (putL (ovr l3 16 [UInt8.ofNat kind]) 18 2 i).length = 128 := by rw [putL_len] <;> omega
  rw [hxl]
  refine ref3_put_c (at_ := 20) (n := 4) b5 z5 (by omega) (by omega) (by omega) fun h6 k6 b6 => ?_
  have z6 : (putL (putL (ovr l3 16 [UInt8.ofNat kind]) 18 2 i) 20 4 data.length).length = 128 := by rw [putL_len] <;> omega
  have k16 := up (up k14 k5) k6
  generalize hl6 : putL (putL (ovr l3 16 [UInt8.ofNat kind]) 18 2 i) 20 4 data.length = l6 at *
  have hpl : (partOf data i).length = min 104 (data.length - 104 * i) := by unfold partOf; simp
  refine ⟨fun k c hx' => ∃ j : Nat, c = j ∧ j ≤ (partOf data i).length ∧ k = 104 - j ∧ Kp (fun _ => False) h hx' ∧ Bk hx' qb ((ovr l6 24 ((partOf data i).take j)).map bv) 5, ⟨_, 0, rfl, by omega, rfl, k16, by rw [List.take_zero, ovr_nil]; exact b6⟩, ?_⟩
  rintro k c h7 ⟨j, rfl, hj, rfl, k7, b7⟩
  have htl : ((partOf data i).take j).length = j := by simp; omega
  have z7 : (ovr l6 24 ((partOf data i).take j)).length = 128 := by rw [ovr_len (by omega)]; exact z6
  refine ⟨fun bb hy => hy = h7 ∧ bb = decide (j < (partOf data i).length), ?_, dcd (fun h1 => ⟨(i : Int) * 104, Wr.i64 (by omega) (by omega), (i : Int) * 104 + j, Wr.i64 (by omega) (by omega), rfl, by rw [Bool.eq_iff_iff]; simp only [decide_eq_true_eq]; omega⟩) (fun h1 => ⟨rfl, by symm; simp only [decide_eq_false_iff_not]; omega⟩)⟩
  rintro bb hy ⟨rfl, rfl⟩
  refine dcd (fun hgo => ?_) (fun hstop => ?_)
  · have hjd : 104 * i + j < data.length := by omega
    obtain ⟨a, ha, hrd⟩ := (hx.kp k7 fun _ _ h => h).at hjd
    have e2 : Int.toNat ((i : Int) * 104 + j) * 1 = 104 * i + j := by omega
    have e3 : Int.toNat ((24 : Int) + j) * 1 = 24 + j := by omega
    have hpj : (partOf data i)[j]? = some data[104 * i + j] := by
      unfold partOf
      rw [List.getElem?_take, if_pos (by omega), List.getElem?_drop, List.getElem?_eq_getElem hjd]
    refine ⟨(24 : Int) + j, Wr.i64 (by omega) (by omega), (i : Int) * 104, Wr.i64 (by omega) (by omega), (i : Int) * 104 + j, Wr.i64 (by omega) (by omega), a, ha, by omega, by omega, (data[104 * i + j].toNat : Int), by rw [e2]; exact hrd, by omega, by show _ < (128 : Int); omega,
      setB hy qb (Cel (((ovr l6 24 ((partOf data i).take j)).map bv).set (24 + j) (bv data[104 * i + j])) 5), ?_, _, Wr.i64 (by omega) (by omega), 104 - (j + 1), by omega, j + 1, by omega, by omega, rfl, k7.set _ (.inl (by omega)), ?_⟩
    · rw [e3]; exact b7.sti _ _ (by simp; omega)
    · rw [← List.map_set]
      have e4 : (ovr l6 24 ((partOf data i).take j)).set (24 + j) data[104 * i + j] = ovr l6 24 ((partOf data i).take (j + 1)) := by
        rw [List.take_add_one, hpj, Option.toList_some, ← ovr_snoc (by omega), htl]
      rw [e4]; exact b7.set
  · have hje : j = (partOf data i).length := by omega
    rw [hje, List.take_length] at b7 z7
    exact ref3_sealed_c b7 z7 fun h8 k8 b8 => hK qb h8 (up k7 k8) b8 (by omega)

theorem ref3_Append_none_c {kind : Int} {sx : Sl} {fl : Bool} {K : Int → Int → Hp → Prop} (hK : K 0 1 h) : ref3_Log_Append none kind sx fl K h := isN0 hK

theorem ref3_Append_c {kind : Int} {sx : Sl} {data : List UInt8} {fl : Bool} {K : Int → Int → Hp → Prop} (w : Ow h o A) (hi : A i = Ass.rdisk p m) (hj : A j = Ass.rlog q p l) (hij : i ≠ j) (hw : l.Wf) (hin : l.st + l.n ≤ m.laid.length) (hcap : m.pend.length + 10000 < 1000000000000)
    (xb : Byt h sx data) (hxo : ∀ a, sx.p = some a → data ≠ [] → o a.block ≠ i ∧ o a.block ≠ j)
    (hK : ∀ h' o', Ow h' o' (upd (upd A i (Ass.rdisk p (l.append m kind data fl).2.2)) j (Ass.rlog q p (l.append m kind data fl).2.1)) → Stp (fun x => x = i ∨ x = j) h o h' o' → K (l.append m kind data fl).1.1 (l.append m kind data fl).1.2 h') : ref3_Log_Append q kind sx fl K h := by
  obtain ⟨b, sr, sv, rs, rfl, hp⟩ := w.rlog hj
  have hwf := (w.rd hi).wf
  have hn4 := hw.n4
  have hnm := hw.nm
  have hrd := hw.rd
  have hnx := hw.nx
  have hroom := hw.room
  have hlo := hw.lo
  have hcle := Chain.le hw.ch
  have hxl := xb.len
  have keep : ∀ e : Int, l.append m kind data fl = ((0, e), l, m) → K 0 e h := fun e he => by
    rw [he] at hK
    exact hK h o (by rw [upd_same hi, upd_same hj]; exact w) (Stp.refl _ _ _)
  refine isN ⟨fun c hx => hx = h ∧ c = decide (kind < 1 ∨ 255 < kind ∨ 32768 < data.length), ?_, dcd (fun h1 => ⟨rfl, by symm; simp only [decide_eq_true_eq]; omega⟩) (fun h1 => dcd (fun h2 => ⟨rfl, by symm; simp only [decide_eq_true_eq]; omega⟩) (fun h2 => ⟨rfl, by rw [Bool.eq_iff_iff]; simp only [decide_eq_true_eq]; omega⟩))⟩
  rintro c hx ⟨rfl, rfl⟩
  refine dcd (fun hbad => keep 32 (by unfold Lg.append; rw [if_pos hbad])) (fun hgood => ?_)
  have hdl : data.length ≤ 32768 := by omega
  have hnl := needN_le _ hdl
  have hnp := needN_pos data.length
  refine ⟨nA b, rfl, l.dead, hp.st.rdi 12 rfl, fun hd => keep 2 (by unfold Lg.append; rw [if_neg hgood, if_pos hd]), fun hd => ?_⟩
  have hd' : ¬ l.dead = true := by simp [hd]
  rw [hxl]
  refine ref3_Need_n hdl ?_
  refine ⟨fun c hy => hy = hx ∧ c = decide (fl = true ∧ l.reserved < needN data.length), ?_, fun hf => ⟨l.reserved, hp.st.rdi 9 rfl, rfl, by rw [Bool.eq_iff_iff]; simp only [decide_eq_true_eq, hf, true_and]; omega⟩, fun hf => ⟨rfl, by simp [hf]⟩⟩
  rintro c hy ⟨rfl, rfl⟩
  refine dcd (fun hbad => keep 34 (by unfold Lg.append; rw [if_neg hgood, if_neg hd', if_pos hbad])) (fun hres => ?_)
  refine ⟨fun c h1 => h1 = hy ∧ c = decide (fl = false ∧ l.free < needN data.length), ?_, fun hf => ref3_free_c hp.st hw ⟨rfl, by
    have hf' : fl = false := by cases fl <;> simp at hf ⊢
    rw [Bool.eq_iff_iff]; simp only [decide_eq_true_eq, hf', true_and]; omega⟩, fun hf => ⟨rfl, by cases fl <;> simp at hf ⊢⟩⟩
  rintro c h1 ⟨rfl, rfl⟩
  refine dcd (fun hbad => keep 31 (by unfold Lg.append; rw [if_neg hgood, if_neg hd', if_neg hres, if_pos (.inl hbad)])) (fun hfree => ?_)
  refine ⟨l.next, hp.st.rdi 7 rfl, (l.next : Int) + (needN data.length : Nat), Wr.i64 (by omega) (by omega), _, Wr.i64 (by omega) (by omega), dcd (fun hbad => keep 31 (by unfold Lg.append; rw [if_neg hgood, if_neg hd', if_neg hres, if_pos (.inr (by omega))])) (fun hfit' => ?_)⟩
  have hfit : ¬ ((fl = false ∧ l.free < needN data.length) ∨ 1099511627776 < l.next + needN data.length - 1) := by
    rintro (h | h)
    · exact hfree h
    · omega
  have hkn : kind = ((kind.toNat : Nat) : Int) := by omega
  have happ : l.append m kind data fl = (let y := runs m (recA l.st l.n l.head.round l.next kind.toNat data); if y.1 = 0 then (((l.next : Int), 0), { l with reserved := if fl then l.reserved - needN data.length else l.reserved, recs := l.recs ++ [⟨l.next, kind.toNat, data, l.head.round⟩], next := l.next + needN data.length }, y.2) else ((0, y.1), { l with dead := true }, y.2)) := by
    unfold Lg.append; rw [if_neg hgood, if_neg hd', if_neg hres, if_neg hfit]
  rw [happ] at hK
  simp only at hK
  generalize hal : recA l.st l.n l.head.round l.next kind.toNat data = al at *
  -- its own copy
  refine ⟨fun k s c hz => ∃ d : Nat, c = d ∧ d ≤ data.length ∧ k = data.length - d ∧ Kp (fun _ => False) h1 hz ∧ Vec hz s 1 5 ((data.take d).map bv) ∧ (∀ y, s.blk y → h1.size ≤ y), ⟨_, 0, rfl, by omega, rfl, Kp.refl _ _, Vec.nil _ _ _, by rintro y ⟨a, ha, _⟩; cases ha⟩, ?_⟩
  rintro k so c h2 ⟨d, rfl, hdd, rfl, k2, v2, n2⟩
  refine dcd (fun hlt => ?_) (fun hge => ?_)
  · have hd2 : d < data.length := by omega
    obtain ⟨a2, ha2, hr2⟩ := (xb.kp k2 fun _ _ h => h).at hd2
    refine ⟨a2, ha2, by omega, by omega, _, by rw [Int.toNat_natCast, Nat.mul_one]; exact hr2, _, _, _, rfl, rfl, rfl, ?_⟩
    have tmp := Bk.new h2 [bv data[d]] 5
    have k6 : Kp (fun _ => False) h2 (h2.push (Cel [bv data[d]] 5)) := Kp.push (Kp.refl _ _) _
    have hbyt : Byt (h2.push (Cel [bv data[d]] 5)) ⟨some (nA h2.size), 1, 1⟩ [data[d]] := ⟨rfl, Nat.le_refl _, tmp.rd0⟩
    refine App.bytes (v2.kp k6 fun _ _ h => h) hbyt (by simp; omega) fun s7 h7 v7 k7 n7 => ?_
    refine ⟨_, Wr.i64 (by omega) (by omega), data.length - (d + 1), by omega, d + 1, by omega, by omega, rfl, (k2.trans k6).and k7 fun y hy => .inl (n2 y hy), ?_, fun y hy => ?_⟩
    · rw [List.take_add_one, List.getElem?_eq_getElem hd2, Option.toList_some]; exact v7
    · rcases n7 y hy with h | h
      · exact n2 y h
      · have := k2.size; simp at h; omega
  have hde : d = data.length := by omega
  subst hde
  rw [List.take_length] at v2
  clear hdd
  obtain ⟨w2, s2⟩ := w.fresh j k2
  have by2 := Byt.of_vec v2
  have oo2 : ∀ y, so.blk y → Gro o j h1 y = j := fun y hy => by
    have := n2 y hy
    simp only [Gro, if_neg (show ¬ y < h1.size by omega)]
  have lt2 : ∀ y, so.blk y → y < h2.size := fun y hy => v2.lt hy
  -- the writes
  refine ⟨fun k c hz => ∃ (e : Nat) (mm : Md) (o' : Nat → Nat), c = e ∧ e ≤ needN data.length ∧ k = needN data.length - e ∧ Ow hz o' (upd A i (Ass.rdisk p mm)) ∧ Stp (fun x => x = i) h2 (Gro o j h1) hz o' ∧ mm.pend.length ≤ m.pend.length + e ∧ runs m al = runs mm (al.drop e),
    ⟨_, 0, m, _, rfl, by omega, rfl, by rw [upd_same hi]; exact w2, Stp.refl _ _ _, by omega, rfl⟩, ?_⟩
  rintro k c h3 ⟨e, mm, o3, rfl, he, rfl, w3, s3, hpm, hrun⟩
  have p2 := RLg.own hp s2 (by simp)
  have p3 := RLg.own p2 s3 (Ne.symm hij)
  have hj3 : (upd A i (Ass.rdisk p mm)) j = Ass.rlog (some (nA b)) p l := by rw [upd_ne (Ne.symm hij)]; exact hj
  have by3 : Byt h3 so data := by2.kp s3.kp fun a ha hh => by rw [oo2 _ ⟨a, ha, rfl⟩] at hh; exact hij hh.symm
  have s13 : Stp (fun x => x = i) h1 o h3 o3 := (s2.mono fun _ h => h.elim).trans s3
  refine dcd (fun hlt => ?_) (fun hge => ?_)
  · have he' : e < needN data.length := by omega
    have eqe : ((l.next + e : Nat) : Int) = (l.next : Int) + e := by omega
    refine ⟨p, p3.st.rdi 0 rfl, ((l.next + e : Nat) : Int), by rw [eqe]; exact Wr.i64 (by omega) (by omega), l.head.round, p3.st.rdi 3 rfl, ref3_place_c p3.st hn4 (by omega) (by omega) (by omega) ⟨p3.st.rdi 3 rfl, p3.st.rdi 0 rfl, ?_⟩⟩
    rw [hkn]
    refine ref3_recB_c (round := l.head.round) (q := l.next) (i := e) (kind := kind.toNat) (by omega) (by omega) (by omega) by3 hdl he' fun bb h4 k4 b4 hbb => ?_
    obtain ⟨w4, s4⟩ := w3.fresh j k4
    have p4 := RLg.own p3 s4 (by simp)
    refine ⟨p4.st.rdi 0 rfl, ?_⟩
    have hdrop := recA_drop l.st l.n l.head.round l.next kind.toNat data e he'
    rw [hal] at hdrop
    rw [hdrop, runs_cons] at hrun
    have hml : (markB ⟨l.head.round, l.next + e, kind.toNat, e, data.length⟩ (partOf data e)).length = 128 := markB_len _ _ (partOf_len _ _)
    have er' : (DAct.wr (place l.st l.n (l.next + e)) (markB ⟨l.head.round, l.next + e, kind.toNat, e, data.length⟩ (partOf data e))).run mm = mm.write ((place l.st l.n (l.next + e) : Nat) : Int) (markB ⟨l.head.round, l.next + e, kind.toNat, e, data.length⟩ (partOf data e)) := rfl
    rw [er'] at hrun
    refine rw_Write (i := i) w4 upd_eq (slB_byt b4 hml) (fun a ha _ => ?_) (by omega) fun h5 w5 s5 => ?_
    · cases ha
      show Gro o3 j h3 bb ≠ i
      simp only [Gro, if_neg (show ¬ bb < h3.size by omega)]
      exact Ne.symm hij
    rw [upd_upd] at w5
    have p5 := RLg.own p4 s5 (Ne.symm hij)
    have s35 := (s4.mono (T := fun x => x = i) fun _ h => h.elim).trans s5
    refine dcn (fun hne => ?_) (fun h0 => ?_)
    · rw [if_neg hne] at hrun
      rw [hrun, if_neg hne] at hK
      have hj5 : (upd A i (Ass.rdisk p (mm.write ((place l.st l.n (l.next + e) : Nat) : Int) (markB ⟨l.head.round, l.next + e, kind.toNat, e, data.length⟩ (partOf data e))).2)) j = Ass.rlog (some (nA b)) p l := by rw [upd_ne (Ne.symm hij)]; exact hj
      obtain ⟨w6, s6⟩ := w5.rlset (l' := { l with dead := true }) hj5 p5 rfl
      exact ⟨_, p5.st.sti 12 (.bool true) (by simp [rgC]), hK _ _ w6 (((s13.trans s35).mono fun _ h => .inl h).trans (s6.mono fun _ h => .inr h))⟩
    · rw [if_pos h0] at hrun
      have hpp := Md.write_pend' mm ((place l.st l.n (l.next + e) : Nat) : Int) (markB ⟨l.head.round, l.next + e, kind.toNat, e, data.length⟩ (partOf data e))
      exact ⟨_, Wr.i64 (by omega) (by omega), needN data.length - (e + 1), by omega, e + 1, _, _, by omega, by omega, rfl, w5, s3.trans s35, by omega, hrun⟩
  · have hen : e = needN data.length := by omega
    subst hen
    have hal2 : al.length = needN data.length := by rw [← hal, recA_len]
    rw [List.drop_of_length_le (by omega)] at hrun
    have hrun' : runs m al = (0, mm) := hrun
    rw [hrun', if_pos rfl] at hK
    let l1 : Lg := { l with reserved := if fl then l.reserved - needN data.length else l.reserved }
    have hbl : b < h2.size := p2.st.lt
    refine ⟨fun hz => ∃ o' sr' sv' rs', Ow hz o' (upd (upd A i (Ass.rdisk p mm)) j (Ass.rlog (some (nA b)) p l1)) ∧ Stp (fun x => x = i ∨ x = j) h1 o hz o' ∧ RLg hz b p sr' sv' rs' (l1.recs.map (·.round)) l1 (fun x => o' x = j) ∧ Byt hz so data ∧ (∀ y, so.blk y → o' y = j ∧ y ≠ b ∧ ¬ sr'.blk y ∧ ¬ sv'.blk y ∧ y < hz.size), ?_, fun hf => ?_, fun hf => ?_⟩
    · rintro h4 ⟨o4, sr4, sv4, rs4, w4, s4, p4, by4, so4⟩
      let r : Rec := ⟨l.next, kind.toNat, data, l.head.round⟩
      have hl4 : sr4.len = l.recs.length := p4.len
      have hlv4 : sv4.len = l.recs.length := by have := p4.lenv; simp at this; exact this
      have erc : rcE (r, so) = [.int .i64 l.next, .int .i64 kind, so.v] := by
        show [_, Value.int .i64 ((kind.toNat : Nat) : Int), _] = _; rw [← hkn]
      have tmp := Bk.new h4 (rcE (r, so)) 128
      have k5 : Kp (fun _ => False) h4 (h4.push (Cel (rcE (r, so)) 128)) := Kp.push (Kp.refl _ _) _
      have p5 := p4.kp k5 fun _ _ _ h => h
      have s5sz : (h4.push (Cel (rcE (r, so)) 128)).size = h4.size + 1 := by simp
      rw [erc] at tmp k5 p5 s5sz
      refine ⟨sr4, p4.st.rdi 10 rfl, _, _, _, rfl, rfl, rfl, ?_⟩
      refine RLg.snocA (r := r) (s := so) (F := fun x => o4 x = j) (p5.mono fun x _ hx => hx.1) (by4.kp k5 fun _ _ h => h) (fun y hy => ?_) ⟨rfl, by rw [erc]; exact tmp.rd0⟩ rfl (by omega) fun sr' h7 b7 k7 hp7 => ?_
      · have := so4 y hy
        exact ⟨this.1, this.2.1, this.2.2.1, this.2.2.2.1, by omega⟩
      have k47 : Kp (fun x => o4 x = j) h4 h7 := (k5.mono fun _ _ h => h.elim).and k7 fun y hy => .inr (p4.fs y hy)
      refine ⟨_, b7.sti 10 sr'.v (by simp [rgC]), sv4, b7.set.rdi 11 rfl, l.head.round, b7.set.rdi 3 rfl, _, _, _, rfl, rfl, rfl, ?_⟩
      have p8 := hp7 { l1 with recs := l.recs ++ [r] } rfl
      have e8 : (Cel ((rgC p sr4 sv4 l1).set 10 sr'.v) 116 : Obj) = Cel (rgC p sr' sv4 { l1 with recs := l.recs ++ [r] }) 116 := rfl
      rw [e8]
      have k48 : Kp (fun x => o4 x = j) h4 (setB h7 b (Cel (rgC p sr' sv4 { l1 with recs := l.recs ++ [r] }) 116)) := k47.set _ (.inr p4.fb)
      generalize setB h7 b (Cel (rgC p sr' sv4 { l1 with recs := l.recs ++ [r] }) 116) = h8 at *
      have k9 : Kp (fun _ => False) h8 (h8.push (Cel [roV l.head.round] 2)) := Kp.push (Kp.refl _ _) _
      have p9 := p8.kp k9 fun _ _ _ h => h
      refine ⟨p9.st.rdi 11 rfl, ?_⟩
      refine RLg.snocB (r := l.head.round) (F := fun x => o4 x = j ∨ (h4.push (Cel [.int .i64 l.next, .int .i64 kind, so.v] 128)).size ≤ x) (p9.mono fun x _ hx => hx.1) ⟨rfl, (Bk.new h8 [roV l.head.round] 2).rd0⟩ rfl (by omega) fun sv' h10 b10 k10 hp10 => ?_
      have e134 : ((l.next + needN data.length : Nat) : Int) = (l.next : Int) + (needN data.length : Nat) := by omega
      let lf : Lg := { l1 with recs := l.recs ++ [r], next := l.next + needN data.length }
      refine ⟨_, b10.sti 11 sv'.v (by simp [rgC]), ((l.next + needN data.length : Nat) : Int), by rw [e134]; exact Wr.i64 (by omega) (by omega), _, b10.set.sti 7 (.int .i64 ((l.next + needN data.length : Nat) : Int)) (by simp [rgC]), ?_⟩
      rw [setB_setB]
      have p11 := hp10 lf rfl
      have e11 : (Cel (((rgC p sr' sv4 { l1 with recs := l.recs ++ [r] }).set 11 sv'.v).set 7 (.int .i64 ((l.next + needN data.length : Nat) : Int))) 116 : Obj) = Cel (rgC p sr' sv' lf) 116 := rfl
      rw [e11]
      have k11 : Kp (fun x => o4 x = j) h4 (setB h10 b (Cel (rgC p sr' sv' lf) 116)) := by
        have : Kp (fun x => o4 x = j) h4 h10 := (k48.trans (k9.mono fun _ _ h => h.elim)).and k10 fun y hy => .inr (p4.fv y hy)
        exact this.set _ (.inr p4.fb)
      have k48s := k48.size
      obtain ⟨w11, s11⟩ := w4.step (i := j) (B := Ass.rlog (some (nA b)) p lf) k11 ⟨b, sr', sv', _, rfl, by
        have e : lf.recs.map (·.round) = l1.recs.map (·.round) ++ [l.head.round] := by show (l.recs ++ [r]).map _ = _; simp [l1, r]
        rw [e]
        exact p11.mono fun x _ hx => by
          simp at hx
          rcases hx with (h1 | h1) | h1
          · exact .inl h1
          · exact .inr (by omega)
          · exact .inr (by omega)⟩
      rw [upd_upd] at w11
      exact hK _ _ w11 (s4.trans (s11.mono fun _ h => .inr h))
    · have hf2 : ¬ l.reserved < needN data.length := fun h => hres ⟨hf, h⟩
      have el1 : l1 = { l with reserved := l.reserved - needN data.length } := by show Lg.mk _ _ _ _ _ (if fl = true then _ else _) _ _ = _; rw [if_pos hf]
      obtain ⟨w4, s4⟩ := w3.rlset (l' := l1) hj3 p3 rfl
      have e2 : ((l.reserved - needN data.length : Nat) : Int) = (l.reserved : Int) - (needN data.length : Nat) := by omega
      have stt := p3.st.sti 9 (.int .i64 ((l.reserved - needN data.length : Nat) : Int)) (by simp [rgC])
      have k34 := (p3.head (l' := l1) rfl).2
      have p4 := (p3.head (l' := l1) rfl).1
      refine ⟨l.reserved, p3.st.rdi 9 rfl, ((l.reserved - needN data.length : Nat) : Int), by rw [e2]; exact Wr.i64 (by omega) (by omega), setB h3 b (Cel (rgC p sr sv l1) 116), ?_, _, sr, sv, rs, w4, (s13.mono fun _ h => .inl h).trans (s4.mono fun _ h => .inr h), ?_, ?_, fun y hy => ?_⟩
      · rw [el1]; exact stt
      · exact p4.mono fun x hx hh => by rw [size_set] at hx; rw [Gro.old hx]; exact hh
      · exact by3.kp k34 fun a ha e => by
          have h1 := n2 _ ⟨a, ha, rfl⟩
          have h2 := hp.st.lt
          omega
      · have h1 := n2 y hy
        have h2 := hp.st.lt
        have h3l := s3.size
        have h4l := lt2 y hy
        refine ⟨?_, by omega, fun hb => by have := hp.vec.lt hb; omega, fun hb => by have := hp.ves.lt hb; omega, by rw [size_set]; omega⟩
        rw [Gro.old (by omega), s3.own _ h4l]; exact oo2 y hy
    · have el1 : l1 = l := by show Lg.mk _ _ _ _ _ (if fl = true then _ else _) _ _ = _; rw [if_neg (by simp [hf])]
      rw [el1]
      refine ⟨o3, sr, sv, rs, by rw [upd_same hj3]; exact w3, s13.mono fun _ h => .inl h, p3, by3, fun y hy => ?_⟩
      have h1 := n2 y hy
      have h2 := hp.st.lt
      have h3l := s3.size
      have h4l := lt2 y hy
      refine ⟨?_, by omega, fun hb => by have := hp.vec.lt hb; omega, fun hb => by have := hp.ves.lt hb; omega, by omega⟩
      rw [s3.own _ h4l]; exact oo2 y hy
end
end Go.Proofs.YthpeadoidpimmaaGreat
