/- The program's log: Append, Records. No condition. -/
import Derived.Test.YthpeadoidpimmaaLogQ
namespace Go.Proofs.Ythpeadoidpimmaa
open Go Tw
set_option linter.unusedVariables false
set_option linter.unusedSimpArgs false
set_option maxRecDepth 10000
set_option maxHeartbeats 1000000

section
variable {h h1 h2 : Hp} {o : Nat → Nat} {A : Nat → Ass} {p q : Option Addr} {m : Md} {l l' : Lg} {st n i j : Nat}

theorem wal_Append_none_c {kind : Int} {sx : Sl} {fl : Bool} {K : Int → Int → Hp → Prop} (hK : K 0 1 h) : wal_Log_Append none kind sx fl K h := isN0 hK

theorem recA_drop (st n round p kind : Nat) (data : List UInt8) (c : Nat) (hc : c < needN data.length) :
    (recA st n round p kind data).drop c = .wr (place st n (p + c)) (markB ⟨round, p + c, kind, c, data.length⟩ (partOf data c)) :: (recA st n round p kind data).drop (c + 1) := by
  unfold recA
  rw [List.drop_eq_getElem_cons (by simp; exact hc)]
  simp
theorem partOf_len (data : List UInt8) (c : Nat) : (partOf data c).length ≤ 104 := by unfold partOf; simp; omega
theorem recA_len (st n round p kind : Nat) (data : List UInt8) : (recA st n round p kind data).length = needN data.length := by simp [recA]
theorem wal_Append_c {kind : Int} {sx : Sl} {data : List UInt8} {fl : Bool} {K : Int → Int → Hp → Prop} (w : Ow h o A) (hi : A i = Ass.disk p m) (hj : A j = Ass.log q p l) (hij : i ≠ j) (hw : l.Wf) (hin : l.st + l.n ≤ m.laid.length) (hcap : m.pend.length + 10000 < 1000000000000)
    (xb : Byt h sx data) (hxo : ∀ y, sx.blk y → o y ≠ i ∧ o y ≠ j)
    (hK : ∀ h' o', Ow h' o' (upd (upd A i (Ass.disk p (l.append m kind data fl).2.2)) j (Ass.log q p (l.append m kind data fl).2.1)) → Stp (fun x => x = i ∨ x = j) h o h' o' → K (l.append m kind data fl).1.1 (l.append m kind data fl).1.2 h') : wal_Log_Append q kind sx fl K h := by
  obtain ⟨b, sr, rs, rfl, hp⟩ := w.log hj
  have hwf := (w.disk hi).wf
  have hn4 := hw.n4
  have hnm := hw.nm
  have hrd := hw.rd
  have hnx := hw.nx
  have hroom := hw.room
  have hlo := hw.lo
  have hcle := Chain.le hw.ch
  have hxl := xb.len
  have keep : ∀ e : Int, l.append m kind data fl = ((0, e), l, m) → ∀ hx, Kp (fun _ => False) h hx → K 0 e hx := fun e he hx kx => by
    rw [he] at hK
    obtain ⟨w1, s1⟩ := w.fresh j kx
    exact hK hx _ (by rw [upd_same hi, upd_same hj]; exact w1) (s1.mono fun _ h => h.elim)
  refine isN ⟨fun c hx => hx = h ∧ c = decide (kind < 1 ∨ 255 < kind ∨ 32768 < data.length), ?_, dcd (fun h1 => ⟨rfl, by symm; simp only [decide_eq_true_eq]; omega⟩) (fun h1 => dcd (fun h2 => ⟨rfl, by symm; simp only [decide_eq_true_eq]; omega⟩) (fun h2 => ⟨rfl, by rw [Bool.eq_iff_iff]; simp only [decide_eq_true_eq]; omega⟩))⟩
  rintro c hx0 ⟨rfl, rfl⟩
  refine dcd (fun hbad => keep 32 (by unfold Lg.append; rw [if_pos hbad]) _ (Kp.refl _ _)) (fun hgood => ?_)
  have hdl : data.length ≤ 32768 := by omega
  have hnl := needN_le _ hdl
  have hnp := needN_pos data.length
  rw [hxl]
  refine wal_Need_c ?_
  rw [need_nat _ hdl]
  refine ⟨nA b, rfl, l.dead, hp.st.rdi 11 rfl, fun hd => keep 2 (by unfold Lg.append; rw [if_neg hgood, if_pos hd]) _ (Kp.refl _ _), fun hd => ?_⟩
  have hd' : ¬ l.dead = true := by simp [hd]
  refine ⟨fun c hx => hx = hx0 ∧ c = decide (fl = true ∧ l.reserved < needN data.length), ?_, fun hf => ⟨l.reserved, hp.st.rdi 9 rfl, rfl, by rw [Bool.eq_iff_iff]; simp only [decide_eq_true_eq, hf, true_and]; omega⟩, fun hf => ⟨rfl, by simp [hf]⟩⟩
  rintro c hx ⟨rfl, rfl⟩
  refine dcd (fun hbad => keep 34 (by unfold Lg.append; rw [if_neg hgood, if_neg hd', if_pos hbad]) _ (Kp.refl _ _)) (fun hres => ?_)
  refine ⟨fun c h1 => Kp (fun _ => False) hx h1 ∧ c = decide (fl = false ∧ l.free < needN data.length), ?_, fun hf => wal_free_c hp.st hw fun h1 k1 => ⟨k1, by
    have hf' : fl = false := by cases fl <;> simp at hf ⊢
    rw [Bool.eq_iff_iff]; simp only [decide_eq_true_eq, hf', true_and]; omega⟩, fun hf => ⟨Kp.refl _ _, by cases fl <;> simp at hf ⊢⟩⟩
  rintro c h1 ⟨k1, rfl⟩
  have b1 := hp.st.kp k1 fun h => h
  refine ⟨fun c h2 => h2 = h1 ∧ c = decide ((fl = false ∧ l.free < needN data.length) ∨ 1099511627776 < l.next + needN data.length - 1), ?_, fun hc => ⟨rfl, by
    have hc' : fl = false ∧ l.free < needN data.length := of_decide_eq_true hc
    rw [hc]; symm; simp only [decide_eq_true_eq]; exact .inl hc'⟩, fun hc => ⟨l.next, b1.rdi 7 rfl, (l.next : Int) + (needN data.length : Nat), Wr.i64 (by omega) (by omega), _, Wr.i64 (by omega) (by omega), rfl, by
    have hc' : ¬ (fl = false ∧ l.free < needN data.length) := of_decide_eq_false hc
    rw [Bool.eq_iff_iff]; simp only [decide_eq_true_eq]
    constructor
    · intro h; exact .inr (by omega)
    · rintro (h | h)
      · exact absurd h hc'
      · omega⟩⟩
  rintro c h2 ⟨rfl, rfl⟩
  refine dcd (fun hbad => keep 31 (by unfold Lg.append; rw [if_neg hgood, if_neg hd', if_neg hres, if_pos hbad]) _ k1) (fun hfit => ?_)
  have hkn : kind = ((kind.toNat : Nat) : Int) := by omega
  have happ : l.append m kind data fl = (let y := runs m (recA l.st l.n l.head.round l.next kind.toNat data); if y.1 = 0 then (((l.next : Int), 0), { l with reserved := if fl then l.reserved - needN data.length else l.reserved, recs := l.recs ++ [⟨l.next, kind.toNat, data, l.head.round⟩], next := l.next + needN data.length }, y.2) else ((0, y.1), { l with dead := true }, y.2)) := by
    unfold Lg.append; rw [if_neg hgood, if_neg hd', if_neg hres, if_neg hfit]
  rw [happ] at hK
  simp only at hK
  generalize hal : recA l.st l.n l.head.round l.next kind.toNat data = al at *
  obtain ⟨w2, s2⟩ := w.fresh j k1
  -- the writes
  refine ⟨fun k i' hy => ∃ (c : Nat) (mm : Md) (o' : Nat → Nat), i' = c ∧ c ≤ needN data.length ∧ k = needN data.length - c ∧ Ow hy o' (upd A i (Ass.disk p mm)) ∧ Stp (fun x => x = i) hx o hy o' ∧ mm.pend.length ≤ m.pend.length + c ∧ runs m al = runs mm (al.drop c),
    ⟨_, 0, m, _, rfl, by omega, rfl, by rw [upd_same hi]; exact w2, s2.mono fun _ h => h.elim, by omega, rfl⟩, ?_⟩
  rintro k i' h3 ⟨c, mm, o3, rfl, hc, rfl, w3, s3, hpm, hrun⟩
  have p3 := PLg.own hp s3 (Ne.symm hij)
  have hj3 : (upd A i (Ass.disk p mm)) j = Ass.log (some (nA b)) p l := by rw [upd_ne (Ne.symm hij)]; exact hj
  have x3 : Byt h3 sx data := xb.kp s3.kp fun a ha e => (hxo _ ⟨a, ha, rfl⟩).1 e
  refine dcd (fun hlt => ?_) (fun hge => ?_)
  · have hc' : c < needN data.length := by omega
    have h104 := needN_in hc'
    let mk : Mk := ⟨l.head.round, l.next + c, kind.toNat, c, data.length⟩
    have e52 : ((l.next + c : Nat) : Int) = (l.next : Int) + c := by omega
    have hb := Bk.new h3 (mkC ⟨0, 0, 0, 0, 0⟩) 177
    have k4 : Kp (fun _ => False) h3 (setB (h3.push (Cel (mkC ⟨0, 0, 0, 0, 0⟩) 177)) h3.size (Cel (mkC mk) 177)) := Kp.set (F := fun _ => False) (Kp.push (Kp.refl _ _) _) _ (.inl (Nat.le_refl _))
    have hbs : Bk (setB (h3.push (Cel (mkC ⟨0, 0, 0, 0, 0⟩) 177)) h3.size (Cel (mkC mk) 177)) h3.size (mkC mk) 177 := hb.set
    have bz := p3.st.push (Cel (mkC ⟨0, 0, 0, 0, 0⟩) 177)
    refine ⟨l.head.round, p3.st.rd2 3 0 rfl, l.next, p3.st.rdi 7 rfl, ((l.next + c : Nat) : Int), by rw [e52]; exact Wr.i64 (by omega) (by omega), ((kind.toNat : Nat) : Int), ?_, _, _, rfl, rfl, bz.rdi 7 rfl, bz.rd2 3 0 rfl, setB (h3.push (Cel (mkC ⟨0, 0, 0, 0, 0⟩) 177)) h3.size (Cel (mkC mk) 177), hb.st0 (vs := mkC mk) rfl, ?_⟩
    · unfold Wr; rw [wrap_u8]; omega
    obtain ⟨w4, s4⟩ := w3.fresh j k4
    have p4 := PLg.own p3 s4 (by simp)
    have s24 := s3.trans (s4.mono (T := fun x => x = i) fun _ h => h.elim)
    have x4 : Byt (setB (h3.push (Cel (mkC ⟨0, 0, 0, 0, 0⟩) 177)) h3.size (Cel (mkC mk) 177)) sx data := x3.kp k4 fun _ _ h => h
    have ob4 : Gro o3 j h3 h3.size = j := by simp [Gro]
    generalize setB (h3.push (Cel (mkC ⟨0, 0, 0, 0, 0⟩) 177)) h3.size (Cel (mkC mk) 177) = h4 at *
    generalize Gro o3 j h3 = o4 at *
    generalize h3.size = qm at *
    have hml : (markB mk (partOf data c)).length = 128 := markB_len _ _ (partOf_len _ _)
    refine ⟨fun bb hy => Kp (fun _ => False) h4 hy ∧ Bk hy bb ((markB mk (partOf data c)).map bv) 178, ?_, ?_⟩
    · rintro bb h5 ⟨k5, bb5⟩
      obtain ⟨w5, s5⟩ := w4.fresh j k5
      have p5 := PLg.own p4 s5 (by simp)
      have s25 := s24.trans (s5.mono (T := fun x => x = i) fun _ h => h.elim)
      refine ⟨p, l.st, l.n, p5.st.rdk 0 (arC p l.st l.n) rfl, p, l.st, l.n, p5.st.rdk 0 (arC p l.st l.n) rfl, ((l.next + c : Nat) : Int), (hbs.kp k5 fun h => h).rdi 1 rfl, _, hml, bb5.rd0, ?_⟩
      refine wal_place_c hn4 (by omega) (by omega) (by omega) fun h6 k6 => ?_
      obtain ⟨w6, s6⟩ := w5.fresh j k6
      have p6 := PLg.own p5 s6 (by simp)
      have s26 := s25.trans (s6.mono (T := fun x => x = i) fun _ h => h.elim)
      refine ⟨(bb5.kp k6 fun h => h).rd0, p6.st.rdk 0 (arC p l.st l.n) rfl, ?_⟩
      have hdrop := recA_drop l.st l.n l.head.round l.next kind.toNat data c hc'
      rw [hal] at hdrop
      rw [hdrop, runs_cons] at hrun
      have er : (DAct.wr (place l.st l.n (l.next + c)) (markB mk (partOf data c))).run mm = mm.write ((place l.st l.n (l.next + c) : Nat) : Int) (markB mk (partOf data c)) := rfl
      have er' : (DAct.wr (place l.st l.n (l.next + c)) (markB ⟨l.head.round, l.next + c, kind.toNat, c, data.length⟩ (partOf data c))).run mm = mm.write ((place l.st l.n (l.next + c) : Nat) : Int) (markB mk (partOf data c)) := rfl
      rw [er'] at hrun
      refine wal_write_c (i := i) j w6 upd_eq (Ne.symm hij) hml (by omega) fun h7 o7 w7 s7 => ?_
      rw [upd_upd] at w7
      have p7 := PLg.own p6 s7 (Ne.symm hij)
      have s27 := s26.trans s7
      have hj7 : (upd A i (Ass.disk p (mm.write ((place l.st l.n (l.next + c) : Nat) : Int) (markB mk (partOf data c))).2)) j = Ass.log (some (nA b)) p l := by rw [upd_ne (Ne.symm hij)]; exact hj
      refine wal_died_c w7 hj7 p7 (fun h0 => ?_) (fun hne h8 o8 w8 s8 => ?_)
      · rw [if_pos h0] at hrun
        have hpp := Md.write_pend' mm ((place l.st l.n (l.next + c) : Nat) : Int) (markB mk (partOf data c))
        exact dcn (fun h => (h rfl).elim) (fun _ => ⟨_, Wr.i64 (by omega) (by omega), needN data.length - (c + 1), by omega, c + 1, _, o7, by omega, by omega, rfl, w7, s27, by omega, hrun⟩)
      · rw [if_neg hne] at hrun
        rw [hrun, if_neg hne] at hK
        exact dcn (fun _ => hK h8 o8 w8 ((s27.mono fun _ h => .inl h).trans (s8.mono fun _ h => .inr h))) (fun h => (hne h).elim)
    · have hcut := Byt.cut x4 (lo := 104 * c) (hi := min (104 * (c + 1)) data.length) (by omega) (by omega)
      have epart : (data.drop (104 * c)).take (min (104 * (c + 1)) data.length - 104 * c) = partOf data c := by
        unfold partOf
        have e1 : min (104 * (c + 1)) data.length - 104 * c = min 104 (data.length - 104 * c) := by omega
        rw [e1]
        rcases Nat.le_total 104 (data.length - 104 * c) with h1 | h1
        · rw [Nat.min_eq_left h1]
        · rw [Nat.min_eq_right h1, List.take_of_length_le (by simp), List.take_of_length_le (by simp; omega)]
      rw [epart] at hcut
      have hcapx := x4.cap
      have hm1 : min (104 * (c + 1)) data.length ≤ data.length := Nat.min_le_right _ _
      have hm2 : 104 * c ≤ min (104 * (c + 1)) data.length := by omega
      refine ⟨_, _, _, _, _, hbs.rd0, 104 * (c : Int), Wr.i64 (by omega) (by omega), ((104 * c : Nat) : Int), ?_, (c : Int) + 1, Wr.i64 (by omega) (by omega), 104 * ((c : Int) + 1), Wr.i64 (by omega) (by omega), ((min (104 * (c + 1)) data.length : Nat) : Int), ?_, by omega, by omega, by omega, _, rfl, ?_, ?_⟩
      · split <;> omega
      · split <;> omega
      · rw [Int.toNat_natCast, Int.toNat_natCast]
        refine wal_markB_c (m := mk) (by show l.head.round < _; omega) (by show l.next + c < _; omega) (by show kind.toNat < _; omega) (by show c < _; omega) (by show data.length < _; omega) hcut (partOf_len _ _) fun h5 k5 => ?_
        have hb5 := Bk.new h5 ((List.replicate 128 (0 : UInt8)).map bv) 178
        refine ⟨_, _, rfl, rfl, _, hml, hb5.st0 (by simp [hml]), (k5.push _).set _ (.inl k5.size), hb5.set⟩
      · have hb5 := Bk.new h4 ((List.replicate 128 (0 : UInt8)).map bv) 178
        have kz : Kp (fun _ => False) h4 (h4.push (Cel ((List.replicate 128 (0 : UInt8)).map bv) 178)) := Kp.push (Kp.refl _ _) _
        refine ⟨_, _, rfl, rfl, (hbs.push _).rd0, ?_⟩
        rw [Int.toNat_natCast, Int.toNat_natCast]
        refine wal_markB_c (m := mk) (by show l.head.round < _; omega) (by show l.next + c < _; omega) (by show kind.toNat < _; omega) (by show c < _; omega) (by show data.length < _; omega) (hcut.kp kz fun _ _ h => h) (partOf_len _ _) fun h5 k5 => ?_
        have hb6 := hb5.kp k5 fun h => h
        exact ⟨_, hml, hb6.st0 (by simp [hml]), (kz.trans k5).set _ (.inl (Nat.le_refl _)), hb6.set⟩
  · have hcn : c = needN data.length := by omega
    subst hcn
    have hal2 : al.length = needN data.length := by rw [← hal, recA_len]
    rw [List.drop_of_length_le (by omega)] at hrun
    have hrun' : runs m al = (0, mm) := hrun
    rw [hrun', if_pos rfl] at hK
    let l1 : Lg := { l with reserved := if fl then l.reserved - needN data.length else l.reserved }
    refine ⟨fun hy => ∃ o', Ow hy o' (upd (upd A i (Ass.disk p mm)) j (Ass.log (some (nA b)) p l1)) ∧ Stp (fun x => x = i ∨ x = j) hx o hy o', ?_, fun hf => ?_, fun hf => ?_⟩
    · rintro h4 ⟨o4, w4, s4⟩
      obtain ⟨b', sr4, rs4, hb', p4⟩ := w4.log upd_eq
      cases hb'
      have x4 : Byt h4 sx data := xb.kp s4.kp fun a ha e => by rcases e with e | e; exact (hxo _ ⟨a, ha, rfl⟩).1 e; exact (hxo _ ⟨a, ha, rfl⟩).2 e
      obtain ⟨h5, r5, st5, k5, bk5, by5, vec5, sz5⟩ := copy_mk x4
      rw [hxl] at r5 st5 by5 vec5
      refine ⟨by omega, by omega, by omega, _, _, _, rfl, rfl, rfl, data.map bv, h5, _, ?_, oneC_bytes _, ?_, rfl, ?_⟩
      · rw [Int.toNat_natCast]; exact r5
      · rw [Int.toNat_natCast]; exact st5
      rw [Int.toNat_natCast]
      have p5 := p4.kp k5 fun _ _ _ h => h
      have b5 := p5.st
      let r : Rec := ⟨l.next, kind.toNat, data, l.head.round⟩
      have hl5 := p5.len
      have hl5' : sr4.len = l.recs.length := hl5
      have tmp := Bk.new h5 (recE (r, ⟨some (nA h4.size), data.length, data.length⟩)) 184
      have k6 : Kp (fun _ => False) h5 (h5.push (Cel (recE (r, ⟨some (nA h4.size), data.length, data.length⟩)) 184)) := Kp.push (Kp.refl _ _) _
      have erec : recE (r, ⟨some (nA h4.size), data.length, data.length⟩) = [.int .i64 l.next, .int .i64 kind, (⟨some (nA h4.size), data.length, data.length⟩ : Sl).v, .int .i64 l.head.round] := by
        show [_, Value.int .i64 ((kind.toNat : Nat) : Int), _, _] = _; rw [← hkn]
      have p6 := p5.kp k6 fun _ _ _ h => h
      rw [erec] at tmp k6 p6
      refine ⟨sr4, b5.rdi 10 rfl, l.next, b5.rdi 7 rfl, l.head.round, b5.rd2 3 0 rfl, _, _, _, rfl, rfl, rfl, p6.st.rdi 10 rfl, ?_⟩
      have hbl4 := p4.st.lt
      refine PLg.snoc (r := r) (s := ⟨some (nA h4.size), data.length, data.length⟩) (F := fun x => (o4 x = j ∧ x < h4.size) ∨ h4.size ≤ x) (p6.mono fun x _ hx => .inl hx.1) (by5.kp k6 fun _ _ h => h) (fun y hy => ?_) ⟨rfl, by rw [erec]; exact tmp.rd0⟩ rfl (by rw [hl5']; omega) fun sr' h7 b7 k7 hp7 => ?_
      · obtain ⟨a, ha, rfl⟩ := hy
        cases ha
        refine ⟨.inr (Nat.le_refl _), by show h4.size ≠ b; omega, fun hbk => by have := p4.vec.lt hbk; exact absurd this (Nat.lt_irrefl _), ?_⟩
        show h4.size < _
        simp; omega
      have e79 : ((l.next + needN data.length : Nat) : Int) = (l.next : Int) + (needN data.length : Nat) := by omega
      refine ⟨_, b7.sti 10 sr'.v (by simp [lgC]), l.next, b7.set.rdi 7 rfl, l.next, b7.set.rdi 7 rfl, ((l.next + needN data.length : Nat) : Int), by rw [e79]; exact Wr.i64 (by omega) (by omega), _, b7.set.sti 7 (.int .i64 ((l.next + needN data.length : Nat) : Int)) (by simp [lgC]), ?_⟩
      rw [setB_setB]
      have p8 := hp7 { l1 with recs := l.recs ++ [r], next := l.next + needN data.length } rfl
      have k8 : Kp (fun x => o4 x = j) h4 (setB h7 b (Cel (lgC p sr' { l1 with recs := l.recs ++ [r], next := l.next + needN data.length }) 175)) := by
        have k47 : Kp (fun x => o4 x = j) h4 h7 := ((k5.trans k6).mono fun _ _ h => h.elim).and k7 fun y hy => .inr (p4.fs y hy)
        exact k47.set _ (.inr p4.fb)
      obtain ⟨w8, s8⟩ := w4.step (i := j) (B := Ass.log (some (nA b)) p { l1 with recs := l.recs ++ [r], next := l.next + needN data.length }) k8 ⟨b, sr', _, rfl, p8.mono fun x _ hx => by
        rcases hx with (⟨h1, _⟩ | h1) | h1
        · exact .inl h1
        · exact .inr h1
        · simp at h1; exact .inr (by omega)⟩
      rw [upd_upd] at w8
      exact hK _ _ w8 (s4.trans (s8.mono fun _ h => .inr h))
    · have hf2 : ¬ l.reserved < needN data.length := fun h => hres ⟨hf, h⟩
      have el1 : l1 = { l with reserved := l.reserved - needN data.length } := by show Lg.mk _ _ _ _ _ (if fl = true then _ else _) _ _ = _; rw [if_pos hf]
      obtain ⟨w4, s4⟩ := w3.lset (l' := l1) hj3 p3 rfl
      have e2 : ((l.reserved - needN data.length : Nat) : Int) = (l.reserved : Int) - (needN data.length : Nat) := by omega
      have stt := p3.st.sti 9 (.int .i64 ((l.reserved - needN data.length : Nat) : Int)) (by simp [lgC])
      refine ⟨l.reserved, p3.st.rdi 9 rfl, ((l.reserved - needN data.length : Nat) : Int), by rw [e2]; exact Wr.i64 (by omega) (by omega), setB h3 b (Cel (lgC p sr l1) 175), ?_, _, w4, (s3.mono fun _ h => .inl h).trans (s4.mono fun _ h => .inr h)⟩
      rw [el1]; exact stt
    · have el1 : l1 = l := by show Lg.mk _ _ _ _ _ (if fl = true then _ else _) _ _ = _; rw [if_neg (by simp [hf])]
      rw [el1]
      exact ⟨o3, by rw [upd_same hj3]; exact w3, s3.mono fun _ h => .inl h⟩

end
end Go.Proofs.Ythpeadoidpimmaa
