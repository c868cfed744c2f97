/- The program's log: Append, Cut, Records. No condition. -/
import Derived.Test.YthpeadoidpimmaaLogS
namespace Tw
open Go
set_option linter.unusedVariables false
theorem goneN_found : ∀ {rs : List Rec} {k c : Nat} {x : Rec}, (∀ (i : Nat) (y : Rec), i < c → rs[i]? = some y → y.lsn ≠ k) → rs[c]? = some x → x.lsn = k → goneN rs k = some c
  | [], k, c, x, _, h, _ => by simp at h
  | y :: r, k, 0, x, _, h, hx => by
    simp at h; subst h
    unfold goneN; rw [if_pos hx]
  | y :: r, k, c + 1, x, hn, h, hx => by
    unfold goneN
    rw [if_neg (hn 0 y (by omega) rfl), goneN_found (c := c) (fun i z hi hz => hn (i + 1) z (by omega) (by simpa using hz)) (by simpa using h) hx]
    rfl
theorem goneN_none : ∀ {rs : List Rec} {k : Nat}, (∀ (i : Nat) (y : Rec), rs[i]? = some y → y.lsn ≠ k) → goneN rs k = none
  | [], k, _ => rfl
  | y :: r, k, hn => by
    unfold goneN
    rw [if_neg (hn 0 y rfl), goneN_none fun i z hz => hn (i + 1) z (by simpa using hz)]
    rfl
theorem Vec.cutRd {h : Hp} {s : Sl} {n : Nat} {el : TypeId} {cs : List Value} (hv : Vec h s n el cs) {k : Nat} (hk : k ≤ s.len) : RdS h (slS s n k s.len) n (cs.drop (k * n)) := by
  have hl := hv.len
  have hc := hv.cap
  have hr := hv.rd
  unfold RdS
  cases hp : s.p with
  | none =>
    rw [hp] at hr
    have : (slS s n k s.len).p = none := by simp only [slS, hp]; split <;> rfl
    rw [this]
    refine ⟨by simp only [slS]; omega, ?_⟩
    have : cs = [] := List.length_eq_zero_iff.1 (by rw [hl, hr.1]; simp)
    rw [this]; simp
  | some a =>
    have e2 : (cs.drop (k * n)).length = (slS s n k s.len).len * n := by simp only [slS, List.length_drop, hl, Nat.sub_mul]
    by_cases hck : s.cap = k
    · have : (slS s n k s.len).p = some a := by simp only [slS, hp, if_pos hck]
      rw [this]
      refine ⟨e2, ?_⟩
      have : cs.drop (k * n) = [] := List.drop_of_length_le (by rw [hl]; exact Nat.mul_le_mul_right n (by omega))
      rw [this]
      intro j v hj; simp at hj
    · have : (slS s n k s.len).p = some (a.add (k * n)) := by simp only [slS, hp, if_neg hck, Option.map_some]
      rw [this]
      refine ⟨e2, hv.rdl hp fun j v hj => ?_⟩
      rwa [List.getElem?_drop] at hj
end Tw
namespace Go.Proofs.Ythpeadoidpimmaa
open Go Tw
set_option linter.unusedVariables false
set_option linter.unusedSimpArgs false
set_option maxRecDepth 10000
set_option maxHeartbeats 1000000

section
variable {h h1 h2 : Hp} {o : Nat → Nat} {A : Nat → Ass} {p q : Option Addr} {m : Md} {l l' : Lg} {st n i j : Nat}

theorem wal_gone_c {b : Nat} {sr : Sl} {rs : List (Rec × Sl)} {F : Nat → Prop} {lsn : Int} {K : Int → Bool → Hp → Prop} (hp : PLg h b p sr rs l F) (hw : l.Wf)
    (hK1 : ∀ k h', l.gone lsn = some k → Kp (fun _ => False) h h' → K (k : Nat) true h') (hK0 : l.gone lsn = none → ∀ x h', Kp (fun _ => False) h h' → K x false h') : wal_Log_gone (some (nA b)) lsn K h := by
  have hlo := hw.lo
  have hlen := hp.len
  have hrlen := hp.rlen
  have hle := Chain.le hw.ch
  have hnx := hw.nx
  refine ⟨fun c hx => hx = h ∧ c = decide (lsn < l.head.lsn ∨ (l.durable : Int) < lsn), ?_, nA b, rfl, l.head.lsn, hp.st.rd2 3 1 rfl, dcd (fun h1 => ⟨rfl, by simp [h1]⟩) (fun h1 => ⟨l.durable, hp.st.rdi 8 rfl, rfl, by simp [h1]⟩)⟩
  rintro c hx ⟨rfl, rfl⟩
  refine dcd (fun hbad => hK0 (by unfold Lg.gone; rw [if_pos hbad]) _ _ (Kp.refl _ _)) (fun hgood => ⟨nA b, rfl, sr, hp.st.rdi 10 rfl, ?_⟩)
  have hg : l.gone lsn = (match goneN l.recs lsn.toNat with | some i => some i | none => if lsn = l.next then some l.recs.length else none) := by unfold Lg.gone; rw [if_neg hgood]; rfl
  refine ⟨fun k i hy => ∃ c : Nat, i = c ∧ c ≤ l.recs.length ∧ k = l.recs.length - c ∧ Kp (fun _ => False) hx hy ∧ ∀ i y, i < c → l.recs[i]? = some y → y.lsn ≠ lsn.toNat, ⟨_, 0, rfl, by omega, rfl, Kp.refl _ _, fun i y hi => by omega⟩, ?_⟩
  rintro k i hy ⟨c, rfl, hc, rfl, ky, hn⟩
  have py := hp.kp ky fun _ _ _ h => h
  refine dcd (fun hlt => ?_) (fun hge => ?_)
  · have hc' : c < l.recs.length := by omega
    obtain ⟨x, hx1⟩ : ∃ x, rs[c]? = some x := ⟨rs[c]'(by omega), by rw [List.getElem?_eq_getElem]⟩
    have hx2 : l.recs[c]? = some x.1 := by rw [← hp.rl, List.getElem?_map, hx1]; rfl
    obtain ⟨a, ha, hr⟩ := py.at_ hx1
    have hb := Bk.new hy [.int .i64 0, .int .i64 0, .slice none 0 0, .int .i64 0] 184
    have kz : Kp (fun _ => False) hx (setB (hy.push (Cel [.int .i64 0, .int .i64 0, .slice none 0 0, .int .i64 0] 184)) hy.size (Cel (recE x) 184)) := (ky.push _).set _ (.inl ky.size)
    refine ⟨a, ha, by omega, by omega, x.1.lsn, x.1.kind, x.2, x.1.round, by rw [Int.toNat_natCast]; exact hr, _, _, rfl, rfl, _, hb.st0 (vs := recE x) rfl, x.1.lsn, hb.set.rd2 0 0 rfl, dcb (fun he => ?_) (fun hne => ?_)⟩
    · refine hK1 c _ ?_ kz
      rw [hg, goneN_found hn hx2 (by omega)]
    · refine ⟨_, Wr.i64 (by omega) (by omega), l.recs.length - (c + 1), by omega, c + 1, by omega, by omega, rfl, kz, fun i y hi hy => ?_⟩
      by_cases e : i = c
      · subst e; rw [hx2] at hy; cases hy; omega
      · exact hn i y (by omega) hy
  · have hcl : c = l.recs.length := by omega
    have hno := goneN_none (rs := l.recs) (k := lsn.toNat) fun i y hy => hn i y (by have := (List.getElem?_eq_some_iff.1 hy).1; omega) hy
    rw [hno] at hg
    simp only at hg
    refine ⟨sr, py.st.rdi 10 rfl, l.next, py.st.rdi 7 rfl, ?_⟩
    by_cases he : lsn = l.next
    · have : (lsn == (l.next : Int)) = true := by simp [he]
      rw [this, hlen]
      exact hK1 _ _ (by rw [hg, if_pos he]) ky
    · have : (lsn == (l.next : Int)) = false := by simp [he]
      rw [this]
      exact hK0 (by rw [hg, if_neg he]) _ _ ky

theorem wal_Cut_none_c {k : Int} {K : Int → Hp → Prop} (hK : K 1 h) : wal_Log_Cut none k K h := isN0 hK

theorem gone_le {lsn : Int} {k : Nat} (hw : l.Wf) (hg : l.gone lsn = some k) : k ≤ l.recs.length ∧ (l.head.lsn : Int) ≤ lsn ∧ lsn ≤ l.durable ∧ Chain (l.recs.drop k) lsn.toNat l.next := by
  unfold Lg.gone at hg
  split at hg
  · cases hg
  · rename_i hh
    split at hg
    · rename_i i hi
      cases hg
      have := Chain.drop hw.ch hi
      exact ⟨by omega, by omega, by omega, this.1⟩
    · split at hg
      · rename_i he
        cases hg
        refine ⟨Nat.le_refl _, by omega, by omega, ?_⟩
        rw [List.drop_of_length_le (Nat.le_refl _)]
        show lsn.toNat = l.next
        omega
      · cases hg

theorem wal_Cut_c {lsn : Int} {K : Int → Hp → Prop} (w : Ow h o A) (hi : A i = Ass.disk p m) (hj : A j = Ass.log q p l) (hij : i ≠ j) (hw : l.Wf) (hcap : m.pend.length < 1000000000000)
    (hK : ∀ h' o', Ow h' o' (upd (upd A i (Ass.disk p (l.cut m lsn).2.2)) j (Ass.log q p (l.cut m lsn).2.1)) → Stp (fun x => x = i ∨ x = j) h o h' o' → K (l.cut m lsn).1 h') : wal_Log_Cut q lsn K h := by
  obtain ⟨b, sr, rs, rfl, hp⟩ := w.log hj
  have hwf := (w.disk hi).wf
  have hnm := hw.nm
  have htn := hw.tn
  have hrd := hw.rd
  have hlen := hp.len
  have hrlen := hp.rlen
  have hnx := hw.nx
  have hdu := hw.du
  have hcle := Chain.le hw.ch
  have hroom := hw.room
  have keep : ∀ e : Int, l.cut m lsn = (e, l, m) → ∀ hx, Kp (fun _ => False) h hx → K e hx := fun e he hx kx => by
    rw [he] at hK
    obtain ⟨w1, s1⟩ := w.fresh j kx
    exact hK hx _ (by rw [upd_same hi, upd_same hj]; exact w1) (s1.mono fun _ h => h.elim)
  refine isN ⟨nA b, rfl, l.dead, hp.st.rdi 11 rfl, fun hd => keep 2 (by unfold Lg.cut; rw [if_pos hd]) _ (Kp.refl _ _), fun hd => ?_⟩
  have hd' : ¬ l.dead = true := by simp [hd]
  refine wal_gone_c hp hw (fun k h1 hg k1 => ?_) (fun hg x h1 k1 => ⟨fun _ => keep 33 (by unfold Lg.cut; rw [if_neg hd', hg]) _ k1, fun h => (nomatch h)⟩)
  refine ⟨fun h => (nomatch h), fun _ => ?_⟩
  obtain ⟨hkl, hl1, hl2, hch⟩ := gone_le hw hg
  have b1 := hp.st.kp k1 fun h => h
  refine ⟨l.head.lsn, b1.rd2 3 1 rfl, dcb (fun he => keep 0 (by unfold Lg.cut; rw [if_neg hd', hg]; simp only; rw [if_pos he]) _ k1) (fun hne => ⟨l.head.turn, b1.rd2 3 2 rfl, ?_⟩)⟩
  refine ⟨fun c hx => hx = h1 ∧ c = decide (l.head.turn = 1099511627776 ∨ 1099511627776 < lsn), ?_, dcb (fun ht => ⟨rfl, by rw [ht]; simp; omega⟩) (fun ht => ⟨rfl, by rw [Bool.eq_iff_iff]; simp only [decide_eq_true_eq]; omega⟩)⟩
  rintro c hx ⟨rfl, rfl⟩
  refine dcd (fun hbad => keep 31 (by unfold Lg.cut; rw [if_neg hd', hg]; simp only; rw [if_neg hne, if_pos hbad]) _ k1) (fun hgood => ?_)
  -- the head
  let fl : Nat := ((l.recs[k]?).map (·.round)).getD l.head.round
  let hn : Hd := ⟨l.head.round, lsn.toNat, l.head.turn + 1, fl⟩
  have hcut : l.cut m lsn = (let y := runs m (layA l.st l.n hn); if y.1 = 0 then (0, { l with head := hn, recs := l.recs.drop k, durable := l.next }, y.2) else (y.1, { l with dead := true }, y.2)) := by
    unfold Lg.cut; rw [if_neg hd', hg]; simp only; rw [if_neg hne, if_neg hgood]
  rw [hcut] at hK
  simp only at hK
  have elsn : ((lsn.toNat : Nat) : Int) = lsn := by omega
  have W : Wr .i64 ((l.head.turn : Int) + 1) ((l.head.turn + 1 : Nat) : Int) := by
    have : ((l.head.turn + 1 : Nat) : Int) = (l.head.turn : Int) + 1 := by omega
    rw [this]; exact Wr.i64 (by omega) (by omega)
  obtain ⟨w1, s1⟩ := w.fresh j k1
  have hb := Bk.new hx (hdO none) 170
  have bz := b1.push (Cel (hdO none) 170)
  let hn0 : Hd := ⟨l.head.round, lsn.toNat, l.head.turn + 1, l.head.round⟩
  have kz : Kp (fun _ => False) hx (setB (hx.push (Cel (hdO none) 170)) hx.size (Cel (hdC hn0) 170)) := Kp.set (F := fun _ => False) (Kp.push (Kp.refl _ _) _) _ (.inl (Nat.le_refl _))
  have st0 := hb.st0 (vs := [.int .i64 l.head.round, .int .i64 lsn, .int .i64 ((l.head.turn + 1 : Nat) : Int), .int .i64 l.head.round]) rfl
  have ehd : ([.int .i64 l.head.round, .int .i64 lsn, .int .i64 ((l.head.turn + 1 : Nat) : Int), .int .i64 l.head.round] : List Value) = hdC hn0 := by
    show _ = [_, _, _, _]; rw [← elsn]
  rw [ehd] at st0
  have l1 := b1.lt
  refine ⟨l.head.round, b1.rd2 3 0 rfl, l.head.turn, b1.rd2 3 2 rfl, _, W, l.head.round, b1.rd2 3 0 rfl, _, _, rfl, rfl, bz.rd2 3 0 rfl, bz.rd2 3 2 rfl, bz.rd2 3 0 rfl, setB (hx.push (Cel (hdO none) 170)) hx.size (Cel (hdC hn0) 170), ?_, ?_⟩
  · rw [ehd]; exact st0
  have bh : Bk (setB (hx.push (Cel (hdO none) 170)) hx.size (Cel (hdC hn0) 170)) hx.size (hdC hn0) 170 := hb.set
  have hx1s := k1.size
  obtain ⟨w2, s2⟩ := w1.fresh j kz
  have k12 := k1.trans kz
  have p2 := PLg.own (PLg.own hp s1 (by simp)) s2 (by simp)
  have obh : Gro (Gro o j h) j hx hx.size = j := by simp [Gro]
  have s12 := s1.trans s2
  generalize setB (hx.push (Cel (hdO none) 170)) hx.size (Cel (hdC hn0) 170) = h2 at *
  generalize Gro (Gro o j h) j hx = o2 at *
  generalize hx.size = qh at *
  refine ⟨sr, p2.st.rdi 10 rfl, ?_⟩
  refine ⟨fun h3 => ∃ o3, Ow h3 o3 A ∧ Stp (fun x => x = i ∨ x = j) h o h3 o3 ∧ PLg h3 b p sr rs l (fun x => o3 x = j) ∧ Bk h3 qh (hdC hn) 170 ∧ o3 qh = j, ?_, dcd (fun hlt => ?_) (fun hge => ?_)⟩
  · rintro h3 ⟨o3, w3, s3, p3, b3, ob3⟩
    refine ⟨p, l.st, l.n, p3.st.rdk 0 (arC p l.st l.n) rfl, _, _, _, _, b3.rd0, ?_⟩
    have okn : hn.Ok := by
      refine ⟨by show l.head.round < _; omega, by show lsn.toNat < _; omega, by show l.head.turn + 1 < _; omega, ?_⟩
      show fl < _
      show ((l.recs[k]?).map (·.round)).getD l.head.round < _
      cases hrk : l.recs[k]? with
      | none => simp; omega
      | some y => have := (hw.rl y (List.mem_of_getElem? hrk)).2.2; simp; omega
    refine wal_lay_c (d := hn) (i := i) j w3 hi (Ne.symm hij) okn (by omega) (by omega) hcap fun h4 o4 w4 s4 => ?_
    have p4 := PLg.own p3 s4 (Ne.symm hij)
    have b4 := s4.bk b3 (by rw [ob3]; exact Ne.symm hij)
    have hj4 : (upd A i (Ass.disk p (runs m (layA l.st l.n hn)).2)) j = Ass.log (some (nA b)) p l := by rw [upd_ne (Ne.symm hij)]; exact hj
    have s34 := s3.trans (s4.mono (T := fun x => x = i ∨ x = j) fun _ h => .inl h)
    refine wal_died_c w4 hj4 p4 (fun h0 => ?_) (fun hne h5 o5 w5 s5 => ?_)
    · rw [if_pos h0] at hK
      refine dcn (fun h => (h rfl).elim) (fun _ => ?_)
      let l5 : Lg := { l with head := hn }
      have st5 : StL h4 ((nA b).add 3) (hdC hn) (setB h4 b (Cel (lgC p sr l5) 175)) := by
        rw [add_nA]
        exact p4.st.st (i := 0 + 3) (vs := hdC hn) (by simp [lgC, hdC])
      have p5 := (p4.head (l' := l5) rfl).1
      have k5 := (p4.head (l' := l5) rfl).2
      have s72 := p5.vec.cutRd (k := k) (by omega)
      refine ⟨_, _, _, _, b4.rd0, setB h4 b (Cel (lgC p sr l5) 175), st5, sr, p5.st.rdi 10 rfl, by omega, by omega, by have := p5.vec.cap; omega, _, rfl, ?_⟩
      have e72 : (rs.flatMap recE).drop (k * 4) = (rs.drop k).flatMap recE := by
        have hfl := flat_len recE 4 (rs.take k) fun _ _ => rfl
        rw [show (rs.take k).length = k by simp; omega] at hfl
        have : rs.flatMap recE = (rs.take k).flatMap recE ++ (rs.drop k).flatMap recE := by rw [← List.flatMap_append, List.take_append_drop]
        rw [this, List.drop_append, hfl, Nat.sub_self, List.drop_zero, List.drop_of_length_le (by omega), List.nil_append]
      rw [e72] at s72
      have hone : oneC ((rs.drop k).flatMap recE) := by
        intro v hv
        obtain ⟨x, _, hx⟩ := List.mem_flatMap.1 hv
        simp only [recE, List.mem_cons, List.not_mem_nil, or_false] at hx
        rcases hx with rfl | rfl | rfl | rfl <;> rfl
      refine (Vec.nil (setB h4 b (Cel (lgC p sr l5) 175)) 4 184).app (n := 4) (news := (rs.drop k).flatMap recE) (by rw [Int.toNat_natCast, Int.toNat_natCast]; exact s72) hone ?_ fun s' h6 hv6 hl6 k6 hn6 => ?_
      · have e : (slS sr 4 (Int.toNat ((k : Nat) : Int)) (Int.toNat (sr.len : Int))).len = sr.len - k := by simp only [slS, Int.toNat_natCast]
        show (0 + _) * 48 ≤ _
        rw [e]; omega
      rw [List.nil_append] at hv6
      have k6' : Kp (fun _ => False) (setB h4 b (Cel (lgC p sr l5) 175)) h6 := k6.mono fun x _ hx => by obtain ⟨a, ha, _⟩ := hx; cases ha
      have hn6' : ∀ x, s'.blk x → (setB h4 b (Cel (lgC p sr l5) 175)).size = x := fun x hx => (hn6 x hx).elim (fun h => by obtain ⟨a, ha, _⟩ := h; cases ha) id
      have p6 := p5.kp k6' fun _ _ _ h => h
      have bl6 := p5.st.lt
      let l6 : Lg := { l with head := hn, recs := l.recs.drop k, durable := l.next }
      have nb : ¬ s'.blk b := fun hb => by have := hn6' b hb; omega
      have k7 : Kp (fun x => x = b) h6 (setB h6 b (Cel (lgC p s' l6) 175)) := Kp.set (F := fun x => x = b) (Kp.refl _ _) _ (.inr rfl)
      have hmem : ∀ x ∈ rs.drop k, x ∈ rs := fun x hx => List.mem_of_mem_drop hx
      have p7 : PLg (setB h6 b (Cel (lgC p s' l6) 175)) b p s' (rs.drop k) l6 (fun x => o4 x = j ∨ h4.size ≤ x) := by
        refine ⟨p6.st.set, hv6.kp k7 fun x hx e => by subst e; exact nb hx, by rw [List.map_drop, hp.rl], fun x hx => ?_, fun x hx y hy => ?_, nb, .inl p4.fb, fun x hx => .inr (by have := hn6' x hx; rw [size_set] at this; omega)⟩
        · exact (p6.dat x (hmem x hx)).kp k7 fun a ha e => (p6.sep x (hmem x hx) _ ⟨a, ha, rfl⟩).2.1 e
        · have h1 := p5.sep x (hmem x hx) y hy
          have h2 := p6.sep x (hmem x hx) y hy
          exact ⟨.inl h1.1, h1.2.1, fun hb => by have := hn6' y hb; have := h1.2.2.2; omega, by rw [size_set]; exact h2.2.2.2⟩
      have k47 : Kp (fun x => o4 x = j) h4 (setB h6 b (Cel (lgC p s' l6) 175)) := by
        have a1 : Kp (fun x => o4 x = j) h4 (setB h4 b (Cel (lgC p sr l5) 175)) := k5.mono fun x _ e => by subst e; exact p4.fb
        exact (a1.trans (k6'.mono fun _ _ h => h.elim)).set _ (.inr p4.fb)
      obtain ⟨w7, s7⟩ := w4.step (i := j) (B := Ass.log (some (nA b)) p l6) k47 ⟨b, s', _, rfl, p7⟩
      have bb6 : Bk h6 b (lgC p sr l5) 175 := p6.st
      refine ⟨setB h6 b (Cel (lgC p s' { l with head := hn }) 175), bb6.sti 10 s'.v (by simp [lgC]), l.next, ?_, setB h6 b (Cel (lgC p s' l6) 175), ?_, hK _ _ w7 (s34.trans (s7.mono fun _ h => .inr h))⟩
      · have : Bk (setB h6 b (Cel (lgC p s' { l with head := hn }) 175)) b (lgC p s' { l with head := hn }) 175 := bb6.set
        exact this.rdi 7 rfl
      · have : Bk (setB h6 b (Cel (lgC p s' { l with head := hn }) 175)) b (lgC p s' { l with head := hn }) 175 := bb6.set
        have := this.sti 8 (.int .i64 l.next) (by simp [lgC])
        rw [setB_setB] at this
        exact this
    · rw [if_neg hne] at hK
      exact dcn (fun _ => hK h5 o5 w5 (s34.trans (s5.mono fun _ h => .inr h))) (fun h => (hne h).elim)
  · have hlt' : k < rs.length := by omega
    obtain ⟨x, hx1⟩ : ∃ x, rs[k]? = some x := ⟨rs[k], by simp [hlt']⟩
    have hx2 : l.recs[k]? = some x.1 := by rw [← hp.rl, List.getElem?_map, hx1]; rfl
    have efl : hn = { hn0 with floor := x.1.round } := by show Hd.mk _ _ _ fl = _; show Hd.mk _ _ _ (((l.recs[k]?).map (·.round)).getD l.head.round) = _; rw [hx2]; rfl
    obtain ⟨a, ha, hr⟩ := p2.at_ hx1
    refine ⟨sr, p2.st.rdi 10 rfl, a, ha, by omega, by omega, x.1.round, by rw [Int.toNat_natCast]; exact hr 3 _ rfl, _, bh.sti 3 (.int .i64 x.1.round) (by simp [hdC]), ?_⟩
    have kw : Kp (fun _ => False) h (setB h2 qh (Cel (hdC hn) 170)) := k12.set _ (.inl (by omega))
    obtain ⟨w3, s3⟩ := w.fresh j kw
    have e3 : setB h2 qh (Cel ((hdC hn0).set 3 (.int .i64 x.1.round)) 170) = setB h2 qh (Cel (hdC hn) 170) := by rw [efl]; rfl
    rw [e3]
    refine ⟨_, w3, s3.mono fun _ h => h.elim, PLg.own hp s3 (by simp), bh.set, ?_⟩
    simp only [Gro, if_neg (show ¬ qh < h.size by omega)]
  · have efl : hn = hn0 := by
      show Hd.mk _ _ _ (((l.recs[k]?).map (·.round)).getD l.head.round) = _
      rw [List.getElem?_eq_none (by omega)]; rfl
    rw [efl]
    exact ⟨o2, w2, s12.mono fun _ h => h.elim, p2, bh, obh⟩
end
end Go.Proofs.Ythpeadoidpimmaa
