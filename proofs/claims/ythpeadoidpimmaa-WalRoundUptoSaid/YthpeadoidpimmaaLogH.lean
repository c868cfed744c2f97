/- The program's log on the heap. No condition. -/
import Derived.Test.YthpeadoidpimmaaWalR
import Derived.Test.YthpeadoidpimmaaOwn
namespace Tw
open Go
set_option linter.unusedVariables false

def recE (x : Rec × Sl) : List Value := [.int .i64 x.1.lsn, .int .i64 x.1.kind, x.2.v, .int .i64 x.1.round]
def lgC (dp : Option Addr) (sr : Sl) (l : Lg) : List Value :=
  [.pointer dp, .int .i64 l.st, .int .i64 l.n, .int .i64 l.head.round, .int .i64 l.head.lsn, .int .i64 l.head.turn, .int .i64 l.head.floor, .int .i64 l.next, .int .i64 l.durable, .int .i64 l.reserved, sr.v, .bool l.dead]

structure PLg (h : Hp) (b : Nat) (dp : Option Addr) (sr : Sl) (rs : List (Rec × Sl)) (l : Lg) (F : Nat → Prop) : Prop where
  st : Bk h b (lgC dp sr l) 175
  vec : Vec h sr 4 184 (rs.flatMap recE)
  rl : rs.map (·.1) = l.recs
  dat : ∀ x ∈ rs, Byt h x.2 x.1.data
  sep : ∀ x ∈ rs, ∀ y, x.2.blk y → F y ∧ y ≠ b ∧ ¬ sr.blk y ∧ y < h.size
  n1 : ¬ sr.blk b
  fb : F b
  fs : ∀ x, sr.blk x → F x

section
variable {h h' : Hp} {b : Nat} {dp : Option Addr} {sr : Sl} {rs : List (Rec × Sl)} {l l' : Lg} {F G : Nat → Prop}

theorem PLg.kp (p : PLg h b dp sr rs l F) (hk : Kp G h h') (hd : ∀ x, x < h.size → F x → ¬ G x) : PLg h' b dp sr rs l (fun x => F x ∧ x < h.size) :=
  ⟨p.st.kp hk (hd _ p.st.lt p.fb), p.vec.kp hk fun x hx => hd _ (p.vec.lt hx) (p.fs x hx), p.rl,
    fun x hx => (p.dat x hx).kp hk fun a ha => hd _ (p.sep x hx _ ⟨a, ha, rfl⟩).2.2.2 (p.sep x hx _ ⟨a, ha, rfl⟩).1,
    fun x hx y hy => ⟨⟨(p.sep x hx y hy).1, (p.sep x hx y hy).2.2.2⟩, (p.sep x hx y hy).2.1, (p.sep x hx y hy).2.2.1, Nat.lt_of_lt_of_le (p.sep x hx y hy).2.2.2 hk.size⟩, p.n1, ⟨p.fb, p.st.lt⟩, fun x hx => ⟨p.fs x hx, p.vec.lt hx⟩⟩
theorem PLg.mono (p : PLg h b dp sr rs l F) (hg : ∀ x, x < h.size → F x → G x) : PLg h b dp sr rs l G :=
  ⟨p.st, p.vec, p.rl, p.dat, fun x hx y hy => ⟨hg _ (p.sep x hx y hy).2.2.2 (p.sep x hx y hy).1, (p.sep x hx y hy).2⟩, p.n1, hg _ p.st.lt p.fb, fun x hx => hg _ (p.vec.lt hx) (p.fs x hx)⟩
/-- The struct is written anew. -/
theorem PLg.head (p : PLg h b dp sr rs l F) (h1 : l'.recs = l.recs) : PLg (setB h b (Cel (lgC dp sr l') 175)) b dp sr rs l' F ∧ Kp (fun x => x = b) h (setB h b (Cel (lgC dp sr l') 175)) := by
  have hk : Kp (fun x => x = b) h (setB h b (Cel (lgC dp sr l') 175)) := Kp.set (F := fun x => x = b) (Kp.refl _ _) _ (.inr rfl)
  refine ⟨⟨p.st.set, p.vec.kp hk fun x hx e => by subst e; exact p.n1 hx, by rw [h1]; exact p.rl, fun x hx => (p.dat x hx).kp hk fun a ha e => (p.sep x hx _ ⟨a, ha, rfl⟩).2.1 e, fun x hx y hy => ?_, p.n1, p.fb, p.fs⟩, hk⟩
  have := p.sep x hx y hy
  exact ⟨this.1, this.2.1, this.2.2.1, by rw [size_set]; exact this.2.2.2⟩
theorem PLg.len (p : PLg h b dp sr rs l F) : sr.len = l.recs.length := by
  have := p.vec.len
  rw [flat_len recE 4 rs fun _ _ => rfl] at this
  rw [← p.rl]; simp; omega
theorem PLg.rlen (p : PLg h b dp sr rs l F) : rs.length = l.recs.length := by rw [← p.rl]; simp
/-- A record in its place. -/
theorem PLg.at_ (p : PLg h b dp sr rs l F) {i : Nat} {x : Rec × Sl} (hx : rs[i]? = some x) : ∃ a, sr.p = some a ∧ RdL h (a.add (i * 4)) (recE x) := by
  have hi := (List.getElem?_eq_some_iff.1 hx).1
  obtain ⟨a, ha⟩ := p.vec.ptr (by have := p.len; have := p.rlen; omega)
  exact ⟨a, ha, p.vec.rdl ha fun j v hj => flat_get recE 4 rs (fun _ _ => rfl) i x hx j v hj⟩
end
end Tw
namespace Go.Proofs.Ythpeadoidpimmaa
open Go Tw
set_option linter.unusedVariables false
set_option linter.unusedSimpArgs false
set_option maxRecDepth 10000
set_option maxHeartbeats 1000000

def Ass.log (q dp : Option Addr) (l : Lg) : Ass := ⟨fun h F => ∃ b sr rs, q = some (nA b) ∧ PLg h b dp sr rs l F,
  fun {h h' F G} d hk hd => by obtain ⟨b, sr, rs, e, d⟩ := d; exact ⟨b, sr, rs, e, d.kp hk hd⟩,
  fun {h F F'} d hm => by obtain ⟨b, sr, rs, e, d⟩ := d; exact ⟨b, sr, rs, e, d.mono hm⟩⟩

section
variable {h h1 h2 : Hp} {o : Nat → Nat} {A : Nat → Ass} {p q : Option Addr} {m : Md} {l : Lg} {st n i j : Nat}

theorem Ow.log (w : Ow h o A) (hi : A i = Ass.log q p l) : ∃ b sr rs, q = some (nA b) ∧ PLg h b p sr rs l (fun x => o x = i) := w.at hi

/-- A temporary block: it is j's. -/
theorem Ow.tmp (j : Nat) (w : Ow h o A) (l : List Value) (t : TypeId) :
    Ow (h.push (Cel l t)) (Gro o j h) A ∧ Stp (fun _ => False) h o (h.push (Cel l t)) (Gro o j h) ∧ Bk (h.push (Cel l t)) h.size l t ∧ Gro o j h h.size = j :=
  ⟨(w.fresh j (Kp.push (Kp.refl _ _) _)).1, (w.fresh j (Kp.push (Kp.refl _ _) _)).2, Bk.new h l t, by simp [Gro]⟩

theorem upd_ne {α : Type} {f : Nat → α} {w v : Nat} {x : α} (h : v ≠ w) : upd f w x v = f v := if_neg h
theorem upd_eq {α : Type} {f : Nat → α} {w : Nat} {x : α} : upd f w x w = x := if_pos rfl
theorem upd_upd {α : Type} {f : Nat → α} {w : Nat} {x y : α} : upd (upd f w x) w y = upd f w y := by
  funext k; unfold upd; split <;> rfl
theorem upd_comm {α : Type} {f : Nat → α} {w v : Nat} {x y : α} (h : w ≠ v) : upd (upd f w x) v y = upd (upd f v y) w x := by
  funext k; unfold upd
  by_cases h1 : k = v
  · subst h1; rw [if_pos rfl, if_neg (fun e => h e.symm), if_pos rfl]
  · rw [if_neg h1, if_neg h1]
theorem upd_same {α : Type} {f : Nat → α} {w : Nat} {x : α} (h : f w = x) : upd f w x = f := by subst h; exact upd_self f w

/-! ### Writing -/
theorem wal_write_c {a : Nat} {bs : List UInt8} {K : Int → Hp → Prop} (t : Nat) (w : Ow h o A) (hi : A i = Ass.disk p m) (ht : t ≠ i) (hb : bs.length = 128) (hcap : m.pend.length ≤ 1000000000000)
    (hK : ∀ h' o', Ow h' o' (upd A i (Ass.disk p (m.write a bs).2)) → Stp (fun j => j = i) h o h' o' → K (m.write a bs).1 h') : wal_area_write p st n a bs K h := by
  obtain ⟨w1, s1, b1, o1⟩ := w.tmp t (arC p st n) 164
  refine ⟨_, _, rfl, rfl, ?_⟩
  have e1 : (h.push (Cel [.pointer p, .int .i64 (st : Int), .int .i64 (n : Int)] 164)) = h.push (Cel (arC p st n) 164) := rfl
  rw [e1]
  generalize h.push (Cel (arC p st n) 164) = h1 at *
  generalize Gro o t h = o1' at *
  obtain ⟨w2, s2, b2, o2⟩ := w1.tmp t (bs.map bv) 178
  refine ⟨_, _, rfl, rfl, p, (b1.push _).rdi 0 rfl, _, rfl, ?_⟩
  have hby := slA_byt b2 hb (lo := 0) (hi := 128) (by omega) (by omega) (by omega)
  rw [List.drop_zero, List.take_of_length_le (by omega)] at hby
  refine ow_Write w2 hi hby (fun a ha _ => ?_) hcap fun h3 w3 s3 => hK h3 _ w3 (((s1.trans s2).mono fun _ h => h.elim).trans s3)
  simp only [slA, Option.some.injEq] at ha
  subst ha
  rw [if_neg (by omega)]
  show Gro o1' t h1 (((nA h1.size).add _).block) ≠ i
  rw [add_block]
  show Gro o1' t h1 h1.size ≠ i
  rw [o2]; exact ht

theorem Md.write_pend' (m : Md) (a : Int) (d : List UInt8) : (m.write a d).2.pend.length ≤ m.pend.length + 1 := by
  have hb := m.burn_laid
  unfold Md.write
  split
  · exact Nat.le_succ _
  · split
    · exact Nat.le_succ _
    · split
      · simp
      · rw [hb.2.1]; exact Nat.le_succ _
theorem Md.write_laid (m : Md) (a : Int) (d : List UInt8) : (m.write a d).2.laid = m.laid := by
  have hb := m.burn_laid
  unfold Md.write
  split
  · rfl
  · split
    · rfl
    · split
      · exact hb.1
      · exact hb.1
theorem Md.flush_len (m : Md) : m.flush.2.laid.length = m.laid.length := by
  unfold Md.flush; split
  · simp only [layAll_len]
  · show m.burn.2.laid.length = _; rw [m.burn_laid.1]
theorem Md.flush_pend' (m : Md) : m.flush.2.pend.length ≤ m.pend.length := by
  unfold Md.flush
  split
  · simp
  · rw [m.burn_laid.2.1]; exact Nat.le_refl _
theorem DAct.run_pend (m : Md) (a : DAct) : (a.run m).2.pend.length ≤ m.pend.length + 1 := by
  cases a with
  | wr x d => exact Md.write_pend' m x d
  | fl => exact Nat.le_succ_of_le (Md.flush_pend' m)
theorem DAct.run_len (m : Md) (a : DAct) : (a.run m).2.laid.length = m.laid.length := by
  cases a with
  | wr x d => show (m.write x d).2.laid.length = _; rw [Md.write_laid]
  | fl => exact Md.flush_len m
theorem runs_pend (al : List DAct) (m : Md) : (runs m al).2.pend.length ≤ m.pend.length + al.length := by
  induction al generalizing m with
  | nil => exact Nat.le_refl _
  | cons a r ih =>
    have h1 := DAct.run_pend m a
    unfold runs
    split
    · have := ih (a.run m).2; simp; omega
    · simp; omega
theorem runs_len (al : List DAct) (m : Md) : (runs m al).2.laid.length = m.laid.length := by
  induction al generalizing m with
  | nil => rfl
  | cons a r ih =>
    have h1 := DAct.run_len m a
    unfold runs
    split
    · rw [ih]; exact h1
    · exact h1

theorem runs_cons (m : Md) (a : DAct) (r : List DAct) : runs m (a :: r) = if (a.run m).1 = 0 then runs (a.run m).2 r else a.run m := rfl
theorem runs_one (m : Md) (a : DAct) : runs m [a] = a.run m := by
  rw [runs_cons]; split
  · rename_i h; exact Prod.ext h.symm rfl
  · rfl
theorem runs_lay (m : Md) (h : Hd) : runs m (layA st n h) = if (m.write (st + h.turn % 2 : Nat) (headB n h)).1 = 0 then (m.write (st + h.turn % 2 : Nat) (headB n h)).2.flush else m.write (st + h.turn % 2 : Nat) (headB n h) := by
  unfold layA
  rw [runs_cons, runs_one]
  rfl

theorem wal_lay_c {d : Hd} {K : Int → Hp → Prop} (t : Nat) (w : Ow h o A) (hi : A i = Ass.disk p m) (ht : t ≠ i) (ok : d.Ok) (hn : n ≤ 4096) (hst : st ≤ 4096) (hcap : m.pend.length < 1000000000000)
    (hK : ∀ h' o', Ow h' o' (upd A i (Ass.disk p (runs m (layA st n d)).2)) → Stp (fun j => j = i) h o h' o' → K (runs m (layA st n d)).1 h') : wal_area_lay p st n d.round d.lsn d.turn d.floor K h := by
  obtain ⟨w1, s1, b1, o1⟩ := w.tmp t (arC p st n) 164
  refine ⟨_, _, rfl, rfl, ?_⟩
  have e1 : (h.push (Cel [.pointer p, .int .i64 (st : Int), .int .i64 (n : Int)] 164)) = h.push (Cel (arC p st n) 164) := rfl
  rw [e1]
  generalize h.push (Cel (arC p st n) 164) = h1 at *
  generalize Gro o t h = o1' at *
  generalize h.size = q1 at *
  obtain ⟨w2, s2, b2, o2⟩ := w1.tmp t (hdC d) 170
  have b12 := s2.bk b1 id
  have o12 : Gro o1' t h1 q1 = t := by rw [Gro.old b1.lt]; exact o1
  refine ⟨_, _, rfl, rfl, ?_⟩
  have e2 : (h1.push (Cel [.int .i64 d.round, .int .i64 d.lsn, .int .i64 d.turn, .int .i64 d.floor] 170)) = h1.push (Cel (hdC d) 170) := rfl
  rw [e2]
  generalize h1.push (Cel (hdC d) 170) = h2 at *
  generalize Gro o1' t h1 = o2' at *
  generalize h1.size = q2 at *
  refine ⟨p, st, n, b12.rd0, st, b12.rdi 1 rfl, _, _, _, _, b2.rd0, _, _, _, _, b2.rd0, n, b12.rdi 2 rfl, wal_side_c fun h3 k3 => ?_⟩
  obtain ⟨w3, s3⟩ := w2.fresh t k3
  have b13 := s3.bk b12 id
  have b23 := s3.bk b2 id
  have o13 : Gro o2' t h2 q1 = t := by rw [Gro.old b12.lt]; exact o12
  have hm2 : d.turn % 2 < 2 := Nat.mod_lt _ (by omega)
  generalize Gro o2' t h2 = o3' at *
  refine ⟨b13.rdi 2 rfl, b23.rd0, b13.rdi 1 rfl, b13.rd0, ((st + d.turn % 2 : Nat) : Int), ?_, wal_headB_c ok (by omega) fun h4 k4 => ?_⟩
  · have : ((st + d.turn % 2 : Nat) : Int) = (st : Int) + ((d.turn % 2 : Nat) : Int) := by omega
    rw [this]; exact Wr.i64 (by omega) (by omega)
  obtain ⟨w4, s4⟩ := w3.fresh t k4
  have b14 := s4.bk b13 id
  have o14 : Gro o3' t h3 q1 = t := by rw [Gro.old b13.lt]; exact o13
  generalize Gro o3' t h3 = o4' at *
  refine ⟨b14.rdi 1 rfl, b14.rd0, wal_write_c t w4 hi ht (headB_len _ _) (by omega) fun h5 o5 w5 s5 => ?_⟩
  have b15 := s5.bk b14 (by rw [o14]; exact ht)
  have ss : Stp (fun j => j = i) h o h5 o5 := ((((s1.trans s2).trans s3).trans s4).mono fun _ h => h.elim).trans s5
  rw [runs_lay] at hK
  refine dcn (fun hne => ?_) (fun he => ⟨p, b15.rdi 0 rfl, ow_Flush w5 upd_eq fun h6 w6 s6 => ?_⟩)
  · rw [if_neg hne] at hK; exact hK h5 o5 w5 ss
  · rw [if_pos he, ] at hK
    rw [upd_upd] at w6
    exact hK h6 _ w6 (ss.trans s6)

/-- Zeros over the sectors from lo to hi, and a flush. -/
def wipeA (st lo hi : Nat) : List DAct := ((List.range (hi - lo)).map fun k => DAct.wr (st + lo + k) zeroS) ++ [.fl]

theorem wal_wipe_c {lo hi : Nat} {K : Int → Hp → Prop} (t : Nat) (w : Ow h o A) (hi1 : A i = Ass.disk p m) (ht : t ≠ i) (hlo : lo ≤ hi) (hh : st + hi ≤ 4096) (hcap : m.pend.length + 4096 < 1000000000000)
    (hK : ∀ h' o', Ow h' o' (upd A i (Ass.disk p (runs m (wipeA st lo hi)).2)) → Stp (fun j => j = i) h o h' o' → K (runs m (wipeA st lo hi)).1 h') : wal_area_wipe p st n lo hi K h := by
  obtain ⟨w1, s1, b1, o1⟩ := w.tmp t (arC p st n) 164
  refine ⟨_, _, rfl, rfl, ?_⟩
  have e1 : (h.push (Cel [.pointer p, .int .i64 (st : Int), .int .i64 (n : Int)] 164)) = h.push (Cel (arC p st n) 164) := rfl
  rw [e1]
  generalize h.push (Cel (arC p st n) 164) = h1 at *
  generalize Gro o t h = o1' at *
  generalize h.size = q1 at *
  have rest : ∀ k, k < hi - lo → ((List.range (hi - lo)).drop k).map (fun k => DAct.wr (st + lo + k) zeroS) = .wr (st + lo + k) zeroS :: ((List.range (hi - lo)).drop (k + 1)).map (fun k => DAct.wr (st + lo + k) zeroS) := by
    intro k hk
    rw [List.drop_eq_getElem_cons (by simp; exact hk)]; simp
  refine ⟨fun k c hx => ∃ (e : Nat) (m' : Md) (o' : Nat → Nat), c = ((lo + e : Nat) : Int) ∧ lo + e ≤ hi ∧ k = hi - (lo + e) ∧ Ow hx o' (upd A i (Ass.disk p m')) ∧ Stp (fun j => j = i) h o hx o' ∧ Bk hx q1 (arC p st n) 164 ∧ o' q1 = t ∧ m'.pend.length ≤ m.pend.length + e ∧
      runs m (wipeA st lo hi) = runs m' (((List.range (hi - lo)).drop e).map (fun k => DAct.wr (st + lo + k) zeroS) ++ [.fl]),
    ⟨_, 0, m, o1', rfl, by omega, rfl, by rw [upd_same hi1]; exact w1, s1.mono fun _ h => h.elim, b1, o1, by omega, rfl⟩, ?_⟩
  rintro k c h2 ⟨e, m2, o2, rfl, he, rfl, w2, s2, b2, oo2, hp2, hr⟩
  refine dcd (fun hlt => ?_) (fun hge => ?_)
  · have hlt' : lo + e < hi := by omega
    have eqa : (st : Int) + ((lo + e : Nat) : Int) = ((st + lo + e : Nat) : Int) := by omega
    refine ⟨p, st, n, b2.rd0, st, b2.rdi 1 rfl, (st : Int) + ((lo + e : Nat) : Int), Wr.i64 (by omega) (by omega), ?_⟩
    rw [eqa]
    rw [rest e (by omega), List.cons_append, runs_cons] at hr
    refine wal_write_c (bs := zeroS) t w2 upd_eq ht rfl (by omega) fun h3 o3 w3 s3 => ?_
    rw [upd_upd] at w3
    have er : (DAct.wr (st + lo + e) zeroS).run m2 = m2.write ((st + lo + e : Nat) : Int) zeroS := rfl
    rw [er] at hr
    have b3 := s3.bk b2 (by rw [oo2]; exact ht)
    refine dcn (fun hne => ?_) (fun heq => ?_)
    · rw [if_neg hne] at hr
      rw [hr] at hK
      exact hK h3 o3 w3 (s2.trans s3)
    · rw [if_pos heq] at hr
      have hpp := Md.write_pend' m2 ((st + lo + e : Nat) : Int) zeroS
      exact ⟨_, Wr.i64 (by omega) (by omega), hi - (lo + (e + 1)), by omega, e + 1, _, o3, by omega, by omega, rfl, w3, s2.trans s3, b3, by rw [s3.own _ b2.lt]; exact oo2, by omega, hr⟩
  · have hee : e = hi - lo := by omega
    subst hee
    rw [List.drop_of_length_le (by simp), List.map_nil, List.nil_append, runs_one] at hr
    refine ⟨p, b2.rdi 0 rfl, ow_Flush w2 upd_eq fun h3 w3 s3 => ?_⟩
    rw [upd_upd] at w3
    rw [hr] at hK
    exact hK h3 _ w3 (s2.trans s3)

theorem fmtA_eq (hn : 4 ≤ n) : fmtA st n = wipeA st 0 2 ++ wipeA st 2 n ++ layA st n ⟨1, 1, 2, 1⟩ := by
  unfold fmtA wipeA
  have e : (List.range (2 - 0)).map (fun k => DAct.wr (st + 0 + k) zeroS) = [.wr st zeroS, .wr (st + 1) zeroS] := rfl
  rw [e]
  simp

theorem wal_Format_none_c {start n : Int} {K : Int → Hp → Prop} (hK : ∀ h', Kp (fun _ => False) h h' → K 1 h') : wal_Format none start n K h := by
  refine wal_at_none_c fun x y z h1 k1 => ?_
  have hb := Bk.new h1 [.pointer none, .int .i64 0, .int .i64 0] 164
  exact ⟨_, _, rfl, rfl, _, hb.st0 (vs := [.pointer x, .int .i64 y, .int .i64 z]) rfl, fun _ => hK _ ((k1.push _).set _ (.inl k1.size)), fun h => (nomatch h)⟩

def fmtI (m : Md) (start n : Int) : Int × Md := if areaOk m start n then fmt m start.toNat n.toNat else (1, m)

theorem wal_Format_c {start n : Int} {K : Int → Hp → Prop} (t : Nat) (w : Ow h o A) (hi : A i = Ass.disk p m) (ht : t ≠ i) (hcap : m.pend.length + 10000 < 1000000000000)
    (hK : ∀ h' o', Ow h' o' (upd A i (Ass.disk p (fmtI m start n).2)) → Stp (fun j => j = i) h o h' o' → K (fmtI m start n).1 h') : wal_Format p start n K h := by
  have hwf := (w.disk hi).wf
  have hhi := hwf.hi
  refine wal_at_c (w.disk hi) (fun hno x y z h1 k1 => ?_) (fun hok h1 k1 => ?_)
  · have hb := Bk.new h1 [.pointer none, .int .i64 0, .int .i64 0] 164
    refine ⟨_, _, rfl, rfl, _, hb.st0 (vs := [.pointer x, .int .i64 y, .int .i64 z]) rfl, fun _ => ?_, fun h => (nomatch h)⟩
    have e : fmtI m start n = (1, m) := if_neg hno
    rw [e] at hK
    have kk : Kp (fun _ => False) h (setB (h1.push (Cel [.pointer none, .int .i64 0, .int .i64 0] 164)) h1.size (Cel [.pointer x, .int .i64 y, .int .i64 z] 164)) := (k1.push _).set _ (.inl k1.size)
    obtain ⟨w2, s2⟩ := w.fresh t kk
    refine hK _ _ ?_ (s2.mono fun _ h => h.elim)
    rw [upd_same hi]; exact w2
  · have e : fmtI m start n = fmt m start.toNat n.toNat := if_pos hok
    rw [e] at hK
    unfold areaOk at hok
    obtain ⟨g1, g2, g3⟩ := hok
    obtain ⟨s, rfl⟩ := Int.eq_ofNat_of_zero_le g1
    obtain ⟨c, rfl⟩ := Int.eq_ofNat_of_zero_le (show 0 ≤ n by omega)
    simp only [Int.toNat_natCast] at hK
    have hb := Bk.new h1 [.pointer none, .int .i64 0, .int .i64 0] 164
    have kk : Kp (fun _ => False) h (setB (h1.push (Cel [.pointer none, .int .i64 0, .int .i64 0] 164)) h1.size (Cel (arC p s c) 164)) := (k1.push _).set _ (.inl k1.size)
    refine ⟨_, _, rfl, rfl, _, hb.st0 (vs := arC p s c) rfl, fun h => (nomatch h), fun _ => ?_⟩
    have hbs : Bk (setB (h1.push (Cel [.pointer none, .int .i64 0, .int .i64 0] 164)) h1.size (Cel (arC p s c) 164)) h1.size (arC p s c) 164 := hb.set
    have hob : Gro o t h h1.size = t := by have := k1.size; simp only [Gro, if_neg (show ¬ h1.size < h.size by omega)]
    obtain ⟨w2, s2⟩ := w.fresh t kk
    generalize setB (h1.push (Cel [.pointer none, .int .i64 0, .int .i64 0] 164)) h1.size (Cel (arC p s c) 164) = h2 at *
    generalize Gro o t h = o2 at *
    generalize h1.size = q at *
    unfold fmt at hK
    rw [fmtA_eq (by omega), List.append_assoc, runs_app, runs_app] at hK
    refine ⟨p, s, c, hbs.rd0, ?_⟩
    have hl2 : (wipeA s 0 2).length ≤ 10 := by simp [wipeA]
    have hl3 : (wipeA s 2 c).length ≤ 4097 := by simp [wipeA]; omega
    have hp1 := runs_pend (wipeA s 0 2) m
    refine wal_wipe_c (lo := 0) (hi := 2) t w2 hi ht (by omega) (by omega) (by omega) fun h3 o3 w3 s3 => ?_
    have ss3 := (s2.mono (T := fun j => j = i) fun _ h => h.elim).trans s3
    have b3 := s3.bk hbs (by rw [hob]; exact ht)
    have ob3 : o3 q = t := by rw [s3.own _ hbs.lt]; exact hob
    refine dcn (fun hne => ?_) (fun he => ⟨p, s, c, b3.rd0, ?_⟩)
    · rw [if_neg hne] at hK; exact hK h3 o3 w3 ss3
    rw [if_pos he] at hK
    generalize (runs m (wipeA s 0 2)).2 = m3 at *
    have hp2 := runs_pend (wipeA s 2 c) m3
    refine wal_wipe_c (lo := 2) (hi := c) t w3 upd_eq ht (by omega) (by omega) (by omega) fun h4 o4 w4 s4 => ?_
    rw [upd_upd] at w4
    have b4 := s4.bk b3 (by rw [ob3]; exact ht)
    refine dcn (fun hne => ?_) (fun he => ⟨p, s, c, b4.rd0, ?_⟩)
    · rw [if_neg hne] at hK; exact hK h4 o4 w4 (ss3.trans s4)
    rw [if_pos he] at hK
    refine wal_lay_c (d := ⟨1, 1, 2, 1⟩) t w4 upd_eq ht ⟨by decide, by decide, by decide, by decide⟩ (by omega) (by omega) (by omega) fun h5 o5 w5 s5 => ?_
    rw [upd_upd] at w5
    exact hK h5 o5 w5 ((ss3.trans s4).trans s5)
end
end Go.Proofs.Ythpeadoidpimmaa
