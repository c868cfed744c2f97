/- Things on the heap and whose blocks are whose; the calls of a disk in these words. No condition. -/
import Derived.Test.YthpeadoidpimmaaLawE
namespace Go.Proofs.Ythpeadoidpimmaa
open Go Tw
set_option linter.unusedVariables false
set_option linter.unusedSimpArgs false
set_option maxRecDepth 10000

/-- A thing that owns blocks. -/
structure Ass where
  P : Hp → (Nat → Prop) → Prop
  kp : ∀ {h h' : Hp} {F G : Nat → Prop}, P h F → Kp G h h' → (∀ x, x < h.size → F x → ¬ G x) → P h' (fun x => F x ∧ x < h.size)
  mono : ∀ {h : Hp} {F F' : Nat → Prop}, P h F → (∀ x, x < h.size → F x → F' x) → P h F'

/-- Nothing. -/
def Ass.top : Ass := ⟨fun _ _ => True, fun _ _ _ => trivial, fun _ _ => trivial⟩
/-- What was there. -/
def Ass.old (h0 : Hp) : Ass := ⟨fun h F => Kp (fun _ => False) h0 h ∧ ∀ x, x < h0.size → F x,
  fun {h h' F G} p hk hd => ⟨p.1.and hk fun x hx => .inl (Nat.le_of_not_lt fun hlt => hd x (Nat.lt_of_lt_of_le hlt p.1.size) (p.2 x hlt) hx), fun x hx => ⟨p.2 x hx, Nat.lt_of_lt_of_le hx p.1.size⟩⟩,
  fun {h F F'} p hm => ⟨p.1, fun x hx => hm x (Nat.lt_of_lt_of_le hx p.1.size) (p.2 x hx)⟩⟩
def Ass.disk (p : Option Addr) (m : Md) : Ass := ⟨fun h F => PD h p m F, fun d hk hd => PD.kp d hk hd, fun d hm => PD.mono d hm⟩
def Ass.rdisk (p : Option Addr) (m : Md) : Ass := ⟨fun h F => ∃ b bl sw l, p = some (nA b) ∧ RDi h b bl sw l m F,
  fun {h h' F G} d hk hd => by obtain ⟨b, bl, sw, l, e, d⟩ := d; exact ⟨b, bl, sw, l, e, d.kp hk hd⟩,
  fun {h F F'} d hm => by obtain ⟨b, bl, sw, l, e, d⟩ := d; exact ⟨b, bl, sw, l, e, d.mono hm⟩⟩
/-- A block with these cells. -/
def Ass.cell (b : Nat) (l : List Value) (t : TypeId) : Ass := ⟨fun h F => Bk h b l t ∧ F b, fun p hk hd => ⟨p.1.kp hk (hd _ p.1.lt p.2), p.2, p.1.lt⟩, fun p hm => ⟨p.1, hm _ p.1.lt p.2⟩⟩
/-- A slice with these cells. -/
def Ass.vec (s : Sl) (n : Nat) (el : TypeId) (cs : List Value) : Ass := ⟨fun h F => Vec h s n el cs ∧ ∀ x, s.blk x → F x,
  fun p hk hd => ⟨p.1.kp hk fun b hb => hd b (p.1.lt hb) (p.2 b hb), fun b hb => ⟨p.2 b hb, p.1.lt hb⟩⟩, fun p hm => ⟨p.1, fun b hb => hm b (p.1.lt hb) (p.2 b hb)⟩⟩

def Ow (h : Hp) (o : Nat → Nat) (A : Nat → Ass) : Prop := ∀ i, (A i).P h (fun x => o x = i)

/-- A step: what may turn belongs to S. -/
structure Stp (S : Nat → Prop) (h : Hp) (o : Nat → Nat) (h' : Hp) (o' : Nat → Nat) : Prop where
  own : ∀ x, x < h.size → o' x = o x
  kp : Kp (fun x => S (o x)) h h'

section
variable {S T : Nat → Prop} {h h1 h2 : Hp} {o o1 o2 : Nat → Nat} {A : Nat → Ass}

theorem Stp.refl (S : Nat → Prop) (h : Hp) (o : Nat → Nat) : Stp S h o h o := ⟨fun _ _ => rfl, Kp.refl _ _⟩
theorem Stp.trans (a : Stp S h o h1 o1) (b : Stp S h1 o1 h2 o2) : Stp S h o h2 o2 :=
  ⟨fun x hx => (b.own x (Nat.lt_of_lt_of_le hx a.kp.size)).trans (a.own x hx),
    ⟨Nat.le_trans a.kp.size b.kp.size, fun x hx hn => (b.kp.old x (Nat.lt_of_lt_of_le hx a.kp.size) (by rw [a.own x hx]; exact hn)).trans (a.kp.old x hx hn)⟩⟩
theorem Stp.mono (a : Stp S h o h1 o1) (hS : ∀ i, S i → T i) : Stp T h o h1 o1 := ⟨a.own, a.kp.mono fun x _ hx => hS _ hx⟩
theorem Stp.size (a : Stp S h o h1 o1) : h.size ≤ h1.size := a.kp.size

theorem Ow.at {i : Nat} {X : Ass} (w : Ow h o A) (hi : A i = X) : X.P h (fun x => o x = i) := by rw [← hi]; exact w i
theorem Ow.disk {i : Nat} {p : Option Addr} {m : Md} (w : Ow h o A) (hi : A i = Ass.disk p m) : PD h p m (fun x => o x = i) := w.at hi
theorem Ow.rdisk {i : Nat} {p : Option Addr} {m : Md} (w : Ow h o A) (hi : A i = Ass.rdisk p m) : ∃ b bl sw l, p = some (nA b) ∧ RDi h b bl sw l m (fun x => o x = i) := w.at hi
theorem Ow.cell {i b : Nat} {l : List Value} {t : TypeId} (w : Ow h o A) (hi : A i = Ass.cell b l t) : Bk h b l t ∧ o b = i := w.at hi
theorem Ow.vec {i : Nat} {s : Sl} {n : Nat} {el : TypeId} {cs : List Value} (w : Ow h o A) (hi : A i = Ass.vec s n el cs) : Vec h s n el cs ∧ ∀ x, s.blk x → o x = i := w.at hi
theorem Ow.old {i : Nat} {h0 : Hp} (w : Ow h o A) (hi : A i = Ass.old h0) : Kp (fun _ => False) h0 h ∧ ∀ x, x < h0.size → o x = i := w.at hi

/-- One thing goes on; what is new is its. -/
theorem Ow.step {i : Nat} {B : Ass} (w : Ow h o A) (hk : Kp (fun x => o x = i) h h1) (hB : B.P h1 (fun x => o x = i ∨ h.size ≤ x)) : Ow h1 (Gro o i h) (upd A i B) ∧ Stp (fun j => j = i) h o h1 (Gro o i h) := by
  refine ⟨fun j => ?_, fun x hx => Gro.old hx, hk⟩
  by_cases hj : j = i
  · subst hj
    simp only [upd, if_true]
    exact B.mono hB fun x _ hx => by unfold Gro; split <;> first | rfl | (rcases hx with h3 | h3 <;> first | exact h3 | omega)
  · simp only [upd, if_neg hj]
    refine (A j).mono ((A j).kp (w j) hk fun x _ hx e => hj (hx.symm.trans e)) fun x _ hx => ?_
    rw [Gro.old hx.2]; exact hx.1
/-- Nothing turns; what is new is i's. -/
theorem Ow.fresh (i : Nat) (w : Ow h o A) (hk : Kp (fun _ => False) h h1) : Ow h1 (Gro o i h) A ∧ Stp (fun _ => False) h o h1 (Gro o i h) := by
  refine ⟨fun j => ?_, fun x hx => Gro.old hx, hk⟩
  refine (A j).mono ((A j).kp (w j) hk fun _ _ _ h => h) fun x _ hx => ?_
  rw [Gro.old hx.2]; exact hx.1
/-- i, of which nothing is held, gets a thing. -/
theorem Ow.put {i : Nat} {B : Ass} (w : Ow h o A) (hB : B.P h (fun x => o x = i)) : Ow h o (upd A i B) := by
  intro j
  by_cases hj : j = i
  · subst hj; simp only [upd, if_true]; exact hB
  · simp only [upd, if_neg hj]; exact w j
theorem Ow.drop (i : Nat) (w : Ow h o A) : Ow h o (upd A i Ass.top) := w.put trivial
/-- i's blocks turn, nothing is held of them. -/
theorem Ow.else_ {i : Nat} (w : Ow h o A) (hi : A i = Ass.top) (hk : Kp (fun x => o x = i) h h1) : Ow h1 (Gro o i h) A ∧ Stp (fun j => j = i) h o h1 (Gro o i h) := by
  have := w.step (B := Ass.top) hk trivial
  rwa [← hi, upd_self] at this

theorem Ow.cell_new {l : List Value} {t : TypeId} (i : Nat) (w : Ow h o A) (hi : A i = Ass.top) :
    Ow (h.push (Cel l t)) (Gro o i h) (upd A i (Ass.cell h.size l t)) ∧ Stp (fun _ => False) h o (h.push (Cel l t)) (Gro o i h) := by
  obtain ⟨w1, s1⟩ := w.fresh i (Kp.push (Kp.refl _ _) (Cel l t))
  exact ⟨w1.put ⟨Bk.new h l t, by simp [Gro]⟩, s1⟩
theorem Ow.cell_set {i b : Nat} {l l' : List Value} {t : TypeId} (w : Ow h o A) (hi : A i = Ass.cell b l t) :
    Ow (setB h b (Cel l' t)) (Gro o i h) (upd A i (Ass.cell b l' t)) ∧ Stp (fun j => j = i) h o (setB h b (Cel l' t)) (Gro o i h) := by
  obtain ⟨hb, ho⟩ := w.cell hi
  refine w.step (Kp.set (F := fun x => o x = i) (Kp.refl _ _) _ (.inr ho)) ⟨hb.set, .inl ho⟩

/-- Facts on what others own. -/
theorem Stp.bk {b : Nat} {l : List Value} {t : TypeId} (a : Stp S h o h1 o1) (hb : Bk h b l t) (hn : ¬ S (o b)) : Bk h1 b l t := hb.kp a.kp hn
theorem Stp.vc {s : Sl} {n : Nat} {el : TypeId} {cs : List Value} (a : Stp S h o h1 o1) (hv : Vec h s n el cs) (hn : ∀ b, s.blk b → ¬ S (o b)) : Vec h1 s n el cs := hv.kp a.kp hn
theorem Stp.by {s : Sl} {bs : List UInt8} (a : Stp S h o h1 o1) (hv : Byt h s bs) (hn : ∀ p, s.p = some p → bs ≠ [] → ¬ S (o p.block)) : Byt h1 s bs := hv.kpo a.kp hn

/-! ### The program's disk -/
theorem ow_Sectors {i : Nat} {p : Option Addr} {m : Md} {K : Int → Hp → Prop} (w : Ow h o A) (hi : A i = Ass.disk p m) (hK : K (m.laid.length : Int) h) : disk_Disk_Sectors p K h := by
  obtain ⟨b, bl, r, sp, rfl, p⟩ := w.disk hi
  exact disk_Sectors_i p hK
theorem ow_Read {i : Nat} {p : Option Addr} {m : Md} {at_ : Int} (j : Nat) {K : Sl → Int → Hp → Prop} (w : Ow h o A) (hi : A i = Ass.disk p m)
    (hK : ∀ x h', Ow h' (Gro o j h) A → Stp (fun _ => False) h o h' (Gro o j h) → Vec h' x 1 5 ((m.read at_).1.map bv) → (∀ y, x.blk y → h.size ≤ y) → K x (m.read at_).2 h') : disk_Disk_Read p at_ K h := by
  obtain ⟨b, bl, r, sp, rfl, p⟩ := w.disk hi
  refine disk_Read_i p fun x h' hk hv hn => ?_
  obtain ⟨w1, s1⟩ := w.fresh j hk
  exact hK x h' w1 s1 hv hn
theorem ow_Write {i : Nat} {p : Option Addr} {m : Md} {at_ : Int} {x : Sl} {data : List UInt8} {K : Int → Hp → Prop} (w : Ow h o A) (hi : A i = Ass.disk p m) (hx : Byt h x data) (hx1 : ∀ a, x.p = some a → data ≠ [] → o a.block ≠ i)
    (hcap : m.pend.length ≤ 1000000000000)
    (hK : ∀ h', Ow h' (Gro o i h) (upd A i (Ass.disk p (m.write at_ data).2)) → Stp (fun j => j = i) h o h' (Gro o i h) → K (m.write at_ data).1 h') : disk_Disk_Write p at_ x K h := by
  obtain ⟨b, bl, r, sp, rfl, q⟩ := w.disk hi
  refine disk_Write_i q hx hx1 (by omega) fun h' sp' hk p' => ?_
  obtain ⟨w1, s1⟩ := w.step (B := Ass.disk (some (nA b)) (m.write at_ data).2) hk ⟨b, bl, r, sp', rfl, p'⟩
  exact hK h' w1 s1
theorem ow_Flush {i : Nat} {p : Option Addr} {m : Md} {K : Int → Hp → Prop} (w : Ow h o A) (hi : A i = Ass.disk p m)
    (hK : ∀ h', Ow h' (Gro o i h) (upd A i (Ass.disk p m.flush.2)) → Stp (fun j => j = i) h o h' (Gro o i h) → K m.flush.1 h') : disk_Disk_Flush p K h := by
  obtain ⟨b, bl, r, sp, rfl, q⟩ := w.disk hi
  refine disk_Flush_i q fun h' sp' hk p' => ?_
  obtain ⟨w1, s1⟩ := w.step (B := Ass.disk (some (nA b)) m.flush.2) hk ⟨b, bl, r, sp', rfl, p'⟩
  exact hK h' w1 s1
theorem ow_Cut {i : Nat} {p : Option Addr} {m : Md} {a : Int} {K : Int → Hp → Prop} (w : Ow h o A) (hi : A i = Ass.disk p m)
    (hK : ∀ h', Ow h' (Gro o i h) (upd A i (Ass.disk p (m.cut a).2)) → Stp (fun j => j = i) h o h' (Gro o i h) → K (m.cut a).1 h') : disk_Disk_Cut p a K h := by
  obtain ⟨b, bl, r, sp, rfl, q⟩ := w.disk hi
  refine disk_Cut_i q fun h' hk p' => ?_
  have hk' : Kp (fun x => o x = i) h h' := hk.mono fun x _ e => by subst e; exact q.fb
  obtain ⟨w1, s1⟩ := w.step (B := Ass.disk (some (nA b)) (m.cut a).2) hk' ⟨b, bl, r, sp, rfl, p'.mono fun _ _ h => .inl h⟩
  exact hK h' w1 s1
theorem ow_Crash {i : Nat} {p : Option Addr} {m : Md} {x : Sl} {keep : List Bool} {K : Int → Int → Hp → Prop} (w : Ow h o A) (hi : A i = Ass.disk p m) (hx : Bls h x keep) (hx1 : ∀ a, x.p = some a → keep ≠ [] → o a.block ≠ i)
    (hcap : m.pend.length ≤ 1000000000000)
    (hK : ∀ h', Ow h' (Gro o i h) (upd A i (Ass.disk p (m.crash keep).2)) → Stp (fun j => j = i) h o h' (Gro o i h) → K (m.crash keep).1 0 h') : disk_Disk_Crash p x K h := by
  obtain ⟨b, bl, r, sp, rfl, q⟩ := w.disk hi
  refine disk_Crash_i q hx hx1 (by omega) fun h' sp' hk p' => ?_
  obtain ⟨w1, s1⟩ := w.step (B := Ass.disk (some (nA b)) (m.crash keep).2) hk ⟨b, bl, r, sp', rfl, p'⟩
  exact hK h' w1 s1
theorem ow_Stat {i : Nat} {p : Option Addr} {m : Md} (j : Nat) {K : Int → Int → Int → Bool → Hp → Prop} (w : Ow h o A) (hi : A i = Ass.disk p m)
    (hK : ∀ h', Ow h' (Gro o j h) A → Stp (fun _ => False) h o h' (Gro o j h) → K m.writes m.flushes (m.pend.length : Int) m.down h') : disk_Disk_Stat p K h := by
  obtain ⟨b, bl, r, sp, rfl, q⟩ := w.disk hi
  refine disk_Stat_i q fun h' hk => ?_
  obtain ⟨w1, s1⟩ := w.fresh j hk
  exact hK h' w1 s1
theorem ow_Image {i : Nat} {p : Option Addr} {m : Md} (j : Nat) {K : Sl → Hp → Prop} (w : Ow h o A) (hi : A i = Ass.disk p m)
    (hK : ∀ x h', Ow h' (Gro o j h) A → Stp (fun _ => False) h o h' (Gro o j h) → Vec h' x 1 5 ((m.laid.flatMap fun s => s).map bv) → (∀ y, x.blk y → h.size ≤ y) → K x h') : disk_Disk_Image p K h := by
  obtain ⟨b, bl, r, sp, rfl, q⟩ := w.disk hi
  refine disk_Image_i q fun x h' hk hv hn => ?_
  obtain ⟨w1, s1⟩ := w.fresh j hk
  exact hK x h' w1 s1 hv hn
theorem ow_Pending {i : Nat} {p : Option Addr} {m : Md} (j : Nat) {K : Sl → Hp → Prop} (w : Ow h o A) (hi : A i = Ass.disk p m) (hcap : m.pend.length ≤ 1000000000000)
    (hK : ∀ s l h', Ow h' (Gro o j h) A → Stp (fun _ => False) h o h' (Gro o j h) → WLs h' s l (fun x => h.size ≤ x) → l.map (·.1) = m.pend → K s h') : disk_Disk_Pending p K h := by
  obtain ⟨b, bl, r, sp, rfl, q⟩ := w.disk hi
  refine disk_Pending_i q (by omega) fun s l h' hk hv hn => ?_
  obtain ⟨w1, s1⟩ := w.fresh j hk
  exact hK s l h' w1 s1 hv hn

/-! ### The document's disk -/
theorem rw_Sectors {i : Nat} {p : Option Addr} {m : Md} {K : Int → Hp → Prop} (w : Ow h o A) (hi : A i = Ass.rdisk p m) (hK : K (m.laid.length : Int) h) : ref2_Disk_Sectors p K h := by
  obtain ⟨b, bl, sw, l, rfl, p⟩ := w.rdisk hi
  exact ref2_Sectors_i p hK
theorem rw_Read {i : Nat} {p : Option Addr} {m : Md} {at_ : Int} (j : Nat) {K : Sl → Int → Hp → Prop} (w : Ow h o A) (hi : A i = Ass.rdisk p m) (hcap : m.pend.length ≤ 1000000000000)
    (hK : ∀ x h', Ow h' (Gro o j h) A → Stp (fun _ => False) h o h' (Gro o j h) → Vec h' x 1 5 ((m.read at_).1.map bv) → (∀ y, x.blk y → h.size ≤ y) → K x (m.read at_).2 h') : ref2_Disk_Read p at_ K h := by
  obtain ⟨b, bl, sw, l, rfl, p⟩ := w.rdisk hi
  refine ref2_Read_i p (by omega) fun x h' hk hv hn => ?_
  obtain ⟨w1, s1⟩ := w.fresh j hk
  exact hK x h' w1 s1 hv hn
theorem rw_Write {i : Nat} {p : Option Addr} {m : Md} {at_ : Int} {x : Sl} {data : List UInt8} {K : Int → Hp → Prop} (w : Ow h o A) (hi : A i = Ass.rdisk p m) (hx : Byt h x data) (hx1 : ∀ a, x.p = some a → data ≠ [] → o a.block ≠ i)
    (hcap : m.pend.length ≤ 1000000000000)
    (hK : ∀ h', Ow h' (Gro o i h) (upd A i (Ass.rdisk p (m.write at_ data).2)) → Stp (fun j => j = i) h o h' (Gro o i h) → K (m.write at_ data).1 h') : ref2_Disk_Write p at_ x K h := by
  obtain ⟨b, bl, sw, l, rfl, q⟩ := w.rdisk hi
  refine ref2_Write_i q hx hx1 (by omega) fun h' sw' l' hk p' => ?_
  obtain ⟨w1, s1⟩ := w.step (B := Ass.rdisk (some (nA b)) (m.write at_ data).2) hk ⟨b, bl, sw', l', rfl, p'⟩
  exact hK h' w1 s1
theorem rw_Flush {i : Nat} {p : Option Addr} {m : Md} {K : Int → Hp → Prop} (w : Ow h o A) (hi : A i = Ass.rdisk p m) (hcap : m.pend.length ≤ 1000000000000)
    (hK : ∀ h', Ow h' (Gro o i h) (upd A i (Ass.rdisk p m.flush.2)) → Stp (fun j => j = i) h o h' (Gro o i h) → K m.flush.1 h') : ref2_Disk_Flush p K h := by
  obtain ⟨b, bl, sw, l, rfl, q⟩ := w.rdisk hi
  refine ref2_Flush_i q (by omega) fun h' sw' l' hk p' => ?_
  obtain ⟨w1, s1⟩ := w.step (B := Ass.rdisk (some (nA b)) m.flush.2) hk ⟨b, bl, sw', l', rfl, p'⟩
  exact hK h' w1 s1
theorem rw_Cut {i : Nat} {p : Option Addr} {m : Md} {a : Int} {K : Int → Hp → Prop} (w : Ow h o A) (hi : A i = Ass.rdisk p m)
    (hK : ∀ h', Ow h' (Gro o i h) (upd A i (Ass.rdisk p (m.cut a).2)) → Stp (fun j => j = i) h o h' (Gro o i h) → K (m.cut a).1 h') : ref2_Disk_Cut p a K h := by
  obtain ⟨b, bl, sw, l, rfl, q⟩ := w.rdisk hi
  refine ref2_Cut_i q fun h' hk p' => ?_
  have hk' : Kp (fun x => o x = i) h h' := hk.mono fun x _ e => by subst e; exact q.fb
  obtain ⟨w1, s1⟩ := w.step (B := Ass.rdisk (some (nA b)) (m.cut a).2) hk' ⟨b, bl, sw, l, rfl, p'.mono fun _ _ h => .inl h⟩
  exact hK h' w1 s1
theorem rw_Crash {i : Nat} {p : Option Addr} {m : Md} {x : Sl} {keep : List Bool} {K : Int → Int → Hp → Prop} (w : Ow h o A) (hi : A i = Ass.rdisk p m) (hx : Bls h x keep) (hx1 : ∀ a, x.p = some a → keep ≠ [] → o a.block ≠ i)
    (hcap : m.pend.length ≤ 1000000000000)
    (hK : ∀ h', Ow h' (Gro o i h) (upd A i (Ass.rdisk p (m.crash keep).2)) → Stp (fun j => j = i) h o h' (Gro o i h) → K (m.crash keep).1 0 h') : ref2_Disk_Crash p x K h := by
  obtain ⟨b, bl, sw, l, rfl, q⟩ := w.rdisk hi
  refine ref2_Crash_i q hx hx1 (by omega) fun h' sw' l' hk p' => ?_
  obtain ⟨w1, s1⟩ := w.step (B := Ass.rdisk (some (nA b)) (m.crash keep).2) hk ⟨b, bl, sw', l', rfl, p'⟩
  exact hK h' w1 s1
theorem rw_Stat {i : Nat} {p : Option Addr} {m : Md} (j : Nat) {K : Int → Int → Int → Bool → Hp → Prop} (w : Ow h o A) (hi : A i = Ass.rdisk p m)
    (hK : ∀ h', Ow h' (Gro o j h) A → Stp (fun _ => False) h o h' (Gro o j h) → K m.writes m.flushes (m.pend.length : Int) m.down h') : ref2_Disk_Stat p K h := by
  obtain ⟨b, bl, sw, l, rfl, q⟩ := w.rdisk hi
  refine ref2_Stat_i q fun h' hk => ?_
  obtain ⟨w1, s1⟩ := w.fresh j hk
  exact hK h' w1 s1
theorem rw_Image {i : Nat} {p : Option Addr} {m : Md} (j : Nat) {K : Sl → Hp → Prop} (w : Ow h o A) (hi : A i = Ass.rdisk p m)
    (hK : ∀ x h', Ow h' (Gro o j h) A → Stp (fun _ => False) h o h' (Gro o j h) → Vec h' x 1 5 ((m.laid.flatMap fun s => s).map bv) → (∀ y, x.blk y → h.size ≤ y) → K x h') : ref2_Disk_Image p K h := by
  obtain ⟨b, bl, sw, l, rfl, q⟩ := w.rdisk hi
  refine ref2_Image_i q fun x h' hk hv hn => ?_
  obtain ⟨w1, s1⟩ := w.fresh j hk
  exact hK x h' w1 s1 hv hn
theorem rw_Pending {i : Nat} {p : Option Addr} {m : Md} (j : Nat) {K : Sl → Hp → Prop} (w : Ow h o A) (hi : A i = Ass.rdisk p m) (hcap : m.pend.length ≤ 1000000000000)
    (hK : ∀ s l h', Ow h' (Gro o j h) A → Stp (fun _ => False) h o h' (Gro o j h) → WLs h' s l (fun x => h.size ≤ x) → l.map (·.1) = m.pend → K s h') : ref2_Disk_Pending p K h := by
  obtain ⟨b, bl, sw, l', rfl, q⟩ := w.rdisk hi
  refine ref2_Pending_i q (by omega) fun s l h' hk hv hn => ?_
  obtain ⟨w1, s1⟩ := w.fresh j hk
  exact hK s l h' w1 s1 hv hn
end
end Go.Proofs.Ythpeadoidpimmaa
