/- Owners of blocks; disks that may not be there. No condition. -/
import Derived.Test.YthpeadoidpimmaaDiskR
namespace Go.Proofs.Ythpeadoidpimmaa
open Go Tw
set_option linter.unusedVariables false
set_option linter.unusedSimpArgs false
set_option maxRecDepth 10000

section
variable {h : Hp}
theorem wls_at {s : Sl} {l : List (Wrt × Sl)} {G : Nat → Prop} (w : WLs h s l G) {i : Nat} (hi : i < l.length) : ∃ a, s.p = some a ∧ rdc h ((a.add (i * 2)).add 0) = some (.int .i64 l[i].1.1) ∧ rdc h ((a.add (i * 2)).add 1) = some (l[i].2.v) := by
  obtain ⟨a, ha⟩ := w.vec.ptr (by rw [w.len]; omega)
  have hq : l[i]? = some l[i] := by simp [hi]
  have hr : RdL h (a.add (i * 2)) [.int .i64 l[i].1.1, l[i].2.v] := w.vec.rdl ha fun j v hj => flat_get (fun x : Wrt × Sl => [.int .i64 x.1.1, x.2.v]) 2 l (fun _ _ => rfl) i _ hq j v hj
  exact ⟨a, ha, hr 0 _ rfl, hr 1 _ rfl⟩

end
/-- What is new belongs to i. -/
def Gro (o : Nat → Nat) (i : Nat) (h : Hp) : Nat → Nat := fun x => if x < h.size then o x else i

def PDo (h : Hp) (p : Option Addr) : Option Md → (Nat → Prop) → Prop
  | none, _ => p = none
  | some m, F => PD h p m F
def RDo (h : Hp) (p : Option Addr) : Option Md → (Nat → Prop) → Prop
  | none, _ => p = none
  | some m, F => ∃ b bl sw l, p = some (nA b) ∧ RDi h b bl sw l m F

theorem PDo.other {h h' : Hp} {p : Option Addr} {m : Option Md} {o : Nat → Nat} {j i : Nat} {G : Nat → Prop} (d : PDo h p m (fun x => o x = j)) (hk : Kp G h h') (hG : ∀ x, o x = j → ¬ G x) : PDo h' p m (fun x => Gro o i h x = j) := by
  cases m with
  | none => exact d
  | some m => exact (PD.kp d hk fun x _ => hG x).mono fun x _ hx => by simp [Gro, hx.2, hx.1]
theorem PDo.self {h h' : Hp} {p : Option Addr} {m : Option Md} {o : Nat → Nat} {i : Nat} (d : PDo h' p m (fun x => o x = i ∨ h.size ≤ x)) : PDo h' p m (fun x => Gro o i h x = i) := by
  cases m with
  | none => exact d
  | some m => exact PD.mono d fun x _ hx => by unfold Gro; split <;> first | rfl | (rcases hx with h1 | h1 <;> first | exact h1 | omega)
theorem RDo.other {h h' : Hp} {p : Option Addr} {m : Option Md} {o : Nat → Nat} {j i : Nat} {G : Nat → Prop} (d : RDo h p m (fun x => o x = j)) (hk : Kp G h h') (hG : ∀ x, o x = j → ¬ G x) : RDo h' p m (fun x => Gro o i h x = j) := by
  cases m with
  | none => exact d
  | some m =>
    obtain ⟨b, bl, sw, l, e, d⟩ := d
    exact ⟨b, bl, sw, l, e, (d.kp hk fun x _ => hG x).mono fun x _ hx => by simp [Gro, hx.2, hx.1]⟩
theorem RDo.self {h h' : Hp} {p : Option Addr} {m : Option Md} {o : Nat → Nat} {i : Nat} (d : RDo h' p m (fun x => o x = i ∨ h.size ≤ x)) : RDo h' p m (fun x => Gro o i h x = i) := by
  cases m with
  | none => exact d
  | some m =>
    obtain ⟨b, bl, sw, l, e, d⟩ := d
    exact ⟨b, bl, sw, l, e, d.mono fun x _ hx => by unfold Gro; split <;> first | rfl | (rcases hx with h1 | h1 <;> first | exact h1 | omega)⟩
theorem PDo.iff {h : Hp} {p : Option Addr} {m : Option Md} {F : Nat → Prop} (d : PDo h p m F) : p.isNone = m.isNone := by
  cases m with
  | none => cases d; rfl
  | some m => exact PD.ne d
theorem RDo.iff {h : Hp} {p : Option Addr} {m : Option Md} {F : Nat → Prop} (d : RDo h p m F) : p.isNone = m.isNone := by
  cases m with
  | none => cases d; rfl
  | some m => obtain ⟨b, bl, sw, l, rfl, d⟩ := d; rfl

def upd {α : Type} (f : Nat → α) (w : Nat) (v : α) : Nat → α := fun i => if i = w then v else f i

theorem upd_self {α : Type} (f : Nat → α) (w : Nat) : upd f w (f w) = f := by
  funext i; unfold upd; split
  · subst_vars; rfl
  · rfl

theorem and1_i64 (n : Int) : IntKind.i64.wrap ((BitVec.ofInt (IntKind.bits .i64) n &&& BitVec.ofInt (IntKind.bits .i64) 1).toNat : Int) = (((n % 2).toNat : Nat) : Int) := by
  have e : (BitVec.ofInt (IntKind.bits .i64) n &&& BitVec.ofInt (IntKind.bits .i64) 1).toNat = (n % 2).toNat := by
    show (BitVec.ofInt 64 n &&& 1#64).toNat = _
    rw [BitVec.toNat_and, BitVec.toNat_ofInt]
    have : (1#64 : BitVec 64).toNat = 2 ^ 1 - 1 := rfl
    rw [this, Nat.and_two_pow_sub_one_eq_mod]
    omega
  rw [e]
  exact wrap_i64 (by omega) (by omega)

theorem Gro.old {o : Nat → Nat} {i : Nat} {h : Hp} {x : Nat} (hx : x < h.size) : Gro o i h x = o x := by simp [Gro, hx]

def newO (n : Int) : Option Md := if n < 1 ∨ 4096 < n then none else some (Md.new n.toNat)
def loadO (bs : List UInt8) : Option Md := if badImage bs then none else some (Md.load bs)

def errN (n : Int) : Int := if n < 1 ∨ 4096 < n then 1 else 0
def errL (bs : List UInt8) : Int := if badImage bs then 22 else 0

section
variable {h : Hp}
theorem PDi.pdo {b bl r : Nat} {sp : Sl} {m : Md} {h1 h2 : Hp} {o : Nat → Nat} {i : Nat} (p : PDi h2 b bl r sp m (fun x => h1.size ≤ x)) : PDo h2 (some (nA b)) (some m) (fun x => Gro o i h1 x = i) :=
  ⟨b, bl, r, sp, rfl, p.mono fun x _ hx => by simp [Gro]; omega⟩
theorem RDi.rdo {b bl : Nat} {sw : Sl} {l : List (Wrt × Sl)} {m : Md} {h1 h2 : Hp} {o : Nat → Nat} {i : Nat} (p : RDi h2 b bl sw l m (fun x => h1.size ≤ x)) : RDo h2 (some (nA b)) (some m) (fun x => Gro o i h1 x = i) :=
  ⟨b, bl, sw, l, rfl, p.mono fun x _ hx => by simp [Gro]; omega⟩

theorem disk_New_o (i : Nat) (o : Nat → Nat) {n : Int} {K : Option Addr → Int → Hp → Prop} (hK : ∀ h' p, Kp (fun _ => False) h h' → PDo h' p (newO n) (fun x => Gro o i h x = i) → K p (errN n) h') : disk_New n K h := by
  unfold newO errN at hK
  refine disk_New_c (fun hb => ?_) fun h1 h2 h' b bl r hk p => ?_
  · rw [if_pos hb, if_pos hb] at hK
    exact hK h none (Kp.refl _ _) rfl
  · rw [if_neg (by omega), if_neg (by omega)] at hK
    exact hK h' _ hk (PDi.pdo p)
theorem ref2_New_o (i : Nat) (o : Nat → Nat) {n : Int} {K : Option Addr → Int → Hp → Prop} (hK : ∀ h' p, Kp (fun _ => False) h h' → RDo h' p (newO n) (fun x => Gro o i h x = i) → K p (errN n) h') : ref2_New n K h := by
  unfold newO errN at hK
  refine ref2_New_c (fun hb => ?_) fun h1 h2 h' b bl hk p => ?_
  · rw [if_pos hb, if_pos hb] at hK
    exact hK h none (Kp.refl _ _) rfl
  · rw [if_neg (by omega), if_neg (by omega)] at hK
    exact hK h' _ hk p.rdo
theorem disk_Load_o (i : Nat) (o : Nat → Nat) {s : Sl} {bs : List UInt8} {K : Option Addr → Int → Hp → Prop} (hs : Byt h s bs) (hlen : bs.length < 9223372036854775808)
    (hK : ∀ h' p, Kp (fun _ => False) h h' → PDo h' p (loadO bs) (fun x => Gro o i h x = i) → K p (errL bs) h') : disk_Load s K h := by
  unfold loadO errL at hK
  refine disk_Load_c hs hlen (fun hb => ?_) fun hb h' b bl r hk p => ?_
  · rw [if_pos hb, if_pos hb] at hK
    exact hK h none (Kp.refl _ _) rfl
  · rw [if_neg (by simp [hb]), if_neg (by simp [hb])] at hK
    exact hK h' _ hk (PDi.pdo p)
theorem ref2_Load_o (i : Nat) (o : Nat → Nat) {s : Sl} {bs : List UInt8} {K : Option Addr → Int → Hp → Prop} (hs : Byt h s bs) (hlen : bs.length ≤ 140737488355328)
    (hK : ∀ h' p, Kp (fun _ => False) h h' → RDo h' p (loadO bs) (fun x => Gro o i h x = i) → K p (errL bs) h') : ref2_Load s K h := by
  unfold loadO errL at hK
  refine ref2_Load_c hs hlen (fun hb => ?_) fun hb h' b bl hk p => ?_
  · rw [if_pos hb, if_pos hb] at hK
    exact hK h none (Kp.refl _ _) rfl
  · rw [if_neg (by simp [hb]), if_neg (by simp [hb])] at hK
    exact hK h' _ hk p.rdo

end
end Go.Proofs.Ythpeadoidpimmaa
