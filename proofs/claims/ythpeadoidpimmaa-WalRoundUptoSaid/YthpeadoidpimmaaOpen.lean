/- From an argument's reading to what lies in its cells. No condition. -/
import Derived.Test.YthpeadoidpimmaaRows
import Derived.Test.YthpeadoidpimmaaVx
import Derived.OpenShut
import Derived.SizedLaws
namespace Go.Proofs.Ythpeadoidpimmaa
open Go Tw Go.ChangeShapes Go.WideShapes Go.RowKit
set_option linter.unusedVariables false

/-- A slice whose places hold elements: n cells each; R: what an element's cells say. -/
structure Arr {α : Type} (h : Hp) (s : Sl) (n : Nat) (R : α → List Value → Prop) (xs : List α) : Prop where
  len : s.len = xs.length
  cap : s.len ≤ s.cap
  rd : match s.p with
    | some a => ∀ i x, xs[i]? = some x → ∃ cs, R x cs ∧ cs.length = n ∧ RdL h (a.add (i * n)) cs
    | none => xs = [] ∧ s.cap = 0

theorem Arr.ptr {α : Type} {h : Hp} {s : Sl} {n : Nat} {R : α → List Value → Prop} {xs : List α} (hs : Arr h s n R xs) {i : Nat} (hi : i < xs.length) :
    ∃ a, s.p = some a ∧ ∃ cs, R xs[i] cs ∧ cs.length = n ∧ RdL h (a.add (i * n)) cs := by
  have h1 := hs.rd
  cases hp : s.p with
  | none => rw [hp] at h1; have := h1.1; subst this; simp at hi
  | some a => rw [hp] at h1; exact ⟨a, rfl, h1 i _ (by simp [hi])⟩

theorem RdL.kp0 {h h' : Hp} {a : Addr} {l : List Value} (hr : RdL h a l) (hk : Kp (fun _ => False) h h') : RdL h' a l := hr.kp hk fun h => h

theorem pick {α β : Type} {Q : Nat → α → β → Prop} : ∀ (l : List β), (∀ i y, l[i]? = some y → ∃ x, Q i x y) → ∃ xs : List α, xs.length = l.length ∧ ∀ i x, xs[i]? = some x → ∃ y, l[i]? = some y ∧ Q i x y := by
  intro l
  induction l generalizing Q with
  | nil => exact fun _ => ⟨[], rfl, fun i x h => by simp at h⟩
  | cons y r ih =>
    intro h
    obtain ⟨x, hx⟩ := h 0 y rfl
    obtain ⟨xs, hl, hxs⟩ := ih (Q := fun i => Q (i + 1)) (fun i y hy => h (i + 1) y (by simpa using hy))
    refine ⟨x :: xs, by simp [hl], fun i z hz => ?_⟩
    cases i with
    | zero => simp at hz; subst hz; exact ⟨y, rfl, hx⟩
    | succ i => exact hxs i z (by simpa using hz)

theorem sum_le {H α β : Type} (μ : α → Nat) (g : β → DataW H) : ∀ (xs : List α) (l : List β), xs.length = l.length → (∀ (i : Nat) (x : α), xs[i]? = some x → ∃ y : β, l[i]? = some y ∧ μ x ≤ Rows.uptoBulk (g y)) →
    (xs.map μ).sum ≤ Rows.uptoBulkAll (l.map g)
  | [], [], _, _ => by simp [Rows.uptoBulkAll]
  | x :: xs, y :: l, hl, h => by
    obtain ⟨y', hy', hm⟩ := h 0 x rfl
    simp at hy'; subst hy'
    have := sum_le μ g xs l (by simpa using hl) (fun i x hx => h (i + 1) x (by simpa using hx))
    simp only [List.map_cons, List.sum_cons, Rows.uptoBulkAll]
    omega
  | [], _ :: _, hl, _ => by simp at hl
  | _ :: _, [], hl, _ => by simp at hl

section
variable {H : Type} {enc : TypeId × Value → H} {P : Program} {w : World} {base : Nat} {sp : Nat → Bool} {held : Bool}

/-- What is read of a type's cells: x; its measure is at most the datum's bulk. -/
def Opens {α : Type} (enc : TypeId × Value → H) (P : Program) (w : World) (base : Nat) (sp : Nat → Bool) (held : Bool) (e : TypeId) (R : α → List Value → Prop) (μ : α → Nat) : Prop :=
  ∀ fuel cs d p, DataW.trod enc P w base sp held fuel e cs = some (d, p) → ∃ x, R x cs ∧ μ x ≤ Rows.uptoBulk d

theorem open_slice {α : Type} {R : α → List Value → Prop} {μ : α → Nat} {t e : TypeId} {n : Nat} (ht : P.underlying t = some (.slice e)) (hc : P.cellsOf e = n)
    (hE : Opens enc P w base sp held e R μ) : Opens enc P w base sp held t (fun (xs : List α) cs => ∃ s : Sl, cs = [s.v] ∧ Arr w.heap s n R xs) (fun xs => (xs.map μ).sum + 1) := by
  intro fuel cs d p h
  rcases DataW.trod_slice ht h with ⟨hcs, hx⟩ | ⟨a, len, cap, elems, rest, m, _, hcs, hx, _, hl, _, hlen, hel, _⟩
  · cases hx
    exact ⟨[], ⟨Sl.nil, hcs, rfl, Nat.le_refl _, rfl, rfl⟩, by simp [Rows.uptoBulk]⟩
  · simp only [Prod.mk.injEq] at hx
    obtain ⟨rfl, _⟩ := hx
    obtain ⟨xs, hxl, hxs⟩ := pick (α := α) (Q := fun i x y => (∃ cs, R x cs ∧ cs.length = n ∧ RdL w.heap (a.add (i * n)) cs) ∧ μ x ≤ Rows.uptoBulk y.1) elems (fun i y hy => by
      have hi : i < len := by rw [← hlen]; exact (List.getElem?_eq_some_iff.1 hy).1
      have hE' := hel i hi
      rw [hy, Option.bind_eq_some_iff] at hE'
      obtain ⟨cs', hcs', hy'⟩ := hE'
      obtain ⟨x, hx, hm⟩ := hE m cs' y.1 y.2 hy'
      have hcc := World.cells?_some hcs'
      rw [hc] at hcc
      refine ⟨x, ⟨cs', hx, hcc.2.1, fun j v hj => ?_⟩, hm⟩
      have hj' : j < n := by rw [← hcc.2.1]; exact (List.getElem?_eq_some_iff.1 hj).1
      rw [← cell_rdc, hcc.2.2 j hj', hj])
    refine ⟨xs, ⟨⟨some a, len, cap⟩, hcs, by rw [hxl, hlen], hl, fun i x hx => ?_⟩, ?_⟩
    · obtain ⟨_, _, h1, _⟩ := hxs i x hx
      exact h1
    · simp only [Rows.uptoBulk]
      have := sum_le (H := H) μ (fun y : DataW H × List MemPlace => y.1) xs elems hxl (fun i x hx => by
        obtain ⟨y, hy, _, hm⟩ := hxs i x hx
        exact ⟨y, hy, hm⟩)
      omega

theorem open_byte {e : TypeId} (he : P.underlying e = some (.int .u8)) : Opens enc P w base sp held e (fun (b : UInt8) cs => cs = [bv b]) (fun _ => 1) := by
  intro fuel cs d p h
  obtain ⟨n, rfl, hx, hw⟩ := DataW.trod_int he h
  cases hx
  simp [Lit.wf, IntKind.min, IntKind.max, IntKind.signed, IntKind.bits] at hw
  refine ⟨UInt8.ofNat n.toNat, ?_, by simp [Rows.uptoBulk]⟩
  simp only [bv, List.cons.injEq, Value.int.injEq, true_and, and_true]
  have : (UInt8.ofNat n.toNat).toNat = n.toNat := by simp; omega
  rw [this]
  omega

theorem open_i64 {e : TypeId} (he : P.underlying e = some (.int .i64)) : Opens enc P w base sp held e (fun (n : Int) cs => cs = [.int .i64 n] ∧ -9223372036854775808 ≤ n ∧ n ≤ 9223372036854775807) (fun _ => 1) := by
  intro fuel cs d p h
  obtain ⟨n, rfl, hx, hw⟩ := DataW.trod_int he h
  cases hx
  simp [Lit.wf, IntKind.min, IntKind.max, IntKind.signed, IntKind.bits] at hw
  exact ⟨n, ⟨rfl, by omega, by omega⟩, by simp [Rows.uptoBulk]⟩

theorem open_boolc {e : TypeId} (he : P.underlying e = some .bool) : Opens enc P w base sp held e (fun (b : Bool) cs => cs = [.bool b]) (fun _ => 1) := by
  intro fuel cs d p h
  obtain ⟨b, rfl, hx⟩ := DataW.trod_bool he h
  cases hx
  exact ⟨b, rfl, by simp [Rows.uptoBulk]⟩

theorem Arr.byt {h : Hp} {s : Sl} {bs : List UInt8} (hs : Arr h s 1 (fun (b : UInt8) cs => cs = [bv b]) bs) : Byt h s bs := by
  refine ⟨hs.len, hs.cap, ?_⟩
  have h1 := hs.rd
  cases hp : s.p with
  | none => rw [hp] at h1; exact h1
  | some a =>
    rw [hp] at h1
    intro j v hj
    rw [List.getElem?_map, Option.map_eq_some_iff] at hj
    obtain ⟨b, hb, rfl⟩ := hj
    obtain ⟨cs, rfl, _, hr⟩ := h1 j b hb
    have := hr 0 _ rfl
    rw [Nat.mul_one, add_zero'] at this
    exact this

theorem Arr.bls {h : Hp} {s : Sl} {bs : List Bool} (hs : Arr h s 1 (fun (b : Bool) cs => cs = [.bool b]) bs) : Bls h s bs := by
  refine ⟨hs.len, hs.cap, ?_⟩
  have h1 := hs.rd
  cases hp : s.p with
  | none => rw [hp] at h1; exact h1
  | some a =>
    rw [hp] at h1
    intro j v hj
    rw [List.getElem?_map, Option.map_eq_some_iff] at hj
    obtain ⟨b, hb, rfl⟩ := hj
    obtain ⟨cs, rfl, _, hr⟩ := h1 j b hb
    have := hr 0 _ rfl
    rw [Nat.mul_one, add_zero'] at this
    exact this

theorem sum_one {α : Type} (l : List α) : (l.map fun _ => 1).sum = l.length := by
  induction l with
  | nil => rfl
  | cons x r ih => simp [ih]; omega

/-- A slice of bytes as an argument. -/
theorem open_bytes {t e : TypeId} (ht : P.underlying t = some (.slice e)) (he : P.underlying e = some (.int .u8)) (hc : P.cellsOf e = 1) :
    Opens enc P w base sp held t (fun (bs : List UInt8) cs => ∃ s : Sl, cs = [s.v] ∧ Byt w.heap s bs) (fun bs => bs.length + 1) := by
  intro fuel cs d p h
  obtain ⟨xs, ⟨s, hcs, hs⟩, hm⟩ := open_slice ht hc (open_byte he) fuel cs d p h
  simp only [sum_one] at hm
  exact ⟨xs, ⟨s, hcs, hs.byt⟩, hm⟩
theorem open_bools {t e : TypeId} (ht : P.underlying t = some (.slice e)) (he : P.underlying e = some .bool) (hc : P.cellsOf e = 1) :
    Opens enc P w base sp held t (fun (bs : List Bool) cs => ∃ s : Sl, cs = [s.v] ∧ Bls w.heap s bs) (fun bs => bs.length + 1) := by
  intro fuel cs d p h
  obtain ⟨xs, ⟨s, hcs, hs⟩, hm⟩ := open_slice ht hc (open_boolc he) fuel cs d p h
  simp only [sum_one] at hm
  exact ⟨xs, ⟨s, hcs, hs.bls⟩, hm⟩

theorem open_val {α : Type} {R : α → List Value → Prop} {μ : α → Nat} {t : TypeId} {v : Value} {d : DataW H} {ps : List MemPlace} (hO : Opens enc P w base sp held t R μ)
    (hd : DataW.Trod enc P w base sp held t v d ps) : ∃ x, R x v.cells.toList ∧ μ x ≤ Rows.uptoBulk d := by
  obtain ⟨fuel, h⟩ := hd
  exact hO fuel _ d ps h
theorem sl_of_cells {r : Reach} {b0 : Nat} {t e : TypeId} {v : Value} {s : Sl} (ht : P.underlying t = some (.slice e)) (hval : Value.okWide P w r b0 t v) (h : v.cells.toList = [s.v]) : v = s.v := by
  obtain ⟨a, len, cap, rfl⟩ := okWide_slice ht hval
  simpa [Value.cells] using h
end
end Go.Proofs.Ythpeadoidpimmaa
