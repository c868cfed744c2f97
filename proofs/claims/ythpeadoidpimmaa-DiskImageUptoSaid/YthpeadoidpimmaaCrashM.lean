/- Rounds of writes, a flush, writes and a crash, on the plain disk. No condition. -/
import Derived.Test.YthpeadoidpimmaaFuseC
namespace Tw
open Go
set_option linter.unusedVariables false

/-- The writes to sectors that are there. -/
def wsOf (n : Nat) (fill : UInt8 → List UInt8) : List (Int × UInt8) → List Wrt
  | [] => []
  | x :: r => if 0 ≤ x.1 ∧ x.1 < n then (x.1, fill x.2) :: wsOf n fill r else wsOf n fill r

theorem wsOf_snoc (n : Nat) (fill : UInt8 → List UInt8) (l : List (Int × UInt8)) (x : Int × UInt8) : wsOf n fill (l ++ [x]) = wsOf n fill l ++ (if 0 ≤ x.1 ∧ x.1 < n then [(x.1, fill x.2)] else []) := by
  induction l with
  | nil => simp only [List.nil_append, wsOf]
  | cons y r ih =>
    simp only [List.cons_append, wsOf, ih]
    split <;> simp
theorem wsOf_len (n : Nat) (fill : UInt8 → List UInt8) (l : List (Int × UInt8)) : (wsOf n fill l).length ≤ l.length := by
  induction l with
  | nil => simp [wsOf]
  | cons y r ih => simp only [wsOf]; split <;> simp <;> omega
theorem wsOf_in (n : Nat) (fill : UInt8 → List UInt8) (l : List (Int × UInt8)) : ∀ w ∈ wsOf n fill l, 0 ≤ w.1 ∧ w.1 < n := by
  induction l with
  | nil => simp [wsOf]
  | cons y r ih =>
    intro w hw
    simp only [wsOf] at hw
    split at hw
    · rcases List.mem_cons.1 hw with rfl | h
      · assumption
      · exact ih w h
    · exact ih w hw
/-- One more of them. -/
theorem wsOf_at (n : Nat) (fill : UInt8 → List UInt8) (l : List (Int × UInt8)) (i : Nat) (hi : i < l.length) :
    wsOf n fill (l.take (i + 1)) = wsOf n fill (l.take i) ++ (if 0 ≤ l[i].1 ∧ l[i].1 < n then [(l[i].1, fill l[i].2)] else []) := by
  rw [List.take_add_one, List.getElem?_eq_getElem hi, Option.toList_some, wsOf_snoc]
theorem wsOf_pre (n : Nat) (fill : UInt8 → List UInt8) (l : List (Int × UInt8)) (i : Nat) : (wsOf n fill l).take (wsOf n fill (l.take i)).length = wsOf n fill (l.take i) := by
  induction l generalizing i with
  | nil => simp [wsOf]
  | cons x r ih =>
    cases i with
    | zero => simp [wsOf]
    | succ i =>
      simp only [List.take_succ_cons, wsOf]
      split
      · simp [ih i]
      · exact ih i
theorem wsOf_get (n : Nat) (fill : UInt8 → List UInt8) (l : List (Int × UInt8)) (i : Nat) (hi : i < l.length) (hin : 0 ≤ l[i].1 ∧ l[i].1 < n) :
    (wsOf n fill l)[(wsOf n fill (l.take i)).length]? = some (l[i].1, fill l[i].2) := by
  have h1 := wsOf_pre n fill l (i + 1)
  have h2 := wsOf_at n fill l i hi
  rw [if_pos hin] at h2
  have h3 : (wsOf n fill (l.take (i + 1)))[(wsOf n fill (l.take i)).length]? = some (l[i].1, fill l[i].2) := by
    rw [h2, List.getElem?_append_right (Nat.le_refl _), Nat.sub_self]; rfl
  rw [← h1, List.getElem?_take] at h3
  split at h3
  · exact h3
  · cases h3

/-- The power is there and nothing is cut. -/
def Md.On (m : Md) : Prop := m.down = false ∧ m.fuse = -1
theorem Md.On.burn {m : Md} (h : m.On) : m.burn = (true, m) := by
  unfold Md.burn
  rw [if_neg (by simp [h.1]), if_neg (by rw [h.2]; decide), if_neg (by rw [h.2]; decide)]
theorem Md.On.write {m : Md} (h : m.On) (a : Int) (d : List UInt8) (hd : d.length = 128) :
    (0 ≤ a ∧ a < m.laid.length → (m.write a d).1 = 0 ∧ (m.write a d).2.pend = m.pend ++ [(a, d)]) ∧ (¬ (0 ≤ a ∧ a < m.laid.length) → (m.write a d).1 = 20 ∧ (m.write a d).2.pend = m.pend) ∧
      (m.write a d).2.On ∧ (m.write a d).2.laid = m.laid := by
  by_cases hin : 0 ≤ a ∧ a < m.laid.length
  · have e : m.write a d = (0, { m with pend := m.pend ++ [(a, d)], writes := IntKind.i64.wrap (m.writes + 1) }) := by
      unfold Md.write; rw [if_neg (by omega), if_neg (by omega), h.burn]; rfl
    rw [e]
    exact ⟨fun _ => ⟨rfl, rfl⟩, fun hn => (hn hin).elim, h, rfl⟩
  · have e : m.write a d = (20, m) := by unfold Md.write; rw [if_pos (by omega)]
    rw [e]
    exact ⟨fun hn => (hin hn).elim, fun _ => ⟨rfl, rfl⟩, h, rfl⟩
theorem Md.On.flush {m : Md} (h : m.On) : m.flush.1 = 0 ∧ m.flush.2.On ∧ m.flush.2.laid = layAll m.laid m.pend ∧ m.flush.2.pend = [] := by
  unfold Md.flush; rw [h.burn]
  exact ⟨rfl, h, rfl, rfl⟩
theorem Md.On.dark {m : Md} (h : m.On) : (m.cut 0).1 = 0 ∧ (m.cut 0).2.flush.1 = 2 ∧ (m.cut 0).2.flush.2.laid = m.laid ∧ (m.cut 0).2.flush.2.pend = m.pend := by
  have e : m.cut 0 = (0, { m with fuse := 0 }) := by unfold Md.cut; rw [if_neg (by omega), if_neg (by simp [h.1])]
  rw [e]
  have e2 : ({ m with fuse := 0 } : Md).flush = (2, { m with fuse := 0, down := true }) := by
    have : ({ m with fuse := 0 } : Md).burn = (false, { m with fuse := 0, down := true }) := by
      unfold Md.burn; rw [if_neg (by simp [h.1]), if_pos rfl]
    unfold Md.flush
    rw [this]; rfl
  rw [e2]
  exact ⟨rfl, rfl, rfl, rfl⟩
theorem Md.crash_on (m : Md) (k : List Bool) : (m.crash k).2.On ∧ (m.crash k).2.pend = [] ∧ (m.crash k).2.laid = layAll m.laid (keptW m.pend k) := ⟨⟨rfl, rfl⟩, rfl, rfl⟩
theorem Md.On.read {m : Md} (h : m.On) {k : Nat} (hk : k < m.laid.length) (hp : m.pend = []) : m.read k = (m.laid[k], 0) := by
  unfold Md.read
  rw [if_neg (by omega), if_neg (by simp [h.1]), Int.toNat_natCast]
  unfold Md.newest
  rw [hp]
  simp [lastW, lastWr, hk]
end Tw
