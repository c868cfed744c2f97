/- The disk as a plain thing. No condition. -/
import Derived.Test.YthpeadoidpimmaaVx
namespace Tw
open Go
set_option linter.unusedVariables false

abbrev Wrt := Int × List UInt8

structure Md where
  laid : List (List UInt8)
  pend : List Wrt
  fuse : Int
  down : Bool
  writes : Int
  flushes : Int

structure Md.Wf (m : Md) : Prop where
  lo : 1 ≤ m.laid.length
  hi : m.laid.length ≤ 4096
  sec : ∀ s ∈ m.laid, s.length = 128
  pen : ∀ w ∈ m.pend, w.2.length = 128 ∧ 0 ≤ w.1 ∧ w.1 < m.laid.length

def lastIr : List Wrt → Int → Option Nat
  | [], _ => none
  | w :: r, k => if k == w.1 then some r.length else lastIr r k
def lastWr : List Wrt → Int → Option (List UInt8)
  | [], _ => none
  | w :: r, k => if k == w.1 then some w.2 else lastWr r k
/-- The place of the last write to a sector; its bytes. -/
def lastI (p : List Wrt) (k : Int) : Option Nat := lastIr p.reverse k
def lastW (p : List Wrt) (k : Int) : Option (List UInt8) := lastWr p.reverse k

theorem lastI_snoc (p : List Wrt) (w : Wrt) (k : Int) : lastI (p ++ [w]) k = if k == w.1 then some p.length else lastI p k := by
  simp [lastI, lastIr]
theorem lastW_snoc (p : List Wrt) (w : Wrt) (k : Int) : lastW (p ++ [w]) k = if k == w.1 then some w.2 else lastW p k := by
  simp [lastW, lastWr]

theorem lastIr_spec : ∀ (p : List Wrt) (k : Int) (i : Nat), lastIr p k = some i → ∃ d, p.reverse[i]? = some (k, d) ∧ lastWr p k = some d
  | [], k, i, h => by simp [lastIr] at h
  | w :: r, k, i, h => by
    unfold lastIr at h
    unfold lastWr
    cases hk : (k == w.1) with
    | true =>
      rw [hk] at h
      simp at h
      subst h
      have : k = w.1 := by simpa using hk
      refine ⟨w.2, ?_, by simp⟩
      subst this
      simp
    | false =>
      rw [hk] at h
      simp at h
      obtain ⟨d, h1, h2⟩ := lastIr_spec r k i h
      refine ⟨d, ?_, by simp [h2]⟩
      rw [List.reverse_cons, List.getElem?_append_left (List.getElem?_eq_some_iff.1 h1).1]
      exact h1
theorem lastI_spec {p : List Wrt} {k : Int} {i : Nat} (h : lastI p k = some i) : ∃ d, p[i]? = some (k, d) ∧ lastW p k = some d := by
  have := lastIr_spec p.reverse k i h
  simpa [lastW] using this
theorem lastIr_none : ∀ (p : List Wrt) (k : Int), lastIr p k = none → lastWr p k = none
  | [], k, h => rfl
  | w :: r, k, h => by
    unfold lastIr at h
    unfold lastWr
    cases hk : (k == w.1) with
    | true => rw [hk] at h; simp at h
    | false => rw [hk] at h; simp at h ⊢; exact lastIr_none r k h
theorem lastI_none {p : List Wrt} {k : Int} (h : lastI p k = none) : lastW p k = none := lastIr_none _ _ h

/-- What a sector holds. -/
def Md.newest (m : Md) (k : Nat) : List UInt8 := (lastW m.pend k).getD (m.laid.getD k [])

/-- All writes, one behind the other. -/
def layAll (laid : List (List UInt8)) (p : List Wrt) : List (List UInt8) := p.foldl (fun l w => l.set w.1.toNat w.2) laid

theorem layAll_len (laid : List (List UInt8)) (p : List Wrt) : (layAll laid p).length = laid.length := by
  unfold layAll
  induction p generalizing laid with
  | nil => rfl
  | cons w r ih => simp [ih]

theorem layAll_snoc (laid : List (List UInt8)) (p : List Wrt) (w : Wrt) : layAll laid (p ++ [w]) = (layAll laid p).set w.1.toNat w.2 := by
  unfold layAll; rw [List.foldl_append]; rfl

theorem snoc_ind {α : Type} {P : List α → Prop} (h0 : P []) (hs : ∀ l x, P l → P (l ++ [x])) (l : List α) : P l := by
  have : ∀ r : List α, P r.reverse := by
    intro r
    induction r with
    | nil => exact h0
    | cons x r ih => rw [List.reverse_cons]; exact hs _ _ ih
  have := this l.reverse
  rwa [List.reverse_reverse] at this

theorem layAll_get (laid : List (List UInt8)) (p : List Wrt) (hp : ∀ w ∈ p, 0 ≤ w.1 ∧ w.1 < laid.length) (k : Nat) (hk : k < laid.length) :
    (layAll laid p)[k]? = some ((lastW p k).getD (laid.getD k [])) := by
  induction p using snoc_ind with
  | h0 => simp [layAll, lastW, lastWr, hk]
  | hs p w ih =>
    have ih := ih (fun x hx => hp x (by simp [hx]))
    have hw := hp w (by simp)
    rw [layAll_snoc, lastW_snoc, List.getElem?_set]
    by_cases he : w.1.toNat = k
    · rw [if_pos he, layAll_len, if_pos (by omega)]
      have : ((k : Int) == w.1) = true := by simp; omega
      rw [if_pos this]; rfl
    · rw [if_neg he, ih]
      have : ((k : Int) == w.1) = false := by simp; omega
      rw [this]; rfl

/-! ### The calls -/
def Md.new (n : Nat) : Md := { laid := List.replicate n (List.replicate 128 0), pend := [], fuse := -1, down := false, writes := 0, flushes := 0 }

def chunks : Nat → List UInt8 → List (List UInt8)
  | 0, _ => []
  | n + 1, l => l.take 128 :: chunks n (l.drop 128)
def Md.load (bs : List UInt8) : Md := { Md.new 0 with laid := chunks (bs.length / 128) bs }

theorem chunks_len : ∀ (n : Nat) (l : List UInt8), (chunks n l).length = n
  | 0, _ => rfl
  | n + 1, l => by simp [chunks, chunks_len n]
theorem chunks_get : ∀ (n : Nat) (l : List UInt8) (i : Nat), i < n → (chunks n l)[i]? = some ((l.drop (i * 128)).take 128)
  | n + 1, l, 0, _ => by simp [chunks]
  | n + 1, l, i + 1, h => by
    simp only [chunks, List.getElem?_cons_succ]
    rw [chunks_get n _ i (by omega), List.drop_drop]
    congr 3; omega

def Md.burn (m : Md) : Bool × Md :=
  if m.down then (false, m) else if m.fuse = 0 then (false, { m with down := true }) else if 0 < m.fuse then (true, { m with fuse := IntKind.i64.wrap (m.fuse - 1) }) else (true, m)

def Md.write (m : Md) (at_ : Int) (data : List UInt8) : Int × Md :=
  if at_ < 0 ∨ (m.laid.length : Int) ≤ at_ then (20, m) else if data.length ≠ 128 then (21, m) else
    if m.burn.1 then (0, { m.burn.2 with pend := m.pend ++ [(at_, data)], writes := IntKind.i64.wrap (m.writes + 1) }) else (2, m.burn.2)

def Md.settle (m : Md) (laid : List (List UInt8)) : Md := { m with laid := laid, pend := [] }

def Md.flush (m : Md) : Int × Md :=
  if m.burn.1 then (0, { m.burn.2 with laid := layAll m.laid m.pend, pend := [], flushes := IntKind.i64.wrap (m.flushes + 1) }) else (2, m.burn.2)

def Md.cut (m : Md) (after : Int) : Int × Md :=
  if after < 0 then (1, m) else if m.down then (2, m) else (0, { m with fuse := after })

/-- The writes that are kept. -/
def keptW : List Wrt → List Bool → List Wrt
  | [], _ => []
  | _ :: _, [] => []
  | w :: r, b :: bs => if b then w :: keptW r bs else keptW r bs

def Md.crash (m : Md) (keep : List Bool) : Int × Md :=
  (((keptW m.pend keep).length : Int), { m with laid := layAll m.laid (keptW m.pend keep), pend := [], down := false, fuse := -1 })

def Md.read (m : Md) (at_ : Int) : List UInt8 × Int :=
  if at_ < 0 ∨ (m.laid.length : Int) ≤ at_ then ([], 20) else if m.down then ([], 2) else (m.newest at_.toNat, 0)

theorem Md.burn_laid (m : Md) : m.burn.2.laid = m.laid ∧ m.burn.2.pend = m.pend ∧ m.burn.2.writes = m.writes ∧ m.burn.2.flushes = m.flushes := by
  unfold Md.burn; split
  · exact ⟨rfl, rfl, rfl, rfl⟩
  · split
    · exact ⟨rfl, rfl, rfl, rfl⟩
    · split <;> exact ⟨rfl, rfl, rfl, rfl⟩
theorem Md.Wf.of {m m' : Md} (hw : m.Wf) (h1 : m'.laid = m.laid) (h2 : m'.pend = m.pend) : m'.Wf := by
  refine ⟨?_, ?_, ?_, ?_⟩ <;> simp only [h1, h2]
  · exact hw.lo
  · exact hw.hi
  · exact hw.sec
  · exact hw.pen
theorem Md.Wf.burn {m : Md} (hw : m.Wf) : m.burn.2.Wf := hw.of (m.burn_laid).1 (m.burn_laid).2.1
theorem layAll_sec {laid : List (List UInt8)} {p : List Wrt} (h1 : ∀ s ∈ laid, s.length = 128) (h2 : ∀ w ∈ p, w.2.length = 128) : ∀ s ∈ layAll laid p, s.length = 128 := by
  unfold layAll
  induction p generalizing laid with
  | nil => exact h1
  | cons w r ih =>
    refine ih (fun s hs => ?_) (fun x hx => h2 x (by simp [hx]))
    rcases List.mem_or_eq_of_mem_set hs with h | rfl
    · exact h1 s h
    · exact h2 w (by simp)
theorem keptW_mem : ∀ (p : List Wrt) (k : List Bool), ∀ w ∈ keptW p k, w ∈ p
  | [], _, w, h => by simp [keptW] at h
  | _ :: _, [], w, h => by simp [keptW] at h
  | x :: r, b :: bs, w, h => by
    unfold keptW at h
    split at h
    · rcases List.mem_cons.1 h with rfl | h
      · simp
      · simp [keptW_mem r bs w h]
    · simp [keptW_mem r bs w h]
theorem Md.Wf.write {m : Md} (hw : m.Wf) (at_ : Int) (data : List UInt8) : (m.write at_ data).2.Wf := by
  unfold Md.write
  split
  · exact hw
  · split
    · exact hw
    · split
      · rename_i h1 h2 _
        have hb := m.burn_laid
        refine ⟨?_, ?_, ?_, ?_⟩ <;> simp only [hb.1]
        · exact hw.lo
        · exact hw.hi
        · exact hw.sec
        · intro w hx
          rcases List.mem_append.1 hx with h | h
          · exact hw.pen w h
          · simp at h; subst h; exact ⟨by simpa using h2, by simp; omega, by simp; omega⟩
      · exact hw.burn
theorem Md.Wf.flush {m : Md} (hw : m.Wf) : m.flush.2.Wf := by
  unfold Md.flush
  split
  · refine ⟨?_, ?_, ?_, ?_⟩ <;> simp only [layAll_len]
    · exact hw.lo
    · exact hw.hi
    · exact layAll_sec hw.sec fun w hx => (hw.pen w hx).1
    · intro w hx; cases hx
  · exact hw.burn
theorem Md.Wf.cut {m : Md} (hw : m.Wf) (n : Int) : (m.cut n).2.Wf := by
  unfold Md.cut
  split
  · exact hw
  · split
    · exact hw
    · exact hw.of rfl rfl
theorem Md.Wf.crash {m : Md} (hw : m.Wf) (k : List Bool) : (m.crash k).2.Wf := by
  refine ⟨?_, ?_, ?_, ?_⟩ <;> simp only [Md.crash, layAll_len]
  · exact hw.lo
  · exact hw.hi
  · exact layAll_sec hw.sec fun w hx => (hw.pen w (keptW_mem _ _ w hx)).1
  · intro w hx; cases hx
theorem Md.Wf.new {n : Nat} (h1 : 1 ≤ n) (h2 : n ≤ 4096) : (Md.new n).Wf := by
  refine ⟨by simpa [Md.new] using h1, by simpa [Md.new] using h2, fun s hs => ?_, fun w hx => by simp [Md.new] at hx⟩
  simp only [Md.new] at hs
  rw [List.eq_of_mem_replicate hs]; simp
theorem Md.Wf.load {bs : List UInt8} (h0 : bs.length % 128 = 0) (h1 : 1 ≤ bs.length / 128) (h2 : bs.length / 128 ≤ 4096) : (Md.load bs).Wf := by
  refine ⟨by simpa [Md.load, chunks_len] using h1, by simpa [Md.load, chunks_len] using h2, fun s hs => ?_, fun w hx => by simp [Md.load, Md.new] at hx⟩
  simp only [Md.load] at hs
  obtain ⟨i, hi⟩ := List.getElem?_of_mem hs
  have hlt : i < bs.length / 128 := by have := (List.getElem?_eq_some_iff.1 hi).1; rwa [chunks_len] at this
  rw [chunks_get _ _ _ hlt] at hi
  simp at hi; subst hi
  simp; omega
theorem Md.newest_len {m : Md} (hw : m.Wf) {k : Nat} (hk : k < m.laid.length) : (m.newest k).length = 128 := by
  have h1 := layAll_get m.laid m.pend (fun w hx => (hw.pen w hx).2) k hk
  exact layAll_sec hw.sec (fun w hx => (hw.pen w hx).1) _ (List.mem_of_getElem? h1)
theorem flat_len128 (L : List (List UInt8)) (h : ∀ s ∈ L, s.length = 128) : (L.flatMap fun s => s).length = L.length * 128 := by
  induction L with
  | nil => rfl
  | cons x r ih =>
    have := h x (by simp)
    have := ih fun s hs => h s (by simp [hs])
    simp only [List.flatMap_cons, List.length_append, List.length_cons]; omega
end Tw
