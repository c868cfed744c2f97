/- A disk whose power goes: how many operations it carries out. No condition. -/
import Derived.Test.YthpeadoidpimmaaDiskM
namespace Tw
open Go
set_option linter.unusedVariables false

structure FuI (n : Nat) (turn after done : Int) (m : Md) : Prop where
  len : m.laid.length = n
  st : (turn = 0 ∧ m.down = false ∧ m.fuse = after - done ∧ done ≤ after) ∨ (turn = 0 ∧ m.down = true ∧ done = after) ∨ (turn ≠ 0 ∧ m.down = false ∧ m.fuse = -1)
  w0 : 0 ≤ m.writes
  f0 : 0 ≤ m.flushes
  sum : m.writes + m.flushes = done

theorem FuI.burnF {n : Nat} {turn after done : Int} {m : Md} (i : FuI n turn after done m) (h : turn = 0 ∧ after ≤ done) : m.burn.1 = false ∧ m.burn.2.down = true ∧ done = after := by
  obtain ⟨h1, h2⟩ := h
  rcases i.st with ⟨_, hd, hf, hl⟩ | ⟨_, hd, hf⟩ | ⟨ht, _⟩
  · have : m.fuse = 0 := by omega
    unfold Md.burn
    rw [if_neg (by simp [hd]), if_pos this]
    exact ⟨rfl, rfl, by omega⟩
  · unfold Md.burn
    rw [if_pos hd]
    exact ⟨rfl, hd, hf⟩
  · exact absurd h1 ht
theorem FuI.burnT {n : Nat} {turn after done : Int} {m : Md} (i : FuI n turn after done m) (ha : after ≤ 9223372036854775807) (h0 : 0 ≤ done) (h : ¬ (turn = 0 ∧ after ≤ done)) :
    m.burn.1 = true ∧ ((turn = 0 ∧ m.burn.2.down = false ∧ m.burn.2.fuse = after - (done + 1) ∧ done + 1 ≤ after) ∨ (turn ≠ 0 ∧ m.burn.2.down = false ∧ m.burn.2.fuse = -1)) := by
  rcases i.st with ⟨h1, hd, hf, hl⟩ | ⟨h1, hd, hf⟩ | ⟨h1, hd, hf⟩
  · unfold Md.burn
    rw [if_neg (by simp [hd]), if_neg (by omega), if_pos (by omega)]
    refine ⟨rfl, .inl ⟨h1, hd, ?_, by omega⟩⟩
    show IntKind.i64.wrap (m.fuse - 1) = _
    rw [wrap_i64 (by omega) (by omega)]; omega
  · omega
  · unfold Md.burn
    rw [if_neg (by simp [hd]), if_neg (by omega), if_neg (by omega)]
    exact ⟨rfl, .inr ⟨h1, hd, hf⟩⟩

theorem FuI.noF {n : Nat} {turn after done : Int} {m m' : Md} (i : FuI n turn after done m) (h : turn = 0 ∧ after ≤ done) (e : m' = m.burn.2) : FuI n turn after done m' ∧ m'.down = true := by
  subst e
  obtain ⟨b1, b2, b3⟩ := i.burnF h
  have hb := m.burn_laid
  exact ⟨⟨by rw [hb.1]; exact i.len, .inr (.inl ⟨h.1, b2, b3⟩), by rw [hb.2.2.1]; exact i.w0, by rw [hb.2.2.2]; exact i.f0, by rw [hb.2.2.1, hb.2.2.2]; exact i.sum⟩, b2⟩

theorem FuI.flushF {n : Nat} {turn after done : Int} {m : Md} (i : FuI n turn after done m) (h : turn = 0 ∧ after ≤ done) : m.flush.1 = 2 ∧ FuI n turn after done m.flush.2 ∧ m.flush.2.down = true ∧ m.flush.2.pend = m.pend := by
  have e : m.flush = (2, m.burn.2) := by unfold Md.flush; rw [if_neg (by simp [(i.burnF h).1])]
  rw [e]
  exact ⟨rfl, (i.noF h rfl).1, (i.noF h rfl).2, m.burn_laid.2.1⟩
theorem FuI.flushT {n : Nat} {turn after done : Int} {m : Md} (i : FuI n turn after done m) (ha : after ≤ 9223372036854775807) (h0 : 0 ≤ done) (hd : done < 9223372036854775807) (h : ¬ (turn = 0 ∧ after ≤ done)) :
    m.flush.1 = 0 ∧ FuI n turn after (done + 1) m.flush.2 ∧ m.flush.2.pend.length ≤ m.pend.length + 1 := by
  obtain ⟨b1, b2⟩ := i.burnT ha h0 h
  have hb := m.burn_laid
  have e : m.flush = (0, { m.burn.2 with laid := layAll m.laid m.pend, pend := [], flushes := IntKind.i64.wrap (m.flushes + 1) }) := by unfold Md.flush; rw [if_pos b1]
  have hw := i.w0
  have hf := i.f0
  have hs := i.sum
  have ew : IntKind.i64.wrap (m.flushes + 1) = m.flushes + 1 := wrap_i64 (by omega) (by omega)
  rw [e]
  refine ⟨rfl, ⟨?_, ?_, ?_, ?_, ?_⟩, ?_⟩
  · simp only [layAll_len]; exact i.len
  · rcases b2 with ⟨x, y, z, w⟩ | ⟨x, y, z⟩
    · exact .inl ⟨x, y, z, w⟩
    · exact .inr (.inr ⟨x, y, z⟩)
  · show 0 ≤ m.burn.2.writes; rw [hb.2.2.1]; exact hw
  · show 0 ≤ IntKind.i64.wrap (m.flushes + 1); rw [ew]; omega
  · show m.burn.2.writes + IntKind.i64.wrap (m.flushes + 1) = _; rw [ew, hb.2.2.1]; omega
  · simp

theorem FuI.writeF {n : Nat} {turn after done a : Int} {d : List UInt8} {m : Md} (i : FuI n turn after done m) (h : turn = 0 ∧ after ≤ done) (ha : 0 ≤ a) (hn : a < n) (hd : d.length = 128) :
    (m.write a d).1 = 2 ∧ FuI n turn after done (m.write a d).2 ∧ (m.write a d).2.down = true ∧ (m.write a d).2.pend = m.pend := by
  have hl := i.len
  have e : m.write a d = (2, m.burn.2) := by unfold Md.write; rw [if_neg (by omega), if_neg (by omega), if_neg (by simp [(i.burnF h).1])]
  rw [e]
  exact ⟨rfl, (i.noF h rfl).1, (i.noF h rfl).2, m.burn_laid.2.1⟩
theorem FuI.writeT {n : Nat} {turn after done a : Int} {d : List UInt8} {m : Md} (i : FuI n turn after done m) (haf : after ≤ 9223372036854775807) (h0 : 0 ≤ done) (hdn : done < 9223372036854775807) (h : ¬ (turn = 0 ∧ after ≤ done))
    (ha : 0 ≤ a) (hn : a < n) (hd : d.length = 128) : (m.write a d).1 = 0 ∧ FuI n turn after (done + 1) (m.write a d).2 ∧ (m.write a d).2.pend.length ≤ m.pend.length + 1 := by
  obtain ⟨b1, b2⟩ := i.burnT haf h0 h
  have hb := m.burn_laid
  have hl := i.len
  have e : m.write a d = (0, { m.burn.2 with pend := m.pend ++ [(a, d)], writes := IntKind.i64.wrap (m.writes + 1) }) := by unfold Md.write; rw [if_neg (by omega), if_neg (by omega), if_pos b1]
  have hw := i.w0
  have hf := i.f0
  have hs := i.sum
  have ew : IntKind.i64.wrap (m.writes + 1) = m.writes + 1 := wrap_i64 (by omega) (by omega)
  rw [e]
  refine ⟨rfl, ⟨?_, ?_, ?_, ?_, ?_⟩, ?_⟩
  · show m.burn.2.laid.length = n; rw [hb.1]; exact hl
  · rcases b2 with ⟨x, y, z, w⟩ | ⟨x, y, z⟩
    · exact .inl ⟨x, y, z, w⟩
    · exact .inr (.inr ⟨x, y, z⟩)
  · show 0 ≤ IntKind.i64.wrap (m.writes + 1); rw [ew]; omega
  · show 0 ≤ m.burn.2.flushes; rw [hb.2.2.2]; exact hf
  · show IntKind.i64.wrap (m.writes + 1) + m.burn.2.flushes = _; rw [ew, hb.2.2.2]; omega
  · simp

theorem FuI.crash {n : Nat} {turn after done : Int} {m : Md} (i : FuI n turn after done m) (k : List Bool) (t' : Int) (ht : t' ≠ 0) : FuI n t' after done (m.crash k).2 :=
  ⟨by simp only [Md.crash, layAll_len]; exact i.len, .inr (.inr ⟨ht, rfl, rfl⟩), i.w0, i.f0, i.sum⟩
end Tw
