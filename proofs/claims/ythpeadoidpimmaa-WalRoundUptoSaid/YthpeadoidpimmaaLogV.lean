/- A log stays sound. No condition. -/
import Derived.Test.YthpeadoidpimmaaLogR
import Derived.Test.YthpeadoidpimmaaLogQ
import Derived.Test.YthpeadoidpimmaaLogS
namespace Tw
open Go
set_option linter.unusedVariables false
set_option linter.unusedSimpArgs false

structure Keeps (l l' : Lg) (m m' : Md) : Prop where
  wf : l'.Wf
  st : l'.st = l.st
  n : l'.n = l.n
  len : m'.laid.length = m.laid.length
  pend : m'.pend.length ≤ m.pend.length + 320

theorem Keeps.refl {l : Lg} {m : Md} (h : l.Wf) : Keeps l l m m := ⟨h, rfl, rfl, rfl, Nat.le_add_right _ _⟩
theorem Lg.Wf.dead {l : Lg} (h : l.Wf) : ({ l with dead := true } : Lg).Wf := ⟨h.n4, h.nm, h.lo, h.ch, h.room, h.nx, h.du, h.rd, h.tn, h.rl⟩

theorem append_keeps {l : Lg} {m : Md} {kind : Int} {data : List UInt8} {fl : Bool} (h : l.Wf) : Keeps l (l.append m kind data fl).2.1 m (l.append m kind data fl).2.2 := by
  unfold Lg.append
  split
  · exact Keeps.refl h
  · rename_i hg
    split
    · exact Keeps.refl h
    · split
      · exact Keeps.refl h
      · rename_i hres
        split
        · exact Keeps.refl h
        · rename_i hfit
          have hp := Go.Proofs.Ythpeadoidpimmaa.runs_pend (recA l.st l.n l.head.round l.next kind.toNat data) m
          have hl := Go.Proofs.Ythpeadoidpimmaa.runs_len (recA l.st l.n l.head.round l.next kind.toNat data) m
          rw [Go.Proofs.Ythpeadoidpimmaa.recA_len] at hp
          have hnl := Go.Proofs.Ythpeadoidpimmaa.needN_le data.length (by omega)
          simp only
          split
          · refine ⟨⟨h.n4, h.nm, h.lo, Chain.snoc h.ch rfl, ?_, ?_, ?_, h.rd, h.tn, ?_⟩, rfl, rfl, hl, by show (runs m _).2.pend.length ≤ _; omega⟩
            · have hr := h.room
              have hcl := Chain.le h.ch
              show l.next + needN data.length - l.head.lsn + (if fl then l.reserved - needN data.length else l.reserved) ≤ l.n - 2
              cases fl with
              | true =>
                have : ¬ l.reserved < needN data.length := fun h => hres ⟨rfl, h⟩
                simp only [if_true]; omega
              | false =>
                have : ¬ l.free < needN data.length := fun h => hfit (.inl ⟨rfl, h⟩)
                have hf : l.free = l.n - 2 - (l.next - l.head.lsn) - l.reserved := rfl
                simp only [Bool.false_eq_true, if_false]; omega
            · show l.next + needN data.length ≤ _
              have hnp := needN_pos data.length
              omega
            · show l.durable ≤ l.next + needN data.length
              have := h.du; omega
            · intro r hr
              rcases List.mem_append.1 hr with hr | hr
              · exact h.rl r hr
              · simp at hr; subst hr
                exact ⟨by show data.length ≤ _; omega, by show kind.toNat < 256; omega, h.rd⟩
          · exact ⟨h.dead, rfl, rfl, hl, by show (runs m _).2.pend.length ≤ _; omega⟩

theorem flush_keeps {l : Lg} {m : Md} (h : l.Wf) : Keeps l (l.flush m).2.1 m (l.flush m).2.2 := by
  have hp := Go.Proofs.Ythpeadoidpimmaa.Md.flush_pend' m
  have hl := Go.Proofs.Ythpeadoidpimmaa.Md.flush_len m
  unfold Lg.flush
  split
  · exact Keeps.refl h
  · split
    · exact Keeps.refl h
    · split
      · exact ⟨⟨h.n4, h.nm, h.lo, h.ch, h.room, h.nx, Nat.le_refl _, h.rd, h.tn, h.rl⟩, rfl, rfl, hl, by show m.flush.2.pend.length ≤ _; omega⟩
      · exact ⟨h.dead, rfl, rfl, hl, by show m.flush.2.pend.length ≤ _; omega⟩

theorem cut_keeps {l : Lg} {m : Md} {lsn : Int} (h : l.Wf) : Keeps l (l.cut m lsn).2.1 m (l.cut m lsn).2.2 := by
  unfold Lg.cut
  split
  · exact Keeps.refl h
  · split
    · exact Keeps.refl h
    · rename_i k hg
      split
      · exact Keeps.refl h
      · split
        · exact Keeps.refl h
        · rename_i hb
          obtain ⟨g1, g2, g3, g4⟩ := Go.Proofs.Ythpeadoidpimmaa.gone_le h hg
          have hlo := h.lo
          have htn := h.tn
          have hro := h.room
          simp only
          have hp := Go.Proofs.Ythpeadoidpimmaa.runs_pend (layA l.st l.n ⟨l.head.round, lsn.toNat, l.head.turn + 1, ((l.recs[k]?).map (·.round)).getD l.head.round⟩) m
          have hl := Go.Proofs.Ythpeadoidpimmaa.runs_len (layA l.st l.n ⟨l.head.round, lsn.toNat, l.head.turn + 1, ((l.recs[k]?).map (·.round)).getD l.head.round⟩) m
          have h2 : (layA l.st l.n ⟨l.head.round, lsn.toNat, l.head.turn + 1, ((l.recs[k]?).map (·.round)).getD l.head.round⟩).length = 2 := rfl
          split
          · exact ⟨⟨h.n4, h.nm, by show 1 ≤ lsn.toNat; omega, g4, by show l.next - lsn.toNat + l.reserved ≤ l.n - 2; omega, h.nx, Nat.le_refl _, h.rd, by show l.head.turn + 1 ≤ _; omega, fun r hr => h.rl r (List.mem_of_mem_drop hr)⟩, rfl, rfl, hl, by show (runs m _).2.pend.length ≤ _; omega⟩
          · exact ⟨h.dead, rfl, rfl, hl, by show (runs m _).2.pend.length ≤ _; omega⟩

theorem reserve_wf {l : Lg} {k : Int} (h : l.Wf) : (l.reserve k).2.Wf ∧ (l.reserve k).2.st = l.st ∧ (l.reserve k).2.n = l.n := by
  unfold Lg.reserve
  split
  · exact ⟨h, rfl, rfl⟩
  · split
    · exact ⟨h, rfl, rfl⟩
    · split
      · exact ⟨h, rfl, rfl⟩
      · have hf : l.free = l.n - 2 - (l.next - l.head.lsn) - l.reserved := rfl
        have := h.room
        exact ⟨⟨h.n4, h.nm, h.lo, h.ch, by show l.next - l.head.lsn + (l.reserved + k.toNat) ≤ l.n - 2; omega, h.nx, h.du, h.rd, h.tn, h.rl⟩, rfl, rfl⟩
theorem release_wf {l : Lg} {k : Int} (h : l.Wf) : (l.release k).2.Wf ∧ (l.release k).2.st = l.st ∧ (l.release k).2.n = l.n := by
  unfold Lg.release
  split
  · exact ⟨h, rfl, rfl⟩
  · split
    · exact ⟨h, rfl, rfl⟩
    · split
      · exact ⟨h, rfl, rfl⟩
      · have := h.room
        exact ⟨⟨h.n4, h.nm, h.lo, h.ch, by show l.next - l.head.lsn + (l.reserved - k.toNat) ≤ l.n - 2; omega, h.nx, h.du, h.rd, h.tn, h.rl⟩, rfl, rfl⟩
end Tw
