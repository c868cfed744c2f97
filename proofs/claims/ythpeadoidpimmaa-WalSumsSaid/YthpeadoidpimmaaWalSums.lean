/- trellislaw3.WalSums answers true at every list of bytes, and nothing that was there turns. No condition. -/
import Derived.Test.YthpeadoidpimmaaLWalSums
import Derived.Test.YthpeadoidpimmaaSumC
import Derived.Test.YthpeadoidpimmaaOpen
import Derived.Test.YthpeadoidpimmaaRow
namespace Go.Proofs.Ythpeadoidpimmaa
open Go Tw Go.ChangeShapes Go.WideShapes Go.ChangeAt Go.RowKit
set_option linter.unusedVariables false

theorem law3_WalSums_c {s : Sl} {bs : List UInt8} {h : Hp} (hs : Byt h s bs) (hb : bs.length + 8 ≤ 140737488355328) : law3_WalSums s (LawK h) h := by
  refine law3_walCopy_c hs hb fun s' h1 hk1 hv hbl => ?_
  refine wal_Sum_c (Byt.of_vec hv) (by omega) fun h2 hk2 => ?_
  refine ref3_Sum_c (hs.kp (hk1.trans hk2) fun _ _ hf => hf) (by omega) ?_
  exact ⟨by simp, hk1.trans hk2⟩

namespace walSums
set_option maxRecDepth 100000 in
theorem lifted (os : Os) (started : os.Started) (H : Type) (enc : TypeId × Value → H) :
    ReturnsInHanded {} Try.checked os 4 .any (Rows.walSumsSpec.pre6 enc Try.prog Try.f4 Rows.walSumsRow.domain false) (Rows.walSumsSpec.post enc Try.prog Try.f4 false true false false) := by
  refine returnsInHanded_of_change_sized (C := Try.checked) own started (by kernel_rfl) Try.func4
    (ChangeSpec.witness6 (enc := enc) (C := Try.checked) false ⟨#[], #[.slice none 0 0], []⟩ 8 (by kernel_rfl) (by kernel_rfl) (by kernel_rfl) (by kernel_rfl)) ?_
  intro W base args ds gs before hval0 hW hcnd hsz _
  have hval : ∀ (j : Nat) t v, Try.f4.params[j]? = some t → args[j]? = some v → Value.okWide Try.prog W .any base t v := hval0
  have hW' := hW
  obtain ⟨p, q, hA0, hV, rfl, hfz, hnd⟩ := hW
  have hA : DataW.TrodAll enc Try.prog W 0 (fun _ => true) true Try.f4.params.toList args.toList ds p := hA0
  rw [Try.params4] at hA hval hsz
  obtain ⟨v0, vs0, d0, ds0, p0, q0, hargs, rfl, rfl, h0, r0⟩ := trodAll_cons hA
  obtain ⟨rfl, rfl, rfl⟩ := trodAll_nil r0
  obtain rfl : args = #[v0] := by cases args; simp_all
  obtain ⟨rfl, rfl⟩ := trodVars_none hV
  have hsize : ∀ elems spare, d0 = .slice elems spare → elems.length + spare.length ≤ 140737488351232 := by
    intro elems spare he
    have := sized_slice hsz (j := 0) (t := 24) (e := 5) rfl (by rw [he]; rfl) Try.underlying24
    have hb5 : Try.checked.prog.bytesOf 5 = 1 := by kernel_rfl
    rw [hb5] at this
    simp only [reachBytes] at this
    omega
  obtain ⟨fuel, hf⟩ := h0
  have hcell : Try.prog.cellsOf 5 = 1 := by kernel_rfl
  obtain ⟨bs, ⟨s, hcs, hbs⟩, hlen⟩ : ∃ bs : List UInt8, (∃ s : Sl, v0.cells.toList = [s.v] ∧ Byt W.heap s bs) ∧ bs.length ≤ 140737488351232 := by
    obtain ⟨bs, ⟨s, hcs, hbs⟩, hm⟩ := open_bytes (P := Try.prog) (w := W) Try.underlying24 Try.underlying5 hcell fuel _ d0 p0 hf
    refine ⟨bs, ⟨s, hcs, hbs⟩, ?_⟩
    rcases DataW.trod_slice Try.underlying24 hf with ⟨hcs', hx⟩ | ⟨a, len, cap, elems, rest, n, _, hcs', hx, _, _, _, hl, _⟩
    · rw [hcs'] at hcs
      simp only [List.cons.injEq, Value.slice.injEq, and_true] at hcs
      have := hbs.len
      omega
    · rw [hcs'] at hcs
      simp only [List.cons.injEq, Value.slice.injEq, and_true] at hcs
      simp only [Prod.mk.injEq] at hx
      have := hsize _ _ hx.1
      have h2 := hbs.len
      simp at this
      omega
  obtain rfl := sl_of_cells Try.underlying24 (hval 0 24 v0 rfl rfl) hcs
  clear hA0 hval0
  refine (law_calls (law3_WalSums_ok (law3_WalSums_c hbs (by omega)))).mono fun e W' ⟨he, hb⟩ => ?_
  subst he
  exact ⟨_, rfl, law_post hW' rfl (by kernel_rfl) rfl ⟨rfl, rfl, rfl⟩ hb⟩

theorem over : Rows.walSumsRow.holds Try.pinned (OpenSpec.ofChange Rows.walSumsSpec) :=
  OpenClaim.holds_of_wide 4 Try.f4 rfl rfl rfl rfl rfl rfl rfl ⟨rfl, rfl, rfl, rfl, rfl⟩ rfl rfl rfl rfl rfl (by as_aux_lemma => kernel_rfl) Try.func4 (joined (by as_aux_lemma => kernel_rfl))
    (of_decide_eq_true (by as_aux_lemma => kernel_rfl)) (by unfold Func.isWrapper; first | (rw [if_pos (by as_aux_lemma => decide +kernel)]; kernel_rfl) | (rw [if_neg (by as_aux_lemma => decide +kernel)]; exact ⟨rfl, rfl⟩))
    (fun os started H enc _ => lifted os started H enc)
end walSums

theorem walSums_holds : Rows.WalSumsSaid := walSums.over
end Go.Proofs.Ythpeadoidpimmaa
