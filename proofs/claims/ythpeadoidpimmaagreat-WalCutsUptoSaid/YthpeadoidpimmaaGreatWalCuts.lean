/- trellislaw3.WalCuts answers true at all arguments of bulk at most 1048576, and nothing that was there turns. Condition: that bound. -/
import Derived.Test.YthpeadoidpimmaaGreatLWalCuts
import Derived.Test.YthpeadoidpimmaaGreatWalHeld
import Derived.Test.YthpeadoidpimmaaGreatRow
import Derived.JoinedCond
namespace Go.Proofs.YthpeadoidpimmaaGreat
open Go Tw Go.ChangeShapes Go.WideShapes Go.ChangeAt Go.RowKit
set_option linter.unusedVariables false

theorem law3_WalCuts_c {h : Hp} {a b c d e : Int} {sc : Sl} {ops : List StD} (hs : Arr h sc 7 (StR h) ops) (hl : ops.length ≤ 1048576) : law3_WalCuts a b c d e sc (LawK h) h :=
  ⟨_, _, rfl, rfl, a, b, c, d, e, (Bk.new h [.int .i64 a, .int .i64 b, .int .i64 c, .int .i64 d, .int .i64 e] 23).rd0, law3_walHeld_c hs hl (Kp.push (Kp.refl _ _) _)⟩

namespace walCuts
set_option maxRecDepth 100000 in
theorem lifted (os : Os) (started : os.Started) (H : Type) (enc : TypeId × Value → H) (F : Stop.Interp) :
    ReturnsInHanded {} Tryz.checked os 7 .any ((Rows.OpenSpec.upto Rows.walCutsSpec).pre6 enc Tryz.prog Tryz.f7 Rows.walCutsUptoRow.domain false) (((Rows.OpenSpec.upto Rows.walCutsSpec).at F).post enc Tryz.prog Tryz.f7 false true false false) := by
  refine returnsInHanded_of_cond (C := Tryz.checked) (s := Rows.OpenSpec.upto Rows.walCutsSpec) (k := Rows.uptoSmall) rfl own started (by kernel_rfl) Tryz.func7
    (OpenSpec.witness (enc := enc) (C := Tryz.checked) (s := Rows.OpenSpec.upto Rows.walCutsSpec) (k := Rows.uptoSmall) rfl false ⟨#[], #[.agg #[.int .i64 0, .int .i64 0, .int .i64 0, .int .i64 0, .int .i64 0], .slice none 0 0], []⟩ 8 (by kernel_rfl) (by kernel_rfl) (by kernel_rfl)
      (x := ([.agg [.lit (.int .i64 0), .lit (.int .i64 0), .lit (.int .i64 0), .lit (.int .i64 0), .lit (.int .i64 0)], .nil], [], [])) (by kernel_rfl) rfl (by kernel_rfl)) ?_
  intro W base args ds gs before hval0 hW hcnd hk _
  have hval : ∀ (j : Nat) t v, Tryz.f7.params[j]? = some t → args[j]? = some v → Value.okWide Tryz.prog W .any base t v := hval0
  have hW' := hW
  obtain ⟨p, q, hA0, hV, rfl, hfz, hnd⟩ := hW
  have hA : DataW.TrodAll enc Tryz.prog W 0 (fun _ => true) true Tryz.f7.params.toList args.toList ds p := hA0
  rw [Tryz.params7] at hA hval
  obtain ⟨v0, vs0, d0, ds0, p0, q0, hargs, rfl, rfl, h0, r0⟩ := trodAll_cons hA
  obtain ⟨v1, vs1, d1, ds1, p1, q1, rfl, rfl, rfl, h1, r1⟩ := trodAll_cons r0
  obtain ⟨rfl, rfl, rfl⟩ := trodAll_nil r1
  obtain rfl : args = #[v0, v1] := by cases args; simp_all
  obtain ⟨rfl, rfl⟩ := trodVars_none hV
  have hb : Rows.uptoBulk d0 + Rows.uptoBulk d1 ≤ 1048576 := by
    have h := of_decide_eq_true hk
    simp only [List.append_nil, Rows.uptoBulkAll] at h
    omega
  obtain ⟨a, b, c, d, e, rfl⟩ := open_place (hval 0 23 v0 rfl rfl) h0
  obtain ⟨s, ops, rfl, hs, hl⟩ := open_script (hval 1 24 v1 rfl rfl) h1 (by omega)
  clear hA0 hval0
  refine (law_calls (law3_WalCuts_ok (law3_WalCuts_c hs hl))).mono fun e W' ⟨he, hb⟩ => ?_
  subst he
  exact ⟨_, rfl, law_post hW' rfl (by kernel_rfl) rfl ⟨rfl, rfl, rfl⟩ hb⟩

theorem over : Rows.walCutsUptoRow.holds Tryz.pinned (Rows.OpenSpec.upto Rows.walCutsSpec) :=
  OpenClaim.holds_of_cond 7 Tryz.f7 rfl rfl rfl rfl rfl rfl rfl ⟨rfl, rfl, rfl, rfl, rfl⟩ rfl rfl rfl rfl rfl (by as_aux_lemma => kernel_rfl) Tryz.func7 (joined (by as_aux_lemma => kernel_rfl))
    (of_decide_eq_true (by as_aux_lemma => kernel_rfl)) (by unfold Func.isWrapper; first | (rw [if_pos (by as_aux_lemma => decide +kernel)]; kernel_rfl) | (rw [if_neg (by as_aux_lemma => decide +kernel)]; exact ⟨rfl, rfl⟩))
    (fun os started H enc _ F => lifted os started H enc F)
end walCuts

theorem walCuts_holds : Rows.WalCutsUptoSaid := walCuts.over
end Go.Proofs.YthpeadoidpimmaaGreat
