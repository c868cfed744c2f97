/- trellislaw3.WalNeeds answers true at every whole number, and nothing that was there turns. No condition. -/
import Derived.Test.YthpeadoidpimmaaLWalNeeds
import Derived.Test.YthpeadoidpimmaaRow
namespace Go.Proofs.Ythpeadoidpimmaa
open Go Tw Go.ChangeShapes Go.WideShapes Go.ChangeAt Go.RowKit
set_option linter.unusedVariables false

/-- Need, by the document. -/
def need (b : Int) : Int := if b < 0 ∨ b > 32768 then 0 else if b = 0 then 1 else (b + 103) / 104

theorem quo104 {n : Int} (h0 : 0 ≤ n) (h1 : n ≤ 9223372036854775807) : IntKind.i64.wrap (Int.tdiv n 104) = n / 104 := by
  rw [Int.tdiv_eq_ediv_of_nonneg h0]
  exact wrap_i64 (by omega) (by omega)

theorem wal_Need_c {b : Int} {K : Int → Hp → Prop} {h : Hp} (hK : K (need b) h) : wal_Need b K h := by
  refine ⟨fun c h' => h' = h ∧ c = decide (b < 0 ∨ b > 32768), ?_, ?_⟩
  · rintro c h' ⟨rfl, rfl⟩
    refine dcd (fun hp => ?_) (fun hn => ?_)
    · simpa [need, hp] using hK
    · have h0 : 0 ≤ b := by omega
      have h1 : b ≤ 32768 := by omega
      refine ⟨b + 104, Wr.i64 (by omega) (by omega), b + 104 - 1, Wr.i64 (by omega) (by omega), (b + 104 - 1) / 104, (quo104 (by omega) (by omega)).symm, need b, ?_, hK⟩
      have hd : ¬ (b < 0 ∨ b > 32768) := by omega
      unfold need
      rw [if_neg hd]
      by_cases hz : b = 0
      · subst hz; rfl
      · rw [if_neg hz]
        split <;> omega
  · refine dcd (fun hp => ?_) (fun hn => ?_)
    · exact ⟨rfl, by simp [hp]⟩
    · exact ⟨rfl, by simp [hn]⟩

theorem ref3_Need_c {b : Int} {K : Int → Hp → Prop} {h : Hp} (hK : K (need b) h) : ref3_Need b K h := by
  refine ⟨fun c h' => h' = h ∧ c = decide (b < 0 ∨ b > 32768), ?_, ?_⟩
  · rintro c h' ⟨rfl, rfl⟩
    refine dcd (fun hp => ?_) (fun hn => ?_)
    · simpa [need, hp] using hK
    · have h0 : 0 ≤ b := by omega
      have h1 : b ≤ 32768 := by omega
      refine dcb (fun hz => ?_) (fun hz => ?_)
      · subst hz; exact hK
      · refine ⟨b + 104, Wr.i64 (by omega) (by omega), b + 104 - 1, Wr.i64 (by omega) (by omega), need b, ?_, hK⟩
        rw [quo104 (by omega) (by omega)]
        unfold need
        rw [if_neg (by omega), if_neg hz]
        congr 1
        omega
  · refine dcd (fun hp => ?_) (fun hn => ?_)
    · exact ⟨rfl, by simp [hp]⟩
    · exact ⟨rfl, by simp [hn]⟩

theorem law3_WalNeeds_c (b : Int) (h : Hp) : law3_WalNeeds b (LawK h) h :=
  wal_Need_c (ref3_Need_c ⟨by simp, Kp.refl _ _⟩)

namespace walNeeds
set_option maxRecDepth 100000 in
theorem lifted (os : Os) (started : os.Started) (H : Type) (enc : TypeId × Value → H) :
    ReturnsInHanded {} Try.checked os 3 .any (Rows.walNeedsSpec.pre6 enc Try.prog Try.f3 Rows.walNeedsRow.domain false) (Rows.walNeedsSpec.post enc Try.prog Try.f3 false true false false) := by
  refine returnsInHanded_of_change (C := Try.checked) own started (by kernel_rfl) Try.func3
    (ChangeSpec.witness6 (enc := enc) (C := Try.checked) false ⟨#[], #[.int .i64 0], []⟩ 8 (by kernel_rfl) (by kernel_rfl) (by kernel_rfl) (by kernel_rfl)) ?_
  intro W base args ds gs before hval0 hW hcnd _
  have hval : ∀ (j : Nat) t v, Try.f3.params[j]? = some t → args[j]? = some v → Value.okWide Try.prog W .any base t v := hval0
  have hW' := hW
  obtain ⟨p, q, hA0, hV, rfl, hfz, hnd⟩ := hW
  have hA : DataW.TrodAll enc Try.prog W 0 (fun _ => true) true Try.f3.params.toList args.toList ds p := hA0
  rw [Try.params3] at hA hval
  obtain ⟨v0, vs0, d0, ds0, p0, q0, hargs, rfl, rfl, h0, r0⟩ := trodAll_cons hA
  obtain ⟨rfl, rfl, rfl⟩ := trodAll_nil r0
  obtain rfl : args = #[v0] := by cases args; simp_all
  obtain ⟨rfl, rfl⟩ := trodVars_none hV
  obtain ⟨a0, rfl, rfl, rfl, w0⟩ := open_int Try.underlying3 (hval 0 3 v0 rfl rfl) h0
  clear hA0 hval0
  refine (law_calls (law3_WalNeeds_ok (law3_WalNeeds_c a0 W.heap))).mono fun e W' ⟨he, hb⟩ => ?_
  subst he
  exact ⟨_, rfl, law_post hW' rfl (by kernel_rfl) rfl ⟨rfl, rfl, rfl⟩ hb⟩

theorem over : Rows.walNeedsRow.holds Try.pinned (OpenSpec.ofChange Rows.walNeedsSpec) :=
  OpenClaim.holds_of_wide 3 Try.f3 rfl rfl rfl rfl rfl rfl rfl ⟨rfl, rfl, rfl, rfl, rfl⟩ rfl rfl rfl rfl rfl (by as_aux_lemma => kernel_rfl) Try.func3 (joined (by as_aux_lemma => kernel_rfl))
    (of_decide_eq_true (by as_aux_lemma => kernel_rfl)) (by unfold Func.isWrapper; first | (rw [if_pos (by as_aux_lemma => decide +kernel)]; kernel_rfl) | (rw [if_neg (by as_aux_lemma => decide +kernel)]; exact ⟨rfl, rfl⟩))
    (fun os started H enc _ => lifted os started H enc)
end walNeeds

theorem walNeeds_holds : Rows.WalNeedsSaid := walNeeds.over
end Go.Proofs.Ythpeadoidpimmaa
