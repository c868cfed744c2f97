/- What each Go function of this group asks ahead of a call (printed by gen.py), and that this is enough. -/
import Derived.Test.YthpeadoidpimmaaGLawA
namespace Go.Proofs.Ythpeadoidpimmaa
open Go Tw
set_option linter.unusedVariables false
set_option maxRecDepth 10000
set_option maxHeartbeats 4000000

/-- trellis/trellislaw2.DiskTells -/
def law2_DiskTells (script1 : Sl) (K : Bool → Hp → Prop) (h : Hp) : Prop :=
  law2_Plays script1 9 11 (fun b2 h3 => K b2 h3) h

theorem law2_DiskTells_ok {W : World} {h : Hp} {script1 : Sl} {K : Bool → Hp → Prop} (H : law2_DiskTells script1 K h) :
    CallsH Try.prog 13 (List.toArray [script1.v]) W h (fun v h' => ∃ (b1 : Bool), v = .bool b1 ∧ K b1 h') := by
  unfold law2_DiskTells at H
  refine CallsH.intro (fn := Try.f13) (N := 5) (e := aE 0 [script1.v]) Try.func13 rfl rfl (aE_spec _) rfl ?_
  refine WPC.seq ?_
  refine WPC.region ?_
  refine WPL.q tk0 (asg rfl) rfl ?_
  refine WPL.nil ?_
  refine WQ.next ?_
  refine WPC.seq ?_
  refine WPC.region ?_
  refine WPL.q tk0 (mv rfl) rfl ?_
  have HC := law2_Plays_ok (W := W) H
  refine WPL.eff tk0 (cl cO_47 rfl HC) rfl ?_
  rintro _ h3 ⟨b2, rfl, H⟩
  refine WPL.q tk0 (asg rfl) rfl ?_
  refine WPL.nil ?_
  refine WQ.next ?_
  refine WPC.ret ?_
  exact WQ.done (rets1 rfl rfl) ⟨_, rfl, H⟩

end Go.Proofs.Ythpeadoidpimmaa
