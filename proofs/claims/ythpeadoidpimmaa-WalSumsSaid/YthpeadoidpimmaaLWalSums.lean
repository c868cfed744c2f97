/- What each Go function of this group asks ahead of a call (printed by gen.py), and that this is enough. -/
import Derived.Test.YthpeadoidpimmaaGSum
namespace Go.Proofs.Ythpeadoidpimmaa
open Go Tw
set_option linter.unusedVariables false
set_option maxRecDepth 10000
set_option maxHeartbeats 4000000

/-- trellis/trellislaw3.WalSums -/
def law3_WalSums (b1 : Sl) (K : Bool → Hp → Prop) (h : Hp) : Prop :=
  law3_walCopy b1 (fun s2 h3 => wal_Sum s2 (fun n4 h5 => ref3_Sum b1 (fun n6 h7 => K (n4 == n6) h7) h5) h3) h

theorem law3_WalSums_ok {W : World} {h : Hp} {b1 : Sl} {K : Bool → Hp → Prop} (H : law3_WalSums b1 K h) :
    CallsH Try.prog 4 (List.toArray [b1.v]) W h (fun v h' => ∃ (b1 : Bool), v = .bool b1 ∧ K b1 h') := by
  unfold law3_WalSums at H
  refine CallsH.intro (fn := Try.f4) (N := 9) (e := aE 0 [b1.v]) Try.func4 rfl rfl (aE_spec _) rfl ?_
  refine WPC.seq ?_
  refine WPC.region ?_
  refine WPL.q tk0 (asg rfl) rfl ?_
  refine WPL.nil ?_
  refine WQ.next ?_
  refine WPC.seq ?_
  refine WPC.region ?_
  refine WPL.q tk0 (mv rfl) rfl ?_
  have HC := law3_walCopy_ok (W := W) H
  refine WPL.eff tk0 (cl cO_28 rfl HC) rfl ?_
  rintro _ h3 ⟨s2, rfl, H⟩
  have HC := wal_Sum_ok (W := W) H
  refine WPL.eff tk0 (cl cO_27 rfl HC) rfl ?_
  rintro _ h5 ⟨n4, rfl, H⟩
  refine WPL.q tk0 (mv rfl) rfl ?_
  have HC := ref3_Sum_ok (W := W) H
  refine WPL.eff tk0 (cl cO_29 rfl HC) rfl ?_
  rintro _ h7 ⟨n6, rfl, H⟩
  refine WPL.q tk0 (bEql rfl rfl) rfl ?_
  refine WPL.q tk0 (asg rfl) rfl ?_
  refine WPL.nil ?_
  refine WQ.next ?_
  refine WPC.ret ?_
  exact WQ.done (rets1 rfl rfl) ⟨_, rfl, H⟩

end Go.Proofs.Ythpeadoidpimmaa
