/- What each Go function of this group asks ahead of a call (printed by gen.py), and that this is enough. -/
import Derived.Test.YthpeadoidpimmaaGSum
namespace Go.Proofs.Ythpeadoidpimmaa
open Go Tw
set_option linter.unusedVariables false
set_option maxRecDepth 10000
set_option maxHeartbeats 4000000

/-- trellis/trellislaw3.WalNeeds -/
def law3_WalNeeds (bytes1 : Int) (K : Bool → Hp → Prop) (h : Hp) : Prop :=
  wal_Need bytes1 (fun n2 h3 => ref3_Need bytes1 (fun n4 h5 => K (n2 == n4) h5) h3) h

theorem law3_WalNeeds_ok {W : World} {h : Hp} {bytes1 : Int} {K : Bool → Hp → Prop} (H : law3_WalNeeds bytes1 K h) :
    CallsH Try.prog 3 (List.toArray [.int .i64 bytes1]) W h (fun v h' => ∃ (b1 : Bool), v = .bool b1 ∧ K b1 h') := by
  unfold law3_WalNeeds at H
  refine CallsH.intro (fn := Try.f3) (N := 8) (e := aE 0 [.int .i64 bytes1]) Try.func3 rfl rfl (aE_spec _) rfl ?_; refine WPC.seq ?_; refine WPC.region ?_; refine WPL.q tk0 (asg rfl) rfl ?_; refine WPL.nil ?_; refine WQ.next ?_; refine WPC.seq ?_; refine WPC.region ?_; refine WPL.q tk0 (mv rfl) rfl ?_; have HC := wal_Need_ok (W := W) H; refine WPL.eff tk0 (cl cO_25 rfl HC) rfl ?_; rintro _ h3 ⟨n2, rfl, H⟩; refine WPL.q tk0 (mv rfl) rfl ?_; have HC := ref3_Need_ok (W := W) H; refine WPL.eff tk0 (cl cO_26 rfl HC) rfl ?_; rintro _ h5 ⟨n4, rfl, H⟩; refine WPL.q tk0 (bEql rfl rfl) rfl ?_; refine WPL.q tk0 (asg rfl) rfl ?_; refine WPL.nil ?_; refine WQ.next ?_; refine WPC.ret ?_; exact WQ.done (rets1 rfl rfl) ⟨_, rfl, H⟩

end Go.Proofs.Ythpeadoidpimmaa
