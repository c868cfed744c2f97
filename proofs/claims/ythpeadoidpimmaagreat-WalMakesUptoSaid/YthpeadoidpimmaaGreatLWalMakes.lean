/- What each Go function of this group asks ahead of a call (printed by gen.py), and that this is enough. -/
import Derived.Test.YthpeadoidpimmaaGreatGLawC
namespace Go.Proofs.YthpeadoidpimmaaGreat
open Go Tw
set_option linter.unusedVariables false
set_option maxRecDepth 10000
set_option maxHeartbeats 4000000

/-- trellis/trellislaw3.WalMakes -/
def law3_WalMakes (n1 : Int) (n2 : Int) (n3 : Int) (n4 : Int) (n5 : Int) (script6 : Sl) (K : Bool → Hp → Prop) (h : Hp) : Prop :=
  ∃ (b7 : Nat) (h8 : Hp), b7 = h.size ∧ h8 = h.push (Cel [.int .i64 n1, .int .i64 n2, .int .i64 n3, .int .i64 n4, .int .i64 n5] 23) ∧ ∃ (n12 : Int) (n13 : Int) (n14 : Int) (n15 : Int) (n16 : Int), RdL h8 (nA b7) [.int .i64 n12, .int .i64 n13, .int .i64 n14, .int .i64 n15, .int .i64 n16] ∧ law3_walHeld n12 n13 n14 n15 n16 script6 1 2 (fun b17 h18 => K b17 h18) h8

theorem law3_WalMakes_ok {W : World} {h : Hp} {n1 : Int} {n2 : Int} {n3 : Int} {n4 : Int} {n5 : Int} {script6 : Sl} {K : Bool → Hp → Prop} (H : law3_WalMakes n1 n2 n3 n4 n5 script6 K h) :
    CallsH Tryz.prog 5 (List.toArray [.agg (List.toArray [.int .i64 n1, .int .i64 n2, .int .i64 n3, .int .i64 n4, .int .i64 n5]), script6.v]) W h (fun v h' => ∃ (b1 : Bool), v = .bool b1 ∧ K b1 h') := by
  unfold law3_WalMakes at H
  refine CallsH.intro (fn := Tryz.f5) (N := 8) (e := aE 0 [.agg (List.toArray [.int .i64 n1, .int .i64 n2, .int .i64 n3, .int .i64 n4, .int .i64 n5]), script6.v]) Tryz.func5 rfl rfl (aE_spec _) rfl ?_; refine WPC.seq ?_; refine WPC.region ?_; obtain ⟨b7, h8, hb9, hh10, H⟩ := H; refine WPL.f tk0 (bxN (l := [.int .i64 n1, .int .i64 n2, .int .i64 n3, .int .i64 n4, .int .i64 n5]) rfl rfl hb9 hh10) rfl ?_; refine WPL.q tk0 (asg rfl) rfl ?_; refine WPL.nil ?_; refine WQ.next ?_; refine WPC.seq ?_; refine WPC.region ?_; obtain ⟨n12, n13, n14, n15, n16, hv11, H⟩ := H; refine WPL.q tk0 (ldA kO_23 rfl rfl hv11) rfl ?_; refine WPL.q tk0 (mv rfl) rfl ?_; have HC := law3_walHeld_ok (W := W) H; refine WPL.eff tk0 (cl cO_10 rfl HC) rfl ?_; rintro _ h18 ⟨b17, rfl, H⟩; refine WPL.q tk0 (asg rfl) rfl ?_; refine WPL.nil ?_; refine WQ.next ?_; refine WPC.ret ?_; exact WQ.done (rets1 rfl rfl) ⟨_, rfl, H⟩

end Go.Proofs.YthpeadoidpimmaaGreat
