/- From a law's predicate to its row: what a call leaves, as the row's form asks. No condition. -/
import Derived.Test.YthpeadoidpimmaaRows
import Derived.Test.YthpeadoidpimmaaFacts
import Derived.Test.YthpeadoidpimmaaHx
import Derived.ProofKit
import Derived.OpenShut
namespace Go.Proofs.Ythpeadoidpimmaa
open Go Tw Go.ChangeShapes Go.WideShapes Go.ChangeAt Go.RowKit
set_option linter.unusedVariables false

theorem own : ownKnob Try.prog.godebug = none := by kernel_rfl

/-- What a law's walk owes: true, and all that was there stays. -/
def LawK (h : Hp) : Bool → Hp → Prop := fun b h' => b = true ∧ Kp (fun _ => False) h h'

theorem below_of {w w' : World} (hs : Str w w') (hk : Kp (fun _ => False) w.heap w'.heap) : Below w.heap.size w w' :=
  ⟨hs.os, hs.tape, hs.output, hk.size, fun k hk' => hk.old k hk' (fun h => h)⟩

theorem law_calls {f : FuncId} {args : Array Value} {W : World} (h : CallsH Try.prog f args W W.heap (fun v h' => ∃ b1 : Bool, v = .bool b1 ∧ LawK W.heap b1 h')) :
    Calls Try.prog f args W fun e w' => e = .returned (.bool true) ∧ Below W.heap.size W w' :=
  (h W rfl (Str.refl W)).mono fun e w' ⟨v, he, hs, b, hv, hb, hk⟩ => by
    subst hb; subst hv; exact ⟨he, below_of hs hk⟩

/-- Arguments read behind the call as ahead of it. -/
theorem trodAll_below {H : Type} {enc : TypeId × Value → H} {P : Program} (hl : laidOutB P = true) {W W' : World} (hb : Below W.heap.size W W') :
    ∀ {ts : List TypeId} {vs : List Value} {ds : List (DataW H)} {ps : List MemPlace}, (∀ t ∈ ts, P.readableRec t = true ∧ t < P.types.size) →
      DataW.TrodAll enc P W 0 (fun _ => true) true ts vs ds ps → (∀ x ∈ ps, x.block < W.heap.size) → DataW.TrodAll enc P W' 0 (fun b => decide (b < W.heap.size)) true ts vs ds ps
  | [], [], [], _, _, h, _ => h
  | t :: _, _ :: _, _ :: _, _, hT, ⟨p, q, h1, h2, e⟩, hs => by
    subst e
    exact ⟨p, q, Below.trod hl (hT t (by simp)).1 (hT t (by simp)).2 h1 hb (fun x hx => hs x (List.mem_append_left _ hx)),
      trodAll_below hl hb (fun t ht => hT t (List.mem_cons_of_mem _ ht)) h2 (fun x hx => hs x (List.mem_append_right _ hx)), rfl⟩

theorem law_post {H : Type} {enc : TypeId × Value → H} {f : Func} {s : ChangeSpec} {W W' : World} {args : Array Value} {ds gs : List (DataW H)} {before : List MemPlace}
    (hW : DataW.Whole enc Try.prog f.params.toList s.vars false W args.toList ds gs before) (hvars : s.vars = [])
    (hT : (f.params.toList.all fun t => Try.prog.readableRec t && decide (t < Try.prog.types.size)) = true) (hres : f.resultTypes = #[4])
    (hfn : (s.fn H (ds ++ [])).results = [.lit (.bool true)] ∧ (s.fn H (ds ++ [])).args = ds ∧ (s.fn H (ds ++ [])).vars = []) (hb : Below W.heap.size W W') :
    s.post enc Try.prog f false true false false W args (.bool true) W' := by
  have hW' := hW
  obtain ⟨p, q, hA, hV, he, hfz, hnd⟩ := hW
  rw [hvars] at hV
  obtain ⟨rfl, rfl⟩ := trodVars_none hV
  simp only [List.append_nil] at he
  subst he
  have hlt : ∀ x ∈ before, x.block < W.heap.size := fun x hx => hW'.lt x hx
  have hT' : ∀ t ∈ f.params.toList, Try.prog.readableRec t = true ∧ t < Try.prog.types.size := by
    intro t ht
    have := List.all_eq_true.1 hT t ht
    simpa using this
  have hargs := trodAll_below laidOut hb hT' hA hlt
  refine ⟨_, _, _, [], before, [], hW', ?_, ?_, ?_, hb.frame _, fun h => by cases h⟩
  · rw [hfn.1, hres]; exact trodAll_cons_mk (shut_bool Try.underlying4 _) trodAll_mk0
  · rw [hfn.2.1]; exact hargs
  · rw [hfn.2.2, hvars]; exact hV
end Go.Proofs.Ythpeadoidpimmaa
