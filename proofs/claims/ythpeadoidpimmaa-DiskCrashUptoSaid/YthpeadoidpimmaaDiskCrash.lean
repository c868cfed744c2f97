/- trellislaw2.DiskCrash answers true at all arguments of bulk at most 1048576, and nothing that was there turns. Condition: that bound. -/
import Derived.Test.YthpeadoidpimmaaCrashE
import Derived.JoinedCond
namespace Go.Proofs.Ythpeadoidpimmaa
open Go Tw Go.ChangeShapes Go.WideShapes Go.ChangeAt Go.RowKit
set_option linter.unusedVariables false

section
variable {H : Type} {enc : TypeId × Value → H} {w : World} {base : Nat} {sp : Nat → Bool} {held : Bool}

set_option maxRecDepth 10000 in
theorem open_put : Opens enc Try.prog w base sp held 136 PutR (fun _ => 1) := by
  intro fuel cs d p h
  obtain ⟨xs, n, rfl, hx, hcl, hxl, hf⟩ := DataW.trod_struct Try.underlying136 h
  cases hx
  have c3 : Try.prog.cellsOf 3 = 1 := by kernel_rfl
  have c5 : Try.prog.cellsOf 5 = 1 := by kernel_rfl
  have c136 : Try.prog.cellsOf 136 = 2 := by kernel_rfl
  rw [c136] at hcl
  have f0 : DataW.trod enc Try.prog w base sp held n 3 ((cs.drop 0).take (Try.prog.cellsOf 3)) = xs[0]? := hf 0 _ rfl
  have f1 : DataW.trod enc Try.prog w base sp held n 5 ((cs.drop 1).take (Try.prog.cellsOf 5)) = xs[1]? := hf 1 _ rfl
  rw [c3] at f0
  rw [c5] at f1
  have hxl2 : xs.length = 2 := hxl
  match xs, hxl2 with
  | [x0, x1], _ =>
  match cs, hcl with
  | [v0, v1], _ =>
  obtain ⟨k, ⟨e0, _⟩, _⟩ := open_i64 (P := Try.prog) Try.underlying3 _ _ _ _ f0
  obtain ⟨b, e1, _⟩ := open_byte (P := Try.prog) Try.underlying5 _ _ _ _ f1
  refine ⟨(k, b), ?_, ?_⟩
  · simp at e0 e1
    rw [e0, e1]; rfl
  · simp only [Rows.uptoBulk]; omega

def RndQ (h0 : Hp) (x : RndD) (cs : List Value) : Prop :=
  ∃ s1 s2 s3 : Sl, cs = [s1.v, s2.v, s3.v, .bool x.dark] ∧ Arr h0 s1 2 PutR x.first ∧ Arr h0 s2 2 PutR x.then_ ∧ Bls h0 s3 x.keep
def rndMu (x : RndD) : Nat := x.first.length + x.then_.length + x.keep.length + 1

set_option maxRecDepth 10000 in
theorem open_round : Opens enc Try.prog w base sp held 37 (RndQ w.heap) rndMu := by
  intro fuel cs d p h
  obtain ⟨xs, n, rfl, hx, hcl, hxl, hf⟩ := DataW.trod_struct Try.underlying37 h
  cases hx
  have c4 : Try.prog.cellsOf 4 = 1 := by kernel_rfl
  have c35 : Try.prog.cellsOf 35 = 1 := by kernel_rfl
  have c30 : Try.prog.cellsOf 30 = 1 := by kernel_rfl
  have c37 : Try.prog.cellsOf 37 = 4 := by kernel_rfl
  have c136 : Try.prog.cellsOf 136 = 2 := by kernel_rfl
  rw [c37] at hcl
  have f0 : DataW.trod enc Try.prog w base sp held n 35 ((cs.drop 0).take (Try.prog.cellsOf 35)) = xs[0]? := hf 0 _ rfl
  have f1 : DataW.trod enc Try.prog w base sp held n 35 ((cs.drop 1).take (Try.prog.cellsOf 35)) = xs[1]? := hf 1 _ rfl
  have f2 : DataW.trod enc Try.prog w base sp held n 30 ((cs.drop 2).take (Try.prog.cellsOf 30)) = xs[2]? := hf 2 _ rfl
  have f3 : DataW.trod enc Try.prog w base sp held n 4 ((cs.drop 3).take (Try.prog.cellsOf 4)) = xs[3]? := hf 3 _ rfl
  rw [c35] at f0 f1
  rw [c30] at f2
  rw [c4] at f3
  have hxl4 : xs.length = 4 := hxl
  match xs, hxl4 with
  | [x0, x1, x2, x3], _ =>
  match cs, hcl with
  | [v0, v1, v2, v3], _ =>
  obtain ⟨l1, ⟨s1, e0, a1⟩, m1⟩ := open_slice (P := Try.prog) Try.underlying35 c136 open_put _ _ _ _ f0
  obtain ⟨l2, ⟨s2, e1, a2⟩, m2⟩ := open_slice (P := Try.prog) Try.underlying35 c136 open_put _ _ _ _ f1
  obtain ⟨kee, ⟨s3, e2, a3⟩, m3⟩ := open_bools (P := Try.prog) Try.underlying30 Try.underlying4 c4 _ _ _ _ f2
  obtain ⟨dk, e3, _⟩ := open_boolc (P := Try.prog) Try.underlying4 _ _ _ _ f3
  refine ⟨⟨l1, l2, kee, dk⟩, ⟨s1, s2, s3, ?_, a1, a2, a3⟩, ?_⟩
  · simp at e0 e1 e2 e3
    rw [e0, e1, e2, e3]
  · simp only [sum_one] at m1 m2
    simp only at m3
    simp only [rndMu, Rows.uptoBulk, List.map_cons, List.map_nil, Rows.uptoBulkAll]
    omega
end

namespace diskCrash
set_option maxRecDepth 100000 in
theorem lifted (os : Os) (started : os.Started) (H : Type) (enc : TypeId × Value → H) (F : Stop.Interp) :
    ReturnsInHanded {} Try.checked os 5 .any ((Rows.OpenSpec.upto Rows.diskCrashSpec).pre6 enc Try.prog Try.f5 Rows.diskCrashUptoRow.domain false) (((Rows.OpenSpec.upto Rows.diskCrashSpec).at F).post enc Try.prog Try.f5 false true false false) := by
  refine returnsInHanded_of_cond (C := Try.checked) (s := Rows.OpenSpec.upto Rows.diskCrashSpec) (k := Rows.uptoSmall) rfl own started (by kernel_rfl) Try.func5
    (OpenSpec.witness (enc := enc) (C := Try.checked) (s := Rows.OpenSpec.upto Rows.diskCrashSpec) (k := Rows.uptoSmall) rfl false ⟨#[], #[.int .i64 0, .slice none 0 0, .slice none 0 0], []⟩ 8 (by kernel_rfl) (by kernel_rfl) (by kernel_rfl)
      (x := ([.lit (.int .i64 0), .nil, .nil], [], [])) (by kernel_rfl) rfl (by kernel_rfl)) ?_
  intro W base args ds gs before hval0 hW hcnd hk _
  have hval : ∀ (j : Nat) t v, Try.f5.params[j]? = some t → args[j]? = some v → Value.okWide Try.prog W .any base t v := hval0
  have hW' := hW
  obtain ⟨p, q, hA0, hV, rfl, hfz, hnd⟩ := hW
  have hA : DataW.TrodAll enc Try.prog W 0 (fun _ => true) true Try.f5.params.toList args.toList ds p := hA0
  rw [Try.params5] at hA hval
  obtain ⟨v0, vs0, d0, ds0, p0, q0, hargs, rfl, rfl, h0, r0⟩ := trodAll_cons hA
  obtain ⟨v1, vs1, d1, ds1, p1, q1, rfl, rfl, rfl, h1, r1⟩ := trodAll_cons r0
  obtain ⟨v2, vs2, d2, ds2, p2, q2, rfl, rfl, rfl, h2, r2⟩ := trodAll_cons r1
  obtain ⟨rfl, rfl, rfl⟩ := trodAll_nil r2
  obtain rfl : args = #[v0, v1, v2] := by cases args; simp_all
  obtain ⟨rfl, rfl⟩ := trodVars_none hV
  obtain ⟨a0, rfl, rfl, rfl, w0⟩ := open_int Try.underlying3 (hval 0 3 v0 rfl rfl) h0
  have hb : Rows.uptoBulk d1 + Rows.uptoBulk d2 ≤ 1048576 := by
    have h := of_decide_eq_true hk
    simp only [List.append_nil, Rows.uptoBulkAll] at h
    omega
  have c37 : Try.prog.cellsOf 37 = 4 := by kernel_rfl
  have c4 : Try.prog.cellsOf 4 = 1 := by kernel_rfl
  obtain ⟨rs, ⟨s, hcs, hs⟩, hm⟩ := open_val (open_slice Try.underlying29 c37 (open_round (w := W))) h1
  obtain rfl := sl_of_cells Try.underlying29 (hval 1 29 v1 rfl rfl) hcs
  obtain ⟨again, ⟨sk, hck, hsk⟩, hmk⟩ := open_val (open_bools Try.underlying30 Try.underlying4 c4) h2
  obtain rfl := sl_of_cells Try.underlying30 (hval 2 30 v2 rfl rfl) hck
  have hlen := len_sum rndMu (fun x => by unfold rndMu; omega) rs
  have hs' : Arr W.heap s 4 (RndR W.heap) rs := by
    refine ⟨hs.len, hs.cap, ?_⟩
    have h1 := hs.rd
    cases hp : s.p with
    | none => rw [hp] at h1; exact h1
    | some a =>
      rw [hp] at h1
      intro i x hx
      obtain ⟨cs, ⟨s1, s2, s3, e, b1, b2, b3⟩, hl, hr⟩ := h1 i x hx
      have hmx := mem_sum rndMu (List.mem_of_getElem? hx)
      have hmu : rndMu x = x.first.length + x.then_.length + x.keep.length + 1 := rfl
      exact ⟨cs, ⟨s1, s2, s3, e, b1, b2, b3, by omega, by omega, by omega⟩, hl, hr⟩
  clear hA0 hval0
  refine (law_calls (law2_DiskCrash_ok (law2_DiskCrash_c hs' hsk (by omega) (by omega)))).mono fun e W' ⟨he, hb⟩ => ?_
  subst he
  exact ⟨_, rfl, law_post hW' rfl (by kernel_rfl) rfl ⟨rfl, rfl, rfl⟩ hb⟩

theorem over : Rows.diskCrashUptoRow.holds Try.pinned (Rows.OpenSpec.upto Rows.diskCrashSpec) :=
  OpenClaim.holds_of_cond 5 Try.f5 rfl rfl rfl rfl rfl rfl rfl ⟨rfl, rfl, rfl, rfl, rfl⟩ rfl rfl rfl rfl rfl (by as_aux_lemma => kernel_rfl) Try.func5 (joined (by as_aux_lemma => kernel_rfl))
    (of_decide_eq_true (by as_aux_lemma => kernel_rfl)) (by unfold Func.isWrapper; first | (rw [if_pos (by as_aux_lemma => decide +kernel)]; kernel_rfl) | (rw [if_neg (by as_aux_lemma => decide +kernel)]; exact ⟨rfl, rfl⟩))
    (fun os started H enc _ F => lifted os started H enc F)
end diskCrash

theorem diskCrash_holds : Rows.DiskCrashUptoSaid := diskCrash.over
end Go.Proofs.Ythpeadoidpimmaa
