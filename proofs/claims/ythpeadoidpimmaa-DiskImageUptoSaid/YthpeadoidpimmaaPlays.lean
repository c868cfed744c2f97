/- trellislaw2.Plays answers true at every script. No condition. -/
import Derived.Test.YthpeadoidpimmaaLawD
import Derived.Test.YthpeadoidpimmaaOpen
import Derived.Test.YthpeadoidpimmaaRow
namespace Go.Proofs.Ythpeadoidpimmaa
open Go Tw Go.ChangeShapes Go.WideShapes Go.RowKit
set_option linter.unusedVariables false
set_option linter.unusedSimpArgs false
set_option maxRecDepth 10000

def OpR (h0 : Hp) (op : OpD) (cs : List Value) : Prop := ∃ sd sk, cs = opC op sd sk ∧ OpH h0 op sd sk

theorem opM_pend {m : Option Md} {op : OpD} {n : Nat} {m' : Md} (hm : ∀ x, m = some x → x.pend.length ≤ n) (h : opM m op = some m') : m'.pend.length ≤ n + 1 := by
  unfold opM at h
  split at h
  · unfold newO at h
    split at h
    · cases h
    · cases h; simp [Md.new]
  · split at h
    · unfold loadO at h
      split at h
      · cases h
      · cases h; simp [Md.load, Md.new]
    · cases m with
      | none => cases h
      | some x =>
        have hx := hm x rfl
        have hbl := x.burn_laid
        simp only [Option.map_some, Option.some.injEq] at h
        subst h
        split
        · unfold Md.write
          split
          · exact Nat.le_succ_of_le hx
          · split
            · exact Nat.le_succ_of_le hx
            · split
              · simp; omega
              · rw [hbl.2.1]; omega
        · split
          · unfold Md.flush
            split
            · simp
            · rw [hbl.2.1]; omega
          · split
            · unfold Md.cut
              split
              · exact Nat.le_succ_of_le hx
              · split <;> exact Nat.le_succ_of_le hx
            · split
              · simp [Md.crash]
              · omega

theorem law2_Plays_c {h : Hp} {s : Sl} {ops : List OpD} {lo hi : Int} (hs : Arr h s 5 (OpR h) ops) (hl : ops.length ≤ 1048576) : law2_Plays s lo hi (LawK h) h := by
  have hsl := hs.len
  refine ⟨_, _, rfl, rfl, ?_⟩
  have hk0 : Kp (fun _ => False) h (h.push (Cel [.pointer none, .pointer none, .pointer none, .pointer none] 74)) := Kp.push (Kp.refl _ _) _
  have hnb := Bk.new h [.pointer none, .pointer none, .pointer none, .pointer none] 74
  refine ⟨fun k i h1 => ∃ (j : Nat) (P R : Nat → Option Addr) (M : Nat → Option Md) (o : Nat → Nat), i = j ∧ j ≤ ops.length ∧ k = ops.length - j ∧ TwoR h1 h.size P R M M o ∧ Ok h.size h h1 o ∧ ∀ w m, M w = some m → m.pend.length ≤ j,
    ⟨_, 0, fun _ => none, fun _ => none, fun _ => none, fun x => if x < h.size then 0 else if x = h.size then 6 else 5, rfl, by omega, rfl, ⟨hnb, by simp, fun w hw => rfl, fun w hw => rfl⟩, ⟨by simp, fun x hx => by simp [hx], hk0, rfl⟩, by simp⟩, ?_⟩
  rintro k i h1 ⟨j, P, R, M, o, rfl, hj, rfl, s1, g1, hsm⟩
  refine dcd (fun hlt => ?_) (fun hge => ⟨rfl, g1.kp⟩)
  have hlt' : j < ops.length := by omega
  obtain ⟨a, ha, cs, ⟨sd, sk, rfl, hop⟩, _, hr⟩ := hs.ptr hlt'
  generalize ops[j] = op at *
  have hr1 := RdL.kp0 hr g1.kp
  refine ⟨a, ha, by omega, by omega, op.kind, op.who, op.n, sd, sk, by rw [Int.toNat_natCast]; exact hr1, _, _, rfl, rfl, ?_⟩
  have hnb1 := Bk.new h1 [.int .i64 0, .int .i64 0, .int .i64 0, .slice none 0 0, .slice none 0 0] 59
  have hst1 := hnb1.st0 (vs := opC op sd sk) rfl
  have hnb2 := hnb1.set (l' := opC op sd sk)
  have hk2 : Kp (fun _ => False) h1 (setB (h1.push (Cel [.int .i64 0, .int .i64 0, .int .i64 0, .slice none 0 0, .slice none 0 0] 59)) h1.size (Cel (opC op sd sk) 59)) := (Kp.push (Kp.refl _ _) _).set _ (.inl (Nat.le_refl _))
  refine ⟨_, hst1, op.kind, op.who, op.n, sd, sk, hnb2.rd0, ?_⟩
  generalize setB (h1.push (Cel [.int .i64 0, .int .i64 0, .int .i64 0, .slice none 0 0, .slice none 0 0] 59)) h1.size (Cel (opC op sd sk) 59) = h2 at *
  have s2 := s1.same hk2
  have g2 := (Go5.refl g1).same hk2
  have ho2 : Gro o 5 h1 h1.size = 5 := by simp [Gro]
  generalize Gro o 5 h1 = o2 at *
  refine law2_step_c s2 g2.ok hop (fun w m hm => by have := hsm w m hm; omega) fun h3 P' R' o3 s3 g3 => ?_
  have hnb3 := hnb2.kp g3.kp (by simp only [ho2]; omega)
  have hw := opW_lt op
  refine ⟨fun bb h4 => bb = false ∧ h4 = h3, ?_, ⟨fun h => (nomatch h), fun _ => ⟨rfl, rfl⟩⟩⟩
  rintro bb h4 ⟨rfl, rfl⟩
  refine ⟨fun h => (nomatch h), fun _ => ?_⟩
  refine ⟨op.who, hnb3.rdi 1 rfl, ((opW op : Nat) : Int), (and1_i64 op.who).symm, by omega, by omega, P' (opW op), by rw [Int.toNat_natCast]; exact s3.rdP hw, by omega, by omega, R' (opW op), by rw [Int.toNat_natCast]; exact s3.rdR hw, ?_⟩
  have e : (P' (opW op)).isNone = (R' (opW op)).isNone := by rw [PDo.iff (s3.d _ hw), RDo.iff (s3.e _ hw)]
  rw [e]
  refine ⟨fun h => by simp at h, fun _ => ⟨_, Wr.i64 (by omega) (by omega), ops.length - (j + 1), by omega, j + 1, P', R', _, o3, by omega, by omega, rfl, s3, g3.ok, ?_⟩⟩
  intro w m hm
  unfold upd at hm
  split at hm
  · exact opM_pend (hsm _) hm
  · have := hsm w m hm; omega

section
variable {H : Type} {enc : TypeId × Value → H} {w : World} {base : Nat} {sp : Nat → Bool} {held : Bool}

def opMu (op : OpD) : Nat := op.data.length + op.keep.length + 1

theorem open_op : Opens enc Try.prog w base sp held 59 (fun (op : OpD) cs => ∃ sd sk, cs = opC op sd sk ∧ Byt w.heap sd op.data ∧ Bls w.heap sk op.keep) opMu := by
  intro fuel cs d p h
  obtain ⟨xs, n, rfl, hx, hcl, hxl, hf⟩ := DataW.trod_struct Try.underlying59 h
  cases hx
  have c0 : Try.prog.cellsOf 3 = 1 := by kernel_rfl
  have c24 : Try.prog.cellsOf 24 = 1 := by kernel_rfl
  have c30 : Try.prog.cellsOf 30 = 1 := by kernel_rfl
  have c59 : Try.prog.cellsOf 59 = 5 := by kernel_rfl
  have c5 : Try.prog.cellsOf 5 = 1 := by kernel_rfl
  have c4 : Try.prog.cellsOf 4 = 1 := by kernel_rfl
  rw [c59] at hcl
  have f0 : DataW.trod enc Try.prog w base sp held n 3 ((cs.drop 0).take (Try.prog.cellsOf 3)) = xs[0]? := hf 0 _ rfl
  have f1 : DataW.trod enc Try.prog w base sp held n 3 ((cs.drop 1).take (Try.prog.cellsOf 3)) = xs[1]? := hf 1 _ rfl
  have f2 : DataW.trod enc Try.prog w base sp held n 3 ((cs.drop 2).take (Try.prog.cellsOf 3)) = xs[2]? := hf 2 _ rfl
  have f3 : DataW.trod enc Try.prog w base sp held n 24 ((cs.drop 3).take (Try.prog.cellsOf 24)) = xs[3]? := hf 3 _ rfl
  have f4 : DataW.trod enc Try.prog w base sp held n 30 ((cs.drop 4).take (Try.prog.cellsOf 30)) = xs[4]? := hf 4 _ rfl
  rw [c0] at f0 f1 f2
  rw [c24] at f3
  rw [c30] at f4
  have hxl5 : xs.length = 5 := hxl
  match xs, hxl5 with
  | [x0, x1, x2, x3, x4], _ =>
  match cs, hcl with
  | [v0, v1, v2, v3, v4], _ =>
  obtain ⟨k, ⟨e0, _⟩, _⟩ := open_i64 (P := Try.prog) Try.underlying3 _ _ _ _ f0
  obtain ⟨wh, ⟨e1, _⟩, _⟩ := open_i64 (P := Try.prog) Try.underlying3 _ _ _ _ f1
  obtain ⟨nn, ⟨e2, _⟩, _⟩ := open_i64 (P := Try.prog) Try.underlying3 _ _ _ _ f2
  obtain ⟨dat, ⟨sd, e3, hd⟩, hm3⟩ := open_bytes (P := Try.prog) Try.underlying24 Try.underlying5 c5 _ _ _ _ f3
  obtain ⟨kee, ⟨sk, e4, hk⟩, hm4⟩ := open_bools (P := Try.prog) Try.underlying30 Try.underlying4 c4 _ _ _ _ f4
  refine ⟨⟨k, wh, nn, dat, kee⟩, ⟨sd, sk, ?_, hd, hk⟩, ?_⟩
  · simp at e0 e1 e2 e3 e4
    rw [e0, e1, e2, e3, e4]; rfl
  · simp only at hm3 hm4
    simp only [opMu, Rows.uptoBulk, List.map_cons, List.map_nil, Rows.uptoBulkAll]
    omega

theorem mem_sum {α : Type} (μ : α → Nat) {l : List α} {x : α} (h : x ∈ l) : μ x ≤ (l.map μ).sum := by
  induction l with
  | nil => cases h
  | cons y r ih =>
    rcases List.mem_cons.1 h with rfl | h
    · simp
    · have := ih h; simp; omega
theorem len_sum {α : Type} (μ : α → Nat) (hμ : ∀ x, 1 ≤ μ x) (l : List α) : l.length ≤ (l.map μ).sum := by
  induction l with
  | nil => simp
  | cons y r ih => have := hμ y; simp; omega

/-- A script as an argument. -/
theorem open_script {v : Value} {d : DataW H} {ps : List MemPlace} {r : Reach} {b0 : Nat} (hval : Value.okWide Try.prog w r b0 56 v) (hd : DataW.Trod enc Try.prog w base sp held 56 v d ps) (hk : Rows.uptoBulk d ≤ 1048576) :
    ∃ (s : Sl) (ops : List OpD), v = s.v ∧ Arr w.heap s 5 (OpR w.heap) ops ∧ ops.length ≤ 1048576 := by
  have c59 : Try.prog.cellsOf 59 = 5 := by kernel_rfl
  obtain ⟨ops, ⟨s, hcs, hs⟩, hm⟩ := open_val (open_slice Try.underlying56 c59 (open_op (w := w))) hd
  have hlen := len_sum opMu (fun x => by unfold opMu; omega) ops
  refine ⟨s, ops, sl_of_cells Try.underlying56 hval hcs, ⟨hs.len, hs.cap, ?_⟩, by omega⟩
  have h1 := hs.rd
  cases hp : s.p with
  | none => rw [hp] at h1; exact h1
  | some a =>
    rw [hp] at h1
    intro i x hx
    obtain ⟨cs, ⟨sd, sk, e, hd, hk'⟩, hl, hr⟩ := h1 i x hx
    have hmx := mem_sum opMu (List.mem_of_getElem? hx)
    have hmu : opMu x = x.data.length + x.keep.length + 1 := rfl
    exact ⟨cs, ⟨sd, sk, e, hd, hk', by omega, by omega⟩, hl, hr⟩
end
end Go.Proofs.Ythpeadoidpimmaa
