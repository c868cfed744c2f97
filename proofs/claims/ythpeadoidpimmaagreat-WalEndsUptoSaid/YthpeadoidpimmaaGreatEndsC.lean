/- trellislaw3.WalEnds: a head is made by hand, a script is played behind it; the arguments' reading. No condition but bounds on the script. -/
import Derived.Test.YthpeadoidpimmaaGreatLWalEnds
import Derived.Test.YthpeadoidpimmaaGreatWalHeld
namespace Go.Proofs.YthpeadoidpimmaaGreat
open Go Tw Go.ChangeShapes Go.WideShapes Go.RowKit
set_option linter.unusedVariables false
set_option linter.unusedSimpArgs false
set_option maxRecDepth 10000
set_option maxHeartbeats 1000000

section
variable {h0 h : Hp} {q : Nat}

theorem law3_walPut_c (off at_ n m : Nat) {s : Sl} {bs : List UInt8} {v : Int} {K : Hp → Prop} (hb : Bk h q (bs.map bv) 5) (hp : s.p = some ((nA q).add off)) (hl : s.len = m) (ha : at_ + n ≤ m) (hm : off + m ≤ bs.length) (hn : n ≤ 8) (hbl : bs.length ≤ 1048576)
    (hK : ∀ (bs' : List UInt8) (h' : Hp), Bk h' q (bs'.map bv) 5 → bs'.length = bs.length → Kp (fun x => x = q) h h' → K h') : law3_walPut s (at_ : Int) (n : Int) v K h := by
  refine ⟨(n : Int) - 1, Wr.i64 (by omega) (by omega), fun k v i hx => ∃ (j : Nat) (bs' : List UInt8), i = (j : Int) - 1 ∧ j ≤ n ∧ k = j ∧ bs'.length = bs.length ∧ Bk hx q (bs'.map bv) 5 ∧ Kp (fun x => x = q) h hx, ⟨_, n, bs, rfl, Nat.le_refl _, rfl, rfl, hb, Kp.refl _ _⟩, ?_⟩
  rintro k v i hx ⟨j, bs', rfl, hj, ek, hlen, hb', hk'⟩
  refine dcd (fun hge => ?_) (fun hlt => hK bs' hx hb' hlen hk')
  have hj1 : 1 ≤ j := by omega
  have hu : (UInt8.ofNat (v % 256).toNat).toNat = (v % 256).toNat := by rw [UInt8.toNat_ofNat']; omega
  have hst : StL hx (((nA q).add off).add (Int.toNat ((at_ : Int) + ((j : Int) - 1)) * 1)) [bv (UInt8.ofNat (v % 256).toNat)] (setB hx q (Cel ((bs'.set (off + (at_ + (j - 1))) (UInt8.ofNat (v % 256).toNat)).map bv) 5)) := by
    have := hb'.sti (off + (at_ + (j - 1))) (bv (UInt8.ofNat (v % 256).toNat)) (by rw [List.length_map]; omega)
    rw [← List.map_set] at this
    rw [add_add _ _ _ rfl]
    have e : off + Int.toNat ((at_ : Int) + ((j : Int) - 1)) * 1 = off + (at_ + (j - 1)) := by omega
    rw [e]; exact this
  refine ⟨(at_ : Int) + ((j : Int) - 1), Wr.i64 (by omega) (by omega), ((UInt8.ofNat (v % 256).toNat).toNat : Int), by unfold Wr; rw [wrap_u8, hu]; omega, _, hp, by omega, by omega, _, hst, _, rfl, (j : Int) - 1 - 1, Wr.i64 (by omega) (by omega), j - 1, by omega,
    j - 1, _, by omega, by omega, rfl, by rw [List.length_set]; exact hlen, hb'.set, Kp.set hk' _ (.inr rfl)⟩

theorem blk_byt {bs : List UInt8} {L : Nat} (hb : Bk h q (bs.map bv) 5) (hl : bs.length = L) : Byt h ⟨some (nA q), L, L⟩ bs := ⟨hl.symm, Nat.le_refl _, hb.rd0⟩

theorem ends_Load {s : Sl} {bs : List UInt8} {K : Option Addr → Int → Option Addr → Int → Hp → Prop} (hk : Kp (fun _ => False) h0 h) (hs : Byt h s bs) (hl : bs.length ≤ 1048576)
    (hK : ∀ p r h' o' A', W2 h0 h' p r (loadO bs) o' A' → K p (errL bs) r (errL bs) h') : law3_walCopy s (fun s6 h7 => disk_Load s6 (fun p8 n9 h10 => ref2_Load s (fun p11 n12 h13 => K p8 n9 p11 n12 h13) h10) h7) h := by
  let o0 : Nat → Nat := fun x => if x < h0.size then 0 else 8
  refine law3_walCopy_c hs (by omega) fun s1 h1 k1 v1 n1 => ?_
  refine disk_Load_o 1 o0 (Byt.of_vec v1) (by omega) fun h2 p k2 d2 => ?_
  refine ref2_Load_o 2 (Gro o0 1 h1) ((hs.kp k1 fun _ _ h => h).kp k2 fun _ _ h => h) (by omega) fun h3 r k3 d3 => ?_
  have d2' := PDo.other (i := 2) d2 k3 fun _ _ h => h
  have h0s := hk.size
  have h1s := k1.size
  have h2s := k2.size
  refine hK p r h3 (Gro (Gro o0 1 h1) 2 h2) (upd (upd (upd (fun _ => Ass.top) 0 (Ass.old h0)) 1 (Ass.diskO p (loadO bs))) 2 (Ass.rdiskO r (loadO bs))) ⟨?_, rfl, rfl, rfl⟩
  refine Ow.put (Ow.put (Ow.put (fun i => trivial) ⟨((hk.trans k1).trans k2).trans k3, fun x hx => ?_⟩) (PDo.ass d2')) (RDo.ass d3)
  show Gro (Gro o0 1 h1) 2 h2 x = 0
  rw [Gro.old (by omega), Gro.old (by omega)]; simp [o0, hx]

theorem law3_WalEnds_c {z b c d e : Int} {sc : Sl} {ops : List StD} (hs : Arr h sc 7 (StR h) ops) (hl : ops.length ≤ 1048576) : law3_WalEnds z b c d e sc (LawK h) h := by
  have hpl := Bk.new h [.int .i64 b, .int .i64 c, .int .i64 d, .int .i64 e] 28
  have k1 : Kp (fun _ => False) h (h.push (Cel [.int .i64 b, .int .i64 c, .int .i64 d, .int .i64 e] 28)) := Kp.push (Kp.refl _ _) _
  refine ⟨_, _, rfl, rfl, ?_⟩
  have hq1 := hpl.lt
  generalize h.push (Cel [.int .i64 b, .int .i64 c, .int .i64 d, .int .i64 e] 28) = h1 at *
  have h1s := k1.size
  generalize hq0 : h.size = q0 at *
  refine ⟨fun x hx => hx = h1 ∧ x = decide (z < 4 ∨ 40 < z), ?_, dcd (fun hz => ⟨rfl, by symm; simp only [decide_eq_true_eq]; omega⟩) (fun hz => ⟨rfl, by rw [Bool.eq_iff_iff]; simp only [decide_eq_true_eq]; omega⟩)⟩
  rintro x hx ⟨rfl, rfl⟩
  refine dcd (fun hz => ⟨rfl, k1⟩) (fun hz => ?_)
  obtain ⟨n, rfl⟩ : ∃ n : Nat, z = n := ⟨z.toNat, by omega⟩
  have hn4 : 4 ≤ n := by omega
  have hn40 : n ≤ 40 := by omega
  obtain ⟨L, hL⟩ : ∃ L : Nat, L = 128 * (n + 1) := ⟨_, rfl⟩
  have eL : (128 : Int) * ((n : Int) + 1) = (L : Int) := by omega
  refine ⟨(n : Int) + 1, Wr.i64 (by omega) (by omega), (L : Int), by rw [← eL]; exact Wr.i64 (by omega) (by omega), by omega, by omega, by omega, _, _, _, rfl, rfl, rfl, ?_⟩
  have hz : zr [.int .u8 0] (Int.toNat (L : Int) * 1) = (List.replicate L (0 : UInt8)).map bv := by
    rw [Int.toNat_natCast, Nat.mul_one, List.map_replicate]
    exact zr_zero L 1 (by decide)
  rw [hz, Int.toNat_natCast]
  have hb2 := Bk.new hx ((List.replicate L (0 : UInt8)).map bv) 5
  have k2 : Kp (fun _ => False) h (hx.push (Cel ((List.replicate L (0 : UInt8)).map bv) 5)) := Kp.push k1 _
  have pl2 := hpl.push (Cel ((List.replicate L (0 : UInt8)).map bv) 5)
  have hqlt : q0 < hx.size := hq1
  have hlen2 : (List.replicate L (0 : UInt8)).length = L := List.length_replicate
  generalize List.replicate L (0 : UInt8) = bs at *
  generalize hx.push (Cel (bs.map bv) 5) = h2 at *
  generalize hx.size = q at *
  obtain ⟨k, hk2, hk⟩ : ∃ k : Nat, k < 2 ∧ ((d % 2).toNat : Int) = (k : Int) := ⟨(d % 2).toNat, by omega, rfl⟩
  refine ⟨d, pl2.rdi 2 rfl, _, (and1_i64 d).symm, ((128 * k : Nat) : Int), ?_, by omega, by simp only; omega, by simp only; omega, _, rfl, b, pl2.rdi 0 rfl, ?_⟩
  · rw [hk]; have := Wr.i64 (e := (128 : Int) * (k : Int)) (by omega) (by omega); rw [Int.natCast_mul]; exact this
  rw [Int.toNat_natCast, Int.toNat_natCast]
  have hsp : (slS ⟨some (nA q), L, L⟩ 1 (128 * k) L).p = some ((nA q).add (128 * k)) := by
    simp only [slS, Nat.mul_one, Option.map_some]; rw [if_neg (by omega)]
  have hsl : (slS ⟨some (nA q), L, L⟩ 1 (128 * k) L).len = L - 128 * k := rfl
  have hsc : (slS ⟨some (nA q), L, L⟩ 1 (128 * k) L).cap = L - 128 * k := rfl
  have h0q : h.size ≤ q := by omega
  have hne : q0 ≠ q := by omega
  have goK : ∀ {ha hb : Hp}, Kp (fun _ => False) h ha → Kp (fun x => x = q) ha hb → Kp (fun _ => False) h hb := fun k k' => k.and k' fun x hx => .inl (by omega)
  have goP : ∀ {ha hb : Hp}, Bk ha q0 [.int .i64 b, .int .i64 c, .int .i64 d, .int .i64 e] 28 → Kp (fun x => x = q) ha hb → Bk hb q0 [.int .i64 b, .int .i64 c, .int .i64 d, .int .i64 e] 28 := fun p k' => p.kp k' hne
  refine law3_walPut_c (128 * k) 4 4 (L - 128 * k) hb2 hsp hsl (by omega) (by omega) (by omega) (by omega) fun bs3 h3 hb3 e3 j3 => ?_
  have k3 := goK k2 j3
  have pl3 := goP pl2 j3
  refine ⟨c, pl3.rdi 1 rfl, law3_walPut_c (128 * k) 8 8 (L - 128 * k) hb3 hsp hsl (by omega) (by omega) (by omega) (by omega) fun bs4 h4 hb4 e4 j4 => ?_⟩
  have k4 := goK k3 j4
  have pl4 := goP pl3 j4
  refine ⟨d, pl4.rdi 2 rfl, law3_walPut_c (128 * k) 16 8 (L - 128 * k) hb4 hsp hsl (by omega) (by omega) (by omega) (by omega) fun bs5 h5 hb5 e5 j5 => ?_⟩
  have k5 := goK k4 j5
  have pl5 := goP pl4 j5
  have hp51 : (slS (slS ⟨some (nA q), L, L⟩ 1 (128 * k) L) 1 24 32).p = some ((nA q).add (128 * k + 24)) := by
    have : (slS (slS ⟨some (nA q), L, L⟩ 1 (128 * k) L) 1 24 32).p = (slS ⟨some (nA q), L, L⟩ 1 (128 * k) L).p.map (·.add (24 * 1)) := by
      show (if (slS ⟨some (nA q), L, L⟩ 1 (128 * k) L).cap = 24 then _ else _) = _
      rw [hsc, if_neg (by omega)]
    rw [this, hsp, Option.map_some, add_add _ _ _ rfl]
  let mg : List UInt8 := [116, 114, 101, 108, 108, 105, 115, 49]
  have hst : StS h5 (slS (slS ⟨some (nA q), L, L⟩ 1 (128 * k) L) 1 24 32).p 0 (mg.map bv) (setB h5 q (Cel ((bs5.take (128 * k + 24) ++ mg ++ bs5.drop (128 * k + 24 + 8)).map bv) 5)) := by
    rw [hp51]
    show StL h5 (((nA q).add (128 * k + 24)).add 0) _ _
    rw [add_add _ _ _ rfl, add_nA, Nat.zero_add]
    have := hb5.st (i := 128 * k + 24) (vs := mg.map bv) (by simp only [List.length_map]; show 128 * k + 24 + 8 ≤ _; omega)
    have e : splice (bs5.map bv) (128 * k + 24) (mg.map bv) = (bs5.take (128 * k + 24) ++ mg ++ bs5.drop (128 * k + 24 + 8)).map bv := by
      simp only [splice, List.map_append, List.map_take, List.map_drop, List.length_map]; rfl
    rw [e] at this
    exact this
  refine ⟨by rw [hsc]; omega, _, rfl, _, _, hst, rfl, ?_⟩
  have hb6 : Bk (setB h5 q (Cel ((bs5.take (128 * k + 24) ++ mg ++ bs5.drop (128 * k + 24 + 8)).map bv) 5)) q ((bs5.take (128 * k + 24) ++ mg ++ bs5.drop (128 * k + 24 + 8)).map bv) 5 := hb5.set
  have j6 : Kp (fun x => x = q) h5 (setB h5 q (Cel ((bs5.take (128 * k + 24) ++ mg ++ bs5.drop (128 * k + 24 + 8)).map bv) 5)) := Kp.set (Kp.refl _ _) _ (.inr rfl)
  have e6 : (bs5.take (128 * k + 24) ++ mg ++ bs5.drop (128 * k + 24 + 8)).length = bs5.length := by
    have : mg.length = 8 := rfl
    simp only [List.length_append, List.length_take, List.length_drop, this]; omega
  have k6 := goK k5 j6
  have pl6 := goP pl5 j6
  generalize (bs5.take (128 * k + 24) ++ mg ++ bs5.drop (128 * k + 24 + 8)) = bs6 at *
  generalize setB h5 q (Cel (bs6.map bv) 5) = h6 at *
  refine law3_walPut_c (128 * k) 32 4 (L - 128 * k) hb6 hsp hsl (by omega) (by omega) (by omega) (by omega) fun bs7 h7 hb7 e7 j7 => ?_
  have k7 := goK k6 j7
  have pl7 := goP pl6 j7
  refine ⟨e, pl7.rdi 3 rfl, law3_walPut_c (128 * k) 36 4 (L - 128 * k) hb7 hsp hsl (by omega) (by omega) (by omega) (by omega) fun bs8 h8 hb8 e8 j8 => ?_⟩
  have k8 := goK k7 j8
  have by8 := blk_byt (L := L) hb8 (by omega)
  have cut8 := Byt.cut (Byt.cut by8 (lo := 128 * k) (hi := L) (by omega) (by omega)) (lo := 4) (hi := 128) (by omega) (by simp only [List.length_take, List.length_drop]; omega)
  refine ⟨by rw [hsc]; omega, _, rfl, ref3_Sum_c cut8 (by simp only [List.length_take, List.length_drop]; omega) ⟨_, rfl, ?_⟩⟩
  refine law3_walPut_c (128 * k) 0 4 (L - 128 * k) hb8 hsp hsl (by omega) (by omega) (by omega) (by omega) fun bs9 h9 hb9 e9 j9 => ?_
  have k9 := goK k8 j9
  have hL9 : bs9.length = L := by omega
  refine ends_Load k9 (blk_byt hb9 hL9) (by omega) fun p r h10 o10 A10 w10 => ?_
  have hgood : badImage bs9 = false := by
    have e1 : bs9.length % 128 = 0 := by omega
    have e2 : bs9.length / 128 = n + 1 := by omega
    unfold badImage
    rw [e1, e2]
    simp; omega
  have hlo : loadO bs9 = some (Md.load bs9) := by unfold loadO; rw [if_neg (by simp [hgood])]
  rw [hlo] at w10
  have hsm : smallO (some (Md.load bs9)) 0 := fun m hm => by cases hm; simp [Md.load, Md.new]
  obtain ⟨hn1, hn2⟩ := w10.ps
  refine ⟨fun x hy => x = false ∧ hy = h10, ?_, dcn (fun h => (h rfl).elim) fun _ => ⟨fun h => (by rw [hn1] at h; cases h), fun _ => ⟨hn2, rfl⟩⟩⟩
  rintro x hy ⟨rfl, rfl⟩
  refine ⟨fun h => (nomatch h), fun _ => ?_⟩
  let l0 : List Value := [.pointer p, .pointer r, .pointer none, .pointer none, .pointer none, .pointer none, .int .i64 0, .int .i64 0, .int .i64 0, .int .i64 0]
  let l1 : List Value := [.pointer p, .pointer r, .pointer none, .pointer none, .pointer none, .pointer none, .int .i64 0, .int .i64 0, .int .i64 n, .int .i64 0]
  have hbw := Bk.new hy l0 48
  have kw : Kp (fun _ => False) hy (hy.push (Cel l0 48)) := Kp.push (Kp.refl _ _) _
  obtain ⟨w11, t11⟩ := W2.fresh 7 w10 kw
  have ot : Gro o10 7 hy hy.size = 7 := by simp [Gro]
  have w12 := w11.ow.put (i := 7) (B := Ass.cell hy.size l0 48) ⟨hbw, ot⟩
  let T : Nat → Int := fun i => if i = 0 then 0 else (n : Int)
  let N : Nat → Int := fun i => if i = 0 then (n : Int) else 0
  obtain ⟨o', A', w13⟩ := Wld.begin T N (h0 := h) (mo := some (Md.load bs9)) ⟨w12, w10.a0, w10.a1, w10.a2⟩ (t := hy.size) (l := l0) rfl
  refine ⟨_, _, rfl, rfl, setB (hy.push (Cel l0 48)) hy.size (Cel l1 48), hbw.sti 8 _ (by simp [l0]), setB (hy.push (Cel l0 48)) hy.size (Cel (wlC p r (fun _ => none) (fun _ => none) T N) 48), bk_sts hbw (i := 7) rfl (by simp [l1]) rfl, ?_⟩
  exact law3_plays_c w13 hsm hs hl fun h' k => ⟨rfl, k⟩
end

section
variable {H : Type} {enc : TypeId × Value → H} {w : World} {base : Nat} {sp : Nat → Bool} {held : Bool}
/-- A head as an argument. -/
theorem open_head {v : Value} {d : DataW H} {ps : List MemPlace} {r : Reach} {b0 : Nat} (hval : Value.okWide Tryz.prog w r b0 28 v) (hd : DataW.Trod enc Tryz.prog w base sp held 28 v d ps) :
    ∃ b c d e : Int, v = .agg (List.toArray [.int .i64 b, .int .i64 c, .int .i64 d, .int .i64 e]) := by
  obtain ⟨cs, rfl, hsz⟩ := okWide_struct Tryz.underlying28 hval
  obtain ⟨fuel, h⟩ := hd
  obtain ⟨xs, n, _, hx, hcl, hxl, hf⟩ := DataW.trod_struct Tryz.underlying28 h
  have c28 : Tryz.prog.cellsOf 28 = 4 := by kernel_rfl
  have c3 : Tryz.prog.cellsOf 3 = 1 := by kernel_rfl
  have c2 : Tryz.prog.cellsOf 2 = 1 := by kernel_rfl
  rw [c28] at hsz
  have hc : (Value.agg cs).cells.toList = cs.toList := rfl
  rw [hc] at hf
  have f0 : DataW.trod enc Tryz.prog w base sp held n 2 ((cs.toList.drop 0).take (Tryz.prog.cellsOf 2)) = xs[0]? := hf 0 _ rfl
  have f1 : DataW.trod enc Tryz.prog w base sp held n 2 ((cs.toList.drop 1).take (Tryz.prog.cellsOf 2)) = xs[1]? := hf 1 _ rfl
  have f2 : DataW.trod enc Tryz.prog w base sp held n 2 ((cs.toList.drop 2).take (Tryz.prog.cellsOf 2)) = xs[2]? := hf 2 _ rfl
  have f3 : DataW.trod enc Tryz.prog w base sp held n 2 ((cs.toList.drop 3).take (Tryz.prog.cellsOf 2)) = xs[3]? := hf 3 _ rfl
  rw [c2] at f0 f1 f2 f3
  have hxl4 : xs.length = 4 := hxl
  have hl4 : cs.toList.length = 4 := by simpa using hsz
  match xs, hxl4 with
  | [x0, x1, x2, x3], _ =>
  obtain ⟨l⟩ := cs
  simp only at f0 f1 f2 f3 hl4
  match l, hl4 with
  | [v0, v1, v2, v3], _ =>
  obtain ⟨a0, ⟨e0, _⟩, _⟩ := open_i64 (P := Tryz.prog) Tryz.underlying2 _ _ _ _ f0
  obtain ⟨a1, ⟨e1, _⟩, _⟩ := open_i64 (P := Tryz.prog) Tryz.underlying2 _ _ _ _ f1
  obtain ⟨a2, ⟨e2, _⟩, _⟩ := open_i64 (P := Tryz.prog) Tryz.underlying2 _ _ _ _ f2
  obtain ⟨a3, ⟨e3, _⟩, _⟩ := open_i64 (P := Tryz.prog) Tryz.underlying2 _ _ _ _ f3
  refine ⟨a0, a1, a2, a3, ?_⟩
  simp at e0 e1 e2 e3
  rw [e0, e1, e2, e3]
end
end Go.Proofs.YthpeadoidpimmaaGreat
