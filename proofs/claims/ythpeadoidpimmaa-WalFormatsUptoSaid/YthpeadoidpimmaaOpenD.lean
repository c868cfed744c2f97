/- trellislaw3.WalFormats and WalOpens answer true at all arguments. No condition but bounds on the lists. -/
import Derived.Test.YthpeadoidpimmaaLWalFormats
import Derived.Test.YthpeadoidpimmaaLWalOpens
import Derived.Test.YthpeadoidpimmaaLogL
import Derived.Test.YthpeadoidpimmaaOpen
import Derived.Test.YthpeadoidpimmaaRow
namespace Go.Proofs.Ythpeadoidpimmaa
open Go Tw
set_option linter.unusedVariables false
set_option linter.unusedSimpArgs false
set_option maxRecDepth 10000
set_option maxHeartbeats 1000000

section
variable {h0 h h1 : Hp} {o : Nat → Nat} {A : Nat → Ass} {p r : Option Addr} {mo : Option Md} {start n : Int}

theorem loadO_pend (bs : List UInt8) : smallO (loadO bs) 0 := by
  intro m hm
  unfold loadO at hm
  split at hm
  · cases hm
  · cases hm; simp [Md.load, Md.new]

/-- A copy of an image and the image, loaded: the same. -/
theorem both_Load {s : Sl} {bs : List UInt8} {K : Option Addr → Int → Option Addr → Int → Hp → Prop} (hs : Byt h s bs) (hl : bs.length ≤ 1048576)
    (hK : ∀ p r h' o' A', W2 h h' p r (loadO bs) o' A' → K p (errL bs) r (errL bs) h') : law3_walCopy s (fun s6 h7 => disk_Load s6 (fun p8 n9 h10 => ref2_Load s (fun p11 n12 h13 => K p8 n9 p11 n12 h13) h10) h7) h := by
  let o0 : Nat → Nat := fun x => if x < h.size then 0 else 8
  refine law3_walCopy_c hs (by omega) fun s1 h1 k1 v1 n1 => ?_
  refine disk_Load_o 1 o0 (Byt.of_vec v1) (by omega) fun h2 p k2 d2 => ?_
  refine ref2_Load_o 2 (Gro o0 1 h1) ((hs.kp k1 fun _ _ h => h).kp k2 fun _ _ h => h) (by omega) fun h3 r k3 d3 => ?_
  have d2' := PDo.other (i := 2) d2 k3 fun _ _ h => h
  have h1s := k1.size
  have h2s := k2.size
  refine hK p r h3 (Gro (Gro o0 1 h1) 2 h2) (upd (upd (upd (fun _ => Ass.top) 0 (Ass.old h)) 1 (Ass.diskO p (loadO bs))) 2 (Ass.rdiskO r (loadO bs))) ⟨?_, rfl, rfl, rfl⟩
  refine Ow.put (Ow.put (Ow.put (fun i => trivial) ⟨(k1.trans k2).trans k3, fun x hx => ?_⟩) ?_) ?_
  · show Gro (Gro o0 1 h1) 2 h2 x = 0
    rw [Gro.old (by omega), Gro.old (by omega)]; simp [o0, hx]
  · cases hlo : loadO bs with
    | none => rw [hlo] at d2'; exact d2'
    | some m => rw [hlo] at d2'; exact d2'
  · cases hlo : loadO bs with
    | none => rw [hlo] at d3; exact d3
    | some m => rw [hlo] at d3; exact d3

/-- append([]bool{}, keep...) -/
theorem copy_bools0 {h : Hp} {s : Sl} {bs : List Bool} {K : Sl → Hp → Prop} (hs : Bls h s bs) (hb : bs.length ≤ 140737488355328)
    (hK : ∀ s' h', Kp (fun _ => False) h h' → Bls h' s' bs → (∀ x, s'.blk x → h.size ≤ x) → K s' h') : App (h.push (Cel [] 4)) ⟨some (nA h.size), 0, 0⟩ s 1 1 4 [.bool false] K := by
  have k1 : Kp (fun _ => False) h (h.push (Cel [] 4)) := Kp.push (Kp.refl _ _) _
  have v1 : Vec (h.push (Cel [] 4)) ⟨some (nA h.size), 0, 0⟩ 1 4 [] := Vec.mk0 h 1 0 0 4 [] [] rfl (Nat.le_refl _) rfl
  refine v1.app (Bls.rds (hs.kp k1 fun _ _ h => h)) (oneC_bools _) (by show (0 + s.len) * 1 ≤ _; rw [hs.len]; omega) fun s' h' hv _ hk hb => ?_
  rw [List.nil_append] at hv
  have hn : ∀ x, s'.blk x → h.size ≤ x := fun x hx => by
    rcases hb x hx with ⟨a, ha, rfl⟩ | h1
    · cases ha; exact Nat.le_refl _
    · simp at h1; omega
  refine hK s' h' (k1.and hk fun x hx => .inl ?_) (Bls.of_vec hv) hn
  obtain ⟨a, ha, rfl⟩ := hx
  cases ha; exact Nat.le_refl _

/-- Both disks crash: the program's with a copy. -/
theorem both_CrashC {y : Sl} {keep : List Bool} {K : Int → Int → Int → Int → Hp → Prop} (s : W2 h0 h p r mo o A) (hs : smallO mo 900000000000) (hy : Bls h0 y keep) (hk : keep.length ≤ 1048576)
    (hK : ∀ n e h' o' A', W2 h0 h' p r (mo.map fun m => (m.crash keep).2) o' A' → (∀ k, k ≠ 1 → k ≠ 2 → A' k = A k) → Stp (fun k => k = 1 ∨ k = 2) h o h' o' → K n e n e h') :
    ∃ (b33 : Nat) (h34 : Hp) (s35 : Sl), b33 = h.size ∧ h34 = h.push (Cel [] 4) ∧ s35 = ⟨some (nA b33), 0, 0⟩ ∧ App h34 s35 y 1 1 4 [.bool false] (fun s39 h40 => disk_Disk_Crash p s39 (fun n41 n42 h43 => ref2_Disk_Crash r y (fun n44 n45 h46 => K n41 n42 n44 n45 h46) h43) h40) := by
  refine ⟨_, _, _, rfl, rfl, rfl, copy_bools0 (hy.kp s.kp fun _ _ h => h) (by omega) fun s1 h1 k1 b1 n1 => ?_⟩
  obtain ⟨s2, t2⟩ := W2.fresh 8 s k1
  refine both_Crash s2 hs b1 (hy.kp s2.kp fun _ _ h => h) (fun a ha _ => ?_) (fun a ha hne => ?_) fun n e h3 o3 A3 s3 e3 t3 => hK n e h3 o3 A3 s3 e3 ((t2.mono fun _ h => h.elim).trans t3)
  · have := n1 _ ⟨a, ha, rfl⟩
    simp only [Gro, if_neg (show ¬ a.block < h.size by omega)]
    decide
  · rw [s2.own _ (hy.lt hne ha)]; decide

theorem law3_WalFormats_c {h : Hp} {simg sk : Sl} {img : List UInt8} {keep : List Bool} {start n cut : Int} (hs : Byt h simg img) (hk : Bls h sk keep) (hl : img.length ≤ 1048576) (hkl : keep.length ≤ 1048576) : law3_WalFormats simg start n cut sk (LawK h) h := by
  refine both_Load hs hl fun p r h1 o1 A1 s1 => ?_
  have hsm := loadO_pend img
  generalize loadO img = mo at *
  refine ⟨fun b hx => b = false ∧ hx = h1, ?_, dcn (fun h => (h rfl).elim) fun _ => ⟨by rw [(W2.isN s1).1, (W2.isN s1).2]; simp, rfl⟩⟩
  rintro b hx ⟨rfl, rfl⟩
  refine ⟨fun h => (nomatch h), fun _ => both_Cut s1 fun x h2 o2 A2 s2 e2 t2 => dcn (fun h => (h rfl).elim) fun _ => ?_⟩
  have hsm2 : smallO (mo.map fun m => (m.cut cut).2) 0 := by
    intro m hm
    cases mo with
    | none => cases hm
    | some m0 => cases hm; rw [Md.cut_pend]; exact hsm m0 rfl
  generalize (mo.map fun m => (m.cut cut).2) = mo2 at *
  refine ⟨fun b hx => b = false ∧ ∃ mo3 o3 A3, W2 h hx p r mo3 o3 A3 ∧ smallO mo3 10000, ?_, both_Format s2 (fun m hm => by have := hsm2 m hm; omega) fun x h3 o3 A3 s3 e3 t3 => dcn (fun h => (h rfl).elim) fun _ => ?_⟩
  · rintro b hx ⟨rfl, mo3, o3, A3, s3, hsm3⟩
    refine ⟨fun h => (nomatch h), fun _ => both_CrashC s3 (fun m hm => by have := hsm3 m hm; omega) hk hkl fun nn e h4 o4 A4 s4 e4 t4 => ?_⟩
    refine law3_walOpened_c s4 (fun m hm => ?_) fun h5 o5 A5 s5 => ⟨rfl, s5.kp⟩
    cases mo3 with
    | none => cases hm
    | some m0 => cases hm; simp [Md.crash]
  · have hsm3 : smallO (mo2.map fun m => (fmtI m start n).2) 10000 := by
      intro m hm
      cases mo2 with
      | none => cases hm
      | some m0 =>
        cases hm
        have := fmtI_pend m0 start n (W2.wf s2 m0 rfl)
        have := hsm2 m0 rfl
        show (fmtI m0 start n).2.pend.length ≤ 10000
        omega
    exact law3_walDisks_c s3 (fun m hm => by have := hsm3 m hm; omega) fun h4 o4 s4 t4 => ⟨rfl, _, o4, A3, s4, hsm3⟩

theorem law3_WalOpens_c {h : Hp} {simg sk : Sl} {img : List UInt8} {keep : List Bool} {start n cut : Int} (hs : Byt h simg img) (hk : Bls h sk keep) (hl : img.length ≤ 1048576) (hkl : keep.length ≤ 1048576) : law3_WalOpens simg start n cut sk (LawK h) h := by
  refine both_Load hs hl fun p r h1 o1 A1 s1 => ?_
  have hsm := loadO_pend img
  generalize loadO img = mo at *
  refine ⟨fun b hx => b = false ∧ hx = h1, ?_, dcn (fun h => (h rfl).elim) fun _ => ⟨by rw [(W2.isN s1).1, (W2.isN s1).2]; simp, rfl⟩⟩
  rintro b hx ⟨rfl, rfl⟩
  refine ⟨fun h => (nomatch h), fun _ => ?_⟩
  refine ⟨fun b hx => b = false ∧ ∃ mo3 o3 A3, W2 h hx p r mo3 o3 A3 ∧ smallO mo3 10000, ?_, both_Cut s1 fun x h2 o2 A2 s2 e2 t2 => dcn (fun h => (h rfl).elim) fun _ => ?_⟩
  · rintro b hx ⟨rfl, mo3, o3, A3, s3, hsm3⟩
    refine ⟨fun h => (nomatch h), fun _ => both_CrashC s3 (fun m hm => by have := hsm3 m hm; omega) hk hkl fun nn e h4 o4 A4 s4 e4 t4 => ?_⟩
    refine law3_walOpened_c s4 (fun m hm => ?_) fun h5 o5 A5 s5 => ⟨rfl, s5.kp⟩
    cases mo3 with
    | none => cases hm
    | some m0 => cases hm; simp [Md.crash]
  · have hsm2 : smallO (mo.map fun m => (m.cut cut).2) 0 := by
      intro m hm
      cases mo with
      | none => cases hm
      | some m0 => cases hm; rw [Md.cut_pend]; exact hsm m0 rfl
    generalize (mo.map fun m => (m.cut cut).2) = mo2 at *
    refine law3_walOpened_c s2 (fun m hm => by have := hsm2 m hm; omega) fun h3 o3 A3 s3 => ⟨rfl, _, o3, A3, s3, fun m hm => ?_⟩
    cases mo2 with
    | none => cases hm
    | some m0 =>
      cases hm
      have := opnI_pend m0 start n
      have := hsm2 m0 rfl
      show (opnI m0 start n).2.pend.length ≤ 10000
      omega
end
end Go.Proofs.Ythpeadoidpimmaa
