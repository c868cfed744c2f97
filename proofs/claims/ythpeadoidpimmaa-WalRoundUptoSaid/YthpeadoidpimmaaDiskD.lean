/- What the calls of the program's disk do: Crash, Pending, Image, Load. No condition. -/
import Derived.Test.YthpeadoidpimmaaDiskC
namespace Tw
open Go
set_option linter.unusedVariables false
set_option linter.unusedSimpArgs false

/-- append(nil, keep...): a copy. -/
theorem copy_bools {h : Hp} {s : Sl} {bs : List Bool} {K : Sl → Hp → Prop} (hs : Bls h s bs) (hb : bs.length ≤ 140737488355328)
    (hK : ∀ s' h', Kp (fun _ => False) h h' → Vec h' s' 1 4 (bs.map .bool) → (∀ x, s'.blk x → h.size ≤ x) → K s' h') : App h Sl.nil s 1 1 4 [.bool false] K := by
  refine (Vec.nil _ 1 4).app hs.rds (oneC_bools _) (by show (0 + s.len) * 1 ≤ _; rw [hs.len]; omega) ?_
  intro s' h' hv _ hk hb
  refine hK s' h' ⟨hk.size, fun b hb' _ => hk.old b hb' (by simp [Sl.blk])⟩ (by simpa using hv) fun x hx => ?_
  rcases hb x hx with h | h
  · simp [Sl.blk] at h
  · omega

theorem keptW_snoc : ∀ (p : List Wrt) (k : List Bool) (i : Nat) (w : Wrt), p[i]? = some w → keptW (p.take (i + 1)) k = keptW (p.take i) k ++ (if k.getD i false then [w] else [])
  | [], k, i, w, h => by simp at h
  | x :: r, [], i, w, h => by
    have : ∀ p, keptW p [] = [] := fun p => by cases p <;> rfl
    simp [this]
  | x :: r, b :: bs, 0, w, h => by
    simp at h; subst h
    simp only [List.take_succ_cons, List.take_zero, keptW]
    cases b <;> simp [keptW]
  | x :: r, b :: bs, i + 1, w, h => by
    have ih := keptW_snoc r bs i w (by simpa using h)
    simp only [List.take_succ_cons, keptW, ih]
    cases b <;> simp

/-- A list of writes as it is handed out. -/
structure WLs (h : Hp) (s : Sl) (l : List (Wrt × Sl)) (G : Nat → Prop) : Prop where
  vec : Vec h s 2 156 (l.flatMap fun x => [.int .i64 x.1.1, x.2.v])
  dat : ∀ x ∈ l, Vec h x.2 1 5 (x.1.2.map bv)
  fs : ∀ b, s.blk b → G b
  fd : ∀ x ∈ l, ∀ b, x.2.blk b → G b
  sep : ∀ x ∈ l, ∀ b, x.2.blk b → ¬ s.blk b
  par : l.Pairwise fun x y => ∀ b, x.2.blk b → ¬ y.2.blk b

theorem WLs.nil (h : Hp) (G : Nat → Prop) : WLs h Sl.nil [] G := ⟨Vec.nil _ _ _, by simp, by simp [Sl.blk], by simp, by simp, List.Pairwise.nil⟩
theorem WLs.kp {h h' : Hp} {s : Sl} {l : List (Wrt × Sl)} {F G : Nat → Prop} (w : WLs h s l G) (hk : Kp F h h') (hd : ∀ x, x < h.size → G x → ¬ F x) : WLs h' s l (fun x => G x ∧ x < h.size) :=
  ⟨w.vec.kp hk fun b hb => hd b (w.vec.lt hb) (w.fs b hb), fun x hx => (w.dat x hx).kp hk fun b hb => hd b ((w.dat x hx).lt hb) (w.fd x hx b hb),
    fun b hb => ⟨w.fs b hb, w.vec.lt hb⟩, fun x hx b hb => ⟨w.fd x hx b hb, (w.dat x hx).lt hb⟩, w.sep, w.par⟩
theorem WLs.mono {h : Hp} {s : Sl} {l : List (Wrt × Sl)} {F G : Nat → Prop} (w : WLs h s l G) (hd : ∀ x, x < h.size → G x → F x) : WLs h s l F :=
  ⟨w.vec, w.dat, fun b hb => hd b (w.vec.lt hb) (w.fs b hb), fun x hx b hb => hd b ((w.dat x hx).lt hb) (w.fd x hx b hb), w.sep, w.par⟩
theorem WLs.len {h : Hp} {s : Sl} {l : List (Wrt × Sl)} {G : Nat → Prop} (w : WLs h s l G) : s.len = l.length := by
  have := w.vec.len
  rw [flat_len _ 2 l fun x _ => rfl] at this
  omega
theorem WLs.app {h : Hp} {s x y : Sl} {l : List (Wrt × Sl)} {G : Nat → Prop} {at_ : Int} {data : List UInt8} {z : List Value} {K : Sl → Hp → Prop} (w : WLs h s l G) (hx : Vec h x 1 5 (data.map bv)) (hsep : ∀ b, x.blk b → ¬ G b)
    (hr : RdS h y 2 [.int .i64 at_, x.v]) (hy : y.len = 1) (hb : (s.len + 1) * 32 ≤ 140737488355328)
    (hK : ∀ s' h', WLs h' s' (l ++ [((at_, data), x)]) (fun b => G b ∨ x.blk b ∨ b = h.size) → Kp s.blk h h' → (∀ b, s'.blk b → s.blk b ∨ h.size = b) → K s' h') : App h s y 2 32 156 z K := by
  refine w.vec.app hr ?_ (by rw [hy]; exact hb) ?_
  · intro v hv
    simp only [List.mem_cons, List.not_mem_nil, or_false] at hv
    rcases hv with rfl | rfl <;> rfl
  intro s' h' hv hl hk hb'
  have hkG : Kp G h h' := hk.mono fun b _ h => w.fs b h
  have hss : ∀ (q : Sl), (∀ b, q.blk b → b < h.size) → (∀ b, q.blk b → ¬ s.blk b) → ∀ b, q.blk b → ¬ s'.blk b := by
    intro q hq hqs b hb1 hb2
    rcases hb' b hb2 with h1 | h1
    · exact hqs b hb1 h1
    · have := hq b hb1; omega
  refine hK s' h' ⟨?_, ?_, ?_, ?_, ?_, ?_⟩ hk hb'
  · simpa using hv
  · intro q hq
    rcases List.mem_append.1 hq with hq | hq
    · exact (w.dat q hq).kp hk fun b hb => w.sep q hq b hb
    · simp at hq; subst hq
      exact hx.kp hkG hsep
  · intro b hb
    rcases hb' b hb with h1 | h1
    · exact .inl (w.fs b h1)
    · exact .inr (.inr h1.symm)
  · intro q hq b hb
    rcases List.mem_append.1 hq with hq | hq
    · exact .inl (w.fd q hq b hb)
    · simp at hq; subst hq
      exact .inr (.inl hb)
  · intro q hq
    rcases List.mem_append.1 hq with hq | hq
    · exact hss q.2 (fun b hb => (w.dat q hq).lt hb) (w.sep q hq)
    · simp at hq; subst hq
      exact hss x (fun b hb => hx.lt hb) fun b hb h1 => hsep b hb (w.fs b h1)
  · rw [List.pairwise_append]
    refine ⟨w.par, List.pairwise_singleton _ _, ?_⟩
    intro q hq q' hq' b hb
    simp at hq'; subst hq'
    exact fun h1 => hsep b h1 (w.fd q hq b hb)
end Tw

namespace Go.Proofs.Ythpeadoidpimmaa
open Go Tw
set_option linter.unusedVariables false
set_option linter.unusedSimpArgs false
set_option maxRecDepth 10000

section
variable {h : Hp} {b bl r : Nat} {sp : Sl} {m : Md} {F : Nat → Prop}

theorem disk_Crash_none_c {s : Sl} {K : Int → Int → Hp → Prop} (hK : K 0 1 h) : disk_Disk_Crash none s K h := isN0 hK

theorem disk_Crash_i {s : Sl} {keep : List Bool} {K : Int → Int → Hp → Prop} (p : PDi h b bl r sp m F) (hs : Bls h s keep) (hsF : ∀ a, s.p = some a → keep ≠ [] → ¬ F a.block) (hpl : m.pend.length < 9223372036854775807)
    (hK : ∀ h' sp', Kp F h h' → PDi h' b bl r sp' (m.crash keep).2 (fun x => F x ∨ h.size ≤ x) → K (m.crash keep).1 0 h') : disk_Disk_Crash (some (nA b)) s K h := by
  refine isN ⟨_, rfl, sp, p.st.rdi 1 rfl, ?_⟩
  rw [PDi.pend_len p]
  refine ⟨fun k kept n h1 => ∃ i : Nat, n = i ∧ i ≤ m.pend.length ∧ k = m.pend.length - i ∧ kept = ((keptW (m.pend.take i) keep).length : Int) ∧
    PDi h1 b bl r sp { m with laid := layAll m.laid (keptW (m.pend.take i) keep) } F ∧ Kp F h h1, ⟨_, 0, rfl, by omega, rfl, ?_, ?_, Kp.refl _ _⟩, ?_⟩
  · simp [keptW]
  · simpa [keptW, layAll] using p
  rintro k kept n h1 ⟨i, rfl, hi, rfl, rfl, p1, hk1⟩
  have hkl : (keptW (m.pend.take i) keep).length ≤ m.pend.length := by
    have : ∀ (p : List Wrt) (k : List Bool), (keptW p k).length ≤ p.length := by
      intro p
      induction p with
      | nil => intro k; simp [keptW]
      | cons w r ih =>
        intro k
        cases k with
        | nil => simp [keptW]
        | cons b bs => unfold keptW; have := ih bs; split <;> simp <;> omega
    have := this (m.pend.take i) keep
    simp at this
    omega
  refine dcd (fun hlt => ?_) (fun hge => ?_)
  · have hlt' : i < m.pend.length := by omega
    have hw : m.pend[i]? = some m.pend[i] := by simp [hlt']
    generalize m.pend[i] = w at hw
    obtain ⟨a, ha, hr⟩ := pen_rd p1 (show ({ m with laid := layAll m.laid (keptW (m.pend.take i) keep) } : Md).pend[i]? = some w from hw)
    have hwf := p1.wf.pen w (List.mem_of_getElem? hw)
    have hks := keptW_snoc m.pend keep i w hw
    have hs1 := hs.kpo hk1 hsF
    have hnb := Bk.new h1 (.int .i64 0 :: (List.replicate 128 (0 : UInt8)).map bv) 145
    have hst := hnb.st0 (vs := encW w) (by simp [encW, hwf.1])
    have hnb2 := hnb.set (l' := encW w)
    have hk2 : Kp (fun _ => False) h1 (setB (h1.push (Cel (.int .i64 0 :: (List.replicate 128 (0 : UInt8)).map bv) 145)) h1.size (Cel (encW w) 145)) := (Kp.push (Kp.refl _ _) _).set _ (.inl (Nat.le_refl _))
    have hst' : StL (h1.push (Cel (.int .i64 0 :: (List.replicate 128 (0 : UInt8)).map bv) 145)) (nA h1.size) (.int .i64 w.1 :: w.2.map bv) (setB (h1.push (Cel (.int .i64 0 :: (List.replicate 128 (0 : UInt8)).map bv) 145)) h1.size (Cel (encW w) 145)) := hst
    refine ⟨a, ha, by omega, by omega, w.1, w.2, hwf.1, ?_, _, _, rfl, rfl, _, hwf.1, hst', ?_⟩
    · rw [Int.toNat_natCast]; exact hr
    generalize setB (h1.push (Cel (.int .i64 0 :: (List.replicate 128 (0 : UInt8)).map bv) 145)) h1.size (Cel (encW w) 145) = h2 at *
    have p2 := PDi.kpb p1 hk2
    have hs2 := hs1.kp hk2 fun _ _ h => h
    have hkF2 : Kp F h h2 := hk1.trans (hk2.mono fun _ _ h => h.elim)
    refine ⟨fun bb h' => h' = h2 ∧ bb = keep.getD i false, ?_, dcd (fun hlt2 => ?_) (fun hge2 => ⟨rfl, ?_⟩)⟩
    · rintro bb h' ⟨rfl, rfl⟩
      refine ⟨fun hbt => ?_, fun hbf => ?_⟩
      · rw [hbt] at hks
        simp only [if_true] at hks
        obtain ⟨kk, hkk⟩ := Int.eq_ofNat_of_zero_le hwf.2.1
        have hklt : kk < (layAll m.laid (keptW (m.pend.take i) keep)).length := by
          have := hwf.2.2
          simp only at this
          omega
        obtain ⟨h4, hst4, hk4, p4⟩ := sec_st p2 hklt hwf.1
        refine ⟨⟨some (nA bl), (layAll m.laid (keptW (m.pend.take i) keep)).length, (layAll m.laid (keptW (m.pend.take i) keep)).length⟩, p2.st.rdi 0 rfl, w.1, hnb2.rdi 0 rfl, w.2, hwf.1, ?_, nA bl, rfl, hwf.2.1, hwf.2.2, h4, hwf.1, ?_, _,
          Wr.i64 (by omega) (by omega), _, Wr.i64 (by omega) (by omega), m.pend.length - (i + 1), by omega, i + 1, by omega, by omega, rfl, ?_, ?_, ?_⟩
        · exact RdL.tail rfl hnb2.rd0
        · rw [hkk, Int.toNat_natCast]; exact hst4
        · rw [hks]; simp
        · rw [hks, layAll_snoc]
          have e : w.1.toNat = kk := by omega
          rw [e]; exact p4
        · exact hkF2.trans (hk4.mono fun x _ e => by subst e; exact p.fl)
      · rw [hbf] at hks
        simp only [Bool.false_eq_true, if_false, List.append_nil] at hks
        refine ⟨_, Wr.i64 (by omega) (by omega), m.pend.length - (i + 1), by omega, i + 1, by omega, by omega, rfl, by rw [hks], by rw [hks]; exact p2, hkF2⟩
    · rw [hs.len] at hlt2
      have hlt3 : i < keep.length := by omega
      obtain ⟨a2, ha2, hr2⟩ := hs2.at hlt3
      refine ⟨a2, ha2, by omega, by rw [hs.len]; omega, keep[i], ?_, rfl, ?_⟩
      · rw [Nat.mul_one, Int.toNat_natCast]; exact hr2
      · simp [hlt3]
    · rw [hs.len] at hge2
      have : keep.length ≤ i := by omega
      simp [List.getD, List.getElem?_eq_none this]
  · have hie : i = m.pend.length := by omega
    subst hie
    rw [List.take_length] at p1 ⊢
    refine disk_settle_c p1 fun h3 hk3 p3 => ?_
    have hst4 : Bk (setB h3 b (Cel ((stC bl r Sl.nil { m with laid := layAll m.laid (keptW m.pend keep), pend := [] }).set 4 (.bool false)) 141)) b
      ((stC bl r Sl.nil { m with laid := layAll m.laid (keptW m.pend keep), pend := [] }).set 4 (.bool false)) 141 := p3.st.set
    refine ⟨_, p3.st.sti 4 (.bool false) (by simp [stC]), _, hst4.sti 3 (.int .i64 (-1)) (by simp [stC]), ?_⟩
    have hh := p3.head (m' := { m with laid := layAll m.laid (keptW m.pend keep), pend := [], down := false, fuse := -1 }) rfl rfl
    have he : (setB (setB h3 b (Cel ((stC bl r Sl.nil { m with laid := layAll m.laid (keptW m.pend keep), pend := [] }).set 4 (.bool false)) 141)) b
        (Cel (((stC bl r Sl.nil { m with laid := layAll m.laid (keptW m.pend keep), pend := [] }).set 4 (.bool false)).set 3 (.int .i64 (-1))) 141)) =
        setB h3 b (Cel (stC bl r Sl.nil { m with laid := layAll m.laid (keptW m.pend keep), pend := [], down := false, fuse := -1 }) 141) := by
      unfold setB
      rw [Array.setIfInBounds_setIfInBounds]
      rfl
    have hfin := hK (setB h3 b (Cel (stC bl r Sl.nil { m with laid := layAll m.laid (keptW m.pend keep), pend := [], down := false, fuse := -1 }) 141)) Sl.nil ?_ (hh.1.mono fun x _ hf => .inl hf)
    · rw [← he] at hfin
      exact hfin
    · refine (hk1.trans (hk3.mono ?_)).trans (hh.2.mono ?_)
      · rintro x _ (e | e)
        · subst e; exact p.fb
        · subst e; exact p.fr
      · intro x _ e; subst e; exact p.fb

theorem disk_Pending_none_c {K : Sl → Hp → Prop} (hK : K Sl.nil h) : disk_Disk_Pending none K h := isN0 hK

theorem disk_Pending_i {K : Sl → Hp → Prop} (p : PDi h b bl r sp m F) (hpl : m.pend.length < 1099511627776)
    (hK : ∀ s l h', Kp (fun _ => False) h h' → WLs h' s l (fun x => h.size ≤ x) → l.map (·.1) = m.pend → K s h') : disk_Disk_Pending (some (nA b)) K h := by
  refine isN ⟨_, rfl, sp, p.st.rdi 1 rfl, ?_⟩
  rw [PDi.pend_len p]
  refine ⟨fun k s n h1 => ∃ (i : Nat) (l : List (Wrt × Sl)), n = i ∧ i ≤ m.pend.length ∧ k = m.pend.length - i ∧ l.map (·.1) = m.pend.take i ∧ WLs h1 s l (fun x => h.size ≤ x) ∧ Kp (fun _ => False) h h1,
    ⟨_, 0, [], rfl, by omega, rfl, by simp, WLs.nil _ _, Kp.refl _ _⟩, ?_⟩
  rintro k s n h1 ⟨i, l, rfl, hi, rfl, hl, wl, hk1⟩
  have p1 := PDi.kpb p hk1
  refine dcd (fun hlt => ?_) (fun hge => ?_)
  · have hlt' : i < m.pend.length := by omega
    have hw : m.pend[i]? = some m.pend[i] := by simp [hlt']
    generalize m.pend[i] = w at hw
    obtain ⟨a, ha, hr⟩ := pen_rd p1 hw
    have hwf := p1.wf.pen w (List.mem_of_getElem? hw)
    have hnb := Bk.new h1 (.int .i64 0 :: (List.replicate 128 (0 : UInt8)).map bv) 145
    have hst := hnb.st0 (vs := encW w) (by simp [encW, hwf.1])
    have hnb2 := hnb.set (l' := encW w)
    have hk2 : Kp (fun _ => False) h1 (setB (h1.push (Cel (.int .i64 0 :: (List.replicate 128 (0 : UInt8)).map bv) 145)) h1.size (Cel (encW w) 145)) := (Kp.push (Kp.refl _ _) _).set _ (.inl (Nat.le_refl _))
    have hst' : StL (h1.push (Cel (.int .i64 0 :: (List.replicate 128 (0 : UInt8)).map bv) 145)) (nA h1.size) (.int .i64 w.1 :: w.2.map bv) (setB (h1.push (Cel (.int .i64 0 :: (List.replicate 128 (0 : UInt8)).map bv) 145)) h1.size (Cel (encW w) 145)) := hst
    refine ⟨a, ha, by omega, by omega, w.1, w.2, hwf.1, ?_, _, _, rfl, rfl, _, hwf.1, hst', w.1, hnb2.rdi 0 rfl, _, rfl, ?_⟩
    · rw [Int.toNat_natCast]; exact hr
    generalize setB (h1.push (Cel (.int .i64 0 :: (List.replicate 128 (0 : UInt8)).map bv) 145)) h1.size (Cel (encW w) 145) = h2 at *
    have hq2 := hnb2.lt
    have hlen0 : (slA ((nA h1.size).add 1) 128 1 (Int.toNat 0) (Int.toNat ((128 : Nat) : Int))) = ⟨some ((nA h1.size).add 1), 128, 128⟩ := by simp [slA, add_zero']
    rw [hlen0]
    refine (Vec.nil _ 1 5).app (news := w.2.map bv) ⟨by simp [hwf.1], RdL.tail rfl hnb2.rd0⟩ (oneC_bytes _) (by show (0 + 128) * 1 ≤ _; omega) ?_
    intro x h3 hvx _ hkx hbx
    have hk3 : Kp (fun _ => False) h2 h3 := ⟨hkx.size, fun b hb' _ => hkx.old b hb' (by simp [Sl.blk])⟩
    have hxb : ∀ y, x.blk y → y = h2.size := by
      intro y hy
      rcases hbx y hy with h | h
      · simp [Sl.blk] at h
      · exact h.symm
    have hnb3 := hnb2.kp hk3 fun h => h
    refine ⟨hnb3.rdi 0 rfl, _, _, _, rfl, rfl, rfl, ?_⟩
    have hk4 : Kp (fun _ => False) h3 (h3.push (Cel [.int .i64 w.1, x.v] 156)) := Kp.push (Kp.refl _ _) _
    have hnb4 := Bk.new h3 [.int .i64 w.1, x.v] 156
    have hkk : Kp (fun _ => False) h1 (h3.push (Cel [.int .i64 w.1, x.v] 156)) := (hk2.trans hk3).trans hk4
    have wl4 : WLs (h3.push (Cel [.int .i64 w.1, x.v] 156)) s l (fun x => h.size ≤ x ∧ x < h1.size) := wl.kp hkk fun _ _ _ h => h
    have hx4 : Vec (h3.push (Cel [.int .i64 w.1, x.v] 156)) x 1 5 (w.2.map bv) := Vec.kp (by simpa using hvx) hk4 fun _ _ h => h
    have hll : l.length = i := by have := congrArg List.length hl; simp at this; omega
    refine wl4.app hx4 (fun y hy hG => ?_) ⟨rfl, hnb4.rd0⟩ rfl (by rw [wl.len, hll]; omega) ?_
    · have := hxb y hy; omega
    intro s' h5 wl5 hk5 _
    refine ⟨_, Wr.i64 (by omega) (by omega), m.pend.length - (i + 1), by omega, i + 1, _, by omega, by omega, rfl, ?_, wl5.mono ?_, ?_⟩
    · rw [List.take_add_one, hw, List.map_append, hl]; rfl
    · rintro y _ (h | h | h)
      · exact h.1
      · have := hxb y h; have := hk1.size; omega
      · have := hkk.size; have := hk1.size; omega
    · exact (hk1.trans hkk).and hk5 fun y hy => .inl (wl4.fs y hy).1
  · have hie : i = m.pend.length := by omega
    subst hie
    rw [List.take_length] at hl
    exact hK s l h1 hk1 wl hl

theorem disk_Image_none_c {K : Sl → Hp → Prop} (hK : K Sl.nil h) : disk_Disk_Image none K h := isN0 hK

theorem flat_enc (l : List (List UInt8)) : l.flatMap encS = (l.flatMap fun s => s).map bv := by
  induction l with
  | nil => rfl
  | cons x r ih => simp [ih, encS]

theorem disk_Image_i {K : Sl → Hp → Prop} (p : PDi h b bl r sp m F)
    (hK : ∀ s h', Kp (fun _ => False) h h' → Vec h' s 1 5 ((m.laid.flatMap fun s => s).map bv) → (∀ x, s.blk x → h.size ≤ x) → K s h') : disk_Disk_Image (some (nA b)) K h := by
  have hhi := p.wf.hi
  refine isN ⟨_, rfl, ⟨some (nA bl), m.laid.length, m.laid.length⟩, p.st.rdi 0 rfl, (m.laid.length : Int) * 128, Wr.i64 (e := (m.laid.length : Int) * 128) (by omega) (by omega), by omega, by omega, by omega, _, _, _, rfl, rfl, rfl, ?_⟩
  have hk0 : Kp (fun _ => False) h (h.push (Cel (zr [.int .u8 0] (Int.toNat ((m.laid.length : Int) * 128) * 1)) 5)) := Kp.push (Kp.refl _ _) _
  have p0 := PDi.kpb p hk0
  refine ⟨⟨some (nA bl), m.laid.length, m.laid.length⟩, p0.st.rdi 0 rfl, ?_⟩
  refine ⟨fun k s n h1 => ∃ i : Nat, n = i ∧ i ≤ m.laid.length ∧ k = m.laid.length - i ∧ Vec h1 s 1 5 (((m.laid.take i).flatMap fun s => s).map bv) ∧ (∀ x, s.blk x → h.size ≤ x) ∧ Kp (fun _ => False) h h1,
    ⟨_, 0, rfl, by omega, rfl, ?_, ?_, hk0⟩, ?_⟩
  · exact Vec.mk0 _ _ _ _ _ _ _ (by rw [zr_len]) (by show 0 ≤ _; omega) (by simp)
  · rintro x ⟨a, ha, rfl⟩; cases ha; exact Nat.le_refl _
  rintro k s n h1 ⟨i, rfl, hi, rfl, hv, hbs, hk1⟩
  have p1 := PDi.kpb p hk1
  refine dcd (fun hlt => ?_) (fun hge => ?_)
  · have hlt' : i < m.laid.length := by have : (i : Int) < (m.laid.length : Int) := hlt
                                        omega
    refine ⟨⟨some (nA bl), m.laid.length, m.laid.length⟩, p1.st.rdi 0 rfl, nA bl, rfl, by omega, hlt, _, rfl, ?_⟩
    have hsl : m.laid[i].length = 128 := p.wf.sec _ (List.getElem_mem hlt')
    have hlen0 : (slA ((nA bl).add (Int.toNat (i : Int) * 128)) 128 1 (Int.toNat 0) (Int.toNat ((128 : Nat) : Int))) = ⟨some ((nA bl).add (i * 128)), 128, 128⟩ := by simp [slA, add_zero']
    rw [hlen0]
    have hvl := hv.len
    have hfl : (((m.laid.take i).flatMap fun s => s).map bv).length = i * 128 := by
      rw [← flat_enc, flat_len encS 128 _ (fun s hs => by simp [encS, p.wf.sec s (List.mem_of_mem_take hs)])]
      simp; omega
    refine hv.app (news := m.laid[i].map bv) ⟨by simp [hsl], sec_rd p1 hlt'⟩ (oneC_bytes _) (by show (s.len + 128) * 1 ≤ _; omega) ?_
    intro s' h2 hv2 hl2 hk2 hb2
    refine ⟨_, Wr.i64 (by omega) (by omega), m.laid.length - (i + 1), by omega, i + 1, by omega, by omega, rfl, ?_, ?_, ?_⟩
    · rw [List.take_add_one, List.getElem?_eq_getElem hlt', List.flatMap_append, List.map_append]
      simpa using hv2
    · intro x hx
      rcases hb2 x hx with h | h
      · exact hbs x h
      · have := hk1.size; omega
    · exact hk1.and hk2 fun x hx => .inl (hbs x hx)
  · have hie : i = m.laid.length := by have : ¬ (i : Int) < (m.laid.length : Int) := hge
                                       omega
    subst hie
    rw [List.take_length] at hv
    exact hK s h1 hk1 hv hbs

theorem rdc_spot {a : Addr} {v : Value} (hr : rdc h a = some v) : a.spot = none := by
  unfold rdc at hr
  split at hr
  · cases hsp : a.spot with
    | none => rfl
    | some s => rw [hsp] at hr; simp at hr
  · cases hr
theorem Byt.spot {s : Sl} {bs : List UInt8} (hs : Byt h s bs) (hl : 0 < bs.length) : ∃ a, s.p = some a ∧ a.spot = none ∧ RdL h a (bs.map bv) := by
  obtain ⟨a, ha, hr⟩ := hs.at hl
  have h1 := hs.rd
  rw [ha] at h1
  rw [add_zero'] at hr
  exact ⟨a, ha, rdc_spot hr, h1⟩
/-- A stretch of a list of bytes. -/
theorem Byt.part {s : Sl} {bs : List UInt8} (hs : Byt h s bs) {lo : Nat} (hl : lo < bs.length) {n : Nat} : ∃ a, s.p = some a ∧ RdL h (a.add lo) (((bs.drop lo).take n).map bv) := by
  obtain ⟨a, ha, hsp, hr⟩ := Byt.spot hs (by omega)
  refine ⟨a, ha, fun j v hj => ?_⟩
  rw [add2 hsp]
  refine hr _ v ?_
  rw [List.getElem?_map, List.getElem?_take] at hj
  split at hj
  · rw [List.getElem?_drop] at hj
    rw [List.getElem?_map]; exact hj
  · simp at hj

theorem Md.load_new (bs : List UInt8) : Md.load bs = { Md.new (bs.length / 128) with laid := chunks (bs.length / 128) bs } := by
  simp [Md.load, Md.new]

theorem tdiv128 {n : Nat} (hn : n < 9223372036854775808) : IntKind.i64.wrap (Int.tdiv (n : Int) 128) = ((n / 128 : Nat) : Int) := by
  rw [Int.tdiv_eq_ediv_of_nonneg (by omega)]
  rw [wrap_i64 (by omega) (by omega)]
  omega
theorem tmod128 (n : Nat) : Int.tmod (n : Int) 128 = ((n % 128 : Nat) : Int) := by
  rw [Int.tmod_eq_emod_of_nonneg (by omega)]; omega

/-- An image: is there a disk with it? -/
def badImage (bs : List UInt8) : Bool := bs.length % 128 != 0 || bs.length / 128 < 1 || 4096 < bs.length / 128

theorem disk_Load_c {s : Sl} {bs : List UInt8} {K : Option Addr → Int → Hp → Prop} (hs : Byt h s bs) (hlen : bs.length < 9223372036854775808)
    (hbad : badImage bs = true → K none 22 h)
    (hK : badImage bs = false → ∀ h' b bl r, Kp (fun _ => False) h h' → PDi h' b bl r Sl.nil (Md.load bs) (fun x => h.size ≤ x) → K (some (nA b)) 0 h') : disk_Load s K h := by
  have hsl := hs.len
  refine ⟨((bs.length / 128 : Nat) : Int), ?_, fun c h' => h' = h ∧ c = badImage bs, ?_, ((bs.length % 128 : Nat) : Int), ?_, dcn (fun hn => ⟨rfl, ?_⟩) (fun hn => dcd (fun hn2 => ⟨rfl, ?_⟩) (fun hn2 => ⟨rfl, ?_⟩))⟩
  · rw [hsl, tdiv128 hlen]
  · rintro c h' ⟨rfl, rfl⟩
    refine ⟨hbad, fun hb => ?_⟩
    have hK := hK hb
    have hb' : bs.length % 128 = 0 ∧ 1 ≤ bs.length / 128 ∧ bs.length / 128 ≤ 4096 := by
      simp [badImage] at hb
      omega
    obtain ⟨g1, g2, g3⟩ := hb'
    refine disk_blank_c g2 g3 fun h1 b bl r hk1 p1 => ?_
    have hnl : (Md.new (bs.length / 128)).laid.length = bs.length / 128 := by simp [Md.new]
    refine ⟨nA b, rfl, ⟨some (nA bl), (Md.new (bs.length / 128)).laid.length, (Md.new (bs.length / 128)).laid.length⟩, p1.st.rdi 0 rfl, ?_⟩
    simp only [hnl]
    generalize hng : bs.length / 128 = n at *
    refine ⟨fun k i h2 => ∃ (j : Nat) (L : List (List UInt8)), i = j ∧ j ≤ n ∧ k = n - j ∧ L.length = n ∧ (∀ q, q < j → L[q]? = (chunks n bs)[q]?) ∧ PDi h2 b bl r Sl.nil { Md.new n with laid := L } (fun x => h'.size ≤ x) ∧ Kp (fun x => h'.size ≤ x) h' h2,
      ⟨_, 0, (Md.new n).laid, rfl, by omega, rfl, hnl, fun q hq => by omega, p1, hk1.mono fun _ _ h => h.elim⟩, ?_⟩
    rintro k i h2 ⟨j, L, rfl, hj, rfl, hL, hq, p2, hk2⟩
    refine dcd (fun hlt => ?_) (fun hge => ?_)
    · have hlt' : j < n := by omega
      have hlo : j * 128 < bs.length := by omega
      have hs2 : Byt h2 s bs := hs.kp hk2 fun a ha hge => by
        have := hs.rd
        rw [ha] at this
        have hb0 : 0 < bs.length := by omega
        have h0 := this 0 (bv bs[0]) (by simp [hb0])
        rw [add_zero'] at h0
        unfold rdc at h0
        split at h0
        · rename_i heq
          have := (Array.getElem?_eq_some_iff.1 heq).1
          omega
        · cases h0
      obtain ⟨a, ha, hr⟩ := Byt.part hs2 hlo (n := 128)
      have hjl : j < ({ Md.new n with laid := L } : Md).laid.length := by show j < L.length; omega
      have hdl : ((bs.drop (j * 128)).take 128).length = 128 := by simp; omega
      obtain ⟨h3, hst3, hk3, p3⟩ := sec_st p2 hjl hdl
      have hcap := hs.cap
      refine ⟨⟨some (nA bl), L.length, L.length⟩, p2.st.rdi 0 rfl, nA bl, rfl, by omega, by show (j : Int) < (L.length : Int); omega, _, rfl, (j : Int) * 128, Wr.i64 (e := (j : Int) * 128) (by omega) (by omega), by omega, by omega, by omega, _, rfl, ((bs.drop (j * 128)).take 128).map bv, h3, _, ?_, oneC_bytes _, ?_, rfl, _, Wr.i64 (by omega) (by omega), n - (j + 1), by omega, j + 1, L.set j ((bs.drop (j * 128)).take 128), by omega, by omega, rfl, by simpa using hL, ?_, p3, ?_⟩
      · have e1 : Int.toNat ((j : Int) * 128) = j * 128 := by omega
        have e2 : (slS s 1 (Int.toNat ((j : Int) * 128)) (Int.toNat (s.len : Int))).len = bs.length - j * 128 := by simp only [slS, e1, Int.toNat_natCast, hsl]
        have e3 : (slA ((nA bl).add (Int.toNat (j : Int) * 128)) 128 1 (Int.toNat 0) (Int.toNat ((128 : Nat) : Int))).len = 128 := by simp [slA]
        have e4 : (slS s 1 (Int.toNat ((j : Int) * 128)) (Int.toNat (s.len : Int))).p = some (a.add (j * 128)) := by
          simp only [slS, e1, Nat.mul_one, ha, Option.map_some]
          rw [if_neg (by omega)]
        rw [e2, e3, e4]
        refine ⟨?_, hr⟩
        show _ = Nat.min (bs.length - j * 128) 128 * 1
        have : Nat.min (bs.length - j * 128) 128 = 128 := Nat.min_eq_right (by omega)
        rw [this, List.length_map, hdl]
      · have e5 : (slA ((nA bl).add (Int.toNat (j : Int) * 128)) 128 1 (Int.toNat 0) (Int.toNat ((128 : Nat) : Int))).p = some ((nA bl).add (j * 128)) := by simp [slA, add_zero']
        rw [e5]
        show StL h2 (((nA bl).add (j * 128)).add 0) _ _
        rw [add_zero']; exact hst3
      · intro q hq'
        rw [List.getElem?_set]
        by_cases hqj : j = q
        · subst hqj
          rw [if_pos rfl, if_pos (by omega), chunks_get _ _ _ hlt']
        · rw [if_neg hqj]; exact hq q (by omega)
      · exact hk2.trans (hk3.mono fun x _ e => by subst e; exact p2.fl)
    · have hjn : j = n := by omega
      subst hjn
      have hLe : L = chunks j bs := by
        apply List.ext_getElem?
        intro q
        by_cases hqj : q < j
        · exact hq q hqj
        · rw [List.getElem?_eq_none (by omega), List.getElem?_eq_none (by rw [chunks_len]; omega)]
      have hm : ({ Md.new j with laid := L } : Md) = Md.load bs := by rw [Md.load_new, hng, hLe]
      rw [hm] at p2
      exact hK h2 b bl r ⟨hk2.size, fun x hx _ => hk2.old x hx (by omega)⟩ p2
  · rw [hsl, tmod128]
  · simp [badImage]; omega
  · simp [badImage]; omega
  · simp only [badImage]
    have h1 : (bs.length % 128 != 0) = false := by simp; omega
    have h2 : decide (bs.length / 128 < 1) = false := by simp; omega
    rw [h1, h2]
    simp; omega
end
end Go.Proofs.Ythpeadoidpimmaa
