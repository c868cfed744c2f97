/- What the calls of the program's disk do. No condition. -/
import Derived.Test.YthpeadoidpimmaaDiskP
import Derived.Test.YthpeadoidpimmaaSumC
namespace Go.Proofs.Ythpeadoidpimmaa
open Go Tw
set_option linter.unusedVariables false
set_option linter.unusedSimpArgs false
set_option maxRecDepth 10000

theorem isN {a : Addr} {A B : Prop} (hB : B) : ((some a).isNone = true → A) ∧ ((some a).isNone = false → B) := ⟨fun h => (nomatch h), fun _ => hB⟩
theorem isN0 {A B : Prop} (hA : A) : ((none : Option Addr).isNone = true → A) ∧ ((none : Option Addr).isNone = false → B) := ⟨fun _ => hA, fun h => (nomatch h)⟩

section
variable {h : Hp} {b bl r : Nat} {sp : Sl} {m : Md} {F : Nat → Prop}

theorem disk_burn_c {K : Bool → Hp → Prop} (p : PDi h b bl r sp m F) (hK : ∀ h', Kp (fun x => x = b) h h' → PDi h' b bl r sp m.burn.2 F → K m.burn.1 h') : disk_Disk_burn (some (nA b)) K h := by
  refine ⟨_, rfl, m.down, p.st.rdi 4 rfl, fun hd => ?_, fun hd => ⟨m.fuse, p.st.rdi 3 rfl, dcb (fun hz => ?_) fun hz => ⟨m.fuse, p.st.rdi 3 rfl, dcd (fun hg => ?_) fun hg => ?_⟩⟩⟩
  · have e : m.burn = (false, m) := by unfold Md.burn; rw [if_pos hd]
    rw [e] at hK
    exact hK h (Kp.refl _ _) p
  · have e : m.burn = (false, { m with down := true }) := by unfold Md.burn; rw [if_neg (by simp [hd]), if_pos hz]
    rw [e] at hK
    have := p.head (m' := { m with down := true }) rfl rfl
    exact ⟨_, p.st.sti 4 (.bool true) (by simp [stC]), hK _ this.2 this.1⟩
  · have e : m.burn = (true, { m with fuse := IntKind.i64.wrap (m.fuse - 1) }) := by unfold Md.burn; rw [if_neg (by simp [hd]), if_neg hz, if_pos hg]
    rw [e] at hK
    have := p.head (m' := { m with fuse := IntKind.i64.wrap (m.fuse - 1) }) rfl rfl
    exact ⟨m.fuse, p.st.rdi 3 rfl, _, rfl, _, p.st.sti 3 (.int .i64 (IntKind.i64.wrap (m.fuse - 1))) (by simp [stC]), hK _ this.2 this.1⟩
  · have e : m.burn = (true, m) := by unfold Md.burn; rw [if_neg (by simp [hd]), if_neg hz, if_neg hg]
    rw [e] at hK
    exact hK h (Kp.refl _ _) p

theorem disk_settle_c {K : Hp → Prop} (p : PDi h b bl r sp m F) (hK : ∀ h', Kp (fun x => x = b ∨ x = r) h h' → PDi h' b bl r Sl.nil { m with pend := [] } F → K h') : disk_Disk_settle (some (nA b)) K h := by
  obtain ⟨mm, c, hm, ho⟩ := p.map
  have hb1 : Bk (setB h b (Cel (stC bl r Sl.nil m) 141)) b (stC bl r Sl.nil m) 141 := p.st.set
  have hk1 : Kp (fun x => x = b ∨ x = r) h (setB h b (Cel (stC bl r Sl.nil m) 141)) := Kp.set (Kp.refl _ _) _ (.inr (.inl rfl))
  have hm1 : Mp (setB h b (Cel (stC bl r Sl.nil m) 141)) r mm c := (get_set_ne p.n2).trans hm
  have hk2 : Kp (fun x => x = b ∨ x = r) h (setB (setB h b (Cel (stC bl r Sl.nil m) 141)) r (.map #[] c)) := hk1.set _ (.inr (.inr rfl))
  refine ⟨_, rfl, _, p.st.sti 1 Sl.nil.v (by simp [stC]), some r, hb1.rdi 2 rfl, r, mm, c, rfl, hm1, _, rfl, hK _ hk2 ?_⟩
  refine ⟨hb1.set_ne (fun e => p.n2 e.symm), (p.laid.kp hk2 (by rintro (e | e); exact p.n1 e.symm; exact p.n3 e)), Vec.nil _ _ _, ⟨[], c, get_set_same hm1.lt, MapOK.nil c⟩,
    ⟨p.wf.lo, p.wf.hi, p.wf.sec, fun w hw => by cases hw⟩, p.n1, p.n2, p.n3, ?_, ?_, ?_, p.fb, p.fl, p.fr, ?_⟩
  all_goals simp [Sl.blk]

theorem disk_Cut_none_c {a : Int} {K : Int → Hp → Prop} (hK : K 1 h) : disk_Disk_Cut none a K h :=
  ⟨fun b h' => b = true ∧ h' = h, by rintro b h' ⟨rfl, rfl⟩; exact ⟨fun _ => hK, fun h => (nomatch h)⟩, isN0 ⟨rfl, rfl⟩⟩

theorem disk_Cut_i {a : Int} {K : Int → Hp → Prop} (p : PDi h b bl r sp m F) (hK : ∀ h', Kp (fun x => x = b) h h' → PDi h' b bl r sp (m.cut a).2 F → K (m.cut a).1 h') : disk_Disk_Cut (some (nA b)) a K h := by
  refine ⟨fun c h' => c = decide (a < 0) ∧ h' = h, ?_, isN ⟨rfl, rfl⟩⟩
  rintro c h' ⟨rfl, rfl⟩
  refine dcd (fun hn => ?_) (fun hn => ⟨_, rfl, m.down, p.st.rdi 4 rfl, fun hd => ?_, fun hd => ?_⟩)
  · have e : m.cut a = (1, m) := by unfold Md.cut; rw [if_pos hn]
    rw [e] at hK
    exact hK _ (Kp.refl _ _) p
  · have e : m.cut a = (2, m) := by unfold Md.cut; rw [if_neg hn, if_pos hd]
    rw [e] at hK
    exact hK _ (Kp.refl _ _) p
  · have e : m.cut a = (0, { m with fuse := a }) := by unfold Md.cut; rw [if_neg hn, if_neg (by simp [hd])]
    rw [e] at hK
    have := p.head (m' := { m with fuse := a }) rfl rfl
    exact ⟨_, p.st.sti 3 (.int .i64 a) (by simp [stC]), hK _ this.2 this.1⟩

theorem disk_Sectors_none_c {K : Int → Hp → Prop} (hK : K 0 h) : disk_Disk_Sectors none K h := isN0 hK
theorem disk_Sectors_i {K : Int → Hp → Prop} (p : PDi h b bl r sp m F) (hK : K (m.laid.length : Int) h) : disk_Disk_Sectors (some (nA b)) K h :=
  isN ⟨_, rfl, ⟨some (nA bl), m.laid.length, m.laid.length⟩, p.st.rdi 0 rfl, hK⟩

theorem PDi.pend_len (p : PDi h b bl r sp m F) : sp.len = m.pend.length := by
  have h1 := p.pend.len
  rw [flat_len encW 129 m.pend fun w hw => by simp [encW, (p.wf.pen w hw).1]] at h1
  omega

theorem disk_Stat_none_c {K : Int → Int → Int → Bool → Hp → Prop} (hK : ∀ h', Kp (fun _ => False) h h' → K 0 0 0 false h') : disk_Disk_Stat none K h := by
  have hb := Bk.new h [.int .i64 0, .int .i64 0, .int .i64 0, .bool false] 51
  refine ⟨_, _, rfl, rfl, isN0 ⟨_, hb.st0 rfl, 0, 0, 0, false, hb.set.rd0, hK _ ?_⟩⟩
  exact (Kp.push (Kp.refl _ _) _).set _ (.inl (Nat.le_refl _))
theorem disk_Stat_i {K : Int → Int → Int → Bool → Hp → Prop} (p : PDi h b bl r sp m F) (hK : ∀ h', Kp (fun _ => False) h h' → K m.writes m.flushes (m.pend.length : Int) m.down h') : disk_Disk_Stat (some (nA b)) K h := by
  have hb := Bk.new h [.int .i64 0, .int .i64 0, .int .i64 0, .bool false] 51
  refine ⟨_, _, rfl, rfl, isN ⟨_, rfl, m.writes, (p.st.push _).rdi 5 rfl, m.flushes, (p.st.push _).rdi 6 rfl, sp, (p.st.push _).rdi 1 rfl, m.down, (p.st.push _).rdi 4 rfl, _, hb.st0 rfl, m.writes, m.flushes, (m.pend.length : Int), m.down, ?_, hK _ ?_⟩⟩
  · rw [PDi.pend_len p]; exact hb.set.rd0
  · exact (Kp.push (Kp.refl _ _) _).set _ (.inl (Nat.le_refl _))

theorem zr_zero (k n : Nat) (hn : 0 < n) : zr ((List.replicate n (0 : UInt8)).map bv) k = List.replicate k (bv 0) := by
  unfold zr
  apply List.ext_getElem?
  intro i
  simp only [List.getElem?_map, List.map_replicate, List.length_replicate]
  by_cases hi : i < k
  · have : i % n < n := Nat.mod_lt _ hn
    simp [hi, this]
  · simp [hi]
theorem flat_zero (n : Nat) : (List.replicate n (List.replicate 128 (0 : UInt8))).flatMap encS = List.replicate (n * 128) (bv 0) := by
  induction n with
  | zero => simp
  | succ n ih =>
    rw [List.replicate_succ, List.flatMap_cons, ih, Nat.add_mul, Nat.add_comm]
    simp only [encS, List.map_replicate, List.replicate_append_replicate, Nat.one_mul]

theorem disk_blank_c {n : Nat} {K : Option Addr → Hp → Prop} (hn1 : 1 ≤ n) (hn2 : n ≤ 4096)
    (hK : ∀ h' b bl r, Kp (fun _ => False) h h' → PDi h' b bl r Sl.nil (Md.new n) (fun x => h.size ≤ x) → K (some (nA b)) h') : disk_blank (n : Int) K h := by
  refine ⟨by omega, by omega, by omega, _, _, _, rfl, rfl, rfl, _, _, rfl, rfl, _, _, rfl, rfl, ?_⟩
  have hl := Bk.new h (zr ((List.replicate 128 (0 : UInt8)).map bv) (Int.toNat (n : Int) * 128)) 143
  generalize hh1 : h.push (Cel (zr ((List.replicate 128 (0 : UInt8)).map bv) (Int.toNat (n : Int) * 128)) 143) = h1 at hl ⊢
  have hs1 : h1.size = h.size + 1 := by rw [← hh1]; simp
  have hk1 : Kp (fun _ => False) h h1 := by rw [← hh1]; exact Kp.push (Kp.refl _ _) _
  have hm : Mp (h1.push (.map #[] 0)) h1.size [] 0 := get_push_new _ _
  have hl2 := hl.push (.map #[] 0)
  have hk2 : Kp (fun _ => False) h (h1.push (.map #[] 0)) := hk1.push _
  generalize hh2 : h1.push (.map #[] 0) = h2 at hm hl2 hk2 ⊢
  have hs2 : h2.size = h1.size + 1 := by rw [← hh2]; simp
  refine hK _ _ h.size h1.size (hk2.push _) ⟨?_, ?_, Vec.nil _ _ _, ⟨[], 0, (get_push_old hm.lt).trans hm, MapOK.nil 0⟩, Md.Wf.new hn1 hn2, by omega, by omega, by omega, ?_, ?_, ?_, by omega, Nat.le_refl _, by omega, ?_⟩
  · have := Bk.new h2 [.slice (some (nA h.size)) (Int.toNat (n : Int)) (Int.toNat (n : Int)), .slice none 0 0, .map (some h1.size), .int .i64 (-1), .bool false, .int .i64 0, .int .i64 0] 141
    simpa [stC, Md.new] using this
  · have := hl2.push (Cel [.slice (some (nA h.size)) (Int.toNat (n : Int)) (Int.toNat (n : Int)), .slice none 0 0, .map (some h1.size), .int .i64 (-1), .bool false, .int .i64 0, .int .i64 0] 141)
    rw [zr_zero _ _ (by omega), Int.toNat_natCast, ← flat_zero] at this
    exact this
  all_goals simp [Sl.blk]

theorem disk_New_c {n : Int} {K : Option Addr → Int → Hp → Prop} (hbad : n < 1 ∨ 4096 < n → K none 1 h)
    (hK : 1 ≤ n → n ≤ 4096 → ∀ h' b bl r, Kp (fun _ => False) h h' → PDi h' b bl r Sl.nil (Md.new n.toNat) (fun x => h.size ≤ x) → K (some (nA b)) 0 h') : disk_New n K h := by
  refine ⟨fun b h' => h' = h ∧ b = decide (n < 1 ∨ n > 4096), ?_, dcd (fun hn => ⟨rfl, by simp [hn]⟩) (fun hn => ⟨rfl, by simp [hn]⟩)⟩
  rintro b h' ⟨rfl, rfl⟩
  refine dcd (fun hn => hbad (by omega)) (fun hn => ?_)
  have h1 : 1 ≤ n := by omega
  have h2 : n ≤ 4096 := by omega
  obtain ⟨k, rfl⟩ := Int.eq_ofNat_of_zero_le (show 0 ≤ n by omega)
  exact disk_blank_c (by omega) (by omega) fun h3 b bl r hk hp => hK h1 h2 h3 b bl r hk hp

theorem PDi.kpb {h' : Hp} (p : PDi h b bl r sp m F) (hk : Kp (fun _ => False) h h') : PDi h' b bl r sp m F := (p.kp hk (fun _ _ _ hf => hf)).mono fun _ _ hx => hx.1

theorem sec_rd (p : PDi h b bl r sp m F) {i : Nat} (hi : i < m.laid.length) : RdL h ((nA bl).add (i * 128)) (m.laid[i].map bv) := by
  rw [add_nA]
  refine RdL.of_bk p.laid fun j v hj => ?_
  rw [Nat.zero_add]
  exact flat_get encS 128 m.laid (fun s hs => by simp [encS, p.wf.sec s hs]) i _ (by simp [hi]) j v hj
theorem pen_rd (p : PDi h b bl r sp m F) {i : Nat} {w : Wrt} (hw : m.pend[i]? = some w) : ∃ a, sp.p = some a ∧ RdL h (a.add (i * 129)) (encW w) := by
  have hi := (List.getElem?_eq_some_iff.1 hw).1
  obtain ⟨a, ha⟩ := p.pend.ptr (by rw [PDi.pend_len p]; omega)
  exact ⟨a, ha, p.pend.rdl ha fun j v hj => flat_get encW 129 m.pend (fun w hw => by simp [encW, (p.wf.pen w hw).1]) i w hw j v hj⟩
theorem add2 {a : Addr} (ha : a.spot = none) (i j : Nat) : (a.add i).add j = a.add (i + j) := add_add a i j ha
theorem RdL.tail {h : Hp} {a : Addr} {v : Value} {l : List Value} (hs : a.spot = none) (hr : RdL h a (v :: l)) : RdL h (a.add 1) l := by
  intro j u hj
  rw [add2 hs, Nat.add_comm]
  exact hr (j + 1) u hj
theorem spot_add (a : Addr) (i : Nat) : (a.add i).spot = a.spot ∨ a.spot ≠ none := by
  unfold Addr.add
  split
  · exact .inl rfl
  · cases h : a.spot with
    | none => exact .inl (by simp)
    | some s => exact .inr (by simp)
theorem vec_spot {n : Nat} {el : TypeId} {cs : List Value} {s : Sl} (hv : Vec h s n el cs) {a : Addr} (ha : s.p = some a) : a.spot = none := by
  have := hv.rd
  rw [ha] at this
  exact this.1
theorem add_spot {a : Addr} (ha : a.spot = none) (i : Nat) : (a.add i).spot = none := by
  obtain ⟨b, o, s⟩ := a
  simp only at ha; subst ha
  rw [add_nA]

theorem disk_newest_i {at_ : Nat} {K : List UInt8 → Hp → Prop} (p : PDi h b bl r sp m F) (hat : at_ < m.laid.length)
    (hK : ∀ h', Kp (fun _ => False) h h' → K (m.newest at_) h') : disk_Disk_newest (some (nA b)) (at_ : Int) K h := by
  have hk0 : Kp (fun _ => False) h (h.push (Cel ((List.replicate 128 (0 : UInt8)).map bv) 143)) := Kp.push (Kp.refl _ _) _
  have hnew := Bk.new h ((List.replicate 128 (0 : UInt8)).map bv) 143
  have p1 := PDi.kpb p hk0
  obtain ⟨mm, c, hm, ho⟩ := p1.map
  have hlen := Md.newest_len p.wf hat
  refine ⟨_, _, rfl, rfl, _, rfl, some r, p1.st.rdi 2 rfl, r, mm, c, rfl, hm, _, _, rfl, rfl, ?_⟩
  rw [ho.get]
  have fin : ∀ bs : List UInt8, bs.length = 128 → m.newest at_ = bs → ∃ h30 : Hp, bs.length = 128 ∧ StL (h.push (Cel ((List.replicate 128 (0 : UInt8)).map bv) 143)) (nA h.size) (bs.map bv) h30 ∧
      ∃ (bs33 : List UInt8), bs33.length = 128 ∧ RdL h30 (nA h.size) (bs33.map bv) ∧ K bs33 h30 := by
    intro bs hb he
    refine ⟨_, hb, hnew.st0 (by simp [hb]), bs, hb, hnew.set.rd0, ?_⟩
    rw [← he]
    exact hK _ (hk0.set _ (.inl (Nat.le_refl _)))
  cases hl : lastI m.pend (at_ : Int) with
  | none =>
    refine ⟨fun h => by simp at h, fun _ => ?_⟩
    have he : m.newest at_ = m.laid[at_] := by
      unfold Md.newest
      rw [lastI_none hl]
      simp [hat]
    refine ⟨⟨some (nA bl), m.laid.length, m.laid.length⟩, p1.st.rdi 0 rfl, nA bl, rfl, by omega, by simp; exact hat, m.laid[at_], p.wf.sec _ (List.getElem_mem hat), ?_, fin _ (p.wf.sec _ (List.getElem_mem hat)) he⟩
    rw [Int.toNat_natCast]
    exact sec_rd p1 hat
  | some i =>
    obtain ⟨d, hd, hw⟩ := lastI_spec hl
    refine ⟨fun _ => ?_, fun h => by simp at h⟩
    have he : m.newest at_ = d := by
      unfold Md.newest
      rw [hw]; rfl
    obtain ⟨a, ha, hr⟩ := pen_rd p1 hd
    have hi := (List.getElem?_eq_some_iff.1 hd).1
    have hdl : d.length = 128 := (p.wf.pen _ (List.mem_of_getElem? hd)).1
    have hn0 : (Option.map Int.ofNat (some i)).getD 0 = (i : Int) := rfl
    rw [hn0]
    have hsp := vec_spot p1.pend ha
    refine ⟨sp, p1.st.rdi 1 rfl, a, ha, by omega, by rw [PDi.pend_len p]; omega, d, hdl, ?_, fin _ hdl he⟩
    rw [Int.toNat_natCast]
    exact RdL.tail (add_spot hsp _) hr

theorem disk_Read_none_c {at_ : Int} {K : Sl → Int → Hp → Prop} (hK : K Sl.nil 1 h) : disk_Disk_Read none at_ K h := isN0 hK

theorem disk_Read_i {at_ : Int} {K : Sl → Int → Hp → Prop} (p : PDi h b bl r sp m F)
    (hK : ∀ s h', Kp (fun _ => False) h h' → Vec h' s 1 5 ((m.read at_).1.map bv) → (∀ x, s.blk x → h.size ≤ x) → K s (m.read at_).2 h') : disk_Disk_Read (some (nA b)) at_ K h := by
  refine isN ⟨fun c h' => h' = h ∧ c = decide (at_ < 0 ∨ (m.laid.length : Int) ≤ at_), ?_, dcd (fun hn => ⟨rfl, by simp [hn]⟩) (fun hn => ⟨_, rfl, ⟨some (nA bl), m.laid.length, m.laid.length⟩, p.st.rdi 0 rfl, rfl, by simp [hn]⟩)⟩
  rintro c h' ⟨rfl, rfl⟩
  have hnil : ∀ x, Sl.nil.blk x → h'.size ≤ x := by simp [Sl.blk]
  refine dcd (fun hn => ?_) (fun hn => ⟨_, rfl, m.down, p.st.rdi 4 rfl, fun hd => ?_, fun hd => ?_⟩)
  · have e : m.read at_ = ([], 20) := by unfold Md.read; rw [if_pos hn]
    rw [e] at hK
    exact hK Sl.nil _ (Kp.refl _ _) (Vec.nil _ _ _) hnil
  · have e : m.read at_ = ([], 2) := by unfold Md.read; rw [if_neg hn, if_pos hd]
    rw [e] at hK
    exact hK Sl.nil _ (Kp.refl _ _) (Vec.nil _ _ _) hnil
  · have e : m.read at_ = (m.newest at_.toNat, 0) := by unfold Md.read; rw [if_neg hn, if_neg (by simp [hd])]
    rw [e] at hK
    obtain ⟨k, rfl⟩ := Int.eq_ofNat_of_zero_le (show 0 ≤ at_ by omega)
    have hk : k < m.laid.length := by omega
    have hlen := Md.newest_len p.wf hk
    refine disk_newest_i p hk fun h1 hk1 => ?_
    have hb := Bk.new h1 ((List.replicate 128 (0 : UInt8)).map bv) 143
    refine ⟨_, _, rfl, rfl, _, hlen, hb.st0 (by simp [hlen]), _, rfl, ?_⟩
    have hk2 : Kp (fun _ => False) h' (setB (h1.push (Cel ((List.replicate 128 (0 : UInt8)).map bv) 143)) h1.size (Cel ((m.newest k).map bv) 143)) := (hk1.push _).set _ (.inl hk1.size)
    refine (Vec.nil _ 1 5).app (news := (m.newest k).map bv) ?_ (oneC_bytes _) (by show (0 + 128) * 1 ≤ _; omega) ?_
    · refine ⟨by simp [slA, hlen], ?_⟩
      have : RdL (setB (h1.push (Cel ((List.replicate 128 (0 : UInt8)).map bv) 143)) h1.size (Cel ((m.newest k).map bv) 143)) (nA h1.size) ((m.newest k).map bv) := hb.set.rd0
      simpa [slA, add_zero'] using this
    · intro s h3 hv _ hk3 hb3
      refine hK s h3 (hk2.and hk3 (by simp [Sl.blk])) (by simpa using hv) fun x hx => ?_
      rcases hb3 x hx with h4 | h4
      · simp [Sl.blk] at h4
      · have := hk2.size; omega

theorem Vec.vkp {h h' : Hp} {s : Sl} {n : Nat} {el : TypeId} {cs : List Value} {G : Nat → Prop} (hv : Vec h s n el cs) (hk : Kp G h h') (hn : ∀ b, s.blk b → ¬ G b) : Vec h' s n el cs := hv.kp hk hn

theorem slA_vec {h : Hp} {q n : Nat} {l : List Value} {el : TypeId} (hb : Bk h q l el) (hl : l.length = n) : RdS h (slA (nA q) n 1 (Int.toNat 0) (Int.toNat ((n : Nat) : Int))) 1 l := by
  have e : slA (nA q) n 1 (Int.toNat 0) (Int.toNat ((n : Nat) : Int)) = ⟨some (if n = 0 then nA q else (nA q).add 0), n, n⟩ := by simp [slA]
  rw [e]
  refine ⟨by simp [hl], ?_⟩
  have : (if n = 0 then nA q else (nA q).add 0) = nA q := by split <;> simp [add_zero']
  rw [this]
  exact hb.rd0

theorem disk_Write_none_c {at_ : Int} {s : Sl} {K : Int → Hp → Prop} (hK : K 1 h) : disk_Disk_Write none at_ s K h := isN0 hK

theorem disk_Write_i {at_ : Int} {s : Sl} {data : List UInt8} {K : Int → Hp → Prop} (p : PDi h b bl r sp m F) (hs : Byt h s data) (hsF : ∀ a, s.p = some a → data ≠ [] → ¬ F a.block)
    (hcap : (m.pend.length + 1) * 136 ≤ 140737488355328)
    (hK : ∀ h' sp', Kp F h h' → PDi h' b bl r sp' (m.write at_ data).2 (fun x => F x ∨ h.size ≤ x) → K (m.write at_ data).1 h') : disk_Disk_Write (some (nA b)) at_ s K h := by
  refine isN ⟨fun c h' => h' = h ∧ c = decide (at_ < 0 ∨ (m.laid.length : Int) ≤ at_), ?_, dcd (fun hn => ⟨rfl, by simp [hn]⟩) (fun hn => ⟨_, rfl, ⟨some (nA bl), m.laid.length, m.laid.length⟩, p.st.rdi 0 rfl, rfl, by simp [hn]⟩)⟩
  rintro c h' ⟨rfl, rfl⟩
  have hF : ∀ x, x < h'.size → F x → F x ∨ h'.size ≤ x := fun _ _ h => .inl h
  refine dcd (fun hn => ?_) (fun hn => dcn (fun hl => ?_) (fun hl => ?_))
  · have e : m.write at_ data = (20, m) := by unfold Md.write; rw [if_pos hn]
    rw [e] at hK
    exact hK _ sp (Kp.refl _ _) (p.mono hF)
  · have hl' : data.length ≠ 128 := by rw [hs.len] at hl; omega
    have e : m.write at_ data = (21, m) := by unfold Md.write; rw [if_neg hn, if_pos hl']
    rw [e] at hK
    exact hK _ sp (Kp.refl _ _) (p.mono hF)
  · have hl' : data.length = 128 := by rw [hs.len] at hl; omega
    refine disk_burn_c p fun h1 hk1 p1 => ?_
    have hkF1 : Kp F h' h1 := hk1.mono fun x _ e => by subst e; exact p.fb
    have hbl := m.burn_laid
    have e : m.write at_ data = if m.burn.1 then (0, { m.burn.2 with pend := m.pend ++ [(at_, data)], writes := IntKind.i64.wrap (m.writes + 1) }) else (2, m.burn.2) := by
      unfold Md.write; rw [if_neg hn, if_neg (by omega)]
    cases hb1 : m.burn.1 with
    | false =>
      rw [hb1] at e
      simp only [Bool.false_eq_true, if_false] at e
      rw [e] at hK
      exact ⟨fun _ => hK _ sp hkF1 (p1.mono fun x hx hf => .inl hf), fun h => by simp at h⟩
    | true =>
      rw [hb1] at e
      simp only [if_true] at e
      rw [e] at hK
      refine ⟨fun h => by simp at h, fun _ => ?_⟩
      have hw := Md.Wf.write p.wf at_ data
      rw [e] at hw
      generalize m.burn.2 = m1 at *
      obtain ⟨e1, e2, e3, e4⟩ := hbl
      -- the new write, on the heap
      have hs1 := hs.kpo hk1 (fun a ha hne he => hsF a ha hne (he ▸ p.fb))
      have hnb := Bk.new h1 (.int .i64 0 :: (List.replicate 128 (0 : UInt8)).map bv) 145
      have hst := hnb.st0 (vs := .int .i64 at_ :: (List.replicate 128 (0 : UInt8)).map bv) (by simp)
      generalize hh2 : h1.push (Cel (.int .i64 0 :: (List.replicate 128 (0 : UInt8)).map bv) 145) = h2 at *
      have hk2 : Kp (fun _ => False) h1 h2 := by rw [← hh2]; exact Kp.push (Kp.refl _ _) _
      have hq2 : h1.size < h2.size := hnb.lt
      have hnb3 : Bk (setB h2 h1.size (Cel (.int .i64 at_ :: (List.replicate 128 (0 : UInt8)).map bv) 145)) h1.size (.int .i64 at_ :: (List.replicate 128 (0 : UInt8)).map bv) 145 := hnb.set
      have hk3 : Kp (fun _ => False) h1 (setB h2 h1.size (Cel (.int .i64 at_ :: (List.replicate 128 (0 : UInt8)).map bv) 145)) := hk2.set _ (.inl (Nat.le_refl _))
      refine ⟨_, _, rfl, rfl, _, hst, _, rfl, data.map bv, ?_⟩
      generalize setB h2 h1.size (Cel (.int .i64 at_ :: (List.replicate 128 (0 : UInt8)).map bv) 145) = h3 at *
      have hlen0 : (slA ((nA h1.size).add 1) 128 1 (Int.toNat 0) (Int.toNat ((128 : Nat) : Int))) = ⟨some ((nA h1.size).add 1), 128, 128⟩ := by simp [slA, add_zero']
      rw [hlen0]
      have hsl : s.len = 128 := by rw [hs.len]; exact hl'
      have hmin : Nat.min s.len 128 = 128 := by rw [hsl]; rfl
      have hs3 := hs1.kp hk3 (fun _ _ h => h)
      have hnb4 : Bk (setB h3 h1.size (Cel (encW (at_, data)) 145)) h1.size (encW (at_, data)) 145 := hnb3.set
      have hk4 : Kp (fun _ => False) h1 (setB h3 h1.size (Cel (encW (at_, data)) 145)) := hk3.set _ (.inl (Nat.le_refl _))
      have p4 := PDi.kpb p1 hk4
      have hst4 : StL h3 ((nA h1.size).add 1) (data.map bv) (setB h3 h1.size (Cel (encW (at_, data)) 145)) := by
        have := hnb3.st (i := 1) (vs := data.map bv) (by simp [hl'])
        have e : splice (.int .i64 at_ :: (List.replicate 128 (0 : UInt8)).map bv) 1 (data.map bv) = encW (at_, data) := by
          simp [splice, encW, hl']
        rw [e] at this
        exact this
      refine ⟨setB h3 h1.size (Cel (encW (at_, data)) 145), _, ?_, oneC_bytes _, ?_, rfl, ?_⟩
      · have := Byt.rds hs3
        rw [hmin, ← hsl]; exact this
      · show StL h3 (((nA h1.size).add 1).add 0) _ _
        rw [add_zero']; exact hst4
      obtain ⟨mm, c, hm4, ho⟩ := p4.map
      refine ⟨_, rfl, some r, p4.st.rdi 2 rfl, sp, p4.st.rdi 1 rfl, r, mm, c, rfl, hm4, _, rfl, ?_⟩
      rw [PDi.pend_len p4]
      generalize setB h3 h1.size (Cel (encW (at_, data)) 145) = h4 at *
      have hr4 := hm4.lt
      have hm5 : Mp (setB h4 r (.map ((mset mm at_ (m1.pend.length : Int) c).map mE).toArray (mclock mm at_ c))) r (mset mm at_ (m1.pend.length : Int) c) (mclock mm at_ c) := get_set_same hr4
      have ho5 := ho.set (at_, data)
      have hk5 : Kp (fun x => x = r) h4 (setB h4 r (.map ((mset mm at_ (m1.pend.length : Int) c).map mE).toArray (mclock mm at_ c))) := (Kp.refl _ _).set _ (.inr rfl)
      have hnr : h1.size ≠ r := by have := p1.rlt; omega
      have hnb5 := hnb4.kp hk5 (fun e => hnr e)
      have hst5 := p4.st.kp hk5 (fun e => p.n2 e)
      have hla5 := p4.laid.kp hk5 (fun e => p.n3 e)
      have hpe5 := p4.pend.kp hk5 (fun x hx e => p.n6 (e ▸ hx))
      generalize setB h4 r (.map ((mset mm at_ (m1.pend.length : Int) c).map mE).toArray (mclock mm at_ c)) = h5 at *
      have hnb5' : RdL h5 (nA h1.size) (encW (at_, data)) := hnb5.rd0
      refine ⟨sp, hst5.rdi 1 rfl, at_, data, hl', hnb5', hl', _, _, _, rfl, rfl, rfl, ?_⟩
      have hk6 : Kp (fun _ => False) h5 (h5.push (Cel (.int .i64 at_ :: data.map bv) 145)) := Kp.push (Kp.refl _ _) _
      have hnb6 := Bk.new h5 (encW (at_, data)) 145
      have hst6 := hst5.kp hk6 (fun h => h)
      refine ⟨hst6.rdi 1 rfl, ?_⟩
      have hsz : h'.size ≤ h5.size := by have := hkF1.size; have := hk4.size; have := hk5.size; omega
      refine (hpe5.kp hk6 (fun _ _ h => h)).app (news := encW (at_, data)) ⟨by simp [encW, hl'], hnb6.rd0⟩ ?_ ?_ ?_
      · intro v hv
        rcases List.mem_cons.1 hv with rfl | hv
        · rfl
        · exact oneC_bytes _ v hv
      · show (sp.len + 1) * 136 ≤ _
        rw [PDi.pend_len p]; exact hcap
      · intro s7 h7 hv7 hl7 hk7 hb7
        have hblt : ∀ x, s7.blk x → sp.blk x ∨ h5.size < x ∨ x = h5.size + 1 := by
          intro x hx
          rcases hb7 x hx with h | h
          · exact .inl h
          · simp at h; exact .inr (.inr h.symm)
        have hnot7 : ∀ y, y < h5.size → s7.blk y → sp.blk y := by
          intro y hy hx
          rcases hblt y hx with h | h | h
          · exact h
          · omega
          · omega
        have hst7 := hst6.kp hk7 (fun hx => p.n4 hx)
        have hla7 := (hla5.kp hk6 (fun h => h)).kp hk7 (fun hx => p.n5 hx)
        have hm7 := (hm5.kp hk6 (fun h => h)).kp hk7 (fun hx => p.n6 hx)
        have hst8 : Bk (setB h7 b (Cel (stC bl r s7 m1) 141)) b (stC bl r s7 m1) 141 := hst7.set
        refine ⟨_, hst7.sti 1 s7.v (by simp [stC]), m1.writes, hst8.rdi 5 rfl, _, rfl, _, hst8.sti 5 (.int .i64 (IntKind.i64.wrap (m1.writes + 1))) (by simp [stC]), ?_⟩
        have hk8 : Kp (fun x => x = b) h7 (setB (setB h7 b (Cel (stC bl r s7 m1) 141)) b (Cel ((stC bl r s7 m1).set 5 (.int .i64 (IntKind.i64.wrap (m1.writes + 1)))) 141)) := Kp.set (F := fun x => x = b) (Kp.set (F := fun x => x = b) (Kp.refl _ _) _ (.inr rfl)) _ (.inr rfl)
        have hbs := p.st.lt
        have hrs := p.rlt
        have hls := p.laid.lt
        refine hK _ s7 ?_ ⟨?_, ?_, ?_, ⟨_, _, hm7.kp hk8 (fun e => p.n2 e.symm), ?_⟩, hw, p.n1, p.n2, p.n3, ?_, ?_, ?_, .inl p.fb, .inl p.fl, .inl p.fr, ?_⟩
        · refine ((((hkF1.trans (hk4.mono fun _ _ h => h.elim)).trans (hk5.mono fun x _ e => by subst e; exact p.fr)).trans (hk6.mono fun _ _ h => h.elim)).trans (hk7.mono fun x _ hx => p.fs x hx)).trans (hk8.mono fun x _ e => by subst e; exact p.fb)
        · rw [← e3]
          have := hst8.set (l' := (stC bl r s7 m1).set 5 (.int .i64 (IntKind.i64.wrap (m1.writes + 1))))
          exact this
        · exact hla7.kp hk8 (fun e => p.n1 e.symm)
        · have : (m.pend ++ [(at_, data)]).flatMap encW = m1.pend.flatMap encW ++ encW (at_, data) := by rw [e2]; simp
          show Vec _ _ _ _ ((m.pend ++ [(at_, data)]).flatMap encW)
          rw [this]
          refine hv7.kp hk8 fun x hx e => ?_
          subst e
          exact p.n4 (hnot7 _ (by omega) hx)
        · show MapOK _ _ (m.pend ++ [(at_, data)])
          rw [← e2]; exact ho5
        · exact fun hx => p.n4 (hnot7 _ (by omega) hx)
        · exact fun hx => p.n5 (hnot7 _ (by omega) hx)
        · exact fun hx => p.n6 (hnot7 _ (by omega) hx)
        · intro x hx
          rcases hblt x hx with h | h | h
          · exact .inl (p.fs x h)
          · exact .inr (by omega)
          · exact .inr (by omega)

theorem sec_st (p : PDi h b bl r sp m F) {i : Nat} (hi : i < m.laid.length) {d : List UInt8} (hd : d.length = 128) :
    ∃ h', StL h ((nA bl).add (i * 128)) (d.map bv) h' ∧ Kp (fun x => x = bl) h h' ∧ PDi h' b bl r sp { m with laid := m.laid.set i d } F := by
  have hfl := flat_len encS 128 m.laid (fun s hs => by simp [encS, p.wf.sec s hs])
  have hlt : i * 128 + (d.map bv).length ≤ (m.laid.flatMap encS).length := by rw [hfl]; simp [hd]; omega
  have e := flat_set encS 128 m.laid (fun s hs => by simp [encS, p.wf.sec s hs]) i d (by simp [encS, hd]) hi
  have hk : Kp (fun x => x = bl) h (setB h bl (Cel ((m.laid.set i d).flatMap encS) 143)) := Kp.set (F := fun x => x = bl) (Kp.refl _ _) _ (.inr rfl)
  obtain ⟨mm, c, hm, ho⟩ := p.map
  refine ⟨setB h bl (Cel ((m.laid.set i d).flatMap encS) 143), ?_, hk, ⟨?_, p.laid.set, p.pend.kp hk (fun x hx e => by subst e; exact p.n5 hx), ⟨mm, c, hm.kp hk (fun e => p.n3 e.symm), ho⟩, ⟨?_, ?_, ?_, ?_⟩, p.n1, p.n2, p.n3, p.n4, p.n5, p.n6, p.fb, p.fl, p.fr, p.fs⟩⟩
  · rw [add_nA, Nat.zero_add, ← e]
    exact p.laid.st hlt
  · have := p.st.kp hk (fun e => p.n1 e)
    simpa [stC] using this
  · simpa using p.wf.lo
  · simpa using p.wf.hi
  · intro s hs
    rcases List.mem_or_eq_of_mem_set hs with h | rfl
    · exact p.wf.sec s h
    · exact hd
  · simpa using p.wf.pen

theorem settle_laid (m : Md) (l : List (List UInt8)) : ({ { m with laid := l } with pend := [] } : Md) = { m with laid := l, pend := [] } := rfl

/-- A pass over the map: what is seen is laid. -/
def Passed (m0 m : Md) (mm : MM) (seen : Array Nat) : Prop :=
  m.pend = m0.pend ∧ m.fuse = m0.fuse ∧ m.down = m0.down ∧ m.writes = m0.writes ∧ m.flushes = m0.flushes ∧ m.laid.length = m0.laid.length ∧
  ∀ k : Nat, k < m0.laid.length → m.laid[k]? = if (mm.any fun x => x.1 == (k : Int) && seen.contains x.2.2) then some (m0.newest k) else m0.laid[k]?

theorem countP_seen {mm : MM} (hn : (mm.map fun x => x.2.2).Nodup) {seen : Array Nat} {x : Int × Int × Nat} (hx : x ∈ mm) (hs : seen.contains x.2.2 = false) :
    (mm.filter fun y => !(seen.push x.2.2).contains y.2.2).length < (mm.filter fun y => !seen.contains y.2.2).length := by
  have hmem : ∀ y, (seen.push x.2.2).contains y = (seen.contains y || y == x.2.2) := by
    intro y
    simp only [Array.contains_push]
  have e : (mm.filter fun y => !(seen.push x.2.2).contains y.2.2) = (mm.filter fun y => !seen.contains y.2.2).filter fun y => !(y.2.2 == x.2.2) := by
    rw [List.filter_filter]
    apply List.filter_congr
    intro y _
    rw [hmem]
    cases seen.contains y.2.2 <;> cases (y.2.2 == x.2.2) <;> rfl
  rw [e]
  have hin : x ∈ mm.filter fun y => !seen.contains y.2.2 := List.mem_filter.2 ⟨hx, by rw [hs]; rfl⟩
  generalize (mm.filter fun y => !seen.contains y.2.2) = l at hin
  have hle : ∀ l : List (Int × Int × Nat), (l.filter fun y => !(y.2.2 == x.2.2)).length ≤ l.length := fun l => List.length_filter_le _ l
  induction l with
  | nil => cases hin
  | cons y r ih =>
    by_cases hy : (y.2.2 == x.2.2) = true
    · rw [List.filter_cons]
      simp only [hy, Bool.not_true, Bool.false_eq_true, if_false, List.length_cons]
      have := hle r
      omega
    · rcases List.mem_cons.1 hin with rfl | h
      · simp at hy
      · rw [List.filter_cons]
        rw [Bool.not_eq_true] at hy
        simp only [hy, Bool.not_false, if_true, List.length_cons]
        have := ih h
        omega

theorem nodup_inj {α β : Type} {f : α → β} : ∀ {l : List α}, (l.map f).Nodup → ∀ {x y : α}, x ∈ l → y ∈ l → f x = f y → x = y
  | [], _, x, y, hx, _, _ => nomatch hx
  | z :: r, hn, x, y, hx, hy, he => by
    simp only [List.map_cons, List.nodup_cons] at hn
    rcases List.mem_cons.1 hx with hx1 | hx1
    · rcases List.mem_cons.1 hy with hy1 | hy1
      · rw [hx1, hy1]
      · exact absurd (by rw [← hx1]; exact List.mem_map.2 ⟨y, hy1, he.symm⟩ : f z ∈ List.map f r) hn.1
    · rcases List.mem_cons.1 hy with hy1 | hy1
      · exact absurd (by rw [← hy1]; exact List.mem_map.2 ⟨x, hx1, he⟩ : f z ∈ List.map f r) hn.1
      · exact nodup_inj hn.2 hx1 hy1 he

theorem disk_Flush_none_c {K : Int → Hp → Prop} (hK : K 1 h) : disk_Disk_Flush none K h := isN0 hK

theorem disk_Flush_i {K : Int → Hp → Prop} (p : PDi h b bl r sp m F) 
    (hK : ∀ h' sp', Kp F h h' → PDi h' b bl r sp' m.flush.2 (fun x => F x ∨ h.size ≤ x) → K m.flush.1 h') : disk_Disk_Flush (some (nA b)) K h := by
  refine isN ?_
  refine disk_burn_c p fun h1 hk1 p1 => ?_
  have hkF1 : Kp F h h1 := hk1.mono fun x _ e => by subst e; exact p.fb
  have hbl := m.burn_laid
  have e : m.flush = if m.burn.1 then (0, { m.burn.2 with laid := layAll m.laid m.pend, pend := [], flushes := IntKind.i64.wrap (m.flushes + 1) }) else (2, m.burn.2) := rfl
  cases hb1 : m.burn.1 with
  | false =>
    rw [hb1] at e
    simp only [Bool.false_eq_true, if_false] at e
    rw [e] at hK
    exact ⟨fun _ => hK _ sp hkF1 (p1.mono fun x hx hf => .inl hf), fun h => by simp at h⟩
  | true =>
    rw [hb1] at e
    simp only [if_true] at e
    rw [e] at hK
    refine ⟨fun h => by simp at h, fun _ => ?_⟩
    generalize m.burn.2 = m1 at *
    obtain ⟨e1, e2, e3, e4⟩ := hbl
    obtain ⟨mm, c, hm, ho⟩ := p1.map
    have hk2 : Kp (fun _ => False) h1 (h1.push (.mapIter (some r) c #[] c)) := Kp.push (Kp.refl _ _) _
    refine ⟨_, rfl, some r, p1.st.rdi 2 rfl, r, mm, c, rfl, hm, _, _, rfl, rfl, ?_⟩
    -- the loop
    refine ⟨fun k h2 => ∃ seen m2, h2[h1.size]? = some (.mapIter (some r) c seen c) ∧ Mp h2 r mm c ∧ PDi h2 b bl r sp m2 F ∧ Passed m1 m2 mm seen ∧ k = (mm.filter fun y => !seen.contains y.2.2).length ∧ Kp F h1 h2 ∧ h1.size < h2.size, ?_, ?_⟩
    · refine ⟨_, #[], m1, get_push_new _ _, (get_push_old hm.lt).trans hm, PDi.kpb p1 hk2, ⟨rfl, rfl, rfl, rfl, rfl, rfl, fun k hk => ?_⟩, rfl, hk2.mono fun _ _ h => h.elim, by simp⟩
      simp
    rintro k h2 ⟨seen, m2, hit, hm2, p2, ⟨q1, q2, q3, q4, q5, q6, q7⟩, rfl, hkF2, hlt2⟩
    refine ⟨fun bb h' => match bb with
      | true => ∃ x ∈ mm, seen.contains x.2.2 = false ∧ h'[h1.size]? = some (.mapIter (some r) c (seen.push x.2.2) c) ∧ h' = setB h2 h1.size (.mapIter (some r) c (seen.push x.2.2) c)
      | false => h' = h2 ∧ ∀ x ∈ mm, seen.contains x.2.2 = true, ?_, ?_⟩
    · rintro bb h' hbb
      cases bb with
      | true =>
        obtain ⟨x, hx, hsx, hit', rfl⟩ := hbb
        refine ⟨fun _ => ?_, fun h => by cases h⟩
        have hkit : Kp (fun y => y = h1.size) h2 (setB h2 h1.size (.mapIter (some r) c (seen.push x.2.2) c)) := Kp.set (F := fun y => y = h1.size) (Kp.refl _ _) _ (.inr rfl)
        -- the iterator's block is none of the disk's
        have hbn : b ≠ h1.size := by have := p1.st.lt; omega
        have hln : bl ≠ h1.size := by have := p1.laid.lt; omega
        have hrn : r ≠ h1.size := by have := hm.lt; omega
        have hsn : ¬ sp.blk h1.size := fun hx => by have := p1.pend.lt hx; omega
        have p3 : PDi (setB h2 h1.size (.mapIter (some r) c (seen.push x.2.2) c)) b bl r sp m2 F := by
          obtain ⟨mm', c', hm', ho'⟩ := p2.map
          exact ⟨p2.st.kp hkit (fun e => hbn e), p2.laid.kp hkit (fun e => hln e), p2.pend.kp hkit (fun y hy e => hsn (e ▸ hy)), ⟨mm', c', hm'.kp hkit (fun e => hrn e), ho'⟩, p2.wf, p2.n1, p2.n2, p2.n3, p2.n4, p2.n5, p2.n6, p2.fb, p2.fl, p2.fr, p2.fs⟩
        have hm3 := hm2.kp hkit (fun e => hrn e)
        have hsz3 : (setB h2 h1.size (.mapIter (some r) c (seen.push x.2.2) c)).size = h2.size := size_set
        have hkF3 : Kp F h1 (setB h2 h1.size (.mapIter (some r) c (seen.push x.2.2) c)) := hkF2.set _ (.inl (Nat.le_refl _))
        generalize setB h2 h1.size (.mapIter (some r) c (seen.push x.2.2) c) = h3 at *
        have hg := mem_mget ho.key hx
        rw [ho.get] at hg
        obtain ⟨i, hi, hiv⟩ := Option.map_eq_some_iff.1 hg
        obtain ⟨d, hd, hw⟩ := lastI_spec hi
        have hd2 : m2.pend[i]? = some (x.1, d) := by rw [q1]; exact hd
        obtain ⟨a, ha, hr⟩ := pen_rd p3 hd2
        have hil := (List.getElem?_eq_some_iff.1 hd2).1
        have hpen := p3.wf.pen _ (List.mem_of_getElem? hd2)
        obtain ⟨kk, hkk⟩ := Int.eq_ofNat_of_zero_le hpen.2.1
        simp only at hkk hpen
        have hklt : kk < m2.laid.length := by have := hpen.2.2; omega
        have hsp := vec_spot p3.pend ha
        obtain ⟨h4, hst4, hk4, p4⟩ := sec_st p3 hklt hpen.1
        refine ⟨r, mm, c, seen, x, hit', hm3, hx, ho.nod, ⟨some (nA bl), m2.laid.length, m2.laid.length⟩, p3.st.rdi 0 rfl, sp, p3.st.rdi 1 rfl, a, ha, by rw [← hiv]; exact Int.natCast_nonneg _, ?_, d, hpen.1, ?_, nA bl, rfl, hpen.2.1, hpen.2.2, h4, hpen.1, ?_, _, countP_seen ho.nod hx hsx, ?_⟩
        · rw [← hiv, PDi.pend_len p3]; exact Int.ofNat_lt.2 hil
        · rw [← hiv]
          show RdL h3 ((a.add (Int.toNat (i : Int) * 129)).add 1) _
          rw [Int.toNat_natCast]
          exact RdL.tail (add_spot hsp _) hr
        · rw [hkk, Int.toNat_natCast]; exact hst4
        · refine ⟨seen.push x.2.2, { m2 with laid := m2.laid.set kk d }, ?_, hm3.kp hk4 (fun e => p3.n3 e.symm), p4, ⟨q1, q2, q3, q4, q5, by simpa using q6, fun k hk => ?_⟩, rfl, hkF3.trans (hk4.mono fun y _ e => by subst e; exact p.fl), by have := hk4.size; omega⟩
          · exact (hk4.old _ (by omega) (fun e => hln e.symm)).trans hit'
          · have hany : (mm.any fun y => y.1 == (k : Int) && (seen.push x.2.2).contains y.2.2) = ((mm.any fun y => y.1 == (k : Int) && seen.contains y.2.2) || (k == kk)) := by
              rw [Bool.eq_iff_iff]
              simp only [List.any_eq_true, Bool.or_eq_true, Bool.and_eq_true, beq_iff_eq, Array.contains_push]
              constructor
              · rintro ⟨y, hy, hyk, hyc⟩
                rcases hyc with hyc | hyc
                · exact .inl ⟨y, hy, hyk, hyc⟩
                · right
                  have := nodup_inj ho.nod hy hx hyc
                  subst this
                  omega
              · rintro (⟨y, hy, hyk, hyc⟩ | hk')
                · exact ⟨y, hy, hyk, .inl hyc⟩
                · exact ⟨x, hx, by omega, .inr rfl⟩
            rw [hany]
            show (m2.laid.set kk d)[k]? = _
            rw [List.getElem?_set]
            by_cases hkk2 : kk = k
            · subst hkk2
              rw [if_pos rfl, if_pos hklt]
              have : m1.newest kk = d := by
                unfold Md.newest
                rw [← hkk, hw]; rfl
              simp [this]
            · have hne : (k == kk) = false := by simp; omega
              rw [if_neg hkk2, q7 k hk, hne, Bool.or_false]
      | false =>
        obtain ⟨rfl, hall⟩ := hbb
        refine ⟨fun h => (nomatch h), fun _ => ?_⟩
        refine disk_settle_c p2 fun h3 hk3 p3 => ?_
        have hlaid : m2.laid = layAll m1.laid m1.pend := by
          apply List.ext_getElem?
          intro k
          by_cases hk : k < m1.laid.length
          · rw [layAll_get _ _ (fun w hw => (p1.wf.pen w hw).2) k hk, q7 k hk]
            split
            · rfl
            · rename_i hn
              cases hl : lastI m1.pend (k : Int) with
              | some i =>
                exfalso
                apply hn
                have hg : mget mm (k : Int) = some (i : Int) := by rw [ho.get, hl]; rfl
                obtain ⟨bb, hb⟩ := mget_mem hg
                rw [List.any_eq_true]
                exact ⟨_, hb, by simp; simpa using hall _ hb⟩
              | none => rw [lastI_none hl]; simp [hk]
          · rw [List.getElem?_eq_none (by omega), List.getElem?_eq_none (by rw [layAll_len]; omega)]
        have hh := p3.head (m' := { m1 with laid := layAll m.laid m.pend, pend := [], flushes := IntKind.i64.wrap (m.flushes + 1) }) (by show layAll m.laid m.pend = m2.laid; rw [hlaid, e1, e2]) rfl
        refine ⟨m2.flushes, p3.st.rdi 6 rfl, _, rfl, _, p3.st.sti 6 (.int .i64 (IntKind.i64.wrap (m2.flushes + 1))) (by simp [stC]), ?_⟩
        have hst : (stC bl r Sl.nil { m2 with pend := [] }).set 6 (.int .i64 (IntKind.i64.wrap (m2.flushes + 1))) = stC bl r Sl.nil { m1 with laid := layAll m.laid m.pend, pend := [], flushes := IntKind.i64.wrap (m.flushes + 1) } := by
          simp only [stC, q2, q3, q4, q5, q6, e4, layAll_len, e1]
          rfl
        rw [hst]
        refine hK _ Sl.nil ?_ (hh.1.mono fun x _ hf => .inl hf)
        refine ((hkF1.trans hkF2).trans (hk3.mono ?_)).trans (hh.2.mono ?_)
        · rintro x _ (e | e)
          · subst e; exact p.fb
          · subst e; exact p.fr
        · intro x _ e; subst e; exact p.fb
    · refine ⟨r, mm, c, seen, hit, hm2, ho.old, fun hall => ⟨rfl, hall⟩, fun x hx hs => ⟨x, hx, hs, get_set_same hlt2, rfl⟩⟩
end
end Go.Proofs.Ythpeadoidpimmaa
