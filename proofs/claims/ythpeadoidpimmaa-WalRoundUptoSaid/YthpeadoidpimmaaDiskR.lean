/- The document's disk on the heap, and what its calls do. No condition. -/
import Derived.Test.YthpeadoidpimmaaGRefA
import Derived.Test.YthpeadoidpimmaaDiskD
namespace Go.Proofs.Ythpeadoidpimmaa
open Go Tw
set_option linter.unusedVariables false
set_option linter.unusedSimpArgs false
set_option maxRecDepth 10000

def rsC (bl : Nat) (sw : Sl) (m : Md) : List Value :=
  [.slice (some (nA bl)) (m.laid.length * 128) (m.laid.length * 128), sw.v, .int .i64 m.fuse, .bool m.down, .int .i64 m.writes, .int .i64 m.flushes]

structure RDi (h : Hp) (b bl : Nat) (sw : Sl) (l : List (Wrt × Sl)) (m : Md) (F : Nat → Prop) : Prop where
  st : Bk h b (rsC bl sw m) 158
  laid : Bk h bl (m.laid.flatMap encS) 5
  wl : WLs h sw l F
  lp : l.map (·.1) = m.pend
  wf : m.Wf
  n1 : b ≠ bl
  n4 : ¬ sw.blk b
  n5 : ¬ sw.blk bl
  n6 : ∀ x ∈ l, ¬ x.2.blk b
  n7 : ∀ x ∈ l, ¬ x.2.blk bl
  fb : F b
  fl : F bl

section
variable {h : Hp} {b bl : Nat} {sw : Sl} {l : List (Wrt × Sl)} {m : Md} {F : Nat → Prop}

theorem RDi.kp {h' : Hp} {G : Nat → Prop} (p : RDi h b bl sw l m F) (hk : Kp G h h') (hd : ∀ x, x < h.size → F x → ¬ G x) : RDi h' b bl sw l m (fun x => F x ∧ x < h.size) :=
  ⟨p.st.kp hk (hd _ p.st.lt p.fb), p.laid.kp hk (hd _ p.laid.lt p.fl), p.wl.kp hk hd, p.lp, p.wf, p.n1, p.n4, p.n5, p.n6, p.n7, ⟨p.fb, p.st.lt⟩, ⟨p.fl, p.laid.lt⟩⟩
theorem RDi.mono {G : Nat → Prop} (p : RDi h b bl sw l m F) (hg : ∀ x, x < h.size → F x → G x) : RDi h b bl sw l m G :=
  ⟨p.st, p.laid, p.wl.mono hg, p.lp, p.wf, p.n1, p.n4, p.n5, p.n6, p.n7, hg _ p.st.lt p.fb, hg _ p.laid.lt p.fl⟩
theorem RDi.kpb {h' : Hp} (p : RDi h b bl sw l m F) (hk : Kp (fun _ => False) h h') : RDi h' b bl sw l m F := (p.kp hk (fun _ _ _ hf => hf)).mono fun _ _ hx => hx.1

theorem WLs.off {h' : Hp} {G P : Nat → Prop} (w : WLs h sw l G) (hk : Kp P h h') (h1 : ∀ x, sw.blk x → ¬ P x) (h2 : ∀ q ∈ l, ∀ x, q.2.blk x → ¬ P x) : WLs h' sw l G :=
  ⟨w.vec.kp hk h1, fun q hq => (w.dat q hq).kp hk (h2 q hq), w.fs, w.fd, w.sep, w.par⟩

theorem RDi.head {m' : Md} (p : RDi h b bl sw l m F) (h1 : m'.laid = m.laid) (h2 : m'.pend = m.pend) :
    RDi (setB h b (Cel (rsC bl sw m') 158)) b bl sw l m' F ∧ Kp (fun x => x = b) h (setB h b (Cel (rsC bl sw m') 158)) := by
  have hk : Kp (fun x => x = b) h (setB h b (Cel (rsC bl sw m') 158)) := Kp.set (F := fun x => x = b) (Kp.refl _ _) _ (.inr rfl)
  refine ⟨⟨p.st.set, ?_, WLs.off p.wl hk (fun x hx e => by subst e; exact p.n4 hx) (fun q hq x hx e => by subst e; exact p.n6 q hq hx), by rw [h2]; exact p.lp, p.wf.of h1 h2, p.n1, p.n4, p.n5, p.n6, p.n7, p.fb, p.fl⟩, hk⟩
  rw [h1]; exact p.laid.kp hk (fun e => p.n1 e.symm)

theorem RDi.len (p : RDi h b bl sw l m F) : sw.len = m.pend.length := by rw [p.wl.len, ← p.lp]; simp
theorem RDi.llen (p : RDi h b bl sw l m F) : l.length = m.pend.length := by rw [← p.lp]; simp

theorem ref2_Same_c {s : Sl} {bs : List UInt8} {K : Sl → Hp → Prop} (hs : Byt h s bs) (hb : bs.length ≤ 140737488355328)
    (hK : ∀ s' h', Kp (fun _ => False) h h' → Vec h' s' 1 5 (bs.map bv) → s' = ⟨some (nA h.size), bs.length, bs.length⟩ → Bk h' h.size (bs.map bv) 5 → K s' h') : ref2_Same s K h := by
  have hl := hs.len
  have hk1 : Kp (fun _ => False) h (h.push (Cel (zr [.int .u8 0] (bs.length * 1)) 5)) := Kp.push (Kp.refl _ _) _
  have hb1 := Bk.new h (zr [.int .u8 0] (bs.length * 1)) 5
  have hst := hb1.st0 (vs := bs.map bv) (by simp [zr_len])
  rw [show ref2_Same s K h = ref2_Same ⟨s.p, s.len, s.cap⟩ K h from rfl]
  unfold ref2_Same
  simp only [hl, Int.toNat_natCast]
  refine ⟨by omega, by omega, by omega, _, _, _, rfl, rfl, rfl, bs.map bv, setB (h.push (Cel (zr [.int .u8 0] (bs.length * 1)) 5)) h.size (Cel (bs.map bv) 5), _, ?_, oneC_bytes _, ?_, rfl, ?_⟩
  · have := Byt.rds (hs.kp hk1 fun _ _ h => h)
    rw [show Nat.min bs.length bs.length = s.len by rw [hl]; exact Nat.min_self _]
    exact this
  · show StL _ ((nA h.size).add 0) _ _
    rw [add_zero']; exact hst
  · refine hK _ _ (hk1.set _ (.inl (Nat.le_refl _))) ?_ rfl hb1.set
    refine ⟨by simp, Nat.le_refl _, rfl, _, hb1.set, by simp, by simp [List.take_of_length_le]⟩

theorem ref2_operation_c {K : Bool → Hp → Prop} (p : RDi h b bl sw l m F) (hd : m.down = false) (hK : ∀ h', Kp (fun x => x = b) h h' → RDi h' b bl sw l m.burn.2 F → K m.burn.1 h') : ref2_Disk_operation (some (nA b)) K h := by
  refine ⟨_, rfl, m.fuse, p.st.rdi 2 rfl, dcb (fun hz => ?_) fun hz => ⟨m.fuse, p.st.rdi 2 rfl, dcd (fun hg => ?_) fun hg => ?_⟩⟩
  · have e : m.burn = (false, { m with down := true }) := by unfold Md.burn; rw [if_neg (by simp [hd]), if_pos hz]
    rw [e] at hK
    have := p.head (m' := { m with down := true }) rfl rfl
    exact ⟨_, p.st.sti 3 (.bool true) (by simp [rsC]), hK _ this.2 this.1⟩
  · have e : m.burn = (true, { m with fuse := IntKind.i64.wrap (m.fuse - 1) }) := by unfold Md.burn; rw [if_neg (by simp [hd]), if_neg hz, if_pos hg]
    rw [e] at hK
    have := p.head (m' := { m with fuse := IntKind.i64.wrap (m.fuse - 1) }) rfl rfl
    exact ⟨m.fuse, p.st.rdi 2 rfl, _, rfl, _, p.st.sti 2 (.int .i64 (IntKind.i64.wrap (m.fuse - 1))) (by simp [rsC]), hK _ this.2 this.1⟩
  · have e : m.burn = (true, m) := by unfold Md.burn; rw [if_neg (by simp [hd]), if_neg hz, if_neg hg]
    rw [e] at hK
    exact hK h (Kp.refl _ _) p

theorem ref2_Sectors_none_c {K : Int → Hp → Prop} (hK : K 0 h) : ref2_Disk_Sectors none K h := isN0 hK
theorem ref2_Sectors_i {K : Int → Hp → Prop} (p : RDi h b bl sw l m F) (hK : K (m.laid.length : Int) h) : ref2_Disk_Sectors (some (nA b)) K h := by
  have hhi := p.wf.hi
  refine isN ⟨_, rfl, ⟨some (nA bl), m.laid.length * 128, m.laid.length * 128⟩, p.st.rdi 0 rfl, (m.laid.length : Int), ?_, hK⟩
  show (m.laid.length : Int) = IntKind.i64.wrap (Int.tdiv ((m.laid.length * 128 : Nat) : Int) 128)
  rw [tdiv128 (by omega)]
  omega

theorem ref2_Cut_none_c {a : Int} {K : Int → Hp → Prop} (hK : K 1 h) : ref2_Disk_Cut none a K h :=
  ⟨fun b h' => b = true ∧ h' = h, by rintro b h' ⟨rfl, rfl⟩; exact ⟨fun _ => hK, fun h => (nomatch h)⟩, isN0 ⟨rfl, rfl⟩⟩
theorem ref2_Cut_i {a : Int} {K : Int → Hp → Prop} (p : RDi h b bl sw l m F) (hK : ∀ h', Kp (fun x => x = b) h h' → RDi h' b bl sw l (m.cut a).2 F → K (m.cut a).1 h') : ref2_Disk_Cut (some (nA b)) a K h := by
  refine ⟨fun c h' => c = decide (a < 0) ∧ h' = h, ?_, isN ⟨rfl, rfl⟩⟩
  rintro c h' ⟨rfl, rfl⟩
  refine dcd (fun hn => ?_) (fun hn => ⟨_, rfl, m.down, p.st.rdi 3 rfl, fun hd => ?_, fun hd => ?_⟩)
  · have e : m.cut a = (1, m) := by unfold Md.cut; rw [if_pos hn]
    rw [e] at hK
    exact hK _ (Kp.refl _ _) p
  · have e : m.cut a = (2, m) := by unfold Md.cut; rw [if_neg hn, if_pos hd]
    rw [e] at hK
    exact hK _ (Kp.refl _ _) p
  · have e : m.cut a = (0, { m with fuse := a }) := by unfold Md.cut; rw [if_neg hn, if_neg (by simp [hd])]
    rw [e] at hK
    have := p.head (m' := { m with fuse := a }) rfl rfl
    exact ⟨_, p.st.sti 2 (.int .i64 a) (by simp [rsC]), hK _ this.2 this.1⟩

theorem ref2_Stat_none_c {K : Int → Int → Int → Bool → Hp → Prop} (hK : ∀ h', Kp (fun _ => False) h h' → K 0 0 0 false h') : ref2_Disk_Stat none K h := by
  have hb := Bk.new h [.int .i64 0, .int .i64 0, .int .i64 0, .bool false] 51
  refine ⟨_, _, rfl, rfl, isN0 ⟨_, hb.st0 rfl, 0, 0, 0, false, hb.set.rd0, hK _ ?_⟩⟩
  exact (Kp.push (Kp.refl _ _) _).set _ (.inl (Nat.le_refl _))
theorem ref2_Stat_i {K : Int → Int → Int → Bool → Hp → Prop} (p : RDi h b bl sw l m F) (hK : ∀ h', Kp (fun _ => False) h h' → K m.writes m.flushes (m.pend.length : Int) m.down h') : ref2_Disk_Stat (some (nA b)) K h := by
  have hb := Bk.new h [.int .i64 0, .int .i64 0, .int .i64 0, .bool false] 51
  refine ⟨_, _, rfl, rfl, isN ⟨_, rfl, m.writes, (p.st.push _).rdi 4 rfl, m.flushes, (p.st.push _).rdi 5 rfl, sw, (p.st.push _).rdi 1 rfl, m.down, (p.st.push _).rdi 3 rfl, _, hb.st0 rfl, m.writes, m.flushes, (m.pend.length : Int), m.down, ?_, hK _ ?_⟩⟩
  · rw [RDi.len p]; exact hb.set.rd0
  · exact (Kp.push (Kp.refl _ _) _).set _ (.inl (Nat.le_refl _))

theorem ref2_mk (h1 : Hp) (q : Nat) (m : Md) {G : Nat → Prop} (hb : Bk h1 q (m.laid.flatMap encS) 5) (hw : m.Wf) (hp : m.pend = []) (hG : G q) (hG2 : G h1.size) :
    RDi (h1.push (Cel (rsC q Sl.nil m) 158)) h1.size q Sl.nil [] m G := by
  have := hb.lt
  exact ⟨Bk.new h1 _ 158, hb.push _, WLs.nil _ _, by rw [hp]; rfl, hw, by omega, by simp [Sl.blk], by simp [Sl.blk], by simp, by simp, hG2, hG⟩

theorem ref2_New_c {n : Int} {K : Option Addr → Int → Hp → Prop} (hbad : n < 1 ∨ 4096 < n → K none 1 h)
    (hK : 1 ≤ n → n ≤ 4096 → ∀ h' b bl, Kp (fun _ => False) h h' → RDi h' b bl Sl.nil [] (Md.new n.toNat) (fun x => h.size ≤ x) → K (some (nA b)) 0 h') : ref2_New n K h := by
  refine ⟨fun b h' => h' = h ∧ b = decide (n < 1 ∨ n > 4096), ?_, dcd (fun hn => ⟨rfl, by simp [hn]⟩) (fun hn => ⟨rfl, by simp [hn]⟩)⟩
  rintro b h' ⟨rfl, rfl⟩
  refine dcd (fun hn => hbad (by omega)) (fun hn => ?_)
  have h1 : 1 ≤ n := by omega
  have h2 : n ≤ 4096 := by omega
  obtain ⟨k, rfl⟩ := Int.eq_ofNat_of_zero_le (show 0 ≤ n by omega)
  refine ⟨((k * 128 : Nat) : Int), ?_, by omega, by omega, by omega, _, _, _, rfl, rfl, rfl, _, _, rfl, rfl, ?_⟩
  · unfold Wr; rw [wrap_i64 (by omega) (by omega)]; omega
  simp only [Int.toNat_natCast]
  have hl := Bk.new h' (zr [.int .u8 0] (k * 128 * 1)) 5
  have e1 : zr [.int .u8 0] (k * 128 * 1) = (Md.new k).laid.flatMap encS := by
    have := zr_zero (k * 128 * 1) 1 (by omega)
    show zr [.int .u8 0] (k * 128 * 1) = (List.replicate k (List.replicate 128 (0 : UInt8))).flatMap encS
    rw [flat_zero]
    have e : zr [.int .u8 0] (k * 128 * 1) = List.replicate (k * 128 * 1) (bv 0) := this
    rw [e, Nat.mul_one]
  have hk1 : Kp (fun _ => False) h' (h'.push (Cel (zr [.int .u8 0] (k * 128 * 1)) 5)) := Kp.push (Kp.refl _ _) _
  rw [e1] at hl hk1 ⊢
  have hsz := hl.lt
  generalize h'.push (Cel ((Md.new k).laid.flatMap encS) 5) = h3 at *
  have := ref2_mk h3 h'.size (Md.new k) (G := fun x => h'.size ≤ x) hl (Md.Wf.new (by omega) (by omega)) rfl (Nat.le_refl _) (by omega)
  have e2 : rsC h'.size Sl.nil (Md.new k) = [(⟨some (nA h'.size), k * 128, k * 128⟩ : Sl).v, .slice none 0 0, .int .i64 (-1), .bool false, .int .i64 0, .int .i64 0] := by simp [rsC, Md.new]
  rw [e2] at this
  exact hK h1 h2 _ _ _ (hk1.push _) this

theorem chunks_flat : ∀ (n : Nat) (bs : List UInt8), bs.length = n * 128 → (chunks n bs).flatMap encS = bs.map bv
  | 0, bs, h => by
    have : bs = [] := List.length_eq_zero_iff.1 (by omega)
    subst this; rfl
  | n + 1, bs, h => by
    simp only [chunks, List.flatMap_cons]
    rw [chunks_flat n (bs.drop 128) (by simp; omega)]
    simp only [encS]
    rw [← List.map_append, List.take_append_drop]

theorem ref2_Load_c {s : Sl} {bs : List UInt8} {K : Option Addr → Int → Hp → Prop} (hs : Byt h s bs) (hlen : bs.length ≤ 140737488355328)
    (hbad : badImage bs = true → K none 22 h)
    (hK : badImage bs = false → ∀ h' b bl, Kp (fun _ => False) h h' → RDi h' b bl Sl.nil [] (Md.load bs) (fun x => h.size ≤ x) → K (some (nA b)) 0 h') : ref2_Load s K h := by
  have hsl := hs.len
  refine ⟨((bs.length / 128 : Nat) : Int), ?_, fun c h' => h' = h ∧ c = badImage bs, ?_, ((bs.length % 128 : Nat) : Int), ?_, dcn (fun hn => ⟨rfl, ?_⟩) (fun hn => dcd (fun hn2 => ⟨rfl, ?_⟩) (fun hn2 => ⟨rfl, ?_⟩))⟩
  · rw [hsl, tdiv128 (by omega)]
  · rintro c h' ⟨rfl, rfl⟩
    refine ⟨hbad, fun hb => ?_⟩
    have hK := hK hb
    have hb' : bs.length % 128 = 0 ∧ 1 ≤ bs.length / 128 ∧ bs.length / 128 ≤ 4096 := by
      simp [badImage] at hb
      omega
    obtain ⟨g1, g2, g3⟩ := hb'
    refine ref2_Same_c hs hlen fun s1 h1 hk1 hv1 hs1 hb1 => ?_
    subst hs1
    have e1 : bs.map bv = (Md.load bs).laid.flatMap encS := (chunks_flat _ _ (by omega)).symm
    rw [e1] at hb1
    have hsz := hb1.lt
    have := ref2_mk h1 h'.size (Md.load bs) (G := fun x => h'.size ≤ x) hb1 (Md.Wf.load g1 g2 g3) rfl (Nat.le_refl _) (by omega)
    have hll : (Md.load bs).laid.length * 128 = bs.length := by simp [Md.load, chunks_len]; omega
    have e2 : rsC h'.size Sl.nil (Md.load bs) = [(⟨some (nA h'.size), bs.length, bs.length⟩ : Sl).v, .slice none 0 0, .int .i64 (-1), .bool false, .int .i64 0, .int .i64 0] := by
      unfold rsC; rw [hll]; rfl
    rw [e2] at this
    exact ⟨_, _, rfl, rfl, hK _ _ _ (hk1.push _) this⟩
  · rw [hsl, tmod128]
  · simp [badImage]; omega
  · simp [badImage]; omega
  · simp only [badImage]
    have h1 : (bs.length % 128 != 0) = false := by simp; omega
    have h2 : decide (bs.length / 128 < 1) = false := by simp; omega
    rw [h1, h2]
    simp; omega

theorem wl_at (p : RDi h b bl sw l m F) {i : Nat} (hi : i < m.pend.length) : ∃ a q, sw.p = some a ∧ a.spot = none ∧ l[i]? = some q ∧ m.pend[i]? = some q.1 ∧ RdL h (a.add (i * 2)) [.int .i64 q.1.1, q.2.v] := by
  have hll := RDi.llen p
  obtain ⟨a, ha⟩ := p.wl.vec.ptr (by rw [RDi.len p]; omega)
  have hq : l[i]? = some l[i] := by simp [show i < l.length by omega]
  refine ⟨a, l[i], ha, vec_spot p.wl.vec ha, hq, ?_, ?_⟩
  · rw [← p.lp, List.getElem?_map, hq]; rfl
  · exact p.wl.vec.rdl ha fun j v hj => flat_get (fun x : Wrt × Sl => [.int .i64 x.1.1, x.2.v]) 2 l (fun _ _ => rfl) i _ hq j v hj

theorem ref2_newest_i {at_ : Nat} {K : Sl → Hp → Prop} (p : RDi h b bl sw l m F) (hat : at_ < m.laid.length) (hpl : m.pend.length < 9223372036854775807)
    (hK : ∀ s, Byt h s (m.newest at_) → K s h) : ref2_Disk_newest (some (nA b)) (at_ : Int) K h := by
  have hhi := p.wf.hi
  refine ⟨_, rfl, sw, p.st.rdi 1 rfl, (sw.len : Int) - 1, Wr.i64 (by omega) (by rw [RDi.len p]; omega), ?_⟩
  refine ⟨fun k i h' => ∃ j : Nat, i = (j : Int) - 1 ∧ j ≤ m.pend.length ∧ k = j ∧ h' = h ∧ lastW m.pend at_ = lastW (m.pend.take j) at_, ⟨_, m.pend.length, by rw [RDi.len p], by omega, rfl, rfl, by rw [List.take_length]⟩, ?_⟩
  rintro k i h' ⟨j, rfl, hj, rfl, rfl, hw⟩
  refine dcd (fun hge => ?_) (fun hlt => ?_)
  · have hj1 : k - 1 < m.pend.length := by omega
    obtain ⟨a, q, ha, hsp, hq, hpq, hr⟩ := wl_at p hj1
    have ei : Int.toNat ((k : Int) - 1) = k - 1 := by omega
    have hlast : lastW m.pend at_ = if (at_ : Int) == q.1.1 then some q.1.2 else lastW (m.pend.take (k - 1)) at_ := by
      rw [hw, ← lastW_snoc]
      congr 1
      have : k = (k - 1) + 1 := by omega
      conv => lhs; rw [this]
      rw [List.take_add_one, hpq]; rfl
    refine ⟨sw, p.st.rdi 1 rfl, a, ha, by omega, by rw [RDi.len p]; omega, q.1.1, ?_, dcb (fun he => ?_) (fun hne => ?_)⟩
    · rw [ei]; exact hr 0 _ rfl
    · refine ⟨sw, p.st.rdi 1 rfl, a, ha, by omega, by rw [RDi.len p]; omega, q.2, ?_, hK _ ?_⟩
      · rw [ei]; exact hr 1 _ rfl
      · have : m.newest at_ = q.1.2 := by
          unfold Md.newest
          rw [hlast, if_pos (by simp [he])]; rfl
        rw [this]
        exact Byt.of_vec (p.wl.dat q (List.mem_of_getElem? hq))
    · refine ⟨_, Wr.i64 (by omega) (by omega), k - 1, by omega, k - 1, by omega, by omega, rfl, rfl, ?_⟩
      rw [hlast, if_neg (by simp; omega)]
  · have hk0 : k = 0 := by omega
    subst hk0
    have e0 : lastW m.pend at_ = none := by rw [hw]; rfl
    have hn : m.newest at_ = m.laid[at_] := by
      unfold Md.newest; rw [e0]; simp [hat]
    have w1 : Wr .i64 (128 * (at_ : Int)) (128 * (at_ : Int)) := Wr.i64 (by omega) (by omega)
    refine ⟨⟨some (nA bl), m.laid.length * 128, m.laid.length * 128⟩, p.st.rdi 0 rfl, _, w1, _, w1, 128 * (at_ : Int) + 128, Wr.i64 (by omega) (by omega), by omega, by omega, by show _ ≤ ((m.laid.length * 128 : Nat) : Int); omega, _, rfl, hK _ ?_⟩
    have e1 : Int.toNat (128 * (at_ : Int)) = at_ * 128 := by omega
    have e2 : Int.toNat (128 * (at_ : Int) + 128) = at_ * 128 + 128 := by omega
    have e3 : slS ⟨some (nA bl), m.laid.length * 128, m.laid.length * 128⟩ 1 (Int.toNat (128 * (at_ : Int))) (Int.toNat (128 * (at_ : Int) + 128)) = ⟨some ((nA bl).add (at_ * 128)), 128, m.laid.length * 128 - at_ * 128⟩ := by
      simp only [slS, e1, e2]
      rw [if_neg (by omega)]
      simp
    rw [e3, hn]
    have hsl : m.laid[at_].length = 128 := p.wf.sec _ (List.getElem_mem hat)
    refine ⟨hsl.symm, by show 128 ≤ m.laid.length * 128 - at_ * 128; omega, ?_⟩
    show RdL _ _ _
    rw [add_nA]
    refine RdL.of_bk p.laid fun j v hj => ?_
    rw [Nat.zero_add]
    exact flat_get encS 128 m.laid (fun s hs => by simp [encS, p.wf.sec s hs]) _ _ (by simp [hat]) j v hj

theorem ref2_Read_none_c {at_ : Int} {K : Sl → Int → Hp → Prop} (hK : K Sl.nil 1 h) : ref2_Disk_Read none at_ K h := isN0 hK
theorem ref2_Read_i {at_ : Int} {K : Sl → Int → Hp → Prop} (p : RDi h b bl sw l m F) (hpl : m.pend.length < 9223372036854775807)
    (hK : ∀ s h', Kp (fun _ => False) h h' → Vec h' s 1 5 ((m.read at_).1.map bv) → (∀ x, s.blk x → h.size ≤ x) → K s (m.read at_).2 h') : ref2_Disk_Read (some (nA b)) at_ K h := by
  refine isN ⟨fun c h' => h' = h ∧ c = decide (at_ < 0 ∨ (m.laid.length : Int) ≤ at_), ?_, dcd (fun hn => ⟨rfl, by simp [hn]⟩) (fun hn => ref2_Sectors_i p ⟨rfl, by simp [hn]⟩)⟩
  rintro c h' ⟨rfl, rfl⟩
  have hnil : ∀ x, Sl.nil.blk x → h'.size ≤ x := by simp [Sl.blk]
  refine dcd (fun hn => ?_) (fun hn => ⟨_, rfl, m.down, p.st.rdi 3 rfl, fun hd => ?_, fun hd => ?_⟩)
  · have e : m.read at_ = ([], 20) := by unfold Md.read; rw [if_pos hn]
    rw [e] at hK
    exact hK Sl.nil _ (Kp.refl _ _) (Vec.nil _ _ _) hnil
  · have e : m.read at_ = ([], 2) := by unfold Md.read; rw [if_neg hn, if_pos hd]
    rw [e] at hK
    exact hK Sl.nil _ (Kp.refl _ _) (Vec.nil _ _ _) hnil
  · have e : m.read at_ = (m.newest at_.toNat, 0) := by unfold Md.read; rw [if_neg hn, if_neg (by simp [hd])]
    rw [e] at hK
    obtain ⟨k, rfl⟩ := Int.eq_ofNat_of_zero_le (show 0 ≤ at_ by omega)
    have hk : k < m.laid.length := by omega
    have hlen := Md.newest_len p.wf hk
    refine ref2_newest_i p hk hpl fun s hs => ?_
    refine ref2_Same_c hs (by omega) fun s1 h1 hk1 hv1 hs1 hb1 => ?_
    refine hK s1 h1 hk1 hv1 fun x hx => ?_
    subst hs1
    obtain ⟨a, ha, rfl⟩ := hx
    cases ha
    exact Nat.le_refl _

theorem splice_more {L : List Value} {o i : Nat} {data : List UInt8} (hi : i < data.length) (ho : o + data.length ≤ L.length) :
    (splice L o ((data.take i).map bv)).set (o + i) (bv data[i]) = splice L o ((data.take (i + 1)).map bv) := by
  apply List.ext_getElem?
  intro j
  have hl1 : (L.take o).length = o := by simp; omega
  have hl2 : ((data.take i).map bv).length = i := by simp; omega
  have hl3 : ((data.take (i + 1)).map bv).length = i + 1 := by simp; omega
  have hsl : (splice L o ((data.take i).map bv)).length = L.length := splice_len (by omega)
  have hsl2 : (splice L o ((data.take (i + 1)).map bv)).length = L.length := splice_len (by omega)
  rw [List.getElem?_set]
  by_cases hj : o + i = j
  · subst hj
    rw [if_pos rfl, if_pos (by rw [hsl]; omega)]
    unfold splice
    rw [List.getElem?_append_left (by simp; omega), List.getElem?_append_right (by omega), hl1]
    rw [show o + i - o = i by omega, List.getElem?_map, List.getElem?_take, if_pos (by omega), List.getElem?_eq_getElem hi]
    rfl
  · rw [if_neg hj]
    unfold splice
    rw [hl2, hl3]
    by_cases h1 : j < o
    · rw [List.getElem?_append_left (by simp; omega), List.getElem?_append_left (by omega), List.getElem?_append_left (by simp; omega), List.getElem?_append_left (by omega)]
    · by_cases h2 : j < o + i
      · rw [List.getElem?_append_left (by simp; omega), List.getElem?_append_right (by omega), List.getElem?_append_left (by simp; omega), List.getElem?_append_right (by omega), hl1]
        rw [List.getElem?_map, List.getElem?_map, List.getElem?_take, List.getElem?_take, if_pos (by omega), if_pos (by omega)]
      · rw [List.getElem?_append_right (by simp; omega), List.getElem?_append_right (by simp; omega), List.getElem?_drop, List.getElem?_drop]
        congr 1
        simp only [List.length_append, hl1, hl2, hl3]
        omega

theorem ref2_lay_i {at_ : Nat} {s : Sl} {data : List UInt8} {K : Hp → Prop} (p : RDi h b bl sw l m F) (hs : Byt h s data) (hd : data.length = 128) (hat : at_ < m.laid.length)
    (hsb : ∀ a, s.p = some a → a.block ≠ bl)
    (hK : ∀ h', Kp (fun x => x = bl) h h' → RDi h' b bl sw l { m with laid := m.laid.set at_ data } F → K h') : ref2_Disk_lay (some (nA b)) (at_ : Int) s K h := by
  have hhi := p.wf.hi
  have hk0 : Kp (fun _ => False) h (h.push (Cel [.int .i64 (at_ : Int), s.v] 156)) := Kp.push (Kp.refl _ _) _
  have hnb := Bk.new h [.int .i64 (at_ : Int), s.v] 156
  have hfl := flat_len encS 128 m.laid (fun s hs => by simp [encS, p.wf.sec s hs])
  refine ⟨_, _, rfl, rfl, fun k i h1 => ∃ j : Nat, i = j ∧ j ≤ 128 ∧ k = 128 - j ∧ Kp (fun x => x = bl) h h1 ∧ Bk h1 bl (splice (m.laid.flatMap encS) (at_ * 128) ((data.take j).map bv)) 5 ∧ Bk h1 h.size [.int .i64 (at_ : Int), s.v] 156,
    ⟨_, 0, rfl, by omega, rfl, hk0.mono fun _ _ h => h.elim, ?_, hnb⟩, ?_⟩
  · have : splice (m.laid.flatMap encS) (at_ * 128) ((data.take 0).map bv) = m.laid.flatMap encS := by simp [splice]
    rw [this]; exact p.laid.push _
  rintro k i h1 ⟨j, rfl, hj, rfl, hk1, hb1, hn1⟩
  have hbn : bl ≠ h.size := by have := p.laid.lt; omega
  refine dcd (fun hlt => ?_) (fun hge => ?_)
  · have hlt' : j < data.length := by omega
    have hs1 := hs.kp hk1 hsb
    obtain ⟨a, ha, hr⟩ := hs1.at hlt'
    have hst1 := p.st.kp hk1 p.n1
    have hlen1 : (splice (m.laid.flatMap encS) (at_ * 128) ((data.take j).map bv)).length = m.laid.length * 128 := by
      rw [splice_len (by rw [hfl, List.length_map, List.length_take]; omega), hfl]
    have e1 : Int.toNat (128 * (at_ : Int) + (j : Int)) = at_ * 128 + j := by omega
    refine ⟨_, rfl, ⟨some (nA bl), m.laid.length * 128, m.laid.length * 128⟩, hst1.rdi 0 rfl, (at_ : Int), hn1.rdi 0 rfl, _, Wr.i64 (by omega) (by omega), _, Wr.i64 (by omega) (by omega), s, hn1.rdi 1 rfl, a, ha, by omega, by rw [hs.len]; omega, (data[j].toNat : Int), ?_, nA bl, rfl, by omega, ?_,
      setB h1 bl (Cel ((splice (m.laid.flatMap encS) (at_ * 128) ((data.take j).map bv)).set (at_ * 128 + j) (bv data[j])) 5), ?_, _, Wr.i64 (by omega) (by omega), 128 - (j + 1), by omega, j + 1, by omega, by omega, rfl, ?_, ?_, ?_⟩
    · rw [Nat.mul_one, Int.toNat_natCast]; exact hr
    · show _ < ((m.laid.length * 128 : Nat) : Int); omega
    · rw [e1, Nat.mul_one]
      exact hb1.sti _ _ (by rw [hlen1]; omega)
    · exact hk1.set _ (.inr rfl)
    · rw [splice_more hlt' (by omega)]; exact hb1.set
    · exact hn1.set_ne hbn
  · have hj8 : j = 128 := by omega
    subst hj8
    rw [List.take_of_length_le (by omega)] at hb1
    have e := flat_set encS 128 m.laid (fun s hs => by simp [encS, p.wf.sec s hs]) at_ data (by simp [encS, hd]) hat
    have hb1' : Bk h1 bl ((m.laid.set at_ data).flatMap encS) 5 := by rw [← e]; exact hb1
    refine hK h1 hk1 ⟨?_, hb1', WLs.off p.wl hk1 (fun x hx e => p.n5 (e ▸ hx)) (fun q hq x hx e => p.n7 q hq (e ▸ hx)), p.lp, ⟨?_, ?_, ?_, ?_⟩, p.n1, p.n4, p.n5, p.n6, p.n7, p.fb, p.fl⟩
    · have := p.st.kp hk1 p.n1
      simpa [rsC] using this
    · simpa using p.wf.lo
    · simpa using p.wf.hi
    · intro s hs
      rcases List.mem_or_eq_of_mem_set hs with h | rfl
      · exact p.wf.sec s h
      · exact hd
    · simpa using p.wf.pen

theorem ref2_Write_none_c {at_ : Int} {s : Sl} {K : Int → Hp → Prop} (hK : K 1 h) : ref2_Disk_Write none at_ s K h := isN0 hK
theorem ref2_Write_i {at_ : Int} {s : Sl} {data : List UInt8} {K : Int → Hp → Prop} (p : RDi h b bl sw l m F) (hs : Byt h s data) (hsF : ∀ a, s.p = some a → data ≠ [] → ¬ F a.block)
    (hcap : (m.pend.length + 1) * 32 ≤ 140737488355328)
    (hK : ∀ h' sw' l', Kp F h h' → RDi h' b bl sw' l' (m.write at_ data).2 (fun x => F x ∨ h.size ≤ x) → K (m.write at_ data).1 h') : ref2_Disk_Write (some (nA b)) at_ s K h := by
  refine isN ⟨fun c h' => h' = h ∧ c = decide (at_ < 0 ∨ (m.laid.length : Int) ≤ at_), ?_, dcd (fun hn => ⟨rfl, by simp [hn]⟩) (fun hn => ref2_Sectors_i p ⟨rfl, by simp [hn]⟩)⟩
  rintro c h' ⟨rfl, rfl⟩
  have hF : ∀ x, x < h'.size → F x → F x ∨ h'.size ≤ x := fun _ _ h => .inl h
  refine dcd (fun hn => ?_) (fun hn => dcn (fun hl => ?_) (fun hl => ⟨_, rfl, m.down, p.st.rdi 3 rfl, fun hd => ?_, fun hd => ?_⟩))
  · have e : m.write at_ data = (20, m) := by unfold Md.write; rw [if_pos hn]
    rw [e] at hK
    exact hK _ _ _ (Kp.refl _ _) (p.mono hF)
  · have hl' : data.length ≠ 128 := by rw [hs.len] at hl; omega
    have e : m.write at_ data = (21, m) := by unfold Md.write; rw [if_neg hn, if_pos hl']
    rw [e] at hK
    exact hK _ _ _ (Kp.refl _ _) (p.mono hF)
  · have hl' : data.length = 128 := by rw [hs.len] at hl; omega
    have eb : m.burn = (false, m) := by unfold Md.burn; rw [if_pos hd]
    have e : m.write at_ data = (2, m) := by unfold Md.write; rw [if_neg hn, if_neg (by omega), eb]; rfl
    rw [e] at hK
    exact hK _ _ _ (Kp.refl _ _) (p.mono hF)
  · have hl' : data.length = 128 := by rw [hs.len] at hl; omega
    refine ref2_operation_c p hd fun h1 hk1 p1 => ?_
    have hkF1 : Kp F h' h1 := hk1.mono fun x _ e => by subst e; exact p.fb
    have hbl := m.burn_laid
    have e : m.write at_ data = if m.burn.1 then (0, { m.burn.2 with pend := m.pend ++ [(at_, data)], writes := IntKind.i64.wrap (m.writes + 1) }) else (2, m.burn.2) := by
      unfold Md.write; rw [if_neg hn, if_neg (by omega)]
    cases hb1 : m.burn.1 with
    | false =>
      rw [hb1] at e
      simp only [Bool.false_eq_true, if_false] at e
      rw [e] at hK
      exact ⟨fun _ => hK _ _ _ hkF1 (p1.mono fun x hx hf => .inl hf), fun h => by simp at h⟩
    | true =>
      rw [hb1] at e
      simp only [if_true] at e
      rw [e] at hK
      refine ⟨fun h => by simp at h, fun _ => ?_⟩
      have hw := Md.Wf.write p.wf at_ data
      rw [e] at hw
      generalize m.burn.2 = m1 at *
      obtain ⟨e1, e2, e3, e4⟩ := hbl
      have hs1 := hs.kpo hk1 (fun a ha hne he => hsF a ha hne (he ▸ p.fb))
      refine ⟨sw, p1.st.rdi 1 rfl, ?_⟩
      refine ref2_Same_c hs1 (by omega) fun s2 h2 hk2 hv2 hs2 hb2 => ?_
      have p2 := RDi.kpb p1 hk2
      have hk3 : Kp (fun _ => False) h2 (h2.push (Cel [.int .i64 at_, s2.v] 156)) := Kp.push (Kp.refl _ _) _
      have p3 := RDi.kpb p2 hk3
      refine ⟨p2.st.rdi 1 rfl, _, _, _, rfl, rfl, rfl, p3.st.rdi 1 rfl, ?_⟩
      have hv3 := hv2.kp hk3 fun _ _ h => h
      have hbs2 : ∀ x, s2.blk x → x = h1.size := by
        rintro x ⟨a, ha, rfl⟩; subst hs2; cases ha; rfl
      have hsz2 := hb2.lt
      have hkk := hk2.trans hk3
      have wl3 : WLs (h2.push (Cel [.int .i64 at_, s2.v] 156)) sw l (fun x => F x ∧ x < h1.size) := p1.wl.kp hkk fun _ _ _ h => h
      refine wl3.app hv3 (fun x hx hG => by have := hbs2 x hx; omega) ⟨rfl, (Bk.new h2 [.int .i64 at_, s2.v] 156).rd0⟩ rfl (by rw [RDi.len p]; exact hcap) ?_
      intro s4 h4 wl4 hk4 hb4
      have hsz3 : (h2.push (Cel [.int .i64 at_, s2.v] 156)).size = h2.size + 1 := by simp
      generalize h2.push (Cel [.int .i64 at_, s2.v] 156) = h3 at *
      have hbs := p.st.lt
      have hls := p.laid.lt
      have hz1 := hkF1.size
      have hnot : ∀ y, y < h3.size → s4.blk y → sw.blk y := by
        intro y hy hx
        rcases hb4 y hx with h | h
        · exact h
        · omega
      have hst4 := p3.st.kp hk4 p.n4
      have hla4 := p3.laid.kp hk4 p.n5
      have hst5 : Bk (setB h4 b (Cel (rsC bl s4 m1) 158)) b (rsC bl s4 m1) 158 := hst4.set
      refine ⟨_, hst4.sti 1 s4.v (by simp [rsC]), m1.writes, hst5.rdi 4 rfl, _, rfl, _, hst5.sti 4 (.int .i64 (IntKind.i64.wrap (m1.writes + 1))) (by simp [rsC]), ?_⟩
      have hk6 : Kp (fun x => x = b) h4 (setB (setB h4 b (Cel (rsC bl s4 m1) 158)) b (Cel ((rsC bl s4 m1).set 4 (.int .i64 (IntKind.i64.wrap (m1.writes + 1)))) 158)) := Kp.set (F := fun x => x = b) (Kp.set (F := fun x => x = b) (Kp.refl _ _) _ (.inr rfl)) _ (.inr rfl)
      have hnb : ∀ q ∈ l ++ [((at_, data), s2)], ¬ q.2.blk b ∧ ¬ q.2.blk bl := by
        intro q hq
        rcases List.mem_append.1 hq with hq | hq
        · exact ⟨p.n6 q hq, p.n7 q hq⟩
        · simp at hq; subst hq
          exact ⟨fun hx => by have := hbs2 _ hx; omega, fun hx => by have := hbs2 _ hx; omega⟩
      refine hK _ s4 (l ++ [((at_, data), s2)]) ?_ ⟨?_, ?_, (WLs.off wl4 hk6 (fun x hx e => by subst e; exact p.n4 (hnot _ (by omega) hx)) (fun q hq x hx e => by subst e; exact (hnb q hq).1 hx)).mono ?_, ?_, hw, p.n1, ?_, ?_, fun q hq => (hnb q hq).1, fun q hq => (hnb q hq).2, .inl p.fb, .inl p.fl⟩
      · refine ((hkF1.trans (hkk.mono fun _ _ h => h.elim)).trans (hk4.mono fun x _ hx => p.wl.fs x hx)).trans (hk6.mono fun x _ e => by subst e; exact p.fb)
      · rw [← e3]
        exact hst5.set (l' := (rsC bl s4 m1).set 4 (.int .i64 (IntKind.i64.wrap (m1.writes + 1))))
      · exact hla4.kp hk6 (fun e => p.n1 e.symm)
      · rintro x _ (h | h | h)
        · exact .inl h.1
        · have := hbs2 x h; exact .inr (by omega)
        · exact .inr (by have := hkk.size; omega)
      · rw [List.map_append, p.lp]; rfl
      · exact fun hx => p.n4 (hnot _ (by omega) hx)
      · exact fun hx => p.n5 (hnot _ (by omega) hx)

theorem ref2_Flush_none_c {K : Int → Hp → Prop} (hK : K 1 h) : ref2_Disk_Flush none K h := isN0 hK

/-- Nothing waits any more. -/
theorem RDi.clear {h' : Hp} {m' : Md} (p : RDi h b bl sw l m F) (hk : Kp (fun x => x = b) h h') (hst : Bk h' b (rsC bl Sl.nil m') 158) (h1 : m'.laid = m.laid) (h2 : m'.pend = []) : RDi h' b bl Sl.nil [] m' F := by
  refine ⟨hst, ?_, WLs.nil _ _, h2.symm, ⟨?_, ?_, ?_, ?_⟩, p.n1, by simp [Sl.blk], by simp [Sl.blk], by simp, by simp, p.fb, p.fl⟩
  · rw [h1]; exact p.laid.kp hk fun e => p.n1 e.symm
  · rw [h1]; exact p.wf.lo
  · rw [h1]; exact p.wf.hi
  · rw [h1]; exact p.wf.sec
  · rw [h2]; simp

theorem ref2_Flush_i {K : Int → Hp → Prop} (p : RDi h b bl sw l m F) (hpl : m.pend.length < 9223372036854775807)
    (hK : ∀ h' sw' l', Kp F h h' → RDi h' b bl sw' l' m.flush.2 (fun x => F x ∨ h.size ≤ x) → K m.flush.1 h') : ref2_Disk_Flush (some (nA b)) K h := by
  have e : m.flush = if m.burn.1 then (0, { m.burn.2 with laid := layAll m.laid m.pend, pend := [], flushes := IntKind.i64.wrap (m.flushes + 1) }) else (2, m.burn.2) := rfl
  refine isN ⟨_, rfl, m.down, p.st.rdi 3 rfl, fun hd => ?_, fun hd => ?_⟩
  · have eb : m.burn = (false, m) := by unfold Md.burn; rw [if_pos hd]
    rw [eb] at e
    simp only [Bool.false_eq_true, if_false] at e
    rw [e] at hK
    exact hK _ _ _ (Kp.refl _ _) (p.mono fun _ _ h => .inl h)
  refine ref2_operation_c p hd fun h1 hk1 p1 => ?_
  have hkF1 : Kp F h h1 := hk1.mono fun x _ e => by subst e; exact p.fb
  have hbl := m.burn_laid
  cases hb1 : m.burn.1 with
  | false =>
    rw [hb1] at e
    simp only [Bool.false_eq_true, if_false] at e
    rw [e] at hK
    exact ⟨fun _ => hK _ _ _ hkF1 (p1.mono fun x hx hf => .inl hf), fun h => by simp at h⟩
  | true =>
    rw [hb1] at e
    simp only [if_true] at e
    rw [e] at hK
    refine ⟨fun h => by simp at h, fun _ => ?_⟩
    generalize m.burn.2 = m1 at *
    obtain ⟨e1, e2, e3, e4⟩ := hbl
    have hpl1 : m1.pend.length < 9223372036854775807 := by rw [e2]; exact hpl
    refine ⟨fun k i h2 => ∃ j : Nat, i = j ∧ j ≤ m1.pend.length ∧ k = m1.pend.length - j ∧ RDi h2 b bl sw l { m1 with laid := layAll m1.laid (m1.pend.take j) } F ∧ Kp F h1 h2, ⟨_, 0, rfl, by omega, rfl, ?_, Kp.refl _ _⟩, ?_⟩
    · simpa [layAll] using p1
    rintro k i h2 ⟨j, rfl, hj, rfl, p2, hk2⟩
    have hsl : sw.len = m1.pend.length := by have := RDi.len p2; exact this
    refine ⟨sw, p2.st.rdi 1 rfl, dcd (fun hlt => ?_) (fun hge => ?_)⟩
    · have hj1 : j < m1.pend.length := by omega
      obtain ⟨a, q, ha, hsp, hq, hpq, hr⟩ := wl_at p2 hj1
      have hpq' : m1.pend[j]? = some q.1 := hpq
      have hqm := List.mem_of_getElem? hq
      have hwf := p1.wf.pen _ (List.mem_of_getElem? hpq')
      obtain ⟨kk, hkk⟩ := Int.eq_ofNat_of_zero_le hwf.2.1
      have hd := Byt.of_vec (p2.wl.dat q hqm)
      refine ⟨sw, p2.st.rdi 1 rfl, a, ha, by omega, by omega, q.1.1, q.2, ?_, ?_⟩
      · rw [Int.toNat_natCast]; exact hr
      rw [hkk]
      refine ref2_lay_i p2 hd hwf.1 (by show kk < (layAll m1.laid (m1.pend.take j)).length; rw [layAll_len]; omega) (fun a ha e => p2.n7 q hqm ⟨a, ha, e⟩) fun h3 hk3 p3 => ?_
      refine ⟨_, Wr.i64 (by omega) (by omega), m1.pend.length - (j + 1), by omega, j + 1, by omega, by omega, rfl, ?_, hk2.trans (hk3.mono fun x _ e => by subst e; exact p.fl)⟩
      have : layAll m1.laid (m1.pend.take (j + 1)) = (layAll m1.laid (m1.pend.take j)).set kk q.1.2 := by
        rw [List.take_add_one, hpq', Option.toList_some, layAll_snoc]
        have : q.1.1.toNat = kk := by omega
        rw [this]
      rw [this]; exact p3
    · have hjn : j = m1.pend.length := by omega
      subst hjn
      rw [List.take_length] at p2
      have hst3 : Bk (setB h2 b (Cel (rsC bl Sl.nil { m1 with laid := layAll m1.laid m1.pend }) 158)) b (rsC bl Sl.nil { m1 with laid := layAll m1.laid m1.pend }) 158 := p2.st.set
      refine ⟨_, p2.st.sti 1 Sl.nil.v (by simp [rsC]), m1.flushes, hst3.rdi 5 rfl, _, rfl, _, hst3.sti 5 (.int .i64 (IntKind.i64.wrap (m1.flushes + 1))) (by simp [rsC]), ?_⟩
      have hk3 : Kp (fun x => x = b) h2 (setB (setB h2 b (Cel (rsC bl Sl.nil { m1 with laid := layAll m1.laid m1.pend }) 158)) b (Cel ((rsC bl Sl.nil { m1 with laid := layAll m1.laid m1.pend }).set 5 (.int .i64 (IntKind.i64.wrap (m1.flushes + 1)))) 158)) := Kp.set (F := fun x => x = b) (Kp.set (F := fun x => x = b) (Kp.refl _ _) _ (.inr rfl)) _ (.inr rfl)
      refine hK _ Sl.nil [] ((hkF1.trans hk2).trans (hk3.mono fun x _ e => by subst e; exact p.fb)) ((RDi.clear p2 hk3 ?_ ?_ rfl).mono fun _ _ h => .inl h)
      · rw [← e1, ← e2, ← e4]
        exact hst3.set (l' := (rsC bl Sl.nil { m1 with laid := layAll m1.laid m1.pend }).set 5 (.int .i64 (IntKind.i64.wrap (m1.flushes + 1))))
      · show layAll m.laid m.pend = layAll m1.laid m1.pend
        rw [e1, e2]

theorem ref2_Crash_none_c {s : Sl} {K : Int → Int → Hp → Prop} (hK : K 0 1 h) : ref2_Disk_Crash none s K h := isN0 hK

theorem keptW_len : ∀ (p : List Wrt) (k : List Bool), (keptW p k).length ≤ p.length
  | [], _ => by simp [keptW]
  | _ :: _, [] => by simp [keptW]
  | w :: r, b :: bs => by unfold keptW; have := keptW_len r bs; split <;> simp <;> omega
theorem keptW_over : ∀ (p : List Wrt) (k : List Bool) (i : Nat), k.length ≤ i → keptW (p.take i) k = keptW p k
  | [], _, _, _ => by simp
  | _ :: _, [], i, _ => by cases i <;> simp [keptW]
  | w :: r, b :: bs, 0, h => by simp at h
  | w :: r, b :: bs, i + 1, h => by
    simp only [List.take_succ_cons, keptW]
    rw [keptW_over r bs i (by simpa using h)]

theorem ref2_Crash_i {s : Sl} {keep : List Bool} {K : Int → Int → Hp → Prop} (p : RDi h b bl sw l m F) (hs : Bls h s keep) (hsF : ∀ a, s.p = some a → keep ≠ [] → ¬ F a.block) (hpl : m.pend.length < 9223372036854775807)
    (hK : ∀ h' sw' l', Kp F h h' → RDi h' b bl sw' l' (m.crash keep).2 (fun x => F x ∨ h.size ≤ x) → K (m.crash keep).1 0 h') : ref2_Disk_Crash (some (nA b)) s K h := by
  refine isN ⟨fun k n i h1 => ∃ j : Nat, i = j ∧ j ≤ m.pend.length ∧ k = m.pend.length - j ∧ n = ((keptW (m.pend.take j) keep).length : Int) ∧
    RDi h1 b bl sw l { m with laid := layAll m.laid (keptW (m.pend.take j) keep) } F ∧ Kp F h h1, ⟨_, 0, rfl, by omega, rfl, ?_, ?_, Kp.refl _ _⟩, ?_⟩
  · simp [keptW]
  · simpa [keptW, layAll] using p
  rintro k n i h1 ⟨j, rfl, hj, rfl, rfl, p1, hk1⟩
  have hkl := keptW_len (m.pend.take j) keep
  rw [List.length_take] at hkl
  have hs1 := hs.kpo hk1 hsF
  have hsl : sw.len = m.pend.length := by have := RDi.len p1; exact this
  refine ⟨fun bb h' => h' = h1 ∧ bb = decide (j < m.pend.length ∧ j < keep.length), ?_, _, rfl, sw, p1.st.rdi 1 rfl, dcd (fun hlt => ⟨rfl, ?_⟩) (fun hge => ⟨rfl, ?_⟩)⟩
  · rintro bb h' ⟨rfl, rfl⟩
    refine dcd (fun hlt => ?_) (fun hge => ?_)
    · have hj1 : j < m.pend.length := hlt.1
      obtain ⟨a, q, ha, hsp, hq, hpq, hr⟩ := wl_at p1 hj1
      have hpq' : m.pend[j]? = some q.1 := hpq
      have hqm := List.mem_of_getElem? hq
      have hwf := p.wf.pen _ (List.mem_of_getElem? hpq')
      have hks := keptW_snoc m.pend keep j q.1 hpq'
      have hgd : keep.getD j false = keep[j] := by simp [hlt.2]
      rw [hgd] at hks
      obtain ⟨a2, ha2, hr2⟩ := hs1.at hlt.2
      refine ⟨fun n2 h2 => n2 = ((keptW (m.pend.take (j + 1)) keep).length : Int) ∧ RDi h2 b bl sw l { m with laid := layAll m.laid (keptW (m.pend.take (j + 1)) keep) } F ∧ Kp F h h2, ?_, a2, ha2, by omega, by rw [hs.len]; omega, keep[j], ?_, fun hbt => ?_, fun hbf => ?_⟩
      · rintro n2 h2 ⟨rfl, p2, hk2⟩
        exact ⟨_, Wr.i64 (by omega) (by omega), m.pend.length - (j + 1), by omega, j + 1, by omega, by omega, rfl, rfl, p2, hk2⟩
      · rw [Nat.mul_one, Int.toNat_natCast]; exact hr2
      · rw [hbt] at hks
        simp only [if_true] at hks
        obtain ⟨kk, hkk⟩ := Int.eq_ofNat_of_zero_le hwf.2.1
        have hd := Byt.of_vec (p1.wl.dat q hqm)
        refine ⟨_, rfl, sw, p1.st.rdi 1 rfl, a, ha, by omega, by omega, q.1.1, q.2, ?_, ?_⟩
        · rw [Int.toNat_natCast]; exact hr
        rw [hkk]
        refine ref2_lay_i p1 hd hwf.1 (by show kk < (layAll m.laid (keptW (m.pend.take j) keep)).length; rw [layAll_len]; omega) (fun a ha e => p1.n7 q hqm ⟨a, ha, e⟩) fun h3 hk3 p3 => ?_
        refine ⟨_, Wr.i64 (by omega) (by omega), by rw [hks]; simp, ?_, hk1.trans (hk3.mono fun x _ e => by subst e; exact p.fl)⟩
        rw [hks, layAll_snoc]
        have : q.1.1.toNat = kk := by omega
        rw [this]; exact p3
      · rw [hbf] at hks
        simp only [Bool.false_eq_true, if_false, List.append_nil] at hks
        exact ⟨by rw [hks], by rw [hks]; exact p1, hk1⟩
    · have hke : keptW (m.pend.take j) keep = keptW m.pend keep := by
        by_cases hjn : j = m.pend.length
        · subst hjn; rw [List.take_length]
        · exact keptW_over _ _ _ (by omega)
      rw [hke] at p1 ⊢
      have hst2 : Bk (setB h' b (Cel (rsC bl Sl.nil { m with laid := layAll m.laid (keptW m.pend keep) }) 158)) b (rsC bl Sl.nil { m with laid := layAll m.laid (keptW m.pend keep) }) 158 := p1.st.set
      have hst3 := hst2.set (l' := (rsC bl Sl.nil { m with laid := layAll m.laid (keptW m.pend keep) }).set 3 (.bool false))
      have hst4 := hst3.set (l' := ((rsC bl Sl.nil { m with laid := layAll m.laid (keptW m.pend keep) }).set 3 (.bool false)).set 2 (.int .i64 (-1)))
      refine ⟨_, rfl, _, p1.st.sti 1 Sl.nil.v (by simp [rsC]), _, hst2.sti 3 (.bool false) (by simp [rsC]), _, hst3.sti 2 (.int .i64 (-1)) (by simp [rsC]), ?_⟩
      have hk2 : Kp (fun x => x = b) h' _ := Kp.set (F := fun x => x = b) (Kp.set (F := fun x => x = b) (Kp.set (F := fun x => x = b) (Kp.refl _ h') (Cel (rsC bl Sl.nil { m with laid := layAll m.laid (keptW m.pend keep) }) 158) (.inr rfl))
        (Cel ((rsC bl Sl.nil { m with laid := layAll m.laid (keptW m.pend keep) }).set 3 (.bool false)) 158) (.inr rfl)) (Cel (((rsC bl Sl.nil { m with laid := layAll m.laid (keptW m.pend keep) }).set 3 (.bool false)).set 2 (.int .i64 (-1))) 158) (.inr rfl)
      exact hK _ Sl.nil [] (hk1.trans (hk2.mono fun x _ e => by subst e; exact p.fb)) ((RDi.clear (m' := (m.crash keep).2) p1 hk2 hst4 rfl rfl).mono fun _ _ h => .inl h)
  · rw [hs.len]; simp; omega
  · simp; omega

theorem ref2_Pending_none_c {K : Sl → Hp → Prop} (hK : K Sl.nil h) : ref2_Disk_Pending none K h := isN0 hK
theorem ref2_Pending_i {K : Sl → Hp → Prop} (p : RDi h b bl sw l m F) (hpl : m.pend.length < 1099511627776)
    (hK : ∀ s l h', Kp (fun _ => False) h h' → WLs h' s l (fun x => h.size ≤ x) → l.map (·.1) = m.pend → K s h') : ref2_Disk_Pending (some (nA b)) K h := by
  refine isN ⟨fun k s n h1 => ∃ (i : Nat) (l : List (Wrt × Sl)), n = i ∧ i ≤ m.pend.length ∧ k = m.pend.length - i ∧ l.map (·.1) = m.pend.take i ∧ WLs h1 s l (fun x => h.size ≤ x) ∧ Kp (fun _ => False) h h1,
    ⟨_, 0, [], rfl, by omega, rfl, by simp, WLs.nil _ _, Kp.refl _ _⟩, ?_⟩
  rintro k s n h1 ⟨i, l2, rfl, hi, rfl, hl, wl, hk1⟩
  have p1 := RDi.kpb p hk1
  have hsl : sw.len = m.pend.length := RDi.len p1
  refine ⟨_, rfl, sw, p1.st.rdi 1 rfl, dcd (fun hlt => ?_) (fun hge => ?_)⟩
  · have hlt' : i < m.pend.length := by omega
    obtain ⟨a, q, ha, hsp, hq, hpq, hr⟩ := wl_at p1 hlt'
    have hqm := List.mem_of_getElem? hq
    have hwf := p.wf.pen _ (List.mem_of_getElem? hpq)
    have hd := Byt.of_vec (p1.wl.dat q hqm)
    have r0 : rdc h1 ((a.add (Int.toNat (i : Int) * 2)).add 0) = some (.int .i64 q.1.1) := by rw [Int.toNat_natCast]; exact hr 0 _ rfl
    have r1 : rdc h1 ((a.add (Int.toNat (i : Int) * 2)).add 1) = some (q.2.v) := by rw [Int.toNat_natCast]; exact hr 1 _ rfl
    refine ⟨sw, p1.st.rdi 1 rfl, a, ha, by omega, by omega, q.1.1, r0, sw, p1.st.rdi 1 rfl, a, ha, by omega, by omega, q.2, r1, ?_⟩
    refine ref2_Same_c hd (by omega) fun x h2 hk2 hvx hsx hbx => ?_
    have p2 := RDi.kpb p1 hk2
    obtain ⟨a', q', ha', _, hq', _, hr'⟩ := wl_at p2 hlt'
    rw [ha] at ha'; cases ha'
    rw [hq] at hq'; cases hq'
    refine ⟨by rw [Int.toNat_natCast]; exact hr' 0 _ rfl, p2.st.rdi 1 rfl, _, _, _, rfl, rfl, rfl, ?_⟩
    have hk4 : Kp (fun _ => False) h2 (h2.push (Cel [.int .i64 q.1.1, x.v] 156)) := Kp.push (Kp.refl _ _) _
    have hkk := hk2.trans hk4
    have wl4 : WLs (h2.push (Cel [.int .i64 q.1.1, x.v] 156)) s l2 (fun x => h.size ≤ x ∧ x < h1.size) := wl.kp hkk fun _ _ _ h => h
    have hx4 := hvx.kp hk4 fun _ _ h => h
    have hxb : ∀ y, x.blk y → y = h1.size := by
      rintro y ⟨a, ha, rfl⟩; subst hsx; cases ha; rfl
    have hll : l2.length = i := by have := congrArg List.length hl; simp at this; omega
    have hq2 := hbx.lt
    refine wl4.app hx4 (fun y hy hG => ?_) ⟨rfl, (Bk.new h2 [.int .i64 q.1.1, x.v] 156).rd0⟩ rfl (by rw [wl.len, hll]; omega) ?_
    · have := hxb y hy; omega
    intro s' h5 wl5 hk5 _
    refine ⟨_, Wr.i64 (by omega) (by omega), m.pend.length - (i + 1), by omega, i + 1, _, by omega, by omega, rfl, ?_, wl5.mono ?_, ?_⟩
    · rw [List.take_add_one, hpq, List.map_append, hl]; rfl
    · rintro y _ (h | h | h)
      · exact h.1
      · have := hxb y h; have := hk1.size; omega
      · have := hkk.size; have := hk1.size; have := hk2.size; omega
    · exact (hk1.trans hkk).and hk5 fun y hy => .inl (wl4.fs y hy).1
  · have hie : i = m.pend.length := by omega
    subst hie
    rw [List.take_length] at hl
    exact hK s l2 h1 hk1 wl hl

theorem ref2_Image_none_c {K : Sl → Hp → Prop} (hK : K Sl.nil h) : ref2_Disk_Image none K h := isN0 hK
theorem ref2_Image_i {K : Sl → Hp → Prop} (p : RDi h b bl sw l m F)
    (hK : ∀ s h', Kp (fun _ => False) h h' → Vec h' s 1 5 ((m.laid.flatMap fun s => s).map bv) → (∀ x, s.blk x → h.size ≤ x) → K s h') : ref2_Disk_Image (some (nA b)) K h := by
  have hhi := p.wf.hi
  refine isN ⟨_, rfl, ⟨some (nA bl), m.laid.length * 128, m.laid.length * 128⟩, p.st.rdi 0 rfl, ?_⟩
  have hfl : (m.laid.flatMap fun s => s).length = m.laid.length * 128 := by
    have := flat_len encS 128 m.laid (fun s hs => by simp [encS, p.wf.sec s hs])
    rw [flat_enc, List.length_map] at this
    exact this
  have hB : Byt h ⟨some (nA bl), m.laid.length * 128, m.laid.length * 128⟩ (m.laid.flatMap fun s => s) := by
    refine ⟨hfl.symm, Nat.le_refl _, ?_⟩
    show RdL _ _ _
    rw [← flat_enc]
    exact p.laid.rd0
  refine ref2_Same_c hB (by omega) fun s h' hk hv hs hb => hK s h' hk hv fun x hx => ?_
  subst hs
  obtain ⟨a, ha, rfl⟩ := hx
  cases ha
  exact Nat.le_refl _
end
end Go.Proofs.Ythpeadoidpimmaa
