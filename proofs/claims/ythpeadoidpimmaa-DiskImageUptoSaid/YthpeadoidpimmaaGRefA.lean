/- What each Go function of this group asks ahead of a call (printed by gen.py), and that this is enough. -/
import Derived.Test.YthpeadoidpimmaaTy
namespace Go.Proofs.Ythpeadoidpimmaa
open Go Tw
set_option linter.unusedVariables false
set_option maxRecDepth 10000
set_option maxHeartbeats 4000000

/-- trellis/trellisref2.New -/
def ref2_New (sectors1 : Int) (K : Option Addr → Int → Hp → Prop) (h : Hp) : Prop :=
  ∃ k3 : Bool → Hp → Prop, (∀ (b2 : Bool) (h6 : Hp), k3 b2 h6 → ((b2 = true → (K none 1 h6)) ∧ (b2 = false → (∃ n9 : Int, Wr .i64 ((128 : Int) * sectors1) n9 ∧ 0 ≤ n9 ∧ n9 ≤ n9 ∧ n9 * (1 : Nat) ≤ 281474976710656 ∧ ∃ (b11 : Nat) (h12 : Hp) (s13 : Sl), b11 = h6.size ∧ h12 = h6.push (Cel (zr [.int .u8 0] (Int.toNat n9 * 1)) 5) ∧ s13 = ⟨some (nA b11), Int.toNat n9, Int.toNat n9⟩ ∧ ∃ (b20 : Nat) (h21 : Hp), b20 = h12.size ∧ h21 = h12.push (Cel [s13.v, .slice none 0 0, .int .i64 (-1), .bool false, .int .i64 0, .int .i64 0] 158) ∧ K (some (nA b20)) 0 h21)))) ∧ (((decide (sectors1 < 1)) = true → (k3 true h)) ∧ ((decide (sectors1 < 1)) = false → (k3 (decide (sectors1 > 4096)) h)))

theorem ref2_New_ok {W : World} {h : Hp} {sectors1 : Int} {K : Option Addr → Int → Hp → Prop} (H : ref2_New sectors1 K h) :
    CallsH Try.prog 133 (List.toArray [.int .i64 sectors1]) W h (fun v h' => ∃ (p1 : Option Addr) (n2 : Int), v = .tuple #[.pointer p1, .int .i64 n2] ∧ K p1 n2 h') := by
  unfold ref2_New at H
  refine CallsH.intro (fn := Try.f133) (N := 15) (e := aE 0 [.int .i64 sectors1]) Try.func133 rfl rfl (aE_spec _) rfl ?_
  refine WPC.seq ?_
  refine WPC.region ?_
  refine WPL.q tk0 (asg rfl) rfl ?_
  refine WPL.q tk0 (asg rfl) rfl ?_
  refine WPL.nil ?_
  refine WQ.next ?_
  refine WPC.seq ?_
  refine WPC.seq ?_
  obtain ⟨k3, hk5, H⟩ := H
  refine WPC.join (fun e h => ∃ (b2 : Bool), e = [(0, .int .i64 sectors1), (9, .bool b2)] ∧ k3 b2 h) ?_ (fun hj4 => ?_)
  · rintro _ h6 ⟨b2, rfl, HK7⟩
    have H := hk5 b2 h6 HK7
    refine WQ.next ?_
    refine WPC.cond rfl (fun hb8 => ?_) (fun hb8 => ?_)
    · have H := H.1 hb8
      refine WPC.seq ?_
      refine WPC.region ?_
      refine WPL.q tk0 (asg rfl) rfl ?_
      refine WPL.q tk0 (asg rfl) rfl ?_
      refine WPL.nil ?_
      refine WQ.next ?_
      refine WPC.ret ?_
      refine WQ.thenR ?_
      exact WQ.done (rets2 rfl rfl rfl) ⟨_, _, rfl, H⟩
    · have H := H.2 hb8
      refine WPC.skip ?_
      refine WQ.next ?_
      refine WPC.seq ?_
      refine WPC.region ?_
      refine WPL.q tk0 (mv rfl) rfl ?_
      obtain ⟨n9, hn10, H⟩ := H
      refine WPL.q tk0 (bMul rfl rfl hn10) rfl ?_
      obtain ⟨c17, c18, c19, b11, h12, s13, hb14, hh15, hs16, H⟩ := H
      refine WPL.f tk0 (mksN sO_24 zO_5 (by decide) rfl rfl c17 c18 c19 hb14 hh15 hs16) rfl ?_
      refine WPL.q tk0 (bd (l := [s13.v, .slice none 0 0, .int .i64 (-1), .bool false, .int .i64 0, .int .i64 0]) rfl (by kernel_rfl)) rfl ?_
      obtain ⟨b20, h21, hb22, hh23, H⟩ := H
      refine WPL.f tk0 (bxN (l := [s13.v, .slice none 0 0, .int .i64 (-1), .bool false, .int .i64 0, .int .i64 0]) rfl rfl hb22 hh23) rfl ?_
      refine WPL.q tk0 (asg rfl) rfl ?_
      refine WPL.q tk0 (asg rfl) rfl ?_
      refine WPL.nil ?_
      refine WQ.next ?_
      refine WPC.ret ?_
      exact WQ.done (rets2 rfl rfl rfl) ⟨_, _, rfl, H⟩
  · refine WPC.region ?_
    refine WPL.q tk0 (mv rfl) rfl ?_
    refine WPL.q tk0 (bLss rfl rfl) rfl ?_
    refine WPL.q tk0 (mv rfl) rfl ?_
    rcases Bool.eq_false_or_eq_true ((decide (sectors1 < 1))) with hb24 | hb24
    · have H := H.1 hb24
      refine WPL.skip (ntkb rfl rfl hb24) rfl ?_
      refine WPL.skip (ntkb rfl rfl hb24) rfl ?_
      refine WPL.q tk0 (pkTb rfl hb24 rfl) rfl ?_
      refine WPL.nil ?_
      exact (hj4 _ _ ⟨_, rfl, H⟩).weak ⟨rfl, rfl, trivial⟩
    · have H := H.2 hb24
      refine WPL.q (tkb rfl rfl hb24) (mv rfl) rfl ?_
      refine WPL.q (tkb rfl rfl hb24) (bGtr rfl rfl) rfl ?_
      refine WPL.q tk0 (pkFb rfl hb24 rfl) rfl ?_
      refine WPL.nil ?_
      exact (hj4 _ _ ⟨_, rfl, H⟩).weak ⟨rfl, rfl, trivial⟩

/-- trellis/trellisref2.Same -/
def ref2_Same (b1 : Sl) (K : Sl → Hp → Prop) (h : Hp) : Prop :=
  0 ≤ (b1.len : Int) ∧ (b1.len : Int) ≤ (b1.len : Int) ∧ (b1.len : Int) * (1 : Nat) ≤ 281474976710656 ∧ ∃ (b2 : Nat) (h3 : Hp) (s4 : Sl), b2 = h.size ∧ h3 = h.push (Cel (zr [.int .u8 0] (Int.toNat (b1.len : Int) * 1)) 5) ∧ s4 = ⟨some (nA b2), Int.toNat (b1.len : Int), Int.toNat (b1.len : Int)⟩ ∧ ∃ (l12 : List Value) (h11 : Hp) (r16 : Int), RdS h3 ⟨b1.p, Nat.min b1.len s4.len, b1.cap⟩ 1 l12 ∧ oneC l12 ∧ StS h3 s4.p 0 l12 h11 ∧ r16 = ((Nat.min b1.len s4.len : Nat) : Int) ∧ K s4 h11

theorem ref2_Same_ok {W : World} {h : Hp} {b1 : Sl} {K : Sl → Hp → Prop} (H : ref2_Same b1 K h) :
    CallsH Try.prog 102 (List.toArray [b1.v]) W h (fun v h' => ∃ (s1 : Sl), v = s1.v ∧ K s1 h') := by
  unfold ref2_Same at H
  refine CallsH.intro (fn := Try.f102) (N := 11) (e := aE 0 [b1.v]) Try.func102 rfl rfl (aE_spec _) rfl ?_
  refine WPC.seq ?_
  refine WPC.region ?_
  refine WPL.q tk0 (asg rfl) rfl ?_
  refine WPL.nil ?_
  refine WQ.next ?_
  refine WPC.seq ?_
  refine WPC.region ?_
  refine WPL.q tk0 (mv rfl) rfl ?_
  refine WPL.q tk0 (lnb sO_24 rfl) rfl ?_
  obtain ⟨c8, c9, c10, b2, h3, s4, hb5, hh6, hs7, H⟩ := H
  refine WPL.f tk0 (mksN sO_24 zO_5 (by decide) rfl rfl c8 c9 c10 hb5 hh6 hs7) rfl ?_
  refine WPL.q tk0 (asg rfl) rfl ?_
  refine WPL.nil ?_
  refine WQ.next ?_
  refine WPC.seq ?_
  refine WPC.region ?_
  refine WPL.q tk0 (mv rfl) rfl ?_
  refine WPL.q tk0 (mv rfl) rfl ?_
  obtain ⟨l12, h11, r16, hl13, ho14, hs15, hr17, H⟩ := H
  refine WPL.f tk0 (cpyN sO_24 rfl rfl hl13 ho14 hs15 hr17) rfl ?_
  refine WPL.nil ?_
  refine WQ.next ?_
  refine WPC.seq ?_
  refine WPC.region ?_
  refine WPL.q tk0 (mv rfl) rfl ?_
  refine WPL.q tk0 (asg rfl) rfl ?_
  refine WPL.nil ?_
  refine WQ.next ?_
  refine WPC.ret ?_
  exact WQ.done (rets1 rfl rfl) ⟨_, rfl, H⟩

/-- trellis/trellisref2.Load -/
def ref2_Load (image1 : Sl) (K : Option Addr → Int → Hp → Prop) (h : Hp) : Prop :=
  ∃ n2 : Int, n2 = IntKind.i64.wrap (Int.tdiv (image1.len : Int) 128) ∧ ∃ k6 : Bool → Hp → Prop, (∀ (b5 : Bool) (h9 : Hp), k6 b5 h9 → ((b5 = true → (K none 22 h9)) ∧ (b5 = false → (ref2_Same image1 (fun s12 h13 => ∃ (b14 : Nat) (h15 : Hp), b14 = h13.size ∧ h15 = h13.push (Cel [s12.v, .slice none 0 0, .int .i64 (-1), .bool false, .int .i64 0, .int .i64 0] 158) ∧ K (some (nA b14)) 0 h15) h9)))) ∧ (∃ n18 : Int, n18 = Int.tmod (image1.len : Int) 128 ∧ ((n18 != 0) = true → (k6 true h)) ∧ ((n18 != 0) = false → (((decide (n2 < 1)) = true → (k6 true h)) ∧ ((decide (n2 < 1)) = false → (k6 (decide (n2 > 4096)) h)))))

theorem ref2_Load_ok {W : World} {h : Hp} {image1 : Sl} {K : Option Addr → Int → Hp → Prop} (H : ref2_Load image1 K h) :
    CallsH Try.prog 53 (List.toArray [image1.v]) W h (fun v h' => ∃ (p1 : Option Addr) (n2 : Int), v = .tuple #[.pointer p1, .int .i64 n2] ∧ K p1 n2 h') := by
  unfold ref2_Load at H
  refine CallsH.intro (fn := Try.f53) (N := 24) (e := aE 0 [image1.v]) Try.func53 rfl rfl (aE_spec _) rfl ?_
  refine WPC.seq ?_
  refine WPC.region ?_
  refine WPL.q tk0 (asg rfl) rfl ?_
  refine WPL.q tk0 (asg rfl) rfl ?_
  refine WPL.nil ?_
  refine WQ.next ?_
  refine WPC.seq ?_
  refine WPC.region ?_
  refine WPL.q tk0 (mv rfl) rfl ?_
  refine WPL.q tk0 (lnb sO_24 rfl) rfl ?_
  obtain ⟨n2, hn3, H⟩ := H
  refine WPL.q tk0 (bQuo rfl rfl (by decide) hn3) rfl ?_
  refine WPL.q tk0 (asg rfl) rfl ?_
  refine WPL.nil ?_
  refine WQ.next ?_
  refine WPC.seq ?_
  refine WPC.seq ?_
  obtain ⟨k6, hk8, H⟩ := H
  refine WPC.join (fun e h => ∃ (b5 : Bool), e = [(0, image1.v), (19, .bool b5)] ∧ k6 b5 h) ?_ (fun hj7 => ?_)
  · rintro _ h9 ⟨b5, rfl, HK10⟩
    have H := hk8 b5 h9 HK10
    refine WQ.next ?_
    refine WPC.cond rfl (fun hb11 => ?_) (fun hb11 => ?_)
    · have H := H.1 hb11
      refine WPC.seq ?_
      refine WPC.region ?_
      refine WPL.q tk0 (asg rfl) rfl ?_
      refine WPL.q tk0 (asg rfl) rfl ?_
      refine WPL.nil ?_
      refine WQ.next ?_
      refine WPC.ret ?_
      refine WQ.thenR ?_
      exact WQ.done (rets2 rfl rfl rfl) ⟨_, _, rfl, H⟩
    · have H := H.2 hb11
      refine WPC.skip ?_
      refine WQ.next ?_
      refine WPC.seq ?_
      refine WPC.region ?_
      refine WPL.q tk0 (mv rfl) rfl ?_
      have HC := ref2_Same_ok (W := W) H
      refine WPL.eff tk0 (cl cO_102 rfl HC) rfl ?_
      rintro _ h13 ⟨s12, rfl, H⟩
      refine WPL.q tk0 (bd (l := [s12.v, .slice none 0 0, .int .i64 (-1), .bool false, .int .i64 0, .int .i64 0]) rfl (by kernel_rfl)) rfl ?_
      obtain ⟨b14, h15, hb16, hh17, H⟩ := H
      refine WPL.f tk0 (bxN (l := [s12.v, .slice none 0 0, .int .i64 (-1), .bool false, .int .i64 0, .int .i64 0]) rfl rfl hb16 hh17) rfl ?_
      refine WPL.q tk0 (asg rfl) rfl ?_
      refine WPL.q tk0 (asg rfl) rfl ?_
      refine WPL.nil ?_
      refine WQ.next ?_
      refine WPC.ret ?_
      exact WQ.done (rets2 rfl rfl rfl) ⟨_, _, rfl, H⟩
  · refine WPC.region ?_
    refine WPL.q tk0 (mv rfl) rfl ?_
    refine WPL.q tk0 (lnb sO_24 rfl) rfl ?_
    obtain ⟨n18, hn19, H⟩ := H
    refine WPL.q tk0 (bRem rfl rfl (by decide) hn19) rfl ?_
    refine WPL.q tk0 (bNeq rfl rfl) rfl ?_
    refine WPL.q tk0 (mv rfl) rfl ?_
    rcases Bool.eq_false_or_eq_true ((n18 != 0)) with hb21 | hb21
    · have H := H.1 hb21
      refine WPL.skip (ntkb rfl rfl hb21) rfl ?_
      refine WPL.skip (ntkb rfl rfl hb21) rfl ?_
      refine WPL.q tk0 (pkTb rfl hb21 rfl) rfl ?_
      refine WPL.q tk0 (mv rfl) rfl ?_
      refine WPL.skip (ntkb rfl rfl rfl) rfl ?_
      refine WPL.skip (ntkb rfl rfl rfl) rfl ?_
      refine WPL.q tk0 (pkTb rfl rfl rfl) rfl ?_
      refine WPL.nil ?_
      exact (hj7 _ _ ⟨_, rfl, H⟩).weak ⟨rfl, rfl, trivial⟩
    · have H := H.2 hb21
      refine WPL.q (tkb rfl rfl hb21) (mv rfl) rfl ?_
      refine WPL.q (tkb rfl rfl hb21) (bLss rfl rfl) rfl ?_
      refine WPL.q tk0 (pkFb rfl hb21 rfl) rfl ?_
      refine WPL.q tk0 (mv rfl) rfl ?_
      rcases Bool.eq_false_or_eq_true ((decide (n2 < 1))) with hb22 | hb22
      · have H := H.1 hb22
        refine WPL.skip (ntkb rfl rfl hb22) rfl ?_
        refine WPL.skip (ntkb rfl rfl hb22) rfl ?_
        refine WPL.q tk0 (pkTb rfl hb22 rfl) rfl ?_
        refine WPL.nil ?_
        exact (hj7 _ _ ⟨_, rfl, H⟩).weak ⟨rfl, rfl, trivial⟩
      · have H := H.2 hb22
        refine WPL.q (tkb rfl rfl hb22) (mv rfl) rfl ?_
        refine WPL.q (tkb rfl rfl hb22) (bGtr rfl rfl) rfl ?_
        refine WPL.q tk0 (pkFb rfl hb22 rfl) rfl ?_
        refine WPL.nil ?_
        exact (hj7 _ _ ⟨_, rfl, H⟩).weak ⟨rfl, rfl, trivial⟩

/-- (*trellis/trellisref2.Disk).Sectors -/
def ref2_Disk_Sectors (d1 : Option Addr) (K : Int → Hp → Prop) (h : Hp) : Prop :=
  (d1.isNone = true → (K 0 h)) ∧ (d1.isNone = false → (∃ a3 : Addr, d1 = some a3 ∧ ∃ s6 : Sl, rdc h (a3.add 0) = some (s6.v) ∧ ∃ n7 : Int, n7 = IntKind.i64.wrap (Int.tdiv (s6.len : Int) 128) ∧ K n7 h))

theorem ref2_Disk_Sectors_ok {W : World} {h : Hp} {d1 : Option Addr} {K : Int → Hp → Prop} (H : ref2_Disk_Sectors d1 K h) :
    CallsH Try.prog 130 (List.toArray [.pointer d1]) W h (fun v h' => ∃ (n1 : Int), v = .int .i64 n1 ∧ K n1 h') := by
  unfold ref2_Disk_Sectors at H
  refine CallsH.intro (fn := Try.f130) (N := 11) (e := aE 0 [.pointer d1]) Try.func130 rfl rfl (aE_spec _) rfl ?_
  refine WPC.seq ?_
  refine WPC.region ?_
  refine WPL.q tk0 (asg rfl) rfl ?_
  refine WPL.nil ?_
  refine WQ.next ?_
  refine WPC.seq ?_
  refine WPC.seq ?_
  refine WPC.region ?_
  refine WPL.q tk0 (mv rfl) rfl ?_
  refine WPL.q tk0 (bEqN pO_71 rfl) rfl ?_
  refine WPL.nil ?_
  refine WQ.next ?_
  refine WPC.cond rfl (fun hb2 => ?_) (fun hb2 => ?_)
  · have H := H.1 hb2
    refine WPC.seq ?_
    refine WPC.region ?_
    refine WPL.q tk0 (asg rfl) rfl ?_
    refine WPL.nil ?_
    refine WQ.next ?_
    refine WPC.ret ?_
    refine WQ.thenR ?_
    exact WQ.done (rets1 rfl rfl) ⟨_, rfl, H⟩
  · have H := H.2 hb2
    refine WPC.skip ?_
    refine WQ.next ?_
    refine WPC.seq ?_
    refine WPC.region ?_
    refine WPL.q tk0 (mv rfl) rfl ?_
    obtain ⟨a3, ha4, H⟩ := H
    refine WPL.q tk0 (ncb rfl ha4) rfl ?_
    refine WPL.q tk0 (fa fO_158_0 rfl) rfl ?_
    obtain ⟨s6, hv5, H⟩ := H
    refine WPL.q tk0 (ld kO_24 rfl hv5) rfl ?_
    refine WPL.q tk0 (lnb sO_24 rfl) rfl ?_
    obtain ⟨n7, hn8, H⟩ := H
    refine WPL.q tk0 (bQuo rfl rfl (by decide) hn8) rfl ?_
    refine WPL.q tk0 (asg rfl) rfl ?_
    refine WPL.nil ?_
    refine WQ.next ?_
    refine WPC.ret ?_
    exact WQ.done (rets1 rfl rfl) ⟨_, rfl, H⟩

/-- (*trellis/trellisref2.Disk).newest -/
def ref2_Disk_newest (d1 : Option Addr) (at2 : Int) (K : Sl → Hp → Prop) (h : Hp) : Prop :=
  ∃ a3 : Addr, d1 = some a3 ∧ ∃ s6 : Sl, rdc h (a3.add 1) = some (s6.v) ∧ ∃ n7 : Int, Wr .i64 ((s6.len : Int) - 1) n7 ∧ ∃ I10 : Nat → Int → Hp → Prop, (∃ m14, I10 m14 n7 h) ∧ ∀ (m11 : Nat) (i9 : Int) (h12 : Hp), I10 m11 i9 h12 → (((decide (i9 ≥ 0)) = true → (∃ s18 : Sl, rdc h12 (a3.add 1) = some (s18.v) ∧ ∃ a19 : Addr, s18.p = some a19 ∧ 0 ≤ i9 ∧ i9 < (s18.len : Int) ∧ ∃ n24 : Int, rdc h12 ((a19.add (Int.toNat i9 * 2)).add 0) = some (.int .i64 n24) ∧ ((n24 == at2) = true → (∃ s27 : Sl, rdc h12 (a3.add 1) = some (s27.v) ∧ ∃ a28 : Addr, s27.p = some a28 ∧ 0 ≤ i9 ∧ i9 < (s27.len : Int) ∧ ∃ s33 : Sl, rdc h12 ((a28.add (Int.toNat i9 * 2)).add 1) = some (s33.v) ∧ K s33 h12)) ∧ ((n24 == at2) = false → (∃ n34 : Int, Wr .i64 (i9 - 1) n34 ∧ ∃ m36, m36 < m11 ∧ I10 m36 n34 h12)))) ∧ ((decide (i9 ≥ 0)) = false → (∃ s40 : Sl, rdc h12 (a3.add 0) = some (s40.v) ∧ ∃ n41 : Int, Wr .i64 ((128 : Int) * at2) n41 ∧ ∃ n43 : Int, Wr .i64 ((128 : Int) * at2) n43 ∧ ∃ n45 : Int, Wr .i64 (n43 + 128) n45 ∧ 0 ≤ n41 ∧ n41 ≤ n45 ∧ n45 ≤ (s40.cap : Int) ∧ ∃ s47 : Sl, s47 = slS s40 1 (Int.toNat n41) (Int.toNat n45) ∧ K s47 h12)))

theorem ref2_Disk_newest_ok {W : World} {h : Hp} {d1 : Option Addr} {at2 : Int} {K : Sl → Hp → Prop} (H : ref2_Disk_newest d1 at2 K h) :
    CallsH Try.prog 131 (List.toArray [.pointer d1, .int .i64 at2]) W h (fun v h' => ∃ (s1 : Sl), v = s1.v ∧ K s1 h') := by
  unfold ref2_Disk_newest at H
  refine CallsH.intro (fn := Try.f131) (N := 44) (e := aE 0 [.pointer d1, .int .i64 at2]) Try.func131 rfl rfl (aE_spec _) rfl ?_
  refine WPC.seq ?_
  refine WPC.region ?_
  refine WPL.q tk0 (asg rfl) rfl ?_
  refine WPL.nil ?_
  refine WQ.next ?_
  refine WPC.seq ?_
  refine WPC.seq ?_
  refine WPC.region ?_
  refine WPL.q tk0 (mv rfl) rfl ?_
  obtain ⟨a3, ha4, H⟩ := H
  refine WPL.q tk0 (ncb rfl ha4) rfl ?_
  refine WPL.q tk0 (fa fO_158_1 rfl) rfl ?_
  obtain ⟨s6, hv5, H⟩ := H
  refine WPL.q tk0 (ld kO_149 rfl hv5) rfl ?_
  refine WPL.q tk0 (lnb sO_149 rfl) rfl ?_
  obtain ⟨n7, hn8, H⟩ := H
  refine WPL.q tk0 (bSub rfl rfl hn8) rfl ?_
  refine WPL.q tk0 (asg rfl) rfl ?_
  refine WPL.nil ?_
  refine WQ.next ?_
  refine WPC.block ?_
  obtain ⟨I10, ⟨m14, HI15⟩, H⟩ := H
  refine WPC.weak (e' := [(0, .pointer d1), (1, .int .i64 at2), (5, .int .i64 n7)]) ?_ ⟨rfl, rfl, rfl, trivial⟩
  refine WPC.loop (fun m e h => ∃ (i9 : Int), e = [(0, .pointer d1), (1, .int .i64 at2), (5, .int .i64 i9)] ∧ I10 m i9 h) ⟨m14, _, rfl, HI15⟩ ?_
  rintro m11 _ h12 ⟨i9, rfl, HI13⟩
  have H := H m11 i9 h12 HI13
  refine WPC.seq ?_
  refine WPC.seq ?_
  refine WPC.region ?_
  refine WPL.q tk0 (mv rfl) rfl ?_
  refine WPL.q tk0 (bGeq rfl rfl) rfl ?_
  refine WPL.nil ?_
  refine WQ.next ?_
  refine WPC.cond rfl (fun hb16 => ?_) (fun hb16 => ?_)
  · have H := H.1 hb16
    refine WPC.skip ?_
    refine WQ.next ?_
    refine WPC.seq ?_
    refine WPC.block ?_
    refine WPC.seq ?_
    refine WPC.region ?_
    refine WPL.q tk0 (mv rfl) rfl ?_
    refine WPL.q tk0 (ncb rfl ha4) rfl ?_
    refine WPL.q tk0 (fa fO_158_1 rfl) rfl ?_
    obtain ⟨s18, hv17, H⟩ := H
    refine WPL.q tk0 (ld kO_149 rfl hv17) rfl ?_
    refine WPL.q tk0 (mv rfl) rfl ?_
    obtain ⟨a19, ha20, H⟩ := H
    obtain ⟨h21, h22, H⟩ := H
    refine WPL.q tk0 (ixSb sO_149 rfl rfl ha20 h21 h22) rfl ?_
    refine WPL.q tk0 (fa fO_156_0 rfl) rfl ?_
    obtain ⟨n24, hv23, H⟩ := H
    refine WPL.q tk0 (ld kO_3 rfl hv23) rfl ?_
    refine WPL.q tk0 (mv rfl) rfl ?_
    refine WPL.q tk0 (bEql rfl rfl) rfl ?_
    refine WPL.nil ?_
    refine WQ.next ?_
    refine WPC.cond rfl (fun hb25 => ?_) (fun hb25 => ?_)
    · have H := H.1 hb25
      refine WPC.seq ?_
      refine WPC.region ?_
      refine WPL.q tk0 (mv rfl) rfl ?_
      refine WPL.q tk0 (ncb rfl ha4) rfl ?_
      refine WPL.q tk0 (fa fO_158_1 rfl) rfl ?_
      obtain ⟨s27, hv26, H⟩ := H
      refine WPL.q tk0 (ld kO_149 rfl hv26) rfl ?_
      refine WPL.q tk0 (mv rfl) rfl ?_
      obtain ⟨a28, ha29, H⟩ := H
      obtain ⟨h30, h31, H⟩ := H
      refine WPL.q tk0 (ixSb sO_149 rfl rfl ha29 h30 h31) rfl ?_
      refine WPL.q tk0 (fa fO_156_1 rfl) rfl ?_
      obtain ⟨s33, hv32, H⟩ := H
      refine WPL.q tk0 (ld kO_24 rfl hv32) rfl ?_
      refine WPL.q tk0 (asg rfl) rfl ?_
      refine WPL.nil ?_
      refine WQ.next ?_
      refine WPC.ret ?_
      refine WQ.blockR ?_
      refine WQ.thenR ?_
      refine WQ.thenR ?_
      refine WQ.blockR ?_
      refine WQ.thenR ?_
      exact WQ.done (rets1 rfl rfl) ⟨_, rfl, H⟩
    · have H := H.2 hb25
      refine WPC.skip ?_
      refine WQ.blockN ?_
      refine WQ.next ?_
      refine WPC.region ?_
      refine WPL.q tk0 (mv rfl) rfl ?_
      obtain ⟨n34, hn35, H⟩ := H
      refine WPL.q tk0 (bSub rfl rfl hn35) rfl ?_
      refine WPL.q tk0 (asg rfl) rfl ?_
      refine WPL.nil ?_
      obtain ⟨m36, lt37, H⟩ := H
      exact WQ.again lt37 ⟨_, rfl, H⟩ ⟨rfl, rfl, rfl, trivial⟩
  · have H := H.2 hb16
    refine WPC.exit ?_
    refine WQ.thenX ?_
    refine WQ.thenX ?_
    refine WQ.hit ?_
    refine WQ.next ?_
    refine WPC.seq ?_
    refine WPC.region ?_
    refine WPL.q tk0 (mv rfl) rfl ?_
    refine WPL.q tk0 (ncb rfl ha4) rfl ?_
    refine WPL.q tk0 (fa fO_158_0 rfl) rfl ?_
    obtain ⟨s40, hv39, H⟩ := H
    refine WPL.q tk0 (ld kO_24 rfl hv39) rfl ?_
    refine WPL.q tk0 (mv rfl) rfl ?_
    obtain ⟨n41, hn42, H⟩ := H
    refine WPL.q tk0 (bMul rfl rfl hn42) rfl ?_
    refine WPL.q tk0 (mv rfl) rfl ?_
    obtain ⟨n43, hn44, H⟩ := H
    refine WPL.q tk0 (bMul rfl rfl hn44) rfl ?_
    obtain ⟨n45, hn46, H⟩ := H
    refine WPL.q tk0 (bAdd rfl rfl hn46) rfl ?_
    obtain ⟨c49, c50, c51, s47, hs48, H⟩ := H
    refine WPL.q tk0 (slcSN (l := (some n41)) (r := (some n45)) sO_24 rfl rfl rfl c49 c50 c51 hs48) rfl ?_
    refine WPL.q tk0 (asg rfl) rfl ?_
    refine WPL.nil ?_
    refine WQ.next ?_
    refine WPC.ret ?_
    exact WQ.done (rets1 rfl rfl) ⟨_, rfl, H⟩

/-- (*trellis/trellisref2.Disk).Read -/
def ref2_Disk_Read (d1 : Option Addr) (at2 : Int) (K : Sl → Int → Hp → Prop) (h : Hp) : Prop :=
  (d1.isNone = true → (K Sl.nil 1 h)) ∧ (d1.isNone = false → (∃ k5 : Bool → Hp → Prop, (∀ (b4 : Bool) (h8 : Hp), k5 b4 h8 → ((b4 = true → (K Sl.nil 20 h8)) ∧ (b4 = false → (∃ a11 : Addr, d1 = some a11 ∧ ∃ b14 : Bool, rdc h8 (a11.add 3) = some (.bool b14) ∧ (b14 = true → (K Sl.nil 2 h8)) ∧ (b14 = false → (ref2_Disk_newest d1 at2 (fun s16 h17 => ref2_Same s16 (fun s18 h19 => K s18 0 h19) h17) h8)))))) ∧ (((decide (at2 < 0)) = true → (k5 true h)) ∧ ((decide (at2 < 0)) = false → (ref2_Disk_Sectors d1 (fun n21 h22 => k5 (decide (at2 ≥ n21)) h22) h)))))

theorem ref2_Disk_Read_ok {W : World} {h : Hp} {d1 : Option Addr} {at2 : Int} {K : Sl → Int → Hp → Prop} (H : ref2_Disk_Read d1 at2 K h) :
    CallsH Try.prog 93 (List.toArray [.pointer d1, .int .i64 at2]) W h (fun v h' => ∃ (s1 : Sl) (n2 : Int), v = .tuple #[s1.v, .int .i64 n2] ∧ K s1 n2 h') := by
  unfold ref2_Disk_Read at H
  refine CallsH.intro (fn := Try.f93) (N := 26) (e := aE 0 [.pointer d1, .int .i64 at2]) Try.func93 rfl rfl (aE_spec _) rfl ?_
  refine WPC.seq ?_
  refine WPC.region ?_
  refine WPL.q tk0 (asg rfl) rfl ?_
  refine WPL.q tk0 (asg rfl) rfl ?_
  refine WPL.nil ?_
  refine WQ.next ?_
  refine WPC.seq ?_
  refine WPC.seq ?_
  refine WPC.region ?_
  refine WPL.q tk0 (mv rfl) rfl ?_
  refine WPL.q tk0 (bEqN pO_71 rfl) rfl ?_
  refine WPL.nil ?_
  refine WQ.next ?_
  refine WPC.cond rfl (fun hb3 => ?_) (fun hb3 => ?_)
  · have H := H.1 hb3
    refine WPC.seq ?_
    refine WPC.region ?_
    refine WPL.q tk0 (asg rfl) rfl ?_
    refine WPL.q tk0 (asg rfl) rfl ?_
    refine WPL.nil ?_
    refine WQ.next ?_
    refine WPC.ret ?_
    refine WQ.thenR ?_
    exact WQ.done (rets2 rfl rfl rfl) ⟨_, _, rfl, H⟩
  · have H := H.2 hb3
    refine WPC.skip ?_
    refine WQ.next ?_
    refine WPC.seq ?_
    refine WPC.seq ?_
    obtain ⟨k5, hk7, H⟩ := H
    refine WPC.join (fun e h => ∃ (b4 : Bool), e = [(0, .pointer d1), (1, .int .i64 at2), (16, .bool b4)] ∧ k5 b4 h) ?_ (fun hj6 => ?_)
    · rintro _ h8 ⟨b4, rfl, HK9⟩
      have H := hk7 b4 h8 HK9
      refine WQ.next ?_
      refine WPC.cond rfl (fun hb10 => ?_) (fun hb10 => ?_)
      · have H := H.1 hb10
        refine WPC.seq ?_
        refine WPC.region ?_
        refine WPL.q tk0 (asg rfl) rfl ?_
        refine WPL.q tk0 (asg rfl) rfl ?_
        refine WPL.nil ?_
        refine WQ.next ?_
        refine WPC.ret ?_
        refine WQ.thenR ?_
        exact WQ.done (rets2 rfl rfl rfl) ⟨_, _, rfl, H⟩
      · have H := H.2 hb10
        refine WPC.skip ?_
        refine WQ.next ?_
        refine WPC.seq ?_
        refine WPC.seq ?_
        refine WPC.region ?_
        refine WPL.q tk0 (mv rfl) rfl ?_
        obtain ⟨a11, ha12, H⟩ := H
        refine WPL.q tk0 (ncb rfl ha12) rfl ?_
        refine WPL.q tk0 (fa fO_158_3 rfl) rfl ?_
        obtain ⟨b14, hv13, H⟩ := H
        refine WPL.q tk0 (ld kO_4 rfl hv13) rfl ?_
        refine WPL.nil ?_
        refine WQ.next ?_
        refine WPC.cond rfl (fun hb15 => ?_) (fun hb15 => ?_)
        · have H := H.1 hb15
          refine WPC.seq ?_
          refine WPC.region ?_
          refine WPL.q tk0 (asg rfl) rfl ?_
          refine WPL.q tk0 (asg rfl) rfl ?_
          refine WPL.nil ?_
          refine WQ.next ?_
          refine WPC.ret ?_
          refine WQ.thenR ?_
          exact WQ.done (rets2 rfl rfl rfl) ⟨_, _, rfl, H⟩
        · have H := H.2 hb15
          refine WPC.skip ?_
          refine WQ.next ?_
          refine WPC.seq ?_
          refine WPC.region ?_
          refine WPL.q tk0 (mv rfl) rfl ?_
          refine WPL.q tk0 (mv rfl) rfl ?_
          have HC := ref2_Disk_newest_ok (W := W) H
          refine WPL.eff tk0 (cl cO_131 rfl HC) rfl ?_
          rintro _ h17 ⟨s16, rfl, H⟩
          refine WPL.q tk0 (asg rfl) rfl ?_
          refine WPL.nil ?_
          refine WQ.next ?_
          refine WPC.seq ?_
          refine WPC.region ?_
          refine WPL.q tk0 (mv rfl) rfl ?_
          have HC := ref2_Same_ok (W := W) H
          refine WPL.eff tk0 (cl cO_102 rfl HC) rfl ?_
          rintro _ h19 ⟨s18, rfl, H⟩
          refine WPL.q tk0 (asg rfl) rfl ?_
          refine WPL.q tk0 (asg rfl) rfl ?_
          refine WPL.nil ?_
          refine WQ.next ?_
          refine WPC.ret ?_
          exact WQ.done (rets2 rfl rfl rfl) ⟨_, _, rfl, H⟩
    · refine WPC.region ?_
      refine WPL.q tk0 (mv rfl) rfl ?_
      refine WPL.q tk0 (bLss rfl rfl) rfl ?_
      refine WPL.q tk0 (mv rfl) rfl ?_
      rcases Bool.eq_false_or_eq_true ((decide (at2 < 0))) with hb20 | hb20
      · have H := H.1 hb20
        refine WPL.skip (ntkb rfl rfl hb20) rfl ?_
        refine WPL.skip (ntkb rfl rfl hb20) rfl ?_
        refine WPL.skip (ntkb rfl rfl hb20) rfl ?_
        refine WPL.skip (ntkb rfl rfl hb20) rfl ?_
        refine WPL.q tk0 (pkTb rfl hb20 rfl) rfl ?_
        refine WPL.nil ?_
        exact (hj6 _ _ ⟨_, rfl, H⟩).weak ⟨rfl, rfl, rfl, trivial⟩
      · have H := H.2 hb20
        refine WPL.q (tkb rfl rfl hb20) (mv rfl) rfl ?_
        refine WPL.q (tkb rfl rfl hb20) (mv rfl) rfl ?_
        have HC := ref2_Disk_Sectors_ok (W := W) H
        refine WPL.eff (tkb rfl rfl hb20) (cl cO_130 rfl HC) rfl ?_
        rintro _ h22 ⟨n21, rfl, H⟩
        refine WPL.q (tkb rfl rfl hb20) (bGeq rfl rfl) rfl ?_
        refine WPL.q tk0 (pkFb rfl hb20 rfl) rfl ?_
        refine WPL.nil ?_
        exact (hj6 _ _ ⟨_, rfl, H⟩).weak ⟨rfl, rfl, rfl, trivial⟩

/-- (*trellis/trellisref2.Disk).operation -/
def ref2_Disk_operation (d1 : Option Addr) (K : Bool → Hp → Prop) (h : Hp) : Prop :=
  ∃ a2 : Addr, d1 = some a2 ∧ ∃ n5 : Int, rdc h (a2.add 2) = some (.int .i64 n5) ∧ ((n5 == 0) = true → (∃ h7 : Hp, StL h (a2.add 3) [.bool true] h7 ∧ K false h7)) ∧ ((n5 == 0) = false → (∃ n10 : Int, rdc h (a2.add 2) = some (.int .i64 n10) ∧ ((decide (n10 > 0)) = true → (∃ n13 : Int, rdc h (a2.add 2) = some (.int .i64 n13) ∧ ∃ n14 : Int, Wr .i64 (n13 - 1) n14 ∧ ∃ h16 : Hp, StL h (a2.add 2) [.int .i64 n14] h16 ∧ K true h16)) ∧ ((decide (n10 > 0)) = false → (K true h))))

theorem ref2_Disk_operation_ok {W : World} {h : Hp} {d1 : Option Addr} {K : Bool → Hp → Prop} (H : ref2_Disk_operation d1 K h) :
    CallsH Try.prog 134 (List.toArray [.pointer d1]) W h (fun v h' => ∃ (b1 : Bool), v = .bool b1 ∧ K b1 h') := by
  unfold ref2_Disk_operation at H
  refine CallsH.intro (fn := Try.f134) (N := 23) (e := aE 0 [.pointer d1]) Try.func134 rfl rfl (aE_spec _) rfl ?_
  refine WPC.seq ?_
  refine WPC.region ?_
  refine WPL.q tk0 (asg rfl) rfl ?_
  refine WPL.nil ?_
  refine WQ.next ?_
  refine WPC.seq ?_
  refine WPC.seq ?_
  refine WPC.region ?_
  refine WPL.q tk0 (mv rfl) rfl ?_
  obtain ⟨a2, ha3, H⟩ := H
  refine WPL.q tk0 (ncb rfl ha3) rfl ?_
  refine WPL.q tk0 (fa fO_158_2 rfl) rfl ?_
  obtain ⟨n5, hv4, H⟩ := H
  refine WPL.q tk0 (ld kO_3 rfl hv4) rfl ?_
  refine WPL.q tk0 (bEql rfl rfl) rfl ?_
  refine WPL.nil ?_
  refine WQ.next ?_
  refine WPC.cond rfl (fun hb6 => ?_) (fun hb6 => ?_)
  · have H := H.1 hb6
    refine WPC.seq ?_
    refine WPC.region ?_
    refine WPL.q tk0 (mv rfl) rfl ?_
    refine WPL.q tk0 (ncb rfl ha3) rfl ?_
    refine WPL.q tk0 (fa fO_158_3 rfl) rfl ?_
    obtain ⟨h7, hs8, H⟩ := H
    refine WPL.f tk0 (st kO_4 rfl rfl rfl hs8) rfl ?_
    refine WPL.nil ?_
    refine WQ.next ?_
    refine WPC.seq ?_
    refine WPC.region ?_
    refine WPL.q tk0 (asg rfl) rfl ?_
    refine WPL.nil ?_
    refine WQ.next ?_
    refine WPC.ret ?_
    refine WQ.thenR ?_
    exact WQ.done (rets1 rfl rfl) ⟨_, rfl, H⟩
  · have H := H.2 hb6
    refine WPC.skip ?_
    refine WQ.next ?_
    refine WPC.seq ?_
    refine WPC.seq ?_
    refine WPC.region ?_
    refine WPL.q tk0 (mv rfl) rfl ?_
    refine WPL.q tk0 (ncb rfl ha3) rfl ?_
    refine WPL.q tk0 (fa fO_158_2 rfl) rfl ?_
    obtain ⟨n10, hv9, H⟩ := H
    refine WPL.q tk0 (ld kO_3 rfl hv9) rfl ?_
    refine WPL.q tk0 (bGtr rfl rfl) rfl ?_
    refine WPL.nil ?_
    refine WQ.next ?_
    refine WPC.cond rfl (fun hb11 => ?_) (fun hb11 => ?_)
    · have H := H.1 hb11
      refine WPC.region ?_
      refine WPL.q tk0 (mv rfl) rfl ?_
      refine WPL.q tk0 (ncb rfl ha3) rfl ?_
      refine WPL.q tk0 (fa fO_158_2 rfl) rfl ?_
      obtain ⟨n13, hv12, H⟩ := H
      refine WPL.q tk0 (ld kO_3 rfl hv12) rfl ?_
      obtain ⟨n14, hn15, H⟩ := H
      refine WPL.q tk0 (bSub rfl rfl hn15) rfl ?_
      refine WPL.q tk0 (ncb rfl ha3) rfl ?_
      refine WPL.q tk0 (fa fO_158_2 rfl) rfl ?_
      obtain ⟨h16, hs17, H⟩ := H
      refine WPL.f tk0 (st kO_3 rfl rfl rfl hs17) rfl ?_
      refine WPL.nil ?_
      refine WQ.next ?_
      refine WPC.seq ?_
      refine WPC.region ?_
      refine WPL.q tk0 (asg rfl) rfl ?_
      refine WPL.nil ?_
      refine WQ.next ?_
      refine WPC.ret ?_
      exact WQ.done (rets1 rfl rfl) ⟨_, rfl, H⟩
    · have H := H.2 hb11
      refine WPC.skip ?_
      refine WQ.next ?_
      refine WPC.seq ?_
      refine WPC.region ?_
      refine WPL.q tk0 (asg rfl) rfl ?_
      refine WPL.nil ?_
      refine WQ.next ?_
      refine WPC.ret ?_
      exact WQ.done (rets1 rfl rfl) ⟨_, rfl, H⟩

/-- (*trellis/trellisref2.Disk).Write -/
def ref2_Disk_Write (d1 : Option Addr) (at2 : Int) (data3 : Sl) (K : Int → Hp → Prop) (h : Hp) : Prop :=
  (d1.isNone = true → (K 1 h)) ∧ (d1.isNone = false → (∃ k6 : Bool → Hp → Prop, (∀ (b5 : Bool) (h9 : Hp), k6 b5 h9 → ((b5 = true → (K 20 h9)) ∧ (b5 = false → ((((data3.len : Int) != 128) = true → (K 21 h9)) ∧ (((data3.len : Int) != 128) = false → (∃ a13 : Addr, d1 = some a13 ∧ ∃ b16 : Bool, rdc h9 (a13.add 3) = some (.bool b16) ∧ (b16 = true → (K 2 h9)) ∧ (b16 = false → (ref2_Disk_operation d1 (fun b18 h19 => ((!b18) = true → (K 2 h19)) ∧ ((!b18) = false → (∃ s22 : Sl, rdc h19 (a13.add 1) = some (s22.v) ∧ ref2_Same data3 (fun s23 h24 => rdc h24 (a13.add 1) = some (s22.v) ∧ ∃ (b26 : Nat) (h27 : Hp) (s28 : Sl), b26 = h24.size ∧ h27 = h24.push (Cel [.int .i64 at2, s23.v] 156) ∧ s28 = ⟨some (nA b26), 1, 1⟩ ∧ rdc h27 (a13.add 1) = some (s22.v) ∧ App h27 s22 s28 2 32 156 [.int .i64 0, .slice none 0 0] (fun s33 h34 => ∃ h35 : Hp, StL h34 (a13.add 1) [s33.v] h35 ∧ ∃ n38 : Int, rdc h35 (a13.add 4) = some (.int .i64 n38) ∧ ∃ n39 : Int, Wr .i64 (n38 + 1) n39 ∧ ∃ h41 : Hp, StL h35 (a13.add 4) [.int .i64 n39] h41 ∧ K 0 h41)) h19))) h9)))))))) ∧ (((decide (at2 < 0)) = true → (k6 true h)) ∧ ((decide (at2 < 0)) = false → (ref2_Disk_Sectors d1 (fun n44 h45 => k6 (decide (at2 ≥ n44)) h45) h)))))

theorem ref2_Disk_Write_ok {W : World} {h : Hp} {d1 : Option Addr} {at2 : Int} {data3 : Sl} {K : Int → Hp → Prop} (H : ref2_Disk_Write d1 at2 data3 K h) :
    CallsH Try.prog 103 (List.toArray [.pointer d1, .int .i64 at2, data3.v]) W h (fun v h' => ∃ (n1 : Int), v = .int .i64 n1 ∧ K n1 h') := by
  unfold ref2_Disk_Write at H
  refine CallsH.intro (fn := Try.f103) (N := 49) (e := aE 0 [.pointer d1, .int .i64 at2, data3.v]) Try.func103 rfl rfl (aE_spec _) rfl ?_
  refine WPC.seq ?_
  refine WPC.region ?_
  refine WPL.q tk0 (asg rfl) rfl ?_
  refine WPL.nil ?_
  refine WQ.next ?_
  refine WPC.seq ?_
  refine WPC.seq ?_
  refine WPC.region ?_
  refine WPL.q tk0 (mv rfl) rfl ?_
  refine WPL.q tk0 (bEqN pO_71 rfl) rfl ?_
  refine WPL.nil ?_
  refine WQ.next ?_
  refine WPC.cond rfl (fun hb4 => ?_) (fun hb4 => ?_)
  · have H := H.1 hb4
    refine WPC.seq ?_
    refine WPC.region ?_
    refine WPL.q tk0 (asg rfl) rfl ?_
    refine WPL.nil ?_
    refine WQ.next ?_
    refine WPC.ret ?_
    refine WQ.thenR ?_
    exact WQ.done (rets1 rfl rfl) ⟨_, rfl, H⟩
  · have H := H.2 hb4
    refine WPC.skip ?_
    refine WQ.next ?_
    refine WPC.seq ?_
    refine WPC.seq ?_
    obtain ⟨k6, hk8, H⟩ := H
    refine WPC.join (fun e h => ∃ (b5 : Bool), e = [(0, .pointer d1), (1, .int .i64 at2), (2, data3.v), (17, .bool b5)] ∧ k6 b5 h) ?_ (fun hj7 => ?_)
    · rintro _ h9 ⟨b5, rfl, HK10⟩
      have H := hk8 b5 h9 HK10
      refine WQ.next ?_
      refine WPC.cond rfl (fun hb11 => ?_) (fun hb11 => ?_)
      · have H := H.1 hb11
        refine WPC.seq ?_
        refine WPC.region ?_
        refine WPL.q tk0 (asg rfl) rfl ?_
        refine WPL.nil ?_
        refine WQ.next ?_
        refine WPC.ret ?_
        refine WQ.thenR ?_
        exact WQ.done (rets1 rfl rfl) ⟨_, rfl, H⟩
      · have H := H.2 hb11
        refine WPC.skip ?_
        refine WQ.next ?_
        refine WPC.seq ?_
        refine WPC.seq ?_
        refine WPC.region ?_
        refine WPL.q tk0 (mv rfl) rfl ?_
        refine WPL.q tk0 (lnb sO_24 rfl) rfl ?_
        refine WPL.q tk0 (bNeq rfl rfl) rfl ?_
        refine WPL.nil ?_
        refine WQ.next ?_
        refine WPC.cond rfl (fun hb12 => ?_) (fun hb12 => ?_)
        · have H := H.1 hb12
          refine WPC.seq ?_
          refine WPC.region ?_
          refine WPL.q tk0 (asg rfl) rfl ?_
          refine WPL.nil ?_
          refine WQ.next ?_
          refine WPC.ret ?_
          refine WQ.thenR ?_
          exact WQ.done (rets1 rfl rfl) ⟨_, rfl, H⟩
        · have H := H.2 hb12
          refine WPC.skip ?_
          refine WQ.next ?_
          refine WPC.seq ?_
          refine WPC.seq ?_
          refine WPC.region ?_
          refine WPL.q tk0 (mv rfl) rfl ?_
          obtain ⟨a13, ha14, H⟩ := H
          refine WPL.q tk0 (ncb rfl ha14) rfl ?_
          refine WPL.q tk0 (fa fO_158_3 rfl) rfl ?_
          obtain ⟨b16, hv15, H⟩ := H
          refine WPL.q tk0 (ld kO_4 rfl hv15) rfl ?_
          refine WPL.nil ?_
          refine WQ.next ?_
          refine WPC.cond rfl (fun hb17 => ?_) (fun hb17 => ?_)
          · have H := H.1 hb17
            refine WPC.seq ?_
            refine WPC.region ?_
            refine WPL.q tk0 (asg rfl) rfl ?_
            refine WPL.nil ?_
            refine WQ.next ?_
            refine WPC.ret ?_
            refine WQ.thenR ?_
            exact WQ.done (rets1 rfl rfl) ⟨_, rfl, H⟩
          · have H := H.2 hb17
            refine WPC.skip ?_
            refine WQ.next ?_
            refine WPC.seq ?_
            refine WPC.region ?_
            refine WPL.q tk0 (mv rfl) rfl ?_
            have HC := ref2_Disk_operation_ok (W := W) H
            refine WPL.eff tk0 (cl cO_134 rfl HC) rfl ?_
            rintro _ h19 ⟨b18, rfl, H⟩
            refine WPL.q tk0 (asg rfl) rfl ?_
            refine WPL.nil ?_
            refine WQ.next ?_
            refine WPC.seq ?_
            refine WPC.seq ?_
            refine WPC.region ?_
            refine WPL.q tk0 (mv rfl) rfl ?_
            refine WPL.q tk0 (uNot rfl) rfl ?_
            refine WPL.nil ?_
            refine WQ.next ?_
            refine WPC.cond rfl (fun hb20 => ?_) (fun hb20 => ?_)
            · have H := H.1 hb20
              refine WPC.seq ?_
              refine WPC.region ?_
              refine WPL.q tk0 (asg rfl) rfl ?_
              refine WPL.nil ?_
              refine WQ.next ?_
              refine WPC.ret ?_
              refine WQ.thenR ?_
              exact WQ.done (rets1 rfl rfl) ⟨_, rfl, H⟩
            · have H := H.2 hb20
              refine WPC.skip ?_
              refine WQ.next ?_
              refine WPC.seq ?_
              refine WPC.draw (al := [0, 0, 2, 6, 14, 0, 0, 64, 224, 480, 1022, 2047, 4095, 8191]) (p := (.p 0 (.p 1 (.p 2 (.p 3 (.q 4 (.p 5 (.p 6 (.e1 7 (.p 8 (.e1 9 (.e1 10 (.p 11 (.p 12 (.e1 13 .done))))))))))))))) mixO (by kernel_rfl) ?_
              refine PL.pp rfl rfl tk0 (fun _ => mv rfl) ?_
              refine PL.pp rfl rfl tk0 (fun _ => mv rfl) ?_
              refine PL.pp rfl rfl tk0 (fun _ => ncb rfl ha14) ?_
              refine PL.pp rfl rfl tk0 (fun _ => fa fO_158_1 rfl) ?_
              obtain ⟨s22, hv21, H⟩ := H
              refine PL.qq rfl rfl tk0 (ld kO_149 rfl hv21) ?_
              refine PL.pp rfl rfl tk0 (fun _ => mv rfl) ?_
              refine PL.pp rfl rfl tk0 (fun _ => mv rfl) ?_
              have HC := ref2_Same_ok (W := W) H
              refine PL.ee (S' := [(4, s22.v)]) (by kernel_rfl) rfl rfl tk0 (cl cO_102 rfl HC) ?_
              rintro _ h24 ⟨s23, rfl, H⟩
              obtain ⟨hs25, H⟩ := H
              refine ⟨(Stay.y (by kernel_rfl) rfl tk0 (ld kO_149 rfl hs25) Stay.n), ?_⟩
              refine PL.pp rfl rfl tk0 (fun _ => bd (l := [.int .i64 at2, s23.v]) rfl (by kernel_rfl)) ?_
              obtain ⟨b26, h27, s28, hb29, hh30, hs31, H⟩ := H
              obtain ⟨hs32, H⟩ := H
              refine PL.ff (S' := [(4, s22.v)]) (by kernel_rfl) rfl rfl tk0 (bsl1N (l := [.int .i64 at2, s23.v]) sO_149 zO_156 rfl rfl rfl ⟨by decide, rfl⟩ hb29 hh30 hs31) (Stay.y (by kernel_rfl) rfl tk0 (ld kO_149 rfl hs32) Stay.n) ?_
              refine PL.ee (S' := []) (by kernel_rfl) rfl rfl tk0 (app (rt := 0) sO_149 zO_156 rfl (by decide) rfl rfl H) ?_
              rintro _ h34 ⟨s33, rfl, H⟩
              refine ⟨(Stay.t (by kernel_rfl) Stay.n), ?_⟩
              refine PL.pp rfl rfl tk0 (fun _ => ncb rfl ha14) ?_
              refine PL.pp rfl rfl tk0 (fun _ => fa fO_158_1 rfl) ?_
              obtain ⟨h35, hs36, H⟩ := H
              refine PL.ff (S' := []) (by kernel_rfl) rfl rfl tk0 (st kO_149 rfl rfl rfl hs36) Stay.n ?_
              refine WQ.next ?_
              refine WPC.seq ?_
              refine WPC.region ?_
              refine WPL.q tk0 (mv rfl) rfl ?_
              refine WPL.q tk0 (ncb rfl ha14) rfl ?_
              refine WPL.q tk0 (fa fO_158_4 rfl) rfl ?_
              obtain ⟨n38, hv37, H⟩ := H
              refine WPL.q tk0 (ld kO_3 rfl hv37) rfl ?_
              obtain ⟨n39, hn40, H⟩ := H
              refine WPL.q tk0 (bAdd rfl rfl hn40) rfl ?_
              refine WPL.q tk0 (ncb rfl ha14) rfl ?_
              refine WPL.q tk0 (fa fO_158_4 rfl) rfl ?_
              obtain ⟨h41, hs42, H⟩ := H
              refine WPL.f tk0 (st kO_3 rfl rfl rfl hs42) rfl ?_
              refine WPL.nil ?_
              refine WQ.next ?_
              refine WPC.seq ?_
              refine WPC.region ?_
              refine WPL.q tk0 (asg rfl) rfl ?_
              refine WPL.nil ?_
              refine WQ.next ?_
              refine WPC.ret ?_
              exact WQ.done (rets1 rfl rfl) ⟨_, rfl, H⟩
    · refine WPC.region ?_
      refine WPL.q tk0 (mv rfl) rfl ?_
      refine WPL.q tk0 (bLss rfl rfl) rfl ?_
      refine WPL.q tk0 (mv rfl) rfl ?_
      rcases Bool.eq_false_or_eq_true ((decide (at2 < 0))) with hb43 | hb43
      · have H := H.1 hb43
        refine WPL.skip (ntkb rfl rfl hb43) rfl ?_
        refine WPL.skip (ntkb rfl rfl hb43) rfl ?_
        refine WPL.skip (ntkb rfl rfl hb43) rfl ?_
        refine WPL.skip (ntkb rfl rfl hb43) rfl ?_
        refine WPL.q tk0 (pkTb rfl hb43 rfl) rfl ?_
        refine WPL.nil ?_
        exact (hj7 _ _ ⟨_, rfl, H⟩).weak ⟨rfl, rfl, rfl, rfl, trivial⟩
      · have H := H.2 hb43
        refine WPL.q (tkb rfl rfl hb43) (mv rfl) rfl ?_
        refine WPL.q (tkb rfl rfl hb43) (mv rfl) rfl ?_
        have HC := ref2_Disk_Sectors_ok (W := W) H
        refine WPL.eff (tkb rfl rfl hb43) (cl cO_130 rfl HC) rfl ?_
        rintro _ h45 ⟨n44, rfl, H⟩
        refine WPL.q (tkb rfl rfl hb43) (bGeq rfl rfl) rfl ?_
        refine WPL.q tk0 (pkFb rfl hb43 rfl) rfl ?_
        refine WPL.nil ?_
        exact (hj7 _ _ ⟨_, rfl, H⟩).weak ⟨rfl, rfl, rfl, rfl, trivial⟩

/-- (*trellis/trellisref2.Disk).lay -/
def ref2_Disk_lay (d1 : Option Addr) (n2 : Int) (s3 : Sl) (K : Hp → Prop) (h : Hp) : Prop :=
  ∃ (b4 : Nat) (h5 : Hp), b4 = h.size ∧ h5 = h.push (Cel [.int .i64 n2, s3.v] 156) ∧ ∃ I9 : Nat → Int → Hp → Prop, (∃ m13, I9 m13 0 h5) ∧ ∀ (m10 : Nat) (i8 : Int) (h11 : Hp), I9 m10 i8 h11 → (((decide (i8 < 128)) = true → (∃ a16 : Addr, d1 = some a16 ∧ ∃ s19 : Sl, rdc h11 (a16.add 0) = some (s19.v) ∧ ∃ n21 : Int, rdc h11 ((nA b4).add 0) = some (.int .i64 n21) ∧ ∃ n22 : Int, Wr .i64 ((128 : Int) * n21) n22 ∧ ∃ n24 : Int, Wr .i64 (n22 + i8) n24 ∧ ∃ s27 : Sl, rdc h11 ((nA b4).add 1) = some (s27.v) ∧ ∃ a28 : Addr, s27.p = some a28 ∧ 0 ≤ i8 ∧ i8 < (s27.len : Int) ∧ ∃ n33 : Int, rdc h11 (a28.add (Int.toNat i8 * 1)) = some (.int .u8 n33) ∧ ∃ a34 : Addr, s19.p = some a34 ∧ 0 ≤ n24 ∧ n24 < (s19.len : Int) ∧ ∃ h38 : Hp, StL h11 (a34.add (Int.toNat n24 * 1)) [.int .u8 n33] h38 ∧ ∃ n40 : Int, Wr .i64 (i8 + 1) n40 ∧ ∃ m42, m42 < m10 ∧ I9 m42 n40 h38)) ∧ ((decide (i8 < 128)) = false → (K h11)))

theorem ref2_Disk_lay_ok {W : World} {h : Hp} {d1 : Option Addr} {n2 : Int} {s3 : Sl} {K : Hp → Prop} (H : ref2_Disk_lay d1 n2 s3 K h) :
    CallsH Try.prog 110 (List.toArray [.pointer d1, .agg (List.toArray [.int .i64 n2, s3.v])]) W h (fun v h' => v = .tuple #[] ∧ K h') := by
  unfold ref2_Disk_lay at H
  refine CallsH.intro (fn := Try.f110) (N := 24) (e := aE 0 [.pointer d1, .agg (List.toArray [.int .i64 n2, s3.v])]) Try.func110 rfl rfl (aE_spec _) rfl ?_
  refine WPC.seq ?_
  refine WPC.region ?_
  obtain ⟨b4, h5, hb6, hh7, H⟩ := H
  refine WPL.f tk0 (bxN (l := [.int .i64 n2, s3.v]) rfl rfl hb6 hh7) rfl ?_
  refine WPL.nil ?_
  refine WQ.next ?_
  refine WPC.seq ?_
  refine WPC.region ?_
  refine WPL.q tk0 (asg rfl) rfl ?_
  refine WPL.nil ?_
  refine WQ.next ?_
  refine WPC.block ?_
  obtain ⟨I9, ⟨m13, HI14⟩, H⟩ := H
  refine WPC.weak (e' := [(0, .pointer d1), (3, .pointer (some (nA b4))), (4, .int .i64 0)]) ?_ ⟨rfl, rfl, rfl, trivial⟩
  refine WPC.loop (fun m e h => ∃ (i8 : Int), e = [(0, .pointer d1), (3, .pointer (some (nA b4))), (4, .int .i64 i8)] ∧ I9 m i8 h) ⟨m13, _, rfl, HI14⟩ ?_
  rintro m10 _ h11 ⟨i8, rfl, HI12⟩
  have H := H m10 i8 h11 HI12
  refine WPC.seq ?_
  refine WPC.seq ?_
  refine WPC.region ?_
  refine WPL.q tk0 (mv rfl) rfl ?_
  refine WPL.q tk0 (bLss rfl rfl) rfl ?_
  refine WPL.nil ?_
  refine WQ.next ?_
  refine WPC.cond rfl (fun hb15 => ?_) (fun hb15 => ?_)
  · have H := H.1 hb15
    refine WPC.skip ?_
    refine WQ.next ?_
    refine WPC.seq ?_
    refine WPC.block ?_
    refine WPC.draw (al := [0, 1, 3, 7, 0, 16, 48, 0, 240, 0, 512, 0, 3584, 7680, 16383, 32767]) (p := (.p 0 (.p 1 (.p 2 (.q 3 (.p 4 (.q 5 (.p 6 (.p 7 (.p 8 (.p 9 (.q 10 (.p 11 (.p 12 (.q 13 (.p 14 (.e1 15 .done))))))))))))))))) mixO (by kernel_rfl) ?_
    refine PL.pp rfl rfl tk0 (fun _ => mv rfl) ?_
    obtain ⟨a16, ha17, H⟩ := H
    refine PL.pp rfl rfl tk0 (fun _ => ncb rfl ha17) ?_
    refine PL.pp rfl rfl tk0 (fun _ => fa fO_158_0 rfl) ?_
    obtain ⟨s19, hv18, H⟩ := H
    refine PL.qq rfl rfl tk0 (ld kO_24 rfl hv18) ?_
    refine PL.pp rfl rfl tk0 (fun _ => fa fO_156_0 rfl) ?_
    obtain ⟨n21, hv20, H⟩ := H
    refine PL.qq rfl rfl tk0 (ld kO_3 rfl hv20) ?_
    obtain ⟨n22, hn23, H⟩ := H
    refine PL.pp rfl rfl tk0 (fun _ => bMul rfl rfl hn23) ?_
    refine PL.pp rfl rfl tk0 (fun _ => mv rfl) ?_
    obtain ⟨n24, hn25, H⟩ := H
    refine PL.pp rfl rfl tk0 (fun _ => bAdd rfl rfl hn25) ?_
    refine PL.pp rfl rfl tk0 (fun _ => fa fO_156_1 rfl) ?_
    obtain ⟨s27, hv26, H⟩ := H
    refine PL.qq rfl rfl tk0 (ld kO_24 rfl hv26) ?_
    refine PL.pp rfl rfl tk0 (fun _ => mv rfl) ?_
    obtain ⟨a28, ha29, H⟩ := H
    obtain ⟨h30, h31, H⟩ := H
    refine PL.pp rfl rfl tk0 (fun _ => ixSb sO_24 rfl rfl ha29 h30 h31) ?_
    obtain ⟨n33, hv32, H⟩ := H
    refine PL.qq rfl rfl tk0 (ld kO_5 rfl hv32) ?_
    obtain ⟨a34, ha35, H⟩ := H
    obtain ⟨h36, h37, H⟩ := H
    refine PL.pp rfl rfl tk0 (fun _ => ixSb sO_24 rfl rfl ha35 h36 h37) ?_
    obtain ⟨h38, hs39, H⟩ := H
    refine PL.ff (S' := []) (by kernel_rfl) rfl rfl tk0 (st kO_5 rfl rfl rfl hs39) (Stay.t (by kernel_rfl) (Stay.t (by kernel_rfl) (Stay.t (by kernel_rfl) (Stay.t (by kernel_rfl) Stay.n)))) ?_
    refine WQ.blockN ?_
    refine WQ.next ?_
    refine WPC.region ?_
    refine WPL.q tk0 (mv rfl) rfl ?_
    obtain ⟨n40, hn41, H⟩ := H
    refine WPL.q tk0 (bAdd rfl rfl hn41) rfl ?_
    refine WPL.q tk0 (asg rfl) rfl ?_
    refine WPL.nil ?_
    obtain ⟨m42, lt43, H⟩ := H
    exact WQ.again lt43 ⟨_, rfl, H⟩ ⟨rfl, rfl, rfl, trivial⟩
  · have H := H.2 hb15
    refine WPC.exit ?_
    refine WQ.thenX ?_
    refine WQ.thenX ?_
    refine WQ.hit ?_
    exact WQ.doneN (rets0 rfl) ⟨rfl, H⟩

/-- (*trellis/trellisref2.Disk).Flush -/
def ref2_Disk_Flush (d1 : Option Addr) (K : Int → Hp → Prop) (h : Hp) : Prop :=
  (d1.isNone = true → (K 1 h)) ∧ (d1.isNone = false → (∃ a3 : Addr, d1 = some a3 ∧ ∃ b6 : Bool, rdc h (a3.add 3) = some (.bool b6) ∧ (b6 = true → (K 2 h)) ∧ (b6 = false → (ref2_Disk_operation d1 (fun b8 h9 => ((!b8) = true → (K 2 h9)) ∧ ((!b8) = false → (∃ I12 : Nat → Int → Hp → Prop, (∃ m16, I12 m16 0 h9) ∧ ∀ (m13 : Nat) (i11 : Int) (h14 : Hp), I12 m13 i11 h14 → (∃ s19 : Sl, rdc h14 (a3.add 1) = some (s19.v) ∧ ((decide (i11 < (s19.len : Int))) = true → (∃ s22 : Sl, rdc h14 (a3.add 1) = some (s22.v) ∧ ∃ a23 : Addr, s22.p = some a23 ∧ 0 ≤ i11 ∧ i11 < (s22.len : Int) ∧ ∃ (n28 : Int) (s29 : Sl), RdL h14 (a23.add (Int.toNat i11 * 2)) [.int .i64 n28, s29.v] ∧ ref2_Disk_lay d1 n28 s29 (fun h30 => ∃ n31 : Int, Wr .i64 (i11 + 1) n31 ∧ ∃ m33, m33 < m13 ∧ I12 m33 n31 h30) h14)) ∧ ((decide (i11 < (s19.len : Int))) = false → (∃ h36 : Hp, StL h14 (a3.add 1) [.slice none 0 0] h36 ∧ ∃ n39 : Int, rdc h36 (a3.add 5) = some (.int .i64 n39) ∧ ∃ n40 : Int, Wr .i64 (n39 + 1) n40 ∧ ∃ h42 : Hp, StL h36 (a3.add 5) [.int .i64 n40] h42 ∧ K 0 h42)))))) h))))

theorem ref2_Disk_Flush_ok {W : World} {h : Hp} {d1 : Option Addr} {K : Int → Hp → Prop} (H : ref2_Disk_Flush d1 K h) :
    CallsH Try.prog 104 (List.toArray [.pointer d1]) W h (fun v h' => ∃ (n1 : Int), v = .int .i64 n1 ∧ K n1 h') := by
  unfold ref2_Disk_Flush at H
  refine CallsH.intro (fn := Try.f104) (N := 43) (e := aE 0 [.pointer d1]) Try.func104 rfl rfl (aE_spec _) rfl ?_
  refine WPC.seq ?_
  refine WPC.region ?_
  refine WPL.q tk0 (asg rfl) rfl ?_
  refine WPL.nil ?_
  refine WQ.next ?_
  refine WPC.seq ?_
  refine WPC.seq ?_
  refine WPC.region ?_
  refine WPL.q tk0 (mv rfl) rfl ?_
  refine WPL.q tk0 (bEqN pO_71 rfl) rfl ?_
  refine WPL.nil ?_
  refine WQ.next ?_
  refine WPC.cond rfl (fun hb2 => ?_) (fun hb2 => ?_)
  · have H := H.1 hb2
    refine WPC.seq ?_
    refine WPC.region ?_
    refine WPL.q tk0 (asg rfl) rfl ?_
    refine WPL.nil ?_
    refine WQ.next ?_
    refine WPC.ret ?_
    refine WQ.thenR ?_
    exact WQ.done (rets1 rfl rfl) ⟨_, rfl, H⟩
  · have H := H.2 hb2
    refine WPC.skip ?_
    refine WQ.next ?_
    refine WPC.seq ?_
    refine WPC.seq ?_
    refine WPC.region ?_
    refine WPL.q tk0 (mv rfl) rfl ?_
    obtain ⟨a3, ha4, H⟩ := H
    refine WPL.q tk0 (ncb rfl ha4) rfl ?_
    refine WPL.q tk0 (fa fO_158_3 rfl) rfl ?_
    obtain ⟨b6, hv5, H⟩ := H
    refine WPL.q tk0 (ld kO_4 rfl hv5) rfl ?_
    refine WPL.nil ?_
    refine WQ.next ?_
    refine WPC.cond rfl (fun hb7 => ?_) (fun hb7 => ?_)
    · have H := H.1 hb7
      refine WPC.seq ?_
      refine WPC.region ?_
      refine WPL.q tk0 (asg rfl) rfl ?_
      refine WPL.nil ?_
      refine WQ.next ?_
      refine WPC.ret ?_
      refine WQ.thenR ?_
      exact WQ.done (rets1 rfl rfl) ⟨_, rfl, H⟩
    · have H := H.2 hb7
      refine WPC.skip ?_
      refine WQ.next ?_
      refine WPC.seq ?_
      refine WPC.region ?_
      refine WPL.q tk0 (mv rfl) rfl ?_
      have HC := ref2_Disk_operation_ok (W := W) H
      refine WPL.eff tk0 (cl cO_134 rfl HC) rfl ?_
      rintro _ h9 ⟨b8, rfl, H⟩
      refine WPL.q tk0 (asg rfl) rfl ?_
      refine WPL.nil ?_
      refine WQ.next ?_
      refine WPC.seq ?_
      refine WPC.seq ?_
      refine WPC.region ?_
      refine WPL.q tk0 (mv rfl) rfl ?_
      refine WPL.q tk0 (uNot rfl) rfl ?_
      refine WPL.nil ?_
      refine WQ.next ?_
      refine WPC.cond rfl (fun hb10 => ?_) (fun hb10 => ?_)
      · have H := H.1 hb10
        refine WPC.seq ?_
        refine WPC.region ?_
        refine WPL.q tk0 (asg rfl) rfl ?_
        refine WPL.nil ?_
        refine WQ.next ?_
        refine WPC.ret ?_
        refine WQ.thenR ?_
        exact WQ.done (rets1 rfl rfl) ⟨_, rfl, H⟩
      · have H := H.2 hb10
        refine WPC.skip ?_
        refine WQ.next ?_
        refine WPC.seq ?_
        refine WPC.seq ?_
        refine WPC.region ?_
        refine WPL.q tk0 (asg rfl) rfl ?_
        refine WPL.nil ?_
        refine WQ.next ?_
        refine WPC.block ?_
        obtain ⟨I12, ⟨m16, HI17⟩, H⟩ := H
        refine WPC.weak (e' := [(0, .pointer d1), (4, .int .i64 0)]) ?_ ⟨rfl, rfl, trivial⟩
        refine WPC.loop (fun m e h => ∃ (i11 : Int), e = [(0, .pointer d1), (4, .int .i64 i11)] ∧ I12 m i11 h) ⟨m16, _, rfl, HI17⟩ ?_
        rintro m13 _ h14 ⟨i11, rfl, HI15⟩
        have H := H m13 i11 h14 HI15
        refine WPC.seq ?_
        refine WPC.seq ?_
        refine WPC.region ?_
        refine WPL.q tk0 (mv rfl) rfl ?_
        refine WPL.q tk0 (mv rfl) rfl ?_
        refine WPL.q tk0 (ncb rfl ha4) rfl ?_
        refine WPL.q tk0 (fa fO_158_1 rfl) rfl ?_
        obtain ⟨s19, hv18, H⟩ := H
        refine WPL.q tk0 (ld kO_149 rfl hv18) rfl ?_
        refine WPL.q tk0 (lnb sO_149 rfl) rfl ?_
        refine WPL.q tk0 (bLss rfl rfl) rfl ?_
        refine WPL.nil ?_
        refine WQ.next ?_
        refine WPC.cond rfl (fun hb20 => ?_) (fun hb20 => ?_)
        · have H := H.1 hb20
          refine WPC.skip ?_
          refine WQ.next ?_
          refine WPC.seq ?_
          refine WPC.block ?_
          refine WPC.region ?_
          refine WPL.q tk0 (mv rfl) rfl ?_
          refine WPL.q tk0 (mv rfl) rfl ?_
          refine WPL.q tk0 (ncb rfl ha4) rfl ?_
          refine WPL.q tk0 (fa fO_158_1 rfl) rfl ?_
          obtain ⟨s22, hv21, H⟩ := H
          refine WPL.q tk0 (ld kO_149 rfl hv21) rfl ?_
          refine WPL.q tk0 (mv rfl) rfl ?_
          obtain ⟨a23, ha24, H⟩ := H
          obtain ⟨h25, h26, H⟩ := H
          refine WPL.q tk0 (ixSb sO_149 rfl rfl ha24 h25 h26) rfl ?_
          obtain ⟨n28, s29, hv27, H⟩ := H
          refine WPL.q tk0 (ldA kO_156 rfl rfl hv27) rfl ?_
          have HC := ref2_Disk_lay_ok (W := W) H
          refine WPL.eff tk0 (cl cO_110 rfl HC) rfl ?_
          rintro _ h30 ⟨rfl, H⟩
          refine WPL.nil ?_
          refine WQ.blockN ?_
          refine WQ.next ?_
          refine WPC.region ?_
          refine WPL.q tk0 (mv rfl) rfl ?_
          obtain ⟨n31, hn32, H⟩ := H
          refine WPL.q tk0 (bAdd rfl rfl hn32) rfl ?_
          refine WPL.q tk0 (asg rfl) rfl ?_
          refine WPL.nil ?_
          obtain ⟨m33, lt34, H⟩ := H
          exact WQ.again lt34 ⟨_, rfl, H⟩ ⟨rfl, rfl, trivial⟩
        · have H := H.2 hb20
          refine WPC.exit ?_
          refine WQ.thenX ?_
          refine WQ.thenX ?_
          refine WQ.hit ?_
          refine WQ.next ?_
          refine WPC.seq ?_
          refine WPC.region ?_
          refine WPL.q tk0 (mv rfl) rfl ?_
          refine WPL.q tk0 (ncb rfl ha4) rfl ?_
          refine WPL.q tk0 (fa fO_158_1 rfl) rfl ?_
          obtain ⟨h36, hs37, H⟩ := H
          refine WPL.f tk0 (st kO_149 rfl rfl rfl hs37) rfl ?_
          refine WPL.nil ?_
          refine WQ.next ?_
          refine WPC.seq ?_
          refine WPC.region ?_
          refine WPL.q tk0 (mv rfl) rfl ?_
          refine WPL.q tk0 (ncb rfl ha4) rfl ?_
          refine WPL.q tk0 (fa fO_158_5 rfl) rfl ?_
          obtain ⟨n39, hv38, H⟩ := H
          refine WPL.q tk0 (ld kO_3 rfl hv38) rfl ?_
          obtain ⟨n40, hn41, H⟩ := H
          refine WPL.q tk0 (bAdd rfl rfl hn41) rfl ?_
          refine WPL.q tk0 (ncb rfl ha4) rfl ?_
          refine WPL.q tk0 (fa fO_158_5 rfl) rfl ?_
          obtain ⟨h42, hs43, H⟩ := H
          refine WPL.f tk0 (st kO_3 rfl rfl rfl hs43) rfl ?_
          refine WPL.nil ?_
          refine WQ.next ?_
          refine WPC.seq ?_
          refine WPC.region ?_
          refine WPL.q tk0 (asg rfl) rfl ?_
          refine WPL.nil ?_
          refine WQ.next ?_
          refine WPC.ret ?_
          exact WQ.done (rets1 rfl rfl) ⟨_, rfl, H⟩

/-- (*trellis/trellisref2.Disk).Cut -/
def ref2_Disk_Cut (d1 : Option Addr) (after2 : Int) (K : Int → Hp → Prop) (h : Hp) : Prop :=
  ∃ k4 : Bool → Hp → Prop, (∀ (b3 : Bool) (h7 : Hp), k4 b3 h7 → ((b3 = true → (K 1 h7)) ∧ (b3 = false → (∃ a10 : Addr, d1 = some a10 ∧ ∃ b13 : Bool, rdc h7 (a10.add 3) = some (.bool b13) ∧ (b13 = true → (K 2 h7)) ∧ (b13 = false → (∃ h15 : Hp, StL h7 (a10.add 2) [.int .i64 after2] h15 ∧ K 0 h15)))))) ∧ ((d1.isNone = true → (k4 true h)) ∧ (d1.isNone = false → (k4 (decide (after2 < 0)) h)))

theorem ref2_Disk_Cut_ok {W : World} {h : Hp} {d1 : Option Addr} {after2 : Int} {K : Int → Hp → Prop} (H : ref2_Disk_Cut d1 after2 K h) :
    CallsH Try.prog 54 (List.toArray [.pointer d1, .int .i64 after2]) W h (fun v h' => ∃ (n1 : Int), v = .int .i64 n1 ∧ K n1 h') := by
  unfold ref2_Disk_Cut at H
  refine CallsH.intro (fn := Try.f54) (N := 19) (e := aE 0 [.pointer d1, .int .i64 after2]) Try.func54 rfl rfl (aE_spec _) rfl ?_
  refine WPC.seq ?_
  refine WPC.region ?_
  refine WPL.q tk0 (asg rfl) rfl ?_
  refine WPL.nil ?_
  refine WQ.next ?_
  refine WPC.seq ?_
  refine WPC.seq ?_
  obtain ⟨k4, hk6, H⟩ := H
  refine WPC.join (fun e h => ∃ (b3 : Bool), e = [(0, .pointer d1), (1, .int .i64 after2), (10, .bool b3)] ∧ k4 b3 h) ?_ (fun hj5 => ?_)
  · rintro _ h7 ⟨b3, rfl, HK8⟩
    have H := hk6 b3 h7 HK8
    refine WQ.next ?_
    refine WPC.cond rfl (fun hb9 => ?_) (fun hb9 => ?_)
    · have H := H.1 hb9
      refine WPC.seq ?_
      refine WPC.region ?_
      refine WPL.q tk0 (asg rfl) rfl ?_
      refine WPL.nil ?_
      refine WQ.next ?_
      refine WPC.ret ?_
      refine WQ.thenR ?_
      exact WQ.done (rets1 rfl rfl) ⟨_, rfl, H⟩
    · have H := H.2 hb9
      refine WPC.skip ?_
      refine WQ.next ?_
      refine WPC.seq ?_
      refine WPC.seq ?_
      refine WPC.region ?_
      refine WPL.q tk0 (mv rfl) rfl ?_
      obtain ⟨a10, ha11, H⟩ := H
      refine WPL.q tk0 (ncb rfl ha11) rfl ?_
      refine WPL.q tk0 (fa fO_158_3 rfl) rfl ?_
      obtain ⟨b13, hv12, H⟩ := H
      refine WPL.q tk0 (ld kO_4 rfl hv12) rfl ?_
      refine WPL.nil ?_
      refine WQ.next ?_
      refine WPC.cond rfl (fun hb14 => ?_) (fun hb14 => ?_)
      · have H := H.1 hb14
        refine WPC.seq ?_
        refine WPC.region ?_
        refine WPL.q tk0 (asg rfl) rfl ?_
        refine WPL.nil ?_
        refine WQ.next ?_
        refine WPC.ret ?_
        refine WQ.thenR ?_
        exact WQ.done (rets1 rfl rfl) ⟨_, rfl, H⟩
      · have H := H.2 hb14
        refine WPC.skip ?_
        refine WQ.next ?_
        refine WPC.seq ?_
        refine WPC.region ?_
        refine WPL.q tk0 (mv rfl) rfl ?_
        refine WPL.q tk0 (mv rfl) rfl ?_
        refine WPL.q tk0 (ncb rfl ha11) rfl ?_
        refine WPL.q tk0 (fa fO_158_2 rfl) rfl ?_
        obtain ⟨h15, hs16, H⟩ := H
        refine WPL.f tk0 (st kO_3 rfl rfl rfl hs16) rfl ?_
        refine WPL.nil ?_
        refine WQ.next ?_
        refine WPC.seq ?_
        refine WPC.region ?_
        refine WPL.q tk0 (asg rfl) rfl ?_
        refine WPL.nil ?_
        refine WQ.next ?_
        refine WPC.ret ?_
        exact WQ.done (rets1 rfl rfl) ⟨_, rfl, H⟩
  · refine WPC.region ?_
    refine WPL.q tk0 (mv rfl) rfl ?_
    refine WPL.q tk0 (bEqN pO_71 rfl) rfl ?_
    refine WPL.q tk0 (mv rfl) rfl ?_
    rcases Bool.eq_false_or_eq_true (d1.isNone) with hb17 | hb17
    · have H := H.1 hb17
      refine WPL.skip (ntkb rfl rfl hb17) rfl ?_
      refine WPL.skip (ntkb rfl rfl hb17) rfl ?_
      refine WPL.q tk0 (pkTb rfl hb17 rfl) rfl ?_
      refine WPL.nil ?_
      exact (hj5 _ _ ⟨_, rfl, H⟩).weak ⟨rfl, rfl, rfl, trivial⟩
    · have H := H.2 hb17
      refine WPL.q (tkb rfl rfl hb17) (mv rfl) rfl ?_
      refine WPL.q (tkb rfl rfl hb17) (bLss rfl rfl) rfl ?_
      refine WPL.q tk0 (pkFb rfl hb17 rfl) rfl ?_
      refine WPL.nil ?_
      exact (hj5 _ _ ⟨_, rfl, H⟩).weak ⟨rfl, rfl, rfl, trivial⟩

/-- (*trellis/trellisref2.Disk).Crash -/
def ref2_Disk_Crash (d1 : Option Addr) (keep2 : Sl) (K : Int → Int → Hp → Prop) (h : Hp) : Prop :=
  (d1.isNone = true → (K 0 1 h)) ∧ (d1.isNone = false → (∃ I6 : Nat → Int → Int → Hp → Prop, (∃ m10, I6 m10 0 0 h) ∧ ∀ (m7 : Nat) (n4 : Int) (i5 : Int) (h8 : Hp), I6 m7 n4 i5 h8 → (∃ k13 : Bool → Hp → Prop, (∀ (b12 : Bool) (h16 : Hp), k13 b12 h16 → ((b12 = true → (∃ k20 : Int → Hp → Prop, (∀ (n19 : Int) (h23 : Hp), k20 n19 h23 → (∃ n25 : Int, Wr .i64 (i5 + 1) n25 ∧ ∃ m27, m27 < m7 ∧ I6 m27 n19 n25 h23)) ∧ (∃ a30 : Addr, keep2.p = some a30 ∧ 0 ≤ i5 ∧ i5 < (keep2.len : Int) ∧ ∃ b35 : Bool, rdc h16 (a30.add (Int.toNat i5 * 1)) = some (.bool b35) ∧ (b35 = true → (∃ a37 : Addr, d1 = some a37 ∧ ∃ s40 : Sl, rdc h16 (a37.add 1) = some (s40.v) ∧ ∃ a41 : Addr, s40.p = some a41 ∧ 0 ≤ i5 ∧ i5 < (s40.len : Int) ∧ ∃ (n46 : Int) (s47 : Sl), RdL h16 (a41.add (Int.toNat i5 * 2)) [.int .i64 n46, s47.v] ∧ ref2_Disk_lay d1 n46 s47 (fun h48 => ∃ n49 : Int, Wr .i64 (n4 + 1) n49 ∧ k20 n49 h48) h16)) ∧ (b35 = false → (k20 n4 h16))))) ∧ (b12 = false → (∃ a51 : Addr, d1 = some a51 ∧ ∃ h53 : Hp, StL h16 (a51.add 1) [.slice none 0 0] h53 ∧ ∃ h55 : Hp, StL h53 (a51.add 3) [.bool false] h55 ∧ ∃ h57 : Hp, StL h55 (a51.add 2) [.int .i64 (-1)] h57 ∧ K n4 0 h57)))) ∧ (∃ a59 : Addr, d1 = some a59 ∧ ∃ s62 : Sl, rdc h8 (a59.add 1) = some (s62.v) ∧ ((decide (i5 < (s62.len : Int))) = true → (k13 (decide (i5 < (keep2.len : Int))) h8)) ∧ ((decide (i5 < (s62.len : Int))) = false → (k13 false h8))))))

theorem ref2_Disk_Crash_ok {W : World} {h : Hp} {d1 : Option Addr} {keep2 : Sl} {K : Int → Int → Hp → Prop} (H : ref2_Disk_Crash d1 keep2 K h) :
    CallsH Try.prog 56 (List.toArray [.pointer d1, keep2.v]) W h (fun v h' => ∃ (n1 : Int) (n2 : Int), v = .tuple #[.int .i64 n1, .int .i64 n2] ∧ K n1 n2 h') := by
  unfold ref2_Disk_Crash at H
  refine CallsH.intro (fn := Try.f56) (N := 50) (e := aE 0 [.pointer d1, keep2.v]) Try.func56 rfl rfl (aE_spec _) rfl ?_
  refine WPC.seq ?_
  refine WPC.region ?_
  refine WPL.q tk0 (asg rfl) rfl ?_
  refine WPL.q tk0 (asg rfl) rfl ?_
  refine WPL.nil ?_
  refine WQ.next ?_
  refine WPC.seq ?_
  refine WPC.seq ?_
  refine WPC.region ?_
  refine WPL.q tk0 (mv rfl) rfl ?_
  refine WPL.q tk0 (bEqN pO_71 rfl) rfl ?_
  refine WPL.nil ?_
  refine WQ.next ?_
  refine WPC.cond rfl (fun hb3 => ?_) (fun hb3 => ?_)
  · have H := H.1 hb3
    refine WPC.seq ?_
    refine WPC.region ?_
    refine WPL.q tk0 (asg rfl) rfl ?_
    refine WPL.q tk0 (asg rfl) rfl ?_
    refine WPL.nil ?_
    refine WQ.next ?_
    refine WPC.ret ?_
    refine WQ.thenR ?_
    exact WQ.done (rets2 rfl rfl rfl) ⟨_, _, rfl, H⟩
  · have H := H.2 hb3
    refine WPC.skip ?_
    refine WQ.next ?_
    refine WPC.seq ?_
    refine WPC.region ?_
    refine WPL.q tk0 (asg rfl) rfl ?_
    refine WPL.nil ?_
    refine WQ.next ?_
    refine WPC.seq ?_
    refine WPC.seq ?_
    refine WPC.region ?_
    refine WPL.q tk0 (asg rfl) rfl ?_
    refine WPL.nil ?_
    refine WQ.next ?_
    refine WPC.block ?_
    obtain ⟨I6, ⟨m10, HI11⟩, H⟩ := H
    refine WPC.weak (e' := [(0, .pointer d1), (1, keep2.v), (6, .int .i64 0), (7, .int .i64 0)]) ?_ ⟨rfl, rfl, rfl, rfl, trivial⟩
    refine WPC.loop (fun m e h => ∃ (n4 : Int), ∃ (i5 : Int), e = [(0, .pointer d1), (1, keep2.v), (6, .int .i64 n4), (7, .int .i64 i5)] ∧ I6 m n4 i5 h) ⟨m10, _, _, rfl, HI11⟩ ?_
    rintro m7 _ h8 ⟨n4, i5, rfl, HI9⟩
    have H := H m7 n4 i5 h8 HI9
    refine WPC.seq ?_
    refine WPC.seq ?_
    obtain ⟨k13, hk15, H⟩ := H
    refine WPC.join (fun e h => ∃ (b12 : Bool), e = [(0, .pointer d1), (1, keep2.v), (6, .int .i64 n4), (7, .int .i64 i5), (22, .bool b12)] ∧ k13 b12 h) ?_ (fun hj14 => ?_)
    · rintro _ h16 ⟨b12, rfl, HK17⟩
      have H := hk15 b12 h16 HK17
      refine WQ.next ?_
      refine WPC.cond rfl (fun hb18 => ?_) (fun hb18 => ?_)
      · have H := H.1 hb18
        refine WPC.skip ?_
        refine WQ.next ?_
        refine WPC.seq ?_
        obtain ⟨k20, hk22, H⟩ := H
        refine WPC.join (fun e h => ∃ (n19 : Int), e = [(0, .pointer d1), (1, keep2.v), (6, .int .i64 n19), (7, .int .i64 i5)] ∧ k20 n19 h) ?_ (fun hj21 => ?_)
        · rintro _ h23 ⟨n19, rfl, HK24⟩
          have H := hk22 n19 h23 HK24
          refine WQ.next ?_
          refine WPC.region ?_
          refine WPL.q tk0 (mv rfl) rfl ?_
          obtain ⟨n25, hn26, H⟩ := H
          refine WPL.q tk0 (bAdd rfl rfl hn26) rfl ?_
          refine WPL.q tk0 (asg rfl) rfl ?_
          refine WPL.nil ?_
          obtain ⟨m27, lt28, H⟩ := H
          exact WQ.again lt28 ⟨_, _, rfl, H⟩ ⟨rfl, rfl, rfl, rfl, trivial⟩
        · refine WPC.block ?_
          refine WPC.seq ?_
          refine WPC.region ?_
          refine WPL.q tk0 (mv rfl) rfl ?_
          refine WPL.q tk0 (mv rfl) rfl ?_
          obtain ⟨a30, ha31, H⟩ := H
          obtain ⟨h32, h33, H⟩ := H
          refine WPL.q tk0 (ixSb sO_30 rfl rfl ha31 h32 h33) rfl ?_
          obtain ⟨b35, hv34, H⟩ := H
          refine WPL.q tk0 (ld kO_4 rfl hv34) rfl ?_
          refine WPL.nil ?_
          refine WQ.next ?_
          refine WPC.cond rfl (fun hb36 => ?_) (fun hb36 => ?_)
          · have H := H.1 hb36
            refine WPC.seq ?_
            refine WPC.region ?_
            refine WPL.q tk0 (mv rfl) rfl ?_
            refine WPL.q tk0 (mv rfl) rfl ?_
            obtain ⟨a37, ha38, H⟩ := H
            refine WPL.q tk0 (ncb rfl ha38) rfl ?_
            refine WPL.q tk0 (fa fO_158_1 rfl) rfl ?_
            obtain ⟨s40, hv39, H⟩ := H
            refine WPL.q tk0 (ld kO_149 rfl hv39) rfl ?_
            refine WPL.q tk0 (mv rfl) rfl ?_
            obtain ⟨a41, ha42, H⟩ := H
            obtain ⟨h43, h44, H⟩ := H
            refine WPL.q tk0 (ixSb sO_149 rfl rfl ha42 h43 h44) rfl ?_
            obtain ⟨n46, s47, hv45, H⟩ := H
            refine WPL.q tk0 (ldA kO_156 rfl rfl hv45) rfl ?_
            have HC := ref2_Disk_lay_ok (W := W) H
            refine WPL.eff tk0 (cl cO_110 rfl HC) rfl ?_
            rintro _ h48 ⟨rfl, H⟩
            refine WPL.nil ?_
            refine WQ.next ?_
            refine WPC.region ?_
            refine WPL.q tk0 (mv rfl) rfl ?_
            obtain ⟨n49, hn50, H⟩ := H
            refine WPL.q tk0 (bAdd rfl rfl hn50) rfl ?_
            refine WPL.q tk0 (asg rfl) rfl ?_
            refine WPL.nil ?_
            refine WQ.blockN ?_
            exact (hj21 _ _ ⟨_, rfl, H⟩).weak ⟨rfl, rfl, rfl, rfl, trivial⟩
          · have H := H.2 hb36
            refine WPC.skip ?_
            refine WQ.blockN ?_
            exact (hj21 _ _ ⟨_, rfl, H⟩).weak ⟨rfl, rfl, rfl, rfl, trivial⟩
      · have H := H.2 hb18
        refine WPC.exit ?_
        refine WQ.thenX ?_
        refine WQ.thenX ?_
        refine WQ.hit ?_
        refine WQ.next ?_
        refine WPC.seq ?_
        refine WPC.region ?_
        refine WPL.q tk0 (mv rfl) rfl ?_
        obtain ⟨a51, ha52, H⟩ := H
        refine WPL.q tk0 (ncb rfl ha52) rfl ?_
        refine WPL.q tk0 (fa fO_158_1 rfl) rfl ?_
        obtain ⟨h53, hs54, H⟩ := H
        refine WPL.f tk0 (st kO_149 rfl rfl rfl hs54) rfl ?_
        refine WPL.nil ?_
        refine WQ.next ?_
        refine WPC.seq ?_
        refine WPC.region ?_
        refine WPL.q tk0 (mv rfl) rfl ?_
        refine WPL.q tk0 (ncb rfl ha52) rfl ?_
        refine WPL.q tk0 (fa fO_158_3 rfl) rfl ?_
        obtain ⟨h55, hs56, H⟩ := H
        refine WPL.f tk0 (st kO_4 rfl rfl rfl hs56) rfl ?_
        refine WPL.nil ?_
        refine WQ.next ?_
        refine WPC.seq ?_
        refine WPC.region ?_
        refine WPL.q tk0 (mv rfl) rfl ?_
        refine WPL.q tk0 (ncb rfl ha52) rfl ?_
        refine WPL.q tk0 (fa fO_158_2 rfl) rfl ?_
        obtain ⟨h57, hs58, H⟩ := H
        refine WPL.f tk0 (st kO_3 rfl rfl rfl hs58) rfl ?_
        refine WPL.nil ?_
        refine WQ.next ?_
        refine WPC.seq ?_
        refine WPC.region ?_
        refine WPL.q tk0 (mv rfl) rfl ?_
        refine WPL.q tk0 (asg rfl) rfl ?_
        refine WPL.q tk0 (asg rfl) rfl ?_
        refine WPL.nil ?_
        refine WQ.next ?_
        refine WPC.ret ?_
        exact WQ.done (rets2 rfl rfl rfl) ⟨_, _, rfl, H⟩
    · refine WPC.region ?_
      refine WPL.q tk0 (mv rfl) rfl ?_
      refine WPL.q tk0 (mv rfl) rfl ?_
      obtain ⟨a59, ha60, H⟩ := H
      refine WPL.q tk0 (ncb rfl ha60) rfl ?_
      refine WPL.q tk0 (fa fO_158_1 rfl) rfl ?_
      obtain ⟨s62, hv61, H⟩ := H
      refine WPL.q tk0 (ld kO_149 rfl hv61) rfl ?_
      refine WPL.q tk0 (lnb sO_149 rfl) rfl ?_
      refine WPL.q tk0 (bLss rfl rfl) rfl ?_
      refine WPL.q tk0 (mv rfl) rfl ?_
      rcases Bool.eq_false_or_eq_true ((decide (i5 < (s62.len : Int)))) with hb63 | hb63
      · have H := H.1 hb63
        refine WPL.q (tkb rfl rfl hb63) (mv rfl) rfl ?_
        refine WPL.q (tkb rfl rfl hb63) (mv rfl) rfl ?_
        refine WPL.q (tkb rfl rfl hb63) (lnb sO_30 rfl) rfl ?_
        refine WPL.q (tkb rfl rfl hb63) (bLss rfl rfl) rfl ?_
        refine WPL.q tk0 (pkTb rfl hb63 rfl) rfl ?_
        refine WPL.nil ?_
        exact (hj14 _ _ ⟨_, rfl, H⟩).weak ⟨rfl, rfl, rfl, rfl, rfl, trivial⟩
      · have H := H.2 hb63
        refine WPL.skip (ntkb rfl rfl hb63) rfl ?_
        refine WPL.skip (ntkb rfl rfl hb63) rfl ?_
        refine WPL.skip (ntkb rfl rfl hb63) rfl ?_
        refine WPL.skip (ntkb rfl rfl hb63) rfl ?_
        refine WPL.q tk0 (pkFb rfl hb63 rfl) rfl ?_
        refine WPL.nil ?_
        exact (hj14 _ _ ⟨_, rfl, H⟩).weak ⟨rfl, rfl, rfl, rfl, rfl, trivial⟩

/-- (*trellis/trellisref2.Disk).Pending -/
def ref2_Disk_Pending (d1 : Option Addr) (K : Sl → Hp → Prop) (h : Hp) : Prop :=
  (d1.isNone = true → (K Sl.nil h)) ∧ (d1.isNone = false → (∃ I5 : Nat → Sl → Int → Hp → Prop, (∃ m9, I5 m9 Sl.nil 0 h) ∧ ∀ (m6 : Nat) (l3 : Sl) (i4 : Int) (h7 : Hp), I5 m6 l3 i4 h7 → (∃ a11 : Addr, d1 = some a11 ∧ ∃ s14 : Sl, rdc h7 (a11.add 1) = some (s14.v) ∧ ((decide (i4 < (s14.len : Int))) = true → (∃ s17 : Sl, rdc h7 (a11.add 1) = some (s17.v) ∧ ∃ a18 : Addr, s17.p = some a18 ∧ 0 ≤ i4 ∧ i4 < (s17.len : Int) ∧ ∃ n23 : Int, rdc h7 ((a18.add (Int.toNat i4 * 2)).add 0) = some (.int .i64 n23) ∧ ∃ s25 : Sl, rdc h7 (a11.add 1) = some (s25.v) ∧ ∃ a26 : Addr, s25.p = some a26 ∧ 0 ≤ i4 ∧ i4 < (s25.len : Int) ∧ ∃ s31 : Sl, rdc h7 ((a26.add (Int.toNat i4 * 2)).add 1) = some (s31.v) ∧ ref2_Same s31 (fun s32 h33 => rdc h33 ((a18.add (Int.toNat i4 * 2)).add 0) = some (.int .i64 n23) ∧ rdc h33 (a11.add 1) = some (s17.v) ∧ ∃ (b36 : Nat) (h37 : Hp) (s38 : Sl), b36 = h33.size ∧ h37 = h33.push (Cel [.int .i64 n23, s32.v] 156) ∧ s38 = ⟨some (nA b36), 1, 1⟩ ∧ App h37 l3 s38 2 32 156 [.int .i64 0, .slice none 0 0] (fun s42 h43 => ∃ n44 : Int, Wr .i64 (i4 + 1) n44 ∧ ∃ m46, m46 < m6 ∧ I5 m46 s42 n44 h43)) h7)) ∧ ((decide (i4 < (s14.len : Int))) = false → (K l3 h7)))))

theorem ref2_Disk_Pending_ok {W : World} {h : Hp} {d1 : Option Addr} {K : Sl → Hp → Prop} (H : ref2_Disk_Pending d1 K h) :
    CallsH Try.prog 96 (List.toArray [.pointer d1]) W h (fun v h' => ∃ (s1 : Sl), v = s1.v ∧ K s1 h') := by
  unfold ref2_Disk_Pending at H
  refine CallsH.intro (fn := Try.f96) (N := 39) (e := aE 0 [.pointer d1]) Try.func96 rfl rfl (aE_spec _) rfl ?_
  refine WPC.seq ?_
  refine WPC.region ?_
  refine WPL.q tk0 (asg rfl) rfl ?_
  refine WPL.nil ?_
  refine WQ.next ?_
  refine WPC.seq ?_
  refine WPC.region ?_
  refine WPL.q tk0 (asg rfl) rfl ?_
  refine WPL.nil ?_
  refine WQ.next ?_
  refine WPC.seq ?_
  refine WPC.seq ?_
  refine WPC.region ?_
  refine WPL.q tk0 (mv rfl) rfl ?_
  refine WPL.q tk0 (bEqN pO_71 rfl) rfl ?_
  refine WPL.nil ?_
  refine WQ.next ?_
  refine WPC.cond rfl (fun hb2 => ?_) (fun hb2 => ?_)
  · have H := H.1 hb2
    refine WPC.seq ?_
    refine WPC.region ?_
    refine WPL.q tk0 (mv rfl) rfl ?_
    refine WPL.q tk0 (asg rfl) rfl ?_
    refine WPL.nil ?_
    refine WQ.next ?_
    refine WPC.ret ?_
    refine WQ.thenR ?_
    exact WQ.done (rets1 rfl rfl) ⟨_, rfl, H⟩
  · have H := H.2 hb2
    refine WPC.skip ?_
    refine WQ.next ?_
    refine WPC.seq ?_
    refine WPC.seq ?_
    refine WPC.region ?_
    refine WPL.q tk0 (asg rfl) rfl ?_
    refine WPL.nil ?_
    refine WQ.next ?_
    refine WPC.block ?_
    obtain ⟨I5, ⟨m9, HI10⟩, H⟩ := H
    refine WPC.weak (e' := [(0, .pointer d1), (3, .slice none 0 0), (4, .int .i64 0)]) ?_ ⟨rfl, rfl, rfl, trivial⟩
    refine WPC.loop (fun m e h => ∃ (l3 : Sl), ∃ (i4 : Int), e = [(0, .pointer d1), (3, l3.v), (4, .int .i64 i4)] ∧ I5 m l3 i4 h) ⟨m9, _, _, rfl, HI10⟩ ?_
    rintro m6 _ h7 ⟨l3, i4, rfl, HI8⟩
    have H := H m6 l3 i4 h7 HI8
    refine WPC.seq ?_
    refine WPC.seq ?_
    refine WPC.region ?_
    refine WPL.q tk0 (mv rfl) rfl ?_
    refine WPL.q tk0 (mv rfl) rfl ?_
    obtain ⟨a11, ha12, H⟩ := H
    refine WPL.q tk0 (ncb rfl ha12) rfl ?_
    refine WPL.q tk0 (fa fO_158_1 rfl) rfl ?_
    obtain ⟨s14, hv13, H⟩ := H
    refine WPL.q tk0 (ld kO_149 rfl hv13) rfl ?_
    refine WPL.q tk0 (lnb sO_149 rfl) rfl ?_
    refine WPL.q tk0 (bLss rfl rfl) rfl ?_
    refine WPL.nil ?_
    refine WQ.next ?_
    refine WPC.cond rfl (fun hb15 => ?_) (fun hb15 => ?_)
    · have H := H.1 hb15
      refine WPC.skip ?_
      refine WQ.next ?_
      refine WPC.seq ?_
      refine WPC.block ?_
      refine WPC.draw (al := [0, 0, 2, 6, 14, 0, 62, 126, 254, 0, 512, 1536, 3584, 0, 15872, 32256, 65024, 130560, 262142, 524286, 1048575, 2097151]) (p := (.p 0 (.p 1 (.p 2 (.p 3 (.q 4 (.p 5 (.p 6 (.p 7 (.q 8 (.p 9 (.p 10 (.p 11 (.q 12 (.p 13 (.p 14 (.p 15 (.q 16 (.e1 17 (.p 18 (.e1 19 (.e1 20 (.p 21 .done))))))))))))))))))))))) mixO (by kernel_rfl) ?_
      refine PL.pp rfl rfl tk0 (fun _ => mv rfl) ?_
      refine PL.pp rfl rfl tk0 (fun _ => mv rfl) ?_
      refine PL.pp rfl rfl tk0 (fun _ => ncb rfl ha12) ?_
      refine PL.pp rfl rfl tk0 (fun _ => fa fO_158_1 rfl) ?_
      obtain ⟨s17, hv16, H⟩ := H
      refine PL.qq rfl rfl tk0 (ld kO_149 rfl hv16) ?_
      refine PL.pp rfl rfl tk0 (fun _ => mv rfl) ?_
      obtain ⟨a18, ha19, H⟩ := H
      obtain ⟨h20, h21, H⟩ := H
      refine PL.pp rfl rfl tk0 (fun _ => ixSb sO_149 rfl rfl ha19 h20 h21) ?_
      refine PL.pp rfl rfl tk0 (fun _ => fa fO_156_0 rfl) ?_
      obtain ⟨n23, hv22, H⟩ := H
      refine PL.qq rfl rfl tk0 (ld kO_3 rfl hv22) ?_
      refine PL.pp rfl rfl tk0 (fun _ => mv rfl) ?_
      refine PL.pp rfl rfl tk0 (fun _ => ncb rfl ha12) ?_
      refine PL.pp rfl rfl tk0 (fun _ => fa fO_158_1 rfl) ?_
      obtain ⟨s25, hv24, H⟩ := H
      refine PL.qq rfl rfl tk0 (ld kO_149 rfl hv24) ?_
      refine PL.pp rfl rfl tk0 (fun _ => mv rfl) ?_
      obtain ⟨a26, ha27, H⟩ := H
      obtain ⟨h28, h29, H⟩ := H
      refine PL.pp rfl rfl tk0 (fun _ => ixSb sO_149 rfl rfl ha27 h28 h29) ?_
      refine PL.pp rfl rfl tk0 (fun _ => fa fO_156_1 rfl) ?_
      obtain ⟨s31, hv30, H⟩ := H
      refine PL.qq rfl rfl tk0 (ld kO_24 rfl hv30) ?_
      have HC := ref2_Same_ok (W := W) H
      refine PL.ee (S' := [(8, .int .i64 n23), (4, s17.v)]) (by kernel_rfl) rfl rfl tk0 (cl cO_102 rfl HC) ?_
      rintro _ h33 ⟨s32, rfl, H⟩
      obtain ⟨hs34, hs35, H⟩ := H
      refine ⟨(Stay.t (by kernel_rfl) (Stay.t (by kernel_rfl) (Stay.y (by kernel_rfl) rfl tk0 (ld kO_3 rfl hs34) (Stay.y (by kernel_rfl) rfl tk0 (ld kO_149 rfl hs35) Stay.n)))), ?_⟩
      refine PL.pp rfl rfl tk0 (fun _ => bd (l := [.int .i64 n23, s32.v]) rfl (by kernel_rfl)) ?_
      obtain ⟨b36, h37, s38, hb39, hh40, hs41, H⟩ := H
      refine PL.ff (S' := []) (by kernel_rfl) rfl rfl tk0 (bsl1N (l := [.int .i64 n23, s32.v]) sO_149 zO_156 rfl rfl rfl ⟨by decide, rfl⟩ hb39 hh40 hs41) (Stay.t (by kernel_rfl) (Stay.t (by kernel_rfl) Stay.n)) ?_
      refine PL.ee (S' := []) (by kernel_rfl) rfl rfl tk0 (app (rt := 0) sO_149 zO_156 rfl (by decide) rfl rfl H) ?_
      rintro _ h43 ⟨s42, rfl, H⟩
      refine ⟨Stay.n, ?_⟩
      refine PL.pp rfl rfl tk0 (fun _ => asg rfl) ?_
      refine WQ.blockN ?_
      refine WQ.next ?_
      refine WPC.region ?_
      refine WPL.q tk0 (mv rfl) rfl ?_
      obtain ⟨n44, hn45, H⟩ := H
      refine WPL.q tk0 (bAdd rfl rfl hn45) rfl ?_
      refine WPL.q tk0 (asg rfl) rfl ?_
      refine WPL.nil ?_
      obtain ⟨m46, lt47, H⟩ := H
      exact WQ.again lt47 ⟨_, _, rfl, H⟩ ⟨rfl, rfl, rfl, trivial⟩
    · have H := H.2 hb15
      refine WPC.exit ?_
      refine WQ.thenX ?_
      refine WQ.thenX ?_
      refine WQ.hit ?_
      refine WQ.next ?_
      refine WPC.seq ?_
      refine WPC.region ?_
      refine WPL.q tk0 (mv rfl) rfl ?_
      refine WPL.q tk0 (asg rfl) rfl ?_
      refine WPL.nil ?_
      refine WQ.next ?_
      refine WPC.ret ?_
      exact WQ.done (rets1 rfl rfl) ⟨_, rfl, H⟩

/-- (*trellis/trellisref2.Disk).Image -/
def ref2_Disk_Image (d1 : Option Addr) (K : Sl → Hp → Prop) (h : Hp) : Prop :=
  (d1.isNone = true → (K Sl.nil h)) ∧ (d1.isNone = false → (∃ a3 : Addr, d1 = some a3 ∧ ∃ s6 : Sl, rdc h (a3.add 0) = some (s6.v) ∧ ref2_Same s6 (fun s7 h8 => K s7 h8) h))

theorem ref2_Disk_Image_ok {W : World} {h : Hp} {d1 : Option Addr} {K : Sl → Hp → Prop} (H : ref2_Disk_Image d1 K h) :
    CallsH Try.prog 95 (List.toArray [.pointer d1]) W h (fun v h' => ∃ (s1 : Sl), v = s1.v ∧ K s1 h') := by
  unfold ref2_Disk_Image at H
  refine CallsH.intro (fn := Try.f95) (N := 10) (e := aE 0 [.pointer d1]) Try.func95 rfl rfl (aE_spec _) rfl ?_
  refine WPC.seq ?_
  refine WPC.region ?_
  refine WPL.q tk0 (asg rfl) rfl ?_
  refine WPL.nil ?_
  refine WQ.next ?_
  refine WPC.seq ?_
  refine WPC.seq ?_
  refine WPC.region ?_
  refine WPL.q tk0 (mv rfl) rfl ?_
  refine WPL.q tk0 (bEqN pO_71 rfl) rfl ?_
  refine WPL.nil ?_
  refine WQ.next ?_
  refine WPC.cond rfl (fun hb2 => ?_) (fun hb2 => ?_)
  · have H := H.1 hb2
    refine WPC.seq ?_
    refine WPC.region ?_
    refine WPL.q tk0 (asg rfl) rfl ?_
    refine WPL.nil ?_
    refine WQ.next ?_
    refine WPC.ret ?_
    refine WQ.thenR ?_
    exact WQ.done (rets1 rfl rfl) ⟨_, rfl, H⟩
  · have H := H.2 hb2
    refine WPC.skip ?_
    refine WQ.next ?_
    refine WPC.seq ?_
    refine WPC.region ?_
    refine WPL.q tk0 (mv rfl) rfl ?_
    obtain ⟨a3, ha4, H⟩ := H
    refine WPL.q tk0 (ncb rfl ha4) rfl ?_
    refine WPL.q tk0 (fa fO_158_0 rfl) rfl ?_
    obtain ⟨s6, hv5, H⟩ := H
    refine WPL.q tk0 (ld kO_24 rfl hv5) rfl ?_
    have HC := ref2_Same_ok (W := W) H
    refine WPL.eff tk0 (cl cO_102 rfl HC) rfl ?_
    rintro _ h8 ⟨s7, rfl, H⟩
    refine WPL.q tk0 (asg rfl) rfl ?_
    refine WPL.nil ?_
    refine WQ.next ?_
    refine WPC.ret ?_
    exact WQ.done (rets1 rfl rfl) ⟨_, rfl, H⟩

/-- (*trellis/trellisref2.Disk).Stat -/
def ref2_Disk_Stat (d1 : Option Addr) (K : Int → Int → Int → Bool → Hp → Prop) (h : Hp) : Prop :=
  ∃ (b2 : Nat) (h3 : Hp), b2 = h.size ∧ h3 = h.push (Cel [.int .i64 0, .int .i64 0, .int .i64 0, .bool false] 51) ∧ (d1.isNone = true → (∃ h7 : Hp, StL h3 (nA b2) [.int .i64 0, .int .i64 0, .int .i64 0, .bool false] h7 ∧ ∃ (n9 : Int) (n10 : Int) (n11 : Int) (b12 : Bool), RdL h7 (nA b2) [.int .i64 n9, .int .i64 n10, .int .i64 n11, .bool b12] ∧ K n9 n10 n11 b12 h7)) ∧ (d1.isNone = false → (∃ a14 : Addr, d1 = some a14 ∧ ∃ n17 : Int, rdc h3 (a14.add 4) = some (.int .i64 n17) ∧ ∃ n19 : Int, rdc h3 (a14.add 5) = some (.int .i64 n19) ∧ ∃ s21 : Sl, rdc h3 (a14.add 1) = some (s21.v) ∧ ∃ b23 : Bool, rdc h3 (a14.add 3) = some (.bool b23) ∧ ∃ h24 : Hp, StL h3 (nA b2) [.int .i64 n17, .int .i64 n19, .int .i64 (s21.len : Int), .bool b23] h24 ∧ ∃ (n26 : Int) (n27 : Int) (n28 : Int) (b29 : Bool), RdL h24 (nA b2) [.int .i64 n26, .int .i64 n27, .int .i64 n28, .bool b29] ∧ K n26 n27 n28 b29 h24))

theorem ref2_Disk_Stat_ok {W : World} {h : Hp} {d1 : Option Addr} {K : Int → Int → Int → Bool → Hp → Prop} (H : ref2_Disk_Stat d1 K h) :
    CallsH Try.prog 117 (List.toArray [.pointer d1]) W h (fun v h' => ∃ (n1 : Int) (n2 : Int) (n3 : Int) (b4 : Bool), v = .agg (List.toArray [.int .i64 n1, .int .i64 n2, .int .i64 n3, .bool b4]) ∧ K n1 n2 n3 b4 h') := by
  unfold ref2_Disk_Stat at H
  refine CallsH.intro (fn := Try.f117) (N := 24) (e := aE 0 [.pointer d1]) Try.func117 rfl rfl (aE_spec _) rfl ?_
  refine WPC.seq ?_
  refine WPC.region ?_
  obtain ⟨b2, h3, hb4, hh5, H⟩ := H
  refine WPL.f tk0 (alN zO_51 hb4 hh5) rfl ?_
  refine WPL.nil ?_
  refine WQ.next ?_
  refine WPC.seq ?_
  refine WPC.seq ?_
  refine WPC.region ?_
  refine WPL.q tk0 (mv rfl) rfl ?_
  refine WPL.q tk0 (bEqN pO_71 rfl) rfl ?_
  refine WPL.nil ?_
  refine WQ.next ?_
  refine WPC.cond rfl (fun hb6 => ?_) (fun hb6 => ?_)
  · have H := H.1 hb6
    refine WPC.seq ?_
    refine WPC.region ?_
    refine WPL.q tk0 (bd (l := [.int .i64 0, .int .i64 0, .int .i64 0, .bool false]) rfl (by kernel_rfl)) rfl ?_
    obtain ⟨h7, hs8, H⟩ := H
    refine WPL.f tk0 (stA kO_51 rfl rfl rfl (oneC.c rfl (oneC.c rfl (oneC.c rfl (oneC.c rfl oneC.n)))) hs8) rfl ?_
    refine WPL.nil ?_
    refine WQ.next ?_
    refine WPC.ret ?_
    refine WQ.thenR ?_
    obtain ⟨n9, n10, n11, b12, hr13, H⟩ := H
    exact WQ.done (retsC rfl kO_51 rfl rfl hr13) ⟨_, _, _, _, rfl, H⟩
  · have H := H.2 hb6
    refine WPC.skip ?_
    refine WQ.next ?_
    refine WPC.seq ?_
    refine WPC.draw (al := [0, 1, 3, 7, 0, 16, 48, 112, 0, 256, 768, 1792, 3840, 0, 8192, 24576, 57344, 131071, 262143]) (p := (.p 0 (.p 1 (.p 2 (.q 3 (.p 4 (.p 5 (.p 6 (.q 7 (.p 8 (.p 9 (.p 10 (.q 11 (.p 12 (.p 13 (.p 14 (.p 15 (.q 16 (.p 17 (.e1 18 .done)))))))))))))))))))) mixO (by kernel_rfl) ?_
    refine PL.pp rfl rfl tk0 (fun _ => mv rfl) ?_
    obtain ⟨a14, ha15, H⟩ := H
    refine PL.pp rfl rfl tk0 (fun _ => ncb rfl ha15) ?_
    refine PL.pp rfl rfl tk0 (fun _ => fa fO_158_4 rfl) ?_
    obtain ⟨n17, hv16, H⟩ := H
    refine PL.qq rfl rfl tk0 (ld kO_3 rfl hv16) ?_
    refine PL.pp rfl rfl tk0 (fun _ => mv rfl) ?_
    refine PL.pp rfl rfl tk0 (fun _ => ncb rfl ha15) ?_
    refine PL.pp rfl rfl tk0 (fun _ => fa fO_158_5 rfl) ?_
    obtain ⟨n19, hv18, H⟩ := H
    refine PL.qq rfl rfl tk0 (ld kO_3 rfl hv18) ?_
    refine PL.pp rfl rfl tk0 (fun _ => mv rfl) ?_
    refine PL.pp rfl rfl tk0 (fun _ => ncb rfl ha15) ?_
    refine PL.pp rfl rfl tk0 (fun _ => fa fO_158_1 rfl) ?_
    obtain ⟨s21, hv20, H⟩ := H
    refine PL.qq rfl rfl tk0 (ld kO_149 rfl hv20) ?_
    refine PL.pp rfl rfl tk0 (fun _ => lnb sO_149 rfl) ?_
    refine PL.pp rfl rfl tk0 (fun _ => mv rfl) ?_
    refine PL.pp rfl rfl tk0 (fun _ => ncb rfl ha15) ?_
    refine PL.pp rfl rfl tk0 (fun _ => fa fO_158_3 rfl) ?_
    obtain ⟨b23, hv22, H⟩ := H
    refine PL.qq rfl rfl tk0 (ld kO_4 rfl hv22) ?_
    refine PL.pp rfl rfl tk0 (fun _ => bd (l := [.int .i64 n17, .int .i64 n19, .int .i64 (s21.len : Int), .bool b23]) rfl (by kernel_rfl)) ?_
    obtain ⟨h24, hs25, H⟩ := H
    refine PL.ff (S' := []) (by kernel_rfl) rfl rfl tk0 (stA kO_51 rfl rfl rfl (oneC.c rfl (oneC.c rfl (oneC.c rfl (oneC.c rfl oneC.n)))) hs25) (Stay.t (by kernel_rfl) (Stay.t (by kernel_rfl) (Stay.t (by kernel_rfl) (Stay.t (by kernel_rfl) Stay.n)))) ?_
    refine WQ.next ?_
    refine WPC.ret ?_
    obtain ⟨n26, n27, n28, b29, hr30, H⟩ := H
    exact WQ.done (retsC rfl kO_51 rfl rfl hr30) ⟨_, _, _, _, rfl, H⟩

end Go.Proofs.Ythpeadoidpimmaa
