/- What each Go function of this group asks ahead of a call (printed by gen.py), and that this is enough. -/
import Derived.Test.YthpeadoidpimmaaGDisk
import Derived.Test.YthpeadoidpimmaaGRefA
namespace Go.Proofs.Ythpeadoidpimmaa
open Go Tw
set_option linter.unusedVariables false
set_option maxRecDepth 10000
set_option maxHeartbeats 4000000

/-- trellis/trellislaw2.sizes -/
def law2_sizes (n1 : Int) (K : Option Addr → Bool → Bool → Hp → Prop) (h : Hp) : Prop :=
  disk_New n1 (fun p2 n3 h4 => ∃ k6 : Bool → Hp → Prop, (∀ (b5 : Bool) (h9 : Hp), k6 b5 h9 → ((b5 = true → ((p2.isNone = true → (K none (n3 == 1) false h9)) ∧ (p2.isNone = false → (K none false false h9)))) ∧ (b5 = false → (((!p2.isNone) = true → (K p2 (n3 == 0) true h9)) ∧ ((!p2.isNone) = false → (K p2 false true h9)))))) ∧ (((decide (n1 < 1)) = true → (k6 true h4)) ∧ ((decide (n1 < 1)) = false → (k6 (decide (n1 > 4096)) h4)))) h

theorem law2_sizes_ok {W : World} {h : Hp} {n1 : Int} {K : Option Addr → Bool → Bool → Hp → Prop} (H : law2_sizes n1 K h) :
    CallsH Try.prog 30 (List.toArray [.int .i64 n1]) W h (fun v h' => ∃ (p1 : Option Addr) (b2 : Bool) (b3 : Bool), v = .tuple #[.pointer p1, .bool b2, .bool b3] ∧ K p1 b2 b3 h') := by
  unfold law2_sizes at H
  refine CallsH.intro (fn := Try.f30) (N := 31) (e := aE 0 [.int .i64 n1]) Try.func30 rfl rfl (aE_spec _) rfl ?_
  refine WPC.seq ?_
  refine WPC.region ?_
  refine WPL.q tk0 (asg rfl) rfl ?_
  refine WPL.q tk0 (asg rfl) rfl ?_
  refine WPL.q tk0 (asg rfl) rfl ?_
  refine WPL.nil ?_
  refine WQ.next ?_
  refine WPC.seq ?_
  refine WPC.region ?_
  refine WPL.q tk0 (mv rfl) rfl ?_
  have HC := disk_New_ok (W := W) H
  refine WPL.eff tk0 (cl cO_85 rfl HC) rfl ?_
  rintro _ h4 ⟨p2, n3, rfl, H⟩
  refine WPL.q tk0 (mv rfl) rfl ?_
  refine WPL.q tk0 (ext rfl rfl) rfl ?_
  refine WPL.q tk0 (ext rfl rfl) rfl ?_
  refine WPL.q tk0 (asg rfl) rfl ?_
  refine WPL.q tk0 (asg rfl) rfl ?_
  refine WPL.nil ?_
  refine WQ.next ?_
  refine WPC.seq ?_
  refine WPC.seq ?_
  obtain ⟨k6, hk8, H⟩ := H
  refine WPC.join (fun e h => ∃ (b5 : Bool), e = [(5, .pointer p2), (6, .int .i64 n3), (17, .bool b5)] ∧ k6 b5 h) ?_ (fun hj7 => ?_)
  · rintro _ h9 ⟨b5, rfl, HK10⟩
    have H := hk8 b5 h9 HK10
    refine WQ.next ?_
    refine WPC.cond rfl (fun hb11 => ?_) (fun hb11 => ?_)
    · have H := H.1 hb11
      refine WPC.seq ?_
      refine WPC.region ?_
      refine WPL.q tk0 (mv rfl) rfl ?_
      refine WPL.q tk0 (bEqN pO_31 rfl) rfl ?_
      refine WPL.q tk0 (mv rfl) rfl ?_
      rcases Bool.eq_false_or_eq_true (p2.isNone) with hb12 | hb12
      · have H := H.1 hb12
        refine WPL.q (tkb rfl rfl hb12) (mv rfl) rfl ?_
        refine WPL.q (tkb rfl rfl hb12) (bEql rfl rfl) rfl ?_
        refine WPL.q tk0 (pkTb rfl hb12 rfl) rfl ?_
        refine WPL.q tk0 (asg rfl) rfl ?_
        refine WPL.q tk0 (asg rfl) rfl ?_
        refine WPL.q tk0 (asg rfl) rfl ?_
        refine WPL.nil ?_
        refine WQ.next ?_
        refine WPC.ret ?_
        refine WQ.thenR ?_
        exact WQ.done (rets3 rfl rfl rfl rfl) ⟨_, _, _, rfl, H⟩
      · have H := H.2 hb12
        refine WPL.skip (ntkb rfl rfl hb12) rfl ?_
        refine WPL.skip (ntkb rfl rfl hb12) rfl ?_
        refine WPL.q tk0 (pkFb rfl hb12 rfl) rfl ?_
        refine WPL.q tk0 (asg rfl) rfl ?_
        refine WPL.q tk0 (asg rfl) rfl ?_
        refine WPL.q tk0 (asg rfl) rfl ?_
        refine WPL.nil ?_
        refine WQ.next ?_
        refine WPC.ret ?_
        refine WQ.thenR ?_
        exact WQ.done (rets3 rfl rfl rfl rfl) ⟨_, _, _, rfl, H⟩
    · have H := H.2 hb11
      refine WPC.skip ?_
      refine WQ.next ?_
      refine WPC.seq ?_
      refine WPC.region ?_
      refine WPL.q tk0 (mv rfl) rfl ?_
      refine WPL.q tk0 (mv rfl) rfl ?_
      refine WPL.q tk0 (bNeN pO_31 rfl) rfl ?_
      refine WPL.q tk0 (mv rfl) rfl ?_
      rcases Bool.eq_false_or_eq_true ((!p2.isNone)) with hb13 | hb13
      · have H := H.1 hb13
        refine WPL.q (tkb rfl rfl hb13) (mv rfl) rfl ?_
        refine WPL.q (tkb rfl rfl hb13) (bEql rfl rfl) rfl ?_
        refine WPL.q tk0 (pkTb rfl hb13 rfl) rfl ?_
        refine WPL.q tk0 (asg rfl) rfl ?_
        refine WPL.q tk0 (asg rfl) rfl ?_
        refine WPL.q tk0 (asg rfl) rfl ?_
        refine WPL.nil ?_
        refine WQ.next ?_
        refine WPC.ret ?_
        exact WQ.done (rets3 rfl rfl rfl rfl) ⟨_, _, _, rfl, H⟩
      · have H := H.2 hb13
        refine WPL.skip (ntkb rfl rfl hb13) rfl ?_
        refine WPL.skip (ntkb rfl rfl hb13) rfl ?_
        refine WPL.q tk0 (pkFb rfl hb13 rfl) rfl ?_
        refine WPL.q tk0 (asg rfl) rfl ?_
        refine WPL.q tk0 (asg rfl) rfl ?_
        refine WPL.q tk0 (asg rfl) rfl ?_
        refine WPL.nil ?_
        refine WQ.next ?_
        refine WPC.ret ?_
        exact WQ.done (rets3 rfl rfl rfl rfl) ⟨_, _, _, rfl, H⟩
  · refine WPC.region ?_
    refine WPL.q tk0 (mv rfl) rfl ?_
    refine WPL.q tk0 (bLss rfl rfl) rfl ?_
    refine WPL.q tk0 (mv rfl) rfl ?_
    rcases Bool.eq_false_or_eq_true ((decide (n1 < 1))) with hb14 | hb14
    · have H := H.1 hb14
      refine WPL.skip (ntkb rfl rfl hb14) rfl ?_
      refine WPL.skip (ntkb rfl rfl hb14) rfl ?_
      refine WPL.q tk0 (pkTb rfl hb14 rfl) rfl ?_
      refine WPL.nil ?_
      exact (hj7 _ _ ⟨_, rfl, H⟩).weak ⟨rfl, rfl, rfl, trivial⟩
    · have H := H.2 hb14
      refine WPL.q (tkb rfl rfl hb14) (mv rfl) rfl ?_
      refine WPL.q (tkb rfl rfl hb14) (bGtr rfl rfl) rfl ?_
      refine WPL.q tk0 (pkFb rfl hb14 rfl) rfl ?_
      refine WPL.nil ?_
      exact (hj7 _ _ ⟨_, rfl, H⟩).weak ⟨rfl, rfl, rfl, trivial⟩

/-- trellis/trellislaw2.filled -/
def law2_filled (fill1 : Int) (K : Sl → Hp → Prop) (h : Hp) : Prop :=
  0 ≤ (128 : Int) ∧ (128 : Int) ≤ 128 ∧ (128 : Int) * (1 : Nat) ≤ 281474976710656 ∧ ∃ (b2 : Nat) (h3 : Hp) (s4 : Sl), b2 = h.size ∧ h3 = h.push (Cel (zr [.int .u8 0] (Int.toNat 128 * 1)) 5) ∧ s4 = ⟨some (nA b2), Int.toNat 128, Int.toNat 128⟩ ∧ ∃ I12 : Nat → Int → Hp → Prop, (∃ m16, I12 m16 0 h3) ∧ ∀ (m13 : Nat) (i11 : Int) (h14 : Hp), I12 m13 i11 h14 → (((decide (i11 < 128)) = true → (∃ n19 : Int, Wr .i64 ((3 : Int) * i11) n19 ∧ ∃ n21 : Int, Wr .u8 n19 n21 ∧ ∃ n23 : Int, Wr .u8 (fill1 + n21) n23 ∧ ∃ a25 : Addr, s4.p = some a25 ∧ 0 ≤ i11 ∧ i11 < (s4.len : Int) ∧ ∃ h29 : Hp, StL h14 (a25.add (Int.toNat i11 * 1)) [.int .u8 n23] h29 ∧ ∃ n31 : Int, Wr .i64 (i11 + 1) n31 ∧ ∃ m33, m33 < m13 ∧ I12 m33 n31 h29)) ∧ ((decide (i11 < 128)) = false → (K s4 h14)))

theorem law2_filled_ok {W : World} {h : Hp} {fill1 : Int} {K : Sl → Hp → Prop} (H : law2_filled fill1 K h) :
    CallsH Try.prog 37 (List.toArray [.int .u8 fill1]) W h (fun v h' => ∃ (s1 : Sl), v = s1.v ∧ K s1 h') := by
  unfold law2_filled at H
  refine CallsH.intro (fn := Try.f37) (N := 19) (e := aE 0 [.int .u8 fill1]) Try.func37 rfl rfl (aE_spec _) rfl ?_
  refine WPC.seq ?_
  refine WPC.region ?_
  refine WPL.q tk0 (asg rfl) rfl ?_
  refine WPL.nil ?_
  refine WQ.next ?_
  refine WPC.seq ?_
  refine WPC.region ?_
  obtain ⟨c8, c9, c10, b2, h3, s4, hb5, hh6, hs7, H⟩ := H
  refine WPL.f tk0 (mksN sO_24 zO_5 (by decide) rfl rfl c8 c9 c10 hb5 hh6 hs7) rfl ?_
  refine WPL.q tk0 (asg rfl) rfl ?_
  refine WPL.nil ?_
  refine WQ.next ?_
  refine WPC.seq ?_
  refine WPC.seq ?_
  refine WPC.region ?_
  refine WPL.q tk0 (asg rfl) rfl ?_
  refine WPL.nil ?_
  refine WQ.next ?_
  refine WPC.block ?_
  obtain ⟨I12, ⟨m16, HI17⟩, H⟩ := H
  refine WPC.weak (e' := [(0, .int .u8 fill1), (3, s4.v), (4, .int .i64 0)]) ?_ ⟨rfl, rfl, rfl, trivial⟩
  refine WPC.loop (fun m e h => ∃ (i11 : Int), e = [(0, .int .u8 fill1), (3, s4.v), (4, .int .i64 i11)] ∧ I12 m i11 h) ⟨m16, _, rfl, HI17⟩ ?_
  rintro m13 _ h14 ⟨i11, rfl, HI15⟩
  have H := H m13 i11 h14 HI15
  refine WPC.seq ?_
  refine WPC.seq ?_
  refine WPC.region ?_
  refine WPL.q tk0 (mv rfl) rfl ?_
  refine WPL.q tk0 (bLss rfl rfl) rfl ?_
  refine WPL.nil ?_
  refine WQ.next ?_
  refine WPC.cond rfl (fun hb18 => ?_) (fun hb18 => ?_)
  · have H := H.1 hb18
    refine WPC.skip ?_
    refine WQ.next ?_
    refine WPC.seq ?_
    refine WPC.block ?_
    refine WPC.region ?_
    refine WPL.q tk0 (mv rfl) rfl ?_
    refine WPL.q tk0 (mv rfl) rfl ?_
    refine WPL.q tk0 (mv rfl) rfl ?_
    refine WPL.q tk0 (mv rfl) rfl ?_
    obtain ⟨n19, hn20, H⟩ := H
    refine WPL.q tk0 (bMul rfl rfl hn20) rfl ?_
    obtain ⟨n21, hn22, H⟩ := H
    refine WPL.q tk0 (cvI (uI iO_3) iO_5 rfl hn22) rfl ?_
    obtain ⟨n23, hn24, H⟩ := H
    refine WPL.q tk0 (bAdd rfl rfl hn24) rfl ?_
    obtain ⟨a25, ha26, H⟩ := H
    obtain ⟨h27, h28, H⟩ := H
    refine WPL.q tk0 (ixSb sO_24 rfl rfl ha26 h27 h28) rfl ?_
    obtain ⟨h29, hs30, H⟩ := H
    refine WPL.f tk0 (st kO_5 rfl rfl rfl hs30) rfl ?_
    refine WPL.nil ?_
    refine WQ.blockN ?_
    refine WQ.next ?_
    refine WPC.region ?_
    refine WPL.q tk0 (mv rfl) rfl ?_
    obtain ⟨n31, hn32, H⟩ := H
    refine WPL.q tk0 (bAdd rfl rfl hn32) rfl ?_
    refine WPL.q tk0 (asg rfl) rfl ?_
    refine WPL.nil ?_
    obtain ⟨m33, lt34, H⟩ := H
    exact WQ.again lt34 ⟨_, rfl, H⟩ ⟨rfl, rfl, rfl, trivial⟩
  · have H := H.2 hb18
    refine WPC.exit ?_
    refine WQ.thenX ?_
    refine WQ.thenX ?_
    refine WQ.hit ?_
    refine WQ.next ?_
    refine WPC.seq ?_
    refine WPC.region ?_
    refine WPL.q tk0 (mv rfl) rfl ?_
    refine WPL.q tk0 (asg rfl) rfl ?_
    refine WPL.nil ?_
    refine WQ.next ?_
    refine WPC.ret ?_
    exact WQ.done (rets1 rfl rfl) ⟨_, rfl, H⟩

/-- trellis/trellislaw2.same -/
def law2_same (a1 : Sl) (b2 : Sl) (K : Bool → Hp → Prop) (h : Hp) : Prop :=
  (((a1.len : Int) != (b2.len : Int)) = true → (K false h)) ∧ (((a1.len : Int) != (b2.len : Int)) = false → (∃ I5 : Nat → Int → Hp → Prop, (∃ m9, I5 m9 0 h) ∧ ∀ (m6 : Nat) (i4 : Int) (h7 : Hp), I5 m6 i4 h7 → (((decide (i4 < (a1.len : Int))) = true → (∃ a12 : Addr, a1.p = some a12 ∧ 0 ≤ i4 ∧ i4 < (a1.len : Int) ∧ ∃ n17 : Int, rdc h7 (a12.add (Int.toNat i4 * 1)) = some (.int .u8 n17) ∧ ∃ a18 : Addr, b2.p = some a18 ∧ 0 ≤ i4 ∧ i4 < (b2.len : Int) ∧ ∃ n23 : Int, rdc h7 (a18.add (Int.toNat i4 * 1)) = some (.int .u8 n23) ∧ ((n17 != n23) = true → (K false h7)) ∧ ((n17 != n23) = false → (∃ n25 : Int, Wr .i64 (i4 + 1) n25 ∧ ∃ m27, m27 < m6 ∧ I5 m27 n25 h7)))) ∧ ((decide (i4 < (a1.len : Int))) = false → (K true h7)))))

theorem law2_same_ok {W : World} {h : Hp} {a1 : Sl} {b2 : Sl} {K : Bool → Hp → Prop} (H : law2_same a1 b2 K h) :
    CallsH Try.prog 45 (List.toArray [a1.v, b2.v]) W h (fun v h' => ∃ (b1 : Bool), v = .bool b1 ∧ K b1 h') := by
  unfold law2_same at H
  refine CallsH.intro (fn := Try.f45) (N := 26) (e := aE 0 [a1.v, b2.v]) Try.func45 rfl rfl (aE_spec _) rfl ?_
  refine WPC.seq ?_
  refine WPC.region ?_
  refine WPL.q tk0 (asg rfl) rfl ?_
  refine WPL.nil ?_
  refine WQ.next ?_
  refine WPC.seq ?_
  refine WPC.seq ?_
  refine WPC.region ?_
  refine WPL.q tk0 (mv rfl) rfl ?_
  refine WPL.q tk0 (lnb sO_24 rfl) rfl ?_
  refine WPL.q tk0 (mv rfl) rfl ?_
  refine WPL.q tk0 (lnb sO_24 rfl) rfl ?_
  refine WPL.q tk0 (bNeq rfl rfl) rfl ?_
  refine WPL.nil ?_
  refine WQ.next ?_
  refine WPC.cond rfl (fun hb3 => ?_) (fun hb3 => ?_)
  · have H := H.1 hb3
    refine WPC.seq ?_
    refine WPC.region ?_
    refine WPL.q tk0 (asg rfl) rfl ?_
    refine WPL.nil ?_
    refine WQ.next ?_
    refine WPC.ret ?_
    refine WQ.thenR ?_
    exact WQ.done (rets1 rfl rfl) ⟨_, rfl, H⟩
  · have H := H.2 hb3
    refine WPC.skip ?_
    refine WQ.next ?_
    refine WPC.seq ?_
    refine WPC.seq ?_
    refine WPC.region ?_
    refine WPL.q tk0 (asg rfl) rfl ?_
    refine WPL.nil ?_
    refine WQ.next ?_
    refine WPC.block ?_
    obtain ⟨I5, ⟨m9, HI10⟩, H⟩ := H
    refine WPC.weak (e' := [(0, a1.v), (1, b2.v), (5, .int .i64 0)]) ?_ ⟨rfl, rfl, rfl, trivial⟩
    refine WPC.loop (fun m e h => ∃ (i4 : Int), e = [(0, a1.v), (1, b2.v), (5, .int .i64 i4)] ∧ I5 m i4 h) ⟨m9, _, rfl, HI10⟩ ?_
    rintro m6 _ h7 ⟨i4, rfl, HI8⟩
    have H := H m6 i4 h7 HI8
    refine WPC.seq ?_
    refine WPC.seq ?_
    refine WPC.region ?_
    refine WPL.q tk0 (mv rfl) rfl ?_
    refine WPL.q tk0 (mv rfl) rfl ?_
    refine WPL.q tk0 (lnb sO_24 rfl) rfl ?_
    refine WPL.q tk0 (bLss rfl rfl) rfl ?_
    refine WPL.nil ?_
    refine WQ.next ?_
    refine WPC.cond rfl (fun hb11 => ?_) (fun hb11 => ?_)
    · have H := H.1 hb11
      refine WPC.skip ?_
      refine WQ.next ?_
      refine WPC.seq ?_
      refine WPC.block ?_
      refine WPC.seq ?_
      refine WPC.draw (al := [0, 0, 3, 7, 0, 0, 48, 112, 255]) (p := (.p 0 (.p 1 (.p 2 (.q 3 (.p 4 (.p 5 (.p 6 (.q 7 (.p 8 .done)))))))))) mixO (by kernel_rfl) ?_
      refine PL.pp rfl rfl tk0 (fun _ => mv rfl) ?_
      refine PL.pp rfl rfl tk0 (fun _ => mv rfl) ?_
      obtain ⟨a12, ha13, H⟩ := H
      obtain ⟨h14, h15, H⟩ := H
      refine PL.pp rfl rfl tk0 (fun _ => ixSb sO_24 rfl rfl ha13 h14 h15) ?_
      obtain ⟨n17, hv16, H⟩ := H
      refine PL.qq rfl rfl tk0 (ld kO_5 rfl hv16) ?_
      refine PL.pp rfl rfl tk0 (fun _ => mv rfl) ?_
      refine PL.pp rfl rfl tk0 (fun _ => mv rfl) ?_
      obtain ⟨a18, ha19, H⟩ := H
      obtain ⟨h20, h21, H⟩ := H
      refine PL.pp rfl rfl tk0 (fun _ => ixSb sO_24 rfl rfl ha19 h20 h21) ?_
      obtain ⟨n23, hv22, H⟩ := H
      refine PL.qq rfl rfl tk0 (ld kO_5 rfl hv22) ?_
      refine PL.pp rfl rfl tk0 (fun _ => bNeq rfl rfl) ?_
      refine WQ.next ?_
      refine WPC.cond rfl (fun hb24 => ?_) (fun hb24 => ?_)
      · have H := H.1 hb24
        refine WPC.seq ?_
        refine WPC.region ?_
        refine WPL.q tk0 (asg rfl) rfl ?_
        refine WPL.nil ?_
        refine WQ.next ?_
        refine WPC.ret ?_
        refine WQ.blockR ?_
        refine WQ.thenR ?_
        refine WQ.thenR ?_
        refine WQ.blockR ?_
        refine WQ.thenR ?_
        exact WQ.done (rets1 rfl rfl) ⟨_, rfl, H⟩
      · have H := H.2 hb24
        refine WPC.skip ?_
        refine WQ.blockN ?_
        refine WQ.next ?_
        refine WPC.region ?_
        refine WPL.q tk0 (mv rfl) rfl ?_
        obtain ⟨n25, hn26, H⟩ := H
        refine WPL.q tk0 (bAdd rfl rfl hn26) rfl ?_
        refine WPL.q tk0 (asg rfl) rfl ?_
        refine WPL.nil ?_
        obtain ⟨m27, lt28, H⟩ := H
        exact WQ.again lt28 ⟨_, rfl, H⟩ ⟨rfl, rfl, rfl, trivial⟩
    · have H := H.2 hb11
      refine WPC.exit ?_
      refine WQ.thenX ?_
      refine WQ.thenX ?_
      refine WQ.hit ?_
      refine WQ.next ?_
      refine WPC.seq ?_
      refine WPC.region ?_
      refine WPL.q tk0 (asg rfl) rfl ?_
      refine WPL.nil ?_
      refine WQ.next ?_
      refine WPC.ret ?_
      exact WQ.done (rets1 rfl rfl) ⟨_, rfl, H⟩

/-- trellis/trellislaw2.writes -/
def law2_writes (a1 : Sl) (b2 : Sl) (K : Bool → Hp → Prop) (h : Hp) : Prop :=
  (((a1.len : Int) != (b2.len : Int)) = true → (K false h)) ∧ (((a1.len : Int) != (b2.len : Int)) = false → (∃ I5 : Nat → Int → Hp → Prop, (∃ m9, I5 m9 0 h) ∧ ∀ (m6 : Nat) (i4 : Int) (h7 : Hp), I5 m6 i4 h7 → (((decide (i4 < (a1.len : Int))) = true → (∃ a12 : Addr, a1.p = some a12 ∧ 0 ≤ i4 ∧ i4 < (a1.len : Int) ∧ ∃ s17 : Sl, rdc h7 ((a12.add (Int.toNat i4 * 2)).add 1) = some (s17.v) ∧ ∃ a18 : Addr, b2.p = some a18 ∧ 0 ≤ i4 ∧ i4 < (b2.len : Int) ∧ ∃ s23 : Sl, rdc h7 ((a18.add (Int.toNat i4 * 2)).add 1) = some (s23.v) ∧ law2_same s17 s23 (fun b24 h25 => ∃ k27 : Bool → Hp → Prop, (∀ (b26 : Bool) (h30 : Hp), k27 b26 h30 → ((b26 = true → (K false h30)) ∧ (b26 = false → (∃ n33 : Int, Wr .i64 (i4 + 1) n33 ∧ ∃ m35, m35 < m6 ∧ I5 m35 n33 h30)))) ∧ (0 ≤ i4 ∧ i4 < (a1.len : Int) ∧ ∃ n41 : Int, rdc h25 ((a12.add (Int.toNat i4 * 2)).add 0) = some (.int .i64 n41) ∧ 0 ≤ i4 ∧ i4 < (b2.len : Int) ∧ ∃ n45 : Int, rdc h25 ((a18.add (Int.toNat i4 * 2)).add 0) = some (.int .i64 n45) ∧ ((n41 != n45) = true → (k27 true h25)) ∧ ((n41 != n45) = false → (k27 (!b24) h25)))) h7)) ∧ ((decide (i4 < (a1.len : Int))) = false → (K true h7)))))

theorem law2_writes_ok {W : World} {h : Hp} {a1 : Sl} {b2 : Sl} {K : Bool → Hp → Prop} (H : law2_writes a1 b2 K h) :
    CallsH Try.prog 91 (List.toArray [a1.v, b2.v]) W h (fun v h' => ∃ (b1 : Bool), v = .bool b1 ∧ K b1 h') := by
  unfold law2_writes at H
  refine CallsH.intro (fn := Try.f91) (N := 44) (e := aE 0 [a1.v, b2.v]) Try.func91 rfl rfl (aE_spec _) rfl ?_
  refine WPC.seq ?_
  refine WPC.region ?_
  refine WPL.q tk0 (asg rfl) rfl ?_
  refine WPL.nil ?_
  refine WQ.next ?_
  refine WPC.seq ?_
  refine WPC.seq ?_
  refine WPC.region ?_
  refine WPL.q tk0 (mv rfl) rfl ?_
  refine WPL.q tk0 (lnb sO_149 rfl) rfl ?_
  refine WPL.q tk0 (mv rfl) rfl ?_
  refine WPL.q tk0 (lnb sO_149 rfl) rfl ?_
  refine WPL.q tk0 (bNeq rfl rfl) rfl ?_
  refine WPL.nil ?_
  refine WQ.next ?_
  refine WPC.cond rfl (fun hb3 => ?_) (fun hb3 => ?_)
  · have H := H.1 hb3
    refine WPC.seq ?_
    refine WPC.region ?_
    refine WPL.q tk0 (asg rfl) rfl ?_
    refine WPL.nil ?_
    refine WQ.next ?_
    refine WPC.ret ?_
    refine WQ.thenR ?_
    exact WQ.done (rets1 rfl rfl) ⟨_, rfl, H⟩
  · have H := H.2 hb3
    refine WPC.skip ?_
    refine WQ.next ?_
    refine WPC.seq ?_
    refine WPC.seq ?_
    refine WPC.region ?_
    refine WPL.q tk0 (asg rfl) rfl ?_
    refine WPL.nil ?_
    refine WQ.next ?_
    refine WPC.block ?_
    obtain ⟨I5, ⟨m9, HI10⟩, H⟩ := H
    refine WPC.weak (e' := [(0, a1.v), (1, b2.v), (5, .int .i64 0)]) ?_ ⟨rfl, rfl, rfl, trivial⟩
    refine WPC.loop (fun m e h => ∃ (i4 : Int), e = [(0, a1.v), (1, b2.v), (5, .int .i64 i4)] ∧ I5 m i4 h) ⟨m9, _, rfl, HI10⟩ ?_
    rintro m6 _ h7 ⟨i4, rfl, HI8⟩
    have H := H m6 i4 h7 HI8
    refine WPC.seq ?_
    refine WPC.seq ?_
    refine WPC.region ?_
    refine WPL.q tk0 (mv rfl) rfl ?_
    refine WPL.q tk0 (mv rfl) rfl ?_
    refine WPL.q tk0 (lnb sO_149 rfl) rfl ?_
    refine WPL.q tk0 (bLss rfl rfl) rfl ?_
    refine WPL.nil ?_
    refine WQ.next ?_
    refine WPC.cond rfl (fun hb11 => ?_) (fun hb11 => ?_)
    · have H := H.1 hb11
      refine WPC.skip ?_
      refine WQ.next ?_
      refine WPC.seq ?_
      refine WPC.block ?_
      refine WPC.seq ?_
      refine WPC.draw (al := [0, 0, 3, 7, 15, 0, 0, 96, 224, 480, 1023, 2047]) (p := (.p 0 (.p 1 (.p 2 (.p 3 (.q 4 (.p 5 (.p 6 (.p 7 (.p 8 (.q 9 (.e1 10 (.p 11 .done))))))))))))) mixO (by kernel_rfl) ?_
      refine PL.pp rfl rfl tk0 (fun _ => mv rfl) ?_
      refine PL.pp rfl rfl tk0 (fun _ => mv rfl) ?_
      obtain ⟨a12, ha13, H⟩ := H
      obtain ⟨h14, h15, H⟩ := H
      refine PL.pp rfl rfl tk0 (fun _ => ixSb sO_149 rfl rfl ha13 h14 h15) ?_
      refine PL.pp rfl rfl tk0 (fun _ => fa fO_156_1 rfl) ?_
      obtain ⟨s17, hv16, H⟩ := H
      refine PL.qq rfl rfl tk0 (ld kO_24 rfl hv16) ?_
      refine PL.pp rfl rfl tk0 (fun _ => mv rfl) ?_
      refine PL.pp rfl rfl tk0 (fun _ => mv rfl) ?_
      obtain ⟨a18, ha19, H⟩ := H
      obtain ⟨h20, h21, H⟩ := H
      refine PL.pp rfl rfl tk0 (fun _ => ixSb sO_149 rfl rfl ha19 h20 h21) ?_
      refine PL.pp rfl rfl tk0 (fun _ => fa fO_156_1 rfl) ?_
      obtain ⟨s23, hv22, H⟩ := H
      refine PL.qq rfl rfl tk0 (ld kO_24 rfl hv22) ?_
      have HC := law2_same_ok (W := W) H
      refine PL.ee (S' := []) (by kernel_rfl) rfl rfl tk0 (cl cO_45 rfl HC) ?_
      rintro _ h25 ⟨b24, rfl, H⟩
      refine ⟨(Stay.t (by kernel_rfl) (Stay.t (by kernel_rfl) Stay.n)), ?_⟩
      refine PL.pp rfl rfl tk0 (fun _ => asg rfl) ?_
      refine WQ.next ?_
      refine WPC.seq ?_
      obtain ⟨k27, hk29, H⟩ := H
      refine WPC.join (fun e h => ∃ (b26 : Bool), e = [(0, a1.v), (1, b2.v), (5, .int .i64 i4), (43, .bool b26)] ∧ k27 b26 h) ?_ (fun hj28 => ?_)
      · rintro _ h30 ⟨b26, rfl, HK31⟩
        have H := hk29 b26 h30 HK31
        refine WQ.next ?_
        refine WPC.cond rfl (fun hb32 => ?_) (fun hb32 => ?_)
        · have H := H.1 hb32
          refine WPC.seq ?_
          refine WPC.region ?_
          refine WPL.q tk0 (asg rfl) rfl ?_
          refine WPL.nil ?_
          refine WQ.next ?_
          refine WPC.ret ?_
          refine WQ.blockR ?_
          refine WQ.thenR ?_
          refine WQ.thenR ?_
          refine WQ.blockR ?_
          refine WQ.thenR ?_
          exact WQ.done (rets1 rfl rfl) ⟨_, rfl, H⟩
        · have H := H.2 hb32
          refine WPC.skip ?_
          refine WQ.blockN ?_
          refine WQ.next ?_
          refine WPC.region ?_
          refine WPL.q tk0 (mv rfl) rfl ?_
          obtain ⟨n33, hn34, H⟩ := H
          refine WPL.q tk0 (bAdd rfl rfl hn34) rfl ?_
          refine WPL.q tk0 (asg rfl) rfl ?_
          refine WPL.nil ?_
          obtain ⟨m35, lt36, H⟩ := H
          exact WQ.again lt36 ⟨_, rfl, H⟩ ⟨rfl, rfl, rfl, trivial⟩
      · refine WPC.draw (al := [0, 0, 3, 7, 15, 0, 0, 96, 224, 480, 1023, 2047, 4095, 8191, 16383]) (p := (.p 0 (.p 1 (.p 2 (.p 3 (.q 4 (.p 5 (.p 6 (.p 7 (.p 8 (.q 9 (.p 10 (.p 11 (.p 12 (.p 13 (.p 14 .done)))))))))))))))) mixO (by kernel_rfl) ?_
        refine PL.pp rfl rfl tk0 (fun _ => mv rfl) ?_
        refine PL.pp rfl rfl tk0 (fun _ => mv rfl) ?_
        obtain ⟨h38, h39, H⟩ := H
        refine PL.pp rfl rfl tk0 (fun _ => ixSb sO_149 rfl rfl ha13 h38 h39) ?_
        refine PL.pp rfl rfl tk0 (fun _ => fa fO_156_0 rfl) ?_
        obtain ⟨n41, hv40, H⟩ := H
        refine PL.qq rfl rfl tk0 (ld kO_3 rfl hv40) ?_
        refine PL.pp rfl rfl tk0 (fun _ => mv rfl) ?_
        refine PL.pp rfl rfl tk0 (fun _ => mv rfl) ?_
        obtain ⟨h42, h43, H⟩ := H
        refine PL.pp rfl rfl tk0 (fun _ => ixSb sO_149 rfl rfl ha19 h42 h43) ?_
        refine PL.pp rfl rfl tk0 (fun _ => fa fO_156_0 rfl) ?_
        obtain ⟨n45, hv44, H⟩ := H
        refine PL.qq rfl rfl tk0 (ld kO_3 rfl hv44) ?_
        refine PL.pp rfl rfl tk0 (fun _ => bNeq rfl rfl) ?_
        refine PL.pp rfl rfl tk0 (fun _ => mv rfl) ?_
        rcases Bool.eq_false_or_eq_true ((n41 != n45)) with hb46 | hb46
        · have H := H.1 hb46
          refine PL.ps rfl rfl (ntkb rfl rfl hb46) ?_
          refine PL.ps rfl rfl (ntkb rfl rfl hb46) ?_
          refine PL.pp rfl rfl tk0 (fun _ => pkTb rfl hb46 rfl) ?_
          exact (hj28 _ _ ⟨_, rfl, H⟩).weak ⟨rfl, rfl, rfl, rfl, trivial⟩
        · have H := H.2 hb46
          refine PL.pp rfl rfl (tkb rfl rfl hb46) (fun _ => mv rfl) ?_
          refine PL.pp rfl rfl (tkb rfl rfl hb46) (fun _ => uNot rfl) ?_
          refine PL.pp rfl rfl tk0 (fun _ => pkFb rfl hb46 rfl) ?_
          exact (hj28 _ _ ⟨_, rfl, H⟩).weak ⟨rfl, rfl, rfl, rfl, trivial⟩
    · have H := H.2 hb11
      refine WPC.exit ?_
      refine WQ.thenX ?_
      refine WQ.thenX ?_
      refine WQ.hit ?_
      refine WQ.next ?_
      refine WPC.seq ?_
      refine WPC.region ?_
      refine WPL.q tk0 (asg rfl) rfl ?_
      refine WPL.nil ?_
      refine WQ.next ?_
      refine WPC.ret ?_
      exact WQ.done (rets1 rfl rfl) ⟨_, rfl, H⟩

/-- (*trellis/trellislaw2.Two).makes -/
def law2_Two_makes (t1 : Option Addr) (n2 : Int) (n3 : Int) (n4 : Int) (s5 : Sl) (s6 : Sl) (K : Bool → Hp → Prop) (h : Hp) : Prop :=
  ∃ (b7 : Nat) (h8 : Hp), b7 = h.size ∧ h8 = h.push (Cel [.int .i64 n2, .int .i64 n3, .int .i64 n4, s5.v, s6.v] 59) ∧ ∃ n12 : Int, rdc h8 ((nA b7).add 1) = some (.int .i64 n12) ∧ ∃ n13 : Int, n13 = IntKind.i64.wrap ((BitVec.ofInt (IntKind.bits .i64) n12 &&& BitVec.ofInt (IntKind.bits .i64) 1).toNat : Int) ∧ ∃ n16 : Int, rdc h8 ((nA b7).add 0) = some (.int .i64 n16) ∧ ((n16 == 1) = true → (∃ n19 : Int, rdc h8 ((nA b7).add 2) = some (.int .i64 n19) ∧ disk_New n19 (fun p20 n21 h22 => ∃ n24 : Int, rdc h22 ((nA b7).add 2) = some (.int .i64 n24) ∧ ref2_New n24 (fun p25 n26 h27 => ∃ a28 : Addr, t1 = some a28 ∧ 0 ≤ n13 ∧ n13 < (2 : Nat) ∧ ∃ h32 : Hp, StL h27 ((a28.add 0).add (Int.toNat n13 * 1)) [.pointer p20] h32 ∧ 0 ≤ n13 ∧ n13 < (2 : Nat) ∧ ∃ h36 : Hp, StL h32 ((a28.add 2).add (Int.toNat n13 * 1)) [.pointer p25] h36 ∧ ((n21 == n26) = true → (K (p20.isNone == p25.isNone) h36)) ∧ ((n21 == n26) = false → (K false h36))) h22) h8)) ∧ ((n16 == 1) = false → (∃ s40 : Sl, rdc h8 ((nA b7).add 3) = some (s40.v) ∧ ref2_Same s40 (fun s41 h42 => disk_Load s41 (fun p43 n44 h45 => ∃ s47 : Sl, rdc h45 ((nA b7).add 3) = some (s47.v) ∧ ref2_Load s47 (fun p48 n49 h50 => ∃ a51 : Addr, t1 = some a51 ∧ 0 ≤ n13 ∧ n13 < (2 : Nat) ∧ ∃ h55 : Hp, StL h50 ((a51.add 0).add (Int.toNat n13 * 1)) [.pointer p43] h55 ∧ 0 ≤ n13 ∧ n13 < (2 : Nat) ∧ ∃ h59 : Hp, StL h55 ((a51.add 2).add (Int.toNat n13 * 1)) [.pointer p48] h59 ∧ ((n44 == n49) = true → (K (p43.isNone == p48.isNone) h59)) ∧ ((n44 == n49) = false → (K false h59))) h45) h42) h8))

theorem law2_Two_makes_ok {W : World} {h : Hp} {t1 : Option Addr} {n2 : Int} {n3 : Int} {n4 : Int} {s5 : Sl} {s6 : Sl} {K : Bool → Hp → Prop} (H : law2_Two_makes t1 n2 n3 n4 s5 s6 K h) :
    CallsH Try.prog 101 (List.toArray [.pointer t1, .agg (List.toArray [.int .i64 n2, .int .i64 n3, .int .i64 n4, s5.v, s6.v])]) W h (fun v h' => ∃ (b1 : Bool), v = .bool b1 ∧ K b1 h') := by
  unfold law2_Two_makes at H
  refine CallsH.intro (fn := Try.f101) (N := 89) (e := aE 0 [.pointer t1, .agg (List.toArray [.int .i64 n2, .int .i64 n3, .int .i64 n4, s5.v, s6.v])]) Try.func101 rfl rfl (aE_spec _) rfl ?_
  refine WPC.seq ?_
  refine WPC.region ?_
  obtain ⟨b7, h8, hb9, hh10, H⟩ := H
  refine WPL.f tk0 (bxN (l := [.int .i64 n2, .int .i64 n3, .int .i64 n4, s5.v, s6.v]) rfl rfl hb9 hh10) rfl ?_
  refine WPL.q tk0 (asg rfl) rfl ?_
  refine WPL.nil ?_
  refine WQ.next ?_
  refine WPC.seq ?_
  refine WPC.region ?_
  refine WPL.q tk0 (fa fO_59_1 rfl) rfl ?_
  obtain ⟨n12, hv11, H⟩ := H
  refine WPL.q tk0 (ld kO_3 rfl hv11) rfl ?_
  obtain ⟨n13, hn14, H⟩ := H
  refine WPL.q tk0 (bAnd rfl rfl hn14) rfl ?_
  refine WPL.q tk0 (asg rfl) rfl ?_
  refine WPL.nil ?_
  refine WQ.next ?_
  refine WPC.seq ?_
  refine WPC.seq ?_
  refine WPC.region ?_
  refine WPL.q tk0 (fa fO_59_0 rfl) rfl ?_
  obtain ⟨n16, hv15, H⟩ := H
  refine WPL.q tk0 (ld kO_3 rfl hv15) rfl ?_
  refine WPL.q tk0 (bEql rfl rfl) rfl ?_
  refine WPL.nil ?_
  refine WQ.next ?_
  refine WPC.cond rfl (fun hb17 => ?_) (fun hb17 => ?_)
  · have H := H.1 hb17
    refine WPC.seq ?_
    refine WPC.region ?_
    refine WPL.q tk0 (fa fO_59_2 rfl) rfl ?_
    obtain ⟨n19, hv18, H⟩ := H
    refine WPL.q tk0 (ld kO_3 rfl hv18) rfl ?_
    have HC := disk_New_ok (W := W) H
    refine WPL.eff tk0 (cl cO_85 rfl HC) rfl ?_
    rintro _ h22 ⟨p20, n21, rfl, H⟩
    refine WPL.q tk0 (mv rfl) rfl ?_
    refine WPL.q tk0 (ext rfl rfl) rfl ?_
    refine WPL.q tk0 (ext rfl rfl) rfl ?_
    refine WPL.q tk0 (asg rfl) rfl ?_
    refine WPL.q tk0 (asg rfl) rfl ?_
    refine WPL.nil ?_
    refine WQ.next ?_
    refine WPC.seq ?_
    refine WPC.region ?_
    refine WPL.q tk0 (fa fO_59_2 rfl) rfl ?_
    obtain ⟨n24, hv23, H⟩ := H
    refine WPL.q tk0 (ld kO_3 rfl hv23) rfl ?_
    have HC := ref2_New_ok (W := W) H
    refine WPL.eff tk0 (cl cO_133 rfl HC) rfl ?_
    rintro _ h27 ⟨p25, n26, rfl, H⟩
    refine WPL.q tk0 (mv rfl) rfl ?_
    refine WPL.q tk0 (ext rfl rfl) rfl ?_
    refine WPL.q tk0 (ext rfl rfl) rfl ?_
    refine WPL.q tk0 (asg rfl) rfl ?_
    refine WPL.q tk0 (asg rfl) rfl ?_
    refine WPL.nil ?_
    refine WQ.next ?_
    refine WPC.seq ?_
    refine WPC.draw (al := [0, 0, 0, 0, 0, 0, 1, 65, 211, 467, 4, 1028, 4095, 8191]) (p := (.p 0 (.p 1 (.p 2 (.p 3 (.p 4 (.p 5 (.p 6 (.p 7 (.p 8 (.p 10 (.p 11 (.e1 9 (.p 12 (.e1 13 .done))))))))))))))) mixO (by kernel_rfl) ?_
    refine PL.pp rfl rfl tk0 (fun _ => mv rfl) ?_
    refine PL.pp rfl rfl tk0 (fun _ => mv rfl) ?_
    refine PL.pp rfl rfl tk0 (fun _ => mv rfl) ?_
    refine PL.pp rfl rfl tk0 (fun _ => mv rfl) ?_
    refine PL.pp rfl rfl tk0 (fun _ => mv rfl) ?_
    refine PL.pp rfl rfl tk0 (fun _ => mv rfl) ?_
    obtain ⟨a28, ha29, H⟩ := H
    refine PL.pp rfl rfl tk0 (fun _ => ncb rfl ha29) ?_
    refine PL.pp rfl rfl tk0 (fun _ => fa fO_74_0 rfl) ?_
    obtain ⟨h30, h31, H⟩ := H
    refine PL.pp rfl rfl tk0 (fun _ => ixA aO_70 rfl rfl h30 h31) ?_
    refine PL.pp rfl rfl tk0 (fun _ => ncb rfl ha29) ?_
    refine PL.pp rfl rfl tk0 (fun _ => fa fO_74_1 rfl) ?_
    obtain ⟨h32, hs33, H⟩ := H
    refine PL.ff (S' := []) (by kernel_rfl) rfl rfl tk0 (st kO_31 rfl rfl rfl hs33) Stay.n ?_
    obtain ⟨h34, h35, H⟩ := H
    refine PL.pp rfl rfl tk0 (fun _ => ixA aO_72 rfl rfl h34 h35) ?_
    obtain ⟨h36, hs37, H⟩ := H
    refine PL.ff (S' := []) (by kernel_rfl) rfl rfl tk0 (st kO_71 rfl rfl rfl hs37) Stay.n ?_
    refine WQ.next ?_
    refine WPC.seq ?_
    refine WPC.region ?_
    refine WPL.q tk0 (mv rfl) rfl ?_
    refine WPL.q tk0 (mv rfl) rfl ?_
    refine WPL.q tk0 (bEql rfl rfl) rfl ?_
    refine WPL.q tk0 (mv rfl) rfl ?_
    rcases Bool.eq_false_or_eq_true ((n21 == n26)) with hb38 | hb38
    · have H := H.1 hb38
      refine WPL.q (tkb rfl rfl hb38) (mv rfl) rfl ?_
      refine WPL.q (tkb rfl rfl hb38) (bEqN pO_31 rfl) rfl ?_
      refine WPL.q (tkb rfl rfl hb38) (mv rfl) rfl ?_
      refine WPL.q (tkb rfl rfl hb38) (bEqN pO_71 rfl) rfl ?_
      refine WPL.q (tkb rfl rfl hb38) (bEqB bO_4 rfl rfl) rfl ?_
      refine WPL.q tk0 (pkTb rfl hb38 rfl) rfl ?_
      refine WPL.q tk0 (asg rfl) rfl ?_
      refine WPL.nil ?_
      refine WQ.next ?_
      refine WPC.ret ?_
      refine WQ.thenR ?_
      exact WQ.done (rets1 rfl rfl) ⟨_, rfl, H⟩
    · have H := H.2 hb38
      refine WPL.skip (ntkb rfl rfl hb38) rfl ?_
      refine WPL.skip (ntkb rfl rfl hb38) rfl ?_
      refine WPL.skip (ntkb rfl rfl hb38) rfl ?_
      refine WPL.skip (ntkb rfl rfl hb38) rfl ?_
      refine WPL.skip (ntkb rfl rfl hb38) rfl ?_
      refine WPL.q tk0 (pkFb rfl hb38 rfl) rfl ?_
      refine WPL.q tk0 (asg rfl) rfl ?_
      refine WPL.nil ?_
      refine WQ.next ?_
      refine WPC.ret ?_
      refine WQ.thenR ?_
      exact WQ.done (rets1 rfl rfl) ⟨_, rfl, H⟩
  · have H := H.2 hb17
    refine WPC.skip ?_
    refine WQ.next ?_
    refine WPC.seq ?_
    refine WPC.region ?_
    refine WPL.q tk0 (fa fO_59_3 rfl) rfl ?_
    obtain ⟨s40, hv39, H⟩ := H
    refine WPL.q tk0 (ld kO_24 rfl hv39) rfl ?_
    have HC := ref2_Same_ok (W := W) H
    refine WPL.eff tk0 (cl cO_102 rfl HC) rfl ?_
    rintro _ h42 ⟨s41, rfl, H⟩
    have HC := disk_Load_ok (W := W) H
    refine WPL.eff tk0 (cl cO_43 rfl HC) rfl ?_
    rintro _ h45 ⟨p43, n44, rfl, H⟩
    refine WPL.q tk0 (mv rfl) rfl ?_
    refine WPL.q tk0 (ext rfl rfl) rfl ?_
    refine WPL.q tk0 (ext rfl rfl) rfl ?_
    refine WPL.q tk0 (asg rfl) rfl ?_
    refine WPL.q tk0 (asg rfl) rfl ?_
    refine WPL.nil ?_
    refine WQ.next ?_
    refine WPC.seq ?_
    refine WPC.region ?_
    refine WPL.q tk0 (fa fO_59_3 rfl) rfl ?_
    obtain ⟨s47, hv46, H⟩ := H
    refine WPL.q tk0 (ld kO_24 rfl hv46) rfl ?_
    have HC := ref2_Load_ok (W := W) H
    refine WPL.eff tk0 (cl cO_53 rfl HC) rfl ?_
    rintro _ h50 ⟨p48, n49, rfl, H⟩
    refine WPL.q tk0 (mv rfl) rfl ?_
    refine WPL.q tk0 (ext rfl rfl) rfl ?_
    refine WPL.q tk0 (ext rfl rfl) rfl ?_
    refine WPL.q tk0 (asg rfl) rfl ?_
    refine WPL.q tk0 (asg rfl) rfl ?_
    refine WPL.nil ?_
    refine WQ.next ?_
    refine WPC.seq ?_
    refine WPC.draw (al := [0, 0, 0, 0, 0, 0, 1, 65, 211, 467, 4, 1028, 4095, 8191]) (p := (.p 0 (.p 1 (.p 2 (.p 3 (.p 4 (.p 5 (.p 6 (.p 7 (.p 8 (.p 10 (.p 11 (.e1 9 (.p 12 (.e1 13 .done))))))))))))))) mixO (by kernel_rfl) ?_
    refine PL.pp rfl rfl tk0 (fun _ => mv rfl) ?_
    refine PL.pp rfl rfl tk0 (fun _ => mv rfl) ?_
    refine PL.pp rfl rfl tk0 (fun _ => mv rfl) ?_
    refine PL.pp rfl rfl tk0 (fun _ => mv rfl) ?_
    refine PL.pp rfl rfl tk0 (fun _ => mv rfl) ?_
    refine PL.pp rfl rfl tk0 (fun _ => mv rfl) ?_
    obtain ⟨a51, ha52, H⟩ := H
    refine PL.pp rfl rfl tk0 (fun _ => ncb rfl ha52) ?_
    refine PL.pp rfl rfl tk0 (fun _ => fa fO_74_0 rfl) ?_
    obtain ⟨h53, h54, H⟩ := H
    refine PL.pp rfl rfl tk0 (fun _ => ixA aO_70 rfl rfl h53 h54) ?_
    refine PL.pp rfl rfl tk0 (fun _ => ncb rfl ha52) ?_
    refine PL.pp rfl rfl tk0 (fun _ => fa fO_74_1 rfl) ?_
    obtain ⟨h55, hs56, H⟩ := H
    refine PL.ff (S' := []) (by kernel_rfl) rfl rfl tk0 (st kO_31 rfl rfl rfl hs56) Stay.n ?_
    obtain ⟨h57, h58, H⟩ := H
    refine PL.pp rfl rfl tk0 (fun _ => ixA aO_72 rfl rfl h57 h58) ?_
    obtain ⟨h59, hs60, H⟩ := H
    refine PL.ff (S' := []) (by kernel_rfl) rfl rfl tk0 (st kO_71 rfl rfl rfl hs60) Stay.n ?_
    refine WQ.next ?_
    refine WPC.seq ?_
    refine WPC.region ?_
    refine WPL.q tk0 (mv rfl) rfl ?_
    refine WPL.q tk0 (mv rfl) rfl ?_
    refine WPL.q tk0 (bEql rfl rfl) rfl ?_
    refine WPL.q tk0 (mv rfl) rfl ?_
    rcases Bool.eq_false_or_eq_true ((n44 == n49)) with hb61 | hb61
    · have H := H.1 hb61
      refine WPL.q (tkb rfl rfl hb61) (mv rfl) rfl ?_
      refine WPL.q (tkb rfl rfl hb61) (bEqN pO_31 rfl) rfl ?_
      refine WPL.q (tkb rfl rfl hb61) (mv rfl) rfl ?_
      refine WPL.q (tkb rfl rfl hb61) (bEqN pO_71 rfl) rfl ?_
      refine WPL.q (tkb rfl rfl hb61) (bEqB bO_4 rfl rfl) rfl ?_
      refine WPL.q tk0 (pkTb rfl hb61 rfl) rfl ?_
      refine WPL.q tk0 (asg rfl) rfl ?_
      refine WPL.nil ?_
      refine WQ.next ?_
      refine WPC.ret ?_
      exact WQ.done (rets1 rfl rfl) ⟨_, rfl, H⟩
    · have H := H.2 hb61
      refine WPL.skip (ntkb rfl rfl hb61) rfl ?_
      refine WPL.skip (ntkb rfl rfl hb61) rfl ?_
      refine WPL.skip (ntkb rfl rfl hb61) rfl ?_
      refine WPL.skip (ntkb rfl rfl hb61) rfl ?_
      refine WPL.skip (ntkb rfl rfl hb61) rfl ?_
      refine WPL.q tk0 (pkFb rfl hb61 rfl) rfl ?_
      refine WPL.q tk0 (asg rfl) rfl ?_
      refine WPL.nil ?_
      refine WQ.next ?_
      refine WPC.ret ?_
      exact WQ.done (rets1 rfl rfl) ⟨_, rfl, H⟩

/-- (*trellis/trellislaw2.Two).tells -/
def law2_Two_tells (t1 : Option Addr) (n2 : Int) (n3 : Int) (n4 : Int) (s5 : Sl) (s6 : Sl) (K : Bool → Hp → Prop) (h : Hp) : Prop :=
  ∃ (b7 : Nat) (h8 : Hp), b7 = h.size ∧ h8 = h.push (Cel [.int .i64 n2, .int .i64 n3, .int .i64 n4, s5.v, s6.v] 59) ∧ ∃ n12 : Int, rdc h8 ((nA b7).add 1) = some (.int .i64 n12) ∧ ∃ n13 : Int, n13 = IntKind.i64.wrap ((BitVec.ofInt (IntKind.bits .i64) n12 &&& BitVec.ofInt (IntKind.bits .i64) 1).toNat : Int) ∧ ∃ n16 : Int, rdc h8 ((nA b7).add 0) = some (.int .i64 n16) ∧ ((n16 == 9) = true → (∃ a18 : Addr, t1 = some a18 ∧ 0 ≤ n13 ∧ n13 < (2 : Nat) ∧ ∃ p23 : Option Addr, rdc h8 ((a18.add 0).add (Int.toNat n13 * 1)) = some (.pointer p23) ∧ 0 ≤ n13 ∧ n13 < (2 : Nat) ∧ ∃ p27 : Option Addr, rdc h8 ((a18.add 2).add (Int.toNat n13 * 1)) = some (.pointer p27) ∧ disk_Disk_Pending p23 (fun s28 h29 => rdc h29 ((a18.add 2).add (Int.toNat n13 * 1)) = some (.pointer p27) ∧ ref2_Disk_Pending p27 (fun s31 h32 => law2_writes s28 s31 (fun b33 h34 => K b33 h34) h32) h29) h8)) ∧ ((n16 == 9) = false → (((n16 == 10) = true → (∃ a36 : Addr, t1 = some a36 ∧ 0 ≤ n13 ∧ n13 < (2 : Nat) ∧ ∃ p41 : Option Addr, rdc h8 ((a36.add 0).add (Int.toNat n13 * 1)) = some (.pointer p41) ∧ 0 ≤ n13 ∧ n13 < (2 : Nat) ∧ ∃ p45 : Option Addr, rdc h8 ((a36.add 2).add (Int.toNat n13 * 1)) = some (.pointer p45) ∧ disk_Disk_Image p41 (fun s46 h47 => rdc h47 ((a36.add 2).add (Int.toNat n13 * 1)) = some (.pointer p45) ∧ ref2_Disk_Image p45 (fun s49 h50 => law2_same s46 s49 (fun b51 h52 => K b51 h52) h50) h47) h8)) ∧ ((n16 == 10) = false → (((n16 == 11) = true → (∃ a54 : Addr, t1 = some a54 ∧ 0 ≤ n13 ∧ n13 < (2 : Nat) ∧ ∃ p59 : Option Addr, rdc h8 ((a54.add 0).add (Int.toNat n13 * 1)) = some (.pointer p59) ∧ 0 ≤ n13 ∧ n13 < (2 : Nat) ∧ ∃ p63 : Option Addr, rdc h8 ((a54.add 2).add (Int.toNat n13 * 1)) = some (.pointer p63) ∧ disk_Disk_Stat p59 (fun n64 n65 n66 b67 h68 => rdc h68 ((a54.add 2).add (Int.toNat n13 * 1)) = some (.pointer p63) ∧ ref2_Disk_Stat p63 (fun n70 n71 n72 b73 h74 => K ((n64 == n70) && ((n65 == n71) && ((n66 == n72) && ((b67 == b73) && true)))) h74) h68) h8)) ∧ ((n16 == 11) = false → (∃ a75 : Addr, t1 = some a75 ∧ 0 ≤ n13 ∧ n13 < (2 : Nat) ∧ ∃ p80 : Option Addr, rdc h8 ((a75.add 0).add (Int.toNat n13 * 1)) = some (.pointer p80) ∧ 0 ≤ n13 ∧ n13 < (2 : Nat) ∧ ∃ p84 : Option Addr, rdc h8 ((a75.add 2).add (Int.toNat n13 * 1)) = some (.pointer p84) ∧ disk_Disk_Sectors p80 (fun n85 h86 => rdc h86 ((a75.add 2).add (Int.toNat n13 * 1)) = some (.pointer p84) ∧ ref2_Disk_Sectors p84 (fun n88 h89 => K (n85 == n88) h89) h86) h8))))))

theorem law2_Two_tells_ok {W : World} {h : Hp} {t1 : Option Addr} {n2 : Int} {n3 : Int} {n4 : Int} {s5 : Sl} {s6 : Sl} {K : Bool → Hp → Prop} (H : law2_Two_tells t1 n2 n3 n4 s5 s6 K h) :
    CallsH Try.prog 105 (List.toArray [.pointer t1, .agg (List.toArray [.int .i64 n2, .int .i64 n3, .int .i64 n4, s5.v, s6.v])]) W h (fun v h' => ∃ (b1 : Bool), v = .bool b1 ∧ K b1 h') := by
  unfold law2_Two_tells at H
  refine CallsH.intro (fn := Try.f105) (N := 77) (e := aE 0 [.pointer t1, .agg (List.toArray [.int .i64 n2, .int .i64 n3, .int .i64 n4, s5.v, s6.v])]) Try.func105 rfl rfl (aE_spec _) rfl ?_
  refine WPC.seq ?_
  refine WPC.region ?_
  obtain ⟨b7, h8, hb9, hh10, H⟩ := H
  refine WPL.f tk0 (bxN (l := [.int .i64 n2, .int .i64 n3, .int .i64 n4, s5.v, s6.v]) rfl rfl hb9 hh10) rfl ?_
  refine WPL.q tk0 (asg rfl) rfl ?_
  refine WPL.nil ?_
  refine WQ.next ?_
  refine WPC.seq ?_
  refine WPC.region ?_
  refine WPL.q tk0 (fa fO_59_1 rfl) rfl ?_
  obtain ⟨n12, hv11, H⟩ := H
  refine WPL.q tk0 (ld kO_3 rfl hv11) rfl ?_
  obtain ⟨n13, hn14, H⟩ := H
  refine WPL.q tk0 (bAnd rfl rfl hn14) rfl ?_
  refine WPL.q tk0 (asg rfl) rfl ?_
  refine WPL.nil ?_
  refine WQ.next ?_
  refine WPC.seq ?_
  refine WPC.seq ?_
  refine WPC.region ?_
  refine WPL.q tk0 (fa fO_59_0 rfl) rfl ?_
  obtain ⟨n16, hv15, H⟩ := H
  refine WPL.q tk0 (ld kO_3 rfl hv15) rfl ?_
  refine WPL.nil ?_
  refine WQ.next ?_
  refine WPC.block ?_
  refine WPC.seq ?_
  refine WPC.region ?_
  refine WPL.q tk0 (bEql rfl rfl) rfl ?_
  refine WPL.q tk0 (asg rfl) rfl ?_
  refine WPL.nil ?_
  refine WQ.next ?_
  refine WPC.cond rfl (fun hb17 => ?_) (fun hb17 => ?_)
  · have H := H.1 hb17
    refine WPC.seq ?_
    refine WPC.draw (al := [0, 0, 1, 5, 15, 31, 63, 0, 0, 128, 640, 1920, 3968, 8191, 16383, 32767]) (p := (.p 0 (.p 1 (.p 2 (.p 3 (.p 4 (.q 5 (.p 7 (.p 8 (.p 9 (.p 10 (.p 11 (.q 12 (.e1 6 (.e1 13 (.e1 14 (.p 15 .done))))))))))))))))) mixO (by kernel_rfl) ?_
    refine PL.pp rfl rfl tk0 (fun _ => mv rfl) ?_
    refine PL.pp rfl rfl tk0 (fun _ => mv rfl) ?_
    obtain ⟨a18, ha19, H⟩ := H
    refine PL.pp rfl rfl tk0 (fun _ => ncb rfl ha19) ?_
    refine PL.pp rfl rfl tk0 (fun _ => fa fO_74_0 rfl) ?_
    obtain ⟨h20, h21, H⟩ := H
    refine PL.pp rfl rfl tk0 (fun _ => ixA aO_70 rfl rfl h20 h21) ?_
    obtain ⟨p23, hv22, H⟩ := H
    refine PL.qq rfl rfl tk0 (ld kO_31 rfl hv22) ?_
    refine PL.pp rfl rfl tk0 (fun _ => mv rfl) ?_
    refine PL.pp rfl rfl tk0 (fun _ => mv rfl) ?_
    refine PL.pp rfl rfl tk0 (fun _ => ncb rfl ha19) ?_
    refine PL.pp rfl rfl tk0 (fun _ => fa fO_74_1 rfl) ?_
    obtain ⟨h24, h25, H⟩ := H
    refine PL.pp rfl rfl tk0 (fun _ => ixA aO_72 rfl rfl h24 h25) ?_
    obtain ⟨p27, hv26, H⟩ := H
    refine PL.qq rfl rfl tk0 (ld kO_71 rfl hv26) ?_
    have HC := disk_Disk_Pending_ok (W := W) H
    refine PL.ee (S' := [(12, .pointer p27)]) (by kernel_rfl) rfl rfl tk0 (cl cO_92 rfl HC) ?_
    rintro _ h29 ⟨s28, rfl, H⟩
    obtain ⟨hs30, H⟩ := H
    refine ⟨(Stay.y (by kernel_rfl) rfl tk0 (ld kO_71 rfl hs30) (Stay.t (by kernel_rfl) Stay.n)), ?_⟩
    have HC := ref2_Disk_Pending_ok (W := W) H
    refine PL.ee (S' := []) (by kernel_rfl) rfl rfl tk0 (cl cO_96 rfl HC) ?_
    rintro _ h32 ⟨s31, rfl, H⟩
    refine ⟨(Stay.t (by kernel_rfl) Stay.n), ?_⟩
    have HC := law2_writes_ok (W := W) H
    refine PL.ee (S' := []) (by kernel_rfl) rfl rfl tk0 (cl cO_91 rfl HC) ?_
    rintro _ h34 ⟨b33, rfl, H⟩
    refine ⟨Stay.n, ?_⟩
    refine PL.pp rfl rfl tk0 (fun _ => asg rfl) ?_
    refine WQ.next ?_
    refine WPC.ret ?_
    refine WQ.blockR ?_
    refine WQ.thenR ?_
    exact WQ.done (rets1 rfl rfl) ⟨_, rfl, H⟩
  · have H := H.2 hb17
    refine WPC.seq ?_
    refine WPC.region ?_
    refine WPL.q tk0 (bEql rfl rfl) rfl ?_
    refine WPL.q tk0 (asg rfl) rfl ?_
    refine WPL.nil ?_
    refine WQ.next ?_
    refine WPC.cond rfl (fun hb35 => ?_) (fun hb35 => ?_)
    · have H := H.1 hb35
      refine WPC.seq ?_
      refine WPC.draw (al := [0, 0, 1, 5, 15, 31, 63, 0, 0, 128, 640, 1920, 3968, 8191, 16383, 32767]) (p := (.p 0 (.p 1 (.p 2 (.p 3 (.p 4 (.q 5 (.p 7 (.p 8 (.p 9 (.p 10 (.p 11 (.q 12 (.e1 6 (.e1 13 (.e1 14 (.p 15 .done))))))))))))))))) mixO (by kernel_rfl) ?_
      refine PL.pp rfl rfl tk0 (fun _ => mv rfl) ?_
      refine PL.pp rfl rfl tk0 (fun _ => mv rfl) ?_
      obtain ⟨a36, ha37, H⟩ := H
      refine PL.pp rfl rfl tk0 (fun _ => ncb rfl ha37) ?_
      refine PL.pp rfl rfl tk0 (fun _ => fa fO_74_0 rfl) ?_
      obtain ⟨h38, h39, H⟩ := H
      refine PL.pp rfl rfl tk0 (fun _ => ixA aO_70 rfl rfl h38 h39) ?_
      obtain ⟨p41, hv40, H⟩ := H
      refine PL.qq rfl rfl tk0 (ld kO_31 rfl hv40) ?_
      refine PL.pp rfl rfl tk0 (fun _ => mv rfl) ?_
      refine PL.pp rfl rfl tk0 (fun _ => mv rfl) ?_
      refine PL.pp rfl rfl tk0 (fun _ => ncb rfl ha37) ?_
      refine PL.pp rfl rfl tk0 (fun _ => fa fO_74_1 rfl) ?_
      obtain ⟨h42, h43, H⟩ := H
      refine PL.pp rfl rfl tk0 (fun _ => ixA aO_72 rfl rfl h42 h43) ?_
      obtain ⟨p45, hv44, H⟩ := H
      refine PL.qq rfl rfl tk0 (ld kO_71 rfl hv44) ?_
      have HC := disk_Disk_Image_ok (W := W) H
      refine PL.ee (S' := [(12, .pointer p45)]) (by kernel_rfl) rfl rfl tk0 (cl cO_42 rfl HC) ?_
      rintro _ h47 ⟨s46, rfl, H⟩
      obtain ⟨hs48, H⟩ := H
      refine ⟨(Stay.y (by kernel_rfl) rfl tk0 (ld kO_71 rfl hs48) (Stay.t (by kernel_rfl) Stay.n)), ?_⟩
      have HC := ref2_Disk_Image_ok (W := W) H
      refine PL.ee (S' := []) (by kernel_rfl) rfl rfl tk0 (cl cO_95 rfl HC) ?_
      rintro _ h50 ⟨s49, rfl, H⟩
      refine ⟨(Stay.t (by kernel_rfl) Stay.n), ?_⟩
      have HC := law2_same_ok (W := W) H
      refine PL.ee (S' := []) (by kernel_rfl) rfl rfl tk0 (cl cO_45 rfl HC) ?_
      rintro _ h52 ⟨b51, rfl, H⟩
      refine ⟨Stay.n, ?_⟩
      refine PL.pp rfl rfl tk0 (fun _ => asg rfl) ?_
      refine WQ.next ?_
      refine WPC.ret ?_
      refine WQ.blockR ?_
      refine WQ.thenR ?_
      exact WQ.done (rets1 rfl rfl) ⟨_, rfl, H⟩
    · have H := H.2 hb35
      refine WPC.seq ?_
      refine WPC.region ?_
      refine WPL.q tk0 (bEql rfl rfl) rfl ?_
      refine WPL.q tk0 (asg rfl) rfl ?_
      refine WPL.nil ?_
      refine WQ.next ?_
      refine WPC.cond rfl (fun hb53 => ?_) (fun hb53 => ?_)
      · have H := H.1 hb53
        refine WPC.seq ?_
        refine WPC.draw (al := [0, 0, 1, 5, 15, 31, 63, 0, 0, 128, 640, 1920, 3968, 8191, 16383, 32767]) (p := (.p 0 (.p 1 (.p 2 (.p 3 (.p 4 (.q 5 (.p 7 (.p 8 (.p 9 (.p 10 (.p 11 (.q 12 (.e1 6 (.e1 13 (.p 14 (.p 15 .done))))))))))))))))) mixO (by kernel_rfl) ?_
        refine PL.pp rfl rfl tk0 (fun _ => mv rfl) ?_
        refine PL.pp rfl rfl tk0 (fun _ => mv rfl) ?_
        obtain ⟨a54, ha55, H⟩ := H
        refine PL.pp rfl rfl tk0 (fun _ => ncb rfl ha55) ?_
        refine PL.pp rfl rfl tk0 (fun _ => fa fO_74_0 rfl) ?_
        obtain ⟨h56, h57, H⟩ := H
        refine PL.pp rfl rfl tk0 (fun _ => ixA aO_70 rfl rfl h56 h57) ?_
        obtain ⟨p59, hv58, H⟩ := H
        refine PL.qq rfl rfl tk0 (ld kO_31 rfl hv58) ?_
        refine PL.pp rfl rfl tk0 (fun _ => mv rfl) ?_
        refine PL.pp rfl rfl tk0 (fun _ => mv rfl) ?_
        refine PL.pp rfl rfl tk0 (fun _ => ncb rfl ha55) ?_
        refine PL.pp rfl rfl tk0 (fun _ => fa fO_74_1 rfl) ?_
        obtain ⟨h60, h61, H⟩ := H
        refine PL.pp rfl rfl tk0 (fun _ => ixA aO_72 rfl rfl h60 h61) ?_
        obtain ⟨p63, hv62, H⟩ := H
        refine PL.qq rfl rfl tk0 (ld kO_71 rfl hv62) ?_
        have HC := disk_Disk_Stat_ok (W := W) H
        refine PL.ee (S' := [(12, .pointer p63)]) (by kernel_rfl) rfl rfl tk0 (cl cO_39 rfl HC) ?_
        rintro _ h68 ⟨n64, n65, n66, b67, rfl, H⟩
        obtain ⟨hs69, H⟩ := H
        refine ⟨(Stay.y (by kernel_rfl) rfl tk0 (ld kO_71 rfl hs69) (Stay.t (by kernel_rfl) Stay.n)), ?_⟩
        have HC := ref2_Disk_Stat_ok (W := W) H
        refine PL.ee (S' := []) (by kernel_rfl) rfl rfl tk0 (cl cO_117 rfl HC) ?_
        rintro _ h74 ⟨n70, n71, n72, b73, rfl, H⟩
        refine ⟨(Stay.t (by kernel_rfl) Stay.n), ?_⟩
        refine PL.pp rfl rfl tk0 (fun _ => bEqG (r := ((n64 == n70) && ((n65 == n71) && ((n66 == n72) && ((b67 == b73) && true))))) eO_51 rfl rfl (by kernel_rfl)) ?_
        refine PL.pp rfl rfl tk0 (fun _ => asg rfl) ?_
        refine WQ.next ?_
        refine WPC.ret ?_
        refine WQ.blockR ?_
        refine WQ.thenR ?_
        exact WQ.done (rets1 rfl rfl) ⟨_, rfl, H⟩
      · have H := H.2 hb53
        refine WPC.skip ?_
        refine WQ.blockN ?_
        refine WQ.next ?_
        refine WPC.seq ?_
        refine WPC.draw (al := [0, 0, 1, 5, 15, 31, 63, 0, 0, 128, 640, 1920, 3968, 8191, 16383, 32767]) (p := (.p 0 (.p 1 (.p 2 (.p 3 (.p 4 (.q 5 (.p 7 (.p 8 (.p 9 (.p 10 (.p 11 (.q 12 (.e1 6 (.e1 13 (.p 14 (.p 15 .done))))))))))))))))) mixO (by kernel_rfl) ?_
        refine PL.pp rfl rfl tk0 (fun _ => mv rfl) ?_
        refine PL.pp rfl rfl tk0 (fun _ => mv rfl) ?_
        obtain ⟨a75, ha76, H⟩ := H
        refine PL.pp rfl rfl tk0 (fun _ => ncb rfl ha76) ?_
        refine PL.pp rfl rfl tk0 (fun _ => fa fO_74_0 rfl) ?_
        obtain ⟨h77, h78, H⟩ := H
        refine PL.pp rfl rfl tk0 (fun _ => ixA aO_70 rfl rfl h77 h78) ?_
        obtain ⟨p80, hv79, H⟩ := H
        refine PL.qq rfl rfl tk0 (ld kO_31 rfl hv79) ?_
        refine PL.pp rfl rfl tk0 (fun _ => mv rfl) ?_
        refine PL.pp rfl rfl tk0 (fun _ => mv rfl) ?_
        refine PL.pp rfl rfl tk0 (fun _ => ncb rfl ha76) ?_
        refine PL.pp rfl rfl tk0 (fun _ => fa fO_74_1 rfl) ?_
        obtain ⟨h81, h82, H⟩ := H
        refine PL.pp rfl rfl tk0 (fun _ => ixA aO_72 rfl rfl h81 h82) ?_
        obtain ⟨p84, hv83, H⟩ := H
        refine PL.qq rfl rfl tk0 (ld kO_71 rfl hv83) ?_
        have HC := disk_Disk_Sectors_ok (W := W) H
        refine PL.ee (S' := [(12, .pointer p84)]) (by kernel_rfl) rfl rfl tk0 (cl cO_44 rfl HC) ?_
        rintro _ h86 ⟨n85, rfl, H⟩
        obtain ⟨hs87, H⟩ := H
        refine ⟨(Stay.y (by kernel_rfl) rfl tk0 (ld kO_71 rfl hs87) (Stay.t (by kernel_rfl) Stay.n)), ?_⟩
        have HC := ref2_Disk_Sectors_ok (W := W) H
        refine PL.ee (S' := []) (by kernel_rfl) rfl rfl tk0 (cl cO_130 rfl HC) ?_
        rintro _ h89 ⟨n88, rfl, H⟩
        refine ⟨(Stay.t (by kernel_rfl) Stay.n), ?_⟩
        refine PL.pp rfl rfl tk0 (fun _ => bEql rfl rfl) ?_
        refine PL.pp rfl rfl tk0 (fun _ => asg rfl) ?_
        refine WQ.next ?_
        refine WPC.ret ?_
        exact WQ.done (rets1 rfl rfl) ⟨_, rfl, H⟩

/-- (*trellis/trellislaw2.Two).step -/
def law2_Two_step (t1 : Option Addr) (n2 : Int) (n3 : Int) (n4 : Int) (s5 : Sl) (s6 : Sl) (K : Bool → Hp → Prop) (h : Hp) : Prop :=
  ∃ (b7 : Nat) (h8 : Hp), b7 = h.size ∧ h8 = h.push (Cel [.int .i64 n2, .int .i64 n3, .int .i64 n4, s5.v, s6.v] 59) ∧ ∃ n12 : Int, rdc h8 ((nA b7).add 1) = some (.int .i64 n12) ∧ ∃ n13 : Int, n13 = IntKind.i64.wrap ((BitVec.ofInt (IntKind.bits .i64) n12 &&& BitVec.ofInt (IntKind.bits .i64) 1).toNat : Int) ∧ ∃ n16 : Int, rdc h8 ((nA b7).add 0) = some (.int .i64 n16) ∧ ∃ k18 : Bool → Hp → Prop, (∀ (b17 : Bool) (h21 : Hp), k18 b17 h21 → ((b17 = true → (∃ (n25 : Int) (n26 : Int) (n27 : Int) (s28 : Sl) (s29 : Sl), RdL h21 (nA b7) [.int .i64 n25, .int .i64 n26, .int .i64 n27, s28.v, s29.v] ∧ law2_Two_makes t1 n25 n26 n27 s28 s29 (fun b30 h31 => K b30 h31) h21)) ∧ (b17 = false → (((n16 == 4) = true → (∃ a33 : Addr, t1 = some a33 ∧ 0 ≤ n13 ∧ n13 < (2 : Nat) ∧ ∃ p38 : Option Addr, rdc h21 ((a33.add 0).add (Int.toNat n13 * 1)) = some (.pointer p38) ∧ ∃ n40 : Int, rdc h21 ((nA b7).add 2) = some (.int .i64 n40) ∧ disk_Disk_Read p38 n40 (fun s41 n42 h43 => 0 ≤ n13 ∧ n13 < (2 : Nat) ∧ ∃ p47 : Option Addr, rdc h43 ((a33.add 2).add (Int.toNat n13 * 1)) = some (.pointer p47) ∧ ∃ n49 : Int, rdc h43 ((nA b7).add 2) = some (.int .i64 n49) ∧ ref2_Disk_Read p47 n49 (fun s50 n51 h52 => ((n42 == n51) = true → (law2_same s41 s50 (fun b54 h55 => K b54 h55) h52)) ∧ ((n42 == n51) = false → (K false h52))) h43) h21)) ∧ ((n16 == 4) = false → (((n16 == 5) = true → (∃ a57 : Addr, t1 = some a57 ∧ 0 ≤ n13 ∧ n13 < (2 : Nat) ∧ ∃ p62 : Option Addr, rdc h21 ((a57.add 0).add (Int.toNat n13 * 1)) = some (.pointer p62) ∧ ∃ n64 : Int, rdc h21 ((nA b7).add 2) = some (.int .i64 n64) ∧ ∃ s66 : Sl, rdc h21 ((nA b7).add 3) = some (s66.v) ∧ ref2_Same s66 (fun s67 h68 => rdc h68 ((nA b7).add 2) = some (.int .i64 n64) ∧ rdc h68 ((a57.add 0).add (Int.toNat n13 * 1)) = some (.pointer p62) ∧ disk_Disk_Write p62 n64 s67 (fun n71 h72 => 0 ≤ n13 ∧ n13 < (2 : Nat) ∧ ∃ p76 : Option Addr, rdc h72 ((a57.add 2).add (Int.toNat n13 * 1)) = some (.pointer p76) ∧ ∃ n78 : Int, rdc h72 ((nA b7).add 2) = some (.int .i64 n78) ∧ ∃ s80 : Sl, rdc h72 ((nA b7).add 3) = some (s80.v) ∧ ref2_Disk_Write p76 n78 s80 (fun n81 h82 => K (n71 == n81) h82) h72) h68) h21)) ∧ ((n16 == 5) = false → (((n16 == 6) = true → (∃ a84 : Addr, t1 = some a84 ∧ 0 ≤ n13 ∧ n13 < (2 : Nat) ∧ ∃ p89 : Option Addr, rdc h21 ((a84.add 0).add (Int.toNat n13 * 1)) = some (.pointer p89) ∧ disk_Disk_Flush p89 (fun n90 h91 => 0 ≤ n13 ∧ n13 < (2 : Nat) ∧ ∃ p95 : Option Addr, rdc h91 ((a84.add 2).add (Int.toNat n13 * 1)) = some (.pointer p95) ∧ ref2_Disk_Flush p95 (fun n96 h97 => K (n90 == n96) h97) h91) h21)) ∧ ((n16 == 6) = false → (((n16 == 7) = true → (∃ a99 : Addr, t1 = some a99 ∧ 0 ≤ n13 ∧ n13 < (2 : Nat) ∧ ∃ p104 : Option Addr, rdc h21 ((a99.add 0).add (Int.toNat n13 * 1)) = some (.pointer p104) ∧ ∃ n106 : Int, rdc h21 ((nA b7).add 2) = some (.int .i64 n106) ∧ disk_Disk_Cut p104 n106 (fun n107 h108 => 0 ≤ n13 ∧ n13 < (2 : Nat) ∧ ∃ p112 : Option Addr, rdc h108 ((a99.add 2).add (Int.toNat n13 * 1)) = some (.pointer p112) ∧ ∃ n114 : Int, rdc h108 ((nA b7).add 2) = some (.int .i64 n114) ∧ ref2_Disk_Cut p112 n114 (fun n115 h116 => K (n107 == n115) h116) h108) h21)) ∧ ((n16 == 7) = false → (((n16 == 8) = true → (∃ a118 : Addr, t1 = some a118 ∧ 0 ≤ n13 ∧ n13 < (2 : Nat) ∧ ∃ p123 : Option Addr, rdc h21 ((a118.add 0).add (Int.toNat n13 * 1)) = some (.pointer p123) ∧ ∃ s125 : Sl, rdc h21 ((nA b7).add 4) = some (s125.v) ∧ App h21 Sl.nil s125 1 1 4 [.bool false] (fun s126 h127 => rdc h127 ((a118.add 0).add (Int.toNat n13 * 1)) = some (.pointer p123) ∧ disk_Disk_Crash p123 s126 (fun n129 n130 h131 => 0 ≤ n13 ∧ n13 < (2 : Nat) ∧ ∃ p135 : Option Addr, rdc h131 ((a118.add 2).add (Int.toNat n13 * 1)) = some (.pointer p135) ∧ ∃ s137 : Sl, rdc h131 ((nA b7).add 4) = some (s137.v) ∧ ref2_Disk_Crash p135 s137 (fun n138 n139 h140 => ((n129 == n138) = true → (K (n130 == n139) h140)) ∧ ((n129 == n138) = false → (K false h140))) h131) h127))) ∧ ((n16 == 8) = false → (∃ k143 : Bool → Hp → Prop, (∀ (b142 : Bool) (h146 : Hp), k143 b142 h146 → ((b142 = true → (∃ (n150 : Int) (n151 : Int) (n152 : Int) (s153 : Sl) (s154 : Sl), RdL h146 (nA b7) [.int .i64 n150, .int .i64 n151, .int .i64 n152, s153.v, s154.v] ∧ law2_Two_tells t1 n150 n151 n152 s153 s154 (fun b155 h156 => K b155 h156) h146)) ∧ (b142 = false → (K true h146)))) ∧ (((n16 == 9) = true → (k143 (n16 == 9) h21)) ∧ ((n16 == 9) = false → (((n16 == 10) = true → (k143 (n16 == 10) h21)) ∧ ((n16 == 10) = false → (((n16 == 11) = true → (k143 (n16 == 11) h21)) ∧ ((n16 == 11) = false → (k143 (n16 == 3) h21))))))))))))))))))))) ∧ (((n16 == 1) = true → (k18 (n16 == 1) h8)) ∧ ((n16 == 1) = false → (k18 (n16 == 2) h8)))

theorem law2_Two_step_ok {W : World} {h : Hp} {t1 : Option Addr} {n2 : Int} {n3 : Int} {n4 : Int} {s5 : Sl} {s6 : Sl} {K : Bool → Hp → Prop} (H : law2_Two_step t1 n2 n3 n4 s5 s6 K h) :
    CallsH Try.prog 51 (List.toArray [.pointer t1, .agg (List.toArray [.int .i64 n2, .int .i64 n3, .int .i64 n4, s5.v, s6.v])]) W h (fun v h' => ∃ (b1 : Bool), v = .bool b1 ∧ K b1 h') := by
  unfold law2_Two_step at H
  refine CallsH.intro (fn := Try.f51) (N := 178) (e := aE 0 [.pointer t1, .agg (List.toArray [.int .i64 n2, .int .i64 n3, .int .i64 n4, s5.v, s6.v])]) Try.func51 rfl rfl (aE_spec _) rfl ?_
  refine WPC.seq ?_
  refine WPC.region ?_
  obtain ⟨b7, h8, hb9, hh10, H⟩ := H
  refine WPL.f tk0 (bxN (l := [.int .i64 n2, .int .i64 n3, .int .i64 n4, s5.v, s6.v]) rfl rfl hb9 hh10) rfl ?_
  refine WPL.q tk0 (asg rfl) rfl ?_
  refine WPL.nil ?_
  refine WQ.next ?_
  refine WPC.seq ?_
  refine WPC.region ?_
  refine WPL.q tk0 (fa fO_59_1 rfl) rfl ?_
  obtain ⟨n12, hv11, H⟩ := H
  refine WPL.q tk0 (ld kO_3 rfl hv11) rfl ?_
  obtain ⟨n13, hn14, H⟩ := H
  refine WPL.q tk0 (bAnd rfl rfl hn14) rfl ?_
  refine WPL.q tk0 (asg rfl) rfl ?_
  refine WPL.nil ?_
  refine WQ.next ?_
  refine WPC.seq ?_
  refine WPC.seq ?_
  refine WPC.region ?_
  refine WPL.q tk0 (fa fO_59_0 rfl) rfl ?_
  obtain ⟨n16, hv15, H⟩ := H
  refine WPL.q tk0 (ld kO_3 rfl hv15) rfl ?_
  refine WPL.nil ?_
  refine WQ.next ?_
  refine WPC.block ?_
  refine WPC.seq ?_
  refine WPC.seq ?_
  refine WPC.region ?_
  refine WPL.q tk0 (bEql rfl rfl) rfl ?_
  refine WPL.q tk0 (asg rfl) rfl ?_
  refine WPL.nil ?_
  refine WQ.next ?_
  obtain ⟨k18, hk20, H⟩ := H
  refine WPC.join (fun e h => ∃ (b17 : Bool), e = [(0, .pointer t1), (3, .pointer (some (nA b7))), (5, .int .i64 n13), (24, .int .i64 n16), (25, .bool b17)] ∧ k18 b17 h) ?_ (fun hj19 => ?_)
  · rintro _ h21 ⟨b17, rfl, HK22⟩
    have H := hk20 b17 h21 HK22
    refine WQ.next ?_
    refine WPC.cond rfl (fun hb23 => ?_) (fun hb23 => ?_)
    · have H := H.1 hb23
      refine WPC.seq ?_
      refine WPC.region ?_
      refine WPL.q tk0 (mv rfl) rfl ?_
      obtain ⟨n25, n26, n27, s28, s29, hv24, H⟩ := H
      refine WPL.q tk0 (ldA kO_59 rfl rfl hv24) rfl ?_
      have HC := law2_Two_makes_ok (W := W) H
      refine WPL.eff tk0 (cl cO_101 rfl HC) rfl ?_
      rintro _ h31 ⟨b30, rfl, H⟩
      refine WPL.q tk0 (asg rfl) rfl ?_
      refine WPL.nil ?_
      refine WQ.next ?_
      refine WPC.ret ?_
      refine WQ.blockR ?_
      refine WQ.thenR ?_
      exact WQ.done (rets1 rfl rfl) ⟨_, rfl, H⟩
    · have H := H.2 hb23
      refine WPC.seq ?_
      refine WPC.region ?_
      refine WPL.q tk0 (bEql rfl rfl) rfl ?_
      refine WPL.q tk0 (asg rfl) rfl ?_
      refine WPL.nil ?_
      refine WQ.next ?_
      refine WPC.cond rfl (fun hb32 => ?_) (fun hb32 => ?_)
      · have H := H.1 hb32
        refine WPC.seq ?_
        refine WPC.draw (al := [0, 0, 1, 5, 15, 31, 0, 64, 255, 511, 1023, 1023, 2047, 8191]) (p := (.p 0 (.p 1 (.p 2 (.p 3 (.p 4 (.q 5 (.p 6 (.q 7 (.e1 8 (.p 9 (.p 10 (.p 11 (.p 12 (.p 13 .done))))))))))))))) mixO (by kernel_rfl) ?_
        refine PL.pp rfl rfl tk0 (fun _ => mv rfl) ?_
        refine PL.pp rfl rfl tk0 (fun _ => mv rfl) ?_
        obtain ⟨a33, ha34, H⟩ := H
        refine PL.pp rfl rfl tk0 (fun _ => ncb rfl ha34) ?_
        refine PL.pp rfl rfl tk0 (fun _ => fa fO_74_0 rfl) ?_
        obtain ⟨h35, h36, H⟩ := H
        refine PL.pp rfl rfl tk0 (fun _ => ixA aO_70 rfl rfl h35 h36) ?_
        obtain ⟨p38, hv37, H⟩ := H
        refine PL.qq rfl rfl tk0 (ld kO_31 rfl hv37) ?_
        refine PL.pp rfl rfl tk0 (fun _ => fa fO_59_2 rfl) ?_
        obtain ⟨n40, hv39, H⟩ := H
        refine PL.qq rfl rfl tk0 (ld kO_3 rfl hv39) ?_
        have HC := disk_Disk_Read_ok (W := W) H
        refine PL.ee (S' := []) (by kernel_rfl) rfl rfl tk0 (cl cO_38 rfl HC) ?_
        rintro _ h43 ⟨s41, n42, rfl, H⟩
        refine ⟨(Stay.t (by kernel_rfl) (Stay.t (by kernel_rfl) Stay.n)), ?_⟩
        refine PL.pp rfl rfl tk0 (fun _ => mv rfl) ?_
        refine PL.pp rfl rfl tk0 (fun _ => ext rfl rfl) ?_
        refine PL.pp rfl rfl tk0 (fun _ => ext rfl rfl) ?_
        refine PL.pp rfl rfl tk0 (fun _ => asg rfl) ?_
        refine PL.pp rfl rfl tk0 (fun _ => asg rfl) ?_
        refine WQ.next ?_
        refine WPC.seq ?_
        refine WPC.draw (al := [0, 0, 1, 5, 15, 31, 0, 64, 255, 511, 1023, 1023, 2047, 8191]) (p := (.p 0 (.p 1 (.p 2 (.p 3 (.p 4 (.q 5 (.p 6 (.q 7 (.e1 8 (.p 9 (.p 10 (.p 11 (.p 12 (.p 13 .done))))))))))))))) mixO (by kernel_rfl) ?_
        refine PL.pp rfl rfl tk0 (fun _ => mv rfl) ?_
        refine PL.pp rfl rfl tk0 (fun _ => mv rfl) ?_
        refine PL.pp rfl rfl tk0 (fun _ => ncb rfl ha34) ?_
        refine PL.pp rfl rfl tk0 (fun _ => fa fO_74_1 rfl) ?_
        obtain ⟨h44, h45, H⟩ := H
        refine PL.pp rfl rfl tk0 (fun _ => ixA aO_72 rfl rfl h44 h45) ?_
        obtain ⟨p47, hv46, H⟩ := H
        refine PL.qq rfl rfl tk0 (ld kO_71 rfl hv46) ?_
        refine PL.pp rfl rfl tk0 (fun _ => fa fO_59_2 rfl) ?_
        obtain ⟨n49, hv48, H⟩ := H
        refine PL.qq rfl rfl tk0 (ld kO_3 rfl hv48) ?_
        have HC := ref2_Disk_Read_ok (W := W) H
        refine PL.ee (S' := []) (by kernel_rfl) rfl rfl tk0 (cl cO_93 rfl HC) ?_
        rintro _ h52 ⟨s50, n51, rfl, H⟩
        refine ⟨(Stay.t (by kernel_rfl) (Stay.t (by kernel_rfl) Stay.n)), ?_⟩
        refine PL.pp rfl rfl tk0 (fun _ => mv rfl) ?_
        refine PL.pp rfl rfl tk0 (fun _ => ext rfl rfl) ?_
        refine PL.pp rfl rfl tk0 (fun _ => ext rfl rfl) ?_
        refine PL.pp rfl rfl tk0 (fun _ => asg rfl) ?_
        refine PL.pp rfl rfl tk0 (fun _ => asg rfl) ?_
        refine WQ.next ?_
        refine WPC.seq ?_
        refine WPC.region ?_
        refine WPL.q tk0 (mv rfl) rfl ?_
        refine WPL.q tk0 (mv rfl) rfl ?_
        refine WPL.q tk0 (bEql rfl rfl) rfl ?_
        refine WPL.q tk0 (mv rfl) rfl ?_
        rcases Bool.eq_false_or_eq_true ((n42 == n51)) with hb53 | hb53
        · have H := H.1 hb53
          refine WPL.q (tkb rfl rfl hb53) (mv rfl) rfl ?_
          refine WPL.q (tkb rfl rfl hb53) (mv rfl) rfl ?_
          have HC := law2_same_ok (W := W) H
          refine WPL.eff (tkb rfl rfl hb53) (cl cO_45 rfl HC) rfl ?_
          rintro _ h55 ⟨b54, rfl, H⟩
          refine WPL.q tk0 (pkTb rfl hb53 rfl) rfl ?_
          refine WPL.q tk0 (asg rfl) rfl ?_
          refine WPL.nil ?_
          refine WQ.next ?_
          refine WPC.ret ?_
          refine WQ.blockR ?_
          refine WQ.thenR ?_
          exact WQ.done (rets1 rfl rfl) ⟨_, rfl, H⟩
        · have H := H.2 hb53
          refine WPL.skip (ntkb rfl rfl hb53) rfl ?_
          refine WPL.skip (ntkb rfl rfl hb53) rfl ?_
          refine WPL.skip (ntkb rfl rfl hb53) rfl ?_
          refine WPL.q tk0 (pkFb rfl hb53 rfl) rfl ?_
          refine WPL.q tk0 (asg rfl) rfl ?_
          refine WPL.nil ?_
          refine WQ.next ?_
          refine WPC.ret ?_
          refine WQ.blockR ?_
          refine WQ.thenR ?_
          exact WQ.done (rets1 rfl rfl) ⟨_, rfl, H⟩
      · have H := H.2 hb32
        refine WPC.seq ?_
        refine WPC.region ?_
        refine WPL.q tk0 (bEql rfl rfl) rfl ?_
        refine WPL.q tk0 (asg rfl) rfl ?_
        refine WPL.nil ?_
        refine WQ.next ?_
        refine WPC.cond rfl (fun hb56 => ?_) (fun hb56 => ?_)
        · have H := H.1 hb56
          refine WPC.seq ?_
          refine WPC.draw (al := [0, 0, 1, 5, 15, 31, 0, 64, 0, 256, 768, 2047, 4095]) (p := (.p 0 (.p 1 (.p 2 (.p 3 (.p 4 (.q 5 (.p 6 (.q 7 (.p 8 (.q 9 (.e1 10 (.e1 11 (.p 12 .done)))))))))))))) mixO (by kernel_rfl) ?_
          refine PL.pp rfl rfl tk0 (fun _ => mv rfl) ?_
          refine PL.pp rfl rfl tk0 (fun _ => mv rfl) ?_
          obtain ⟨a57, ha58, H⟩ := H
          refine PL.pp rfl rfl tk0 (fun _ => ncb rfl ha58) ?_
          refine PL.pp rfl rfl tk0 (fun _ => fa fO_74_0 rfl) ?_
          obtain ⟨h59, h60, H⟩ := H
          refine PL.pp rfl rfl tk0 (fun _ => ixA aO_70 rfl rfl h59 h60) ?_
          obtain ⟨p62, hv61, H⟩ := H
          refine PL.qq rfl rfl tk0 (ld kO_31 rfl hv61) ?_
          refine PL.pp rfl rfl tk0 (fun _ => fa fO_59_2 rfl) ?_
          obtain ⟨n64, hv63, H⟩ := H
          refine PL.qq rfl rfl tk0 (ld kO_3 rfl hv63) ?_
          refine PL.pp rfl rfl tk0 (fun _ => fa fO_59_3 rfl) ?_
          obtain ⟨s66, hv65, H⟩ := H
          refine PL.qq rfl rfl tk0 (ld kO_24 rfl hv65) ?_
          have HC := ref2_Same_ok (W := W) H
          refine PL.ee (S' := [(7, .int .i64 n64), (5, .pointer p62)]) (by kernel_rfl) rfl rfl tk0 (cl cO_102 rfl HC) ?_
          rintro _ h68 ⟨s67, rfl, H⟩
          obtain ⟨hs69, hs70, H⟩ := H
          refine ⟨(Stay.t (by kernel_rfl) (Stay.y (by kernel_rfl) rfl tk0 (ld kO_3 rfl hs69) (Stay.y (by kernel_rfl) rfl tk0 (ld kO_31 rfl hs70) Stay.n))), ?_⟩
          have HC := disk_Disk_Write_ok (W := W) H
          refine PL.ee (S' := []) (by kernel_rfl) rfl rfl tk0 (cl cO_36 rfl HC) ?_
          rintro _ h72 ⟨n71, rfl, H⟩
          refine ⟨(Stay.t (by kernel_rfl) (Stay.t (by kernel_rfl) Stay.n)), ?_⟩
          refine PL.pp rfl rfl tk0 (fun _ => asg rfl) ?_
          refine WQ.next ?_
          refine WPC.seq ?_
          refine WPC.draw (al := [0, 0, 1, 5, 15, 31, 0, 64, 0, 256, 1023, 2047]) (p := (.p 0 (.p 1 (.p 2 (.p 3 (.p 4 (.q 5 (.p 6 (.q 7 (.p 8 (.q 9 (.e1 10 (.p 11 .done))))))))))))) mixO (by kernel_rfl) ?_
          refine PL.pp rfl rfl tk0 (fun _ => mv rfl) ?_
          refine PL.pp rfl rfl tk0 (fun _ => mv rfl) ?_
          refine PL.pp rfl rfl tk0 (fun _ => ncb rfl ha58) ?_
          refine PL.pp rfl rfl tk0 (fun _ => fa fO_74_1 rfl) ?_
          obtain ⟨h73, h74, H⟩ := H
          refine PL.pp rfl rfl tk0 (fun _ => ixA aO_72 rfl rfl h73 h74) ?_
          obtain ⟨p76, hv75, H⟩ := H
          refine PL.qq rfl rfl tk0 (ld kO_71 rfl hv75) ?_
          refine PL.pp rfl rfl tk0 (fun _ => fa fO_59_2 rfl) ?_
          obtain ⟨n78, hv77, H⟩ := H
          refine PL.qq rfl rfl tk0 (ld kO_3 rfl hv77) ?_
          refine PL.pp rfl rfl tk0 (fun _ => fa fO_59_3 rfl) ?_
          obtain ⟨s80, hv79, H⟩ := H
          refine PL.qq rfl rfl tk0 (ld kO_24 rfl hv79) ?_
          have HC := ref2_Disk_Write_ok (W := W) H
          refine PL.ee (S' := []) (by kernel_rfl) rfl rfl tk0 (cl cO_103 rfl HC) ?_
          rintro _ h82 ⟨n81, rfl, H⟩
          refine ⟨(Stay.t (by kernel_rfl) (Stay.t (by kernel_rfl) (Stay.t (by kernel_rfl) Stay.n))), ?_⟩
          refine PL.pp rfl rfl tk0 (fun _ => asg rfl) ?_
          refine WQ.next ?_
          refine WPC.seq ?_
          refine WPC.region ?_
          refine WPL.q tk0 (mv rfl) rfl ?_
          refine WPL.q tk0 (mv rfl) rfl ?_
          refine WPL.q tk0 (bEql rfl rfl) rfl ?_
          refine WPL.q tk0 (asg rfl) rfl ?_
          refine WPL.nil ?_
          refine WQ.next ?_
          refine WPC.ret ?_
          refine WQ.blockR ?_
          refine WQ.thenR ?_
          exact WQ.done (rets1 rfl rfl) ⟨_, rfl, H⟩
        · have H := H.2 hb56
          refine WPC.seq ?_
          refine WPC.region ?_
          refine WPL.q tk0 (bEql rfl rfl) rfl ?_
          refine WPL.q tk0 (asg rfl) rfl ?_
          refine WPL.nil ?_
          refine WQ.next ?_
          refine WPC.cond rfl (fun hb83 => ?_) (fun hb83 => ?_)
          · have H := H.1 hb83
            refine WPC.seq ?_
            refine WPC.region ?_
            refine WPL.q tk0 (mv rfl) rfl ?_
            refine WPL.q tk0 (mv rfl) rfl ?_
            obtain ⟨a84, ha85, H⟩ := H
            refine WPL.q tk0 (ncb rfl ha85) rfl ?_
            refine WPL.q tk0 (fa fO_74_0 rfl) rfl ?_
            obtain ⟨h86, h87, H⟩ := H
            refine WPL.q tk0 (ixA aO_70 rfl rfl h86 h87) rfl ?_
            obtain ⟨p89, hv88, H⟩ := H
            refine WPL.q tk0 (ld kO_31 rfl hv88) rfl ?_
            have HC := disk_Disk_Flush_ok (W := W) H
            refine WPL.eff tk0 (cl cO_35 rfl HC) rfl ?_
            rintro _ h91 ⟨n90, rfl, H⟩
            refine WPL.q tk0 (asg rfl) rfl ?_
            refine WPL.nil ?_
            refine WQ.next ?_
            refine WPC.seq ?_
            refine WPC.region ?_
            refine WPL.q tk0 (mv rfl) rfl ?_
            refine WPL.q tk0 (mv rfl) rfl ?_
            refine WPL.q tk0 (ncb rfl ha85) rfl ?_
            refine WPL.q tk0 (fa fO_74_1 rfl) rfl ?_
            obtain ⟨h92, h93, H⟩ := H
            refine WPL.q tk0 (ixA aO_72 rfl rfl h92 h93) rfl ?_
            obtain ⟨p95, hv94, H⟩ := H
            refine WPL.q tk0 (ld kO_71 rfl hv94) rfl ?_
            have HC := ref2_Disk_Flush_ok (W := W) H
            refine WPL.eff tk0 (cl cO_104 rfl HC) rfl ?_
            rintro _ h97 ⟨n96, rfl, H⟩
            refine WPL.q tk0 (asg rfl) rfl ?_
            refine WPL.nil ?_
            refine WQ.next ?_
            refine WPC.seq ?_
            refine WPC.region ?_
            refine WPL.q tk0 (mv rfl) rfl ?_
            refine WPL.q tk0 (mv rfl) rfl ?_
            refine WPL.q tk0 (bEql rfl rfl) rfl ?_
            refine WPL.q tk0 (asg rfl) rfl ?_
            refine WPL.nil ?_
            refine WQ.next ?_
            refine WPC.ret ?_
            refine WQ.blockR ?_
            refine WQ.thenR ?_
            exact WQ.done (rets1 rfl rfl) ⟨_, rfl, H⟩
          · have H := H.2 hb83
            refine WPC.seq ?_
            refine WPC.region ?_
            refine WPL.q tk0 (bEql rfl rfl) rfl ?_
            refine WPL.q tk0 (asg rfl) rfl ?_
            refine WPL.nil ?_
            refine WQ.next ?_
            refine WPC.cond rfl (fun hb98 => ?_) (fun hb98 => ?_)
            · have H := H.1 hb98
              refine WPC.seq ?_
              refine WPC.draw (al := [0, 0, 1, 5, 15, 31, 0, 64, 255, 511]) (p := (.p 0 (.p 1 (.p 2 (.p 3 (.p 4 (.q 5 (.p 6 (.q 7 (.e1 8 (.p 9 .done))))))))))) mixO (by kernel_rfl) ?_
              refine PL.pp rfl rfl tk0 (fun _ => mv rfl) ?_
              refine PL.pp rfl rfl tk0 (fun _ => mv rfl) ?_
              obtain ⟨a99, ha100, H⟩ := H
              refine PL.pp rfl rfl tk0 (fun _ => ncb rfl ha100) ?_
              refine PL.pp rfl rfl tk0 (fun _ => fa fO_74_0 rfl) ?_
              obtain ⟨h101, h102, H⟩ := H
              refine PL.pp rfl rfl tk0 (fun _ => ixA aO_70 rfl rfl h101 h102) ?_
              obtain ⟨p104, hv103, H⟩ := H
              refine PL.qq rfl rfl tk0 (ld kO_31 rfl hv103) ?_
              refine PL.pp rfl rfl tk0 (fun _ => fa fO_59_2 rfl) ?_
              obtain ⟨n106, hv105, H⟩ := H
              refine PL.qq rfl rfl tk0 (ld kO_3 rfl hv105) ?_
              have HC := disk_Disk_Cut_ok (W := W) H
              refine PL.ee (S' := []) (by kernel_rfl) rfl rfl tk0 (cl cO_34 rfl HC) ?_
              rintro _ h108 ⟨n107, rfl, H⟩
              refine ⟨(Stay.t (by kernel_rfl) (Stay.t (by kernel_rfl) Stay.n)), ?_⟩
              refine PL.pp rfl rfl tk0 (fun _ => asg rfl) ?_
              refine WQ.next ?_
              refine WPC.seq ?_
              refine WPC.draw (al := [0, 0, 1, 5, 15, 31, 0, 64, 255, 511]) (p := (.p 0 (.p 1 (.p 2 (.p 3 (.p 4 (.q 5 (.p 6 (.q 7 (.e1 8 (.p 9 .done))))))))))) mixO (by kernel_rfl) ?_
              refine PL.pp rfl rfl tk0 (fun _ => mv rfl) ?_
              refine PL.pp rfl rfl tk0 (fun _ => mv rfl) ?_
              refine PL.pp rfl rfl tk0 (fun _ => ncb rfl ha100) ?_
              refine PL.pp rfl rfl tk0 (fun _ => fa fO_74_1 rfl) ?_
              obtain ⟨h109, h110, H⟩ := H
              refine PL.pp rfl rfl tk0 (fun _ => ixA aO_72 rfl rfl h109 h110) ?_
              obtain ⟨p112, hv111, H⟩ := H
              refine PL.qq rfl rfl tk0 (ld kO_71 rfl hv111) ?_
              refine PL.pp rfl rfl tk0 (fun _ => fa fO_59_2 rfl) ?_
              obtain ⟨n114, hv113, H⟩ := H
              refine PL.qq rfl rfl tk0 (ld kO_3 rfl hv113) ?_
              have HC := ref2_Disk_Cut_ok (W := W) H
              refine PL.ee (S' := []) (by kernel_rfl) rfl rfl tk0 (cl cO_54 rfl HC) ?_
              rintro _ h116 ⟨n115, rfl, H⟩
              refine ⟨(Stay.t (by kernel_rfl) (Stay.t (by kernel_rfl) Stay.n)), ?_⟩
              refine PL.pp rfl rfl tk0 (fun _ => asg rfl) ?_
              refine WQ.next ?_
              refine WPC.seq ?_
              refine WPC.region ?_
              refine WPL.q tk0 (mv rfl) rfl ?_
              refine WPL.q tk0 (mv rfl) rfl ?_
              refine WPL.q tk0 (bEql rfl rfl) rfl ?_
              refine WPL.q tk0 (asg rfl) rfl ?_
              refine WPL.nil ?_
              refine WQ.next ?_
              refine WPC.ret ?_
              refine WQ.blockR ?_
              refine WQ.thenR ?_
              exact WQ.done (rets1 rfl rfl) ⟨_, rfl, H⟩
            · have H := H.2 hb98
              refine WPC.seq ?_
              refine WPC.region ?_
              refine WPL.q tk0 (bEql rfl rfl) rfl ?_
              refine WPL.q tk0 (asg rfl) rfl ?_
              refine WPL.nil ?_
              refine WQ.next ?_
              refine WPC.cond rfl (fun hb117 => ?_) (fun hb117 => ?_)
              · have H := H.1 hb117
                refine WPC.seq ?_
                refine WPC.draw (al := [0, 0, 1, 5, 15, 31, 0, 64, 192, 511, 1023, 2047, 2047, 4095, 16383]) (p := (.p 0 (.p 1 (.p 2 (.p 3 (.p 4 (.q 5 (.p 6 (.q 7 (.e1 8 (.e1 9 (.p 10 (.p 11 (.p 12 (.p 13 (.p 14 .done)))))))))))))))) mixO (by kernel_rfl) ?_
                refine PL.pp rfl rfl tk0 (fun _ => mv rfl) ?_
                refine PL.pp rfl rfl tk0 (fun _ => mv rfl) ?_
                obtain ⟨a118, ha119, H⟩ := H
                refine PL.pp rfl rfl tk0 (fun _ => ncb rfl ha119) ?_
                refine PL.pp rfl rfl tk0 (fun _ => fa fO_74_0 rfl) ?_
                obtain ⟨h120, h121, H⟩ := H
                refine PL.pp rfl rfl tk0 (fun _ => ixA aO_70 rfl rfl h120 h121) ?_
                obtain ⟨p123, hv122, H⟩ := H
                refine PL.qq rfl rfl tk0 (ld kO_31 rfl hv122) ?_
                refine PL.pp rfl rfl tk0 (fun _ => fa fO_59_4 rfl) ?_
                obtain ⟨s125, hv124, H⟩ := H
                refine PL.qq rfl rfl tk0 (ld kO_30 rfl hv124) ?_
                refine PL.ee (S' := [(5, .pointer p123)]) (by kernel_rfl) rfl rfl tk0 (app (rt := 0) sO_30 zO_4 rfl (by decide) rfl rfl H) ?_
                rintro _ h127 ⟨s126, rfl, H⟩
                obtain ⟨hs128, H⟩ := H
                refine ⟨(Stay.t (by kernel_rfl) (Stay.y (by kernel_rfl) rfl tk0 (ld kO_31 rfl hs128) Stay.n)), ?_⟩
                have HC := disk_Disk_Crash_ok (W := W) H
                refine PL.ee (S' := []) (by kernel_rfl) rfl rfl tk0 (cl cO_40 rfl HC) ?_
                rintro _ h131 ⟨n129, n130, rfl, H⟩
                refine ⟨(Stay.t (by kernel_rfl) Stay.n), ?_⟩
                refine PL.pp rfl rfl tk0 (fun _ => mv rfl) ?_
                refine PL.pp rfl rfl tk0 (fun _ => ext rfl rfl) ?_
                refine PL.pp rfl rfl tk0 (fun _ => ext rfl rfl) ?_
                refine PL.pp rfl rfl tk0 (fun _ => asg rfl) ?_
                refine PL.pp rfl rfl tk0 (fun _ => asg rfl) ?_
                refine WQ.next ?_
                refine WPC.seq ?_
                refine WPC.draw (al := [0, 0, 1, 5, 15, 31, 0, 64, 255, 511, 1023, 1023, 2047, 8191]) (p := (.p 0 (.p 1 (.p 2 (.p 3 (.p 4 (.q 5 (.p 6 (.q 7 (.e1 8 (.p 9 (.p 10 (.p 11 (.p 12 (.p 13 .done))))))))))))))) mixO (by kernel_rfl) ?_
                refine PL.pp rfl rfl tk0 (fun _ => mv rfl) ?_
                refine PL.pp rfl rfl tk0 (fun _ => mv rfl) ?_
                refine PL.pp rfl rfl tk0 (fun _ => ncb rfl ha119) ?_
                refine PL.pp rfl rfl tk0 (fun _ => fa fO_74_1 rfl) ?_
                obtain ⟨h132, h133, H⟩ := H
                refine PL.pp rfl rfl tk0 (fun _ => ixA aO_72 rfl rfl h132 h133) ?_
                obtain ⟨p135, hv134, H⟩ := H
                refine PL.qq rfl rfl tk0 (ld kO_71 rfl hv134) ?_
                refine PL.pp rfl rfl tk0 (fun _ => fa fO_59_4 rfl) ?_
                obtain ⟨s137, hv136, H⟩ := H
                refine PL.qq rfl rfl tk0 (ld kO_30 rfl hv136) ?_
                have HC := ref2_Disk_Crash_ok (W := W) H
                refine PL.ee (S' := []) (by kernel_rfl) rfl rfl tk0 (cl cO_56 rfl HC) ?_
                rintro _ h140 ⟨n138, n139, rfl, H⟩
                refine ⟨(Stay.t (by kernel_rfl) (Stay.t (by kernel_rfl) Stay.n)), ?_⟩
                refine PL.pp rfl rfl tk0 (fun _ => mv rfl) ?_
                refine PL.pp rfl rfl tk0 (fun _ => ext rfl rfl) ?_
                refine PL.pp rfl rfl tk0 (fun _ => ext rfl rfl) ?_
                refine PL.pp rfl rfl tk0 (fun _ => asg rfl) ?_
                refine PL.pp rfl rfl tk0 (fun _ => asg rfl) ?_
                refine WQ.next ?_
                refine WPC.seq ?_
                refine WPC.region ?_
                refine WPL.q tk0 (mv rfl) rfl ?_
                refine WPL.q tk0 (mv rfl) rfl ?_
                refine WPL.q tk0 (bEql rfl rfl) rfl ?_
                refine WPL.q tk0 (mv rfl) rfl ?_
                rcases Bool.eq_false_or_eq_true ((n129 == n138)) with hb141 | hb141
                · have H := H.1 hb141
                  refine WPL.q (tkb rfl rfl hb141) (mv rfl) rfl ?_
                  refine WPL.q (tkb rfl rfl hb141) (mv rfl) rfl ?_
                  refine WPL.q (tkb rfl rfl hb141) (bEql rfl rfl) rfl ?_
                  refine WPL.q tk0 (pkTb rfl hb141 rfl) rfl ?_
                  refine WPL.q tk0 (asg rfl) rfl ?_
                  refine WPL.nil ?_
                  refine WQ.next ?_
                  refine WPC.ret ?_
                  refine WQ.blockR ?_
                  refine WQ.thenR ?_
                  exact WQ.done (rets1 rfl rfl) ⟨_, rfl, H⟩
                · have H := H.2 hb141
                  refine WPL.skip (ntkb rfl rfl hb141) rfl ?_
                  refine WPL.skip (ntkb rfl rfl hb141) rfl ?_
                  refine WPL.skip (ntkb rfl rfl hb141) rfl ?_
                  refine WPL.q tk0 (pkFb rfl hb141 rfl) rfl ?_
                  refine WPL.q tk0 (asg rfl) rfl ?_
                  refine WPL.nil ?_
                  refine WQ.next ?_
                  refine WPC.ret ?_
                  refine WQ.blockR ?_
                  refine WQ.thenR ?_
                  exact WQ.done (rets1 rfl rfl) ⟨_, rfl, H⟩
              · have H := H.2 hb117
                refine WPC.seq ?_
                refine WPC.seq ?_
                refine WPC.region ?_
                refine WPL.q tk0 (bEql rfl rfl) rfl ?_
                refine WPL.q tk0 (asg rfl) rfl ?_
                refine WPL.nil ?_
                refine WQ.next ?_
                obtain ⟨k143, hk145, H⟩ := H
                refine WPC.join (fun e h => ∃ (b142 : Bool), e = [(0, .pointer t1), (3, .pointer (some (nA b7))), (170, .bool b142)] ∧ k143 b142 h) ?_ (fun hj144 => ?_)
                · rintro _ h146 ⟨b142, rfl, HK147⟩
                  have H := hk145 b142 h146 HK147
                  refine WQ.next ?_
                  refine WPC.cond rfl (fun hb148 => ?_) (fun hb148 => ?_)
                  · have H := H.1 hb148
                    refine WPC.seq ?_
                    refine WPC.region ?_
                    refine WPL.q tk0 (mv rfl) rfl ?_
                    obtain ⟨n150, n151, n152, s153, s154, hv149, H⟩ := H
                    refine WPL.q tk0 (ldA kO_59 rfl rfl hv149) rfl ?_
                    have HC := law2_Two_tells_ok (W := W) H
                    refine WPL.eff tk0 (cl cO_105 rfl HC) rfl ?_
                    rintro _ h156 ⟨b155, rfl, H⟩
                    refine WPL.q tk0 (asg rfl) rfl ?_
                    refine WPL.nil ?_
                    refine WQ.next ?_
                    refine WPC.ret ?_
                    refine WQ.blockR ?_
                    refine WQ.thenR ?_
                    exact WQ.done (rets1 rfl rfl) ⟨_, rfl, H⟩
                  · have H := H.2 hb148
                    refine WPC.skip ?_
                    refine WQ.blockN ?_
                    refine WQ.next ?_
                    refine WPC.seq ?_
                    refine WPC.region ?_
                    refine WPL.q tk0 (asg rfl) rfl ?_
                    refine WPL.nil ?_
                    refine WQ.next ?_
                    refine WPC.ret ?_
                    exact WQ.done (rets1 rfl rfl) ⟨_, rfl, H⟩
                · refine WPC.cond rfl (fun hb157 => ?_) (fun hb157 => ?_)
                  · have H := H.1 hb157
                    refine WPC.skip ?_
                    exact (hj144 _ _ ⟨_, rfl, H⟩).weak ⟨rfl, rfl, rfl, trivial⟩
                  · have H := H.2 hb157
                    refine WPC.seq ?_
                    refine WPC.region ?_
                    refine WPL.q tk0 (bEql rfl rfl) rfl ?_
                    refine WPL.q tk0 (asg rfl) rfl ?_
                    refine WPL.nil ?_
                    refine WQ.next ?_
                    refine WPC.cond rfl (fun hb158 => ?_) (fun hb158 => ?_)
                    · have H := H.1 hb158
                      refine WPC.skip ?_
                      exact (hj144 _ _ ⟨_, rfl, H⟩).weak ⟨rfl, rfl, rfl, trivial⟩
                    · have H := H.2 hb158
                      refine WPC.seq ?_
                      refine WPC.region ?_
                      refine WPL.q tk0 (bEql rfl rfl) rfl ?_
                      refine WPL.q tk0 (asg rfl) rfl ?_
                      refine WPL.nil ?_
                      refine WQ.next ?_
                      refine WPC.cond rfl (fun hb159 => ?_) (fun hb159 => ?_)
                      · have H := H.1 hb159
                        refine WPC.skip ?_
                        exact (hj144 _ _ ⟨_, rfl, H⟩).weak ⟨rfl, rfl, rfl, trivial⟩
                      · have H := H.2 hb159
                        refine WPC.region ?_
                        refine WPL.q tk0 (bEql rfl rfl) rfl ?_
                        refine WPL.q tk0 (asg rfl) rfl ?_
                        refine WPL.nil ?_
                        exact (hj144 _ _ ⟨_, rfl, H⟩).weak ⟨rfl, rfl, rfl, trivial⟩
  · refine WPC.cond rfl (fun hb160 => ?_) (fun hb160 => ?_)
    · have H := H.1 hb160
      refine WPC.skip ?_
      exact (hj19 _ _ ⟨_, rfl, H⟩).weak ⟨rfl, rfl, rfl, rfl, rfl, trivial⟩
    · have H := H.2 hb160
      refine WPC.region ?_
      refine WPL.q tk0 (bEql rfl rfl) rfl ?_
      refine WPL.q tk0 (asg rfl) rfl ?_
      refine WPL.nil ?_
      exact (hj19 _ _ ⟨_, rfl, H⟩).weak ⟨rfl, rfl, rfl, rfl, rfl, trivial⟩

/-- trellis/trellislaw2.Plays -/
def law2_Plays (script1 : Sl) (lo2 : Int) (hi3 : Int) (K : Bool → Hp → Prop) (h : Hp) : Prop :=
  ∃ (b4 : Nat) (h5 : Hp), b4 = h.size ∧ h5 = h.push (Cel [.pointer none, .pointer none, .pointer none, .pointer none] 74) ∧ ∃ I9 : Nat → Int → Hp → Prop, (∃ m13, I9 m13 0 h5) ∧ ∀ (m10 : Nat) (i8 : Int) (h11 : Hp), I9 m10 i8 h11 → (((decide (i8 < (script1.len : Int))) = true → (∃ a16 : Addr, script1.p = some a16 ∧ 0 ≤ i8 ∧ i8 < (script1.len : Int) ∧ ∃ (n21 : Int) (n22 : Int) (n23 : Int) (s24 : Sl) (s25 : Sl), RdL h11 (a16.add (Int.toNat i8 * 5)) [.int .i64 n21, .int .i64 n22, .int .i64 n23, s24.v, s25.v] ∧ ∃ (b26 : Nat) (h27 : Hp), b26 = h11.size ∧ h27 = h11.push (Cel [.int .i64 0, .int .i64 0, .int .i64 0, .slice none 0 0, .slice none 0 0] 59) ∧ ∃ h30 : Hp, StL h27 (nA b26) [.int .i64 n21, .int .i64 n22, .int .i64 n23, s24.v, s25.v] h30 ∧ ∃ (n33 : Int) (n34 : Int) (n35 : Int) (s36 : Sl) (s37 : Sl), RdL h30 (nA b26) [.int .i64 n33, .int .i64 n34, .int .i64 n35, s36.v, s37.v] ∧ law2_Two_step (some (nA b4)) n33 n34 n35 s36 s37 (fun b38 h39 => ∃ k41 : Bool → Hp → Prop, (∀ (b40 : Bool) (h44 : Hp), k41 b40 h44 → ((b40 = true → (K false h44)) ∧ (b40 = false → (∃ n48 : Int, rdc h44 ((nA b26).add 1) = some (.int .i64 n48) ∧ ∃ n49 : Int, n49 = IntKind.i64.wrap ((BitVec.ofInt (IntKind.bits .i64) n48 &&& BitVec.ofInt (IntKind.bits .i64) 1).toNat : Int) ∧ 0 ≤ n49 ∧ n49 < (2 : Nat) ∧ ∃ p54 : Option Addr, rdc h44 (((nA b4).add 0).add (Int.toNat n49 * 1)) = some (.pointer p54) ∧ 0 ≤ n49 ∧ n49 < (2 : Nat) ∧ ∃ p58 : Option Addr, rdc h44 (((nA b4).add 2).add (Int.toNat n49 * 1)) = some (.pointer p58) ∧ ((!(p54.isNone == p58.isNone)) = true → (K false h44)) ∧ ((!(p54.isNone == p58.isNone)) = false → (∃ n60 : Int, Wr .i64 (i8 + 1) n60 ∧ ∃ m62, m62 < m10 ∧ I9 m62 n60 h44)))))) ∧ (((!b38) = true → (∃ n67 : Int, rdc h39 ((nA b26).add 0) = some (.int .i64 n67) ∧ ((decide (n67 ≥ lo2)) = true → (∃ n70 : Int, rdc h39 ((nA b26).add 0) = some (.int .i64 n70) ∧ k41 (decide (n70 ≤ hi3)) h39)) ∧ ((decide (n67 ≥ lo2)) = false → (k41 false h39)))) ∧ ((!b38) = false → (k41 false h39)))) h30)) ∧ ((decide (i8 < (script1.len : Int))) = false → (K true h11)))

theorem law2_Plays_ok {W : World} {h : Hp} {script1 : Sl} {lo2 : Int} {hi3 : Int} {K : Bool → Hp → Prop} (H : law2_Plays script1 lo2 hi3 K h) :
    CallsH Try.prog 47 (List.toArray [script1.v, .int .i64 lo2, .int .i64 hi3]) W h (fun v h' => ∃ (b1 : Bool), v = .bool b1 ∧ K b1 h') := by
  unfold law2_Plays at H
  refine CallsH.intro (fn := Try.f47) (N := 59) (e := aE 0 [script1.v, .int .i64 lo2, .int .i64 hi3]) Try.func47 rfl rfl (aE_spec _) rfl ?_
  refine WPC.seq ?_
  refine WPC.region ?_
  refine WPL.q tk0 (asg rfl) rfl ?_
  refine WPL.nil ?_
  refine WQ.next ?_
  refine WPC.seq ?_
  refine WPC.region ?_
  refine WPL.q tk0 (bd (l := [.pointer none, .pointer none, .pointer none, .pointer none]) rfl (by kernel_rfl)) rfl ?_
  obtain ⟨b4, h5, hb6, hh7, H⟩ := H
  refine WPL.f tk0 (bxN (l := [.pointer none, .pointer none, .pointer none, .pointer none]) rfl rfl hb6 hh7) rfl ?_
  refine WPL.q tk0 (asg rfl) rfl ?_
  refine WPL.nil ?_
  refine WQ.next ?_
  refine WPC.seq ?_
  refine WPC.seq ?_
  refine WPC.region ?_
  refine WPL.q tk0 (asg rfl) rfl ?_
  refine WPL.nil ?_
  refine WQ.next ?_
  refine WPC.block ?_
  obtain ⟨I9, ⟨m13, HI14⟩, H⟩ := H
  refine WPC.weak (e' := [(0, script1.v), (1, .int .i64 lo2), (2, .int .i64 hi3), (7, .pointer (some (nA b4))), (8, .int .i64 0)]) ?_ ⟨rfl, rfl, rfl, rfl, rfl, trivial⟩
  refine WPC.loop (fun m e h => ∃ (i8 : Int), e = [(0, script1.v), (1, .int .i64 lo2), (2, .int .i64 hi3), (7, .pointer (some (nA b4))), (8, .int .i64 i8)] ∧ I9 m i8 h) ⟨m13, _, rfl, HI14⟩ ?_
  rintro m10 _ h11 ⟨i8, rfl, HI12⟩
  have H := H m10 i8 h11 HI12
  refine WPC.seq ?_
  refine WPC.seq ?_
  refine WPC.region ?_
  refine WPL.q tk0 (mv rfl) rfl ?_
  refine WPL.q tk0 (mv rfl) rfl ?_
  refine WPL.q tk0 (lnb sO_56 rfl) rfl ?_
  refine WPL.q tk0 (bLss rfl rfl) rfl ?_
  refine WPL.nil ?_
  refine WQ.next ?_
  refine WPC.cond rfl (fun hb15 => ?_) (fun hb15 => ?_)
  · have H := H.1 hb15
    refine WPC.skip ?_
    refine WQ.next ?_
    refine WPC.seq ?_
    refine WPC.block ?_
    refine WPC.seq ?_
    refine WPC.region ?_
    refine WPL.q tk0 (mv rfl) rfl ?_
    refine WPL.q tk0 (mv rfl) rfl ?_
    obtain ⟨a16, ha17, H⟩ := H
    obtain ⟨h18, h19, H⟩ := H
    refine WPL.q tk0 (ixSb sO_56 rfl rfl ha17 h18 h19) rfl ?_
    obtain ⟨n21, n22, n23, s24, s25, hv20, H⟩ := H
    refine WPL.q tk0 (ldA kO_59 rfl rfl hv20) rfl ?_
    obtain ⟨b26, h27, hb28, hh29, H⟩ := H
    refine WPL.f tk0 (alN zO_59 hb28 hh29) rfl ?_
    obtain ⟨h30, hs31, H⟩ := H
    refine WPL.f tk0 (stA kO_59 rfl rfl rfl (oneC.c rfl (oneC.c rfl (oneC.c rfl (oneC.c rfl (oneC.c rfl oneC.n))))) hs31) rfl ?_
    refine WPL.nil ?_
    refine WQ.next ?_
    refine WPC.seq ?_
    refine WPC.region ?_
    refine WPL.q tk0 (mv rfl) rfl ?_
    obtain ⟨n33, n34, n35, s36, s37, hv32, H⟩ := H
    refine WPL.q tk0 (ldA kO_59 rfl rfl hv32) rfl ?_
    have HC := law2_Two_step_ok (W := W) H
    refine WPL.eff tk0 (cl cO_51 rfl HC) rfl ?_
    rintro _ h39 ⟨b38, rfl, H⟩
    refine WPL.q tk0 (asg rfl) rfl ?_
    refine WPL.nil ?_
    refine WQ.next ?_
    refine WPC.seq ?_
    refine WPC.seq ?_
    obtain ⟨k41, hk43, H⟩ := H
    refine WPC.join (fun e h => ∃ (b40 : Bool), e = [(0, script1.v), (1, .int .i64 lo2), (2, .int .i64 hi3), (7, .pointer (some (nA b4))), (8, .int .i64 i8), (9, .pointer (some (nA b26))), (40, .bool b40)] ∧ k41 b40 h) ?_ (fun hj42 => ?_)
    · rintro _ h44 ⟨b40, rfl, HK45⟩
      have H := hk43 b40 h44 HK45
      refine WQ.next ?_
      refine WPC.cond rfl (fun hb46 => ?_) (fun hb46 => ?_)
      · have H := H.1 hb46
        refine WPC.seq ?_
        refine WPC.region ?_
        refine WPL.q tk0 (asg rfl) rfl ?_
        refine WPL.nil ?_
        refine WQ.next ?_
        refine WPC.ret ?_
        refine WQ.thenR ?_
        refine WQ.blockR ?_
        refine WQ.thenR ?_
        refine WQ.thenR ?_
        refine WQ.blockR ?_
        refine WQ.thenR ?_
        exact WQ.done (rets1 rfl rfl) ⟨_, rfl, H⟩
      · have H := H.2 hb46
        refine WPC.skip ?_
        refine WQ.next ?_
        refine WPC.seq ?_
        refine WPC.region ?_
        refine WPL.q tk0 (fa fO_59_1 rfl) rfl ?_
        obtain ⟨n48, hv47, H⟩ := H
        refine WPL.q tk0 (ld kO_3 rfl hv47) rfl ?_
        obtain ⟨n49, hn50, H⟩ := H
        refine WPL.q tk0 (bAnd rfl rfl hn50) rfl ?_
        refine WPL.q tk0 (asg rfl) rfl ?_
        refine WPL.nil ?_
        refine WQ.next ?_
        refine WPC.seq ?_
        refine WPC.draw (al := [0, 0, 1, 5, 15, 31, 63, 0, 0, 128, 640, 1920, 3968, 8064, 16383]) (p := (.p 0 (.p 1 (.p 2 (.p 3 (.p 4 (.q 5 (.p 6 (.p 7 (.p 8 (.p 9 (.p 10 (.p 11 (.q 12 (.p 13 (.p 14 .done)))))))))))))))) mixO (by kernel_rfl) ?_
        refine PL.pp rfl rfl tk0 (fun _ => mv rfl) ?_
        refine PL.pp rfl rfl tk0 (fun _ => mv rfl) ?_
        refine PL.pp rfl rfl tk0 (fun _ => nc rfl) ?_
        refine PL.pp rfl rfl tk0 (fun _ => fa fO_74_0 rfl) ?_
        obtain ⟨h51, h52, H⟩ := H
        refine PL.pp rfl rfl tk0 (fun _ => ixA aO_70 rfl rfl h51 h52) ?_
        obtain ⟨p54, hv53, H⟩ := H
        refine PL.qq rfl rfl tk0 (ld kO_31 rfl hv53) ?_
        refine PL.pp rfl rfl tk0 (fun _ => bEqN pO_31 rfl) ?_
        refine PL.pp rfl rfl tk0 (fun _ => mv rfl) ?_
        refine PL.pp rfl rfl tk0 (fun _ => mv rfl) ?_
        refine PL.pp rfl rfl tk0 (fun _ => nc rfl) ?_
        refine PL.pp rfl rfl tk0 (fun _ => fa fO_74_1 rfl) ?_
        obtain ⟨h55, h56, H⟩ := H
        refine PL.pp rfl rfl tk0 (fun _ => ixA aO_72 rfl rfl h55 h56) ?_
        obtain ⟨p58, hv57, H⟩ := H
        refine PL.qq rfl rfl tk0 (ld kO_71 rfl hv57) ?_
        refine PL.pp rfl rfl tk0 (fun _ => bEqN pO_71 rfl) ?_
        refine PL.pp rfl rfl tk0 (fun _ => bNeB bO_4 rfl rfl) ?_
        refine WQ.next ?_
        refine WPC.cond rfl (fun hb59 => ?_) (fun hb59 => ?_)
        · have H := H.1 hb59
          refine WPC.seq ?_
          refine WPC.region ?_
          refine WPL.q tk0 (asg rfl) rfl ?_
          refine WPL.nil ?_
          refine WQ.next ?_
          refine WPC.ret ?_
          refine WQ.blockR ?_
          refine WQ.thenR ?_
          refine WQ.thenR ?_
          refine WQ.blockR ?_
          refine WQ.thenR ?_
          exact WQ.done (rets1 rfl rfl) ⟨_, rfl, H⟩
        · have H := H.2 hb59
          refine WPC.skip ?_
          refine WQ.blockN ?_
          refine WQ.next ?_
          refine WPC.region ?_
          refine WPL.q tk0 (mv rfl) rfl ?_
          obtain ⟨n60, hn61, H⟩ := H
          refine WPL.q tk0 (bAdd rfl rfl hn61) rfl ?_
          refine WPL.q tk0 (asg rfl) rfl ?_
          refine WPL.nil ?_
          obtain ⟨m62, lt63, H⟩ := H
          exact WQ.again lt63 ⟨_, rfl, H⟩ ⟨rfl, rfl, rfl, rfl, rfl, trivial⟩
    · refine WPC.region ?_
      refine WPL.q tk0 (mv rfl) rfl ?_
      refine WPL.q tk0 (uNot rfl) rfl ?_
      refine WPL.q tk0 (mv rfl) rfl ?_
      rcases Bool.eq_false_or_eq_true ((!b38)) with hb65 | hb65
      · have H := H.1 hb65
        refine WPL.q (tkb rfl rfl hb65) (fa fO_59_0 rfl) rfl ?_
        obtain ⟨n67, hv66, H⟩ := H
        refine WPL.q (tkb rfl rfl hb65) (ld kO_3 rfl hv66) rfl ?_
        refine WPL.q (tkb rfl rfl hb65) (mv rfl) rfl ?_
        refine WPL.q (tkb rfl rfl hb65) (bGeq rfl rfl) rfl ?_
        refine WPL.q tk0 (pkTb rfl hb65 rfl) rfl ?_
        refine WPL.q tk0 (mv rfl) rfl ?_
        rcases Bool.eq_false_or_eq_true ((decide (n67 ≥ lo2))) with hb68 | hb68
        · have H := H.1 hb68
          refine WPL.q (tkb rfl rfl hb68) (fa fO_59_0 rfl) rfl ?_
          obtain ⟨n70, hv69, H⟩ := H
          refine WPL.q (tkb rfl rfl hb68) (ld kO_3 rfl hv69) rfl ?_
          refine WPL.q (tkb rfl rfl hb68) (mv rfl) rfl ?_
          refine WPL.q (tkb rfl rfl hb68) (bLeq rfl rfl) rfl ?_
          refine WPL.q tk0 (pkTb rfl hb68 rfl) rfl ?_
          refine WPL.nil ?_
          exact (hj42 _ _ ⟨_, rfl, H⟩).weak ⟨rfl, rfl, rfl, rfl, rfl, rfl, rfl, trivial⟩
        · have H := H.2 hb68
          refine WPL.skip (ntkb rfl rfl hb68) rfl ?_
          refine WPL.skip (ntkb rfl rfl hb68) rfl ?_
          refine WPL.skip (ntkb rfl rfl hb68) rfl ?_
          refine WPL.skip (ntkb rfl rfl hb68) rfl ?_
          refine WPL.q tk0 (pkFb rfl hb68 rfl) rfl ?_
          refine WPL.nil ?_
          exact (hj42 _ _ ⟨_, rfl, H⟩).weak ⟨rfl, rfl, rfl, rfl, rfl, rfl, rfl, trivial⟩
      · have H := H.2 hb65
        refine WPL.skip (ntkb rfl rfl hb65) rfl ?_
        refine WPL.skip (ntkb rfl rfl hb65) rfl ?_
        refine WPL.skip (ntkb rfl rfl hb65) rfl ?_
        refine WPL.skip (ntkb rfl rfl hb65) rfl ?_
        refine WPL.q tk0 (pkFb rfl hb65 rfl) rfl ?_
        refine WPL.q tk0 (mv rfl) rfl ?_
        refine WPL.skip (ntkb rfl rfl rfl) rfl ?_
        refine WPL.skip (ntkb rfl rfl rfl) rfl ?_
        refine WPL.skip (ntkb rfl rfl rfl) rfl ?_
        refine WPL.skip (ntkb rfl rfl rfl) rfl ?_
        refine WPL.q tk0 (pkFb rfl rfl rfl) rfl ?_
        refine WPL.nil ?_
        exact (hj42 _ _ ⟨_, rfl, H⟩).weak ⟨rfl, rfl, rfl, rfl, rfl, rfl, rfl, trivial⟩
  · have H := H.2 hb15
    refine WPC.exit ?_
    refine WQ.thenX ?_
    refine WQ.thenX ?_
    refine WQ.hit ?_
    refine WQ.next ?_
    refine WPC.seq ?_
    refine WPC.region ?_
    refine WPL.q tk0 (asg rfl) rfl ?_
    refine WPL.nil ?_
    refine WQ.next ?_
    refine WPC.ret ?_
    exact WQ.done (rets1 rfl rfl) ⟨_, rfl, H⟩

end Go.Proofs.Ythpeadoidpimmaa
