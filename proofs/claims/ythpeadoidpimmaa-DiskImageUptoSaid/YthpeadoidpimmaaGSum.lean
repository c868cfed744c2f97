/- What each Go function of this group asks ahead of a call (printed by gen.py), and that this is enough. -/
import Derived.Test.YthpeadoidpimmaaTy
namespace Go.Proofs.Ythpeadoidpimmaa
open Go Tw
set_option linter.unusedVariables false
set_option maxRecDepth 10000
set_option maxHeartbeats 4000000

/-- trellis/wal.Need -/
def wal_Need (bytes1 : Int) (K : Int → Hp → Prop) (h : Hp) : Prop :=
  ∃ k3 : Bool → Hp → Prop, (∀ (b2 : Bool) (h6 : Hp), k3 b2 h6 → ((b2 = true → (K 0 h6)) ∧ (b2 = false → (∃ n9 : Int, Wr .i64 (bytes1 + 104) n9 ∧ ∃ n11 : Int, Wr .i64 (n9 - 1) n11 ∧ ∃ n13 : Int, n13 = IntKind.i64.wrap (Int.tdiv n11 104) ∧ ∃ n16 : Int, n16 = (if n13 > 1 then n13 else (1 : Int)) ∧ K n16 h6)))) ∧ (((decide (bytes1 < 0)) = true → (k3 true h)) ∧ ((decide (bytes1 < 0)) = false → (k3 (decide (bytes1 > 32768)) h)))

theorem wal_Need_ok {W : World} {h : Hp} {bytes1 : Int} {K : Int → Hp → Prop} (H : wal_Need bytes1 K h) :
    CallsH Try.prog 25 (List.toArray [.int .i64 bytes1]) W h (fun v h' => ∃ (n1 : Int), v = .int .i64 n1 ∧ K n1 h') := by
  unfold wal_Need at H
  refine CallsH.intro (fn := Try.f25) (N := 14) (e := aE 0 [.int .i64 bytes1]) Try.func25 rfl rfl (aE_spec _) rfl ?_
  refine WPC.seq ?_
  refine WPC.region ?_
  refine WPL.q tk0 (asg rfl) rfl ?_
  refine WPL.nil ?_
  refine WQ.next ?_
  refine WPC.seq ?_
  refine WPC.seq ?_
  obtain ⟨k3, hk5, H⟩ := H
  refine WPC.join (fun e h => ∃ (b2 : Bool), e = [(0, .int .i64 bytes1), (8, .bool b2)] ∧ k3 b2 h) ?_ (fun hj4 => ?_)
  · rintro _ h6 ⟨b2, rfl, HK7⟩
    have H := hk5 b2 h6 HK7
    refine WQ.next ?_
    refine WPC.cond rfl (fun hb8 => ?_) (fun hb8 => ?_)
    · have H := H.1 hb8
      refine WPC.seq ?_
      refine WPC.region ?_
      refine WPL.q tk0 (asg rfl) rfl ?_
      refine WPL.nil ?_
      refine WQ.next ?_
      refine WPC.ret ?_
      refine WQ.thenR ?_
      exact WQ.done (rets1 rfl rfl) ⟨_, rfl, H⟩
    · have H := H.2 hb8
      refine WPC.skip ?_
      refine WQ.next ?_
      refine WPC.seq ?_
      refine WPC.region ?_
      refine WPL.q tk0 (mv rfl) rfl ?_
      obtain ⟨n9, hn10, H⟩ := H
      refine WPL.q tk0 (bAdd rfl rfl hn10) rfl ?_
      obtain ⟨n11, hn12, H⟩ := H
      refine WPL.q tk0 (bSub rfl rfl hn12) rfl ?_
      obtain ⟨n13, hn14, H⟩ := H
      refine WPL.q tk0 (bQuo rfl rfl (by decide) hn14) rfl ?_
      obtain ⟨n16, hn17, H⟩ := H
      refine WPL.q tk0 (mx rfl rfl hn17) rfl ?_
      refine WPL.q tk0 (asg rfl) rfl ?_
      refine WPL.nil ?_
      refine WQ.next ?_
      refine WPC.ret ?_
      exact WQ.done (rets1 rfl rfl) ⟨_, rfl, H⟩
  · refine WPC.region ?_
    refine WPL.q tk0 (mv rfl) rfl ?_
    refine WPL.q tk0 (bLss rfl rfl) rfl ?_
    refine WPL.q tk0 (mv rfl) rfl ?_
    rcases Bool.eq_false_or_eq_true ((decide (bytes1 < 0))) with hb18 | hb18
    · have H := H.1 hb18
      refine WPL.skip (ntkb rfl rfl hb18) rfl ?_
      refine WPL.skip (ntkb rfl rfl hb18) rfl ?_
      refine WPL.q tk0 (pkTb rfl hb18 rfl) rfl ?_
      refine WPL.nil ?_
      exact (hj4 _ _ ⟨_, rfl, H⟩).weak ⟨rfl, rfl, trivial⟩
    · have H := H.2 hb18
      refine WPL.q (tkb rfl rfl hb18) (mv rfl) rfl ?_
      refine WPL.q (tkb rfl rfl hb18) (bGtr rfl rfl) rfl ?_
      refine WPL.q tk0 (pkFb rfl hb18 rfl) rfl ?_
      refine WPL.nil ?_
      exact (hj4 _ _ ⟨_, rfl, H⟩).weak ⟨rfl, rfl, trivial⟩

/-- trellis/trellisref3.Need -/
def ref3_Need (bytes1 : Int) (K : Int → Hp → Prop) (h : Hp) : Prop :=
  ∃ k3 : Bool → Hp → Prop, (∀ (b2 : Bool) (h6 : Hp), k3 b2 h6 → ((b2 = true → (K 0 h6)) ∧ (b2 = false → (((bytes1 == 0) = true → (K 1 h6)) ∧ ((bytes1 == 0) = false → (∃ n10 : Int, Wr .i64 (bytes1 + 104) n10 ∧ ∃ n12 : Int, Wr .i64 (n10 - 1) n12 ∧ ∃ n14 : Int, n14 = IntKind.i64.wrap (Int.tdiv n12 104) ∧ K n14 h6)))))) ∧ (((decide (bytes1 < 0)) = true → (k3 true h)) ∧ ((decide (bytes1 < 0)) = false → (k3 (decide (bytes1 > 32768)) h)))

theorem ref3_Need_ok {W : World} {h : Hp} {bytes1 : Int} {K : Int → Hp → Prop} (H : ref3_Need bytes1 K h) :
    CallsH Try.prog 26 (List.toArray [.int .i64 bytes1]) W h (fun v h' => ∃ (n1 : Int), v = .int .i64 n1 ∧ K n1 h') := by
  unfold ref3_Need at H
  refine CallsH.intro (fn := Try.f26) (N := 15) (e := aE 0 [.int .i64 bytes1]) Try.func26 rfl rfl (aE_spec _) rfl ?_
  refine WPC.seq ?_
  refine WPC.region ?_
  refine WPL.q tk0 (asg rfl) rfl ?_
  refine WPL.nil ?_
  refine WQ.next ?_
  refine WPC.seq ?_
  refine WPC.seq ?_
  obtain ⟨k3, hk5, H⟩ := H
  refine WPC.join (fun e h => ∃ (b2 : Bool), e = [(0, .int .i64 bytes1), (8, .bool b2)] ∧ k3 b2 h) ?_ (fun hj4 => ?_)
  · rintro _ h6 ⟨b2, rfl, HK7⟩
    have H := hk5 b2 h6 HK7
    refine WQ.next ?_
    refine WPC.cond rfl (fun hb8 => ?_) (fun hb8 => ?_)
    · have H := H.1 hb8
      refine WPC.seq ?_
      refine WPC.region ?_
      refine WPL.q tk0 (asg rfl) rfl ?_
      refine WPL.nil ?_
      refine WQ.next ?_
      refine WPC.ret ?_
      refine WQ.thenR ?_
      exact WQ.done (rets1 rfl rfl) ⟨_, rfl, H⟩
    · have H := H.2 hb8
      refine WPC.skip ?_
      refine WQ.next ?_
      refine WPC.seq ?_
      refine WPC.seq ?_
      refine WPC.region ?_
      refine WPL.q tk0 (mv rfl) rfl ?_
      refine WPL.q tk0 (bEql rfl rfl) rfl ?_
      refine WPL.nil ?_
      refine WQ.next ?_
      refine WPC.cond rfl (fun hb9 => ?_) (fun hb9 => ?_)
      · have H := H.1 hb9
        refine WPC.seq ?_
        refine WPC.region ?_
        refine WPL.q tk0 (asg rfl) rfl ?_
        refine WPL.nil ?_
        refine WQ.next ?_
        refine WPC.ret ?_
        refine WQ.thenR ?_
        exact WQ.done (rets1 rfl rfl) ⟨_, rfl, H⟩
      · have H := H.2 hb9
        refine WPC.skip ?_
        refine WQ.next ?_
        refine WPC.seq ?_
        refine WPC.region ?_
        refine WPL.q tk0 (mv rfl) rfl ?_
        obtain ⟨n10, hn11, H⟩ := H
        refine WPL.q tk0 (bAdd rfl rfl hn11) rfl ?_
        obtain ⟨n12, hn13, H⟩ := H
        refine WPL.q tk0 (bSub rfl rfl hn13) rfl ?_
        obtain ⟨n14, hn15, H⟩ := H
        refine WPL.q tk0 (bQuo rfl rfl (by decide) hn15) rfl ?_
        refine WPL.q tk0 (asg rfl) rfl ?_
        refine WPL.nil ?_
        refine WQ.next ?_
        refine WPC.ret ?_
        exact WQ.done (rets1 rfl rfl) ⟨_, rfl, H⟩
  · refine WPC.region ?_
    refine WPL.q tk0 (mv rfl) rfl ?_
    refine WPL.q tk0 (bLss rfl rfl) rfl ?_
    refine WPL.q tk0 (mv rfl) rfl ?_
    rcases Bool.eq_false_or_eq_true ((decide (bytes1 < 0))) with hb17 | hb17
    · have H := H.1 hb17
      refine WPL.skip (ntkb rfl rfl hb17) rfl ?_
      refine WPL.skip (ntkb rfl rfl hb17) rfl ?_
      refine WPL.q tk0 (pkTb rfl hb17 rfl) rfl ?_
      refine WPL.nil ?_
      exact (hj4 _ _ ⟨_, rfl, H⟩).weak ⟨rfl, rfl, trivial⟩
    · have H := H.2 hb17
      refine WPL.q (tkb rfl rfl hb17) (mv rfl) rfl ?_
      refine WPL.q (tkb rfl rfl hb17) (bGtr rfl rfl) rfl ?_
      refine WPL.q tk0 (pkFb rfl hb17 rfl) rfl ?_
      refine WPL.nil ?_
      exact (hj4 _ _ ⟨_, rfl, H⟩).weak ⟨rfl, rfl, trivial⟩

/-- trellis/trellislaw3.walCopy -/
def law3_walCopy (b1 : Sl) (K : Sl → Hp → Prop) (h : Hp) : Prop :=
  ∃ n2 : Int, Wr .i64 ((b1.len : Int) + 8) n2 ∧ 0 ≤ (0 : Int) ∧ (0 : Int) ≤ n2 ∧ n2 * (1 : Nat) ≤ 281474976710656 ∧ ∃ (b4 : Nat) (h5 : Hp) (s6 : Sl), b4 = h.size ∧ h5 = h.push (Cel (zr [.int .u8 0] (Int.toNat n2 * 1)) 5) ∧ s6 = ⟨some (nA b4), Int.toNat 0, Int.toNat n2⟩ ∧ ∃ I15 : Nat → Sl → Int → Hp → Prop, (∃ m19, I15 m19 s6 0 h5) ∧ ∀ (m16 : Nat) (out13 : Sl) (i14 : Int) (h17 : Hp), I15 m16 out13 i14 h17 → (((decide (i14 < (b1.len : Int))) = true → (∃ a22 : Addr, b1.p = some a22 ∧ 0 ≤ i14 ∧ i14 < (b1.len : Int) ∧ ∃ n27 : Int, rdc h17 (a22.add (Int.toNat i14 * 1)) = some (.int .u8 n27) ∧ ∃ (b28 : Nat) (h29 : Hp) (s30 : Sl), b28 = h17.size ∧ h29 = h17.push (Cel [.int .u8 n27] 5) ∧ s30 = ⟨some (nA b28), 1, 1⟩ ∧ App h29 out13 s30 1 1 5 [.int .u8 0] (fun s34 h35 => ∃ n36 : Int, Wr .i64 (i14 + 1) n36 ∧ ∃ m38, m38 < m16 ∧ I15 m38 s34 n36 h35))) ∧ ((decide (i14 < (b1.len : Int))) = false → (K out13 h17)))

theorem law3_walCopy_ok {W : World} {h : Hp} {b1 : Sl} {K : Sl → Hp → Prop} (H : law3_walCopy b1 K h) :
    CallsH Try.prog 28 (List.toArray [b1.v]) W h (fun v h' => ∃ (s1 : Sl), v = s1.v ∧ K s1 h') := by
  unfold law3_walCopy at H
  refine CallsH.intro (fn := Try.f28) (N := 23) (e := aE 0 [b1.v]) Try.func28 rfl rfl (aE_spec _) rfl ?_
  refine WPC.seq ?_
  refine WPC.region ?_
  refine WPL.q tk0 (asg rfl) rfl ?_
  refine WPL.nil ?_
  refine WQ.next ?_
  refine WPC.seq ?_
  refine WPC.region ?_
  refine WPL.q tk0 (mv rfl) rfl ?_
  refine WPL.q tk0 (lnb sO_24 rfl) rfl ?_
  obtain ⟨n2, hn3, H⟩ := H
  refine WPL.q tk0 (bAdd rfl rfl hn3) rfl ?_
  obtain ⟨c10, c11, c12, b4, h5, s6, hb7, hh8, hs9, H⟩ := H
  refine WPL.f tk0 (mksN sO_24 zO_5 (by decide) rfl rfl c10 c11 c12 hb7 hh8 hs9) rfl ?_
  refine WPL.q tk0 (asg rfl) rfl ?_
  refine WPL.nil ?_
  refine WQ.next ?_
  refine WPC.seq ?_
  refine WPC.seq ?_
  refine WPC.region ?_
  refine WPL.q tk0 (asg rfl) rfl ?_
  refine WPL.nil ?_
  refine WQ.next ?_
  refine WPC.block ?_
  obtain ⟨I15, ⟨m19, HI20⟩, H⟩ := H
  refine WPC.weak (e' := [(0, b1.v), (3, s6.v), (4, .int .i64 0)]) ?_ ⟨rfl, rfl, rfl, trivial⟩
  refine WPC.loop (fun m e h => ∃ (out13 : Sl), ∃ (i14 : Int), e = [(0, b1.v), (3, out13.v), (4, .int .i64 i14)] ∧ I15 m out13 i14 h) ⟨m19, _, _, rfl, HI20⟩ ?_
  rintro m16 _ h17 ⟨out13, i14, rfl, HI18⟩
  have H := H m16 out13 i14 h17 HI18
  refine WPC.seq ?_
  refine WPC.seq ?_
  refine WPC.region ?_
  refine WPL.q tk0 (mv rfl) rfl ?_
  refine WPL.q tk0 (mv rfl) rfl ?_
  refine WPL.q tk0 (lnb sO_24 rfl) rfl ?_
  refine WPL.q tk0 (bLss rfl rfl) rfl ?_
  refine WPL.nil ?_
  refine WQ.next ?_
  refine WPC.cond rfl (fun hb21 => ?_) (fun hb21 => ?_)
  · have H := H.1 hb21
    refine WPC.skip ?_
    refine WQ.next ?_
    refine WPC.seq ?_
    refine WPC.block ?_
    refine WPC.region ?_
    refine WPL.q tk0 (mv rfl) rfl ?_
    refine WPL.q tk0 (mv rfl) rfl ?_
    refine WPL.q tk0 (mv rfl) rfl ?_
    obtain ⟨a22, ha23, H⟩ := H
    obtain ⟨h24, h25, H⟩ := H
    refine WPL.q tk0 (ixSb sO_24 rfl rfl ha23 h24 h25) rfl ?_
    obtain ⟨n27, hv26, H⟩ := H
    refine WPL.q tk0 (ld kO_5 rfl hv26) rfl ?_
    obtain ⟨b28, h29, s30, hb31, hh32, hs33, H⟩ := H
    refine WPL.f tk0 (bsl1N (l := [.int .u8 n27]) sO_24 zO_5 rfl rfl rfl ⟨by decide, rfl⟩ hb31 hh32 hs33) rfl ?_
    refine WPL.eff tk0 (app (rt := 0) sO_24 zO_5 rfl (by decide) rfl rfl H) rfl ?_
    rintro _ h35 ⟨s34, rfl, H⟩
    refine WPL.q tk0 (asg rfl) rfl ?_
    refine WPL.nil ?_
    refine WQ.blockN ?_
    refine WQ.next ?_
    refine WPC.region ?_
    refine WPL.q tk0 (mv rfl) rfl ?_
    obtain ⟨n36, hn37, H⟩ := H
    refine WPL.q tk0 (bAdd rfl rfl hn37) rfl ?_
    refine WPL.q tk0 (asg rfl) rfl ?_
    refine WPL.nil ?_
    obtain ⟨m38, lt39, H⟩ := H
    exact WQ.again lt39 ⟨_, _, rfl, H⟩ ⟨rfl, rfl, rfl, trivial⟩
  · have H := H.2 hb21
    refine WPC.exit ?_
    refine WQ.thenX ?_
    refine WQ.thenX ?_
    refine WQ.hit ?_
    refine WQ.next ?_
    refine WPC.seq ?_
    refine WPC.region ?_
    refine WPL.q tk0 (mv rfl) rfl ?_
    refine WPL.q tk0 (asg rfl) rfl ?_
    refine WPL.nil ?_
    refine WQ.next ?_
    refine WPC.ret ?_
    exact WQ.done (rets1 rfl rfl) ⟨_, rfl, H⟩

/-- trellis/wal.half -/
def wal_half (bits1 : Int) (K : Int → Hp → Prop) (h : Hp) : Prop :=
  ∃ (b2 : Nat) (h3 : Hp), b2 = h.size ∧ h3 = h.push (Cel [.int .u32 0, .int .u32 0, .int .u32 0, .int .u32 0, .int .u32 0, .int .u32 0, .int .u32 0, .int .u32 0, .int .u32 0, .int .u32 0, .int .u32 0, .int .u32 0, .int .u32 0, .int .u32 0, .int .u32 0, .int .u32 0] 193) ∧ ∃ h6 : Hp, StL h3 (nA b2) [.int .u32 0, .int .u32 498536548, .int .u32 997073096, .int .u32 651767980, .int .u32 1994146192, .int .u32 1802195444, .int .u32 1303535960, .int .u32 1342533948, .int .u32 3988292384, .int .u32 4027552580, .int .u32 3604390888, .int .u32 3412177804, .int .u32 2607071920, .int .u32 2262029012, .int .u32 2685067896, .int .u32 3183342108] h6 ∧ ∃ n8 : Int, n8 = IntKind.u32.wrap ((BitVec.ofInt (IntKind.bits .u32) bits1 &&& BitVec.ofInt (IntKind.bits .u32) 15).toNat : Int) ∧ 0 ≤ n8 ∧ n8 < (16 : Nat) ∧ ∃ n13 : Int, rdc h6 ((nA b2).add (Int.toNat n8 * 1)) = some (.int .u32 n13) ∧ K n13 h6

theorem wal_half_ok {W : World} {h : Hp} {bits1 : Int} {K : Int → Hp → Prop} (H : wal_half bits1 K h) :
    CallsH Try.prog 84 (List.toArray [.int .u32 bits1]) W h (fun v h' => ∃ (n1 : Int), v = .int .u32 n1 ∧ K n1 h') := by
  unfold wal_half at H
  refine CallsH.intro (fn := Try.f84) (N := 9) (e := aE 0 [.int .u32 bits1]) Try.func84 rfl rfl (aE_spec _) rfl ?_
  refine WPC.seq ?_
  refine WPC.region ?_
  refine WPL.q tk0 (asg rfl) rfl ?_
  refine WPL.nil ?_
  refine WQ.next ?_
  refine WPC.seq ?_
  refine WPC.region ?_
  refine WPL.q tk0 (bd (l := [.int .u32 0, .int .u32 498536548, .int .u32 997073096, .int .u32 651767980, .int .u32 1994146192, .int .u32 1802195444, .int .u32 1303535960, .int .u32 1342533948, .int .u32 3988292384, .int .u32 4027552580, .int .u32 3604390888, .int .u32 3412177804, .int .u32 2607071920, .int .u32 2262029012, .int .u32 2685067896, .int .u32 3183342108]) rfl (by kernel_rfl)) rfl ?_
  obtain ⟨b2, h3, hb4, hh5, H⟩ := H
  refine WPL.f tk0 (alN zO_193 hb4 hh5) rfl ?_
  obtain ⟨h6, hs7, H⟩ := H
  refine WPL.f tk0 (stA kO_193 rfl rfl rfl (oneC.c rfl (oneC.c rfl (oneC.c rfl (oneC.c rfl (oneC.c rfl (oneC.c rfl (oneC.c rfl (oneC.c rfl (oneC.c rfl (oneC.c rfl (oneC.c rfl (oneC.c rfl (oneC.c rfl (oneC.c rfl (oneC.c rfl (oneC.c rfl oneC.n)))))))))))))))) hs7) rfl ?_
  refine WPL.nil ?_
  refine WQ.next ?_
  refine WPC.seq ?_
  refine WPC.region ?_
  refine WPL.q tk0 (mv rfl) rfl ?_
  obtain ⟨n8, hn9, H⟩ := H
  refine WPL.q tk0 (bAnd rfl rfl hn9) rfl ?_
  obtain ⟨h10, h11, H⟩ := H
  refine WPL.q tk0 (ixA aO_193 rfl rfl h10 h11) rfl ?_
  obtain ⟨n13, hv12, H⟩ := H
  refine WPL.q tk0 (ld kO_25 rfl hv12) rfl ?_
  refine WPL.q tk0 (asg rfl) rfl ?_
  refine WPL.nil ?_
  refine WQ.next ?_
  refine WPC.ret ?_
  exact WQ.done (rets1 rfl rfl) ⟨_, rfl, H⟩

/-- trellis/wal.Sum -/
def wal_Sum (b1 : Sl) (K : Int → Hp → Prop) (h : Hp) : Prop :=
  ∃ I4 : Nat → Int → Int → Hp → Prop, (∃ m8, I4 m8 4294967295 0 h) ∧ ∀ (m5 : Nat) (r2 : Int) (n3 : Int) (h6 : Hp), I4 m5 r2 n3 h6 → (((decide (n3 < (b1.len : Int))) = true → (∃ a11 : Addr, b1.p = some a11 ∧ 0 ≤ n3 ∧ n3 < (b1.len : Int) ∧ ∃ n16 : Int, rdc h6 (a11.add (Int.toNat n3 * 1)) = some (.int .u8 n16) ∧ ∃ n17 : Int, Wr .u32 n16 n17 ∧ ∃ n19 : Int, n19 = IntKind.u32.wrap ((BitVec.ofInt (IntKind.bits .u32) r2 ^^^ BitVec.ofInt (IntKind.bits .u32) n17).toNat : Int) ∧ ∃ n21 : Int, n21 = Int.fdiv n19 (2 ^ (min (Int.toNat 4) (IntKind.bits .u32))) ∧ wal_half n19 (fun n24 h25 => ∃ n26 : Int, n26 = IntKind.u32.wrap ((BitVec.ofInt (IntKind.bits .u32) n21 ^^^ BitVec.ofInt (IntKind.bits .u32) n24).toNat : Int) ∧ ∃ n28 : Int, n28 = Int.fdiv n26 (2 ^ (min (Int.toNat 4) (IntKind.bits .u32))) ∧ wal_half n26 (fun n31 h32 => ∃ n33 : Int, n33 = IntKind.u32.wrap ((BitVec.ofInt (IntKind.bits .u32) n28 ^^^ BitVec.ofInt (IntKind.bits .u32) n31).toNat : Int) ∧ ∃ n35 : Int, Wr .i64 (n3 + 1) n35 ∧ ∃ m37, m37 < m5 ∧ I4 m37 n33 n35 h32) h25) h6)) ∧ ((decide (n3 < (b1.len : Int))) = false → (∃ n40 : Int, n40 = IntKind.u32.wrap ((BitVec.ofInt (IntKind.bits .u32) (IntKind.max .u32) ^^^ BitVec.ofInt (IntKind.bits .u32) r2).toNat : Int) ∧ K n40 h6)))

theorem wal_Sum_ok {W : World} {h : Hp} {b1 : Sl} {K : Int → Hp → Prop} (H : wal_Sum b1 K h) :
    CallsH Try.prog 27 (List.toArray [b1.v]) W h (fun v h' => ∃ (n1 : Int), v = .int .u32 n1 ∧ K n1 h') := by
  unfold wal_Sum at H
  refine CallsH.intro (fn := Try.f27) (N := 29) (e := aE 0 [b1.v]) Try.func27 rfl rfl (aE_spec _) rfl ?_
  refine WPC.seq ?_
  refine WPC.region ?_
  refine WPL.q tk0 (asg rfl) rfl ?_
  refine WPL.nil ?_
  refine WQ.next ?_
  refine WPC.seq ?_
  refine WPC.region ?_
  refine WPL.q tk0 (asg rfl) rfl ?_
  refine WPL.nil ?_
  refine WQ.next ?_
  refine WPC.seq ?_
  refine WPC.seq ?_
  refine WPC.region ?_
  refine WPL.q tk0 (mv rfl) rfl ?_
  refine WPL.q tk0 (lnb sO_24 rfl) rfl ?_
  refine WPL.q tk0 (mv rfl) rfl ?_
  refine WPL.nil ?_
  refine WQ.next ?_
  refine WPC.block ?_
  obtain ⟨I4, ⟨m8, HI9⟩, H⟩ := H
  refine WPC.weak (e' := [(3, .int .u32 4294967295), (6, b1.v), (7, .int .i64 (b1.len : Int)), (8, .int .i64 0)]) ?_ ⟨rfl, rfl, rfl, rfl, trivial⟩
  refine WPC.loop (fun m e h => ∃ (r2 : Int), ∃ (n3 : Int), e = [(3, .int .u32 r2), (6, b1.v), (7, .int .i64 (b1.len : Int)), (8, .int .i64 n3)] ∧ I4 m r2 n3 h) ⟨m8, _, _, rfl, HI9⟩ ?_
  rintro m5 _ h6 ⟨r2, n3, rfl, HI7⟩
  have H := H m5 r2 n3 h6 HI7
  refine WPC.seq ?_
  refine WPC.region ?_
  refine WPL.q tk0 (bLss rfl rfl) rfl ?_
  refine WPL.nil ?_
  refine WQ.next ?_
  refine WPC.seq ?_
  refine WPC.cond rfl (fun hb10 => ?_) (fun hb10 => ?_)
  · have H := H.1 hb10
    refine WPC.skip ?_
    refine WQ.next ?_
    refine WPC.seq ?_
    refine WPC.block ?_
    refine WPC.seq ?_
    refine WPC.region ?_
    obtain ⟨a11, ha12, H⟩ := H
    obtain ⟨h13, h14, H⟩ := H
    refine WPL.q tk0 (ixSb sO_24 rfl rfl ha12 h13 h14) rfl ?_
    obtain ⟨n16, hv15, H⟩ := H
    refine WPL.q tk0 (ld kO_5 rfl hv15) rfl ?_
    refine WPL.q tk0 (asg rfl) rfl ?_
    refine WPL.nil ?_
    refine WQ.next ?_
    refine WPC.seq ?_
    refine WPC.region ?_
    refine WPL.q tk0 (mv rfl) rfl ?_
    refine WPL.q tk0 (mv rfl) rfl ?_
    obtain ⟨n17, hn18, H⟩ := H
    refine WPL.q tk0 (cvI (uI iO_5) iO_25 rfl hn18) rfl ?_
    obtain ⟨n19, hn20, H⟩ := H
    refine WPL.q tk0 (bXor rfl rfl hn20) rfl ?_
    refine WPL.q tk0 (asg rfl) rfl ?_
    refine WPL.nil ?_
    refine WQ.next ?_
    refine WPC.seq ?_
    refine WPC.region ?_
    refine WPL.q tk0 (mv rfl) rfl ?_
    obtain ⟨n21, hn22, H⟩ := H
    refine WPL.q tk0 (bShr rfl rfl (by decide) hn22) rfl ?_
    refine WPL.q tk0 (mv rfl) rfl ?_
    have HC := wal_half_ok (W := W) H
    refine WPL.eff tk0 (cl cO_84 rfl HC) rfl ?_
    rintro _ h25 ⟨n24, rfl, H⟩
    obtain ⟨n26, hn27, H⟩ := H
    refine WPL.q tk0 (bXor rfl rfl hn27) rfl ?_
    refine WPL.q tk0 (asg rfl) rfl ?_
    refine WPL.nil ?_
    refine WQ.next ?_
    refine WPC.region ?_
    refine WPL.q tk0 (mv rfl) rfl ?_
    obtain ⟨n28, hn29, H⟩ := H
    refine WPL.q tk0 (bShr rfl rfl (by decide) hn29) rfl ?_
    refine WPL.q tk0 (mv rfl) rfl ?_
    have HC := wal_half_ok (W := W) H
    refine WPL.eff tk0 (cl cO_84 rfl HC) rfl ?_
    rintro _ h32 ⟨n31, rfl, H⟩
    obtain ⟨n33, hn34, H⟩ := H
    refine WPL.q tk0 (bXor rfl rfl hn34) rfl ?_
    refine WPL.q tk0 (asg rfl) rfl ?_
    refine WPL.nil ?_
    refine WQ.blockN ?_
    refine WQ.next ?_
    refine WPC.region ?_
    obtain ⟨n35, hn36, H⟩ := H
    refine WPL.q tk0 (bAdd rfl rfl hn36) rfl ?_
    refine WPL.q tk0 (mv rfl) rfl ?_
    refine WPL.nil ?_
    obtain ⟨m37, lt38, H⟩ := H
    exact WQ.again lt38 ⟨_, _, rfl, H⟩ ⟨rfl, rfl, rfl, rfl, trivial⟩
  · have H := H.2 hb10
    refine WPC.exit ?_
    refine WQ.thenX ?_
    refine WQ.thenX ?_
    refine WQ.hit ?_
    refine WQ.next ?_
    refine WPC.seq ?_
    refine WPC.region ?_
    refine WPL.q tk0 (mv rfl) rfl ?_
    obtain ⟨n40, hn41, H⟩ := H
    refine WPL.q tk0 (uXor rfl rfl hn41) rfl ?_
    refine WPL.q tk0 (asg rfl) rfl ?_
    refine WPL.nil ?_
    refine WQ.next ?_
    refine WPC.ret ?_
    exact WQ.done (rets1 rfl rfl) ⟨_, rfl, H⟩

/-- trellis/trellisref3.Sum -/
def ref3_Sum (b1 : Sl) (K : Int → Hp → Prop) (h : Hp) : Prop :=
  ∃ I4 : Nat → Int → Int → Hp → Prop, (∃ m8, I4 m8 4294967295 0 h) ∧ ∀ (m5 : Nat) (r2 : Int) (i3 : Int) (h6 : Hp), I4 m5 r2 i3 h6 → (((decide (i3 < (b1.len : Int))) = true → (∃ a11 : Addr, b1.p = some a11 ∧ 0 ≤ i3 ∧ i3 < (b1.len : Int) ∧ ∃ n16 : Int, rdc h6 (a11.add (Int.toNat i3 * 1)) = some (.int .u8 n16) ∧ ∃ n17 : Int, Wr .u32 n16 n17 ∧ ∃ n19 : Int, n19 = IntKind.u32.wrap ((BitVec.ofInt (IntKind.bits .u32) r2 ^^^ BitVec.ofInt (IntKind.bits .u32) n17).toNat : Int) ∧ ∃ I23 : Nat → Int → Int → Hp → Prop, (∃ m27, I23 m27 n19 0 h6) ∧ ∀ (m24 : Nat) (r21 : Int) (k22 : Int) (h25 : Hp), I23 m24 r21 k22 h25 → (((decide (k22 < 8)) = true → (∃ k31 : Int → Hp → Prop, (∀ (r30 : Int) (h34 : Hp), k31 r30 h34 → (∃ n36 : Int, Wr .i64 (k22 + 1) n36 ∧ ∃ m38, m38 < m24 ∧ I23 m38 r30 n36 h34)) ∧ (∃ n41 : Int, n41 = Int.tmod r21 2 ∧ ((n41 == 1) = true → (∃ n45 : Int, n45 = Int.fdiv r21 (2 ^ (min (Int.toNat 1) (IntKind.bits .u32))) ∧ ∃ n48 : Int, n48 = IntKind.u32.wrap ((BitVec.ofInt (IntKind.bits .u32) n45 ^^^ BitVec.ofInt (IntKind.bits .u32) 3988292384).toNat : Int) ∧ k31 n48 h25)) ∧ ((n41 == 1) = false → (∃ n50 : Int, n50 = Int.fdiv r21 (2 ^ (min (Int.toNat 1) (IntKind.bits .u32))) ∧ k31 n50 h25))))) ∧ ((decide (k22 < 8)) = false → (∃ n53 : Int, Wr .i64 (i3 + 1) n53 ∧ ∃ m55, m55 < m5 ∧ I4 m55 r21 n53 h25))))) ∧ ((decide (i3 < (b1.len : Int))) = false → (∃ n58 : Int, n58 = IntKind.u32.wrap ((BitVec.ofInt (IntKind.bits .u32) r2 ^^^ BitVec.ofInt (IntKind.bits .u32) 4294967295).toNat : Int) ∧ K n58 h6)))

theorem ref3_Sum_ok {W : World} {h : Hp} {b1 : Sl} {K : Int → Hp → Prop} (H : ref3_Sum b1 K h) :
    CallsH Try.prog 29 (List.toArray [b1.v]) W h (fun v h' => ∃ (n1 : Int), v = .int .u32 n1 ∧ K n1 h') := by
  unfold ref3_Sum at H
  refine CallsH.intro (fn := Try.f29) (N := 33) (e := aE 0 [b1.v]) Try.func29 rfl rfl (aE_spec _) rfl ?_
  refine WPC.seq ?_
  refine WPC.region ?_
  refine WPL.q tk0 (asg rfl) rfl ?_
  refine WPL.nil ?_
  refine WQ.next ?_
  refine WPC.seq ?_
  refine WPC.region ?_
  refine WPL.q tk0 (asg rfl) rfl ?_
  refine WPL.nil ?_
  refine WQ.next ?_
  refine WPC.seq ?_
  refine WPC.seq ?_
  refine WPC.region ?_
  refine WPL.q tk0 (asg rfl) rfl ?_
  refine WPL.nil ?_
  refine WQ.next ?_
  refine WPC.block ?_
  obtain ⟨I4, ⟨m8, HI9⟩, H⟩ := H
  refine WPC.weak (e' := [(0, b1.v), (3, .int .u32 4294967295), (4, .int .i64 0)]) ?_ ⟨rfl, rfl, rfl, trivial⟩
  refine WPC.loop (fun m e h => ∃ (r2 : Int), ∃ (i3 : Int), e = [(0, b1.v), (3, .int .u32 r2), (4, .int .i64 i3)] ∧ I4 m r2 i3 h) ⟨m8, _, _, rfl, HI9⟩ ?_
  rintro m5 _ h6 ⟨r2, i3, rfl, HI7⟩
  have H := H m5 r2 i3 h6 HI7
  refine WPC.seq ?_
  refine WPC.seq ?_
  refine WPC.region ?_
  refine WPL.q tk0 (mv rfl) rfl ?_
  refine WPL.q tk0 (mv rfl) rfl ?_
  refine WPL.q tk0 (lnb sO_24 rfl) rfl ?_
  refine WPL.q tk0 (bLss rfl rfl) rfl ?_
  refine WPL.nil ?_
  refine WQ.next ?_
  refine WPC.cond rfl (fun hb10 => ?_) (fun hb10 => ?_)
  · have H := H.1 hb10
    refine WPC.skip ?_
    refine WQ.next ?_
    refine WPC.seq ?_
    refine WPC.block ?_
    refine WPC.seq ?_
    refine WPC.region ?_
    refine WPL.q tk0 (mv rfl) rfl ?_
    refine WPL.q tk0 (mv rfl) rfl ?_
    refine WPL.q tk0 (mv rfl) rfl ?_
    obtain ⟨a11, ha12, H⟩ := H
    obtain ⟨h13, h14, H⟩ := H
    refine WPL.q tk0 (ixSb sO_24 rfl rfl ha12 h13 h14) rfl ?_
    obtain ⟨n16, hv15, H⟩ := H
    refine WPL.q tk0 (ld kO_5 rfl hv15) rfl ?_
    obtain ⟨n17, hn18, H⟩ := H
    refine WPL.q tk0 (cvI (uI iO_5) iO_25 rfl hn18) rfl ?_
    obtain ⟨n19, hn20, H⟩ := H
    refine WPL.q tk0 (bXor rfl rfl hn20) rfl ?_
    refine WPL.q tk0 (asg rfl) rfl ?_
    refine WPL.nil ?_
    refine WQ.next ?_
    refine WPC.seq ?_
    refine WPC.region ?_
    refine WPL.q tk0 (asg rfl) rfl ?_
    refine WPL.nil ?_
    refine WQ.next ?_
    refine WPC.block ?_
    obtain ⟨I23, ⟨m27, HI28⟩, H⟩ := H
    refine WPC.weak (e' := [(0, b1.v), (3, .int .u32 n19), (4, .int .i64 i3), (5, .int .i64 0)]) ?_ ⟨rfl, rfl, rfl, rfl, trivial⟩
    refine WPC.loop (fun m e h => ∃ (r21 : Int), ∃ (k22 : Int), e = [(0, b1.v), (3, .int .u32 r21), (4, .int .i64 i3), (5, .int .i64 k22)] ∧ I23 m r21 k22 h) ⟨m27, _, _, rfl, HI28⟩ ?_
    rintro m24 _ h25 ⟨r21, k22, rfl, HI26⟩
    have H := H m24 r21 k22 h25 HI26
    refine WPC.seq ?_
    refine WPC.seq ?_
    refine WPC.region ?_
    refine WPL.q tk0 (mv rfl) rfl ?_
    refine WPL.q tk0 (bLss rfl rfl) rfl ?_
    refine WPL.nil ?_
    refine WQ.next ?_
    refine WPC.cond rfl (fun hb29 => ?_) (fun hb29 => ?_)
    · have H := H.1 hb29
      refine WPC.skip ?_
      refine WQ.next ?_
      refine WPC.seq ?_
      obtain ⟨k31, hk33, H⟩ := H
      refine WPC.join (fun e h => ∃ (r30 : Int), e = [(0, b1.v), (3, .int .u32 r30), (4, .int .i64 i3), (5, .int .i64 k22)] ∧ k31 r30 h) ?_ (fun hj32 => ?_)
      · rintro _ h34 ⟨r30, rfl, HK35⟩
        have H := hk33 r30 h34 HK35
        refine WQ.next ?_
        refine WPC.region ?_
        refine WPL.q tk0 (mv rfl) rfl ?_
        obtain ⟨n36, hn37, H⟩ := H
        refine WPL.q tk0 (bAdd rfl rfl hn37) rfl ?_
        refine WPL.q tk0 (asg rfl) rfl ?_
        refine WPL.nil ?_
        obtain ⟨m38, lt39, H⟩ := H
        exact WQ.again lt39 ⟨_, _, rfl, H⟩ ⟨rfl, rfl, rfl, rfl, trivial⟩
      · refine WPC.block ?_
        refine WPC.seq ?_
        refine WPC.region ?_
        refine WPL.q tk0 (mv rfl) rfl ?_
        obtain ⟨n41, hn42, H⟩ := H
        refine WPL.q tk0 (bRem rfl rfl (by decide) hn42) rfl ?_
        refine WPL.q tk0 (bEql rfl rfl) rfl ?_
        refine WPL.nil ?_
        refine WQ.next ?_
        refine WPC.cond rfl (fun hb44 => ?_) (fun hb44 => ?_)
        · have H := H.1 hb44
          refine WPC.region ?_
          refine WPL.q tk0 (mv rfl) rfl ?_
          obtain ⟨n45, hn46, H⟩ := H
          refine WPL.q tk0 (bShr rfl rfl (by decide) hn46) rfl ?_
          obtain ⟨n48, hn49, H⟩ := H
          refine WPL.q tk0 (bXor rfl rfl hn49) rfl ?_
          refine WPL.q tk0 (asg rfl) rfl ?_
          refine WPL.nil ?_
          refine WQ.blockN ?_
          exact (hj32 _ _ ⟨_, rfl, H⟩).weak ⟨rfl, rfl, rfl, rfl, trivial⟩
        · have H := H.2 hb44
          refine WPC.region ?_
          refine WPL.q tk0 (mv rfl) rfl ?_
          obtain ⟨n50, hn51, H⟩ := H
          refine WPL.q tk0 (bShr rfl rfl (by decide) hn51) rfl ?_
          refine WPL.q tk0 (asg rfl) rfl ?_
          refine WPL.nil ?_
          refine WQ.blockN ?_
          exact (hj32 _ _ ⟨_, rfl, H⟩).weak ⟨rfl, rfl, rfl, rfl, trivial⟩
    · have H := H.2 hb29
      refine WPC.exit ?_
      refine WQ.thenX ?_
      refine WQ.thenX ?_
      refine WQ.hit ?_
      refine WQ.blockN ?_
      refine WQ.next ?_
      refine WPC.region ?_
      refine WPL.q tk0 (mv rfl) rfl ?_
      obtain ⟨n53, hn54, H⟩ := H
      refine WPL.q tk0 (bAdd rfl rfl hn54) rfl ?_
      refine WPL.q tk0 (asg rfl) rfl ?_
      refine WPL.nil ?_
      obtain ⟨m55, lt56, H⟩ := H
      exact WQ.again lt56 ⟨_, _, rfl, H⟩ ⟨rfl, rfl, rfl, trivial⟩
  · have H := H.2 hb10
    refine WPC.exit ?_
    refine WQ.thenX ?_
    refine WQ.thenX ?_
    refine WQ.hit ?_
    refine WQ.next ?_
    refine WPC.seq ?_
    refine WPC.region ?_
    refine WPL.q tk0 (mv rfl) rfl ?_
    obtain ⟨n58, hn59, H⟩ := H
    refine WPL.q tk0 (bXor rfl rfl hn59) rfl ?_
    refine WPL.q tk0 (asg rfl) rfl ?_
    refine WPL.nil ?_
    refine WQ.next ?_
    refine WPC.ret ?_
    exact WQ.done (rets1 rfl rfl) ⟨_, rfl, H⟩

/-- trellis/trellislaw3.walSame -/
def law3_walSame (a1 : Sl) (b2 : Sl) (K : Bool → Hp → Prop) (h : Hp) : Prop :=
  (((a1.len : Int) != (b2.len : Int)) = true → (K false h)) ∧ (((a1.len : Int) != (b2.len : Int)) = false → (∃ I5 : Nat → Int → Hp → Prop, (∃ m9, I5 m9 0 h) ∧ ∀ (m6 : Nat) (i4 : Int) (h7 : Hp), I5 m6 i4 h7 → (((decide (i4 < (a1.len : Int))) = true → (∃ a12 : Addr, a1.p = some a12 ∧ 0 ≤ i4 ∧ i4 < (a1.len : Int) ∧ ∃ n17 : Int, rdc h7 (a12.add (Int.toNat i4 * 1)) = some (.int .u8 n17) ∧ ∃ a18 : Addr, b2.p = some a18 ∧ 0 ≤ i4 ∧ i4 < (b2.len : Int) ∧ ∃ n23 : Int, rdc h7 (a18.add (Int.toNat i4 * 1)) = some (.int .u8 n23) ∧ ((n17 != n23) = true → (K false h7)) ∧ ((n17 != n23) = false → (∃ n25 : Int, Wr .i64 (i4 + 1) n25 ∧ ∃ m27, m27 < m6 ∧ I5 m27 n25 h7)))) ∧ ((decide (i4 < (a1.len : Int))) = false → (K true h7)))))

theorem law3_walSame_ok {W : World} {h : Hp} {a1 : Sl} {b2 : Sl} {K : Bool → Hp → Prop} (H : law3_walSame a1 b2 K h) :
    CallsH Try.prog 75 (List.toArray [a1.v, b2.v]) W h (fun v h' => ∃ (b1 : Bool), v = .bool b1 ∧ K b1 h') := by
  unfold law3_walSame at H
  refine CallsH.intro (fn := Try.f75) (N := 26) (e := aE 0 [a1.v, b2.v]) Try.func75 rfl rfl (aE_spec _) rfl ?_
  refine WPC.seq ?_
  refine WPC.region ?_
  refine WPL.q tk0 (asg rfl) rfl ?_
  refine WPL.nil ?_
  refine WQ.next ?_
  refine WPC.seq ?_
  refine WPC.seq ?_
  refine WPC.region ?_
  refine WPL.q tk0 (mv rfl) rfl ?_
  refine WPL.q tk0 (lnb sO_24 rfl) rfl ?_
  refine WPL.q tk0 (mv rfl) rfl ?_
  refine WPL.q tk0 (lnb sO_24 rfl) rfl ?_
  refine WPL.q tk0 (bNeq rfl rfl) rfl ?_
  refine WPL.nil ?_
  refine WQ.next ?_
  refine WPC.cond rfl (fun hb3 => ?_) (fun hb3 => ?_)
  · have H := H.1 hb3
    refine WPC.seq ?_
    refine WPC.region ?_
    refine WPL.q tk0 (asg rfl) rfl ?_
    refine WPL.nil ?_
    refine WQ.next ?_
    refine WPC.ret ?_
    refine WQ.thenR ?_
    exact WQ.done (rets1 rfl rfl) ⟨_, rfl, H⟩
  · have H := H.2 hb3
    refine WPC.skip ?_
    refine WQ.next ?_
    refine WPC.seq ?_
    refine WPC.seq ?_
    refine WPC.region ?_
    refine WPL.q tk0 (asg rfl) rfl ?_
    refine WPL.nil ?_
    refine WQ.next ?_
    refine WPC.block ?_
    obtain ⟨I5, ⟨m9, HI10⟩, H⟩ := H
    refine WPC.weak (e' := [(0, a1.v), (1, b2.v), (5, .int .i64 0)]) ?_ ⟨rfl, rfl, rfl, trivial⟩
    refine WPC.loop (fun m e h => ∃ (i4 : Int), e = [(0, a1.v), (1, b2.v), (5, .int .i64 i4)] ∧ I5 m i4 h) ⟨m9, _, rfl, HI10⟩ ?_
    rintro m6 _ h7 ⟨i4, rfl, HI8⟩
    have H := H m6 i4 h7 HI8
    refine WPC.seq ?_
    refine WPC.seq ?_
    refine WPC.region ?_
    refine WPL.q tk0 (mv rfl) rfl ?_
    refine WPL.q tk0 (mv rfl) rfl ?_
    refine WPL.q tk0 (lnb sO_24 rfl) rfl ?_
    refine WPL.q tk0 (bLss rfl rfl) rfl ?_
    refine WPL.nil ?_
    refine WQ.next ?_
    refine WPC.cond rfl (fun hb11 => ?_) (fun hb11 => ?_)
    · have H := H.1 hb11
      refine WPC.skip ?_
      refine WQ.next ?_
      refine WPC.seq ?_
      refine WPC.block ?_
      refine WPC.seq ?_
      refine WPC.draw (al := [0, 0, 3, 7, 0, 0, 48, 112, 255]) (p := (.p 0 (.p 1 (.p 2 (.q 3 (.p 4 (.p 5 (.p 6 (.q 7 (.p 8 .done)))))))))) mixO (by kernel_rfl) ?_
      refine PL.pp rfl rfl tk0 (fun _ => mv rfl) ?_
      refine PL.pp rfl rfl tk0 (fun _ => mv rfl) ?_
      obtain ⟨a12, ha13, H⟩ := H
      obtain ⟨h14, h15, H⟩ := H
      refine PL.pp rfl rfl tk0 (fun _ => ixSb sO_24 rfl rfl ha13 h14 h15) ?_
      obtain ⟨n17, hv16, H⟩ := H
      refine PL.qq rfl rfl tk0 (ld kO_5 rfl hv16) ?_
      refine PL.pp rfl rfl tk0 (fun _ => mv rfl) ?_
      refine PL.pp rfl rfl tk0 (fun _ => mv rfl) ?_
      obtain ⟨a18, ha19, H⟩ := H
      obtain ⟨h20, h21, H⟩ := H
      refine PL.pp rfl rfl tk0 (fun _ => ixSb sO_24 rfl rfl ha19 h20 h21) ?_
      obtain ⟨n23, hv22, H⟩ := H
      refine PL.qq rfl rfl tk0 (ld kO_5 rfl hv22) ?_
      refine PL.pp rfl rfl tk0 (fun _ => bNeq rfl rfl) ?_
      refine WQ.next ?_
      refine WPC.cond rfl (fun hb24 => ?_) (fun hb24 => ?_)
      · have H := H.1 hb24
        refine WPC.seq ?_
        refine WPC.region ?_
        refine WPL.q tk0 (asg rfl) rfl ?_
        refine WPL.nil ?_
        refine WQ.next ?_
        refine WPC.ret ?_
        refine WQ.blockR ?_
        refine WQ.thenR ?_
        refine WQ.thenR ?_
        refine WQ.blockR ?_
        refine WQ.thenR ?_
        exact WQ.done (rets1 rfl rfl) ⟨_, rfl, H⟩
      · have H := H.2 hb24
        refine WPC.skip ?_
        refine WQ.blockN ?_
        refine WQ.next ?_
        refine WPC.region ?_
        refine WPL.q tk0 (mv rfl) rfl ?_
        obtain ⟨n25, hn26, H⟩ := H
        refine WPL.q tk0 (bAdd rfl rfl hn26) rfl ?_
        refine WPL.q tk0 (asg rfl) rfl ?_
        refine WPL.nil ?_
        obtain ⟨m27, lt28, H⟩ := H
        exact WQ.again lt28 ⟨_, rfl, H⟩ ⟨rfl, rfl, rfl, trivial⟩
    · have H := H.2 hb11
      refine WPC.exit ?_
      refine WQ.thenX ?_
      refine WQ.thenX ?_
      refine WQ.hit ?_
      refine WQ.next ?_
      refine WPC.seq ?_
      refine WPC.region ?_
      refine WPL.q tk0 (asg rfl) rfl ?_
      refine WPL.nil ?_
      refine WQ.next ?_
      refine WPC.ret ?_
      exact WQ.done (rets1 rfl rfl) ⟨_, rfl, H⟩

end Go.Proofs.Ythpeadoidpimmaa
