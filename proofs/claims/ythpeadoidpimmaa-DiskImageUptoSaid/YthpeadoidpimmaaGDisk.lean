/- What each Go function of this group asks ahead of a call (printed by gen.py), and that this is enough. -/
import Derived.Test.YthpeadoidpimmaaTy
namespace Go.Proofs.Ythpeadoidpimmaa
open Go Tw
set_option linter.unusedVariables false
set_option maxRecDepth 10000
set_option maxHeartbeats 4000000

/-- trellis/disk.blank -/
def disk_blank (sectors1 : Int) (K : Option Addr → Hp → Prop) (h : Hp) : Prop :=
  0 ≤ sectors1 ∧ sectors1 ≤ sectors1 ∧ sectors1 * (128 : Nat) ≤ 281474976710656 ∧ ∃ (b2 : Nat) (h3 : Hp) (s4 : Sl), b2 = h.size ∧ h3 = h.push (Cel (zr ((List.replicate 128 (0 : UInt8)).map bv) (Int.toNat sectors1 * 128)) 143) ∧ s4 = ⟨some (nA b2), Int.toNat sectors1, Int.toNat sectors1⟩ ∧ ∃ (b11 : Nat) (h12 : Hp), b11 = h3.size ∧ h12 = h3.push (.map #[] 0) ∧ ∃ (b15 : Nat) (h16 : Hp), b15 = h12.size ∧ h16 = h12.push (Cel [s4.v, .slice none 0 0, .map (some b11), .int .i64 (-1), .bool false, .int .i64 0, .int .i64 0] 141) ∧ K (some (nA b15)) h16

theorem disk_blank_ok {W : World} {h : Hp} {sectors1 : Int} {K : Option Addr → Hp → Prop} (H : disk_blank sectors1 K h) :
    CallsH Try.prog 90 (List.toArray [.int .i64 sectors1]) W h (fun v h' => ∃ (p1 : Option Addr), v = .pointer p1 ∧ K p1 h') := by
  unfold disk_blank at H
  refine CallsH.intro (fn := Try.f90) (N := 8) (e := aE 0 [.int .i64 sectors1]) Try.func90 rfl rfl (aE_spec _) rfl ?_
  refine WPC.seq ?_
  refine WPC.region ?_
  refine WPL.q tk0 (asg rfl) rfl ?_
  refine WPL.nil ?_
  refine WQ.next ?_
  refine WPC.seq ?_
  refine WPC.region ?_
  refine WPL.q tk0 (mv rfl) rfl ?_
  obtain ⟨c8, c9, c10, b2, h3, s4, hb5, hh6, hs7, H⟩ := H
  refine WPL.f tk0 (mksN sO_137 zO_143 (by decide) rfl rfl c8 c9 c10 hb5 hh6 hs7) rfl ?_
  obtain ⟨b11, h12, hb13, hh14, H⟩ := H
  refine WPL.f tk0 (mkMN hb13 hh14) rfl ?_
  refine WPL.q tk0 (bd (l := [s4.v, .slice none 0 0, .map (some b11), .int .i64 (-1), .bool false, .int .i64 0, .int .i64 0]) rfl (by kernel_rfl)) rfl ?_
  obtain ⟨b15, h16, hb17, hh18, H⟩ := H
  refine WPL.f tk0 (bxN (l := [s4.v, .slice none 0 0, .map (some b11), .int .i64 (-1), .bool false, .int .i64 0, .int .i64 0]) rfl rfl hb17 hh18) rfl ?_
  refine WPL.q tk0 (asg rfl) rfl ?_
  refine WPL.nil ?_
  refine WQ.next ?_
  refine WPC.ret ?_
  exact WQ.done (rets1 rfl rfl) ⟨_, rfl, H⟩

/-- trellis/disk.New -/
def disk_New (sectors1 : Int) (K : Option Addr → Int → Hp → Prop) (h : Hp) : Prop :=
  ∃ k3 : Bool → Hp → Prop, (∀ (b2 : Bool) (h6 : Hp), k3 b2 h6 → ((b2 = true → (K none 1 h6)) ∧ (b2 = false → (disk_blank sectors1 (fun p9 h10 => K p9 0 h10) h6)))) ∧ (((decide (sectors1 < 1)) = true → (k3 true h)) ∧ ((decide (sectors1 < 1)) = false → (k3 (decide (sectors1 > 4096)) h)))

theorem disk_New_ok {W : World} {h : Hp} {sectors1 : Int} {K : Option Addr → Int → Hp → Prop} (H : disk_New sectors1 K h) :
    CallsH Try.prog 85 (List.toArray [.int .i64 sectors1]) W h (fun v h' => ∃ (p1 : Option Addr) (n2 : Int), v = .tuple #[.pointer p1, .int .i64 n2] ∧ K p1 n2 h') := by
  unfold disk_New at H
  refine CallsH.intro (fn := Try.f85) (N := 12) (e := aE 0 [.int .i64 sectors1]) Try.func85 rfl rfl (aE_spec _) rfl ?_
  refine WPC.seq ?_
  refine WPC.region ?_
  refine WPL.q tk0 (asg rfl) rfl ?_
  refine WPL.q tk0 (asg rfl) rfl ?_
  refine WPL.nil ?_
  refine WQ.next ?_
  refine WPC.seq ?_
  refine WPC.seq ?_
  obtain ⟨k3, hk5, H⟩ := H
  refine WPC.join (fun e h => ∃ (b2 : Bool), e = [(0, .int .i64 sectors1), (9, .bool b2)] ∧ k3 b2 h) ?_ (fun hj4 => ?_)
  · rintro _ h6 ⟨b2, rfl, HK7⟩
    have H := hk5 b2 h6 HK7
    refine WQ.next ?_
    refine WPC.cond rfl (fun hb8 => ?_) (fun hb8 => ?_)
    · have H := H.1 hb8
      refine WPC.seq ?_
      refine WPC.region ?_
      refine WPL.q tk0 (asg rfl) rfl ?_
      refine WPL.q tk0 (asg rfl) rfl ?_
      refine WPL.nil ?_
      refine WQ.next ?_
      refine WPC.ret ?_
      refine WQ.thenR ?_
      exact WQ.done (rets2 rfl rfl rfl) ⟨_, _, rfl, H⟩
    · have H := H.2 hb8
      refine WPC.skip ?_
      refine WQ.next ?_
      refine WPC.seq ?_
      refine WPC.region ?_
      refine WPL.q tk0 (mv rfl) rfl ?_
      have HC := disk_blank_ok (W := W) H
      refine WPL.eff tk0 (cl cO_90 rfl HC) rfl ?_
      rintro _ h10 ⟨p9, rfl, H⟩
      refine WPL.q tk0 (asg rfl) rfl ?_
      refine WPL.q tk0 (asg rfl) rfl ?_
      refine WPL.nil ?_
      refine WQ.next ?_
      refine WPC.ret ?_
      exact WQ.done (rets2 rfl rfl rfl) ⟨_, _, rfl, H⟩
  · refine WPC.region ?_
    refine WPL.q tk0 (mv rfl) rfl ?_
    refine WPL.q tk0 (bLss rfl rfl) rfl ?_
    refine WPL.q tk0 (mv rfl) rfl ?_
    rcases Bool.eq_false_or_eq_true ((decide (sectors1 < 1))) with hb11 | hb11
    · have H := H.1 hb11
      refine WPL.skip (ntkb rfl rfl hb11) rfl ?_
      refine WPL.skip (ntkb rfl rfl hb11) rfl ?_
      refine WPL.q tk0 (pkTb rfl hb11 rfl) rfl ?_
      refine WPL.nil ?_
      exact (hj4 _ _ ⟨_, rfl, H⟩).weak ⟨rfl, rfl, trivial⟩
    · have H := H.2 hb11
      refine WPL.q (tkb rfl rfl hb11) (mv rfl) rfl ?_
      refine WPL.q (tkb rfl rfl hb11) (bGtr rfl rfl) rfl ?_
      refine WPL.q tk0 (pkFb rfl hb11 rfl) rfl ?_
      refine WPL.nil ?_
      exact (hj4 _ _ ⟨_, rfl, H⟩).weak ⟨rfl, rfl, trivial⟩

/-- (*trellis/disk.Disk).burn -/
def disk_Disk_burn (d1 : Option Addr) (K : Bool → Hp → Prop) (h : Hp) : Prop :=
  ∃ a2 : Addr, d1 = some a2 ∧ ∃ b5 : Bool, rdc h (a2.add 4) = some (.bool b5) ∧ (b5 = true → (K false h)) ∧ (b5 = false → (∃ n8 : Int, rdc h (a2.add 3) = some (.int .i64 n8) ∧ ((n8 == 0) = true → (∃ h10 : Hp, StL h (a2.add 4) [.bool true] h10 ∧ K false h10)) ∧ ((n8 == 0) = false → (∃ n13 : Int, rdc h (a2.add 3) = some (.int .i64 n13) ∧ ((decide (n13 > 0)) = true → (∃ n16 : Int, rdc h (a2.add 3) = some (.int .i64 n16) ∧ ∃ n17 : Int, Wr .i64 (n16 - 1) n17 ∧ ∃ h19 : Hp, StL h (a2.add 3) [.int .i64 n17] h19 ∧ K true h19)) ∧ ((decide (n13 > 0)) = false → (K true h))))))

theorem disk_Disk_burn_ok {W : World} {h : Hp} {d1 : Option Addr} {K : Bool → Hp → Prop} (H : disk_Disk_burn d1 K h) :
    CallsH Try.prog 87 (List.toArray [.pointer d1]) W h (fun v h' => ∃ (b1 : Bool), v = .bool b1 ∧ K b1 h') := by
  unfold disk_Disk_burn at H
  refine CallsH.intro (fn := Try.f87) (N := 27) (e := aE 0 [.pointer d1]) Try.func87 rfl rfl (aE_spec _) rfl ?_
  refine WPC.seq ?_
  refine WPC.region ?_
  refine WPL.q tk0 (asg rfl) rfl ?_
  refine WPL.nil ?_
  refine WQ.next ?_
  refine WPC.seq ?_
  refine WPC.seq ?_
  refine WPC.region ?_
  refine WPL.q tk0 (mv rfl) rfl ?_
  obtain ⟨a2, ha3, H⟩ := H
  refine WPL.q tk0 (ncb rfl ha3) rfl ?_
  refine WPL.q tk0 (fa fO_141_4 rfl) rfl ?_
  obtain ⟨b5, hv4, H⟩ := H
  refine WPL.q tk0 (ld kO_4 rfl hv4) rfl ?_
  refine WPL.nil ?_
  refine WQ.next ?_
  refine WPC.cond rfl (fun hb6 => ?_) (fun hb6 => ?_)
  · have H := H.1 hb6
    refine WPC.seq ?_
    refine WPC.region ?_
    refine WPL.q tk0 (asg rfl) rfl ?_
    refine WPL.nil ?_
    refine WQ.next ?_
    refine WPC.ret ?_
    refine WQ.thenR ?_
    exact WQ.done (rets1 rfl rfl) ⟨_, rfl, H⟩
  · have H := H.2 hb6
    refine WPC.skip ?_
    refine WQ.next ?_
    refine WPC.seq ?_
    refine WPC.seq ?_
    refine WPC.region ?_
    refine WPL.q tk0 (mv rfl) rfl ?_
    refine WPL.q tk0 (ncb rfl ha3) rfl ?_
    refine WPL.q tk0 (fa fO_141_3 rfl) rfl ?_
    obtain ⟨n8, hv7, H⟩ := H
    refine WPL.q tk0 (ld kO_3 rfl hv7) rfl ?_
    refine WPL.q tk0 (bEql rfl rfl) rfl ?_
    refine WPL.nil ?_
    refine WQ.next ?_
    refine WPC.cond rfl (fun hb9 => ?_) (fun hb9 => ?_)
    · have H := H.1 hb9
      refine WPC.seq ?_
      refine WPC.region ?_
      refine WPL.q tk0 (mv rfl) rfl ?_
      refine WPL.q tk0 (ncb rfl ha3) rfl ?_
      refine WPL.q tk0 (fa fO_141_4 rfl) rfl ?_
      obtain ⟨h10, hs11, H⟩ := H
      refine WPL.f tk0 (st kO_4 rfl rfl rfl hs11) rfl ?_
      refine WPL.nil ?_
      refine WQ.next ?_
      refine WPC.seq ?_
      refine WPC.region ?_
      refine WPL.q tk0 (asg rfl) rfl ?_
      refine WPL.nil ?_
      refine WQ.next ?_
      refine WPC.ret ?_
      refine WQ.thenR ?_
      exact WQ.done (rets1 rfl rfl) ⟨_, rfl, H⟩
    · have H := H.2 hb9
      refine WPC.skip ?_
      refine WQ.next ?_
      refine WPC.seq ?_
      refine WPC.seq ?_
      refine WPC.region ?_
      refine WPL.q tk0 (mv rfl) rfl ?_
      refine WPL.q tk0 (ncb rfl ha3) rfl ?_
      refine WPL.q tk0 (fa fO_141_3 rfl) rfl ?_
      obtain ⟨n13, hv12, H⟩ := H
      refine WPL.q tk0 (ld kO_3 rfl hv12) rfl ?_
      refine WPL.q tk0 (bGtr rfl rfl) rfl ?_
      refine WPL.nil ?_
      refine WQ.next ?_
      refine WPC.cond rfl (fun hb14 => ?_) (fun hb14 => ?_)
      · have H := H.1 hb14
        refine WPC.region ?_
        refine WPL.q tk0 (mv rfl) rfl ?_
        refine WPL.q tk0 (ncb rfl ha3) rfl ?_
        refine WPL.q tk0 (fa fO_141_3 rfl) rfl ?_
        obtain ⟨n16, hv15, H⟩ := H
        refine WPL.q tk0 (ld kO_3 rfl hv15) rfl ?_
        obtain ⟨n17, hn18, H⟩ := H
        refine WPL.q tk0 (bSub rfl rfl hn18) rfl ?_
        refine WPL.q tk0 (ncb rfl ha3) rfl ?_
        refine WPL.q tk0 (fa fO_141_3 rfl) rfl ?_
        obtain ⟨h19, hs20, H⟩ := H
        refine WPL.f tk0 (st kO_3 rfl rfl rfl hs20) rfl ?_
        refine WPL.nil ?_
        refine WQ.next ?_
        refine WPC.seq ?_
        refine WPC.region ?_
        refine WPL.q tk0 (asg rfl) rfl ?_
        refine WPL.nil ?_
        refine WQ.next ?_
        refine WPC.ret ?_
        exact WQ.done (rets1 rfl rfl) ⟨_, rfl, H⟩
      · have H := H.2 hb14
        refine WPC.skip ?_
        refine WQ.next ?_
        refine WPC.seq ?_
        refine WPC.region ?_
        refine WPL.q tk0 (asg rfl) rfl ?_
        refine WPL.nil ?_
        refine WQ.next ?_
        refine WPC.ret ?_
        exact WQ.done (rets1 rfl rfl) ⟨_, rfl, H⟩

/-- (*trellis/disk.Disk).Write -/
def disk_Disk_Write (d1 : Option Addr) (at2 : Int) (data3 : Sl) (K : Int → Hp → Prop) (h : Hp) : Prop :=
  (d1.isNone = true → (K 1 h)) ∧ (d1.isNone = false → (∃ k6 : Bool → Hp → Prop, (∀ (b5 : Bool) (h9 : Hp), k6 b5 h9 → ((b5 = true → (K 20 h9)) ∧ (b5 = false → ((((data3.len : Int) != 128) = true → (K 21 h9)) ∧ (((data3.len : Int) != 128) = false → (disk_Disk_burn d1 (fun b13 h14 => ((!b13) = true → (K 2 h14)) ∧ ((!b13) = false → (∃ (b16 : Nat) (h17 : Hp), b16 = h14.size ∧ h17 = h14.push (Cel (.int .i64 0 :: (List.replicate 128 (0 : UInt8)).map bv) 145) ∧ ∃ h20 : Hp, StL h17 (nA b16) (.int .i64 at2 :: (List.replicate 128 (0 : UInt8)).map bv) h20 ∧ ∃ s22 : Sl, s22 = slA ((nA b16).add 1) 128 1 (Int.toNat (0 : Int)) (Int.toNat ((128 : Nat) : Int)) ∧ ∃ (l28 : List Value) (h27 : Hp) (r32 : Int), RdS h20 ⟨data3.p, Nat.min data3.len s22.len, data3.cap⟩ 1 l28 ∧ oneC l28 ∧ StS h20 s22.p 0 l28 h27 ∧ r32 = ((Nat.min data3.len s22.len : Nat) : Int) ∧ ∃ a34 : Addr, d1 = some a34 ∧ ∃ m37 : Option Nat, rdc h27 (a34.add 2) = some (.map m37) ∧ ∃ s39 : Sl, rdc h27 (a34.add 1) = some (s39.v) ∧ ∃ (r40 : Nat) (mm41 : MM) (c42 : Nat), m37 = some r40 ∧ Mp h27 r40 mm41 c42 ∧ ∃ h45 : Hp, h45 = setB h27 r40 (.map ((mset mm41 at2 (s39.len : Int) c42).map mE).toArray (mclock mm41 at2 c42)) ∧ ∃ s48 : Sl, rdc h45 (a34.add 1) = some (s48.v) ∧ ∃ (n50 : Int) (bs51 : List UInt8), bs51.length = 128 ∧ RdL h45 (nA b16) (.int .i64 n50 :: bs51.map bv) ∧ bs51.length = 128 ∧ ∃ (b53 : Nat) (h54 : Hp) (s55 : Sl), b53 = h45.size ∧ h54 = h45.push (Cel (.int .i64 n50 :: bs51.map bv) 145) ∧ s55 = ⟨some (nA b53), 1, 1⟩ ∧ rdc h54 (a34.add 1) = some (s48.v) ∧ App h54 s48 s55 129 136 145 (.int .i64 0 :: (List.replicate 128 (0 : UInt8)).map bv) (fun s61 h62 => ∃ h63 : Hp, StL h62 (a34.add 1) [s61.v] h63 ∧ ∃ n66 : Int, rdc h63 (a34.add 5) = some (.int .i64 n66) ∧ ∃ n67 : Int, Wr .i64 (n66 + 1) n67 ∧ ∃ h69 : Hp, StL h63 (a34.add 5) [.int .i64 n67] h69 ∧ K 0 h69)))) h9)))))) ∧ (((decide (at2 < 0)) = true → (k6 true h)) ∧ ((decide (at2 < 0)) = false → (∃ a72 : Addr, d1 = some a72 ∧ ∃ s75 : Sl, rdc h (a72.add 0) = some (s75.v) ∧ k6 (decide (at2 ≥ (s75.len : Int))) h)))))

theorem disk_Disk_Write_ok {W : World} {h : Hp} {d1 : Option Addr} {at2 : Int} {data3 : Sl} {K : Int → Hp → Prop} (H : disk_Disk_Write d1 at2 data3 K h) :
    CallsH Try.prog 36 (List.toArray [.pointer d1, .int .i64 at2, data3.v]) W h (fun v h' => ∃ (n1 : Int), v = .int .i64 n1 ∧ K n1 h') := by
  unfold disk_Disk_Write at H
  refine CallsH.intro (fn := Try.f36) (N := 64) (e := aE 0 [.pointer d1, .int .i64 at2, data3.v]) Try.func36 rfl rfl (aE_spec _) rfl ?_
  refine WPC.seq ?_
  refine WPC.region ?_
  refine WPL.q tk0 (asg rfl) rfl ?_
  refine WPL.nil ?_
  refine WQ.next ?_
  refine WPC.seq ?_
  refine WPC.block ?_
  refine WPC.seq ?_
  refine WPC.region ?_
  refine WPL.q tk0 (mv rfl) rfl ?_
  refine WPL.q tk0 (bEqN pO_31 rfl) rfl ?_
  refine WPL.q tk0 (asg rfl) rfl ?_
  refine WPL.nil ?_
  refine WQ.next ?_
  refine WPC.cond rfl (fun hb4 => ?_) (fun hb4 => ?_)
  · have H := H.1 hb4
    refine WPC.seq ?_
    refine WPC.region ?_
    refine WPL.q tk0 (asg rfl) rfl ?_
    refine WPL.nil ?_
    refine WQ.next ?_
    refine WPC.ret ?_
    refine WQ.blockR ?_
    refine WQ.thenR ?_
    exact WQ.done (rets1 rfl rfl) ⟨_, rfl, H⟩
  · have H := H.2 hb4
    refine WPC.seq ?_
    obtain ⟨k6, hk8, H⟩ := H
    refine WPC.join (fun e h => ∃ (b5 : Bool), e = [(0, .pointer d1), (1, .int .i64 at2), (2, data3.v), (11, .bool b5)] ∧ k6 b5 h) ?_ (fun hj7 => ?_)
    · rintro _ h9 ⟨b5, rfl, HK10⟩
      have H := hk8 b5 h9 HK10
      refine WQ.next ?_
      refine WPC.cond rfl (fun hb11 => ?_) (fun hb11 => ?_)
      · have H := H.1 hb11
        refine WPC.seq ?_
        refine WPC.region ?_
        refine WPL.q tk0 (asg rfl) rfl ?_
        refine WPL.nil ?_
        refine WQ.next ?_
        refine WPC.ret ?_
        refine WQ.blockR ?_
        refine WQ.thenR ?_
        exact WQ.done (rets1 rfl rfl) ⟨_, rfl, H⟩
      · have H := H.2 hb11
        refine WPC.seq ?_
        refine WPC.region ?_
        refine WPL.q tk0 (mv rfl) rfl ?_
        refine WPL.q tk0 (lnb sO_24 rfl) rfl ?_
        refine WPL.q tk0 (bNeq rfl rfl) rfl ?_
        refine WPL.q tk0 (asg rfl) rfl ?_
        refine WPL.nil ?_
        refine WQ.next ?_
        refine WPC.cond rfl (fun hb12 => ?_) (fun hb12 => ?_)
        · have H := H.1 hb12
          refine WPC.seq ?_
          refine WPC.region ?_
          refine WPL.q tk0 (asg rfl) rfl ?_
          refine WPL.nil ?_
          refine WQ.next ?_
          refine WPC.ret ?_
          refine WQ.blockR ?_
          refine WQ.thenR ?_
          exact WQ.done (rets1 rfl rfl) ⟨_, rfl, H⟩
        · have H := H.2 hb12
          refine WPC.seq ?_
          refine WPC.region ?_
          refine WPL.q tk0 (mv rfl) rfl ?_
          have HC := disk_Disk_burn_ok (W := W) H
          refine WPL.eff tk0 (cl cO_87 rfl HC) rfl ?_
          rintro _ h14 ⟨b13, rfl, H⟩
          refine WPL.q tk0 (uNot rfl) rfl ?_
          refine WPL.q tk0 (asg rfl) rfl ?_
          refine WPL.nil ?_
          refine WQ.next ?_
          refine WPC.cond rfl (fun hb15 => ?_) (fun hb15 => ?_)
          · have H := H.1 hb15
            refine WPC.seq ?_
            refine WPC.region ?_
            refine WPL.q tk0 (asg rfl) rfl ?_
            refine WPL.nil ?_
            refine WQ.next ?_
            refine WPC.ret ?_
            refine WQ.blockR ?_
            refine WQ.thenR ?_
            exact WQ.done (rets1 rfl rfl) ⟨_, rfl, H⟩
          · have H := H.2 hb15
            refine WPC.skip ?_
            refine WQ.blockN ?_
            refine WQ.next ?_
            refine WPC.seq ?_
            refine WPC.region ?_
            refine WPL.q tk0 (mv rfl) rfl ?_
            refine WPL.q tk0 (bd (l := (.int .i64 at2 :: (List.replicate 128 (0 : UInt8)).map bv)) rfl (by kernel_rfl)) rfl ?_
            obtain ⟨b16, h17, hb18, hh19, H⟩ := H
            refine WPL.f tk0 (alN zO_145 hb18 hh19) rfl ?_
            obtain ⟨h20, hs21, H⟩ := H
            refine WPL.f tk0 (stA kO_145 rfl rfl (by simp) (oneC.c rfl oneC.b) hs21) rfl ?_
            refine WPL.nil ?_
            refine WQ.next ?_
            refine WPC.seq ?_
            refine WPC.region ?_
            refine WPL.q tk0 (fa fO_145_1 rfl) rfl ?_
            obtain ⟨s22, hs23, H⟩ := H
            refine WPL.q tk0 (slcAN (l := none) (r := none) aO_143 rfl rfl rfl (by decide) (by decide) (by decide) hs23) rfl ?_
            refine WPL.q tk0 (mv rfl) rfl ?_
            obtain ⟨l28, h27, r32, hl29, ho30, hs31, hr33, H⟩ := H
            refine WPL.f tk0 (cpyN sO_24 rfl rfl hl29 ho30 hs31 hr33) rfl ?_
            refine WPL.nil ?_
            refine WQ.next ?_
            refine WPC.seq ?_
            refine WPC.draw (al := [0, 1, 3, 7, 0, 0, 32, 96, 224, 480, 1023]) (p := (.p 0 (.p 1 (.p 2 (.q 3 (.p 4 (.p 5 (.p 6 (.p 7 (.q 8 (.p 9 (.e1 10 .done)))))))))))) mixO (by kernel_rfl) ?_
            refine PL.pp rfl rfl tk0 (fun _ => mv rfl) ?_
            obtain ⟨a34, ha35, H⟩ := H
            refine PL.pp rfl rfl tk0 (fun _ => ncb rfl ha35) ?_
            refine PL.pp rfl rfl tk0 (fun _ => fa fO_141_2 rfl) ?_
            obtain ⟨m37, hv36, H⟩ := H
            refine PL.qq rfl rfl tk0 (ld kO_139 rfl hv36) ?_
            refine PL.pp rfl rfl tk0 (fun _ => mv rfl) ?_
            refine PL.pp rfl rfl tk0 (fun _ => mv rfl) ?_
            refine PL.pp rfl rfl tk0 (fun _ => ncb rfl ha35) ?_
            refine PL.pp rfl rfl tk0 (fun _ => fa fO_141_1 rfl) ?_
            obtain ⟨s39, hv38, H⟩ := H
            refine PL.qq rfl rfl tk0 (ld kO_138 rfl hv38) ?_
            refine PL.pp rfl rfl tk0 (fun _ => lnb sO_138 rfl) ?_
            obtain ⟨r40, mm41, c42, hq43, hm44, h45, hh46, H⟩ := H
            refine PL.ff (S' := []) (by kernel_rfl) rfl rfl tk0 (upMN mO_139 rfl rfl rfl hq43 hm44 hh46) (Stay.t (by kernel_rfl) (Stay.t (by kernel_rfl) Stay.n)) ?_
            refine WQ.next ?_
            refine WPC.seq ?_
            refine WPC.draw (al := [0, 0, 2, 6, 14, 0, 32, 126, 255, 511, 1023]) (p := (.p 0 (.p 1 (.p 2 (.p 3 (.q 4 (.q 5 (.e1 6 (.e1 7 (.p 8 (.p 9 (.e1 10 .done)))))))))))) mixO (by kernel_rfl) ?_
            refine PL.pp rfl rfl tk0 (fun _ => mv rfl) ?_
            refine PL.pp rfl rfl tk0 (fun _ => mv rfl) ?_
            refine PL.pp rfl rfl tk0 (fun _ => ncb rfl ha35) ?_
            refine PL.pp rfl rfl tk0 (fun _ => fa fO_141_1 rfl) ?_
            obtain ⟨s48, hv47, H⟩ := H
            refine PL.qq rfl rfl tk0 (ld kO_138 rfl hv47) ?_
            obtain ⟨n50, bs51, hl52, hv49, H⟩ := H
            refine PL.qq rfl rfl tk0 (ldA kO_145 rfl (by simp [hl52]) hv49) ?_
            obtain ⟨hl59, H⟩ := H
            obtain ⟨b53, h54, s55, hb56, hh57, hs58, H⟩ := H
            obtain ⟨hs60, H⟩ := H
            refine PL.ff (S' := [(4, s48.v)]) (by kernel_rfl) rfl rfl tk0 (bsl1N (l := (.int .i64 n50 :: bs51.map bv)) sO_138 zO_145 rfl rfl (by simp [hl59]) ⟨by decide, (by simp)⟩ hb56 hh57 hs58) (Stay.t (by kernel_rfl) (Stay.y (by kernel_rfl) rfl tk0 (ld kO_138 rfl hs60) Stay.n)) ?_
            refine PL.ee (S' := []) (by kernel_rfl) rfl rfl tk0 (app (rt := 0) sO_138 zO_145 (by simp) (by decide) rfl rfl H) ?_
            rintro _ h62 ⟨s61, rfl, H⟩
            refine ⟨(Stay.t (by kernel_rfl) Stay.n), ?_⟩
            refine PL.pp rfl rfl tk0 (fun _ => ncb rfl ha35) ?_
            refine PL.pp rfl rfl tk0 (fun _ => fa fO_141_1 rfl) ?_
            obtain ⟨h63, hs64, H⟩ := H
            refine PL.ff (S' := []) (by kernel_rfl) rfl rfl tk0 (st kO_138 rfl rfl rfl hs64) Stay.n ?_
            refine WQ.next ?_
            refine WPC.seq ?_
            refine WPC.region ?_
            refine WPL.q tk0 (mv rfl) rfl ?_
            refine WPL.q tk0 (ncb rfl ha35) rfl ?_
            refine WPL.q tk0 (fa fO_141_5 rfl) rfl ?_
            obtain ⟨n66, hv65, H⟩ := H
            refine WPL.q tk0 (ld kO_3 rfl hv65) rfl ?_
            obtain ⟨n67, hn68, H⟩ := H
            refine WPL.q tk0 (bAdd rfl rfl hn68) rfl ?_
            refine WPL.q tk0 (ncb rfl ha35) rfl ?_
            refine WPL.q tk0 (fa fO_141_5 rfl) rfl ?_
            obtain ⟨h69, hs70, H⟩ := H
            refine WPL.f tk0 (st kO_3 rfl rfl rfl hs70) rfl ?_
            refine WPL.nil ?_
            refine WQ.next ?_
            refine WPC.seq ?_
            refine WPC.region ?_
            refine WPL.q tk0 (asg rfl) rfl ?_
            refine WPL.nil ?_
            refine WQ.next ?_
            refine WPC.ret ?_
            exact WQ.done (rets1 rfl rfl) ⟨_, rfl, H⟩
    · refine WPC.region ?_
      refine WPL.q tk0 (mv rfl) rfl ?_
      refine WPL.q tk0 (bLss rfl rfl) rfl ?_
      refine WPL.q tk0 (mv rfl) rfl ?_
      rcases Bool.eq_false_or_eq_true ((decide (at2 < 0))) with hb71 | hb71
      · have H := H.1 hb71
        refine WPL.skip (ntkb rfl rfl hb71) rfl ?_
        refine WPL.skip (ntkb rfl rfl hb71) rfl ?_
        refine WPL.skip (ntkb rfl rfl hb71) rfl ?_
        refine WPL.skip (ntkb rfl rfl hb71) rfl ?_
        refine WPL.skip (ntkb rfl rfl hb71) rfl ?_
        refine WPL.skip (ntkb rfl rfl hb71) rfl ?_
        refine WPL.skip (ntkb rfl rfl hb71) rfl ?_
        refine WPL.q tk0 (pkTb rfl hb71 rfl) rfl ?_
        refine WPL.q tk0 (asg rfl) rfl ?_
        refine WPL.nil ?_
        exact (hj7 _ _ ⟨_, rfl, H⟩).weak ⟨rfl, rfl, rfl, rfl, trivial⟩
      · have H := H.2 hb71
        refine WPL.q (tkb rfl rfl hb71) (mv rfl) rfl ?_
        refine WPL.q (tkb rfl rfl hb71) (mv rfl) rfl ?_
        obtain ⟨a72, ha73, H⟩ := H
        refine WPL.q (tkb rfl rfl hb71) (ncb rfl ha73) rfl ?_
        refine WPL.q (tkb rfl rfl hb71) (fa fO_141_0 rfl) rfl ?_
        obtain ⟨s75, hv74, H⟩ := H
        refine WPL.q (tkb rfl rfl hb71) (ld kO_137 rfl hv74) rfl ?_
        refine WPL.q (tkb rfl rfl hb71) (lnb sO_137 rfl) rfl ?_
        refine WPL.q (tkb rfl rfl hb71) (bGeq rfl rfl) rfl ?_
        refine WPL.q tk0 (pkFb rfl hb71 rfl) rfl ?_
        refine WPL.q tk0 (asg rfl) rfl ?_
        refine WPL.nil ?_
        exact (hj7 _ _ ⟨_, rfl, H⟩).weak ⟨rfl, rfl, rfl, rfl, trivial⟩

/-- (*trellis/disk.Disk).settle -/
def disk_Disk_settle (d1 : Option Addr) (K : Hp → Prop) (h : Hp) : Prop :=
  ∃ a2 : Addr, d1 = some a2 ∧ ∃ h4 : Hp, StL h (a2.add 1) [.slice none 0 0] h4 ∧ ∃ m7 : Option Nat, rdc h4 (a2.add 2) = some (.map m7) ∧ ∃ (r8 : Nat) (mm9 : MM) (c10 : Nat), m7 = some r8 ∧ Mp h4 r8 mm9 c10 ∧ ∃ h13 : Hp, h13 = setB h4 r8 (.map #[] c10) ∧ K h13

theorem disk_Disk_settle_ok {W : World} {h : Hp} {d1 : Option Addr} {K : Hp → Prop} (H : disk_Disk_settle d1 K h) :
    CallsH Try.prog 88 (List.toArray [.pointer d1]) W h (fun v h' => v = .tuple #[] ∧ K h') := by
  unfold disk_Disk_settle at H
  refine CallsH.intro (fn := Try.f88) (N := 9) (e := aE 0 [.pointer d1]) Try.func88 rfl rfl (aE_spec _) rfl ?_
  refine WPC.seq ?_
  refine WPC.region ?_
  refine WPL.q tk0 (mv rfl) rfl ?_
  obtain ⟨a2, ha3, H⟩ := H
  refine WPL.q tk0 (ncb rfl ha3) rfl ?_
  refine WPL.q tk0 (fa fO_141_1 rfl) rfl ?_
  obtain ⟨h4, hs5, H⟩ := H
  refine WPL.f tk0 (st kO_138 rfl rfl rfl hs5) rfl ?_
  refine WPL.nil ?_
  refine WQ.next ?_
  refine WPC.region ?_
  refine WPL.q tk0 (mv rfl) rfl ?_
  refine WPL.q tk0 (ncb rfl ha3) rfl ?_
  refine WPL.q tk0 (fa fO_141_2 rfl) rfl ?_
  obtain ⟨m7, hv6, H⟩ := H
  refine WPL.q tk0 (ld kO_139 rfl hv6) rfl ?_
  obtain ⟨r8, mm9, c10, hq11, hm12, h13, hh14, H⟩ := H
  refine WPL.f tk0 (clMN mO_139 rfl hq11 hm12 hh14) rfl ?_
  refine WPL.nil ?_
  exact WQ.doneN (rets0 rfl) ⟨rfl, H⟩

/-- (*trellis/disk.Disk).Flush -/
def disk_Disk_Flush (d1 : Option Addr) (K : Int → Hp → Prop) (h : Hp) : Prop :=
  (d1.isNone = true → (K 1 h)) ∧ (d1.isNone = false → (disk_Disk_burn d1 (fun b3 h4 => ((!b3) = true → (K 2 h4)) ∧ ((!b3) = false → (∃ a6 : Addr, d1 = some a6 ∧ ∃ m9 : Option Nat, rdc h4 (a6.add 2) = some (.map m9) ∧ ∃ (r14 : Nat) (mm15 : MM) (c16 : Nat), m9 = some r14 ∧ Mp h4 r14 mm15 c16 ∧ ∃ (b10 : Nat) (h11 : Hp), b10 = h4.size ∧ h11 = h4.push (.mapIter (some r14) c16 #[] c16) ∧ ∃ I19 : Nat → Hp → Prop, (∃ m23, I19 m23 h11) ∧ ∀ (m20 : Nat) (h21 : Hp), I19 m20 h21 → (∃ k26 : Bool → Hp → Prop, (∀ (b25 : Bool) (h29 : Hp), k26 b25 h29 → ((b25 = true → (∃ (r32 : Nat) (mm33 : MM) (c34 : Nat) (sn35 : Array Nat) (y36 : Int × Int × Nat), h29[b10]? = some (.mapIter (some r32) c34 (sn35.push y36.2.2) c34) ∧ Mp h29 r32 mm33 c34 ∧ y36 ∈ mm33 ∧ (mm33.map fun x => x.2.2).Nodup ∧ ∃ s46 : Sl, rdc h29 (a6.add 0) = some (s46.v) ∧ ∃ s48 : Sl, rdc h29 (a6.add 1) = some (s48.v) ∧ ∃ a49 : Addr, s48.p = some a49 ∧ 0 ≤ y36.2.1 ∧ y36.2.1 < (s48.len : Int) ∧ ∃ (bs54 : List UInt8), bs54.length = 128 ∧ RdL h29 ((a49.add (Int.toNat y36.2.1 * 129)).add 1) (bs54.map bv) ∧ ∃ a56 : Addr, s46.p = some a56 ∧ 0 ≤ y36.1 ∧ y36.1 < (s46.len : Int) ∧ ∃ h60 : Hp, bs54.length = 128 ∧ StL h29 (a56.add (Int.toNat y36.1 * 128)) (bs54.map bv) h60 ∧ ∃ m63, m63 < m20 ∧ I19 m63 h60)) ∧ (b25 = false → (disk_Disk_settle d1 (fun h66 => ∃ n68 : Int, rdc h66 (a6.add 6) = some (.int .i64 n68) ∧ ∃ n69 : Int, Wr .i64 (n68 + 1) n69 ∧ ∃ h71 : Hp, StL h66 (a6.add 6) [.int .i64 n69] h71 ∧ K 0 h71) h29)))) ∧ (Nx h21 b10 (k26 false h21) (fun k73 n74 h75 => k26 true h75)))))) h))

theorem disk_Disk_Flush_ok {W : World} {h : Hp} {d1 : Option Addr} {K : Int → Hp → Prop} (H : disk_Disk_Flush d1 K h) :
    CallsH Try.prog 35 (List.toArray [.pointer d1]) W h (fun v h' => ∃ (n1 : Int), v = .int .i64 n1 ∧ K n1 h') := by
  unfold disk_Disk_Flush at H
  refine CallsH.intro (fn := Try.f35) (N := 43) (e := aE 0 [.pointer d1]) Try.func35 rfl rfl (aE_spec _) rfl ?_
  refine WPC.seq ?_
  refine WPC.region ?_
  refine WPL.q tk0 (asg rfl) rfl ?_
  refine WPL.nil ?_
  refine WQ.next ?_
  refine WPC.seq ?_
  refine WPC.seq ?_
  refine WPC.region ?_
  refine WPL.q tk0 (mv rfl) rfl ?_
  refine WPL.q tk0 (bEqN pO_31 rfl) rfl ?_
  refine WPL.nil ?_
  refine WQ.next ?_
  refine WPC.cond rfl (fun hb2 => ?_) (fun hb2 => ?_)
  · have H := H.1 hb2
    refine WPC.seq ?_
    refine WPC.region ?_
    refine WPL.q tk0 (asg rfl) rfl ?_
    refine WPL.nil ?_
    refine WQ.next ?_
    refine WPC.ret ?_
    refine WQ.thenR ?_
    exact WQ.done (rets1 rfl rfl) ⟨_, rfl, H⟩
  · have H := H.2 hb2
    refine WPC.skip ?_
    refine WQ.next ?_
    refine WPC.seq ?_
    refine WPC.seq ?_
    refine WPC.region ?_
    refine WPL.q tk0 (mv rfl) rfl ?_
    have HC := disk_Disk_burn_ok (W := W) H
    refine WPL.eff tk0 (cl cO_87 rfl HC) rfl ?_
    rintro _ h4 ⟨b3, rfl, H⟩
    refine WPL.q tk0 (uNot rfl) rfl ?_
    refine WPL.nil ?_
    refine WQ.next ?_
    refine WPC.cond rfl (fun hb5 => ?_) (fun hb5 => ?_)
    · have H := H.1 hb5
      refine WPC.seq ?_
      refine WPC.region ?_
      refine WPL.q tk0 (asg rfl) rfl ?_
      refine WPL.nil ?_
      refine WQ.next ?_
      refine WPC.ret ?_
      refine WQ.thenR ?_
      exact WQ.done (rets1 rfl rfl) ⟨_, rfl, H⟩
    · have H := H.2 hb5
      refine WPC.skip ?_
      refine WQ.next ?_
      refine WPC.seq ?_
      refine WPC.seq ?_
      refine WPC.region ?_
      refine WPL.q tk0 (mv rfl) rfl ?_
      obtain ⟨a6, ha7, H⟩ := H
      refine WPL.q tk0 (ncb rfl ha7) rfl ?_
      refine WPL.q tk0 (fa fO_141_2 rfl) rfl ?_
      obtain ⟨m9, hv8, H⟩ := H
      refine WPL.q tk0 (ld kO_139 rfl hv8) rfl ?_
      obtain ⟨r14, mm15, c16, hq17, hm18, b10, h11, hb12, hh13, H⟩ := H
      refine WPL.f tk0 (rgMN mO_139 rfl hq17 hm18 hb12 hh13) rfl ?_
      refine WPL.nil ?_
      refine WQ.next ?_
      refine WPC.block ?_
      obtain ⟨I19, ⟨m23, HI24⟩, H⟩ := H
      refine WPC.weak (e' := [(0, .pointer d1), (14, .pointer (some (nA b10)))]) ?_ ⟨rfl, rfl, trivial⟩
      refine WPC.loop (fun m e h => e = [(0, .pointer d1), (14, .pointer (some (nA b10)))] ∧ I19 m h) ⟨m23, rfl, HI24⟩ ?_
      rintro m20 _ h21 ⟨rfl, HI22⟩
      have H := H m20 h21 HI22
      refine WPC.seq ?_
      obtain ⟨k26, hk28, H⟩ := H
      refine WPC.join (fun e h => ∃ (b25 : Bool), e = [(0, .pointer d1), (14, .pointer (some (nA b10))), (16, .bool b25)] ∧ k26 b25 h) ?_ (fun hj27 => ?_)
      · rintro _ h29 ⟨b25, rfl, HK30⟩
        have H := hk28 b25 h29 HK30
        refine WQ.next ?_
        refine WPC.seq ?_
        refine WPC.cond rfl (fun hb31 => ?_) (fun hb31 => ?_)
        · have H := H.1 hb31
          refine WPC.skip ?_
          refine WQ.next ?_
          refine WPC.block ?_
          refine WPC.seq ?_
          refine WPC.region ?_
          obtain ⟨r32, mm33, c34, sn35, y36, hz37, hz38, hz39, hz40, H⟩ := H
          refine WPL.q tk0 (enM rfl hz37 hz38 hz39 hz40) rfl ?_
          refine WPL.q tk0 (ext rfl rfl) rfl ?_
          refine WPL.q tk0 (ext rfl rfl) rfl ?_
          refine WPL.q tk0 (asg rfl) rfl ?_
          refine WPL.q tk0 (asg rfl) rfl ?_
          refine WPL.nil ?_
          refine WQ.next ?_
          refine WPC.draw (al := [0, 1, 3, 7, 0, 0, 32, 96, 224, 0, 992, 2016, 4064, 8191, 16383]) (p := (.p 0 (.p 1 (.p 2 (.q 3 (.p 4 (.p 5 (.p 6 (.p 7 (.q 8 (.p 9 (.p 10 (.p 11 (.q 12 (.p 13 (.e1 14 .done)))))))))))))))) mixO (by kernel_rfl) ?_
          refine PL.pp rfl rfl tk0 (fun _ => mv rfl) ?_
          refine PL.pp rfl rfl tk0 (fun _ => ncb rfl ha7) ?_
          refine PL.pp rfl rfl tk0 (fun _ => fa fO_141_0 rfl) ?_
          obtain ⟨s46, hv45, H⟩ := H
          refine PL.qq rfl rfl tk0 (ld kO_137 rfl hv45) ?_
          refine PL.pp rfl rfl tk0 (fun _ => mv rfl) ?_
          refine PL.pp rfl rfl tk0 (fun _ => mv rfl) ?_
          refine PL.pp rfl rfl tk0 (fun _ => ncb rfl ha7) ?_
          refine PL.pp rfl rfl tk0 (fun _ => fa fO_141_1 rfl) ?_
          obtain ⟨s48, hv47, H⟩ := H
          refine PL.qq rfl rfl tk0 (ld kO_138 rfl hv47) ?_
          refine PL.pp rfl rfl tk0 (fun _ => mv rfl) ?_
          obtain ⟨a49, ha50, H⟩ := H
          obtain ⟨h51, h52, H⟩ := H
          refine PL.pp rfl rfl tk0 (fun _ => ixSb sO_138 rfl rfl ha50 h51 h52) ?_
          refine PL.pp rfl rfl tk0 (fun _ => fa fO_145_1 rfl) ?_
          obtain ⟨bs54, hl55, hv53, H⟩ := H
          refine PL.qq rfl rfl tk0 (ldA kO_143 rfl (by simp [hl55]) hv53) ?_
          obtain ⟨a56, ha57, H⟩ := H
          obtain ⟨h58, h59, H⟩ := H
          refine PL.pp rfl rfl tk0 (fun _ => ixSb sO_137 rfl rfl ha57 h58 h59) ?_
          obtain ⟨h60, hl62, hs61, H⟩ := H
          refine PL.ff (S' := []) (by kernel_rfl) rfl rfl tk0 (stA kO_143 rfl rfl (by simp [hl62]) oneC.b hs61) (Stay.t (by kernel_rfl) (Stay.t (by kernel_rfl) (Stay.t (by kernel_rfl) Stay.n))) ?_
          refine WQ.blockN ?_
          obtain ⟨m63, lt64, H⟩ := H
          exact WQ.again lt64 ⟨rfl, H⟩ ⟨rfl, rfl, trivial⟩
        · have H := H.2 hb31
          refine WPC.exit ?_
          refine WQ.thenX ?_
          refine WQ.thenX ?_
          refine WQ.hit ?_
          refine WQ.next ?_
          refine WPC.seq ?_
          refine WPC.region ?_
          refine WPL.q tk0 (mv rfl) rfl ?_
          have HC := disk_Disk_settle_ok (W := W) H
          refine WPL.eff tk0 (cl cO_88 rfl HC) rfl ?_
          rintro _ h66 ⟨rfl, H⟩
          refine WPL.nil ?_
          refine WQ.next ?_
          refine WPC.seq ?_
          refine WPC.region ?_
          refine WPL.q tk0 (mv rfl) rfl ?_
          refine WPL.q tk0 (ncb rfl ha7) rfl ?_
          refine WPL.q tk0 (fa fO_141_6 rfl) rfl ?_
          obtain ⟨n68, hv67, H⟩ := H
          refine WPL.q tk0 (ld kO_3 rfl hv67) rfl ?_
          obtain ⟨n69, hn70, H⟩ := H
          refine WPL.q tk0 (bAdd rfl rfl hn70) rfl ?_
          refine WPL.q tk0 (ncb rfl ha7) rfl ?_
          refine WPL.q tk0 (fa fO_141_6 rfl) rfl ?_
          obtain ⟨h71, hs72, H⟩ := H
          refine WPL.f tk0 (st kO_3 rfl rfl rfl hs72) rfl ?_
          refine WPL.nil ?_
          refine WQ.next ?_
          refine WPC.seq ?_
          refine WPC.region ?_
          refine WPL.q tk0 (asg rfl) rfl ?_
          refine WPL.nil ?_
          refine WQ.next ?_
          refine WPC.ret ?_
          exact WQ.done (rets1 rfl rfl) ⟨_, rfl, H⟩
      · refine WPC.region ?_
        refine WPL.eff tk0 (nxM rfl H) rfl ?_
        rintro _ h75 (⟨rfl, rfl, H⟩ | ⟨k73, n74, rfl, H⟩)
        · refine WPL.q tk0 (ext rfl rfl) rfl ?_
          refine WPL.nil ?_
          exact (hj27 _ _ ⟨_, rfl, H⟩).weak ⟨rfl, rfl, rfl, trivial⟩
        · refine WPL.q tk0 (ext rfl rfl) rfl ?_
          refine WPL.nil ?_
          exact (hj27 _ _ ⟨_, rfl, H⟩).weak ⟨rfl, rfl, rfl, trivial⟩

/-- (*trellis/disk.Disk).Cut -/
def disk_Disk_Cut (d1 : Option Addr) (after2 : Int) (K : Int → Hp → Prop) (h : Hp) : Prop :=
  ∃ k4 : Bool → Hp → Prop, (∀ (b3 : Bool) (h7 : Hp), k4 b3 h7 → ((b3 = true → (K 1 h7)) ∧ (b3 = false → (∃ a10 : Addr, d1 = some a10 ∧ ∃ b13 : Bool, rdc h7 (a10.add 4) = some (.bool b13) ∧ (b13 = true → (K 2 h7)) ∧ (b13 = false → (∃ h15 : Hp, StL h7 (a10.add 3) [.int .i64 after2] h15 ∧ K 0 h15)))))) ∧ ((d1.isNone = true → (k4 true h)) ∧ (d1.isNone = false → (k4 (decide (after2 < 0)) h)))

theorem disk_Disk_Cut_ok {W : World} {h : Hp} {d1 : Option Addr} {after2 : Int} {K : Int → Hp → Prop} (H : disk_Disk_Cut d1 after2 K h) :
    CallsH Try.prog 34 (List.toArray [.pointer d1, .int .i64 after2]) W h (fun v h' => ∃ (n1 : Int), v = .int .i64 n1 ∧ K n1 h') := by
  unfold disk_Disk_Cut at H
  refine CallsH.intro (fn := Try.f34) (N := 19) (e := aE 0 [.pointer d1, .int .i64 after2]) Try.func34 rfl rfl (aE_spec _) rfl ?_
  refine WPC.seq ?_
  refine WPC.region ?_
  refine WPL.q tk0 (asg rfl) rfl ?_
  refine WPL.nil ?_
  refine WQ.next ?_
  refine WPC.seq ?_
  refine WPC.seq ?_
  obtain ⟨k4, hk6, H⟩ := H
  refine WPC.join (fun e h => ∃ (b3 : Bool), e = [(0, .pointer d1), (1, .int .i64 after2), (10, .bool b3)] ∧ k4 b3 h) ?_ (fun hj5 => ?_)
  · rintro _ h7 ⟨b3, rfl, HK8⟩
    have H := hk6 b3 h7 HK8
    refine WQ.next ?_
    refine WPC.cond rfl (fun hb9 => ?_) (fun hb9 => ?_)
    · have H := H.1 hb9
      refine WPC.seq ?_
      refine WPC.region ?_
      refine WPL.q tk0 (asg rfl) rfl ?_
      refine WPL.nil ?_
      refine WQ.next ?_
      refine WPC.ret ?_
      refine WQ.thenR ?_
      exact WQ.done (rets1 rfl rfl) ⟨_, rfl, H⟩
    · have H := H.2 hb9
      refine WPC.skip ?_
      refine WQ.next ?_
      refine WPC.seq ?_
      refine WPC.seq ?_
      refine WPC.region ?_
      refine WPL.q tk0 (mv rfl) rfl ?_
      obtain ⟨a10, ha11, H⟩ := H
      refine WPL.q tk0 (ncb rfl ha11) rfl ?_
      refine WPL.q tk0 (fa fO_141_4 rfl) rfl ?_
      obtain ⟨b13, hv12, H⟩ := H
      refine WPL.q tk0 (ld kO_4 rfl hv12) rfl ?_
      refine WPL.nil ?_
      refine WQ.next ?_
      refine WPC.cond rfl (fun hb14 => ?_) (fun hb14 => ?_)
      · have H := H.1 hb14
        refine WPC.seq ?_
        refine WPC.region ?_
        refine WPL.q tk0 (asg rfl) rfl ?_
        refine WPL.nil ?_
        refine WQ.next ?_
        refine WPC.ret ?_
        refine WQ.thenR ?_
        exact WQ.done (rets1 rfl rfl) ⟨_, rfl, H⟩
      · have H := H.2 hb14
        refine WPC.skip ?_
        refine WQ.next ?_
        refine WPC.seq ?_
        refine WPC.region ?_
        refine WPL.q tk0 (mv rfl) rfl ?_
        refine WPL.q tk0 (mv rfl) rfl ?_
        refine WPL.q tk0 (ncb rfl ha11) rfl ?_
        refine WPL.q tk0 (fa fO_141_3 rfl) rfl ?_
        obtain ⟨h15, hs16, H⟩ := H
        refine WPL.f tk0 (st kO_3 rfl rfl rfl hs16) rfl ?_
        refine WPL.nil ?_
        refine WQ.next ?_
        refine WPC.seq ?_
        refine WPC.region ?_
        refine WPL.q tk0 (asg rfl) rfl ?_
        refine WPL.nil ?_
        refine WQ.next ?_
        refine WPC.ret ?_
        exact WQ.done (rets1 rfl rfl) ⟨_, rfl, H⟩
  · refine WPC.region ?_
    refine WPL.q tk0 (mv rfl) rfl ?_
    refine WPL.q tk0 (bEqN pO_31 rfl) rfl ?_
    refine WPL.q tk0 (mv rfl) rfl ?_
    rcases Bool.eq_false_or_eq_true (d1.isNone) with hb17 | hb17
    · have H := H.1 hb17
      refine WPL.skip (ntkb rfl rfl hb17) rfl ?_
      refine WPL.skip (ntkb rfl rfl hb17) rfl ?_
      refine WPL.q tk0 (pkTb rfl hb17 rfl) rfl ?_
      refine WPL.nil ?_
      exact (hj5 _ _ ⟨_, rfl, H⟩).weak ⟨rfl, rfl, rfl, trivial⟩
    · have H := H.2 hb17
      refine WPL.q (tkb rfl rfl hb17) (mv rfl) rfl ?_
      refine WPL.q (tkb rfl rfl hb17) (bLss rfl rfl) rfl ?_
      refine WPL.q tk0 (pkFb rfl hb17 rfl) rfl ?_
      refine WPL.nil ?_
      exact (hj5 _ _ ⟨_, rfl, H⟩).weak ⟨rfl, rfl, rfl, trivial⟩

/-- (*trellis/disk.Disk).Crash -/
def disk_Disk_Crash (d1 : Option Addr) (keep2 : Sl) (K : Int → Int → Hp → Prop) (h : Hp) : Prop :=
  (d1.isNone = true → (K 0 1 h)) ∧ (d1.isNone = false → (∃ a4 : Addr, d1 = some a4 ∧ ∃ s7 : Sl, rdc h (a4.add 1) = some (s7.v) ∧ ∃ I10 : Nat → Int → Int → Hp → Prop, (∃ m14, I10 m14 0 0 h) ∧ ∀ (m11 : Nat) (kept8 : Int) (n9 : Int) (h12 : Hp), I10 m11 kept8 n9 h12 → (((decide (n9 < (s7.len : Int))) = true → (∃ a17 : Addr, s7.p = some a17 ∧ 0 ≤ n9 ∧ n9 < (s7.len : Int) ∧ ∃ (n22 : Int) (bs23 : List UInt8), bs23.length = 128 ∧ RdL h12 (a17.add (Int.toNat n9 * 129)) (.int .i64 n22 :: bs23.map bv) ∧ ∃ (b25 : Nat) (h26 : Hp), b25 = h12.size ∧ h26 = h12.push (Cel (.int .i64 0 :: (List.replicate 128 (0 : UInt8)).map bv) 145) ∧ ∃ h29 : Hp, bs23.length = 128 ∧ StL h26 (nA b25) (.int .i64 n22 :: bs23.map bv) h29 ∧ ∃ k33 : Bool → Hp → Prop, (∀ (b32 : Bool) (h36 : Hp), k33 b32 h36 → ((b32 = true → (∃ s40 : Sl, rdc h36 (a4.add 0) = some (s40.v) ∧ ∃ n42 : Int, rdc h36 ((nA b25).add 0) = some (.int .i64 n42) ∧ ∃ (bs44 : List UInt8), bs44.length = 128 ∧ RdL h36 ((nA b25).add 1) (bs44.map bv) ∧ ∃ a46 : Addr, s40.p = some a46 ∧ 0 ≤ n42 ∧ n42 < (s40.len : Int) ∧ ∃ h50 : Hp, bs44.length = 128 ∧ StL h36 (a46.add (Int.toNat n42 * 128)) (bs44.map bv) h50 ∧ ∃ n53 : Int, Wr .i64 (kept8 + 1) n53 ∧ ∃ n55 : Int, Wr .i64 (n9 + 1) n55 ∧ ∃ m57, m57 < m11 ∧ I10 m57 n53 n55 h50)) ∧ (b32 = false → (∃ n60 : Int, Wr .i64 (n9 + 1) n60 ∧ ∃ m62, m62 < m11 ∧ I10 m62 kept8 n60 h36)))) ∧ (((decide (n9 < (keep2.len : Int))) = true → (∃ a66 : Addr, keep2.p = some a66 ∧ 0 ≤ n9 ∧ n9 < (keep2.len : Int) ∧ ∃ b71 : Bool, rdc h29 (a66.add (Int.toNat n9 * 1)) = some (.bool b71) ∧ k33 b71 h29)) ∧ ((decide (n9 < (keep2.len : Int))) = false → (k33 false h29))))) ∧ ((decide (n9 < (s7.len : Int))) = false → (disk_Disk_settle d1 (fun h72 => ∃ h73 : Hp, StL h72 (a4.add 4) [.bool false] h73 ∧ ∃ h75 : Hp, StL h73 (a4.add 3) [.int .i64 (-1)] h75 ∧ K kept8 0 h75) h12)))))

theorem disk_Disk_Crash_ok {W : World} {h : Hp} {d1 : Option Addr} {keep2 : Sl} {K : Int → Int → Hp → Prop} (H : disk_Disk_Crash d1 keep2 K h) :
    CallsH Try.prog 40 (List.toArray [.pointer d1, keep2.v]) W h (fun v h' => ∃ (n1 : Int) (n2 : Int), v = .tuple #[.int .i64 n1, .int .i64 n2] ∧ K n1 n2 h') := by
  unfold disk_Disk_Crash at H
  refine CallsH.intro (fn := Try.f40) (N := 52) (e := aE 0 [.pointer d1, keep2.v]) Try.func40 rfl rfl (aE_spec _) rfl ?_
  refine WPC.seq ?_
  refine WPC.region ?_
  refine WPL.q tk0 (asg rfl) rfl ?_
  refine WPL.q tk0 (asg rfl) rfl ?_
  refine WPL.nil ?_
  refine WQ.next ?_
  refine WPC.seq ?_
  refine WPC.seq ?_
  refine WPC.region ?_
  refine WPL.q tk0 (mv rfl) rfl ?_
  refine WPL.q tk0 (bEqN pO_31 rfl) rfl ?_
  refine WPL.nil ?_
  refine WQ.next ?_
  refine WPC.cond rfl (fun hb3 => ?_) (fun hb3 => ?_)
  · have H := H.1 hb3
    refine WPC.seq ?_
    refine WPC.region ?_
    refine WPL.q tk0 (asg rfl) rfl ?_
    refine WPL.q tk0 (asg rfl) rfl ?_
    refine WPL.nil ?_
    refine WQ.next ?_
    refine WPC.ret ?_
    refine WQ.thenR ?_
    exact WQ.done (rets2 rfl rfl rfl) ⟨_, _, rfl, H⟩
  · have H := H.2 hb3
    refine WPC.skip ?_
    refine WQ.next ?_
    refine WPC.seq ?_
    refine WPC.region ?_
    refine WPL.q tk0 (asg rfl) rfl ?_
    refine WPL.nil ?_
    refine WQ.next ?_
    refine WPC.seq ?_
    refine WPC.seq ?_
    refine WPC.region ?_
    refine WPL.q tk0 (mv rfl) rfl ?_
    obtain ⟨a4, ha5, H⟩ := H
    refine WPL.q tk0 (ncb rfl ha5) rfl ?_
    refine WPL.q tk0 (fa fO_141_1 rfl) rfl ?_
    obtain ⟨s7, hv6, H⟩ := H
    refine WPL.q tk0 (ld kO_138 rfl hv6) rfl ?_
    refine WPL.q tk0 (lnb sO_138 rfl) rfl ?_
    refine WPL.q tk0 (mv rfl) rfl ?_
    refine WPL.nil ?_
    refine WQ.next ?_
    refine WPC.block ?_
    obtain ⟨I10, ⟨m14, HI15⟩, H⟩ := H
    refine WPC.weak (e' := [(0, .pointer d1), (1, keep2.v), (6, .int .i64 0), (14, s7.v), (15, .int .i64 (s7.len : Int)), (16, .int .i64 0)]) ?_ ⟨rfl, rfl, rfl, rfl, rfl, rfl, trivial⟩
    refine WPC.loop (fun m e h => ∃ (kept8 : Int), ∃ (n9 : Int), e = [(0, .pointer d1), (1, keep2.v), (6, .int .i64 kept8), (14, s7.v), (15, .int .i64 (s7.len : Int)), (16, .int .i64 n9)] ∧ I10 m kept8 n9 h) ⟨m14, _, _, rfl, HI15⟩ ?_
    rintro m11 _ h12 ⟨kept8, n9, rfl, HI13⟩
    have H := H m11 kept8 n9 h12 HI13
    refine WPC.seq ?_
    refine WPC.region ?_
    refine WPL.q tk0 (bLss rfl rfl) rfl ?_
    refine WPL.nil ?_
    refine WQ.next ?_
    refine WPC.seq ?_
    refine WPC.cond rfl (fun hb16 => ?_) (fun hb16 => ?_)
    · have H := H.1 hb16
      refine WPC.skip ?_
      refine WQ.next ?_
      refine WPC.seq ?_
      refine WPC.block ?_
      refine WPC.seq ?_
      refine WPC.region ?_
      refine WPL.q tk0 (mv rfl) rfl ?_
      obtain ⟨a17, ha18, H⟩ := H
      obtain ⟨h19, h20, H⟩ := H
      refine WPL.q tk0 (ixSb sO_138 rfl rfl ha18 h19 h20) rfl ?_
      obtain ⟨n22, bs23, hl24, hv21, H⟩ := H
      refine WPL.q tk0 (ldA kO_145 rfl (by simp [hl24]) hv21) rfl ?_
      obtain ⟨b25, h26, hb27, hh28, H⟩ := H
      refine WPL.f tk0 (alN zO_145 hb27 hh28) rfl ?_
      refine WPL.q tk0 (asg rfl) rfl ?_
      obtain ⟨h29, hl31, hs30, H⟩ := H
      refine WPL.f tk0 (stA kO_145 rfl rfl (by simp [hl31]) (oneC.c rfl oneC.b) hs30) rfl ?_
      refine WPL.nil ?_
      refine WQ.next ?_
      refine WPC.seq ?_
      obtain ⟨k33, hk35, H⟩ := H
      refine WPC.join (fun e h => ∃ (b32 : Bool), e = [(0, .pointer d1), (1, keep2.v), (6, .int .i64 kept8), (8, .pointer (some (nA b25))), (14, s7.v), (15, .int .i64 (s7.len : Int)), (16, .int .i64 n9), (30, .bool b32)] ∧ k33 b32 h) ?_ (fun hj34 => ?_)
      · rintro _ h36 ⟨b32, rfl, HK37⟩
        have H := hk35 b32 h36 HK37
        refine WQ.next ?_
        refine WPC.cond rfl (fun hb38 => ?_) (fun hb38 => ?_)
        · have H := H.1 hb38
          refine WPC.seq ?_
          refine WPC.draw (al := [0, 1, 3, 7, 0, 16, 0, 64, 255, 511]) (p := (.p 0 (.p 1 (.p 2 (.q 3 (.p 4 (.q 5 (.p 6 (.q 7 (.p 8 (.e1 9 .done))))))))))) mixO (by kernel_rfl) ?_
          refine PL.pp rfl rfl tk0 (fun _ => mv rfl) ?_
          refine PL.pp rfl rfl tk0 (fun _ => ncb rfl ha5) ?_
          refine PL.pp rfl rfl tk0 (fun _ => fa fO_141_0 rfl) ?_
          obtain ⟨s40, hv39, H⟩ := H
          refine PL.qq rfl rfl tk0 (ld kO_137 rfl hv39) ?_
          refine PL.pp rfl rfl tk0 (fun _ => fa fO_145_0 rfl) ?_
          obtain ⟨n42, hv41, H⟩ := H
          refine PL.qq rfl rfl tk0 (ld kO_3 rfl hv41) ?_
          refine PL.pp rfl rfl tk0 (fun _ => fa fO_145_1 rfl) ?_
          obtain ⟨bs44, hl45, hv43, H⟩ := H
          refine PL.qq rfl rfl tk0 (ldA kO_143 rfl (by simp [hl45]) hv43) ?_
          obtain ⟨a46, ha47, H⟩ := H
          obtain ⟨h48, h49, H⟩ := H
          refine PL.pp rfl rfl tk0 (fun _ => ixSb sO_137 rfl rfl ha47 h48 h49) ?_
          obtain ⟨h50, hl52, hs51, H⟩ := H
          refine PL.ff (S' := []) (by kernel_rfl) rfl rfl tk0 (stA kO_143 rfl rfl (by simp [hl52]) oneC.b hs51) (Stay.t (by kernel_rfl) (Stay.t (by kernel_rfl) (Stay.t (by kernel_rfl) Stay.n))) ?_
          refine WQ.next ?_
          refine WPC.region ?_
          refine WPL.q tk0 (mv rfl) rfl ?_
          obtain ⟨n53, hn54, H⟩ := H
          refine WPL.q tk0 (bAdd rfl rfl hn54) rfl ?_
          refine WPL.q tk0 (asg rfl) rfl ?_
          refine WPL.nil ?_
          refine WQ.blockN ?_
          refine WQ.next ?_
          refine WPC.region ?_
          obtain ⟨n55, hn56, H⟩ := H
          refine WPL.q tk0 (bAdd rfl rfl hn56) rfl ?_
          refine WPL.q tk0 (mv rfl) rfl ?_
          refine WPL.nil ?_
          obtain ⟨m57, lt58, H⟩ := H
          exact WQ.again lt58 ⟨_, _, rfl, H⟩ ⟨rfl, rfl, rfl, rfl, rfl, rfl, trivial⟩
        · have H := H.2 hb38
          refine WPC.skip ?_
          refine WQ.blockN ?_
          refine WQ.next ?_
          refine WPC.region ?_
          obtain ⟨n60, hn61, H⟩ := H
          refine WPL.q tk0 (bAdd rfl rfl hn61) rfl ?_
          refine WPL.q tk0 (mv rfl) rfl ?_
          refine WPL.nil ?_
          obtain ⟨m62, lt63, H⟩ := H
          exact WQ.again lt63 ⟨_, _, rfl, H⟩ ⟨rfl, rfl, rfl, rfl, rfl, rfl, trivial⟩
      · refine WPC.region ?_
        refine WPL.q tk0 (mv rfl) rfl ?_
        refine WPL.q tk0 (mv rfl) rfl ?_
        refine WPL.q tk0 (lnb sO_30 rfl) rfl ?_
        refine WPL.q tk0 (bLss rfl rfl) rfl ?_
        refine WPL.q tk0 (mv rfl) rfl ?_
        rcases Bool.eq_false_or_eq_true ((decide (n9 < (keep2.len : Int)))) with hb65 | hb65
        · have H := H.1 hb65
          refine WPL.q (tkb rfl rfl hb65) (mv rfl) rfl ?_
          refine WPL.q (tkb rfl rfl hb65) (mv rfl) rfl ?_
          obtain ⟨a66, ha67, H⟩ := H
          obtain ⟨h68, h69, H⟩ := H
          refine WPL.q (tkb rfl rfl hb65) (ixSb sO_30 rfl rfl ha67 h68 h69) rfl ?_
          obtain ⟨b71, hv70, H⟩ := H
          refine WPL.q (tkb rfl rfl hb65) (ld kO_4 rfl hv70) rfl ?_
          refine WPL.q tk0 (pkTb rfl hb65 rfl) rfl ?_
          refine WPL.nil ?_
          exact (hj34 _ _ ⟨_, rfl, H⟩).weak ⟨rfl, rfl, rfl, rfl, rfl, rfl, rfl, rfl, trivial⟩
        · have H := H.2 hb65
          refine WPL.skip (ntkb rfl rfl hb65) rfl ?_
          refine WPL.skip (ntkb rfl rfl hb65) rfl ?_
          refine WPL.skip (ntkb rfl rfl hb65) rfl ?_
          refine WPL.skip (ntkb rfl rfl hb65) rfl ?_
          refine WPL.q tk0 (pkFb rfl hb65 rfl) rfl ?_
          refine WPL.nil ?_
          exact (hj34 _ _ ⟨_, rfl, H⟩).weak ⟨rfl, rfl, rfl, rfl, rfl, rfl, rfl, rfl, trivial⟩
    · have H := H.2 hb16
      refine WPC.exit ?_
      refine WQ.thenX ?_
      refine WQ.thenX ?_
      refine WQ.hit ?_
      refine WQ.next ?_
      refine WPC.seq ?_
      refine WPC.region ?_
      refine WPL.q tk0 (mv rfl) rfl ?_
      have HC := disk_Disk_settle_ok (W := W) H
      refine WPL.eff tk0 (cl cO_88 rfl HC) rfl ?_
      rintro _ h72 ⟨rfl, H⟩
      refine WPL.nil ?_
      refine WQ.next ?_
      refine WPC.seq ?_
      refine WPC.region ?_
      refine WPL.q tk0 (mv rfl) rfl ?_
      refine WPL.q tk0 (ncb rfl ha5) rfl ?_
      refine WPL.q tk0 (fa fO_141_4 rfl) rfl ?_
      obtain ⟨h73, hs74, H⟩ := H
      refine WPL.f tk0 (st kO_4 rfl rfl rfl hs74) rfl ?_
      refine WPL.nil ?_
      refine WQ.next ?_
      refine WPC.seq ?_
      refine WPC.region ?_
      refine WPL.q tk0 (mv rfl) rfl ?_
      refine WPL.q tk0 (ncb rfl ha5) rfl ?_
      refine WPL.q tk0 (fa fO_141_3 rfl) rfl ?_
      obtain ⟨h75, hs76, H⟩ := H
      refine WPL.f tk0 (st kO_3 rfl rfl rfl hs76) rfl ?_
      refine WPL.nil ?_
      refine WQ.next ?_
      refine WPC.seq ?_
      refine WPC.region ?_
      refine WPL.q tk0 (mv rfl) rfl ?_
      refine WPL.q tk0 (asg rfl) rfl ?_
      refine WPL.q tk0 (asg rfl) rfl ?_
      refine WPL.nil ?_
      refine WQ.next ?_
      refine WPC.ret ?_
      exact WQ.done (rets2 rfl rfl rfl) ⟨_, _, rfl, H⟩

/-- (*trellis/disk.Disk).newest -/
def disk_Disk_newest (d1 : Option Addr) (at2 : Int) (K : List UInt8 → Hp → Prop) (h : Hp) : Prop :=
  ∃ (b3 : Nat) (h4 : Hp), b3 = h.size ∧ h4 = h.push (Cel ((List.replicate 128 (0 : UInt8)).map bv) 143) ∧ ∃ a7 : Addr, d1 = some a7 ∧ ∃ m10 : Option Nat, rdc h4 (a7.add 2) = some (.map m10) ∧ ∃ (r11 : Nat) (mm12 : MM) (c13 : Nat), m10 = some r11 ∧ Mp h4 r11 mm12 c13 ∧ ∃ (n16 : Int) (ok17 : Bool), n16 = (mget mm12 at2).getD 0 ∧ ok17 = (mget mm12 at2).isSome ∧ (ok17 = true → (∃ s22 : Sl, rdc h4 (a7.add 1) = some (s22.v) ∧ ∃ a23 : Addr, s22.p = some a23 ∧ 0 ≤ n16 ∧ n16 < (s22.len : Int) ∧ ∃ (bs28 : List UInt8), bs28.length = 128 ∧ RdL h4 ((a23.add (Int.toNat n16 * 129)).add 1) (bs28.map bv) ∧ ∃ h30 : Hp, bs28.length = 128 ∧ StL h4 (nA b3) (bs28.map bv) h30 ∧ ∃ (bs33 : List UInt8), bs33.length = 128 ∧ RdL h30 (nA b3) (bs33.map bv) ∧ K bs33 h30)) ∧ (ok17 = false → (∃ s37 : Sl, rdc h4 (a7.add 0) = some (s37.v) ∧ ∃ a38 : Addr, s37.p = some a38 ∧ 0 ≤ at2 ∧ at2 < (s37.len : Int) ∧ ∃ (bs43 : List UInt8), bs43.length = 128 ∧ RdL h4 (a38.add (Int.toNat at2 * 128)) (bs43.map bv) ∧ ∃ h45 : Hp, bs43.length = 128 ∧ StL h4 (nA b3) (bs43.map bv) h45 ∧ ∃ (bs48 : List UInt8), bs48.length = 128 ∧ RdL h45 (nA b3) (bs48.map bv) ∧ K bs48 h45))

theorem disk_Disk_newest_ok {W : World} {h : Hp} {d1 : Option Addr} {at2 : Int} {K : List UInt8 → Hp → Prop} (H : disk_Disk_newest d1 at2 K h) :
    CallsH Try.prog 89 (List.toArray [.pointer d1, .int .i64 at2]) W h (fun v h' => ∃ (bs1 : List UInt8), v = .agg (List.toArray (bs1.map bv)) ∧ K bs1 h') := by
  unfold disk_Disk_newest at H
  refine CallsH.intro (fn := Try.f89) (N := 32) (e := aE 0 [.pointer d1, .int .i64 at2]) Try.func89 rfl rfl (aE_spec _) rfl ?_
  refine WPC.seq ?_
  refine WPC.region ?_
  obtain ⟨b3, h4, hb5, hh6, H⟩ := H
  refine WPL.f tk0 (alN zO_143 hb5 hh6) rfl ?_
  refine WPL.nil ?_
  refine WQ.next ?_
  refine WPC.seq ?_
  refine WPC.seq ?_
  refine WPC.region ?_
  refine WPL.q tk0 (mv rfl) rfl ?_
  obtain ⟨a7, ha8, H⟩ := H
  refine WPL.q tk0 (ncb rfl ha8) rfl ?_
  refine WPL.q tk0 (fa fO_141_2 rfl) rfl ?_
  obtain ⟨m10, hv9, H⟩ := H
  refine WPL.q tk0 (ld kO_139 rfl hv9) rfl ?_
  refine WPL.q tk0 (mv rfl) rfl ?_
  obtain ⟨r11, mm12, c13, hq14, hm15, n16, ok17, hv18, ho19, H⟩ := H
  refine WPL.q tk0 (lkMN mO_139 rfl rfl hq14 hm15 hv18 ho19) rfl ?_
  refine WPL.q tk0 (mv rfl) rfl ?_
  refine WPL.q tk0 (ext rfl rfl) rfl ?_
  refine WPL.q tk0 (ext rfl rfl) rfl ?_
  refine WPL.q tk0 (asg rfl) rfl ?_
  refine WPL.q tk0 (asg rfl) rfl ?_
  refine WPL.nil ?_
  refine WQ.next ?_
  refine WPC.seq ?_
  refine WPC.region ?_
  refine WPL.q tk0 (mv rfl) rfl ?_
  refine WPL.nil ?_
  refine WQ.next ?_
  refine WPC.cond rfl (fun hb20 => ?_) (fun hb20 => ?_)
  · have H := H.1 hb20
    refine WPC.seq ?_
    refine WPC.region ?_
    refine WPL.q tk0 (mv rfl) rfl ?_
    refine WPL.q tk0 (ncb rfl ha8) rfl ?_
    refine WPL.q tk0 (fa fO_141_1 rfl) rfl ?_
    obtain ⟨s22, hv21, H⟩ := H
    refine WPL.q tk0 (ld kO_138 rfl hv21) rfl ?_
    refine WPL.q tk0 (mv rfl) rfl ?_
    obtain ⟨a23, ha24, H⟩ := H
    obtain ⟨h25, h26, H⟩ := H
    refine WPL.q tk0 (ixSb sO_138 rfl rfl ha24 h25 h26) rfl ?_
    refine WPL.q tk0 (fa fO_145_1 rfl) rfl ?_
    obtain ⟨bs28, hl29, hv27, H⟩ := H
    refine WPL.q tk0 (ldA kO_143 rfl (by simp [hl29]) hv27) rfl ?_
    obtain ⟨h30, hl32, hs31, H⟩ := H
    refine WPL.f tk0 (stA kO_143 rfl rfl (by simp [hl32]) oneC.b hs31) rfl ?_
    refine WPL.nil ?_
    refine WQ.next ?_
    refine WPC.ret ?_
    refine WQ.thenR ?_
    obtain ⟨bs33, hl34, hr35, H⟩ := H
    exact WQ.done (retsC rfl kO_143 rfl (by simp [hl34]) hr35) ⟨_, rfl, H⟩
  · have H := H.2 hb20
    refine WPC.skip ?_
    refine WQ.next ?_
    refine WPC.seq ?_
    refine WPC.region ?_
    refine WPL.q tk0 (mv rfl) rfl ?_
    refine WPL.q tk0 (ncb rfl ha8) rfl ?_
    refine WPL.q tk0 (fa fO_141_0 rfl) rfl ?_
    obtain ⟨s37, hv36, H⟩ := H
    refine WPL.q tk0 (ld kO_137 rfl hv36) rfl ?_
    refine WPL.q tk0 (mv rfl) rfl ?_
    obtain ⟨a38, ha39, H⟩ := H
    obtain ⟨h40, h41, H⟩ := H
    refine WPL.q tk0 (ixSb sO_137 rfl rfl ha39 h40 h41) rfl ?_
    obtain ⟨bs43, hl44, hv42, H⟩ := H
    refine WPL.q tk0 (ldA kO_143 rfl (by simp [hl44]) hv42) rfl ?_
    obtain ⟨h45, hl47, hs46, H⟩ := H
    refine WPL.f tk0 (stA kO_143 rfl rfl (by simp [hl47]) oneC.b hs46) rfl ?_
    refine WPL.nil ?_
    refine WQ.next ?_
    refine WPC.ret ?_
    obtain ⟨bs48, hl49, hr50, H⟩ := H
    exact WQ.done (retsC rfl kO_143 rfl (by simp [hl49]) hr50) ⟨_, rfl, H⟩

/-- (*trellis/disk.Disk).Read -/
def disk_Disk_Read (d1 : Option Addr) (at2 : Int) (K : Sl → Int → Hp → Prop) (h : Hp) : Prop :=
  (d1.isNone = true → (K Sl.nil 1 h)) ∧ (d1.isNone = false → (∃ k5 : Bool → Hp → Prop, (∀ (b4 : Bool) (h8 : Hp), k5 b4 h8 → ((b4 = true → (K Sl.nil 20 h8)) ∧ (b4 = false → (∃ a11 : Addr, d1 = some a11 ∧ ∃ b14 : Bool, rdc h8 (a11.add 4) = some (.bool b14) ∧ (b14 = true → (K Sl.nil 2 h8)) ∧ (b14 = false → (disk_Disk_newest d1 at2 (fun bs16 h17 => ∃ (b18 : Nat) (h19 : Hp), b18 = h17.size ∧ h19 = h17.push (Cel ((List.replicate 128 (0 : UInt8)).map bv) 143) ∧ ∃ h22 : Hp, bs16.length = 128 ∧ StL h19 (nA b18) (bs16.map bv) h22 ∧ ∃ s25 : Sl, s25 = slA (nA b18) 128 1 (Int.toNat (0 : Int)) (Int.toNat ((128 : Nat) : Int)) ∧ App h22 Sl.nil s25 1 1 5 [.int .u8 0] (fun s30 h31 => K s30 0 h31)) h8)))))) ∧ (((decide (at2 < 0)) = true → (k5 true h)) ∧ ((decide (at2 < 0)) = false → (∃ a33 : Addr, d1 = some a33 ∧ ∃ s36 : Sl, rdc h (a33.add 0) = some (s36.v) ∧ k5 (decide (at2 ≥ (s36.len : Int))) h)))))

theorem disk_Disk_Read_ok {W : World} {h : Hp} {d1 : Option Addr} {at2 : Int} {K : Sl → Int → Hp → Prop} (H : disk_Disk_Read d1 at2 K h) :
    CallsH Try.prog 38 (List.toArray [.pointer d1, .int .i64 at2]) W h (fun v h' => ∃ (s1 : Sl) (n2 : Int), v = .tuple #[s1.v, .int .i64 n2] ∧ K s1 n2 h') := by
  unfold disk_Disk_Read at H
  refine CallsH.intro (fn := Try.f38) (N := 32) (e := aE 0 [.pointer d1, .int .i64 at2]) Try.func38 rfl rfl (aE_spec _) rfl ?_
  refine WPC.seq ?_
  refine WPC.region ?_
  refine WPL.q tk0 (asg rfl) rfl ?_
  refine WPL.q tk0 (asg rfl) rfl ?_
  refine WPL.nil ?_
  refine WQ.next ?_
  refine WPC.seq ?_
  refine WPC.block ?_
  refine WPC.seq ?_
  refine WPC.region ?_
  refine WPL.q tk0 (mv rfl) rfl ?_
  refine WPL.q tk0 (bEqN pO_31 rfl) rfl ?_
  refine WPL.q tk0 (asg rfl) rfl ?_
  refine WPL.nil ?_
  refine WQ.next ?_
  refine WPC.cond rfl (fun hb3 => ?_) (fun hb3 => ?_)
  · have H := H.1 hb3
    refine WPC.seq ?_
    refine WPC.region ?_
    refine WPL.q tk0 (asg rfl) rfl ?_
    refine WPL.q tk0 (asg rfl) rfl ?_
    refine WPL.nil ?_
    refine WQ.next ?_
    refine WPC.ret ?_
    refine WQ.blockR ?_
    refine WQ.thenR ?_
    exact WQ.done (rets2 rfl rfl rfl) ⟨_, _, rfl, H⟩
  · have H := H.2 hb3
    refine WPC.seq ?_
    obtain ⟨k5, hk7, H⟩ := H
    refine WPC.join (fun e h => ∃ (b4 : Bool), e = [(0, .pointer d1), (1, .int .i64 at2), (10, .bool b4)] ∧ k5 b4 h) ?_ (fun hj6 => ?_)
    · rintro _ h8 ⟨b4, rfl, HK9⟩
      have H := hk7 b4 h8 HK9
      refine WQ.next ?_
      refine WPC.cond rfl (fun hb10 => ?_) (fun hb10 => ?_)
      · have H := H.1 hb10
        refine WPC.seq ?_
        refine WPC.region ?_
        refine WPL.q tk0 (asg rfl) rfl ?_
        refine WPL.q tk0 (asg rfl) rfl ?_
        refine WPL.nil ?_
        refine WQ.next ?_
        refine WPC.ret ?_
        refine WQ.blockR ?_
        refine WQ.thenR ?_
        exact WQ.done (rets2 rfl rfl rfl) ⟨_, _, rfl, H⟩
      · have H := H.2 hb10
        refine WPC.seq ?_
        refine WPC.region ?_
        refine WPL.q tk0 (mv rfl) rfl ?_
        obtain ⟨a11, ha12, H⟩ := H
        refine WPL.q tk0 (ncb rfl ha12) rfl ?_
        refine WPL.q tk0 (fa fO_141_4 rfl) rfl ?_
        obtain ⟨b14, hv13, H⟩ := H
        refine WPL.q tk0 (ld kO_4 rfl hv13) rfl ?_
        refine WPL.q tk0 (asg rfl) rfl ?_
        refine WPL.nil ?_
        refine WQ.next ?_
        refine WPC.cond rfl (fun hb15 => ?_) (fun hb15 => ?_)
        · have H := H.1 hb15
          refine WPC.seq ?_
          refine WPC.region ?_
          refine WPL.q tk0 (asg rfl) rfl ?_
          refine WPL.q tk0 (asg rfl) rfl ?_
          refine WPL.nil ?_
          refine WQ.next ?_
          refine WPC.ret ?_
          refine WQ.blockR ?_
          refine WQ.thenR ?_
          exact WQ.done (rets2 rfl rfl rfl) ⟨_, _, rfl, H⟩
        · have H := H.2 hb15
          refine WPC.skip ?_
          refine WQ.blockN ?_
          refine WQ.next ?_
          refine WPC.seq ?_
          refine WPC.region ?_
          refine WPL.q tk0 (mv rfl) rfl ?_
          refine WPL.q tk0 (mv rfl) rfl ?_
          have HC := disk_Disk_newest_ok (W := W) H
          refine WPL.eff tk0 (cl cO_89 rfl HC) rfl ?_
          rintro _ h17 ⟨bs16, rfl, H⟩
          obtain ⟨b18, h19, hb20, hh21, H⟩ := H
          refine WPL.f tk0 (alN zO_143 hb20 hh21) rfl ?_
          obtain ⟨h22, hl24, hs23, H⟩ := H
          refine WPL.f tk0 (stA kO_143 rfl rfl (by simp [hl24]) oneC.b hs23) rfl ?_
          refine WPL.nil ?_
          refine WQ.next ?_
          refine WPC.seq ?_
          refine WPC.region ?_
          obtain ⟨s25, hs26, H⟩ := H
          refine WPL.q tk0 (slcAN (l := none) (r := none) aO_143 rfl rfl rfl (by decide) (by decide) (by decide) hs26) rfl ?_
          refine WPL.eff tk0 (app (rt := 0) sO_24 zO_5 rfl (by decide) rfl rfl H) rfl ?_
          rintro _ h31 ⟨s30, rfl, H⟩
          refine WPL.q tk0 (asg rfl) rfl ?_
          refine WPL.q tk0 (asg rfl) rfl ?_
          refine WPL.nil ?_
          refine WQ.next ?_
          refine WPC.ret ?_
          exact WQ.done (rets2 rfl rfl rfl) ⟨_, _, rfl, H⟩
    · refine WPC.region ?_
      refine WPL.q tk0 (mv rfl) rfl ?_
      refine WPL.q tk0 (bLss rfl rfl) rfl ?_
      refine WPL.q tk0 (mv rfl) rfl ?_
      rcases Bool.eq_false_or_eq_true ((decide (at2 < 0))) with hb32 | hb32
      · have H := H.1 hb32
        refine WPL.skip (ntkb rfl rfl hb32) rfl ?_
        refine WPL.skip (ntkb rfl rfl hb32) rfl ?_
        refine WPL.skip (ntkb rfl rfl hb32) rfl ?_
        refine WPL.skip (ntkb rfl rfl hb32) rfl ?_
        refine WPL.skip (ntkb rfl rfl hb32) rfl ?_
        refine WPL.skip (ntkb rfl rfl hb32) rfl ?_
        refine WPL.skip (ntkb rfl rfl hb32) rfl ?_
        refine WPL.q tk0 (pkTb rfl hb32 rfl) rfl ?_
        refine WPL.q tk0 (asg rfl) rfl ?_
        refine WPL.nil ?_
        exact (hj6 _ _ ⟨_, rfl, H⟩).weak ⟨rfl, rfl, rfl, trivial⟩
      · have H := H.2 hb32
        refine WPL.q (tkb rfl rfl hb32) (mv rfl) rfl ?_
        refine WPL.q (tkb rfl rfl hb32) (mv rfl) rfl ?_
        obtain ⟨a33, ha34, H⟩ := H
        refine WPL.q (tkb rfl rfl hb32) (ncb rfl ha34) rfl ?_
        refine WPL.q (tkb rfl rfl hb32) (fa fO_141_0 rfl) rfl ?_
        obtain ⟨s36, hv35, H⟩ := H
        refine WPL.q (tkb rfl rfl hb32) (ld kO_137 rfl hv35) rfl ?_
        refine WPL.q (tkb rfl rfl hb32) (lnb sO_137 rfl) rfl ?_
        refine WPL.q (tkb rfl rfl hb32) (bGeq rfl rfl) rfl ?_
        refine WPL.q tk0 (pkFb rfl hb32 rfl) rfl ?_
        refine WPL.q tk0 (asg rfl) rfl ?_
        refine WPL.nil ?_
        exact (hj6 _ _ ⟨_, rfl, H⟩).weak ⟨rfl, rfl, rfl, trivial⟩

/-- (*trellis/disk.Disk).Stat -/
def disk_Disk_Stat (d1 : Option Addr) (K : Int → Int → Int → Bool → Hp → Prop) (h : Hp) : Prop :=
  ∃ (b2 : Nat) (h3 : Hp), b2 = h.size ∧ h3 = h.push (Cel [.int .i64 0, .int .i64 0, .int .i64 0, .bool false] 51) ∧ (d1.isNone = true → (∃ h7 : Hp, StL h3 (nA b2) [.int .i64 0, .int .i64 0, .int .i64 0, .bool false] h7 ∧ ∃ (n9 : Int) (n10 : Int) (n11 : Int) (b12 : Bool), RdL h7 (nA b2) [.int .i64 n9, .int .i64 n10, .int .i64 n11, .bool b12] ∧ K n9 n10 n11 b12 h7)) ∧ (d1.isNone = false → (∃ a14 : Addr, d1 = some a14 ∧ ∃ n17 : Int, rdc h3 (a14.add 5) = some (.int .i64 n17) ∧ ∃ n19 : Int, rdc h3 (a14.add 6) = some (.int .i64 n19) ∧ ∃ s21 : Sl, rdc h3 (a14.add 1) = some (s21.v) ∧ ∃ b23 : Bool, rdc h3 (a14.add 4) = some (.bool b23) ∧ ∃ h24 : Hp, StL h3 (nA b2) [.int .i64 n17, .int .i64 n19, .int .i64 (s21.len : Int), .bool b23] h24 ∧ ∃ (n26 : Int) (n27 : Int) (n28 : Int) (b29 : Bool), RdL h24 (nA b2) [.int .i64 n26, .int .i64 n27, .int .i64 n28, .bool b29] ∧ K n26 n27 n28 b29 h24))

theorem disk_Disk_Stat_ok {W : World} {h : Hp} {d1 : Option Addr} {K : Int → Int → Int → Bool → Hp → Prop} (H : disk_Disk_Stat d1 K h) :
    CallsH Try.prog 39 (List.toArray [.pointer d1]) W h (fun v h' => ∃ (n1 : Int) (n2 : Int) (n3 : Int) (b4 : Bool), v = .agg (List.toArray [.int .i64 n1, .int .i64 n2, .int .i64 n3, .bool b4]) ∧ K n1 n2 n3 b4 h') := by
  unfold disk_Disk_Stat at H
  refine CallsH.intro (fn := Try.f39) (N := 24) (e := aE 0 [.pointer d1]) Try.func39 rfl rfl (aE_spec _) rfl ?_
  refine WPC.seq ?_
  refine WPC.region ?_
  obtain ⟨b2, h3, hb4, hh5, H⟩ := H
  refine WPL.f tk0 (alN zO_51 hb4 hh5) rfl ?_
  refine WPL.nil ?_
  refine WQ.next ?_
  refine WPC.seq ?_
  refine WPC.seq ?_
  refine WPC.region ?_
  refine WPL.q tk0 (mv rfl) rfl ?_
  refine WPL.q tk0 (bEqN pO_31 rfl) rfl ?_
  refine WPL.nil ?_
  refine WQ.next ?_
  refine WPC.cond rfl (fun hb6 => ?_) (fun hb6 => ?_)
  · have H := H.1 hb6
    refine WPC.seq ?_
    refine WPC.region ?_
    refine WPL.q tk0 (bd (l := [.int .i64 0, .int .i64 0, .int .i64 0, .bool false]) rfl (by kernel_rfl)) rfl ?_
    obtain ⟨h7, hs8, H⟩ := H
    refine WPL.f tk0 (stA kO_51 rfl rfl rfl (oneC.c rfl (oneC.c rfl (oneC.c rfl (oneC.c rfl oneC.n)))) hs8) rfl ?_
    refine WPL.nil ?_
    refine WQ.next ?_
    refine WPC.ret ?_
    refine WQ.thenR ?_
    obtain ⟨n9, n10, n11, b12, hr13, H⟩ := H
    exact WQ.done (retsC rfl kO_51 rfl rfl hr13) ⟨_, _, _, _, rfl, H⟩
  · have H := H.2 hb6
    refine WPC.skip ?_
    refine WQ.next ?_
    refine WPC.seq ?_
    refine WPC.draw (al := [0, 1, 3, 7, 0, 16, 48, 112, 0, 256, 768, 1792, 3840, 0, 8192, 24576, 57344, 131071, 262143]) (p := (.p 0 (.p 1 (.p 2 (.q 3 (.p 4 (.p 5 (.p 6 (.q 7 (.p 8 (.p 9 (.p 10 (.q 11 (.p 12 (.p 13 (.p 14 (.p 15 (.q 16 (.p 17 (.e1 18 .done)))))))))))))))))))) mixO (by kernel_rfl) ?_
    refine PL.pp rfl rfl tk0 (fun _ => mv rfl) ?_
    obtain ⟨a14, ha15, H⟩ := H
    refine PL.pp rfl rfl tk0 (fun _ => ncb rfl ha15) ?_
    refine PL.pp rfl rfl tk0 (fun _ => fa fO_141_5 rfl) ?_
    obtain ⟨n17, hv16, H⟩ := H
    refine PL.qq rfl rfl tk0 (ld kO_3 rfl hv16) ?_
    refine PL.pp rfl rfl tk0 (fun _ => mv rfl) ?_
    refine PL.pp rfl rfl tk0 (fun _ => ncb rfl ha15) ?_
    refine PL.pp rfl rfl tk0 (fun _ => fa fO_141_6 rfl) ?_
    obtain ⟨n19, hv18, H⟩ := H
    refine PL.qq rfl rfl tk0 (ld kO_3 rfl hv18) ?_
    refine PL.pp rfl rfl tk0 (fun _ => mv rfl) ?_
    refine PL.pp rfl rfl tk0 (fun _ => ncb rfl ha15) ?_
    refine PL.pp rfl rfl tk0 (fun _ => fa fO_141_1 rfl) ?_
    obtain ⟨s21, hv20, H⟩ := H
    refine PL.qq rfl rfl tk0 (ld kO_138 rfl hv20) ?_
    refine PL.pp rfl rfl tk0 (fun _ => lnb sO_138 rfl) ?_
    refine PL.pp rfl rfl tk0 (fun _ => mv rfl) ?_
    refine PL.pp rfl rfl tk0 (fun _ => ncb rfl ha15) ?_
    refine PL.pp rfl rfl tk0 (fun _ => fa fO_141_4 rfl) ?_
    obtain ⟨b23, hv22, H⟩ := H
    refine PL.qq rfl rfl tk0 (ld kO_4 rfl hv22) ?_
    refine PL.pp rfl rfl tk0 (fun _ => bd (l := [.int .i64 n17, .int .i64 n19, .int .i64 (s21.len : Int), .bool b23]) rfl (by kernel_rfl)) ?_
    obtain ⟨h24, hs25, H⟩ := H
    refine PL.ff (S' := []) (by kernel_rfl) rfl rfl tk0 (stA kO_51 rfl rfl rfl (oneC.c rfl (oneC.c rfl (oneC.c rfl (oneC.c rfl oneC.n)))) hs25) (Stay.t (by kernel_rfl) (Stay.t (by kernel_rfl) (Stay.t (by kernel_rfl) (Stay.t (by kernel_rfl) Stay.n)))) ?_
    refine WQ.next ?_
    refine WPC.ret ?_
    obtain ⟨n26, n27, n28, b29, hr30, H⟩ := H
    exact WQ.done (retsC rfl kO_51 rfl rfl hr30) ⟨_, _, _, _, rfl, H⟩

/-- (*trellis/disk.Disk).Image -/
def disk_Disk_Image (d1 : Option Addr) (K : Sl → Hp → Prop) (h : Hp) : Prop :=
  (d1.isNone = true → (K Sl.nil h)) ∧ (d1.isNone = false → (∃ a3 : Addr, d1 = some a3 ∧ ∃ s6 : Sl, rdc h (a3.add 0) = some (s6.v) ∧ ∃ n7 : Int, Wr .i64 ((s6.len : Int) * 128) n7 ∧ 0 ≤ (0 : Int) ∧ (0 : Int) ≤ n7 ∧ n7 * (1 : Nat) ≤ 281474976710656 ∧ ∃ (b9 : Nat) (h10 : Hp) (s11 : Sl), b9 = h.size ∧ h10 = h.push (Cel (zr [.int .u8 0] (Int.toNat n7 * 1)) 5) ∧ s11 = ⟨some (nA b9), Int.toNat 0, Int.toNat n7⟩ ∧ ∃ s19 : Sl, rdc h10 (a3.add 0) = some (s19.v) ∧ ∃ I22 : Nat → Sl → Int → Hp → Prop, (∃ m26, I22 m26 s11 0 h10) ∧ ∀ (m23 : Nat) (out20 : Sl) (n21 : Int) (h24 : Hp), I22 m23 out20 n21 h24 → (((decide (n21 < (s19.len : Int))) = true → (∃ s30 : Sl, rdc h24 (a3.add 0) = some (s30.v) ∧ ∃ a31 : Addr, s30.p = some a31 ∧ 0 ≤ n21 ∧ n21 < (s30.len : Int) ∧ ∃ s35 : Sl, s35 = slA (a31.add (Int.toNat n21 * 128)) 128 1 (Int.toNat (0 : Int)) (Int.toNat ((128 : Nat) : Int)) ∧ App h24 out20 s35 1 1 5 [.int .u8 0] (fun s40 h41 => ∃ n42 : Int, Wr .i64 (n21 + 1) n42 ∧ ∃ m44, m44 < m23 ∧ I22 m44 s40 n42 h41))) ∧ ((decide (n21 < (s19.len : Int))) = false → (K out20 h24)))))

theorem disk_Disk_Image_ok {W : World} {h : Hp} {d1 : Option Addr} {K : Sl → Hp → Prop} (H : disk_Disk_Image d1 K h) :
    CallsH Try.prog 42 (List.toArray [.pointer d1]) W h (fun v h' => ∃ (s1 : Sl), v = s1.v ∧ K s1 h') := by
  unfold disk_Disk_Image at H
  refine CallsH.intro (fn := Try.f42) (N := 33) (e := aE 0 [.pointer d1]) Try.func42 rfl rfl (aE_spec _) rfl ?_
  refine WPC.seq ?_
  refine WPC.region ?_
  refine WPL.q tk0 (asg rfl) rfl ?_
  refine WPL.nil ?_
  refine WQ.next ?_
  refine WPC.seq ?_
  refine WPC.seq ?_
  refine WPC.region ?_
  refine WPL.q tk0 (mv rfl) rfl ?_
  refine WPL.q tk0 (bEqN pO_31 rfl) rfl ?_
  refine WPL.nil ?_
  refine WQ.next ?_
  refine WPC.cond rfl (fun hb2 => ?_) (fun hb2 => ?_)
  · have H := H.1 hb2
    refine WPC.seq ?_
    refine WPC.region ?_
    refine WPL.q tk0 (asg rfl) rfl ?_
    refine WPL.nil ?_
    refine WQ.next ?_
    refine WPC.ret ?_
    refine WQ.thenR ?_
    exact WQ.done (rets1 rfl rfl) ⟨_, rfl, H⟩
  · have H := H.2 hb2
    refine WPC.skip ?_
    refine WQ.next ?_
    refine WPC.seq ?_
    refine WPC.region ?_
    refine WPL.q tk0 (mv rfl) rfl ?_
    obtain ⟨a3, ha4, H⟩ := H
    refine WPL.q tk0 (ncb rfl ha4) rfl ?_
    refine WPL.q tk0 (fa fO_141_0 rfl) rfl ?_
    obtain ⟨s6, hv5, H⟩ := H
    refine WPL.q tk0 (ld kO_137 rfl hv5) rfl ?_
    refine WPL.q tk0 (lnb sO_137 rfl) rfl ?_
    obtain ⟨n7, hn8, H⟩ := H
    refine WPL.q tk0 (bMul rfl rfl hn8) rfl ?_
    obtain ⟨c15, c16, c17, b9, h10, s11, hb12, hh13, hs14, H⟩ := H
    refine WPL.f tk0 (mksN sO_24 zO_5 (by decide) rfl rfl c15 c16 c17 hb12 hh13 hs14) rfl ?_
    refine WPL.q tk0 (asg rfl) rfl ?_
    refine WPL.nil ?_
    refine WQ.next ?_
    refine WPC.seq ?_
    refine WPC.seq ?_
    refine WPC.region ?_
    refine WPL.q tk0 (mv rfl) rfl ?_
    refine WPL.q tk0 (ncb rfl ha4) rfl ?_
    refine WPL.q tk0 (fa fO_141_0 rfl) rfl ?_
    obtain ⟨s19, hv18, H⟩ := H
    refine WPL.q tk0 (ld kO_137 rfl hv18) rfl ?_
    refine WPL.q tk0 (lnb sO_137 rfl) rfl ?_
    refine WPL.q tk0 (mv rfl) rfl ?_
    refine WPL.nil ?_
    refine WQ.next ?_
    refine WPC.block ?_
    obtain ⟨I22, ⟨m26, HI27⟩, H⟩ := H
    refine WPC.weak (e' := [(0, .pointer d1), (3, s11.v), (18, .int .i64 (s19.len : Int)), (19, .int .i64 0)]) ?_ ⟨rfl, rfl, rfl, rfl, trivial⟩
    refine WPC.loop (fun m e h => ∃ (out20 : Sl), ∃ (n21 : Int), e = [(0, .pointer d1), (3, out20.v), (18, .int .i64 (s19.len : Int)), (19, .int .i64 n21)] ∧ I22 m out20 n21 h) ⟨m26, _, _, rfl, HI27⟩ ?_
    rintro m23 _ h24 ⟨out20, n21, rfl, HI25⟩
    have H := H m23 out20 n21 h24 HI25
    refine WPC.seq ?_
    refine WPC.region ?_
    refine WPL.q tk0 (bLss rfl rfl) rfl ?_
    refine WPL.nil ?_
    refine WQ.next ?_
    refine WPC.seq ?_
    refine WPC.cond rfl (fun hb28 => ?_) (fun hb28 => ?_)
    · have H := H.1 hb28
      refine WPC.skip ?_
      refine WQ.next ?_
      refine WPC.seq ?_
      refine WPC.block ?_
      refine WPC.seq ?_
      refine WPC.region ?_
      refine WPL.q tk0 (mv rfl) rfl ?_
      refine WPL.q tk0 (asg rfl) rfl ?_
      refine WPL.nil ?_
      refine WQ.next ?_
      refine WPC.region ?_
      refine WPL.q tk0 (mv rfl) rfl ?_
      refine WPL.q tk0 (mv rfl) rfl ?_
      refine WPL.q tk0 (ncb rfl ha4) rfl ?_
      refine WPL.q tk0 (fa fO_141_0 rfl) rfl ?_
      obtain ⟨s30, hv29, H⟩ := H
      refine WPL.q tk0 (ld kO_137 rfl hv29) rfl ?_
      refine WPL.q tk0 (mv rfl) rfl ?_
      obtain ⟨a31, ha32, H⟩ := H
      obtain ⟨h33, h34, H⟩ := H
      refine WPL.q tk0 (ixSb sO_137 rfl rfl ha32 h33 h34) rfl ?_
      obtain ⟨s35, hs36, H⟩ := H
      refine WPL.q tk0 (slcAN (l := none) (r := none) aO_143 rfl rfl rfl (by decide) (by decide) (by decide) hs36) rfl ?_
      refine WPL.eff tk0 (app (rt := 0) sO_24 zO_5 rfl (by decide) rfl rfl H) rfl ?_
      rintro _ h41 ⟨s40, rfl, H⟩
      refine WPL.q tk0 (asg rfl) rfl ?_
      refine WPL.nil ?_
      refine WQ.blockN ?_
      refine WQ.next ?_
      refine WPC.region ?_
      obtain ⟨n42, hn43, H⟩ := H
      refine WPL.q tk0 (bAdd rfl rfl hn43) rfl ?_
      refine WPL.q tk0 (mv rfl) rfl ?_
      refine WPL.nil ?_
      obtain ⟨m44, lt45, H⟩ := H
      exact WQ.again lt45 ⟨_, _, rfl, H⟩ ⟨rfl, rfl, rfl, rfl, trivial⟩
    · have H := H.2 hb28
      refine WPC.exit ?_
      refine WQ.thenX ?_
      refine WQ.thenX ?_
      refine WQ.hit ?_
      refine WQ.next ?_
      refine WPC.seq ?_
      refine WPC.region ?_
      refine WPL.q tk0 (mv rfl) rfl ?_
      refine WPL.q tk0 (asg rfl) rfl ?_
      refine WPL.nil ?_
      refine WQ.next ?_
      refine WPC.ret ?_
      exact WQ.done (rets1 rfl rfl) ⟨_, rfl, H⟩

/-- trellis/disk.Load -/
def disk_Load (image1 : Sl) (K : Option Addr → Int → Hp → Prop) (h : Hp) : Prop :=
  ∃ n2 : Int, n2 = IntKind.i64.wrap (Int.tdiv (image1.len : Int) 128) ∧ ∃ k6 : Bool → Hp → Prop, (∀ (b5 : Bool) (h9 : Hp), k6 b5 h9 → ((b5 = true → (K none 22 h9)) ∧ (b5 = false → (disk_blank n2 (fun p12 h13 => ∃ a14 : Addr, p12 = some a14 ∧ ∃ s17 : Sl, rdc h13 (a14.add 0) = some (s17.v) ∧ ∃ I19 : Nat → Int → Hp → Prop, (∃ m23, I19 m23 0 h13) ∧ ∀ (m20 : Nat) (n18 : Int) (h21 : Hp), I19 m20 n18 h21 → (((decide (n18 < (s17.len : Int))) = true → (∃ s27 : Sl, rdc h21 (a14.add 0) = some (s27.v) ∧ ∃ a28 : Addr, s27.p = some a28 ∧ 0 ≤ n18 ∧ n18 < (s27.len : Int) ∧ ∃ s32 : Sl, s32 = slA (a28.add (Int.toNat n18 * 128)) 128 1 (Int.toNat (0 : Int)) (Int.toNat ((128 : Nat) : Int)) ∧ ∃ n37 : Int, Wr .i64 (n18 * 128) n37 ∧ 0 ≤ n37 ∧ n37 ≤ (image1.len : Int) ∧ (image1.len : Int) ≤ (image1.cap : Int) ∧ ∃ s39 : Sl, s39 = slS image1 1 (Int.toNat n37) (Int.toNat (image1.len : Int)) ∧ ∃ (l45 : List Value) (h44 : Hp) (r49 : Int), RdS h21 ⟨s39.p, Nat.min s39.len s32.len, s39.cap⟩ 1 l45 ∧ oneC l45 ∧ StS h21 s32.p 0 l45 h44 ∧ r49 = ((Nat.min s39.len s32.len : Nat) : Int) ∧ ∃ n51 : Int, Wr .i64 (n18 + 1) n51 ∧ ∃ m53, m53 < m20 ∧ I19 m53 n51 h44)) ∧ ((decide (n18 < (s17.len : Int))) = false → (K p12 0 h21)))) h9)))) ∧ (∃ n56 : Int, n56 = Int.tmod (image1.len : Int) 128 ∧ ((n56 != 0) = true → (k6 true h)) ∧ ((n56 != 0) = false → (((decide (n2 < 1)) = true → (k6 true h)) ∧ ((decide (n2 < 1)) = false → (k6 (decide (n2 > 4096)) h)))))

theorem disk_Load_ok {W : World} {h : Hp} {image1 : Sl} {K : Option Addr → Int → Hp → Prop} (H : disk_Load image1 K h) :
    CallsH Try.prog 43 (List.toArray [image1.v]) W h (fun v h' => ∃ (p1 : Option Addr) (n2 : Int), v = .tuple #[.pointer p1, .int .i64 n2] ∧ K p1 n2 h') := by
  unfold disk_Load at H
  refine CallsH.intro (fn := Try.f43) (N := 46) (e := aE 0 [image1.v]) Try.func43 rfl rfl (aE_spec _) rfl ?_
  refine WPC.seq ?_
  refine WPC.region ?_
  refine WPL.q tk0 (asg rfl) rfl ?_
  refine WPL.q tk0 (asg rfl) rfl ?_
  refine WPL.nil ?_
  refine WQ.next ?_
  refine WPC.seq ?_
  refine WPC.region ?_
  refine WPL.q tk0 (mv rfl) rfl ?_
  refine WPL.q tk0 (lnb sO_24 rfl) rfl ?_
  obtain ⟨n2, hn3, H⟩ := H
  refine WPL.q tk0 (bQuo rfl rfl (by decide) hn3) rfl ?_
  refine WPL.q tk0 (asg rfl) rfl ?_
  refine WPL.nil ?_
  refine WQ.next ?_
  refine WPC.seq ?_
  refine WPC.seq ?_
  obtain ⟨k6, hk8, H⟩ := H
  refine WPC.join (fun e h => ∃ (b5 : Bool), e = [(0, image1.v), (4, .int .i64 n2), (21, .bool b5)] ∧ k6 b5 h) ?_ (fun hj7 => ?_)
  · rintro _ h9 ⟨b5, rfl, HK10⟩
    have H := hk8 b5 h9 HK10
    refine WQ.next ?_
    refine WPC.cond rfl (fun hb11 => ?_) (fun hb11 => ?_)
    · have H := H.1 hb11
      refine WPC.seq ?_
      refine WPC.region ?_
      refine WPL.q tk0 (asg rfl) rfl ?_
      refine WPL.q tk0 (asg rfl) rfl ?_
      refine WPL.nil ?_
      refine WQ.next ?_
      refine WPC.ret ?_
      refine WQ.thenR ?_
      exact WQ.done (rets2 rfl rfl rfl) ⟨_, _, rfl, H⟩
    · have H := H.2 hb11
      refine WPC.skip ?_
      refine WQ.next ?_
      refine WPC.seq ?_
      refine WPC.region ?_
      refine WPL.q tk0 (mv rfl) rfl ?_
      have HC := disk_blank_ok (W := W) H
      refine WPL.eff tk0 (cl cO_90 rfl HC) rfl ?_
      rintro _ h13 ⟨p12, rfl, H⟩
      refine WPL.q tk0 (asg rfl) rfl ?_
      refine WPL.nil ?_
      refine WQ.next ?_
      refine WPC.seq ?_
      refine WPC.seq ?_
      refine WPC.region ?_
      refine WPL.q tk0 (mv rfl) rfl ?_
      obtain ⟨a14, ha15, H⟩ := H
      refine WPL.q tk0 (ncb rfl ha15) rfl ?_
      refine WPL.q tk0 (fa fO_141_0 rfl) rfl ?_
      obtain ⟨s17, hv16, H⟩ := H
      refine WPL.q tk0 (ld kO_137 rfl hv16) rfl ?_
      refine WPL.q tk0 (lnb sO_137 rfl) rfl ?_
      refine WPL.q tk0 (mv rfl) rfl ?_
      refine WPL.nil ?_
      refine WQ.next ?_
      refine WPC.block ?_
      obtain ⟨I19, ⟨m23, HI24⟩, H⟩ := H
      refine WPC.weak (e' := [(0, image1.v), (5, .pointer p12), (28, .int .i64 (s17.len : Int)), (29, .int .i64 0)]) ?_ ⟨rfl, rfl, rfl, rfl, trivial⟩
      refine WPC.loop (fun m e h => ∃ (n18 : Int), e = [(0, image1.v), (5, .pointer p12), (28, .int .i64 (s17.len : Int)), (29, .int .i64 n18)] ∧ I19 m n18 h) ⟨m23, _, rfl, HI24⟩ ?_
      rintro m20 _ h21 ⟨n18, rfl, HI22⟩
      have H := H m20 n18 h21 HI22
      refine WPC.seq ?_
      refine WPC.region ?_
      refine WPL.q tk0 (bLss rfl rfl) rfl ?_
      refine WPL.nil ?_
      refine WQ.next ?_
      refine WPC.seq ?_
      refine WPC.cond rfl (fun hb25 => ?_) (fun hb25 => ?_)
      · have H := H.1 hb25
        refine WPC.skip ?_
        refine WQ.next ?_
        refine WPC.seq ?_
        refine WPC.block ?_
        refine WPC.seq ?_
        refine WPC.region ?_
        refine WPL.q tk0 (mv rfl) rfl ?_
        refine WPL.q tk0 (asg rfl) rfl ?_
        refine WPL.nil ?_
        refine WQ.next ?_
        refine WPC.draw (al := [0, 1, 3, 7, 0, 31, 63, 0, 0, 256, 896, 2047]) (p := (.p 0 (.p 1 (.p 2 (.q 3 (.p 4 (.p 5 (.p 6 (.p 7 (.p 8 (.p 9 (.p 10 (.e1 11 .done))))))))))))) mixO (by kernel_rfl) ?_
        refine PL.pp rfl rfl tk0 (fun _ => mv rfl) ?_
        refine PL.pp rfl rfl tk0 (fun _ => ncb rfl ha15) ?_
        refine PL.pp rfl rfl tk0 (fun _ => fa fO_141_0 rfl) ?_
        obtain ⟨s27, hv26, H⟩ := H
        refine PL.qq rfl rfl tk0 (ld kO_137 rfl hv26) ?_
        refine PL.pp rfl rfl tk0 (fun _ => mv rfl) ?_
        obtain ⟨a28, ha29, H⟩ := H
        obtain ⟨h30, h31, H⟩ := H
        refine PL.pp rfl rfl tk0 (fun _ => ixSb sO_137 rfl rfl ha29 h30 h31) ?_
        obtain ⟨s32, hs33, H⟩ := H
        refine PL.pp rfl rfl tk0 (fun _ => slcAN (l := none) (r := none) aO_143 rfl rfl rfl (by decide) (by decide) (by decide) hs33) ?_
        refine PL.pp rfl rfl tk0 (fun _ => mv rfl) ?_
        refine PL.pp rfl rfl tk0 (fun _ => mv rfl) ?_
        obtain ⟨n37, hn38, H⟩ := H
        refine PL.pp rfl rfl tk0 (fun _ => bMul rfl rfl hn38) ?_
        obtain ⟨c41, c42, c43, s39, hs40, H⟩ := H
        refine PL.pp rfl rfl tk0 (fun _ => slcSN (l := (some n37)) (r := none) sO_24 rfl rfl rfl c41 c42 c43 hs40) ?_
        obtain ⟨l45, h44, r49, hl46, ho47, hs48, hr50, H⟩ := H
        refine PL.ff (S' := []) (by kernel_rfl) rfl rfl tk0 (cpyN sO_24 rfl rfl hl46 ho47 hs48 hr50) (Stay.t (by kernel_rfl) Stay.n) ?_
        refine WQ.blockN ?_
        refine WQ.next ?_
        refine WPC.region ?_
        obtain ⟨n51, hn52, H⟩ := H
        refine WPL.q tk0 (bAdd rfl rfl hn52) rfl ?_
        refine WPL.q tk0 (mv rfl) rfl ?_
        refine WPL.nil ?_
        obtain ⟨m53, lt54, H⟩ := H
        exact WQ.again lt54 ⟨_, rfl, H⟩ ⟨rfl, rfl, rfl, rfl, trivial⟩
      · have H := H.2 hb25
        refine WPC.exit ?_
        refine WQ.thenX ?_
        refine WQ.thenX ?_
        refine WQ.hit ?_
        refine WQ.next ?_
        refine WPC.seq ?_
        refine WPC.region ?_
        refine WPL.q tk0 (mv rfl) rfl ?_
        refine WPL.q tk0 (asg rfl) rfl ?_
        refine WPL.q tk0 (asg rfl) rfl ?_
        refine WPL.nil ?_
        refine WQ.next ?_
        refine WPC.ret ?_
        exact WQ.done (rets2 rfl rfl rfl) ⟨_, _, rfl, H⟩
  · refine WPC.region ?_
    refine WPL.q tk0 (mv rfl) rfl ?_
    refine WPL.q tk0 (lnb sO_24 rfl) rfl ?_
    obtain ⟨n56, hn57, H⟩ := H
    refine WPL.q tk0 (bRem rfl rfl (by decide) hn57) rfl ?_
    refine WPL.q tk0 (bNeq rfl rfl) rfl ?_
    refine WPL.q tk0 (mv rfl) rfl ?_
    rcases Bool.eq_false_or_eq_true ((n56 != 0)) with hb59 | hb59
    · have H := H.1 hb59
      refine WPL.skip (ntkb rfl rfl hb59) rfl ?_
      refine WPL.skip (ntkb rfl rfl hb59) rfl ?_
      refine WPL.q tk0 (pkTb rfl hb59 rfl) rfl ?_
      refine WPL.q tk0 (mv rfl) rfl ?_
      refine WPL.skip (ntkb rfl rfl rfl) rfl ?_
      refine WPL.skip (ntkb rfl rfl rfl) rfl ?_
      refine WPL.q tk0 (pkTb rfl rfl rfl) rfl ?_
      refine WPL.nil ?_
      exact (hj7 _ _ ⟨_, rfl, H⟩).weak ⟨rfl, rfl, rfl, trivial⟩
    · have H := H.2 hb59
      refine WPL.q (tkb rfl rfl hb59) (mv rfl) rfl ?_
      refine WPL.q (tkb rfl rfl hb59) (bLss rfl rfl) rfl ?_
      refine WPL.q tk0 (pkFb rfl hb59 rfl) rfl ?_
      refine WPL.q tk0 (mv rfl) rfl ?_
      rcases Bool.eq_false_or_eq_true ((decide (n2 < 1))) with hb60 | hb60
      · have H := H.1 hb60
        refine WPL.skip (ntkb rfl rfl hb60) rfl ?_
        refine WPL.skip (ntkb rfl rfl hb60) rfl ?_
        refine WPL.q tk0 (pkTb rfl hb60 rfl) rfl ?_
        refine WPL.nil ?_
        exact (hj7 _ _ ⟨_, rfl, H⟩).weak ⟨rfl, rfl, rfl, trivial⟩
      · have H := H.2 hb60
        refine WPL.q (tkb rfl rfl hb60) (mv rfl) rfl ?_
        refine WPL.q (tkb rfl rfl hb60) (bGtr rfl rfl) rfl ?_
        refine WPL.q tk0 (pkFb rfl hb60 rfl) rfl ?_
        refine WPL.nil ?_
        exact (hj7 _ _ ⟨_, rfl, H⟩).weak ⟨rfl, rfl, rfl, trivial⟩

/-- (*trellis/disk.Disk).Sectors -/
def disk_Disk_Sectors (d1 : Option Addr) (K : Int → Hp → Prop) (h : Hp) : Prop :=
  (d1.isNone = true → (K 0 h)) ∧ (d1.isNone = false → (∃ a3 : Addr, d1 = some a3 ∧ ∃ s6 : Sl, rdc h (a3.add 0) = some (s6.v) ∧ K (s6.len : Int) h))

theorem disk_Disk_Sectors_ok {W : World} {h : Hp} {d1 : Option Addr} {K : Int → Hp → Prop} (H : disk_Disk_Sectors d1 K h) :
    CallsH Try.prog 44 (List.toArray [.pointer d1]) W h (fun v h' => ∃ (n1 : Int), v = .int .i64 n1 ∧ K n1 h') := by
  unfold disk_Disk_Sectors at H
  refine CallsH.intro (fn := Try.f44) (N := 10) (e := aE 0 [.pointer d1]) Try.func44 rfl rfl (aE_spec _) rfl ?_
  refine WPC.seq ?_
  refine WPC.region ?_
  refine WPL.q tk0 (asg rfl) rfl ?_
  refine WPL.nil ?_
  refine WQ.next ?_
  refine WPC.seq ?_
  refine WPC.seq ?_
  refine WPC.region ?_
  refine WPL.q tk0 (mv rfl) rfl ?_
  refine WPL.q tk0 (bEqN pO_31 rfl) rfl ?_
  refine WPL.nil ?_
  refine WQ.next ?_
  refine WPC.cond rfl (fun hb2 => ?_) (fun hb2 => ?_)
  · have H := H.1 hb2
    refine WPC.seq ?_
    refine WPC.region ?_
    refine WPL.q tk0 (asg rfl) rfl ?_
    refine WPL.nil ?_
    refine WQ.next ?_
    refine WPC.ret ?_
    refine WQ.thenR ?_
    exact WQ.done (rets1 rfl rfl) ⟨_, rfl, H⟩
  · have H := H.2 hb2
    refine WPC.skip ?_
    refine WQ.next ?_
    refine WPC.seq ?_
    refine WPC.region ?_
    refine WPL.q tk0 (mv rfl) rfl ?_
    obtain ⟨a3, ha4, H⟩ := H
    refine WPL.q tk0 (ncb rfl ha4) rfl ?_
    refine WPL.q tk0 (fa fO_141_0 rfl) rfl ?_
    obtain ⟨s6, hv5, H⟩ := H
    refine WPL.q tk0 (ld kO_137 rfl hv5) rfl ?_
    refine WPL.q tk0 (lnb sO_137 rfl) rfl ?_
    refine WPL.q tk0 (asg rfl) rfl ?_
    refine WPL.nil ?_
    refine WQ.next ?_
    refine WPC.ret ?_
    exact WQ.done (rets1 rfl rfl) ⟨_, rfl, H⟩

/-- (*trellis/disk.Disk).Pending -/
def disk_Disk_Pending (d1 : Option Addr) (K : Sl → Hp → Prop) (h : Hp) : Prop :=
  (d1.isNone = true → (K Sl.nil h)) ∧ (d1.isNone = false → (∃ a3 : Addr, d1 = some a3 ∧ ∃ s6 : Sl, rdc h (a3.add 1) = some (s6.v) ∧ ∃ I9 : Nat → Sl → Int → Hp → Prop, (∃ m13, I9 m13 Sl.nil 0 h) ∧ ∀ (m10 : Nat) (out7 : Sl) (n8 : Int) (h11 : Hp), I9 m10 out7 n8 h11 → (((decide (n8 < (s6.len : Int))) = true → (∃ a16 : Addr, s6.p = some a16 ∧ 0 ≤ n8 ∧ n8 < (s6.len : Int) ∧ ∃ (n21 : Int) (bs22 : List UInt8), bs22.length = 128 ∧ RdL h11 (a16.add (Int.toNat n8 * 129)) (.int .i64 n21 :: bs22.map bv) ∧ ∃ (b24 : Nat) (h25 : Hp), b24 = h11.size ∧ h25 = h11.push (Cel (.int .i64 0 :: (List.replicate 128 (0 : UInt8)).map bv) 145) ∧ ∃ h28 : Hp, bs22.length = 128 ∧ StL h25 (nA b24) (.int .i64 n21 :: bs22.map bv) h28 ∧ ∃ n32 : Int, rdc h28 ((nA b24).add 0) = some (.int .i64 n32) ∧ ∃ s33 : Sl, s33 = slA ((nA b24).add 1) 128 1 (Int.toNat (0 : Int)) (Int.toNat ((128 : Nat) : Int)) ∧ App h28 Sl.nil s33 1 1 5 [.int .u8 0] (fun s38 h39 => rdc h39 ((nA b24).add 0) = some (.int .i64 n32) ∧ ∃ (b41 : Nat) (h42 : Hp) (s43 : Sl), b41 = h39.size ∧ h42 = h39.push (Cel [.int .i64 n32, s38.v] 156) ∧ s43 = ⟨some (nA b41), 1, 1⟩ ∧ App h42 out7 s43 2 32 156 [.int .i64 0, .slice none 0 0] (fun s47 h48 => ∃ n49 : Int, Wr .i64 (n8 + 1) n49 ∧ ∃ m51, m51 < m10 ∧ I9 m51 s47 n49 h48)))) ∧ ((decide (n8 < (s6.len : Int))) = false → (K out7 h11)))))

theorem disk_Disk_Pending_ok {W : World} {h : Hp} {d1 : Option Addr} {K : Sl → Hp → Prop} (H : disk_Disk_Pending d1 K h) :
    CallsH Try.prog 92 (List.toArray [.pointer d1]) W h (fun v h' => ∃ (s1 : Sl), v = s1.v ∧ K s1 h') := by
  unfold disk_Disk_Pending at H
  refine CallsH.intro (fn := Try.f92) (N := 28) (e := aE 0 [.pointer d1]) Try.func92 rfl rfl (aE_spec _) rfl ?_
  refine WPC.seq ?_
  refine WPC.region ?_
  refine WPL.q tk0 (asg rfl) rfl ?_
  refine WPL.nil ?_
  refine WQ.next ?_
  refine WPC.seq ?_
  refine WPC.seq ?_
  refine WPC.region ?_
  refine WPL.q tk0 (mv rfl) rfl ?_
  refine WPL.q tk0 (bEqN pO_31 rfl) rfl ?_
  refine WPL.nil ?_
  refine WQ.next ?_
  refine WPC.cond rfl (fun hb2 => ?_) (fun hb2 => ?_)
  · have H := H.1 hb2
    refine WPC.seq ?_
    refine WPC.region ?_
    refine WPL.q tk0 (asg rfl) rfl ?_
    refine WPL.nil ?_
    refine WQ.next ?_
    refine WPC.ret ?_
    refine WQ.thenR ?_
    exact WQ.done (rets1 rfl rfl) ⟨_, rfl, H⟩
  · have H := H.2 hb2
    refine WPC.skip ?_
    refine WQ.next ?_
    refine WPC.seq ?_
    refine WPC.region ?_
    refine WPL.q tk0 (asg rfl) rfl ?_
    refine WPL.nil ?_
    refine WQ.next ?_
    refine WPC.seq ?_
    refine WPC.seq ?_
    refine WPC.region ?_
    refine WPL.q tk0 (mv rfl) rfl ?_
    obtain ⟨a3, ha4, H⟩ := H
    refine WPL.q tk0 (ncb rfl ha4) rfl ?_
    refine WPL.q tk0 (fa fO_141_1 rfl) rfl ?_
    obtain ⟨s6, hv5, H⟩ := H
    refine WPL.q tk0 (ld kO_138 rfl hv5) rfl ?_
    refine WPL.q tk0 (lnb sO_138 rfl) rfl ?_
    refine WPL.q tk0 (mv rfl) rfl ?_
    refine WPL.nil ?_
    refine WQ.next ?_
    refine WPC.block ?_
    obtain ⟨I9, ⟨m13, HI14⟩, H⟩ := H
    refine WPC.weak (e' := [(3, .slice none 0 0), (11, s6.v), (12, .int .i64 (s6.len : Int)), (13, .int .i64 0)]) ?_ ⟨rfl, rfl, rfl, rfl, trivial⟩
    refine WPC.loop (fun m e h => ∃ (out7 : Sl), ∃ (n8 : Int), e = [(3, out7.v), (11, s6.v), (12, .int .i64 (s6.len : Int)), (13, .int .i64 n8)] ∧ I9 m out7 n8 h) ⟨m13, _, _, rfl, HI14⟩ ?_
    rintro m10 _ h11 ⟨out7, n8, rfl, HI12⟩
    have H := H m10 out7 n8 h11 HI12
    refine WPC.seq ?_
    refine WPC.region ?_
    refine WPL.q tk0 (bLss rfl rfl) rfl ?_
    refine WPL.nil ?_
    refine WQ.next ?_
    refine WPC.seq ?_
    refine WPC.cond rfl (fun hb15 => ?_) (fun hb15 => ?_)
    · have H := H.1 hb15
      refine WPC.skip ?_
      refine WQ.next ?_
      refine WPC.seq ?_
      refine WPC.block ?_
      refine WPC.seq ?_
      refine WPC.region ?_
      obtain ⟨a16, ha17, H⟩ := H
      obtain ⟨h18, h19, H⟩ := H
      refine WPL.q tk0 (ixSb sO_138 rfl rfl ha17 h18 h19) rfl ?_
      obtain ⟨n21, bs22, hl23, hv20, H⟩ := H
      refine WPL.q tk0 (ldA kO_145 rfl (by simp [hl23]) hv20) rfl ?_
      obtain ⟨b24, h25, hb26, hh27, H⟩ := H
      refine WPL.f tk0 (alN zO_145 hb26 hh27) rfl ?_
      obtain ⟨h28, hl30, hs29, H⟩ := H
      refine WPL.f tk0 (stA kO_145 rfl rfl (by simp [hl30]) (oneC.c rfl oneC.b) hs29) rfl ?_
      refine WPL.nil ?_
      refine WQ.next ?_
      refine WPC.draw (al := [0, 0, 2, 0, 8, 24, 62, 126, 255, 511]) (p := (.p 0 (.p 1 (.q 2 (.p 3 (.p 4 (.e1 5 (.p 6 (.e1 7 (.e1 8 (.p 9 .done))))))))))) mixO (by kernel_rfl) ?_
      refine PL.pp rfl rfl tk0 (fun _ => mv rfl) ?_
      refine PL.pp rfl rfl tk0 (fun _ => fa fO_145_0 rfl) ?_
      obtain ⟨n32, hv31, H⟩ := H
      refine PL.qq rfl rfl tk0 (ld kO_3 rfl hv31) ?_
      refine PL.pp rfl rfl tk0 (fun _ => fa fO_145_1 rfl) ?_
      obtain ⟨s33, hs34, H⟩ := H
      refine PL.pp rfl rfl tk0 (fun _ => slcAN (l := none) (r := none) aO_143 rfl rfl rfl (by decide) (by decide) (by decide) hs34) ?_
      refine PL.ee (S' := [(2, .int .i64 n32)]) (by kernel_rfl) rfl rfl tk0 (app (rt := 0) sO_24 zO_5 rfl (by decide) rfl rfl H) ?_
      rintro _ h39 ⟨s38, rfl, H⟩
      obtain ⟨hs40, H⟩ := H
      refine ⟨(Stay.y (by kernel_rfl) rfl tk0 (ld kO_3 rfl hs40) Stay.n), ?_⟩
      refine PL.pp rfl rfl tk0 (fun _ => bd (l := [.int .i64 n32, s38.v]) rfl (by kernel_rfl)) ?_
      obtain ⟨b41, h42, s43, hb44, hh45, hs46, H⟩ := H
      refine PL.ff (S' := []) (by kernel_rfl) rfl rfl tk0 (bsl1N (l := [.int .i64 n32, s38.v]) sO_149 zO_156 rfl rfl rfl ⟨by decide, rfl⟩ hb44 hh45 hs46) (Stay.t (by kernel_rfl) Stay.n) ?_
      refine PL.ee (S' := []) (by kernel_rfl) rfl rfl tk0 (app (rt := 0) sO_149 zO_156 rfl (by decide) rfl rfl H) ?_
      rintro _ h48 ⟨s47, rfl, H⟩
      refine ⟨Stay.n, ?_⟩
      refine PL.pp rfl rfl tk0 (fun _ => asg rfl) ?_
      refine WQ.blockN ?_
      refine WQ.next ?_
      refine WPC.region ?_
      obtain ⟨n49, hn50, H⟩ := H
      refine WPL.q tk0 (bAdd rfl rfl hn50) rfl ?_
      refine WPL.q tk0 (mv rfl) rfl ?_
      refine WPL.nil ?_
      obtain ⟨m51, lt52, H⟩ := H
      exact WQ.again lt52 ⟨_, _, rfl, H⟩ ⟨rfl, rfl, rfl, rfl, trivial⟩
    · have H := H.2 hb15
      refine WPC.exit ?_
      refine WQ.thenX ?_
      refine WQ.thenX ?_
      refine WQ.hit ?_
      refine WQ.next ?_
      refine WPC.seq ?_
      refine WPC.region ?_
      refine WPL.q tk0 (mv rfl) rfl ?_
      refine WPL.q tk0 (asg rfl) rfl ?_
      refine WPL.nil ?_
      refine WQ.next ?_
      refine WPC.ret ?_
      exact WQ.done (rets1 rfl rfl) ⟨_, rfl, H⟩

end Go.Proofs.Ythpeadoidpimmaa
