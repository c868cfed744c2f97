/- What each Go function of this group asks ahead of a call (printed by gen.py), and that this is enough. -/
import Derived.Test.YthpeadoidpimmaaGDisk
import Derived.Test.YthpeadoidpimmaaGLawA
namespace Go.Proofs.Ythpeadoidpimmaa
open Go Tw
set_option linter.unusedVariables false
set_option maxRecDepth 10000
set_option maxHeartbeats 4000000

/-- trellis/trellislaw2.puts -/
def law2_puts (d1 : Option Addr) (n2 : Int) (l3 : Sl) (K : Bool → Hp → Prop) (h : Hp) : Prop :=
  ∃ I5 : Nat → Int → Hp → Prop, (∃ m9, I5 m9 0 h) ∧ ∀ (m6 : Nat) (i4 : Int) (h7 : Hp), I5 m6 i4 h7 → (((decide (i4 < (l3.len : Int))) = true → (∃ a12 : Addr, l3.p = some a12 ∧ 0 ≤ i4 ∧ i4 < (l3.len : Int) ∧ ∃ n17 : Int, rdc h7 ((a12.add (Int.toNat i4 * 2)).add 0) = some (.int .i64 n17) ∧ 0 ≤ i4 ∧ i4 < (l3.len : Int) ∧ ∃ n21 : Int, rdc h7 ((a12.add (Int.toNat i4 * 2)).add 1) = some (.int .u8 n21) ∧ law2_filled n21 (fun s22 h23 => rdc h23 ((a12.add (Int.toNat i4 * 2)).add 0) = some (.int .i64 n17) ∧ disk_Disk_Write d1 n17 s22 (fun n25 h26 => ∃ k28 : Bool → Hp → Prop, (∀ (there27 : Bool) (h31 : Hp), k28 there27 h31 → (∃ k34 : Bool → Hp → Prop, (∀ (b33 : Bool) (h37 : Hp), k34 b33 h37 → ((b33 = true → (K false h37)) ∧ (b33 = false → (∃ n40 : Int, Wr .i64 (i4 + 1) n40 ∧ ∃ m42, m42 < m6 ∧ I5 m42 n40 h37)))) ∧ ((there27 = true → (((n25 != 0) = true → (k34 true h31)) ∧ ((n25 != 0) = false → (k34 false h31)))) ∧ (there27 = false → (k34 (n25 != 20) h31))))) ∧ (0 ≤ i4 ∧ i4 < (l3.len : Int) ∧ ∃ n50 : Int, rdc h26 ((a12.add (Int.toNat i4 * 2)).add 0) = some (.int .i64 n50) ∧ ((decide (n50 ≥ 0)) = true → (0 ≤ i4 ∧ i4 < (l3.len : Int) ∧ ∃ n55 : Int, rdc h26 ((a12.add (Int.toNat i4 * 2)).add 0) = some (.int .i64 n55) ∧ k28 (decide (n55 < n2)) h26)) ∧ ((decide (n50 ≥ 0)) = false → (k28 false h26)))) h23) h7)) ∧ ((decide (i4 < (l3.len : Int))) = false → (K true h7)))

theorem law2_puts_ok {W : World} {h : Hp} {d1 : Option Addr} {n2 : Int} {l3 : Sl} {K : Bool → Hp → Prop} (H : law2_puts d1 n2 l3 K h) :
    CallsH Try.prog 86 (List.toArray [.pointer d1, .int .i64 n2, l3.v]) W h (fun v h' => ∃ (b1 : Bool), v = .bool b1 ∧ K b1 h') := by
  unfold law2_puts at H
  refine CallsH.intro (fn := Try.f86) (N := 57) (e := aE 0 [.pointer d1, .int .i64 n2, l3.v]) Try.func86 rfl rfl (aE_spec _) rfl ?_
  refine WPC.seq ?_
  refine WPC.region ?_
  refine WPL.q tk0 (asg rfl) rfl ?_
  refine WPL.nil ?_
  refine WQ.next ?_
  refine WPC.seq ?_
  refine WPC.seq ?_
  refine WPC.region ?_
  refine WPL.q tk0 (asg rfl) rfl ?_
  refine WPL.nil ?_
  refine WQ.next ?_
  refine WPC.block ?_
  obtain ⟨I5, ⟨m9, HI10⟩, H⟩ := H
  refine WPC.weak (e' := [(0, .pointer d1), (1, .int .i64 n2), (2, l3.v), (7, .int .i64 0)]) ?_ ⟨rfl, rfl, rfl, rfl, trivial⟩
  refine WPC.loop (fun m e h => ∃ (i4 : Int), e = [(0, .pointer d1), (1, .int .i64 n2), (2, l3.v), (7, .int .i64 i4)] ∧ I5 m i4 h) ⟨m9, _, rfl, HI10⟩ ?_
  rintro m6 _ h7 ⟨i4, rfl, HI8⟩
  have H := H m6 i4 h7 HI8
  refine WPC.seq ?_
  refine WPC.seq ?_
  refine WPC.region ?_
  refine WPL.q tk0 (mv rfl) rfl ?_
  refine WPL.q tk0 (mv rfl) rfl ?_
  refine WPL.q tk0 (lnb sO_35 rfl) rfl ?_
  refine WPL.q tk0 (bLss rfl rfl) rfl ?_
  refine WPL.nil ?_
  refine WQ.next ?_
  refine WPC.cond rfl (fun hb11 => ?_) (fun hb11 => ?_)
  · have H := H.1 hb11
    refine WPC.skip ?_
    refine WQ.next ?_
    refine WPC.seq ?_
    refine WPC.block ?_
    refine WPC.seq ?_
    refine WPC.draw (al := [0, 0, 0, 6, 14, 30, 0, 0, 192, 448, 960, 1984, 4095, 8191]) (p := (.p 0 (.p 1 (.p 2 (.p 3 (.p 4 (.q 5 (.p 6 (.p 7 (.p 8 (.p 9 (.q 10 (.e1 11 (.e1 12 (.p 13 .done))))))))))))))) mixO (by kernel_rfl) ?_
    refine PL.pp rfl rfl tk0 (fun _ => mv rfl) ?_
    refine PL.pp rfl rfl tk0 (fun _ => mv rfl) ?_
    refine PL.pp rfl rfl tk0 (fun _ => mv rfl) ?_
    obtain ⟨a12, ha13, H⟩ := H
    obtain ⟨h14, h15, H⟩ := H
    refine PL.pp rfl rfl tk0 (fun _ => ixSb sO_35 rfl rfl ha13 h14 h15) ?_
    refine PL.pp rfl rfl tk0 (fun _ => fa fO_136_0 rfl) ?_
    obtain ⟨n17, hv16, H⟩ := H
    refine PL.qq rfl rfl tk0 (ld kO_3 rfl hv16) ?_
    refine PL.pp rfl rfl tk0 (fun _ => mv rfl) ?_
    refine PL.pp rfl rfl tk0 (fun _ => mv rfl) ?_
    obtain ⟨h18, h19, H⟩ := H
    refine PL.pp rfl rfl tk0 (fun _ => ixSb sO_35 rfl rfl ha13 h18 h19) ?_
    refine PL.pp rfl rfl tk0 (fun _ => fa fO_136_1 rfl) ?_
    obtain ⟨n21, hv20, H⟩ := H
    refine PL.qq rfl rfl tk0 (ld kO_5 rfl hv20) ?_
    have HC := law2_filled_ok (W := W) H
    refine PL.ee (S' := [(5, .int .i64 n17)]) (by kernel_rfl) rfl rfl tk0 (cl cO_37 rfl HC) ?_
    rintro _ h23 ⟨s22, rfl, H⟩
    obtain ⟨hs24, H⟩ := H
    refine ⟨(Stay.t (by kernel_rfl) (Stay.y (by kernel_rfl) rfl tk0 (ld kO_3 rfl hs24) Stay.n)), ?_⟩
    have HC := disk_Disk_Write_ok (W := W) H
    refine PL.ee (S' := []) (by kernel_rfl) rfl rfl tk0 (cl cO_36 rfl HC) ?_
    rintro _ h26 ⟨n25, rfl, H⟩
    refine ⟨(Stay.t (by kernel_rfl) Stay.n), ?_⟩
    refine PL.pp rfl rfl tk0 (fun _ => asg rfl) ?_
    refine WQ.next ?_
    refine WPC.seq ?_
    obtain ⟨k28, hk30, H⟩ := H
    refine WPC.join (fun e h => ∃ (there27 : Bool), e = [(0, .pointer d1), (1, .int .i64 n2), (2, l3.v), (7, .int .i64 i4), (8, .int .i64 n25), (9, .bool there27)] ∧ k28 there27 h) ?_ (fun hj29 => ?_)
    · rintro _ h31 ⟨there27, rfl, HK32⟩
      have H := hk30 there27 h31 HK32
      refine WQ.next ?_
      refine WPC.seq ?_
      obtain ⟨k34, hk36, H⟩ := H
      refine WPC.join (fun e h => ∃ (b33 : Bool), e = [(0, .pointer d1), (1, .int .i64 n2), (2, l3.v), (7, .int .i64 i4), (56, .bool b33)] ∧ k34 b33 h) ?_ (fun hj35 => ?_)
      · rintro _ h37 ⟨b33, rfl, HK38⟩
        have H := hk36 b33 h37 HK38
        refine WQ.next ?_
        refine WPC.cond rfl (fun hb39 => ?_) (fun hb39 => ?_)
        · have H := H.1 hb39
          refine WPC.seq ?_
          refine WPC.region ?_
          refine WPL.q tk0 (asg rfl) rfl ?_
          refine WPL.nil ?_
          refine WQ.next ?_
          refine WPC.ret ?_
          refine WQ.blockR ?_
          refine WQ.thenR ?_
          refine WQ.thenR ?_
          refine WQ.blockR ?_
          refine WQ.thenR ?_
          exact WQ.done (rets1 rfl rfl) ⟨_, rfl, H⟩
        · have H := H.2 hb39
          refine WPC.skip ?_
          refine WQ.blockN ?_
          refine WQ.next ?_
          refine WPC.region ?_
          refine WPL.q tk0 (mv rfl) rfl ?_
          obtain ⟨n40, hn41, H⟩ := H
          refine WPL.q tk0 (bAdd rfl rfl hn41) rfl ?_
          refine WPL.q tk0 (asg rfl) rfl ?_
          refine WPL.nil ?_
          obtain ⟨m42, lt43, H⟩ := H
          exact WQ.again lt43 ⟨_, rfl, H⟩ ⟨rfl, rfl, rfl, rfl, trivial⟩
      · refine WPC.region ?_
        refine WPL.q tk0 (mv rfl) rfl ?_
        refine WPL.q tk0 (mv rfl) rfl ?_
        rcases Bool.eq_false_or_eq_true (there27) with hb45 | hb45
        · have H := H.1 hb45
          refine WPL.q (tkb rfl rfl hb45) (mv rfl) rfl ?_
          refine WPL.q (tkb rfl rfl hb45) (bNeq rfl rfl) rfl ?_
          refine WPL.q tk0 (pkTb rfl hb45 rfl) rfl ?_
          refine WPL.q tk0 (mv rfl) rfl ?_
          rcases Bool.eq_false_or_eq_true ((n25 != 0)) with hb46 | hb46
          · have H := H.1 hb46
            refine WPL.skip (ntkb rfl rfl hb46) rfl ?_
            refine WPL.skip (ntkb rfl rfl hb46) rfl ?_
            refine WPL.skip (ntkb rfl rfl hb46) rfl ?_
            refine WPL.skip (ntku rfl rfl) rfl ?_
            refine WPL.skip (ntku rfl rfl) rfl ?_
            refine WPL.skip (ntkb rfl rfl hb46) rfl ?_
            refine WPL.q tk0 (pkTb rfl hb46 rfl) rfl ?_
            refine WPL.nil ?_
            exact (hj35 _ _ ⟨_, rfl, H⟩).weak ⟨rfl, rfl, rfl, rfl, rfl, trivial⟩
          · have H := H.2 hb46
            refine WPL.q (tkb rfl rfl hb46) (mv rfl) rfl ?_
            refine WPL.q (tkb rfl rfl hb46) (uNot rfl) rfl ?_
            refine WPL.q (tkb rfl rfl hb46) (mv rfl) rfl ?_
            refine WPL.skip (ntkb rfl rfl (congrArg Bool.not hb45)) rfl ?_
            refine WPL.skip (ntkb rfl rfl (congrArg Bool.not hb45)) rfl ?_
            refine WPL.q (tkb rfl rfl hb46) (pkFb rfl (congrArg Bool.not hb45) rfl) rfl ?_
            refine WPL.q tk0 (pkFb rfl hb46 rfl) rfl ?_
            refine WPL.nil ?_
            exact (hj35 _ _ ⟨_, rfl, H⟩).weak ⟨rfl, rfl, rfl, rfl, rfl, trivial⟩
        · have H := H.2 hb45
          refine WPL.skip (ntkb rfl rfl hb45) rfl ?_
          refine WPL.skip (ntkb rfl rfl hb45) rfl ?_
          refine WPL.q tk0 (pkFb rfl hb45 rfl) rfl ?_
          refine WPL.q tk0 (mv rfl) rfl ?_
          refine WPL.q (tkb rfl rfl rfl) (mv rfl) rfl ?_
          refine WPL.q (tkb rfl rfl rfl) (uNot rfl) rfl ?_
          refine WPL.q (tkb rfl rfl rfl) (mv rfl) rfl ?_
          refine WPL.q (tkb rfl rfl (congrArg Bool.not hb45)) (mv rfl) rfl ?_
          refine WPL.q (tkb rfl rfl (congrArg Bool.not hb45)) (bNeq rfl rfl) rfl ?_
          refine WPL.q (tkb rfl rfl rfl) (pkTb rfl (congrArg Bool.not hb45) rfl) rfl ?_
          refine WPL.q tk0 (pkFb rfl rfl rfl) rfl ?_
          refine WPL.nil ?_
          exact (hj35 _ _ ⟨_, rfl, H⟩).weak ⟨rfl, rfl, rfl, rfl, rfl, trivial⟩
    · refine WPC.region ?_
      refine WPL.q tk0 (mv rfl) rfl ?_
      refine WPL.q tk0 (mv rfl) rfl ?_
      obtain ⟨h47, h48, H⟩ := H
      refine WPL.q tk0 (ixSb sO_35 rfl rfl ha13 h47 h48) rfl ?_
      refine WPL.q tk0 (fa fO_136_0 rfl) rfl ?_
      obtain ⟨n50, hv49, H⟩ := H
      refine WPL.q tk0 (ld kO_3 rfl hv49) rfl ?_
      refine WPL.q tk0 (bGeq rfl rfl) rfl ?_
      refine WPL.q tk0 (mv rfl) rfl ?_
      rcases Bool.eq_false_or_eq_true ((decide (n50 ≥ 0))) with hb51 | hb51
      · have H := H.1 hb51
        refine WPL.q (tkb rfl rfl hb51) (mv rfl) rfl ?_
        refine WPL.q (tkb rfl rfl hb51) (mv rfl) rfl ?_
        obtain ⟨h52, h53, H⟩ := H
        refine WPL.q (tkb rfl rfl hb51) (ixSb sO_35 rfl rfl ha13 h52 h53) rfl ?_
        refine WPL.q (tkb rfl rfl hb51) (fa fO_136_0 rfl) rfl ?_
        obtain ⟨n55, hv54, H⟩ := H
        refine WPL.q (tkb rfl rfl hb51) (ld kO_3 rfl hv54) rfl ?_
        refine WPL.q (tkb rfl rfl hb51) (mv rfl) rfl ?_
        refine WPL.q (tkb rfl rfl hb51) (bLss rfl rfl) rfl ?_
        refine WPL.q tk0 (pkTb rfl hb51 rfl) rfl ?_
        refine WPL.q tk0 (asg rfl) rfl ?_
        refine WPL.nil ?_
        exact (hj29 _ _ ⟨_, rfl, H⟩).weak ⟨rfl, rfl, rfl, rfl, rfl, rfl, trivial⟩
      · have H := H.2 hb51
        refine WPL.skip (ntkb rfl rfl hb51) rfl ?_
        refine WPL.skip (ntkb rfl rfl hb51) rfl ?_
        refine WPL.skip (ntkb rfl rfl hb51) rfl ?_
        refine WPL.skip (ntkb rfl rfl hb51) rfl ?_
        refine WPL.skip (ntkb rfl rfl hb51) rfl ?_
        refine WPL.skip (ntkb rfl rfl hb51) rfl ?_
        refine WPL.skip (ntkb rfl rfl hb51) rfl ?_
        refine WPL.q tk0 (pkFb rfl hb51 rfl) rfl ?_
        refine WPL.q tk0 (asg rfl) rfl ?_
        refine WPL.nil ?_
        exact (hj29 _ _ ⟨_, rfl, H⟩).weak ⟨rfl, rfl, rfl, rfl, rfl, rfl, trivial⟩
  · have H := H.2 hb11
    refine WPC.exit ?_
    refine WQ.thenX ?_
    refine WQ.thenX ?_
    refine WQ.hit ?_
    refine WQ.next ?_
    refine WPC.seq ?_
    refine WPC.region ?_
    refine WPL.q tk0 (asg rfl) rfl ?_
    refine WPL.nil ?_
    refine WQ.next ?_
    refine WPC.ret ?_
    exact WQ.done (rets1 rfl rfl) ⟨_, rfl, H⟩

/-- trellis/trellislaw2.round -/
def law2_round (d1 : Option Addr) (n2 : Int) (s3 : Sl) (s4 : Sl) (s5 : Sl) (b6 : Bool) (K : Bool → Hp → Prop) (h : Hp) : Prop :=
  ∃ (b7 : Nat) (h8 : Hp), b7 = h.size ∧ h8 = h.push (Cel [s3.v, s4.v, s5.v, .bool b6] 37) ∧ ∃ s12 : Sl, rdc h8 ((nA b7).add 0) = some (s12.v) ∧ law2_puts d1 n2 s12 (fun b13 h14 => ∃ k16 : Bool → Hp → Prop, (∀ (b15 : Bool) (h19 : Hp), k16 b15 h19 → ((b15 = true → (K false h19)) ∧ (b15 = false → (∃ s23 : Sl, rdc h19 ((nA b7).add 1) = some (s23.v) ∧ law2_puts d1 n2 s23 (fun b24 h25 => ((!b24) = true → (K false h25)) ∧ ((!b24) = false → (∃ k28 : Bool → Hp → Prop, (∀ (b27 : Bool) (h31 : Hp), k28 b27 h31 → ((b27 = true → (K false h31)) ∧ (b27 = false → (∃ s35 : Sl, rdc h31 ((nA b7).add 2) = some (s35.v) ∧ App h31 Sl.nil s35 1 1 4 [.bool false] (fun s36 h37 => disk_Disk_Crash d1 s36 (fun n38 n39 h40 => K (n39 == 0) h40) h37))))) ∧ (∃ b42 : Bool, rdc h25 ((nA b7).add 3) = some (.bool b42) ∧ (b42 = true → (disk_Disk_Cut d1 0 (fun n44 h45 => ((n44 != 0) = true → (k28 true h45)) ∧ ((n44 != 0) = false → (disk_Disk_Flush d1 (fun n47 h48 => k28 (n47 != 2) h48) h45))) h25)) ∧ (b42 = false → (k28 false h25)))))) h19)))) ∧ (((!b13) = true → (k16 true h14)) ∧ ((!b13) = false → (disk_Disk_Flush d1 (fun n50 h51 => k16 (n50 != 0) h51) h14)))) h8

theorem law2_round_ok {W : World} {h : Hp} {d1 : Option Addr} {n2 : Int} {s3 : Sl} {s4 : Sl} {s5 : Sl} {b6 : Bool} {K : Bool → Hp → Prop} (H : law2_round d1 n2 s3 s4 s5 b6 K h) :
    CallsH Try.prog 31 (List.toArray [.pointer d1, .int .i64 n2, .agg (List.toArray [s3.v, s4.v, s5.v, .bool b6])]) W h (fun v h' => ∃ (b1 : Bool), v = .bool b1 ∧ K b1 h') := by
  unfold law2_round at H
  refine CallsH.intro (fn := Try.f31) (N := 51) (e := aE 0 [.pointer d1, .int .i64 n2, .agg (List.toArray [s3.v, s4.v, s5.v, .bool b6])]) Try.func31 rfl rfl (aE_spec _) rfl ?_
  refine WPC.seq ?_
  refine WPC.region ?_
  obtain ⟨b7, h8, hb9, hh10, H⟩ := H
  refine WPL.f tk0 (bxN (l := [s3.v, s4.v, s5.v, .bool b6]) rfl rfl hb9 hh10) rfl ?_
  refine WPL.q tk0 (asg rfl) rfl ?_
  refine WPL.nil ?_
  refine WQ.next ?_
  refine WPC.seq ?_
  refine WPC.region ?_
  refine WPL.q tk0 (mv rfl) rfl ?_
  refine WPL.q tk0 (mv rfl) rfl ?_
  refine WPL.q tk0 (fa fO_37_0 rfl) rfl ?_
  obtain ⟨s12, hv11, H⟩ := H
  refine WPL.q tk0 (ld kO_35 rfl hv11) rfl ?_
  have HC := law2_puts_ok (W := W) H
  refine WPL.eff tk0 (cl cO_86 rfl HC) rfl ?_
  rintro _ h14 ⟨b13, rfl, H⟩
  refine WPL.q tk0 (asg rfl) rfl ?_
  refine WPL.nil ?_
  refine WQ.next ?_
  refine WPC.seq ?_
  refine WPC.seq ?_
  obtain ⟨k16, hk18, H⟩ := H
  refine WPC.join (fun e h => ∃ (b15 : Bool), e = [(0, .pointer d1), (1, .int .i64 n2), (5, .pointer (some (nA b7))), (21, .bool b15)] ∧ k16 b15 h) ?_ (fun hj17 => ?_)
  · rintro _ h19 ⟨b15, rfl, HK20⟩
    have H := hk18 b15 h19 HK20
    refine WQ.next ?_
    refine WPC.cond rfl (fun hb21 => ?_) (fun hb21 => ?_)
    · have H := H.1 hb21
      refine WPC.seq ?_
      refine WPC.region ?_
      refine WPL.q tk0 (asg rfl) rfl ?_
      refine WPL.nil ?_
      refine WQ.next ?_
      refine WPC.ret ?_
      refine WQ.thenR ?_
      exact WQ.done (rets1 rfl rfl) ⟨_, rfl, H⟩
    · have H := H.2 hb21
      refine WPC.skip ?_
      refine WQ.next ?_
      refine WPC.seq ?_
      refine WPC.region ?_
      refine WPL.q tk0 (mv rfl) rfl ?_
      refine WPL.q tk0 (mv rfl) rfl ?_
      refine WPL.q tk0 (fa fO_37_1 rfl) rfl ?_
      obtain ⟨s23, hv22, H⟩ := H
      refine WPL.q tk0 (ld kO_35 rfl hv22) rfl ?_
      have HC := law2_puts_ok (W := W) H
      refine WPL.eff tk0 (cl cO_86 rfl HC) rfl ?_
      rintro _ h25 ⟨b24, rfl, H⟩
      refine WPL.q tk0 (asg rfl) rfl ?_
      refine WPL.nil ?_
      refine WQ.next ?_
      refine WPC.seq ?_
      refine WPC.seq ?_
      refine WPC.region ?_
      refine WPL.q tk0 (mv rfl) rfl ?_
      refine WPL.q tk0 (uNot rfl) rfl ?_
      refine WPL.nil ?_
      refine WQ.next ?_
      refine WPC.cond rfl (fun hb26 => ?_) (fun hb26 => ?_)
      · have H := H.1 hb26
        refine WPC.seq ?_
        refine WPC.region ?_
        refine WPL.q tk0 (asg rfl) rfl ?_
        refine WPL.nil ?_
        refine WQ.next ?_
        refine WPC.ret ?_
        refine WQ.thenR ?_
        exact WQ.done (rets1 rfl rfl) ⟨_, rfl, H⟩
      · have H := H.2 hb26
        refine WPC.skip ?_
        refine WQ.next ?_
        refine WPC.seq ?_
        refine WPC.seq ?_
        obtain ⟨k28, hk30, H⟩ := H
        refine WPC.join (fun e h => ∃ (b27 : Bool), e = [(0, .pointer d1), (5, .pointer (some (nA b7))), (40, .bool b27)] ∧ k28 b27 h) ?_ (fun hj29 => ?_)
        · rintro _ h31 ⟨b27, rfl, HK32⟩
          have H := hk30 b27 h31 HK32
          refine WQ.next ?_
          refine WPC.cond rfl (fun hb33 => ?_) (fun hb33 => ?_)
          · have H := H.1 hb33
            refine WPC.seq ?_
            refine WPC.region ?_
            refine WPL.q tk0 (asg rfl) rfl ?_
            refine WPL.nil ?_
            refine WQ.next ?_
            refine WPC.ret ?_
            refine WQ.thenR ?_
            exact WQ.done (rets1 rfl rfl) ⟨_, rfl, H⟩
          · have H := H.2 hb33
            refine WPC.skip ?_
            refine WQ.next ?_
            refine WPC.seq ?_
            refine WPC.region ?_
            refine WPL.q tk0 (mv rfl) rfl ?_
            refine WPL.q tk0 (fa fO_37_2 rfl) rfl ?_
            obtain ⟨s35, hv34, H⟩ := H
            refine WPL.q tk0 (ld kO_30 rfl hv34) rfl ?_
            refine WPL.eff tk0 (app (rt := 0) sO_30 zO_4 rfl (by decide) rfl rfl H) rfl ?_
            rintro _ h37 ⟨s36, rfl, H⟩
            have HC := disk_Disk_Crash_ok (W := W) H
            refine WPL.eff tk0 (cl cO_40 rfl HC) rfl ?_
            rintro _ h40 ⟨n38, n39, rfl, H⟩
            refine WPL.q tk0 (mv rfl) rfl ?_
            refine WPL.q tk0 (ext rfl rfl) rfl ?_
            refine WPL.q tk0 (ext rfl rfl) rfl ?_
            refine WPL.q tk0 (asg rfl) rfl ?_
            refine WPL.q tk0 (asg rfl) rfl ?_
            refine WPL.nil ?_
            refine WQ.next ?_
            refine WPC.seq ?_
            refine WPC.region ?_
            refine WPL.q tk0 (mv rfl) rfl ?_
            refine WPL.q tk0 (bEql rfl rfl) rfl ?_
            refine WPL.q tk0 (asg rfl) rfl ?_
            refine WPL.nil ?_
            refine WQ.next ?_
            refine WPC.ret ?_
            exact WQ.done (rets1 rfl rfl) ⟨_, rfl, H⟩
        · refine WPC.region ?_
          refine WPL.q tk0 (fa fO_37_3 rfl) rfl ?_
          obtain ⟨b42, hv41, H⟩ := H
          refine WPL.q tk0 (ld kO_4 rfl hv41) rfl ?_
          refine WPL.q tk0 (mv rfl) rfl ?_
          rcases Bool.eq_false_or_eq_true (b42) with hb43 | hb43
          · have H := H.1 hb43
            refine WPL.q (tkb rfl rfl hb43) (mv rfl) rfl ?_
            have HC := disk_Disk_Cut_ok (W := W) H
            refine WPL.eff (tkb rfl rfl hb43) (cl cO_34 rfl HC) rfl ?_
            rintro _ h45 ⟨n44, rfl, H⟩
            refine WPL.q (tkb rfl rfl hb43) (bNeq rfl rfl) rfl ?_
            refine WPL.q (tkb rfl rfl hb43) (mv rfl) rfl ?_
            rcases Bool.eq_false_or_eq_true ((n44 != 0)) with hb46 | hb46
            · have H := H.1 hb46
              refine WPL.skip (ntkb rfl rfl hb46) rfl ?_
              refine WPL.skip (ntkb rfl rfl hb46) rfl ?_
              refine WPL.skip (ntkb rfl rfl hb46) rfl ?_
              refine WPL.q (tkb rfl rfl hb43) (pkTb rfl hb46 rfl) rfl ?_
              refine WPL.q tk0 (pkTb rfl hb43 rfl) rfl ?_
              refine WPL.nil ?_
              exact (hj29 _ _ ⟨_, rfl, H⟩).weak ⟨rfl, rfl, rfl, trivial⟩
            · have H := H.2 hb46
              refine WPL.q (tkb rfl rfl hb46) (mv rfl) rfl ?_
              have HC := disk_Disk_Flush_ok (W := W) H
              refine WPL.eff (tkb rfl rfl hb46) (cl cO_35 rfl HC) rfl ?_
              rintro _ h48 ⟨n47, rfl, H⟩
              refine WPL.q (tkb rfl rfl hb46) (bNeq rfl rfl) rfl ?_
              refine WPL.q (tkb rfl rfl hb43) (pkFb rfl hb46 rfl) rfl ?_
              refine WPL.q tk0 (pkTb rfl hb43 rfl) rfl ?_
              refine WPL.nil ?_
              exact (hj29 _ _ ⟨_, rfl, H⟩).weak ⟨rfl, rfl, rfl, trivial⟩
          · have H := H.2 hb43
            refine WPL.skip (ntkb rfl rfl hb43) rfl ?_
            refine WPL.skip (ntkb rfl rfl hb43) rfl ?_
            refine WPL.skip (ntkb rfl rfl hb43) rfl ?_
            refine WPL.skip (ntkb rfl rfl hb43) rfl ?_
            refine WPL.skip (ntku rfl rfl) rfl ?_
            refine WPL.skip (ntku rfl rfl) rfl ?_
            refine WPL.skip (ntku rfl rfl) rfl ?_
            refine WPL.skip (ntkb rfl rfl hb43) rfl ?_
            refine WPL.q tk0 (pkFb rfl hb43 rfl) rfl ?_
            refine WPL.nil ?_
            exact (hj29 _ _ ⟨_, rfl, H⟩).weak ⟨rfl, rfl, rfl, trivial⟩
  · refine WPC.region ?_
    refine WPL.q tk0 (mv rfl) rfl ?_
    refine WPL.q tk0 (uNot rfl) rfl ?_
    refine WPL.q tk0 (mv rfl) rfl ?_
    rcases Bool.eq_false_or_eq_true ((!b13)) with hb49 | hb49
    · have H := H.1 hb49
      refine WPL.skip (ntkb rfl rfl hb49) rfl ?_
      refine WPL.skip (ntkb rfl rfl hb49) rfl ?_
      refine WPL.skip (ntkb rfl rfl hb49) rfl ?_
      refine WPL.q tk0 (pkTb rfl hb49 rfl) rfl ?_
      refine WPL.nil ?_
      exact (hj17 _ _ ⟨_, rfl, H⟩).weak ⟨rfl, rfl, rfl, rfl, trivial⟩
    · have H := H.2 hb49
      refine WPL.q (tkb rfl rfl hb49) (mv rfl) rfl ?_
      have HC := disk_Disk_Flush_ok (W := W) H
      refine WPL.eff (tkb rfl rfl hb49) (cl cO_35 rfl HC) rfl ?_
      rintro _ h51 ⟨n50, rfl, H⟩
      refine WPL.q (tkb rfl rfl hb49) (bNeq rfl rfl) rfl ?_
      refine WPL.q tk0 (pkFb rfl hb49 rfl) rfl ?_
      refine WPL.nil ?_
      exact (hj17 _ _ ⟨_, rfl, H⟩).weak ⟨rfl, rfl, rfl, rfl, trivial⟩

/-- trellis/trellislaw2.last -/
def law2_last (l1 : Sl) (n2 : Int) (at3 : Int) (all4 : Bool) (keep5 : Sl) (old6 : Sl) (K : Sl → Hp → Prop) (h : Hp) : Prop :=
  ∃ I10 : Nat → Int → Sl → Int → Hp → Prop, (∃ m14, I10 m14 0 old6 0 h) ∧ ∀ (m11 : Nat) (k7 : Int) (out8 : Sl) (i9 : Int) (h12 : Hp), I10 m11 k7 out8 i9 h12 → (((decide (i9 < (l1.len : Int))) = true → (∃ k19 : Int → Sl → Hp → Prop, (∀ (k17 : Int) (out18 : Sl) (h22 : Hp), k19 k17 out18 h22 → (∃ n24 : Int, Wr .i64 (i9 + 1) n24 ∧ ∃ m26, m26 < m11 ∧ I10 m26 k17 out18 n24 h22)) ∧ (∃ k30 : Bool → Hp → Prop, (∀ (b29 : Bool) (h33 : Hp), k30 b29 h33 → ((b29 = true → (k19 k7 out8 h33)) ∧ (b29 = false → (∃ k37 : Bool → Hp → Prop, (∀ (kept36 : Bool) (h40 : Hp), k37 kept36 h40 → (∃ n42 : Int, Wr .i64 (k7 + 1) n42 ∧ ∃ k45 : Bool → Hp → Prop, (∀ (b44 : Bool) (h48 : Hp), k45 b44 h48 → ((b44 = true → (∃ a51 : Addr, l1.p = some a51 ∧ 0 ≤ i9 ∧ i9 < (l1.len : Int) ∧ ∃ n56 : Int, rdc h48 ((a51.add (Int.toNat i9 * 2)).add 1) = some (.int .u8 n56) ∧ law2_filled n56 (fun s57 h58 => k19 n42 s57 h58) h48)) ∧ (b44 = false → (k19 n42 out8 h48)))) ∧ ((kept36 = true → (∃ a60 : Addr, l1.p = some a60 ∧ 0 ≤ i9 ∧ i9 < (l1.len : Int) ∧ ∃ n65 : Int, rdc h40 ((a60.add (Int.toNat i9 * 2)).add 0) = some (.int .i64 n65) ∧ k45 (n65 == at3) h40)) ∧ (kept36 = false → (k45 false h40))))) ∧ ((all4 = true → (k37 true h33)) ∧ (all4 = false → (((decide (k7 < (keep5.len : Int))) = true → (∃ a68 : Addr, keep5.p = some a68 ∧ 0 ≤ k7 ∧ k7 < (keep5.len : Int) ∧ ∃ b73 : Bool, rdc h33 (a68.add (Int.toNat k7 * 1)) = some (.bool b73) ∧ k37 b73 h33)) ∧ ((decide (k7 < (keep5.len : Int))) = false → (k37 false h33))))))))) ∧ (∃ a74 : Addr, l1.p = some a74 ∧ 0 ≤ i9 ∧ i9 < (l1.len : Int) ∧ ∃ n79 : Int, rdc h12 ((a74.add (Int.toNat i9 * 2)).add 0) = some (.int .i64 n79) ∧ ((decide (n79 < 0)) = true → (k30 true h12)) ∧ ((decide (n79 < 0)) = false → (0 ≤ i9 ∧ i9 < (l1.len : Int) ∧ ∃ n84 : Int, rdc h12 ((a74.add (Int.toNat i9 * 2)).add 0) = some (.int .i64 n84) ∧ k30 (decide (n84 ≥ n2)) h12)))))) ∧ ((decide (i9 < (l1.len : Int))) = false → (K out8 h12)))

theorem law2_last_ok {W : World} {h : Hp} {l1 : Sl} {n2 : Int} {at3 : Int} {all4 : Bool} {keep5 : Sl} {old6 : Sl} {K : Sl → Hp → Prop} (H : law2_last l1 n2 at3 all4 keep5 old6 K h) :
    CallsH Try.prog 32 (List.toArray [l1.v, .int .i64 n2, .int .i64 at3, .bool all4, keep5.v, old6.v]) W h (fun v h' => ∃ (s1 : Sl), v = s1.v ∧ K s1 h') := by
  unfold law2_last at H
  refine CallsH.intro (fn := Try.f32) (N := 71) (e := aE 0 [l1.v, .int .i64 n2, .int .i64 at3, .bool all4, keep5.v, old6.v]) Try.func32 rfl rfl (aE_spec _) rfl ?_
  refine WPC.seq ?_
  refine WPC.region ?_
  refine WPL.q tk0 (asg rfl) rfl ?_
  refine WPL.nil ?_
  refine WQ.next ?_
  refine WPC.seq ?_
  refine WPC.region ?_
  refine WPL.q tk0 (asg rfl) rfl ?_
  refine WPL.nil ?_
  refine WQ.next ?_
  refine WPC.seq ?_
  refine WPC.region ?_
  refine WPL.q tk0 (mv rfl) rfl ?_
  refine WPL.q tk0 (asg rfl) rfl ?_
  refine WPL.nil ?_
  refine WQ.next ?_
  refine WPC.seq ?_
  refine WPC.seq ?_
  refine WPC.region ?_
  refine WPL.q tk0 (asg rfl) rfl ?_
  refine WPL.nil ?_
  refine WQ.next ?_
  refine WPC.block ?_
  obtain ⟨I10, ⟨m14, HI15⟩, H⟩ := H
  refine WPC.weak (e' := [(0, l1.v), (1, .int .i64 n2), (2, .int .i64 at3), (3, .bool all4), (4, keep5.v), (13, .int .i64 0), (14, old6.v), (15, .int .i64 0)]) ?_ ⟨rfl, rfl, rfl, rfl, rfl, rfl, rfl, rfl, trivial⟩
  refine WPC.loop (fun m e h => ∃ (k7 : Int), ∃ (out8 : Sl), ∃ (i9 : Int), e = [(0, l1.v), (1, .int .i64 n2), (2, .int .i64 at3), (3, .bool all4), (4, keep5.v), (13, .int .i64 k7), (14, out8.v), (15, .int .i64 i9)] ∧ I10 m k7 out8 i9 h) ⟨m14, _, _, _, rfl, HI15⟩ ?_
  rintro m11 _ h12 ⟨k7, out8, i9, rfl, HI13⟩
  have H := H m11 k7 out8 i9 h12 HI13
  refine WPC.seq ?_
  refine WPC.seq ?_
  refine WPC.region ?_
  refine WPL.q tk0 (mv rfl) rfl ?_
  refine WPL.q tk0 (mv rfl) rfl ?_
  refine WPL.q tk0 (lnb sO_35 rfl) rfl ?_
  refine WPL.q tk0 (bLss rfl rfl) rfl ?_
  refine WPL.nil ?_
  refine WQ.next ?_
  refine WPC.cond rfl (fun hb16 => ?_) (fun hb16 => ?_)
  · have H := H.1 hb16
    refine WPC.skip ?_
    refine WQ.next ?_
    refine WPC.seq ?_
    obtain ⟨k19, hk21, H⟩ := H
    refine WPC.join (fun e h => ∃ (k17 : Int), ∃ (out18 : Sl), e = [(0, l1.v), (1, .int .i64 n2), (2, .int .i64 at3), (3, .bool all4), (4, keep5.v), (13, .int .i64 k17), (14, out18.v), (15, .int .i64 i9)] ∧ k19 k17 out18 h) ?_ (fun hj20 => ?_)
    · rintro _ h22 ⟨k17, out18, rfl, HK23⟩
      have H := hk21 k17 out18 h22 HK23
      refine WQ.next ?_
      refine WPC.region ?_
      refine WPL.q tk0 (mv rfl) rfl ?_
      obtain ⟨n24, hn25, H⟩ := H
      refine WPL.q tk0 (bAdd rfl rfl hn25) rfl ?_
      refine WPL.q tk0 (asg rfl) rfl ?_
      refine WPL.nil ?_
      obtain ⟨m26, lt27, H⟩ := H
      exact WQ.again lt27 ⟨_, _, _, rfl, H⟩ ⟨rfl, rfl, rfl, rfl, rfl, rfl, rfl, rfl, trivial⟩
    · refine WPC.block ?_
      refine WPC.seq ?_
      refine WPC.seq ?_
      obtain ⟨k30, hk32, H⟩ := H
      refine WPC.join (fun e h => ∃ (b29 : Bool), e = [(0, l1.v), (1, .int .i64 n2), (2, .int .i64 at3), (3, .bool all4), (4, keep5.v), (13, .int .i64 k7), (14, out8.v), (15, .int .i64 i9), (38, .bool b29)] ∧ k30 b29 h) ?_ (fun hj31 => ?_)
      · rintro _ h33 ⟨b29, rfl, HK34⟩
        have H := hk32 b29 h33 HK34
        refine WQ.next ?_
        refine WPC.cond rfl (fun hb35 => ?_) (fun hb35 => ?_)
        · have H := H.1 hb35
          refine WPC.exit ?_
          refine WQ.thenX ?_
          refine WQ.hit ?_
          exact (hj20 _ _ ⟨_, _, rfl, H⟩).weak ⟨rfl, rfl, rfl, rfl, rfl, rfl, rfl, rfl, trivial⟩
        · have H := H.2 hb35
          refine WPC.skip ?_
          refine WQ.next ?_
          refine WPC.seq ?_
          obtain ⟨k37, hk39, H⟩ := H
          refine WPC.join (fun e h => ∃ (kept36 : Bool), e = [(0, l1.v), (1, .int .i64 n2), (2, .int .i64 at3), (3, .bool all4), (4, keep5.v), (13, .int .i64 k7), (14, out8.v), (15, .int .i64 i9), (16, .bool kept36)] ∧ k37 kept36 h) ?_ (fun hj38 => ?_)
          · rintro _ h40 ⟨kept36, rfl, HK41⟩
            have H := hk39 kept36 h40 HK41
            refine WQ.next ?_
            refine WPC.seq ?_
            refine WPC.region ?_
            refine WPL.q tk0 (mv rfl) rfl ?_
            obtain ⟨n42, hn43, H⟩ := H
            refine WPL.q tk0 (bAdd rfl rfl hn43) rfl ?_
            refine WPL.q tk0 (asg rfl) rfl ?_
            refine WPL.nil ?_
            refine WQ.next ?_
            refine WPC.seq ?_
            obtain ⟨k45, hk47, H⟩ := H
            refine WPC.join (fun e h => ∃ (b44 : Bool), e = [(0, l1.v), (1, .int .i64 n2), (2, .int .i64 at3), (3, .bool all4), (4, keep5.v), (13, .int .i64 n42), (14, out8.v), (15, .int .i64 i9), (63, .bool b44)] ∧ k45 b44 h) ?_ (fun hj46 => ?_)
            · rintro _ h48 ⟨b44, rfl, HK49⟩
              have H := hk47 b44 h48 HK49
              refine WQ.next ?_
              refine WPC.cond rfl (fun hb50 => ?_) (fun hb50 => ?_)
              · have H := H.1 hb50
                refine WPC.region ?_
                refine WPL.q tk0 (mv rfl) rfl ?_
                refine WPL.q tk0 (mv rfl) rfl ?_
                obtain ⟨a51, ha52, H⟩ := H
                obtain ⟨h53, h54, H⟩ := H
                refine WPL.q tk0 (ixSb sO_35 rfl rfl ha52 h53 h54) rfl ?_
                refine WPL.q tk0 (fa fO_136_1 rfl) rfl ?_
                obtain ⟨n56, hv55, H⟩ := H
                refine WPL.q tk0 (ld kO_5 rfl hv55) rfl ?_
                have HC := law2_filled_ok (W := W) H
                refine WPL.eff tk0 (cl cO_37 rfl HC) rfl ?_
                rintro _ h58 ⟨s57, rfl, H⟩
                refine WPL.q tk0 (asg rfl) rfl ?_
                refine WPL.nil ?_
                refine WQ.blockN ?_
                exact (hj20 _ _ ⟨_, _, rfl, H⟩).weak ⟨rfl, rfl, rfl, rfl, rfl, rfl, rfl, rfl, trivial⟩
              · have H := H.2 hb50
                refine WPC.skip ?_
                refine WQ.blockN ?_
                exact (hj20 _ _ ⟨_, _, rfl, H⟩).weak ⟨rfl, rfl, rfl, rfl, rfl, rfl, rfl, rfl, trivial⟩
            · refine WPC.region ?_
              refine WPL.q tk0 (mv rfl) rfl ?_
              refine WPL.q tk0 (mv rfl) rfl ?_
              rcases Bool.eq_false_or_eq_true (kept36) with hb59 | hb59
              · have H := H.1 hb59
                refine WPL.q (tkb rfl rfl hb59) (mv rfl) rfl ?_
                refine WPL.q (tkb rfl rfl hb59) (mv rfl) rfl ?_
                obtain ⟨a60, ha61, H⟩ := H
                obtain ⟨h62, h63, H⟩ := H
                refine WPL.q (tkb rfl rfl hb59) (ixSb sO_35 rfl rfl ha61 h62 h63) rfl ?_
                refine WPL.q (tkb rfl rfl hb59) (fa fO_136_0 rfl) rfl ?_
                obtain ⟨n65, hv64, H⟩ := H
                refine WPL.q (tkb rfl rfl hb59) (ld kO_3 rfl hv64) rfl ?_
                refine WPL.q (tkb rfl rfl hb59) (mv rfl) rfl ?_
                refine WPL.q (tkb rfl rfl hb59) (bEql rfl rfl) rfl ?_
                refine WPL.q tk0 (pkTb rfl hb59 rfl) rfl ?_
                refine WPL.nil ?_
                exact (hj46 _ _ ⟨_, rfl, H⟩).weak ⟨rfl, rfl, rfl, rfl, rfl, rfl, rfl, rfl, rfl, trivial⟩
              · have H := H.2 hb59
                refine WPL.skip (ntkb rfl rfl hb59) rfl ?_
                refine WPL.skip (ntkb rfl rfl hb59) rfl ?_
                refine WPL.skip (ntkb rfl rfl hb59) rfl ?_
                refine WPL.skip (ntkb rfl rfl hb59) rfl ?_
                refine WPL.skip (ntkb rfl rfl hb59) rfl ?_
                refine WPL.skip (ntkb rfl rfl hb59) rfl ?_
                refine WPL.skip (ntkb rfl rfl hb59) rfl ?_
                refine WPL.q tk0 (pkFb rfl hb59 rfl) rfl ?_
                refine WPL.nil ?_
                exact (hj46 _ _ ⟨_, rfl, H⟩).weak ⟨rfl, rfl, rfl, rfl, rfl, rfl, rfl, rfl, rfl, trivial⟩
          · refine WPC.region ?_
            refine WPL.q tk0 (mv rfl) rfl ?_
            refine WPL.q tk0 (mv rfl) rfl ?_
            rcases Bool.eq_false_or_eq_true (all4) with hb66 | hb66
            · have H := H.1 hb66
              refine WPL.skip (ntkb rfl rfl hb66) rfl ?_
              refine WPL.skip (ntkb rfl rfl hb66) rfl ?_
              refine WPL.skip (ntkb rfl rfl hb66) rfl ?_
              refine WPL.skip (ntkb rfl rfl hb66) rfl ?_
              refine WPL.skip (ntkb rfl rfl hb66) rfl ?_
              refine WPL.skip (ntku rfl rfl) rfl ?_
              refine WPL.skip (ntku rfl rfl) rfl ?_
              refine WPL.skip (ntku rfl rfl) rfl ?_
              refine WPL.skip (ntku rfl rfl) rfl ?_
              refine WPL.skip (ntkb rfl rfl hb66) rfl ?_
              refine WPL.q tk0 (pkTb rfl hb66 rfl) rfl ?_
              refine WPL.q tk0 (asg rfl) rfl ?_
              refine WPL.nil ?_
              exact (hj38 _ _ ⟨_, rfl, H⟩).weak ⟨rfl, rfl, rfl, rfl, rfl, rfl, rfl, rfl, rfl, trivial⟩
            · have H := H.2 hb66
              refine WPL.q (tkb rfl rfl hb66) (mv rfl) rfl ?_
              refine WPL.q (tkb rfl rfl hb66) (mv rfl) rfl ?_
              refine WPL.q (tkb rfl rfl hb66) (lnb sO_30 rfl) rfl ?_
              refine WPL.q (tkb rfl rfl hb66) (bLss rfl rfl) rfl ?_
              refine WPL.q (tkb rfl rfl hb66) (mv rfl) rfl ?_
              rcases Bool.eq_false_or_eq_true ((decide (k7 < (keep5.len : Int)))) with hb67 | hb67
              · have H := H.1 hb67
                refine WPL.q (tkb rfl rfl hb67) (mv rfl) rfl ?_
                refine WPL.q (tkb rfl rfl hb67) (mv rfl) rfl ?_
                obtain ⟨a68, ha69, H⟩ := H
                obtain ⟨h70, h71, H⟩ := H
                refine WPL.q (tkb rfl rfl hb67) (ixSb sO_30 rfl rfl ha69 h70 h71) rfl ?_
                obtain ⟨b73, hv72, H⟩ := H
                refine WPL.q (tkb rfl rfl hb67) (ld kO_4 rfl hv72) rfl ?_
                refine WPL.q (tkb rfl rfl hb66) (pkTb rfl hb67 rfl) rfl ?_
                refine WPL.q tk0 (pkFb rfl hb66 rfl) rfl ?_
                refine WPL.q tk0 (asg rfl) rfl ?_
                refine WPL.nil ?_
                exact (hj38 _ _ ⟨_, rfl, H⟩).weak ⟨rfl, rfl, rfl, rfl, rfl, rfl, rfl, rfl, rfl, trivial⟩
              · have H := H.2 hb67
                refine WPL.skip (ntkb rfl rfl hb67) rfl ?_
                refine WPL.skip (ntkb rfl rfl hb67) rfl ?_
                refine WPL.skip (ntkb rfl rfl hb67) rfl ?_
                refine WPL.skip (ntkb rfl rfl hb67) rfl ?_
                refine WPL.q (tkb rfl rfl hb66) (pkFb rfl hb67 rfl) rfl ?_
                refine WPL.q tk0 (pkFb rfl hb66 rfl) rfl ?_
                refine WPL.q tk0 (asg rfl) rfl ?_
                refine WPL.nil ?_
                exact (hj38 _ _ ⟨_, rfl, H⟩).weak ⟨rfl, rfl, rfl, rfl, rfl, rfl, rfl, rfl, rfl, trivial⟩
      · refine WPC.region ?_
        refine WPL.q tk0 (mv rfl) rfl ?_
        refine WPL.q tk0 (mv rfl) rfl ?_
        obtain ⟨a74, ha75, H⟩ := H
        obtain ⟨h76, h77, H⟩ := H
        refine WPL.q tk0 (ixSb sO_35 rfl rfl ha75 h76 h77) rfl ?_
        refine WPL.q tk0 (fa fO_136_0 rfl) rfl ?_
        obtain ⟨n79, hv78, H⟩ := H
        refine WPL.q tk0 (ld kO_3 rfl hv78) rfl ?_
        refine WPL.q tk0 (bLss rfl rfl) rfl ?_
        refine WPL.q tk0 (mv rfl) rfl ?_
        rcases Bool.eq_false_or_eq_true ((decide (n79 < 0))) with hb80 | hb80
        · have H := H.1 hb80
          refine WPL.skip (ntkb rfl rfl hb80) rfl ?_
          refine WPL.skip (ntkb rfl rfl hb80) rfl ?_
          refine WPL.skip (ntkb rfl rfl hb80) rfl ?_
          refine WPL.skip (ntkb rfl rfl hb80) rfl ?_
          refine WPL.skip (ntkb rfl rfl hb80) rfl ?_
          refine WPL.skip (ntkb rfl rfl hb80) rfl ?_
          refine WPL.skip (ntkb rfl rfl hb80) rfl ?_
          refine WPL.q tk0 (pkTb rfl hb80 rfl) rfl ?_
          refine WPL.nil ?_
          exact (hj31 _ _ ⟨_, rfl, H⟩).weak ⟨rfl, rfl, rfl, rfl, rfl, rfl, rfl, rfl, rfl, trivial⟩
        · have H := H.2 hb80
          refine WPL.q (tkb rfl rfl hb80) (mv rfl) rfl ?_
          refine WPL.q (tkb rfl rfl hb80) (mv rfl) rfl ?_
          obtain ⟨h81, h82, H⟩ := H
          refine WPL.q (tkb rfl rfl hb80) (ixSb sO_35 rfl rfl ha75 h81 h82) rfl ?_
          refine WPL.q (tkb rfl rfl hb80) (fa fO_136_0 rfl) rfl ?_
          obtain ⟨n84, hv83, H⟩ := H
          refine WPL.q (tkb rfl rfl hb80) (ld kO_3 rfl hv83) rfl ?_
          refine WPL.q (tkb rfl rfl hb80) (mv rfl) rfl ?_
          refine WPL.q (tkb rfl rfl hb80) (bGeq rfl rfl) rfl ?_
          refine WPL.q tk0 (pkFb rfl hb80 rfl) rfl ?_
          refine WPL.nil ?_
          exact (hj31 _ _ ⟨_, rfl, H⟩).weak ⟨rfl, rfl, rfl, rfl, rfl, rfl, rfl, rfl, rfl, trivial⟩
  · have H := H.2 hb16
    refine WPC.exit ?_
    refine WQ.thenX ?_
    refine WQ.thenX ?_
    refine WQ.hit ?_
    refine WQ.next ?_
    refine WPC.seq ?_
    refine WPC.region ?_
    refine WPL.q tk0 (mv rfl) rfl ?_
    refine WPL.q tk0 (asg rfl) rfl ?_
    refine WPL.nil ?_
    refine WQ.next ?_
    refine WPC.ret ?_
    exact WQ.done (rets1 rfl rfl) ⟨_, rfl, H⟩

/-- trellis/trellislaw2.holds -/
def law2_holds (d1 : Option Addr) (laid2 : Sl) (again3 : Sl) (K : Bool → Hp → Prop) (h : Hp) : Prop :=
  ∃ I5 : Nat → Int → Hp → Prop, (∃ m9, I5 m9 0 h) ∧ ∀ (m6 : Nat) (at4 : Int) (h7 : Hp), I5 m6 at4 h7 → (((decide (at4 < (laid2.len : Int))) = true → (disk_Disk_Read d1 at4 (fun s12 n13 h14 => ∃ a15 : Addr, laid2.p = some a15 ∧ 0 ≤ at4 ∧ at4 < (laid2.len : Int) ∧ ∃ s20 : Sl, rdc h14 (a15.add (Int.toNat at4 * 1)) = some (s20.v) ∧ law2_same s12 s20 (fun b21 h22 => ∃ k24 : Bool → Hp → Prop, (∀ (b23 : Bool) (h27 : Hp), k24 b23 h27 → ((b23 = true → (K false h27)) ∧ (b23 = false → (∃ n30 : Int, Wr .i64 (at4 + 1) n30 ∧ ∃ m32, m32 < m6 ∧ I5 m32 n30 h27)))) ∧ (((n13 != 0) = true → (k24 true h22)) ∧ ((n13 != 0) = false → (k24 (!b21) h22)))) h14) h7)) ∧ ((decide (at4 < (laid2.len : Int))) = false → (App h7 Sl.nil again3 1 1 4 [.bool false] (fun s36 h37 => disk_Disk_Crash d1 s36 (fun n38 n39 h40 => ((n38 == 0) = true → (K (n39 == 0) h40)) ∧ ((n38 == 0) = false → (K false h40))) h37))))

theorem law2_holds_ok {W : World} {h : Hp} {d1 : Option Addr} {laid2 : Sl} {again3 : Sl} {K : Bool → Hp → Prop} (H : law2_holds d1 laid2 again3 K h) :
    CallsH Try.prog 33 (List.toArray [.pointer d1, laid2.v, again3.v]) W h (fun v h' => ∃ (b1 : Bool), v = .bool b1 ∧ K b1 h') := by
  unfold law2_holds at H
  refine CallsH.intro (fn := Try.f33) (N := 50) (e := aE 0 [.pointer d1, laid2.v, again3.v]) Try.func33 rfl rfl (aE_spec _) rfl ?_
  refine WPC.seq ?_
  refine WPC.region ?_
  refine WPL.q tk0 (asg rfl) rfl ?_
  refine WPL.nil ?_
  refine WQ.next ?_
  refine WPC.seq ?_
  refine WPC.seq ?_
  refine WPC.region ?_
  refine WPL.q tk0 (asg rfl) rfl ?_
  refine WPL.nil ?_
  refine WQ.next ?_
  refine WPC.block ?_
  obtain ⟨I5, ⟨m9, HI10⟩, H⟩ := H
  refine WPC.weak (e' := [(0, .pointer d1), (1, laid2.v), (2, again3.v), (7, .int .i64 0)]) ?_ ⟨rfl, rfl, rfl, rfl, trivial⟩
  refine WPC.loop (fun m e h => ∃ (at4 : Int), e = [(0, .pointer d1), (1, laid2.v), (2, again3.v), (7, .int .i64 at4)] ∧ I5 m at4 h) ⟨m9, _, rfl, HI10⟩ ?_
  rintro m6 _ h7 ⟨at4, rfl, HI8⟩
  have H := H m6 at4 h7 HI8
  refine WPC.seq ?_
  refine WPC.seq ?_
  refine WPC.region ?_
  refine WPL.q tk0 (mv rfl) rfl ?_
  refine WPL.q tk0 (mv rfl) rfl ?_
  refine WPL.q tk0 (lnb sO_34 rfl) rfl ?_
  refine WPL.q tk0 (bLss rfl rfl) rfl ?_
  refine WPL.nil ?_
  refine WQ.next ?_
  refine WPC.cond rfl (fun hb11 => ?_) (fun hb11 => ?_)
  · have H := H.1 hb11
    refine WPC.skip ?_
    refine WQ.next ?_
    refine WPC.seq ?_
    refine WPC.block ?_
    refine WPC.seq ?_
    refine WPC.region ?_
    refine WPL.q tk0 (mv rfl) rfl ?_
    refine WPL.q tk0 (mv rfl) rfl ?_
    have HC := disk_Disk_Read_ok (W := W) H
    refine WPL.eff tk0 (cl cO_38 rfl HC) rfl ?_
    rintro _ h14 ⟨s12, n13, rfl, H⟩
    refine WPL.q tk0 (mv rfl) rfl ?_
    refine WPL.q tk0 (ext rfl rfl) rfl ?_
    refine WPL.q tk0 (ext rfl rfl) rfl ?_
    refine WPL.q tk0 (asg rfl) rfl ?_
    refine WPL.q tk0 (asg rfl) rfl ?_
    refine WPL.nil ?_
    refine WQ.next ?_
    refine WPC.seq ?_
    refine WPC.region ?_
    refine WPL.q tk0 (mv rfl) rfl ?_
    refine WPL.q tk0 (mv rfl) rfl ?_
    refine WPL.q tk0 (mv rfl) rfl ?_
    obtain ⟨a15, ha16, H⟩ := H
    obtain ⟨h17, h18, H⟩ := H
    refine WPL.q tk0 (ixSb sO_34 rfl rfl ha16 h17 h18) rfl ?_
    obtain ⟨s20, hv19, H⟩ := H
    refine WPL.q tk0 (ld kO_24 rfl hv19) rfl ?_
    have HC := law2_same_ok (W := W) H
    refine WPL.eff tk0 (cl cO_45 rfl HC) rfl ?_
    rintro _ h22 ⟨b21, rfl, H⟩
    refine WPL.q tk0 (asg rfl) rfl ?_
    refine WPL.nil ?_
    refine WQ.next ?_
    refine WPC.seq ?_
    obtain ⟨k24, hk26, H⟩ := H
    refine WPC.join (fun e h => ∃ (b23 : Bool), e = [(0, .pointer d1), (1, laid2.v), (2, again3.v), (7, .int .i64 at4), (36, .bool b23)] ∧ k24 b23 h) ?_ (fun hj25 => ?_)
    · rintro _ h27 ⟨b23, rfl, HK28⟩
      have H := hk26 b23 h27 HK28
      refine WQ.next ?_
      refine WPC.cond rfl (fun hb29 => ?_) (fun hb29 => ?_)
      · have H := H.1 hb29
        refine WPC.seq ?_
        refine WPC.region ?_
        refine WPL.q tk0 (asg rfl) rfl ?_
        refine WPL.nil ?_
        refine WQ.next ?_
        refine WPC.ret ?_
        refine WQ.blockR ?_
        refine WQ.thenR ?_
        refine WQ.thenR ?_
        refine WQ.blockR ?_
        refine WQ.thenR ?_
        exact WQ.done (rets1 rfl rfl) ⟨_, rfl, H⟩
      · have H := H.2 hb29
        refine WPC.skip ?_
        refine WQ.blockN ?_
        refine WQ.next ?_
        refine WPC.region ?_
        refine WPL.q tk0 (mv rfl) rfl ?_
        obtain ⟨n30, hn31, H⟩ := H
        refine WPL.q tk0 (bAdd rfl rfl hn31) rfl ?_
        refine WPL.q tk0 (asg rfl) rfl ?_
        refine WPL.nil ?_
        obtain ⟨m32, lt33, H⟩ := H
        exact WQ.again lt33 ⟨_, rfl, H⟩ ⟨rfl, rfl, rfl, rfl, trivial⟩
    · refine WPC.region ?_
      refine WPL.q tk0 (mv rfl) rfl ?_
      refine WPL.q tk0 (bNeq rfl rfl) rfl ?_
      refine WPL.q tk0 (mv rfl) rfl ?_
      rcases Bool.eq_false_or_eq_true ((n13 != 0)) with hb35 | hb35
      · have H := H.1 hb35
        refine WPL.skip (ntkb rfl rfl hb35) rfl ?_
        refine WPL.skip (ntkb rfl rfl hb35) rfl ?_
        refine WPL.q tk0 (pkTb rfl hb35 rfl) rfl ?_
        refine WPL.nil ?_
        exact (hj25 _ _ ⟨_, rfl, H⟩).weak ⟨rfl, rfl, rfl, rfl, rfl, trivial⟩
      · have H := H.2 hb35
        refine WPL.q (tkb rfl rfl hb35) (mv rfl) rfl ?_
        refine WPL.q (tkb rfl rfl hb35) (uNot rfl) rfl ?_
        refine WPL.q tk0 (pkFb rfl hb35 rfl) rfl ?_
        refine WPL.nil ?_
        exact (hj25 _ _ ⟨_, rfl, H⟩).weak ⟨rfl, rfl, rfl, rfl, rfl, trivial⟩
  · have H := H.2 hb11
    refine WPC.exit ?_
    refine WQ.thenX ?_
    refine WQ.thenX ?_
    refine WQ.hit ?_
    refine WQ.next ?_
    refine WPC.seq ?_
    refine WPC.region ?_
    refine WPL.q tk0 (mv rfl) rfl ?_
    refine WPL.q tk0 (mv rfl) rfl ?_
    refine WPL.eff tk0 (app (rt := 0) sO_30 zO_4 rfl (by decide) rfl rfl H) rfl ?_
    rintro _ h37 ⟨s36, rfl, H⟩
    have HC := disk_Disk_Crash_ok (W := W) H
    refine WPL.eff tk0 (cl cO_40 rfl HC) rfl ?_
    rintro _ h40 ⟨n38, n39, rfl, H⟩
    refine WPL.q tk0 (mv rfl) rfl ?_
    refine WPL.q tk0 (ext rfl rfl) rfl ?_
    refine WPL.q tk0 (ext rfl rfl) rfl ?_
    refine WPL.q tk0 (asg rfl) rfl ?_
    refine WPL.q tk0 (asg rfl) rfl ?_
    refine WPL.nil ?_
    refine WQ.next ?_
    refine WPC.seq ?_
    refine WPC.region ?_
    refine WPL.q tk0 (mv rfl) rfl ?_
    refine WPL.q tk0 (bEql rfl rfl) rfl ?_
    refine WPL.q tk0 (mv rfl) rfl ?_
    rcases Bool.eq_false_or_eq_true ((n38 == 0)) with hb41 | hb41
    · have H := H.1 hb41
      refine WPL.q (tkb rfl rfl hb41) (mv rfl) rfl ?_
      refine WPL.q (tkb rfl rfl hb41) (bEql rfl rfl) rfl ?_
      refine WPL.q tk0 (pkTb rfl hb41 rfl) rfl ?_
      refine WPL.q tk0 (asg rfl) rfl ?_
      refine WPL.nil ?_
      refine WQ.next ?_
      refine WPC.ret ?_
      exact WQ.done (rets1 rfl rfl) ⟨_, rfl, H⟩
    · have H := H.2 hb41
      refine WPL.skip (ntkb rfl rfl hb41) rfl ?_
      refine WPL.skip (ntkb rfl rfl hb41) rfl ?_
      refine WPL.q tk0 (pkFb rfl hb41 rfl) rfl ?_
      refine WPL.q tk0 (asg rfl) rfl ?_
      refine WPL.nil ?_
      refine WQ.next ?_
      refine WPC.ret ?_
      exact WQ.done (rets1 rfl rfl) ⟨_, rfl, H⟩

/-- trellis/trellislaw2.DiskCrash -/
def law2_DiskCrash (n1 : Int) (rounds2 : Sl) (again3 : Sl) (K : Bool → Hp → Prop) (h : Hp) : Prop :=
  law2_sizes n1 (fun p4 b5 b6 h7 => ∃ k9 : Bool → Hp → Prop, (∀ (b8 : Bool) (h12 : Hp), k9 b8 h12 → ((b8 = true → (K b5 h12)) ∧ (b8 = false → (∃ I17 : Nat → Sl → Int → Hp → Prop, (∃ m21, I17 m21 Sl.nil 0 h12) ∧ ∀ (m18 : Nat) (laid15 : Sl) (at16 : Int) (h19 : Hp), I17 m18 laid15 at16 h19 → (((decide (at16 < n1)) = true → (0 ≤ (128 : Int) ∧ (128 : Int) ≤ 128 ∧ (128 : Int) * (1 : Nat) ≤ 281474976710656 ∧ ∃ (b24 : Nat) (h25 : Hp) (s26 : Sl), b24 = h19.size ∧ h25 = h19.push (Cel (zr [.int .u8 0] (Int.toNat 128 * 1)) 5) ∧ s26 = ⟨some (nA b24), Int.toNat 128, Int.toNat 128⟩ ∧ ∃ (b33 : Nat) (h34 : Hp) (s35 : Sl), b33 = h25.size ∧ h34 = h25.push (Cel [s26.v] 24) ∧ s35 = ⟨some (nA b33), 1, 1⟩ ∧ App h34 laid15 s35 1 24 24 [.slice none 0 0] (fun s39 h40 => ∃ n41 : Int, Wr .i64 (at16 + 1) n41 ∧ ∃ m43, m43 < m18 ∧ I17 m43 s39 n41 h40))) ∧ ((decide (at16 < n1)) = false → (∃ I47 : Nat → Int → Hp → Prop, (∃ m51, I47 m51 0 h19) ∧ ∀ (m48 : Nat) (i46 : Int) (h49 : Hp), I47 m48 i46 h49 → (((decide (i46 < (rounds2.len : Int))) = true → (∃ a54 : Addr, rounds2.p = some a54 ∧ 0 ≤ i46 ∧ i46 < (rounds2.len : Int) ∧ ∃ (s59 : Sl) (s60 : Sl) (s61 : Sl) (b62 : Bool), RdL h49 (a54.add (Int.toNat i46 * 4)) [s59.v, s60.v, s61.v, .bool b62] ∧ ∃ (b63 : Nat) (h64 : Hp), b63 = h49.size ∧ h64 = h49.push (Cel [.slice none 0 0, .slice none 0 0, .slice none 0 0, .bool false] 37) ∧ ∃ h67 : Hp, StL h64 (nA b63) [s59.v, s60.v, s61.v, .bool b62] h67 ∧ ∃ (s70 : Sl) (s71 : Sl) (s72 : Sl) (b73 : Bool), RdL h67 (nA b63) [s70.v, s71.v, s72.v, .bool b73] ∧ law2_round p4 n1 s70 s71 s72 b73 (fun b74 h75 => ((!b74) = true → (K false h75)) ∧ ((!b74) = false → (∃ I78 : Nat → Int → Hp → Prop, (∃ m82, I78 m82 0 h75) ∧ ∀ (m79 : Nat) (at77 : Int) (h80 : Hp), I78 m79 at77 h80 → (((decide (at77 < n1)) = true → (∃ s86 : Sl, rdc h80 ((nA b63).add 0) = some (s86.v) ∧ ∃ a87 : Addr, laid15.p = some a87 ∧ 0 ≤ at77 ∧ at77 < (laid15.len : Int) ∧ ∃ s92 : Sl, rdc h80 (a87.add (Int.toNat at77 * 1)) = some (s92.v) ∧ law2_last s86 n1 at77 true Sl.nil s92 (fun s93 h94 => 0 ≤ at77 ∧ at77 < (laid15.len : Int) ∧ ∃ h97 : Hp, StL h94 (a87.add (Int.toNat at77 * 1)) [s93.v] h97 ∧ ∃ s100 : Sl, rdc h97 ((nA b63).add 1) = some (s100.v) ∧ ∃ s102 : Sl, rdc h97 ((nA b63).add 2) = some (s102.v) ∧ 0 ≤ at77 ∧ at77 < (laid15.len : Int) ∧ ∃ s106 : Sl, rdc h97 (a87.add (Int.toNat at77 * 1)) = some (s106.v) ∧ law2_last s100 n1 at77 false s102 s106 (fun s107 h108 => 0 ≤ at77 ∧ at77 < (laid15.len : Int) ∧ ∃ h111 : Hp, StL h108 (a87.add (Int.toNat at77 * 1)) [s107.v] h111 ∧ ∃ n113 : Int, Wr .i64 (at77 + 1) n113 ∧ ∃ m115, m115 < m79 ∧ I78 m115 n113 h111) h97) h80)) ∧ ((decide (at77 < n1)) = false → (∃ I119 : Nat → Int → Hp → Prop, (∃ m123, I119 m123 0 h80) ∧ ∀ (m120 : Nat) (turn118 : Int) (h121 : Hp), I119 m120 turn118 h121 → (((decide (turn118 < 2)) = true → (law2_holds p4 laid15 again3 (fun b126 h127 => ((!b126) = true → (K false h127)) ∧ ((!b126) = false → (∃ n129 : Int, Wr .i64 (turn118 + 1) n129 ∧ ∃ m131, m131 < m120 ∧ I119 m131 n129 h127))) h121)) ∧ ((decide (turn118 < 2)) = false → (∃ n134 : Int, Wr .i64 (i46 + 1) n134 ∧ ∃ m136, m136 < m48 ∧ I47 m136 n134 h121))))))))) h67)) ∧ ((decide (i46 < (rounds2.len : Int))) = false → (K true h49)))))))))) ∧ (((!b5) = true → (k9 true h7)) ∧ ((!b5) = false → (k9 (!b6) h7)))) h

theorem law2_DiskCrash_ok {W : World} {h : Hp} {n1 : Int} {rounds2 : Sl} {again3 : Sl} {K : Bool → Hp → Prop} (H : law2_DiskCrash n1 rounds2 again3 K h) :
    CallsH Try.prog 5 (List.toArray [.int .i64 n1, rounds2.v, again3.v]) W h (fun v h' => ∃ (b1 : Bool), v = .bool b1 ∧ K b1 h') := by
  unfold law2_DiskCrash at H
  refine CallsH.intro (fn := Try.f5) (N := 95) (e := aE 0 [.int .i64 n1, rounds2.v, again3.v]) Try.func5 rfl rfl (aE_spec _) rfl ?_
  refine WPC.seq ?_
  refine WPC.region ?_
  refine WPL.q tk0 (asg rfl) rfl ?_
  refine WPL.nil ?_
  refine WQ.next ?_
  refine WPC.seq ?_
  refine WPC.region ?_
  refine WPL.q tk0 (mv rfl) rfl ?_
  have HC := law2_sizes_ok (W := W) H
  refine WPL.eff tk0 (cl cO_30 rfl HC) rfl ?_
  rintro _ h7 ⟨p4, b5, b6, rfl, H⟩
  refine WPL.q tk0 (mv rfl) rfl ?_
  refine WPL.q tk0 (ext rfl rfl) rfl ?_
  refine WPL.q tk0 (ext rfl rfl) rfl ?_
  refine WPL.q tk0 (ext rfl rfl) rfl ?_
  refine WPL.q tk0 (asg rfl) rfl ?_
  refine WPL.q tk0 (asg rfl) rfl ?_
  refine WPL.q tk0 (asg rfl) rfl ?_
  refine WPL.nil ?_
  refine WQ.next ?_
  refine WPC.seq ?_
  refine WPC.seq ?_
  obtain ⟨k9, hk11, H⟩ := H
  refine WPC.join (fun e h => ∃ (b8 : Bool), e = [(0, .int .i64 n1), (1, rounds2.v), (2, again3.v), (7, .pointer p4), (8, .bool b5), (27, .bool b8)] ∧ k9 b8 h) ?_ (fun hj10 => ?_)
  · rintro _ h12 ⟨b8, rfl, HK13⟩
    have H := hk11 b8 h12 HK13
    refine WQ.next ?_
    refine WPC.cond rfl (fun hb14 => ?_) (fun hb14 => ?_)
    · have H := H.1 hb14
      refine WPC.seq ?_
      refine WPC.region ?_
      refine WPL.q tk0 (mv rfl) rfl ?_
      refine WPL.q tk0 (asg rfl) rfl ?_
      refine WPL.nil ?_
      refine WQ.next ?_
      refine WPC.ret ?_
      refine WQ.thenR ?_
      exact WQ.done (rets1 rfl rfl) ⟨_, rfl, H⟩
    · have H := H.2 hb14
      refine WPC.skip ?_
      refine WQ.next ?_
      refine WPC.seq ?_
      refine WPC.region ?_
      refine WPL.q tk0 (asg rfl) rfl ?_
      refine WPL.nil ?_
      refine WQ.next ?_
      refine WPC.seq ?_
      refine WPC.seq ?_
      refine WPC.region ?_
      refine WPL.q tk0 (asg rfl) rfl ?_
      refine WPL.nil ?_
      refine WQ.next ?_
      refine WPC.block ?_
      obtain ⟨I17, ⟨m21, HI22⟩, H⟩ := H
      refine WPC.weak (e' := [(0, .int .i64 n1), (1, rounds2.v), (2, again3.v), (7, .pointer p4), (10, .slice none 0 0), (11, .int .i64 0)]) ?_ ⟨rfl, rfl, rfl, rfl, rfl, rfl, trivial⟩
      refine WPC.loop (fun m e h => ∃ (laid15 : Sl), ∃ (at16 : Int), e = [(0, .int .i64 n1), (1, rounds2.v), (2, again3.v), (7, .pointer p4), (10, laid15.v), (11, .int .i64 at16)] ∧ I17 m laid15 at16 h) ⟨m21, _, _, rfl, HI22⟩ ?_
      rintro m18 _ h19 ⟨laid15, at16, rfl, HI20⟩
      have H := H m18 laid15 at16 h19 HI20
      refine WPC.seq ?_
      refine WPC.seq ?_
      refine WPC.region ?_
      refine WPL.q tk0 (mv rfl) rfl ?_
      refine WPL.q tk0 (mv rfl) rfl ?_
      refine WPL.q tk0 (bLss rfl rfl) rfl ?_
      refine WPL.nil ?_
      refine WQ.next ?_
      refine WPC.cond rfl (fun hb23 => ?_) (fun hb23 => ?_)
      · have H := H.1 hb23
        refine WPC.skip ?_
        refine WQ.next ?_
        refine WPC.seq ?_
        refine WPC.block ?_
        refine WPC.region ?_
        refine WPL.q tk0 (mv rfl) rfl ?_
        obtain ⟨c30, c31, c32, b24, h25, s26, hb27, hh28, hs29, H⟩ := H
        refine WPL.f tk0 (mksN sO_24 zO_5 (by decide) rfl rfl c30 c31 c32 hb27 hh28 hs29) rfl ?_
        obtain ⟨b33, h34, s35, hb36, hh37, hs38, H⟩ := H
        refine WPL.f tk0 (bsl1N (l := [s26.v]) sO_34 zO_24 rfl rfl rfl ⟨by decide, rfl⟩ hb36 hh37 hs38) rfl ?_
        refine WPL.eff tk0 (app (rt := 0) sO_34 zO_24 rfl (by decide) rfl rfl H) rfl ?_
        rintro _ h40 ⟨s39, rfl, H⟩
        refine WPL.q tk0 (asg rfl) rfl ?_
        refine WPL.nil ?_
        refine WQ.blockN ?_
        refine WQ.next ?_
        refine WPC.region ?_
        refine WPL.q tk0 (mv rfl) rfl ?_
        obtain ⟨n41, hn42, H⟩ := H
        refine WPL.q tk0 (bAdd rfl rfl hn42) rfl ?_
        refine WPL.q tk0 (asg rfl) rfl ?_
        refine WPL.nil ?_
        obtain ⟨m43, lt44, H⟩ := H
        exact WQ.again lt44 ⟨_, _, rfl, H⟩ ⟨rfl, rfl, rfl, rfl, rfl, rfl, trivial⟩
      · have H := H.2 hb23
        refine WPC.exit ?_
        refine WQ.thenX ?_
        refine WQ.thenX ?_
        refine WQ.hit ?_
        refine WQ.next ?_
        refine WPC.seq ?_
        refine WPC.seq ?_
        refine WPC.region ?_
        refine WPL.q tk0 (asg rfl) rfl ?_
        refine WPL.nil ?_
        refine WQ.next ?_
        refine WPC.block ?_
        obtain ⟨I47, ⟨m51, HI52⟩, H⟩ := H
        refine WPC.weak (e' := [(0, .int .i64 n1), (1, rounds2.v), (2, again3.v), (7, .pointer p4), (10, laid15.v), (12, .int .i64 0)]) ?_ ⟨rfl, rfl, rfl, rfl, rfl, rfl, trivial⟩
        refine WPC.loop (fun m e h => ∃ (i46 : Int), e = [(0, .int .i64 n1), (1, rounds2.v), (2, again3.v), (7, .pointer p4), (10, laid15.v), (12, .int .i64 i46)] ∧ I47 m i46 h) ⟨m51, _, rfl, HI52⟩ ?_
        rintro m48 _ h49 ⟨i46, rfl, HI50⟩
        have H := H m48 i46 h49 HI50
        refine WPC.seq ?_
        refine WPC.seq ?_
        refine WPC.region ?_
        refine WPL.q tk0 (mv rfl) rfl ?_
        refine WPL.q tk0 (mv rfl) rfl ?_
        refine WPL.q tk0 (lnb sO_29 rfl) rfl ?_
        refine WPL.q tk0 (bLss rfl rfl) rfl ?_
        refine WPL.nil ?_
        refine WQ.next ?_
        refine WPC.cond rfl (fun hb53 => ?_) (fun hb53 => ?_)
        · have H := H.1 hb53
          refine WPC.skip ?_
          refine WQ.next ?_
          refine WPC.seq ?_
          refine WPC.block ?_
          refine WPC.seq ?_
          refine WPC.region ?_
          refine WPL.q tk0 (mv rfl) rfl ?_
          refine WPL.q tk0 (mv rfl) rfl ?_
          obtain ⟨a54, ha55, H⟩ := H
          obtain ⟨h56, h57, H⟩ := H
          refine WPL.q tk0 (ixSb sO_29 rfl rfl ha55 h56 h57) rfl ?_
          obtain ⟨s59, s60, s61, b62, hv58, H⟩ := H
          refine WPL.q tk0 (ldA kO_37 rfl rfl hv58) rfl ?_
          obtain ⟨b63, h64, hb65, hh66, H⟩ := H
          refine WPL.f tk0 (alN zO_37 hb65 hh66) rfl ?_
          obtain ⟨h67, hs68, H⟩ := H
          refine WPL.f tk0 (stA kO_37 rfl rfl rfl (oneC.c rfl (oneC.c rfl (oneC.c rfl (oneC.c rfl oneC.n)))) hs68) rfl ?_
          refine WPL.nil ?_
          refine WQ.next ?_
          refine WPC.seq ?_
          refine WPC.region ?_
          refine WPL.q tk0 (mv rfl) rfl ?_
          refine WPL.q tk0 (mv rfl) rfl ?_
          obtain ⟨s70, s71, s72, b73, hv69, H⟩ := H
          refine WPL.q tk0 (ldA kO_37 rfl rfl hv69) rfl ?_
          have HC := law2_round_ok (W := W) H
          refine WPL.eff tk0 (cl cO_31 rfl HC) rfl ?_
          rintro _ h75 ⟨b74, rfl, H⟩
          refine WPL.q tk0 (asg rfl) rfl ?_
          refine WPL.nil ?_
          refine WQ.next ?_
          refine WPC.seq ?_
          refine WPC.seq ?_
          refine WPC.region ?_
          refine WPL.q tk0 (mv rfl) rfl ?_
          refine WPL.q tk0 (uNot rfl) rfl ?_
          refine WPL.nil ?_
          refine WQ.next ?_
          refine WPC.cond rfl (fun hb76 => ?_) (fun hb76 => ?_)
          · have H := H.1 hb76
            refine WPC.seq ?_
            refine WPC.region ?_
            refine WPL.q tk0 (asg rfl) rfl ?_
            refine WPL.nil ?_
            refine WQ.next ?_
            refine WPC.ret ?_
            refine WQ.thenR ?_
            refine WQ.blockR ?_
            refine WQ.thenR ?_
            refine WQ.thenR ?_
            refine WQ.blockR ?_
            refine WQ.thenR ?_
            exact WQ.done (rets1 rfl rfl) ⟨_, rfl, H⟩
          · have H := H.2 hb76
            refine WPC.skip ?_
            refine WQ.next ?_
            refine WPC.seq ?_
            refine WPC.seq ?_
            refine WPC.region ?_
            refine WPL.q tk0 (asg rfl) rfl ?_
            refine WPL.nil ?_
            refine WQ.next ?_
            refine WPC.block ?_
            obtain ⟨I78, ⟨m82, HI83⟩, H⟩ := H
            refine WPC.weak (e' := [(0, .int .i64 n1), (1, rounds2.v), (2, again3.v), (7, .pointer p4), (10, laid15.v), (12, .int .i64 i46), (13, .pointer (some (nA b63))), (14, .int .i64 0)]) ?_ ⟨rfl, rfl, rfl, rfl, rfl, rfl, rfl, rfl, trivial⟩
            refine WPC.loop (fun m e h => ∃ (at77 : Int), e = [(0, .int .i64 n1), (1, rounds2.v), (2, again3.v), (7, .pointer p4), (10, laid15.v), (12, .int .i64 i46), (13, .pointer (some (nA b63))), (14, .int .i64 at77)] ∧ I78 m at77 h) ⟨m82, _, rfl, HI83⟩ ?_
            rintro m79 _ h80 ⟨at77, rfl, HI81⟩
            have H := H m79 at77 h80 HI81
            refine WPC.seq ?_
            refine WPC.seq ?_
            refine WPC.region ?_
            refine WPL.q tk0 (mv rfl) rfl ?_
            refine WPL.q tk0 (mv rfl) rfl ?_
            refine WPL.q tk0 (bLss rfl rfl) rfl ?_
            refine WPL.nil ?_
            refine WQ.next ?_
            refine WPC.cond rfl (fun hb84 => ?_) (fun hb84 => ?_)
            · have H := H.1 hb84
              refine WPC.skip ?_
              refine WQ.next ?_
              refine WPC.seq ?_
              refine WPC.block ?_
              refine WPC.seq ?_
              refine WPC.draw (al := [0, 0, 0, 4, 0, 0, 0, 0, 192, 448, 1020, 2047, 4095]) (p := (.p 0 (.p 1 (.p 2 (.q 3 (.p 4 (.p 5 (.p 6 (.p 7 (.p 8 (.q 9 (.e1 10 (.p 11 (.e1 12 .done)))))))))))))) mixO (by kernel_rfl) ?_
              refine PL.pp rfl rfl tk0 (fun _ => mv rfl) ?_
              refine PL.pp rfl rfl tk0 (fun _ => mv rfl) ?_
              refine PL.pp rfl rfl tk0 (fun _ => fa fO_37_0 rfl) ?_
              obtain ⟨s86, hv85, H⟩ := H
              refine PL.qq rfl rfl tk0 (ld kO_35 rfl hv85) ?_
              refine PL.pp rfl rfl tk0 (fun _ => mv rfl) ?_
              refine PL.pp rfl rfl tk0 (fun _ => mv rfl) ?_
              refine PL.pp rfl rfl tk0 (fun _ => mv rfl) ?_
              refine PL.pp rfl rfl tk0 (fun _ => mv rfl) ?_
              obtain ⟨a87, ha88, H⟩ := H
              obtain ⟨h89, h90, H⟩ := H
              refine PL.pp rfl rfl tk0 (fun _ => ixSb sO_34 rfl rfl ha88 h89 h90) ?_
              obtain ⟨s92, hv91, H⟩ := H
              refine PL.qq rfl rfl tk0 (ld kO_24 rfl hv91) ?_
              have HC := law2_last_ok (W := W) H
              refine PL.ee (S' := []) (by kernel_rfl) rfl rfl tk0 (cl cO_32 rfl HC) ?_
              rintro _ h94 ⟨s93, rfl, H⟩
              refine ⟨(Stay.t (by kernel_rfl) (Stay.t (by kernel_rfl) Stay.n)), ?_⟩
              obtain ⟨h95, h96, H⟩ := H
              refine PL.pp rfl rfl tk0 (fun _ => ixSb sO_34 rfl rfl ha88 h95 h96) ?_
              obtain ⟨h97, hs98, H⟩ := H
              refine PL.ff (S' := []) (by kernel_rfl) rfl rfl tk0 (st kO_24 rfl rfl rfl hs98) Stay.n ?_
              refine WQ.next ?_
              refine WPC.draw (al := [0, 0, 0, 4, 0, 0, 0, 64, 0, 0, 768, 1792, 4092, 8191, 16383]) (p := (.p 0 (.p 1 (.p 2 (.q 3 (.p 4 (.p 5 (.p 6 (.q 7 (.p 8 (.p 9 (.p 10 (.q 11 (.e1 12 (.p 13 (.e1 14 .done)))))))))))))))) mixO (by kernel_rfl) ?_
              refine PL.pp rfl rfl tk0 (fun _ => mv rfl) ?_
              refine PL.pp rfl rfl tk0 (fun _ => mv rfl) ?_
              refine PL.pp rfl rfl tk0 (fun _ => fa fO_37_1 rfl) ?_
              obtain ⟨s100, hv99, H⟩ := H
              refine PL.qq rfl rfl tk0 (ld kO_35 rfl hv99) ?_
              refine PL.pp rfl rfl tk0 (fun _ => mv rfl) ?_
              refine PL.pp rfl rfl tk0 (fun _ => mv rfl) ?_
              refine PL.pp rfl rfl tk0 (fun _ => fa fO_37_2 rfl) ?_
              obtain ⟨s102, hv101, H⟩ := H
              refine PL.qq rfl rfl tk0 (ld kO_30 rfl hv101) ?_
              refine PL.pp rfl rfl tk0 (fun _ => mv rfl) ?_
              refine PL.pp rfl rfl tk0 (fun _ => mv rfl) ?_
              obtain ⟨h103, h104, H⟩ := H
              refine PL.pp rfl rfl tk0 (fun _ => ixSb sO_34 rfl rfl ha88 h103 h104) ?_
              obtain ⟨s106, hv105, H⟩ := H
              refine PL.qq rfl rfl tk0 (ld kO_24 rfl hv105) ?_
              have HC := law2_last_ok (W := W) H
              refine PL.ee (S' := []) (by kernel_rfl) rfl rfl tk0 (cl cO_32 rfl HC) ?_
              rintro _ h108 ⟨s107, rfl, H⟩
              refine ⟨(Stay.t (by kernel_rfl) (Stay.t (by kernel_rfl) (Stay.t (by kernel_rfl) Stay.n))), ?_⟩
              obtain ⟨h109, h110, H⟩ := H
              refine PL.pp rfl rfl tk0 (fun _ => ixSb sO_34 rfl rfl ha88 h109 h110) ?_
              obtain ⟨h111, hs112, H⟩ := H
              refine PL.ff (S' := []) (by kernel_rfl) rfl rfl tk0 (st kO_24 rfl rfl rfl hs112) Stay.n ?_
              refine WQ.blockN ?_
              refine WQ.next ?_
              refine WPC.region ?_
              refine WPL.q tk0 (mv rfl) rfl ?_
              obtain ⟨n113, hn114, H⟩ := H
              refine WPL.q tk0 (bAdd rfl rfl hn114) rfl ?_
              refine WPL.q tk0 (asg rfl) rfl ?_
              refine WPL.nil ?_
              obtain ⟨m115, lt116, H⟩ := H
              exact WQ.again lt116 ⟨_, rfl, H⟩ ⟨rfl, rfl, rfl, rfl, rfl, rfl, rfl, rfl, trivial⟩
            · have H := H.2 hb84
              refine WPC.exit ?_
              refine WQ.thenX ?_
              refine WQ.thenX ?_
              refine WQ.hit ?_
              refine WQ.next ?_
              refine WPC.seq ?_
              refine WPC.region ?_
              refine WPL.q tk0 (asg rfl) rfl ?_
              refine WPL.nil ?_
              refine WQ.next ?_
              refine WPC.block ?_
              obtain ⟨I119, ⟨m123, HI124⟩, H⟩ := H
              refine WPC.weak (e' := [(0, .int .i64 n1), (1, rounds2.v), (2, again3.v), (7, .pointer p4), (10, laid15.v), (12, .int .i64 i46), (15, .int .i64 0)]) ?_ ⟨rfl, rfl, rfl, rfl, rfl, rfl, rfl, trivial⟩
              refine WPC.loop (fun m e h => ∃ (turn118 : Int), e = [(0, .int .i64 n1), (1, rounds2.v), (2, again3.v), (7, .pointer p4), (10, laid15.v), (12, .int .i64 i46), (15, .int .i64 turn118)] ∧ I119 m turn118 h) ⟨m123, _, rfl, HI124⟩ ?_
              rintro m120 _ h121 ⟨turn118, rfl, HI122⟩
              have H := H m120 turn118 h121 HI122
              refine WPC.seq ?_
              refine WPC.seq ?_
              refine WPC.region ?_
              refine WPL.q tk0 (mv rfl) rfl ?_
              refine WPL.q tk0 (bLss rfl rfl) rfl ?_
              refine WPL.nil ?_
              refine WQ.next ?_
              refine WPC.cond rfl (fun hb125 => ?_) (fun hb125 => ?_)
              · have H := H.1 hb125
                refine WPC.skip ?_
                refine WQ.next ?_
                refine WPC.seq ?_
                refine WPC.block ?_
                refine WPC.seq ?_
                refine WPC.region ?_
                refine WPL.q tk0 (mv rfl) rfl ?_
                refine WPL.q tk0 (mv rfl) rfl ?_
                refine WPL.q tk0 (mv rfl) rfl ?_
                have HC := law2_holds_ok (W := W) H
                refine WPL.eff tk0 (cl cO_33 rfl HC) rfl ?_
                rintro _ h127 ⟨b126, rfl, H⟩
                refine WPL.q tk0 (asg rfl) rfl ?_
                refine WPL.nil ?_
                refine WQ.next ?_
                refine WPC.seq ?_
                refine WPC.region ?_
                refine WPL.q tk0 (mv rfl) rfl ?_
                refine WPL.q tk0 (uNot rfl) rfl ?_
                refine WPL.nil ?_
                refine WQ.next ?_
                refine WPC.cond rfl (fun hb128 => ?_) (fun hb128 => ?_)
                · have H := H.1 hb128
                  refine WPC.seq ?_
                  refine WPC.region ?_
                  refine WPL.q tk0 (asg rfl) rfl ?_
                  refine WPL.nil ?_
                  refine WQ.next ?_
                  refine WPC.ret ?_
                  refine WQ.blockR ?_
                  refine WQ.thenR ?_
                  refine WQ.thenR ?_
                  refine WQ.blockR ?_
                  refine WQ.blockR ?_
                  refine WQ.thenR ?_
                  refine WQ.thenR ?_
                  refine WQ.blockR ?_
                  refine WQ.thenR ?_
                  exact WQ.done (rets1 rfl rfl) ⟨_, rfl, H⟩
                · have H := H.2 hb128
                  refine WPC.skip ?_
                  refine WQ.blockN ?_
                  refine WQ.next ?_
                  refine WPC.region ?_
                  refine WPL.q tk0 (mv rfl) rfl ?_
                  obtain ⟨n129, hn130, H⟩ := H
                  refine WPL.q tk0 (bAdd rfl rfl hn130) rfl ?_
                  refine WPL.q tk0 (asg rfl) rfl ?_
                  refine WPL.nil ?_
                  obtain ⟨m131, lt132, H⟩ := H
                  exact WQ.again lt132 ⟨_, rfl, H⟩ ⟨rfl, rfl, rfl, rfl, rfl, rfl, rfl, trivial⟩
              · have H := H.2 hb125
                refine WPC.exit ?_
                refine WQ.thenX ?_
                refine WQ.thenX ?_
                refine WQ.hit ?_
                refine WQ.blockN ?_
                refine WQ.next ?_
                refine WPC.region ?_
                refine WPL.q tk0 (mv rfl) rfl ?_
                obtain ⟨n134, hn135, H⟩ := H
                refine WPL.q tk0 (bAdd rfl rfl hn135) rfl ?_
                refine WPL.q tk0 (asg rfl) rfl ?_
                refine WPL.nil ?_
                obtain ⟨m136, lt137, H⟩ := H
                exact WQ.again lt137 ⟨_, rfl, H⟩ ⟨rfl, rfl, rfl, rfl, rfl, rfl, trivial⟩
        · have H := H.2 hb53
          refine WPC.exit ?_
          refine WQ.thenX ?_
          refine WQ.thenX ?_
          refine WQ.hit ?_
          refine WQ.next ?_
          refine WPC.seq ?_
          refine WPC.region ?_
          refine WPL.q tk0 (asg rfl) rfl ?_
          refine WPL.nil ?_
          refine WQ.next ?_
          refine WPC.ret ?_
          exact WQ.done (rets1 rfl rfl) ⟨_, rfl, H⟩
  · refine WPC.region ?_
    refine WPL.q tk0 (mv rfl) rfl ?_
    refine WPL.q tk0 (uNot rfl) rfl ?_
    refine WPL.q tk0 (mv rfl) rfl ?_
    rcases Bool.eq_false_or_eq_true ((!b5)) with hb139 | hb139
    · have H := H.1 hb139
      refine WPL.skip (ntkb rfl rfl hb139) rfl ?_
      refine WPL.skip (ntkb rfl rfl hb139) rfl ?_
      refine WPL.q tk0 (pkTb rfl hb139 rfl) rfl ?_
      refine WPL.nil ?_
      exact (hj10 _ _ ⟨_, rfl, H⟩).weak ⟨rfl, rfl, rfl, rfl, rfl, rfl, trivial⟩
    · have H := H.2 hb139
      refine WPL.q (tkb rfl rfl hb139) (mv rfl) rfl ?_
      refine WPL.q (tkb rfl rfl hb139) (uNot rfl) rfl ?_
      refine WPL.q tk0 (pkFb rfl hb139 rfl) rfl ?_
      refine WPL.nil ?_
      exact (hj10 _ _ ⟨_, rfl, H⟩).weak ⟨rfl, rfl, rfl, rfl, rfl, rfl, trivial⟩

end Go.Proofs.Ythpeadoidpimmaa
