/- What each Go function of this group asks ahead of a call (printed by gen.py), and that this is enough. -/
import Derived.Test.YthpeadoidpimmaaGDisk
import Derived.Test.YthpeadoidpimmaaGLawA
namespace Go.Proofs.Ythpeadoidpimmaa
open Go Tw
set_option linter.unusedVariables false
set_option maxRecDepth 10000
set_option maxHeartbeats 4000000

/-- trellis/trellislaw2.does -/
def law2_does (d1 : Option Addr) (n2 : Int) (n3 : Int) (n4 : Int) (s5 : Sl) (s6 : Sl) (K : Hp → Prop) (h : Hp) : Prop :=
  ∃ (b7 : Nat) (h8 : Hp), b7 = h.size ∧ h8 = h.push (Cel [.int .i64 n2, .int .i64 n3, .int .i64 n4, s5.v, s6.v] 59) ∧ ∃ n12 : Int, rdc h8 ((nA b7).add 0) = some (.int .i64 n12) ∧ ((n12 == 5) = true → (∃ n15 : Int, rdc h8 ((nA b7).add 2) = some (.int .i64 n15) ∧ ∃ s17 : Sl, rdc h8 ((nA b7).add 3) = some (s17.v) ∧ App h8 Sl.nil s17 1 1 5 [.int .u8 0] (fun s18 h19 => rdc h19 ((nA b7).add 2) = some (.int .i64 n15) ∧ disk_Disk_Write d1 n15 s18 (fun n21 h22 => K h22) h19))) ∧ ((n12 == 5) = false → (((n12 == 6) = true → (disk_Disk_Flush d1 (fun n24 h25 => K h25) h8)) ∧ ((n12 == 6) = false → (((n12 == 7) = true → (∃ n28 : Int, rdc h8 ((nA b7).add 2) = some (.int .i64 n28) ∧ disk_Disk_Cut d1 n28 (fun n29 h30 => K h30) h8)) ∧ ((n12 == 7) = false → (((n12 == 8) = true → (∃ s33 : Sl, rdc h8 ((nA b7).add 4) = some (s33.v) ∧ App h8 Sl.nil s33 1 1 4 [.bool false] (fun s34 h35 => disk_Disk_Crash d1 s34 (fun n36 n37 h38 => K h38) h35))) ∧ ((n12 == 8) = false → (K h8))))))))

theorem law2_does_ok {W : World} {h : Hp} {d1 : Option Addr} {n2 : Int} {n3 : Int} {n4 : Int} {s5 : Sl} {s6 : Sl} {K : Hp → Prop} (H : law2_does d1 n2 n3 n4 s5 s6 K h) :
    CallsH Try.prog 41 (List.toArray [.pointer d1, .agg (List.toArray [.int .i64 n2, .int .i64 n3, .int .i64 n4, s5.v, s6.v])]) W h (fun v h' => v = .tuple #[] ∧ K h') := by
  unfold law2_does at H
  refine CallsH.intro (fn := Try.f41) (N := 32) (e := aE 0 [.pointer d1, .agg (List.toArray [.int .i64 n2, .int .i64 n3, .int .i64 n4, s5.v, s6.v])]) Try.func41 rfl rfl (aE_spec _) rfl ?_
  refine WPC.seq ?_
  refine WPC.region ?_
  obtain ⟨b7, h8, hb9, hh10, H⟩ := H
  refine WPL.f tk0 (bxN (l := [.int .i64 n2, .int .i64 n3, .int .i64 n4, s5.v, s6.v]) rfl rfl hb9 hh10) rfl ?_
  refine WPL.nil ?_
  refine WQ.next ?_
  refine WPC.seq ?_
  refine WPC.region ?_
  refine WPL.q tk0 (fa fO_59_0 rfl) rfl ?_
  obtain ⟨n12, hv11, H⟩ := H
  refine WPL.q tk0 (ld kO_3 rfl hv11) rfl ?_
  refine WPL.nil ?_
  refine WQ.next ?_
  refine WPC.block ?_
  refine WPC.seq ?_
  refine WPC.region ?_
  refine WPL.q tk0 (bEql rfl rfl) rfl ?_
  refine WPL.q tk0 (asg rfl) rfl ?_
  refine WPL.nil ?_
  refine WQ.next ?_
  refine WPC.cond rfl (fun hb13 => ?_) (fun hb13 => ?_)
  · have H := H.1 hb13
    refine WPC.draw (al := [0, 0, 2, 0, 8, 24, 63]) (p := (.p 0 (.p 1 (.q 2 (.p 3 (.q 4 (.e1 5 (.e1 6 .done)))))))) mixO (by kernel_rfl) ?_
    refine PL.pp rfl rfl tk0 (fun _ => mv rfl) ?_
    refine PL.pp rfl rfl tk0 (fun _ => fa fO_59_2 rfl) ?_
    obtain ⟨n15, hv14, H⟩ := H
    refine PL.qq rfl rfl tk0 (ld kO_3 rfl hv14) ?_
    refine PL.pp rfl rfl tk0 (fun _ => fa fO_59_3 rfl) ?_
    obtain ⟨s17, hv16, H⟩ := H
    refine PL.qq rfl rfl tk0 (ld kO_24 rfl hv16) ?_
    refine PL.ee (S' := [(2, .int .i64 n15)]) (by kernel_rfl) rfl rfl tk0 (app (rt := 0) sO_24 zO_5 rfl (by decide) rfl rfl H) ?_
    rintro _ h19 ⟨s18, rfl, H⟩
    obtain ⟨hs20, H⟩ := H
    refine ⟨(Stay.t (by kernel_rfl) (Stay.y (by kernel_rfl) rfl tk0 (ld kO_3 rfl hs20) Stay.n)), ?_⟩
    have HC := disk_Disk_Write_ok (W := W) H
    refine PL.ee (S' := []) (by kernel_rfl) rfl rfl tk0 (cl cO_36 rfl HC) ?_
    rintro _ h22 ⟨n21, rfl, H⟩
    refine ⟨(Stay.t (by kernel_rfl) Stay.n), ?_⟩
    refine WQ.blockN ?_
    exact WQ.doneN (rets0 rfl) ⟨rfl, H⟩
  · have H := H.2 hb13
    refine WPC.seq ?_
    refine WPC.region ?_
    refine WPL.q tk0 (bEql rfl rfl) rfl ?_
    refine WPL.q tk0 (asg rfl) rfl ?_
    refine WPL.nil ?_
    refine WQ.next ?_
    refine WPC.cond rfl (fun hb23 => ?_) (fun hb23 => ?_)
    · have H := H.1 hb23
      refine WPC.region ?_
      refine WPL.q tk0 (mv rfl) rfl ?_
      have HC := disk_Disk_Flush_ok (W := W) H
      refine WPL.eff tk0 (cl cO_35 rfl HC) rfl ?_
      rintro _ h25 ⟨n24, rfl, H⟩
      refine WPL.nil ?_
      refine WQ.blockN ?_
      exact WQ.doneN (rets0 rfl) ⟨rfl, H⟩
    · have H := H.2 hb23
      refine WPC.seq ?_
      refine WPC.region ?_
      refine WPL.q tk0 (bEql rfl rfl) rfl ?_
      refine WPL.q tk0 (asg rfl) rfl ?_
      refine WPL.nil ?_
      refine WQ.next ?_
      refine WPC.cond rfl (fun hb26 => ?_) (fun hb26 => ?_)
      · have H := H.1 hb26
        refine WPC.region ?_
        refine WPL.q tk0 (mv rfl) rfl ?_
        refine WPL.q tk0 (fa fO_59_2 rfl) rfl ?_
        obtain ⟨n28, hv27, H⟩ := H
        refine WPL.q tk0 (ld kO_3 rfl hv27) rfl ?_
        have HC := disk_Disk_Cut_ok (W := W) H
        refine WPL.eff tk0 (cl cO_34 rfl HC) rfl ?_
        rintro _ h30 ⟨n29, rfl, H⟩
        refine WPL.nil ?_
        refine WQ.blockN ?_
        exact WQ.doneN (rets0 rfl) ⟨rfl, H⟩
      · have H := H.2 hb26
        refine WPC.seq ?_
        refine WPC.region ?_
        refine WPL.q tk0 (bEql rfl rfl) rfl ?_
        refine WPL.q tk0 (asg rfl) rfl ?_
        refine WPL.nil ?_
        refine WQ.next ?_
        refine WPC.cond rfl (fun hb31 => ?_) (fun hb31 => ?_)
        · have H := H.1 hb31
          refine WPC.region ?_
          refine WPL.q tk0 (mv rfl) rfl ?_
          refine WPL.q tk0 (fa fO_59_4 rfl) rfl ?_
          obtain ⟨s33, hv32, H⟩ := H
          refine WPL.q tk0 (ld kO_30 rfl hv32) rfl ?_
          refine WPL.eff tk0 (app (rt := 0) sO_30 zO_4 rfl (by decide) rfl rfl H) rfl ?_
          rintro _ h35 ⟨s34, rfl, H⟩
          have HC := disk_Disk_Crash_ok (W := W) H
          refine WPL.eff tk0 (cl cO_40 rfl HC) rfl ?_
          rintro _ h38 ⟨n36, n37, rfl, H⟩
          refine WPL.nil ?_
          refine WQ.blockN ?_
          exact WQ.doneN (rets0 rfl) ⟨rfl, H⟩
        · have H := H.2 hb31
          refine WPC.skip ?_
          refine WQ.blockN ?_
          exact WQ.doneN (rets0 rfl) ⟨rfl, H⟩

/-- trellis/trellislaw2.twin -/
def law2_twin (a1 : Option Addr) (b2 : Option Addr) (n3 : Int) (n4 : Int) (n5 : Int) (s6 : Sl) (s7 : Sl) (K : Bool → Hp → Prop) (h : Hp) : Prop :=
  ∃ (b8 : Nat) (h9 : Hp), b8 = h.size ∧ h9 = h.push (Cel [.int .i64 n3, .int .i64 n4, .int .i64 n5, s6.v, s7.v] 59) ∧ ∃ n13 : Int, rdc h9 ((nA b8).add 0) = some (.int .i64 n13) ∧ ((n13 == 4) = true → (∃ n16 : Int, rdc h9 ((nA b8).add 2) = some (.int .i64 n16) ∧ disk_Disk_Read a1 n16 (fun s17 n18 h19 => ∃ n21 : Int, rdc h19 ((nA b8).add 2) = some (.int .i64 n21) ∧ disk_Disk_Read b2 n21 (fun s22 n23 h24 => ((n18 == n23) = true → (law2_same s17 s22 (fun b26 h27 => K b26 h27) h24)) ∧ ((n18 == n23) = false → (K false h24))) h19) h9)) ∧ ((n13 == 4) = false → (((n13 == 5) = true → (∃ n30 : Int, rdc h9 ((nA b8).add 2) = some (.int .i64 n30) ∧ ∃ s32 : Sl, rdc h9 ((nA b8).add 3) = some (s32.v) ∧ App h9 Sl.nil s32 1 1 5 [.int .u8 0] (fun s33 h34 => rdc h34 ((nA b8).add 2) = some (.int .i64 n30) ∧ disk_Disk_Write a1 n30 s33 (fun n36 h37 => ∃ n39 : Int, rdc h37 ((nA b8).add 2) = some (.int .i64 n39) ∧ ∃ s41 : Sl, rdc h37 ((nA b8).add 3) = some (s41.v) ∧ App h37 Sl.nil s41 1 1 5 [.int .u8 0] (fun s42 h43 => rdc h43 ((nA b8).add 2) = some (.int .i64 n39) ∧ disk_Disk_Write b2 n39 s42 (fun n45 h46 => K (n36 == n45) h46) h43)) h34))) ∧ ((n13 == 5) = false → (((n13 == 6) = true → (disk_Disk_Flush a1 (fun n48 h49 => disk_Disk_Flush b2 (fun n50 h51 => K (n48 == n50) h51) h49) h9)) ∧ ((n13 == 6) = false → (((n13 == 7) = true → (∃ n54 : Int, rdc h9 ((nA b8).add 2) = some (.int .i64 n54) ∧ disk_Disk_Cut a1 n54 (fun n55 h56 => ∃ n58 : Int, rdc h56 ((nA b8).add 2) = some (.int .i64 n58) ∧ disk_Disk_Cut b2 n58 (fun n59 h60 => K (n55 == n59) h60) h56) h9)) ∧ ((n13 == 7) = false → (((n13 == 8) = true → (∃ s63 : Sl, rdc h9 ((nA b8).add 4) = some (s63.v) ∧ App h9 Sl.nil s63 1 1 4 [.bool false] (fun s64 h65 => disk_Disk_Crash a1 s64 (fun n66 n67 h68 => ∃ s70 : Sl, rdc h68 ((nA b8).add 4) = some (s70.v) ∧ App h68 Sl.nil s70 1 1 4 [.bool false] (fun s71 h72 => disk_Disk_Crash b2 s71 (fun n73 n74 h75 => ((n66 == n73) = true → (K (n67 == n74) h75)) ∧ ((n66 == n73) = false → (K false h75))) h72)) h65))) ∧ ((n13 == 8) = false → (((n13 == 10) = true → (disk_Disk_Image a1 (fun s78 h79 => disk_Disk_Image b2 (fun s80 h81 => law2_same s78 s80 (fun b82 h83 => K b82 h83) h81) h79) h9)) ∧ ((n13 == 10) = false → (((n13 == 9) = true → (disk_Disk_Pending a1 (fun s85 h86 => disk_Disk_Pending b2 (fun s87 h88 => law2_writes s85 s87 (fun b89 h90 => K b89 h90) h88) h86) h9)) ∧ ((n13 == 9) = false → (K true h9))))))))))))))

theorem law2_twin_ok {W : World} {h : Hp} {a1 : Option Addr} {b2 : Option Addr} {n3 : Int} {n4 : Int} {n5 : Int} {s6 : Sl} {s7 : Sl} {K : Bool → Hp → Prop} (H : law2_twin a1 b2 n3 n4 n5 s6 s7 K h) :
    CallsH Try.prog 46 (List.toArray [.pointer a1, .pointer b2, .agg (List.toArray [.int .i64 n3, .int .i64 n4, .int .i64 n5, s6.v, s7.v])]) W h (fun v h' => ∃ (b1 : Bool), v = .bool b1 ∧ K b1 h') := by
  unfold law2_twin at H
  refine CallsH.intro (fn := Try.f46) (N := 128) (e := aE 0 [.pointer a1, .pointer b2, .agg (List.toArray [.int .i64 n3, .int .i64 n4, .int .i64 n5, s6.v, s7.v])]) Try.func46 rfl rfl (aE_spec _) rfl ?_
  refine WPC.seq ?_
  refine WPC.region ?_
  obtain ⟨b8, h9, hb10, hh11, H⟩ := H
  refine WPL.f tk0 (bxN (l := [.int .i64 n3, .int .i64 n4, .int .i64 n5, s6.v, s7.v]) rfl rfl hb10 hh11) rfl ?_
  refine WPL.q tk0 (asg rfl) rfl ?_
  refine WPL.nil ?_
  refine WQ.next ?_
  refine WPC.seq ?_
  refine WPC.seq ?_
  refine WPC.region ?_
  refine WPL.q tk0 (fa fO_59_0 rfl) rfl ?_
  obtain ⟨n13, hv12, H⟩ := H
  refine WPL.q tk0 (ld kO_3 rfl hv12) rfl ?_
  refine WPL.nil ?_
  refine WQ.next ?_
  refine WPC.block ?_
  refine WPC.seq ?_
  refine WPC.region ?_
  refine WPL.q tk0 (bEql rfl rfl) rfl ?_
  refine WPL.q tk0 (asg rfl) rfl ?_
  refine WPL.nil ?_
  refine WQ.next ?_
  refine WPC.cond rfl (fun hb14 => ?_) (fun hb14 => ?_)
  · have H := H.1 hb14
    refine WPC.seq ?_
    refine WPC.region ?_
    refine WPL.q tk0 (mv rfl) rfl ?_
    refine WPL.q tk0 (fa fO_59_2 rfl) rfl ?_
    obtain ⟨n16, hv15, H⟩ := H
    refine WPL.q tk0 (ld kO_3 rfl hv15) rfl ?_
    have HC := disk_Disk_Read_ok (W := W) H
    refine WPL.eff tk0 (cl cO_38 rfl HC) rfl ?_
    rintro _ h19 ⟨s17, n18, rfl, H⟩
    refine WPL.q tk0 (mv rfl) rfl ?_
    refine WPL.q tk0 (ext rfl rfl) rfl ?_
    refine WPL.q tk0 (ext rfl rfl) rfl ?_
    refine WPL.q tk0 (asg rfl) rfl ?_
    refine WPL.q tk0 (asg rfl) rfl ?_
    refine WPL.nil ?_
    refine WQ.next ?_
    refine WPC.seq ?_
    refine WPC.region ?_
    refine WPL.q tk0 (mv rfl) rfl ?_
    refine WPL.q tk0 (fa fO_59_2 rfl) rfl ?_
    obtain ⟨n21, hv20, H⟩ := H
    refine WPL.q tk0 (ld kO_3 rfl hv20) rfl ?_
    have HC := disk_Disk_Read_ok (W := W) H
    refine WPL.eff tk0 (cl cO_38 rfl HC) rfl ?_
    rintro _ h24 ⟨s22, n23, rfl, H⟩
    refine WPL.q tk0 (mv rfl) rfl ?_
    refine WPL.q tk0 (ext rfl rfl) rfl ?_
    refine WPL.q tk0 (ext rfl rfl) rfl ?_
    refine WPL.q tk0 (asg rfl) rfl ?_
    refine WPL.q tk0 (asg rfl) rfl ?_
    refine WPL.nil ?_
    refine WQ.next ?_
    refine WPC.seq ?_
    refine WPC.region ?_
    refine WPL.q tk0 (mv rfl) rfl ?_
    refine WPL.q tk0 (mv rfl) rfl ?_
    refine WPL.q tk0 (bEql rfl rfl) rfl ?_
    refine WPL.q tk0 (mv rfl) rfl ?_
    rcases Bool.eq_false_or_eq_true ((n18 == n23)) with hb25 | hb25
    · have H := H.1 hb25
      refine WPL.q (tkb rfl rfl hb25) (mv rfl) rfl ?_
      refine WPL.q (tkb rfl rfl hb25) (mv rfl) rfl ?_
      have HC := law2_same_ok (W := W) H
      refine WPL.eff (tkb rfl rfl hb25) (cl cO_45 rfl HC) rfl ?_
      rintro _ h27 ⟨b26, rfl, H⟩
      refine WPL.q tk0 (pkTb rfl hb25 rfl) rfl ?_
      refine WPL.q tk0 (asg rfl) rfl ?_
      refine WPL.nil ?_
      refine WQ.next ?_
      refine WPC.ret ?_
      refine WQ.blockR ?_
      refine WQ.thenR ?_
      exact WQ.done (rets1 rfl rfl) ⟨_, rfl, H⟩
    · have H := H.2 hb25
      refine WPL.skip (ntkb rfl rfl hb25) rfl ?_
      refine WPL.skip (ntkb rfl rfl hb25) rfl ?_
      refine WPL.skip (ntkb rfl rfl hb25) rfl ?_
      refine WPL.q tk0 (pkFb rfl hb25 rfl) rfl ?_
      refine WPL.q tk0 (asg rfl) rfl ?_
      refine WPL.nil ?_
      refine WQ.next ?_
      refine WPC.ret ?_
      refine WQ.blockR ?_
      refine WQ.thenR ?_
      exact WQ.done (rets1 rfl rfl) ⟨_, rfl, H⟩
  · have H := H.2 hb14
    refine WPC.seq ?_
    refine WPC.region ?_
    refine WPL.q tk0 (bEql rfl rfl) rfl ?_
    refine WPL.q tk0 (asg rfl) rfl ?_
    refine WPL.nil ?_
    refine WQ.next ?_
    refine WPC.cond rfl (fun hb28 => ?_) (fun hb28 => ?_)
    · have H := H.1 hb28
      refine WPC.seq ?_
      refine WPC.draw (al := [0, 0, 2, 0, 8, 24, 63, 127]) (p := (.p 0 (.p 1 (.q 2 (.p 3 (.q 4 (.e1 5 (.e1 6 (.p 7 .done))))))))) mixO (by kernel_rfl) ?_
      refine PL.pp rfl rfl tk0 (fun _ => mv rfl) ?_
      refine PL.pp rfl rfl tk0 (fun _ => fa fO_59_2 rfl) ?_
      obtain ⟨n30, hv29, H⟩ := H
      refine PL.qq rfl rfl tk0 (ld kO_3 rfl hv29) ?_
      refine PL.pp rfl rfl tk0 (fun _ => fa fO_59_3 rfl) ?_
      obtain ⟨s32, hv31, H⟩ := H
      refine PL.qq rfl rfl tk0 (ld kO_24 rfl hv31) ?_
      refine PL.ee (S' := [(2, .int .i64 n30)]) (by kernel_rfl) rfl rfl tk0 (app (rt := 0) sO_24 zO_5 rfl (by decide) rfl rfl H) ?_
      rintro _ h34 ⟨s33, rfl, H⟩
      obtain ⟨hs35, H⟩ := H
      refine ⟨(Stay.t (by kernel_rfl) (Stay.y (by kernel_rfl) rfl tk0 (ld kO_3 rfl hs35) Stay.n)), ?_⟩
      have HC := disk_Disk_Write_ok (W := W) H
      refine PL.ee (S' := []) (by kernel_rfl) rfl rfl tk0 (cl cO_36 rfl HC) ?_
      rintro _ h37 ⟨n36, rfl, H⟩
      refine ⟨(Stay.t (by kernel_rfl) Stay.n), ?_⟩
      refine PL.pp rfl rfl tk0 (fun _ => asg rfl) ?_
      refine WQ.next ?_
      refine WPC.seq ?_
      refine WPC.draw (al := [0, 0, 2, 0, 8, 24, 63, 127]) (p := (.p 0 (.p 1 (.q 2 (.p 3 (.q 4 (.e1 5 (.e1 6 (.p 7 .done))))))))) mixO (by kernel_rfl) ?_
      refine PL.pp rfl rfl tk0 (fun _ => mv rfl) ?_
      refine PL.pp rfl rfl tk0 (fun _ => fa fO_59_2 rfl) ?_
      obtain ⟨n39, hv38, H⟩ := H
      refine PL.qq rfl rfl tk0 (ld kO_3 rfl hv38) ?_
      refine PL.pp rfl rfl tk0 (fun _ => fa fO_59_3 rfl) ?_
      obtain ⟨s41, hv40, H⟩ := H
      refine PL.qq rfl rfl tk0 (ld kO_24 rfl hv40) ?_
      refine PL.ee (S' := [(2, .int .i64 n39)]) (by kernel_rfl) rfl rfl tk0 (app (rt := 0) sO_24 zO_5 rfl (by decide) rfl rfl H) ?_
      rintro _ h43 ⟨s42, rfl, H⟩
      obtain ⟨hs44, H⟩ := H
      refine ⟨(Stay.t (by kernel_rfl) (Stay.y (by kernel_rfl) rfl tk0 (ld kO_3 rfl hs44) Stay.n)), ?_⟩
      have HC := disk_Disk_Write_ok (W := W) H
      refine PL.ee (S' := []) (by kernel_rfl) rfl rfl tk0 (cl cO_36 rfl HC) ?_
      rintro _ h46 ⟨n45, rfl, H⟩
      refine ⟨(Stay.t (by kernel_rfl) Stay.n), ?_⟩
      refine PL.pp rfl rfl tk0 (fun _ => asg rfl) ?_
      refine WQ.next ?_
      refine WPC.seq ?_
      refine WPC.region ?_
      refine WPL.q tk0 (mv rfl) rfl ?_
      refine WPL.q tk0 (mv rfl) rfl ?_
      refine WPL.q tk0 (bEql rfl rfl) rfl ?_
      refine WPL.q tk0 (asg rfl) rfl ?_
      refine WPL.nil ?_
      refine WQ.next ?_
      refine WPC.ret ?_
      refine WQ.blockR ?_
      refine WQ.thenR ?_
      exact WQ.done (rets1 rfl rfl) ⟨_, rfl, H⟩
    · have H := H.2 hb28
      refine WPC.seq ?_
      refine WPC.region ?_
      refine WPL.q tk0 (bEql rfl rfl) rfl ?_
      refine WPL.q tk0 (asg rfl) rfl ?_
      refine WPL.nil ?_
      refine WQ.next ?_
      refine WPC.cond rfl (fun hb47 => ?_) (fun hb47 => ?_)
      · have H := H.1 hb47
        refine WPC.seq ?_
        refine WPC.region ?_
        refine WPL.q tk0 (mv rfl) rfl ?_
        have HC := disk_Disk_Flush_ok (W := W) H
        refine WPL.eff tk0 (cl cO_35 rfl HC) rfl ?_
        rintro _ h49 ⟨n48, rfl, H⟩
        refine WPL.q tk0 (asg rfl) rfl ?_
        refine WPL.nil ?_
        refine WQ.next ?_
        refine WPC.seq ?_
        refine WPC.region ?_
        refine WPL.q tk0 (mv rfl) rfl ?_
        have HC := disk_Disk_Flush_ok (W := W) H
        refine WPL.eff tk0 (cl cO_35 rfl HC) rfl ?_
        rintro _ h51 ⟨n50, rfl, H⟩
        refine WPL.q tk0 (asg rfl) rfl ?_
        refine WPL.nil ?_
        refine WQ.next ?_
        refine WPC.seq ?_
        refine WPC.region ?_
        refine WPL.q tk0 (mv rfl) rfl ?_
        refine WPL.q tk0 (mv rfl) rfl ?_
        refine WPL.q tk0 (bEql rfl rfl) rfl ?_
        refine WPL.q tk0 (asg rfl) rfl ?_
        refine WPL.nil ?_
        refine WQ.next ?_
        refine WPC.ret ?_
        refine WQ.blockR ?_
        refine WQ.thenR ?_
        exact WQ.done (rets1 rfl rfl) ⟨_, rfl, H⟩
      · have H := H.2 hb47
        refine WPC.seq ?_
        refine WPC.region ?_
        refine WPL.q tk0 (bEql rfl rfl) rfl ?_
        refine WPL.q tk0 (asg rfl) rfl ?_
        refine WPL.nil ?_
        refine WQ.next ?_
        refine WPC.cond rfl (fun hb52 => ?_) (fun hb52 => ?_)
        · have H := H.1 hb52
          refine WPC.seq ?_
          refine WPC.region ?_
          refine WPL.q tk0 (mv rfl) rfl ?_
          refine WPL.q tk0 (fa fO_59_2 rfl) rfl ?_
          obtain ⟨n54, hv53, H⟩ := H
          refine WPL.q tk0 (ld kO_3 rfl hv53) rfl ?_
          have HC := disk_Disk_Cut_ok (W := W) H
          refine WPL.eff tk0 (cl cO_34 rfl HC) rfl ?_
          rintro _ h56 ⟨n55, rfl, H⟩
          refine WPL.q tk0 (asg rfl) rfl ?_
          refine WPL.nil ?_
          refine WQ.next ?_
          refine WPC.seq ?_
          refine WPC.region ?_
          refine WPL.q tk0 (mv rfl) rfl ?_
          refine WPL.q tk0 (fa fO_59_2 rfl) rfl ?_
          obtain ⟨n58, hv57, H⟩ := H
          refine WPL.q tk0 (ld kO_3 rfl hv57) rfl ?_
          have HC := disk_Disk_Cut_ok (W := W) H
          refine WPL.eff tk0 (cl cO_34 rfl HC) rfl ?_
          rintro _ h60 ⟨n59, rfl, H⟩
          refine WPL.q tk0 (asg rfl) rfl ?_
          refine WPL.nil ?_
          refine WQ.next ?_
          refine WPC.seq ?_
          refine WPC.region ?_
          refine WPL.q tk0 (mv rfl) rfl ?_
          refine WPL.q tk0 (mv rfl) rfl ?_
          refine WPL.q tk0 (bEql rfl rfl) rfl ?_
          refine WPL.q tk0 (asg rfl) rfl ?_
          refine WPL.nil ?_
          refine WQ.next ?_
          refine WPC.ret ?_
          refine WQ.blockR ?_
          refine WQ.thenR ?_
          exact WQ.done (rets1 rfl rfl) ⟨_, rfl, H⟩
        · have H := H.2 hb52
          refine WPC.seq ?_
          refine WPC.region ?_
          refine WPL.q tk0 (bEql rfl rfl) rfl ?_
          refine WPL.q tk0 (asg rfl) rfl ?_
          refine WPL.nil ?_
          refine WQ.next ?_
          refine WPC.cond rfl (fun hb61 => ?_) (fun hb61 => ?_)
          · have H := H.1 hb61
            refine WPC.seq ?_
            refine WPC.region ?_
            refine WPL.q tk0 (mv rfl) rfl ?_
            refine WPL.q tk0 (fa fO_59_4 rfl) rfl ?_
            obtain ⟨s63, hv62, H⟩ := H
            refine WPL.q tk0 (ld kO_30 rfl hv62) rfl ?_
            refine WPL.eff tk0 (app (rt := 0) sO_30 zO_4 rfl (by decide) rfl rfl H) rfl ?_
            rintro _ h65 ⟨s64, rfl, H⟩
            have HC := disk_Disk_Crash_ok (W := W) H
            refine WPL.eff tk0 (cl cO_40 rfl HC) rfl ?_
            rintro _ h68 ⟨n66, n67, rfl, H⟩
            refine WPL.q tk0 (mv rfl) rfl ?_
            refine WPL.q tk0 (ext rfl rfl) rfl ?_
            refine WPL.q tk0 (ext rfl rfl) rfl ?_
            refine WPL.q tk0 (asg rfl) rfl ?_
            refine WPL.q tk0 (asg rfl) rfl ?_
            refine WPL.nil ?_
            refine WQ.next ?_
            refine WPC.seq ?_
            refine WPC.region ?_
            refine WPL.q tk0 (mv rfl) rfl ?_
            refine WPL.q tk0 (fa fO_59_4 rfl) rfl ?_
            obtain ⟨s70, hv69, H⟩ := H
            refine WPL.q tk0 (ld kO_30 rfl hv69) rfl ?_
            refine WPL.eff tk0 (app (rt := 0) sO_30 zO_4 rfl (by decide) rfl rfl H) rfl ?_
            rintro _ h72 ⟨s71, rfl, H⟩
            have HC := disk_Disk_Crash_ok (W := W) H
            refine WPL.eff tk0 (cl cO_40 rfl HC) rfl ?_
            rintro _ h75 ⟨n73, n74, rfl, H⟩
            refine WPL.q tk0 (mv rfl) rfl ?_
            refine WPL.q tk0 (ext rfl rfl) rfl ?_
            refine WPL.q tk0 (ext rfl rfl) rfl ?_
            refine WPL.q tk0 (asg rfl) rfl ?_
            refine WPL.q tk0 (asg rfl) rfl ?_
            refine WPL.nil ?_
            refine WQ.next ?_
            refine WPC.seq ?_
            refine WPC.region ?_
            refine WPL.q tk0 (mv rfl) rfl ?_
            refine WPL.q tk0 (mv rfl) rfl ?_
            refine WPL.q tk0 (bEql rfl rfl) rfl ?_
            refine WPL.q tk0 (mv rfl) rfl ?_
            rcases Bool.eq_false_or_eq_true ((n66 == n73)) with hb76 | hb76
            · have H := H.1 hb76
              refine WPL.q (tkb rfl rfl hb76) (mv rfl) rfl ?_
              refine WPL.q (tkb rfl rfl hb76) (mv rfl) rfl ?_
              refine WPL.q (tkb rfl rfl hb76) (bEql rfl rfl) rfl ?_
              refine WPL.q tk0 (pkTb rfl hb76 rfl) rfl ?_
              refine WPL.q tk0 (asg rfl) rfl ?_
              refine WPL.nil ?_
              refine WQ.next ?_
              refine WPC.ret ?_
              refine WQ.blockR ?_
              refine WQ.thenR ?_
              exact WQ.done (rets1 rfl rfl) ⟨_, rfl, H⟩
            · have H := H.2 hb76
              refine WPL.skip (ntkb rfl rfl hb76) rfl ?_
              refine WPL.skip (ntkb rfl rfl hb76) rfl ?_
              refine WPL.skip (ntkb rfl rfl hb76) rfl ?_
              refine WPL.q tk0 (pkFb rfl hb76 rfl) rfl ?_
              refine WPL.q tk0 (asg rfl) rfl ?_
              refine WPL.nil ?_
              refine WQ.next ?_
              refine WPC.ret ?_
              refine WQ.blockR ?_
              refine WQ.thenR ?_
              exact WQ.done (rets1 rfl rfl) ⟨_, rfl, H⟩
          · have H := H.2 hb61
            refine WPC.seq ?_
            refine WPC.region ?_
            refine WPL.q tk0 (bEql rfl rfl) rfl ?_
            refine WPL.q tk0 (asg rfl) rfl ?_
            refine WPL.nil ?_
            refine WQ.next ?_
            refine WPC.cond rfl (fun hb77 => ?_) (fun hb77 => ?_)
            · have H := H.1 hb77
              refine WPC.seq ?_
              refine WPC.region ?_
              refine WPL.q tk0 (mv rfl) rfl ?_
              have HC := disk_Disk_Image_ok (W := W) H
              refine WPL.eff tk0 (cl cO_42 rfl HC) rfl ?_
              rintro _ h79 ⟨s78, rfl, H⟩
              refine WPL.q tk0 (mv rfl) rfl ?_
              have HC := disk_Disk_Image_ok (W := W) H
              refine WPL.eff tk0 (cl cO_42 rfl HC) rfl ?_
              rintro _ h81 ⟨s80, rfl, H⟩
              have HC := law2_same_ok (W := W) H
              refine WPL.eff tk0 (cl cO_45 rfl HC) rfl ?_
              rintro _ h83 ⟨b82, rfl, H⟩
              refine WPL.q tk0 (asg rfl) rfl ?_
              refine WPL.nil ?_
              refine WQ.next ?_
              refine WPC.ret ?_
              refine WQ.blockR ?_
              refine WQ.thenR ?_
              exact WQ.done (rets1 rfl rfl) ⟨_, rfl, H⟩
            · have H := H.2 hb77
              refine WPC.seq ?_
              refine WPC.region ?_
              refine WPL.q tk0 (bEql rfl rfl) rfl ?_
              refine WPL.q tk0 (asg rfl) rfl ?_
              refine WPL.nil ?_
              refine WQ.next ?_
              refine WPC.cond rfl (fun hb84 => ?_) (fun hb84 => ?_)
              · have H := H.1 hb84
                refine WPC.seq ?_
                refine WPC.region ?_
                refine WPL.q tk0 (mv rfl) rfl ?_
                have HC := disk_Disk_Pending_ok (W := W) H
                refine WPL.eff tk0 (cl cO_92 rfl HC) rfl ?_
                rintro _ h86 ⟨s85, rfl, H⟩
                refine WPL.q tk0 (mv rfl) rfl ?_
                have HC := disk_Disk_Pending_ok (W := W) H
                refine WPL.eff tk0 (cl cO_92 rfl HC) rfl ?_
                rintro _ h88 ⟨s87, rfl, H⟩
                have HC := law2_writes_ok (W := W) H
                refine WPL.eff tk0 (cl cO_91 rfl HC) rfl ?_
                rintro _ h90 ⟨b89, rfl, H⟩
                refine WPL.q tk0 (asg rfl) rfl ?_
                refine WPL.nil ?_
                refine WQ.next ?_
                refine WPC.ret ?_
                refine WQ.blockR ?_
                refine WQ.thenR ?_
                exact WQ.done (rets1 rfl rfl) ⟨_, rfl, H⟩
              · have H := H.2 hb84
                refine WPC.skip ?_
                refine WQ.blockN ?_
                refine WQ.next ?_
                refine WPC.seq ?_
                refine WPC.region ?_
                refine WPL.q tk0 (asg rfl) rfl ?_
                refine WPL.nil ?_
                refine WQ.next ?_
                refine WPC.ret ?_
                exact WQ.done (rets1 rfl rfl) ⟨_, rfl, H⟩

/-- trellis/trellislaw2.DiskImage -/
def law2_DiskImage (n1 : Int) (before2 : Sl) (after3 : Sl) (K : Bool → Hp → Prop) (h : Hp) : Prop :=
  law2_sizes n1 (fun p4 b5 b6 h7 => ∃ k9 : Bool → Hp → Prop, (∀ (b8 : Bool) (h12 : Hp), k9 b8 h12 → ((b8 = true → (K b5 h12)) ∧ (b8 = false → (∃ I16 : Nat → Int → Hp → Prop, (∃ m20, I16 m20 0 h12) ∧ ∀ (m17 : Nat) (i15 : Int) (h18 : Hp), I16 m17 i15 h18 → (((decide (i15 < (before2.len : Int))) = true → (∃ a23 : Addr, before2.p = some a23 ∧ 0 ≤ i15 ∧ i15 < (before2.len : Int) ∧ ∃ (n28 : Int) (n29 : Int) (n30 : Int) (s31 : Sl) (s32 : Sl), RdL h18 (a23.add (Int.toNat i15 * 5)) [.int .i64 n28, .int .i64 n29, .int .i64 n30, s31.v, s32.v] ∧ law2_does p4 n28 n29 n30 s31 s32 (fun h33 => ∃ n34 : Int, Wr .i64 (i15 + 1) n34 ∧ ∃ m36, m36 < m17 ∧ I16 m36 n34 h33) h18)) ∧ ((decide (i15 < (before2.len : Int))) = false → (disk_Disk_Image p4 (fun s39 h40 => ∃ n41 : Int, Wr .i64 ((128 : Int) * n1) n41 ∧ (((s39.len : Int) != n41) = true → (K false h40)) ∧ (((s39.len : Int) != n41) = false → (disk_Load s39 (fun p44 n45 h46 => disk_Disk_Crash p4 Sl.nil (fun n47 n48 h49 => ∃ k51 : Bool → Hp → Prop, (∀ (b50 : Bool) (h54 : Hp), k51 b50 h54 → ((b50 = true → (K false h54)) ∧ (b50 = false → (∃ I58 : Nat → Int → Hp → Prop, (∃ m62, I58 m62 0 h54) ∧ ∀ (m59 : Nat) (at57 : Int) (h60 : Hp), I58 m59 at57 h60 → (((decide (at57 < n1)) = true → (disk_Disk_Read p4 at57 (fun s65 n66 h67 => ∃ n68 : Int, Wr .i64 ((128 : Int) * at57) n68 ∧ ∃ n70 : Int, Wr .i64 ((128 : Int) * at57) n70 ∧ ∃ n72 : Int, Wr .i64 (n70 + 128) n72 ∧ 0 ≤ n68 ∧ n68 ≤ n72 ∧ n72 ≤ (s39.cap : Int) ∧ ∃ s74 : Sl, s74 = slS s39 1 (Int.toNat n68) (Int.toNat n72) ∧ law2_same s65 s74 (fun b79 h80 => ∃ k82 : Bool → Hp → Prop, (∀ (b81 : Bool) (h85 : Hp), k82 b81 h85 → ((b81 = true → (K false h85)) ∧ (b81 = false → (∃ n88 : Int, Wr .i64 (at57 + 1) n88 ∧ ∃ m90, m90 < m59 ∧ I58 m90 n88 h85)))) ∧ (((n66 != 0) = true → (k82 true h80)) ∧ ((n66 != 0) = false → (k82 (!b79) h80)))) h67) h60)) ∧ ((decide (at57 < n1)) = false → (∃ I95 : Nat → Int → Hp → Prop, (∃ m99, I95 m99 0 h60) ∧ ∀ (m96 : Nat) (i94 : Int) (h97 : Hp), I95 m96 i94 h97 → (((decide (i94 < (after3.len : Int))) = true → (∃ a102 : Addr, after3.p = some a102 ∧ 0 ≤ i94 ∧ i94 < (after3.len : Int) ∧ ∃ (n107 : Int) (n108 : Int) (n109 : Int) (s110 : Sl) (s111 : Sl), RdL h97 (a102.add (Int.toNat i94 * 5)) [.int .i64 n107, .int .i64 n108, .int .i64 n109, s110.v, s111.v] ∧ law2_twin p4 p44 n107 n108 n109 s110 s111 (fun b112 h113 => ((!b112) = true → (K false h113)) ∧ ((!b112) = false → (∃ n115 : Int, Wr .i64 (i94 + 1) n115 ∧ ∃ m117, m117 < m96 ∧ I95 m117 n115 h113))) h97)) ∧ ((decide (i94 < (after3.len : Int))) = false → (K true h97)))))))))) ∧ ((p44.isNone = true → (k51 true h49)) ∧ (p44.isNone = false → (((n45 != 0) = true → (k51 true h49)) ∧ ((n45 != 0) = false → (((n48 != 0) = true → (k51 true h49)) ∧ ((n48 != 0) = false → (disk_Disk_Sectors p44 (fun n123 h124 => k51 (n123 != n1) h124) h49)))))))) h46) h40))) h18))))))) ∧ (((!b5) = true → (k9 true h7)) ∧ ((!b5) = false → (k9 (!b6) h7)))) h

theorem law2_DiskImage_ok {W : World} {h : Hp} {n1 : Int} {before2 : Sl} {after3 : Sl} {K : Bool → Hp → Prop} (H : law2_DiskImage n1 before2 after3 K h) :
    CallsH Try.prog 7 (List.toArray [.int .i64 n1, before2.v, after3.v]) W h (fun v h' => ∃ (b1 : Bool), v = .bool b1 ∧ K b1 h') := by
  unfold law2_DiskImage at H
  refine CallsH.intro (fn := Try.f7) (N := 119) (e := aE 0 [.int .i64 n1, before2.v, after3.v]) Try.func7 rfl rfl (aE_spec _) rfl ?_
  refine WPC.seq ?_
  refine WPC.region ?_
  refine WPL.q tk0 (asg rfl) rfl ?_
  refine WPL.nil ?_
  refine WQ.next ?_
  refine WPC.seq ?_
  refine WPC.region ?_
  refine WPL.q tk0 (mv rfl) rfl ?_
  have HC := law2_sizes_ok (W := W) H
  refine WPL.eff tk0 (cl cO_30 rfl HC) rfl ?_
  rintro _ h7 ⟨p4, b5, b6, rfl, H⟩
  refine WPL.q tk0 (mv rfl) rfl ?_
  refine WPL.q tk0 (ext rfl rfl) rfl ?_
  refine WPL.q tk0 (ext rfl rfl) rfl ?_
  refine WPL.q tk0 (ext rfl rfl) rfl ?_
  refine WPL.q tk0 (asg rfl) rfl ?_
  refine WPL.q tk0 (asg rfl) rfl ?_
  refine WPL.q tk0 (asg rfl) rfl ?_
  refine WPL.nil ?_
  refine WQ.next ?_
  refine WPC.seq ?_
  refine WPC.seq ?_
  obtain ⟨k9, hk11, H⟩ := H
  refine WPC.join (fun e h => ∃ (b8 : Bool), e = [(0, .int .i64 n1), (1, before2.v), (2, after3.v), (7, .pointer p4), (8, .bool b5), (31, .bool b8)] ∧ k9 b8 h) ?_ (fun hj10 => ?_)
  · rintro _ h12 ⟨b8, rfl, HK13⟩
    have H := hk11 b8 h12 HK13
    refine WQ.next ?_
    refine WPC.cond rfl (fun hb14 => ?_) (fun hb14 => ?_)
    · have H := H.1 hb14
      refine WPC.seq ?_
      refine WPC.region ?_
      refine WPL.q tk0 (mv rfl) rfl ?_
      refine WPL.q tk0 (asg rfl) rfl ?_
      refine WPL.nil ?_
      refine WQ.next ?_
      refine WPC.ret ?_
      refine WQ.thenR ?_
      exact WQ.done (rets1 rfl rfl) ⟨_, rfl, H⟩
    · have H := H.2 hb14
      refine WPC.skip ?_
      refine WQ.next ?_
      refine WPC.seq ?_
      refine WPC.seq ?_
      refine WPC.region ?_
      refine WPL.q tk0 (asg rfl) rfl ?_
      refine WPL.nil ?_
      refine WQ.next ?_
      refine WPC.block ?_
      obtain ⟨I16, ⟨m20, HI21⟩, H⟩ := H
      refine WPC.weak (e' := [(0, .int .i64 n1), (1, before2.v), (2, after3.v), (7, .pointer p4), (10, .int .i64 0)]) ?_ ⟨rfl, rfl, rfl, rfl, rfl, trivial⟩
      refine WPC.loop (fun m e h => ∃ (i15 : Int), e = [(0, .int .i64 n1), (1, before2.v), (2, after3.v), (7, .pointer p4), (10, .int .i64 i15)] ∧ I16 m i15 h) ⟨m20, _, rfl, HI21⟩ ?_
      rintro m17 _ h18 ⟨i15, rfl, HI19⟩
      have H := H m17 i15 h18 HI19
      refine WPC.seq ?_
      refine WPC.seq ?_
      refine WPC.region ?_
      refine WPL.q tk0 (mv rfl) rfl ?_
      refine WPL.q tk0 (mv rfl) rfl ?_
      refine WPL.q tk0 (lnb sO_56 rfl) rfl ?_
      refine WPL.q tk0 (bLss rfl rfl) rfl ?_
      refine WPL.nil ?_
      refine WQ.next ?_
      refine WPC.cond rfl (fun hb22 => ?_) (fun hb22 => ?_)
      · have H := H.1 hb22
        refine WPC.skip ?_
        refine WQ.next ?_
        refine WPC.seq ?_
        refine WPC.block ?_
        refine WPC.region ?_
        refine WPL.q tk0 (mv rfl) rfl ?_
        refine WPL.q tk0 (mv rfl) rfl ?_
        refine WPL.q tk0 (mv rfl) rfl ?_
        obtain ⟨a23, ha24, H⟩ := H
        obtain ⟨h25, h26, H⟩ := H
        refine WPL.q tk0 (ixSb sO_56 rfl rfl ha24 h25 h26) rfl ?_
        obtain ⟨n28, n29, n30, s31, s32, hv27, H⟩ := H
        refine WPL.q tk0 (ldA kO_59 rfl rfl hv27) rfl ?_
        have HC := law2_does_ok (W := W) H
        refine WPL.eff tk0 (cl cO_41 rfl HC) rfl ?_
        rintro _ h33 ⟨rfl, H⟩
        refine WPL.nil ?_
        refine WQ.blockN ?_
        refine WQ.next ?_
        refine WPC.region ?_
        refine WPL.q tk0 (mv rfl) rfl ?_
        obtain ⟨n34, hn35, H⟩ := H
        refine WPL.q tk0 (bAdd rfl rfl hn35) rfl ?_
        refine WPL.q tk0 (asg rfl) rfl ?_
        refine WPL.nil ?_
        obtain ⟨m36, lt37, H⟩ := H
        exact WQ.again lt37 ⟨_, rfl, H⟩ ⟨rfl, rfl, rfl, rfl, rfl, trivial⟩
      · have H := H.2 hb22
        refine WPC.exit ?_
        refine WQ.thenX ?_
        refine WQ.thenX ?_
        refine WQ.hit ?_
        refine WQ.next ?_
        refine WPC.seq ?_
        refine WPC.region ?_
        refine WPL.q tk0 (mv rfl) rfl ?_
        have HC := disk_Disk_Image_ok (W := W) H
        refine WPL.eff tk0 (cl cO_42 rfl HC) rfl ?_
        rintro _ h40 ⟨s39, rfl, H⟩
        refine WPL.q tk0 (asg rfl) rfl ?_
        refine WPL.nil ?_
        refine WQ.next ?_
        refine WPC.seq ?_
        refine WPC.seq ?_
        refine WPC.region ?_
        refine WPL.q tk0 (mv rfl) rfl ?_
        refine WPL.q tk0 (lnb sO_24 rfl) rfl ?_
        refine WPL.q tk0 (mv rfl) rfl ?_
        obtain ⟨n41, hn42, H⟩ := H
        refine WPL.q tk0 (bMul rfl rfl hn42) rfl ?_
        refine WPL.q tk0 (bNeq rfl rfl) rfl ?_
        refine WPL.nil ?_
        refine WQ.next ?_
        refine WPC.cond rfl (fun hb43 => ?_) (fun hb43 => ?_)
        · have H := H.1 hb43
          refine WPC.seq ?_
          refine WPC.region ?_
          refine WPL.q tk0 (asg rfl) rfl ?_
          refine WPL.nil ?_
          refine WQ.next ?_
          refine WPC.ret ?_
          refine WQ.thenR ?_
          exact WQ.done (rets1 rfl rfl) ⟨_, rfl, H⟩
        · have H := H.2 hb43
          refine WPC.skip ?_
          refine WQ.next ?_
          refine WPC.seq ?_
          refine WPC.region ?_
          refine WPL.q tk0 (mv rfl) rfl ?_
          have HC := disk_Load_ok (W := W) H
          refine WPL.eff tk0 (cl cO_43 rfl HC) rfl ?_
          rintro _ h46 ⟨p44, n45, rfl, H⟩
          refine WPL.q tk0 (mv rfl) rfl ?_
          refine WPL.q tk0 (ext rfl rfl) rfl ?_
          refine WPL.q tk0 (ext rfl rfl) rfl ?_
          refine WPL.q tk0 (asg rfl) rfl ?_
          refine WPL.q tk0 (asg rfl) rfl ?_
          refine WPL.nil ?_
          refine WQ.next ?_
          refine WPC.seq ?_
          refine WPC.region ?_
          refine WPL.q tk0 (mv rfl) rfl ?_
          have HC := disk_Disk_Crash_ok (W := W) H
          refine WPL.eff tk0 (cl cO_40 rfl HC) rfl ?_
          rintro _ h49 ⟨n47, n48, rfl, H⟩
          refine WPL.q tk0 (mv rfl) rfl ?_
          refine WPL.q tk0 (ext rfl rfl) rfl ?_
          refine WPL.q tk0 (ext rfl rfl) rfl ?_
          refine WPL.q tk0 (asg rfl) rfl ?_
          refine WPL.q tk0 (asg rfl) rfl ?_
          refine WPL.nil ?_
          refine WQ.next ?_
          refine WPC.seq ?_
          refine WPC.seq ?_
          obtain ⟨k51, hk53, H⟩ := H
          refine WPC.join (fun e h => ∃ (b50 : Bool), e = [(0, .int .i64 n1), (2, after3.v), (7, .pointer p4), (11, s39.v), (12, .pointer p44), (77, .bool b50)] ∧ k51 b50 h) ?_ (fun hj52 => ?_)
          · rintro _ h54 ⟨b50, rfl, HK55⟩
            have H := hk53 b50 h54 HK55
            refine WQ.next ?_
            refine WPC.cond rfl (fun hb56 => ?_) (fun hb56 => ?_)
            · have H := H.1 hb56
              refine WPC.seq ?_
              refine WPC.region ?_
              refine WPL.q tk0 (asg rfl) rfl ?_
              refine WPL.nil ?_
              refine WQ.next ?_
              refine WPC.ret ?_
              refine WQ.thenR ?_
              exact WQ.done (rets1 rfl rfl) ⟨_, rfl, H⟩
            · have H := H.2 hb56
              refine WPC.skip ?_
              refine WQ.next ?_
              refine WPC.seq ?_
              refine WPC.seq ?_
              refine WPC.region ?_
              refine WPL.q tk0 (asg rfl) rfl ?_
              refine WPL.nil ?_
              refine WQ.next ?_
              refine WPC.block ?_
              obtain ⟨I58, ⟨m62, HI63⟩, H⟩ := H
              refine WPC.weak (e' := [(0, .int .i64 n1), (2, after3.v), (7, .pointer p4), (11, s39.v), (12, .pointer p44), (16, .int .i64 0)]) ?_ ⟨rfl, rfl, rfl, rfl, rfl, rfl, trivial⟩
              refine WPC.loop (fun m e h => ∃ (at57 : Int), e = [(0, .int .i64 n1), (2, after3.v), (7, .pointer p4), (11, s39.v), (12, .pointer p44), (16, .int .i64 at57)] ∧ I58 m at57 h) ⟨m62, _, rfl, HI63⟩ ?_
              rintro m59 _ h60 ⟨at57, rfl, HI61⟩
              have H := H m59 at57 h60 HI61
              refine WPC.seq ?_
              refine WPC.seq ?_
              refine WPC.region ?_
              refine WPL.q tk0 (mv rfl) rfl ?_
              refine WPL.q tk0 (mv rfl) rfl ?_
              refine WPL.q tk0 (bLss rfl rfl) rfl ?_
              refine WPL.nil ?_
              refine WQ.next ?_
              refine WPC.cond rfl (fun hb64 => ?_) (fun hb64 => ?_)
              · have H := H.1 hb64
                refine WPC.skip ?_
                refine WQ.next ?_
                refine WPC.seq ?_
                refine WPC.block ?_
                refine WPC.seq ?_
                refine WPC.region ?_
                refine WPL.q tk0 (mv rfl) rfl ?_
                refine WPL.q tk0 (mv rfl) rfl ?_
                have HC := disk_Disk_Read_ok (W := W) H
                refine WPL.eff tk0 (cl cO_38 rfl HC) rfl ?_
                rintro _ h67 ⟨s65, n66, rfl, H⟩
                refine WPL.q tk0 (mv rfl) rfl ?_
                refine WPL.q tk0 (ext rfl rfl) rfl ?_
                refine WPL.q tk0 (ext rfl rfl) rfl ?_
                refine WPL.q tk0 (asg rfl) rfl ?_
                refine WPL.q tk0 (asg rfl) rfl ?_
                refine WPL.nil ?_
                refine WQ.next ?_
                refine WPC.seq ?_
                refine WPC.region ?_
                refine WPL.q tk0 (mv rfl) rfl ?_
                refine WPL.q tk0 (mv rfl) rfl ?_
                refine WPL.q tk0 (mv rfl) rfl ?_
                obtain ⟨n68, hn69, H⟩ := H
                refine WPL.q tk0 (bMul rfl rfl hn69) rfl ?_
                refine WPL.q tk0 (mv rfl) rfl ?_
                obtain ⟨n70, hn71, H⟩ := H
                refine WPL.q tk0 (bMul rfl rfl hn71) rfl ?_
                obtain ⟨n72, hn73, H⟩ := H
                refine WPL.q tk0 (bAdd rfl rfl hn73) rfl ?_
                obtain ⟨c76, c77, c78, s74, hs75, H⟩ := H
                refine WPL.q tk0 (slcSN (l := (some n68)) (r := (some n72)) sO_24 rfl rfl rfl c76 c77 c78 hs75) rfl ?_
                have HC := law2_same_ok (W := W) H
                refine WPL.eff tk0 (cl cO_45 rfl HC) rfl ?_
                rintro _ h80 ⟨b79, rfl, H⟩
                refine WPL.q tk0 (asg rfl) rfl ?_
                refine WPL.nil ?_
                refine WQ.next ?_
                refine WPC.seq ?_
                obtain ⟨k82, hk84, H⟩ := H
                refine WPC.join (fun e h => ∃ (b81 : Bool), e = [(0, .int .i64 n1), (2, after3.v), (7, .pointer p4), (11, s39.v), (12, .pointer p44), (16, .int .i64 at57), (103, .bool b81)] ∧ k82 b81 h) ?_ (fun hj83 => ?_)
                · rintro _ h85 ⟨b81, rfl, HK86⟩
                  have H := hk84 b81 h85 HK86
                  refine WQ.next ?_
                  refine WPC.cond rfl (fun hb87 => ?_) (fun hb87 => ?_)
                  · have H := H.1 hb87
                    refine WPC.seq ?_
                    refine WPC.region ?_
                    refine WPL.q tk0 (asg rfl) rfl ?_
                    refine WPL.nil ?_
                    refine WQ.next ?_
                    refine WPC.ret ?_
                    refine WQ.blockR ?_
                    refine WQ.thenR ?_
                    refine WQ.thenR ?_
                    refine WQ.blockR ?_
                    refine WQ.thenR ?_
                    exact WQ.done (rets1 rfl rfl) ⟨_, rfl, H⟩
                  · have H := H.2 hb87
                    refine WPC.skip ?_
                    refine WQ.blockN ?_
                    refine WQ.next ?_
                    refine WPC.region ?_
                    refine WPL.q tk0 (mv rfl) rfl ?_
                    obtain ⟨n88, hn89, H⟩ := H
                    refine WPL.q tk0 (bAdd rfl rfl hn89) rfl ?_
                    refine WPL.q tk0 (asg rfl) rfl ?_
                    refine WPL.nil ?_
                    obtain ⟨m90, lt91, H⟩ := H
                    exact WQ.again lt91 ⟨_, rfl, H⟩ ⟨rfl, rfl, rfl, rfl, rfl, rfl, trivial⟩
                · refine WPC.region ?_
                  refine WPL.q tk0 (mv rfl) rfl ?_
                  refine WPL.q tk0 (bNeq rfl rfl) rfl ?_
                  refine WPL.q tk0 (mv rfl) rfl ?_
                  rcases Bool.eq_false_or_eq_true ((n66 != 0)) with hb93 | hb93
                  · have H := H.1 hb93
                    refine WPL.skip (ntkb rfl rfl hb93) rfl ?_
                    refine WPL.skip (ntkb rfl rfl hb93) rfl ?_
                    refine WPL.q tk0 (pkTb rfl hb93 rfl) rfl ?_
                    refine WPL.nil ?_
                    exact (hj83 _ _ ⟨_, rfl, H⟩).weak ⟨rfl, rfl, rfl, rfl, rfl, rfl, rfl, trivial⟩
                  · have H := H.2 hb93
                    refine WPL.q (tkb rfl rfl hb93) (mv rfl) rfl ?_
                    refine WPL.q (tkb rfl rfl hb93) (uNot rfl) rfl ?_
                    refine WPL.q tk0 (pkFb rfl hb93 rfl) rfl ?_
                    refine WPL.nil ?_
                    exact (hj83 _ _ ⟨_, rfl, H⟩).weak ⟨rfl, rfl, rfl, rfl, rfl, rfl, rfl, trivial⟩
              · have H := H.2 hb64
                refine WPC.exit ?_
                refine WQ.thenX ?_
                refine WQ.thenX ?_
                refine WQ.hit ?_
                refine WQ.next ?_
                refine WPC.seq ?_
                refine WPC.seq ?_
                refine WPC.region ?_
                refine WPL.q tk0 (asg rfl) rfl ?_
                refine WPL.nil ?_
                refine WQ.next ?_
                refine WPC.block ?_
                obtain ⟨I95, ⟨m99, HI100⟩, H⟩ := H
                refine WPC.weak (e' := [(2, after3.v), (7, .pointer p4), (12, .pointer p44), (19, .int .i64 0)]) ?_ ⟨rfl, rfl, rfl, rfl, trivial⟩
                refine WPC.loop (fun m e h => ∃ (i94 : Int), e = [(2, after3.v), (7, .pointer p4), (12, .pointer p44), (19, .int .i64 i94)] ∧ I95 m i94 h) ⟨m99, _, rfl, HI100⟩ ?_
                rintro m96 _ h97 ⟨i94, rfl, HI98⟩
                have H := H m96 i94 h97 HI98
                refine WPC.seq ?_
                refine WPC.seq ?_
                refine WPC.region ?_
                refine WPL.q tk0 (mv rfl) rfl ?_
                refine WPL.q tk0 (mv rfl) rfl ?_
                refine WPL.q tk0 (lnb sO_56 rfl) rfl ?_
                refine WPL.q tk0 (bLss rfl rfl) rfl ?_
                refine WPL.nil ?_
                refine WQ.next ?_
                refine WPC.cond rfl (fun hb101 => ?_) (fun hb101 => ?_)
                · have H := H.1 hb101
                  refine WPC.skip ?_
                  refine WQ.next ?_
                  refine WPC.seq ?_
                  refine WPC.block ?_
                  refine WPC.seq ?_
                  refine WPC.region ?_
                  refine WPL.q tk0 (mv rfl) rfl ?_
                  refine WPL.q tk0 (mv rfl) rfl ?_
                  refine WPL.q tk0 (mv rfl) rfl ?_
                  refine WPL.q tk0 (mv rfl) rfl ?_
                  obtain ⟨a102, ha103, H⟩ := H
                  obtain ⟨h104, h105, H⟩ := H
                  refine WPL.q tk0 (ixSb sO_56 rfl rfl ha103 h104 h105) rfl ?_
                  obtain ⟨n107, n108, n109, s110, s111, hv106, H⟩ := H
                  refine WPL.q tk0 (ldA kO_59 rfl rfl hv106) rfl ?_
                  have HC := law2_twin_ok (W := W) H
                  refine WPL.eff tk0 (cl cO_46 rfl HC) rfl ?_
                  rintro _ h113 ⟨b112, rfl, H⟩
                  refine WPL.q tk0 (asg rfl) rfl ?_
                  refine WPL.nil ?_
                  refine WQ.next ?_
                  refine WPC.seq ?_
                  refine WPC.region ?_
                  refine WPL.q tk0 (mv rfl) rfl ?_
                  refine WPL.q tk0 (uNot rfl) rfl ?_
                  refine WPL.nil ?_
                  refine WQ.next ?_
                  refine WPC.cond rfl (fun hb114 => ?_) (fun hb114 => ?_)
                  · have H := H.1 hb114
                    refine WPC.seq ?_
                    refine WPC.region ?_
                    refine WPL.q tk0 (asg rfl) rfl ?_
                    refine WPL.nil ?_
                    refine WQ.next ?_
                    refine WPC.ret ?_
                    refine WQ.blockR ?_
                    refine WQ.thenR ?_
                    refine WQ.thenR ?_
                    refine WQ.blockR ?_
                    refine WQ.thenR ?_
                    exact WQ.done (rets1 rfl rfl) ⟨_, rfl, H⟩
                  · have H := H.2 hb114
                    refine WPC.skip ?_
                    refine WQ.blockN ?_
                    refine WQ.next ?_
                    refine WPC.region ?_
                    refine WPL.q tk0 (mv rfl) rfl ?_
                    obtain ⟨n115, hn116, H⟩ := H
                    refine WPL.q tk0 (bAdd rfl rfl hn116) rfl ?_
                    refine WPL.q tk0 (asg rfl) rfl ?_
                    refine WPL.nil ?_
                    obtain ⟨m117, lt118, H⟩ := H
                    exact WQ.again lt118 ⟨_, rfl, H⟩ ⟨rfl, rfl, rfl, rfl, trivial⟩
                · have H := H.2 hb101
                  refine WPC.exit ?_
                  refine WQ.thenX ?_
                  refine WQ.thenX ?_
                  refine WQ.hit ?_
                  refine WQ.next ?_
                  refine WPC.seq ?_
                  refine WPC.region ?_
                  refine WPL.q tk0 (asg rfl) rfl ?_
                  refine WPL.nil ?_
                  refine WQ.next ?_
                  refine WPC.ret ?_
                  exact WQ.done (rets1 rfl rfl) ⟨_, rfl, H⟩
          · refine WPC.region ?_
            refine WPL.q tk0 (mv rfl) rfl ?_
            refine WPL.q tk0 (bEqN pO_31 rfl) rfl ?_
            refine WPL.q tk0 (mv rfl) rfl ?_
            rcases Bool.eq_false_or_eq_true (p44.isNone) with hb120 | hb120
            · have H := H.1 hb120
              refine WPL.skip (ntkb rfl rfl hb120) rfl ?_
              refine WPL.skip (ntkb rfl rfl hb120) rfl ?_
              refine WPL.q tk0 (pkTb rfl hb120 rfl) rfl ?_
              refine WPL.q tk0 (mv rfl) rfl ?_
              refine WPL.skip (ntkb rfl rfl rfl) rfl ?_
              refine WPL.skip (ntkb rfl rfl rfl) rfl ?_
              refine WPL.q tk0 (pkTb rfl rfl rfl) rfl ?_
              refine WPL.q tk0 (mv rfl) rfl ?_
              refine WPL.skip (ntkb rfl rfl rfl) rfl ?_
              refine WPL.skip (ntkb rfl rfl rfl) rfl ?_
              refine WPL.skip (ntkb rfl rfl rfl) rfl ?_
              refine WPL.skip (ntkb rfl rfl rfl) rfl ?_
              refine WPL.q tk0 (pkTb rfl rfl rfl) rfl ?_
              refine WPL.nil ?_
              exact (hj52 _ _ ⟨_, rfl, H⟩).weak ⟨rfl, rfl, rfl, rfl, rfl, rfl, trivial⟩
            · have H := H.2 hb120
              refine WPL.q (tkb rfl rfl hb120) (mv rfl) rfl ?_
              refine WPL.q (tkb rfl rfl hb120) (bNeq rfl rfl) rfl ?_
              refine WPL.q tk0 (pkFb rfl hb120 rfl) rfl ?_
              refine WPL.q tk0 (mv rfl) rfl ?_
              rcases Bool.eq_false_or_eq_true ((n45 != 0)) with hb121 | hb121
              · have H := H.1 hb121
                refine WPL.skip (ntkb rfl rfl hb121) rfl ?_
                refine WPL.skip (ntkb rfl rfl hb121) rfl ?_
                refine WPL.q tk0 (pkTb rfl hb121 rfl) rfl ?_
                refine WPL.q tk0 (mv rfl) rfl ?_
                refine WPL.skip (ntkb rfl rfl rfl) rfl ?_
                refine WPL.skip (ntkb rfl rfl rfl) rfl ?_
                refine WPL.skip (ntkb rfl rfl rfl) rfl ?_
                refine WPL.skip (ntkb rfl rfl rfl) rfl ?_
                refine WPL.q tk0 (pkTb rfl rfl rfl) rfl ?_
                refine WPL.nil ?_
                exact (hj52 _ _ ⟨_, rfl, H⟩).weak ⟨rfl, rfl, rfl, rfl, rfl, rfl, trivial⟩
              · have H := H.2 hb121
                refine WPL.q (tkb rfl rfl hb121) (mv rfl) rfl ?_
                refine WPL.q (tkb rfl rfl hb121) (bNeq rfl rfl) rfl ?_
                refine WPL.q tk0 (pkFb rfl hb121 rfl) rfl ?_
                refine WPL.q tk0 (mv rfl) rfl ?_
                rcases Bool.eq_false_or_eq_true ((n48 != 0)) with hb122 | hb122
                · have H := H.1 hb122
                  refine WPL.skip (ntkb rfl rfl hb122) rfl ?_
                  refine WPL.skip (ntkb rfl rfl hb122) rfl ?_
                  refine WPL.skip (ntkb rfl rfl hb122) rfl ?_
                  refine WPL.skip (ntkb rfl rfl hb122) rfl ?_
                  refine WPL.q tk0 (pkTb rfl hb122 rfl) rfl ?_
                  refine WPL.nil ?_
                  exact (hj52 _ _ ⟨_, rfl, H⟩).weak ⟨rfl, rfl, rfl, rfl, rfl, rfl, trivial⟩
                · have H := H.2 hb122
                  refine WPL.q (tkb rfl rfl hb122) (mv rfl) rfl ?_
                  have HC := disk_Disk_Sectors_ok (W := W) H
                  refine WPL.eff (tkb rfl rfl hb122) (cl cO_44 rfl HC) rfl ?_
                  rintro _ h124 ⟨n123, rfl, H⟩
                  refine WPL.q (tkb rfl rfl hb122) (mv rfl) rfl ?_
                  refine WPL.q (tkb rfl rfl hb122) (bNeq rfl rfl) rfl ?_
                  refine WPL.q tk0 (pkFb rfl hb122 rfl) rfl ?_
                  refine WPL.nil ?_
                  exact (hj52 _ _ ⟨_, rfl, H⟩).weak ⟨rfl, rfl, rfl, rfl, rfl, rfl, trivial⟩
  · refine WPC.region ?_
    refine WPL.q tk0 (mv rfl) rfl ?_
    refine WPL.q tk0 (uNot rfl) rfl ?_
    refine WPL.q tk0 (mv rfl) rfl ?_
    rcases Bool.eq_false_or_eq_true ((!b5)) with hb125 | hb125
    · have H := H.1 hb125
      refine WPL.skip (ntkb rfl rfl hb125) rfl ?_
      refine WPL.skip (ntkb rfl rfl hb125) rfl ?_
      refine WPL.q tk0 (pkTb rfl hb125 rfl) rfl ?_
      refine WPL.nil ?_
      exact (hj10 _ _ ⟨_, rfl, H⟩).weak ⟨rfl, rfl, rfl, rfl, rfl, rfl, trivial⟩
    · have H := H.2 hb125
      refine WPL.q (tkb rfl rfl hb125) (mv rfl) rfl ?_
      refine WPL.q (tkb rfl rfl hb125) (uNot rfl) rfl ?_
      refine WPL.q tk0 (pkFb rfl hb125 rfl) rfl ?_
      refine WPL.nil ?_
      exact (hj10 _ _ ⟨_, rfl, H⟩).weak ⟨rfl, rfl, rfl, rfl, rfl, rfl, trivial⟩

end Go.Proofs.Ythpeadoidpimmaa
