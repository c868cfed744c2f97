/- What each Go function of this group asks ahead of a call (printed by gen.py), and that this is enough. -/
import Derived.Test.YthpeadoidpimmaaGDisk
import Derived.Test.YthpeadoidpimmaaGLawA
namespace Go.Proofs.Ythpeadoidpimmaa
open Go Tw
set_option linter.unusedVariables false
set_option maxRecDepth 10000
set_option maxHeartbeats 4000000

/-- trellis/trellislaw2.DiskFuse -/
def law2_DiskFuse (n1 : Int) (after2 : Int) (ops3 : Sl) (K : Bool → Hp → Prop) (h : Hp) : Prop :=
  law2_sizes n1 (fun p4 b5 b6 h7 => ∃ k9 : Bool → Hp → Prop, (∀ (b8 : Bool) (h12 : Hp), k9 b8 h12 → ((b8 = true → (K b5 h12)) ∧ (b8 = false → (((decide (after2 < 0)) = true → (disk_Disk_Cut p4 after2 (fun n16 h17 => K (n16 == 1) h17) h12)) ∧ ((decide (after2 < 0)) = false → (disk_Disk_Cut p4 after2 (fun n18 h19 => ((n18 != 0) = true → (K false h19)) ∧ ((n18 != 0) = false → (∃ I23 : Nat → Int → Int → Hp → Prop, (∃ m27, I23 m27 0 0 h19) ∧ ∀ (m24 : Nat) (done21 : Int) (turn22 : Int) (h25 : Hp), I23 m24 done21 turn22 h25 → (((decide (turn22 < 2)) = true → (∃ I32 : Nat → Int → Int → Hp → Prop, (∃ m36, I32 m36 done21 0 h25) ∧ ∀ (m33 : Nat) (done30 : Int) (i31 : Int) (h34 : Hp), I32 m33 done30 i31 h34 → (((decide (i31 < (ops3.len : Int))) = true → (∃ k40 : Int → Hp → Prop, (∀ (done39 : Int) (h43 : Hp), k40 done39 h43 → (∃ n45 : Int, Wr .i64 (i31 + 1) n45 ∧ ∃ m47, m47 < m33 ∧ I32 m47 done39 n45 h43)) ∧ (∃ a50 : Addr, ops3.p = some a50 ∧ 0 ≤ i31 ∧ i31 < (ops3.len : Int) ∧ ∃ n55 : Int, rdc h34 (a50.add (Int.toNat i31 * 1)) = some (.int .i64 n55) ∧ ∃ k57 : Bool → Hp → Prop, (∀ (b56 : Bool) (h60 : Hp), k57 b56 h60 → ((b56 = true → (k40 done30 h60)) ∧ (b56 = false → (∃ k64 : Bool → Hp → Prop, (∀ (b63 : Bool) (h67 : Hp), k64 b63 h67 → (∃ k70 : Int → Hp → Prop, (∀ (want69 : Int) (h73 : Hp), k70 want69 h73 → (∃ k76 : Int → Hp → Prop, (∀ (e75 : Int) (h79 : Hp), k76 e75 h79 → (((e75 != want69) = true → (K false h79)) ∧ ((e75 != want69) = false → (((e75 == 0) = true → (∃ n83 : Int, Wr .i64 (done30 + 1) n83 ∧ k40 n83 h79)) ∧ ((e75 == 0) = false → (disk_Disk_Read p4 0 (fun s85 n86 h87 => ((n86 != 2) = true → (K false h87)) ∧ ((n86 != 2) = false → (disk_Disk_Cut p4 9 (fun n89 h90 => ((n89 != 2) = true → (K false h90)) ∧ ((n89 != 2) = false → (disk_Disk_Stat p4 (fun n92 n93 n94 b95 h96 => ((!b95) = true → (K false h96)) ∧ ((!b95) = false → (k40 done30 h96))) h90))) h87))) h79)))))) ∧ (((n55 == (-1)) = true → (disk_Disk_Flush p4 (fun n99 h100 => k76 n99 h100) h73)) ∧ ((n55 == (-1)) = false → (∃ n101 : Int, Wr .u8 i31 n101 ∧ law2_filled n101 (fun s103 h104 => disk_Disk_Write p4 n55 s103 (fun n105 h106 => k76 n105 h106) h104) h73))))) ∧ ((b63 = true → (k70 2 h67)) ∧ (b63 = false → (k70 0 h67))))) ∧ (((turn22 == 0) = true → (k64 (decide (done30 ≥ after2)) h60)) ∧ ((turn22 == 0) = false → (k64 false h60))))))) ∧ (((decide (n55 < (-1))) = true → (k57 true h34)) ∧ ((decide (n55 < (-1))) = false → (k57 (decide (n55 ≥ n1)) h34)))))) ∧ ((decide (i31 < (ops3.len : Int))) = false → (disk_Disk_Stat p4 (fun n110 n111 n112 b113 h114 => ∃ (b115 : Nat) (h116 : Hp), b115 = h114.size ∧ h116 = h114.push (Cel [.int .i64 0, .int .i64 0, .int .i64 0, .bool false] 51) ∧ ∃ h119 : Hp, StL h116 (nA b115) [.int .i64 n110, .int .i64 n111, .int .i64 n112, .bool b113] h119 ∧ ∃ n122 : Int, rdc h119 ((nA b115).add 0) = some (.int .i64 n122) ∧ ∃ n124 : Int, rdc h119 ((nA b115).add 1) = some (.int .i64 n124) ∧ ∃ n125 : Int, Wr .i64 (n122 + n124) n125 ∧ ((n125 != done30) = true → (K false h119)) ∧ ((n125 != done30) = false → (disk_Disk_Crash p4 Sl.nil (fun n128 n129 h130 => ∃ k132 : Bool → Hp → Prop, (∀ (b131 : Bool) (h135 : Hp), k132 b131 h135 → ((b131 = true → (K false h135)) ∧ (b131 = false → (∃ n138 : Int, Wr .i64 (turn22 + 1) n138 ∧ ∃ m140, m140 < m24 ∧ I23 m140 done30 n138 h135)))) ∧ (((n129 != 0) = true → (k132 true h130)) ∧ ((n129 != 0) = false → (disk_Disk_Stat p4 (fun n144 n145 n146 b147 h148 => k132 b147 h148) h130)))) h119))) h34))))) ∧ ((decide (turn22 < 2)) = false → (K true h25)))))) h12)))))) ∧ (((!b5) = true → (k9 true h7)) ∧ ((!b5) = false → (k9 (!b6) h7)))) h

theorem law2_DiskFuse_ok {W : World} {h : Hp} {n1 : Int} {after2 : Int} {ops3 : Sl} {K : Bool → Hp → Prop} (H : law2_DiskFuse n1 after2 ops3 K h) :
    CallsH Try.prog 6 (List.toArray [.int .i64 n1, .int .i64 after2, ops3.v]) W h (fun v h' => ∃ (b1 : Bool), v = .bool b1 ∧ K b1 h') := by
  unfold law2_DiskFuse at H
  refine CallsH.intro (fn := Try.f6) (N := 128) (e := aE 0 [.int .i64 n1, .int .i64 after2, ops3.v]) Try.func6 rfl rfl (aE_spec _) rfl ?_
  refine WPC.seq ?_
  refine WPC.region ?_
  refine WPL.q tk0 (asg rfl) rfl ?_
  refine WPL.nil ?_
  refine WQ.next ?_
  refine WPC.seq ?_
  refine WPC.region ?_
  refine WPL.q tk0 (mv rfl) rfl ?_
  have HC := law2_sizes_ok (W := W) H
  refine WPL.eff tk0 (cl cO_30 rfl HC) rfl ?_
  rintro _ h7 ⟨p4, b5, b6, rfl, H⟩
  refine WPL.q tk0 (mv rfl) rfl ?_
  refine WPL.q tk0 (ext rfl rfl) rfl ?_
  refine WPL.q tk0 (ext rfl rfl) rfl ?_
  refine WPL.q tk0 (ext rfl rfl) rfl ?_
  refine WPL.q tk0 (asg rfl) rfl ?_
  refine WPL.q tk0 (asg rfl) rfl ?_
  refine WPL.q tk0 (asg rfl) rfl ?_
  refine WPL.nil ?_
  refine WQ.next ?_
  refine WPC.seq ?_
  refine WPC.seq ?_
  obtain ⟨k9, hk11, H⟩ := H
  refine WPC.join (fun e h => ∃ (b8 : Bool), e = [(0, .int .i64 n1), (1, .int .i64 after2), (2, ops3.v), (7, .pointer p4), (8, .bool b5), (32, .bool b8)] ∧ k9 b8 h) ?_ (fun hj10 => ?_)
  · rintro _ h12 ⟨b8, rfl, HK13⟩
    have H := hk11 b8 h12 HK13
    refine WQ.next ?_
    refine WPC.cond rfl (fun hb14 => ?_) (fun hb14 => ?_)
    · have H := H.1 hb14
      refine WPC.seq ?_
      refine WPC.region ?_
      refine WPL.q tk0 (mv rfl) rfl ?_
      refine WPL.q tk0 (asg rfl) rfl ?_
      refine WPL.nil ?_
      refine WQ.next ?_
      refine WPC.ret ?_
      refine WQ.thenR ?_
      exact WQ.done (rets1 rfl rfl) ⟨_, rfl, H⟩
    · have H := H.2 hb14
      refine WPC.skip ?_
      refine WQ.next ?_
      refine WPC.seq ?_
      refine WPC.seq ?_
      refine WPC.region ?_
      refine WPL.q tk0 (mv rfl) rfl ?_
      refine WPL.q tk0 (bLss rfl rfl) rfl ?_
      refine WPL.nil ?_
      refine WQ.next ?_
      refine WPC.cond rfl (fun hb15 => ?_) (fun hb15 => ?_)
      · have H := H.1 hb15
        refine WPC.seq ?_
        refine WPC.region ?_
        refine WPL.q tk0 (mv rfl) rfl ?_
        refine WPL.q tk0 (mv rfl) rfl ?_
        have HC := disk_Disk_Cut_ok (W := W) H
        refine WPL.eff tk0 (cl cO_34 rfl HC) rfl ?_
        rintro _ h17 ⟨n16, rfl, H⟩
        refine WPL.q tk0 (bEql rfl rfl) rfl ?_
        refine WPL.q tk0 (asg rfl) rfl ?_
        refine WPL.nil ?_
        refine WQ.next ?_
        refine WPC.ret ?_
        refine WQ.thenR ?_
        exact WQ.done (rets1 rfl rfl) ⟨_, rfl, H⟩
      · have H := H.2 hb15
        refine WPC.skip ?_
        refine WQ.next ?_
        refine WPC.seq ?_
        refine WPC.seq ?_
        refine WPC.region ?_
        refine WPL.q tk0 (mv rfl) rfl ?_
        refine WPL.q tk0 (mv rfl) rfl ?_
        have HC := disk_Disk_Cut_ok (W := W) H
        refine WPL.eff tk0 (cl cO_34 rfl HC) rfl ?_
        rintro _ h19 ⟨n18, rfl, H⟩
        refine WPL.q tk0 (bNeq rfl rfl) rfl ?_
        refine WPL.nil ?_
        refine WQ.next ?_
        refine WPC.cond rfl (fun hb20 => ?_) (fun hb20 => ?_)
        · have H := H.1 hb20
          refine WPC.seq ?_
          refine WPC.region ?_
          refine WPL.q tk0 (asg rfl) rfl ?_
          refine WPL.nil ?_
          refine WQ.next ?_
          refine WPC.ret ?_
          refine WQ.thenR ?_
          exact WQ.done (rets1 rfl rfl) ⟨_, rfl, H⟩
        · have H := H.2 hb20
          refine WPC.skip ?_
          refine WQ.next ?_
          refine WPC.seq ?_
          refine WPC.region ?_
          refine WPL.q tk0 (asg rfl) rfl ?_
          refine WPL.nil ?_
          refine WQ.next ?_
          refine WPC.seq ?_
          refine WPC.seq ?_
          refine WPC.region ?_
          refine WPL.q tk0 (asg rfl) rfl ?_
          refine WPL.nil ?_
          refine WQ.next ?_
          refine WPC.block ?_
          obtain ⟨I23, ⟨m27, HI28⟩, H⟩ := H
          refine WPC.weak (e' := [(0, .int .i64 n1), (1, .int .i64 after2), (2, ops3.v), (7, .pointer p4), (10, .int .i64 0), (11, .int .i64 0)]) ?_ ⟨rfl, rfl, rfl, rfl, rfl, rfl, trivial⟩
          refine WPC.loop (fun m e h => ∃ (done21 : Int), ∃ (turn22 : Int), e = [(0, .int .i64 n1), (1, .int .i64 after2), (2, ops3.v), (7, .pointer p4), (10, .int .i64 done21), (11, .int .i64 turn22)] ∧ I23 m done21 turn22 h) ⟨m27, _, _, rfl, HI28⟩ ?_
          rintro m24 _ h25 ⟨done21, turn22, rfl, HI26⟩
          have H := H m24 done21 turn22 h25 HI26
          refine WPC.seq ?_
          refine WPC.seq ?_
          refine WPC.region ?_
          refine WPL.q tk0 (mv rfl) rfl ?_
          refine WPL.q tk0 (bLss rfl rfl) rfl ?_
          refine WPL.nil ?_
          refine WQ.next ?_
          refine WPC.cond rfl (fun hb29 => ?_) (fun hb29 => ?_)
          · have H := H.1 hb29
            refine WPC.skip ?_
            refine WQ.next ?_
            refine WPC.seq ?_
            refine WPC.block ?_
            refine WPC.seq ?_
            refine WPC.seq ?_
            refine WPC.region ?_
            refine WPL.q tk0 (asg rfl) rfl ?_
            refine WPL.nil ?_
            refine WQ.next ?_
            refine WPC.block ?_
            obtain ⟨I32, ⟨m36, HI37⟩, H⟩ := H
            refine WPC.weak (e' := [(0, .int .i64 n1), (1, .int .i64 after2), (2, ops3.v), (7, .pointer p4), (10, .int .i64 done21), (11, .int .i64 turn22), (12, .int .i64 0)]) ?_ ⟨rfl, rfl, rfl, rfl, rfl, rfl, rfl, trivial⟩
            refine WPC.loop (fun m e h => ∃ (done30 : Int), ∃ (i31 : Int), e = [(0, .int .i64 n1), (1, .int .i64 after2), (2, ops3.v), (7, .pointer p4), (10, .int .i64 done30), (11, .int .i64 turn22), (12, .int .i64 i31)] ∧ I32 m done30 i31 h) ⟨m36, _, _, rfl, HI37⟩ ?_
            rintro m33 _ h34 ⟨done30, i31, rfl, HI35⟩
            have H := H m33 done30 i31 h34 HI35
            refine WPC.seq ?_
            refine WPC.seq ?_
            refine WPC.region ?_
            refine WPL.q tk0 (mv rfl) rfl ?_
            refine WPL.q tk0 (mv rfl) rfl ?_
            refine WPL.q tk0 (lnb sO_42 rfl) rfl ?_
            refine WPL.q tk0 (bLss rfl rfl) rfl ?_
            refine WPL.nil ?_
            refine WQ.next ?_
            refine WPC.cond rfl (fun hb38 => ?_) (fun hb38 => ?_)
            · have H := H.1 hb38
              refine WPC.skip ?_
              refine WQ.next ?_
              refine WPC.seq ?_
              obtain ⟨k40, hk42, H⟩ := H
              refine WPC.join (fun e h => ∃ (done39 : Int), e = [(0, .int .i64 n1), (1, .int .i64 after2), (2, ops3.v), (7, .pointer p4), (10, .int .i64 done39), (11, .int .i64 turn22), (12, .int .i64 i31)] ∧ k40 done39 h) ?_ (fun hj41 => ?_)
              · rintro _ h43 ⟨done39, rfl, HK44⟩
                have H := hk42 done39 h43 HK44
                refine WQ.next ?_
                refine WPC.region ?_
                refine WPL.q tk0 (mv rfl) rfl ?_
                obtain ⟨n45, hn46, H⟩ := H
                refine WPL.q tk0 (bAdd rfl rfl hn46) rfl ?_
                refine WPL.q tk0 (asg rfl) rfl ?_
                refine WPL.nil ?_
                obtain ⟨m47, lt48, H⟩ := H
                exact WQ.again lt48 ⟨_, _, rfl, H⟩ ⟨rfl, rfl, rfl, rfl, rfl, rfl, rfl, trivial⟩
              · refine WPC.block ?_
                refine WPC.seq ?_
                refine WPC.region ?_
                refine WPL.q tk0 (mv rfl) rfl ?_
                refine WPL.q tk0 (mv rfl) rfl ?_
                obtain ⟨a50, ha51, H⟩ := H
                obtain ⟨h52, h53, H⟩ := H
                refine WPL.q tk0 (ixSb sO_42 rfl rfl ha51 h52 h53) rfl ?_
                obtain ⟨n55, hv54, H⟩ := H
                refine WPL.q tk0 (ld kO_3 rfl hv54) rfl ?_
                refine WPL.q tk0 (asg rfl) rfl ?_
                refine WPL.nil ?_
                refine WQ.next ?_
                refine WPC.seq ?_
                refine WPC.seq ?_
                obtain ⟨k57, hk59, H⟩ := H
                refine WPC.join (fun e h => ∃ (b56 : Bool), e = [(0, .int .i64 n1), (1, .int .i64 after2), (2, ops3.v), (7, .pointer p4), (10, .int .i64 done30), (11, .int .i64 turn22), (12, .int .i64 i31), (13, .int .i64 n55), (64, .bool b56)] ∧ k57 b56 h) ?_ (fun hj58 => ?_)
                · rintro _ h60 ⟨b56, rfl, HK61⟩
                  have H := hk59 b56 h60 HK61
                  refine WQ.next ?_
                  refine WPC.cond rfl (fun hb62 => ?_) (fun hb62 => ?_)
                  · have H := H.1 hb62
                    refine WPC.exit ?_
                    refine WQ.thenX ?_
                    refine WQ.hit ?_
                    exact (hj41 _ _ ⟨_, rfl, H⟩).weak ⟨rfl, rfl, rfl, rfl, rfl, rfl, rfl, trivial⟩
                  · have H := H.2 hb62
                    refine WPC.skip ?_
                    refine WQ.next ?_
                    refine WPC.seq ?_
                    refine WPC.region ?_
                    refine WPL.q tk0 (asg rfl) rfl ?_
                    refine WPL.nil ?_
                    refine WQ.next ?_
                    refine WPC.seq ?_
                    refine WPC.seq ?_
                    obtain ⟨k64, hk66, H⟩ := H
                    refine WPC.join (fun e h => ∃ (b63 : Bool), e = [(0, .int .i64 n1), (1, .int .i64 after2), (2, ops3.v), (7, .pointer p4), (10, .int .i64 done30), (11, .int .i64 turn22), (12, .int .i64 i31), (13, .int .i64 n55), (14, .int .i64 0), (71, .bool b63)] ∧ k64 b63 h) ?_ (fun hj65 => ?_)
                    · rintro _ h67 ⟨b63, rfl, HK68⟩
                      have H := hk66 b63 h67 HK68
                      refine WQ.next ?_
                      obtain ⟨k70, hk72, H⟩ := H
                      refine WPC.join (fun e h => ∃ (want69 : Int), e = [(0, .int .i64 n1), (1, .int .i64 after2), (2, ops3.v), (7, .pointer p4), (10, .int .i64 done30), (11, .int .i64 turn22), (12, .int .i64 i31), (13, .int .i64 n55), (14, .int .i64 want69)] ∧ k70 want69 h) ?_ (fun hj71 => ?_)
                      · rintro _ h73 ⟨want69, rfl, HK74⟩
                        have H := hk72 want69 h73 HK74
                        refine WQ.next ?_
                        refine WPC.seq ?_
                        refine WPC.region ?_
                        refine WPL.q tk0 (asg rfl) rfl ?_
                        refine WPL.nil ?_
                        refine WQ.next ?_
                        refine WPC.seq ?_
                        refine WPC.seq ?_
                        refine WPC.region ?_
                        refine WPL.q tk0 (mv rfl) rfl ?_
                        refine WPL.q tk0 (bEql rfl rfl) rfl ?_
                        refine WPL.nil ?_
                        refine WQ.next ?_
                        obtain ⟨k76, hk78, H⟩ := H
                        refine WPC.join (fun e h => ∃ (e75 : Int), e = [(0, .int .i64 n1), (1, .int .i64 after2), (2, ops3.v), (7, .pointer p4), (10, .int .i64 done30), (11, .int .i64 turn22), (12, .int .i64 i31), (14, .int .i64 want69), (15, .int .i64 e75)] ∧ k76 e75 h) ?_ (fun hj77 => ?_)
                        · rintro _ h79 ⟨e75, rfl, HK80⟩
                          have H := hk78 e75 h79 HK80
                          refine WQ.next ?_
                          refine WPC.seq ?_
                          refine WPC.seq ?_
                          refine WPC.region ?_
                          refine WPL.q tk0 (mv rfl) rfl ?_
                          refine WPL.q tk0 (mv rfl) rfl ?_
                          refine WPL.q tk0 (bNeq rfl rfl) rfl ?_
                          refine WPL.nil ?_
                          refine WQ.next ?_
                          refine WPC.cond rfl (fun hb81 => ?_) (fun hb81 => ?_)
                          · have H := H.1 hb81
                            refine WPC.seq ?_
                            refine WPC.region ?_
                            refine WPL.q tk0 (asg rfl) rfl ?_
                            refine WPL.nil ?_
                            refine WQ.next ?_
                            refine WPC.ret ?_
                            refine WQ.thenR ?_
                            refine WQ.blockR ?_
                            refine WQ.thenR ?_
                            refine WQ.thenR ?_
                            refine WQ.blockR ?_
                            refine WQ.thenR ?_
                            refine WQ.blockR ?_
                            refine WQ.thenR ?_
                            refine WQ.thenR ?_
                            refine WQ.blockR ?_
                            refine WQ.thenR ?_
                            exact WQ.done (rets1 rfl rfl) ⟨_, rfl, H⟩
                          · have H := H.2 hb81
                            refine WPC.skip ?_
                            refine WQ.next ?_
                            refine WPC.seq ?_
                            refine WPC.region ?_
                            refine WPL.q tk0 (mv rfl) rfl ?_
                            refine WPL.q tk0 (bEql rfl rfl) rfl ?_
                            refine WPL.nil ?_
                            refine WQ.next ?_
                            refine WPC.cond rfl (fun hb82 => ?_) (fun hb82 => ?_)
                            · have H := H.1 hb82
                              refine WPC.region ?_
                              refine WPL.q tk0 (mv rfl) rfl ?_
                              obtain ⟨n83, hn84, H⟩ := H
                              refine WPL.q tk0 (bAdd rfl rfl hn84) rfl ?_
                              refine WPL.q tk0 (asg rfl) rfl ?_
                              refine WPL.nil ?_
                              refine WQ.blockN ?_
                              exact (hj41 _ _ ⟨_, rfl, H⟩).weak ⟨rfl, rfl, rfl, rfl, rfl, rfl, rfl, trivial⟩
                            · have H := H.2 hb82
                              refine WPC.seq ?_
                              refine WPC.region ?_
                              refine WPL.q tk0 (mv rfl) rfl ?_
                              have HC := disk_Disk_Read_ok (W := W) H
                              refine WPL.eff tk0 (cl cO_38 rfl HC) rfl ?_
                              rintro _ h87 ⟨s85, n86, rfl, H⟩
                              refine WPL.q tk0 (mv rfl) rfl ?_
                              refine WPL.q tk0 (ext rfl rfl) rfl ?_
                              refine WPL.q tk0 (ext rfl rfl) rfl ?_
                              refine WPL.q tk0 (asg rfl) rfl ?_
                              refine WPL.q tk0 (asg rfl) rfl ?_
                              refine WPL.nil ?_
                              refine WQ.next ?_
                              refine WPC.seq ?_
                              refine WPC.region ?_
                              refine WPL.q tk0 (mv rfl) rfl ?_
                              refine WPL.q tk0 (bNeq rfl rfl) rfl ?_
                              refine WPL.q tk0 (mv rfl) rfl ?_
                              rcases Bool.eq_false_or_eq_true ((n86 != 2)) with hb88 | hb88
                              · have H := H.1 hb88
                                refine WPL.skip (ntkb rfl rfl hb88) rfl ?_
                                refine WPL.skip (ntkb rfl rfl hb88) rfl ?_
                                refine WPL.skip (ntkb rfl rfl hb88) rfl ?_
                                refine WPL.q tk0 (pkTb rfl hb88 rfl) rfl ?_
                                refine WPL.q tk0 (mv rfl) rfl ?_
                                refine WPL.skip (ntkb rfl rfl rfl) rfl ?_
                                refine WPL.skip (ntkb rfl rfl rfl) rfl ?_
                                refine WPL.skip (ntkb rfl rfl rfl) rfl ?_
                                refine WPL.skip (ntkb rfl rfl rfl) rfl ?_
                                refine WPL.q tk0 (pkTb rfl rfl rfl) rfl ?_
                                refine WPL.nil ?_
                                refine WQ.next ?_
                                refine WPC.cond rfl (fun _ => ?_) (fun hx => absurd (hx.symm.trans rfl) (by decide))
                                refine WPC.seq ?_
                                refine WPC.region ?_
                                refine WPL.q tk0 (asg rfl) rfl ?_
                                refine WPL.nil ?_
                                refine WQ.next ?_
                                refine WPC.ret ?_
                                refine WQ.blockR ?_
                                refine WQ.thenR ?_
                                refine WQ.thenR ?_
                                refine WQ.blockR ?_
                                refine WQ.thenR ?_
                                refine WQ.blockR ?_
                                refine WQ.thenR ?_
                                refine WQ.thenR ?_
                                refine WQ.blockR ?_
                                refine WQ.thenR ?_
                                exact WQ.done (rets1 rfl rfl) ⟨_, rfl, H⟩
                              · have H := H.2 hb88
                                refine WPL.q (tkb rfl rfl hb88) (mv rfl) rfl ?_
                                have HC := disk_Disk_Cut_ok (W := W) H
                                refine WPL.eff (tkb rfl rfl hb88) (cl cO_34 rfl HC) rfl ?_
                                rintro _ h90 ⟨n89, rfl, H⟩
                                refine WPL.q (tkb rfl rfl hb88) (bNeq rfl rfl) rfl ?_
                                refine WPL.q tk0 (pkFb rfl hb88 rfl) rfl ?_
                                refine WPL.q tk0 (mv rfl) rfl ?_
                                rcases Bool.eq_false_or_eq_true ((n89 != 2)) with hb91 | hb91
                                · have H := H.1 hb91
                                  refine WPL.skip (ntkb rfl rfl hb91) rfl ?_
                                  refine WPL.skip (ntkb rfl rfl hb91) rfl ?_
                                  refine WPL.skip (ntkb rfl rfl hb91) rfl ?_
                                  refine WPL.skip (ntkb rfl rfl hb91) rfl ?_
                                  refine WPL.q tk0 (pkTb rfl hb91 rfl) rfl ?_
                                  refine WPL.nil ?_
                                  refine WQ.next ?_
                                  refine WPC.cond rfl (fun _ => ?_) (fun hx => absurd (hx.symm.trans rfl) (by decide))
                                  refine WPC.seq ?_
                                  refine WPC.region ?_
                                  refine WPL.q tk0 (asg rfl) rfl ?_
                                  refine WPL.nil ?_
                                  refine WQ.next ?_
                                  refine WPC.ret ?_
                                  refine WQ.blockR ?_
                                  refine WQ.thenR ?_
                                  refine WQ.thenR ?_
                                  refine WQ.blockR ?_
                                  refine WQ.thenR ?_
                                  refine WQ.blockR ?_
                                  refine WQ.thenR ?_
                                  refine WQ.thenR ?_
                                  refine WQ.blockR ?_
                                  refine WQ.thenR ?_
                                  exact WQ.done (rets1 rfl rfl) ⟨_, rfl, H⟩
                                · have H := H.2 hb91
                                  refine WPL.q (tkb rfl rfl hb91) (mv rfl) rfl ?_
                                  have HC := disk_Disk_Stat_ok (W := W) H
                                  refine WPL.eff (tkb rfl rfl hb91) (cl cO_39 rfl HC) rfl ?_
                                  rintro _ h96 ⟨n92, n93, n94, b95, rfl, H⟩
                                  refine WPL.q (tkb rfl rfl hb91) (fd fK_51_3 rfl rfl) rfl ?_
                                  refine WPL.q (tkb rfl rfl hb91) (uNot rfl) rfl ?_
                                  refine WPL.q tk0 (pkFb rfl hb91 rfl) rfl ?_
                                  refine WPL.nil ?_
                                  refine WQ.next ?_
                                  refine WPC.cond rfl (fun hb97 => ?_) (fun hb97 => ?_)
                                  · have H := H.1 hb97
                                    refine WPC.seq ?_
                                    refine WPC.region ?_
                                    refine WPL.q tk0 (asg rfl) rfl ?_
                                    refine WPL.nil ?_
                                    refine WQ.next ?_
                                    refine WPC.ret ?_
                                    refine WQ.blockR ?_
                                    refine WQ.thenR ?_
                                    refine WQ.thenR ?_
                                    refine WQ.blockR ?_
                                    refine WQ.thenR ?_
                                    refine WQ.blockR ?_
                                    refine WQ.thenR ?_
                                    refine WQ.thenR ?_
                                    refine WQ.blockR ?_
                                    refine WQ.thenR ?_
                                    exact WQ.done (rets1 rfl rfl) ⟨_, rfl, H⟩
                                  · have H := H.2 hb97
                                    refine WPC.skip ?_
                                    refine WQ.blockN ?_
                                    exact (hj41 _ _ ⟨_, rfl, H⟩).weak ⟨rfl, rfl, rfl, rfl, rfl, rfl, rfl, trivial⟩
                        · refine WPC.cond rfl (fun hb98 => ?_) (fun hb98 => ?_)
                          · have H := H.1 hb98
                            refine WPC.region ?_
                            refine WPL.q tk0 (mv rfl) rfl ?_
                            have HC := disk_Disk_Flush_ok (W := W) H
                            refine WPL.eff tk0 (cl cO_35 rfl HC) rfl ?_
                            rintro _ h100 ⟨n99, rfl, H⟩
                            refine WPL.q tk0 (asg rfl) rfl ?_
                            refine WPL.nil ?_
                            exact (hj77 _ _ ⟨_, rfl, H⟩).weak ⟨rfl, rfl, rfl, rfl, rfl, rfl, rfl, rfl, rfl, trivial⟩
                          · have H := H.2 hb98
                            refine WPC.region ?_
                            refine WPL.q tk0 (mv rfl) rfl ?_
                            refine WPL.q tk0 (mv rfl) rfl ?_
                            refine WPL.q tk0 (mv rfl) rfl ?_
                            obtain ⟨n101, hn102, H⟩ := H
                            refine WPL.q tk0 (cvI (uI iO_3) iO_5 rfl hn102) rfl ?_
                            have HC := law2_filled_ok (W := W) H
                            refine WPL.eff tk0 (cl cO_37 rfl HC) rfl ?_
                            rintro _ h104 ⟨s103, rfl, H⟩
                            have HC := disk_Disk_Write_ok (W := W) H
                            refine WPL.eff tk0 (cl cO_36 rfl HC) rfl ?_
                            rintro _ h106 ⟨n105, rfl, H⟩
                            refine WPL.q tk0 (asg rfl) rfl ?_
                            refine WPL.nil ?_
                            exact (hj77 _ _ ⟨_, rfl, H⟩).weak ⟨rfl, rfl, rfl, rfl, rfl, rfl, rfl, rfl, rfl, trivial⟩
                      · refine WPC.cond rfl (fun hb107 => ?_) (fun hb107 => ?_)
                        · have H := H.1 hb107
                          refine WPC.region ?_
                          refine WPL.q tk0 (asg rfl) rfl ?_
                          refine WPL.nil ?_
                          exact (hj71 _ _ ⟨_, rfl, H⟩).weak ⟨rfl, rfl, rfl, rfl, rfl, rfl, rfl, rfl, rfl, trivial⟩
                        · have H := H.2 hb107
                          refine WPC.skip ?_
                          exact (hj71 _ _ ⟨_, rfl, H⟩).weak ⟨rfl, rfl, rfl, rfl, rfl, rfl, rfl, rfl, rfl, trivial⟩
                    · refine WPC.region ?_
                      refine WPL.q tk0 (mv rfl) rfl ?_
                      refine WPL.q tk0 (bEql rfl rfl) rfl ?_
                      refine WPL.q tk0 (mv rfl) rfl ?_
                      rcases Bool.eq_false_or_eq_true ((turn22 == 0)) with hb108 | hb108
                      · have H := H.1 hb108
                        refine WPL.q (tkb rfl rfl hb108) (mv rfl) rfl ?_
                        refine WPL.q (tkb rfl rfl hb108) (mv rfl) rfl ?_
                        refine WPL.q (tkb rfl rfl hb108) (bGeq rfl rfl) rfl ?_
                        refine WPL.q tk0 (pkTb rfl hb108 rfl) rfl ?_
                        refine WPL.nil ?_
                        exact (hj65 _ _ ⟨_, rfl, H⟩).weak ⟨rfl, rfl, rfl, rfl, rfl, rfl, rfl, rfl, rfl, rfl, trivial⟩
                      · have H := H.2 hb108
                        refine WPL.skip (ntkb rfl rfl hb108) rfl ?_
                        refine WPL.skip (ntkb rfl rfl hb108) rfl ?_
                        refine WPL.skip (ntkb rfl rfl hb108) rfl ?_
                        refine WPL.q tk0 (pkFb rfl hb108 rfl) rfl ?_
                        refine WPL.nil ?_
                        exact (hj65 _ _ ⟨_, rfl, H⟩).weak ⟨rfl, rfl, rfl, rfl, rfl, rfl, rfl, rfl, rfl, rfl, trivial⟩
                · refine WPC.region ?_
                  refine WPL.q tk0 (mv rfl) rfl ?_
                  refine WPL.q tk0 (bLss rfl rfl) rfl ?_
                  refine WPL.q tk0 (mv rfl) rfl ?_
                  rcases Bool.eq_false_or_eq_true ((decide (n55 < (-1)))) with hb109 | hb109
                  · have H := H.1 hb109
                    refine WPL.skip (ntkb rfl rfl hb109) rfl ?_
                    refine WPL.skip (ntkb rfl rfl hb109) rfl ?_
                    refine WPL.skip (ntkb rfl rfl hb109) rfl ?_
                    refine WPL.q tk0 (pkTb rfl hb109 rfl) rfl ?_
                    refine WPL.nil ?_
                    exact (hj58 _ _ ⟨_, rfl, H⟩).weak ⟨rfl, rfl, rfl, rfl, rfl, rfl, rfl, rfl, rfl, trivial⟩
                  · have H := H.2 hb109
                    refine WPL.q (tkb rfl rfl hb109) (mv rfl) rfl ?_
                    refine WPL.q (tkb rfl rfl hb109) (mv rfl) rfl ?_
                    refine WPL.q (tkb rfl rfl hb109) (bGeq rfl rfl) rfl ?_
                    refine WPL.q tk0 (pkFb rfl hb109 rfl) rfl ?_
                    refine WPL.nil ?_
                    exact (hj58 _ _ ⟨_, rfl, H⟩).weak ⟨rfl, rfl, rfl, rfl, rfl, rfl, rfl, rfl, rfl, trivial⟩
            · have H := H.2 hb38
              refine WPC.exit ?_
              refine WQ.thenX ?_
              refine WQ.thenX ?_
              refine WQ.hit ?_
              refine WQ.next ?_
              refine WPC.seq ?_
              refine WPC.region ?_
              refine WPL.q tk0 (mv rfl) rfl ?_
              have HC := disk_Disk_Stat_ok (W := W) H
              refine WPL.eff tk0 (cl cO_39 rfl HC) rfl ?_
              rintro _ h114 ⟨n110, n111, n112, b113, rfl, H⟩
              obtain ⟨b115, h116, hb117, hh118, H⟩ := H
              refine WPL.f tk0 (alN zO_51 hb117 hh118) rfl ?_
              obtain ⟨h119, hs120, H⟩ := H
              refine WPL.f tk0 (stA kO_51 rfl rfl rfl (oneC.c rfl (oneC.c rfl (oneC.c rfl (oneC.c rfl oneC.n)))) hs120) rfl ?_
              refine WPL.nil ?_
              refine WQ.next ?_
              refine WPC.seq ?_
              refine WPC.seq ?_
              refine WPC.region ?_
              refine WPL.q tk0 (fa fO_51_0 rfl) rfl ?_
              obtain ⟨n122, hv121, H⟩ := H
              refine WPL.q tk0 (ld kO_3 rfl hv121) rfl ?_
              refine WPL.q tk0 (fa fO_51_1 rfl) rfl ?_
              obtain ⟨n124, hv123, H⟩ := H
              refine WPL.q tk0 (ld kO_3 rfl hv123) rfl ?_
              obtain ⟨n125, hn126, H⟩ := H
              refine WPL.q tk0 (bAdd rfl rfl hn126) rfl ?_
              refine WPL.q tk0 (mv rfl) rfl ?_
              refine WPL.q tk0 (bNeq rfl rfl) rfl ?_
              refine WPL.nil ?_
              refine WQ.next ?_
              refine WPC.cond rfl (fun hb127 => ?_) (fun hb127 => ?_)
              · have H := H.1 hb127
                refine WPC.seq ?_
                refine WPC.region ?_
                refine WPL.q tk0 (asg rfl) rfl ?_
                refine WPL.nil ?_
                refine WQ.next ?_
                refine WPC.ret ?_
                refine WQ.thenR ?_
                refine WQ.blockR ?_
                refine WQ.thenR ?_
                refine WQ.thenR ?_
                refine WQ.blockR ?_
                refine WQ.thenR ?_
                exact WQ.done (rets1 rfl rfl) ⟨_, rfl, H⟩
              · have H := H.2 hb127
                refine WPC.skip ?_
                refine WQ.next ?_
                refine WPC.seq ?_
                refine WPC.region ?_
                refine WPL.q tk0 (mv rfl) rfl ?_
                have HC := disk_Disk_Crash_ok (W := W) H
                refine WPL.eff tk0 (cl cO_40 rfl HC) rfl ?_
                rintro _ h130 ⟨n128, n129, rfl, H⟩
                refine WPL.q tk0 (mv rfl) rfl ?_
                refine WPL.q tk0 (ext rfl rfl) rfl ?_
                refine WPL.q tk0 (ext rfl rfl) rfl ?_
                refine WPL.q tk0 (asg rfl) rfl ?_
                refine WPL.q tk0 (asg rfl) rfl ?_
                refine WPL.nil ?_
                refine WQ.next ?_
                refine WPC.seq ?_
                obtain ⟨k132, hk134, H⟩ := H
                refine WPC.join (fun e h => ∃ (b131 : Bool), e = [(0, .int .i64 n1), (1, .int .i64 after2), (2, ops3.v), (7, .pointer p4), (10, .int .i64 done30), (11, .int .i64 turn22), (127, .bool b131)] ∧ k132 b131 h) ?_ (fun hj133 => ?_)
                · rintro _ h135 ⟨b131, rfl, HK136⟩
                  have H := hk134 b131 h135 HK136
                  refine WQ.next ?_
                  refine WPC.cond rfl (fun hb137 => ?_) (fun hb137 => ?_)
                  · have H := H.1 hb137
                    refine WPC.seq ?_
                    refine WPC.region ?_
                    refine WPL.q tk0 (asg rfl) rfl ?_
                    refine WPL.nil ?_
                    refine WQ.next ?_
                    refine WPC.ret ?_
                    refine WQ.blockR ?_
                    refine WQ.thenR ?_
                    refine WQ.thenR ?_
                    refine WQ.blockR ?_
                    refine WQ.thenR ?_
                    exact WQ.done (rets1 rfl rfl) ⟨_, rfl, H⟩
                  · have H := H.2 hb137
                    refine WPC.skip ?_
                    refine WQ.blockN ?_
                    refine WQ.next ?_
                    refine WPC.region ?_
                    refine WPL.q tk0 (mv rfl) rfl ?_
                    obtain ⟨n138, hn139, H⟩ := H
                    refine WPL.q tk0 (bAdd rfl rfl hn139) rfl ?_
                    refine WPL.q tk0 (asg rfl) rfl ?_
                    refine WPL.nil ?_
                    obtain ⟨m140, lt141, H⟩ := H
                    exact WQ.again lt141 ⟨_, _, rfl, H⟩ ⟨rfl, rfl, rfl, rfl, rfl, rfl, trivial⟩
                · refine WPC.region ?_
                  refine WPL.q tk0 (mv rfl) rfl ?_
                  refine WPL.q tk0 (bNeq rfl rfl) rfl ?_
                  refine WPL.q tk0 (mv rfl) rfl ?_
                  rcases Bool.eq_false_or_eq_true ((n129 != 0)) with hb143 | hb143
                  · have H := H.1 hb143
                    refine WPL.skip (ntkb rfl rfl hb143) rfl ?_
                    refine WPL.skip (ntkb rfl rfl hb143) rfl ?_
                    refine WPL.skip (ntkb rfl rfl hb143) rfl ?_
                    refine WPL.q tk0 (pkTb rfl hb143 rfl) rfl ?_
                    refine WPL.nil ?_
                    exact (hj133 _ _ ⟨_, rfl, H⟩).weak ⟨rfl, rfl, rfl, rfl, rfl, rfl, rfl, trivial⟩
                  · have H := H.2 hb143
                    refine WPL.q (tkb rfl rfl hb143) (mv rfl) rfl ?_
                    have HC := disk_Disk_Stat_ok (W := W) H
                    refine WPL.eff (tkb rfl rfl hb143) (cl cO_39 rfl HC) rfl ?_
                    rintro _ h148 ⟨n144, n145, n146, b147, rfl, H⟩
                    refine WPL.q (tkb rfl rfl hb143) (fd fK_51_3 rfl rfl) rfl ?_
                    refine WPL.q tk0 (pkFb rfl hb143 rfl) rfl ?_
                    refine WPL.nil ?_
                    exact (hj133 _ _ ⟨_, rfl, H⟩).weak ⟨rfl, rfl, rfl, rfl, rfl, rfl, rfl, trivial⟩
          · have H := H.2 hb29
            refine WPC.exit ?_
            refine WQ.thenX ?_
            refine WQ.thenX ?_
            refine WQ.hit ?_
            refine WQ.next ?_
            refine WPC.seq ?_
            refine WPC.region ?_
            refine WPL.q tk0 (asg rfl) rfl ?_
            refine WPL.nil ?_
            refine WQ.next ?_
            refine WPC.ret ?_
            exact WQ.done (rets1 rfl rfl) ⟨_, rfl, H⟩
  · refine WPC.region ?_
    refine WPL.q tk0 (mv rfl) rfl ?_
    refine WPL.q tk0 (uNot rfl) rfl ?_
    refine WPL.q tk0 (mv rfl) rfl ?_
    rcases Bool.eq_false_or_eq_true ((!b5)) with hb149 | hb149
    · have H := H.1 hb149
      refine WPL.skip (ntkb rfl rfl hb149) rfl ?_
      refine WPL.skip (ntkb rfl rfl hb149) rfl ?_
      refine WPL.q tk0 (pkTb rfl hb149 rfl) rfl ?_
      refine WPL.nil ?_
      exact (hj10 _ _ ⟨_, rfl, H⟩).weak ⟨rfl, rfl, rfl, rfl, rfl, rfl, trivial⟩
    · have H := H.2 hb149
      refine WPL.q (tkb rfl rfl hb149) (mv rfl) rfl ?_
      refine WPL.q (tkb rfl rfl hb149) (uNot rfl) rfl ?_
      refine WPL.q tk0 (pkFb rfl hb149 rfl) rfl ?_
      refine WPL.nil ?_
      exact (hj10 _ _ ⟨_, rfl, H⟩).weak ⟨rfl, rfl, rfl, rfl, rfl, rfl, trivial⟩

end Go.Proofs.Ythpeadoidpimmaa
