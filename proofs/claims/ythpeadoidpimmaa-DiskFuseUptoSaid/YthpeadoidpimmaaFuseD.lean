/- trellislaw2.DiskFuse answers true at every list of operations. No condition but a bound on the list. -/
import Derived.Test.YthpeadoidpimmaaLDiskFuse
import Derived.Test.YthpeadoidpimmaaFuseC
import Derived.Test.YthpeadoidpimmaaFuseM
import Derived.Test.YthpeadoidpimmaaPlays
namespace Go.Proofs.Ythpeadoidpimmaa
open Go Tw
set_option linter.unusedVariables false
set_option linter.unusedSimpArgs false
set_option maxRecDepth 10000

theorem FuI.new {n : Nat} {after : Int} (h0 : 0 ≤ after) : FuI n 0 after 0 ((Md.new n).cut after).2 ∧ ((Md.new n).cut after).1 = 0 ∧ ((Md.new n).cut after).2.pend = [] := by
  have e : (Md.new n).cut after = (0, { Md.new n with fuse := after }) := by unfold Md.cut; rw [if_neg (by omega), if_neg (by simp [Md.new])]
  rw [e]
  exact ⟨⟨by simp [Md.new], .inl ⟨rfl, rfl, by show after = after - 0; omega, h0⟩, Int.le_refl _, Int.le_refl _, rfl⟩, rfl, rfl⟩

def IntR (n : Int) (cs : List Value) : Prop := cs = [.int .i64 n] ∧ -9223372036854775808 ≤ n ∧ n ≤ 9223372036854775807

theorem law2_DiskFuse_c {h : Hp} {n after : Int} {s : Sl} {ops : List Int} (hs : Arr h s 1 IntR ops)
    (hl : ops.length ≤ 1048576) (ha : after ≤ 9223372036854775807) : law2_DiskFuse n after s (LawK h) h := by
  have hsl := hs.len
  refine law2_sizes_c (fun hb => ?_) (fun g1 g2 h' p o s0 ho => ?_)
  · refine ⟨fun b h' => b = true ∧ h' = h, ?_, fun h => (nomatch h), fun _ => ⟨rfl, rfl⟩⟩
    rintro b h' ⟨rfl, rfl⟩
    exact ⟨fun _ => ⟨rfl, Kp.refl _ _⟩, fun h => (nomatch h)⟩
  refine ⟨fun b h2 => b = false ∧ h2 = h', ?_, fun h => (nomatch h), fun _ => ⟨rfl, rfl⟩⟩
  rintro b h2 ⟨rfl, rfl⟩
  refine ⟨fun h => (nomatch h), fun _ => dcd (fun hneg => ?_) (fun hpos => ?_)⟩
  · refine one_cut s0 fun h3 hk s1 => ?_
    have e : ((Md.new n.toNat).cut after).1 = 1 := by unfold Md.cut; rw [if_pos hneg]
    rw [e]
    exact ⟨rfl, s1.ok.kp⟩
  refine one_cut s0 fun h3 hk s1 => ?_
  obtain ⟨f1, e1, e2⟩ := FuI.new (n := n.toNat) (after := after) (by omega)
  generalize ((Md.new n.toNat).cut after).2 = m1 at *
  generalize ((Md.new n.toNat).cut after).1 = x1 at *
  generalize Gro o 1 h2 = o1 at *
  subst e1
  have hn : (n.toNat : Int) = n := by omega
  refine dcn (fun hne => (hne rfl).elim) (fun _ => ⟨fun k done turn hh => ∃ (t : Nat) (m : Md) (o : Nat → Nat), turn = t ∧ t ≤ 2 ∧ k = 2 - t ∧ OneR h.size h hh p m o ∧ FuI n.toNat turn after done m ∧ 0 ≤ done ∧ done ≤ (t * ops.length : Nat) ∧ m.pend.length ≤ t * ops.length,
    ⟨_, 0, m1, o1, rfl, by omega, rfl, s1, f1, by omega, by omega, by simp [e2]⟩, ?_⟩)
  clear s1 f1 e2 m1 o1 s0 ho o hk
  rintro k done turn h4 ⟨t, m, o, rfl, ht, rfl, s1, f1, d1, d2, d3⟩
  refine dcd (fun hlt => ?_) (fun hge => ⟨rfl, s1.ok.kp⟩)
  have htl : t * ops.length ≤ 1048576 := by
    have : t ≤ 1 := by omega
    rcases (show t = 0 ∨ t = 1 by omega) with rfl | rfl <;> omega
  refine ⟨fun k done i hh => ∃ (j : Nat) (m : Md) (o : Nat → Nat), i = j ∧ j ≤ ops.length ∧ k = ops.length - j ∧ OneR h.size h hh p m o ∧ FuI n.toNat t after done m ∧ 0 ≤ done ∧ done ≤ (t * ops.length + j : Nat) ∧ m.pend.length ≤ t * ops.length + j,
    ⟨_, 0, m, o, rfl, by omega, rfl, s1, f1, d1, d2, d3⟩, ?_⟩
  clear s1 f1 d1 d2 d3 m o
  rintro k done i h5 ⟨j, m, o, rfl, hj, rfl, s1, f1, d1, d2, d3⟩
  refine dcd (fun hlt2 => ?_) (fun hge2 => ?_)
  · have hlt' : j < ops.length := by omega
    refine ⟨fun done' h' => ∃ (m : Md) (o : Nat → Nat), OneR h.size h h' p m o ∧ FuI n.toNat t after done' m ∧ 0 ≤ done' ∧ done' ≤ (t * ops.length + (j + 1) : Nat) ∧ m.pend.length ≤ t * ops.length + (j + 1), ?_, ?_⟩
    · rintro done' h6 ⟨m', o', s2, f2, c1, c2, c3⟩
      exact ⟨_, Wr.i64 (by omega) (by omega), ops.length - (j + 1), by omega, j + 1, m', o', by omega, by omega, rfl, s2, f2, c1, c2, c3⟩
    obtain ⟨a, hp, cs, ⟨rfl, hlo, hhi⟩, _, hr⟩ := hs.ptr hlt'
    have hr1 := RdL.kp0 hr s1.ok.kp
    generalize ops[j] = op at *
    have hr2 := hr1 0 _ rfl
    rw [add_zero'] at hr2
    refine ⟨a, hp, by omega, by omega, op, by rw [Int.toNat_natCast]; exact hr2, fun b h' => b = decide (op < -1 ∨ op ≥ n) ∧ h' = h5, ?_, dcd (fun hh => ⟨by simp [hh], rfl⟩) (fun hh => ⟨by simp [hh], rfl⟩)⟩
    rintro b h6 ⟨rfl, rfl⟩
    refine dcd (fun hout => ⟨m, o, s1, f1, d1, by omega, by omega⟩) (fun hin => ?_)
    refine ⟨fun b h' => b = decide ((t : Int) = 0 ∧ after ≤ done) ∧ h' = h6, ?_, dcb (fun h0 => ⟨by simp [h0], rfl⟩) (fun h0 => ⟨by rw [decide_eq_false (fun h => h0 h.1)], rfl⟩)⟩
    rintro b h7 ⟨rfl, rfl⟩
    refine ⟨fun want h' => want = (if (t : Int) = 0 ∧ after ≤ done then 2 else 0) ∧ h' = h7, ?_, dcd (fun hh => ⟨by rw [if_pos hh], rfl⟩) (fun hh => ⟨by rw [if_neg hh], rfl⟩)⟩
    rintro want h8 ⟨rfl, rfl⟩
    refine ⟨fun e h' => ∃ (m' : Md) (o' : Nat → Nat), OneR h.size h h' p m' o' ∧ (((t : Int) = 0 ∧ after ≤ done ∧ e = 2 ∧ FuI n.toNat t after done m' ∧ m'.down = true ∧ m'.pend.length ≤ t * ops.length + j) ∨ (¬ ((t : Int) = 0 ∧ after ≤ done) ∧ e = 0 ∧ FuI n.toNat t after (done + 1) m' ∧ m'.pend.length ≤ t * ops.length + (j + 1))), ?_, ?_⟩
    · rintro e h9 ⟨m', o', s2, ⟨w1, w2, rfl, f2, hd, c3⟩ | ⟨w1, rfl, f2, c3⟩⟩
      · refine dcn (fun hne => (hne (by rw [if_pos ⟨w1, w2⟩])).elim) (fun _ => dcb (fun h0 => by omega) (fun _ => ?_))
        refine one_read s2 fun x h10 hk10 _ _ => ?_
        have s3 := s2.same hk10
        have e1 : (m'.read 0).2 = 2 := by
          have := s2.d.wf.lo
          unfold Md.read; rw [if_neg (by omega), if_pos hd]
        rw [e1]
        refine dcn (fun hne => (hne rfl).elim) (fun _ => one_cut s3 fun h11 hk11 s4 => ?_)
        have e2 : m'.cut 9 = (2, m') := by unfold Md.cut; rw [if_neg (by omega), if_pos hd]
        rw [e2] at s4
        have e3 : (m'.cut 9).1 = 2 := by rw [e2]
        rw [e3]
        refine dcn (fun hne => (hne rfl).elim) (fun _ => one_stat s4 fun h12 hk12 => ?_)
        rw [hd]
        exact ⟨fun h => (nomatch h), fun _ => ⟨m', _, s4.same hk12, f2, d1, by omega, by omega⟩⟩
      · refine dcn (fun hne => (hne (by rw [if_neg w1])).elim) (fun _ => dcb (fun h0 => ?_) (fun hne => (hne rfl).elim))
        exact ⟨_, Wr.i64 (by omega) (by omega), m', o', s2, f2, by omega, by omega, c3⟩
    · refine dcb (fun hfl => ?_) (fun hnfl => ?_)
      · refine one_flush s1 fun h9 hk9 s2 => ⟨_, _, s2, ?_⟩
        by_cases hW : (t : Int) = 0 ∧ after ≤ done
        · obtain ⟨q1, q2, q3, q4⟩ := f1.flushF hW
          exact .inl ⟨hW.1, hW.2, q1, q2, q3, by rw [q4]; exact d3⟩
        · obtain ⟨q1, q2, q3⟩ := f1.flushT ha d1 (by omega) hW
          exact .inr ⟨hW, q1, q2, by omega⟩
      · refine ⟨_, Wr.u8 _, ?_⟩
        have e8 : (j : Int) % 256 = ((UInt8.ofNat j).toNat : Int) := by simp
        rw [e8]
        refine law2_filled_c fun s' h9 hk9 hv9 hn9 => ?_
        have s2 := s1.same hk9
        refine one_write s2 (Byt.of_vec hv9) (fun a ha _ e => ?_) (by omega) fun h10 hk10 s3 => ⟨_, _, s3, ?_⟩
        · have := hn9 _ ⟨a, ha, rfl⟩
          simp only [Gro, if_neg (show ¬ a.block < h8.size by omega)] at e
          omega
        by_cases hW : (t : Int) = 0 ∧ after ≤ done
        · obtain ⟨q1, q2, q3, q4⟩ := f1.writeF (a := op) (d := fillB (UInt8.ofNat j)) hW (by omega) (by omega) (fillB_len _)
          exact .inl ⟨hW.1, hW.2, q1, q2, q3, by rw [q4]; exact d3⟩
        · obtain ⟨q1, q2, q3⟩ := f1.writeT (a := op) (d := fillB (UInt8.ofNat j)) ha d1 (by omega) hW (by omega) (by omega) (fillB_len _)
          exact .inr ⟨hW, q1, q2, by omega⟩
  · have hjl : j = ops.length := by omega
    subst hjl
    refine one_stat s1 fun h6 hk6 => ?_
    have s2 := s1.same hk6
    have hb := Bk.new h6 [.int .i64 0, .int .i64 0, .int .i64 0, .bool false] 51
    have hk7 : Kp (fun _ => False) h6 (setB (h6.push (Cel [.int .i64 0, .int .i64 0, .int .i64 0, .bool false] 51)) h6.size (Cel [.int .i64 m.writes, .int .i64 m.flushes, .int .i64 (m.pend.length : Int), .bool m.down] 51)) :=
      Kp.set (F := fun _ => False) (Kp.push (Kp.refl _ _) _) _ (.inl (Nat.le_refl _))
    have s3 := s2.same hk7
    have hw := f1.w0
    have hf := f1.f0
    have hsum := f1.sum
    refine ⟨_, _, rfl, rfl, _, hb.st0 rfl, m.writes, hb.set.rdi 0 rfl, m.flushes, hb.set.rdi 1 rfl, m.writes + m.flushes, Wr.i64 (by omega) (by omega), dcn (fun hne => (hne hsum).elim) (fun _ => ?_)⟩
    refine one_crash (keep := []) s3 ⟨rfl, Nat.le_refl _, rfl, rfl⟩ (fun a ha => (nomatch ha)) (by omega) fun h8 hk8 s4 => ?_
    have f2 := f1.crash [] ((t : Int) + 1) (by omega)
    refine ⟨fun b h' => b = false ∧ ∃ o, OneR h.size h h' p (m.crash []).2 o, ?_, dcn (fun hne => (hne rfl).elim) (fun _ => ?_)⟩
    · rintro b h9 ⟨rfl, o', s5⟩
      refine ⟨fun h => (nomatch h), fun _ => ⟨(t : Int) + 1, Wr.i64 (by omega) (by omega), 2 - (t + 1), by omega, t + 1, (m.crash []).2, o', by omega, by omega, rfl, s5, f2, d1, ?_, by simp [Md.crash]⟩⟩
      rw [Nat.add_mul]; omega
    · exact one_stat s4 fun h9 hk9 => ⟨rfl, _, s4.same hk9⟩
end Go.Proofs.Ythpeadoidpimmaa
