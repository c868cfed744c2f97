/- trellislaw2.DiskImage answers true at all scripts. No condition but bounds on the scripts. -/
import Derived.Test.YthpeadoidpimmaaLDiskImage
import Derived.Test.YthpeadoidpimmaaCrashE
import Derived.Test.YthpeadoidpimmaaSumC
namespace Tw
open Go
/-- Two disks that answer alike. -/
structure Sim (a b : Md) : Prop where
  laid : a.laid = b.laid
  pend : a.pend = b.pend
  fuse : a.fuse = b.fuse
  down : a.down = b.down
theorem Sim.burn {a b : Md} (s : Sim a b) : a.burn.1 = b.burn.1 ∧ Sim a.burn.2 b.burn.2 := by
  unfold Md.burn
  rw [s.fuse, s.down]
  split
  · exact ⟨rfl, s⟩
  · split
    · exact ⟨rfl, s.laid, s.pend, rfl, rfl⟩
    · split
      · exact ⟨rfl, s.laid, s.pend, rfl, rfl⟩
      · exact ⟨rfl, s⟩
theorem Sim.write {a b : Md} (s : Sim a b) (x : Int) (d : List UInt8) : (a.write x d).1 = (b.write x d).1 ∧ Sim (a.write x d).2 (b.write x d).2 := by
  have hb := s.burn
  unfold Md.write
  rw [s.laid]
  split
  · exact ⟨rfl, s⟩
  · split
    · exact ⟨rfl, s⟩
    · rw [hb.1]
      split
      · exact ⟨rfl, hb.2.laid, by show a.pend ++ _ = b.pend ++ _; rw [s.pend], hb.2.fuse, hb.2.down⟩
      · exact ⟨rfl, hb.2⟩
theorem Sim.flush {a b : Md} (s : Sim a b) : a.flush.1 = b.flush.1 ∧ Sim a.flush.2 b.flush.2 := by
  have hb := s.burn
  unfold Md.flush
  rw [hb.1]
  split
  · exact ⟨rfl, by show layAll a.laid a.pend = layAll b.laid b.pend; rw [s.laid, s.pend], rfl, hb.2.fuse, hb.2.down⟩
  · exact ⟨rfl, hb.2⟩
theorem Sim.cut {a b : Md} (s : Sim a b) (x : Int) : (a.cut x).1 = (b.cut x).1 ∧ Sim (a.cut x).2 (b.cut x).2 := by
  unfold Md.cut
  rw [s.down]
  split
  · exact ⟨rfl, s⟩
  · split
    · exact ⟨rfl, s⟩
    · exact ⟨rfl, s.laid, s.pend, rfl, rfl⟩
theorem Sim.crash {a b : Md} (s : Sim a b) (k : List Bool) : (a.crash k).1 = (b.crash k).1 ∧ Sim (a.crash k).2 (b.crash k).2 := by
  unfold Md.crash
  rw [s.laid, s.pend]
  exact ⟨rfl, rfl, rfl, rfl, rfl⟩
theorem Sim.read {a b : Md} (s : Sim a b) (x : Int) : a.read x = b.read x := by
  unfold Md.read Md.newest
  rw [s.laid, s.pend, s.down]

theorem chunks_of : ∀ (L : List (List UInt8)), (∀ s ∈ L, s.length = 128) → chunks L.length (L.flatMap fun s => s) = L
  | [], _ => rfl
  | x :: r, h => by
    have hx := h x (by simp)
    simp only [List.length_cons, chunks, List.flatMap_cons]
    rw [List.take_append_of_le_length (by omega), List.take_of_length_le (by omega), List.drop_append, List.drop_of_length_le (by omega), hx, Nat.sub_self, List.drop_zero, List.nil_append, chunks_of r fun s hs => h s (by simp [hs])]
theorem flat_len128 (L : List (List UInt8)) (h : ∀ s ∈ L, s.length = 128) : (L.flatMap fun s => s).length = L.length * 128 := by
  induction L with
  | nil => rfl
  | cons x r ih =>
    have := h x (by simp)
    have := ih fun s hs => h s (by simp [hs])
    simp only [List.flatMap_cons, List.length_append, List.length_cons]; omega
end Tw
namespace Go.Proofs.Ythpeadoidpimmaa
open Go Tw
set_option linter.unusedVariables false
set_option linter.unusedSimpArgs false
set_option maxRecDepth 10000

section
variable {h0 h h1 : Hp} {p q : Option Addr} {m m' n : Md} {o o1 : Nat → Nat} {A : Nat → Ass}

/-- Two disks of the program (1, 6). -/
theorem cut_pend (m : Md) (a : Int) : (m.cut a).2.pend = m.pend := by unfold Md.cut; split <;> (try split) <;> rfl
theorem write_pend (m : Md) (a : Int) (d : List UInt8) : (m.write a d).2.pend.length ≤ m.pend.length + 1 := by
  have := opM_pend (m := some m) (n := m.pend.length) (m' := (m.write a d).2) (op := ⟨5, 0, a, d, []⟩) (fun x hx => by cases hx; exact Nat.le_refl _) rfl
  exact this
theorem flush_pend (m : Md) : m.flush.2.pend.length ≤ m.pend.length := by
  unfold Md.flush
  split
  · simp
  · rw [m.burn_laid.2.1]; exact Nat.le_refl _

theorem copy_bytes {h : Hp} {s : Sl} {bs : List UInt8} {K : Sl → Hp → Prop} (hs : Byt h s bs) (hb : bs.length ≤ 140737488355328)
    (hK : ∀ s' h', Kp (fun _ => False) h h' → Vec h' s' 1 5 (bs.map bv) → (∀ x, s'.blk x → h.size ≤ x) → K s' h') : App h Sl.nil s 1 1 5 [.int .u8 0] K := by
  refine (Vec.nil _ 1 5).app (Byt.rds hs) (oneC_bytes _) (by show (0 + s.len) * 1 ≤ _; rw [hs.len]; omega) ?_
  intro s' h' hv _ hk hb
  refine hK s' h' (hk.mono fun x _ hx => ?_) (by simpa using hv) fun x hx => ?_
  · obtain ⟨a, ha, _⟩ := hx; cases ha
  · rcases hb x hx with ⟨a, ha, _⟩ | hx
    · cases ha
    · omega

/-- What was copied may be handed to a disk. -/
theorem new_ok {s : Sl} {i : Nat} (hn : ∀ x, s.blk x → h.size ≤ x) (hi : i ≠ 5) {P : Prop} : ∀ a, s.p = some a → P → Gro o 5 h a.block ≠ i := by
  intro a ha _ e
  have := hn _ ⟨a, ha, rfl⟩
  simp only [Gro, if_neg (show ¬ a.block < h.size by omega)] at e
  omega

theorem law2_does_c {op : OpD} {sd sk : Sl} {V : Ass} {K : Hp → Prop} (s : St3 h0 h p m V o A) (a : OpH h0 op sd sk) (hcap : m.pend.length ≤ 1000000000)
    (hK : ∀ h' m' o' A', St3 h0 h' p m' V o' A' → m'.pend.length ≤ m.pend.length + 1 → m'.laid.length = m.laid.length → K h') : law2_does p op.kind op.who op.n sd sk K h := by
  have hnb := Bk.new h (opC op sd sk) 59
  have hk1 : Kp (fun _ => False) h (h.push (Cel (opC op sd sk) 59)) := Kp.push (Kp.refl _ _) _
  obtain ⟨s1, t1⟩ := s.fresh hk1
  refine ⟨_, _, rfl, rfl, op.kind, hnb.rdi 0 rfl, ?_⟩
  have hcons : (h.push (Cel [.int .i64 op.kind, .int .i64 op.who, .int .i64 op.n, sd.v, sk.v] 59)) = h.push (Cel (opC op sd sk) 59) := rfl
  rw [hcons]
  generalize h.push (Cel (opC op sd sk) 59) = h1 at *
  generalize Gro o 5 h = o1 at *
  have hdl := a.dl
  have hkl := a.kl
  refine dcb (fun _ => ?_) (fun _ => dcb (fun _ => ?_) (fun _ => dcb (fun _ => ?_) (fun _ => dcb (fun _ => ?_) (fun _ => ?_))))
  · refine ⟨op.n, hnb.rdi 2 rfl, sd, hnb.rdi 3 rfl, copy_bytes (a.dat.kp s1.kp fun _ _ h => h) (by omega) fun s' h2 hk2 hv2 hn2 => ?_⟩
    obtain ⟨s2, t2⟩ := s1.fresh hk2
    refine ⟨(hnb.kp hk2 fun h => h).rdi 2 rfl, ow_Write s2.ow s2.a1 (Byt.of_vec hv2) (new_ok hn2 (by decide)) (by omega) fun h3 w3 t3 => hK h3 _ _ _ (s2.disk w3) (write_pend _ _ _) ?_⟩
    unfold Md.write; split <;> (try split) <;> (try split) <;> first | rfl | (rw [m.burn_laid.1]) | (show m.burn.2.laid.length = _; rw [m.burn_laid.1])
  · refine ow_Flush s1.ow s1.a1 fun h3 w3 t3 => hK h3 _ _ _ (s1.disk w3) (Nat.le_succ_of_le (flush_pend _)) ?_
    unfold Md.flush; split
    · simp only [layAll_len]
    · show m.burn.2.laid.length = _; rw [m.burn_laid.1]
  · refine ⟨op.n, hnb.rdi 2 rfl, ow_Cut s1.ow s1.a1 fun h3 w3 t3 => hK h3 _ _ _ (s1.disk w3) (by rw [cut_pend]; omega) ?_⟩
    unfold Md.cut; split <;> (try split) <;> rfl
  · refine ⟨sk, hnb.rdi 4 rfl, copy_bools (a.kee.kp s1.kp fun _ _ h => h) (by omega) fun s' h2 hk2 hv2 hn2 => ?_⟩
    obtain ⟨s2, t2⟩ := s1.fresh hk2
    refine ow_Crash s2.ow s2.a1 (Bls.of_vec hv2) (new_ok hn2 (by decide)) (by omega) fun h3 w3 t3 => hK h3 _ _ _ (s2.disk w3) (by simp [Md.crash]) (by simp only [Md.crash, layAll_len])
  · exact hK h1 m _ _ s1 (by omega) rfl

theorem law2_twin_c {op : OpD} {sd sk : Sl} {K : Bool → Hp → Prop} (s : St3 h0 h p m (Ass.disk q n) o A) (e : Sim m n) (a : OpH h0 op sd sk) (hcap : m.pend.length ≤ 1000000000)
    (hK : ∀ h' m' n' o' A', St3 h0 h' p m' (Ass.disk q n') o' A' → Sim m' n' → m'.pend.length ≤ m.pend.length + 1 → K true h') : law2_twin p q op.kind op.who op.n sd sk K h := by
  have hnb := Bk.new h (opC op sd sk) 59
  have hk1 : Kp (fun _ => False) h (h.push (Cel (opC op sd sk) 59)) := Kp.push (Kp.refl _ _) _
  obtain ⟨s1, t1⟩ := s.fresh hk1
  have ob : Gro o 5 h h.size = 5 := by simp [Gro]
  have hwf := (s.ow.disk s.a1).wf
  refine ⟨_, _, rfl, rfl, op.kind, hnb.rdi 0 rfl, ?_⟩
  have hcons : (h.push (Cel [.int .i64 op.kind, .int .i64 op.who, .int .i64 op.n, sd.v, sk.v] 59)) = h.push (Cel (opC op sd sk) 59) := rfl
  rw [hcons]
  generalize h.push (Cel (opC op sd sk) 59) = h1 at *
  generalize Gro o 5 h = o1 at *
  generalize h.size = b at *
  have hdl := a.dl
  have hkl := a.kl
  have hpl : n.pend.length ≤ 1000000000 := by rw [← e.pend]; exact hcap
  refine dcb (fun _ => ?_) (fun _ => dcb (fun _ => ?_) (fun _ => dcb (fun _ => ?_) (fun _ => dcb (fun _ => ?_) (fun _ => dcb (fun _ => ?_) (fun _ => dcb (fun _ => ?_) (fun _ => dcb (fun _ => ?_) (fun _ => ?_)))))))
  · refine ⟨op.n, hnb.rdi 2 rfl, ow_Read 5 s1.ow s1.a1 fun x h2 w2 t2 hv2 hn2 => ?_⟩
    have s2 : St3 h0 h2 p m (Ass.disk q n) _ A := ⟨w2, s1.a0, s1.a1, s1.a6, s1.a5⟩
    have hnb2 := t2.bk hnb id
    refine ⟨op.n, hnb2.rdi 2 rfl, ow_Read 5 s2.ow s2.a6 fun y h3 w3 t3 hv3 hn3 => ?_⟩
    rw [e.read op.n] at hv2 ⊢
    have hlr : ((n.read op.n).1).length ≤ 128 := by
      have hwn := (s2.ow.disk s2.a6).wf
      unfold Md.read
      split
      · simp
      · split
        · simp
        · rw [Md.newest_len hwn (by omega)]; exact Nat.le_refl _
    refine dcb (fun _ => ?_) (fun h => (h rfl).elim)
    refine law2_same_c (x := (n.read op.n).1) ((Byt.of_vec hv2).kp t3.kp fun _ _ h => h) (Byt.of_vec hv3) (by omega) ?_
    exact hK h3 m n _ _ ⟨w3, s2.a0, s2.a1, s2.a6, s2.a5⟩ e (by omega)
  · refine ⟨op.n, hnb.rdi 2 rfl, sd, hnb.rdi 3 rfl, copy_bytes (a.dat.kp s1.kp fun _ _ h => h) (by omega) fun s' h2 hk2 hv2 hn2 => ?_⟩
    obtain ⟨s2, t2⟩ := s1.fresh hk2
    have hnb2 := hnb.kp hk2 fun h => h
    refine ⟨hnb2.rdi 2 rfl, ow_Write s2.ow s2.a1 (Byt.of_vec hv2) (new_ok hn2 (by decide)) (by omega) fun h3 w3 t3 => ?_⟩
    have s3 := s2.disk w3
    have hnb3 := t3.bk hnb2 (by rw [Gro.old hnb.lt, ob]; decide)
    refine ⟨op.n, hnb3.rdi 2 rfl, sd, hnb3.rdi 3 rfl, copy_bytes (a.dat.kp s3.kp fun _ _ h => h) (by omega) fun s'' h4 hk4 hv4 hn4 => ?_⟩
    obtain ⟨s4, t4⟩ := s3.fresh hk4
    have hnb4 := hnb3.kp hk4 fun h => h
    refine ⟨hnb4.rdi 2 rfl, ow_Write s4.ow s4.a6 (Byt.of_vec hv4) (new_ok hn4 (by decide)) (by omega) fun h5 w5 t5 => ?_⟩
    have e2 := e.write op.n op.data
    have : ((m.write op.n op.data).1 == (n.write op.n op.data).1) = true := by rw [e2.1]; simp
    rw [this]
    exact hK h5 _ _ _ _ (s4.lst w5) e2.2 (write_pend _ _ _)
  · refine ow_Flush s1.ow s1.a1 fun h2 w2 t2 => ?_
    have s2 := s1.disk w2
    refine ow_Flush s2.ow s2.a6 fun h3 w3 t3 => ?_
    have e2 := e.flush
    have : (m.flush.1 == n.flush.1) = true := by rw [e2.1]; simp
    rw [this]
    exact hK h3 _ _ _ _ (s2.lst w3) e2.2 (Nat.le_succ_of_le (flush_pend _))
  · refine ⟨op.n, hnb.rdi 2 rfl, ow_Cut s1.ow s1.a1 fun h2 w2 t2 => ?_⟩
    have s2 := s1.disk w2
    have hnb2 := t2.bk hnb (by rw [ob]; decide)
    refine ⟨op.n, hnb2.rdi 2 rfl, ow_Cut s2.ow s2.a6 fun h3 w3 t3 => ?_⟩
    have e2 := e.cut op.n
    have : ((m.cut op.n).1 == (n.cut op.n).1) = true := by rw [e2.1]; simp
    rw [this]
    exact hK h3 _ _ _ _ (s2.lst w3) e2.2 (by rw [cut_pend]; omega)
  · refine ⟨sk, hnb.rdi 4 rfl, copy_bools (a.kee.kp s1.kp fun _ _ h => h) (by omega) fun s' h2 hk2 hv2 hn2 => ?_⟩
    obtain ⟨s2, t2⟩ := s1.fresh hk2
    have hnb2 := hnb.kp hk2 fun h => h
    refine ow_Crash s2.ow s2.a1 (Bls.of_vec hv2) (new_ok hn2 (by decide)) (by omega) fun h3 w3 t3 => ?_
    have s3 := s2.disk w3
    have hnb3 := t3.bk hnb2 (by rw [Gro.old hnb.lt, ob]; decide)
    refine ⟨sk, hnb3.rdi 4 rfl, copy_bools (a.kee.kp s3.kp fun _ _ h => h) (by omega) fun s'' h4 hk4 hv4 hn4 => ?_⟩
    obtain ⟨s4, t4⟩ := s3.fresh hk4
    refine ow_Crash s4.ow s4.a6 (Bls.of_vec hv4) (new_ok hn4 (by decide)) (by omega) fun h5 w5 t5 => ?_
    have e2 := e.crash op.keep
    refine dcb (fun _ => hK h5 _ _ _ _ (s4.lst w5) e2.2 (by simp [Md.crash])) (fun h => (h e2.1).elim)
  · refine ow_Image 5 s1.ow s1.a1 fun x h2 w2 t2 hv2 hn2 => ?_
    have s2 : St3 h0 h2 p m (Ass.disk q n) _ A := ⟨w2, s1.a0, s1.a1, s1.a6, s1.a5⟩
    refine ow_Image 5 s2.ow s2.a6 fun y h3 w3 t3 hv3 hn3 => ?_
    rw [e.laid] at hv2
    have hfl := flat_len128 _ hwf.sec
    have hhi := hwf.hi
    rw [e.laid] at hfl hhi
    refine law2_same_c ((Byt.of_vec hv2).kp t3.kp fun _ _ h => h) (Byt.of_vec hv3) (by rw [hfl]; omega) ?_
    exact hK h3 m n _ _ ⟨w3, s2.a0, s2.a1, s2.a6, s2.a5⟩ e (by omega)
  · refine ow_Pending 5 s1.ow s1.a1 (by omega) fun x l h2 w2 t2 hv2 hn2 => ?_
    have s2 : St3 h0 h2 p m (Ass.disk q n) _ A := ⟨w2, s1.a0, s1.a1, s1.a6, s1.a5⟩
    refine ow_Pending 5 s2.ow s2.a6 (by omega) fun y l2 h3 w3 t3 hv3 hn3 => ?_
    have hl1 : l.length = m.pend.length := by rw [← hn2]; simp
    refine law2_writes_c (hv2.kp t3.kp fun _ _ _ h => h) hv3 (by rw [hn2, hn3, e.pend]) (by omega) (fun x hx => ?_) ?_
    · have : x.1 ∈ m.pend := by rw [← hn2]; exact List.mem_map_of_mem hx
      rw [(hwf.pen _ this).1]; omega
    · exact hK h3 m n _ _ ⟨w3, s2.a0, s2.a1, s2.a6, s2.a5⟩ e (by omega)
  · exact hK h1 m n _ _ s1 e (by omega)

theorem Byt.cutA {s : Sl} {bs : List UInt8} (hs : Byt h s bs) {lo n : Nat} (hn : 0 < n) (hl : lo + n ≤ bs.length) : Byt h (slS s 1 lo (lo + n)) ((bs.drop lo).take n) := by
  obtain ⟨a, ha, hr⟩ := Byt.part hs (show lo < bs.length by omega) (n := n)
  have hsl := hs.len
  have hcap := hs.cap
  refine ⟨?_, ?_, ?_⟩
  · simp only [slS]; simp; omega
  · simp only [slS]; omega
  · simp only [slS]
    rw [if_neg (by omega), ha, Nat.mul_one]
    exact hr

theorem image_at {L : List (List UInt8)} (h : ∀ s ∈ L, s.length = 128) {i : Nat} (hi : i < L.length) : ((L.flatMap fun s => s).drop (128 * i)).take 128 = L[i] := by
  have h1 := chunks_get L.length (L.flatMap fun s => s) i hi
  rw [chunks_of L h, Nat.mul_comm i 128] at h1
  rw [List.getElem?_eq_getElem hi, Option.some.injEq] at h1
  exact h1.symm

theorem law2_DiskImage_c {h : Hp} {n : Int} {s1 s2 : Sl} {ops1 ops2 : List OpD} (hs1 : Arr h s1 5 (OpR h) ops1) (hs2 : Arr h s2 5 (OpR h) ops2) (hl1 : ops1.length ≤ 1048576) (hl2 : ops2.length ≤ 1048576) : law2_DiskImage n s1 s2 (LawK h) h := by
  have hsl1 := hs1.len
  have hsl2 := hs2.len
  refine law2_sizes_c (fun hb => ?_) (fun g1 g2 h' p o s0 ho => ?_)
  · refine ⟨fun b h' => b = true ∧ h' = h, ?_, fun h => (nomatch h), fun _ => ⟨rfl, rfl⟩⟩
    rintro b h' ⟨rfl, rfl⟩
    exact ⟨fun _ => ⟨rfl, Kp.refl _ _⟩, fun h => (nomatch h)⟩
  refine ⟨fun b h2 => b = false ∧ h2 = h', ?_, fun h => (nomatch h), fun _ => ⟨rfl, rfl⟩⟩
  rintro b h2 ⟨rfl, rfl⟩
  refine ⟨fun h => (nomatch h), fun _ => ?_⟩
  obtain ⟨A0, t0⟩ := s0.st3
  have hn : (n.toNat : Int) = n := by omega
  have hmn : (Md.new n.toNat).laid.length = n.toNat := by simp [Md.new]
  have hmp : (Md.new n.toNat).pend.length ≤ 0 := by simp [Md.new]
  generalize Md.new n.toNat = m at *
  refine ⟨fun k i hh => ∃ (j : Nat) (m : Md) (o : Nat → Nat) (A : Nat → Ass), i = j ∧ j ≤ ops1.length ∧ k = ops1.length - j ∧ St3 h hh p m (vecL Sl.nil []) o A ∧ m.pend.length ≤ j ∧ m.laid.length = n.toNat,
    ⟨_, 0, m, o, A0, rfl, by omega, rfl, t0, hmp, hmn⟩, ?_⟩
  clear t0 s0 ho hmn hmp m o A0
  rintro k i h3 ⟨j, m, o, A, rfl, hj, rfl, s3, hmp, hmn⟩
  refine dcd (fun hlt => ?_) (fun hge => ?_)
  · have hlt' : j < ops1.length := by omega
    obtain ⟨a, ha, cs, ⟨sd, sk, rfl, hop⟩, _, hr⟩ := hs1.ptr hlt'
    generalize ops1[j] = op at *
    have hr1 := RdL.kp0 hr s3.kp
    refine ⟨a, ha, by omega, by omega, op.kind, op.who, op.n, sd, sk, by rw [Int.toNat_natCast]; exact hr1, law2_does_c s3 hop (by omega) fun h4 m4 o4 A4 s4 q1 q2 => ?_⟩
    exact ⟨_, Wr.i64 (by omega) (by omega), ops1.length - (j + 1), by omega, j + 1, m4, o4, A4, by omega, by omega, rfl, s4, by omega, by omega⟩
  have hwf := (s3.ow.disk s3.a1).wf
  have hfl := flat_len128 _ hwf.sec
  refine ow_Image 5 s3.ow s3.a1 fun x h4 w4 t4 hv4 hn4 => ?_
  have s4 : St3 h h4 p m (vecL Sl.nil []) _ A := ⟨w4, s3.a0, s3.a1, s3.a6, s3.a5⟩
  have hby := Byt.of_vec hv4
  have hxo : ∀ a, x.p = some a → Gro o 5 h3 a.block = 5 := fun a ha => by
    have := hn4 _ ⟨a, ha, rfl⟩
    simp [Gro, show ¬ a.block < h3.size by omega]
  have hxl := hby.len
  generalize Gro o 5 h3 = o4 at *
  clear hn4 hv4
  refine ⟨_, Wr.i64 (e := 128 * n) (by omega) (by omega), dcn (fun hne => by omega) (fun _ => ?_)⟩
  refine disk_Load_c hby (by omega) (fun hb => ?_) fun hb h5 b bl r hk5 p5 => ?_
  · exfalso
    have := hwf.lo
    have := hwf.hi
    unfold badImage at hb
    rw [hfl, Nat.mul_mod_left, Nat.mul_div_cancel _ (by omega : 0 < 128)] at hb
    have e1 : decide (m.laid.length < 1) = false := decide_eq_false (by omega)
    have e2 : decide (4096 < m.laid.length) = false := decide_eq_false (by omega)
    rw [e1, e2] at hb
    cases hb
  have hload : Md.load (m.laid.flatMap fun s => s) = { Md.new 0 with laid := m.laid } := by
    unfold Md.load
    rw [hfl, Nat.mul_div_cancel _ (by omega : 0 < 128), chunks_of _ hwf.sec]
  rw [hload] at p5
  obtain ⟨w5, t5⟩ := s4.ow.fresh 6 hk5
  have s5 : St3 h h5 p m (Ass.disk (some (nA b)) { Md.new 0 with laid := m.laid }) (Gro o4 6 h4) (upd A 6 _) :=
    ⟨w5.put (i := 6) (B := Ass.disk (some (nA b)) { Md.new 0 with laid := m.laid }) ⟨b, bl, r, Sl.nil, rfl, p5.mono fun y _ hy => by simp [Gro]; omega⟩, s4.a0, s4.a1, rfl, s4.a5⟩
  have hby5 := t5.by hby fun _ _ _ h => h
  have hne : (m.laid.flatMap fun s => s) ≠ [] := by
    intro e
    have := hwf.lo
    rw [e] at hfl; simp at hfl; omega
  have hxo5 : ∀ a, x.p = some a → Gro o4 6 h4 a.block = 5 := fun a ha => by rw [Gro.old (hby.lt hne ha)]; exact hxo a ha
  generalize Gro o4 6 h4 = o5 at *
  refine ow_Crash s5.ow s5.a1 (keep := []) ⟨rfl, Nat.le_refl _, rfl, rfl⟩ (fun a ha => (nomatch ha)) (by omega) fun h6 w6 t6 => ?_
  have s6 := s5.disk w6
  have hby6 := t6.by hby5 fun a ha _ => by rw [hxo5 a ha]; decide
  have hc0 : keptW m.pend [] = [] := by cases m.pend <;> rfl
  have hcl : (m.crash []).2.laid = m.laid := by show layAll m.laid (keptW m.pend []) = _; rw [hc0]; rfl
  have hsim : Sim (m.crash []).2 { Md.new 0 with laid := m.laid } := ⟨hcl, rfl, rfl, rfl⟩
  have hcon : (m.crash []).2.On := ⟨rfl, rfl⟩
  have hcp : (m.crash []).2.pend = [] := rfl
  generalize (m.crash []).2 = m6 at *
  generalize ({ Md.new 0 with laid := m.laid } : Md) = n6 at *
  generalize (m.crash []).1 = c6 at *
  refine ⟨fun b h' => b = false ∧ h' = h6, ?_, fun h => (nomatch h), fun _ => dcn (fun h => (h rfl).elim) fun _ => dcn (fun h => (h rfl).elim) fun _ => ow_Sectors s6.ow s6.a6 ⟨?_, rfl⟩⟩
  · rintro b' h7 ⟨rfl, rfl⟩
    refine ⟨fun h => (nomatch h), fun _ => ?_⟩
    refine ⟨fun k i hh => ∃ (j : Nat) (o : Nat → Nat), i = j ∧ j ≤ n.toNat ∧ k = n.toNat - j ∧ St3 h hh p m6 (Ass.disk (some (nA b)) n6) o (upd (upd A 6 (Ass.disk (some (nA b)) n6)) 1 (Ass.disk p m6)) ∧ Byt hh x (m.laid.flatMap fun s => s), ⟨_, 0, _, rfl, by omega, rfl, s6, hby6⟩, ?_⟩
    rintro k i h8 ⟨j, o8, rfl, hj, rfl, s8, hby8⟩
    refine dcd (fun hlt => ?_) (fun hge => ?_)
    · have hlt' : j < n.toNat := by omega
      refine ow_Read 5 s8.ow s8.a1 fun y h9 w9 t9 hv9 hn9 => ?_
      have s9 : St3 h h9 p m6 (Ass.disk (some (nA b)) n6) _ (upd (upd A 6 (Ass.disk (some (nA b)) n6)) 1 (Ass.disk p m6)) := ⟨w9, s8.a0, s8.a1, s8.a6, s8.a5⟩
      have hby9 := t9.by hby8 fun _ _ _ h => h
      have hj6 : j < m6.laid.length := by rw [hcl]; omega
      rw [hcon.read hj6 hcp] at hv9 ⊢
      have hcapx := hby9.cap
      refine ⟨128 * (j : Int), Wr.i64 (by omega) (by omega), 128 * (j : Int), Wr.i64 (by omega) (by omega), 128 * (j : Int) + 128, Wr.i64 (by omega) (by omega), by omega, by omega, by omega, _, rfl, ?_⟩
      have hcut := Byt.cutA hby9 (lo := 128 * j) (n := 128) (by omega) (by omega)
      rw [image_at hwf.sec (by omega : j < m.laid.length)] at hcut
      have e1 : Int.toNat (128 * (j : Int)) = 128 * j := by omega
      have e2 : Int.toNat (128 * (j : Int) + 128) = 128 * j + 128 := by omega
      rw [e1, e2]
      have hsec := hwf.sec m.laid[j] (List.getElem_mem _)
      have hv9' : Byt h9 y m.laid[j] := by
        have := Byt.of_vec hv9
        simp only [hcl] at this; exact this
      refine law2_same_c hv9' hcut (by omega) ?_
      refine ⟨fun b h' => b = false ∧ h' = h9, ?_, dcn (fun h => (h rfl).elim) fun _ => ⟨rfl, rfl⟩⟩
      rintro b'' h10 ⟨rfl, rfl⟩
      exact ⟨fun h => (nomatch h), fun _ => ⟨_, Wr.i64 (by omega) (by omega), n.toNat - (j + 1), by omega, j + 1, _, by omega, by omega, rfl, s9, hby9⟩⟩
    · refine ⟨fun k i hh => ∃ (c : Nat) (m n : Md) (o : Nat → Nat) (A : Nat → Ass), i = c ∧ c ≤ ops2.length ∧ k = ops2.length - c ∧ St3 h hh p m (Ass.disk (some (nA b)) n) o A ∧ Sim m n ∧ m.pend.length ≤ c,
        ⟨_, 0, m6, n6, _, _, rfl, by omega, rfl, s8, hsim, by rw [hcp]; simp⟩, ?_⟩
      rintro k i h9 ⟨c, ma, mb, o9, A9, rfl, hc, rfl, s9, e9, hp9⟩
      refine dcd (fun hlt => ?_) (fun hge => ⟨rfl, s9.kp⟩)
      have hlt' : c < ops2.length := by omega
      obtain ⟨a, ha, cs, ⟨sd, sk, rfl, hop⟩, _, hr⟩ := hs2.ptr hlt'
      generalize ops2[c] = op at *
      have hr1 := RdL.kp0 hr s9.kp
      refine ⟨a, ha, by omega, by omega, op.kind, op.who, op.n, sd, sk, by rw [Int.toNat_natCast]; exact hr1, law2_twin_c s9 e9 hop (by omega) fun h10 m10 n10 o10 A10 s10 e10 hp10 => ⟨fun h => (nomatch h), fun _ => ?_⟩⟩
      exact ⟨_, Wr.i64 (by omega) (by omega), ops2.length - (c + 1), by omega, c + 1, m10, n10, o10, A10, by omega, by omega, rfl, s10, e10, by omega⟩
  · have : (n6.laid.length : Int) = n := by rw [← hsim.laid, hcl]; omega
    rw [this]; simp
end
end Go.Proofs.Ythpeadoidpimmaa
