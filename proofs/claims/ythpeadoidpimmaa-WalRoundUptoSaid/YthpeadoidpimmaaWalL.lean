/- The head that holds, a record on the disk: what the program's functions find. No condition. -/
import Derived.Test.YthpeadoidpimmaaWalK
import Derived.Test.YthpeadoidpimmaaGWalB
import Derived.Test.YthpeadoidpimmaaNeedC
namespace Go.Proofs.Ythpeadoidpimmaa
open Go Tw
set_option linter.unusedVariables false
set_option linter.unusedSimpArgs false
set_option maxRecDepth 10000
set_option maxHeartbeats 1000000

section
variable {h : Hp} {p : Option Addr} {m : Md} {F : Nat → Prop} {st n : Nat}

def hdO : Option Hd → List Value
  | none => [.int .i64 0, .int .i64 0, .int .i64 0, .int .i64 0]
  | some d => hdC d
def hdT : Option Hd → Nat
  | none => 0
  | some d => d.turn
theorem hdO_turn (o : Option Hd) : (hdO o)[2]? = some (.int .i64 (hdT o : Nat)) := by cases o <;> rfl
theorem hdO_len (o : Option Hd) : (hdO o).length = 4 := by cases o <;> rfl

theorem PD.kpb {h' : Hp} (d : PD h p m F) (hk : Kp (fun _ => False) h h') : PD h' p m F := (PD.kp d hk fun _ _ _ h => h).mono fun _ _ hx => hx.1

def bestN (m : Md) (st n j : Nat) : Option Hd := if j = 0 then none else if j = 1 then okHead (m.newest st) n 0 else best (okHead (m.newest st) n 0) (okHead (m.newest (st + 1)) n 1)

theorem wal_holds_c {K : Int → Int → Int → Int → Int → Hp → Prop} (d : PD h p m F) (hn : 4 ≤ n) (hm : st + n ≤ m.laid.length)
    (hK1 : ∀ hd h', holdsM m st n = (some hd, 0) → Kp (fun _ => False) h h' → K hd.round hd.lsn hd.turn hd.floor 0 h')
    (hK0 : ∀ e h', holdsM m st n = (none, e) → e ≠ 0 → Kp (fun _ => False) h h' → K 0 0 0 0 e h') : wal_area_holds p st n K h := by
  have hwf := d.wf
  have hhi := hwf.hi
  have hb1 := Bk.new h (arC p st n) 164
  have k1 : Kp (fun _ => False) h (h.push (Cel (arC p st n) 164)) := Kp.push (Kp.refl _ _) _
  refine ⟨_, _, rfl, rfl, ?_⟩
  have e1 : (h.push (Cel [.pointer p, .int .i64 (st : Int), .int .i64 (n : Int)] 164)) = h.push (Cel (arC p st n) 164) := rfl
  rw [e1]
  have s1 : (h.push (Cel (arC p st n) 164)).size = h.size + 1 := by simp
  generalize h.push (Cel (arC p st n) 164) = h1 at *
  have hb2 := Bk.new h1 (hdO none) 170
  have s2 : (h1.push (Cel (hdO none) 170)).size = h1.size + 1 := by simp
  have k2 : Kp (fun _ => False) h (h1.push (Cel (hdO none) 170)) := Kp.push k1 _
  have hb12 := hb1.push (Cel (hdO none) 170)
  refine ⟨_, _, rfl, rfl, ?_⟩
  have e2 : (h1.push (Cel [.int .i64 0, .int .i64 0, .int .i64 0, .int .i64 0] 170)) = h1.push (Cel (hdO none) 170) := rfl
  rw [e2]
  generalize h1.push (Cel (hdO none) 170) = h2 at *
  have hb3 := Bk.new h2 (hdO none) 170
  have k3 : Kp (fun _ => False) h (h2.push (Cel (hdO none) 170)) := Kp.push k2 _
  have hb13 := hb12.push (Cel (hdO none) 170)
  have hb23 := hb2.push (Cel (hdO none) 170)
  refine ⟨_, _, rfl, rfl, ?_⟩
  have e3 : (h2.push (Cel [.int .i64 0, .int .i64 0, .int .i64 0, .int .i64 0] 170)) = h2.push (Cel (hdO none) 170) := rfl
  rw [e3]
  generalize h2.push (Cel (hdO none) 170) = h3 at *
  generalize hq1 : h.size = q1 at *
  generalize hq2 : h1.size = q2 at *
  generalize hq3 : h2.size = q3 at *
  refine ⟨fun k i hh => ∃ j : Nat, i = j ∧ j ≤ 2 ∧ k = 2 - j ∧ Kp (fun _ => False) h hh ∧ Bk hh q1 (arC p st n) 164 ∧ Bk hh q2 (hdO none) 170 ∧ Bk hh q3 (hdO (bestN m st n j)) 170 ∧ (j ≠ 0 → m.down = false),
    ⟨_, 0, rfl, by omega, rfl, k3, hb13, hb23, hb3, fun h => (h rfl).elim⟩, ?_⟩
  rintro k i h4 ⟨j, rfl, hj, rfl, k4, hb14, hb24, hb34, hdn⟩
  have out : ∀ e hx, Kp (fun _ => False) h hx → Bk hx q2 (hdO none) 170 → holdsM m st n = (none, e) → e ≠ 0 → ∃ h43 : Hp, StL hx (nA q2) [.int .i64 0, .int .i64 0, .int .i64 0, .int .i64 0] h43 ∧ ∃ (n45 : Int) (n46 : Int) (n47 : Int) (n48 : Int), RdL h43 (nA q2) [.int .i64 n45, .int .i64 n46, .int .i64 n47, .int .i64 n48] ∧ K n45 n46 n47 n48 e h43 :=
    fun e hx kx bx he hne => ⟨_, bx.st0 rfl, 0, 0, 0, 0, bx.set.rd0, hK0 e _ he hne (kx.set _ (.inl (by omega)))⟩
  refine dcd (fun hlt => ?_) (fun hge => ?_)
  · have hlt' : j < 2 := by omega
    refine ⟨p, st, n, hb14.rd0, st, hb14.rdi 1 rfl, (st : Int) + j, Wr.i64 (by omega) (by omega), ?_⟩
    refine wal_read_c (PD.kpb d k4) fun bs h5 k5 hbl hbs => ?_
    have eat : (st : Int) + j = ((st + j : Nat) : Int) := by omega
    have hp := Bk.new h5 ((List.replicate 128 (0 : UInt8)).map bv) 178
    have kp5 : Kp (fun _ => False) h4 (setB (h5.push (Cel ((List.replicate 128 (0 : UInt8)).map bv) 178)) h5.size (Cel (bs.map bv) 178)) := (k5.push _).set _ (.inl k5.size)
    have hps : Bk (setB (h5.push (Cel ((List.replicate 128 (0 : UInt8)).map bv) 178)) h5.size (Cel (bs.map bv) 178)) h5.size (bs.map bv) 178 := hp.set
    refine ⟨_, _, rfl, rfl, _, hbl, hp.st0 (by simp [hbl]), ?_⟩
    generalize setB (h5.push (Cel ((List.replicate 128 (0 : UInt8)).map bv) 178)) h5.size (Cel (bs.map bv) 178) = h6 at *
    generalize h5.size = q5 at *
    have k6 := k4.trans kp5
    have hb16 := hb14.kp kp5 fun h => h
    have hb26 := hb24.kp kp5 fun h => h
    have hb36 := hb34.kp kp5 fun h => h
    by_cases hd : m.down = true
    · have er : (m.read ((st : Int) + j)).2 = 2 := by unfold Md.read; rw [if_neg (by omega), if_pos hd]
      rw [er]
      refine dcn (fun _ => out 2 h6 k6 hb26 (by unfold holdsM; rw [if_pos hd]) (by decide)) (fun h => by omega)
    · have er : m.read ((st : Int) + j) = (m.newest (st + j), 0) := by unfold Md.read; rw [if_neg (by omega), if_neg hd, eat, Int.toNat_natCast]
      rw [er] at hbs ⊢
      have hbs := hbs rfl
      simp only at hbs
      refine dcn (fun h => (h rfl).elim) (fun _ => ⟨n, hb16.rdi 2 rfl, ?_⟩)
      have hdf : m.down = false := by simpa using hd
      -- the step
      have fin : ∀ (o : Option Hd) (hx : Hp), okHead bs n j = o → Kp (fun _ => False) h hx → Bk hx q1 (arC p st n) 164 → Bk hx q2 (hdO none) 170 → Bk hx q3 (hdO (bestN m st n (j + 1))) 170 →
          ∃ n78 : Int, Wr .i64 ((j : Int) + 1) n78 ∧ ∃ m80, m80 < 2 - j ∧ ∃ j' : Nat, n78 = j' ∧ j' ≤ 2 ∧ m80 = 2 - j' ∧ Kp (fun _ => False) h hx ∧ Bk hx q1 (arC p st n) 164 ∧ Bk hx q2 (hdO none) 170 ∧ Bk hx q3 (hdO (bestN m st n j')) 170 ∧ (j' ≠ 0 → m.down = false) :=
        fun o hx ho a b c e => ⟨_, Wr.i64 (by omega) (by omega), 2 - (j + 1), by omega, j + 1, by omega, by omega, rfl, a, b, c, e, fun _ => hdf⟩
      have hnext : bestN m st n (j + 1) = best (bestN m st n j) (okHead bs n j) := by
        rw [hbs]
        rcases (show j = 0 ∨ j = 1 by omega) with rfl | rfl
        · simp only [bestN]
          cases okHead (m.newest (st + 0)) n 0 <;> simp [best]
        · simp [bestN]
      refine wal_readLead_c (side := j) hps hbl (by omega) (fun hd h7 ho k7 => ?_) (fun ho x y z w h7 k7 => ?_)
      · have hb17 := hb16.kp k7 fun h => h
        have hb27 := hb26.kp k7 fun h => h
        have hb37 := hb36.kp k7 fun h => h
        have hr := Bk.new h7 (hdO none) 170
        have kr : Kp (fun _ => False) h (setB (h7.push (Cel (hdO none) 170)) h7.size (Cel (hdC hd) 170)) := ((k6.trans k7).push _).set _ (.inl (by have := (k6.trans k7).size; omega))
        have hrs : Bk (setB (h7.push (Cel (hdO none) 170)) h7.size (Cel (hdC hd) 170)) h7.size (hdC hd) 170 := hr.set
        have l1 := hb17.lt
        have l2 := hb27.lt
        have l3 := hb37.lt
        have hb18 : Bk (setB (h7.push (Cel (hdO none) 170)) h7.size (Cel (hdC hd) 170)) q1 (arC p st n) 164 := (hb17.push _).set_ne (by omega)
        have hb28 : Bk (setB (h7.push (Cel (hdO none) 170)) h7.size (Cel (hdC hd) 170)) q2 (hdO none) 170 := (hb27.push _).set_ne (by omega)
        have hb38 : Bk (setB (h7.push (Cel (hdO none) 170)) h7.size (Cel (hdC hd) 170)) q3 (hdO (bestN m st n j)) 170 := (hb37.push _).set_ne (by omega)
        refine ⟨_, _, rfl, rfl, setB (h7.push (Cel (hdO none) 170)) h7.size (Cel (hdC hd) 170), hr.st0 (vs := hdC hd) rfl, ?_⟩
        generalize setB (h7.push (Cel (hdO none) 170)) h7.size (Cel (hdC hd) 170) = h8 at *
        generalize h7.size = q7 at *
        rw [ho] at hnext
        refine ⟨fun c hx => hx = h8 ∧ c = decide (hdT (bestN m st n j) < hd.turn), ?_, fun _ => ⟨hd.turn, hrs.rdi 2 rfl, (hdT (bestN m st n j) : Nat), hb38.rdi 2 (hdO_turn _), rfl, ?_⟩, fun h => (nomatch h)⟩
        · rintro c hx ⟨rfl, rfl⟩
          refine dcd (fun hgt => ?_) (fun hle => ?_)
          · have kw : Kp (fun _ => False) h (setB hx q3 (Cel (hdC hd) 170)) := kr.set _ (.inl (by omega))
            refine ⟨_, _, _, _, hrs.rd0, _, hb38.st0 (vs := hdC hd) (by rw [hdO_len]; rfl), fin _ _ ho kw (hb18.set_ne (by omega)) (hb28.set_ne (by omega)) ?_⟩
            have : bestN m st n (j + 1) = some hd := by
              rw [hnext]
              cases hbn : bestN m st n j with
              | none => rfl
              | some y => rw [hbn] at hgt; simp only [hdT] at hgt; simp [best, hgt]
            rw [this]
            exact hb38.set
          · refine fin _ _ ho kr hb18 hb28 ?_
            have : bestN m st n (j + 1) = bestN m st n j := by
              rw [hnext]
              cases hbn : bestN m st n j with
              | none =>
                rw [hbn] at hle; simp only [hdT] at hle
                have := (okHead_some ho).2.2.1.1
                omega
              | some y => rw [hbn] at hle; simp only [hdT] at hle; simp [best, hle]
            rw [this]; exact hb38
        · rw [Bool.eq_iff_iff]; simp
      · have hb17 := hb16.kp k7 fun h => h
        have hb27 := hb26.kp k7 fun h => h
        have hb37 := hb36.kp k7 fun h => h
        have hr := Bk.new h7 (hdO none) 170
        have l1 := hb17.lt
        have l2 := hb27.lt
        have l3 := hb37.lt
        rw [ho] at hnext
        have hnx : bestN m st n (j + 1) = bestN m st n j := hnext
        refine ⟨_, _, rfl, rfl, setB (h7.push (Cel (hdO none) 170)) h7.size (Cel [.int .i64 x, .int .i64 y, .int .i64 z, .int .i64 w] 170), hr.st0 rfl, ?_⟩
        refine ⟨fun c hx => hx = setB (h7.push (Cel (hdO none) 170)) h7.size (Cel [.int .i64 x, .int .i64 y, .int .i64 z, .int .i64 w] 170) ∧ c = false, ?_, fun h => (nomatch h), fun _ => ⟨rfl, rfl⟩⟩
        rintro c hx ⟨rfl, rfl⟩
        refine ⟨fun h => (nomatch h), fun _ => fin _ _ ho (((k6.trans k7).push _).set _ (.inl (by have := (k6.trans k7).size; omega))) ((hb17.push _).set_ne (by omega)) ((hb27.push _).set_ne (by omega)) ?_⟩
        rw [hnx]
        exact (hb37.push _).set_ne (by omega)
  · have hj2 : j = 2 := by omega
    subst hj2
    have hdf := hdn (by omega)
    have hbe : bestN m st n 2 = best (okHead (m.newest st) n 0) (okHead (m.newest (st + 1)) n 1) := rfl
    have hho : holdsM m st n = (match bestN m st n 2 with | none => (none, 30) | some h => if h.round = 2147483647 ∨ h.turn = 1099511627776 then (none, 31) else (some h, 0)) := by
      unfold holdsM; rw [if_neg (by simp [hdf]), hbe]
      rfl
    refine ⟨(hdT (bestN m st n 2) : Nat), hb34.rdi 2 (hdO_turn _), ?_⟩
    cases hbn : bestN m st n 2 with
    | none =>
      rw [hbn] at hho
      exact dcb (fun _ => out 30 h4 k4 hb24 hho (by decide)) (fun h => (h rfl).elim)
    | some hd =>
      rw [hbn] at hho hb34
      have hok : 1 ≤ hd.turn := by
        rw [hbe] at hbn
        unfold best at hbn
        split at hbn
        · exact (okHead_some hbn).2.2.1.1
        · rename_i y hy
          split at hbn
          · cases hbn; exact (okHead_some hy).2.2.1.1
          · rename_i x hx
            split at hbn
            · cases hbn; exact (okHead_some hy).2.2.1.1
            · cases hbn; exact (okHead_some hx).2.2.1.1
      refine dcb (fun h0 => by simp only [hdT] at h0; omega) (fun _ => ?_)
      refine ⟨fun c hx => hx = h4 ∧ c = decide (hd.round = 2147483647 ∨ hd.turn = 1099511627776), ?_, hd.round, hb34.rdi 0 rfl, dcb (fun hr => ⟨rfl, ?_⟩) (fun hr => ⟨hd.turn, hb34.rdi 2 rfl, rfl, ?_⟩)⟩
      · rintro c hx ⟨rfl, rfl⟩
        refine dcd (fun hbad => out 31 hx k4 hb24 (by rw [hho]; exact if_pos hbad) (by decide)) (fun hgood => ?_)
        exact ⟨_, _, _, _, hb34.rd0, _, hb24.st0 (vs := hdC hd) rfl, _, _, _, _, hb24.set.rd0, hK1 hd _ (by rw [hho]; exact if_neg hgood) (k4.set _ (.inl (by omega)))⟩
      · symm; simp only [decide_eq_true_eq]; left; omega
      · rw [Bool.eq_iff_iff]; simp only [beq_iff_eq, decide_eq_true_eq]; omega
end
end Go.Proofs.Ythpeadoidpimmaa
