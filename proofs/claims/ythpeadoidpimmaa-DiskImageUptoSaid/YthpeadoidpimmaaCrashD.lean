/- trellislaw2.DiskCrash answers true at all rounds. No condition but bounds on the lists. -/
import Derived.Test.YthpeadoidpimmaaLDiskCrash
import Derived.Test.YthpeadoidpimmaaCrashM
import Derived.Test.YthpeadoidpimmaaOwn
import Derived.Test.YthpeadoidpimmaaPlays
namespace Go.Proofs.Ythpeadoidpimmaa
open Go Tw
set_option linter.unusedVariables false
set_option linter.unusedSimpArgs false
set_option maxRecDepth 10000

/-- One disk (1), one more thing (6), the law's own things (5), what was there (0). -/
structure St3 (h0 h : Hp) (p : Option Addr) (m : Md) (V : Ass) (o : Nat → Nat) (A : Nat → Ass) : Prop where
  ow : Ow h o A
  a0 : A 0 = Ass.old h0
  a1 : A 1 = Ass.disk p m
  a6 : A 6 = V
  a5 : A 5 = Ass.top

section
variable {h0 h h1 : Hp} {p : Option Addr} {m m' : Md} {V W : Ass} {o o1 : Nat → Nat} {A : Nat → Ass}

theorem St3.kp (s : St3 h0 h p m V o A) : Kp (fun _ => False) h0 h := (s.ow.old s.a0).1
theorem St3.own (s : St3 h0 h p m V o A) : ∀ x, x < h0.size → o x = 0 := (s.ow.old s.a0).2
theorem St3.fresh (s : St3 h0 h p m V o A) (hk : Kp (fun _ => False) h h1) : St3 h0 h1 p m V (Gro o 5 h) A ∧ Stp (fun _ => False) h o h1 (Gro o 5 h) :=
  ⟨⟨(s.ow.fresh 5 hk).1, s.a0, s.a1, s.a6, s.a5⟩, (s.ow.fresh 5 hk).2⟩
theorem St3.disk (s : St3 h0 h p m V o A) (w : Ow h1 o1 (upd A 1 (Ass.disk p m'))) : St3 h0 h1 p m' V o1 (upd A 1 (Ass.disk p m')) := ⟨w, s.a0, rfl, s.a6, s.a5⟩
theorem St3.lst (s : St3 h0 h p m V o A) (w : Ow h1 o1 (upd A 6 W)) : St3 h0 h1 p m W o1 (upd A 6 W) := ⟨w, s.a0, s.a1, rfl, s.a5⟩
theorem Kp.stp {h h' : Hp} {o : Nat → Nat} {i : Nat} (hk : Kp (fun _ => False) h h') : Stp (fun _ => False) h o h' (Gro o i h) := ⟨fun _ hx => Gro.old hx, hk⟩

def PutR (x : Int × UInt8) (cs : List Value) : Prop := cs = [.int .i64 x.1, .int .u8 (x.2.toNat : Int)]

theorem law2_puts_c {n : Int} {sl : Sl} {l : List (Int × UInt8)} {K : Bool → Hp → Prop} (s : St3 h0 h p m V o A) (hl : Arr h0 sl 2 PutR l) (hn : (m.laid.length : Int) = n) (hon : m.On) (hcap : m.pend.length + l.length ≤ 1000000000000)
    (hK : ∀ h' m' o' A', St3 h0 h' p m' V o' A' → Stp (fun j => j = 1) h o h' o' → m'.On → m'.laid = m.laid → m'.pend = m.pend ++ wsOf m.laid.length fillB l → K true h') : law2_puts p n sl K h := by
  have hsl := hl.len
  refine ⟨fun k i hh => ∃ (j : Nat) (m' : Md) (o' : Nat → Nat) (A' : Nat → Ass), i = j ∧ j ≤ l.length ∧ k = l.length - j ∧ St3 h0 hh p m' V o' A' ∧ Stp (fun j => j = 1) h o hh o' ∧ m'.On ∧ m'.laid = m.laid ∧ m'.pend = m.pend ++ wsOf m.laid.length fillB (l.take j),
    ⟨_, 0, m, o, A, rfl, by omega, rfl, s, Stp.refl _ _ _, hon, rfl, by simp [wsOf]⟩, ?_⟩
  rintro k i h2 ⟨j, m2, o2, A2, rfl, hj, rfl, s2, t2, on2, e2, e3⟩
  refine dcd (fun hlt => ?_) (fun hge => ?_)
  · have hlt' : j < l.length := by omega
    obtain ⟨a, ha, cs, hcs, _, hr⟩ := hl.ptr hlt'
    have hx : l[j]? = some l[j] := by simp [hlt']
    have hws := wsOf_at m.laid.length fillB l j hlt'
    have hwl := wsOf_len m.laid.length fillB (l.take j)
    have htl : (l.take j).length = j := by simp; omega
    generalize l[j] = x at *
    obtain ⟨at_, fl⟩ := x
    simp only at hws
    unfold PutR at hcs; subst hcs
    have hr2 := RdL.kp0 hr s2.kp
    have hpl : m2.pend.length ≤ 1000000000000 := by rw [e3]; simp; omega
    refine ⟨a, ha, by omega, by omega, at_, by rw [Int.toNat_natCast]; exact hr2 0 _ rfl, by omega, by omega, (fl.toNat : Int), by rw [Int.toNat_natCast]; exact hr2 1 _ rfl, ?_⟩
    refine law2_filled_c fun s' h3 hk3 hv3 hn3 => ?_
    obtain ⟨s3, t3⟩ := s2.fresh hk3
    refine ⟨by rw [Int.toNat_natCast]; exact (RdL.kp0 hr s3.kp) 0 _ rfl, ow_Write s3.ow s3.a1 (Byt.of_vec hv3) (fun a ha _ e => ?_) hpl fun h4 w4 t4 => ?_⟩
    · have := hn3 _ ⟨a, ha, rfl⟩
      simp only [Gro, if_neg (show ¬ a.block < h2.size by omega)] at e
      omega
    have s4 := s3.disk w4
    have tt : Stp (fun j => j = 1) h o h4 _ := (t2.trans (t3.mono fun _ h => h.elim)).trans t4
    obtain ⟨q1, q2, q3, q4⟩ := on2.write at_ (fillB fl) (fillB_len fl)
    generalize (m2.write at_ (fillB fl)).2 = m4 at *
    generalize (m2.write at_ (fillB fl)).1 = e4 at *
    have hr4 := RdL.kp0 hr s4.kp
    have rd0 : rdc h4 ((a.add (Int.toNat (j : Int) * 2)).add 0) = some (.int .i64 at_) := by rw [Int.toNat_natCast]; exact hr4 0 _ rfl
    rw [e2] at q1 q2
    have fin : ∃ n40 : Int, Wr .i64 ((j : Int) + 1) n40 ∧ ∃ m42, m42 < l.length - j ∧ ∃ (j' : Nat) (m' : Md) (o' : Nat → Nat) (A' : Nat → Ass), n40 = j' ∧ j' ≤ l.length ∧ m42 = l.length - j' ∧ St3 h0 h4 p m' V o' A' ∧ Stp (fun j => j = 1) h o h4 o' ∧ m'.On ∧ m'.laid = m.laid ∧ m'.pend = m.pend ++ wsOf m.laid.length fillB (l.take j') := by
      refine ⟨_, Wr.i64 (by omega) (by omega), l.length - (j + 1), by omega, j + 1, m4, _, _, by omega, by omega, rfl, s4, tt, q3, by rw [q4, e2], ?_⟩
      rw [hws]
      by_cases hin : 0 ≤ at_ ∧ at_ < (m.laid.length : Int)
      · rw [(q1 hin).2, e3, if_pos hin, List.append_assoc]
      · rw [(q2 hin).2, e3, if_neg hin, List.append_nil]
    refine ⟨fun b h' => h' = h4 ∧ b = decide (0 ≤ at_ ∧ at_ < n), ?_, by omega, by omega, at_, rd0, dcd (fun hpos => ⟨by omega, by omega, at_, rd0, rfl, by simp; omega⟩) (fun hneg => ⟨rfl, by simp; omega⟩)⟩
    rintro b h5 ⟨rfl, rfl⟩
    refine ⟨fun b h' => b = false ∧ h' = h5, ?_, dcd (fun hin => dcn (fun hne => (hne (q1 (by omega)).1).elim) (fun _ => ⟨rfl, rfl⟩)) (fun hin => ⟨by rw [(q2 (by omega)).1]; rfl, rfl⟩)⟩
    rintro b h6 ⟨rfl, rfl⟩
    exact ⟨fun h => (nomatch h), fun _ => fin⟩
  · have hjl : j = l.length := by omega
    subst hjl
    rw [List.take_length] at e3
    exact hK _ _ _ _ s2 t2 on2 e2 e3

structure RndD where
  first : List (Int × UInt8)
  then_ : List (Int × UInt8)
  keep : List Bool
  dark : Bool
/-- What a sector list is behind a round. -/
def RndD.laid (x : RndD) (L : List (List UInt8)) : List (List UInt8) := layAll (layAll L (wsOf L.length fillB x.first)) (keptW (wsOf L.length fillB x.then_) x.keep)
theorem RndD.laid_len (x : RndD) (L : List (List UInt8)) : (x.laid L).length = L.length := by simp [RndD.laid, layAll_len]

theorem law2_round_c {n : Int} {s1 s2 s3 : Sl} {x : RndD} {K : Bool → Hp → Prop} (s : St3 h0 h p m V o A) (l1 : Arr h0 s1 2 PutR x.first) (l2 : Arr h0 s2 2 PutR x.then_) (l3 : Bls h0 s3 x.keep)
    (hn : (m.laid.length : Int) = n) (hon : m.On) (hp : m.pend = []) (c1 : x.first.length ≤ 1048576) (c2 : x.then_.length ≤ 1048576) (c3 : x.keep.length ≤ 1048576)
    (hK : ∀ h' m' o' A', St3 h0 h' p m' V o' A' → Stp (fun j => j = 1) h o h' o' → m'.On → m'.pend = [] → m'.laid = x.laid m.laid → K true h') : law2_round p n s1 s2 s3 x.dark K h := by
  have hb := Bk.new h [s1.v, s2.v, s3.v, .bool x.dark] 37
  have hk1 : Kp (fun _ => False) h (h.push (Cel [s1.v, s2.v, s3.v, .bool x.dark] 37)) := Kp.push (Kp.refl _ _) _
  refine ⟨_, _, rfl, rfl, s1, hb.rdi 0 rfl, ?_⟩
  obtain ⟨sa, ta⟩ := s.fresh hk1
  have ob : Gro o 5 h h.size = 5 := by simp [Gro]
  refine law2_puts_c sa l1 hn hon (by rw [hp]; simp; omega) fun h2 m2 o2 A2 sb tb on2 e2 e3 => ?_
  rw [hp, List.nil_append] at e3
  have hb2 := tb.bk hb (by rw [ob]; decide)
  have ob2 : o2 h.size = 5 := by rw [tb.own _ hb.lt]; exact ob
  refine ⟨fun b h' => b = false ∧ ∃ m' o' A', St3 h0 h' p m' V o' A' ∧ Stp (fun j => j = 1) h2 o2 h' o' ∧ m'.On ∧ m'.laid = layAll m.laid (wsOf m.laid.length fillB x.first) ∧ m'.pend = [], ?_, fun h => (nomatch h), fun _ => ?_⟩
  · rintro b h3 ⟨rfl, m3, o3, A3, sc, tc, on3, e4, e5⟩
    refine ⟨fun h => (nomatch h), fun _ => ?_⟩
    have hb3 := tc.bk hb2 (by rw [ob2]; decide)
    have ob3 : o3 h.size = 5 := by rw [tc.own _ hb2.lt]; exact ob2
    refine ⟨s2, hb3.rdi 1 rfl, ?_⟩
    refine law2_puts_c sc l2 (by rw [e4, layAll_len]; exact hn) on3 (by rw [e5]; simp; omega) fun h4 m4 o4 A4 sd td on4 e6 e7 => ⟨fun h => (nomatch h), fun _ => ?_⟩
    rw [e5, List.nil_append, e4, layAll_len] at e7
    have hb4 := td.bk hb3 (by rw [ob3]; decide)
    have ob4 : o4 h.size = 5 := by rw [td.own _ hb3.lt]; exact ob3
    have hpl := wsOf_len m.laid.length fillB x.then_
    refine ⟨fun b h' => b = false ∧ ∃ m' o' A', St3 h0 h' p m' V o' A' ∧ Stp (fun j => j = 1) h4 o4 h' o' ∧ m'.laid = m4.laid ∧ m'.pend = m4.pend, ?_, x.dark, hb4.rdi 3 rfl, fun hd => ?_, fun hd => ?_⟩
    · rintro b h5 ⟨rfl, m5, o5, A5, se, te, e8, e9⟩
      refine ⟨fun h => (nomatch h), fun _ => ?_⟩
      have hb5 := te.bk hb4 (by rw [ob4]; decide)
      refine ⟨s3, hb5.rdi 2 rfl, ?_⟩
      refine copy_bools (l3.kp se.kp fun _ _ h => h) (by omega) fun s' h6 hk6 hv6 hn6 => ?_
      obtain ⟨sf, tf⟩ := se.fresh hk6
      refine ow_Crash sf.ow sf.a1 (Bls.of_vec hv6) (fun a ha _ e => ?_) (by rw [e9, e7]; omega) fun h7 w7 t7 => ?_
      · have := hn6 _ ⟨a, ha, rfl⟩
        simp only [Gro, if_neg (show ¬ a.block < h5.size by omega)] at e
        omega
      obtain ⟨c1, c2, c3⟩ := m5.crash_on x.keep
      refine hK h7 _ _ _ (sf.disk w7) ?_ c1 c2 ?_
      · exact ((((((ta.mono fun _ h => h.elim).trans tb).trans tc).trans td).trans te).trans (tf.mono fun _ h => h.elim)).trans t7
      · rw [c3, e8, e9, e7, e6, e4]; rfl
    · refine ow_Cut sd.ow sd.a1 fun h5 w5 t5 => ?_
      have se := sd.disk w5
      obtain ⟨d1, d2, d3, d4⟩ := on4.dark
      rw [d1]
      refine dcn (fun hne => (hne rfl).elim) (fun _ => ow_Flush se.ow se.a1 fun h6 w6 t6 => ?_)
      rw [d2]
      exact ⟨rfl, _, _, _, se.disk w6, t5.trans t6, d3, d4⟩
    · exact ⟨rfl, m4, o4, A4, sd, Stp.refl _ _ _, rfl, rfl⟩
  · refine ow_Flush sb.ow sb.a1 fun h3 w3 t3 => ?_
    obtain ⟨f1, f2, f3, f4⟩ := on2.flush
    rw [f1]
    refine ⟨rfl, _, _, _, sb.disk w3, t3, f2, ?_, f4⟩
    rw [f3, e2, e3]

/-- The writes of which last asks. -/
def askW (n : Nat) (l : List (Int × UInt8)) (all : Bool) (keep : List Bool) : List Wrt := if all then wsOf n fillB l else keptW (wsOf n fillB l) keep
theorem askW_snoc (n : Nat) (l : List (Int × UInt8)) (all : Bool) (keep : List Bool) (i : Nat) (hi : i < l.length) :
    askW n (l.take (i + 1)) all keep = askW n (l.take i) all keep ++
      (if (0 ≤ l[i].1 ∧ l[i].1 < n) ∧ (all = true ∨ keep.getD (wsOf n fillB (l.take i)).length false = true) then [(l[i].1, fillB l[i].2)] else []) := by
  unfold askW
  by_cases hin : 0 ≤ l[i].1 ∧ l[i].1 < n
  · cases all with
    | true => simp only [if_true, true_or, and_true]; exact wsOf_at n fillB l i hi
    | false =>
      have h1 := keptW_snoc (wsOf n fillB l) keep _ _ (wsOf_get n fillB l i hi hin)
      have h2 := wsOf_pre n fillB l i
      have h3 := wsOf_pre n fillB l (i + 1)
      rw [wsOf_at n fillB l i hi, if_pos hin, List.length_append, List.length_singleton] at h3
      rw [h2, h3] at h1
      simp only [Bool.false_eq_true, if_false, false_or]
      rw [wsOf_at n fillB l i hi, if_pos hin, h1]
      by_cases hk : keep.getD (wsOf n fillB (l.take i)).length false = true
      · rw [if_pos hk, if_pos ⟨hin, hk⟩]
      · rw [if_neg hk, if_neg (fun h => hk h.2)]
  · have := wsOf_at n fillB l i hi
    rw [if_neg hin, List.append_nil] at this
    have hno : ¬ ((0 ≤ l[i].1 ∧ l[i].1 < n) ∧ (all = true ∨ keep.getD (wsOf n fillB (l.take i)).length false = true)) := fun h => hin h.1
    rw [this, if_neg hno, List.append_nil]

theorem law2_last_c {n at_ : Int} {nn : Nat} {sl sk so : Sl} {l : List (Int × UInt8)} {all : Bool} {keep : List Bool} {old : List UInt8} {K : Sl → Hp → Prop} (hl : Arr h sl 2 PutR l) (hk : Bls h sk keep) (ho : Byt h so old)
    (hn : (nn : Int) = n) (hlen : l.length ≤ 1048576)
    (hK : ∀ s' h', Kp (fun _ => False) h h' → Byt h' s' ((lastW (askW nn l all keep) at_).getD old) → (s' = so ∨ ∀ x, s'.blk x → h.size ≤ x) → K s' h') : law2_last sl n at_ all sk so K h := by
  have hsl := hl.len
  have hskl := hk.len
  refine ⟨fun q k out i hh => ∃ j : Nat, i = j ∧ j ≤ l.length ∧ q = l.length - j ∧ k = ((wsOf nn fillB (l.take j)).length : Int) ∧ Kp (fun _ => False) h hh ∧ Byt hh out ((lastW (askW nn (l.take j) all keep) at_).getD old) ∧ (out = so ∨ ∀ x, out.blk x → h.size ≤ x),
    ⟨_, 0, rfl, by omega, rfl, rfl, Kp.refl _ _, ?_, .inl rfl⟩, ?_⟩
  · have : askW nn (l.take 0) all keep = [] := by unfold askW; cases all <;> rfl
    rw [this]; exact ho
  rintro q k out i h2 ⟨j, rfl, hj, rfl, rfl, kp2, hb2, hf2⟩
  refine dcd (fun hlt => ?_) (fun hge => ?_)
  · have hlt' : j < l.length := by omega
    obtain ⟨a, ha, cs, hcs, _, hr⟩ := hl.ptr hlt'
    have hws := wsOf_at nn fillB l j hlt'
    have hask := askW_snoc nn l all keep j hlt'
    have hwl := wsOf_len nn fillB (l.take j)
    have htl : (l.take j).length = j := by simp; omega
    generalize l[j] = x at *
    obtain ⟨at2, fl⟩ := x
    simp only at hws hask
    unfold PutR at hcs; subst hcs
    have hr2 := RdL.kp0 hr kp2
    have rd0 : rdc h2 ((a.add (Int.toNat (j : Int) * 2)).add 0) = some (.int .i64 at2) := by rw [Int.toNat_natCast]; exact hr2 0 _ rfl
    have rd1 : rdc h2 ((a.add (Int.toNat (j : Int) * 2)).add 1) = some (.int .u8 (fl.toNat : Int)) := by rw [Int.toNat_natCast]; exact hr2 1 _ rfl
    generalize hc : (wsOf nn fillB (l.take j)).length = c at *
    refine ⟨fun k' out' h' => k' = ((wsOf nn fillB (l.take (j + 1))).length : Int) ∧ Kp (fun _ => False) h h' ∧ Byt h' out' ((lastW (askW nn (l.take (j + 1)) all keep) at_).getD old) ∧ (out' = so ∨ ∀ x, out'.blk x → h.size ≤ x), ?_, ?_⟩
    · rintro k' out' h3 ⟨rfl, kp3, hb3, hf3⟩
      exact ⟨_, Wr.i64 (by omega) (by omega), l.length - (j + 1), by omega, j + 1, by omega, by omega, rfl, rfl, kp3, hb3, hf3⟩
    refine ⟨fun b h' => h' = h2 ∧ b = decide (at2 < 0 ∨ at2 ≥ n), ?_, a, ha, by omega, by omega, at2, rd0, dcd (fun hh => ⟨rfl, by simp [hh]⟩) (fun hh => ⟨by omega, by omega, at2, rd0, rfl, by simp [hh]⟩)⟩
    rintro b h3 ⟨rfl, rfl⟩
    refine dcd (fun hout => ?_) (fun hin => ?_)
    · rw [if_neg (fun h => by omega), List.append_nil] at hask
      rw [if_neg (by omega), List.append_nil] at hws
      refine ⟨by rw [hws, hc], kp2, by rw [hask]; exact hb2, hf2⟩
    have hin' : 0 ≤ at2 ∧ at2 < (nn : Int) := by omega
    rw [if_pos hin'] at hws
    have hwl2 : (wsOf nn fillB (l.take (j + 1))).length = c + 1 := by rw [hws]; simp [hc]
    refine ⟨fun b h' => h' = h3 ∧ b = decide (all = true ∨ keep.getD c false = true), ?_, fun ha => ⟨rfl, by simp [ha]⟩, fun ha => dcd (fun hlk => ?_) (fun hgk => ⟨rfl, ?_⟩)⟩
    · rintro b h4 ⟨rfl, rfl⟩
      refine ⟨((c : Int) + 1), Wr.i64 (by omega) (by omega), fun b h' => h' = h4 ∧ b = decide ((all = true ∨ keep.getD c false = true) ∧ at2 = at_), ?_, dcd (fun hkp => ⟨a, ha, by omega, by omega, at2, rd0, rfl, ?_⟩) (fun hkp => ⟨rfl, by simp; intro h; exact absurd h (by simpa using hkp)⟩)⟩
      · rintro b h5 ⟨rfl, rfl⟩
        refine dcd (fun hy => ?_) (fun hno => ?_)
        · refine ⟨a, ha, by omega, by omega, (fl.toNat : Int), rd1, law2_filled_c fun s' h6 hk6 hv6 hn6 => ?_⟩
          have hsz := kp2.size
          refine ⟨by rw [hwl2]; rfl, kp2.trans hk6, ?_, .inr fun x hx => Nat.le_trans hsz (hn6 x hx)⟩
          rw [hask, if_pos ⟨hin', hy.1⟩, lastW_snoc]
          have : (at_ == (at2, fillB fl).1) = true := by simp [hy.2]
          rw [this]
          exact Byt.of_vec hv6
        · refine ⟨by rw [hwl2]; rfl, kp2, ?_, hf2⟩
          rw [hask]
          by_cases hkp : all = true ∨ keep.getD c false = true
          · rw [if_pos ⟨hin', hkp⟩, lastW_snoc]
            have : (at_ == (at2, fillB fl).1) = false := by
              simp; intro e; exact hno ⟨hkp, e.symm⟩
            rw [this]; exact hb2
          · rw [if_neg (fun h => hkp h.2), List.append_nil]; exact hb2
      · have : (decide ((all = true ∨ keep.getD c false = true) ∧ at2 = at_)) = (at2 == at_) := by
          rw [Bool.eq_iff_iff]; simp only [decide_eq_true_eq, beq_iff_eq]
          exact ⟨fun h => h.2, fun h => ⟨hkp, h⟩⟩
        exact this.symm
    · have hlk' : c < keep.length := by omega
      obtain ⟨a2, ha2, hr3⟩ := (hk.kp kp2 fun _ _ h => h).at hlk'
      refine ⟨a2, ha2, by omega, by omega, keep[c], by rw [Int.toNat_natCast, Nat.mul_one]; exact hr3, rfl, ?_⟩
      simp [ha, List.getD, hlk']
    · have hg0 : keep.getD c false = false := by rw [List.getD, List.getElem?_eq_none (by omega)]; rfl
      rw [decide_eq_false]
      rintro (h1 | h1)
      · rw [ha] at h1; cases h1
      · rw [hg0] at h1; cases h1
  · have hjl : j = l.length := by omega
    subst hjl
    rw [List.take_length] at hb2
    exact hK _ _ kp2 hb2 hf2

/-- The law's own list of sectors. -/
structure LaidR (h : Hp) (o : Nat → Nat) (sls : List Sl) (ls : List (List UInt8)) : Prop where
  len : sls.length = ls.length
  at_ : ∀ (i : Nat) (x : Sl) (bs : List UInt8), sls[i]? = some x → ls[i]? = some bs → Byt h x bs ∧ ∀ a, x.p = some a → o a.block = 5
def vecL (s : Sl) (sls : List Sl) : Ass := Ass.vec s 1 24 (sls.map Sl.v)

theorem Byt.blt {s : Sl} {bs : List UInt8} (hb : Byt h s bs) (hne : bs ≠ []) {a : Addr} (ha : s.p = some a) : a.block < h.size := hb.lt hne ha

theorem LaidR.stp {S : Nat → Prop} {sls : List Sl} {ls : List (List UInt8)} (r : LaidR h o sls ls) (h128 : ∀ b ∈ ls, b.length = 128) (t : Stp S h o h1 o1) (hS : ¬ S 5) : LaidR h1 o1 sls ls := by
  refine ⟨r.len, fun i x bs hx hb => ?_⟩
  obtain ⟨q1, q2⟩ := r.at_ i x bs hx hb
  have hl := h128 bs (List.mem_of_getElem? hb)
  refine ⟨q1.kp t.kp fun a ha => by rw [q2 a ha]; exact hS, fun a ha => ?_⟩
  rw [t.own _ (q1.lt (by intro e; rw [e] at hl; simp at hl) ha)]
  exact q2 a ha

theorem sl_rd {s : Sl} {sls : List Sl} (hv : Vec h s 1 24 (sls.map Sl.v)) {i : Nat} {x : Sl} (hx : sls[i]? = some x) : ∃ a, s.p = some a ∧ rdc h (a.add (i * 1)) = some (x.v) := by
  have hl := hv.len
  have hi := (List.getElem?_eq_some_iff.1 hx).1
  obtain ⟨a, ha⟩ := hv.ptr (by simp at hl; omega)
  exact ⟨a, ha, by rw [Nat.mul_one]; exact hv.rdc ha (by rw [List.getElem?_map, hx]; rfl)⟩

theorem law2_holds_c {sl sk : Sl} {sls : List Sl} {again : List Bool} {K : Bool → Hp → Prop} (s : St3 h0 h p m (vecL sl sls) o A) (r : LaidR h o sls m.laid) (hk : Bls h0 sk again) (hka : again.length ≤ 1048576) (hon : m.On) (hp : m.pend = [])
    (hK : ∀ h' m' o' A', St3 h0 h' p m' (vecL sl sls) o' A' → Stp (fun j => j = 1) h o h' o' → m'.On → m'.pend = [] → m'.laid = m.laid → K true h') : law2_holds p sl sk K h := by
  have hwf := (s.ow.disk s.a1).wf
  have hhi := hwf.hi
  have hsl : sl.len = m.laid.length := by
    have := (s.ow.vec s.a6).1.len
    have := r.len
    simp at *; omega
  refine ⟨fun k i hh => ∃ (j : Nat) (o' : Nat → Nat), i = j ∧ j ≤ m.laid.length ∧ k = m.laid.length - j ∧ St3 h0 hh p m (vecL sl sls) o' A ∧ Stp (fun _ => False) h o hh o', ⟨_, 0, o, rfl, by omega, rfl, s, Stp.refl _ _ _⟩, ?_⟩
  rintro k i h2 ⟨j, o2, rfl, hj, rfl, s2, t2⟩
  have r2 := r.stp hwf.sec t2 id
  rw [hsl]
  refine dcd (fun hlt => ?_) (fun hge => ?_)
  · have hlt' : j < m.laid.length := by omega
    refine ow_Read 5 s2.ow s2.a1 fun x h3 w3 t3 hv3 hn3 => ?_
    have s3 : St3 h0 h3 p m (vecL sl sls) _ A := ⟨w3, s2.a0, s2.a1, s2.a6, s2.a5⟩
    have r3 := r2.stp hwf.sec t3 id
    rw [hon.read hlt' hp] at hv3 ⊢
    obtain ⟨y, hy⟩ : ∃ y, sls[j]? = some y := ⟨sls[j]'(by rw [r.len]; exact hlt'), by simp [r.len, hlt']⟩
    have hl : m.laid[j]? = some m.laid[j] := by simp [hlt']
    obtain ⟨q1, q2⟩ := r3.at_ j y _ hy hl
    obtain ⟨a, ha, hr⟩ := sl_rd (w3.vec s2.a6).1 hy
    refine ⟨a, ha, by omega, by omega, y, by rw [Int.toNat_natCast]; exact hr, ?_⟩
    have h128 := hwf.sec _ (List.mem_of_getElem? hl)
    refine law2_same_c (x := m.laid[j]) (Byt.of_vec hv3) q1 (by omega) ?_
    refine ⟨fun b h' => b = false ∧ h' = h3, ?_, dcn (fun hne => (hne rfl).elim) (fun _ => ⟨rfl, rfl⟩)⟩
    rintro b h4 ⟨rfl, rfl⟩
    exact ⟨fun h => (nomatch h), fun _ => ⟨_, Wr.i64 (by omega) (by omega), m.laid.length - (j + 1), by omega, j + 1, _, by omega, by omega, rfl, s3, t2.trans t3⟩⟩
  · refine copy_bools (hk.kp s2.kp fun _ _ h => h) (by omega) fun s' h3 hk3 hv3 hn3 => ?_
    obtain ⟨s3, t3⟩ := s2.fresh hk3
    refine ow_Crash s3.ow s3.a1 (Bls.of_vec hv3) (fun a ha _ e => ?_) (by rw [hp]; simp) fun h4 w4 t4 => ?_
    · have := hn3 _ ⟨a, ha, rfl⟩
      simp only [Gro, if_neg (show ¬ a.block < h2.size by omega)] at e
      omega
    have e0 : (m.crash again).1 = 0 := by unfold Md.crash; rw [hp]; rfl
    rw [e0]
    obtain ⟨c1, c2, c3⟩ := m.crash_on again
    refine dcb (fun _ => hK h4 _ _ _ (s3.disk w4) (((t2.trans t3).mono fun _ h => h.elim).trans t4) c1 c2 ?_) (fun hne => (hne rfl).elim)
    rw [c3, hp]; rfl
end
end Go.Proofs.Ythpeadoidpimmaa
