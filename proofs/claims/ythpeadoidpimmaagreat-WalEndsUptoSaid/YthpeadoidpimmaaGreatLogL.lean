/- trellislaw3's helpers: two disks, two logs, held against one another. No condition. -/
import Derived.Test.YthpeadoidpimmaaGreatGLawB
import Derived.Test.YthpeadoidpimmaaGreatRefO
import Derived.Test.YthpeadoidpimmaaGreatOpen
namespace Tw
open Go
set_option linter.unusedVariables false

/-! ### An opened log is a sound one -/
theorem findGo_ok {rd : Nat → List UInt8} {st n high : Nat} (h128 : ∀ c, (rd (place st n c)).length = 128) : ∀ (f p low room : Nat) (rs : List Rec) (q : Nat), findGo rd st n high f p low room = (rs, q) → p ≤ 1099511627777 →
    Chain rs p q ∧ q ≤ p + room ∧ q ≤ 1099511627777 ∧ ∀ r ∈ rs, r.data.length ≤ 32768 ∧ r.kind < 256 ∧ r.round ≤ 2147483647
  | 0, p, low, room, rs, q, h, hp => by
    simp only [findGo, Prod.mk.injEq] at h
    obtain ⟨rfl, rfl⟩ := h
    exact ⟨rfl, by omega, hp, fun r hr => (nomatch hr)⟩
  | f + 1, p, low, room, rs, q, h, hp => by
    rw [findGo] at h
    split at h
    · simp only [Prod.mk.injEq] at h
      obtain ⟨rfl, rfl⟩ := h
      exact ⟨rfl, by omega, hp, fun r hr => (nomatch hr)⟩
    · cases hr : recAt rd st n p low high room with
      | none =>
        rw [hr] at h
        simp only [Prod.mk.injEq] at h
        obtain ⟨rfl, rfl⟩ := h
        exact ⟨rfl, by omega, hp, fun r hr => (nomatch hr)⟩
      | some r =>
        rw [hr] at h
        simp only [Prod.mk.injEq] at h
        obtain ⟨rfl, rfl⟩ := h
        obtain ⟨g1, g2, g3, g4, g5, g6, g7, g8, g9⟩ := findGo_len (fun j => h128 (p + j)) hr
        have hnp := needN_pos r.data.length
        obtain ⟨c1, c2, c3, c4⟩ := findGo_ok h128 f (p + needN r.data.length) r.round (room - needN r.data.length) _ _ rfl (by omega)
        refine ⟨⟨g1, c1⟩, by omega, c3, fun x hx => ?_⟩
        rcases List.mem_cons.1 hx with rfl | hx
        · exact ⟨g2, g5, g9⟩
        · exact c4 x hx

theorem holdsM_ok {m : Md} {st n : Nat} {x : Hd} {e : Int} (h : holdsM m st n = (some x, e)) :
    m.down = false ∧ (1 ≤ x.round ∧ x.round < 2147483647) ∧ (1 ≤ x.lsn ∧ x.lsn ≤ 1099511627776) ∧ (1 ≤ x.turn ∧ x.turn < 1099511627776) ∧ (1 ≤ x.floor ∧ x.floor ≤ x.round) := by
  unfold holdsM at h
  split at h
  · cases h
  · rename_i hd
    split at h
    · cases h
    · rename_i y hy
      split at h
      · cases h
      · rename_i hb
        cases h
        have : okHead (m.newest st) n 0 = some x ∨ okHead (m.newest (st + 1)) n 1 = some x := by
          unfold best at hy
          split at hy
          · exact .inl hy
          · rename_i z hz
            split at hy
            · cases hy; exact .inr hz
            · rename_i w hw
              split at hy
              · cases hy; exact .inr hz
              · cases hy; exact .inl hw
        have hd' : m.down = false := by simpa using hd
        rcases this with h | h <;> (have q := okHead_some h; exact ⟨hd', ⟨q.1.1, by omega⟩, q.2.1, ⟨q.2.2.1.1, by omega⟩, q.2.2.2.1⟩)

theorem opn_wf {m : Md} {st n : Nat} {l : Lg} {e : Int} {m' : Md} (hw : m.Wf) (hn : 4 ≤ n) (hm : st + n ≤ m.laid.length) (h : opn m st n = ((some l, e), m')) : l.Wf ∧ l.st = st ∧ l.n = n ∧ l.durable = l.next ∧ l.reserved = 0 ∧ l.dead = false ∧ e = 0 := by
  have hhi := hw.hi
  have h128 : ∀ c, (m.newest (place st n c)).length = 128 := fun c => Md.newest_len hw (by
    have hlt : (c - 1) % (n - 2) < n - 2 := Nat.mod_lt _ (by omega)
    unfold place; omega)
  unfold opn at h
  split at h
  · cases h
  · rename_i x e' hx
    obtain ⟨hd, q1, q2, q3, q4⟩ := holdsM_ok hx
    generalize hX : findGo m.newest st n x.round (n - 2) x.lsn x.floor (n - 2) = X at h
    simp only at h
    split at h
    · cases h
      obtain ⟨c1, c2, c3, c4⟩ := findGo_ok (rd := m.newest) (st := st) (n := n) (high := x.round) h128 (n - 2) x.lsn x.floor (n - 2) X.1 X.2 hX (by omega)
      have := Chain.le c1
      exact ⟨⟨hn, by show st + n ≤ 4096; omega, q2.1, c1, by show X.2 - x.lsn + 0 ≤ n - 2; omega, c3, Nat.le_refl _, by show x.round + 1 ≤ _; omega, by show x.turn + 1 ≤ _; omega, c4⟩, rfl, rfl, rfl, rfl, rfl, rfl⟩
    · cases h
end Tw
namespace Go.Proofs.YthpeadoidpimmaaGreat
open Go Tw
set_option linter.unusedVariables false
set_option linter.unusedSimpArgs false
set_option maxRecDepth 10000
set_option maxHeartbeats 1000000

section
variable {h : Hp}

theorem law3_walSame_c {a b : Sl} {x : List UInt8} {K : Bool → Hp → Prop} (ha : Byt h a x) (hb : Byt h b x) (hl : x.length < 9223372036854775807) (hK : K true h) : law3_walSame a b K h := by
  have h1 := ha.len
  have h2 := hb.len
  refine dcn (fun hn => by omega) (fun _ => ⟨fun k i h' => ∃ j : Nat, i = j ∧ j ≤ x.length ∧ k = x.length - j ∧ h' = h, ⟨_, 0, rfl, by omega, rfl, rfl⟩, ?_⟩)
  rintro k i h' ⟨j, rfl, hj, rfl, rfl⟩
  refine dcd (fun hlt => ?_) (fun _ => hK)
  have hlt' : j < x.length := by omega
  obtain ⟨p, hp, hr⟩ := ha.at hlt'
  obtain ⟨q, hq, hs⟩ := hb.at hlt'
  refine ⟨p, hp, by omega, by omega, (x[j].toNat : Int), ?_, q, hq, by omega, by omega, (x[j].toNat : Int), ?_, dcn (fun hn => (hn rfl).elim) (fun _ => ?_)⟩
  · rw [Nat.mul_one, Int.toNat_natCast]; exact hr
  · rw [Nat.mul_one, Int.toNat_natCast]; exact hs
  · exact ⟨_, Wr.i64 (by omega) (by omega), x.length - (j + 1), by omega, j + 1, by omega, by omega, rfl, rfl⟩

theorem law3_walWrites_c {a b : Sl} {l1 l2 : List (Wrt × Sl)} {G1 G2 : Nat → Prop} {K : Bool → Hp → Prop} (ha : WLs h a l1 G1) (hb : WLs h b l2 G2) (he : l1.map (·.1) = l2.map (·.1)) (hl : l1.length < 9223372036854775807)
    (hd : ∀ x ∈ l1, x.1.2.length < 9223372036854775807) (hK : K true h) : law3_walWrites a b K h := by
  have h1 := ha.len
  have h2 := hb.len
  have hll : l1.length = l2.length := by have := congrArg List.length he; simpa using this
  refine dcn (fun hn => by omega) (fun _ => ⟨fun k i h' => ∃ j : Nat, i = j ∧ j ≤ l1.length ∧ k = l1.length - j ∧ h' = h, ⟨_, 0, rfl, by omega, rfl, rfl⟩, ?_⟩)
  rintro k i h' ⟨j, rfl, hj, rfl, rfl⟩
  refine dcd (fun hlt => ?_) (fun _ => hK)
  have hlt1 : j < l1.length := by omega
  have hlt2 : j < l2.length := by omega
  obtain ⟨p, hp, hp0, hp1⟩ := wls_at ha hlt1
  obtain ⟨q, hq, hq0, hq1⟩ := wls_at hb hlt2
  have heq : l1[j].1 = l2[j].1 := by
    have : (l1.map (·.1))[j]? = (l2.map (·.1))[j]? := by rw [he]
    simpa [hlt1, hlt2] using this
  have hm1 : l1[j] ∈ l1 := List.getElem_mem hlt1
  have hm2 : l2[j] ∈ l2 := List.getElem_mem hlt2
  refine ⟨fun bb h2 => bb = false ∧ h2 = h', ?_, p, hp, by omega, by omega, l1[j].1.1, by rw [Int.toNat_natCast]; exact hp0, q, hq, by omega, by omega, l2[j].1.1, by rw [Int.toNat_natCast]; exact hq0, dcn (fun hn => (hn (by rw [heq])).elim) (fun _ => ?_)⟩
  · rintro bb h2 ⟨rfl, rfl⟩
    exact ⟨fun h => (nomatch h), fun _ => ⟨_, Wr.i64 (by omega) (by omega), l1.length - (j + 1), by omega, j + 1, by omega, by omega, rfl, rfl⟩⟩
  · refine ⟨by omega, by omega, l1[j].2, by rw [Int.toNat_natCast]; exact hp1, by omega, by omega, l2[j].2, by rw [Int.toNat_natCast]; exact hq1, ?_⟩
    exact law3_walSame_c (Byt.of_vec (ha.dat _ hm1)) (by rw [heq]; exact Byt.of_vec (hb.dat _ hm2)) (hd _ hm1) ⟨rfl, rfl⟩

theorem rcl_at {s : Sl} {l : List (Rec × Sl)} {G : Nat → Prop} (w : RcL h s l G) {i : Nat} (hi : i < l.length) : ∃ a, s.p = some a ∧ rdc h ((a.add (i * 3)).add 0) = some (.int .i64 (l[i].1.lsn : Nat)) ∧ rdc h ((a.add (i * 3)).add 1) = some (.int .i64 (l[i].1.kind : Nat)) ∧ rdc h ((a.add (i * 3)).add 2) = some (l[i].2.v) := by
  have hl := w.vec.len
  rw [flat_len rcE 3 l fun _ _ => rfl] at hl
  obtain ⟨a, ha⟩ := w.vec.ptr (by omega)
  have hq : l[i]? = some l[i] := by simp [hi]
  have hr : RdL h (a.add (i * 3)) (rcE l[i]) := w.vec.rdl ha fun j v hj => flat_get rcE 3 l (fun _ _ => rfl) i _ hq j v hj
  exact ⟨a, ha, hr 0 _ rfl, hr 1 _ rfl, hr 2 _ rfl⟩
theorem rcl_len {s : Sl} {l : List (Rec × Sl)} {G : Nat → Prop} (w : RcL h s l G) : s.len = l.length := by
  have hl := w.vec.len
  rw [flat_len rcE 3 l fun _ _ => rfl] at hl
  omega

theorem law3_walRecs_c {a b : Sl} {l1 l2 : List (Rec × Sl)} {G1 G2 : Nat → Prop} {K : Bool → Hp → Prop} (ha : RcL h a l1 G1) (hb : RcL h b l2 G2) (he : l1.map (·.1) = l2.map (·.1)) (hl : l1.length < 9223372036854775807)
    (hd : ∀ x ∈ l1, x.1.data.length < 9223372036854775807) (hK : K true h) : law3_walRecs a b K h := by
  have h1 := rcl_len ha
  have h2 := rcl_len hb
  have hll : l1.length = l2.length := by have := congrArg List.length he; simpa using this
  refine dcn (fun hn => by omega) (fun _ => ⟨fun k i h' => ∃ j : Nat, i = j ∧ j ≤ l1.length ∧ k = l1.length - j ∧ h' = h, ⟨_, 0, rfl, by omega, rfl, rfl⟩, ?_⟩)
  rintro k i h' ⟨j, rfl, hj, rfl, rfl⟩
  refine dcd (fun hlt => ?_) (fun _ => hK)
  have hlt1 : j < l1.length := by omega
  have hlt2 : j < l2.length := by omega
  obtain ⟨p, hp, hp0, hp1, hp2⟩ := rcl_at ha hlt1
  obtain ⟨q, hq, hq0, hq1, hq2⟩ := rcl_at hb hlt2
  have heq : l1[j].1 = l2[j].1 := by
    have : (l1.map (·.1))[j]? = (l2.map (·.1))[j]? := by rw [he]
    simpa [hlt1, hlt2] using this
  have hm1 : l1[j] ∈ l1 := List.getElem_mem hlt1
  have hm2 : l2[j] ∈ l2 := List.getElem_mem hlt2
  refine ⟨fun bb h2 => bb = false ∧ h2 = h', ?_, p, hp, by omega, by omega, _, by rw [Int.toNat_natCast]; exact hp0, q, hq, by omega, by omega, _, by rw [Int.toNat_natCast]; exact hq0, dcn (fun hn => (hn (by rw [heq])).elim) (fun _ => ?_)⟩
  · rintro bb h2 ⟨rfl, rfl⟩
    exact ⟨fun h => (nomatch h), fun _ => ⟨_, Wr.i64 (by omega) (by omega), l1.length - (j + 1), by omega, j + 1, by omega, by omega, rfl, rfl⟩⟩
  · refine ⟨by omega, by omega, _, by rw [Int.toNat_natCast]; exact hp1, by omega, by omega, _, by rw [Int.toNat_natCast]; exact hq1, dcn (fun hn => (hn (by rw [heq])).elim) (fun _ => ?_)⟩
    refine ⟨by omega, by omega, l1[j].2, by rw [Int.toNat_natCast]; exact hp2, by omega, by omega, l2[j].2, by rw [Int.toNat_natCast]; exact hq2, ?_⟩
    exact law3_walSame_c (ha.dat _ hm1) (by rw [heq]; exact hb.dat _ hm2) (hd _ hm1) ⟨rfl, rfl⟩

theorem RcL.kp0 {h' : Hp} {s : Sl} {l : List (Rec × Sl)} {G : Nat → Prop} (w : RcL h s l G) (hk : Kp (fun _ => False) h h') : RcL h' s l G :=
  ⟨w.vec.kp hk fun _ _ h => h, fun x hx => (w.dat x hx).kp hk fun _ _ h => h, w.fs, fun x hx y hy => ⟨(w.fd x hx y hy).1, (w.fd x hx y hy).2.1, Nat.lt_of_lt_of_le (w.fd x hx y hy).2.2 hk.size⟩⟩
end

/-! ### Disks that may not be there -/
def Ass.non (p : Option Addr) : Ass := ⟨fun _ _ => p = none, fun p _ _ => p, fun p _ => p⟩
def Ass.diskO (p : Option Addr) : Option Md → Ass
  | none => Ass.non p
  | some m => Ass.disk p m
def Ass.rdiskO (p : Option Addr) : Option Md → Ass
  | none => Ass.non p
  | some m => Ass.rdisk p m

section
variable {h0 h h1 : Hp} {o : Nat → Nat} {A : Nat → Ass} {p r : Option Addr} {mo : Option Md} {start n : Int}

def smallO (mo : Option Md) (k : Nat) : Prop := ∀ m, mo = some m → m.pend.length ≤ k
def wfO (mo : Option Md) : Prop := ∀ m, mo = some m → m.Wf

/-- Both disks (1, 2), what was there (0). -/
structure W2 (h0 h : Hp) (p r : Option Addr) (mo : Option Md) (o : Nat → Nat) (A : Nat → Ass) : Prop where
  ow : Ow h o A
  a0 : A 0 = Ass.old h0
  a1 : A 1 = Ass.diskO p mo
  a2 : A 2 = Ass.rdiskO r mo

theorem W2.kp (s : W2 h0 h p r mo o A) : Kp (fun _ => False) h0 h := (s.ow.old s.a0).1
theorem W2.own (s : W2 h0 h p r mo o A) : ∀ x, x < h0.size → o x = 0 := (s.ow.old s.a0).2
theorem W2.fresh (t : Nat) (s : W2 h0 h p r mo o A) (hk : Kp (fun _ => False) h h1) : W2 h0 h1 p r mo (Gro o t h) A ∧ Stp (fun _ => False) h o h1 (Gro o t h) := ⟨⟨(s.ow.fresh t hk).1, s.a0, s.a1, s.a2⟩, (s.ow.fresh t hk).2⟩
theorem W2.pn (s : W2 h0 h p r none o A) : p = none ∧ r = none := ⟨s.ow.at s.a1, s.ow.at s.a2⟩
theorem W2.ps {m : Md} (s : W2 h0 h p r (some m) o A) : p.isNone = false ∧ r.isNone = false := by
  refine ⟨PD.ne (s.ow.disk s.a1), ?_⟩
  obtain ⟨b, bl, sw, l, rfl, d⟩ := s.ow.rdisk s.a2
  rfl
theorem W2.isN (s : W2 h0 h p r mo o A) : p.isNone = mo.isNone ∧ r.isNone = mo.isNone := by
  cases mo with
  | none => rw [(W2.pn s).1, (W2.pn s).2]; exact ⟨rfl, rfl⟩
  | some m => exact W2.ps s
theorem W2.wf (s : W2 h0 h p r mo o A) : wfO mo := fun m hm => by subst hm; exact (s.ow.disk s.a1).wf

theorem law3_walDisks_c {K : Bool → Hp → Prop} (s : W2 h0 h p r mo o A) (hs : smallO mo 900000000000)
    (hK : ∀ h' o', W2 h0 h' p r mo o' A → Stp (fun _ => False) h o h' o' → K true h') : law3_walDisks p r K h := by
  cases mo with
  | none =>
    obtain ⟨rfl, rfl⟩ := W2.pn s
    refine disk_Image_none_c (ref2_Image_none_c (law3_walSame_c (x := []) ⟨rfl, Nat.le_refl _, rfl, rfl⟩ ⟨rfl, Nat.le_refl _, rfl, rfl⟩ (by simp) ⟨fun _ => ?_, fun h => (nomatch h)⟩))
    refine disk_Pending_none_c (ref2_Pending_none_c (law3_walWrites_c (WLs.nil _ (fun _ => False)) (WLs.nil _ (fun _ => False)) rfl (by simp) (by simp) ⟨fun _ => ?_, fun h => (nomatch h)⟩))
    refine disk_Stat_none_c fun h1 k1 => ref2_Stat_none_c fun h2 k2 => ?_
    obtain ⟨s2, t2⟩ := W2.fresh 8 s (k1.trans k2)
    exact hK h2 _ s2 t2
  | some m =>
    have hwf := (s.ow.disk s.a1).wf
    have hsm := hs m rfl
    have hfl := flat_len128 _ hwf.sec
    have hhi := hwf.hi
    refine ow_Image 8 s.ow s.a1 fun x h1 w1 t1 v1 n1 => rw_Image 8 w1 s.a2 fun y h2 w2 t2 v2 n2 => ?_
    refine law3_walSame_c ((Byt.of_vec v1).kp t2.kp fun _ _ h => h) (Byt.of_vec v2) (by rw [hfl]; omega) ⟨fun _ => ?_, fun h => (nomatch h)⟩
    refine ow_Pending 8 w2 s.a1 (by omega) fun x3 l3 h3 w3 t3 v3 e3 => rw_Pending 8 w3 s.a2 (by omega) fun x4 l4 h4 w4 t4 v4 e4 => ?_
    have hl3 : l3.length = m.pend.length := by rw [← e3]; simp
    refine law3_walWrites_c (v3.kp t4.kp fun _ _ _ h => h) v4 (by rw [e3, e4]) (by omega) (fun x hx => ?_) ⟨fun _ => ?_, fun h => (nomatch h)⟩
    · have : x.1 ∈ m.pend := by rw [← e3]; exact List.mem_map_of_mem hx
      rw [(hwf.pen _ this).1]; omega
    refine ow_Stat 8 w4 s.a1 fun h5 w5 t5 => rw_Stat 8 w5 s.a2 fun h6 w6 t6 => ?_
    have : ((m.writes == m.writes) && ((m.flushes == m.flushes) && (((m.pend.length : Int) == (m.pend.length : Int)) && ((m.down == m.down) && true)))) = true := by simp
    rw [this]
    exact hK h6 _ ⟨w6, s.a0, s.a1, s.a2⟩ (((((t1.trans t2).trans t3).trans t4).trans t5).trans t6)

/-- Open on what may be a disk. -/
def opnO (mo : Option Md) (start n : Int) : Option Md := mo.map fun m => (opnI m start n).2
theorem opnI_pend (m : Md) (start n : Int) : (opnI m start n).2.pend.length ≤ m.pend.length + 2 := by
  unfold opnI
  split
  · unfold opn
    split
    · exact Nat.le_add_right _ _
    · rename_i x e hx
      have := runs_pend (layA start.toNat n.toNat { x with round := x.round + 1, turn := x.turn + 1 }) m
      simp only
      split
      · exact this
      · exact this
  · exact Nat.le_add_right _ _
theorem opnI_len (m : Md) (start n : Int) : (opnI m start n).2.laid.length = m.laid.length := by
  unfold opnI
  split
  · unfold opn
    split
    · rfl
    · rename_i x e hx
      have := runs_len (layA start.toNat n.toNat { x with round := x.round + 1, turn := x.turn + 1 }) m
      simp only
      split
      · exact this
      · exact this
  · rfl
theorem opnI_wf {m : Md} {l : Lg} {e : Int} {m' : Md} (hw : m.Wf) (h : opnI m start n = ((some l, e), m')) : l.Wf ∧ l.st + l.n ≤ m.laid.length ∧ e = 0 ∧ (l.n : Int) = n := by
  unfold opnI at h
  split at h
  · rename_i ha
    unfold areaOk at ha
    have := opn_wf hw (by omega) (by omega) h
    exact ⟨this.1, by rw [this.2.1, this.2.2.1]; omega, this.2.2.2.2.2.2, by rw [this.2.2.1]; omega⟩
  · cases h

/-- Both disks are cut. -/
theorem both_Cut {a : Int} {K : Int → Int → Hp → Prop} (s : W2 h0 h p r mo o A)
    (hK : ∀ x h' o' A', W2 h0 h' p r (mo.map fun m => (m.cut a).2) o' A' → (∀ k, k ≠ 1 → k ≠ 2 → A' k = A k) → Stp (fun k => k = 1 ∨ k = 2) h o h' o' → K x x h') : disk_Disk_Cut p a (fun n1 h1 => ref2_Disk_Cut r a (fun n2 h2 => K n1 n2 h2) h1) h := by
  cases mo with
  | none =>
    obtain ⟨rfl, rfl⟩ := W2.pn s
    exact disk_Cut_none_c (ref2_Cut_none_c (hK 1 h o A s (fun _ _ _ => rfl) (Stp.refl _ _ _)))
  | some m =>
    refine ow_Cut s.ow s.a1 fun h1 w1 t1 => rw_Cut (i := 2) w1 s.a2 fun h2 w2 t2 => ?_
    exact hK _ h2 _ _ ⟨w2, s.a0, rfl, rfl⟩ (fun k h1 h2 => by rw [upd_ne h2, upd_ne h1]) ((t1.mono fun _ h => .inl h).trans (t2.mono fun _ h => .inr h))

/-- Both disks crash. -/
theorem both_Crash {x y : Sl} {keep : List Bool} {K : Int → Int → Int → Int → Hp → Prop} (s : W2 h0 h p r mo o A) (hs : smallO mo 900000000000) (hx : Bls h x keep) (hy : Bls h y keep)
    (ox : ∀ a, x.p = some a → keep ≠ [] → o a.block ≠ 1 ∧ o a.block ≠ 2) (oy : ∀ a, y.p = some a → keep ≠ [] → o a.block ≠ 1 ∧ o a.block ≠ 2)
    (hK : ∀ n e h' o' A', W2 h0 h' p r (mo.map fun m => (m.crash keep).2) o' A' → (∀ k, k ≠ 1 → k ≠ 2 → A' k = A k) → Stp (fun k => k = 1 ∨ k = 2) h o h' o' → K n e n e h') : disk_Disk_Crash p x (fun n1 e1 h1 => ref2_Disk_Crash r y (fun n2 e2 h2 => K n1 e1 n2 e2 h2) h1) h := by
  cases mo with
  | none =>
    obtain ⟨rfl, rfl⟩ := W2.pn s
    exact disk_Crash_none_c (ref2_Crash_none_c (hK 0 1 h o A s (fun _ _ _ => rfl) (Stp.refl _ _ _)))
  | some m =>
    have hsm := hs m rfl
    refine ow_Crash s.ow s.a1 hx (fun a ha hne => (ox a ha hne).1) (by omega) fun h1 w1 t1 => ?_
    have hy1 : Bls h1 y keep := hy.kpo t1.kp fun a ha hne => (oy a ha hne).1
    refine rw_Crash (i := 2) w1 s.a2 hy1 (fun a ha hne => ?_) (by omega) fun h2 w2 t2 => ?_
    · rw [t1.own _ (hy.lt hne ha)]; exact (oy a ha hne).2
    exact hK _ 0 h2 _ _ ⟨w2, s.a0, rfl, rfl⟩ (fun k h1 h2 => by rw [upd_ne h2, upd_ne h1]) ((t1.mono fun _ h => .inl h).trans (t2.mono fun _ h => .inr h))

/-- Both disks are formatted. -/
theorem both_Format {K : Int → Int → Hp → Prop} (s : W2 h0 h p r mo o A) (hs : smallO mo 900000000000)
    (hK : ∀ x h' o' A', W2 h0 h' p r (mo.map fun m => (fmtI m start n).2) o' A' → (∀ k, k ≠ 1 → k ≠ 2 → A' k = A k) → Stp (fun k => k = 1 ∨ k = 2) h o h' o' → K x x h') : wal_Format p start n (fun n1 h1 => ref3_Format r start n (fun n2 h2 => K n1 n2 h2) h1) h := by
  cases mo with
  | none =>
    obtain ⟨rfl, rfl⟩ := W2.pn s
    refine wal_Format_none_c fun h1 k1 => ref3_Format_none_c ?_
    obtain ⟨s1, t1⟩ := W2.fresh 8 s k1
    exact hK 1 h1 _ A s1 (fun _ _ _ => rfl) (t1.mono fun _ h => h.elim)
  | some m =>
    have hsm := hs m rfl
    refine wal_Format_c (i := 1) 8 s.ow s.a1 (by decide) (by omega) fun h1 o1 w1 t1 => ?_
    refine ref3_Format_c (i := 2) 8 w1 s.a2 (by decide) (by omega) fun h2 o2 w2 t2 => ?_
    exact hK _ h2 _ _ ⟨w2, s.a0, rfl, rfl⟩ (fun k h1 h2 => by rw [upd_ne h2, upd_ne h1]) ((t1.mono fun _ h => .inl h).trans (t2.mono fun _ h => .inr h))

theorem fmtI_pend (m : Md) (start n : Int) (hw : m.Wf) : (fmtI m start n).2.pend.length ≤ m.pend.length + 5000 := by
  have hhi := hw.hi
  unfold fmtI
  split
  · rename_i ha
    unfold areaOk at ha
    have h1 := runs_pend (fmtA start.toNat n.toNat) m
    have h2 : (fmtA start.toNat n.toNat).length ≤ 5000 := by simp [fmtA, layA]; omega
    unfold fmt; omega
  · exact Nat.le_add_right _ _
theorem Md.cut_pend (m : Md) (a : Int) : (m.cut a).2.pend = m.pend := by unfold Md.cut; split <;> (try split) <;> rfl
/-- append([]bool{}, keep...) -/
theorem copy_bools0 {h : Hp} {s : Sl} {bs : List Bool} {K : Sl → Hp → Prop} (hs : Bls h s bs) (hb : bs.length ≤ 140737488355328)
    (hK : ∀ s' h', Kp (fun _ => False) h h' → Bls h' s' bs → (∀ x, s'.blk x → h.size ≤ x) → K s' h') : App (h.push (Cel [] 4)) ⟨some (nA h.size), 0, 0⟩ s 1 1 4 [.bool false] K := by
  have k1 : Kp (fun _ => False) h (h.push (Cel [] 4)) := Kp.push (Kp.refl _ _) _
  have v1 : Vec (h.push (Cel [] 4)) ⟨some (nA h.size), 0, 0⟩ 1 4 [] := Vec.mk0 h 1 0 0 4 [] [] rfl (Nat.le_refl _) rfl
  refine v1.app (Bls.rds (hs.kp k1 fun _ _ h => h)) (oneC_bools _) (by show (0 + s.len) * 1 ≤ _; rw [hs.len]; omega) fun s' h' hv _ hk hb => ?_
  rw [List.nil_append] at hv
  have hn : ∀ x, s'.blk x → h.size ≤ x := fun x hx => by
    rcases hb x hx with ⟨a, ha, rfl⟩ | h1
    · cases ha; exact Nat.le_refl _
    · simp at h1; omega
  refine hK s' h' (k1.and hk fun x hx => .inl ?_) (Bls.of_vec hv) hn
  obtain ⟨a, ha, rfl⟩ := hx
  cases ha; exact Nat.le_refl _

end
end Go.Proofs.YthpeadoidpimmaaGreat
