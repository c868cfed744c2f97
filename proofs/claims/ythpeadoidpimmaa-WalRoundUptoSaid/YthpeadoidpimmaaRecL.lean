/- What a log holds stays sound; records that are handed out, compared. No condition. -/
import Derived.Test.YthpeadoidpimmaaGLawB
import Derived.Test.YthpeadoidpimmaaLogT
import Derived.Test.YthpeadoidpimmaaLogP
namespace Tw
open Go
set_option linter.unusedVariables false

/-! ### An opened log is a sound one -/
theorem findGo_ok {rd : Nat → List UInt8} {st n high : Nat} (h128 : ∀ c, (rd (place st n c)).length = 128) : ∀ (f p low room : Nat) (rs : List Rec) (q : Nat), findGo rd st n high f p low room = (rs, q) → p ≤ 1099511627777 →
    Chain rs p q ∧ q ≤ p + room ∧ q ≤ 1099511627777 ∧ ∀ r ∈ rs, r.data.length ≤ 32768 ∧ r.kind < 256 ∧ r.round ≤ 2147483647
  | 0, p, low, room, rs, q, h, hp => by
    simp only [findGo, Prod.mk.injEq] at h
    obtain ⟨rfl, rfl⟩ := h
    exact ⟨rfl, by omega, hp, fun r hr => (nomatch hr)⟩
  | f + 1, p, low, room, rs, q, h, hp => by
    rw [findGo] at h
    split at h
    · simp only [Prod.mk.injEq] at h
      obtain ⟨rfl, rfl⟩ := h
      exact ⟨rfl, by omega, hp, fun r hr => (nomatch hr)⟩
    · cases hr : recAt rd st n p low high room with
      | none =>
        rw [hr] at h
        simp only [Prod.mk.injEq] at h
        obtain ⟨rfl, rfl⟩ := h
        exact ⟨rfl, by omega, hp, fun r hr => (nomatch hr)⟩
      | some r =>
        rw [hr] at h
        simp only [Prod.mk.injEq] at h
        obtain ⟨rfl, rfl⟩ := h
        obtain ⟨g1, g2, g3, g4, g5, g6, g7, g8, g9⟩ := findGo_len (fun j => h128 (p + j)) hr
        have hnp := needN_pos r.data.length
        obtain ⟨c1, c2, c3, c4⟩ := findGo_ok h128 f (p + needN r.data.length) r.round (room - needN r.data.length) _ _ rfl (by omega)
        refine ⟨⟨g1, c1⟩, by omega, c3, fun x hx => ?_⟩
        rcases List.mem_cons.1 hx with rfl | hx
        · exact ⟨g2, g5, g9⟩
        · exact c4 x hx

theorem holdsM_ok {m : Md} {st n : Nat} {x : Hd} {e : Int} (h : holdsM m st n = (some x, e)) :
    m.down = false ∧ (1 ≤ x.round ∧ x.round < 2147483647) ∧ (1 ≤ x.lsn ∧ x.lsn ≤ 1099511627776) ∧ (1 ≤ x.turn ∧ x.turn < 1099511627776) ∧ (1 ≤ x.floor ∧ x.floor ≤ x.round) := by
  unfold holdsM at h
  split at h
  · cases h
  · rename_i hd
    split at h
    · cases h
    · rename_i y hy
      split at h
      · cases h
      · rename_i hb
        cases h
        have : okHead (m.newest st) n 0 = some x ∨ okHead (m.newest (st + 1)) n 1 = some x := by
          unfold best at hy
          split at hy
          · exact .inl hy
          · rename_i z hz
            split at hy
            · cases hy; exact .inr hz
            · rename_i w hw
              split at hy
              · cases hy; exact .inr hz
              · cases hy; exact .inl hw
        have hd' : m.down = false := by simpa using hd
        rcases this with h | h <;> (have q := okHead_some h; exact ⟨hd', ⟨q.1.1, by omega⟩, q.2.1, ⟨q.2.2.1.1, by omega⟩, q.2.2.2.1⟩)

theorem opn_wf {m : Md} {st n : Nat} {l : Lg} {e : Int} {m' : Md} (hw : m.Wf) (hn : 4 ≤ n) (hm : st + n ≤ m.laid.length) (h : opn m st n = ((some l, e), m')) : l.Wf ∧ l.st = st ∧ l.n = n ∧ l.durable = l.next ∧ l.reserved = 0 ∧ l.dead = false ∧ e = 0 := by
  have hhi := hw.hi
  have h128 : ∀ c, (m.newest (place st n c)).length = 128 := fun c => Md.newest_len hw (by
    have hlt : (c - 1) % (n - 2) < n - 2 := Nat.mod_lt _ (by omega)
    unfold place; omega)
  unfold opn at h
  split at h
  · cases h
  · rename_i x e' hx
    obtain ⟨hd, q1, q2, q3, q4⟩ := holdsM_ok hx
    generalize hX : findGo m.newest st n x.round (n - 2) x.lsn x.floor (n - 2) = X at h
    simp only at h
    split at h
    · cases h
      obtain ⟨c1, c2, c3, c4⟩ := findGo_ok (rd := m.newest) (st := st) (n := n) (high := x.round) h128 (n - 2) x.lsn x.floor (n - 2) X.1 X.2 hX (by omega)
      have := Chain.le c1
      exact ⟨⟨hn, by show st + n ≤ 4096; omega, q2.1, c1, by show X.2 - x.lsn + 0 ≤ n - 2; omega, c3, Nat.le_refl _, by show x.round + 1 ≤ _; omega, by show x.turn + 1 ≤ _; omega, c4⟩, rfl, rfl, rfl, rfl, rfl, rfl⟩
    · cases h
end Tw
namespace Go.Proofs.Ythpeadoidpimmaa
open Go Tw
set_option linter.unusedVariables false
set_option linter.unusedSimpArgs false
set_option maxRecDepth 10000
set_option maxHeartbeats 1000000

section
variable {h : Hp}

theorem law3_walSame_c {a b : Sl} {x : List UInt8} {K : Bool → Hp → Prop} (ha : Byt h a x) (hb : Byt h b x) (hl : x.length < 9223372036854775807) (hK : K true h) : law3_walSame a b K h := by
  have h1 := ha.len
  have h2 := hb.len
  refine dcn (fun hn => by omega) (fun _ => ⟨fun k i h' => ∃ j : Nat, i = j ∧ j ≤ x.length ∧ k = x.length - j ∧ h' = h, ⟨_, 0, rfl, by omega, rfl, rfl⟩, ?_⟩)
  rintro k i h' ⟨j, rfl, hj, rfl, rfl⟩
  refine dcd (fun hlt => ?_) (fun _ => hK)
  have hlt' : j < x.length := by omega
  obtain ⟨p, hp, hr⟩ := ha.at hlt'
  obtain ⟨q, hq, hs⟩ := hb.at hlt'
  refine ⟨p, hp, by omega, by omega, (x[j].toNat : Int), ?_, q, hq, by omega, by omega, (x[j].toNat : Int), ?_, dcn (fun hn => (hn rfl).elim) (fun _ => ?_)⟩
  · rw [Nat.mul_one, Int.toNat_natCast]; exact hr
  · rw [Nat.mul_one, Int.toNat_natCast]; exact hs
  · exact ⟨_, Wr.i64 (by omega) (by omega), x.length - (j + 1), by omega, j + 1, by omega, by omega, rfl, rfl⟩

theorem rcl_at {s : Sl} {l : List (Rec × Sl)} {G : Nat → Prop} (w : RcL h s l G) {i : Nat} (hi : i < l.length) : ∃ a, s.p = some a ∧ rdc h ((a.add (i * 3)).add 0) = some (.int .i64 (l[i].1.lsn : Nat)) ∧ rdc h ((a.add (i * 3)).add 1) = some (.int .i64 (l[i].1.kind : Nat)) ∧ rdc h ((a.add (i * 3)).add 2) = some (l[i].2.v) := by
  have hl := w.vec.len
  rw [flat_len rcE 3 l fun _ _ => rfl] at hl
  obtain ⟨a, ha⟩ := w.vec.ptr (by omega)
  have hq : l[i]? = some l[i] := by simp [hi]
  have hr : RdL h (a.add (i * 3)) (rcE l[i]) := w.vec.rdl ha fun j v hj => flat_get rcE 3 l (fun _ _ => rfl) i _ hq j v hj
  exact ⟨a, ha, hr 0 _ rfl, hr 1 _ rfl, hr 2 _ rfl⟩
theorem rcl_len {s : Sl} {l : List (Rec × Sl)} {G : Nat → Prop} (w : RcL h s l G) : s.len = l.length := by
  have hl := w.vec.len
  rw [flat_len rcE 3 l fun _ _ => rfl] at hl
  omega

theorem law3_walRecs_c {a b : Sl} {l1 l2 : List (Rec × Sl)} {G1 G2 : Nat → Prop} {K : Bool → Hp → Prop} (ha : RcL h a l1 G1) (hb : RcL h b l2 G2) (he : l1.map (·.1) = l2.map (·.1)) (hl : l1.length < 9223372036854775807)
    (hd : ∀ x ∈ l1, x.1.data.length < 9223372036854775807) (hK : K true h) : law3_walRecs a b K h := by
  have h1 := rcl_len ha
  have h2 := rcl_len hb
  have hll : l1.length = l2.length := by have := congrArg List.length he; simpa using this
  refine dcn (fun hn => by omega) (fun _ => ⟨fun k i h' => ∃ j : Nat, i = j ∧ j ≤ l1.length ∧ k = l1.length - j ∧ h' = h, ⟨_, 0, rfl, by omega, rfl, rfl⟩, ?_⟩)
  rintro k i h' ⟨j, rfl, hj, rfl, rfl⟩
  refine dcd (fun hlt => ?_) (fun _ => hK)
  have hlt1 : j < l1.length := by omega
  have hlt2 : j < l2.length := by omega
  obtain ⟨p, hp, hp0, hp1, hp2⟩ := rcl_at ha hlt1
  obtain ⟨q, hq, hq0, hq1, hq2⟩ := rcl_at hb hlt2
  have heq : l1[j].1 = l2[j].1 := by
    have : (l1.map (·.1))[j]? = (l2.map (·.1))[j]? := by rw [he]
    simpa [hlt1, hlt2] using this
  have hm1 : l1[j] ∈ l1 := List.getElem_mem hlt1
  have hm2 : l2[j] ∈ l2 := List.getElem_mem hlt2
  refine ⟨fun bb h2 => bb = false ∧ h2 = h', ?_, p, hp, by omega, by omega, _, by rw [Int.toNat_natCast]; exact hp0, q, hq, by omega, by omega, _, by rw [Int.toNat_natCast]; exact hq0, dcn (fun hn => (hn (by rw [heq])).elim) (fun _ => ?_)⟩
  · rintro bb h2 ⟨rfl, rfl⟩
    exact ⟨fun h => (nomatch h), fun _ => ⟨_, Wr.i64 (by omega) (by omega), l1.length - (j + 1), by omega, j + 1, by omega, by omega, rfl, rfl⟩⟩
  · refine ⟨by omega, by omega, _, by rw [Int.toNat_natCast]; exact hp1, by omega, by omega, _, by rw [Int.toNat_natCast]; exact hq1, dcn (fun hn => (hn (by rw [heq])).elim) (fun _ => ?_)⟩
    refine ⟨by omega, by omega, l1[j].2, by rw [Int.toNat_natCast]; exact hp2, by omega, by omega, l2[j].2, by rw [Int.toNat_natCast]; exact hq2, ?_⟩
    exact law3_walSame_c (ha.dat _ hm1) (by rw [heq]; exact hb.dat _ hm2) (hd _ hm1) ⟨rfl, rfl⟩

theorem RcL.kp0 {h' : Hp} {s : Sl} {l : List (Rec × Sl)} {G : Nat → Prop} (w : RcL h s l G) (hk : Kp (fun _ => False) h h') : RcL h' s l G :=
  ⟨w.vec.kp hk fun _ _ h => h, fun x hx => (w.dat x hx).kp hk fun _ _ h => h, w.fs, fun x hx y hy => ⟨(w.fd x hx y hy).1, (w.fd x hx y hy).2.1, Nat.lt_of_lt_of_le (w.fd x hx y hy).2.2 hk.size⟩⟩
end
end Go.Proofs.Ythpeadoidpimmaa
