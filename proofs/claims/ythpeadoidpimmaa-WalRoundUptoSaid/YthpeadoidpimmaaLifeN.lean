/- The plain log's calls on a disk that has power. No condition. -/
import Derived.Test.YthpeadoidpimmaaLifeM
namespace Tw
open Go
set_option linter.unusedVariables false
set_option linter.unusedSimpArgs false

theorem recA_ok {st n round p kind len : Nat} {data : List UInt8} (h4 : 4 ≤ n) (hn : st + n ≤ len) : ∀ a ∈ recA st n round p kind data, a.ok len := by
  intro a ha
  simp only [recA, List.mem_map, List.mem_range] at ha
  obtain ⟨i, hi, rfl⟩ := ha
  have : (p + i - 1) % (n - 2) < n - 2 := Nat.mod_lt _ (by omega)
  exact ⟨by show st + 2 + (p + i - 1) % (n - 2) < len; omega, markB_len _ _ (by unfold partOf; simp; omega)⟩
theorem layA_ok {st n len : Nat} {h : Hd} (h4 : 4 ≤ n) (hn : st + n ≤ len) : ∀ a ∈ layA st n h, a.ok len := by
  intro a ha
  simp only [layA, List.mem_cons, List.not_mem_nil, or_false] at ha
  rcases ha with rfl | rfl
  · exact ⟨by omega, headB_len _ _⟩
  · trivial

/-- A log on a disk with power. -/
structure Live (m : Md) (l : Lg) : Prop where
  f : Fine m
  w : l.Wf
  hin : l.st + l.n ≤ m.laid.length
  up : l.dead = false

def Lg.app (l : Lg) (kind : Nat) (data : List UInt8) (fl : Bool) : Lg :=
  { l with reserved := if fl then l.reserved - needN data.length else l.reserved, recs := l.recs ++ [⟨l.next, kind, data, l.head.round⟩], next := l.next + needN data.length }

theorem append_live {m : Md} {l : Lg} {kind : Int} {data : List UInt8} {fl : Bool} (v : Live m l) (hk : 1 ≤ kind ∧ kind ≤ 255) (hl : data.length ≤ 32768)
    (hr : fl = true → needN data.length ≤ l.reserved) (hf : fl = false → needN data.length ≤ l.free) (hx : l.next + needN data.length ≤ 1099511627777) :
    (l.append m kind data fl).1 = ((l.next : Int), 0) ∧ (l.append m kind data fl).2.1 = l.app kind.toNat data fl ∧ Live (l.append m kind data fl).2.2 (l.app kind.toNat data fl) ∧ (l.append m kind data fl).2.2.laid.length = m.laid.length ∧
      (l.append m kind data fl).2.2.pend.length ≤ m.pend.length + 320 ∧ (l.append m kind data fl).2.2 = (runs m (recA l.st l.n l.head.round l.next kind.toNat data)).2 := by
  have hkeep := append_keeps (l := l) (m := m) (kind := kind) (data := data) (fl := fl) v.w
  obtain ⟨r1, r2, r3, r4⟩ := runs_fine (recA l.st l.n l.head.round l.next kind.toNat data) v.f (recA_ok v.w.n4 v.hin)
  have hp := needN_pos data.length
  have e : l.append m kind data fl = (((l.next : Int), 0), l.app kind.toNat data fl, (runs m (recA l.st l.n l.head.round l.next kind.toNat data)).2) := by
    unfold Lg.append
    rw [if_neg (by omega), if_neg (by rw [v.up]; decide), if_neg (by rintro ⟨h1, h2⟩; have := hr h1; omega), if_neg (by rintro (⟨h1, h2⟩ | h2); have := hf h1; omega; omega)]
    simp only
    rw [if_pos r1]; rfl
  rw [e] at hkeep ⊢
  exact ⟨rfl, rfl, ⟨r2, hkeep.wf, by rw [hkeep.st, hkeep.n, hkeep.len]; exact v.hin, v.up⟩, hkeep.len, hkeep.pend, rfl⟩

def Lg.flu (l : Lg) : Lg := { l with durable := l.next }
theorem flush_live {m : Md} {l : Lg} (v : Live m l) : (l.flush m).1 = 0 ∧ (l.flush m).2.1 = l.flu ∧ Live (l.flush m).2.2 l.flu ∧ (l.flush m).2.2.laid.length = m.laid.length ∧
    (l.flush m).2.2.pend.length ≤ m.pend.length ∧ (l.durable ≠ l.next → (l.flush m).2.2.pend = []) ∧ (∀ k, k < m.laid.length → (l.flush m).2.2.newest k = m.newest k) ∧ (l.flush m).2.2 = (if l.durable = l.next then m else m.flush.2) := by
  obtain ⟨g1, g2, g3, g4, g5⟩ := flush_fine v.f
  have hw : l.flu.Wf := ⟨v.w.n4, v.w.nm, v.w.lo, v.w.ch, v.w.room, v.w.nx, Nat.le_refl _, v.w.rd, v.w.tn, v.w.rl⟩
  unfold Lg.flush
  rw [if_neg (by rw [v.up]; decide)]
  by_cases h : l.durable = l.next
  · rw [if_pos h]
    have e : l.flu = l := by cases l; simp only [Lg.flu] at h ⊢; rw [h]
    rw [e]
    exact ⟨rfl, rfl, v, rfl, Nat.le_refl _, fun h' => (h' h).elim, fun _ _ => rfl, by rw [if_pos h]⟩
  · rw [if_neg h, if_pos g1]
    exact ⟨rfl, rfl, ⟨g2, hw, by rw [g3]; exact v.hin, v.up⟩, g3, by rw [g4]; simp, fun _ => g4, g5, by rw [if_neg h]⟩

def Lg.ct (l : Lg) (k lsn : Nat) : Lg := { l with head := ⟨l.head.round, lsn, l.head.turn + 1, ((l.recs[k]?).map (·.round)).getD l.head.round⟩, recs := l.recs.drop k, durable := l.next }
theorem cut_live {m : Md} {l : Lg} {k lsn : Nat} (v : Live m l) (hg : l.gone lsn = some k) (hne : lsn ≠ l.head.lsn) (ht : l.head.turn < 1099511627776) (hl : lsn ≤ 1099511627776) :
    (l.cut m lsn).1 = 0 ∧ (l.cut m lsn).2.1 = l.ct k lsn ∧ Live (l.cut m lsn).2.2 (l.ct k lsn) ∧ (l.cut m lsn).2.2.laid.length = m.laid.length ∧ (l.cut m lsn).2.2.pend.length ≤ m.pend.length + 320 ∧
      (l.cut m lsn).2.2 = (runs m (layA l.st l.n (l.ct k lsn).head)).2 := by
  have hkeep := cut_keeps (l := l) (m := m) (lsn := lsn) v.w
  obtain ⟨r1, r2, r3, r4⟩ := runs_fine (layA l.st l.n (l.ct k lsn).head) v.f (layA_ok v.w.n4 v.hin)
  have e : l.cut m lsn = (0, l.ct k lsn, (runs m (layA l.st l.n (l.ct k lsn).head)).2) := by
    unfold Lg.cut
    rw [if_neg (by rw [v.up]; decide), hg]
    simp only
    rw [if_neg (by omega), if_neg (by omega)]
    simp only [Int.toNat_natCast]
    have r1' : (runs m (layA l.st l.n ⟨l.head.round, lsn, l.head.turn + 1, ((l.recs[k]?).map (·.round)).getD l.head.round⟩)).1 = 0 := r1
    rw [if_pos r1']; rfl
  rw [e] at hkeep ⊢
  exact ⟨rfl, rfl, ⟨r2, hkeep.wf, by rw [hkeep.st, hkeep.n, hkeep.len]; exact v.hin, v.up⟩, hkeep.len, hkeep.pend, rfl⟩

/-- Which records a Cut at the end gives up: all. -/
theorem goneN_end : ∀ {rs : List Rec} {p q : Nat}, Chain rs p q → goneN rs q = none
  | [], p, q, h => rfl
  | r :: rs, p, q, h => by
    have h1 := Chain.le h.2
    have h2 := needN_pos r.data.length
    have h3 := h.1
    unfold goneN
    rw [if_neg (by omega), goneN_end h.2]; rfl
theorem gone_end {l : Lg} (w : l.Wf) (hd : l.durable = l.next) : l.gone l.next = some l.recs.length := by
  have h1 := Chain.le w.ch
  unfold Lg.gone
  rw [if_neg (by omega), Int.toNat_natCast, goneN_end w.ch]
  simp
theorem Live.fresh {m : Md} {st n : Nat} (f : Fine m) (hl : m.laid.length = st + n + 2) (h4 : 4 ≤ n) : Live m (lg0 st n) := by
  have := f.wf.hi
  exact ⟨f, lg0_wf h4 (by omega), by show st + n ≤ _; omega, rfl⟩
end Tw
