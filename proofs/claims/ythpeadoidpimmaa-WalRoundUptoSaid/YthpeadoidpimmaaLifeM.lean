/- The plain log on a disk that has power: what acts leave, what heads and marks say, a log made anew. No condition. -/
import Derived.Test.YthpeadoidpimmaaLogV
import Derived.Test.YthpeadoidpimmaaLogT
namespace Tw
open Go
set_option linter.unusedVariables false
set_option linter.unusedSimpArgs false

/-! ### A disk that has power and that nobody cut -/
structure Fine (m : Md) : Prop where
  wf : m.Wf
  up : m.down = false
  fu : m.fuse < 0

theorem Fine.burn {m : Md} (f : Fine m) : m.burn = (true, m) := by
  have h1 := f.up
  have h2 := f.fu
  unfold Md.burn
  rw [if_neg (by simp [h1]), if_neg (by omega), if_neg (by omega)]
theorem Fine.new {n : Nat} (h1 : 1 ≤ n) (h2 : n ≤ 4096) : Fine (Md.new n) := ⟨Md.Wf.new h1 h2, rfl, by simp [Md.new]⟩
theorem Fine.load {bs : List UInt8} (h0 : bs.length % 128 = 0) (h1 : 1 ≤ bs.length / 128) (h2 : bs.length / 128 ≤ 4096) : Fine (Md.load bs) := ⟨Md.Wf.load h0 h1 h2, rfl, by simp [Md.load, Md.new]⟩

def DAct.ok (n : Nat) : DAct → Prop
  | .wr a d => a < n ∧ d.length = 128
  | .fl => True
/-- What a sector holds behind acts. -/
def atK (k : Nat) : List UInt8 → List DAct → List UInt8
  | v, [] => v
  | v, .wr a d :: r => atK k (if k = a then d else v) r
  | v, .fl :: r => atK k v r
theorem atK_app (k : Nat) : ∀ (a b : List DAct) (v : List UInt8), atK k v (a ++ b) = atK k (atK k v a) b
  | [], b, v => rfl
  | .wr x d :: r, b, v => by simp only [List.cons_append, atK]; exact atK_app k r b _
  | .fl :: r, b, v => by simp only [List.cons_append, atK]; exact atK_app k r b _
theorem atK_none (k : Nat) : ∀ (l : List DAct) (v : List UInt8), (∀ a d, DAct.wr a d ∈ l → a ≠ k) → atK k v l = v
  | [], v, _ => rfl
  | .wr x d :: r, v, h => by
    have := h x d (by simp)
    simp only [atK]; rw [if_neg (fun e => this e.symm)]
    exact atK_none k r v fun a d' hm => h a d' (by simp [hm])
  | .fl :: r, v, h => by simp only [atK]; exact atK_none k r v fun a d' hm => h a d' (by simp [hm])
/-- Writes to places, one each: the i-th place holds the i-th bytes. -/
theorem atK_map (f : Nat → Nat) (g : Nat → List UInt8) (n i : Nat) (v : List UInt8) (hi : i < n) (hinj : ∀ j, j < n → j ≠ i → f j ≠ f i) : atK (f i) v ((List.range n).map fun j => DAct.wr (f j) (g j)) = g i := by
  induction n with
  | zero => omega
  | succ n ih =>
    rw [List.range_succ, List.map_append, atK_app]
    simp only [List.map_cons, List.map_nil, atK]
    by_cases h : i = n
    · subst h; rw [if_pos rfl]
    · rw [if_neg (fun e => hinj n (by omega) (fun e => h e.symm) e.symm)]
      exact ih (by omega) fun j hj => hinj j (by omega)

theorem newest_flush {m : Md} (hw : m.Wf) (x : Md) (hx : x.laid = layAll m.laid m.pend) (hp : x.pend = []) {k : Nat} (hk : k < m.laid.length) : x.newest k = m.newest k := by
  have h1 := layAll_get m.laid m.pend (fun w h => (hw.pen w h).2) k hk
  unfold Md.newest
  rw [hx, hp, List.getD_eq_getElem?_getD, h1]; rfl

theorem run_fine {m : Md} {a : DAct} (f : Fine m) (ok : a.ok m.laid.length) :
    (a.run m).1 = 0 ∧ Fine (a.run m).2 ∧ (a.run m).2.laid.length = m.laid.length ∧ ∀ k, k < m.laid.length → (a.run m).2.newest k = atK k (m.newest k) [a] := by
  cases a with
  | wr at_ d =>
    obtain ⟨h1, h2⟩ := ok
    have e : m.write at_ d = (0, { m with pend := m.pend ++ [((at_ : Int), d)], writes := IntKind.i64.wrap (m.writes + 1) }) := by
      unfold Md.write
      rw [if_neg (by omega), if_neg (by omega), f.burn]; rfl
    have hw := f.wf.write at_ d
    show (m.write at_ d).1 = 0 ∧ Fine (m.write at_ d).2 ∧ (m.write at_ d).2.laid.length = m.laid.length ∧ _
    rw [e] at hw ⊢
    refine ⟨rfl, ⟨hw, f.up, f.fu⟩, rfl, fun k hk => ?_⟩
    show ((m.write at_ d).2).newest k = if k = at_ then d else m.newest k
    rw [e]
    unfold Md.newest
    rw [lastW_snoc]
    by_cases h : k = at_
    · subst h; simp
    · have : ((k : Int) == (at_ : Int)) = false := by simp; omega
      rw [this, if_neg h]; rfl
  | fl =>
    have e : m.flush = (0, { m with laid := layAll m.laid m.pend, pend := [], flushes := IntKind.i64.wrap (m.flushes + 1) }) := by
      unfold Md.flush
      rw [f.burn]; rfl
    have hw := f.wf.flush
    show m.flush.1 = 0 ∧ Fine m.flush.2 ∧ m.flush.2.laid.length = m.laid.length ∧ ∀ k, k < m.laid.length → m.flush.2.newest k = m.newest k
    rw [e] at hw ⊢
    exact ⟨rfl, ⟨hw, f.up, f.fu⟩, layAll_len _ _, fun k hk => newest_flush f.wf _ rfl rfl hk⟩

theorem runs_fine : ∀ (l : List DAct) {m : Md}, Fine m → (∀ a ∈ l, a.ok m.laid.length) →
    (runs m l).1 = 0 ∧ Fine (runs m l).2 ∧ (runs m l).2.laid.length = m.laid.length ∧ ∀ k, k < m.laid.length → (runs m l).2.newest k = atK k (m.newest k) l
  | [], m, f, _ => ⟨rfl, f, rfl, fun _ _ => rfl⟩
  | a :: r, m, f, h => by
    obtain ⟨h1, h2, h3, h4⟩ := run_fine f (h a (by simp))
    have e : runs m (a :: r) = runs (a.run m).2 r := by simp [runs, h1]
    rw [e]
    obtain ⟨g1, g2, g3, g4⟩ := runs_fine r h2 (fun x hx => by rw [h3]; exact h x (by simp [hx]))
    refine ⟨g1, g2, g3.trans h3, fun k hk => ?_⟩
    rw [g4 k (by omega), h4 k hk, ← atK_app]; rfl

theorem flush_fine {m : Md} (f : Fine m) : m.flush.1 = 0 ∧ Fine m.flush.2 ∧ m.flush.2.laid.length = m.laid.length ∧ m.flush.2.pend = [] ∧ ∀ k, k < m.laid.length → m.flush.2.newest k = m.newest k := by
  obtain ⟨h1, h2, h3, h4⟩ := run_fine (a := .fl) f trivial
  refine ⟨h1, h2, h3, ?_, h4⟩
  unfold Md.flush; rw [f.burn]; rfl

theorem chunksOf : ∀ (L : List (List UInt8)), (∀ s ∈ L, s.length = 128) → chunks L.length (L.flatMap fun s => s) = L
  | [], _ => rfl
  | x :: r, h => by
    have hx := h x (by simp)
    simp only [List.length_cons, chunks, List.flatMap_cons]
    rw [List.take_append_of_le_length (by omega), List.take_of_length_le (by omega), List.drop_append, List.drop_of_length_le (by omega), hx, Nat.sub_self, List.drop_zero, List.nil_append, chunksOf r fun s hs => h s (by simp [hs])]

/-! ### Fields -/
theorem cut_ovr_ne {l d : List UInt8} {i a n : Nat} (h : i + d.length ≤ l.length) (hd : a + n ≤ i ∨ i + d.length ≤ a) : ((ovr l i d).drop a).take n = (l.drop a).take n := by
  apply List.ext_getElem?
  intro j
  rw [List.getElem?_take, List.getElem?_take]
  split
  · rw [List.getElem?_drop, List.getElem?_drop, ovr_get h, if_neg (by omega)]
  · rfl
theorem cut_ovr_eq {l d : List UInt8} {i : Nat} (h : i + d.length ≤ l.length) : ((ovr l i d).drop i).take d.length = d := by
  apply List.ext_getElem?
  intro j
  rw [List.getElem?_take]
  split
  · rw [List.getElem?_drop, ovr_get h, if_pos (by omega)]; congr 1; omega
  · rw [List.getElem?_eq_none (by omega)]
theorem fld_ovr_ne {l d : List UInt8} {i a n : Nat} (h : i + d.length ≤ l.length) (hd : a + n ≤ i ∨ i + d.length ≤ a) : fld (ovr l i d) a n = fld l a n := by
  unfold fld; rw [cut_ovr_ne h hd]
theorem num_cons (b : UInt8) (bs : List UInt8) : num (b :: bs) = b.toNat * 256 ^ bs.length + num bs := by
  induction bs using snoc_ind with
  | h0 => simp [num]
  | hs l x ih =>
    rw [← List.cons_append, num_snoc, ih, num_snoc, List.length_append, List.length_singleton, Nat.pow_succ, Nat.add_mul, Nat.mul_assoc]; omega
theorem num_be : ∀ (n v : Nat), num (be n v) = v % 256 ^ n
  | 0, v => by simp [be, num, Nat.mod_one]
  | n + 1, v => by
    have hu : (UInt8.ofNat (v / 256 ^ n)).toNat = v / 256 ^ n % 256 := by rw [UInt8.toNat_ofNat']
    rw [be, num_cons, be_len, num_be n v, hu, Nat.mod_pow_succ, Nat.mul_comm]; omega
theorem fld_putL_eq {l : List UInt8} {a n v : Nat} (h : a + n ≤ l.length) (hv : v < 256 ^ n) : fld (putL l a n v) a n = v := by
  have := cut_ovr_eq (l := l) (d := be n v) (i := a) (by rw [be_len]; exact h)
  rw [be_len] at this
  unfold fld putL; rw [this, num_be, Nat.mod_eq_of_lt hv]
theorem fld_putL_ne {l : List UInt8} {a n v b k : Nat} (h : a + n ≤ l.length) (hd : b + k ≤ a ∨ a + n ≤ b) : fld (putL l a n v) b k = fld l b k :=
  fld_ovr_ne (by rw [be_len]; exact h) (by rw [be_len]; exact hd)
theorem cut_putL_ne {l : List UInt8} {a n v b k : Nat} (h : a + n ≤ l.length) (hd : b + k ≤ a ∨ a + n ≤ b) : ((putL l a n v).drop b).take k = (l.drop b).take k :=
  cut_ovr_ne (by rw [be_len]; exact h) (by rw [be_len]; exact hd)
theorem drop_putL {l : List UInt8} {n v : Nat} (h : n ≤ l.length) : (putL l 0 n v).drop n = l.drop n := by
  have h1 : (putL l 0 n v).length = l.length := putL_len (by omega)
  have := cut_putL_ne (l := l) (a := 0) (n := n) (v := v) (b := n) (k := l.length) (by omega) (.inr (by omega))
  rwa [List.take_of_length_le (by simp [h1]), List.take_of_length_le (by simp)] at this
theorem whole_seal {l : List UInt8} (h : 4 ≤ l.length) : whole (sealL l) = true := by
  unfold whole sealL
  rw [drop_putL h, fld_putL_eq (by omega) (by have := (crc (l.drop 4)).isLt; omega)]
  simp
theorem fld_seal {l : List UInt8} {a n : Nat} (h : 4 ≤ l.length) (ha : 4 ≤ a) : fld (sealL l) a n = fld l a n := fld_putL_ne (by omega) (.inr (by omega))
theorem cut_seal {l : List UInt8} {a n : Nat} (h : 4 ≤ l.length) (ha : 4 ≤ a) : ((sealL l).drop a).take n = (l.drop a).take n := cut_putL_ne (by omega) (.inr (by omega))

/-- A head's sector says the head. -/
structure Hd.Good (h : Hd) : Prop where
  r : 1 ≤ h.round ∧ h.round ≤ 2147483647
  l : 1 ≤ h.lsn ∧ h.lsn ≤ 1099511627776
  t : 1 ≤ h.turn ∧ h.turn ≤ 1099511627776
  f : 1 ≤ h.floor ∧ h.floor ≤ h.round
theorem okHead_headB {n : Nat} {h : Hd} (g : h.Good) (hn : n < 4294967296) (side : Nat) : okHead (headB n h) n side = if h.turn % 2 = side then some h else none := by
  obtain ⟨⟨r1, r2⟩, ⟨l1, l2⟩, ⟨t1, t2⟩, ⟨f1, f2⟩⟩ := g
  have h0 : zeroS.length = 128 := rfl
  have h1 : (putL zeroS 4 4 h.round).length = 128 := by rw [putL_len] <;> omega
  have h2 : (putL (putL zeroS 4 4 h.round) 8 8 h.lsn).length = 128 := by rw [putL_len] <;> omega
  have h3 : (putL (putL (putL zeroS 4 4 h.round) 8 8 h.lsn) 16 8 h.turn).length = 128 := by rw [putL_len] <;> omega
  have hm : magicL.length = 8 := rfl
  have h4 : (ovr (putL (putL (putL zeroS 4 4 h.round) 8 8 h.lsn) 16 8 h.turn) 24 magicL).length = 128 := by rw [ovr_len (by rw [h3]; decide)]; exact h3
  have h5 : (putL (ovr (putL (putL (putL zeroS 4 4 h.round) 8 8 h.lsn) 16 8 h.turn) 24 magicL) 32 4 n).length = 128 := by rw [putL_len] <;> omega
  have h6 : (putL (putL (ovr (putL (putL (putL zeroS 4 4 h.round) 8 8 h.lsn) 16 8 h.turn) 24 magicL) 32 4 n) 36 4 h.floor).length = 128 := by rw [putL_len] <;> omega
  have e1 : fld (headB n h) 4 4 = h.round := by
    unfold headB
    rw [fld_seal (by omega) (by omega), fld_putL_ne (by omega) (by omega), fld_putL_ne (by omega) (by omega), fld_ovr_ne (by omega) (by omega), fld_putL_ne (by omega) (by omega), fld_putL_ne (by omega) (by omega), fld_putL_eq (by omega) (by omega)]
  have e2 : fld (headB n h) 8 8 = h.lsn := by
    unfold headB
    rw [fld_seal (by omega) (by omega), fld_putL_ne (by omega) (by omega), fld_putL_ne (by omega) (by omega), fld_ovr_ne (by omega) (by omega), fld_putL_ne (by omega) (by omega), fld_putL_eq (by omega) (by omega)]
  have e3 : fld (headB n h) 16 8 = h.turn := by
    unfold headB
    rw [fld_seal (by omega) (by omega), fld_putL_ne (by omega) (by omega), fld_putL_ne (by omega) (by omega), fld_ovr_ne (by omega) (by omega), fld_putL_eq (by omega) (by omega)]
  have e4 : ((headB n h).drop 24).take 8 = magicL := by
    unfold headB
    rw [cut_seal (by omega) (by omega), cut_putL_ne (by omega) (by omega), cut_putL_ne (by omega) (by omega)]
    exact cut_ovr_eq (d := magicL) (by omega)
  have e5 : fld (headB n h) 32 4 = n := by
    unfold headB
    rw [fld_seal (by omega) (by omega), fld_putL_ne (by omega) (by omega), fld_putL_eq (by omega) (by omega)]
  have e6 : fld (headB n h) 36 4 = h.floor := by
    unfold headB
    rw [fld_seal (by omega) (by omega), fld_putL_eq (by omega) (by omega)]
  have e7 : whole (headB n h) = true := by unfold headB; exact whole_seal (by omega)
  unfold okHead
  rw [e1, e2, e3, e4, e5, e6, e7]
  by_cases hs : h.turn % 2 = side
  · rw [if_pos ⟨rfl, rfl, rfl, ⟨r1, r2⟩, ⟨l1, l2⟩, ⟨t1, t2⟩, ⟨f1, f2⟩, hs⟩, if_pos hs]
  · rw [if_neg (fun x => hs x.2.2.2.2.2.2.2), if_neg hs]

/-- A record's sector says the mark. -/
structure Mk.Good (m : Mk) : Prop where
  r : m.round ≤ 2147483647
  l : m.lsn ≤ 1099511627776
  k : 1 ≤ m.kind ∧ m.kind ≤ 255
  p : m.part < 65536
  n : m.len ≤ 32768
theorem okMark_markB {m : Mk} {data : List UInt8} (g : m.Good) (hd : data.length ≤ 104) : okMark (markB m data) = some m ∧ ((markB m data).drop 24).take data.length = data := by
  obtain ⟨r, l, ⟨k1, k2⟩, p, nn⟩ := g
  have h0 : zeroS.length = 128 := rfl
  have hk1 : [UInt8.ofNat m.kind].length = 1 := rfl
  have h1 : (putL zeroS 4 4 m.round).length = 128 := by rw [putL_len] <;> omega
  have h2 : (putL (putL zeroS 4 4 m.round) 8 8 m.lsn).length = 128 := by rw [putL_len] <;> omega
  have h3 : (ovr (putL (putL zeroS 4 4 m.round) 8 8 m.lsn) 16 [UInt8.ofNat m.kind]).length = 128 := by rw [ovr_len (by rw [h2]; simp)]; exact h2
  have h4 : (putL (ovr (putL (putL zeroS 4 4 m.round) 8 8 m.lsn) 16 [UInt8.ofNat m.kind]) 18 2 m.part).length = 128 := by rw [putL_len] <;> omega
  have h5 : (putL (putL (ovr (putL (putL zeroS 4 4 m.round) 8 8 m.lsn) 16 [UInt8.ofNat m.kind]) 18 2 m.part) 20 4 m.len).length = 128 := by rw [putL_len] <;> omega
  have h6 : (ovr (putL (putL (ovr (putL (putL zeroS 4 4 m.round) 8 8 m.lsn) 16 [UInt8.ofNat m.kind]) 18 2 m.part) 20 4 m.len) 24 data).length = 128 := by rw [ovr_len] <;> omega
  have e1 : fld (markB m data) 4 4 = m.round := by
    unfold markB
    rw [fld_seal (by omega) (by omega), fld_ovr_ne (by omega) (by omega), fld_putL_ne (by omega) (by omega), fld_putL_ne (by omega) (by omega), fld_ovr_ne (by omega) (by omega), fld_putL_ne (by omega) (by omega), fld_putL_eq (by omega) (by omega)]
  have e2 : fld (markB m data) 8 8 = m.lsn := by
    unfold markB
    rw [fld_seal (by omega) (by omega), fld_ovr_ne (by omega) (by omega), fld_putL_ne (by omega) (by omega), fld_putL_ne (by omega) (by omega), fld_ovr_ne (by omega) (by omega), fld_putL_eq (by omega) (by omega)]
  have e3 : fld (markB m data) 16 1 = m.kind := by
    unfold markB
    rw [fld_seal (by omega) (by omega), fld_ovr_ne (by omega) (by omega), fld_putL_ne (by omega) (by omega), fld_putL_ne (by omega) (by omega)]
    have := cut_ovr_eq (l := putL (putL zeroS 4 4 m.round) 8 8 m.lsn) (d := [UInt8.ofNat m.kind]) (i := 16) (by omega)
    unfold fld
    rw [hk1] at this
    rw [this]
    show 0 * 256 + (UInt8.ofNat m.kind).toNat = m.kind
    rw [UInt8.toNat_ofNat']; omega
  have e4 : fld (markB m data) 17 1 = 0 := by
    unfold markB
    rw [fld_seal (by omega) (by omega), fld_ovr_ne (by omega) (by omega), fld_putL_ne (by omega) (by omega), fld_putL_ne (by omega) (by omega), fld_ovr_ne (by omega) (by omega), fld_putL_ne (by omega) (by omega), fld_putL_ne (by omega) (by omega)]
    decide
  have e5 : fld (markB m data) 18 2 = m.part := by
    unfold markB
    rw [fld_seal (by omega) (by omega), fld_ovr_ne (by omega) (by omega), fld_putL_ne (by omega) (by omega), fld_putL_eq (by omega) (by omega)]
  have e6 : fld (markB m data) 20 4 = m.len := by
    unfold markB
    rw [fld_seal (by omega) (by omega), fld_ovr_ne (by omega) (by omega), fld_putL_eq (by omega) (by omega)]
  have e7 : whole (markB m data) = true := by unfold markB; exact whole_seal (by omega)
  refine ⟨?_, ?_⟩
  · unfold okMark
    rw [e1, e2, e3, e4, e5, e6, e7, if_pos ⟨rfl, rfl, by omega, by omega, by omega, by omega⟩]
  · unfold markB
    rw [cut_seal (by omega) (by omega)]
    exact cut_ovr_eq (by omega)

theorem okMark_zero : okMark zeroS = none := by
  unfold okMark
  rw [if_neg]
  have : fld zeroS 16 1 = 0 := by decide
  rintro ⟨_, _, h, _⟩
  exact h this
theorem okHead_zero (n side : Nat) : okHead zeroS n side = none := by
  unfold okHead
  rw [if_neg]
  have : ¬ (zeroS.drop 24).take 8 = magicL := by decide
  rintro ⟨_, h, _⟩
  exact this h

/-! ### A log made anew -/
def lg0 (st n : Nat) : Lg := ⟨st, n, ⟨2, 1, 3, 1⟩, 1, 1, 0, [], false⟩
theorem lg0_wf {st n : Nat} (h4 : 4 ≤ n) (hn : st + n ≤ 4096) : (lg0 st n).Wf := ⟨h4, hn, Nat.le_refl _, rfl, by show 1 - 1 + 0 ≤ _; omega, by show 1 ≤ _; decide, Nat.le_refl _, by show 2 ≤ _; decide, by show 3 ≤ _; decide, fun r hr => (nomatch hr)⟩

theorem opn_fresh {m : Md} {st n : Nat} (f : Fine m) (h4 : 4 ≤ n) (hn : st + n ≤ m.laid.length) (e0 : m.newest st = headB n ⟨1, 1, 2, 1⟩) (e1 : m.newest (st + 1) = zeroS) (e2 : m.newest (st + 2) = zeroS) :
    (opn m st n).1 = (some (lg0 st n), 0) ∧ Fine (opn m st n).2 ∧ (opn m st n).2.laid.length = m.laid.length ∧ (opn m st n).2.pend.length ≤ m.pend.length + 2 ∧
      ∀ k, k < m.laid.length → (opn m st n).2.newest k = if k = st + 1 then headB n ⟨2, 1, 3, 1⟩ else m.newest k := by
  have hhi := f.wf.hi
  have hold : holdsM m st n = (some ⟨1, 1, 2, 1⟩, 0) := by
    unfold holdsM
    rw [if_neg (by simp [f.up]), e0, e1, okHead_headB ⟨by decide, by decide, by decide, by decide⟩ (by omega), okHead_zero]
    rfl
  have hfind : findGo m.newest st n 1 (n - 2) 1 1 (n - 2) = ([], 1) := by
    obtain ⟨k, hk⟩ : ∃ k, n - 2 = k + 1 := ⟨n - 3, by omega⟩
    have hp : place st n 1 = st + 2 := by unfold place; simp
    have hr : recAt m.newest st n 1 1 1 (k + 1) = none := by
      unfold recAt; rw [hp, e2, okMark_zero]
    rw [hk]
    unfold findGo
    rw [if_neg (by omega), hr]
  obtain ⟨r1, r2, r3, r4⟩ := runs_fine (layA st n ⟨2, 1, 3, 1⟩) f (by
    intro a ha
    simp only [layA, List.mem_cons, List.not_mem_nil, or_false] at ha
    rcases ha with rfl | rfl
    · exact ⟨by show st + 3 % 2 < _; omega, headB_len _ _⟩
    · trivial)
  have r5 := Go.Proofs.Ythpeadoidpimmaa.runs_pend (layA st n ⟨2, 1, 3, 1⟩) m
  have e : opn m st n = ((some (lg0 st n), 0), (runs m (layA st n ⟨2, 1, 3, 1⟩)).2) := by
    unfold opn
    rw [hold]
    simp only [hfind]
    rw [if_pos r1]; rfl
  rw [e]
  refine ⟨rfl, r2, r3, r5, fun k hk => ?_⟩
  rw [r4 k hk]
  rfl

/-- What a sector holds behind a Format. -/
theorem fmt_fine {m : Md} {st n : Nat} (f : Fine m) (h4 : 4 ≤ n) (hn : st + n ≤ m.laid.length) :
    (fmt m st n).1 = 0 ∧ Fine (fmt m st n).2 ∧ (fmt m st n).2.laid.length = m.laid.length ∧ (fmt m st n).2.pend = [] ∧
      ∀ k, k < m.laid.length → (fmt m st n).2.newest k = if k = st then headB n ⟨1, 1, 2, 1⟩ else if st < k ∧ k < st + n then zeroS else m.newest k := by
  have hz : zeroS.length = 128 := rfl
  obtain ⟨r1, r2, r3, r4⟩ := runs_fine (fmtA st n) f (by
    intro a ha
    simp only [fmtA, layA, List.mem_append, List.mem_cons, List.not_mem_nil, or_false, List.mem_map, List.mem_range] at ha
    rcases ha with ((( rfl | rfl | rfl) | ⟨i, hi, rfl⟩) | rfl) | rfl | rfl
    · exact ⟨by omega, hz⟩
    · exact ⟨by omega, hz⟩
    · trivial
    · exact ⟨by omega, hz⟩
    · trivial
    · exact ⟨by show st + 2 % 2 < _; omega, headB_len _ _⟩
    · trivial)
  refine ⟨r1, r2, r3, ?_, fun k hk => ?_⟩
  · unfold fmt fmtA layA
    rw [show ([DAct.wr st zeroS, .wr (st + 1) zeroS, .fl] ++ ((List.range (n - 2)).map fun i => DAct.wr (st + 2 + i) zeroS) ++ [.fl] ++ [.wr (st + 2 % 2) (headB n ⟨1, 1, 2, 1⟩), .fl]) = ([DAct.wr st zeroS, .wr (st + 1) zeroS, .fl] ++ ((List.range (n - 2)).map fun i => DAct.wr (st + 2 + i) zeroS) ++ [.fl] ++ [.wr (st + 2 % 2) (headB n ⟨1, 1, 2, 1⟩)]) ++ [.fl] by simp, runs_app]
    obtain ⟨q1, q2, q3, q4⟩ := runs_fine ([DAct.wr st zeroS, .wr (st + 1) zeroS, .fl] ++ ((List.range (n - 2)).map fun i => DAct.wr (st + 2 + i) zeroS) ++ [.fl] ++ [.wr (st + 2 % 2) (headB n ⟨1, 1, 2, 1⟩)]) f (by
      intro a ha
      simp only [List.mem_append, List.mem_cons, List.not_mem_nil, or_false, List.mem_map, List.mem_range] at ha
      rcases ha with ((( rfl | rfl | rfl) | ⟨i, hi, rfl⟩) | rfl) | rfl
      · exact ⟨by omega, hz⟩
      · exact ⟨by omega, hz⟩
      · trivial
      · exact ⟨by omega, hz⟩
      · trivial
      · exact ⟨by show st + 2 % 2 < _; omega, headB_len _ _⟩)
    rw [if_pos q1]
    have := (flush_fine q2).2.2.2.1
    have h0 := (flush_fine q2).1
    have e : ∀ x : Md, x.flush.1 = 0 → runs x [.fl] = (0, x.flush.2) := fun x hx => by simp [runs, DAct.run, hx]
    rw [e _ h0]; exact this
  · unfold fmt
    rw [r4 k hk]
    unfold fmtA layA
    rw [atK_app, atK_app, atK_app]
    simp only [atK]
    show (if k = st then headB n ⟨1, 1, 2, 1⟩ else atK k (if k = st + 1 then zeroS else if k = st then zeroS else m.newest k) ((List.range (n - 2)).map fun i => DAct.wr (st + 2 + i) zeroS)) = _
    by_cases h : k = st
    · simp only [if_pos h]
    · simp only [if_neg h]
      by_cases h2 : k < st + 2 ∨ st + n ≤ k
      · rw [atK_none]
        · by_cases h3 : k = st + 1
          · rw [if_pos h3, if_pos (by omega)]
          · rw [if_neg h3, if_neg (show ¬ (st < k ∧ k < st + n) by omega)]
        · intro a d ha
          simp only [List.mem_map, List.mem_range] at ha
          obtain ⟨i, hi, e⟩ := ha
          cases e; omega
      · rw [if_pos (show st < k ∧ k < st + n by omega)]
        have := atK_map (fun i => st + 2 + i) (fun _ => zeroS) (n - 2) (k - (st + 2)) (if k = st + 1 then zeroS else m.newest k) (by omega) (by intro j hj hne; show st + 2 + j ≠ st + 2 + (k - (st + 2)); omega)
        have ek : st + 2 + (k - (st + 2)) = k := by omega
        simp only [ek] at this
        exact this
end Tw
