/- The log as a plain thing. No condition. -/
import Derived.Test.YthpeadoidpimmaaCrc
import Derived.Test.YthpeadoidpimmaaDiskM
namespace Tw
open Go
set_option linter.unusedVariables false

/-! ### Numbers in bytes -/
/-- n bytes of v, the highest first. -/
def be : Nat → Nat → List UInt8
  | 0, _ => []
  | n + 1, v => UInt8.ofNat (v / 256 ^ n) :: be n v
def num (bs : List UInt8) : Nat := bs.foldl (fun v b => v * 256 + b.toNat) 0
/-- Other bytes over those that stand at i. -/
def ovr (l : List UInt8) (i : Nat) (d : List UInt8) : List UInt8 := l.take i ++ d ++ l.drop (i + d.length)
def putL (l : List UInt8) (at_ n v : Nat) : List UInt8 := ovr l at_ (be n v)
def fld (b : List UInt8) (at_ n : Nat) : Nat := num ((b.drop at_).take n)
def sealL (b : List UInt8) : List UInt8 := putL b 0 4 (crc (b.drop 4)).toNat
def whole (b : List UInt8) : Bool := fld b 0 4 == (crc (b.drop 4)).toNat
def zeroS : List UInt8 := List.replicate 128 0
def magicL : List UInt8 := [116, 114, 101, 108, 108, 105, 115, 49]

theorem be_len : ∀ (n v : Nat), (be n v).length = n
  | 0, _ => rfl
  | n + 1, v => by simp [be, be_len n v]
theorem be_get : ∀ (n v i : Nat), i < n → (be n v)[i]? = some (UInt8.ofNat (v / 256 ^ (n - 1 - i)))
  | n + 1, v, 0, _ => by simp [be]
  | n + 1, v, i + 1, h => by
    simp only [be, List.getElem?_cons_succ]
    rw [be_get n v i (by omega)]
    congr 4; omega
theorem ovr_len {l d : List UInt8} {i : Nat} (h : i + d.length ≤ l.length) : (ovr l i d).length = l.length := by
  simp [ovr]; omega
theorem putL_len {l : List UInt8} {a n v : Nat} (h : a + n ≤ l.length) : (putL l a n v).length = l.length := ovr_len (by rw [be_len]; exact h)
theorem sealL_len {l : List UInt8} (h : 4 ≤ l.length) : (sealL l).length = l.length := putL_len (by omega)
theorem ovr_map {l d : List UInt8} {i : Nat} : (ovr l i d).map bv = splice (l.map bv) i (d.map bv) := by
  simp [ovr, splice]
theorem ovr_get {l d : List UInt8} {i : Nat} (h : i + d.length ≤ l.length) (j : Nat) : (ovr l i d)[j]? = if i ≤ j ∧ j < i + d.length then d[j - i]? else l[j]? := by
  unfold ovr
  have h1 : (l.take i).length = i := by simp; omega
  by_cases a : j < i
  · rw [if_neg (by omega), List.append_assoc, List.getElem?_append_left (by omega), List.getElem?_take, if_pos a]
  · by_cases b : j < i + d.length
    · rw [if_pos (by omega), List.getElem?_append_left (by simp; omega), List.getElem?_append_right (by omega), h1]
    · rw [if_neg (by omega), List.getElem?_append_right (by simp; omega), List.getElem?_drop]
      congr 1; simp; omega
theorem num_snoc (bs : List UInt8) (b : UInt8) : num (bs ++ [b]) = num bs * 256 + b.toNat := by simp [num]
theorem num_lt (bs : List UInt8) : num bs < 256 ^ bs.length := by
  induction bs using snoc_ind with
  | h0 => simp [num]
  | hs l x ih =>
    rw [num_snoc, List.length_append, List.length_singleton, Nat.pow_succ]
    have := x.toNat_lt
    omega
theorem fld_lt (b : List UInt8) (a n : Nat) : fld b a n < 256 ^ n := by
  have h1 := num_lt ((b.drop a).take n)
  refine Nat.lt_of_lt_of_le h1 (Nat.pow_le_pow_right (by omega) (by simp; omega))
theorem fld_succ {b : List UInt8} {a n : Nat} (h : a + n < b.length) : fld b a (n + 1) = fld b a n * 256 + b[a + n].toNat := by
  unfold fld
  rw [List.take_add_one, List.getElem?_drop, List.getElem?_eq_getElem h, Option.toList_some, num_snoc]

/-! ### Heads and marks -/
structure Hd where
  round : Nat
  lsn : Nat
  turn : Nat
  floor : Nat
deriving DecidableEq
structure Mk where
  round : Nat
  lsn : Nat
  kind : Nat
  part : Nat
  len : Nat
deriving DecidableEq

structure Hd.Ok (d : Hd) : Prop where
  r : d.round < 9223372036854775808
  l : d.lsn < 9223372036854775808
  t : d.turn < 9223372036854775808
  f : d.floor < 9223372036854775808

def headB (n : Nat) (h : Hd) : List UInt8 :=
  sealL (putL (putL (ovr (putL (putL (putL zeroS 4 4 h.round) 8 8 h.lsn) 16 8 h.turn) 24 magicL) 32 4 n) 36 4 h.floor)
def markB (m : Mk) (data : List UInt8) : List UInt8 :=
  sealL (ovr (putL (putL (ovr (putL (putL zeroS 4 4 m.round) 8 8 m.lsn) 16 [UInt8.ofNat m.kind]) 18 2 m.part) 20 4 m.len) 24 data)

theorem headB_len (n : Nat) (h : Hd) : (headB n h).length = 128 := by
  have h0 : zeroS.length = 128 := rfl
  have h1 : (putL zeroS 4 4 h.round).length = 128 := by rw [putL_len] <;> omega
  have h2 : (putL (putL zeroS 4 4 h.round) 8 8 h.lsn).length = 128 := by rw [putL_len] <;> omega
  have h3 : (putL (putL (putL zeroS 4 4 h.round) 8 8 h.lsn) 16 8 h.turn).length = 128 := by rw [putL_len] <;> omega
  have h4 : (ovr (putL (putL (putL zeroS 4 4 h.round) 8 8 h.lsn) 16 8 h.turn) 24 magicL).length = 128 := by rw [ovr_len (by rw [h3]; decide)]; exact h3
  have h5 : (putL (ovr (putL (putL (putL zeroS 4 4 h.round) 8 8 h.lsn) 16 8 h.turn) 24 magicL) 32 4 n).length = 128 := by rw [putL_len] <;> omega
  have h6 : (putL (putL (ovr (putL (putL (putL zeroS 4 4 h.round) 8 8 h.lsn) 16 8 h.turn) 24 magicL) 32 4 n) 36 4 h.floor).length = 128 := by rw [putL_len] <;> omega
  unfold headB
  rw [sealL_len] <;> omega
theorem markB_len (m : Mk) (data : List UInt8) (hd : data.length ≤ 104) : (markB m data).length = 128 := by
  have h0 : zeroS.length = 128 := rfl
  have h1 : (putL zeroS 4 4 m.round).length = 128 := by rw [putL_len] <;> omega
  have h2 : (putL (putL zeroS 4 4 m.round) 8 8 m.lsn).length = 128 := by rw [putL_len] <;> omega
  have h3 : (ovr (putL (putL zeroS 4 4 m.round) 8 8 m.lsn) 16 [UInt8.ofNat m.kind]).length = 128 := by rw [ovr_len (by rw [h2]; simp)]; exact h2
  have h4 : (putL (ovr (putL (putL zeroS 4 4 m.round) 8 8 m.lsn) 16 [UInt8.ofNat m.kind]) 18 2 m.part).length = 128 := by rw [putL_len] <;> omega
  have h5 : (putL (putL (ovr (putL (putL zeroS 4 4 m.round) 8 8 m.lsn) 16 [UInt8.ofNat m.kind]) 18 2 m.part) 20 4 m.len).length = 128 := by rw [putL_len] <;> omega
  have h6 : (ovr (putL (putL (ovr (putL (putL zeroS 4 4 m.round) 8 8 m.lsn) 16 [UInt8.ofNat m.kind]) 18 2 m.part) 20 4 m.len) 24 data).length = 128 := by rw [ovr_len] <;> omega
  unfold markB
  rw [sealL_len] <;> omega

/-- What a head sector says. -/
def okHead (b : List UInt8) (n side : Nat) : Option Hd :=
  if whole b = true ∧ (b.drop 24).take 8 = magicL ∧ fld b 32 4 = n ∧ (1 ≤ fld b 4 4 ∧ fld b 4 4 ≤ 2147483647) ∧ (1 ≤ fld b 8 8 ∧ fld b 8 8 ≤ 1099511627776) ∧
      (1 ≤ fld b 16 8 ∧ fld b 16 8 ≤ 1099511627776) ∧ (1 ≤ fld b 36 4 ∧ fld b 36 4 ≤ fld b 4 4) ∧ fld b 16 8 % 2 = side then
    some ⟨fld b 4 4, fld b 8 8, fld b 16 8, fld b 36 4⟩ else none
theorem okHead_some {b : List UInt8} {n side : Nat} {h : Hd} (e : okHead b n side = some h) :
    (1 ≤ h.round ∧ h.round ≤ 2147483647) ∧ (1 ≤ h.lsn ∧ h.lsn ≤ 1099511627776) ∧ (1 ≤ h.turn ∧ h.turn ≤ 1099511627776) ∧ (1 ≤ h.floor ∧ h.floor ≤ h.round) ∧ h.turn % 2 = side := by
  unfold okHead at e
  split at e
  · rename_i hh
    cases e
    exact ⟨hh.2.2.2.1, hh.2.2.2.2.1, hh.2.2.2.2.2.1, hh.2.2.2.2.2.2.1, hh.2.2.2.2.2.2.2⟩
  · cases e
theorem fld_zero (b : List UInt8) (a : Nat) : fld b a 0 = 0 := by simp [fld, num]
theorem fld_one {b : List UInt8} {a : Nat} (h : a < b.length) : fld b a 1 = b[a].toNat := by
  rw [fld_succ (n := 0) h, fld_zero]; simp
/-- What a sector of a record says. -/
def okMark (b : List UInt8) : Option Mk :=
  if whole b = true ∧ fld b 17 1 = 0 ∧ fld b 16 1 ≠ 0 ∧ fld b 8 8 ≤ 1099511627776 ∧ fld b 4 4 ≤ 2147483647 ∧ fld b 20 4 ≤ 32768 then
    some ⟨fld b 4 4, fld b 8 8, fld b 16 1, fld b 18 2, fld b 20 4⟩ else none

def needN (n : Nat) : Nat := if n = 0 then 1 else (n + 103) / 104
def best (a b : Option Hd) : Option Hd :=
  match b with
  | none => a
  | some y => match a with
    | none => some y
    | some x => if x.turn < y.turn then some y else some x

/-! ### Acts on the disk -/
inductive DAct where
  | wr (at_ : Nat) (data : List UInt8)
  | fl
def DAct.run (d : Md) : DAct → Int × Md
  | .wr a x => d.write a x
  | .fl => d.flush
def runs (d : Md) : List DAct → Int × Md
  | [] => (0, d)
  | a :: r => if (a.run d).1 = 0 then runs (a.run d).2 r else a.run d

theorem runs_app (d : Md) (a b : List DAct) : runs d (a ++ b) = if (runs d a).1 = 0 then runs (runs d a).2 b else runs d a := by
  induction a generalizing d with
  | nil => rfl
  | cons x r ih =>
    by_cases h : (x.run d).1 = 0
    · have e1 : runs d (x :: r ++ b) = runs (x.run d).2 (r ++ b) := by simp [runs, h]
      have e2 : runs d (x :: r) = runs (x.run d).2 r := by simp [runs, h]
      rw [e1, e2]; exact ih _
    · have e1 : runs d (x :: r ++ b) = x.run d := by simp [runs, h]
      have e2 : runs d (x :: r) = x.run d := by simp [runs, h]
      rw [e1, e2, if_neg h]

/-! ### The log -/
structure Rec where
  lsn : Nat
  kind : Nat
  data : List UInt8
  round : Nat
structure Lg where
  st : Nat
  n : Nat
  head : Hd
  next : Nat
  durable : Nat
  reserved : Nat
  recs : List Rec
  dead : Bool

def place (st n p : Nat) : Nat := st + 2 + (p - 1) % (n - 2)
def layA (st n : Nat) (h : Hd) : List DAct := [.wr (st + h.turn % 2) (headB n h), .fl]
def fmtA (st n : Nat) : List DAct :=
  [.wr st zeroS, .wr (st + 1) zeroS, .fl] ++ ((List.range (n - 2)).map fun i => .wr (st + 2 + i) zeroS) ++ [.fl] ++ layA st n ⟨1, 1, 2, 1⟩
/-- Part i of a record's payload. -/
def partOf (data : List UInt8) (i : Nat) : List UInt8 := (data.drop (104 * i)).take 104
def recA (st n round p kind : Nat) (data : List UInt8) : List DAct :=
  (List.range (needN data.length)).map fun i => .wr (place st n (p + i)) (markB ⟨round, p + i, kind, i, data.length⟩ (partOf data i))

/-- The record at p. -/
def recAt (rd : Nat → List UInt8) (st n p low high room : Nat) : Option Rec :=
  match okMark (rd (place st n p)) with
  | none => none
  | some m => if m.round < low ∨ high < m.round ∨ room < needN m.len ∨ 1099511627776 < p + needN m.len - 1 ∨
        ¬ ((List.range (needN m.len)).all fun i => okMark (rd (place st n (p + i))) == some ⟨m.round, p + i, m.kind, i, m.len⟩) = true then none
      else some ⟨p, m.kind, (((List.range (needN m.len)).flatMap fun i => ((rd (place st n (p + i))).drop 24).take 104)).take m.len, m.round⟩

/-- The records from p on; room: the sectors that are left. -/
def findGo (rd : Nat → List UInt8) (st n high : Nat) : Nat → Nat → Nat → Nat → List Rec × Nat
  | 0, p, low, room => ([], p)
  | f + 1, p, low, room => if room = 0 then ([], p) else match recAt rd st n p low high room with
    | none => ([], p)
    | some r => let x := findGo rd st n high f (p + needN r.data.length) r.round (room - needN r.data.length); (r :: x.1, x.2)

/-- The head that holds. -/
def holdsM (d : Md) (st n : Nat) : Option Hd × Int :=
  if d.down then (none, 2) else
    match best (okHead (d.newest st) n 0) (okHead (d.newest (st + 1)) n 1) with
    | none => (none, 30)
    | some h => if h.round = 2147483647 ∨ h.turn = 1099511627776 then (none, 31) else (some h, 0)
def opn (d : Md) (st n : Nat) : (Option Lg × Int) × Md :=
  match holdsM d st n with
  | (none, e) => ((none, e), d)
  | (some h, _) =>
    let x := findGo d.newest st n h.round (n - 2) h.lsn h.floor (n - 2)
    let h' : Hd := { h with round := h.round + 1, turn := h.turn + 1 }
    let y := runs d (layA st n h')
    if y.1 = 0 then ((some ⟨st, n, h', x.2, x.2, 0, x.1, false⟩, 0), y.2) else ((none, y.1), y.2)

def fmt (d : Md) (st n : Nat) : Int × Md := runs d (fmtA st n)

def Lg.live (l : Lg) : Nat := l.next - l.head.lsn
def Lg.free (l : Lg) : Nat := l.n - 2 - l.live - l.reserved

def Lg.append (l : Lg) (d : Md) (kind : Int) (data : List UInt8) (flag : Bool) : (Int × Int) × Lg × Md :=
  if kind < 1 ∨ 255 < kind ∨ 32768 < data.length then ((0, 32), l, d) else if l.dead then ((0, 2), l, d) else
    if flag = true ∧ l.reserved < needN data.length then ((0, 34), l, d) else
    if (flag = false ∧ l.free < needN data.length) ∨ 1099511627776 < l.next + needN data.length - 1 then ((0, 31), l, d) else
      let y := runs d (recA l.st l.n l.head.round l.next kind.toNat data)
      if y.1 = 0 then (((l.next : Int), 0), { l with reserved := if flag then l.reserved - needN data.length else l.reserved, recs := l.recs ++ [⟨l.next, kind.toNat, data, l.head.round⟩], next := l.next + needN data.length }, y.2)
      else ((0, y.1), { l with dead := true }, y.2)
def Lg.flush (l : Lg) (d : Md) : Int × Lg × Md :=
  if l.dead then (2, l, d) else if l.durable = l.next then (0, l, d) else
    if d.flush.1 = 0 then (0, { l with durable := l.next }, d.flush.2) else (d.flush.1, { l with dead := true }, d.flush.2)
/-- How many records lie below. -/
def goneN : List Rec → Nat → Option Nat
  | [], _ => none
  | r :: rs, k => if r.lsn = k then some 0 else (goneN rs k).map (· + 1)
def Lg.gone (l : Lg) (lsn : Int) : Option Nat :=
  if lsn < l.head.lsn ∨ (l.durable : Int) < lsn then none else
    match goneN l.recs lsn.toNat with
    | some i => some i
    | none => if lsn = l.next then some l.recs.length else none
def Lg.cut (l : Lg) (d : Md) (lsn : Int) : Int × Lg × Md :=
  if l.dead then (2, l, d) else match l.gone lsn with
    | none => (33, l, d)
    | some k => if lsn = l.head.lsn then (0, l, d) else if l.head.turn = 1099511627776 ∨ 1099511627776 < lsn then (31, l, d) else
        let h : Hd := ⟨l.head.round, lsn.toNat, l.head.turn + 1, ((l.recs[k]?).map (·.round)).getD l.head.round⟩
        let y := runs d (layA l.st l.n h)
        if y.1 = 0 then (0, { l with head := h, recs := l.recs.drop k, durable := l.next }, y.2) else (y.1, { l with dead := true }, y.2)
def Lg.reserve (l : Lg) (k : Int) : Int × Lg :=
  if k < 0 then (1, l) else if l.dead then (2, l) else if (l.free : Int) < k then (31, l) else (0, { l with reserved := l.reserved + k.toNat })
def Lg.release (l : Lg) (k : Int) : Int × Lg :=
  if k < 0 then (1, l) else if l.dead then (2, l) else if (l.reserved : Int) < k then (34, l) else (0, { l with reserved := l.reserved - k.toNat })

/-! ### What holds of a log -/
/-- The records follow one another from p to q. -/
def Chain : List Rec → Nat → Nat → Prop
  | [], p, q => p = q
  | r :: rs, p, q => r.lsn = p ∧ Chain rs (p + needN r.data.length) q

structure Lg.Wf (l : Lg) : Prop where
  n4 : 4 ≤ l.n
  nm : l.st + l.n ≤ 4096
  lo : 1 ≤ l.head.lsn
  ch : Chain l.recs l.head.lsn l.next
  room : l.next - l.head.lsn + l.reserved ≤ l.n - 2
  nx : l.next ≤ 1099511627777
  du : l.durable ≤ l.next
  rd : l.head.round ≤ 2147483647
  tn : l.head.turn ≤ 1099511627776
  rl : ∀ r ∈ l.recs, r.data.length ≤ 32768 ∧ r.kind < 256 ∧ r.round ≤ 2147483647

theorem needN_pos (k : Nat) : 1 ≤ needN k := by unfold needN; split <;> omega
theorem Chain.le : ∀ {rs : List Rec} {p q : Nat}, Chain rs p q → p + rs.length ≤ q
  | [], p, q, h => by cases h; simp
  | r :: rs, p, q, h => by
    have := Chain.le h.2
    have := needN_pos r.data.length
    simp; omega
theorem Chain.snoc : ∀ {rs : List Rec} {p q : Nat} {r : Rec}, Chain rs p q → r.lsn = q → Chain (rs ++ [r]) p (q + needN r.data.length)
  | [], p, q, r, h, hr => by cases h; exact ⟨hr, rfl⟩
  | x :: rs, p, q, r, h, hr => ⟨h.1, Chain.snoc h.2 hr⟩
theorem Chain.low : ∀ {rs : List Rec} {p q : Nat}, Chain rs p q → ∀ r ∈ rs, p ≤ r.lsn ∧ r.lsn < q
  | [], p, q, h, r, hr => by cases hr
  | x :: rs, p, q, h, r, hr => by
    have h1 := Chain.le h.2
    have := needN_pos x.data.length
    rcases List.mem_cons.1 hr with rfl | hr
    · have := h.1; omega
    · have := Chain.low h.2 r hr; omega
theorem Chain.drop : ∀ {rs : List Rec} {p q k i : Nat}, Chain rs p q → goneN rs k = some i → Chain (rs.drop i) k q ∧ i < rs.length
  | [], p, q, k, i, h, hg => by simp [goneN] at hg
  | x :: rs, p, q, k, i, h, hg => by
    unfold goneN at hg
    split at hg
    · rename_i hx
      simp at hg; subst hg
      exact ⟨⟨hx, by rw [← hx, h.1]; exact h.2⟩, by simp⟩
    · rw [Option.map_eq_some_iff] at hg
      obtain ⟨j, hj, rfl⟩ := hg
      have := Chain.drop h.2 hj
      exact ⟨this.1, by simp; exact this.2⟩

end Tw
