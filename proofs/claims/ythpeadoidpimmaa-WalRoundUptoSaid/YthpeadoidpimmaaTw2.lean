/- Operations that leave the world as it is: what each yields, over an environment of known slots and a heap. No condition. -/
import Derived.Test.YthpeadoidpimmaaTw1
namespace Tw
open Go
set_option linter.unusedVariables false
set_option linter.unusedSimpArgs false

/-! ### Memory -/

def rdc (h : Hp) (a : Addr) : Option Value :=
  match h[a.block]? with
  | some (.cells c _ _) => if a.spot.isSome then none else c[a.off]?
  | _ => none

theorem cell_rdc (w : World) (a : Addr) : w.cell? a = rdc w.heap a := rfl

/-- The head of a block. -/
abbrev nA (b : Nat) : Addr := ⟨b, 0, none⟩

/-- A slice value. -/
structure Sl where
  p : Option Addr
  len : Nat
  cap : Nat

abbrev Sl.v (s : Sl) : Value := .slice s.p s.len s.cap
abbrev Sl.nil : Sl := ⟨none, 0, 0⟩

/-- A byte as a cell. -/
abbrev bv (b : UInt8) : Value := .int .u8 (b.toNat : Int)

/-- n cells from a on. -/
def RdL (h : Hp) (a : Addr) (l : List Value) : Prop := ∀ (j : Nat) (v : Value), l[j]? = some v → rdc h (a.add j) = some v

/-! ### Facts on types, by reckoning -/

def aggD : TypeDesc → Bool
  | .struct _ | .array _ _ => true
  | _ => false

def kindO (P : Program) (t : TypeId) : Option (Bool × Nat) :=
  match P.underlying t, P.info? t with
  | some d, some i => some (aggD d, i.size)
  | _, _ => none

def fieldO (P : Program) (t : TypeId) (f : Nat) : Option (Nat × Nat) :=
  match P.underlying t with
  | some (.struct fs) => match fs[f]? with
    | some fl => match P.info? fl.type with
      | some i => some (fl.offset, i.size)
      | none => none
    | none => none
  | _ => none

/-- Of a field: where it begins; is it an aggregate; its size. -/
def fieldK (P : Program) (t : TypeId) (f : Nat) : Option (Nat × Bool × Nat) :=
  match P.underlying t with
  | some (.struct fs) => match fs[f]? with
    | some fl => match kindO P fl.type with
      | some (b, n) => some (fl.offset, b, n)
      | none => none
    | none => none
  | _ => none

/-- A slice type: its element type; that one's cells and bytes. -/
def sliceO (P : Program) (t : TypeId) : Option (TypeId × Nat × Nat) :=
  match P.underlying t with
  | some (.slice e) => match P.info? e with
    | some i => some (e, i.size, i.bytes)
    | none => none
  | _ => none

def arrO (P : Program) (t : TypeId) : Option (Nat × TypeId × Nat) :=
  match P.underlying t with
  | some (.array n e) => match P.info? e with
    | some i => some (n, e, i.size)
    | none => none
  | _ => none

def intO (P : Program) (t : TypeId) : Option IntKind :=
  match P.underlying t with
  | some (.int k) => some k
  | _ => none

def isPtr (P : Program) (t : TypeId) : Bool :=
  match P.underlying t with
  | some (.pointer _) => true
  | _ => false

def isBool (P : Program) (t : TypeId) : Bool :=
  match P.underlying t with
  | some .bool => true
  | _ => false

theorem kindO_spec {P : Program} {t : TypeId} {b : Bool} {n : Nat} (h : kindO P t = some (b, n)) : ∃ d i, P.underlying t = some d ∧ P.info? t = some i ∧ aggD d = b ∧ i.size = n := by
  unfold kindO at h
  split at h
  · rename_i d i hd hi; simp at h; exact ⟨d, i, hd, hi, h.1, h.2⟩
  · cases h

theorem fieldO_spec {P : Program} {t : TypeId} {f o n : Nat} (h : fieldO P t f = some (o, n)) :
    ∃ fs fl i, P.underlying t = some (.struct fs) ∧ fs[f]? = some fl ∧ P.info? fl.type = some i ∧ fl.offset = o ∧ i.size = n := by
  unfold fieldO at h
  split at h
  · rename_i fs hd
    split at h
    · rename_i fl hfl
      split at h
      · rename_i i hi; simp at h; exact ⟨fs, fl, i, hd, hfl, hi, h.1, h.2⟩
      · cases h
    · cases h
  · cases h

theorem fieldK_spec {P : Program} {t : TypeId} {f o n : Nat} {b : Bool} (h : fieldK P t f = some (o, b, n)) :
    ∃ fs fl, P.underlying t = some (.struct fs) ∧ fs[f]? = some fl ∧ fl.offset = o ∧ kindO P fl.type = some (b, n) := by
  unfold fieldK at h
  split at h
  · rename_i fs hd
    split at h
    · rename_i fl hfl
      split at h
      · rename_i b' n' hk; simp at h; obtain ⟨h1, h2, h3⟩ := h; subst h2; subst h3; exact ⟨fs, fl, hd, hfl, h1, hk⟩
      · cases h
    · cases h
  · cases h

theorem sliceO_spec {P : Program} {t e : TypeId} {n b : Nat} (h : sliceO P t = some (e, n, b)) :
    ∃ i, P.underlying t = some (.slice e) ∧ P.info? e = some i ∧ i.size = n ∧ i.bytes = b := by
  unfold sliceO at h
  split at h
  · rename_i e' hd
    split at h
    · rename_i i hi; simp at h; obtain ⟨h1, h2, h3⟩ := h; subst h1; exact ⟨i, hd, hi, h2, h3⟩
    · cases h
  · cases h

theorem arrO_spec {P : Program} {t e : TypeId} {n s : Nat} (h : arrO P t = some (n, e, s)) :
    ∃ i, P.underlying t = some (.array n e) ∧ P.info? e = some i ∧ i.size = s := by
  unfold arrO at h
  split at h
  · rename_i n' e' hd
    split at h
    · rename_i i hi; simp at h; obtain ⟨h1, h2, h3⟩ := h; subst h1; subst h2; exact ⟨i, hd, hi, h3⟩
    · cases h
  · cases h

theorem intO_spec {P : Program} {t : TypeId} {k : IntKind} (h : intO P t = some k) : P.underlying t = some (.int k) := by
  unfold intO at h
  split at h
  · rename_i k' hd; simp at h; subst h; exact hd
  · cases h

theorem isPtr_spec {P : Program} {t : TypeId} (h : isPtr P t = true) : P.underlying t = some (.pointer (P.pointee t)) := by
  unfold isPtr at h
  split at h
  · rename_i e hd; rw [hd]; simp [Program.pointee, hd]
  · cases h

theorem isBool_spec {P : Program} {t : TypeId} (h : isBool P t = true) : P.underlying t = some .bool := by
  unfold isBool at h
  split at h
  · rename_i hd; exact hd
  · cases h

theorem run_und {P : Program} {t : TypeId} {d : TypeDesc} (h : P.underlying t = some d) (w : World) : (underlying t).run P w = .ok d w := by
  simp [underlying, h]

theorem run_isAgg {P : Program} {t : TypeId} {d : TypeDesc} (h : P.underlying t = some d) (w : World) : (isAgg t).run P w = .ok (aggD d) w := by
  unfold isAgg
  rw [Sem.run_bind, run_und h w]
  cases d <;> rfl

theorem run_size {P : Program} {t : TypeId} {i : TypeInfo} (h : P.info? t = some i) (w : World) : (Go.sizeOf t).run P w = Result.ok i.size w := by
  simp [Go.sizeOf, typeInfo, h]

/-! ### The operations -/

section ops
variable {P : Program} {N : Nat} {d : Option Tmp} {t : TypeId} {p : String} {af : Array Edge} {g : Option (Nat × Bool)} {e : Env} {h : Hp}

theorem mv {x : Operand} {v : Value} (hx : ev e x = some v) : Yq P N ⟨d, .move x, t, p, af, g⟩ e h v := by
  intro a w hf hw; simp [execOp, hf.ev hx]
theorem asg {x : Operand} {v : Value} (hx : ev e x = some v) : Yq P N ⟨d, .assign x, t, p, af, g⟩ e h v := by
  intro a w hf hw; simp [execOp, hf.ev hx]
theorem pkT {c x y : Operand} {v : Value} (hc : ev e c = some (.bool true)) (hx : ev e x = some v) : Yq P N ⟨d, .pick c x y, t, p, af, g⟩ e h v := by
  intro a w hf hw; simp [execOp, hf.ev hc, hf.ev hx, asBool]
theorem pkF {c x y : Operand} {v : Value} (hc : ev e c = some (.bool false)) (hx : ev e y = some v) : Yq P N ⟨d, .pick c x y, t, p, af, g⟩ e h v := by
  intro a w hf hw; simp [execOp, hf.ev hc, hf.ev hx, asBool]
theorem ext {x : Operand} {i : Nat} {vs : Array Value} {v : Value} (hx : ev e x = some (.tuple vs)) (hv : vs[i]? = some v) : Yq P N ⟨d, .extract x i, t, p, af, g⟩ e h v := by
  intro a w hf hw; simp [execOp, hf.ev hx, Instr.extract, hv]

/-- Arithmetic and comparison of whole numbers. -/
theorem bi {op : BinOp} {xt yt : TypeId} {x y : Operand} {k : IntKind} {m n : Int} {r : Value} (hx : ev e x = some (.int k m)) (hy : ev e y = some (.int k n))
    (hr : ∀ w, (binOp op xt (.int k m) (.int k n)).run P w = .ok r w) : Yq P N ⟨d, .binOp op xt x y yt, t, p, af, g⟩ e h r := by
  intro a w hf hw
  have hg : (eqGuard op xt x y (.int k m) (.int k n)).run P w = .ok () w := by
    cases op <;> simp [eqGuard]
  simp [execOp, hf.ev hx, hf.ev hy, hg, hr]

section
variable {xt yt : TypeId} {x y : Operand} {k : IntKind} {m n r : Int} (hx : ev e x = some (.int k m)) (hy : ev e y = some (.int k n))
include hx hy
theorem bAdd (hr : r = k.wrap (m + n)) : Yq P N ⟨d, .binOp .add xt x y yt, t, p, af, g⟩ e h (.int k r) :=
  bi hx hy fun w => by subst hr; simp [binOp, Op.intArith]
theorem bSub (hr : r = k.wrap (m - n)) : Yq P N ⟨d, .binOp .sub xt x y yt, t, p, af, g⟩ e h (.int k r) :=
  bi hx hy fun w => by subst hr; simp [binOp, Op.intArith]
theorem bMul (hr : r = k.wrap (m * n)) : Yq P N ⟨d, .binOp .mul xt x y yt, t, p, af, g⟩ e h (.int k r) :=
  bi hx hy fun w => by subst hr; simp [binOp, Op.intArith]
theorem bQuo (h0 : n ≠ 0) (hr : r = k.wrap (m.tdiv n)) : Yq P N ⟨d, .binOp .quo xt x y yt, t, p, af, g⟩ e h (.int k r) :=
  bi hx hy fun w => by subst hr; simp [binOp, Op.intDiv, h0]
theorem bRem (h0 : n ≠ 0) (hr : r = m.tmod n) : Yq P N ⟨d, .binOp .rem xt x y yt, t, p, af, g⟩ e h (.int k r) :=
  bi hx hy fun w => by subst hr; simp [binOp, Op.intDiv, h0]
theorem bAnd (hr : r = k.wrap ((BitVec.ofInt k.bits m &&& BitVec.ofInt k.bits n).toNat : Int)) : Yq P N ⟨d, .binOp .and xt x y yt, t, p, af, g⟩ e h (.int k r) :=
  bi hx hy fun w => by subst hr; simp [binOp, Op.intBits]
theorem bOr (hr : r = k.wrap ((BitVec.ofInt k.bits m ||| BitVec.ofInt k.bits n).toNat : Int)) : Yq P N ⟨d, .binOp .or xt x y yt, t, p, af, g⟩ e h (.int k r) :=
  bi hx hy fun w => by subst hr; simp [binOp, Op.intBits]
theorem bXor (hr : r = k.wrap ((BitVec.ofInt k.bits m ^^^ BitVec.ofInt k.bits n).toNat : Int)) : Yq P N ⟨d, .binOp .xor xt x y yt, t, p, af, g⟩ e h (.int k r) :=
  bi hx hy fun w => by subst hr; simp [binOp, Op.intBits]
theorem bEql : Yq P N ⟨d, .binOp .eql xt x y yt, t, p, af, g⟩ e h (.bool (m == n)) := bi hx hy fun w => by simp [binOp, Op.intCmp]
theorem bNeq : Yq P N ⟨d, .binOp .neq xt x y yt, t, p, af, g⟩ e h (.bool (m != n)) := bi hx hy fun w => by simp [binOp, Op.intCmp]
theorem bLss : Yq P N ⟨d, .binOp .lss xt x y yt, t, p, af, g⟩ e h (.bool (decide (m < n))) := bi hx hy fun w => by simp [binOp, Op.intCmp]
theorem bLeq : Yq P N ⟨d, .binOp .leq xt x y yt, t, p, af, g⟩ e h (.bool (decide (m ≤ n))) := bi hx hy fun w => by simp [binOp, Op.intCmp]
theorem bGtr : Yq P N ⟨d, .binOp .gtr xt x y yt, t, p, af, g⟩ e h (.bool (decide (m > n))) := bi hx hy fun w => by simp [binOp, Op.intCmp]
theorem bGeq : Yq P N ⟨d, .binOp .geq xt x y yt, t, p, af, g⟩ e h (.bool (decide (m ≥ n))) := bi hx hy fun w => by simp [binOp, Op.intCmp]
end

theorem bShl {xt yt : TypeId} {x y : Operand} {k k' : IntKind} {m n r : Int} (hx : ev e x = some (.int k m)) (hy : ev e y = some (.int k' n)) (h0 : 0 ≤ n)
    (hr : r = k.wrap (m * 2 ^ (min n.toNat k.bits))) : Yq P N ⟨d, .binOp .shl xt x y yt, t, p, af, g⟩ e h (.int k r) := by
  intro a w hf hw
  have hn : ¬ n < 0 := by omega
  subst hr
  simp [execOp, hf.ev hx, hf.ev hy, eqGuard, binOp, Op.shift, hn]
theorem bShr {xt yt : TypeId} {x y : Operand} {k k' : IntKind} {m n r : Int} (hx : ev e x = some (.int k m)) (hy : ev e y = some (.int k' n)) (h0 : 0 ≤ n)
    (hr : r = m.fdiv (2 ^ (min n.toNat k.bits))) : Yq P N ⟨d, .binOp .shr xt x y yt, t, p, af, g⟩ e h (.int k r) := by
  intro a w hf hw
  have hn : ¬ n < 0 := by omega
  subst hr
  simp [execOp, hf.ev hx, hf.ev hy, eqGuard, binOp, Op.shift, hn]

theorem bEqB {xt yt : TypeId} {x y : Operand} {m n : Bool} (ht : isBool P xt = true) (hx : ev e x = some (.bool m)) (hy : ev e y = some (.bool n)) :
    Yq P N ⟨d, .binOp .eql xt x y yt, t, p, af, g⟩ e h (.bool (m == n)) := by
  intro a w hf hw
  have hu := run_eql_bool (P := P) w xt m n (isBool_spec ht)
  simp [execOp, hf.ev hx, hf.ev hy, eqGuard, hu]
theorem bNeB {xt yt : TypeId} {x y : Operand} {m n : Bool} (ht : isBool P xt = true) (hx : ev e x = some (.bool m)) (hy : ev e y = some (.bool n)) :
    Yq P N ⟨d, .binOp .neq xt x y yt, t, p, af, g⟩ e h (.bool (!(m == n))) := by
  intro a w hf hw
  have hu := run_neq_bool (P := P) w xt m n (isBool_spec ht)
  simp [execOp, hf.ev hx, hf.ev hy, eqGuard, hu]
theorem bEqN {xt yt : TypeId} {x : Operand} {q : Option Addr} (ht : isPtr P xt = true) (hx : ev e x = some (.pointer q)) :
    Yq P N ⟨d, .binOp .eql xt x (.const (.pointer none)) yt, t, p, af, g⟩ e h (.bool q.isNone) := by
  intro a w hf hw
  have hu := run_eql_pointer_nil (P := P) w xt q (isPtr_spec ht)
  have hc : a.eval (.const (.pointer none)) = .pointer none := rfl
  simp [execOp, hf.ev hx, hc, eqGuard, hu]
theorem bNeN {xt yt : TypeId} {x : Operand} {q : Option Addr} (ht : isPtr P xt = true) (hx : ev e x = some (.pointer q)) :
    Yq P N ⟨d, .binOp .neq xt x (.const (.pointer none)) yt, t, p, af, g⟩ e h (.bool (!q.isNone)) := by
  intro a w hf hw
  have hu := run_neq_pointer_nil (P := P) w xt q (isPtr_spec ht)
  have hc : a.eval (.const (.pointer none)) = .pointer none := rfl
  simp [execOp, hf.ev hx, hc, eqGuard, hu]
theorem bNeS {xt yt : TypeId} {x y : Operand} {s u : ByteArray} (hx : ev e x = some (.string s)) (hy : ev e y = some (.string u)) :
    Yq P N ⟨d, .binOp .neq xt x y yt, t, p, af, g⟩ e h (.bool (!(s.toList == u.toList))) := by
  intro a w hf hw
  simp [execOp, hf.ev hx, hf.ev hy, eqGuard, binOp, Op.stringOp]
theorem uNot {xt : TypeId} {x : Operand} {b : Bool} (hx : ev e x = some (.bool b)) : Yq P N ⟨d, .unOp .not xt x, t, p, af, g⟩ e h (.bool (!b)) := by
  intro a w hf hw
  simp [execOp, hf.ev hx, Op.unary]
theorem uXor {xt : TypeId} {x : Operand} {m r : Int} {k : IntKind} (hk : k.signed = false) (hx : ev e x = some (.int k m))
    (hr : r = k.wrap ((BitVec.ofInt k.bits k.max ^^^ BitVec.ofInt k.bits m).toNat : Int)) : Yq P N ⟨d, .unOp .xor xt x, t, p, af, g⟩ e h (.int k r) := by
  intro a w hf hw
  subst hr
  simp [execOp, hf.ev hx, Op.unary, Op.intBits, hk]
theorem cvI {st dt : TypeId} {x : Operand} {j k : IntKind} {m r : Int} (hs : ∃ d, P.underlying st = some d) (hd : intO P dt = some k) (hx : ev e x = some (.int j m)) (hr : r = k.wrap m) :
    Yq P N ⟨d, .convert st dt x, t, p, af, g⟩ e h (.int k r) := by
  intro a w hf hw
  obtain ⟨ds, hs⟩ := hs
  subst hr
  simp [execOp, hf.ev hx, convert, run_und hs, run_und (intO_spec hd), Conv.intToInt]

/-! Memory -/
theorem ld {ty : TypeId} {x : Operand} {A : Addr} {v : Value} {n : Nat} (ht : kindO P ty = some (false, n)) (hx : ev e x = some (.pointer (some A))) (hv : rdc h A = some v) :
    Yq P N ⟨d, .load ty x, t, p, af, g⟩ e h v := by
  intro a w hf hw
  obtain ⟨ds, i, hd, hi, hb, hn⟩ := kindO_spec ht
  have hc : w.cell? A = some v := by rw [cell_rdc, hw]; exact hv
  simp [execOp, hf.ev hx, Instr.loadAt, Instr.sureAddr, loadVar, run_isAgg hd, hb, hc]
theorem ldA {ty : TypeId} {x : Operand} {A : Addr} {l : List Value} {n : Nat} (ht : kindO P ty = some (true, n)) (hx : ev e x = some (.pointer (some A))) (hl : l.length = n) (hv : RdL h A l) :
    Yq P N ⟨d, .load ty x, t, p, af, g⟩ e h (.agg l.toArray) := by
  intro a w hf hw
  obtain ⟨ds, i, hd, hi, hb, hn⟩ := kindO_spec ht
  have hc := run_loadCells_list (P := P) w A l (fun j v hj => by rw [cell_rdc, hw]; exact hv j v hj)
  rw [hl] at hc
  simp [execOp, hf.ev hx, Instr.loadAt, Instr.sureAddr, loadVar, run_isAgg hd, hb, run_size hi, hn, hc]
theorem nc {x : Operand} {A : Addr} (hx : ev e x = some (.pointer (some A))) : Yq P N ⟨d, .nilCheck x, t, p, af, g⟩ e h (.pointer (some A)) := by
  intro a w hf hw
  simp [execOp, hf.ev hx]
theorem fa {st : TypeId} {x : Operand} {f o n : Nat} {A : Addr} (ht : fieldO P st f = some (o, n + 1)) (hx : ev e x = some (.pointer (some A))) :
    Yq P N ⟨d, .fieldAddr st x f, t, p, af, g⟩ e h (.pointer (some (A.add o))) := by
  intro a w hf hw
  obtain ⟨fs, fl, i, hd, hfl, hi, ho, hn⟩ := fieldO_spec ht
  subst ho
  simp [execOp, hf.ev hx, Instr.fieldAt, run_und hd, hfl, Instr.sureAddr, fieldPlace, run_size hi, hn]
theorem ixS {st : TypeId} {x y : Operand} {el : TypeId} {n b : Nat} {A : Addr} {len cap : Nat} {k : IntKind} {i : Int} (ht : sliceO P st = some (el, n, b)) (hx : ev e x = some (.slice (some A) len cap))
    (hy : ev e y = some (.int k i)) (h0 : 0 ≤ i) (h1 : i < (len : Int)) : Yq P N ⟨d, .indexAddr st x y, t, p, af, g⟩ e h (.pointer (some (A.add (i.toNat * n)))) := by
  intro a w hf hw
  obtain ⟨inf, hd, hi, hn, hb⟩ := sliceO_spec ht
  subst hn
  simp [execOp, hf.ev hx, hf.ev hy, Instr.indexAt, asIntOf, run_und hd, h0, h1, run_size hi]
theorem ixA {st : TypeId} {x y : Operand} {el : TypeId} {len n : Nat} {A : Addr} {k : IntKind} {i : Int} (ht : arrO P st = some (len, el, n)) (hx : ev e x = some (.pointer (some A)))
    (hy : ev e y = some (.int k i)) (h0 : 0 ≤ i) (h1 : i < (len : Int)) : Yq P N ⟨d, .indexAddr st x y, t, p, af, g⟩ e h (.pointer (some (A.add (i.toNat * n)))) := by
  intro a w hf hw
  obtain ⟨inf, hd, hi, hn⟩ := arrO_spec ht
  subst hn
  simp [execOp, hf.ev hx, hf.ev hy, Instr.indexAt, asIntOf, run_und hd, h0, h1, run_size hi, Instr.sureAddr]
theorem ixT {st : TypeId} {x y : Operand} {s : ByteArray} {k : IntKind} {i : Int} {b : UInt8} (ht : P.underlying st = some .string) (hx : ev e x = some (.string s))
    (hy : ev e y = some (.int k i)) (h0 : 0 ≤ i) (h1 : s[i.toNat]? = some b) : Yq P N ⟨d, .index st x y, t, p, af, g⟩ e h (bv b) := by
  intro a w hf hw
  simp [execOp, hf.ev hx, hf.ev hy, Instr.index, asIntOf, run_und ht, h0, h1]
theorem fd {st : TypeId} {x : Operand} {f o n : Nat} {l : List Value} {v : Value} (ht : fieldK P st f = some (o, false, n)) (hx : ev e x = some (.agg l.toArray)) (hv : l[o]? = some v) :
    Yq P N ⟨d, .field st x f, t, p, af, g⟩ e h v := by
  intro a w hf hw
  obtain ⟨fs, fl, hd, hfl, ho, hk⟩ := fieldK_spec ht
  obtain ⟨ds, i, hu, hi, hb, hn⟩ := kindO_spec hk
  subst ho
  simp [execOp, hf.ev hx, Instr.field, run_und hd, hfl, asAgg, part, run_isAgg hu, hb, hv]

theorem lnS {st rt : TypeId} {x : Operand} {q : Option Addr} {len cap : Nat} {el : TypeId} {n b : Nat} (ht : sliceO P st = some (el, n, b)) (hx : ev e x = some (.slice q len cap)) :
    Yq P N ⟨d, .call ⟨.builtin .len, #[x], #[st]⟩, t, p, af, g⟩ e h (.int .i64 (len : Int)) := by
  intro a w hf hw
  obtain ⟨inf, hd, hi, hn, hb⟩ := sliceO_spec ht
  simp [execOp, resolve, invoke, builtin, Builtin.len_, hf.ev hx, run_und hd, goInt]
theorem mx {st ut : TypeId} {x y : Operand} {k k' : IntKind} {m n r : Int} (hx : ev e x = some (.int k m)) (hy : ev e y = some (.int k' n)) (hr : r = if n > m then n else m) :
    Yq P N ⟨d, .call ⟨.builtin .max, #[x, y], #[st, ut]⟩, t, p, af, g⟩ e h (.int k r) := by
  intro a w hf hw
  subst hr
  simp [execOp, resolve, invoke, builtin, Builtin.max_, Builtin.max2, hf.ev hx, hf.ev hy]
theorem mn {st ut : TypeId} {x y : Operand} {k k' : IntKind} {m n r : Int} (hx : ev e x = some (.int k m)) (hy : ev e y = some (.int k' n)) (hr : r = if n < m then n else m) :
    Yq P N ⟨d, .call ⟨.builtin .min, #[x, y], #[st, ut]⟩, t, p, af, g⟩ e h (.int k r) := by
  intro a w hf hw
  subst hr
  simp [execOp, resolve, invoke, builtin, Builtin.min_, Builtin.min2, hf.ev hx, hf.ev hy]

/-! Slicing -/
/-- A part of an array in memory. -/
def slA (A : Addr) (len n l h : Nat) : Sl := ⟨some (if len = l then A else A.add (l * n)), h - l, len - l⟩
/-- A part of a slice. -/
def slS (s : Sl) (n l h : Nat) : Sl := ⟨if s.cap = l then s.p else s.p.map (·.add (l * n)), h - l, s.cap - l⟩

def oI (o : Option Int) : Option Value := o.map (.int .i64)
/-- The operand of a bound, if there is one. -/
def evO (e : Env) : Option Operand → Option (Option Value)
  | none => some none
  | some x => (ev e x).map some

theorem Fr.evO {N : Nat} {a : Act} {e : Env} (hf : Fr N a e) {x : Option Operand} {v : Option Value} (hx : evO e x = some v) : x.map a.eval = v := by
  cases x with
  | none => simp [Tw.evO] at hx; subst hx; rfl
  | some x =>
    simp only [Tw.evO, Option.map_eq_some_iff] at hx
    obtain ⟨u, hu, rfl⟩ := hx
    simp [hf.ev hu]

theorem run_bounds {P : Program} {w : World} {isS : Bool} {len cap : Nat} {lo hi : Option Int} (h0 : 0 ≤ lo.getD 0) (h1 : lo.getD 0 ≤ hi.getD (len : Int)) (h2 : hi.getD (len : Int) ≤ (cap : Int)) :
    (Instr.sliceBounds isS len cap (oI lo) (oI hi) none).run P w = .ok ((lo.getD 0).toNat, (hi.getD (len : Int)).toNat, cap) w := by
  have e1 : 0 ≤ hi.getD (len : Int) := by omega
  cases lo <;> cases hi <;> simp only [Option.getD_none, Option.getD_some] at h0 h1 h2 e1
  · simp [Instr.sliceBounds, oI]
  · rename_i b
    simp [Instr.sliceBounds, oI, Instr.sliceBound, asIntOf, e1, h2]
  · rename_i b
    simp [Instr.sliceBounds, oI, Instr.sliceBound, asIntOf, h0, h1]
  · rename_i b c
    have : (c.toNat : Int) = c := Int.toNat_of_nonneg e1
    simp [Instr.sliceBounds, oI, Instr.sliceBound, asIntOf, e1, h2, h0, h1, this]

theorem slcA {st : TypeId} {x : Operand} {lo hi : Option Operand} {el : TypeId} {len n : Nat} {A : Addr} {l r : Option Int} (ht : arrO P st = some (len, el, n)) (hx : ev e x = some (.pointer (some A)))
    (hlo : evO e lo = some (oI l)) (hhi : evO e hi = some (oI r)) (h0 : 0 ≤ l.getD 0) (h1 : l.getD 0 ≤ r.getD (len : Int)) (h2 : r.getD (len : Int) ≤ (len : Int)) :
    Yq P N ⟨d, .slice st x lo hi none, t, p, af, g⟩ e h (slA A len n (l.getD 0).toNat (r.getD (len : Int)).toNat).v := by
  intro a w hf hw
  obtain ⟨inf, hd, hi', hn⟩ := arrO_spec ht
  subst hn
  simp [execOp, hf.ev hx, hf.evO hlo, hf.evO hhi, Instr.sliceAt, run_und hd, Instr.sureAddr, run_bounds h0 h1 h2, run_size hi', slA, Sl.v]
theorem slcS {st : TypeId} {x : Operand} {lo hi : Option Operand} {el : TypeId} {n b : Nat} {s : Sl} {l r : Option Int} (ht : sliceO P st = some (el, n, b)) (hx : ev e x = some s.v)
    (hlo : evO e lo = some (oI l)) (hhi : evO e hi = some (oI r)) (h0 : 0 ≤ l.getD 0) (h1 : l.getD 0 ≤ r.getD (s.len : Int)) (h2 : r.getD (s.len : Int) ≤ (s.cap : Int)) :
    Yq P N ⟨d, .slice st x lo hi none, t, p, af, g⟩ e h (slS s n (l.getD 0).toNat (r.getD (s.len : Int)).toNat).v := by
  intro a w hf hw
  obtain ⟨inf, hd, hi', hn, hb⟩ := sliceO_spec ht
  subst hn
  simp [execOp, hf.ev hx, hf.evO hlo, hf.evO hhi, Instr.sliceAt, Instr.slice, run_und hd, run_bounds h0 h1 h2, run_size hi', slS, Sl.v]
end ops
end Tw
