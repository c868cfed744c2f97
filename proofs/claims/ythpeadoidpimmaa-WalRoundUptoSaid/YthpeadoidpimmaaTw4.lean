/- make, append, copy, calls, maps, strings. No condition. -/
import Derived.Test.YthpeadoidpimmaaTw3
namespace Tw
open Go
set_option linter.unusedVariables false
set_option linter.unusedSimpArgs false

/-- The cells of a slice, n a piece. -/
def RdS (h : Hp) (s : Sl) (n : Nat) (l : List Value) : Prop :=
  match s.p with
  | some a => l.length = s.len * n ∧ RdL h a l
  | none => s.len = 0 ∧ l = []

/-- Stored through a slice's pointer. -/
def StS (h : Hp) (q : Option Addr) (o : Nat) (vs : List Value) (h1 : Hp) : Prop :=
  match q with
  | some a => StL h (a.add o) vs h1
  | none => h1 = h

def App (h : Hp) (s x : Sl) (n b : Nat) (el : TypeId) (z : List Value) (K : Sl → Hp → Prop) : Prop :=
  ∃ news, RdS h x n news ∧ oneC news ∧
    (s.len + x.len ≤ s.cap → ∃ h1, StS h s.p (s.len * n) news h1 ∧ K ⟨s.p, s.len + x.len, s.cap⟩ h1) ∧
    (s.cap < s.len + x.len → (s.len + x.len) * b ≤ 140737488355328 ∧ ∃ olds, RdS h s n olds ∧ ∀ c, s.len + x.len ≤ c → c < 9223372036854775808 →
      K ⟨some ⟨h.size, 0, none⟩, s.len + x.len, c⟩ (h.push (.cells (olds ++ news ++ zr z ((c - (s.len + x.len)) * n)).toArray el (0, 0))))

theorem run_firstS {P : Program} {w : World} {s : Sl} {n : Nat} {l : List Value} (hr : RdS w.heap s n l) : (Builtin.firstCells n s.len s.v).run P w = .ok l.toArray w := by
  obtain ⟨q, len, cap⟩ := s
  cases q with
  | none => obtain ⟨h1, h2⟩ := hr; subst h2; simp [Builtin.firstCells]
  | some a =>
    obtain ⟨h1, h2⟩ := hr
    exact run_firstCells_some w n len a len cap l h1 (fun j v hj => by rw [cell_rdc]; exact h2 j v hj)

theorem zeroCells_zr (z : List Value) (m : Nat) : Builtin.zeroCells z.toArray m = (zr z (m * z.length)).toArray := by
  apply Array.ext'
  simp [Builtin.zeroCells, zr, Array.toList_range]

theorem run_bt {P : Program} {w : World} {a : Act} {d : Option Tmp} {t st ut : TypeId} {p : String} {af : Array Edge} {g : Option (Nat × Bool)} {x y : Operand} {v u r : Value} {w' : World} {b : Builtin}
    (hx : a.eval x = v) (hy : a.eval y = u)
    (hr : ((if b = .append then Builtin.append_ #[st, ut] t #[v, u] else Builtin.copy_ #[st, ut] t #[v, u]) : Sem Value).run P w = .ok r w') (hb : b = .append ∨ b = .copy) :
    (execOp a.eval ⟨d, .call ⟨.builtin b, #[x, y], #[st, ut]⟩, t, p, af, g⟩).run P w = .ok (.value r) w' := by
  rcases hb with rfl | rfl
  · simp only [if_true] at hr
    simp [execOp, resolve, invoke, builtin, hx, hy, hr]
  · simp only [reduceCtorEq, if_false] at hr
    simp [execOp, resolve, invoke, builtin, hx, hy, hr]

section ops
variable {P : Program} {N : Nat} {d : Option Tmp} {t : TypeId} {p : String} {af : Array Edge} {g : Option (Nat × Bool)} {e : Env} {W : World} {h : Hp}

theorem app {st rt el : TypeId} {n b : Nat} {x y : Operand} {s u : Sl} {z : List Value} {K : Sl → Hp → Prop} (ht : sliceO P st = some (el, n, b)) (hz : zeroO P el = some z) (hzn : z.length = n) (hb : b ≠ 0)
    (hx : ev e x = some s.v) (hy : ev e y = some u.v) (ha : App h s u n b el z K) :
    OpOk P N ⟨d, .call ⟨.builtin .append, #[x, y], #[st, st]⟩, t, p, af, g⟩ e W h (fun v h' => ∃ r : Sl, v = r.v ∧ K r h') := by
  intro a w hf hw hs Q
  subst hw
  obtain ⟨i, hd, hi, hin, hib⟩ := sliceO_spec ht
  obtain ⟨i', zv, hi', hzv, hzc⟩ := zeroO_spec hz
  obtain rfl : i' = i := by rw [hi] at hi'; exact (Option.some.inj hi').symm
  subst hin
  subst hib
  obtain ⟨news, hnews, hone, hroom, hgrow⟩ := ha
  have hex := hf.ev hx
  have hey := hf.ev hy
  unfold Oper.wp
  obtain ⟨q, len, cap⟩ := s
  obtain ⟨q2, len2, cap2⟩ := u
  simp only at hroom hgrow
  by_cases hc : len + len2 ≤ cap
  · obtain ⟨h1, hst, hk⟩ := hroom hc
    have hfirst := run_firstS (P := P) (s := ⟨q2, len2, cap2⟩) hnews
    cases q with
    | none =>
      simp only [StS] at hst
      subst hst
      have hr : (Builtin.append_ #[st, st] t #[Value.slice none len cap, Value.slice q2 len2 cap2]).run P w = .ok (.slice none (len + len2) cap) w := by
        simp [Builtin.append_, run_und hd, run_size hi, Builtin.lenOf, hc, hfirst]
      rw [run_bt (b := .append) hex hey hr (.inl rfl)]
      exact ⟨_, rfl, hs, _, rfl, hk⟩
    | some b0 =>
      obtain ⟨w', hr', hh, hs'⟩ := run_stL (P := P) hst hone
      have hr : (Builtin.append_ #[st, st] t #[Value.slice (some b0) len cap, Value.slice q2 len2 cap2]).run P w = .ok (.slice (some b0) (len + len2) cap) w' := by
        simp [Builtin.append_, run_und hd, run_size hi, Builtin.lenOf, hc, hfirst, hr']
      rw [run_bt (b := .append) hex hey hr (.inl rfl)]
      refine ⟨_, rfl, ⟨hs'.os.trans hs.os, hs'.tape.trans hs.tape, hs'.output.trans hs.output⟩, ⟨some b0, len + len2, cap⟩, rfl, ?_⟩
      rw [hh]; exact hk
  · obtain ⟨hfit, olds, holds, hk⟩ := hgrow (by omega)
    have hlt : cap < len + len2 := by omega
    have hfits := growslice_fits hlt hfit
    have hfits' : ¬ (281474976710656 < Builtin.nextslicecap (len + len2) cap * i'.bytes) := by omega
    have hneed : len + len2 ≤ 140737488355328 := by
      have : (len + len2) * 1 ≤ (len + len2) * i'.bytes := Nat.mul_le_mul_left _ (by omega)
      omega
    have h63 : ¬ (9223372036854775807 < ((len : Int) + (len2 : Int))) := by omega
    have hold := run_firstS (P := P) (w := w.drew) (s := ⟨q, len, cap⟩) holds
    have hnew := run_firstS (P := P) (w := w.drew) (s := ⟨q2, len2, cap2⟩) hnews
    let c := grownCap w (len + len2) cap el
    have hcdef : c = grownCap w (len + len2) cap el := rfl
    have hc1 : len + len2 ≤ c := grownCap_ge w _ _ _
    have hc2 : c < 9223372036854775808 := by
      have : c ≤ maxLen := grownCap_le_maxLen w _ _ _ (by unfold maxLen; omega)
      unfold maxLen at this; omega
    have hr : (Builtin.append_ #[st, st] t #[Value.slice q len cap, Value.slice q2 len2 cap2]).run P w =
        .ok (.slice (some ⟨w.heap.size, 0, none⟩) (len + len2) c) (w.drew.alloc (.cells (olds ++ news ++ zr z ((c - (len + len2)) * z.length)).toArray el (0, 0))) := by
      have hnn : ¬ (len + len2 ≤ cap) := hc
      have hnn' : ¬ (len + len2 ≤ cap) := hc
      simp only [Sl.v] at hold hnew
      have hz2 : Builtin.zeroCells zv.cells (c - (len + len2)) = (zr z ((c - (len + len2)) * z.length)).toArray := by rw [hzc, zeroCells_zr]
      simp [Builtin.append_, run_und hd, run_size hi, typeInfo, hi, run_zero hi hzv, Builtin.lenOf, hnn, h63, hfits', Question.forced, hold, hnew, newRow]
      have hcc : (Question.appendCap (len + len2) cap el).cut (w.tape w.drawn (.appendCap (len + len2) cap el)) = c := rfl
      simp only [hcc]
      refine ⟨trivial, ?_⟩
      rw [hz2]
      congr 2
      apply Array.ext'
      simp [List.append_assoc]
    rw [run_bt (b := .append) hex hey hr (.inl rfl)]
    refine ⟨_, rfl, ⟨hs.os, hs.tape, hs.output⟩, ⟨some ⟨w.heap.size, 0, none⟩, len + len2, c⟩, rfl, ?_⟩
    have := hk c hc1 hc2
    rw [← hzn] at this
    exact this

theorem mks {st el : TypeId} {n b : Nat} {x y : Operand} {k k' : IntKind} {l c : Int} {z : List Value} (ht : sliceO P st = some (el, n, b)) (hz : zeroO P el = some z) (hb : b ≠ 0)
    (hx : ev e x = some (.int k l)) (hy : ev e y = some (.int k' c)) (h0 : 0 ≤ l) (h1 : l ≤ c) (h2 : c * b ≤ 281474976710656) :
    Eff P N ⟨d, .makeSlice st x y, t, p, af, g⟩ e W h (.slice (some ⟨h.size, 0, none⟩) l.toNat c.toNat) (h.push (.cells (zr z (c.toNat * n)).toArray el (0, 0))) := by
  refine eff_of fun a w hf hw => ?_
  subst hw
  obtain ⟨i, hd, hi, hin, hib⟩ := sliceO_spec ht
  obtain ⟨i', zv, hi', hzv, hzc⟩ := zeroO_spec hz
  obtain rfl : i' = i := by rw [hi] at hi'; exact (Option.some.inj hi').symm
  subst hin
  subst hib
  have hb1 : (1 : Int) ≤ (i'.bytes : Int) := by omega
  have hcb : c * 1 ≤ c * (i'.bytes : Int) := Int.mul_le_mul_of_nonneg_left hb1 (by omega)
  have wl : IntKind.i64.wrap l = l := by rw [IntKind.wrap]; simp [IntKind.bits, IntKind.signed]; omega
  have wc : IntKind.i64.wrap c = c := by rw [IntKind.wrap]; simp [IntKind.bits, IntKind.signed]; omega
  have h3 : ¬ (c < 0 ∨ (281474976710656 : Int) < (i'.bytes : Int) * c) := by rw [Int.mul_comm]; omega
  have hrun : (Instr.makeSlice st (.int k l) (.int k' c)).run P w = .ok (.slice (some ⟨w.heap.size, 0, none⟩) l.toNat c.toNat) (w.alloc (.cells (zr z (c.toNat * i'.size)).toArray el (0, 0))) := by
    have hn1 : ¬ (l < 0) := by omega
    have hn2 : ¬ (c < l) := by omega
    have hn3 : ¬ (c < 0) := by omega
    have hn4 : ¬ ((281474976710656 : Int) < (i'.bytes : Int) * c) := by rw [Int.mul_comm]; omega
    unfold Instr.makeSlice
    simp only [Sem.run_bind, run_und hd, Result.andThen_ok, asInt, asIntOf, Sem.run_pure, typeInfo, run_program, hi, wl, wc]
    by_cases hz0 : c.toNat * i'.size = 0
    · have h00 : Array.range 0 = #[] := rfl
      simp [hn1, hn2, hn3, hn4, run_size hi, hz0, newRow, zr, h00]
    · have hz3 := zr_array z (c.toNat * i'.size)
      simp [hn1, hn2, hn3, hn4, run_size hi, hz0, run_zero hi hzv, newRow, hzc]
      simp only [← hz3]
      simp
  exact ⟨w.alloc (.cells (zr z (c.toNat * i'.size)).toArray el (0, 0)), by simp [execOp, hf.ev hx, hf.ev hy, hrun], rfl, ⟨rfl, rfl, rfl⟩⟩

/-- copy from a slice. -/
theorem cpy {st rt el : TypeId} {n b : Nat} {x y : Operand} {s u : Sl} {l : List Value} {h1 : Hp} (ht : sliceO P st = some (el, n, b)) (hx : ev e x = some s.v) (hy : ev e y = some u.v)
    (hl : RdS h ⟨u.p, Nat.min u.len s.len, u.cap⟩ n l) (ho : oneC l) (hs : StS h s.p 0 l h1) :
    Eff P N ⟨d, .call ⟨.builtin .copy, #[x, y], #[st, rt]⟩, t, p, af, g⟩ e W h (.int .i64 (Nat.min u.len s.len : Nat)) h1 := by
  refine eff_of fun a w hf hw => ?_
  subst hw
  obtain ⟨i, hd, hi, hin, hib⟩ := sliceO_spec ht
  subst hin
  obtain ⟨q, len, cap⟩ := s
  obtain ⟨q2, len2, cap2⟩ := u
  simp only at hl hs ⊢
  have hfirst : (Builtin.firstCells i.size (Nat.min len2 len) (.slice q2 len2 cap2)).run P w = .ok l.toArray w := by
    have := run_firstS (P := P) (w := w) hl
    cases q2 <;> simpa [Sl.v, Builtin.firstCells] using this
  have hex := hf.ev hx
  have hey := hf.ev hy
  cases q with
  | none =>
    simp only [StS] at hs
    subst hs
    refine ⟨w, ?_, rfl, Str.refl w⟩
    refine run_bt (b := .copy) hex hey ?_ (.inr rfl)
    simp [Builtin.copy_, run_und hd, run_size hi, Builtin.lenOf, hfirst, goInt]
  | some b0 =>
    obtain ⟨w', hr', hh, hs'⟩ := run_stL (P := P) hs ho
    refine ⟨w', ?_, hh, hs'⟩
    have h00 : b0.add 0 = b0 := by simp [Addr.add]
    rw [h00] at hr'
    refine run_bt (b := .copy) hex hey ?_ (.inr rfl)
    simp [Builtin.copy_, run_und hd, run_size hi, Builtin.lenOf, hfirst, goInt, hr']

/-- copy from a string. -/
theorem cpyT {st rt el : TypeId} {b : Nat} {x y : Operand} {s : Sl} {u : ByteArray} {h1 : Hp} (ht : sliceO P st = some (el, 1, b)) (hx : ev e x = some s.v) (hy : ev e y = some (.string u))
    (hs : StS h s.p 0 ((u.data.toList.take (Nat.min u.size s.len)).map bv) h1) :
    Eff P N ⟨d, .call ⟨.builtin .copy, #[x, y], #[st, rt]⟩, t, p, af, g⟩ e W h (.int .i64 (Nat.min u.size s.len : Nat)) h1 := by
  refine eff_of fun a w hf hw => ?_
  subst hw
  obtain ⟨i, hd, hi, hin, hib⟩ := sliceO_spec ht
  obtain ⟨q, len, cap⟩ := s
  simp only at hs ⊢
  have ho : oneC ((u.data.toList.take (Nat.min u.size len)).map bv) := by intro v hv; obtain ⟨x, _, rfl⟩ := List.mem_map.1 hv; rfl
  have hx1 : Array.map (fun b : UInt8 => Value.int IntKind.u8 (b.toNat : Int)) (u.extract 0 (Nat.min u.size len)).data = ((u.data.toList.take (Nat.min u.size len)).map bv).toArray := by
    apply Array.ext'
    simp [ByteArray.data_extract]
  have hex := hf.ev hx
  have hey := hf.ev hy
  cases q with
  | none =>
    simp only [StS] at hs
    subst hs
    refine ⟨w, ?_, rfl, Str.refl w⟩
    refine run_bt (b := .copy) hex hey ?_ (.inr rfl)
    simp [Builtin.copy_, run_und hd, run_size hi, Builtin.lenOf, goInt, Builtin.firstCells]
  | some b0 =>
    obtain ⟨w', hr', hh, hs'⟩ := run_stL (P := P) hs ho
    refine ⟨w', ?_, hh, hs'⟩
    have h00 : b0.add 0 = b0 := by simp [Addr.add]
    rw [h00] at hr'
    refine run_bt (b := .copy) hex hey ?_ (.inr rfl)
    simp only [reduceCtorEq, if_false, Builtin.copy_, Sem.run_bind, List.size_toArray, run_und hd, run_size hi, Builtin.lenOf, Builtin.firstCells, Result.andThen_ok, Sem.run_pure, hx1, goInt,
      List.getElem?_toArray, List.getElem?_cons_zero, List.getElem?_cons_succ, hr']

/-- A slice of bytes as a string. -/
theorem cvT {st dt : TypeId} {x : Operand} {s : Sl} {bs : List UInt8} (hs : ∃ el, P.underlying st = some (.slice el) ∧ P.underlying el = some (.int .u8)) (hd : P.underlying dt = some .string)
    (hx : ev e x = some s.v) (hl : RdS h s 1 (bs.map bv)) : Yq P N ⟨d, .convert st dt x, t, p, af, g⟩ e h (.string ⟨bs.toArray⟩) := by
  intro a w hf hw
  subst hw
  obtain ⟨el, hu, hel⟩ := hs
  obtain ⟨q, len, cap⟩ := s
  cases q with
  | none =>
    obtain ⟨h1, h2⟩ := hl
    simp at h2
    subst h2
    simp [execOp, hf.ev hx, convert, run_und hu, run_und hd, run_und hel, Conv.bytesToString]
    rfl
  | some b0 =>
    obtain ⟨h1, h2⟩ := hl
    have hc := run_loadCells_list (P := P) w b0 (bs.map bv) (fun j v hj => by rw [cell_rdc]; exact h2 j v hj)
    have hlen : (bs.map bv).length = len := by simpa using h1
    rw [hlen] at hc
    have hfor : ∀ (l : List UInt8) (acc : ByteArray), l.foldl (fun b a => b.push a) acc = ⟨acc.data ++ l.toArray⟩ := by
      intro l
      induction l with
      | nil => intro acc; simp
      | cons c r ih =>
        intro acc
        rw [List.foldl_cons, ih]
        congr 1
        apply Array.ext'
        simp [ByteArray.push]
    simp [execOp, hf.ev hx, convert, run_und hu, run_und hd, run_und hel, Conv.bytesToString, hc]
    rw [hfor]
    congr 1
    apply Array.ext'
    simp

/-- The operands of a call. -/
def evs (e : Env) : List Operand → Option (List Value)
  | [] => some []
  | x :: r => match ev e x, evs e r with
    | some v, some l => some (v :: l)
    | _, _ => none

theorem Fr.evs {a : Act} (hf : Fr N a e) : ∀ {xs : List Operand} {l : List Value}, evs e xs = some l → xs.map a.eval = l
  | [], l, hl => by simp [Tw.evs] at hl; subst hl; rfl
  | x :: r, l, hl => by
    simp only [Tw.evs] at hl
    split at hl
    · rename_i v l' hv hl'
      simp at hl
      subst hl
      simp [hf.ev hv, Fr.evs hf hl']
    · cases hl

def callO (P : Program) (f : FuncId) : Bool :=
  match P.funcs[f]? with
  | some fn => fn.body.isSome && !(fn.name == "runtime.NumGoroutine")
  | none => false

theorem cl {f : FuncId} {xs : List Operand} {ats : Array TypeId} {vs : List Value} {post : Value → Hp → Prop} (hf : callO P f = true) (hx : evs e xs = some vs) (hc : CallsH P f vs.toArray W h post) :
    OpOk P N ⟨d, .call ⟨.value (.func f), xs.toArray, ats⟩, t, p, af, g⟩ e W h post := by
  intro a w hfr hw hs Q
  have hargs : xs.toArray.map a.eval = vs.toArray := by rw [← hfr.evs hx]; simp
  have hrun : (execOp a.eval ⟨d, .call ⟨.value (.func f), xs.toArray, ats⟩, t, p, af, g⟩) = callFunc f (#[] ++ xs.toArray.map a.eval ++ #[]) := rfl
  have hfn : (callFunc f vs.toArray).run P w = .ok (.enter f vs.toArray) w := by
    unfold callO at hf
    split at hf
    · rename_i fn hfn
      simp only [Bool.and_eq_true, Bool.not_eq_true'] at hf
      obtain ⟨h1, h2⟩ := hf
      unfold callFunc
      simp only [Sem.run_bind, run_program, Result.andThen_ok, hfn, h2, Bool.false_eq_true, if_false]
      cases hb : fn.body with
      | none => simp [hb] at h1
      | some c => simp
    · cases hf
  unfold Oper.wp
  rw [hrun, hargs]
  simp only [Array.empty_append, Array.append_empty, hfn]
  rw [Oper.upon_enter]
  refine (hc w hw hs).mono fun x w' ⟨v, hv, hs', hp⟩ => ?_
  subst hv
  exact ⟨v, rfl, hs', hp⟩
end ops
end Tw
