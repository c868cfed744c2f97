/- Guards by a known test, cells of results, structs compared, maps from int to int. No condition. -/
import Derived.Test.YthpeadoidpimmaaTw5
namespace Tw
open Go
set_option linter.unusedVariables false
set_option linter.unusedSimpArgs false

/-- A sum as it is. -/
def Wr (k : IntKind) (e x : Int) : Prop := x = k.wrap e

theorem tkb {ops : Array Oper} {N : Nat} {d : Option Tmp} {op : Op} {t : TypeId} {p : String} {af : Array Edge} {e : Env} {j : Nat} {want b : Bool} {dj : Tmp}
    (hd : (ops[j]?).bind (·.dst) = some dj) (hv : lk e dj = some (.bool b)) (hb : b = want) : Tk ops N ⟨d, op, t, p, af, some (j, want)⟩ e := by
  subst hb; exact tk1 hd hv
theorem ntkb {ops : Array Oper} {N : Nat} {d : Option Tmp} {op : Op} {t : TypeId} {p : String} {af : Array Edge} {e : Env} {j : Nat} {want b : Bool} {dj : Tmp}
    (hd : (ops[j]?).bind (·.dst) = some dj) (hv : lk e dj = some (.bool b)) (hb : b = !want) : Ntk ops N ⟨d, op, t, p, af, some (j, want)⟩ e := by
  subst hb; exact ntk hd hv (by cases want <;> rfl)

theorem WPC.join {P : Program} {N : Nat} {c : Code} {Q : Exit → Act → World → Prop} {e : Env} {W : World} {h : Hp} (J : Env → Hp → Prop) (hk : ∀ e' h', J e' h' → WQ N Q .normal e' W h')
    (hc : (∀ e' h', J e' h' → WQ N Q .normal e' W h') → WPC P N c Q e W h) : WPC P N c Q e W h := hc hk

section ops
variable {P : Program} {N : Nat} {d : Option Tmp} {t : TypeId} {p : String} {af : Array Edge} {g : Option (Nat × Bool)} {e : Env} {h : Hp}
theorem pkTb {c x y : Operand} {v : Value} {b : Bool} (hc : ev e c = some (.bool b)) (hb : b = true) (hx : ev e x = some v) : Yq P N ⟨d, .pick c x y, t, p, af, g⟩ e h v := by
  subst hb; exact pkT hc hx
theorem pkFb {c x y : Operand} {v : Value} {b : Bool} (hc : ev e c = some (.bool b)) (hb : b = false) (hx : ev e y = some v) : Yq P N ⟨d, .pick c x y, t, p, af, g⟩ e h v := by
  subst hb; exact pkF hc hx
theorem ncb {x : Operand} {q : Option Addr} {A : Addr} (hx : ev e x = some (.pointer q)) (hq : q = some A) : Yq P N ⟨d, .nilCheck x, t, p, af, g⟩ e h (.pointer (some A)) := by
  subst hq; exact nc hx
theorem ixSb {st : TypeId} {x y : Operand} {el : TypeId} {n b : Nat} {A : Addr} {s : Sl} {k : IntKind} {i : Int} (ht : sliceO P st = some (el, n, b)) (hx : ev e x = some s.v)
    (hy : ev e y = some (.int k i)) (hq : s.p = some A) (h0 : 0 ≤ i) (h1 : i < (s.len : Int)) : Yq P N ⟨d, .indexAddr st x y, t, p, af, g⟩ e h (.pointer (some (A.add (i.toNat * n)))) := by
  obtain ⟨q, len, cap⟩ := s
  simp only at hq
  subst hq
  exact ixS ht hx hy h0 h1
theorem lnb {st : TypeId} {x : Operand} {s : Sl} {el : TypeId} {n b : Nat} (ht : sliceO P st = some (el, n, b)) (hx : ev e x = some s.v) :
    Yq P N ⟨d, .call ⟨.builtin .len, #[x], #[st]⟩, t, p, af, g⟩ e h (.int .i64 (s.len : Int)) := lnS (rt := 0) ht hx

/-! Structs of whole numbers and bools, compared -/
def eqO (P : Program) : List Field → List Value → List Value → Option Bool
  | [], _, _ => some true
  | f :: r, xs, ys => match f.name == "_" with
    | true => none
    | false => match P.underlying f.type, xs[f.offset]?, ys[f.offset]? with
      | some (.int _), some (.int k a), some (.int k' b) => match decide (k = k'), eqO P r xs ys with
        | true, some q => some ((a == b) && q)
        | _, _ => none
      | some .bool, some (.bool a), some (.bool b) => match eqO P r xs ys with
        | some q => some ((a == b) && q)
        | _ => none
      | _, _, _ => none

def eqOk (P : Program) (t : TypeId) : Bool :=
  (match P.underlying t with | some (.struct _) => true | _ => false) && !P.stoodInHeld t && !P.eqGuardType P.depth t

theorem run_eqO (w : World) (n : Nat) : ∀ (fs : List Field) (xs ys : List Value) (r : Bool), eqO P fs xs ys = some r → (Op.eqFields (n + 1) xs.toArray ys.toArray fs).run P w = .ok r w := by
  intro fs
  induction fs with
  | nil => intro xs ys r hr; simp [eqO] at hr; subst hr; simp [Op.eqFields]
  | cons f fs ih =>
    intro xs ys r hr
    simp only [eqO] at hr
    split at hr
    · cases hr
    · rename_i hname
      have hname' : f.name ≠ "_" := by intro h; rw [h] at hname; simp at hname
      split at hr
      · rename_i k0 k a k' b hu hx hy
        split at hr
        · rename_i q hk hq
          simp at hr
          subst hr
          have hkk : k = k' := of_decide_eq_true hk
          subst hkk
          have hagg := run_isAgg hu w
          have p1 : (part f.type xs.toArray f.offset).run P w = .ok (.int k a) w := by simp [part, hagg, aggD, hx]
          have p2 : (part f.type ys.toArray f.offset).run P w = .ok (.int k b) w := by simp [part, hagg, aggD, hy]
          simp only [Op.eqFields, hname', ne_eq, not_false_eq_true, if_true, Sem.run_bind, Sem.run_ite, p1, p2, Result.andThen_ok, run_equalIn_int w n f.type k k0 a b hu, ih xs ys q hq]
          cases hab : (a == b) <;> simp [ih xs ys q hq]
        · cases hr
      · rename_i a b hu hx hy
        split at hr
        · rename_i q hq
          simp at hr
          subst hr
          have hagg := run_isAgg hu w
          have p1 : (part f.type xs.toArray f.offset).run P w = .ok (.bool a) w := by simp [part, hagg, aggD, hx]
          have p2 : (part f.type ys.toArray f.offset).run P w = .ok (.bool b) w := by simp [part, hagg, aggD, hy]
          simp only [Op.eqFields, hname', ne_eq, not_false_eq_true, if_true, Sem.run_bind, Sem.run_ite, p1, p2, Result.andThen_ok, run_equalIn_bool w n f.type a b hu, ih xs ys q hq]
          cases hab : (a == b) <;> simp [ih xs ys q hq]
        · cases hr
      · cases hr

theorem eqOk_spec {t : TypeId} (h : eqOk P t = true) : P.underlying t = some (.struct (P.fieldsOf t)) ∧ P.stoodInHeld t = false ∧ P.eqGuardType P.depth t = false := by
  simp only [eqOk, Bool.and_eq_true, Bool.not_eq_true'] at h
  obtain ⟨⟨h1, h2⟩, h3⟩ := h
  refine ⟨?_, h2, h3⟩
  cases hu : P.underlying t with
  | none => simp [hu] at h1
  | some d => cases d <;> first | (simp [hu] at h1; done) | simp [Program.fieldsOf, hu]

theorem bEqG {xt yt : TypeId} {x y : Operand} {xs ys : List Value} {r : Bool} (ht : eqOk P xt = true) (hx : ev e x = some (.agg xs.toArray)) (hy : ev e y = some (.agg ys.toArray))
    (hr : eqO P (P.fieldsOf xt).toList xs ys = some r) : Yq P N ⟨d, .binOp .eql xt x y yt, t, p, af, g⟩ e h (.bool r) := by
  intro a w hf hw
  obtain ⟨h1, h2, h3⟩ := eqOk_spec ht
  have hg := run_eqGuard_agg (P := P) w .eql xt x y xs.toArray ys.toArray h3
  have he := run_eql_struct (P := P) w xt xs.toArray ys.toArray
  rw [run_equalIn_struct w 9999 xt _ _ h1 h2, run_eqO w 9998 _ xs ys r hr] at he
  simp [execOp, hf.ev hx, hf.ev hy, hg, he]
theorem bNeG {xt yt : TypeId} {x y : Operand} {xs ys : List Value} {r : Bool} (ht : eqOk P xt = true) (hx : ev e x = some (.agg xs.toArray)) (hy : ev e y = some (.agg ys.toArray))
    (hr : eqO P (P.fieldsOf xt).toList xs ys = some r) : Yq P N ⟨d, .binOp .neq xt x y yt, t, p, af, g⟩ e h (.bool (!r)) := by
  intro a w hf hw
  obtain ⟨h1, h2, h3⟩ := eqOk_spec ht
  have hg := run_eqGuard_agg (P := P) w .neq xt x y xs.toArray ys.toArray h3
  have he := run_neq_struct (P := P) w xt xs.toArray ys.toArray
  rw [run_equalIn_struct w 9999 xt _ _ h1 h2, run_eqO w 9998 _ xs ys r hr] at he
  simp [execOp, hf.ev hx, hf.ev hy, hg, he]
end ops

/-! Results that lie in cells -/
theorem retsC {P : Program} {fn : Func} {N : Nat} {e : Env} {h : Hp} {t : Tmp} {ty : TypeId} {A : Addr} {l : List Value} {n : Nat} (hr : fn.results = #[.cell t ty]) (hk : kindO P ty = some (true, n))
    (hv : lk e t = some (.pointer (some A))) (hn : l.length = n) (hl : RdL h A l) : Rets P fn N e h (.agg l.toArray) := by
  intro a w hf hw
  obtain ⟨ds, i, hd, hi, hb, hsz⟩ := kindO_spec hk
  have hc := run_loadCells_list (P := P) w A l (fun j v hj => by rw [cell_rdc, hw]; exact hl j v hj)
  rw [hn] at hc
  have h1 := (hf.at_ t _ hv).1
  simp only [Array.getD_eq_getD_getElem?] at h1
  simp [results, hr, h1, asAddr, loadVar, run_isAgg hd, hb, run_size hi, hsz, hc]
theorem retsC1 {P : Program} {fn : Func} {N : Nat} {e : Env} {h : Hp} {t u : Tmp} {ty : TypeId} {A : Addr} {l : List Value} {n : Nat} {x : Value} (hr : fn.results = #[.cell t ty, .tmp u]) (hk : kindO P ty = some (true, n))
    (hv : lk e t = some (.pointer (some A))) (hx : lk e u = some x) (hn : l.length = n) (hl : RdL h A l) : Rets P fn N e h (.tuple #[.agg l.toArray, x]) := by
  intro a w hf hw
  obtain ⟨ds, i, hd, hi, hb, hsz⟩ := kindO_spec hk
  have hc := run_loadCells_list (P := P) w A l (fun j v hj => by rw [cell_rdc, hw]; exact hl j v hj)
  rw [hn] at hc
  have h1 := (hf.at_ t _ hv).1
  have h2 := (hf.at_ u _ hx).1
  simp only [Array.getD_eq_getD_getElem?] at h1 h2
  simp [results, hr, h1, h2, asAddr, loadVar, run_isAgg hd, hb, run_size hi, hsz, hc]

/-! Maps from int to int -/
abbrev MM := List (Int × Int × Nat)
def mE (x : Int × Int × Nat) : MapEntry := { key := .int .i64 x.1, val := .int .i64 x.2.1, born := x.2.2 }
def Mp (h : Hp) (r : Nat) (m : MM) (clock : Nat) : Prop := h[r]? = some (.map (m.map mE).toArray clock)
def mget (m : MM) (k : Int) : Option Int := (m.find? fun x => k == x.1).map fun x => x.2.1
def mset : MM → Int → Int → Nat → MM
  | [], k, v, c => [(k, v, c)]
  | x :: r, k, v, c => if k == x.1 then (k, v, x.2.2) :: r else x :: mset r k v c
def mclock (m : MM) (k : Int) (c : Nat) : Nat := if (m.find? fun x => k == x.1).isSome then c else c + 1

def mapO (P : Program) (t : TypeId) : Bool :=
  match P.underlying t with
  | some (.map k e) => (match P.underlying k with | some (.int .i64) => true | _ => false) && (match P.info? e with | some i => (match i.zero with | some (.int .i64 0) => true | _ => false) | none => false)
  | _ => false

theorem mapO_spec {P : Program} {t : TypeId} (h : mapO P t = true) : ∃ k e i, P.underlying t = some (.map k e) ∧ P.underlying k = some (.int .i64) ∧ P.info? e = some i ∧ i.zero = some (.int .i64 0) := by
  unfold mapO at h
  split at h
  · rename_i k e hu
    simp only [Bool.and_eq_true] at h
    obtain ⟨h1, h2⟩ := h
    split at h1
    · rename_i hk
      split at h2
      · rename_i i hi
        split at h2
        · rename_i hz; exact ⟨k, e, i, hu, hk, hi, hz⟩
        · cases h2
      · cases h2
    · cases h1
  · cases h

theorem findNow_mm (m : MM) (k : Int) (i : Nat) : Instr.findNow (.int .i64) (.int .i64 k) (m.map mE) i = some ((m.findIdx? fun x => k == x.1).bind fun j => (m[j]?).map fun x => (i + j, .int .i64 x.2.1)) := by
  induction m generalizing i with
  | nil => simp [Instr.findNow]
  | cons x r ih =>
    simp only [List.map_cons, Instr.findNow, Instr.sameNow, mE]
    cases hk : (k == x.1) with
    | true => rw [List.findIdx?_cons, hk]; simp
    | false =>
      simp only [if_true, ih]
      rw [List.findIdx?_cons, hk]
      simp only [Bool.false_eq_true, if_false]
      cases hj : List.findIdx? (fun x => k == x.1) r with
      | none => simp
      | some j => simp [Nat.add_comm, Nat.add_left_comm]

theorem find_idx (m : MM) (k : Int) : (m.find? fun x => k == x.1) = (m.findIdx? fun x => k == x.1).bind fun j => m[j]? := by
  induction m with
  | nil => simp
  | cons x r ih =>
    rw [List.find?_cons, List.findIdx?_cons]
    cases hk : (k == x.1) with
    | true => simp
    | false =>
      simp only [ih, Bool.false_eq_true, if_false]
      cases hj : List.findIdx? (fun x => k == x.1) r with
      | none => simp
      | some j => simp

theorem mset_idx (m : MM) (k v : Int) (c : Nat) : mset m k v c = match m.findIdx? fun x => k == x.1 with
    | some j => m.modify j fun x => (k, v, x.2.2)
    | none => m ++ [(k, v, c)] := by
  induction m with
  | nil => simp [mset]
  | cons x r ih =>
    rw [List.findIdx?_cons]
    simp only [mset]
    cases hk : (k == x.1) with
    | true => simp
    | false =>
      simp only [Bool.false_eq_true, if_false, ih]
      cases hj : List.findIdx? (fun x => k == x.1) r with
      | none => simp
      | some j => simp

section maps
variable {P : Program} {N : Nat} {d : Option Tmp} {t : TypeId} {p : String} {af : Array Edge} {g : Option (Nat × Bool)} {e : Env} {W : World} {h : Hp}

theorem run_getMap {w : World} {r : Nat} {es : Array MapEntry} {c : Nat} (hm : w.heap[r]? = some (.map es c)) : (getObj r).run P w = .ok (.map es c) w := by
  simp [getObj, Sem.run, hm]

theorem lkM {mt : TypeId} {x y : Operand} {r : Nat} {m : MM} {c : Nat} {k : Int} (ht : mapO P mt = true) (hx : ev e x = some (.map (some r))) (hy : ev e y = some (.int .i64 k)) (hm : Mp h r m c) :
    Yq P N ⟨d, .lookup mt x y true, t, p, af, g⟩ e h (.tuple #[.int .i64 ((mget m k).getD 0), .bool (mget m k).isSome]) := by
  intro a w hf hw
  subst hw
  obtain ⟨kt, et, i, hu, hk, hi, hz⟩ := mapO_spec ht
  have hg := run_getMap (P := P) hm
  have hfind := findNow_mm m k 0
  have hck : ∀ b, (Instr.checkKey b 10000 kt (.int .i64 k)).run P w = .ok () w := by
    intro b; unfold Instr.checkKey; simp [run_und hk]
  have hfk : (Instr.findKey kt (.int .i64 k) (m.map mE)).run P w = .ok ((m.findIdx? fun x => k == x.1).bind fun j => (m[j]?).map fun x => (0 + j, .int .i64 x.2.1)) w := by
    simp [Instr.findKey, run_und hk, hfind]
  have hget : mget m k = ((m.findIdx? fun x => k == x.1).bind fun j => m[j]?).map fun x => x.2.1 := by rw [mget, find_idx]
  unfold execOp
  simp only [hf.ev hx, hf.ev hy, Instr.lookup, Sem.run_bind, run_und hu, Result.andThen_ok, hg, Sem.run_pure, hck, hfk]
  cases hj : (m.findIdx? fun x => k == x.1) with
  | none => simp [hget, hj, run_zero hi hz]
  | some j =>
    cases hmj : m[j]? with
    | none => simp [hget, hj, hmj, run_zero hi hz]
    | some x => simp [hget, hj, hmj]

theorem mkM {mt : TypeId} : Eff P N ⟨d, .makeMap mt none, t, p, af, g⟩ e W h (.map (some h.size)) (h.push (.map #[] 0)) := by
  refine eff_of fun a w hf hw => ?_
  subst hw
  exact ⟨w.alloc (.map #[] 0), by simp [execOp, Instr.makeMap], rfl, ⟨rfl, rfl, rfl⟩⟩

theorem upM {mt : TypeId} {x y z : Operand} {r : Nat} {m : MM} {c : Nat} {k v : Int} (ht : mapO P mt = true) (hx : ev e x = some (.map (some r))) (hy : ev e y = some (.int .i64 k)) (hz : ev e z = some (.int .i64 v))
    (hm : Mp h r m c) : Eff P N ⟨d, .mapUpdate mt x y z, t, p, af, g⟩ e W h undef (setB h r (.map ((mset m k v c).map mE).toArray (mclock m k c))) := by
  refine eff_skip fun a w hf hw => ?_
  subst hw
  obtain ⟨kt, et, i, hu, hk, hi, hzz⟩ := mapO_spec ht
  have hg := run_getMap (P := P) hm
  have hfind := findNow_mm m k 0
  have hck : ∀ b, (Instr.checkKey b 10000 kt (.int .i64 k)).run P w = .ok () w := by
    intro b; unfold Instr.checkKey; simp [run_und hk]
  have hfk : (Instr.findKey kt (.int .i64 k) (m.map mE)).run P w = .ok ((m.findIdx? fun x => k == x.1).bind fun j => (m[j]?).map fun x => (0 + j, .int .i64 x.2.1)) w := by
    simp [Instr.findKey, run_und hk, hfind]
  have hset : ∀ o, (setObj r o).run P w = .ok () { w with heap := setB w.heap r o } := by
    intro o
    have hm' : w.heap[r]? = some (.map (m.map mE).toArray c) := hm
    simp [setObj, Sem.run, hm', setB]
  refine ⟨{ w with heap := setB w.heap r (.map ((mset m k v c).map mE).toArray (mclock m k c)) }, ?_, rfl, ⟨rfl, rfl, rfl⟩⟩
  unfold execOp
  simp only [hf.ev hx, hf.ev hy, hf.ev hz, Instr.mapUpdate, Sem.run_bind, run_und hu, Result.andThen_ok, hg, hck, hfk]
  rw [mset_idx]
  unfold mclock
  rw [find_idx]
  cases hj : (m.findIdx? fun x => k == x.1) with
  | none =>
    simp only [Option.bind_none, hset, Result.andThen_ok, Sem.run_pure, Option.isSome_none, Bool.false_eq_true, if_false]
    simp [mE]
  | some j =>
    have hlt : j < m.length := by
      obtain ⟨h1, _⟩ := List.findIdx?_eq_some_iff_findIdx_eq.1 hj
      exact h1
    have hkey : k = (m[j]).1 := by
      have := List.findIdx?_eq_some_iff_getElem.1 hj
      obtain ⟨h1, h2, _⟩ := this
      simpa using h2
    have hst : (Instr.keyThatStays (.int .i64 k) (.int .i64 k)).run P w = .ok (.int .i64 k) w := by
      simp [Instr.keyThatStays, Instr.sameBits]
    have hgetj : (((m.map mE).toArray[j]?).map (·.key)).getD (.int .i64 k) = .int .i64 k := by simp [hlt, mE, ← hkey]
    simp only [Option.bind_some, List.getElem?_eq_getElem hlt, Option.map_some, Nat.zero_add, Sem.run_bind, hgetj, hst, Result.andThen_ok, hset, Sem.run_pure, Option.isSome_some, if_true]
    congr 4
    apply Array.ext'
    simp only [Array.toList_modify]
    apply List.ext_getElem?
    intro q
    simp only [List.getElem?_modify, List.getElem?_map]
    by_cases hq : j = q
    · subst hq
      simp only [if_true]
      cases m[j]? <;> rfl
    · simp [hq]

theorem clM {mt rt : TypeId} {x : Operand} {r : Nat} {m : MM} {c : Nat} (ht : mapO P mt = true) (hx : ev e x = some (.map (some r))) (hm : Mp h r m c) :
    Eff P N ⟨d, .call ⟨.builtin .clear, #[x], #[mt]⟩, t, p, af, g⟩ e W h (.tuple #[]) (setB h r (.map #[] c)) := by
  refine eff_of fun a w hf hw => ?_
  subst hw
  obtain ⟨kt, et, i, hu, hk, hi, hzz⟩ := mapO_spec ht
  have hg := run_getMap (P := P) hm
  have hm' : w.heap[r]? = some (.map (m.map mE).toArray c) := hm
  refine ⟨{ w with heap := setB w.heap r (.map #[] c) }, ?_, rfl, ⟨rfl, rfl, rfl⟩⟩
  simp [execOp, resolve, invoke, builtin, Builtin.clear_, hf.ev hx, run_und hu, hg, setObj, Sem.run, hm', setB]

theorem rgM {mt : TypeId} {x : Operand} {r : Nat} {m : MM} {c : Nat} (ht : mapO P mt = true) (hx : ev e x = some (.map (some r))) (hm : Mp h r m c) :
    Eff P N ⟨d, .range mt x, t, p, af, g⟩ e W h (.pointer (some ⟨h.size, 0, none⟩)) (h.push (.mapIter (some r) c #[] c)) := by
  refine eff_of fun a w hf hw => ?_
  subst hw
  obtain ⟨kt, et, i, hu, hk, hi, hzz⟩ := mapO_spec ht
  have hg := run_getMap (P := P) hm
  exact ⟨w.alloc (.mapIter (some r) c #[] c), by simp [execOp, Instr.range, hf.ev hx, run_und hu, hg], rfl, ⟨rfl, rfl, rfl⟩⟩

/-- A pass over a map that nobody writes: what is seen; what is to come in whatever order. -/
def Nx (h : Hp) (it : Nat) (K0 : Prop) (K1 : Int → Int → Hp → Prop) : Prop :=
  ∃ r m c seen, h[it]? = some (.mapIter (some r) c seen c) ∧ Mp h r m c ∧ (∀ x ∈ m, x.2.2 < c) ∧
    ((∀ x ∈ m, seen.contains x.2.2 = true) → K0) ∧ ∀ x ∈ m, seen.contains x.2.2 = false → K1 x.1 x.2.1 (setB h it (.mapIter (some r) c (seen.push x.2.2) c))

theorem nxM {x : Operand} {it : Nat} {K0 : Prop} {K1 : Int → Int → Hp → Prop} (hx : ev e x = some (.pointer (some ⟨it, 0, none⟩))) (hn : Nx h it K0 K1) :
    OpOk P N ⟨d, .next x false, t, p, af, g⟩ e W h (fun v h' => (v = .tuple #[.bool false] ∧ h' = h ∧ K0) ∨ ∃ k u, v = .tuple #[.bool true, .int .i64 k, .int .i64 u] ∧ K1 k u h') := by
  intro a w hf hw hs Q
  subst hw
  obtain ⟨r, m, c, seen, hit, hm, hold, h0, h1⟩ := hn
  have hm' : w.heap[r]? = some (.map (m.map mE).toArray c) := hm
  have hg := run_getMap (P := P) hm'
  have hgi : (getObj it).run P w = .ok (.mapIter (some r) c seen c) w := by simp [getObj, Sem.run, hit]
  have hset : ∀ (w : World) o, w.heap[it]? = some (.mapIter (some r) c seen c) → (setObj it o).run P w = .ok () { w with heap := setB w.heap it o } := by
    intro w o hw; simp [setObj, Sem.run, hw, setB]
  have htest : (!seen.isEmpty && !((m.map mE).toArray).isEmpty && ((m.map mE).toArray).all (·.born ≥ c)) = false := by
    cases hm0 : m with
    | nil => simp
    | cons y ys =>
      have hy := hold y (by rw [hm0]; simp)
      have : ¬ (c ≤ y.2.2) := by omega
      simp [mE, this]
  let left := (m.filter fun y => !seen.contains y.2.2)
  have hleft : ((m.map mE).toArray.filter fun y => !seen.contains y.born) = (left.map mE).toArray := by
    apply Array.ext'
    simp only [Array.toList_filter, left]
    rw [List.filter_map]
    rfl
  have hlold : ∀ y ∈ left, y.2.2 < c := fun y hy => hold y (List.mem_filter.1 hy).1
  have hold' : ((left.map mE).toArray.filter fun y => decide (y.born < c)) = (left.map mE).toArray := by
    apply Array.ext'
    simp only [Array.toList_filter]
    apply List.filter_eq_self.2
    intro y hy
    obtain ⟨z, hz, rfl⟩ := List.mem_map.1 hy
    exact decide_eq_true (hlold z hz)
  have hnew' : ((left.map mE).toArray.filter fun y => decide (y.born ≥ c)) = #[] := by
    apply Array.ext'
    simp only [Array.toList_filter]
    apply List.filter_eq_nil_iff.2
    intro y hy
    obtain ⟨z, hz, rfl⟩ := List.mem_map.1 hy
    have := hlold z hz
    simp [mE]; omega
  unfold Oper.wp execOp
  simp only [hf.ev hx, Instr.next, Sem.run_bind, hgi, Result.andThen_ok, hg, Sem.run_ite, htest, Bool.false_eq_true, if_false, Sem.run_pure, hleft, hold', hnew']
  cases hl : left with
  | nil =>
    have hall : ∀ y ∈ m, seen.contains y.2.2 = true := by
      intro y hy
      have : y ∉ left := by rw [hl]; simp
      by_cases hc : seen.contains y.2.2 = true
      · exact hc
      · exact absurd (List.mem_filter.2 ⟨hy, by simpa using hc⟩) this
    simp [Question.forced]
    exact ⟨_, rfl, hs, .inl ⟨rfl, rfl, h0 hall⟩⟩
  | cons y ys =>
    rw [← hl]
    have hne : ((left.map mE).toArray).isEmpty = false := by rw [hl]; simp
    have hcand : ((if ((left.map mE).toArray).isEmpty = true then #[none] else #[]) ++ ((left.map mE).toArray ++ #[]).map some : Array (Option MapEntry)) = ((left.map mE).map some).toArray := by
      rw [hne]
      apply Array.ext'
      simp
    rw [hcand]
    have hlen : 0 < left.length := by rw [hl]; simp
    have hch : ∃ idx w1, (choose (.mapNext ((left.map mE).map some).toArray.size)).run P w = .ok idx w1 ∧ idx < left.length ∧ w1.heap = w.heap ∧ Str w w1 := by
      rw [run_choose]
      split
      · exact ⟨0, w, rfl, hlen, rfl, Str.refl w⟩
      · refine ⟨_, _, rfl, ?_, rfl, ⟨rfl, rfl, rfl⟩⟩
        simp only [Question.cut]
        have := Nat.mod_lt (w.tape w.drawn (.mapNext ((left.map mE).map some).toArray.size)) (show 0 < ((left.map mE).map some).toArray.size by simpa using hlen)
        simpa using this
    obtain ⟨idx, w1, hrun, hidx, hh, hs1⟩ := hch
    have hget : (((left.map mE).map some).toArray)[idx]? = some (some (mE left[idx])) := by simp [hidx]
    have hmem : left[idx] ∈ left := List.getElem_mem hidx
    obtain ⟨hm1, hm2⟩ := List.mem_filter.1 hmem
    have hs2 : Str W w1 := ⟨hs1.os.trans hs.os, hs1.tape.trans hs.tape, hs1.output.trans hs.output⟩
    simp only [hrun, Result.andThen_ok, hget, hset w1 _ (by rw [hh]; exact hit), Sem.run_bind, Sem.run_pure]
    refine ⟨_, rfl, ⟨hs2.os, hs2.tape, hs2.output⟩, .inr ⟨left[idx].1, left[idx].2.1, rfl, ?_⟩⟩
    have := h1 left[idx] hm1 (by simpa using hm2)
    show K1 _ _ (setB w1.heap it _)
    rw [hh]
    exact this

theorem enM {x : Operand} {it r : Nat} {m : MM} {c : Nat} {seen : Array Nat} {y : Int × Int × Nat} (hx : ev e x = some (.pointer (some ⟨it, 0, none⟩))) (hi : h[it]? = some (.mapIter (some r) c (seen.push y.2.2) c))
    (hm : Mp h r m c) (hy : y ∈ m) (hn : (m.map fun x => x.2.2).Nodup) : Yq P N ⟨d, .entry x, t, p, af, g⟩ e h (.tuple #[.int .i64 y.1, .int .i64 y.2.1]) := by
  intro a w hf hw
  subst hw
  have hm' : w.heap[r]? = some (.map (m.map mE).toArray c) := hm
  have hg := run_getMap (P := P) hm'
  have hgi : (getObj it).run P w = .ok (.mapIter (some r) c (seen.push y.2.2) c) w := by simp [getObj, Sem.run, hi]
  have hfind : (m.map mE).toArray.find? (fun z => z.born == y.2.2) = some (mE y) := by
    rw [← Array.find?_toList]
    simp only
    clear hg hgi hm' hm hi
    induction m with
    | nil => cases hy
    | cons z zs ih =>
      simp only [List.map_cons, List.nodup_cons] at hn
      simp only [List.map_cons, List.find?_cons]
      rcases List.mem_cons.1 hy with rfl | hy'
      · simp [mE]
      · have hne : ¬ z.2.2 = y.2.2 := fun he => hn.1 (List.mem_map.2 ⟨y, hy', he.symm⟩)
        have : ((mE z).born == y.2.2) = false := by simp [mE, hne]
        rw [this]
        exact ih hy' hn.2
  unfold execOp
  simp only [hf.ev hx, Instr.entry, Sem.run_bind, hgi, Result.andThen_ok, Array.back?_push, hg, bne_self_eq_false, Bool.false_eq_true, if_false, Sem.run_pure, hfind]
  simp [mE]
end maps
end Tw
