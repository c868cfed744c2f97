/- Operations that make or write memory, calls, maps. No condition. -/
import Derived.Test.YthpeadoidpimmaaTw2
namespace Tw
open Go
set_option linter.unusedVariables false
set_option linter.unusedSimpArgs false

def setB (h : Hp) (b : Nat) (o : Obj) : Hp := h.setIfInBounds b o

/-- Block b: these cells, none of them frozen. -/
def Bk (h : Hp) (b : Nat) (l : List Value) (t : TypeId) : Prop := h[b]? = some (.cells l.toArray t (0, 0))

/-- The cells of l from o on are vs now. -/
def splice (l : List Value) (o : Nat) (vs : List Value) : List Value := l.take o ++ vs ++ l.drop (o + vs.length)

/-- Behind the store of vs from A on. -/
def StL (h : Hp) (A : Addr) (vs : List Value) (h1 : Hp) : Prop :=
  (vs = [] ∧ h1 = h) ∨ (A.spot = none ∧ ∃ l t, Bk h A.block l t ∧ A.off + vs.length ≤ l.length ∧ h1 = setB h A.block (.cells (splice l A.off vs).toArray t (0, 0)))

def oneC (vs : List Value) : Prop := ∀ v ∈ vs, v.oneCell' = true

theorem setRow_setB {w : World} {g : Nat} {old cs : Array Value} {t : TypeId} {fr : Nat × Nat} (hg : w.heap[g]? = some (.cells old t fr)) :
    (w.setRow g cs).heap = setB w.heap g (.cells cs t fr) := by
  have hlt : g < w.heap.size := (Array.getElem?_eq_some_iff.1 hg).1
  apply Array.ext_getElem?
  intro j
  simp only [World.setRow, setB, Array.getElem?_modify, Array.getElem?_setIfInBounds]
  by_cases hj : g = j
  · subst hj
    have hv : w.heap[g] = .cells old t fr := (Array.getElem?_eq_some_iff.1 hg).2
    simp [hlt, hv]
  · simp [hj]

theorem run_stL {P : Program} {w : World} {A : Addr} {vs : List Value} {h1 : Hp} (hs : StL w.heap A vs h1) (ho : oneC vs) :
    ∃ w', (storeCells A vs).run P w = .ok () w' ∧ w'.heap = h1 ∧ Str w w' := by
  rcases hs with ⟨rfl, rfl⟩ | ⟨hsp, l, t, hb, hlen, rfl⟩
  · exact ⟨w, rfl, rfl, Str.refl w⟩
  · obtain ⟨b, o, sp⟩ := A
    simp only at hsp hb hlen
    subst hsp
    have := run_storeCells_at (P := P) b o t vs 0 l.toArray w hb (by simpa using hlen) ho
    refine ⟨_, this, ?_, ⟨rfl, rfl, rfl⟩⟩
    rw [setRow_setB hb]
    simp [splice, Nat.add_assoc]

def zeroO (P : Program) (t : TypeId) : Option (List Value) :=
  match P.info? t with
  | some i => match i.zero with
    | some z => some z.cells.toList
    | none => none
  | none => none

theorem zeroO_spec {P : Program} {t : TypeId} {z : List Value} (h : zeroO P t = some z) : ∃ i v, P.info? t = some i ∧ i.zero = some v ∧ v.cells = z.toArray := by
  unfold zeroO at h
  split at h
  · rename_i i hi
    split at h
    · rename_i v hv; simp at h; exact ⟨i, v, hi, hv, by subst h; rfl⟩
    · cases h
  · cases h

theorem run_zero {P : Program} {t : TypeId} {i : TypeInfo} {v : Value} (hi : P.info? t = some i) (hv : i.zero = some v) (w : World) : (zeroValue t).run P w = .ok v w := by
  simp [zeroValue, typeInfo, hi, hv]

/-- n cells of zero values, each of which has the cells z. -/
def zr (z : List Value) (n : Nat) : List Value := (List.range n).map fun i => z[i % z.length]!

theorem zr_array (z : List Value) (n : Nat) : (Array.range n).map (fun i => z.toArray[i % z.toArray.size]!) = (zr z n).toArray := by
  apply Array.ext'
  simp [zr, Array.toList_range]

/-- The fields' places. -/
def placesO (P : Program) : List Field → Option (List (Nat × Nat))
  | [] => some []
  | f :: r => match P.info? f.type, placesO P r with
    | some i, some l => some ((f.offset, i.size) :: l)
    | _, _ => none

def bldO (P : Program) (t : TypeId) (parts : List (Nat × Value)) : Option (List Value) :=
  match P.info? t with
  | some i => match i.zero with
    | some z => match P.underlying t with
      | some (.struct fs) => match placesO P fs.toList with
        | some pl => match Instr.fill (fun i => pl[i]?) z.cells parts with
          | some cs => some cs.toList
          | none => none
        | none => none
      | some (.array _ el) => match P.info? el with
        | some ie => match Instr.fill (fun i => some (i * ie.size, ie.size)) z.cells parts with
          | some cs => some cs.toList
          | none => none
        | none => none
      | _ => none
    | none => none
  | none => none

theorem run_places' {P : Program} (w : World) : ∀ (fs : List Field) (l : List (Nat × Nat)), placesO P fs = some l →
    (fs.mapM (fun (f : Field) => (do pure (f.offset, ← Go.sizeOf f.type) : Sem (Nat × Nat)))).run P w = Result.ok l w := by
  intro fs
  induction fs with
  | nil => intro l h; simp [placesO] at h; subst h; simp
  | cons f r ih =>
    intro l h
    simp only [placesO] at h
    split at h
    · rename_i i l' hi hl
      simp at h
      subst h
      rw [List.mapM_cons]
      simp only [Sem.run_bind, run_size hi, Result.andThen_ok, Sem.run_pure, ih l' hl]
    · cases h

theorem run_bldO {P : Program} {t : TypeId} {parts : Array (Nat × Value)} {l : List Value} (h : bldO P t parts.toList = some l) (w : World) :
    (Instr.build t parts).run P w = .ok (.agg l.toArray) w := by
  unfold bldO at h
  split at h
  · rename_i i hi
    split at h
    · rename_i z hz
      split at h
      · rename_i fs hu
        split at h
        · rename_i pl hpl
          split at h
          · rename_i cs hcs
            simp at h
            subst h
            have hp : (fs.mapM (fun (f : Field) => (do pure (f.offset, ← Go.sizeOf f.type) : Sem (Nat × Nat)))).run P w = Result.ok pl.toArray w := by
              rw [← Array.toArray_toList (xs := fs), List.mapM_toArray]
              rw [Sem.run_map, run_places' w fs.toList pl hpl]
              rfl
            unfold Instr.build
            simp only [Sem.run_bind, run_zero hi hz, Result.andThen_ok, run_und hu, hp]
            simp [hcs]
          · cases h
        · cases h
      · rename_i n el hu
        split at h
        · rename_i ie hie
          split at h
          · rename_i cs hcs
            simp at h
            subst h
            unfold Instr.build
            simp only [Sem.run_bind, run_zero hi hz, Result.andThen_ok, run_und hu, run_size hie, hcs]
            simp
          · cases h
        · cases h
      · cases h
    · cases h
  · cases h

/-- A literal slice: its element type and its cells. -/
def bslO (P : Program) (t : TypeId) (len : Nat) (parts : List (Nat × Value)) : Option (TypeId × List Value) :=
  match P.underlying t with
  | some (.slice el) => match P.info? el with
    | some i => match i.zero with
      | some z => match decide (len * i.size = 0 ∨ len * i.size > 2 ^ 24) with
        | true => none
        | false => match Instr.fill (fun j => some (j * i.size, i.size)) ((Array.range (len * i.size)).map (z.cells[· % z.cells.size]!)) parts with
          | some cs => some (el, cs.toList)
          | none => none
      | none => none
    | none => none
  | _ => none

theorem run_bslO {P : Program} {t el : TypeId} {len : Nat} {parts : Array (Nat × Value)} {l : List Value} (h : bslO P t len parts.toList = some (el, l)) (w : World) :
    (Instr.buildSlice t len parts).run P w = .ok (.slice (some ⟨w.heap.size, 0, none⟩) len len) (w.alloc (.cells l.toArray el (0, 0))) := by
  unfold bslO at h
  split at h
  · rename_i el' hu
    split at h
    · rename_i i hi
      split at h
      · rename_i z hz
        split at h
        · cases h
        · rename_i hdec
          split at h
          · rename_i cs hcs
            simp at h
            obtain ⟨rfl, rfl⟩ := h
            have hd : ¬ (len * i.size = 0 ∨ len * i.size > 2 ^ 24) := of_decide_eq_false hdec
            have h1 : ¬ (len * i.size > 2 ^ 24) := fun x => hd (.inr x)
            have h2 : ¬ (len * i.size = 0) := fun x => hd (.inl x)
            unfold Instr.buildSlice
            simp only [Sem.run_bind, run_und hu, Result.andThen_ok, run_size hi, if_neg h1, if_neg h2, run_zero hi hz, Sem.run_pure]
            simp [hcs, newRow]
          · cases h
      · cases h
    · cases h
  · cases h

section ops
variable {P : Program} {N : Nat} {d : Option Tmp} {t : TypeId} {p : String} {af : Array Edge} {g : Option (Nat × Bool)} {e : Env} {W : World} {h : Hp}

/-- An effect whose value and heap are known. -/
def Eff (P : Program) (N : Nat) (o : Oper) (e : Env) (W : World) (h : Hp) (v : Value) (h1 : Hp) : Prop := OpOk P N o e W h (fun u h' => u = v ∧ h' = h1)

theorem eff_of {o : Oper} {v : Value} {h1 : Hp} (hr : ∀ a w, Fr N a e → w.heap = h → ∃ w', (execOp a.eval o).run P w = .ok (.value v) w' ∧ w'.heap = h1 ∧ Str w w') : Eff P N o e W h v h1 := by
  intro a w hf hw hs Q
  obtain ⟨w', hrun, hh, hs'⟩ := hr a w hf hw
  unfold Oper.wp
  rw [hrun]
  exact ⟨v, rfl, ⟨hs'.os.trans hs.os, hs'.tape.trans hs.tape, hs'.output.trans hs.output⟩, rfl, hh⟩

theorem eff_skip {o : Oper} {h1 : Hp} (hr : ∀ a w, Fr N a e → w.heap = h → ∃ w', (execOp a.eval o).run P w = .ok .skip w' ∧ w'.heap = h1 ∧ Str w w') : Eff P N o e W h undef h1 := by
  intro a w hf hw hs Q
  obtain ⟨w', hrun, hh, hs'⟩ := hr a w hf hw
  unfold Oper.wp
  rw [hrun]
  exact ⟨undef, rfl, ⟨hs'.os.trans hs.os, hs'.tape.trans hs.tape, hs'.output.trans hs.output⟩, rfl, hh⟩

theorem st {ty : TypeId} {x y : Operand} {A : Addr} {v : Value} {h1 : Hp} (ht : kindO P ty = some (false, 1)) (hx : ev e x = some (.pointer (some A))) (hy : ev e y = some v) (ho : v.oneCell' = true)
    (hs : StL h A [v] h1) : Eff P N ⟨d, .store ty x y, t, p, af, g⟩ e W h undef h1 := by
  refine eff_skip fun a w hf hw => ?_
  obtain ⟨ds, i, hd, hi, hb, hn⟩ := kindO_spec ht
  have hc : v.cells = #[v] := by cases v <;> first | rfl | (simp [Value.oneCell'] at ho)
  subst hw
  obtain ⟨w', hr, hh, hs'⟩ := run_stL (P := P) hs (by intro u hu; simp at hu; subst hu; exact ho)
  refine ⟨w', ?_, hh, hs'⟩
  simp [execOp, hf.ev hx, hf.ev hy, Instr.storeAt, Instr.sureAddr, storeVar, hc, run_size hi, hn, hr]

theorem stA {ty : TypeId} {x y : Operand} {A : Addr} {l : List Value} {n : Nat} {h1 : Hp} (ht : kindO P ty = some (true, n)) (hx : ev e x = some (.pointer (some A))) (hy : ev e y = some (.agg l.toArray))
    (hl : l.length = n) (ho : oneC l) (hs : StL h A l h1) : Eff P N ⟨d, .store ty x y, t, p, af, g⟩ e W h undef h1 := by
  refine eff_skip fun a w hf hw => ?_
  obtain ⟨ds, i, hd, hi, hb, hn⟩ := kindO_spec ht
  subst hw
  obtain ⟨w', hr, hh, hs'⟩ := run_stL (P := P) hs ho
  refine ⟨w', ?_, hh, hs'⟩
  simp [execOp, hf.ev hx, hf.ev hy, Instr.storeAt, Instr.sureAddr, storeVar, Value.cells, run_size hi, hn, hl, hr]

theorem al {ty : TypeId} {z : List Value} (hz : zeroO P ty = some z) : Eff P N ⟨d, .alloc ty, t, p, af, g⟩ e W h (.pointer (some ⟨h.size, 0, none⟩)) (h.push (.cells z.toArray ty (0, 0))) := by
  refine eff_of fun a w hf hw => ?_
  obtain ⟨i, v, hi, hv, hc⟩ := zeroO_spec hz
  subst hw
  exact ⟨w.alloc (.cells z.toArray ty (0, 0)), by simp [execOp, Instr.alloc, run_zero hi hv, newVar, newRow, hc], rfl, ⟨rfl, rfl, rfl⟩⟩

theorem bx {ty : TypeId} {x : Operand} {v : Value} {l : List Value} (hx : ev e x = some v) (hl : v.cells = l.toArray) :
    Eff P N ⟨d, .box ty x, t, p, af, g⟩ e W h (.pointer (some ⟨h.size, 0, none⟩)) (h.push (.cells l.toArray ty (0, 0))) := by
  refine eff_of fun a w hf hw => ?_
  subst hw
  exact ⟨w.alloc (.cells l.toArray ty (0, 0)), by simp [execOp, hf.ev hx, Instr.box, newVar, newRow, hl], rfl, ⟨rfl, rfl, rfl⟩⟩

/-- The operands of the parts. -/
def evP (e : Env) : List (Nat × Operand) → Option (List (Nat × Value))
  | [] => some []
  | (i, x) :: r => match ev e x, evP e r with
    | some v, some l => some ((i, v) :: l)
    | _, _ => none

theorem Fr.evP {a : Act} (hf : Fr N a e) : ∀ {ps : List (Nat × Operand)} {l : List (Nat × Value)}, evP e ps = some l → ps.map (fun q => (q.1, a.eval q.2)) = l
  | [], l, hl => by simp [Tw.evP] at hl; subst hl; rfl
  | (i, x) :: r, l, hl => by
    simp only [Tw.evP] at hl
    split at hl
    · rename_i v l' hv hl'
      simp at hl
      subst hl
      simp [hf.ev hv, Fr.evP hf hl']
    · cases hl

theorem bd {ty : TypeId} {ps : List (Nat × Operand)} {vs : List (Nat × Value)} {l : List Value} (hp : evP e ps = some vs) (hl : bldO P ty vs = some l) :
    Yq P N ⟨d, .build ty ps.toArray, t, p, af, g⟩ e h (.agg l.toArray) := by
  intro a w hf hw
  have h1 : (ps.toArray.map fun (q : Nat × Operand) => (q.1, a.eval q.2)) = vs.toArray := by rw [← hf.evP hp]; simp
  have h2 := run_bldO (P := P) (t := ty) (parts := vs.toArray) (l := l) (by simpa using hl) w
  have h3 : (execOp a.eval ⟨d, .build ty ps.toArray, t, p, af, g⟩) = (do pure (.value (← Instr.build ty (ps.toArray.map fun (q : Nat × Operand) => (q.1, a.eval q.2)))) : Sem Next) := rfl
  rw [h3, h1]
  simp [h2]

theorem bsl {ty el : TypeId} {n : Nat} {ps : List (Nat × Operand)} {vs : List (Nat × Value)} {l : List Value} (hp : evP e ps = some vs) (hl : bslO P ty n vs = some (el, l)) :
    Eff P N ⟨d, .buildSlice ty n ps.toArray, t, p, af, g⟩ e W h (.slice (some ⟨h.size, 0, none⟩) n n) (h.push (.cells l.toArray el (0, 0))) := by
  refine eff_of fun a w hf hw => ?_
  subst hw
  have h1 : (ps.toArray.map fun (q : Nat × Operand) => (q.1, a.eval q.2)) = vs.toArray := by rw [← hf.evP hp]; simp
  have h2 := run_bslO (P := P) (t := ty) (parts := vs.toArray) (l := l) (by simpa using hl) w
  have h3 : (execOp a.eval ⟨d, .buildSlice ty n ps.toArray, t, p, af, g⟩) = (do pure (.value (← Instr.buildSlice ty n (ps.toArray.map fun (q : Nat × Operand) => (q.1, a.eval q.2)))) : Sem Next) := rfl
  refine ⟨w.alloc (.cells l.toArray el (0, 0)), ?_, rfl, ⟨rfl, rfl, rfl⟩⟩
  rw [h3, h1]
  simp [h2]

/-- A literal slice of one element, whatever its cells. -/
theorem bsl1 {ty el : TypeId} {n b : Nat} {x : Operand} {v : Value} {l z : List Value} (ht : sliceO P ty = some (el, n, b)) (hz : zeroO P el = some z) (hn : 0 < n) (hn2 : n ≤ 16777216) (hx : ev e x = some v)
    (hl : v.cells = l.toArray) (hll : l.length = n) (hzl : z.length = n) :
    Eff P N ⟨d, .buildSlice ty 1 #[(0, x)], t, p, af, g⟩ e W h (.slice (some ⟨h.size, 0, none⟩) 1 1) (h.push (.cells l.toArray el (0, 0))) := by
  refine eff_of fun a w hf hw => ?_
  subst hw
  obtain ⟨i, hd, hi, hin, hib⟩ := sliceO_spec ht
  obtain ⟨i', zv, hi', hzv, hzc⟩ := zeroO_spec hz
  obtain rfl : i' = i := by rw [hi] at hi'; exact (Option.some.inj hi').symm
  have hsz : v.cells.size = n := by rw [hl]; simpa using hll
  have hfold : ∀ (cs : List Value) (k : Nat) (A : Array Value), k + cs.length ≤ A.size →
      (cs.zipIdx k).foldl (fun (acc : Array Value) q => acc.setIfInBounds q.2 q.1) A = (A.toList.take k ++ cs ++ A.toList.drop (k + cs.length)).toArray := by
    intro cs
    induction cs with
    | nil => intro k A hk; simp
    | cons c r ih =>
      intro k A hk
      simp only [List.length_cons] at hk
      simp only [List.zipIdx_cons, List.foldl_cons]
      rw [ih (k + 1) _ (by simp; omega)]
      apply Array.ext'
      have hk' : k < A.toList.length := by simp; omega
      simp only [Array.toList_setIfInBounds, List.length_cons]
      rw [List.take_set, List.drop_set]
      rw [List.take_succ_eq_append_getElem hk', List.set_append]
      have e1 : (List.take k A.toList).length = k := by simp; omega
      rw [if_neg (by omega), e1, Nat.sub_self]
      simp only [List.set_cons_zero]
      rw [if_pos (by omega)]
      simp [Nat.add_assoc, Nat.add_comm 1]
  have hfill : Instr.fill (fun j => some (j * i'.size, i'.size)) ((Array.range (1 * i'.size)).map (zv.cells[· % zv.cells.size]!)) [(0, v)] = some l.toArray := by
    have hc1 : (decide (v.cells.size ≠ i'.size) || decide (0 * i'.size + v.cells.size > ((Array.range (1 * i'.size)).map (zv.cells[· % zv.cells.size]!)).size)) = false := by
      simp; omega
    simp only [Instr.fill]
    rw [hc1]
    simp only [Bool.false_eq_true, if_false, Option.some.injEq]
    have h4 := hfold l 0 ((Array.range (1 * i'.size)).map (zv.cells[· % zv.cells.size]!)) (by simp; omega)
    rw [hl, ← Array.foldl_toList]
    simp only [Array.toList_zipIdx, Nat.zero_mul, Nat.zero_add]
    rw [h4]
    apply Array.ext'
    have : List.drop l.length (List.map (fun x => zv.cells[x % zv.cells.size]!) (List.range (1 * i'.size))) = [] := by
      apply List.drop_eq_nil_of_le; simp; omega
    simp [Array.toList_range]
    omega
  have h3 : (execOp a.eval ⟨d, .buildSlice ty 1 #[(0, x)], t, p, af, g⟩) = (do pure (.value (← Instr.buildSlice ty 1 (#[(0, x)].map fun (q : Nat × Operand) => (q.1, a.eval q.2)))) : Sem Next) := rfl
  refine ⟨w.alloc (.cells l.toArray el (0, 0)), ?_, rfl, ⟨rfl, rfl, rfl⟩⟩
  have h5 : (#[(0, x)].map fun (q : Nat × Operand) => (q.1, a.eval q.2)) = #[(0, v)] := by simp [hf.ev hx]
  rw [h3, h5]
  unfold Instr.buildSlice
  have h1 : ¬ (1 * i'.size > 2 ^ 24) := by omega
  have h2 : ¬ (1 * i'.size = 0) := by omega
  simp only [Sem.run_bind, run_und hd, Result.andThen_ok, run_size hi, if_neg h1, if_neg h2, run_zero hi hzv, Sem.run_pure, hfill]
  simp [newRow]
end ops
end Tw
