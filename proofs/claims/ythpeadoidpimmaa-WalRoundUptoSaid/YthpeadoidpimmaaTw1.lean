/- The walk's own logic: regions and code over an environment of known slots and a heap; regions that draw their order by a plan. No condition. -/
import Derived.WalkKit
import Derived.KernelRfl
import Derived.Orders
import Derived.Deep.LoopGhost
namespace Tw
open Go
set_option linter.unusedVariables false

abbrev Hp := Array Obj
abbrev Env := List (Nat × Value)

def lk : Env → Nat → Option Value
  | [], _ => none
  | (i, v) :: r, j => match Nat.beq i j with
    | true => some v
    | false => lk r j

def ev (e : Env) : Operand → Option Value
  | .tmp t => lk e t
  | .const v => some v
  | .global g => some (.pointer (some ⟨g, 0, none⟩))
  | .func f => some (.func (.func f) #[] #[])

def pt (e : Env) (d : Option Tmp) (v : Value) : Env := match d with
  | some d => (d, v) :: e
  | none => e

/-- The frame's known slots; its size; no deferred call. -/
structure Fr (N : Nat) (a : Act) (e : Env) : Prop where
  df : a.defers = []
  sz : a.tmps.size = N
  at_ : ∀ j v, lk e j = some v → a.tmps.getD j undef = v ∧ j < N

theorem Fr.ev {N : Nat} {a : Act} {e : Env} (h : Fr N a e) {x : Operand} {v : Value} (hx : ev e x = some v) : a.eval x = v := by
  cases x <;> simp only [Tw.ev] at hx
  case tmp t => exact (h.at_ t v hx).1
  all_goals (simp only [Option.some.injEq] at hx; subst hx; rfl)

/-- Every slot that is written lies in the frame. -/
def inF (N : Nat) : Option Tmp → Bool
  | none => true
  | some d => Nat.blt d N

theorem Fr.put {N : Nat} {a : Act} {e : Env} (h : Fr N a e) {d : Option Tmp} (hd : inF N d = true) (v : Value) : Fr N (a.put d v) (pt e d v) := by
  cases d with
  | none => exact h
  | some d =>
    have hlt : d < N := by simpa [inF, Nat.blt_eq] using hd
    refine ⟨h.df, by simp [Act.put, h.sz], fun j u hj => ?_⟩
    simp only [pt, lk] at hj
    by_cases hdj : d = j
    · subst hdj
      simp at hj
      subst hj
      refine ⟨?_, hlt⟩
      simp [Act.put, h.sz, hlt]
    · have : Nat.beq d j = false := by
        cases hb : Nat.beq d j with
        | false => rfl
        | true => exact absurd (Nat.eq_of_beq_eq_true hb) hdj
      rw [this] at hj
      obtain ⟨h1, h2⟩ := h.at_ j u hj
      refine ⟨?_, h2⟩
      have e1 : (a.put (some d) v).tmps.getD j undef = a.tmps.getD j undef := by
        simp [Act.put, Array.getElem?_setIfInBounds_ne hdj]
      rw [e1]; exact h1

/-- The streams are as they were. -/
structure Str (W w : World) : Prop where
  os : w.os = W.os
  tape : w.tape = W.tape
  output : w.output = W.output

theorem Str.refl (W : World) : Str W W := ⟨rfl, rfl, rfl⟩

/-- What a call's end must be. -/
def PostR (W : World) (post : Value → Hp → Prop) : Ending → World → Prop := fun e w' => ∃ v, e = .returned v ∧ Str W w' ∧ post v w'.heap

/-- A call comes to an end that 'post' allows. -/
def CallsH (P : Program) (f : FuncId) (args : Array Value) (W : World) (h : Hp) (post : Value → Hp → Prop) : Prop :=
  ∀ w, w.heap = h → Str W w → Calls P f args w (PostR W post)

theorem CallsH.mono {P : Program} {f : FuncId} {args : Array Value} {W : World} {h : Hp} {post post' : Value → Hp → Prop} (hc : CallsH P f args W h post)
    (hp : ∀ v h', post v h' → post' v h') : CallsH P f args W h post' :=
  fun w hw hs => (hc w hw hs).mono fun _ _ ⟨v, he, hs', hv⟩ => ⟨v, he, hs', hp _ _ hv⟩

/-- An operation that is carried out. -/
def OpOk (P : Program) (N : Nat) (o : Oper) (e : Env) (W : World) (h : Hp) (post : Value → Hp → Prop) : Prop :=
  ∀ a w, Fr N a e → w.heap = h → Str W w → ∀ Q, o.wp P a w (fun a' w' => ∃ v, a' = a.put o.dst v ∧ Str W w' ∧ post v w'.heap) Q

/-- An operation that leaves the world as it is and yields v. -/
def Yq (P : Program) (N : Nat) (o : Oper) (e : Env) (h : Hp) (v : Value) : Prop :=
  ∀ a w, Fr N a e → w.heap = h → (execOp a.eval o).run P w = .ok (.value v) w

theorem OpOk.of_yq {P : Program} {N : Nat} {o : Oper} {e : Env} {W : World} {h : Hp} {v : Value} (hy : Yq P N o e h v) :
    OpOk P N o e W h (fun u h' => u = v ∧ h' = h) := by
  intro a w hf hw hs Q
  unfold Oper.wp
  rw [hy a w hf hw]
  exact ⟨v, rfl, hs, rfl, hw⟩

/-- The guard lets the operation run. -/
def Tk (ops : Array Oper) (N : Nat) (o : Oper) (e : Env) : Prop := ∀ a, Fr N a e → Region.wanted o (yielded ops a.tmps) = true
def Ntk (ops : Array Oper) (N : Nat) (o : Oper) (e : Env) : Prop := ∀ a, Fr N a e → Region.wanted o (yielded ops a.tmps) = false

theorem tk0 {ops : Array Oper} {N : Nat} {d : Option Tmp} {op : Op} {t : TypeId} {p : String} {af : Array Edge} {e : Env} : Tk ops N ⟨d, op, t, p, af, none⟩ e :=
  fun _ _ => rfl

theorem yielded_of {ops : Array Oper} {N : Nat} {e : Env} {a : Act} (hf : Fr N a e) {j : Nat} {d : Tmp} {b : Bool}
    (hd : (ops[j]?).bind (·.dst) = some d) (hv : lk e d = some (.bool b)) : yielded ops a.tmps j = some b := by
  obtain ⟨h1, h2⟩ := hf.at_ d _ hv
  unfold yielded
  rw [hd]
  have hlt : d < a.tmps.size := by rw [hf.sz]; exact h2
  have : a.tmps[d]? = some (.bool b) := by
    rw [Array.getElem?_eq_getElem hlt]
    simp [hlt] at h1
    rw [h1]
  simp [this]

theorem tk1 {ops : Array Oper} {N : Nat} {d : Option Tmp} {op : Op} {t : TypeId} {p : String} {af : Array Edge} {e : Env} {j : Nat} {want : Bool} {dj : Tmp}
    (hd : (ops[j]?).bind (·.dst) = some dj) (hv : lk e dj = some (.bool want)) : Tk ops N ⟨d, op, t, p, af, some (j, want)⟩ e := by
  intro a hf
  simp [Region.wanted, yielded_of hf hd hv]

theorem ntk {ops : Array Oper} {N : Nat} {d : Option Tmp} {op : Op} {t : TypeId} {p : String} {af : Array Edge} {e : Env} {j : Nat} {want b : Bool} {dj : Tmp}
    (hd : (ops[j]?).bind (·.dst) = some dj) (hv : lk e dj = some (.bool b)) (hb : (b == want) = false) : Ntk ops N ⟨d, op, t, p, af, some (j, want)⟩ e := by
  intro a hf
  cases b <;> cases want <;> simp_all [Region.wanted, yielded_of hf hd hv]

/-- The guarding operation was passed over itself: its slot is undefined. -/
theorem ntku {ops : Array Oper} {N : Nat} {d : Option Tmp} {op : Op} {t : TypeId} {p : String} {af : Array Edge} {e : Env} {j : Nat} {want : Bool} {dj : Tmp}
    (hd : (ops[j]?).bind (·.dst) = some dj) (hv : lk e dj = some undef) : Ntk ops N ⟨d, op, t, p, af, some (j, want)⟩ e := by
  intro a hf
  obtain ⟨h1, h2⟩ := hf.at_ dj _ hv
  have hlt : dj < a.tmps.size := by rw [hf.sz]; exact h2
  have : a.tmps[dj]? = some undef := by
    rw [Array.getElem?_eq_getElem hlt]
    simp [hlt] at h1
    rw [h1]
  simp [Region.wanted, yielded, hd, this, undef]

/-- What holds of every frame that fits. -/
def WQ (N : Nat) (Q : Exit → Act → World → Prop) (x : Exit) (e : Env) (W : World) (h : Hp) : Prop := ∀ a w, Fr N a e → w.heap = h → Str W w → Q x a w

def WPC (P : Program) (N : Nat) (c : Code) (Q : Exit → Act → World → Prop) (e : Env) (W : World) (h : Hp) : Prop :=
  ∀ a w, Fr N a e → w.heap = h → Str W w → c.wp P Q a w

def WPL (P : Program) (N : Nat) (ops : Array Oper) (Q : Exit → Act → World → Prop) (l : List Oper) (e : Env) (W : World) (h : Hp) : Prop :=
  ∀ a w, Fr N a e → w.heap = h → Str W w → wpList P ops Q l a w

section list
variable {P : Program} {N : Nat} {ops : Array Oper} {Q : Exit → Act → World → Prop} {o : Oper} {l : List Oper} {e : Env} {W : World} {h : Hp}

theorem WPL.eff {post : Value → Hp → Prop} (ht : Tk ops N o e) (ho : OpOk P N o e W h post) (hd : inF N o.dst = true)
    (hk : ∀ v h', post v h' → WPL P N ops Q l (pt e o.dst v) W h') : WPL P N ops Q (o :: l) e W h := by
  intro a w hf hw hs
  unfold wpList
  rw [if_pos (ht a hf)]
  refine .inl (Oper.wp_mono (fun a' w' => ?_) (ho a w hf hw hs Q))
  rintro ⟨v, rfl, hs', hv⟩
  exact hk v _ hv _ _ (hf.put hd v) rfl hs'

theorem WPL.q {v : Value} (ht : Tk ops N o e) (hy : Yq P N o e h v) (hd : inF N o.dst = true)
    (hk : WPL P N ops Q l (pt e o.dst v) W h) : WPL P N ops Q (o :: l) e W h :=
  WPL.eff ht (OpOk.of_yq hy) hd fun _ _ ⟨h1, h2⟩ => by subst h1; subst h2; exact hk

theorem WPL.skip (ht : Ntk ops N o e) (hd : inF N o.dst = true) (hk : WPL P N ops Q l (pt e o.dst undef) W h) : WPL P N ops Q (o :: l) e W h := by
  intro a w hf hw hs
  unfold wpList
  rw [if_neg (by rw [ht a hf]; simp)]
  exact hk _ _ (hf.put hd undef) hw hs

theorem WPL.nil (hq : WQ N Q .normal e W h) : WPL P N ops Q [] e W h := fun a w hf hw hs => hq a w hf hw hs
end list

/-- The environment e' holds within e. -/
def Sub : Env → Env → Prop
  | [], _ => True
  | (j, v) :: r, e => lk e j = some v ∧ Sub r e

theorem Sub.lk {e' e : Env} (h : Sub e' e) : ∀ j v, lk e' j = some v → lk e j = some v := by
  induction e' with
  | nil => intro j v h; simp [Tw.lk] at h
  | cons p r ih =>
    obtain ⟨i, u⟩ := p
    intro j v hj
    simp only [Tw.lk] at hj
    cases hb : Nat.beq i j with
    | true =>
      rw [hb] at hj
      simp at hj
      subst hj
      rw [← Nat.eq_of_beq_eq_true hb]
      exact h.1
    | false => rw [hb] at hj; exact ih h.2 j v hj

theorem Fr.sub {N : Nat} {a : Act} {e e' : Env} (hf : Fr N a e) (h : Sub e' e) : Fr N a e' := ⟨hf.df, hf.sz, fun j v hj => hf.at_ j v (h.lk j v hj)⟩

section code
variable {P : Program} {N : Nat} {Q : Exit → Act → World → Prop} {e e' : Env} {W : World} {h : Hp} {c c' : Code}

theorem WPC.weak (hk : WPC P N c Q e' W h) (hs : Sub e' e) : WPC P N c Q e W h := fun a w hf hw hstr => hk a w (hf.sub hs) hw hstr
theorem WQ.weak {x : Exit} (hk : WQ N Q x e' W h) (hs : Sub e' e) : WQ N Q x e W h := fun a w hf hw hstr => hk a w (hf.sub hs) hw hstr

theorem WPC.region {id : Nat} {l : List Oper} (hk : WPL P N l.toArray Q l e W h) : WPC P N (.region id l.toArray false) Q e W h :=
  fun a w hf hw hs => wp_region_lit (hk a w hf hw hs)

theorem WPC.seq (hk : WPC P N c (Exit.then (c'.wp P Q) Q) e W h) : WPC P N (.seq c c') Q e W h :=
  fun a w hf hw hs => wp_seq (hk a w hf hw hs)

theorem WQ.next (hk : WPC P N c' Q e W h) : WQ N (Exit.then (c'.wp P Q) Q) .normal e W h := fun a w hf hw hs => hk a w hf hw hs

theorem WPC.skip (hk : WQ N Q .normal e W h) : WPC P N .skip Q e W h := fun a w hf hw hs => wp_skip (hk a w hf hw hs)

theorem WPC.cond {x : Operand} {b : Bool} (hx : ev e x = some (.bool b)) (ht : b = true → WPC P N c Q e W h) (hf : b = false → WPC P N c' Q e W h) :
    WPC P N (.cond x c c') Q e W h := fun a w hfr hw hs =>
  wp_cond_split (hfr.ev hx) (fun hb => ht hb a w hfr hw hs) (fun hb => hf hb a w hfr hw hs)

theorem WPC.block {id : Nat} (hk : WPC P N c (Exit.inBlock id Q) e W h) : WPC P N (.block id c) Q e W h := fun a w hf hw hs => wp_block (hk a w hf hw hs)
theorem WPC.exit {id : Nat} (hk : WQ N Q (.exit id) e W h) : WPC P N (.exit id) Q e W h := fun a w hf hw hs => wp_exit (hk a w hf hw hs)
theorem WPC.ret (hk : WQ N Q .ret e W h) : WPC P N .ret Q e W h := fun a w hf hw hs => wp_ret (hk a w hf hw hs)

theorem WQ.thenX {n : Act → World → Prop} {id : Nat} (hk : WQ N Q (.exit id) e W h) : WQ N (Exit.then n Q) (.exit id) e W h := hk
theorem WQ.thenR {n : Act → World → Prop} (hk : WQ N Q .ret e W h) : WQ N (Exit.then n Q) .ret e W h := hk
theorem WQ.blockN {id : Nat} (hk : WQ N Q .normal e W h) : WQ N (Exit.inBlock id Q) .normal e W h := hk
theorem WQ.blockR {id : Nat} (hk : WQ N Q .ret e W h) : WQ N (Exit.inBlock id Q) .ret e W h := hk
theorem WQ.hit {id : Nat} (hk : WQ N Q .normal e W h) : WQ N (Exit.inBlock id Q) (.exit id) e W h := fun a w hf hw hs => by
  simp only [Exit.inBlock, if_true]; exact hk a w hf hw hs
theorem WQ.miss {id id' : Nat} (hne : Nat.beq id' id = false) (hk : WQ N Q (.exit id') e W h) : WQ N (Exit.inBlock id Q) (.exit id') e W h := fun a w hf hw hs => by
  have : ¬ id' = id := fun he => by subst he; simp at hne
  simp only [Exit.inBlock, if_neg this]; exact hk a w hf hw hs

/-- A loop: J n: at most n rounds are to come. -/
def Again (N : Nat) (W : World) (J : Nat → Env → Hp → Prop) (n : Nat) : Act → World → Prop := fun a w => ∃ m e h, m < n ∧ J m e h ∧ Fr N a e ∧ w.heap = h ∧ Str W w

theorem WPC.loop (J : Nat → Env → Hp → Prop) (h0 : ∃ n, J n e h) (hb : ∀ n e h, J n e h → WPC P N c (Exit.then (Again N W J n) Q) e W h) :
    WPC P N (.loop c) Q e W h := by
  intro a w hf hw hs
  obtain ⟨n0, hJ⟩ := h0
  refine wp_loop_ghost (fun n a w => ∃ e h, J n e h ∧ Fr N a e ∧ w.heap = h ∧ Str W w) n0 ⟨e, h, hJ, hf, hw, hs⟩ ?_
  rintro n a w ⟨e, h, hJ, hf, hw, hs⟩
  refine wp_mono (hb n e h hJ a w hf hw hs) fun x a' w' hx => ?_
  cases x with
  | normal => obtain ⟨m, e, h, hlt, hr⟩ := hx; exact ⟨m, hlt, e, h, hr⟩
  | _ => exact hx

theorem WQ.again {J : Nat → Env → Hp → Prop} {n m : Nat} (hlt : m < n) (hJ : J m e' h) (hs : Sub e' e) : WQ N (Exit.then (Again N W J n) Q) .normal e W h :=
  fun a w hf hw hstr => ⟨m, e', h, hlt, hJ, hf.sub hs, hw, hstr⟩
end code

/-- The function's end. -/
def Rets (P : Program) (fn : Func) (N : Nat) (e : Env) (h : Hp) (v : Value) : Prop :=
  ∀ a w, Fr N a e → w.heap = h → (results fn a.tmps).run P w = .ok v w

theorem CallsH.intro {P : Program} {f : FuncId} {fn : Func} {c : Code} {args : Array Value} {W : World} {h : Hp} {post : Value → Hp → Prop} {N : Nat} {e : Env}
    (hf : P.funcs[f]? = some fn) (hb : fn.body = some c) (hN : fn.ntmps = N)
    (he : ∀ j v, lk e j = some v → j < args.size ∧ args.getD j undef = v) (hle : Nat.ble args.size N = true)
    (hc : WPC P N c (bodyPost P fn (PostR W post)) e W h) : CallsH P f args W h post := by
  intro w hw hs
  have hle := Nat.le_of_ble_eq_true hle
  refine calls_of_wp hf hb (hc _ _ ⟨rfl, ?_, ?_⟩ hw hs)
  · simp only [hN, Array.size_append, Array.size_replicate]; omega
  · intro j v hj
    obtain ⟨h1, h2⟩ := he j v hj
    refine ⟨?_, by omega⟩
    rw [← h2]
    simp [Array.getElem?_append, h1]

theorem WQ.done {P : Program} {fn : Func} {N : Nat} {e : Env} {W : World} {h : Hp} {post : Value → Hp → Prop} {v : Value} (hr : Rets P fn N e h v) (hp : post v h) :
    WQ N (bodyPost P fn (PostR W post)) .ret e W h := by
  intro a w hf hw hs
  exact ⟨hf.df, v, hr a w hf hw, v, rfl, hs, by rw [hw]; exact hp⟩

theorem WQ.doneN {P : Program} {fn : Func} {N : Nat} {e : Env} {W : World} {h : Hp} {post : Value → Hp → Prop} {v : Value} (hr : Rets P fn N e h v) (hp : post v h) :
    WQ N (bodyPost P fn (PostR W post)) .normal e W h := by
  intro a w hf hw hs
  exact ⟨hf.df, v, hr a w hf hw, v, rfl, hs, by rw [hw]; exact hp⟩

theorem rets0 {P : Program} {fn : Func} {N : Nat} {e : Env} {h : Hp} (hr : fn.results = #[]) : Rets P fn N e h (.tuple #[]) := by
  intro a w hf hw; simp [results, hr]
theorem rets1 {P : Program} {fn : Func} {N : Nat} {e : Env} {h : Hp} {t : Tmp} {v : Value} (hr : fn.results = #[.tmp t]) (hv : lk e t = some v) : Rets P fn N e h v := by
  intro a w hf hw
  have := (hf.at_ t v hv).1
  rw [results_tmp hr, this]
theorem rets2 {P : Program} {fn : Func} {N : Nat} {e : Env} {h : Hp} {t u : Tmp} {v x : Value} (hr : fn.results = #[.tmp t, .tmp u]) (hv : lk e t = some v) (hx : lk e u = some x) :
    Rets P fn N e h (.tuple #[v, x]) := by
  intro a w hf hw
  rw [results_tmp2 hr, (hf.at_ t v hv).1, (hf.at_ u x hx).1]
theorem rets3 {P : Program} {fn : Func} {N : Nat} {e : Env} {h : Hp} {t u s : Tmp} {v x y : Value} (hr : fn.results = #[.tmp t, .tmp u, .tmp s]) (hv : lk e t = some v) (hx : lk e u = some x)
    (hy : lk e s = some y) : Rets P fn N e h (.tuple #[v, x, y]) := by
  intro a w hf hw
  have h1 := (hf.at_ t v hv).1
  have h2 := (hf.at_ u x hx).1
  have h3 := (hf.at_ s y hy).1
  simp only [Array.getD_eq_getD_getElem?] at h1 h2 h3
  simp [results, hr, h1, h2, h3]
theorem rets4 {P : Program} {fn : Func} {N : Nat} {e : Env} {h : Hp} {t u s r : Tmp} {v x y z : Value} (hr : fn.results = #[.tmp t, .tmp u, .tmp s, .tmp r]) (hv : lk e t = some v)
    (hx : lk e u = some x) (hy : lk e s = some y) (hz : lk e r = some z) : Rets P fn N e h (.tuple #[v, x, y, z]) := by
  intro a w hf hw
  have h1 := (hf.at_ t v hv).1
  have h2 := (hf.at_ u x hx).1
  have h3 := (hf.at_ s y hy).1
  have h4 := (hf.at_ r z hz).1
  simp only [Array.getD_eq_getD_getElem?] at h1 h2 h3 h4
  simp [results, hr, h1, h2, h3, h4]
end Tw
