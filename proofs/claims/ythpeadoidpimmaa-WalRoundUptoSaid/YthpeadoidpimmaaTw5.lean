/- A region that draws its order, by a plan: reads as early as may be, then the next effect; what floats over an effect reads the same behind it. No condition. -/
import Derived.Test.YthpeadoidpimmaaTw4
namespace Tw
open Go
set_option linter.unusedVariables false
set_option linter.unusedSimpArgs false

/-- a read, a pure operation, an effect, one of two effects. -/
inductive Plan where
  | done
  | p (i : Nat) (r : Plan)
  | q (i : Nat) (r : Plan)
  | e1 (i : Nat) (r : Plan)
  | e2 (i : Nat) (r : Plan) (j : Nat) (r' : Plan)

/-- Which operations an operation hangs on, through others too: bits. -/
def ancB (l : List Nat) (j r : Nat) : Bool := (l.getD j 0).testBit r

def YieldsW (P : Program) (ops : Array Oper) (o : Oper) (v : Value) (a : Act) (w : World) : Prop :=
  (Region.wanted o (yielded ops a.tmps) = true ∧ (execOp a.eval o).run P w = .ok (.value v) w) ∨ (Region.wanted o (yielded ops a.tmps) = false ∧ v = undef)

def Yw (P : Program) (ops : Array Oper) (x : Nat × Value) (a : Act) (w : World) : Prop := ∃ o, ops[x.1]? = some o ∧ YieldsW P ops o x.2 a w

def upd (anc : Nat → Nat → Bool) (S : List (Nat × Value)) (j : Nat) : List (Nat × Value) := S.filter fun x => !anc j x.1

section game
variable {P : Program} {ops : Array Oper} {Q : Exit → Act → World → Prop} {anc : Nat → Nat → Bool}

def wpS (P : Program) (ops : Array Oper) (Q : Exit → Act → World → Prop) (anc : Nat → Nat → Bool) : Nat → List (Nat × Value) → Array Bool → Act → World → Prop
  | 0, _, L, a, w => Region.ready .any ops L = [] ∧ Q .normal a w
  | n + 1, S, L, a, w =>
    (Region.ready .any ops L = [] → Q .normal a w) ∧
    ∀ j ∈ Region.ready .any ops L, wpOp P ops Q j (fun a' w' => wpS P ops Q anc n (upd anc S j) (L.setIfInBounds j true) a' w' ∧ ∀ x ∈ upd anc S j, Yw P ops x a' w') a w

theorem wpAny_of_wpS : ∀ (n : Nat) (S : List (Nat × Value)) (L : Array Bool) (a : Act) (w : World), wpS P ops Q anc n S L a w → wpAny P .any ops Q n L a w
  | 0, _, _, _, _, h => h
  | n + 1, S, L, a, w, h => ⟨h.1, fun j hj => wpOp_mono (fun a' w' hk => wpAny_of_wpS n _ _ a' w' hk.1) (h.2 j hj)⟩

theorem upd_sub {S S' : List (Nat × Value)} (h : ∀ x ∈ S', x ∈ S) (j : Nat) : ∀ x ∈ upd anc S' j, x ∈ upd anc S j := by
  intro x hx
  simp only [upd, List.mem_filter] at hx ⊢
  exact ⟨h x hx.1, hx.2⟩

theorem wpS_less : ∀ (n : Nat) (S S' : List (Nat × Value)) (L : Array Bool) (a : Act) (w : World), (∀ x ∈ S', x ∈ S) → wpS P ops Q anc n S L a w → wpS P ops Q anc n S' L a w
  | 0, _, _, _, _, _, _, h => h
  | n + 1, S, S', L, a, w, hs, h => ⟨h.1, fun j hj => wpOp_mono (fun a' w' hk => ⟨wpS_less n _ _ _ a' w' (upd_sub hs j) hk.1, fun x hx => hk.2 x (upd_sub hs j x hx)⟩) (h.2 j hj)⟩

/-- L is closed downwards. -/
def Dn (anc : Nat → Nat → Bool) (L : Array Bool) : Prop := ∀ j r, L.getD j false = true → anc j r = true → L.getD r false = true

/-- anc comes of the edges. -/
def AncOk (ops : Array Oper) (anc : Nat → Nat → Bool) : Prop :=
  ∀ j r o, ops[j]? = some o → anc j r = true → ∃ e ∈ o.after, Region.binds .any e = true ∧ (e.on = r ∨ anc e.on r = true)

theorem ready_anc (hA : AncOk ops anc) {L : Array Bool} (hd : Dn anc L) {j r : Nat} (hj : j ∈ Region.ready .any ops L) (h : anc j r = true) : L.getD r false = true := by
  obtain ⟨_, o, ho, hall⟩ := mem_ready.1 hj
  obtain ⟨e, he, hb, hr⟩ := hA j r o ho h
  have h1 := hall e he hb
  rcases hr with rfl | hr
  · exact h1
  · exact hd _ _ h1 hr

theorem dn_set (hA : AncOk ops anc) {L : Array Bool} (hd : Dn anc L) {j : Nat} (hj : j ∈ Region.ready .any ops L) : Dn anc (L.setIfInBounds j true) := by
  intro k r hk hr
  by_cases hkj : k = j
  · subst hkj
    exact getD_set_true (ready_anc hA hd hj hr)
  · rw [getD_set_ne false (Ne.symm hkj)] at hk
    exact getD_set_true (hd k r hk hr)

/-- Where the frame is written at a slot that the operation does not look at. -/
theorem YieldsW.of_put {o : Oper} {v u : Value} {a : Act} {w : World} {d : Option Tmp} (hs : ∀ cs b, o.op ≠ .select cs b) (hd : ∀ x, d = some x → x ∉ o.looksAt ops) :
    YieldsW P ops o v (a.put d u) w ↔ YieldsW P ops o v a w := by
  unfold YieldsW
  rw [execOp_put o hs a d u hd, wanted_put o a d u hd]

theorem wpOp_comm {j : Nat} {oi oj : Oper} {v : Value} (hj : ops[j]? = some oj) (hap : oi.apart ops oj = true)
    (hsj : ∀ cs b, oj.op ≠ .select cs b) (hQ : ∀ x a w, x ≠ .normal → ¬ Q x a w) {K : Act → World → Prop} {a : Act} {w : World}
    {G : Act → Prop} (hG : G a) (hGp : ∀ a u, G a → G (a.put oj.dst u)) (hGd : ∀ (a : Act) d, G a → G { a with defers := d :: a.defers })
    (h : wpOp P ops Q j K (a.put oi.dst v) w) : wpOp P ops Q j (fun a' w' => G a' ∧ K (a'.put oi.dst v) w') a w := by
  obtain ⟨h1, h2, h3⟩ := Oper.apart_spec hap
  unfold wpOp at *
  simp only [hj] at *
  rw [wanted_put oj a oi.dst v h1] at h
  split
  · rename_i hw
    simp only [hw, if_true] at h
    rcases h with h | ⟨hasks, hlets⟩
    case inr => obtain ⟨x, y, hq⟩ := hlets; exact absurd hq (hQ _ _ _ (by simp))
    refine .inl ?_
    unfold Oper.wp at *
    rw [execOp_put oj hsj a oi.dst v h1] at h
    generalize (execOp a.eval oj).run P w = r at *
    cases r with
    | ok n w' =>
      cases n <;> simp only [Oper.upon] at h ⊢
      case value u => exact ⟨hGp a u hG, by rw [← Act.put_comm a v u h2]; exact h⟩
      case skip => exact ⟨hGp a _ hG, by rw [← Act.put_comm a v undef h2]; exact h⟩
      case defer d =>
        refine ⟨hGp _ _ (hGd a d hG), ?_⟩
        rw [← Act.put_comm _ v undef h2, ← Act.put_defers]
        exact h
      case enter f args =>
        refine Calls.mono h fun e w'' he => ?_
        cases e with
        | returned u => simp only at he ⊢; exact ⟨hGp a u hG, by rw [← Act.put_comm a v u h2]; exact he⟩
        | panicked c => exact absurd he (hQ _ _ _ (by simp))
        | outgrown => exact he
      case row row args => exact Rows.mono h fun u w'' he => ⟨hGp a u hG, by rw [← Act.put_comm a v u h2]; exact he⟩
    | halt x w' =>
      cases x <;> simp only [Oper.upon] at h ⊢
      case panic u => exact absurd h (hQ _ _ _ (by simp))
  · rename_i hw
    simp only [hw] at h
    exact ⟨hGp a _ hG, by rw [← Act.put_comm a v undef h2]; exact h⟩

theorem YieldsW.op {i : Nat} {o : Oper} {v : Value} {a : Act} {w : World} (hi : ops[i]? = some o) (hy : YieldsW P ops o v a w) {K : Act → World → Prop} (h : K (a.put o.dst v) w) : wpOp P ops Q i K a w := by
  unfold Go.wpOp
  simp only [hi]
  rcases hy with ⟨hw, hv⟩ | ⟨hw, rfl⟩
  · simp only [hw, if_true, Oper.wp, hv, Oper.upon]; exact .inl h
  · simp only [hw, Bool.false_eq_true, if_false]; exact h

/-- A read first: it is taken ahead of all others. -/
theorem wpS_first {i : Nat} {oi : Oper} {v : Value} {pure : Bool} (hi : ops[i]? = some oi) (hsel : ∀ (j : Nat) (o : Oper) cs b, ops[j]? = some o → o.op ≠ .select cs b)
    (hQ : ∀ x a w, x ≠ .normal → ¬ Q x a w) (hA : AncOk ops anc) (hself : ∀ x, oi.dst = some x → x ∉ oi.looksAt ops) :
    ∀ (n : Nat) (S : List (Nat × Value)) (L : Array Bool) (a : Act) (w : World),
      (∀ j oj, ops[j]? = some oj → j ≠ i → L.getD j true = false → anc j i = false → oi.apart ops oj = true) →
      (∀ x ∈ S, ∀ o, ops[x.1]? = some o → ∀ d, oi.dst = some d → d ∉ o.looksAt ops) →
      Dn anc L → i ∈ Region.ready .any ops L → (if pure then ∀ w, YieldsW P ops oi v a w else YieldsW P ops oi v a w) → (∀ x ∈ S, Yw P ops x a w) →
      wpS P ops Q anc n (if pure then S else (i, v) :: S) (L.setIfInBounds i true) (a.put oi.dst v) w → wpS P ops Q anc (n + 1) S L a w := by
  intro n
  induction n with
  | zero =>
    intro S L a w hfree hS hdn hr hy hyS H
    have hyw : YieldsW P ops oi v a w := by cases pure <;> simp_all
    refine ⟨fun h => (by rw [h] at hr; cases hr), fun j hj => ?_⟩
    by_cases hji : j = i
    · subst hji
      refine hyw.op hi ⟨⟨H.1, H.2⟩, fun x hx => ?_⟩
      obtain ⟨hx1, hx2⟩ := List.mem_filter.1 hx
      obtain ⟨o, ho, hyo⟩ := hyS x hx1
      exact ⟨o, ho, (YieldsW.of_put (fun cs b => hsel _ o cs b ho) (hS x hx1 o ho)).2 hyo⟩
    · have := ready_mono hj hji
      rw [H.1] at this
      cases this
  | succ n ih =>
    intro S L a w hfree hS hdn hr hy hyS H
    have hyw : YieldsW P ops oi v a w := by cases pure <;> simp_all
    refine ⟨fun h => (by rw [h] at hr; cases hr), fun j hj => ?_⟩
    by_cases hji : j = i
    · subst hji
      refine hyw.op hi ⟨wpS_less _ _ _ _ _ _ (fun x hx => ?_) H, fun x hx => ?_⟩
      · have := (List.mem_filter.1 hx).1
        cases pure
        · exact List.mem_cons_of_mem _ this
        · exact this
      · obtain ⟨hx1, hx2⟩ := List.mem_filter.1 hx
        obtain ⟨o, ho, hyo⟩ := hyS x hx1
        exact ⟨o, ho, (YieldsW.of_put (fun cs b => hsel _ o cs b ho) (hS x hx1 o ho)).2 hyo⟩
    · have h1 := H.2 j (ready_mono hj hji)
      obtain ⟨hjun, oj, hoj, hall⟩ := mem_ready.1 hj
      have hia : anc j i = false := by
        cases hb : anc j i with
        | false => rfl
        | true =>
          have h2 := ready_anc hA hdn hj hb
          have h0 := (mem_ready.1 hr).1
          rcases Nat.lt_or_ge i L.size with h' | h'
          · simp [h'] at h0 h2; rw [h0] at h2; cases h2
          · simp [Array.getElem?_eq_none h'] at h2
      have hap := hfree j oj hoj hji hjun hia
      have hap3 := (Oper.apart_spec hap).2.2
      have h2 := wpOp_comm (G := fun a => if pure then ∀ w, YieldsW P ops oi v a w else True) hoj hap (fun cs b => hsel j oj cs b hoj) hQ
        (by cases pure with
            | false => simp
            | true => simpa using hy)
        (by cases pure with
            | false => simp
            | true => intro a u hg w; exact (YieldsW.of_put (fun cs b => hsel _ oi cs b hi) hap3).2 (hg w))
        (by cases pure with
            | false => simp
            | true => intro a d hg w; exact hg w) h1
      refine wpOp_mono (fun a' w' h3 => ?_) h2
      obtain ⟨hg, h4, h5⟩ := h3
      have hyi : (if pure then ∀ w, YieldsW P ops oi v a' w else YieldsW P ops oi v a' w') := by
        cases pure with
        | false =>
          have hm : (i, v) ∈ upd anc (if false = true then S else (i, v) :: S) j := by
            simp [upd, hia]
          obtain ⟨o, ho, hyo⟩ := h5 _ hm
          simp only at ho
          obtain rfl : o = oi := by rw [hi] at ho; exact (Option.some.inj ho).symm
          simpa using (YieldsW.of_put (fun cs b => hsel _ o cs b hi) hself).1 hyo
        | true => exact hg
      have hyS' : ∀ x ∈ upd anc S j, Yw P ops x a' w' := by
        intro x hx
        have hx' : x ∈ upd anc (if pure then S else (i, v) :: S) j := by
          refine upd_sub (fun y hz => ?_) j x hx
          cases pure
          · exact List.mem_cons_of_mem _ hz
          · exact hz
        obtain ⟨o, ho, hyo⟩ := h5 x hx'
        exact ⟨o, ho, (YieldsW.of_put (fun cs b => hsel _ o cs b ho) (hS x (List.mem_filter.1 hx).1 o ho)).1 hyo⟩
      refine ⟨ih (upd anc S j) (L.setIfInBounds j true) a' w' ?_ (fun x hx => hS x (List.mem_filter.1 hx).1) (dn_set hA hdn hj) (ready_mono hr (Ne.symm hji)) hyi hyS' ?_, hyS'⟩
      · intro k ok hk hki hun hno
        refine hfree k ok hk hki ?_ hno
        by_cases hjk : j = k
        · subst hjk; exact hjun
        · rw [getD_set_ne true hjk] at hun; exact hun
      · rw [Array.setIfInBounds_comm _ _ hji]
        cases pure with
        | false =>
          have : upd anc ((i, v) :: S) j = (i, v) :: upd anc S j := by simp [upd, hia]
          simp only [Bool.false_eq_true, if_false] at h4 ⊢
          rw [← this]; exact h4
        | true => exact h4
end game

/-- A step that may be guarded away. -/
def YqG (P : Program) (N : Nat) (ops : Array Oper) (o : Oper) (e : Env) (h : Hp) (v : Value) : Prop := (Tk ops N o e ∧ Yq P N o e h v) ∨ (Ntk ops N o e ∧ v = undef)
def OkG (P : Program) (N : Nat) (ops : Array Oper) (o : Oper) (e : Env) (W : World) (h : Hp) (post : Value → Hp → Prop) : Prop :=
  (Tk ops N o e ∧ OpOk P N o e W h post) ∨ (Ntk ops N o e ∧ post undef h)

/-- What still floats reads the same behind the effect. -/
def Stay (P : Program) (N : Nat) (ops : Array Oper) (anc : Nat → Nat → Bool) (j : Nat) (e : Env) (h : Hp) : List (Nat × Value) → Prop
  | [] => True
  | x :: r => (match anc j x.1 with
    | true => True
    | false => ∃ o, ops[x.1]? = some o ∧ YqG P N ops o e h x.2) ∧ Stay P N ops anc j e h r

def PL (P : Program) (N : Nat) (ops : Array Oper) (Q : Exit → Act → World → Prop) (W : World) (anc : Nat → Nat → Bool) : Plan → List (Nat × Value) → Env → Hp → Prop
  | .done, _, e, h => WQ N Q .normal e W h
  | .p i r, S, e, h => ∃ o v, ops[i]? = some o ∧ inF N o.dst = true ∧ (∀ h, YqG P N ops o e h v) ∧ PL P N ops Q W anc r S (pt e o.dst v) h
  | .q i r, S, e, h => ∃ o v, ops[i]? = some o ∧ inF N o.dst = true ∧ YqG P N ops o e h v ∧ PL P N ops Q W anc r ((i, v) :: S) (pt e o.dst v) h
  | .e1 i r, S, e, h => ∃ o post, ops[i]? = some o ∧ inF N o.dst = true ∧ OkG P N ops o e W h post ∧
      ∀ v h', post v h' → Stay P N ops anc i (pt e o.dst v) h' S ∧ PL P N ops Q W anc r (upd anc S i) (pt e o.dst v) h'
  | .e2 i r j r', S, e, h =>
      (∃ o post, ops[i]? = some o ∧ inF N o.dst = true ∧ OkG P N ops o e W h post ∧
        ∀ v h', post v h' → Stay P N ops anc i (pt e o.dst v) h' S ∧ PL P N ops Q W anc r (upd anc S i) (pt e o.dst v) h') ∧
      (∃ o post, ops[j]? = some o ∧ inF N o.dst = true ∧ OkG P N ops o e W h post ∧
        ∀ v h', post v h' → Stay P N ops anc j (pt e o.dst v) h' S ∧ PL P N ops Q W anc r' (upd anc S j) (pt e o.dst v) h')

/-- May operation i be taken now, ahead of all that does not hang on it? S: the reads that float. -/
def freeB (ops : Array Oper) (anc : Nat → Nat → Bool) (L : Array Bool) (S : List Nat) (i : Nat) : Bool :=
  match ops[i]? with
  | none => false
  | some oi => (Region.ready .any ops L).contains i &&
    ((List.range ops.size).all fun j => j == i || L.getD j true || anc j i || match ops[j]? with | some oj => oi.apart ops oj | none => true) &&
    (match oi.dst with
     | none => true
     | some d => !(oi.looksAt ops).contains d && S.all fun r => match ops[r]? with | some o => !(o.looksAt ops).contains d | none => true)

def Plan.len : Plan → Nat
  | .done => 0
  | .p _ r | .q _ r | .e1 _ r | .e2 _ r _ _ => r.len + 1

def okB (ops : Array Oper) (anc : Nat → Nat → Bool) : Plan → Array Bool → List Nat → Bool
  | .done, L, _ => (Region.ready .any ops L).isEmpty
  | .p i r, L, S => freeB ops anc L S i && okB ops anc r (L.setIfInBounds i true) S
  | .q i r, L, S => freeB ops anc L S i && okB ops anc r (L.setIfInBounds i true) (i :: S)
  | .e1 i r, L, S => (Region.ready .any ops L == [i]) && okB ops anc r (L.setIfInBounds i true) (S.filter fun x => !anc i x)
  | .e2 i r j r', L, S => (Region.ready .any ops L == [i, j]) && (r.len == r'.len) && okB ops anc r (L.setIfInBounds i true) (S.filter fun x => !anc i x) &&
      okB ops anc r' (L.setIfInBounds j true) (S.filter fun x => !anc j x)

def ancOkB (ops : Array Oper) (anc : Nat → Nat → Bool) : Bool :=
  (List.range ops.size).all fun j => match ops[j]? with
    | none => true
    | some o => (List.range ops.size).all fun r => !anc j r || o.after.toList.any fun e => Region.binds .any e && (e.on == r || anc e.on r)

def ancLow (n : Nat) (l : List Nat) : Bool := l.length == n && l.all fun x => x < 2 ^ n

theorem ancLow_spec {n : Nat} {l : List Nat} (h : ancLow n l = true) {j r : Nat} (hr : ancB l j r = true) : r < n := by
  simp only [ancLow, Bool.and_eq_true, List.all_eq_true, decide_eq_true_eq] at h
  have hlt : l.getD j 0 < 2 ^ n := by
    rw [List.getD_eq_getElem?_getD]
    cases hx : l[j]? with
    | none => simp; exact Nat.two_pow_pos n
    | some x => exact h.2 x (List.mem_of_getElem? hx)
  rcases Nat.lt_or_ge r n with h' | h'
  · exact h'
  · rw [ancB, Nat.testBit_lt_two_pow (Nat.lt_of_lt_of_le hlt (Nat.pow_le_pow_right (by omega) h'))] at hr
    cases hr

theorem ancOk_of {ops : Array Oper} {l : List Nat} (hl : ancLow ops.size l = true) (h : ancOkB ops (ancB l) = true) : AncOk ops (ancB l) := by
  intro j r o hj hr
  have hjn : j < ops.size := (Array.getElem?_eq_some_iff.1 hj).1
  have hrn := ancLow_spec hl hr
  simp only [ancOkB, List.all_eq_true, List.mem_range] at h
  have h1 := h j hjn
  simp only [hj, List.all_eq_true, List.mem_range] at h1
  have h2 := h1 r hrn
  simp only [hr, Bool.not_true, Bool.false_or, List.any_eq_true, Bool.and_eq_true, Bool.or_eq_true, beq_iff_eq] at h2
  obtain ⟨e, he, hb, hx⟩ := h2
  exact ⟨e, by simpa using he, hb, hx⟩

section thm
variable {P : Program} {N : Nat} {ops : Array Oper} {Q : Exit → Act → World → Prop} {W : World} {anc : Nat → Nat → Bool}

theorem YqG.yw {o : Oper} {e : Env} {h : Hp} {v : Value} {a : Act} {w : World} (hy : YqG P N ops o e h v) (hf : Fr N a e) (hw : w.heap = h) : YieldsW P ops o v a w := by
  rcases hy with ⟨ht, hy⟩ | ⟨ht, rfl⟩
  · exact .inl ⟨ht a hf, hy a w hf hw⟩
  · exact .inr ⟨ht a hf, rfl⟩

theorem Stay.spec {j : Nat} {e : Env} {h : Hp} : ∀ {S : List (Nat × Value)}, Stay P N ops anc j e h S → ∀ {a : Act} {w : World}, Fr N a e → w.heap = h → ∀ x ∈ upd anc S j, Yw P ops x a w
  | [], _, _, _, _, _, x, hx => by simp [upd] at hx
  | y :: r, hs, a, w, hf, hw, x, hx => by
    obtain ⟨h1, h2⟩ := hs
    simp only [upd, List.mem_filter, List.mem_cons] at hx
    obtain ⟨hx1 | hx1, hx2⟩ := hx
    · subst hx1
      have : anc j x.1 = false := by simpa using hx2
      rw [this] at h1
      obtain ⟨o, ho, hy⟩ := h1
      exact ⟨o, ho, hy.yw hf hw⟩
    · exact Stay.spec h2 hf hw x (List.mem_filter.2 ⟨hx1, hx2⟩)

theorem freeB_spec {L : Array Bool} {S : List Nat} {i : Nat} {oi : Oper} (hi : ops[i]? = some oi) (h : freeB ops anc L S i = true) :
    i ∈ Region.ready .any ops L ∧ (∀ j oj, ops[j]? = some oj → j ≠ i → L.getD j true = false → anc j i = false → oi.apart ops oj = true) ∧
    (∀ x, oi.dst = some x → x ∉ oi.looksAt ops) ∧ (∀ r ∈ S, ∀ o, ops[r]? = some o → ∀ d, oi.dst = some d → d ∉ o.looksAt ops) := by
  simp only [freeB, hi, Bool.and_eq_true, List.all_eq_true, List.mem_range] at h
  obtain ⟨⟨h1, h2⟩, h3⟩ := h
  refine ⟨by simpa using h1, fun j oj hj hne hun hno => ?_, fun x hx => ?_, fun r hr o ho d hd => ?_⟩
  · have := h2 j (Array.getElem?_eq_some_iff.1 hj).1
    simp only [hj, Bool.or_eq_true, beq_iff_eq, hne, false_or, hun, Bool.false_eq_true, hno] at this
    exact this
  · simp only [hx, Bool.and_eq_true, Bool.not_eq_true'] at h3
    simpa using h3.1
  · simp only [hd, Bool.and_eq_true, List.all_eq_true] at h3
    have := h3.2 r hr
    simpa [ho] using this

theorem OkG.op {i : Nat} {o : Oper} {e : Env} {h : Hp} {post : Value → Hp → Prop} {a : Act} {w : World} (hi : ops[i]? = some o) (hd : inF N o.dst = true) (hk : OkG P N ops o e W h post)
    (hf : Fr N a e) (hw : w.heap = h) (hs : Str W w) {K : Act → World → Prop} (hK : ∀ v w', post v w'.heap → Fr N (a.put o.dst v) (pt e o.dst v) → Str W w' → K (a.put o.dst v) w') : wpOp P ops Q i K a w := by
  unfold Go.wpOp
  simp only [hi]
  rcases hk with ⟨ht, ho⟩ | ⟨ht, hp⟩
  · rw [if_pos (ht a hf)]
    refine .inl (Oper.wp_mono (fun a' w' hx => ?_) (ho a w hf hw hs Q))
    obtain ⟨v, rfl, hs', hv⟩ := hx
    exact hK v w' hv (hf.put hd v) hs'
  · rw [if_neg (by rw [ht a hf]; simp)]
    exact hK undef w (by rw [hw]; exact hp) (hf.put hd undef) hs

theorem wpS_of_plan (hsel : ∀ (j : Nat) (o : Oper) cs b, ops[j]? = some o → o.op ≠ .select cs b) (hQ : ∀ x a w, x ≠ .normal → ¬ Q x a w) (hA : AncOk ops anc) :
    ∀ (p : Plan) (S : List (Nat × Value)) (L : Array Bool) (e : Env) (h : Hp) (a : Act) (w : World),
      okB ops anc p L (S.map (·.1)) = true → PL P N ops Q W anc p S e h → Fr N a e → w.heap = h → Str W w → Dn anc L → (∀ x ∈ S, Yw P ops x a w) → ∀ n, p.len = n → wpS P ops Q anc n S L a w := by
  intro p
  induction p with
  | done =>
    intro S L e h a w hok hp hf hw hs hd hS n hn
    simp only [Plan.len] at hn
    subst hn
    exact ⟨by simpa [okB] using hok, hp a w hf hw hs⟩
  | p i r ih =>
    intro S L e h a w hok hp hf hw hs hd hS n hn
    simp only [Plan.len] at hn
    subst hn
    obtain ⟨o, v, hi, hin, hy, hp⟩ := hp
    simp only [okB, Bool.and_eq_true] at hok
    obtain ⟨hr, hfree, hself, hSd⟩ := freeB_spec hi hok.1
    have hya : ∀ w, YieldsW P ops o v a w := fun w => (hy w.heap).yw hf rfl
    refine wpS_first (pure := true) hi hsel hQ hA hself _ S L a w hfree (fun x hx => hSd x.1 (List.mem_map_of_mem hx)) hd hr (by simpa using hya) hS ?_
    simp only [if_true]
    refine ih S _ _ h _ w hok.2 hp (hf.put hin v) hw hs (dn_set hA hd hr) (fun x hx => ?_) _ rfl
    obtain ⟨o', ho', hyo⟩ := hS x hx
    exact ⟨o', ho', (YieldsW.of_put (fun cs b => hsel _ o' cs b ho') (hSd x.1 (List.mem_map_of_mem hx) o' ho')).2 hyo⟩
  | q i r ih =>
    intro S L e h a w hok hp hf hw hs hd hS n hn
    simp only [Plan.len] at hn
    subst hn
    obtain ⟨o, v, hi, hin, hy, hp⟩ := hp
    simp only [okB, Bool.and_eq_true] at hok
    obtain ⟨hr, hfree, hself, hSd⟩ := freeB_spec hi hok.1
    have hya : YieldsW P ops o v a w := hy.yw hf hw
    refine wpS_first (pure := false) hi hsel hQ hA hself _ S L a w hfree (fun x hx => hSd x.1 (List.mem_map_of_mem hx)) hd hr (by simpa using hya) hS ?_
    simp only [Bool.false_eq_true, if_false]
    refine ih ((i, v) :: S) _ _ h _ w (by simpa using hok.2) hp (hf.put hin v) hw hs (dn_set hA hd hr) (fun x hx => ?_) _ rfl
    rcases List.mem_cons.1 hx with rfl | hx
    · exact ⟨o, hi, (YieldsW.of_put (fun cs b => hsel _ o cs b hi) hself).2 hya⟩
    · obtain ⟨o', ho', hyo⟩ := hS x hx
      exact ⟨o', ho', (YieldsW.of_put (fun cs b => hsel _ o' cs b ho') (hSd x.1 (List.mem_map_of_mem hx) o' ho')).2 hyo⟩
  | e1 i r ih =>
    intro S L e h a w hok hp hf hw hs hd hS n hn
    simp only [Plan.len] at hn
    subst hn
    obtain ⟨o, post, hi, hin, hk, hp⟩ := hp
    simp only [okB, Bool.and_eq_true, beq_iff_eq] at hok
    obtain ⟨hr, hok⟩ := hok
    refine ⟨fun h0 => (by rw [hr] at h0; cases h0), fun j hj => ?_⟩
    obtain rfl : j = i := by rw [hr] at hj; simpa using hj
    refine hk.op hi hin hf hw hs fun v w' hv hf' hs' => ?_
    obtain ⟨hst, hp⟩ := hp v _ hv
    have hst' := hst.spec hf' rfl
    refine ⟨ih _ _ _ _ _ w' ?_ hp hf' rfl hs' (dn_set hA hd hj) hst' _ rfl, hst'⟩
    have : (upd anc S j).map (·.1) = (S.map (·.1)).filter fun x => !anc j x := by simp [upd, List.filter_map]; rfl
    rw [this]; exact hok
  | e2 i r j r' ih ih' =>
    intro S L e h a w hok hp hf hw hs hd hS n hn
    simp only [Plan.len] at hn
    subst hn
    simp only [okB, Bool.and_eq_true, beq_iff_eq] at hok
    obtain ⟨⟨⟨hr, hlen⟩, hok1⟩, hok2⟩ := hok
    obtain ⟨⟨o, post, hi, hin, hk, hp⟩, ⟨o', post', hi', hin', hk', hp'⟩⟩ := hp
    refine ⟨fun h0 => (by rw [hr] at h0; cases h0), fun x hx => ?_⟩
    have hx' : x = i ∨ x = j := by rw [hr] at hx; simpa using hx
    rcases hx' with rfl | rfl
    · refine hk.op hi hin hf hw hs fun v w' hv hf' hs' => ?_
      obtain ⟨hst, hp⟩ := hp v _ hv
      have hst' := hst.spec hf' rfl
      refine ⟨ih _ _ _ _ _ w' ?_ hp hf' rfl hs' (dn_set hA hd hx) hst' _ rfl, hst'⟩
      have : (upd anc S x).map (·.1) = (S.map (·.1)).filter fun y => !anc x y := by simp [upd, List.filter_map]; rfl
      rw [this]; exact hok1
    · refine hk'.op hi' hin' hf hw hs fun v w' hv hf' hs' => ?_
      obtain ⟨hst, hp⟩ := hp' v _ hv
      have hst' := hst.spec hf' rfl
      refine ⟨ih' _ _ _ _ _ w' ?_ hp hf' rfl hs' (dn_set hA hd hx) hst' _ hlen.symm, hst'⟩
      have : (upd anc S x).map (·.1) = (S.map (·.1)).filter fun y => !anc x y := by simp [upd, List.filter_map]; rfl
      rw [this]; exact hok2

theorem PL.mono {Q' : Exit → Act → World → Prop} (hq : ∀ e h, WQ N Q .normal e W h → WQ N Q' .normal e W h) : ∀ (p : Plan) (S : List (Nat × Value)) (e : Env) (h : Hp), PL P N ops Q W anc p S e h → PL P N ops Q' W anc p S e h := by
  intro p
  induction p with
  | done => intro S e h hp; exact hq e h hp
  | p i r ih => intro S e h ⟨o, v, h1, h2, h3, h4⟩; exact ⟨o, v, h1, h2, h3, ih _ _ _ h4⟩
  | q i r ih => intro S e h ⟨o, v, h1, h2, h3, h4⟩; exact ⟨o, v, h1, h2, h3, ih _ _ _ h4⟩
  | e1 i r ih => intro S e h ⟨o, post, h1, h2, h3, h4⟩; exact ⟨o, post, h1, h2, h3, fun v h' hv => ⟨(h4 v h' hv).1, ih _ _ _ (h4 v h' hv).2⟩⟩
  | e2 i r j r' ih ih' =>
    intro S e h ⟨⟨o, post, h1, h2, h3, h4⟩, ⟨o', post', h1', h2', h3', h4'⟩⟩
    exact ⟨⟨o, post, h1, h2, h3, fun v h' hv => ⟨(h4 v h' hv).1, ih _ _ _ (h4 v h' hv).2⟩⟩, ⟨o', post', h1', h2', h3', fun v h' hv => ⟨(h4' v h' hv).1, ih' _ _ _ (h4' v h' hv).2⟩⟩⟩

/-- All that is asked of a plan by reckoning. -/
def planB (ops : Array Oper) (al : List Nat) (p : Plan) : Bool :=
  Region.noSelect ops && ancLow ops.size al && ancOkB ops (ancB al) && okB ops (ancB al) p (Array.replicate ops.size false) [] && (p.len == ops.size)

theorem WPC.draw {id : Nat} {l : List Oper} {al : List Nat} {p : Plan} {e : Env} {h : Hp} (hm : P.follows .mixedOrders = true) (hb : planB l.toArray al p = true)
    (hp : PL P N l.toArray Q W (ancB al) p [] e h) : WPC P N (.region id l.toArray true) Q e W h := by
  intro a w hf hw hs
  simp only [planB, Bool.and_eq_true, beq_iff_eq] at hb
  obtain ⟨⟨⟨⟨h1, h2⟩, h3⟩, h4⟩, h5⟩ := hb
  let Qb : Exit → Act → World → Prop := fun x a w => x = .normal ∧ Q .normal a w
  have hp' : PL P N l.toArray Qb W (ancB al) p [] e h := hp.mono (fun e h hq a w hf hw hs => ⟨rfl, hq a w hf hw hs⟩)
  have hgame := wpS_of_plan (Q := Qb) (a := a) (w := { w with drawn := w.drawn + 1 }) (fun j o cs b ho => Region.noSelect_spec h1 j o cs b ho) (fun x a w hx hq => hx hq.1) (ancOk_of h2 h3) p [] (Array.replicate l.toArray.size false) e h
    (by simpa using h4) hp' hf hw ⟨hs.os, hs.tape, hs.output⟩ (by intro j r hj; simp [Array.getElem?_replicate] at hj; split at hj <;> simp_all) (by simp) _ h5
  exact wp_mono (wp_region_any hm (wpAny_of_wpS _ _ _ _ _ hgame)) fun x a w hx => by obtain ⟨rfl, hq⟩ := hx; exact hq
end thm
end Tw
