/- Reasoning on the heap: whole numbers, blocks, bytes. No condition. -/
import Derived.Test.YthpeadoidpimmaaTw7
namespace Tw
open Go
set_option linter.unusedVariables false

theorem wrap_i64 {e : Int} (h0 : -9223372036854775808 ≤ e) (h1 : e ≤ 9223372036854775807) : IntKind.i64.wrap e = e := by
  unfold IntKind.wrap IntKind.bits IntKind.signed
  simp
  omega
theorem wrap_u8 {e : Int} : IntKind.u8.wrap e = e % 256 := by
  unfold IntKind.wrap IntKind.bits IntKind.signed; simp
theorem wrap_u32 {e : Int} : IntKind.u32.wrap e = e % 4294967296 := by
  unfold IntKind.wrap IntKind.bits IntKind.signed; simp
theorem wrap_u64 {e : Int} : IntKind.u64.wrap e = e % 18446744073709551616 := by
  unfold IntKind.wrap IntKind.bits IntKind.signed; simp
/-- A sum that fits. -/
theorem Wr.i64 {e : Int} (h0 : -9223372036854775808 ≤ e) (h1 : e ≤ 9223372036854775807) : Wr .i64 e e := (wrap_i64 h0 h1).symm
theorem Wr.u8 (e : Int) : Wr .u8 e (e % 256) := wrap_u8.symm
theorem Wr.u32 (e : Int) : Wr .u32 e (e % 4294967296) := wrap_u32.symm
theorem Wr.u64 (e : Int) : Wr .u64 e (e % 18446744073709551616) := wrap_u64.symm

theorem dcd {p : Prop} [Decidable p] {A B : Prop} (ht : p → A) (hf : ¬ p → B) : (decide p = true → A) ∧ (decide p = false → B) :=
  ⟨fun h => ht (of_decide_eq_true h), fun h => hf (of_decide_eq_false h)⟩
theorem dcb {a b : Int} {A B : Prop} (ht : a = b → A) (hf : a ≠ b → B) : ((a == b) = true → A) ∧ ((a == b) = false → B) :=
  ⟨fun h => ht (by simpa using h), fun h => hf (by simpa using h)⟩
theorem dcn {a b : Int} {A B : Prop} (ht : a ≠ b → A) (hf : a = b → B) : ((a != b) = true → A) ∧ ((a != b) = false → B) :=
  ⟨fun h => ht (by simpa using h), fun h => hf (by simpa using h)⟩
theorem dct {A B : Prop} (ht : A) : ((true : Bool) = true → A) ∧ ((true : Bool) = false → B) := ⟨fun _ => ht, fun h => (by cases h)⟩
theorem dcf {A B : Prop} (hf : B) : ((false : Bool) = true → A) ∧ ((false : Bool) = false → B) := ⟨fun h => (by cases h), fun _ => hf⟩

/-- What is old stays; F: the blocks that may turn. -/
structure Kp (F : Nat → Prop) (h h' : Hp) : Prop where
  size : h.size ≤ h'.size
  old : ∀ b, b < h.size → ¬ F b → h'[b]? = h[b]?

theorem Kp.refl (F : Nat → Prop) (h : Hp) : Kp F h h := ⟨Nat.le_refl _, fun _ _ _ => rfl⟩
theorem Kp.trans {F : Nat → Prop} {h h1 h2 : Hp} (a : Kp F h h1) (b : Kp F h1 h2) : Kp F h h2 :=
  ⟨Nat.le_trans a.size b.size, fun i hi hn => (b.old i (Nat.lt_of_lt_of_le hi a.size) hn).trans (a.old i hi hn)⟩
theorem Kp.mono {F G : Nat → Prop} {h h' : Hp} (a : Kp F h h') (hg : ∀ b, b < h.size → F b → G b) : Kp G h h' :=
  ⟨a.size, fun b hb hn => a.old b hb fun hf => hn (hg b hb hf)⟩
theorem Kp.push {F : Nat → Prop} {h h1 : Hp} (a : Kp F h h1) (o : Obj) : Kp F h (h1.push o) :=
  ⟨by have := a.size; simp; omega, fun b hb hn => by
    have := a.size
    rw [Array.getElem?_push, if_neg (by omega)]
    exact a.old b hb hn⟩
theorem Kp.set {F : Nat → Prop} {h h1 : Hp} (a : Kp F h h1) {b : Nat} (o : Obj) (hb : h.size ≤ b ∨ F b) : Kp F h (setB h1 b o) :=
  ⟨by have := a.size; simp [setB]; omega, fun i hi hn => by
    have hne : b ≠ i := by rintro rfl; rcases hb with hb | hb <;> first | omega | exact hn hb
    simp only [setB, Array.getElem?_setIfInBounds_ne hne]
    exact a.old i hi hn⟩

theorem get_push_new (h : Hp) (o : Obj) : (h.push o)[h.size]? = some o := by simp
theorem get_push_old {h : Hp} {o : Obj} {b : Nat} (hb : b < h.size) : (h.push o)[b]? = h[b]? := by rw [Array.getElem?_push, if_neg (by omega)]
theorem get_set_same {h : Hp} {o : Obj} {b : Nat} (hb : b < h.size) : (setB h b o)[b]? = some o := by simp [setB, hb]
theorem get_set_ne {h : Hp} {o : Obj} {b i : Nat} (hb : b ≠ i) : (setB h b o)[i]? = h[i]? := by simp [setB, Array.getElem?_setIfInBounds_ne hb]
theorem size_set {h : Hp} {o : Obj} {b : Nat} : (setB h b o).size = h.size := by simp [setB]
theorem Bk.lt {h : Hp} {b : Nat} {l : List Value} {t : TypeId} (hb : Bk h b l t) : b < h.size := (Array.getElem?_eq_some_iff.1 hb).1
theorem Bk.kp {F : Nat → Prop} {h h' : Hp} {b : Nat} {l : List Value} {t : TypeId} (hb : Bk h b l t) (hk : Kp F h h') (hn : ¬ F b) : Bk h' b l t := (hk.old b hb.lt hn).trans hb
theorem Bk.new (h : Hp) (l : List Value) (t : TypeId) : Bk (h.push (Cel l t)) h.size l t := get_push_new h _
theorem Bk.push {h : Hp} {b : Nat} {l : List Value} {t : TypeId} (hb : Bk h b l t) (o : Obj) : Bk (h.push o) b l t := (get_push_old hb.lt).trans hb
theorem Bk.rd {h : Hp} {b i : Nat} {l : List Value} {t : TypeId} {v : Value} (hb : Bk h b l t) (hv : l[i]? = some v) : rdc h ⟨b, i, none⟩ = some v := by
  have : h[b]? = some (.cells l.toArray t (0, 0)) := hb
  simp [rdc, this, hv]
theorem add_nA (b o n : Nat) : (⟨b, o, none⟩ : Addr).add n = ⟨b, o + n, none⟩ := by
  unfold Addr.add; split
  · subst_vars; rfl
  · rfl
theorem add_add (a : Addr) (m n : Nat) (hs : a.spot = none) : (a.add m).add n = a.add (m + n) := by
  obtain ⟨b, o, s⟩ := a
  simp only at hs; subst hs
  simp [add_nA, Nat.add_assoc]
theorem Bk.st {h : Hp} {b i : Nat} {l vs : List Value} {t : TypeId} (hb : Bk h b l t) (hi : i + vs.length ≤ l.length) : StL h ⟨b, i, none⟩ vs (setB h b (Cel (splice l i vs) t)) :=
  .inr ⟨rfl, l, t, hb, hi, rfl⟩
theorem Bk.set {h : Hp} {b : Nat} {l l' : List Value} {t : TypeId} (hb : Bk h b l t) : Bk (setB h b (Cel l' t)) b l' t := get_set_same hb.lt
theorem Bk.set_ne {h : Hp} {b b' : Nat} {l : List Value} {t : TypeId} {o : Obj} (hb : Bk h b l t) (hne : b' ≠ b) : Bk (setB h b' o) b l t := (get_set_ne hne).trans hb
theorem splice_one (l : List Value) (i : Nat) (v : Value) (hi : i < l.length) : splice l i [v] = l.set i v := by
  simp only [splice, List.length_singleton]
  rw [List.set_eq_take_append_cons_drop, if_pos hi]
  simp
theorem splice_len {l vs : List Value} {i : Nat} (hi : i + vs.length ≤ l.length) : (splice l i vs).length = l.length := by
  simp [splice]; omega
theorem RdL.of_bk {h : Hp} {b i : Nat} {l vs : List Value} {t : TypeId} (hb : Bk h b l t) (hv : ∀ j v, vs[j]? = some v → l[i + j]? = some v) : RdL h ⟨b, i, none⟩ vs := by
  intro j v hj
  rw [add_nA]
  exact hb.rd (hv j v hj)

/-- A slice of bytes. -/
structure Byt (h : Hp) (s : Sl) (bs : List UInt8) : Prop where
  len : s.len = bs.length
  cap : s.len ≤ s.cap
  rd : match s.p with
    | some a => RdL h a (bs.map bv)
    | none => bs = [] ∧ s.cap = 0

theorem Byt.at {h : Hp} {s : Sl} {bs : List UInt8} (hb : Byt h s bs) {i : Nat} (hi : i < bs.length) : ∃ a, s.p = some a ∧ rdc h (a.add i) = some (bv bs[i]) := by
  obtain ⟨q, len, cap⟩ := s
  cases q with
  | none => have := hb.rd.1; subst this; simp at hi
  | some a => exact ⟨a, rfl, hb.rd i _ (by simp [hi])⟩
theorem RdL.kp {F : Nat → Prop} {h h' : Hp} {a : Addr} {l : List Value} (hr : RdL h a l) (hk : Kp F h h') (hn : ¬ F a.block) : RdL h' a l := by
  intro j v hj
  have := hr j v hj
  have hbl : (a.add j).block = a.block := by unfold Addr.add; split <;> rfl
  have hlt : a.block < h.size := by
    rcases Nat.lt_or_ge a.block h.size with h1 | h1
    · exact h1
    · rw [← hbl] at h1
      simp [rdc, Array.getElem?_eq_none h1] at this
  unfold rdc at this ⊢
  rw [hbl] at this ⊢
  rw [hk.old _ hlt hn]
  exact this
theorem Byt.kp {F : Nat → Prop} {h h' : Hp} {s : Sl} {bs : List UInt8} (hb : Byt h s bs) (hk : Kp F h h') (hn : ∀ a, s.p = some a → ¬ F a.block) : Byt h' s bs := by
  obtain ⟨q, len, cap⟩ := s
  refine ⟨hb.len, hb.cap, ?_⟩
  cases q with
  | none => exact hb.rd
  | some a => exact RdL.kp hb.rd hk (hn a rfl)
/-- Of a list without bytes nothing is read. -/
theorem Byt.kpo {F : Nat → Prop} {h h' : Hp} {s : Sl} {bs : List UInt8} (hb : Byt h s bs) (hk : Kp F h h') (hn : ∀ a, s.p = some a → bs ≠ [] → ¬ F a.block) : Byt h' s bs := by
  by_cases he : bs = []
  · subst he
    refine ⟨hb.len, hb.cap, ?_⟩
    have h1 := hb.rd
    cases hp : s.p with
    | none => rw [hp] at h1; exact h1
    | some a => intro j v hj; simp at hj
  · exact hb.kp hk fun a ha => hn a ha he
theorem rdc_lt {h : Hp} {a : Addr} {v : Value} (hr : rdc h a = some v) : a.block < h.size := by
  unfold rdc at hr
  split at hr
  · rename_i heq
    exact (Array.getElem?_eq_some_iff.1 heq).1
  · cases hr
theorem add_block (a : Addr) (j : Nat) : (a.add j).block = a.block := by unfold Addr.add; split <;> rfl
theorem Byt.lt {h : Hp} {s : Sl} {bs : List UInt8} (hb : Byt h s bs) (hne : bs ≠ []) {a : Addr} (ha : s.p = some a) : a.block < h.size := by
  have hl : 0 < bs.length := List.length_pos_iff.2 hne
  obtain ⟨a', ha', hr⟩ := hb.at hl
  rw [ha] at ha'; cases ha'
  have := rdc_lt hr
  rwa [add_block] at this
end Tw
