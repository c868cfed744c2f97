/- Slices on the heap that are read, written and grown. No condition. -/
import Derived.Test.YthpeadoidpimmaaHx
namespace Tw
open Go
set_option linter.unusedVariables false

def Sl.blk (s : Sl) : Nat → Prop := fun b => ∃ a, s.p = some a ∧ a.block = b

theorem zr_len (z : List Value) (k : Nat) : (zr z k).length = k := by simp [zr]

/-- A slice: its cells; one that may be grown and written. -/
structure Vec (h : Hp) (s : Sl) (n : Nat) (el : TypeId) (cs : List Value) : Prop where
  len : cs.length = s.len * n
  cap : s.len ≤ s.cap
  rd : match s.p with
    | none => s.len = 0 ∧ s.cap = 0
    | some a => a.spot = none ∧ ∃ l, Bk h a.block l el ∧ a.off + s.cap * n ≤ l.length ∧ (l.drop a.off).take (s.len * n) = cs

theorem Vec.nil (h : Hp) (n : Nat) (el : TypeId) : Vec h Sl.nil n el [] := ⟨by simp, Nat.le_refl _, rfl, rfl⟩

theorem Vec.lt {h : Hp} {s : Sl} {n : Nat} {el : TypeId} {cs : List Value} (hv : Vec h s n el cs) {b : Nat} (hb : s.blk b) : b < h.size := by
  obtain ⟨a, ha, rfl⟩ := hb
  have := hv.rd
  rw [ha] at this
  obtain ⟨_, l, hl, _⟩ := this
  exact hl.lt

theorem Vec.kp {F : Nat → Prop} {h h' : Hp} {s : Sl} {n : Nat} {el : TypeId} {cs : List Value} (hv : Vec h s n el cs) (hk : Kp F h h') (hn : ∀ b, s.blk b → ¬ F b) : Vec h' s n el cs := by
  refine ⟨hv.len, hv.cap, ?_⟩
  have := hv.rd
  obtain ⟨q, len, cap⟩ := s
  cases q with
  | none => exact this
  | some a =>
    obtain ⟨h1, l, h2, h3⟩ := this
    exact ⟨h1, l, h2.kp hk (hn _ ⟨a, rfl, rfl⟩), h3⟩

theorem get_dt {l cs : List Value} {o k : Nat} (h : (l.drop o).take k = cs) {j : Nat} {v : Value} (hj : cs[j]? = some v) : l[o + j]? = some v := by
  subst h
  rw [List.getElem?_take] at hj
  split at hj
  · rwa [List.getElem?_drop] at hj
  · cases hj

/-- Any stretch of its cells can be read. -/
theorem Vec.rdl {h : Hp} {s : Sl} {n : Nat} {el : TypeId} {cs : List Value} (hv : Vec h s n el cs) {a : Addr} (ha : s.p = some a) {i : Nat} {vs : List Value}
    (hs : ∀ j v, vs[j]? = some v → cs[i + j]? = some v) : RdL h (a.add i) vs := by
  have := hv.rd
  rw [ha] at this
  obtain ⟨hsp, l, hb, hc, ht⟩ := this
  obtain ⟨b, o, sp⟩ := a
  simp only at hsp; subst hsp
  rw [add_nA]
  refine RdL.of_bk hb fun j v hj => ?_
  rw [Nat.add_assoc]
  exact get_dt ht (hs j v hj)

theorem Vec.rdc {h : Hp} {s : Sl} {n : Nat} {el : TypeId} {cs : List Value} (hv : Vec h s n el cs) {a : Addr} (ha : s.p = some a) {i : Nat} {v : Value}
    (hs : cs[i]? = some v) : rdc h (a.add i) = some v := by
  have := hv.rd
  rw [ha] at this
  obtain ⟨hsp, l, hb, hc, ht⟩ := this
  obtain ⟨b, o, sp⟩ := a
  simp only at hsp; subst hsp
  rw [add_nA]
  exact hb.rd (get_dt ht hs)

theorem add_zero' (a : Addr) : a.add 0 = a := by simp [Addr.add]

theorem Vec.rds {h : Hp} {s : Sl} {n : Nat} {el : TypeId} {cs : List Value} (hv : Vec h s n el cs) : RdS h s n cs := by
  unfold RdS
  have h1 := hv.rd
  have h2 := hv.len
  cases hp : s.p with
  | none =>
    rw [hp] at h1
    refine ⟨h1.1, ?_⟩
    rw [h1.1] at h2
    exact List.length_eq_zero_iff.1 (by simpa using h2)
  | some a =>
    refine ⟨h2, ?_⟩
    have := hv.rdl hp (i := 0) (vs := cs) (fun j v hj => by simpa using hj)
    rwa [add_zero'] at this

theorem Vec.ptr {h : Hp} {s : Sl} {n : Nat} {el : TypeId} {cs : List Value} (hv : Vec h s n el cs) (hn : 0 < s.len) : ∃ a, s.p = some a := by
  have h1 := hv.rd
  cases hp : s.p with
  | none => rw [hp] at h1; omega
  | some a => exact ⟨a, rfl⟩

theorem drop_take_splice {l cs news : List Value} {o k : Nat} (h : (l.drop o).take k = cs) (hc : cs.length = k) (hl : o + k + news.length ≤ l.length) :
    ((splice l (o + k) news).drop o).take (k + news.length) = cs ++ news := by
  unfold splice
  have e1 : l.take (o + k) = l.take o ++ cs := by rw [← h, List.take_add]
  have e2 : (l.take o).length = o := by simp; omega
  rw [e1, List.append_assoc, List.append_assoc, List.drop_append, e2, List.drop_of_length_le (by omega), List.nil_append, Nat.sub_self, List.drop_zero]
  rw [← List.append_assoc, List.take_append_of_le_length (by simp; omega), List.take_of_length_le (by simp; omega)]

theorem Vec.app {h : Hp} {s x : Sl} {n b : Nat} {el : TypeId} {z cs news : List Value} {K : Sl → Hp → Prop} (hv : Vec h s n el cs) (hx : RdS h x n news) (ho : oneC news)
    (hb : (s.len + x.len) * b ≤ 140737488355328)
    (hK : ∀ s' h', Vec h' s' n el (cs ++ news) → s'.len = s.len + x.len → Kp s.blk h h' → (∀ b, s'.blk b → s.blk b ∨ h.size = b) → K s' h') : App h s x n b el z K := by
  have hxl : news.length = x.len * n := by
    unfold RdS at hx
    split at hx
    · exact hx.1
    · rw [hx.1, hx.2]; simp
  refine ⟨news, hx, ho, fun hc => ?_, fun hc => ⟨hb, cs, hv.rds, fun c h1 h2 => ?_⟩⟩
  · cases hp : s.p with
    | none =>
      have h1 := hv.rd
      rw [hp] at h1
      have hx0 : x.len = 0 := by omega
      have hn0 : news = [] := List.length_eq_zero_iff.1 (by rw [hxl, hx0]; simp)
      refine ⟨h, rfl, ?_⟩
      refine hK _ _ ⟨?_, ?_, ?_⟩ rfl (Kp.refl _ _) ?_
      · simp [hn0, hv.len, hx0]
      · simpa using hc
      · exact ⟨by show s.len + x.len = 0; omega, h1.2⟩
      · rintro b ⟨a, ha, _⟩; cases ha
    | some a =>
      have h1 := hv.rd
      rw [hp] at h1
      obtain ⟨hsp, l, hbk, hcl, ht⟩ := h1
      obtain ⟨q, o, sp⟩ := a
      simp only at hsp; subst hsp
      simp only at hbk hcl ht
      have hle : o + s.len * n + news.length ≤ l.length := by
        rw [hxl]
        have : (s.len + x.len) * n ≤ s.cap * n := Nat.mul_le_mul_right n hc
        rw [Nat.add_mul] at this
        omega
      refine ⟨setB h q (Cel (splice l (o + s.len * n) news) el), ?_, ?_⟩
      · show StL h ((⟨q, o, none⟩ : Addr).add (s.len * n)) news _
        rw [add_nA]
        exact hbk.st hle
      · refine hK _ _ ⟨?_, hc, ?_⟩ rfl (Kp.set (Kp.refl _ _) _ (.inr ⟨_, hp, rfl⟩)) ?_
        · rw [List.length_append, hv.len, hxl, Nat.add_mul]
        · refine ⟨rfl, _, hbk.set, ?_, ?_⟩
          · simp only; rw [splice_len hle]; exact hcl
          · simp only
            rw [Nat.add_mul, ← hxl]
            exact drop_take_splice ht hv.len hle
        · rintro b ⟨a, ha, hb'⟩
          exact .inl ⟨a, by rw [hp]; exact ha, hb'⟩
  · refine hK _ _ ⟨?_, h1, ?_⟩ rfl (Kp.push (Kp.refl _ _) _) ?_
    · rw [List.length_append, hv.len, hxl, Nat.add_mul]
    · refine ⟨rfl, _, Bk.new h _ el, ?_, ?_⟩
      · simp only [List.length_append, zr_len, hv.len, hxl]
        rw [Nat.sub_mul, Nat.add_mul]
        have : (s.len + x.len) * n ≤ c * n := Nat.mul_le_mul_right n h1
        rw [Nat.add_mul] at this
        omega
      · simp only [List.drop_zero]
        rw [List.take_append_of_le_length (by simp [hv.len, hxl, Nat.add_mul]), List.take_of_length_le (by simp [hv.len, hxl, Nat.add_mul])]
    · rintro b ⟨a, ha, hb'⟩
      cases ha
      exact .inr hb'

theorem take_splice_mid {l cs vs : List Value} {o k i : Nat} (h : (l.drop o).take k = cs) (hc : cs.length = k) (hk : o + k ≤ l.length) (hi : i + vs.length ≤ k) :
    ((splice l (o + i) vs).drop o).take k = splice cs i vs := by
  apply List.ext_getElem?
  intro j
  have hol : (l.take (o + i)).length = o + i := by simp; omega
  have hcl : (cs.take i).length = i := by simp; omega
  unfold splice
  rw [List.getElem?_take]
  by_cases hj : j < k
  · rw [if_pos hj, List.getElem?_drop]
    by_cases h1 : j < i
    · rw [List.append_assoc, List.append_assoc, List.getElem?_append_left (by omega), List.getElem?_append_left (by omega), List.getElem?_take, List.getElem?_take, if_pos (by omega), if_pos h1]
      subst h
      rw [List.getElem?_take, if_pos hj, List.getElem?_drop]
    · by_cases h2 : j < i + vs.length
      · rw [List.getElem?_append_left (by simp; omega), List.getElem?_append_right (by omega), List.getElem?_append_left (by simp; omega), List.getElem?_append_right (by omega), hol, hcl]
        congr 1; omega
      · rw [List.getElem?_append_right (by simp; omega), List.getElem?_append_right (by simp; omega), List.getElem?_drop, List.getElem?_drop]
        simp only [List.length_append, hol, hcl]
        subst h
        rw [List.getElem?_take, if_pos (by omega), List.getElem?_drop]
        congr 1; omega
  · rw [if_neg hj, List.getElem?_eq_none]
    simp [hc]; omega

/-- A stretch is written. -/
theorem Vec.st {h : Hp} {s : Sl} {n : Nat} {el : TypeId} {cs vs : List Value} (hv : Vec h s n el cs) {a : Addr} (ha : s.p = some a) {i : Nat} (hi : i + vs.length ≤ cs.length) :
    ∃ h', StL h (a.add i) vs h' ∧ Vec h' s n el (splice cs i vs) ∧ Kp s.blk h h' := by
  have h1 := hv.rd
  rw [ha] at h1
  obtain ⟨hsp, l, hbk, hcl, ht⟩ := h1
  obtain ⟨q, o, sp⟩ := a
  simp only at hsp; subst hsp
  simp only at hbk hcl ht
  have hlen := hv.len
  have hcap : s.len * n ≤ s.cap * n := Nat.mul_le_mul_right n hv.cap
  refine ⟨setB h q (Cel (splice l (o + i) vs) el), ?_, ⟨?_, hv.cap, ?_⟩, Kp.set (Kp.refl _ _) _ (.inr ⟨_, ha, rfl⟩)⟩
  · rw [add_nA]; exact hbk.st (by omega)
  · rw [splice_len hi, hlen]
  · rw [ha]
    refine ⟨rfl, _, hbk.set, ?_, ?_⟩
    · simp only; rw [splice_len (by omega)]; exact hcl
    · simp only
      exact take_splice_mid ht hlen (by omega) (by omega)

/-- A new block of its own. -/
theorem Vec.mk0 (h : Hp) (n len cap : Nat) (el : TypeId) (l cs : List Value) (hl : l.length = cap * n) (hc : len ≤ cap) (hcs : l.take (len * n) = cs) : Vec (h.push (Cel l el)) ⟨some (nA h.size), len, cap⟩ n el cs := by
  have hm : len * n ≤ cap * n := Nat.mul_le_mul_right n hc
  refine ⟨?_, hc, rfl, l, Bk.new h l el, by simp [hl], by simpa using hcs⟩
  subst hcs; simp; omega

/-- What is new may turn. -/
theorem Kp.and {F G : Nat → Prop} {h h1 h2 : Hp} (a : Kp F h h1) (b : Kp G h1 h2) (hg : ∀ i, G i → h.size ≤ i ∨ F i) : Kp F h h2 :=
  ⟨Nat.le_trans a.size b.size, fun i hi hn => (b.old i (Nat.lt_of_lt_of_le hi a.size) fun hG => (hg i hG).elim (fun h => by omega) hn).trans (a.old i hi hn)⟩

/-! ### Lists of elements -/

theorem flat_len {α : Type} (f : α → List Value) (n : Nat) (l : List α) (hf : ∀ x ∈ l, (f x).length = n) : (l.flatMap f).length = l.length * n := by
  induction l with
  | nil => simp
  | cons x r ih =>
    have h1 := hf x (by simp)
    have h2 := ih (fun y hy => hf y (by simp [hy]))
    simp only [List.flatMap_cons, List.length_append, h1, h2, List.length_cons, Nat.add_mul]; omega

theorem flat_get {α : Type} (f : α → List Value) (n : Nat) : ∀ (l : List α), (∀ x ∈ l, (f x).length = n) → ∀ (i : Nat) (x : α), l[i]? = some x → ∀ (j : Nat) (v : Value), (f x)[j]? = some v → (l.flatMap f)[i * n + j]? = some v
  | [], hf, i, x, h => by simp at h
  | y :: r, hf, 0, x, h => by
    simp at h; subst h
    intro j v hj
    have hlt : j < (f y).length := (List.getElem?_eq_some_iff.1 hj).1
    simp only [List.flatMap_cons, Nat.zero_mul, Nat.zero_add]
    rw [List.getElem?_append_left hlt]; exact hj
  | y :: r, hf, i + 1, x, h => by
    intro j v hj
    simp at h
    simp only [List.flatMap_cons]
    have hy := hf y (by simp)
    rw [List.getElem?_append_right (by rw [hy, Nat.add_mul]; omega), hy]
    have := flat_get f n r (fun z hz => hf z (by simp [hz])) i x h j v hj
    rw [Nat.add_mul, Nat.one_mul, show i * n + n + j - n = i * n + j by omega]
    exact this

theorem flat_set {α : Type} (f : α → List Value) (n : Nat) : ∀ (l : List α), (∀ x ∈ l, (f x).length = n) → ∀ (i : Nat) (y : α), (f y).length = n → i < l.length → splice (l.flatMap f) (i * n) (f y) = (l.set i y).flatMap f
  | [], hf, i, y, hy, h => by simp at h
  | x :: r, hf, 0, y, hy, h => by
    have hx := hf x (by simp)
    simp only [splice, Nat.zero_mul, List.take_zero, List.nil_append, Nat.zero_add, List.set_cons_zero, List.flatMap_cons]
    rw [hy, List.drop_append, hx, Nat.sub_self, List.drop_of_length_le (by rw [hx]; exact Nat.le_refl _)]
    simp
  | x :: r, hf, i + 1, y, hy, h => by
    have hx := hf x (by simp)
    have ih := flat_set f n r (fun z hz => hf z (by simp [hz])) i y hy (by simpa using h)
    simp only [List.set_cons_succ, List.flatMap_cons]
    rw [← ih]
    unfold splice
    rw [Nat.add_mul, Nat.one_mul, List.take_append, List.drop_append, hx, hy, List.take_of_length_le (by rw [hx]; omega), List.drop_of_length_le (by rw [hx]; omega)]
    simp only [List.append_assoc, List.nil_append]
    rw [show i * n + n - n = i * n by omega, show i * n + n + n - n = i * n + n by omega]

theorem map_flat {α : Type} (f : α → Value) (l : List α) : l.map f = l.flatMap fun x => [f x] := by
  induction l with
  | nil => rfl
  | cons x r ih => simp [ih]
theorem oneC_map {α : Type} {f : α → Value} (hf : ∀ x, (f x).oneCell' = true) (l : List α) : oneC (l.map f) := by
  intro v hv
  obtain ⟨x, _, rfl⟩ := List.mem_map.1 hv
  exact hf x
theorem oneC_bytes (l : List UInt8) : oneC (l.map bv) := oneC_map (fun _ => rfl) l
theorem oneC_app {l r : List Value} (hl : oneC l) (hr : oneC r) : oneC (l ++ r) := fun v hv => (List.mem_append.1 hv).elim (hl v) (hr v)

/-- A slice of bools. -/
structure Bls (h : Hp) (s : Sl) (bs : List Bool) : Prop where
  len : s.len = bs.length
  cap : s.len ≤ s.cap
  rd : match s.p with
    | some a => RdL h a (bs.map .bool)
    | none => bs = [] ∧ s.cap = 0

theorem Bls.kp {F : Nat → Prop} {h h' : Hp} {s : Sl} {bs : List Bool} (hb : Bls h s bs) (hk : Kp F h h') (hn : ∀ a, s.p = some a → ¬ F a.block) : Bls h' s bs := by
  obtain ⟨q, len, cap⟩ := s
  refine ⟨hb.len, hb.cap, ?_⟩
  cases q with
  | none => exact hb.rd
  | some a => exact RdL.kp hb.rd hk (hn a rfl)
theorem Bls.at {h : Hp} {s : Sl} {bs : List Bool} (hb : Bls h s bs) {i : Nat} (hi : i < bs.length) : ∃ a, s.p = some a ∧ rdc h (a.add i) = some (.bool bs[i]) := by
  obtain ⟨q, len, cap⟩ := s
  cases q with
  | none => have := hb.rd.1; subst this; simp at hi
  | some a => exact ⟨a, rfl, hb.rd i _ (by simp [hi])⟩
theorem Bls.rds {h : Hp} {s : Sl} {bs : List Bool} (hb : Bls h s bs) : RdS h s 1 (bs.map .bool) := by
  have h1 := hb.rd
  have h2 := hb.len
  unfold RdS
  cases hp : s.p with
  | none => rw [hp] at h1; rw [h1.1] at h2 ⊢; exact ⟨h2, rfl⟩
  | some a => rw [hp] at h1; exact ⟨by simp [h2], h1⟩
theorem Bls.of_vec {h : Hp} {s : Sl} {bs : List Bool} {el : TypeId} (hv : Vec h s 1 el (bs.map .bool)) : Bls h s bs := by
  have hl := hv.len
  simp at hl
  refine ⟨hl.symm, hv.cap, ?_⟩
  have h1 := hv.rd
  cases hp : s.p with
  | none =>
    rw [hp] at h1
    exact ⟨List.length_eq_zero_iff.1 (by omega), h1.2⟩
  | some a =>
    rw [hp] at h1
    have := hv.rdl hp (i := 0) (vs := bs.map .bool) (fun j v hj => by simpa using hj)
    rw [add_zero'] at this
    exact this
theorem oneC_bools (l : List Bool) : oneC (l.map .bool) := oneC_map (fun _ => rfl) l

theorem Bls.kpo {F : Nat → Prop} {h h' : Hp} {s : Sl} {bs : List Bool} (hb : Bls h s bs) (hk : Kp F h h') (hn : ∀ a, s.p = some a → bs ≠ [] → ¬ F a.block) : Bls h' s bs := by
  by_cases he : bs = []
  · subst he
    refine ⟨hb.len, hb.cap, ?_⟩
    have h1 := hb.rd
    cases hp : s.p with
    | none => rw [hp] at h1; exact h1
    | some a => intro j v hj; simp at hj
  · exact hb.kp hk fun a ha => hn a ha he
theorem Bls.lt {h : Hp} {s : Sl} {bs : List Bool} (hb : Bls h s bs) (hne : bs ≠ []) {a : Addr} (ha : s.p = some a) : a.block < h.size := by
  have hl : 0 < bs.length := List.length_pos_iff.2 hne
  obtain ⟨a', ha', hr⟩ := hb.at hl
  rw [ha] at ha'; cases ha'
  have := rdc_lt hr
  rwa [add_block] at this
end Tw
