/- The program's disk on the heap, and what its calls do. No condition. -/
import Derived.Test.YthpeadoidpimmaaGDisk
import Derived.Test.YthpeadoidpimmaaDiskM
namespace Tw
open Go
set_option linter.unusedVariables false
set_option linter.unusedSimpArgs false

def encW (w : Wrt) : List Value := .int .i64 w.1 :: w.2.map bv
def encS (s : List UInt8) : List Value := s.map bv

theorem Bk.rdi {h : Hp} {b : Nat} {l : List Value} {t : TypeId} {v : Value} (hb : Bk h b l t) (i : Nat) (hv : l[i]? = some v) : rdc h ((nA b).add i) = some v := by
  rw [add_nA, Nat.zero_add]; exact hb.rd hv
theorem Bk.sti {h : Hp} {b : Nat} {l : List Value} {t : TypeId} (hb : Bk h b l t) (i : Nat) (v : Value) (hi : i < l.length) : StL h ((nA b).add i) [v] (setB h b (Cel (l.set i v) t)) := by
  rw [add_nA, Nat.zero_add, ← splice_one l i v hi]; exact hb.st (by simp; omega)
theorem Bk.st0 {h : Hp} {b : Nat} {l vs : List Value} {t : TypeId} (hb : Bk h b l t) (hl : vs.length = l.length) : StL h (nA b) vs (setB h b (Cel vs t)) := by
  have := hb.st (i := 0) (vs := vs) (by omega)
  have e : splice l 0 vs = vs := by simp [splice, hl]
  rwa [e] at this
theorem Bk.rd0 {h : Hp} {b : Nat} {l : List Value} {t : TypeId} (hb : Bk h b l t) : RdL h (nA b) l := RdL.of_bk hb fun j v hj => by simpa using hj

/-- The map of a sector's last write. -/
structure MapOK (mm : MM) (c : Nat) (p : List Wrt) : Prop where
  get : ∀ k, mget mm k = (lastI p k).map Int.ofNat
  old : ∀ x ∈ mm, x.2.2 < c
  nod : (mm.map fun x => x.2.2).Nodup
  key : (mm.map fun x => x.1).Nodup

theorem mget_set (mm : MM) (k v : Int) (c : Nat) (k' : Int) : mget (mset mm k v c) k' = if k' == k then some v else mget mm k' := by
  induction mm with
  | nil =>
    simp only [mset, mget, List.find?_cons, List.find?_nil]
    cases h : (k' == k) <;> simp
  | cons x r ih =>
    simp only [mset]
    cases hk : (k == x.1) with
    | true =>
      have hkx : k = x.1 := by simpa using hk
      simp only [if_true, mget, List.find?_cons]
      subst hkx
      cases h : (k' == x.1) <;> simp
    | false =>
      have hkx : k ≠ x.1 := by simpa using hk
      simp only [Bool.false_eq_true, if_false]
      simp only [mget, List.find?_cons] at ih ⊢
      cases h : (k' == x.1) with
      | true =>
        have : k' = x.1 := by simpa using h
        have : (k' == k) = false := by simp; omega
        simp [this]
      | false => exact ih

theorem mset_mem {mm : MM} {k v : Int} {c : Nat} {x : Int × Int × Nat} (hx : x ∈ mset mm k v c) : x.2.2 = c ∧ (mm.find? fun y => k == y.1).isSome = false ∨ ∃ y ∈ mm, x.2.2 = y.2.2 := by
  induction mm with
  | nil => simp [mset] at hx; subst hx; exact .inl ⟨rfl, by simp⟩
  | cons y r ih =>
    simp only [mset] at hx
    cases hk : (k == y.1) with
    | true =>
      rw [hk] at hx
      simp only [if_true] at hx
      rcases List.mem_cons.1 hx with rfl | hx
      · exact .inr ⟨y, by simp, rfl⟩
      · exact .inr ⟨x, by simp [hx], rfl⟩
    | false =>
      rw [hk] at hx
      simp only [Bool.false_eq_true, if_false] at hx
      rcases List.mem_cons.1 hx with rfl | hx
      · exact .inr ⟨x, by simp, rfl⟩
      · rcases ih hx with ⟨h1, h2⟩ | ⟨z, hz, h⟩
        · exact .inl ⟨h1, by simp [List.find?_cons, hk]; simpa using h2⟩
        · exact .inr ⟨z, by simp [hz], h⟩

theorem mset_key (mm : MM) (k v : Int) (c : Nat) : (mset mm k v c).map (fun x => x.1) = if (mm.find? fun y => k == y.1).isSome then mm.map (fun x => x.1) else mm.map (fun x => x.1) ++ [k] := by
  induction mm with
  | nil => simp [mset]
  | cons y r ih =>
    by_cases hk : (k == y.1) = true
    · have : k = y.1 := by simpa using hk
      simp [mset, List.find?_cons, this]
    · rw [Bool.not_eq_true] at hk
      simp only [mset, List.find?_cons, hk, Bool.false_eq_true, if_false, List.map_cons, ih]
      split <;> simp

theorem mset_born (mm : MM) (k v : Int) (c : Nat) : (mset mm k v c).map (fun x => x.2.2) = if (mm.find? fun y => k == y.1).isSome then mm.map (fun x => x.2.2) else mm.map (fun x => x.2.2) ++ [c] := by
  induction mm with
  | nil => simp [mset]
  | cons y r ih =>
    by_cases hk : (k == y.1) = true
    · simp [mset, List.find?_cons, hk]
    · rw [Bool.not_eq_true] at hk
      simp only [mset, List.find?_cons, hk, Bool.false_eq_true, if_false, List.map_cons, ih]
      split <;> simp

theorem MapOK.set {mm : MM} {c : Nat} {p : List Wrt} (hm : MapOK mm c p) (w : Wrt) : MapOK (mset mm w.1 (p.length : Int) c) (mclock mm w.1 c) (p ++ [w]) := by
  refine ⟨fun k => ?_, fun x hx => ?_, ?_, ?_⟩
  · rw [mget_set, lastI_snoc]
    split
    · rfl
    · exact hm.get k
  · have := mset_mem hx
    unfold mclock
    rcases this with ⟨h1, h2⟩ | ⟨y, hy, h⟩
    · rw [h2]; simp; omega
    · have := hm.old y hy
      split <;> omega
  · rw [mset_born]
    split
    · exact hm.nod
    · rw [List.nodup_append]
      refine ⟨hm.nod, by simp, ?_⟩
      intro a ha b hb he
      simp at hb; subst hb; subst he
      obtain ⟨x, hx, rfl⟩ := List.mem_map.1 ha
      exact absurd (hm.old x hx) (by omega)
  · rw [mset_key]
    split
    · exact hm.key
    · rename_i hn
      rw [List.nodup_append]
      refine ⟨hm.key, by simp, ?_⟩
      intro a ha b hb he
      simp at hb; subst hb; subst he
      obtain ⟨x, hx, hx1⟩ := List.mem_map.1 ha
      apply hn
      rw [List.find?_isSome]
      exact ⟨x, hx, by simp [hx1]⟩

theorem MapOK.nil (c : Nat) : MapOK [] c [] := ⟨fun k => rfl, by simp, by simp, by simp⟩

theorem mget_mem {mm : MM} {k v : Int} (h : mget mm k = some v) : ∃ b, (k, v, b) ∈ mm := by
  unfold mget at h
  rw [Option.map_eq_some_iff] at h
  obtain ⟨x, hx, rfl⟩ := h
  have h1 := List.find?_some hx
  have : k = x.1 := by simpa using h1
  subst this
  exact ⟨x.2.2, List.mem_of_find?_eq_some hx⟩
theorem mem_mget {mm : MM} (hk : (mm.map fun x => x.1).Nodup) {x : Int × Int × Nat} (hx : x ∈ mm) : mget mm x.1 = some x.2.1 := by
  induction mm with
  | nil => cases hx
  | cons y r ih =>
    simp only [List.map_cons, List.nodup_cons] at hk
    unfold mget
    rw [List.find?_cons]
    rcases List.mem_cons.1 hx with rfl | hx
    · simp
    · have hne : (x.1 == y.1) = false := by
        simp
        intro he
        exact hk.1 (List.mem_map.2 ⟨x, hx, he⟩)
      rw [hne]
      exact ih hk.2 hx

def stC (bl r : Nat) (sp : Sl) (m : Md) : List Value :=
  [.slice (some (nA bl)) m.laid.length m.laid.length, sp.v, .map (some r), .int .i64 m.fuse, .bool m.down, .int .i64 m.writes, .int .i64 m.flushes]

/-- The disk in its blocks. -/
structure PDi (h : Hp) (b bl r : Nat) (sp : Sl) (m : Md) (F : Nat → Prop) : Prop where
  st : Bk h b (stC bl r sp m) 141
  laid : Bk h bl (m.laid.flatMap encS) 143
  pend : Vec h sp 129 145 (m.pend.flatMap encW)
  map : ∃ mm c, Mp h r mm c ∧ MapOK mm c m.pend
  wf : m.Wf
  n1 : b ≠ bl
  n2 : b ≠ r
  n3 : bl ≠ r
  n4 : ¬ sp.blk b
  n5 : ¬ sp.blk bl
  n6 : ¬ sp.blk r
  fb : F b
  fl : F bl
  fr : F r
  fs : ∀ x, sp.blk x → F x

theorem Mp.kp {F : Nat → Prop} {h h' : Hp} {r c : Nat} {mm : MM} (hm : Mp h r mm c) (hk : Kp F h h') (hn : ¬ F r) : Mp h' r mm c :=
  (hk.old r (Array.getElem?_eq_some_iff.1 hm).1 hn).trans hm
theorem Mp.lt {h : Hp} {r c : Nat} {mm : MM} (hm : Mp h r mm c) : r < h.size := (Array.getElem?_eq_some_iff.1 hm).1

theorem PDi.rlt {h : Hp} {b bl r : Nat} {sp : Sl} {m : Md} {F : Nat → Prop} (p : PDi h b bl r sp m F) : r < h.size := by
  obtain ⟨mm, c, hm, _⟩ := p.map; exact hm.lt

/-- What others do leaves it. -/
theorem PDi.kp {h h' : Hp} {b bl r : Nat} {sp : Sl} {m : Md} {F G : Nat → Prop} (p : PDi h b bl r sp m F) (hk : Kp G h h') (hd : ∀ x, x < h.size → F x → ¬ G x) :
    PDi h' b bl r sp m (fun x => F x ∧ x < h.size) := by
  obtain ⟨mm, c, hm, ho⟩ := p.map
  exact ⟨p.st.kp hk (hd _ p.st.lt p.fb), p.laid.kp hk (hd _ p.laid.lt p.fl), p.pend.kp hk (fun x hx => hd _ (p.pend.lt hx) (p.fs x hx)), ⟨mm, c, hm.kp hk (hd _ hm.lt p.fr), ho⟩, p.wf, p.n1, p.n2, p.n3, p.n4, p.n5, p.n6,
    ⟨p.fb, p.st.lt⟩, ⟨p.fl, p.laid.lt⟩, ⟨p.fr, hm.lt⟩, fun x hx => ⟨p.fs x hx, p.pend.lt hx⟩⟩
theorem PDi.mono {h : Hp} {b bl r : Nat} {sp : Sl} {m : Md} {F G : Nat → Prop} (p : PDi h b bl r sp m F) (hg : ∀ x, x < h.size → F x → G x) : PDi h b bl r sp m G :=
  ⟨p.st, p.laid, p.pend, p.map, p.wf, p.n1, p.n2, p.n3, p.n4, p.n5, p.n6, hg _ p.st.lt p.fb, hg _ p.laid.lt p.fl, hg _ p.rlt p.fr, fun x hx => hg _ (p.pend.lt hx) (p.fs x hx)⟩

/-- The head is written anew. -/
theorem PDi.head {h : Hp} {b bl r : Nat} {sp : Sl} {m m' : Md} {F : Nat → Prop} (p : PDi h b bl r sp m F) (h1 : m'.laid = m.laid) (h2 : m'.pend = m.pend) :
    PDi (setB h b (Cel (stC bl r sp m') 141)) b bl r sp m' F ∧ Kp (fun x => x = b) h (setB h b (Cel (stC bl r sp m') 141)) := by
  have hk : Kp (fun x => x = b) h (setB h b (Cel (stC bl r sp m') 141)) := Kp.set (Kp.refl _ _) _ (.inr rfl)
  obtain ⟨mm, c, hm, ho⟩ := p.map
  refine ⟨⟨p.st.set, ?_, ?_, ⟨mm, c, hm.kp hk (fun e => p.n2 e.symm), by rw [h2]; exact ho⟩, p.wf.of h1 h2, p.n1, p.n2, p.n3, p.n4, p.n5, p.n6, p.fb, p.fl, p.fr, p.fs⟩, hk⟩
  · rw [h1]; exact p.laid.kp hk (fun e => p.n1 e.symm)
  · rw [h2]; exact p.pend.kp hk (fun x hx e => by subst e; exact p.n4 hx)

def PD (h : Hp) (d : Option Addr) (m : Md) (F : Nat → Prop) : Prop := ∃ b bl r sp, d = some (nA b) ∧ PDi h b bl r sp m F

theorem PD.kp {h h' : Hp} {d : Option Addr} {m : Md} {F G : Nat → Prop} (p : PD h d m F) (hk : Kp G h h') (hd : ∀ x, x < h.size → F x → ¬ G x) : PD h' d m (fun x => F x ∧ x < h.size) := by
  obtain ⟨b, bl, r, sp, e, p⟩ := p
  exact ⟨b, bl, r, sp, e, p.kp hk hd⟩
theorem PD.mono {h : Hp} {d : Option Addr} {m : Md} {F G : Nat → Prop} (p : PD h d m F) (hg : ∀ x, x < h.size → F x → G x) : PD h d m G := by
  obtain ⟨b, bl, r, sp, e, p⟩ := p
  exact ⟨b, bl, r, sp, e, p.mono hg⟩
theorem PD.wf {h : Hp} {d : Option Addr} {m : Md} {F : Nat → Prop} (p : PD h d m F) : m.Wf := by
  obtain ⟨b, bl, r, sp, e, p⟩ := p
  exact p.wf
theorem PD.ne {h : Hp} {d : Option Addr} {m : Md} {F : Nat → Prop} (p : PD h d m F) : d.isNone = false := by
  obtain ⟨b, bl, r, sp, rfl, p⟩ := p
  rfl
end Tw
