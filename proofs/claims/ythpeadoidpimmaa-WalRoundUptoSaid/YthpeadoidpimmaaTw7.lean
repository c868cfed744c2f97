/- The steps in the form in which a program prints them. No condition. -/
import Derived.Test.YthpeadoidpimmaaTw6
namespace Tw
open Go
set_option linter.unusedVariables false

abbrev Cel (l : List Value) (t : TypeId) : Obj := .cells l.toArray t (0, 0)

theorem uI {P : Program} {t : TypeId} {k : IntKind} (h : intO P t = some k) : ∃ d, P.underlying t = some d := ⟨_, intO_spec h⟩

/-- The arguments' slots. -/
def aE : Nat → List Value → Env
  | _, [] => []
  | i, v :: r => (i, v) :: aE (i + 1) r

theorem aE_get : ∀ (l : List Value) (i j : Nat) (v : Value), lk (aE i l) j = some v → i ≤ j ∧ l[j - i]? = some v
  | [], i, j, v, h => by simp [aE, lk] at h
  | x :: r, i, j, v, h => by
    simp only [aE, lk] at h
    cases hb : Nat.beq i j with
    | true =>
      rw [hb] at h
      have := Nat.eq_of_beq_eq_true hb
      subst this
      simpa using h
    | false =>
      rw [hb] at h
      obtain ⟨h1, h2⟩ := aE_get r (i + 1) j v h
      refine ⟨by omega, ?_⟩
      have : j - i = (j - (i + 1)) + 1 := by omega
      rw [this, List.getElem?_cons_succ]
      exact h2

theorem aE_spec (l : List Value) : ∀ j v, lk (aE 0 l) j = some v → j < l.toArray.size ∧ l.toArray.getD j undef = v := by
  intro j v h
  obtain ⟨_, h2⟩ := aE_get l 0 j v h
  simp only [Nat.sub_zero] at h2
  have hlt := (List.getElem?_eq_some_iff.1 h2).1
  exact ⟨by simpa using hlt, by simp [h2]⟩

theorem oneC.n : oneC [] := by intro v hv; cases hv
theorem oneC.c {v : Value} {l : List Value} (h : v.oneCell' = true) (hl : oneC l) : oneC (v :: l) := by
  intro u hu; rcases List.mem_cons.1 hu with rfl | hu
  · exact h
  · exact hl u hu
theorem oneC.b {bs : List UInt8} : oneC (bs.map bv) := by intro v hv; obtain ⟨x, _, rfl⟩ := List.mem_map.1 hv; rfl

section list
variable {P : Program} {N : Nat} {ops : Array Oper} {Q : Exit → Act → World → Prop} {o : Oper} {l : List Oper} {e : Env} {W : World} {h : Hp}
theorem WPL.f {v : Value} {h1 : Hp} (ht : Tk ops N o e) (ho : Eff P N o e W h v h1) (hd : inF N o.dst = true) (hk : WPL P N ops Q l (pt e o.dst v) W h1) : WPL P N ops Q (o :: l) e W h :=
  WPL.eff ht ho hd fun _ _ ⟨h1, h2⟩ => by subst h1; subst h2; exact hk
end list

section plan
variable {P : Program} {N : Nat} {ops : Array Oper} {Q : Exit → Act → World → Prop} {W : World} {anc : Nat → Nat → Bool} {o : Oper} {S S' : List (Nat × Value)} {e : Env} {h : Hp} {i j : Nat} {r r' : Plan}
theorem PL.pp {v : Value} (ho : ops[i]? = some o) (hd : inF N o.dst = true) (ht : Tk ops N o e) (hy : ∀ h, Yq P N o e h v) (hr : PL P N ops Q W anc r S (pt e o.dst v) h) : PL P N ops Q W anc (.p i r) S e h :=
  ⟨o, v, ho, hd, fun h => .inl ⟨ht, hy h⟩, hr⟩
theorem PL.ps (ho : ops[i]? = some o) (hd : inF N o.dst = true) (ht : Ntk ops N o e) (hr : PL P N ops Q W anc r S (pt e o.dst undef) h) : PL P N ops Q W anc (.p i r) S e h :=
  ⟨o, undef, ho, hd, fun h => .inr ⟨ht, rfl⟩, hr⟩
theorem PL.qq {v : Value} (ho : ops[i]? = some o) (hd : inF N o.dst = true) (ht : Tk ops N o e) (hy : Yq P N o e h v) (hr : PL P N ops Q W anc r ((i, v) :: S) (pt e o.dst v) h) : PL P N ops Q W anc (.q i r) S e h :=
  ⟨o, v, ho, hd, .inl ⟨ht, hy⟩, hr⟩
theorem PL.qs (ho : ops[i]? = some o) (hd : inF N o.dst = true) (ht : Ntk ops N o e) (hr : PL P N ops Q W anc r ((i, undef) :: S) (pt e o.dst undef) h) : PL P N ops Q W anc (.q i r) S e h :=
  ⟨o, undef, ho, hd, .inr ⟨ht, rfl⟩, hr⟩
theorem PL.ff {v : Value} {h1 : Hp} (hS : upd anc S i = S') (ho : ops[i]? = some o) (hd : inF N o.dst = true) (ht : Tk ops N o e) (he : Eff P N o e W h v h1) (hst : Stay P N ops anc i (pt e o.dst v) h1 S)
    (hr : PL P N ops Q W anc r S' (pt e o.dst v) h1) : PL P N ops Q W anc (.e1 i r) S e h := by
  subst hS
  exact ⟨o, _, ho, hd, .inl ⟨ht, he⟩, fun _ _ ⟨h1, h2⟩ => by subst h1; subst h2; exact ⟨hst, hr⟩⟩
theorem PL.ee {post : Value → Hp → Prop} (hS : upd anc S i = S') (ho : ops[i]? = some o) (hd : inF N o.dst = true) (ht : Tk ops N o e) (he : OpOk P N o e W h post)
    (hr : ∀ v h', post v h' → Stay P N ops anc i (pt e o.dst v) h' S ∧ PL P N ops Q W anc r S' (pt e o.dst v) h') : PL P N ops Q W anc (.e1 i r) S e h := by
  subst hS
  exact ⟨o, post, ho, hd, .inl ⟨ht, he⟩, hr⟩
theorem PL.es (hS : upd anc S i = S') (ho : ops[i]? = some o) (hd : inF N o.dst = true) (ht : Ntk ops N o e) (hst : Stay P N ops anc i (pt e o.dst undef) h S)
    (hr : PL P N ops Q W anc r S' (pt e o.dst undef) h) : PL P N ops Q W anc (.e1 i r) S e h := by
  subst hS
  exact ⟨o, (fun v h' => v = undef ∧ h' = h), ho, hd, .inr ⟨ht, rfl, rfl⟩, fun _ _ ⟨h1, h2⟩ => by subst h1; subst h2; exact ⟨hst, hr⟩⟩
theorem PL.two (ha : PL P N ops Q W anc (.e1 i r) S e h) (hb : PL P N ops Q W anc (.e1 j r') S e h) : PL P N ops Q W anc (.e2 i r j r') S e h := ⟨ha, hb⟩

theorem Stay.n : Stay P N ops anc j e h [] := trivial
theorem Stay.t {x : Nat × Value} (ha : anc j x.1 = true) (hr : Stay P N ops anc j e h S) : Stay P N ops anc j e h (x :: S) := ⟨by rw [ha]; trivial, hr⟩
theorem Stay.y {x : Nat × Value} {o : Oper} (ha : anc j x.1 = false) (ho : ops[x.1]? = some o) (ht : Tk ops N o e) (hy : Yq P N o e h x.2) (hr : Stay P N ops anc j e h S) : Stay P N ops anc j e h (x :: S) :=
  ⟨by rw [ha]; exact ⟨o, ho, .inl ⟨ht, hy⟩⟩, hr⟩
theorem Stay.s {k : Nat} {o : Oper} (ha : anc j k = false) (ho : ops[k]? = some o) (ht : Ntk ops N o e) (hr : Stay P N ops anc j e h S) : Stay P N ops anc j e h ((k, undef) :: S) :=
  ⟨by rw [ha]; exact ⟨o, ho, .inr ⟨ht, rfl⟩⟩, hr⟩
end plan

section ops
variable {P : Program} {N : Nat} {d : Option Tmp} {t : TypeId} {p : String} {af : Array Edge} {g : Option (Nat × Bool)} {e : Env} {W : World} {h h1 : Hp} {b : Nat}

theorem alN {ty : TypeId} {z : List Value} (hz : zeroO P ty = some z) (hb : b = h.size) (hh : h1 = h.push (Cel z ty)) : Eff P N ⟨d, .alloc ty, t, p, af, g⟩ e W h (.pointer (some ⟨b, 0, none⟩)) h1 := by
  subst hb; subst hh; exact al hz
theorem bxN {ty : TypeId} {x : Operand} {v : Value} {l : List Value} (hx : ev e x = some v) (hl : v.cells = l.toArray) (hb : b = h.size) (hh : h1 = h.push (Cel l ty)) :
    Eff P N ⟨d, .box ty x, t, p, af, g⟩ e W h (.pointer (some ⟨b, 0, none⟩)) h1 := by
  subst hb; subst hh; exact bx hx hl
theorem bslN {ty el : TypeId} {n : Nat} {ps : List (Nat × Operand)} {vs : List (Nat × Value)} {l : List Value} {s : Sl} (hp : evP e ps = some vs) (hl : bslO P ty n vs = some (el, l)) (hb : b = h.size)
    (hh : h1 = h.push (Cel l el)) (hs : s = ⟨some ⟨b, 0, none⟩, n, n⟩) : Eff P N ⟨d, .buildSlice ty n ps.toArray, t, p, af, g⟩ e W h s.v h1 := by
  subst hb; subst hh; subst hs; exact bsl hp hl
theorem bsl0N {ty el : TypeId} {n bb : Nat} {s : Sl} (ht : sliceO P ty = some (el, n, bb)) (hb : b = h.size) (hh : h1 = h.push (Cel [] el)) (hs : s = ⟨some ⟨b, 0, none⟩, 0, 0⟩) :
    Eff P N ⟨d, .buildSlice ty 0 #[], t, p, af, g⟩ e W h s.v h1 := by
  subst hb; subst hh; subst hs
  refine eff_of fun a w hf hw => ?_
  subst hw
  obtain ⟨i, hd, hi, hin, hib⟩ := sliceO_spec ht
  have h0 : Array.range 0 = #[] := rfl
  refine ⟨w.alloc (.cells #[] el (0, 0)), ?_, rfl, ⟨rfl, rfl, rfl⟩⟩
  simp [execOp, Instr.buildSlice, run_und hd, run_size hi, Instr.fill, newRow, h0]
theorem bsl1N {ty el : TypeId} {n bb : Nat} {x : Operand} {v : Value} {l z : List Value} {s : Sl} (ht : sliceO P ty = some (el, n, bb)) (hz : zeroO P el = some z) (hx : ev e x = some v)
    (hl : v.cells = l.toArray) (hll : l.length = n) (hnn : (0 < n ∧ n ≤ 16777216) ∧ z.length = n) (hb : b = h.size) (hh : h1 = h.push (Cel l el)) (hs : s = ⟨some ⟨b, 0, none⟩, 1, 1⟩) :
    Eff P N ⟨d, .buildSlice ty 1 #[(0, x)], t, p, af, g⟩ e W h s.v h1 := by
  subst hb; subst hh; subst hs; exact bsl1 ht hz hnn.1.1 hnn.1.2 hx hl hll hnn.2
theorem mksN {st el : TypeId} {n bb : Nat} {x y : Operand} {k k' : IntKind} {l c : Int} {z : List Value} {s : Sl} (ht : sliceO P st = some (el, n, bb)) (hz : zeroO P el = some z) (hbb : bb ≠ 0)
    (hx : ev e x = some (.int k l)) (hy : ev e y = some (.int k' c)) (h0 : 0 ≤ l) (h1' : l ≤ c) (h2 : c * bb ≤ 281474976710656) (hb : b = h.size) (hh : h1 = h.push (Cel (zr z (c.toNat * n)) el))
    (hs : s = ⟨some ⟨b, 0, none⟩, l.toNat, c.toNat⟩) : Eff P N ⟨d, .makeSlice st x y, t, p, af, g⟩ e W h s.v h1 := by
  subst hb; subst hh; subst hs; exact mks ht hz hbb hx hy h0 h1' h2
theorem mkMN {mt : TypeId} (hb : b = h.size) (hh : h1 = h.push (.map #[] 0)) : Eff P N ⟨d, .makeMap mt none, t, p, af, g⟩ e W h (.map (some b)) h1 := by
  subst hb; subst hh; exact mkM
theorem rgMN {mt : TypeId} {x : Operand} {q : Option Nat} {r : Nat} {m : MM} {c : Nat} (ht : mapO P mt = true) (hx : ev e x = some (.map q)) (hq : q = some r) (hm : Mp h r m c) (hb : b = h.size)
    (hh : h1 = h.push (.mapIter (some r) c #[] c)) : Eff P N ⟨d, .range mt x, t, p, af, g⟩ e W h (.pointer (some ⟨b, 0, none⟩)) h1 := by
  subst hb; subst hh; subst hq; exact rgM ht hx hm
theorem lkMN {mt : TypeId} {x y : Operand} {q : Option Nat} {r : Nat} {m : MM} {c : Nat} {k v : Int} {ok : Bool} (ht : mapO P mt = true) (hx : ev e x = some (.map q)) (hy : ev e y = some (.int .i64 k)) (hq : q = some r)
    (hm : Mp h r m c) (hv : v = (mget m k).getD 0) (hok : ok = (mget m k).isSome) : Yq P N ⟨d, .lookup mt x y true, t, p, af, g⟩ e h (.tuple #[.int .i64 v, .bool ok]) := by
  subst hq; subst hv; subst hok; exact lkM ht hx hy hm
theorem upMN {mt : TypeId} {x y z : Operand} {q : Option Nat} {r : Nat} {m : MM} {c : Nat} {k v : Int} (ht : mapO P mt = true) (hx : ev e x = some (.map q)) (hy : ev e y = some (.int .i64 k)) (hz : ev e z = some (.int .i64 v))
    (hq : q = some r) (hm : Mp h r m c) (hh : h1 = setB h r (.map ((mset m k v c).map mE).toArray (mclock m k c))) : Eff P N ⟨d, .mapUpdate mt x y z, t, p, af, g⟩ e W h undef h1 := by
  subst hh; subst hq; exact upM ht hx hy hz hm
theorem clMN {mt : TypeId} {x : Operand} {q : Option Nat} {r : Nat} {m : MM} {c : Nat} (ht : mapO P mt = true) (hx : ev e x = some (.map q)) (hq : q = some r) (hm : Mp h r m c) (hh : h1 = setB h r (.map #[] c)) :
    Eff P N ⟨d, .call ⟨.builtin .clear, #[x], #[mt]⟩, t, p, af, g⟩ e W h (.tuple #[]) h1 := by
  subst hh; subst hq; exact clM (rt := 0) ht hx hm
theorem cpyN {st rt el : TypeId} {n bb : Nat} {x y : Operand} {s u : Sl} {l : List Value} {r : Int} (ht : sliceO P st = some (el, n, bb)) (hx : ev e x = some s.v) (hy : ev e y = some u.v)
    (hl : RdS h ⟨u.p, Nat.min u.len s.len, u.cap⟩ n l) (ho : oneC l) (hs : StS h s.p 0 l h1) (hr : r = (Nat.min u.len s.len : Nat)) :
    Eff P N ⟨d, .call ⟨.builtin .copy, #[x, y], #[st, rt]⟩, t, p, af, g⟩ e W h (.int .i64 r) h1 := by
  subst hr; exact cpy ht hx hy hl ho hs
theorem cpyTN {st rt el : TypeId} {bb : Nat} {x y : Operand} {s : Sl} {u : ByteArray} {r : Int} (ht : sliceO P st = some (el, 1, bb)) (hx : ev e x = some s.v) (hy : ev e y = some (.string u))
    (hs : StS h s.p 0 ((u.data.toList.take (Nat.min u.size s.len)).map bv) h1) (hr : r = (Nat.min u.size s.len : Nat)) :
    Eff P N ⟨d, .call ⟨.builtin .copy, #[x, y], #[st, rt]⟩, t, p, af, g⟩ e W h (.int .i64 r) h1 := by
  subst hr; exact cpyT ht hx hy hs
theorem slcAN {st : TypeId} {x : Operand} {lo hi : Option Operand} {el : TypeId} {len n : Nat} {A : Addr} {l r : Option Int} {s : Sl} (ht : arrO P st = some (len, el, n)) (hx : ev e x = some (.pointer (some A)))
    (hlo : evO e lo = some (oI l)) (hhi : evO e hi = some (oI r)) (h0 : 0 ≤ l.getD 0) (h1 : l.getD 0 ≤ r.getD (len : Int)) (h2 : r.getD (len : Int) ≤ (len : Int))
    (hs : s = slA A len n (l.getD 0).toNat (r.getD (len : Int)).toNat) : Yq P N ⟨d, .slice st x lo hi none, t, p, af, g⟩ e h s.v := by
  subst hs; exact slcA ht hx hlo hhi h0 h1 h2
theorem slcSN {st : TypeId} {x : Operand} {lo hi : Option Operand} {el : TypeId} {n bb : Nat} {s u : Sl} {l r : Option Int} (ht : sliceO P st = some (el, n, bb)) (hx : ev e x = some s.v)
    (hlo : evO e lo = some (oI l)) (hhi : evO e hi = some (oI r)) (h0 : 0 ≤ l.getD 0) (h1 : l.getD 0 ≤ r.getD (s.len : Int)) (h2 : r.getD (s.len : Int) ≤ (s.cap : Int))
    (hs : u = slS s n (l.getD 0).toNat (r.getD (s.len : Int)).toNat) : Yq P N ⟨d, .slice st x lo hi none, t, p, af, g⟩ e h u.v := by
  subst hs; exact slcS ht hx hlo hhi h0 h1 h2
theorem ixTN {st : TypeId} {x y : Operand} {s : ByteArray} {k : IntKind} {i r : Int} (ht : P.underlying st = some .string) (hx : ev e x = some (.string s))
    (hy : ev e y = some (.int k i)) (h0 : 0 ≤ i) (h1 : ∃ b : UInt8, s[i.toNat]? = some b ∧ r = (b.toNat : Int)) : Yq P N ⟨d, .index st x y, t, p, af, g⟩ e h (.int .u8 r) := by
  obtain ⟨b, hb, rfl⟩ := h1; exact ixT ht hx hy h0 hb
end ops
end Tw
