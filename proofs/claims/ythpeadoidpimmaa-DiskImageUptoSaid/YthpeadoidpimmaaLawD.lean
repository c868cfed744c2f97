/- The statements' own helpers on disks: what they do. No condition. -/
import Derived.Test.YthpeadoidpimmaaGLawA
import Derived.Test.YthpeadoidpimmaaDiskR
namespace Go.Proofs.Ythpeadoidpimmaa
open Go Tw
set_option linter.unusedVariables false
set_option linter.unusedSimpArgs false
set_option maxRecDepth 10000

section
variable {h : Hp}

theorem law2_same_c {a b : Sl} {x : List UInt8} {K : Bool → Hp → Prop} (ha : Byt h a x) (hb : Byt h b x) (hl : x.length < 9223372036854775807) (hK : K true h) : law2_same a b K h := by
  have h1 := ha.len
  have h2 := hb.len
  refine dcn (fun hn => by omega) (fun _ => ⟨fun k i h' => ∃ j : Nat, i = j ∧ j ≤ x.length ∧ k = x.length - j ∧ h' = h, ⟨_, 0, rfl, by omega, rfl, rfl⟩, ?_⟩)
  rintro k i h' ⟨j, rfl, hj, rfl, rfl⟩
  refine dcd (fun hlt => ?_) (fun _ => hK)
  have hlt' : j < x.length := by omega
  obtain ⟨p, hp, hr⟩ := ha.at hlt'
  obtain ⟨q, hq, hs⟩ := hb.at hlt'
  refine ⟨p, hp, by omega, by omega, (x[j].toNat : Int), ?_, q, hq, by omega, by omega, (x[j].toNat : Int), ?_, dcn (fun hn => (hn rfl).elim) (fun _ => ?_)⟩
  · rw [Nat.mul_one, Int.toNat_natCast]; exact hr
  · rw [Nat.mul_one, Int.toNat_natCast]; exact hs
  · exact ⟨_, Wr.i64 (by omega) (by omega), x.length - (j + 1), by omega, j + 1, by omega, by omega, rfl, rfl⟩

theorem wls_at {s : Sl} {l : List (Wrt × Sl)} {G : Nat → Prop} (w : WLs h s l G) {i : Nat} (hi : i < l.length) : ∃ a, s.p = some a ∧ rdc h ((a.add (i * 2)).add 0) = some (.int .i64 l[i].1.1) ∧ rdc h ((a.add (i * 2)).add 1) = some (l[i].2.v) := by
  obtain ⟨a, ha⟩ := w.vec.ptr (by rw [w.len]; omega)
  have hq : l[i]? = some l[i] := by simp [hi]
  have hr : RdL h (a.add (i * 2)) [.int .i64 l[i].1.1, l[i].2.v] := w.vec.rdl ha fun j v hj => flat_get (fun x : Wrt × Sl => [.int .i64 x.1.1, x.2.v]) 2 l (fun _ _ => rfl) i _ hq j v hj
  exact ⟨a, ha, hr 0 _ rfl, hr 1 _ rfl⟩

theorem law2_writes_c {a b : Sl} {l1 l2 : List (Wrt × Sl)} {G1 G2 : Nat → Prop} {K : Bool → Hp → Prop} (ha : WLs h a l1 G1) (hb : WLs h b l2 G2) (he : l1.map (·.1) = l2.map (·.1)) (hl : l1.length < 9223372036854775807)
    (hd : ∀ x ∈ l1, x.1.2.length < 9223372036854775807) (hK : K true h) : law2_writes a b K h := by
  have h1 := ha.len
  have h2 := hb.len
  have hll : l1.length = l2.length := by have := congrArg List.length he; simpa using this
  refine dcn (fun hn => by omega) (fun _ => ⟨fun k i h' => ∃ j : Nat, i = j ∧ j ≤ l1.length ∧ k = l1.length - j ∧ h' = h, ⟨_, 0, rfl, by omega, rfl, rfl⟩, ?_⟩)
  rintro k i h' ⟨j, rfl, hj, rfl, rfl⟩
  refine dcd (fun hlt => ?_) (fun _ => hK)
  have hlt1 : j < l1.length := by omega
  have hlt2 : j < l2.length := by omega
  obtain ⟨p, hp, hp0, hp1⟩ := wls_at ha hlt1
  obtain ⟨q, hq, hq0, hq1⟩ := wls_at hb hlt2
  have heq : l1[j].1 = l2[j].1 := by
    have : (l1.map (·.1))[j]? = (l2.map (·.1))[j]? := by rw [he]
    simpa [hlt1, hlt2] using this
  have hm1 : l1[j] ∈ l1 := List.getElem_mem hlt1
  have hm2 : l2[j] ∈ l2 := List.getElem_mem hlt2
  refine ⟨p, hp, by omega, by omega, l1[j].2, by rw [Int.toNat_natCast]; exact hp1, q, hq, by omega, by omega, l2[j].2, by rw [Int.toNat_natCast]; exact hq1, ?_⟩
  refine law2_same_c (Byt.of_vec (ha.dat _ hm1)) (by rw [heq]; exact Byt.of_vec (hb.dat _ hm2)) (hd _ hm1) ?_
  refine ⟨fun bb h2 => bb = false ∧ h2 = h', ?_, by omega, by omega, l1[j].1.1, by rw [Int.toNat_natCast]; exact hp0, by omega, by omega, l2[j].1.1, by rw [Int.toNat_natCast]; exact hq0, dcn (fun hn => (hn (by rw [heq])).elim) (fun _ => ⟨rfl, rfl⟩)⟩
  rintro bb h2 ⟨rfl, rfl⟩
  exact ⟨fun h => (nomatch h), fun _ => ⟨_, Wr.i64 (by omega) (by omega), l1.length - (j + 1), by omega, j + 1, by omega, by omega, rfl, rfl⟩⟩
end

/-! ### Owners -/
/-- What is new belongs to i. -/
def Gro (o : Nat → Nat) (i : Nat) (h : Hp) : Nat → Nat := fun x => if x < h.size then o x else i

def PDo (h : Hp) (p : Option Addr) : Option Md → (Nat → Prop) → Prop
  | none, _ => p = none
  | some m, F => PD h p m F
def RDo (h : Hp) (p : Option Addr) : Option Md → (Nat → Prop) → Prop
  | none, _ => p = none
  | some m, F => ∃ b bl sw l, p = some (nA b) ∧ RDi h b bl sw l m F

theorem PDo.other {h h' : Hp} {p : Option Addr} {m : Option Md} {o : Nat → Nat} {j i : Nat} {G : Nat → Prop} (d : PDo h p m (fun x => o x = j)) (hk : Kp G h h') (hG : ∀ x, o x = j → ¬ G x) : PDo h' p m (fun x => Gro o i h x = j) := by
  cases m with
  | none => exact d
  | some m => exact (PD.kp d hk fun x _ => hG x).mono fun x _ hx => by simp [Gro, hx.2, hx.1]
theorem PDo.self {h h' : Hp} {p : Option Addr} {m : Option Md} {o : Nat → Nat} {i : Nat} (d : PDo h' p m (fun x => o x = i ∨ h.size ≤ x)) : PDo h' p m (fun x => Gro o i h x = i) := by
  cases m with
  | none => exact d
  | some m => exact PD.mono d fun x _ hx => by unfold Gro; split <;> first | rfl | (rcases hx with h1 | h1 <;> first | exact h1 | omega)
theorem RDo.other {h h' : Hp} {p : Option Addr} {m : Option Md} {o : Nat → Nat} {j i : Nat} {G : Nat → Prop} (d : RDo h p m (fun x => o x = j)) (hk : Kp G h h') (hG : ∀ x, o x = j → ¬ G x) : RDo h' p m (fun x => Gro o i h x = j) := by
  cases m with
  | none => exact d
  | some m =>
    obtain ⟨b, bl, sw, l, e, d⟩ := d
    exact ⟨b, bl, sw, l, e, (d.kp hk fun x _ => hG x).mono fun x _ hx => by simp [Gro, hx.2, hx.1]⟩
theorem RDo.self {h h' : Hp} {p : Option Addr} {m : Option Md} {o : Nat → Nat} {i : Nat} (d : RDo h' p m (fun x => o x = i ∨ h.size ≤ x)) : RDo h' p m (fun x => Gro o i h x = i) := by
  cases m with
  | none => exact d
  | some m =>
    obtain ⟨b, bl, sw, l, e, d⟩ := d
    exact ⟨b, bl, sw, l, e, d.mono fun x _ hx => by unfold Gro; split <;> first | rfl | (rcases hx with h1 | h1 <;> first | exact h1 | omega)⟩
theorem PDo.iff {h : Hp} {p : Option Addr} {m : Option Md} {F : Nat → Prop} (d : PDo h p m F) : p.isNone = m.isNone := by
  cases m with
  | none => cases d; rfl
  | some m => exact PD.ne d
theorem RDo.iff {h : Hp} {p : Option Addr} {m : Option Md} {F : Nat → Prop} (d : RDo h p m F) : p.isNone = m.isNone := by
  cases m with
  | none => cases d; rfl
  | some m => obtain ⟨b, bl, sw, l, rfl, d⟩ := d; rfl

/-- Two disks of the program, two of the document. -/
structure TwoR (h : Hp) (t : Nat) (P R : Nat → Option Addr) (M N : Nat → Option Md) (o : Nat → Nat) : Prop where
  st : Bk h t [.pointer (P 0), .pointer (P 1), .pointer (R 0), .pointer (R 1)] 74
  ow : o t = 6
  d : ∀ w, w < 2 → PDo h (P w) (M w) (fun x => o x = w + 1)
  e : ∀ w, w < 2 → RDo h (R w) (N w) (fun x => o x = w + 3)

def upd {α : Type} (f : Nat → α) (w : Nat) (v : α) : Nat → α := fun i => if i = w then v else f i

theorem upd_self {α : Type} (f : Nat → α) (w : Nat) : upd f w (f w) = f := by
  funext i; unfold upd; split
  · subst_vars; rfl
  · rfl

/-- What stays of the owners: the old ones. -/
structure Ok (n0 : Nat) (h0 h : Hp) (o : Nat → Nat) : Prop where
  le : n0 ≤ h.size
  own : ∀ x, x < n0 → o x = 0
  kp : Kp (fun _ => False) h0 h
  eq : h0.size = n0

theorem Ok.go {n0 : Nat} {h0 h h' : Hp} {o : Nat → Nat} {G : Nat → Prop} (k : Ok n0 h0 h o) (i : Nat) (hk : Kp G h h') (hG : ∀ x, G x → o x ≠ 0) : Ok n0 h0 h' (Gro o i h) := by
  refine ⟨Nat.le_trans k.le hk.size, fun x hx => ?_, k.kp.and hk fun x hx => .inl ?_, k.eq⟩
  · have := k.le
    simp [Gro, show x < h.size by omega, k.own x hx]
  · rw [k.eq]
    rcases Nat.lt_or_ge x n0 with h1 | h1
    · exact absurd (k.own x h1) (hG x hx)
    · exact h1

section
variable {h h' : Hp} {t : Nat} {P R : Nat → Option Addr} {M N : Nat → Option Md} {o : Nat → Nat}

/-- What belongs to nobody is kept. -/
theorem TwoR.keep {G : Nat → Prop} (i : Nat) (s : TwoR h t P R M N o) (hk : Kp G h h') (hG : ∀ x, o x ≠ 0 → ¬ G x) : TwoR h' t P R M N (Gro o i h) := by
  refine ⟨s.st.kp hk (hG _ (by rw [s.ow]; omega)), ?_, fun w hw => (s.d w hw).other hk fun x hx => hG x (by omega), fun w hw => (s.e w hw).other hk fun x hx => hG x (by omega)⟩
  have := s.st.lt
  simp [Gro, this, s.ow]
theorem TwoR.same (s : TwoR h t P R M N o) (hk : Kp (fun _ => False) h h') : TwoR h' t P R M N (Gro o 5 h) := s.keep 5 hk fun _ _ h => h

/-- One disk of the program goes on. -/
theorem TwoR.prog {w : Nat} {m' : Md} (s : TwoR h t P R M N o) (hw : w < 2) (hk : Kp (fun x => o x = w + 1) h h') (hd : PD h' (P w) m' (fun x => o x = w + 1 ∨ h.size ≤ x)) :
    TwoR h' t P R (upd M w (some m')) N (Gro o (w + 1) h) := by
  have hlt := s.st.lt
  refine ⟨s.st.kp hk (by simp only [s.ow]; omega), by simp [Gro, hlt, s.ow], fun v hv => ?_, fun v hv => (s.e v hv).other hk fun x hx => by omega⟩
  by_cases hvw : v = w
  · subst hvw
    simp only [upd, if_true]
    exact PDo.self (m := some m') hd
  · simp only [upd, if_neg hvw]
    exact (s.d v hv).other hk fun x hx => by omega
/-- One disk of the document goes on. -/
theorem TwoR.doc {w : Nat} {m' : Md} (s : TwoR h t P R M N o) (hw : w < 2) (hk : Kp (fun x => o x = w + 3) h h') (hd : RDo h' (R w) (some m') (fun x => o x = w + 3 ∨ h.size ≤ x)) :
    TwoR h' t P R M (upd N w (some m')) (Gro o (w + 3) h) := by
  have hlt := s.st.lt
  refine ⟨s.st.kp hk (by simp only [s.ow]; omega), by simp [Gro, hlt, s.ow], fun v hv => (s.d v hv).other hk fun x hx => by omega, fun v hv => ?_⟩
  by_cases hvw : v = w
  · subst hvw
    simp only [upd, if_true]
    exact RDo.self (m := some m') hd
  · simp only [upd, if_neg hvw]
    exact (s.e v hv).other hk fun x hx => by omega

theorem TwoR.rdP (s : TwoR h t P R M N o) {w : Nat} (hw : w < 2) : rdc h (((nA t).add 0).add (w * 1)) = some (.pointer (P w)) := by
  rw [add_zero', Nat.mul_one]
  refine s.st.rdi w ?_
  rcases (show w = 0 ∨ w = 1 by omega) with rfl | rfl <;> rfl
theorem TwoR.rdR (s : TwoR h t P R M N o) {w : Nat} (hw : w < 2) : rdc h (((nA t).add 2).add (w * 1)) = some (.pointer (R w)) := by
  rw [add2 rfl, Nat.mul_one]
  refine s.st.rdi (2 + w) ?_
  rcases (show w = 0 ∨ w = 1 by omega) with rfl | rfl <;> rfl
end

theorem and1_i64 (n : Int) : IntKind.i64.wrap ((BitVec.ofInt (IntKind.bits .i64) n &&& BitVec.ofInt (IntKind.bits .i64) 1).toNat : Int) = (((n % 2).toNat : Nat) : Int) := by
  have e : (BitVec.ofInt (IntKind.bits .i64) n &&& BitVec.ofInt (IntKind.bits .i64) 1).toNat = (n % 2).toNat := by
    show (BitVec.ofInt 64 n &&& 1#64).toNat = _
    rw [BitVec.toNat_and, BitVec.toNat_ofInt]
    have : (1#64 : BitVec 64).toNat = 2 ^ 1 - 1 := rfl
    rw [this, Nat.and_two_pow_sub_one_eq_mod]
    omega
  rw [e]
  exact wrap_i64 (by omega) (by omega)

theorem Gro.old {o : Nat → Nat} {i : Nat} {h : Hp} {x : Nat} (hx : x < h.size) : Gro o i h x = o x := by simp [Gro, hx]

/-- A step's ways: what may turn; the owners grow. -/
structure Go5 (n0 : Nat) (h0 h h' : Hp) (o o' : Nat → Nat) : Prop where
  ok : Ok n0 h0 h' o'
  own : ∀ x, x < h.size → o' x = o x
  kp : Kp (fun x => o x ≠ 0 ∧ o x ≠ 5) h h'

theorem Go5.refl {n0 : Nat} {h0 h : Hp} {o : Nat → Nat} (k : Ok n0 h0 h o) : Go5 n0 h0 h h o o := ⟨k, fun _ _ => rfl, Kp.refl _ _⟩
theorem Go5.step {n0 : Nat} {h0 h h1 h2 : Hp} {o o1 : Nat → Nat} {G : Nat → Prop} (g : Go5 n0 h0 h h1 o o1) (i : Nat) (hk : Kp G h1 h2) (hG : ∀ x, G x → o1 x ≠ 0 ∧ o1 x ≠ 5) : Go5 n0 h0 h h2 o (Gro o1 i h1) := by
  have hs := g.kp.size
  refine ⟨g.ok.go i hk fun x hx => (hG x hx).1, fun x hx => ?_, ⟨Nat.le_trans hs hk.size, fun x hx hn => ?_⟩⟩
  · rw [Gro.old (by omega)]; exact g.own x hx
  · rw [hk.old x (by omega) fun hg => hn (by rw [← g.own x hx]; exact hG x hg)]
    exact g.kp.old x hx hn
theorem Go5.same {n0 : Nat} {h0 h h1 h2 : Hp} {o o1 : Nat → Nat} (g : Go5 n0 h0 h h1 o o1) (hk : Kp (fun _ => False) h1 h2) : Go5 n0 h0 h h2 o (Gro o1 5 h1) := g.step 5 hk fun _ h => h.elim
theorem Go5.st {n0 : Nat} {h0 h h1 h2 : Hp} {o o1 : Nat → Nat} {G : Nat → Prop} (g : Go5 n0 h0 h h1 o o1) (hk : Kp G h1 h2) (hG : ∀ x, G x → o1 x ≠ 0 ∧ o1 x ≠ 5) (hs : h2.size = h1.size) : Go5 n0 h0 h h2 o o1 := by
  have hs1 := g.kp.size
  refine ⟨⟨by have := g.ok.le; omega, g.ok.own, g.ok.kp.and hk fun x hx => .inl ?_, g.ok.eq⟩, g.own, ⟨by omega, fun x hx hn => ?_⟩⟩
  · rw [g.ok.eq]
    rcases Nat.lt_or_ge x n0 with h1 | h1
    · exact absurd (g.ok.own x h1) (hG x hx).1
    · exact h1
  · rw [hk.old x (by omega) fun hg => hn (by rw [← g.own x hx]; exact hG x hg)]
    exact g.kp.old x hx hn

section
variable {h h' : Hp} {t : Nat} {P R : Nat → Option Addr} {M N : Nat → Option Md} {o : Nat → Nat}

theorem PDo.far {m : Option Md} {p : Option Addr} {F : Nat → Prop} (d : PDo h p m F) (hk : Kp (fun x => x = t) h h') (hF : ∀ x, F x → x ≠ t) : PDo h' p m F := by
  cases m with
  | none => exact d
  | some m => exact (PD.kp d hk fun x _ => hF x).mono fun x _ hx => hx.1
theorem RDo.far {m : Option Md} {p : Option Addr} {F : Nat → Prop} (d : RDo h p m F) (hk : Kp (fun x => x = t) h h') (hF : ∀ x, F x → x ≠ t) : RDo h' p m F := by
  cases m with
  | none => exact d
  | some m =>
    obtain ⟨b, bl, sw, l, e, d⟩ := d
    exact ⟨b, bl, sw, l, e, (d.kp hk fun x _ => hF x).mono fun x _ hx => hx.1⟩

theorem TwoR.stP {w : Nat} {p : Option Addr} {m : Option Md} (s : TwoR h t P R M N o) (hw : w < 2) (d : PDo h p m (fun x => o x = w + 1)) :
    ∃ h', StL h (((nA t).add 0).add (w * 1)) [.pointer p] h' ∧ Kp (fun x => x = t) h h' ∧ h'.size = h.size ∧ TwoR h' t (upd P w p) R (upd M w m) N o := by
  refine ⟨setB h t (Cel ([.pointer (P 0), .pointer (P 1), .pointer (R 0), .pointer (R 1)].set w (.pointer p)) 74), ?_, Kp.set (F := fun x => x = t) (Kp.refl _ _) _ (.inr rfl), size_set, ?_⟩
  · rw [add_zero', Nat.mul_one]; exact s.st.sti w _ (by simp; omega)
  have hk : Kp (fun x => x = t) h (setB h t (Cel ([.pointer (P 0), .pointer (P 1), .pointer (R 0), .pointer (R 1)].set w (.pointer p)) 74)) := Kp.set (F := fun x => x = t) (Kp.refl _ _) _ (.inr rfl)
  have ht : ∀ x j, j < 6 → o x = j → x ≠ t := by rintro x j hj hx rfl; rw [s.ow] at hx; omega
  refine ⟨?_, s.ow, fun v hv => ?_, fun v hv => RDo.far (s.e v hv) hk fun x hx => ht x _ (by omega) hx⟩
  · have := s.st.set (l' := [.pointer (P 0), .pointer (P 1), .pointer (R 0), .pointer (R 1)].set w (.pointer p))
    rcases (show w = 0 ∨ w = 1 by omega) with rfl | rfl <;> exact this
  · by_cases hvw : v = w
    · subst hvw
      simp only [upd, if_true]
      exact PDo.far d hk fun x hx => ht x _ (by omega) hx
    · simp only [upd, if_neg hvw]
      exact PDo.far (s.d v hv) hk fun x hx => ht x _ (by omega) hx
theorem TwoR.stR {w : Nat} {p : Option Addr} {m : Option Md} (s : TwoR h t P R M N o) (hw : w < 2) (d : RDo h p m (fun x => o x = w + 3)) :
    ∃ h', StL h (((nA t).add 2).add (w * 1)) [.pointer p] h' ∧ Kp (fun x => x = t) h h' ∧ h'.size = h.size ∧ TwoR h' t P (upd R w p) M (upd N w m) o := by
  refine ⟨setB h t (Cel ([.pointer (P 0), .pointer (P 1), .pointer (R 0), .pointer (R 1)].set (2 + w) (.pointer p)) 74), ?_, Kp.set (F := fun x => x = t) (Kp.refl _ _) _ (.inr rfl), size_set, ?_⟩
  · rw [add2 rfl, Nat.mul_one]; exact s.st.sti (2 + w) _ (by simp; omega)
  have hk : Kp (fun x => x = t) h (setB h t (Cel ([.pointer (P 0), .pointer (P 1), .pointer (R 0), .pointer (R 1)].set (2 + w) (.pointer p)) 74)) := Kp.set (F := fun x => x = t) (Kp.refl _ _) _ (.inr rfl)
  have ht : ∀ x j, j < 6 → o x = j → x ≠ t := by rintro x j hj hx rfl; rw [s.ow] at hx; omega
  refine ⟨?_, s.ow, fun v hv => PDo.far (s.d v hv) hk fun x hx => ht x _ (by omega) hx, fun v hv => ?_⟩
  · have := s.st.set (l' := [.pointer (P 0), .pointer (P 1), .pointer (R 0), .pointer (R 1)].set (2 + w) (.pointer p))
    rcases (show w = 0 ∨ w = 1 by omega) with rfl | rfl <;> exact this
  · by_cases hvw : v = w
    · subst hvw
      simp only [upd, if_true]
      exact RDo.far d hk fun x hx => ht x _ (by omega) hx
    · simp only [upd, if_neg hvw]
      exact RDo.far (s.e v hv) hk fun x hx => ht x _ (by omega) hx
end

/-! ### A step -/
structure OpD where
  kind : Int
  who : Int
  n : Int
  data : List UInt8
  keep : List Bool

structure OpH (h0 : Hp) (op : OpD) (sd sk : Sl) : Prop where
  dat : Byt h0 sd op.data
  kee : Bls h0 sk op.keep
  dl : op.data.length ≤ 1048576
  kl : op.keep.length ≤ 1048576

def newO (n : Int) : Option Md := if n < 1 ∨ 4096 < n then none else some (Md.new n.toNat)
def loadO (bs : List UInt8) : Option Md := if badImage bs then none else some (Md.load bs)

def opM (m : Option Md) (op : OpD) : Option Md :=
  if op.kind = 1 then newO op.n else if op.kind = 2 then loadO op.data else
    m.map fun m => if op.kind = 5 then (m.write op.n op.data).2 else if op.kind = 6 then m.flush.2 else if op.kind = 7 then (m.cut op.n).2 else if op.kind = 8 then (m.crash op.keep).2 else m

def opW (op : OpD) : Nat := (op.who % 2).toNat
theorem opW_lt (op : OpD) : opW op < 2 := by unfold opW; omega

def opC (op : OpD) (sd sk : Sl) : List Value := [.int .i64 op.kind, .int .i64 op.who, .int .i64 op.n, sd.v, sk.v]

section
variable {n0 : Nat} {h0 h : Hp} {t : Nat} {P R : Nat → Option Addr} {M : Nat → Option Md} {o : Nat → Nat} {op : OpD} {sd sk : Sl}

theorem PDi.pdo {b bl r : Nat} {sp : Sl} {m : Md} {h1 h2 : Hp} {o : Nat → Nat} {i : Nat} (p : PDi h2 b bl r sp m (fun x => h1.size ≤ x)) : PDo h2 (some (nA b)) (some m) (fun x => Gro o i h1 x = i) :=
  ⟨b, bl, r, sp, rfl, p.mono fun x _ hx => by simp [Gro]; omega⟩
theorem RDi.rdo {b bl : Nat} {sw : Sl} {l : List (Wrt × Sl)} {m : Md} {h1 h2 : Hp} {o : Nat → Nat} {i : Nat} (p : RDi h2 b bl sw l m (fun x => h1.size ≤ x)) : RDo h2 (some (nA b)) (some m) (fun x => Gro o i h1 x = i) :=
  ⟨b, bl, sw, l, rfl, p.mono fun x _ hx => by simp [Gro]; omega⟩

def errN (n : Int) : Int := if n < 1 ∨ 4096 < n then 1 else 0
def errL (bs : List UInt8) : Int := if badImage bs then 22 else 0

theorem disk_New_o (i : Nat) (o : Nat → Nat) {n : Int} {K : Option Addr → Int → Hp → Prop} (hK : ∀ h' p, Kp (fun _ => False) h h' → PDo h' p (newO n) (fun x => Gro o i h x = i) → K p (errN n) h') : disk_New n K h := by
  unfold newO errN at hK
  refine disk_New_c (fun hb => ?_) fun h1 h2 h' b bl r hk p => ?_
  · rw [if_pos hb, if_pos hb] at hK
    exact hK h none (Kp.refl _ _) rfl
  · rw [if_neg (by omega), if_neg (by omega)] at hK
    exact hK h' _ hk (PDi.pdo p)
theorem ref2_New_o (i : Nat) (o : Nat → Nat) {n : Int} {K : Option Addr → Int → Hp → Prop} (hK : ∀ h' p, Kp (fun _ => False) h h' → RDo h' p (newO n) (fun x => Gro o i h x = i) → K p (errN n) h') : ref2_New n K h := by
  unfold newO errN at hK
  refine ref2_New_c (fun hb => ?_) fun h1 h2 h' b bl hk p => ?_
  · rw [if_pos hb, if_pos hb] at hK
    exact hK h none (Kp.refl _ _) rfl
  · rw [if_neg (by omega), if_neg (by omega)] at hK
    exact hK h' _ hk p.rdo
theorem disk_Load_o (i : Nat) (o : Nat → Nat) {s : Sl} {bs : List UInt8} {K : Option Addr → Int → Hp → Prop} (hs : Byt h s bs) (hlen : bs.length < 9223372036854775808)
    (hK : ∀ h' p, Kp (fun _ => False) h h' → PDo h' p (loadO bs) (fun x => Gro o i h x = i) → K p (errL bs) h') : disk_Load s K h := by
  unfold loadO errL at hK
  refine disk_Load_c hs hlen (fun hb => ?_) fun hb h' b bl r hk p => ?_
  · rw [if_pos hb, if_pos hb] at hK
    exact hK h none (Kp.refl _ _) rfl
  · rw [if_neg (by simp [hb]), if_neg (by simp [hb])] at hK
    exact hK h' _ hk (PDi.pdo p)
theorem ref2_Load_o (i : Nat) (o : Nat → Nat) {s : Sl} {bs : List UInt8} {K : Option Addr → Int → Hp → Prop} (hs : Byt h s bs) (hlen : bs.length ≤ 140737488355328)
    (hK : ∀ h' p, Kp (fun _ => False) h h' → RDo h' p (loadO bs) (fun x => Gro o i h x = i) → K p (errL bs) h') : ref2_Load s K h := by
  unfold loadO errL at hK
  refine ref2_Load_c hs hlen (fun hb => ?_) fun hb h' b bl hk p => ?_
  · rw [if_pos hb, if_pos hb] at hK
    exact hK h none (Kp.refl _ _) rfl
  · rw [if_neg (by simp [hb]), if_neg (by simp [hb])] at hK
    exact hK h' _ hk p.rdo

theorem OpH.at (a : OpH h0 op sd sk) (hk : Kp (fun _ => False) h0 h) : Byt h sd op.data ∧ Bls h sk op.keep := ⟨a.dat.kp hk fun _ _ h => h, a.kee.kp hk fun _ _ h => h⟩
theorem OpH.ofd (a : OpH h0 op sd sk) (k : Ok n0 h0 h o) : ∀ b, sd.p = some b → op.data ≠ [] → o b.block = 0 := fun b hb hne => k.own _ (by rw [← k.eq]; exact a.dat.lt hne hb)
theorem OpH.ofk (a : OpH h0 op sd sk) (k : Ok n0 h0 h o) : ∀ b, sk.p = some b → op.keep ≠ [] → o b.block = 0 := fun b hb hne => k.own _ (by rw [← k.eq]; exact a.kee.lt hne hb)

theorem law2_makes_c {K : Bool → Hp → Prop} (s : TwoR h t P R M M o) (g : Ok n0 h0 h o) (a : OpH h0 op sd sk) (hk12 : op.kind = 1 ∨ op.kind = 2)
    (hK : ∀ h' P' R' o', TwoR h' t P' R' (upd M (opW op) (opM (M (opW op)) op)) (upd M (opW op) (opM (M (opW op)) op)) o' → Go5 n0 h0 h h' o o' → K true h') : law2_Two_makes (some (nA t)) op.kind op.who op.n sd sk K h := by
  have hnb := Bk.new h (opC op sd sk) 59
  have hk1 : Kp (fun _ => False) h (h.push (Cel (opC op sd sk) 59)) := Kp.push (Kp.refl _ _) _
  have g1 := (Go5.refl g).same hk1
  have s1 := s.same hk1
  have hw := opW_lt op
  have ew : (((op.who % 2).toNat : Nat) : Int) = ((opW op : Nat) : Int) := rfl
  refine ⟨_, _, rfl, rfl, op.who, hnb.rdi 1 rfl, ((opW op : Nat) : Int), (and1_i64 op.who).symm, op.kind, hnb.rdi 0 rfl, ?_⟩
  have hlt1 := hnb.lt
  have hcons : (h.push (Cel [.int .i64 op.kind, .int .i64 op.who, .int .i64 op.n, sd.v, sk.v] 59)) = h.push (Cel (opC op sd sk) 59) := rfl
  rw [hcons]
  generalize h.push (Cel (opC op sd sk) 59) = h1 at *
  generalize Gro o 5 h = o1 at *
  have fin : ∀ (h3 : Hp) (o3 : Nat → Nat) (p q : Option Addr) (x : Option Md), opM (M (opW op)) op = x → TwoR h3 t P R M M o3 → Go5 n0 h0 h h3 o o3 → PDo h3 p x (fun y => o3 y = opW op + 1) → RDo h3 q x (fun y => o3 y = opW op + 3) →
      ∃ a28 : Addr, some (nA t) = some a28 ∧ 0 ≤ ((opW op : Nat) : Int) ∧ ((opW op : Nat) : Int) < (2 : Nat) ∧ ∃ h32 : Hp, StL h3 ((a28.add 0).add (Int.toNat ((opW op : Nat) : Int) * 1)) [.pointer p] h32 ∧ 0 ≤ ((opW op : Nat) : Int) ∧ ((opW op : Nat) : Int) < (2 : Nat) ∧
        ∃ h36 : Hp, StL h32 ((a28.add 2).add (Int.toNat ((opW op : Nat) : Int) * 1)) [.pointer q] h36 ∧ K (p.isNone == q.isNone) h36 := by
    intro h3 o3 p q x hx s3 g3 hp hq
    rw [Int.toNat_natCast]
    obtain ⟨h4, hst4, hk4, hz4, s4⟩ := s3.stP hw hp
    have hq4 : RDo h4 q x (fun y => o3 y = opW op + 3) := RDo.far hq hk4 fun y hy e => by subst e; rw [s3.ow] at hy; omega
    obtain ⟨h5, hst5, hk5, hz5, s5⟩ := s4.stR hw hq4
    have g4 := g3.st hk4 (fun y e => by subst e; rw [s3.ow]; omega) hz4
    have g5 := g4.st hk5 (fun y e => by subst e; rw [s3.ow]; omega) hz5
    refine ⟨_, rfl, by omega, by omega, h4, hst4, by omega, by omega, h5, hst5, ?_⟩
    have : (p.isNone == q.isNone) = true := by rw [PDo.iff hp, RDo.iff hq]; simp
    rw [this]
    rw [← hx] at s5
    exact hK h5 _ _ _ s5 g5
  refine dcb (fun h1k => ?_) (fun hn1 => ?_)
  · refine ⟨op.n, hnb.rdi 2 rfl, ?_⟩
    refine disk_New_o (opW op + 1) o1 fun h2 p hk2 hp => ?_
    have s2 := s1.keep (opW op + 1) hk2 fun _ _ h => h
    have g2 := g1.step (opW op + 1) hk2 fun _ h => h.elim
    have hnb2 := hnb.kp hk2 fun h => h
    refine ⟨op.n, hnb2.rdi 2 rfl, ?_⟩
    generalize Gro o1 (opW op + 1) h1 = o2 at *
    refine ref2_New_o (opW op + 3) o2 fun h3 q hk3 hq => ?_
    have s3 := s2.keep (opW op + 3) hk3 fun _ _ h => h
    have g3 := g2.step (opW op + 3) hk3 fun _ h => h.elim
    have hp3 := PDo.other (i := opW op + 3) hp hk3 fun _ _ h => h
    obtain ⟨a28, e, c1, c2, h32, c3, c4, c5, h36, c6, c7⟩ := fin h3 _ p q (newO op.n) (by unfold opM; rw [if_pos h1k]) s3 g3 hp3 hq
    exact ⟨a28, e, c1, c2, h32, c3, c4, c5, h36, c6, dcb (fun _ => c7) fun h => (h rfl).elim⟩
  · have hk2' : op.kind = 2 := by omega
    refine ⟨sd, hnb.rdi 3 rfl, ?_⟩
    have hdl := a.dl
    refine ref2_Same_c (a.at g1.ok.kp).1 (by omega) fun s' h2 hk2 hv2 _ _ => ?_
    have s2 := s1.same hk2
    have g2 := g1.same hk2
    generalize Gro o1 5 h1 = o2 at *
    refine disk_Load_o (opW op + 1) o2 (Byt.of_vec hv2) (by omega) fun h3 p hk3 hp => ?_
    have s3 := s2.keep (opW op + 1) hk3 fun _ _ h => h
    have g3 := g2.step (opW op + 1) hk3 fun _ h => h.elim
    have hnb3 := (hnb.kp hk2 fun h => h).kp hk3 fun h => h
    refine ⟨sd, hnb3.rdi 3 rfl, ?_⟩
    generalize Gro o2 (opW op + 1) h2 = o3 at *
    refine ref2_Load_o (opW op + 3) o3 (a.at g3.ok.kp).1 (by omega) fun h4 q hk4 hq => ?_
    have s4 := s3.keep (opW op + 3) hk4 fun _ _ h => h
    have g4 := g3.step (opW op + 3) hk4 fun _ h => h.elim
    have hp4 := PDo.other (i := opW op + 3) hp hk4 fun _ _ h => h
    obtain ⟨a28, e, c1, c2, h32, c3, c4, c5, h36, c6, c7⟩ := fin h4 _ p q (loadO op.data) (by unfold opM; rw [if_neg hn1, if_pos hk2']) s4 g4 hp4 hq
    exact ⟨a28, e, c1, c2, h32, c3, c4, c5, h36, c6, dcb (fun _ => c7) fun h => (h rfl).elim⟩

theorem opM_tell (m : Option Md) (op : OpD) (h : op.kind ≠ 1 ∧ op.kind ≠ 2 ∧ op.kind ≠ 5 ∧ op.kind ≠ 6 ∧ op.kind ≠ 7 ∧ op.kind ≠ 8) : opM m op = m := by
  unfold opM
  rw [if_neg h.1, if_neg h.2.1]
  cases m with
  | none => rfl
  | some m => simp only [Option.map_some, if_neg h.2.2.1, if_neg h.2.2.2.1, if_neg h.2.2.2.2.1, if_neg h.2.2.2.2.2]

def Small (M : Nat → Option Md) : Prop := ∀ w m, M w = some m → m.pend.length ≤ 1048576

theorem law2_tells_c {K : Bool → Hp → Prop} (s : TwoR h t P R M M o) (g : Ok n0 h0 h o) (hsm : Small M)
    (hK : ∀ h' o', TwoR h' t P R M M o' → Go5 n0 h0 h h' o o' → K true h') : law2_Two_tells (some (nA t)) op.kind op.who op.n sd sk K h := by
  have hnb := Bk.new h (opC op sd sk) 59
  have hk1 : Kp (fun _ => False) h (h.push (Cel (opC op sd sk) 59)) := Kp.push (Kp.refl _ _) _
  have g1 := (Go5.refl g).same hk1
  have s1 := s.same hk1
  have hw := opW_lt op
  have ew : (((op.who % 2).toNat : Nat) : Int) = ((opW op : Nat) : Int) := rfl
  refine ⟨_, _, rfl, rfl, op.who, hnb.rdi 1 rfl, ((opW op : Nat) : Int), (and1_i64 op.who).symm, op.kind, hnb.rdi 0 rfl, ?_⟩
  have hcons : (h.push (Cel [.int .i64 op.kind, .int .i64 op.who, .int .i64 op.n, sd.v, sk.v] 59)) = h.push (Cel (opC op sd sk) 59) := rfl
  rw [hcons]
  generalize h.push (Cel (opC op sd sk) 59) = h1 at *
  generalize Gro o 5 h = o1 at *
  have c0 : 0 ≤ ((opW op : Nat) : Int) := by omega
  have c1 : ((opW op : Nat) : Int) < (2 : Nat) := by omega
  have rP : rdc h1 (((nA t).add 0).add (Int.toNat ((opW op : Nat) : Int) * 1)) = some (.pointer (P (opW op))) := by rw [Int.toNat_natCast]; exact s1.rdP hw
  have rR : rdc h1 (((nA t).add 2).add (Int.toNat ((opW op : Nat) : Int) * 1)) = some (.pointer (R (opW op))) := by rw [Int.toNat_natCast]; exact s1.rdR hw
  have eP : ∀ q, R (opW op) = q → ∀ h2, Kp (fun _ => False) h1 h2 → rdc h2 (((nA t).add 2).add (Int.toNat ((opW op : Nat) : Int) * 1)) = some (.pointer q) := fun q hq h2 hk => by
    rw [Int.toNat_natCast, ← hq]; exact (s1.same hk).rdR hw
  have fin : ∀ h2, Kp (fun _ => False) h1 h2 → K true h2 := fun h2 hk => hK h2 _ (s1.same hk) (g1.same hk)
  have hd := s1.d _ hw
  have he := s1.e _ hw
  have hsmw := hsm (opW op)
  refine dcb (fun _ => ?_) (fun _ => dcb (fun _ => ?_) (fun _ => dcb (fun _ => ?_) (fun _ => ?_)))
  · refine ⟨_, rfl, c0, c1, _, rP, c0, c1, _, rR, ?_⟩
    generalize M (opW op) = mw at hd he hsmw
    cases mw with
    | none =>
      have e1 : P (opW op) = none := hd
      have e2 : R (opW op) = none := he
      rw [e1, e2]
      refine disk_Pending_none_c ⟨eP _ e2 _ (Kp.refl _ _), ref2_Pending_none_c ?_⟩
      exact law2_writes_c (WLs.nil _ (fun _ => True)) (WLs.nil _ (fun _ => True)) rfl (by simp) (by simp) (fin _ (Kp.refl _ _))
    | some m =>
      obtain ⟨b, bl, r, sp, e1, p⟩ := hd
      obtain ⟨b', bl', sw, l, e2, q⟩ := he
      have hpl := hsmw m rfl
      rw [e1, e2]
      refine disk_Pending_i p (by omega) fun x lx h2 hk2 wx hx => ⟨eP _ e2 _ hk2, ?_⟩
      refine ref2_Pending_i (RDi.kpb q hk2) (by omega) fun y ly h3 hk3 wy hy => ?_
      have hlx : lx.length = m.pend.length := by rw [← hx]; simp
      refine law2_writes_c (wx.kp hk3 fun _ _ _ h => h) wy (by rw [hx, hy]) (by omega) (fun z hz => ?_) (fin _ (hk2.trans hk3))
      have : z.1 ∈ m.pend := by rw [← hx]; exact List.mem_map.2 ⟨z, hz, rfl⟩
      rw [(p.wf.pen _ this).1]; omega
  · refine ⟨_, rfl, c0, c1, _, rP, c0, c1, _, rR, ?_⟩
    generalize M (opW op) = mw at hd he hsmw
    cases mw with
    | none =>
      have e1 : P (opW op) = none := hd
      have e2 : R (opW op) = none := he
      rw [e1, e2]
      refine disk_Image_none_c ⟨eP _ e2 _ (Kp.refl _ _), ref2_Image_none_c ?_⟩
      exact law2_same_c (x := []) (Byt.of_vec (Vec.nil _ 1 5)) (Byt.of_vec (Vec.nil _ 1 5)) (by simp) (fin _ (Kp.refl _ _))
    | some m =>
      obtain ⟨b, bl, r, sp, e1, p⟩ := hd
      obtain ⟨b', bl', sw, l, e2, q⟩ := he
      rw [e1, e2]
      refine disk_Image_i p fun x h2 hk2 vx _ => ⟨eP _ e2 _ hk2, ?_⟩
      refine ref2_Image_i (RDi.kpb q hk2) fun y h3 hk3 vy _ => ?_
      have hfl : (m.laid.flatMap fun s => s).length = m.laid.length * 128 := by
        have := flat_len encS 128 m.laid (fun s hs => by simp [encS, p.wf.sec s hs])
        rw [flat_enc, List.length_map] at this
        exact this
      have := p.wf.hi
      exact law2_same_c (Byt.of_vec (vx.kp hk3 fun _ _ h => h)) (Byt.of_vec vy) (by omega) (fin _ (hk2.trans hk3))
  · refine ⟨_, rfl, c0, c1, _, rP, c0, c1, _, rR, ?_⟩
    generalize M (opW op) = mw at hd he hsmw
    cases mw with
    | none =>
      have e1 : P (opW op) = none := hd
      have e2 : R (opW op) = none := he
      rw [e1, e2]
      refine disk_Stat_none_c fun h2 hk2 => ⟨eP _ e2 _ hk2, ref2_Stat_none_c fun h3 hk3 => ?_⟩
      simpa using fin _ (hk2.trans hk3)
    | some m =>
      obtain ⟨b, bl, r, sp, e1, p⟩ := hd
      obtain ⟨b', bl', sw, l, e2, q⟩ := he
      rw [e1, e2]
      refine disk_Stat_i p fun h2 hk2 => ⟨eP _ e2 _ hk2, ref2_Stat_i (RDi.kpb q hk2) fun h3 hk3 => ?_⟩
      simpa using fin _ (hk2.trans hk3)
  · refine ⟨_, rfl, c0, c1, _, rP, c0, c1, _, rR, ?_⟩
    generalize M (opW op) = mw at hd he hsmw
    cases mw with
    | none =>
      have e1 : P (opW op) = none := hd
      have e2 : R (opW op) = none := he
      rw [e1, e2]
      refine disk_Sectors_none_c ⟨eP _ e2 _ (Kp.refl _ _), ref2_Sectors_none_c ?_⟩
      simpa using fin _ (Kp.refl _ _)
    | some m =>
      obtain ⟨b, bl, r, sp, e1, p⟩ := hd
      obtain ⟨b', bl', sw, l, e2, q⟩ := he
      rw [e1, e2]
      refine disk_Sectors_i p ⟨eP _ e2 _ (Kp.refl _ _), ref2_Sectors_i q ?_⟩
      simpa using fin _ (Kp.refl _ _)

theorem Go5.trans {h h1 h2 : Hp} {o o1 o2 : Nat → Nat} (g : Go5 n0 h0 h h1 o o1) (g' : Go5 n0 h0 h1 h2 o1 o2) : Go5 n0 h0 h h2 o o2 := by
  have hs := g.kp.size
  refine ⟨g'.ok, fun x hx => (g'.own x (by omega)).trans (g.own x hx), ⟨Nat.le_trans hs g'.kp.size, fun x hx hn => ?_⟩⟩
  rw [g'.kp.old x (by omega) (by rw [g.own x hx]; exact hn)]
  exact g.kp.old x hx hn
theorem Go5.owner {h h1 h2 : Hp} {o o1 : Nat → Nat} (g : Go5 n0 h0 h h1 o o1) {i : Nat} (hi : 1 ≤ i) (hi5 : i < 5) (hk : Kp (fun x => o1 x = i) h1 h2) : Go5 n0 h0 h h2 o (Gro o1 i h1) :=
  g.step i hk fun x hx => by omega

theorem law2_step_c {K : Bool → Hp → Prop} (s : TwoR h t P R M M o) (g : Ok n0 h0 h o) (a : OpH h0 op sd sk) (hsm : Small M)
    (hK : ∀ h' P' R' o', TwoR h' t P' R' (upd M (opW op) (opM (M (opW op)) op)) (upd M (opW op) (opM (M (opW op)) op)) o' → Go5 n0 h0 h h' o o' → K true h') : law2_Two_step (some (nA t)) op.kind op.who op.n sd sk K h := by
  have hnb := Bk.new h (opC op sd sk) 59
  have hk1 : Kp (fun _ => False) h (h.push (Cel (opC op sd sk) 59)) := Kp.push (Kp.refl _ _) _
  have g1 := (Go5.refl g).same hk1
  have s1 := s.same hk1
  have hw := opW_lt op
  have ew : (((op.who % 2).toNat : Nat) : Int) = ((opW op : Nat) : Int) := rfl
  refine ⟨_, _, rfl, rfl, op.who, hnb.rdi 1 rfl, ((opW op : Nat) : Int), (and1_i64 op.who).symm, op.kind, hnb.rdi 0 rfl, ?_⟩
  have hcons : (h.push (Cel [.int .i64 op.kind, .int .i64 op.who, .int .i64 op.n, sd.v, sk.v] 59)) = h.push (Cel (opC op sd sk) 59) := rfl
  rw [hcons]
  have hlt1 := hnb.lt
  have ho1 : Gro o 5 h h.size = 5 := by simp [Gro]
  generalize hbq : h.size = bq at *
  generalize h.push (Cel (opC op sd sk) 59) = h1 at *
  generalize Gro o 5 h = o1 at *
  have c0 : 0 ≤ ((opW op : Nat) : Int) := by omega
  have c1 : ((opW op : Nat) : Int) < (2 : Nat) := by omega
  have rP : ∀ {h2 : Hp} {P R : Nat → Option Addr} {M N : Nat → Option Md} {o2 : Nat → Nat} (q : Option Addr), TwoR h2 t P R M N o2 → P (opW op) = q → rdc h2 (((nA t).add 0).add (Int.toNat ((opW op : Nat) : Int) * 1)) = some (.pointer q) := fun q s2 e => by rw [Int.toNat_natCast, ← e]; exact s2.rdP hw
  have rR : ∀ {h2 : Hp} {P R : Nat → Option Addr} {M N : Nat → Option Md} {o2 : Nat → Nat} (q : Option Addr), TwoR h2 t P R M N o2 → R (opW op) = q → rdc h2 (((nA t).add 2).add (Int.toNat ((opW op : Nat) : Int) * 1)) = some (.pointer q) := fun q s2 e => by rw [Int.toNat_natCast, ← e]; exact s2.rdR hw
  -- where nothing turns in the models
  have fin0 : ∀ (h2 : Hp) (o2 : Nat → Nat), opM (M (opW op)) op = M (opW op) → TwoR h2 t P R M M o2 → Go5 n0 h0 h h2 o o2 → K true h2 := by
    intro h2 o2 he s2 g2
    refine hK h2 P R o2 ?_ g2
    rw [he, upd_self]; exact s2
  have hd := s1.d _ hw
  have he := s1.e _ hw
  have hsmw := hsm (opW op)
  refine ⟨fun bb h' => h' = h1 ∧ bb = decide (op.kind = 1 ∨ op.kind = 2), ?_, dcb (fun h1k => ⟨rfl, by simp [h1k]⟩) (fun hn1 => ⟨rfl, by by_cases h2k : op.kind = 2 <;> simp [h2k, hn1]⟩)⟩
  rintro bb h' ⟨rfl, rfl⟩
  refine dcd (fun h12 => ?_) (fun hn12 => ?_)
  · refine ⟨op.kind, op.who, op.n, sd, sk, hnb.rd0, ?_⟩
    exact law2_makes_c s1 g1.ok a h12 fun h2 P' R' o2 s2 g2 => hK h2 P' R' o2 s2 (g1.trans g2)
  have hn1 : op.kind ≠ 1 := fun e => hn12 (.inl e)
  have hn2 : op.kind ≠ 2 := fun e => hn12 (.inr e)
  have hoM : ∀ m, opM (some m) op = some (if op.kind = 5 then (m.write op.n op.data).2 else if op.kind = 6 then m.flush.2 else if op.kind = 7 then (m.cut op.n).2 else if op.kind = 8 then (m.crash op.keep).2 else m) := fun m => by
    unfold opM; rw [if_neg hn1, if_neg hn2]; rfl
  have hoN : opM none op = none := by unfold opM; rw [if_neg hn1, if_neg hn2]; rfl
  -- where both go on
  have fin1 : ∀ (h2 : Hp) (o2 : Nat → Nat) (m : Md), opM (M (opW op)) op = some m → TwoR h2 t P R (upd M (opW op) (some m)) (upd M (opW op) (some m)) o2 → Go5 n0 h0 h h2 o o2 → K true h2 := by
    intro h2 o2 m he s2 g2
    refine hK h2 P R o2 ?_ g2
    rw [he]; exact s2
  have ct : ∀ (b : Bool) (h2 : Hp), b = true → K true h2 → K b h2 := fun b h2 e hk => by rw [e]; exact hk
  refine dcb (fun h4k => ?_) (fun hn4 => dcb (fun h5k => ?_) (fun hn5 => dcb (fun h6k => ?_) (fun hn6 => dcb (fun h7k => ?_) (fun hn7 => dcb (fun h8k => ?_) (fun hn8 => ?_)))))
  · -- Read
    refine ⟨_, rfl, c0, c1, P (opW op), rP _ s1 rfl, op.n, hnb.rdi 2 rfl, ?_⟩
    have hst : opM (M (opW op)) op = M (opW op) := opM_tell _ _ ⟨hn1, hn2, by omega, by omega, by omega, by omega⟩
    generalize hmw : M (opW op) = mw at *
    cases mw with
    | none =>
      have e1 : P (opW op) = none := hd
      have e2 : R (opW op) = none := he
      rw [e1]
      refine disk_Read_none_c ⟨c0, c1, none, rR _ s1 e2, op.n, hnb.rdi 2 rfl, ref2_Read_none_c (dcb (fun _ => ?_) fun hne => (hne rfl).elim)⟩
      exact law2_same_c (x := []) (Byt.of_vec (Vec.nil _ 1 5)) (Byt.of_vec (Vec.nil _ 1 5)) (by simp) (fin0 _ _ hst s1 g1)
    | some m =>
      obtain ⟨b, bl, r, sp, e1, p⟩ := hd
      obtain ⟨b', bl', sw, l, e2, q⟩ := he
      have hpl := hsmw m rfl
      rw [e1]
      refine disk_Read_i p fun x h2 hk2 vx _ => ⟨c0, c1, _, rR _ (s1.same hk2) e2, op.n, (hnb.kp hk2 fun h => h).rdi 2 rfl, ?_⟩
      refine ref2_Read_i (RDi.kpb q hk2) (by omega) fun y h3 hk3 vy _ => dcb (fun _ => ?_) fun hne => (hne rfl).elim
      have hrl : (m.read op.n).1.length ≤ 128 := by
        unfold Md.read
        split
        · simp
        · split
          · simp
          · rw [Md.newest_len p.wf (by omega)]; omega
      exact law2_same_c (Byt.of_vec (vx.kp hk3 fun _ _ h => h)) (Byt.of_vec vy) (by omega) (fin0 _ _ hst (s1.same (hk2.trans hk3)) (g1.same (hk2.trans hk3)))
  · -- Write
    have hdl := a.dl
    refine ⟨_, rfl, c0, c1, P (opW op), rP _ s1 rfl, op.n, hnb.rdi 2 rfl, sd, hnb.rdi 3 rfl, ?_⟩
    refine ref2_Same_c (a.at g1.ok.kp).1 (by omega) fun s' h2 hk2 hv2 hs2 _ => ?_
    have s2 := s1.same hk2
    have g2 := g1.same hk2
    have hnb2 := hnb.kp hk2 fun h => h
    have ho2 : Gro o1 5 h' bq = 5 := by rw [Gro.old hlt1]; exact ho1
    have hsb : ∀ x, s'.blk x → Gro o1 5 h' x = 5 := by
      rintro x ⟨a, ha, rfl⟩; subst hs2; cases ha; simp [Gro]
    generalize Gro o1 5 h' = o2 at *
    refine ⟨hnb2.rdi 2 rfl, rP _ s2 rfl, ?_⟩
    have hd := s2.d _ hw
    have he := s2.e _ hw
    generalize hmw : M (opW op) = mw at *
    cases mw with
    | none =>
      have e1 : P (opW op) = none := hd
      have e2 : R (opW op) = none := he
      rw [e1]
      refine disk_Write_none_c ⟨c0, c1, none, rR _ s2 e2, op.n, hnb2.rdi 2 rfl, sd, hnb2.rdi 3 rfl, ref2_Write_none_c (ct _ _ (by simp) ?_)⟩
      exact fin0 _ _ hoN s2 g2
    | some m =>
      obtain ⟨b, bl, r, sp, e1, p⟩ := hd
      have hpl := hsmw m rfl
      rw [e1]
      refine disk_Write_i p (Byt.of_vec hv2) (fun a ha _ hF => ?_) (by omega) fun h3 sp' hk3 p3 => ?_
      · have := hsb a.block ⟨a, ha, rfl⟩
        omega
      have s3 := s2.prog hw hk3 (m' := (m.write op.n op.data).2) ⟨b, bl, r, sp', e1, p3⟩
      have g3 := g2.owner (by omega) (by omega) hk3
      have hnb3 := hnb2.kp hk3 (by simp only [ho2]; omega)
      generalize Gro o2 (opW op + 1) h2 = o3 at *
      have he3 := s3.e _ hw
      rw [hmw] at he3
      obtain ⟨b', bl', sw, l, e2, q⟩ := he3
      refine ⟨c0, c1, _, rR _ s3 e2, op.n, hnb3.rdi 2 rfl, sd, hnb3.rdi 3 rfl, ?_⟩
      refine ref2_Write_i q (a.at g3.ok.kp).1 (fun a' ha hne hF => ?_) (by omega) fun h4 sw' l' hk4 q4 => ct _ _ (by simp) ?_
      · have := a.ofd g3.ok a' ha hne
        omega
      have s4 := s3.doc hw hk4 (m' := (m.write op.n op.data).2) ⟨b', bl', sw', l', e2, q4⟩
      refine fin1 _ _ _ ?_ s4 (g3.owner (by omega) (by omega) hk4)
      rw [hoM, if_pos h5k]
  · -- Flush
    refine ⟨_, rfl, c0, c1, P (opW op), rP _ s1 rfl, ?_⟩
    generalize hmw : M (opW op) = mw at *
    cases mw with
    | none =>
      have e1 : P (opW op) = none := hd
      have e2 : R (opW op) = none := he
      rw [e1]
      refine disk_Flush_none_c ⟨c0, c1, none, rR _ s1 e2, ref2_Flush_none_c (ct _ _ (by simp) ?_)⟩
      exact fin0 _ _ hoN s1 g1
    | some m =>
      obtain ⟨b, bl, r, sp, e1, p⟩ := hd
      have hpl := hsmw m rfl
      rw [e1]
      refine disk_Flush_i p fun h3 sp' hk3 p3 => ?_
      have s3 := s1.prog hw hk3 (m' := m.flush.2) ⟨b, bl, r, sp', e1, p3⟩
      have g3 := g1.owner (by omega) (by omega) hk3
      generalize Gro o1 (opW op + 1) h' = o3 at *
      have he3 := s3.e _ hw
      rw [hmw] at he3
      obtain ⟨b', bl', sw, l, e2, q⟩ := he3
      refine ⟨c0, c1, _, rR _ s3 e2, ?_⟩
      refine ref2_Flush_i q (by omega) fun h4 sw' l' hk4 q4 => ct _ _ (by simp) ?_
      have s4 := s3.doc hw hk4 (m' := m.flush.2) ⟨b', bl', sw', l', e2, q4⟩
      refine fin1 _ _ _ ?_ s4 (g3.owner (by omega) (by omega) hk4)
      rw [hoM, if_neg hn5, if_pos h6k]
  · -- Cut
    refine ⟨_, rfl, c0, c1, P (opW op), rP _ s1 rfl, op.n, hnb.rdi 2 rfl, ?_⟩
    generalize hmw : M (opW op) = mw at *
    cases mw with
    | none =>
      have e1 : P (opW op) = none := hd
      have e2 : R (opW op) = none := he
      rw [e1]
      refine disk_Cut_none_c ⟨c0, c1, none, rR _ s1 e2, op.n, hnb.rdi 2 rfl, ref2_Cut_none_c (ct _ _ (by simp) ?_)⟩
      exact fin0 _ _ hoN s1 g1
    | some m =>
      obtain ⟨b, bl, r, sp, e1, p⟩ := hd
      rw [e1]
      refine disk_Cut_i p fun h3 hk3' p3 => ?_
      have hk3 : Kp (fun x => o1 x = opW op + 1) h' h3 := hk3'.mono fun x _ e => by subst e; exact p.fb
      have s3 := s1.prog hw hk3 (m' := (m.cut op.n).2) ⟨b, bl, r, sp, e1, p3.mono fun _ _ h => .inl h⟩
      have g3 := g1.owner (by omega) (by omega) hk3
      have hnb3 := hnb.kp hk3 (by simp only [ho1]; omega)
      generalize Gro o1 (opW op + 1) h' = o3 at *
      have he3 := s3.e _ hw
      rw [hmw] at he3
      obtain ⟨b', bl', sw, l, e2, q⟩ := he3
      refine ⟨c0, c1, _, rR _ s3 e2, op.n, hnb3.rdi 2 rfl, ?_⟩
      refine ref2_Cut_i q fun h4 hk4' q4 => ct _ _ (by simp) ?_
      have hk4 : Kp (fun x => o3 x = opW op + 3) h3 h4 := hk4'.mono fun x _ e => by subst e; exact q.fb
      have s4 := s3.doc hw hk4 (m' := (m.cut op.n).2) ⟨b', bl', sw, l, e2, q4.mono fun _ _ h => .inl h⟩
      refine fin1 _ _ _ ?_ s4 (g3.owner (by omega) (by omega) hk4)
      rw [hoM, if_neg hn5, if_neg hn6, if_pos h7k]
  · -- Crash
    have hkl := a.kl
    refine ⟨_, rfl, c0, c1, P (opW op), rP _ s1 rfl, sk, hnb.rdi 4 rfl, ?_⟩
    refine copy_bools (a.at g1.ok.kp).2 (by omega) fun s' h2 hk2 hv2 hb2 => ?_
    have s2 := s1.same hk2
    have g2 := g1.same hk2
    have hnb2 := hnb.kp hk2 fun h => h
    have ho2 : Gro o1 5 h' bq = 5 := by rw [Gro.old hlt1]; exact ho1
    have hsb : ∀ x, s'.blk x → Gro o1 5 h' x = 5 := by
      intro x hx; have := hb2 x hx; simp [Gro]; omega
    generalize Gro o1 5 h' = o2 at *
    refine ⟨rP _ s2 rfl, ?_⟩
    have hd := s2.d _ hw
    have he := s2.e _ hw
    generalize hmw : M (opW op) = mw at *
    cases mw with
    | none =>
      have e1 : P (opW op) = none := hd
      have e2 : R (opW op) = none := he
      rw [e1]
      refine disk_Crash_none_c ⟨c0, c1, none, rR _ s2 e2, sk, hnb2.rdi 4 rfl, ref2_Crash_none_c (dcb (fun _ => ct _ _ (by simp) ?_) fun hne => (hne rfl).elim)⟩
      exact fin0 _ _ hoN s2 g2
    | some m =>
      obtain ⟨b, bl, r, sp, e1, p⟩ := hd
      have hpl := hsmw m rfl
      rw [e1]
      refine disk_Crash_i p (Bls.of_vec hv2) (fun a ha _ hF => ?_) (by omega) fun h3 sp' hk3 p3 => ?_
      · have := hsb a.block ⟨a, ha, rfl⟩
        omega
      have s3 := s2.prog hw hk3 (m' := (m.crash op.keep).2) ⟨b, bl, r, sp', e1, p3⟩
      have g3 := g2.owner (by omega) (by omega) hk3
      have hnb3 := hnb2.kp hk3 (by simp only [ho2]; omega)
      generalize Gro o2 (opW op + 1) h2 = o3 at *
      have he3 := s3.e _ hw
      rw [hmw] at he3
      obtain ⟨b', bl', sw, l, e2, q⟩ := he3
      refine ⟨c0, c1, _, rR _ s3 e2, sk, hnb3.rdi 4 rfl, ?_⟩
      refine ref2_Crash_i q (a.at g3.ok.kp).2 (fun a' ha hne hF => ?_) (by omega) fun h4 sw' l' hk4 q4 => dcb (fun _ => ct _ _ (by simp) ?_) fun hne => (hne rfl).elim
      · have := a.ofk g3.ok a' ha hne
        omega
      have s4 := s3.doc hw hk4 (m' := (m.crash op.keep).2) ⟨b', bl', sw', l', e2, q4⟩
      refine fin1 _ _ _ ?_ s4 (g3.owner (by omega) (by omega) hk4)
      rw [hoM, if_neg hn5, if_neg hn6, if_neg hn7, if_pos h8k]
  · -- tells; and what is no step
    have hst : opM (M (opW op)) op = M (opW op) := opM_tell _ _ ⟨hn1, hn2, hn5, hn6, hn7, hn8⟩
    refine ⟨fun bb h2 => h2 = h', ?_, dcb (fun _ => rfl) fun _ => dcb (fun _ => rfl) fun _ => dcb (fun _ => rfl) fun _ => rfl⟩
    rintro bb h2 rfl
    refine ⟨fun _ => ⟨op.kind, op.who, op.n, sd, sk, hnb.rd0, ?_⟩, fun _ => fin0 _ _ hst s1 g1⟩
    exact law2_tells_c s1 g1.ok hsm fun h3 o3 s3 g3 => fin0 _ _ hst s3 (g1.trans g3)
end
end Go.Proofs.Ythpeadoidpimmaa
