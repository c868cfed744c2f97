/- trellislaw3's helpers: a log made anew on a new disk. No condition. -/
import Derived.Test.YthpeadoidpimmaaGLawC
import Derived.Test.YthpeadoidpimmaaLifeM
import Derived.Test.YthpeadoidpimmaaRow
namespace Go.Proofs.Ythpeadoidpimmaa
open Go Tw
set_option linter.unusedVariables false
set_option linter.unusedSimpArgs false
set_option maxRecDepth 10000
set_option maxHeartbeats 1000000

section
variable {h0 h : Hp}

theorem law3_walMod_c {n m : Int} {K : Int → Hp → Prop} (h1 : 0 < m) (h2 : m ≤ 1099511627776) (hK : 0 ≤ n % m → n % m < m → K (n % m) h) : law3_walMod n m K h := by
  have e1 := Int.emod_nonneg n (show m ≠ 0 by omega)
  have e2 := Int.emod_lt_of_pos n h1
  have e3 := @Int.tmod_eq_emod n m
  refine ⟨by omega, _, rfl, dcd (fun hlt => ?_) (fun hge => ?_)⟩
  · have e4 : n.tmod m = n % m - m := by
      rw [e3] at hlt ⊢
      split at hlt
      · omega
      · rename_i hc; rw [if_neg hc]; omega
    refine ⟨n.tmod m + m, Wr.i64 (by omega) (by omega), ?_⟩
    rw [e4, Int.sub_add_cancel]; exact hK e1 e2
  · have e4 : n.tmod m = n % m := by
      rw [e3] at hge ⊢
      split at hge
      · rename_i hc; rw [if_pos hc]; omega
      · omega
    rw [e4]; exact hK e1 e2

theorem law3_walNeed_c {k : Nat} {K : Int → Hp → Prop} (hk : k ≤ 1099511627776) (hK : K (needN k : Nat) h) : law3_walNeed k K h := by
  refine dcb (fun h1 => ?_) (fun h1 => ?_)
  · have : k = 0 := by omega
    subst this; exact hK
  · refine ⟨(k : Int) + 103, Wr.i64 (by omega) (by omega), _, rfl, ?_⟩
    have e : Int.tdiv ((k : Int) + 103) 104 = (needN k : Nat) := by
      rw [Int.tdiv_eq_ediv_of_nonneg (by omega)]
      unfold needN; rw [if_neg (by omega)]; omega
    have hn : needN k ≤ k + 103 := by unfold needN; split <;> omega
    rw [e, wrap_i64 (by omega) (by omega)]
    exact hK

/-- A disk, its log, a model of it and the block that names them. -/
structure Lf (h0 h : Hp) (t mb : Nat) (p q : Option Addr) (m : Md) (l : Lg) (mc : List Value) (may off : Bool) (o : Nat → Nat) (A : Nat → Ass) : Prop where
  ow : Ow h o A
  a0 : A 0 = Ass.old h0
  a1 : A 1 = Ass.disk p m
  a3 : A 3 = Ass.log q p l
  a5 : A 5 = Ass.cell mb mc 118
  a8 : A 8 = Ass.top
  a6 : A 6 = Ass.cell t [.pointer p, .pointer q, .pointer (some (nA mb)), .int .i64 l.st, .int .i64 l.n, .bool may, .bool off] 96

theorem Ass.log_ne {q p : Option Addr} {l : Lg} {o : Nat → Nat} {A : Nat → Ass} {i : Nat} (w : Ow h o A) (hi : A i = Ass.log q p l) : q.isNone = false := by
  obtain ⟨b, sr, rs, e, _⟩ := w.log hi
  rw [e]; rfl

/-- What lies on a disk with a log made anew. -/
structure Fresh (m : Md) (st n : Nat) : Prop where
  f : Fine m
  len : m.laid.length = st + n + 2
  pend : m.pend.length ≤ 2
  new : ∀ k, k < st + n + 2 → m.newest k = if k = st + 1 then headB n ⟨2, 1, 3, 1⟩ else if k = st then headB n ⟨1, 1, 2, 1⟩ else zeroS

theorem law3_walLife_c {start count : Int} {K : Option Addr → Bool → Hp → Prop}
    (hK : ∀ (st n : Nat) t mb p q m h' o' A', (st : Int) = start % 5 → (n : Int) = 4 + count % 40 → Fresh m st n → Lf h h' t mb p q m (lg0 st n) [.slice none 0 0, .int .i64 0, .int .i64 0, .int .i64 0, .int .i64 1, .int .i64 ((n : Int) - 2)] false false o' A' → K (some (nA t)) true h') : law3_walLife start count K h := by
  refine law3_walMod_c (by decide) (by decide) fun a1 a2 => law3_walMod_c (by decide) (by decide) fun b1 b2 => ?_
  obtain ⟨st, hst⟩ : ∃ st : Nat, start % 5 = st := ⟨(start % 5).toNat, by omega⟩
  obtain ⟨n, hn⟩ : ∃ n : Nat, 4 + count % 40 = n := ⟨(4 + count % 40).toNat, by omega⟩
  rw [hst] at a1 a2 ⊢
  rw [hn]
  refine ⟨(n : Int), Wr.i64 (by omega) (by omega), (st : Int) + n, Wr.i64 (by omega) (by omega), (st : Int) + n + 2, Wr.i64 (by omega) (by omega), ?_⟩
  let o0 : Nat → Nat := fun x => if x < h.size then 0 else 8
  have w0 : Ow h o0 (upd (fun _ => Ass.top) 0 (Ass.old h)) := Ow.put (fun i => trivial) ⟨Kp.refl _ _, fun x hx => by simp [o0, hx]⟩
  clear_value o0
  have hnew : newO ((st : Int) + n + 2) = some (Md.new (st + n + 2)) := by
    unfold newO; rw [if_neg (by omega)]
    have : ((st : Int) + n + 2).toNat = st + n + 2 := by omega
    rw [this]
  have herr : errN ((st : Int) + n + 2) = 0 := by unfold errN; rw [if_neg (by omega)]
  have f0 : Fine (Md.new (st + n + 2)) := Fine.new (by omega) (by omega)
  have l0 : (Md.new (st + n + 2)).laid.length = st + n + 2 := by simp [Md.new]
  refine disk_New_o 2 o0 fun h1 p1 k1 d1 => ?_
  rw [hnew] at d1
  rw [herr]
  have w1 := ((w0.fresh 2 k1).1).put (i := 2) (B := Ass.disk p1 (Md.new (st + n + 2))) d1
  have np1 : p1.isNone = false := PD.ne d1
  refine ⟨fun b hx => b = false ∧ hx = h1, ?_, fun e => (by rw [np1] at e; cases e), fun _ => ⟨rfl, rfl⟩⟩
  rintro b hx ⟨rfl, rfl⟩
  refine ⟨fun e => (nomatch e), fun _ => ?_⟩
  obtain ⟨g1, g2, g3, g4, g5⟩ := fmt_fine (st := st) (n := n) f0 (by omega) (by omega)
  have hfm : fmtI (Md.new (st + n + 2)) st n = fmt (Md.new (st + n + 2)) st n := by
    unfold fmtI; rw [if_pos ⟨by omega, by omega, by omega⟩]; rfl
  refine wal_Format_c (i := 2) 8 w1 rfl (by decide) (by simp [Md.new]) fun h2 o2 w2 t2 => ?_
  rw [hfm] at w2 ⊢
  rw [g1]
  refine ⟨fun e => (by simp at e), fun _ => ?_⟩
  refine ow_Image (i := 2) 8 w2 rfl fun s h3 w3 t3 v3 n3 => ?_
  have hwf := g2.wf
  generalize fmt (Md.new (st + n + 2)) st n = y at *
  obtain ⟨ye, m1⟩ := y
  simp only at g1 g2 g3 g4 g5 w2 w3 v3 hwf
  have hflat := flat_len128 m1.laid hwf.sec
  have hlen : (m1.laid.flatMap fun s => s).length = (st + n + 2) * 128 := by rw [hflat, g3, l0]
  have hbad : badImage (m1.laid.flatMap fun s => s) = false := by
    have e1 : (m1.laid.flatMap fun s => s).length % 128 = 0 := by omega
    have e2 : (m1.laid.flatMap fun s => s).length / 128 = st + n + 2 := by omega
    unfold badImage
    rw [e1, e2]
    simp; omega
  have hlo : loadO (m1.laid.flatMap fun s => s) = some (Md.load (m1.laid.flatMap fun s => s)) := by unfold loadO; rw [if_neg (by rw [hbad]; decide)]
  have hle : errL (m1.laid.flatMap fun s => s) = 0 := by unfold errL; rw [if_neg (by rw [hbad]; decide)]
  have f2 : Fine (Md.load (m1.laid.flatMap fun s => s)) := Fine.load (by omega) (by omega) (by omega)
  have hlaid : (Md.load (m1.laid.flatMap fun s => s)).laid = m1.laid := by
    show chunks ((m1.laid.flatMap fun s => s).length / 128) _ = _
    rw [hflat, Nat.mul_div_cancel _ (by omega : 0 < 128)]
    exact chunksOf _ hwf.sec
  have hpend : (Md.load (m1.laid.flatMap fun s => s)).pend = [] := rfl
  refine disk_Load_o 1 (Gro o2 8 h2) (Byt.of_vec v3) (by omega) fun h4 p k4 d4 => ?_
  rw [hlo] at d4
  rw [hle]
  generalize Md.load (m1.laid.flatMap fun s => s) = m2 at *
  have w4 := ((w3.fresh 1 k4).1).put (i := 1) (B := Ass.disk p m2) d4
  have np2 : p.isNone = false := PD.ne d4
  refine ⟨fun b hx => b = false ∧ hx = h4, ?_, fun e => (by rw [np2] at e; cases e), fun _ => ⟨rfl, rfl⟩⟩
  rintro b hx ⟨rfl, rfl⟩
  refine ⟨fun e => (nomatch e), fun _ => ?_⟩
  have hnw : ∀ k, k < st + n + 2 → m2.newest k = if k = st then headB n ⟨1, 1, 2, 1⟩ else zeroS := by
    intro k hk
    have e1 : m2.newest k = m1.newest k := by unfold Md.newest; rw [hlaid, hpend, g4]
    rw [e1, g5 k (by omega)]
    by_cases h1 : k = st
    · rw [if_pos h1, if_pos h1]
    · rw [if_neg h1, if_neg h1]
      split
      · rfl
      · simp only [Md.newest, Md.new, lastW, List.reverse_nil, lastWr, Option.getD_none]
        rw [List.getD_eq_getElem?_getD, List.getElem?_replicate, if_pos hk]; rfl
  have hl2 : m2.laid.length = st + n + 2 := by rw [hlaid]; omega
  obtain ⟨q1, q2, q3, q4, q5⟩ := opn_fresh (st := st) (n := n) f2 (by omega) (by omega) (by rw [hnw _ (by omega), if_pos rfl]) (by rw [hnw _ (by omega), if_neg (by omega)]) (by rw [hnw _ (by omega), if_neg (by omega)])
  have hop : opnI m2 st n = opn m2 st n := by
    unfold opnI; rw [if_pos ⟨by omega, by omega, by omega⟩]; rfl
  refine wal_Open_c (i := 1) (j := 3) w4 rfl (by decide) (by rw [hpend]; decide) fun q h5 o5 w5 t5 => ?_
  rw [hop] at w5 ⊢
  rw [q1] at w5 ⊢
  rw [hpend] at q4
  have hfr : Fresh (opn m2 st n).2 st n := by
    refine ⟨q2, by omega, by simpa using q4, fun k hk => ?_⟩
    rw [q5 k (by omega), hnw k hk]
  generalize (opn m2 st n).2 = m3 at *
  have nq : q.isNone = false := Ass.log_ne (i := 3) w5 rfl
  refine ⟨fun b hy => b = false ∧ hy = h5, ?_, fun e => (by rw [nq] at e; cases e), fun _ => ⟨rfl, rfl⟩⟩
  rintro b hy ⟨rfl, rfl⟩
  refine ⟨fun e => (nomatch e), fun _ => ?_⟩
  obtain ⟨w6, t6⟩ := w5.cell_new (l := [.slice none 0 0, .int .i64 0, .int .i64 0, .int .i64 0, .int .i64 1, .int .i64 ((n : Int) - 2)]) (t := 118) 5 rfl
  refine ⟨(n : Int) - 2, Wr.i64 (by omega) (by omega), _, _, rfl, rfl, ?_⟩
  generalize hy.push (Cel [.slice none 0 0, .int .i64 0, .int .i64 0, .int .i64 0, .int .i64 1, .int .i64 ((n : Int) - 2)] 118) = h6 at *
  generalize Gro o5 5 hy = o6 at *
  obtain ⟨w7, t7⟩ := w6.cell_new (l := [.pointer p, .pointer q, .pointer (some (nA hy.size)), .int .i64 st, .int .i64 n, .bool false, .bool false]) (t := 96) 6 rfl
  exact ⟨_, _, rfl, rfl, hK st n h6.size hy.size p q m3 _ _ _ hst.symm hn.symm hfr ⟨w7, rfl, rfl, rfl, rfl, rfl, rfl⟩⟩
end
end Go.Proofs.Ythpeadoidpimmaa
