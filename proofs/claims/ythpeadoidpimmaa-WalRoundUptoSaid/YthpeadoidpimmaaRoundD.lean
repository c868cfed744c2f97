/- trellislaw3.WalRound: what is appended, flushed, told and given up in turn. Condition: a bound on the list's length. -/
import Derived.Test.YthpeadoidpimmaaLWalRound
import Derived.Test.YthpeadoidpimmaaLifeD
import Derived.Test.YthpeadoidpimmaaLifeN
import Derived.Test.YthpeadoidpimmaaRecL
import Derived.Test.YthpeadoidpimmaaLogR
import Derived.Test.YthpeadoidpimmaaLogQ
import Derived.Test.YthpeadoidpimmaaLogS
import Derived.Test.YthpeadoidpimmaaOpen
namespace Go.Proofs.Ythpeadoidpimmaa
open Go Tw
set_option linter.unusedVariables false
set_option linter.unusedSimpArgs false
set_option maxRecDepth 10000
set_option maxHeartbeats 1000000

section
variable {h0 h : Hp}

/-- Numbers in a list. -/
def IsI (x : Int) (cs : List Value) : Prop := cs = [.int .i64 x]

theorem Arr.isI {s : Sl} {xs : List Int} (hs : Arr h s 1 (fun (n : Int) cs => cs = [.int .i64 n] ∧ -9223372036854775808 ≤ n ∧ n ≤ 9223372036854775807) xs) : Arr h s 1 IsI xs :=
  ⟨hs.len, hs.cap, by
    have := hs.rd
    revert this
    cases s.p with
    | none => exact id
    | some a => exact fun hh i x hx => by obtain ⟨cs, h1, h2, h3⟩ := hh i x hx; exact ⟨cs, h1.1, h2, h3⟩⟩
theorem Lf.bk {t mb : Nat} {p q : Option Addr} {m : Md} {l : Lg} {mc : List Value} {may off : Bool} {o : Nat → Nat} {A : Nat → Ass} (w : Lf h0 h t mb p q m l mc may off o A) :
    Bk h t [.pointer p, .pointer q, .pointer (some (nA mb)), .int .i64 l.st, .int .i64 l.n, .bool may, .bool off] 96 ∧ o t = 6 := w.ow.cell w.a6
theorem Lf.kp {t mb : Nat} {p q : Option Addr} {m : Md} {l : Lg} {mc : List Value} {may off : Bool} {o : Nat → Nat} {A : Nat → Ass} (w : Lf h0 h t mb p q m l mc may off o A) : Kp (fun _ => False) h0 h := (w.ow.old w.a0).1
theorem Lf.fresh {t mb : Nat} {p q : Option Addr} {m : Md} {l : Lg} {mc : List Value} {may off : Bool} {o : Nat → Nat} {A : Nat → Ass} {h' : Hp} (j : Nat) (w : Lf h0 h t mb p q m l mc may off o A) (hk : Kp (fun _ => False) h h') :
    Lf h0 h' t mb p q m l mc may off (Gro o j h) A ∧ Stp (fun _ => False) h o h' (Gro o j h) :=
  ⟨⟨(w.ow.fresh j hk).1, w.a0, w.a1, w.a3, w.a5, w.a8, w.a6⟩, (w.ow.fresh j hk).2⟩
theorem Lf.else8 {t mb : Nat} {p q : Option Addr} {m : Md} {l : Lg} {mc : List Value} {may off : Bool} {o : Nat → Nat} {A : Nat → Ass} {h' : Hp} (w : Lf h0 h t mb p q m l mc may off o A) (hk : Kp (fun x => o x = 8) h h') :
    Lf h0 h' t mb p q m l mc may off (Gro o 8 h) A ∧ Stp (fun x => x = 8) h o h' (Gro o 8 h) :=
  ⟨⟨(w.ow.else_ w.a8 hk).1, w.a0, w.a1, w.a3, w.a5, w.a8, w.a6⟩, (w.ow.else_ w.a8 hk).2⟩
theorem Lf.to {t mb : Nat} {p q : Option Addr} {m m' : Md} {l l' : Lg} {mc : List Value} {may off : Bool} {o o' : Nat → Nat} {A : Nat → Ass} {h' : Hp} (w : Lf h0 h t mb p q m l mc may off o A) (hs : l'.st = l.st) (hn : l'.n = l.n)
    (w' : Ow h' o' (upd (upd A 1 (Ass.disk p m')) 3 (Ass.log q p l'))) : Lf h0 h' t mb p q m' l' mc may off o' (upd (upd A 1 (Ass.disk p m')) 3 (Ass.log q p l')) :=
  ⟨w', w.a0, rfl, rfl, w.a5, w.a8, by rw [hs, hn]; exact w.a6⟩

/-- A block of bytes written full. -/
theorem fill_c {q L : Nat} {b0 : List UInt8} (hb : Bk h q (b0.map bv) 5) (hl : b0.length = L) (hL : L ≤ 1099511627776) {i : Int} (hi : 0 ≤ i) (hi2 : i ≤ 1099511627776) {K : Hp → Prop}
    (hK : ∀ (bs : List UInt8) (h' : Hp), bs.length = L → Bk h' q (bs.map bv) 5 → Kp (fun x => x = q) h h' → K h') :
    ∃ I51 : Nat → Int → Hp → Prop, (∃ m55, I51 m55 0 h) ∧ ∀ (m52 : Nat) (k50 : Int) (h53 : Hp), I51 m52 k50 h53 →
      (((decide (k50 < (L : Int))) = true → (∃ n58 : Int, Wr .i64 (i + k50) n58 ∧ ∃ n60 : Int, Wr .u8 n58 n60 ∧ ∃ a62 : Addr, (⟨some (nA q), L, L⟩ : Sl).p = some a62 ∧ 0 ≤ k50 ∧ k50 < ((⟨some (nA q), L, L⟩ : Sl).len : Int) ∧ ∃ h66 : Hp, StL h53 (a62.add (Int.toNat k50 * 1)) [.int .u8 n60] h66 ∧ ∃ n68 : Int, Wr .i64 (k50 + 1) n68 ∧ ∃ m70, m70 < m52 ∧ I51 m70 n68 h66)) ∧
        ((decide (k50 < (L : Int))) = false → K h53)) := by
  refine ⟨fun m k hx => ∃ (j : Nat) (bs : List UInt8), k = j ∧ j ≤ L ∧ m = L - j ∧ bs.length = L ∧ Bk hx q (bs.map bv) 5 ∧ Kp (fun x => x = q) h hx, ⟨_, 0, b0, rfl, by omega, rfl, hl, hb, Kp.refl _ _⟩, ?_⟩
  rintro m k hx ⟨j, bs, rfl, hj, rfl, hlen, hb', hk'⟩
  refine dcd (fun hlt => ?_) (fun hge => hK bs hx hlen hb' hk')
  have hu : (UInt8.ofNat ((i + (j : Int)) % 256).toNat).toNat = ((i + (j : Int)) % 256).toNat := by rw [UInt8.toNat_ofNat']; omega
  have hst : StL hx ((nA q).add (Int.toNat (j : Int) * 1)) [bv (UInt8.ofNat ((i + (j : Int)) % 256).toNat)] (setB hx q (Cel ((bs.set j (UInt8.ofNat ((i + (j : Int)) % 256).toNat)).map bv) 5)) := by
    have := hb'.sti j (bv (UInt8.ofNat ((i + (j : Int)) % 256).toNat)) (by rw [List.length_map]; omega)
    rw [← List.map_set] at this
    rw [Int.toNat_natCast, Nat.mul_one]; exact this
  exact ⟨i + j, Wr.i64 (by omega) (by omega), ((UInt8.ofNat ((i + (j : Int)) % 256).toNat).toNat : Int), by unfold Wr; rw [wrap_u8, hu]; omega, nA q, rfl, by omega, by show (j : Int) < (L : Int); omega, _, hst, (j : Int) + 1, Wr.i64 (by omega) (by omega), L - (j + 1), by omega,
    j + 1, _, by omega, by omega, rfl, by rw [List.length_set]; exact hlen, hb'.set, Kp.set hk' _ (.inr rfl)⟩

/-- Between two rounds. -/
structure RI (st n i : Nat) (m : Md) (l : Lg) : Prop where
  v : Live m l
  st : l.st = st
  n : l.n = n
  rc : l.recs = []
  hd : l.head.lsn = l.next
  du : l.durable = l.next
  rs : l.reserved = 0
  tn : l.head.turn ≤ 3 + i
  nx : l.next ≤ 1 + 41 * i
  pd : m.pend.length ≤ 10000

theorem law3_WalRound_c {start count : Int} {s : Sl} {xs : List Int} (hs : Arr h s 1 IsI xs) (hl : xs.length ≤ 1048576) : law3_WalRound start count s (LawK h) h := by
  refine law3_walLife_c fun st n t mb p q m h1 o1 A1 hst hn hf w1 => ⟨fun e => (nomatch e), fun _ => ?_⟩
  have e5 := Int.emod_nonneg start (show (5 : Int) ≠ 0 by decide)
  have e6 := Int.emod_lt_of_pos start (show (0 : Int) < 5 by decide)
  have e7 := Int.emod_nonneg count (show (40 : Int) ≠ 0 by decide)
  have e8 := Int.emod_lt_of_pos count (show (0 : Int) < 40 by decide)
  have hn4 : 4 ≤ n := by omega
  have hn43 : n ≤ 43 := by omega
  have hsl := hs.len
  generalize hmc : [Value.slice none 0 0, .int .i64 0, .int .i64 0, .int .i64 0, .int .i64 1, .int .i64 ((n : Int) - 2)] = mc at w1
  refine ⟨fun k nx i hx => ∃ (j : Nat) (m : Md) (l : Lg) (o : Nat → Nat) (A : Nat → Ass), i = j ∧ j ≤ xs.length ∧ k = xs.length - j ∧ nx = l.next ∧ RI st n j m l ∧ Lf h hx t mb p q m l mc false false o A,
    ⟨_, 0, m, lg0 st n, o1, A1, rfl, by omega, rfl, rfl, ⟨Live.fresh hf.f hf.len hn4, rfl, rfl, rfl, rfl, rfl, rfl, by show 3 ≤ _; omega, by show 1 ≤ _; omega, by have := hf.pend; omega⟩, w1⟩, ?_⟩
  clear w1 hf m h1 o1 A1
  rintro k nx i hx ⟨j, m, l, o, A, rfl, hj, rfl, rfl, ri, w⟩
  refine ⟨fun b hy => hy = hx ∧ b = decide (j < xs.length ∧ j < 65536), ?_, dcd (fun h1 => ⟨rfl, by rw [Bool.eq_iff_iff]; simp only [decide_eq_true_eq]; omega⟩) (fun h1 => ⟨rfl, by symm; simp only [decide_eq_false_iff_not]; omega⟩)⟩
  rintro b hy ⟨rfl, rfl⟩
  have bt := w.bk.1
  refine dcd (fun hgo => ?_) (fun hend => ?_)
  · obtain ⟨hjl, hj6⟩ := hgo
    obtain ⟨a, ha, cs, hcs, _, hr⟩ := hs.ptr hjl
    have hr1 := RdL.kp0 hr w.kp
    rw [hcs] at hr1
    obtain ⟨v, est, en, rc, hd, du, rs, tn, hnx, pd⟩ := ri
    have bn : (l.n : Int) = n := by rw [en]
    refine ⟨a, ha, by omega, by omega, xs[j], by rw [Int.toNat_natCast]; exact hr1 0 _ rfl, nA t, rfl, (l.n : Int), bt.rdi 4 rfl, (n : Int) - 2, by rw [bn]; exact Wr.i64 (by omega) (by omega), ((n : Int) - 2) * 104, Wr.i64 (by omega) (by omega), ((n : Int) - 2) * 104 + 1, Wr.i64 (by omega) (by omega), ?_⟩
    refine law3_walMod_c (by omega) (by omega) fun z1 z2 => ?_
    obtain ⟨z, hz⟩ : ∃ z : Nat, xs[j] % (((n : Int) - 2) * 104 + 1) = z := ⟨(xs[j] % (((n : Int) - 2) * 104 + 1)).toNat, by omega⟩
    rw [hz] at z1 z2 ⊢
    have hneed : needN z ≤ n - 2 := by unfold needN; split <;> omega
    have hzz : zr [.int .u8 0] (Int.toNat (z : Int) * 1) = (List.replicate z (0 : UInt8)).map bv := by
      rw [Int.toNat_natCast, Nat.mul_one, List.map_replicate]
      exact zr_zero z 1 (by decide)
    refine ⟨by omega, by omega, by omega, _, _, _, rfl, rfl, rfl, ?_⟩
    rw [hzz, Int.toNat_natCast]
    have k2 : Kp (fun _ => False) hy (hy.push (Cel ((List.replicate z (0 : UInt8)).map bv) 5)) := Kp.push (Kp.refl _ _) _
    have hb2 := Bk.new hy ((List.replicate z (0 : UInt8)).map bv) 5
    obtain ⟨w2, t2⟩ := w.fresh 8 k2
    have ob2 : Gro o 8 hy hy.size = 8 := by simp [Gro]
    have hlz : (List.replicate z (0 : UInt8)).length = z := List.length_replicate
    generalize hy.push (Cel ((List.replicate z (0 : UInt8)).map bv) 5) = h2 at *
    generalize Gro o 8 hy = o2 at *
    generalize hy.size = b at *
    refine fill_c hb2 hlz (by omega) (by omega) (by omega) fun data h3 hlen hb3 k3 => ?_
    have k3' : Kp (fun x => o2 x = 8) h2 h3 := k3.mono fun x _ hx => by rw [hx]; exact ob2
    obtain ⟨w3, t3⟩ := w2.else8 k3'
    have by3 : Byt h3 ⟨some (nA b), z, z⟩ data := ⟨hlen.symm, Nat.le_refl _, hb3.rd0⟩
    have ob3 : Gro o2 8 h2 b = 8 := by rw [Gro.old hb2.lt]; exact ob2
    generalize Gro o2 8 h2 = o3 at *
    have bt3 := w3.bk.1
    have hkind : 1 ≤ (1 : Int) + (j : Int) % 255 ∧ (1 : Int) + (j : Int) % 255 ≤ 255 := by omega
    refine ⟨q, bt3.rdi 1 rfl, law3_walMod_c (by decide) (by decide) fun c1 c2 => ⟨bt3.rdi 1 rfl, 1 + (j : Int) % 255, Wr.i64 (by omega) (by omega), ?_⟩⟩
    have hneed2 : needN data.length ≤ n - 2 := by rw [hlen]; exact hneed
    have hfree : l.free = n - 2 := by
      show l.n - 2 - (l.next - l.head.lsn) - l.reserved = n - 2
      rw [hd, rs, en]; omega
    obtain ⟨g1, g2, g3, g4, g5, g6⟩ := append_live (kind := 1 + (j : Int) % 255) (data := data) (fl := false) v hkind (by omega) (fun e => (nomatch e)) (fun _ => by rw [hfree]; exact hneed2) (by omega)
    refine wal_Append_c (i := 1) (j := 3) w3.ow w3.a1 w3.a3 (by decide) v.w v.hin (by omega) by3 (fun y hy => ?_) fun h4 o4 w4 t4 => ?_
    · obtain ⟨a, ha, rfl⟩ := hy
      cases ha
      show o3 b ≠ 1 ∧ o3 b ≠ 3
      rw [ob3]; decide
    rw [g2] at w4
    rw [g1]
    have by4 : Byt h4 ⟨some (nA b), z, z⟩ data := t4.by by3 fun a ha hne => by
      cases ha
      show ¬ (o3 b = 1 ∨ o3 b = 3)
      rw [ob3]; decide
    have ob4 : o4 b = 8 := by rw [t4.own _ hb3.lt]; exact ob3
    have lb4 : b < h4.size := Nat.lt_of_lt_of_le hb3.lt t4.size
    have w4' := w3.to (l' := l.app ((1 + (j : Int) % 255).toNat) data false) rfl rfl w4
    have bt4 := w4'.bk.1
    generalize (l.append m (1 + (j : Int) % 255) data false).2.2 = m1 at *
    obtain ⟨f1, f2, f3, f4, f5, f6, f7, f8⟩ := flush_live g3
    have hdur : (l.app ((1 + (j : Int) % 255).toNat) data false).durable ≠ (l.app ((1 + (j : Int) % 255).toNat) data false).next := by
      show l.durable ≠ l.next + needN data.length
      have := needN_pos data.length; omega
    -- behind the flush
    refine ⟨fun bb hz => bb = false ∧ ∃ o5 A5 m2, Lf h hz t mb p q m2 (l.app ((1 + (j : Int) % 255).toNat) data false).flu mc false false o5 A5 ∧ Live m2 (l.app ((1 + (j : Int) % 255).toNat) data false).flu ∧ m2.pend = [] ∧ Byt hz ⟨some (nA b), z, z⟩ data ∧ o5 b = 8 ∧ b < hz.size, ?_, ⟨fun e => (nomatch e), fun _ => dcn (fun e => (e rfl).elim) fun _ => ⟨q, bt4.rdi 1 rfl, wal_Flush_c (i := 1) (j := 3) w4'.ow w4'.a1 w4'.a3 (by decide) fun h5 o5 w5 t5 => ?_⟩⟩⟩
    rotate_left
    · rw [f1]
      refine ⟨rfl, o5, _, _, w4'.to (l' := (l.app ((1 + (j : Int) % 255).toNat) data false).flu) rfl rfl (by rw [f2] at w5; exact w5), f3, f6 hdur, t5.by by4 fun a ha hne => ?_, by rw [t5.own _ lb4]; exact ob4, Nat.lt_of_lt_of_le lb4 t5.size⟩
      cases ha
      show ¬ (o4 b = 1 ∨ o4 b = 3)
      rw [ob4]; decide
    clear f1 f2 f3 f4 f5 f6 f7 f8 w4' w4 bt4 t4 w3 t3 w2 t2 k2 k3 k3' by3 ob3 bt3 by4
    rintro bb hz ⟨rfl, o5, A5, m2, w5, v5, pd5, by5, ob5, lb5⟩
    refine ⟨fun e => (nomatch e), fun _ => ?_⟩
    have bt5 := w5.bk.1
    have hl2r : Lg.records (l.app ((1 + (j : Int) % 255).toNat) data false).flu = [⟨l.next, (1 + (j : Int) % 255).toNat, data, l.head.round⟩] := by
      unfold Lg.records
      have e1 : (l.app ((1 + (j : Int) % 255).toNat) data false).flu.dead = false := v.up
      rw [if_neg (by rw [e1]; decide)]
      show l.recs ++ [_] = _
      rw [rc]; rfl
    refine ⟨q, bt5.rdi 1 rfl, wal_Records_c (j := 3) w5.ow w5.a3 v5.w fun sr rs h6 k6 r6 e6 => ?_⟩
    rw [hl2r] at e6
    obtain ⟨w6, t6⟩ := w5.fresh 8 k6
    have by6 := by5.kp k6 fun _ _ h => h
    obtain ⟨x, rfl⟩ : ∃ x, rs = [x] := by
      cases rs with
      | nil => simp at e6
      | cons x r => cases r with
        | nil => exact ⟨x, rfl⟩
        | cons y r => simp at e6
    have ex : x.1 = ⟨l.next, (1 + (j : Int) % 255).toNat, data, l.head.round⟩ := by simpa using e6
    have hlen6 := rcl_len r6
    have hsr : sr.len = 1 := hlen6
    obtain ⟨pa, hpa, hp0, hp1, hp2⟩ := rcl_at r6 (i := 0) (by simp)
    have hx0 : ([x] : List (Rec × Sl))[0] = x := rfl
    rw [hx0, ex] at hp0
    rw [hx0] at hp2
    have hdat := r6.dat x (by simp)
    rw [ex] at hdat
    have bt6 := w6.bk.1
    refine ⟨fun bb hw => bb = false ∧ hw = h6, ?_, dcn (fun hne => by rw [hsr] at hne; exact (hne rfl).elim) fun _ => ⟨pa, hpa, by rw [hsr]; decide, _, hp0, dcn (fun hne => (hne rfl).elim) fun _ => ⟨by rw [hsr]; decide, x.2, hp2, law3_walSame_c hdat by6 (by show data.length < _; omega) ⟨rfl, rfl⟩⟩⟩⟩
    rintro bb hw ⟨rfl, rfl⟩
    refine ⟨fun e => (nomatch e), fun _ => law3_walNeed_c (by omega) ?_⟩
    have hnd : needN data.length = needN z := by rw [hlen]
    have hl2 : (l.app ((1 + (j : Int) % 255).toNat) data false).flu.next = l.next + needN z := by rw [← hnd]; rfl
    have hnp := needN_pos z
    generalize hL : (l.app ((1 + (j : Int) % 255).toNat) data false).flu = l2 at *
    have hl2d : l2.durable = l2.next := by rw [← hL]; rfl
    have hl2h : l2.head = l.head := by rw [← hL]; rfl
    have hl2s : l2.st = l.st := by rw [← hL]; rfl
    have hl2n : l2.n = l.n := by rw [← hL]; rfl
    have hl2v : l2.reserved = 0 := by rw [← hL]; exact rs
    have hl2c : l2.recs.length = 1 := by rw [← hL]; show (l.recs ++ [_]).length = 1; rw [rc]; rfl
    have hcap : m2.pend.length < 1000000000000 := by rw [pd5]; decide
    obtain ⟨c1, c2, c3, c4, c5, c6⟩ := cut_live v5 (gone_end v5.w hl2d) (by rw [hl2h, hl2]; omega) (by rw [hl2h]; omega) (by omega)
    refine ⟨((l2.next : Nat) : Int), by rw [hl2, Int.natCast_add]; exact Wr.i64 (by omega) (by omega), ?_⟩
    refine ⟨fun bb hu => bb = false ∧ ∃ o A m3 l3, Lf h hu t mb p q m3 l3 mc false false o A ∧ RI st n (j + 1) m3 l3 ∧ l3.next = l2.next, ?_, q, bt6.rdi 1 rfl, wal_Cut_c (i := 1) (j := 3) w6.ow w6.a1 w6.a3 (by decide) v5.w hcap fun h7 o7 w7 t7 => ?_⟩
    · rintro bb hu ⟨rfl, o8, A8, m3, l3, w8, r8, e8⟩
      exact ⟨fun e => (nomatch e), fun _ => ⟨(j : Int) + 1, Wr.i64 (by omega) (by omega), xs.length - (j + 1), by omega, j + 1, m3, l3, o8, A8, by omega, by omega, rfl, by rw [e8], r8, w8⟩⟩
    rw [c2] at w7
    rw [c1]
    have w7' := w6.to (l' := l2.ct l2.recs.length l2.next) rfl rfl w7
    generalize (l2.cut m2 l2.next).2.2 = m3 at *
    refine ⟨fun e => (nomatch e), fun _ => ⟨q, w7'.bk.1.rdi 1 rfl, wal_Stat_c (j := 3) w7'.ow w7'.a3 c3.w fun h8 k8 => ?_⟩⟩
    obtain ⟨w8, t8⟩ := w7'.fresh 8 k8
    have hlive : (l2.ct l2.recs.length l2.next).live = 0 := by show l2.next - l2.next = 0; omega
    rw [hlive]
    refine ⟨rfl, _, _, m3, _, w8, ⟨c3, by show l2.st = st; omega, by show l2.n = n; omega, List.drop_length, rfl, rfl, hl2v, by show l2.head.turn + 1 ≤ _; rw [hl2h]; omega, by show l2.next ≤ _; omega, by rw [pd5] at c5; simp at c5; omega⟩, rfl⟩
  · refine ⟨nA t, rfl, q, bt.rdi 1 rfl, wal_Stat_c (j := 3) w.ow w.a3 ri.v.w fun h2 k2 => ⟨by simp, w.kp.trans k2⟩⟩
end
end Go.Proofs.Ythpeadoidpimmaa
