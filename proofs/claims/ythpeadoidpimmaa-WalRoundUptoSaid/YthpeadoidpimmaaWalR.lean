/- A record on the disk: what the program finds. No condition. -/
import Derived.Test.YthpeadoidpimmaaWalL
namespace Go.Proofs.Ythpeadoidpimmaa
open Go Tw
set_option linter.unusedVariables false
set_option linter.unusedSimpArgs false
set_option maxRecDepth 10000
set_option maxHeartbeats 1000000

section
variable {h : Hp} {p : Option Addr} {m : Md} {F : Nat → Prop} {st n : Nat}

/-- The payload bytes of the first i sectors from q on. -/
def catP (rd : Nat → List UInt8) (st n q i : Nat) : List UInt8 := (List.range i).flatMap fun j => ((rd (place st n (q + j))).drop 24).take 104
theorem catP_succ (rd : Nat → List UInt8) (st n q i : Nat) : catP rd st n q (i + 1) = catP rd st n q i ++ ((rd (place st n (q + i))).drop 24).take 104 := by
  simp [catP, List.range_succ]
theorem catP_len {rd : Nat → List UInt8} {st n q : Nat} (h : ∀ j, (rd (place st n (q + j))).length = 128) (i : Nat) : (catP rd st n q i).length = 104 * i := by
  induction i with
  | zero => rfl
  | succ i ih => rw [catP_succ, List.length_append, ih]; simp [h]; omega

theorem need_nat (k : Nat) (hk : k ≤ 32768) : need (k : Int) = ((needN k : Nat) : Int) := by
  unfold need needN
  rw [if_neg (by omega)]
  by_cases h0 : k = 0
  · subst h0; rfl
  · rw [if_neg (by omega), if_neg h0]; omega
theorem needN_le (k : Nat) (hk : k ≤ 32768) : needN k ≤ 316 := by unfold needN; split <;> omega
theorem needN_in {k i : Nat} (h : i < needN k) : 104 * i ≤ k := by unfold needN at h; split at h <;> omega
theorem needN_all (k : Nat) : k ≤ 104 * needN k := by unfold needN; split <;> omega

/-- Does sector i of a record say what it must? -/
def okAt (rd : Nat → List UInt8) (st n q : Nat) (mk : Mk) (i : Nat) : Bool := okMark (rd (place st n (q + i))) == some ⟨mk.round, q + i, mk.kind, i, mk.len⟩
theorem recAt_none0 {rd : Nat → List UInt8} {q low high room : Nat} (h : okMark (rd (place st n q)) = none) : recAt rd st n q low high room = none := by unfold recAt; rw [h]
theorem recAt_none1 {rd : Nat → List UInt8} {q low high room : Nat} {mk : Mk} (h : okMark (rd (place st n q)) = some mk) (hb : mk.round < low ∨ high < mk.round ∨ room < needN mk.len ∨ 1099511627776 < q + needN mk.len - 1) : recAt rd st n q low high room = none := by
  unfold recAt; rw [h]
  exact if_pos (by rcases hb with h | h | h | h <;> simp [h])
theorem recAt_none2 {rd : Nat → List UInt8} {q low high room i : Nat} {mk : Mk} (h : okMark (rd (place st n q)) = some mk) (hi : i < needN mk.len) (hb : okAt rd st n q mk i = false) : recAt rd st n q low high room = none := by
  unfold recAt; rw [h]
  refine if_pos (.inr (.inr (.inr (.inr fun hall => ?_))))
  have := List.all_eq_true.1 hall i (List.mem_range.2 hi)
  unfold okAt at hb
  rw [hb] at this; cases this
theorem recAt_some {rd : Nat → List UInt8} {q low high room : Nat} {mk : Mk} (h : okMark (rd (place st n q)) = some mk) (hb : ¬ (mk.round < low ∨ high < mk.round ∨ room < needN mk.len ∨ 1099511627776 < q + needN mk.len - 1))
    (hall : ∀ i, i < needN mk.len → okAt rd st n q mk i = true) : recAt rd st n q low high room = some ⟨q, mk.kind, (catP rd st n q (needN mk.len)).take mk.len, mk.round⟩ := by
  unfold recAt; rw [h]
  refine if_neg fun hh => ?_
  rcases hh with h1 | h1 | h1 | h1 | h1
  · exact hb (.inl h1)
  · exact hb (.inr (.inl h1))
  · exact hb (.inr (.inr (.inl h1)))
  · exact hb (.inr (.inr (.inr h1)))
  · exact h1 (List.all_eq_true.2 fun i hi => hall i (List.mem_range.1 hi))

theorem okMark_some {l : List UInt8} {mk : Mk} (h : okMark l = some mk) : mk.round ≤ 2147483647 ∧ mk.lsn ≤ 1099511627776 ∧ mk.kind < 256 ∧ mk.kind ≠ 0 ∧ mk.part < 65536 ∧ mk.len ≤ 32768 := by
  unfold okMark at h
  split at h
  · rename_i hh
    cases h
    have f1 := fld_lt l 16 1
    have f2 := fld_lt l 18 2
    exact ⟨hh.2.2.2.2.1, hh.2.2.2.1, by simpa using f1, hh.2.2.1, by simpa using f2, hh.2.2.2.2.2⟩
  · cases h

theorem App.bytes {h : Hp} {s x : Sl} {cs news : List UInt8} {K : Sl → Hp → Prop} (hv : Vec h s 1 5 (cs.map bv)) (hx : Byt h x news) (hb : cs.length + news.length ≤ 140737488355328)
    (hK : ∀ s' h', Vec h' s' 1 5 ((cs ++ news).map bv) → Kp s.blk h h' → (∀ b, s'.blk b → s.blk b ∨ h.size = b) → K s' h') : App h s x 1 1 5 [.int .u8 0] K := by
  have hl := hv.len
  simp at hl
  refine hv.app (Byt.rds hx) (oneC_bytes _) (by rw [hx.len]; omega) fun s' h' hv' _ hk hn => hK s' h' ?_ hk hn
  rw [List.map_append]; exact hv'

theorem wal_record_c {q room low high : Nat} {K : Int → Int → Sl → Int → Int → Hp → Prop} (d : PD h p m F) (hn : 4 ≤ n) (hm : st + n ≤ m.laid.length) (hd : m.down = false) (hq : 1 ≤ q) (hq2 : q ≤ 1099511627777)
    (hroom : room ≤ 4096) (hhigh : high ≤ 2147483647)
    (hK1 : ∀ r s h', recAt m.newest st n q low high room = some r → Kp (fun _ => False) h h' → Vec h' s 1 5 (r.data.map bv) → (∀ x, s.blk x → h.size ≤ x) → K r.lsn r.kind s r.round 0 h')
    (hK0 : recAt m.newest st n q low high room = none → ∀ h', Kp (fun _ => False) h h' → K 0 0 Sl.nil 0 0 h') : wal_area_record p st n q room low high K h := by
  have hwf := d.wf
  have hhi := hwf.hi
  have hb1 := Bk.new h (arC p st n) 164
  have k1 : Kp (fun _ => False) h (h.push (Cel (arC p st n) 164)) := Kp.push (Kp.refl _ _) _
  refine ⟨_, _, rfl, rfl, ?_⟩
  have e1 : (h.push (Cel [.pointer p, .int .i64 (st : Int), .int .i64 (n : Int)] 164)) = h.push (Cel (arC p st n) 164) := rfl
  rw [e1]
  have s1 : (h.push (Cel (arC p st n) 164)).size = h.size + 1 := by simp
  generalize h.push (Cel (arC p st n) 164) = h1 at *
  have hb2 := Bk.new h1 [.int .i64 0, .int .i64 0, .slice none 0 0, .int .i64 0] 184
  have s2 : (h1.push (Cel [.int .i64 0, .int .i64 0, .slice none 0 0, .int .i64 0] 184)).size = h1.size + 1 := by simp
  have k2 : Kp (fun _ => False) h (h1.push (Cel [.int .i64 0, .int .i64 0, .slice none 0 0, .int .i64 0] 184)) := Kp.push k1 _
  have hb12 := hb1.push (Cel [.int .i64 0, .int .i64 0, .slice none 0 0, .int .i64 0] 184)
  refine ⟨_, _, rfl, rfl, ?_⟩
  generalize h1.push (Cel [.int .i64 0, .int .i64 0, .slice none 0 0, .int .i64 0] 184) = h2 at *
  have hb3 := Bk.new h2 (mkC ⟨0, 0, 0, 0, 0⟩) 177
  have k3 : Kp (fun _ => False) h (h2.push (Cel (mkC ⟨0, 0, 0, 0, 0⟩) 177)) := Kp.push k2 _
  have hb13 := hb12.push (Cel (mkC ⟨0, 0, 0, 0, 0⟩) 177)
  have hb23 := hb2.push (Cel (mkC ⟨0, 0, 0, 0, 0⟩) 177)
  refine ⟨_, _, rfl, rfl, ?_⟩
  have e3 : (h2.push (Cel [.int .i64 0, .int .i64 0, .int .u8 0, .int .i64 0, .int .i64 0] 177)) = h2.push (Cel (mkC ⟨0, 0, 0, 0, 0⟩) 177) := rfl
  rw [e3]
  have s3 : (h2.push (Cel (mkC ⟨0, 0, 0, 0, 0⟩) 177)).size = h2.size + 1 := by simp
  generalize h2.push (Cel (mkC ⟨0, 0, 0, 0, 0⟩) 177) = h3 at *
  generalize hq1 : h.size = q1 at *
  generalize hq2' : h1.size = q2 at *
  generalize hq3 : h2.size = q3 at *
  have hsec : ∀ j, (m.newest (place st n (q + j))).length = 128 := fun j => Md.newest_len hwf (by have := place_lt (st := st) (q := q + j) hn; omega)
  have hread : ∀ j : Nat, m.read ((place st n (q + j) : Nat) : Int) = (m.newest (place st n (q + j)), 0) := fun j => by
    have := place_lt (st := st) (q := q + j) hn
    unfold Md.read; rw [if_neg (by omega), if_neg (by simp [hd]), Int.toNat_natCast]
  have none0 : recAt m.newest st n q low high room = none → ∀ hx, Kp (fun _ => False) h hx → Bk hx q2 [.int .i64 0, .int .i64 0, .slice none 0 0, .int .i64 0] 184 →
      ∃ h43 : Hp, StL hx (nA q2) [.int .i64 0, .int .i64 0, .slice none 0 0, .int .i64 0] h43 ∧ ∃ (n45 : Int) (n46 : Int) (s47 : Sl) (n48 : Int), RdL h43 (nA q2) [.int .i64 n45, .int .i64 n46, s47.v, .int .i64 n48] ∧ K n45 n46 s47 n48 0 h43 :=
    fun hno hx kx bx => ⟨_, bx.st0 rfl, 0, 0, Sl.nil, 0, bx.set.rd0, hK0 hno _ (kx.set _ (.inl (by omega)))⟩
  -- what is known at sector i
  let Inv : Nat → Sl → Hp → Prop := fun i s hx => (i = 0 ∧ s = Sl.nil ∧ Bk hx q3 (mkC ⟨0, 0, 0, 0, 0⟩) 177) ∨
    (1 ≤ i ∧ ∃ mk, okMark (m.newest (place st n q)) = some mk ∧ ¬ (mk.round < low ∨ high < mk.round ∨ room < needN mk.len ∨ 1099511627776 < q + needN mk.len - 1) ∧ i ≤ needN mk.len ∧ (∀ j, j < i → okAt m.newest st n q mk j = true) ∧ Bk hx q3 (mkC mk) 177 ∧ Vec hx s 1 5 (((catP m.newest st n q i).take mk.len).map bv))
  refine ⟨fun k s i hh => ∃ j : Nat, i = j ∧ j ≤ 400 ∧ k = 400 - j ∧ Kp (fun _ => False) h hh ∧ Bk hh q1 (arC p st n) 164 ∧ Bk hh q2 [.int .i64 0, .int .i64 0, .slice none 0 0, .int .i64 0] 184 ∧ Inv j s hh ∧ (∀ x, s.blk x → h3.size ≤ x),
    ⟨_, 0, rfl, by omega, rfl, k3, hb13, hb23, .inl ⟨rfl, rfl, hb3⟩, by rintro x ⟨a, ha, _⟩; cases ha⟩, ?_⟩
  rintro k s i h4 ⟨j, rfl, hj, rfl, k4, hb14, hb24, inv, hsn⟩
  refine ⟨fun c hx => hx = h4 ∧ ((c = true ∧ (j = 0 ∨ ∃ mk, okMark (m.newest (place st n q)) = some mk ∧ j < needN mk.len)) ∨ (c = false ∧ ∃ mk, okMark (m.newest (place st n q)) = some mk ∧ 1 ≤ j ∧ j = needN mk.len)), ?_, ?_⟩
  · rintro c hx ⟨rfl, hc⟩
    refine ⟨fun hct => ?_, fun hcf => ?_⟩
    · -- go on
      have hgo : j = 0 ∨ ∃ mk, okMark (m.newest (place st n q)) = some mk ∧ j < needN mk.len := by
        rcases hc with ⟨_, h⟩ | ⟨h, _⟩
        · exact h
        · rw [hct] at h; cases h
      have hj316 : j ≤ 316 := by
        rcases hgo with rfl | ⟨mk, hmk, hlt⟩
        · omega
        · have := needN_le mk.len (okMark_some hmk).2.2.2.2.2; omega
      have eqj : (q : Int) + j = ((q + j : Nat) : Int) := by omega
      refine ⟨fun b e hx2 => e = 0 ∧ Kp (fun _ => False) hx hx2 ∧ Bk hx2 b ((m.newest (place st n (q + j))).map bv) 178 ∧ hx.size ≤ b, ?_, p, st, n, hb14.rd0, p, st, n, hb14.rd0, (q : Int) + j, Wr.i64 (by omega) (by omega), ?_, ?_⟩
      · rintro b e h5 ⟨rfl, k5, hbb, hbl⟩
        refine dcn (fun h => (h rfl).elim) (fun _ => ?_)
        have hb15 := hb14.kp k5 fun h => h
        have hb25 := hb24.kp k5 fun h => h
        have hs128 := hsec j
        -- the data that are there
        have inv5 : Inv j s h5 := by
          rcases inv with ⟨h1, h2, h3⟩ | ⟨h1, mk, a1, a2, a3, a4, a5, a6⟩
          · exact .inl ⟨h1, h2, h3.kp k5 fun h => h⟩
          · exact .inr ⟨h1, mk, a1, a2, a3, a4, a5.kp k5 fun h => h, a6.kp k5 fun _ _ h => h⟩
        have l3 : q3 < hx.size := by
          rcases inv with ⟨h1, h2, h3⟩ | ⟨h1, mk, a1, a2, a3, a4, a5, a6⟩
          · exact h3.lt
          · exact a5.lt
        have l1 := hb14.lt
        have l2 := hb24.lt
        have k35 := k4.trans k5
        -- the end of a pass
        have pass : ∀ (mk : Mk) (bm : Nat) (cs : List Value) (hy : Hp), okMark (m.newest (place st n q)) = some mk → ¬ (mk.round < low ∨ high < mk.round ∨ room < needN mk.len ∨ 1099511627776 < q + needN mk.len - 1) → j < needN mk.len → (∀ c, c < j → okAt m.newest st n q mk c = true) →
            Kp (fun _ => False) h hy → Bk hy q1 (arC p st n) 164 → Bk hy q2 [.int .i64 0, .int .i64 0, .slice none 0 0, .int .i64 0] 184 → Bk hy q3 (mkC mk) 177 → Bk hy b ((m.newest (place st n (q + j))).map bv) 178 → Vec hy s 1 5 ((catP m.newest st n q j).map bv) →
            ∀ (mk2 : Option Mk), okMark (m.newest (place st n (q + j))) = mk2 → (∀ y, mk2 = some y → Bk hy bm (mkC y) 177) → ∀ (b55 : Bool), b55 = mk2.isSome →
            ∃ k69 : Bool → Hp → Prop, (∀ (b68 : Bool) (h72 : Hp), k69 b68 h72 → ((b68 = true → (∃ h75 : Hp, StL h72 (nA q2) [.int .i64 0, .int .i64 0, .slice none 0 0, .int .i64 0] h75 ∧ ∃ (n77 : Int) (n78 : Int) (s79 : Sl) (n80 : Int), RdL h75 (nA q2) [.int .i64 n77, .int .i64 n78, s79.v, .int .i64 n80] ∧ K n77 n78 s79 n80 0 h75)) ∧
              (b68 = false → (∃ n83 : Int, rdc h72 ((nA q3).add 4) = some (.int .i64 n83) ∧ ∃ n84 : Int, Wr .i64 (n83 - (s.len : Int)) n84 ∧ ∃ n86 : Int, n86 = (if n84 < 104 then n84 else (104 : Int)) ∧ ∃ n88 : Int, Wr .i64 ((24 : Int) + n86) n88 ∧ (24 : Int) ≤ n88 ∧ n88 ≤ ((128 : Nat) : Int) ∧
                ∃ s90 : Sl, s90 = slA (nA b) 128 1 (Int.toNat (24 : Int)) (Int.toNat n88) ∧ App h72 s s90 1 1 5 [.int .u8 0] (fun s95 h96 => ∃ n97 : Int, Wr .i64 ((j : Int) + 1) n97 ∧ ∃ m99, m99 < 400 - j ∧ ∃ j' : Nat, n97 = j' ∧ j' ≤ 400 ∧ m99 = 400 - j' ∧ Kp (fun _ => False) h h96 ∧ Bk h96 q1 (arC p st n) 164 ∧ Bk h96 q2 [.int .i64 0, .int .i64 0, .slice none 0 0, .int .i64 0] 184 ∧ Inv j' s95 h96 ∧ (∀ x, s95.blk x → h3.size ≤ x)))))) ∧
              (((!b55) = true → (k69 true hy)) ∧ ((!b55) = false → (∃ (n104 : Int) (n105 : Int) (n106 : Int) (n107 : Int) (n108 : Int), RdL hy (nA bm) [.int .i64 n104, .int .i64 n105, .int .u8 n106, .int .i64 n107, .int .i64 n108] ∧ ∃ n110 : Int, rdc hy ((nA q3).add 0) = some (.int .i64 n110) ∧ ∃ n111 : Int, Wr .i64 ((q : Int) + (j : Int)) n111 ∧ ∃ n114 : Int, rdc hy ((nA q3).add 2) = some (.int .u8 n114) ∧ ∃ n116 : Int, rdc hy ((nA q3).add 4) = some (.int .i64 n116) ∧ k69 (!((n104 == n110) && ((n105 == n111) && ((n106 == n114) && ((n107 == (j : Int)) && ((n108 == n116) && true)))))) hy))) := by
          intro mk bm cs hy hmk hgood hjn hprev ky y1 y2 y3 yb yv mk2 hmk2 hbm b55 hb55
          have hmo := okMark_some hmk
          have hcl := catP_len hsec j
          have h104 := needN_in hjn
          refine ⟨fun c hx2 => hx2 = hy ∧ c = !okAt m.newest st n q mk j, ?_, fun hno => ⟨rfl, ?_⟩, fun hyes => ?_⟩
          · rintro c hx2 ⟨rfl, rfl⟩
            refine ⟨fun hbad => none0 (recAt_none2 hmk hjn (by simpa using hbad)) hx2 ky y2, fun hok => ?_⟩
            have hokj : okAt m.newest st n q mk j = true := by simpa using hok
            have hvl := yv.len
            simp [hcl] at hvl
            -- how much of this sector
            let c := min (mk.len - 104 * j) 104
            have hc104 : c ≤ 104 := Nat.min_le_right _ _
            refine ⟨mk.len, y3.rdi 4 rfl, ((mk.len - 104 * j : Nat) : Int), ?_, ((c : Nat) : Int), ?_, ((24 + c : Nat) : Int), ?_, by omega, by omega, _, rfl, ?_⟩
            · have e : ((mk.len - 104 * j : Nat) : Int) = (mk.len : Int) - (s.len : Int) := by omega
              rw [e]; exact Wr.i64 (by omega) (by omega)
            · show ((min (mk.len - 104 * j) 104 : Nat) : Int) = _
              split <;> omega
            · have e : ((24 + c : Nat) : Int) = 24 + (c : Int) := by omega
              rw [e]; exact Wr.i64 (by omega) (by omega)
            have hby := slA_byt yb hs128 (lo := 24) (hi := 24 + c) (by omega) (by omega) (by omega)
            have e2 : Int.toNat ((24 + c : Nat) : Int) = 24 + c := Int.toNat_natCast _
            rw [e2]
            have e3 : 24 + c - 24 = c := by omega
            rw [e3] at hby
            refine App.bytes yv hby (by rw [hcl]; simp [hs128]; omega) fun s' h' hv' hk' hn' => ?_
            have ksl : Kp (fun _ => False) h h' := ky.and hk' fun x hx => .inl (by have := hsn x hx; omega)
            have nb : ∀ x, s.blk x → h3.size ≤ x := hsn
            refine ⟨_, Wr.i64 (by omega) (by omega), 400 - (j + 1), by omega, j + 1, by omega, by omega, rfl, ksl, y1.kp hk' fun hx => by have := hsn _ hx; omega, y2.kp hk' fun hx => by have := hsn _ hx; omega, .inr ⟨by omega, mk, hmk, hgood, hjn, ?_, y3.kp hk' fun hx => by have := hsn _ hx; omega, ?_⟩, ?_⟩
            · intro c hc
              by_cases hcj : c = j
              · subst hcj; exact hokj
              · exact hprev c (by omega)
            · have e4 : (catP m.newest st n q (j + 1)).take mk.len = catP m.newest st n q j ++ ((m.newest (place st n (q + j))).drop 24).take c := by
                rw [catP_succ, List.take_append, hcl, List.take_of_length_le (by omega), List.take_take]
              rw [e4]; exact hv'
            · intro x hx
              rcases hn' x hx with h1 | h1
              · exact hsn x h1
              · have := ky.size; have := y3.lt; omega
          · have hm2 : mk2 = none := by
              cases mk2 with
              | none => rfl
              | some y => rw [hb55] at hno; cases hno
            have : okAt m.newest st n q mk j = false := by unfold okAt; rw [hmk2, hm2]; rfl
            rw [this]; rfl
          · cases hm2 : mk2 with
            | none => rw [hb55, hm2] at hyes; cases hyes
            | some y =>
              refine ⟨_, _, _, _, _, (hbm y hm2).rd0, _, y3.rdi 0 rfl, (q : Int) + j, Wr.i64 (by omega) (by omega), _, y3.rdi 2 rfl, _, y3.rdi 4 rfl, rfl, ?_⟩
              congr 1
              unfold okAt
              rw [hmk2, hm2, Bool.eq_iff_iff]
              obtain ⟨a, b, c, d, e⟩ := y
              simp only [Bool.and_eq_true, beq_iff_eq, Option.some.injEq, Mk.mk.injEq, and_true]
              omega
        refine wal_readMark_c hbb hs128 (fun y h6 hy k6 => ?_) (fun hy h6 k6 => ?_)
        · have nb := Bk.new h6 (mkC ⟨0, 0, 0, 0, 0⟩) 177
          refine ⟨_, _, rfl, rfl, _, nb.st0 (vs := mkC y) rfl, ?_⟩
          have kk : Kp (fun _ => False) h5 (setB (h6.push (Cel (mkC ⟨0, 0, 0, 0, 0⟩) 177)) h6.size (Cel (mkC y) 177)) := (k6.push _).set _ (.inl k6.size)
          have nbs : Bk (setB (h6.push (Cel (mkC ⟨0, 0, 0, 0, 0⟩) 177)) h6.size (Cel (mkC y) 177)) h6.size (mkC y) 177 := nb.set
          have h6s := k6.size
          generalize setB (h6.push (Cel (mkC ⟨0, 0, 0, 0, 0⟩) 177)) h6.size (Cel (mkC y) 177) = h7 at *
          generalize hbm : h6.size = bm at *
          have k7 := k35.trans kk
          have hb17 := hb15.kp kk fun h => h
          have hb27 := hb25.kp kk fun h => h
          have hbb7 := hbb.kp kk fun h => h
          have l5 := hb15.lt
          have l5b := hbb.lt
          refine ⟨fun hx2 => ∃ mk, okMark (m.newest (place st n q)) = some mk ∧ ¬ (mk.round < low ∨ high < mk.round ∨ room < needN mk.len ∨ 1099511627776 < q + needN mk.len - 1) ∧ j < needN mk.len ∧ (∀ c, c < j → okAt m.newest st n q mk c = true) ∧
              Kp (fun _ => False) h hx2 ∧ Bk hx2 q1 (arC p st n) 164 ∧ Bk hx2 q2 [.int .i64 0, .int .i64 0, .slice none 0 0, .int .i64 0] 184 ∧ Bk hx2 q3 (mkC mk) 177 ∧ Bk hx2 b ((m.newest (place st n (q + j))).map bv) 178 ∧ Vec hx2 s 1 5 ((catP m.newest st n q j).map bv) ∧ Bk hx2 bm (mkC y) 177, ?_, ?_⟩
          · rintro hx2 ⟨mk, a1, a2, a3, a4, a5, a6, a7, a8, a9, a10, a11⟩
            exact pass mk bm [] hx2 a1 a2 a3 a4 a5 a6 a7 a8 a9 a10 (some y) hy (fun z hz => by cases hz; exact a11) true rfl
          · refine dcb (fun hj0 => ?_) (fun hjn0 => ?_)
            · have hj0' : j = 0 := by omega
              subst hj0'
              rw [Nat.add_zero] at hy
              have hmo := okMark_some hy
              refine ⟨y.len, nbs.rdi 4 rfl, wal_Need_c ?_⟩
              rw [need_nat _ hmo.2.2.2.2.2]
              refine ⟨fun c hx2 => hx2 = h7 ∧ c = decide (y.round < low ∨ high < y.round ∨ room < needN y.len ∨ 1099511627776 < q + needN y.len - 1), ?_, fun h => (nomatch h), fun _ => ⟨y.round, nbs.rdi 0 rfl, dcd (fun h1 => ⟨rfl, ?_⟩) (fun h1 => ⟨y.round, nbs.rdi 0 rfl, dcd (fun h2 => ⟨rfl, ?_⟩) (fun h2 => dcd (fun h3 => ⟨rfl, ?_⟩) (fun h3 => ?_))⟩)⟩⟩
              · rintro c hx2 ⟨rfl, rfl⟩
                refine dcd (fun hbad => none0 (recAt_none1 hy hbad) hx2 k7 hb27) (fun hgood => ?_)
                rcases inv5 with ⟨_, hs, h3b⟩ | ⟨h1, _⟩
                · have h3c := h3b.kp kk fun h => h
                  have hne : q3 ≠ bm := by omega
                  refine ⟨_, _, _, _, _, nbs.rd0, _, h3c.st0 (vs := mkC y) rfl, y, hy, hgood, ?_, fun c hc => by omega, k7.set _ (.inl (by omega)), hb17.set_ne (by omega), hb27.set_ne (by omega), h3c.set, hbb7.set_ne (by omega), ?_, nbs.set_ne hne⟩
                  · have := needN_pos y.len; omega
                  · rw [hs]; exact Vec.nil _ _ _
                · omega
              · symm; simp only [decide_eq_true_eq]; omega
              · symm; simp only [decide_eq_true_eq]; omega
              · symm; simp only [decide_eq_true_eq]; omega
              · have hnl := needN_le y.len hmo.2.2.2.2.2
                have hnp := needN_pos y.len
                refine ⟨_, Wr.i64 (e := (q : Int) + (needN y.len : Nat)) (by omega) (by omega), _, Wr.i64 (by omega) (by omega), rfl, ?_⟩
                rw [Bool.eq_iff_iff]; simp only [decide_eq_true_eq]; omega
            · rcases inv5 with ⟨h1, _⟩ | ⟨h1, mk, a1, a2, a3, a4, a5, a6⟩
              · omega
              have hjn : j < needN mk.len := by
                rcases hgo with h0 | ⟨mk', hmk', hlt⟩
                · omega
                · rw [a1] at hmk'; cases hmk'; exact hlt
              have hcl := catP_len hsec j
              have h104 := needN_in hjn
              refine ⟨mk, a1, a2, hjn, a4, k7, hb17, hb27, a5.kp kk fun h => h, hbb7, ?_, nbs⟩
              rw [List.take_of_length_le (by omega)] at a6
              exact a6.kp kk fun _ _ h => h
        · -- no mark
          have nb := Bk.new h6 (mkC ⟨0, 0, 0, 0, 0⟩) 177
          refine ⟨_, _, rfl, rfl, _, nb.st0 (vs := mkC ⟨0, 0, 0, 0, 0⟩) rfl, ?_⟩
          have kk : Kp (fun _ => False) h5 (setB (h6.push (Cel (mkC ⟨0, 0, 0, 0, 0⟩) 177)) h6.size (Cel (mkC ⟨0, 0, 0, 0, 0⟩) 177)) := (k6.push _).set _ (.inl k6.size)
          have nbs : Bk (setB (h6.push (Cel (mkC ⟨0, 0, 0, 0, 0⟩) 177)) h6.size (Cel (mkC ⟨0, 0, 0, 0, 0⟩) 177)) h6.size (mkC ⟨0, 0, 0, 0, 0⟩) 177 := nb.set
          generalize setB (h6.push (Cel (mkC ⟨0, 0, 0, 0, 0⟩) 177)) h6.size (Cel (mkC ⟨0, 0, 0, 0, 0⟩) 177) = h7 at *
          generalize h6.size = bm at *
          have k7 := k35.trans kk
          have hb17 := hb15.kp kk fun h => h
          have hb27 := hb25.kp kk fun h => h
          have hbb7 := hbb.kp kk fun h => h
          refine ⟨fun hx2 => ∃ mk, okMark (m.newest (place st n q)) = some mk ∧ ¬ (mk.round < low ∨ high < mk.round ∨ room < needN mk.len ∨ 1099511627776 < q + needN mk.len - 1) ∧ j < needN mk.len ∧ (∀ c, c < j → okAt m.newest st n q mk c = true) ∧
              Kp (fun _ => False) h hx2 ∧ Bk hx2 q1 (arC p st n) 164 ∧ Bk hx2 q2 [.int .i64 0, .int .i64 0, .slice none 0 0, .int .i64 0] 184 ∧ Bk hx2 q3 (mkC mk) 177 ∧ Bk hx2 b ((m.newest (place st n (q + j))).map bv) 178 ∧ Vec hx2 s 1 5 ((catP m.newest st n q j).map bv), ?_, ?_⟩
          · rintro hx2 ⟨mk, a1, a2, a3, a4, a5, a6, a7, a8, a9, a10⟩
            exact pass mk bm [] hx2 a1 a2 a3 a4 a5 a6 a7 a8 a9 a10 none hy (fun z hz => by cases hz) false rfl
          · refine dcb (fun hj0 => ?_) (fun hjn0 => ?_)
            · have hj0' : j = 0 := by omega
              subst hj0'
              rw [Nat.add_zero] at hy
              refine ⟨0, nbs.rdi 4 rfl, wal_Need_c ?_⟩
              refine ⟨fun c hx2 => hx2 = h7 ∧ c = true, ?_, fun _ => ⟨rfl, rfl⟩, fun h => (nomatch h)⟩
              rintro c hx2 ⟨rfl, rfl⟩
              exact ⟨fun _ => none0 (recAt_none0 hy) hx2 k7 hb27, fun h => (nomatch h)⟩
            · rcases inv5 with ⟨h1, _⟩ | ⟨h1, mk, a1, a2, a3, a4, a5, a6⟩
              · omega
              have hjn : j < needN mk.len := by
                rcases hgo with h0 | ⟨mk', hmk', hlt⟩
                · omega
                · rw [a1] at hmk'; cases hmk'; exact hlt
              have hcl := catP_len hsec j
              have h104 := needN_in hjn
              refine ⟨mk, a1, a2, hjn, a4, k7, hb17, hb27, a5.kp kk fun h => h, hbb7, ?_⟩
              rw [List.take_of_length_le (by omega)] at a6
              exact a6.kp kk fun _ _ h => h
      · rw [eqj]
        refine wal_place_c hn (by omega) (by omega) (by omega) fun h5 k5 => ⟨(hb14.kp k5 fun h => h).rd0, ?_, ?_⟩
        · refine wal_read_c (PD.kpb d (k4.trans k5)) fun bs h6 k6 hbl hbs => ?_
          rw [hread j] at hbs ⊢
          have hb := Bk.new h6 ((List.replicate 128 (0 : UInt8)).map bv) 178
          refine ⟨_, _, rfl, rfl, _, hbl, hb.st0 (by simp [hbl]), rfl, ((k5.trans k6).push _).set _ (.inl (k5.trans k6).size), ?_, (k5.trans k6).size⟩
          have hbe : bs = m.newest (place st n (q + j)) := hbs rfl; rw [← hbe]; exact hb.set
        · have hb := Bk.new h5 ((List.replicate 128 (0 : UInt8)).map bv) 178
          have kz : Kp (fun _ => False) h5 (h5.push (Cel ((List.replicate 128 (0 : UInt8)).map bv) 178)) := Kp.push (Kp.refl _ _) _
          refine ⟨_, _, rfl, rfl, ((hb14.kp k5 fun h => h).push _).rd0, ?_⟩
          refine wal_read_c (PD.kpb d ((k4.trans k5).trans kz)) fun bs h6 k6 hbl hbs => ?_
          rw [hread j] at hbs ⊢
          have hb6 := hb.kp k6 fun h => h
          refine ⟨_, hbl, hb6.st0 (by simp [hbl]), rfl, ((k5.trans kz).trans k6).set _ (.inl k5.size), ?_, k5.size⟩
          have hbe : bs = m.newest (place st n (q + j)) := hbs rfl; rw [← hbe]; exact hb6.set
      · have hb := Bk.new hx ((List.replicate 128 (0 : UInt8)).map bv) 178
        have kz : Kp (fun _ => False) hx (hx.push (Cel ((List.replicate 128 (0 : UInt8)).map bv) 178)) := Kp.push (Kp.refl _ _) _
        refine ⟨_, _, rfl, rfl, (hb14.push _).rd0, (hb14.push _).rd0, ?_⟩
        rw [eqj]
        refine wal_place_c hn (by omega) (by omega) (by omega) fun h5 k5 => ⟨((hb14.push _).kp k5 fun h => h).rd0, ?_⟩
        refine wal_read_c (PD.kpb d ((k4.trans kz).trans k5)) fun bs h6 k6 hbl hbs => ?_
        rw [hread j] at hbs ⊢
        have hb6 := (hb.kp k5 fun h => h).kp k6 fun h => h
        refine ⟨_, hbl, hb6.st0 (by simp [hbl]), rfl, ((kz.trans k5).trans k6).set _ (.inl (Nat.le_refl _)), ?_, Nat.le_refl _⟩
        have hbe : bs = m.newest (place st n (q + j)) := hbs rfl; rw [← hbe]; exact hb6.set
    · -- all its sectors
      have hend : ∃ mk, okMark (m.newest (place st n q)) = some mk ∧ 1 ≤ j ∧ j = needN mk.len := by
        rcases hc with ⟨h, _⟩ | ⟨_, h⟩
        · rw [hcf] at h; cases h
        · exact h
      obtain ⟨mk', hmk', hj1, hjn⟩ := hend
      rcases inv with ⟨h1, _⟩ | ⟨h1, mk, a1, a2, a3, a4, a5, a6⟩
      · omega
      have hmm : mk' = mk := by rw [a1] at hmk'; exact (Option.some.inj hmk').symm
      rw [hmm] at hjn
      have hmo := okMark_some a1
      have hrec := recAt_some (st := st) (n := n) (low := low) (high := high) (room := room) a1 a2 (fun i hi => a4 i (by omega))
      rw [← hjn] at hrec
      refine ⟨mk.kind, a5.rdi 2 rfl, mk.kind, Wr.i64 (by omega) (by omega), mk.round, a5.rdi 0 rfl, _, hb24.st0 (vs := [.int .i64 q, .int .i64 mk.kind, s.v, .int .i64 mk.round]) rfl, q, mk.kind, s, mk.round, hb24.set.rd0, ?_⟩
      have kf : Kp (fun _ => False) h (setB hx q2 (Cel [.int .i64 q, .int .i64 mk.kind, s.v, .int .i64 mk.round] 184)) := k4.set _ (.inl (by omega))
      have ks : Kp (fun x => x = q2) hx (setB hx q2 (Cel [.int .i64 q, .int .i64 mk.kind, s.v, .int .i64 mk.round] 184)) := Kp.set (F := fun x => x = q2) (Kp.refl _ _) _ (.inr rfl)
      exact hK1 _ s _ hrec kf (a6.kp ks fun x hx e => by have := hsn x hx; omega) fun x hx => by have := hsn x hx; omega
  · rcases inv with ⟨h1, _⟩ | ⟨h1, mk, a1, a2, a3, a4, a5, a6⟩
    · subst h1
      exact dcb (fun _ => ⟨rfl, .inl ⟨rfl, .inl rfl⟩⟩) (fun h => (h rfl).elim)
    · have hmo := okMark_some a1
      refine dcb (fun h0 => by omega) (fun _ => ⟨mk.len, a5.rdi 4 rfl, wal_Need_c ⟨rfl, ?_⟩⟩)
      rw [need_nat _ hmo.2.2.2.2.2]
      by_cases hlt : j < needN mk.len
      · exact .inl ⟨by simp; omega, .inr ⟨mk, a1, hlt⟩⟩
      · exact .inr ⟨by simp; omega, mk, a1, h1, by omega⟩
end
end Go.Proofs.Ythpeadoidpimmaa
