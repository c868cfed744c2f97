/- trellislaw3's great laws: what a step keeps, the world of two logs, its calls, scripts, the laying of the world. No condition but bounds on the script. -/
import Derived.Test.YthpeadoidpimmaaGreatLogL
import Derived.Test.YthpeadoidpimmaaGreatRefQ
import Derived.Test.YthpeadoidpimmaaGreatGLawC
import Derived.Test.YthpeadoidpimmaaGreatOpen
import Derived.Test.YthpeadoidpimmaaGreatRow
namespace Tw
open Go
set_option linter.unusedVariables false
set_option linter.unusedSimpArgs false

structure Keeps (l l' : Lg) (m m' : Md) : Prop where
  wf : l'.Wf
  st : l'.st = l.st
  n : l'.n = l.n
  len : m'.laid.length = m.laid.length
  pend : m'.pend.length ≤ m.pend.length + 320

theorem Keeps.refl {l : Lg} {m : Md} (h : l.Wf) : Keeps l l m m := ⟨h, rfl, rfl, rfl, Nat.le_add_right _ _⟩
theorem Lg.Wf.dead {l : Lg} (h : l.Wf) : ({ l with dead := true } : Lg).Wf := ⟨h.n4, h.nm, h.lo, h.ch, h.room, h.nx, h.du, h.rd, h.tn, h.rl⟩

theorem append_keeps {l : Lg} {m : Md} {kind : Int} {data : List UInt8} {fl : Bool} (h : l.Wf) : Keeps l (l.append m kind data fl).2.1 m (l.append m kind data fl).2.2 := by
  unfold Lg.append
  split
  · exact Keeps.refl h
  · rename_i hg
    split
    · exact Keeps.refl h
    · split
      · exact Keeps.refl h
      · rename_i hres
        split
        · exact Keeps.refl h
        · rename_i hfit
          have hp := Go.Proofs.YthpeadoidpimmaaGreat.runs_pend (recA l.st l.n l.head.round l.next kind.toNat data) m
          have hl := Go.Proofs.YthpeadoidpimmaaGreat.runs_len (recA l.st l.n l.head.round l.next kind.toNat data) m
          rw [Go.Proofs.YthpeadoidpimmaaGreat.recA_len] at hp
          have hnl := Go.Proofs.YthpeadoidpimmaaGreat.needN_le data.length (by omega)
          simp only
          split
          · refine ⟨⟨h.n4, h.nm, h.lo, Chain.snoc h.ch rfl, ?_, ?_, ?_, h.rd, h.tn, ?_⟩, rfl, rfl, hl, by show (runs m _).2.pend.length ≤ _; omega⟩
            · have hr := h.room
              have hcl := Chain.le h.ch
              show l.next + needN data.length - l.head.lsn + (if fl then l.reserved - needN data.length else l.reserved) ≤ l.n - 2
              cases fl with
              | true =>
                have : ¬ l.reserved < needN data.length := fun h => hres ⟨rfl, h⟩
                simp only [if_true]; omega
              | false =>
                have : ¬ l.free < needN data.length := fun h => hfit (.inl ⟨rfl, h⟩)
                have hf : l.free = l.n - 2 - (l.next - l.head.lsn) - l.reserved := rfl
                simp only [Bool.false_eq_true, if_false]; omega
            · show l.next + needN data.length ≤ _
              have hnp := needN_pos data.length
              omega
            · show l.durable ≤ l.next + needN data.length
              have := h.du; omega
            · intro r hr
              rcases List.mem_append.1 hr with hr | hr
              · exact h.rl r hr
              · simp at hr; subst hr
                exact ⟨by show data.length ≤ _; omega, by show kind.toNat < 256; omega, h.rd⟩
          · exact ⟨h.dead, rfl, rfl, hl, by show (runs m _).2.pend.length ≤ _; omega⟩

theorem flush_keeps {l : Lg} {m : Md} (h : l.Wf) : Keeps l (l.flush m).2.1 m (l.flush m).2.2 := by
  have hp := Go.Proofs.YthpeadoidpimmaaGreat.Md.flush_pend' m
  have hl := Go.Proofs.YthpeadoidpimmaaGreat.Md.flush_len m
  unfold Lg.flush
  split
  · exact Keeps.refl h
  · split
    · exact Keeps.refl h
    · split
      · exact ⟨⟨h.n4, h.nm, h.lo, h.ch, h.room, h.nx, Nat.le_refl _, h.rd, h.tn, h.rl⟩, rfl, rfl, hl, by show m.flush.2.pend.length ≤ _; omega⟩
      · exact ⟨h.dead, rfl, rfl, hl, by show m.flush.2.pend.length ≤ _; omega⟩

theorem cut_keeps {l : Lg} {m : Md} {lsn : Int} (h : l.Wf) : Keeps l (l.cut m lsn).2.1 m (l.cut m lsn).2.2 := by
  unfold Lg.cut
  split
  · exact Keeps.refl h
  · split
    · exact Keeps.refl h
    · rename_i k hg
      split
      · exact Keeps.refl h
      · split
        · exact Keeps.refl h
        · rename_i hb
          obtain ⟨g1, g2, g3, g4⟩ := Go.Proofs.YthpeadoidpimmaaGreat.gone_le h hg
          have hlo := h.lo
          have htn := h.tn
          have hro := h.room
          simp only
          have hp := Go.Proofs.YthpeadoidpimmaaGreat.runs_pend (layA l.st l.n ⟨l.head.round, lsn.toNat, l.head.turn + 1, ((l.recs[k]?).map (·.round)).getD l.head.round⟩) m
          have hl := Go.Proofs.YthpeadoidpimmaaGreat.runs_len (layA l.st l.n ⟨l.head.round, lsn.toNat, l.head.turn + 1, ((l.recs[k]?).map (·.round)).getD l.head.round⟩) m
          have h2 : (layA l.st l.n ⟨l.head.round, lsn.toNat, l.head.turn + 1, ((l.recs[k]?).map (·.round)).getD l.head.round⟩).length = 2 := rfl
          split
          · exact ⟨⟨h.n4, h.nm, by show 1 ≤ lsn.toNat; omega, g4, by show l.next - lsn.toNat + l.reserved ≤ l.n - 2; omega, h.nx, Nat.le_refl _, h.rd, by show l.head.turn + 1 ≤ _; omega, fun r hr => h.rl r (List.mem_of_mem_drop hr)⟩, rfl, rfl, hl, by show (runs m _).2.pend.length ≤ _; omega⟩
          · exact ⟨h.dead, rfl, rfl, hl, by show (runs m _).2.pend.length ≤ _; omega⟩

theorem reserve_wf {l : Lg} {k : Int} (h : l.Wf) : (l.reserve k).2.Wf ∧ (l.reserve k).2.st = l.st ∧ (l.reserve k).2.n = l.n := by
  unfold Lg.reserve
  split
  · exact ⟨h, rfl, rfl⟩
  · split
    · exact ⟨h, rfl, rfl⟩
    · split
      · exact ⟨h, rfl, rfl⟩
      · have hf : l.free = l.n - 2 - (l.next - l.head.lsn) - l.reserved := rfl
        have := h.room
        exact ⟨⟨h.n4, h.nm, h.lo, h.ch, by show l.next - l.head.lsn + (l.reserved + k.toNat) ≤ l.n - 2; omega, h.nx, h.du, h.rd, h.tn, h.rl⟩, rfl, rfl⟩
theorem release_wf {l : Lg} {k : Int} (h : l.Wf) : (l.release k).2.Wf ∧ (l.release k).2.st = l.st ∧ (l.release k).2.n = l.n := by
  unfold Lg.release
  split
  · exact ⟨h, rfl, rfl⟩
  · split
    · exact ⟨h, rfl, rfl⟩
    · split
      · exact ⟨h, rfl, rfl⟩
      · have := h.room
        exact ⟨⟨h.n4, h.nm, h.lo, h.ch, by show l.next - l.head.lsn + (l.reserved - k.toNat) ≤ l.n - 2; omega, h.nx, h.du, h.rd, h.tn, h.rl⟩, rfl, rfl⟩
end Tw
namespace Go.Proofs.YthpeadoidpimmaaGreat
open Go Tw
set_option linter.unusedVariables false
set_option linter.unusedSimpArgs false
set_option maxRecDepth 10000
set_option maxHeartbeats 1000000

section
variable {h : Hp}

def marksL : List UInt8 := (List.range 8).map fun i => UInt8.ofNat (200 + i)
theorem marksL_get (i : Nat) (hi : i < 8) : marksL[i]? = some (UInt8.ofNat (200 + i)) := by simp [marksL, hi]

theorem law3_walRoom_c {s : Sl} {bs : List UInt8} {K : Sl → Hp → Prop} (hs : Byt h s bs) (hb : bs.length ≤ 1048576)
    (hK : ∀ s' h', Kp (fun _ => False) h h' → Vec h' s' 1 5 ((bs ++ marksL).map bv) → (∀ b, s'.blk b → h.size ≤ b) → K s' h') : law3_walRoom s K h := by
  have hl := hs.len
  refine ⟨(bs.length : Int) + 8, by rw [hl]; exact Wr.i64 (by omega) (by omega), by omega, by omega, by omega, _, _, _, rfl, rfl, rfl, ?_⟩
  refine ⟨fun m s' n h' => ∃ k : Nat, n = k ∧ k ≤ bs.length ∧ m = bs.length - k ∧ Kp (fun _ => False) h h' ∧ Vec h' s' 1 5 ((bs.take k).map bv) ∧ ∀ b, s'.blk b → h.size ≤ b, ⟨_, 0, rfl, by omega, rfl, Kp.push (Kp.refl _ _) _, ?_, ?_⟩, ?_⟩
  · refine Vec.mk0 _ _ _ _ _ _ _ ?_ ?_ ?_
    · rw [zr_len]
    · show 0 ≤ _; omega
    · simp
  · rintro b ⟨a, ha, rfl⟩
    cases ha
    exact Nat.le_refl _
  rintro m s' n h1 ⟨k, rfl, hk, rfl, hkp, hv, hbl⟩
  rw [hl]
  refine dcd (fun hlt => ?_) (fun hge => ?_)
  · have hlt' : k < bs.length := by omega
    obtain ⟨a, ha, hr⟩ := (hs.kp hkp (fun _ _ hf => hf)).at hlt'
    refine ⟨a, ha, by omega, by omega, (bs[k].toNat : Int), ?_, _, _, _, rfl, rfl, rfl, ?_⟩
    · rw [Nat.mul_one, Int.toNat_natCast]; exact hr
    have tmp := Bk.new h1 [bv bs[k]] 5
    have k6 : Kp (fun _ => False) h1 (h1.push (Cel [bv bs[k]] 5)) := Kp.push (Kp.refl _ _) _
    have hbyt : Byt (h1.push (Cel [bv bs[k]] 5)) ⟨some (nA h1.size), 1, 1⟩ [bs[k]] := ⟨rfl, Nat.le_refl _, tmp.rd0⟩
    refine App.bytes (hv.kp k6 fun _ _ h => h) hbyt (by simp; omega) fun s7 h7 v7 k7 n7 => ?_
    refine ⟨_, Wr.i64 (by omega) (by omega), bs.length - (k + 1), by omega, k + 1, by omega, by omega, rfl, (hkp.trans k6).and k7 fun y hy => .inl (hbl y hy), ?_, fun y hy => ?_⟩
    · rw [List.take_add_one, List.getElem?_eq_getElem hlt', Option.toList_some]; exact v7
    · rcases n7 y hy with h | h
      · exact hbl y h
      · have := hkp.size; simp at h; omega
  · have hkl : k = bs.length := by omega
    subst hkl
    rw [List.take_length] at hv
    refine ⟨fun m s' n h' => ∃ k : Nat, n = k ∧ k ≤ 8 ∧ m = 8 - k ∧ Kp (fun _ => False) h h' ∧ Vec h' s' 1 5 ((bs ++ marksL.take k).map bv) ∧ ∀ b, s'.blk b → h.size ≤ b, ⟨_, 0, rfl, by omega, rfl, hkp, by rw [List.take_zero, List.append_nil]; exact hv, hbl⟩, ?_⟩
    clear hv hkp hbl hge
    rintro m s2 n h2 ⟨k, rfl, hk8, rfl, hkp, hv, hbl⟩
    refine dcd (fun hlt => ?_) (fun hge => ?_)
    · have hk8' : k < 8 := by omega
      refine ⟨200 + (k : Int), Wr.i64 (by omega) (by omega), ((UInt8.ofNat (200 + k)).toNat : Int), by unfold Wr; rw [wrap_u8, UInt8.toNat_ofNat']; omega, _, _, _, rfl, rfl, rfl, ?_⟩
      have tmp := Bk.new h2 [bv (UInt8.ofNat (200 + k))] 5
      have k6 : Kp (fun _ => False) h2 (h2.push (Cel [bv (UInt8.ofNat (200 + k))] 5)) := Kp.push (Kp.refl _ _) _
      have hbyt : Byt (h2.push (Cel [bv (UInt8.ofNat (200 + k))] 5)) ⟨some (nA h2.size), 1, 1⟩ [UInt8.ofNat (200 + k)] := ⟨rfl, Nat.le_refl _, tmp.rd0⟩
      refine App.bytes (hv.kp k6 fun _ _ h => h) hbyt (by simp; omega) fun s7 h7 v7 k7 n7 => ?_
      refine ⟨_, Wr.i64 (by omega) (by omega), 8 - (k + 1), by omega, k + 1, by omega, by omega, rfl, (hkp.trans k6).and k7 fun y hy => .inl (hbl y hy), ?_, fun y hy => ?_⟩
      · rw [List.take_add_one, marksL_get k hk8', Option.toList_some, ← List.append_assoc]; exact v7
      · rcases n7 y hy with h | h
        · exact hbl y h
        · have := hkp.size; simp at h; omega
    · have hk : k = 8 := by omega
      subst hk
      have : marksL.take 8 = marksL := rfl
      rw [this] at hv
      exact hK s2 h2 hkp hv hbl

theorem law3_walStays_c {s1 s2 : Sl} {bs : List UInt8} {K : Bool → Hp → Prop} (h1 : Byt h s1 (bs ++ marksL)) (h2 : Byt h s2 bs) (hb : bs.length ≤ 1048576) (hK : K true h) : law3_walStays s1 s2 K h := by
  have l1 := h1.len
  have l2 := h2.len
  have hm : marksL.length = 8 := rfl
  rw [List.length_append, hm] at l1
  have hc := h1.cap
  refine ⟨fun k i h' => ∃ j : Nat, i = j ∧ j ≤ 8 ∧ k = 8 - j ∧ h' = h, ⟨_, 0, rfl, by omega, rfl, rfl⟩, ?_⟩
  rintro k i h' ⟨j, rfl, hj, rfl, rfl⟩
  refine dcd (fun hlt => ?_) (fun hge => ?_)
  · have hj8 : j < 8 := by omega
    have hlt2 : bs.length + j < (bs ++ marksL).length := by rw [List.length_append, hm]; omega
    obtain ⟨a, ha, hr⟩ := h1.at hlt2
    have hx : (bs ++ marksL)[bs.length + j] = UInt8.ofNat (200 + j) := by
      have : (bs ++ marksL)[bs.length + j]? = some (UInt8.ofNat (200 + j)) := by
        rw [List.getElem?_append_right (by omega)]
        have : bs.length + j - bs.length = j := by omega
        rw [this]; exact marksL_get j hj8
      rw [List.getElem?_eq_getElem hlt2] at this
      exact Option.some.inj this
    have e2 : Int.toNat ((bs.length : Int) + j) * 1 = bs.length + j := by omega
    rw [hx] at hr
    refine ⟨(bs.length : Int) + j, by rw [l2]; exact Wr.i64 (by omega) (by omega), a, ha, by omega, by omega, ((UInt8.ofNat (200 + j)).toNat : Int), by rw [e2]; exact hr, 200 + (j : Int), Wr.i64 (by omega) (by omega), ((UInt8.ofNat (200 + j)).toNat : Int), by unfold Wr; rw [wrap_u8, UInt8.toNat_ofNat']; omega, dcn (fun h => (h rfl).elim) fun _ => ⟨_, Wr.i64 (by omega) (by omega), 8 - (j + 1), by omega, j + 1, by omega, by omega, rfl, rfl⟩⟩
  · have hcut := Byt.cut h1 (lo := 0) (hi := bs.length) (by omega) (by rw [List.length_append]; omega)
    rw [List.drop_zero, Nat.sub_zero, List.take_append_of_le_length (by omega), List.take_of_length_le (by omega)] at hcut
    refine ⟨by omega, by omega, _, rfl, ?_⟩
    rw [l2, Int.toNat_natCast]
    exact law3_walSame_c hcut h2 (by omega) hK
end

/-! ### The world -/
structure StD where
  do_ : Int
  log : Int
  n : Int
  kind : Int
  flag : Bool
  data : List UInt8
  keep : List Bool
def stpC (s : StD) (sd sk : Sl) : List Value := [.int .i64 s.do_, .int .i64 s.log, .int .i64 s.n, .int .i64 s.kind, .bool s.flag, sd.v, sk.v]
structure StH (h0 : Hp) (s : StD) (sd sk : Sl) : Prop where
  dat : Byt h0 sd s.data
  kee : Bls h0 sk s.keep
  dl : s.data.length ≤ 1048576
  kl : s.keep.length ≤ 1048576

def wlC (p r : Option Addr) (Q S : Nat → Option Addr) (T N : Nat → Int) : List Value :=
  [.pointer p, .pointer r, .pointer (Q 0), .pointer (Q 1), .pointer (S 0), .pointer (S 1), .int .i64 (T 0), .int .i64 (T 1), .int .i64 (N 0), .int .i64 (N 1)]

structure Wld (h0 h : Hp) (t : Nat) (p r : Option Addr) (mo : Option Md) (Q S : Nat → Option Addr) (G : Nat → Option Lg) (T N : Nat → Int) (o : Nat → Nat) (A : Nat → Ass) : Prop where
  w2 : W2 h0 h p r mo o A
  aq : ∀ i, i < 2 → A (3 + i) = Ass.logO (Q i) p (G i)
  as_ : ∀ i, i < 2 → A (5 + i) = Ass.rlogO (S i) r (G i)
  ac : A 7 = Ass.cell t (wlC p r Q S T N) 48
  ok : ∀ i l, i < 2 → G i = some l → l.Wf ∧ ∃ m, mo = some m ∧ l.st + l.n ≤ m.laid.length

section
variable {h0 h h1 : Hp} {t : Nat} {p r : Option Addr} {mo : Option Md} {Q S : Nat → Option Addr} {G : Nat → Option Lg} {T N : Nat → Int} {o o1 : Nat → Nat} {A : Nat → Ass}

theorem Wld.bk (w : Wld h0 h t p r mo Q S G T N o A) : Bk h t (wlC p r Q S T N) 48 ∧ o t = 7 := w.w2.ow.cell w.ac
theorem Wld.fresh (w : Wld h0 h t p r mo Q S G T N o A) (hk : Kp (fun _ => False) h h1) : Wld h0 h1 t p r mo Q S G T N (Gro o 8 h) A ∧ Stp (fun _ => False) h o h1 (Gro o 8 h) :=
  ⟨⟨(W2.fresh 8 w.w2 hk).1, w.aq, w.as_, w.ac, w.ok⟩, (W2.fresh 8 w.w2 hk).2⟩
theorem wl_q {i : Nat} (hi : i < 2) (hb : Bk h t (wlC p r Q S T N) 48) : rdc h (((nA t).add 2).add (Int.toNat (i : Int) * 1)) = some (.pointer (Q i)) := by
  rw [Int.toNat_natCast, Nat.mul_one]
  exact hb.rd2 2 i (by rcases (show i = 0 ∨ i = 1 by omega) with rfl | rfl <;> rfl)
theorem wl_s {i : Nat} (hi : i < 2) (hb : Bk h t (wlC p r Q S T N) 48) : rdc h (((nA t).add 4).add (Int.toNat (i : Int) * 1)) = some (.pointer (S i)) := by
  rw [Int.toNat_natCast, Nat.mul_one]
  exact hb.rd2 4 i (by rcases (show i = 0 ∨ i = 1 by omega) with rfl | rfl <;> rfl)
theorem wl_t {i : Nat} (hi : i < 2) (hb : Bk h t (wlC p r Q S T N) 48) : rdc h (((nA t).add 6).add (Int.toNat (i : Int) * 1)) = some (.int .i64 (T i)) := by
  rw [Int.toNat_natCast, Nat.mul_one]
  exact hb.rd2 6 i (by rcases (show i = 0 ∨ i = 1 by omega) with rfl | rfl <;> rfl)
theorem wl_n {i : Nat} (hi : i < 2) (hb : Bk h t (wlC p r Q S T N) 48) : rdc h (((nA t).add 8).add (Int.toNat (i : Int) * 1)) = some (.int .i64 (N i)) := by
  rw [Int.toNat_natCast, Nat.mul_one]
  exact hb.rd2 8 i (by rcases (show i = 0 ∨ i = 1 by omega) with rfl | rfl <;> rfl)
theorem wl_stq {i : Nat} {v : Option Addr} (hi : i < 2) (hb : Bk h t (wlC p r Q S T N) 48) : StL h (((nA t).add 2).add (Int.toNat (i : Int) * 1)) [.pointer v] (setB h t (Cel (wlC p r (upd Q i v) S T N) 48)) := by
  have := hb.st2 2 i (.pointer v) (by simp [wlC]; omega)
  rw [Int.toNat_natCast, Nat.mul_one]
  have e : (wlC p r Q S T N).set (2 + i) (.pointer v) = wlC p r (upd Q i v) S T N := by rcases (show i = 0 ∨ i = 1 by omega) with rfl | rfl <;> rfl
  rw [e] at this; exact this
theorem wl_sts {i : Nat} {v : Option Addr} (hi : i < 2) (hb : Bk h t (wlC p r Q S T N) 48) : StL h (((nA t).add 4).add (Int.toNat (i : Int) * 1)) [.pointer v] (setB h t (Cel (wlC p r Q (upd S i v) T N) 48)) := by
  have := hb.st2 4 i (.pointer v) (by simp [wlC]; omega)
  rw [Int.toNat_natCast, Nat.mul_one]
  have e : (wlC p r Q S T N).set (4 + i) (.pointer v) = wlC p r Q (upd S i v) T N := by rcases (show i = 0 ∨ i = 1 by omega) with rfl | rfl <;> rfl
  rw [e] at this; exact this

theorem law3_clash_c {K : Bool → Hp → Prop} (hb : Bk h t (wlC p r Q S T N) 48) (hK : ∀ b, K b h) : law3_walWorld_clash (some (nA t)) K h := by
  refine ⟨nA t, rfl, T 0, wl_t (i := 0) (by omega) hb, T 1, wl_t (i := 1) (by omega) hb, N 1, wl_n (i := 1) (by omega) hb, _, rfl, dcd (fun _ => ?_) (fun _ => hK _)⟩
  exact ⟨T 1, wl_t (i := 1) (by omega) hb, T 0, wl_t (i := 0) (by omega) hb, N 0, wl_n (i := 0) (by omega) hb, _, rfl, hK _⟩

/-- The world with another pair of logs at i. -/
theorem Wld.put {i : Nat} {q s : Option Addr} {lo : Option Lg} {mo' : Option Md} {A1 : Nat → Ass} (hi : i < 2) (w2 : W2 h0 h p r mo' o A1) (aq : ∀ k, k < 2 → k ≠ i → A1 (3 + k) = Ass.logO (Q k) p (G k)) (as_ : ∀ k, k < 2 → k ≠ i → A1 (5 + k) = Ass.rlogO (S k) r (G k))
    (ac : A1 7 = Ass.cell t (wlC p r Q S T N) 48) (aqi : A1 (3 + i) = Ass.logO q p lo) (asi : A1 (5 + i) = Ass.rlogO s r lo) (ok : ∀ k l, k < 2 → upd G i lo k = some l → l.Wf ∧ ∃ m, mo' = some m ∧ l.st + l.n ≤ m.laid.length) :
    ∃ o', Wld h0 (setB h t (Cel (wlC p r (upd Q i q) (upd S i s) T N) 48)) t p r mo' (upd Q i q) (upd S i s) (upd G i lo) T N o' (upd A1 7 (Ass.cell t (wlC p r (upd Q i q) (upd S i s) T N) 48)) ∧ Stp (fun k => k = 7) h o (setB h t (Cel (wlC p r (upd Q i q) (upd S i s) T N) 48)) o' := by
  obtain ⟨w3, t3⟩ := w2.ow.cell_set (l' := wlC p r (upd Q i q) (upd S i s) T N) ac
  refine ⟨_, ⟨⟨w3, w2.a0, w2.a1, w2.a2⟩, fun k hk => ?_, fun k hk => ?_, rfl, ok⟩, t3⟩
  · rw [upd_ne (by omega)]
    by_cases e : k = i
    · subst e; rw [upd_eq, upd_eq]; exact aqi
    · rw [upd_ne e, upd_ne e]; exact aq k hk e
  · rw [upd_ne (by omega)]
    by_cases e : k = i
    · subst e; rw [upd_eq, upd_eq]; exact asi
    · rw [upd_ne e, upd_ne e]; exact as_ k hk e

/-- One log is let go. -/
theorem Wld.let_ {i : Nat} (hi : i < 2) (w : Wld h0 h t p r mo Q S G T N o A) :
    ∃ o' A', Wld h0 (setB h t (Cel (wlC p r (upd Q i none) (upd S i none) T N) 48)) t p r mo (upd Q i none) (upd S i none) (upd G i none) T N o' A' ∧ Stp (fun k => k = 7) h o (setB h t (Cel (wlC p r (upd Q i none) (upd S i none) T N) 48)) o' := by
  have w1 := (w.w2.ow.put (i := 3 + i) (B := Ass.logO none p none) rfl).put (i := 5 + i) (B := Ass.rlogO none r none) rfl
  have s1 : W2 h0 h p r mo o (upd (upd A (3 + i) (Ass.logO none p none)) (5 + i) (Ass.rlogO none r none)) :=
    ⟨w1, by rw [upd_ne (by omega), upd_ne (by omega)]; exact w.w2.a0, by rw [upd_ne (by omega), upd_ne (by omega)]; exact w.w2.a1, by rw [upd_ne (by omega), upd_ne (by omega)]; exact w.w2.a2⟩
  obtain ⟨o', w', t'⟩ := Wld.put (G := G) (q := none) (s := none) (lo := none) hi s1 (fun k hk e => by rw [upd_ne (by omega), upd_ne (by omega)]; exact w.aq k hk) (fun k hk e => by rw [upd_ne (by omega), upd_ne (by omega)]; exact w.as_ k hk) (by rw [upd_ne (by omega), upd_ne (by omega)]; exact w.ac) (by rw [upd_ne (by omega), upd_eq]) (by rw [upd_eq]) (fun k l hk hl => by
    by_cases e : k = i
    · subst e; rw [upd_eq] at hl; cases hl
    · rw [upd_ne e] at hl; exact w.ok k l hk hl)
  exact ⟨o', _, w', t'⟩

/-- What the steps leave. -/
def After (h0 : Hp) (t : Nat) (p r : Option Addr) (T N : Nat → Int) (k : Nat) (h : Hp) : Prop :=
  ∃ mo Q S G o A, Wld h0 h t p r mo Q S G T N o A ∧ smallO mo k

theorem law3_makes_c {K : Bool → Hp → Prop} {s : StD} {sd sk : Sl} {i k : Nat} (w : Wld h0 h t p r mo Q S G T N o A) (hs : smallO mo k) (hk : k ≤ 100000000000) (hi : i < 2)
    (hK : ∀ h' mo' Q' S' G' o' A', Wld h0 h' t p r mo' Q' S' G' T N o' A' → smallO mo' (k + 5000) → (∀ b l ty, Bk h b l ty → o b = 8 → Bk h' b l ty ∧ o' b = 8) → K true h') : law3_walWorld_makes (some (nA t)) s.do_ s.log s.n s.kind s.flag sd sk i K h := by
  have hb := Bk.new h (stpC s sd sk) 67
  have k1 : Kp (fun _ => False) h (h.push (Cel (stpC s sd sk) 67)) := Kp.push (Kp.refl _ _) _
  obtain ⟨w1, t1⟩ := w.fresh k1
  refine ⟨_, _, rfl, rfl, s.do_, hb.rdi 0 rfl, ?_⟩
  have e1 : (h.push (Cel [.int .i64 s.do_, .int .i64 s.log, .int .i64 s.n, .int .i64 s.kind, .bool s.flag, sd.v, sk.v] 67)) = h.push (Cel (stpC s sd sk) 67) := rfl
  rw [e1]
  clear hb e1
  generalize h.push (Cel (stpC s sd sk) 67) = h2 at *
  generalize Gro o 8 h = o2 at *
  have hj : 1 - i < 2 := by omega
  have e1i : ((1 - i : Nat) : Int) = 1 - (i : Int) := by omega
  have W1 : Wr .i64 ((1 : Int) - (i : Int)) ((1 - i : Nat) : Int) := by rw [e1i]; exact Wr.i64 (by omega) (by omega)
  -- the end: the other log is let go or not
  have fin : ∀ (h3 : Hp) (mo3 : Option Md) (Q3 S3 : Nat → Option Addr) (G3 : Nat → Option Lg) (o3 : Nat → Nat) (A3 : Nat → Ass) (K2 : Hp → Prop), Wld h0 h3 t p r mo3 Q3 S3 G3 T N o3 A3 → (∀ h4 Q4 S4 G4 o4 A4, Wld h0 h4 t p r mo3 Q4 S4 G4 T N o4 A4 → Stp (fun k => k = 7) h3 o3 h4 o4 → K2 h4) →
      ∀ (b51 : Bool), ((b51 = true → (∃ n59 : Int, Wr .i64 ((1 : Int) - (i : Int)) n59 ∧ 0 ≤ n59 ∧ n59 < (2 : Nat) ∧ ∃ h63 : Hp, StL h3 (((nA t).add 2).add (Int.toNat n59 * 1)) [.pointer none] h63 ∧ ∃ n65 : Int, Wr .i64 ((1 : Int) - (i : Int)) n65 ∧ 0 ≤ n65 ∧ n65 < (2 : Nat) ∧ ∃ h69 : Hp, StL h63 (((nA t).add 4).add (Int.toNat n65 * 1)) [.pointer none] h69 ∧ K2 h69)) ∧ (b51 = false → (K2 h3))) := by
    intro h3 mo3 Q3 S3 G3 o3 A3 K2 w3 hK2 b51
    refine ⟨fun _ => ?_, fun _ => hK2 h3 _ _ _ _ _ w3 (Stp.refl _ _ _)⟩
    obtain ⟨o4, A4, w4, t4⟩ := w3.let_ hj
    have b3 := (w3.bk).1
    have st1 := wl_stq (v := none) hj b3
    have b4 : Bk (setB h3 t (Cel (wlC p r (upd Q3 (1 - i) none) S3 T N) 48)) t (wlC p r (upd Q3 (1 - i) none) S3 T N) 48 := b3.set
    have st2 := wl_sts (v := none) hj b4
    rw [setB_setB] at st2
    exact ⟨_, W1, by omega, by omega, _, st1, _, W1, by omega, by omega, _, st2, hK2 _ _ _ _ _ _ w4 t4⟩
  refine dcb (fun hdo => ?_) (fun hdo => ?_)
  · -- Format
    have b2 := (w1.bk).1
    refine ⟨nA t, rfl, p, b2.rdi 0 rfl, by omega, by omega, T i, wl_t hi b2, by omega, by omega, N i, wl_n hi b2, ?_⟩
    have hwf := W2.wf w1.w2
    -- both at once is not the order here
    have run : ∀ (K2 : Int → Int → Hp → Prop), (∀ x h' o' A', W2 h0 h' p r (mo.map fun m => (fmtI m (T i) (N i)).2) o' A' → (∀ k, k ≠ 1 → k ≠ 2 → A' k = A k) → Stp (fun k => k = 1 ∨ k = 2) h2 o2 h' o' → K2 x x h') →
        wal_Format p (T i) (N i) (fun n1 h1 => ∃ p32 : Option Addr, rdc h1 ((nA t).add 1) = some (.pointer p32) ∧ 0 ≤ (i : Int) ∧ (i : Int) < (2 : Nat) ∧ ∃ n36 : Int, rdc h1 (((nA t).add 6).add (Int.toNat (i : Int) * 1)) = some (.int .i64 n36) ∧ 0 ≤ (i : Int) ∧ (i : Int) < (2 : Nat) ∧ ∃ n40 : Int, rdc h1 (((nA t).add 8).add (Int.toNat (i : Int) * 1)) = some (.int .i64 n40) ∧ ref3_Format p32 n36 n40 (fun n2 h2 => K2 n1 n2 h2) h1) h2 := by
      intro K2 hK2
      cases mo with
      | none =>
        obtain ⟨rfl, rfl⟩ := W2.pn w1.w2
        refine wal_Format_none_c fun h3 k3 => ?_
        obtain ⟨s3, t3⟩ := W2.fresh 8 w1.w2 k3
        have b3 := t3.bk b2 id
        exact ⟨_, b3.rdi 1 rfl, by omega, by omega, _, wl_t hi b3, by omega, by omega, _, wl_n hi b3, ref3_Format_none_c (hK2 1 h3 _ A s3 (fun _ _ _ => rfl) (t3.mono fun _ h => h.elim))⟩
      | some m =>
        have hsm := hs m rfl
        refine wal_Format_c (i := 1) 8 w1.w2.ow w1.w2.a1 (by decide) (by omega) fun h3 o3 w3 t3 => ?_
        have b3 := t3.bk b2 (by rw [(w1.bk).2]; decide)
        refine ⟨_, b3.rdi 1 rfl, by omega, by omega, _, wl_t hi b3, by omega, by omega, _, wl_n hi b3, ?_⟩
        refine ref3_Format_c (i := 2) 8 w3 w1.w2.a2 (by decide) (by omega) fun h4 o4 w4 t4 => ?_
        exact hK2 _ h4 _ _ ⟨w4, w1.w2.a0, rfl, rfl⟩ (fun k h1 h2 => by rw [upd_ne h2, upd_ne h1]) ((t3.mono fun _ h => .inl h).trans (t4.mono fun _ h => .inr h))
    refine run _ fun x h3 o3 A3 s3 e3 t3 => ?_
    have ac3 : A3 7 = Ass.cell t (wlC p r Q S T N) 48 := by rw [e3 7 (by decide) (by decide)]; exact w1.ac
    have b3 := (s3.ow.cell ac3).1
    have st1 := wl_stq (v := none) hi b3
    have b4 : Bk (setB h3 t (Cel (wlC p r (upd Q i none) S T N) 48)) t (wlC p r (upd Q i none) S T N) 48 := b3.set
    have st2 := wl_sts (v := none) hi b4
    rw [setB_setB] at st2
    have s3' : Ow h3 o3 (upd (upd A3 (3 + i) (Ass.logO none p none)) (5 + i) (Ass.rlogO none r none)) := (s3.ow.put (i := 3 + i) (B := Ass.logO none p none) rfl).put (i := 5 + i) (B := Ass.rlogO none r none) rfl
    have hlenO : ∀ m', (mo.map fun m => (fmtI m (T i) (N i)).2) = some m' → ∃ m, mo = some m ∧ m'.laid.length = m.laid.length ∧ m'.pend.length ≤ m.pend.length + 5000 := by
      intro m' hm'
      cases mo with
      | none => cases hm'
      | some m =>
        cases hm'
        refine ⟨m, rfl, ?_, fmtI_pend m _ _ (hwf m rfl)⟩
        show (fmtI m (T i) (N i)).2.laid.length = m.laid.length
        unfold fmtI; split
        · exact runs_len _ _
        · rfl
    obtain ⟨o4, w4, t4⟩ := Wld.put (G := G) (q := none) (s := none) (lo := none) (A1 := upd (upd A3 (3 + i) (Ass.logO none p none)) (5 + i) (Ass.rlogO none r none)) hi
      ⟨s3', by rw [upd_ne (by omega), upd_ne (by omega)]; exact s3.a0, by rw [upd_ne (by omega), upd_ne (by omega)]; exact s3.a1, by rw [upd_ne (by omega), upd_ne (by omega)]; exact s3.a2⟩
      (fun k hk e => by rw [upd_ne (by omega), upd_ne (by omega), e3 _ (by omega) (by omega)]; exact w1.aq k hk) (fun k hk e => by rw [upd_ne (by omega), upd_ne (by omega), e3 _ (by omega) (by omega)]; exact w1.as_ k hk)
      (by rw [upd_ne (by omega), upd_ne (by omega)]; exact ac3) (by rw [upd_ne (by omega), upd_eq]) (by rw [upd_eq]) (fun k l hk hl => by
        by_cases e : k = i
        · subst e; rw [upd_eq] at hl; cases hl
        · rw [upd_ne e] at hl
          obtain ⟨g1, m, hm, g2⟩ := w1.ok k l hk hl
          subst hm
          refine ⟨g1, _, rfl, ?_⟩
          obtain ⟨m0, hm0, hl0, _⟩ := hlenO _ rfl
          cases hm0
          show l.st + l.n ≤ (fmtI m (T i) (N i)).2.laid.length
          have : (fmtI m (T i) (N i)).2.laid.length = m.laid.length := hl0
          omega)
    refine ⟨by omega, by omega, _, st1, by omega, by omega, _, st2, law3_clash_c (w4.bk).1 fun b51 => ?_⟩
    refine ⟨fun hx => ∃ Q4 S4 G4 o5 A5, Wld h0 hx t p r (mo.map fun m => (fmtI m (T i) (N i)).2) Q4 S4 G4 T N o5 A5 ∧ ∀ b l ty, Bk h b l ty → o b = 8 → Bk hx b l ty ∧ o5 b = 8, ?_, fin _ _ _ _ _ _ _ _ w4 (fun h5 Q5 S5 G5 o5 A5 w5 t5 => ⟨Q5, S5, G5, o5, A5, w5, fun b l ty hb ho => ?_⟩) b51⟩
    · rintro hx ⟨Q4, S4, G4, o5, A5, w5, hloc⟩
      have : (x == x) = true := by simp
      rw [this]
      refine hK hx _ _ _ _ _ _ w5 (fun m' hm' => ?_) hloc
      obtain ⟨m, hm, _, hp⟩ := hlenO m' hm'
      have := hs m hm
      omega
    · have c1 := t1.bk hb id
      have d1 := t1.own b hb.lt
      have c2 := t3.bk c1 (by rw [d1, ho]; decide)
      have d2 := t3.own b c1.lt
      have c3 := t4.bk c2 (by rw [d2, d1, ho]; decide)
      have d3 := t4.own b c2.lt
      have c4 := t5.bk c3 (by rw [d3, d2, d1, ho]; decide)
      exact ⟨c4, by rw [t5.own b c3.lt, d3, d2, d1, ho]⟩
  · -- Open
    have b2 := (w1.bk).1
    have hwf := W2.wf w1.w2
    refine ⟨nA t, rfl, p, b2.rdi 0 rfl, by omega, by omega, T i, wl_t hi b2, by omega, by omega, N i, wl_n hi b2, ?_⟩
    have run : ∀ (K2 : Option Addr → Int → Option Addr → Int → Hp → Prop), (∀ q1 q2 e lo mo' h' o' A', W2 h0 h' p r mo' o' A' → (∀ k, k ≠ 1 → k ≠ 2 → k ≠ 3 + i → k ≠ 5 + i → A' k = A k) → A' (3 + i) = Ass.logO q1 p lo → A' (5 + i) = Ass.rlogO q2 r lo → (mo' = opnO mo (T i) (N i)) → (∀ l, lo = some l → l.Wf ∧ ∃ m, mo' = some m ∧ l.st + l.n ≤ m.laid.length) →
          Stp (fun k => k = 1 ∨ k = 2 ∨ k = 3 + i ∨ k = 5 + i) h2 o2 h' o' → K2 q1 e q2 e h') →
        wal_Open p (T i) (N i) (fun p83 n84 h85 => ∃ p87 : Option Addr, rdc h85 ((nA t).add 1) = some (.pointer p87) ∧ 0 ≤ (i : Int) ∧ (i : Int) < (2 : Nat) ∧ ∃ n91 : Int, rdc h85 (((nA t).add 6).add (Int.toNat (i : Int) * 1)) = some (.int .i64 n91) ∧ 0 ≤ (i : Int) ∧ (i : Int) < (2 : Nat) ∧ ∃ n95 : Int, rdc h85 (((nA t).add 8).add (Int.toNat (i : Int) * 1)) = some (.int .i64 n95) ∧ ref3_Open p87 n91 n95 (fun p96 n97 h98 => K2 p83 n84 p96 n97 h98) h85) h2 := by
      intro K2 hK2
      cases mo with
      | none =>
        obtain ⟨rfl, rfl⟩ := W2.pn w1.w2
        refine wal_Open_none_c fun h3 k3 => ?_
        obtain ⟨s3, t3⟩ := W2.fresh 8 w1.w2 k3
        have b3 := t3.bk b2 id
        refine ⟨_, b3.rdi 1 rfl, by omega, by omega, _, wl_t hi b3, by omega, by omega, _, wl_n hi b3, ref3_Open_none_c ?_⟩
        have w4 := (s3.ow.put (i := 3 + i) (B := Ass.logO none none none) rfl).put (i := 5 + i) (B := Ass.rlogO none none none) rfl
        exact hK2 none none 1 none none h3 _ _ ⟨w4, by rw [upd_ne (by omega), upd_ne (by omega)]; exact s3.a0, by rw [upd_ne (by omega), upd_ne (by omega)]; exact s3.a1, by rw [upd_ne (by omega), upd_ne (by omega)]; exact s3.a2⟩ (fun k _ _ h3 h5 => by rw [upd_ne h5, upd_ne h3]) (by rw [upd_ne (by omega), upd_eq]) (by rw [upd_eq]) rfl (fun l hl => (nomatch hl)) (t3.mono fun _ h => h.elim)
      | some m =>
        have hsm := hs m rfl
        refine wal_Open_c (i := 1) (j := 3 + i) w1.w2.ow w1.w2.a1 (by omega) (by omega) fun q1 h3 o3 w3 t3 => ?_
        have b3 := t3.bk b2 (by rw [(w1.bk).2]; omega)
        refine ⟨_, b3.rdi 1 rfl, by omega, by omega, _, wl_t hi b3, by omega, by omega, _, wl_n hi b3, ?_⟩
        refine ref3_Open_c (i := 2) (j := 5 + i) w3 (by rw [upd_ne (by omega), upd_ne (by omega)]; exact w1.w2.a2) (by omega) (by omega) fun q2 h4 o4 w4 t4 => ?_
        refine hK2 q1 q2 _ (opnI m (T i) (N i)).1.1 (some (opnI m (T i) (N i)).2) h4 _ _ ⟨w4, ?_, ?_, ?_⟩ (fun k h1 h2 h3 h5 => ?_) ?_ ?_ rfl (fun l hl => ?_) ((t3.mono fun _ h => ?_).trans (t4.mono fun _ h => ?_))
        · rw [upd_ne (by omega), upd_ne (by omega), upd_ne (by omega), upd_ne (by omega)]; exact w1.w2.a0
        · rw [upd_ne (by omega), upd_ne (by omega), upd_ne (by omega), upd_eq]; rfl
        · rw [upd_ne (by omega), upd_eq]; rfl
        · rw [upd_ne h5, upd_ne h2, upd_ne h3, upd_ne h1]
        · rw [upd_ne (by omega), upd_ne (by omega), upd_eq]
        · rw [upd_eq]
        · have := opnI_wf (start := T i) (n := N i) (m := m) (l := l) (e := (opnI m (T i) (N i)).1.2) (m' := (opnI m (T i) (N i)).2) (hwf m rfl) (by rw [← hl])
          exact ⟨this.1, _, rfl, by rw [opnI_len]; exact this.2.1⟩
        · rcases h with h | h
          · exact .inl h
          · exact .inr (.inr (.inl h))
        · rcases h with h | h
          · exact .inr (.inl h)
          · exact .inr (.inr (.inr h))
    refine run _ fun q1 q2 e lo mo3 h3 o3 A3 s3 e3 a3 a5 hmo3 hlo t3 => ?_
    have ac3 : A3 7 = Ass.cell t (wlC p r Q S T N) 48 := by rw [e3 7 (by decide) (by decide) (by omega) (by omega)]; exact w1.ac
    have b3 := (s3.ow.cell ac3).1
    have st1 := wl_stq (v := q1) hi b3
    have b4 : Bk (setB h3 t (Cel (wlC p r (upd Q i q1) S T N) 48)) t (wlC p r (upd Q i q1) S T N) 48 := b3.set
    have st2 := wl_sts (v := q2) hi b4
    rw [setB_setB] at st2
    have hlen3 : ∀ m, mo = some m → ∃ m', mo3 = some m' ∧ m'.laid.length = m.laid.length := by
      intro m hm; subst hm; exact ⟨_, hmo3, opnI_len m _ _⟩
    obtain ⟨o4, w4, t4⟩ := Wld.put (G := G) (q := q1) (s := q2) (lo := lo) hi s3 (fun k hk e => by rw [e3 _ (by omega) (by omega) (by omega) (by omega)]; exact w1.aq k hk) (fun k hk e => by rw [e3 _ (by omega) (by omega) (by omega) (by omega)]; exact w1.as_ k hk) ac3 a3 a5 (fun k l hk hl => by
        by_cases e : k = i
        · subst e; rw [upd_eq] at hl; exact hlo l hl
        · rw [upd_ne e] at hl
          obtain ⟨g1, m, hm, g2⟩ := w1.ok k l hk hl
          obtain ⟨m', hm', hl'⟩ := hlen3 m hm
          exact ⟨g1, m', hm', by omega⟩)
    have hn1 : q1.isNone = lo.isNone := by
      cases lo with
      | none => exact congrArg Option.isNone (show q1 = none from s3.ow.at a3)
      | some l => obtain ⟨b, sr, rs, rfl, _⟩ := s3.ow.log a3; rfl
    have hn2 : q2.isNone = lo.isNone := by
      cases lo with
      | none => exact congrArg Option.isNone (show q2 = none from s3.ow.at a5)
      | some l => obtain ⟨b, sr, sv, rs, rfl, _⟩ := s3.ow.rlog a5; rfl
    refine ⟨by omega, by omega, _, st1, by omega, by omega, _, st2, law3_clash_c (w4.bk).1 fun b51 => ?_⟩
    refine ⟨fun hx => ∃ Q4 S4 G4 o5 A5, Wld h0 hx t p r mo3 Q4 S4 G4 T N o5 A5 ∧ ∀ b l ty, Bk h b l ty → o b = 8 → Bk hx b l ty ∧ o5 b = 8, ?_, fin _ _ _ _ _ _ _ _ w4 (fun h5 Q5 S5 G5 o5 A5 w5 t5 => ⟨Q5, S5, G5, o5, A5, w5, fun b l ty hb ho => ?_⟩) b51⟩
    · rintro hx ⟨Q4, S4, G4, o5, A5, w5, hloc⟩
      refine dcb (fun _ => ?_) (fun h => (h rfl).elim)
      rw [hn1, hn2]
      have : (lo.isNone == lo.isNone) = true := by simp
      rw [this]
      refine hK hx _ _ _ _ _ _ w5 (fun m' hm' => ?_) hloc
      subst hmo3
      cases mo with
      | none => cases hm'
      | some m =>
        cases hm'
        have h1 := opnI_pend m (T i) (N i)
        have h2 := hs m rfl
        show (opnI m (T i) (N i)).2.pend.length ≤ _
        omega
    · have c1 := t1.bk hb id
      have d1 := t1.own b hb.lt
      have c2 := t3.bk c1 (by rw [d1, ho]; omega)
      have d2 := t3.own b c1.lt
      have c3 := t4.bk c2 (by rw [d2, d1, ho]; decide)
      have d3 := t4.own b c2.lt
      have c4 := t5.bk c3 (by rw [d3, d2, d1, ho]; decide)
      exact ⟨c4, by rw [t5.own b c3.lt, d3, d2, d1, ho]⟩
end
end Go.Proofs.YthpeadoidpimmaaGreat
namespace Go.Proofs.YthpeadoidpimmaaGreat
open Go Tw
set_option linter.unusedVariables false
set_option linter.unusedSimpArgs false
set_option maxRecDepth 10000
set_option maxHeartbeats 1000000

section
variable {h0 h h1 : Hp} {t : Nat} {p r : Option Addr} {mo : Option Md} {Q S : Nat → Option Addr} {G : Nat → Option Lg} {T N : Nat → Int} {o o1 : Nat → Nat} {A : Nat → Ass}

/-- What is kept of the steps' own blocks. -/
def Loc (h : Hp) (o : Nat → Nat) (h' : Hp) (o' : Nat → Nat) : Prop := ∀ b l ty, Bk h b l ty → o b = 8 → Bk h' b l ty ∧ o' b = 8
theorem Loc.refl (h : Hp) (o : Nat → Nat) : Loc h o h o := fun b l ty hb ho => ⟨hb, ho⟩
theorem Loc.trans {h h1 h2 : Hp} {o o1 o2 : Nat → Nat} (a : Loc h o h1 o1) (b : Loc h1 o1 h2 o2) : Loc h o h2 o2 := fun x l ty hb ho => b x l ty (a x l ty hb ho).1 (a x l ty hb ho).2
theorem Stp.loc {S : Nat → Prop} {h h' : Hp} {o o' : Nat → Nat} (s : Stp S h o h' o') (hS : ¬ S 8) : Loc h o h' o' := fun b l ty hb ho => ⟨s.bk hb (by rw [ho]; exact hS), by rw [s.own b hb.lt]; exact ho⟩

theorem Wld.step {i : Nat} {m m' : Md} {l l' : Lg} {h' : Hp} {o' : Nat → Nat} {A' : Nat → Ass} (hi : i < 2) (w : Wld h0 h t p r (some m) Q S G T N o A) (hG : G i = some l) (k : Keeps l l' m m') (wo : Ow h' o' A')
    (e : ∀ k, k ≠ 1 → k ≠ 2 → k ≠ 3 + i → k ≠ 5 + i → A' k = A k) (a1 : A' 1 = Ass.disk p m') (a2 : A' 2 = Ass.rdisk r m') (a3 : A' (3 + i) = Ass.log (Q i) p l') (a5 : A' (5 + i) = Ass.rlog (S i) r l') :
    Wld h0 h' t p r (some m') Q S (upd G i (some l')) T N o' A' := by
  refine ⟨⟨wo, by rw [e 0 (by decide) (by decide) (by omega) (by omega)]; exact w.w2.a0, a1, a2⟩, fun c hc => ?_, fun c hc => ?_, by rw [e 7 (by decide) (by decide) (by omega) (by omega)]; exact w.ac, fun c x hc hx => ?_⟩
  · by_cases ec : c = i
    · subst ec; rw [upd_eq]; exact a3
    · rw [upd_ne ec, e _ (by omega) (by omega) (by omega) (by omega)]; exact w.aq c hc
  · by_cases ec : c = i
    · subst ec; rw [upd_eq]; exact a5
    · rw [upd_ne ec, e _ (by omega) (by omega) (by omega) (by omega)]; exact w.as_ c hc
  · by_cases ec : c = i
    · subst ec
      rw [upd_eq] at hx; cases hx
      obtain ⟨_, m0, hm0, hle⟩ := w.ok c l hc hG
      cases hm0
      exact ⟨k.wf, m', rfl, by rw [k.st, k.n, k.len]; exact hle⟩
    · rw [upd_ne ec] at hx
      obtain ⟨g1, m0, hm0, hle⟩ := w.ok c x hc hx
      cases hm0
      exact ⟨g1, m', rfl, by rw [k.len]; exact hle⟩

theorem law3_acts_c {K : Bool → Hp → Prop} {s : StD} {sd sk : Sl} {i k : Nat} (w : Wld h0 h t p r mo Q S G T N o A) (hs : smallO mo k) (hk : k ≤ 100000000000) (hi : i < 2) (hst : StH h0 s sd sk)
    (hK : ∀ h' mo' G' o' A', Wld h0 h' t p r mo' Q S G' T N o' A' → smallO mo' (k + 5000) → Loc h o h' o' → K true h') : law3_walWorld_acts (some (nA t)) s.do_ s.log s.n s.kind s.flag sd sk i K h := by
  have hb := Bk.new h (stpC s sd sk) 67
  have k1 : Kp (fun _ => False) h (h.push (Cel (stpC s sd sk) 67)) := Kp.push (Kp.refl _ _) _
  obtain ⟨w1, t1⟩ := w.fresh k1
  have ob : Gro o 8 h h.size = 8 := by simp [Gro]
  refine ⟨_, _, rfl, rfl, ?_⟩
  have e1 : (h.push (Cel [.int .i64 s.do_, .int .i64 s.log, .int .i64 s.n, .int .i64 s.kind, .bool s.flag, sd.v, sk.v] 67)) = h.push (Cel (stpC s sd sk) 67) := rfl
  rw [e1]
  clear e1
  have l1 : Loc h o (h.push (Cel (stpC s sd sk) 67)) (Gro o 8 h) := t1.loc id
  generalize h.push (Cel (stpC s sd sk) 67) = h2 at *
  generalize Gro o 8 h = o2 at *
  generalize h.size = q at *
  have b2 := (w1.bk).1
  have hdl := hst.dl
  refine ⟨nA t, rfl, by omega, by omega, Q i, wl_q hi b2, by omega, by omega, S i, wl_s hi b2, s.do_, hb.rdi 0 rfl, ?_⟩
  have same : ∀ h3, Kp (fun _ => False) h2 h3 → K true h3 := fun h3 k3 => by
    obtain ⟨w3, t3⟩ := w1.fresh k3
    exact hK h3 _ _ _ _ w3 (fun m hm => by have := hs m hm; omega) (l1.trans (t3.loc id))
  have tt : ∀ x : Int, (x == x) = true := fun x => by simp
  cases hG : G i with
  | none =>
    have hq : Q i = none := w1.w2.ow.at (by rw [w1.aq i hi, hG])
    have hs' : S i = none := w1.w2.ow.at (by rw [w1.as_ i hi, hG])
    rw [hq, hs']
    refine dcb (fun _ => ?_) (fun _ => dcb (fun _ => ?_) (fun _ => dcb (fun _ => ?_) (fun _ => dcb (fun _ => ?_) (fun _ => dcb (fun _ => ?_) (fun _ => dcb (fun _ => ?_) (fun _ => dcb (fun _ => ?_) (fun _ => same h2 (Kp.refl _ _))))))))
    · refine ⟨sd, hb.rdi 5 rfl, law3_walRoom_c (hst.dat.kp w1.w2.kp fun _ _ h => h) hdl fun s3 h3 k3 v3 n3 => ?_⟩
      have hb3 := hb.kp k3 fun h => h
      have by3 := Byt.of_vec v3
      have hsl := hst.dat.len
      have h3l := by3.len
      have h3c := by3.cap
      rw [List.length_append] at h3l
      refine ⟨s.kind, hb3.rdi 3 rfl, sd, hb3.rdi 5 rfl, by omega, by omega, _, rfl, s.flag, hb3.rdi 4 rfl, wal_Append_none_c ⟨s.kind, hb3.rdi 3 rfl, sd, hb3.rdi 5 rfl, s.flag, hb3.rdi 4 rfl, ref3_Append_none_c (dcb (fun _ => dcb (fun _ => ⟨sd, hb3.rdi 5 rfl, ?_⟩) (fun h => (h rfl).elim)) (fun h => (h rfl).elim))⟩⟩
      exact law3_walStays_c by3 ((hst.dat.kp w1.w2.kp fun _ _ h => h).kp k3 fun _ _ h => h) hdl (same h3 k3)
    · exact wal_Flush_none_c (ref3_Flush_none_c (same h2 (Kp.refl _ _)))
    · exact ⟨s.n, hb.rdi 2 rfl, s.n, hb.rdi 2 rfl, wal_Cut_none_c ⟨hb.rdi 2 rfl, ref3_Cut_none_c (same h2 (Kp.refl _ _))⟩⟩
    · exact ⟨s.n, hb.rdi 2 rfl, s.n, hb.rdi 2 rfl, wal_Reserve_none_c ⟨hb.rdi 2 rfl, ref3_Reserve_none_c (same h2 (Kp.refl _ _))⟩⟩
    · exact ⟨s.n, hb.rdi 2 rfl, s.n, hb.rdi 2 rfl, wal_Release_none_c ⟨hb.rdi 2 rfl, ref3_Release_none_c (same h2 (Kp.refl _ _))⟩⟩
    · exact wal_Records_none_c (ref3_Records_none_c (law3_walRecs_c (RcL.nil _ (fun _ => False)) (RcL.nil _ (fun _ => False)) rfl (by simp) (by simp) (same h2 (Kp.refl _ _))))
    · exact wal_Stat_none_c fun h3 k3 => ref3_Stat_none_c fun h4 k4 => same h4 (k3.trans k4)
  | some l =>
    obtain ⟨hlw, m, rfl, hle⟩ := w1.ok i l hi hG
    have hsm := hs m rfl
    have a1 : A 1 = Ass.disk p m := w1.w2.a1
    have a2 : A 2 = Ass.rdisk r m := w1.w2.a2
    have a3 : A (3 + i) = Ass.log (Q i) p l := by rw [w1.aq i hi, hG]; rfl
    have a5 : A (5 + i) = Ass.rlog (S i) r l := by rw [w1.as_ i hi, hG]; rfl
    -- the end of a call that changed both
    have fin : ∀ (l' : Lg) (m' : Md) (h3 : Hp) (o3 : Nat → Nat) (A3 : Nat → Ass), Keeps l l' m m' → Ow h3 o3 A3 → (∀ k, k ≠ 1 → k ≠ 2 → k ≠ 3 + i → k ≠ 5 + i → A3 k = A k) → A3 1 = Ass.disk p m' → A3 2 = Ass.rdisk r m' → A3 (3 + i) = Ass.log (Q i) p l' → A3 (5 + i) = Ass.rlog (S i) r l' → Loc h2 o2 h3 o3 → K true h3 :=
      fun l' m' h3 o3 A3 kk wo e b1 b2 b3 b5 lc => hK h3 _ _ _ _ (w1.step hi hG kk wo e b1 b2 b3 b5) (fun x hx => by cases hx; have := kk.pend; omega) (l1.trans lc)
    refine dcb (fun _ => ?_) (fun _ => dcb (fun _ => ?_) (fun _ => dcb (fun _ => ?_) (fun _ => dcb (fun _ => ?_) (fun _ => dcb (fun _ => ?_) (fun _ => dcb (fun _ => ?_) (fun _ => dcb (fun _ => ?_) (fun _ => same h2 (Kp.refl _ _))))))))
    · refine ⟨sd, hb.rdi 5 rfl, law3_walRoom_c (hst.dat.kp w1.w2.kp fun _ _ h => h) hdl fun s3 h3 k3 v3 n3 => ?_⟩
      obtain ⟨w3, t3⟩ := w1.fresh k3
      have hb3 := t3.bk hb id
      have by3 := Byt.of_vec v3
      have hsl := hst.dat.len
      have h3l := by3.len
      have h3c := by3.cap
      have hml : marksL.length = 8 := rfl
      rw [List.length_append, hml] at h3l
      have o3b : ∀ y, s3.blk y → Gro o2 8 h2 y = 8 := fun y hy => by
        have := n3 y hy
        simp only [Gro, if_neg (show ¬ y < h2.size by omega)]
      have ob3 : Gro o2 8 h2 q = 8 := by rw [Gro.old hb.lt]; exact ob
      have old3 := w3.w2.own
      generalize Gro o2 8 h2 = o3 at *
      have hcut := Byt.cut by3 (lo := 0) (hi := s.data.length) (by omega) (by rw [List.length_append]; omega)
      rw [List.drop_zero, Nat.sub_zero, List.take_append_of_le_length (by omega), List.take_of_length_le (by omega)] at hcut
      refine ⟨s.kind, hb3.rdi 3 rfl, sd, hb3.rdi 5 rfl, by omega, by omega, _, rfl, s.flag, hb3.rdi 4 rfl, ?_⟩
      have ecut : slS s3 1 (Int.toNat (0 : Int)) (Int.toNat (sd.len : Int)) = slS s3 1 0 s.data.length := by rw [hsl, Int.toNat_natCast]; rfl
      rw [ecut]
      refine wal_Append_c (i := 1) (j := 3 + i) (data := s.data) w3.w2.ow a1 a3 (by omega) hlw hle (by omega) hcut (fun y hy => ?_) fun h4 o4 w4 t4 => ?_
      · have : s3.blk y := by
          obtain ⟨a, ha, rfl⟩ := hy
          simp only [slS] at ha
          split at ha
          · exact ⟨a, ha, rfl⟩
          · rw [Option.map_eq_some_iff] at ha
            obtain ⟨a', ha', rfl⟩ := ha
            exact ⟨a', ha', (add_block _ _).symm⟩
        rw [o3b y this]; exact ⟨by decide, by omega⟩
      have nS : ¬ ((8 : Nat) = 1 ∨ (8 : Nat) = 3 + i) := by omega
      have nS2 : ¬ ((8 : Nat) = 2 ∨ (8 : Nat) = 5 + i) := by omega
      have hb4 := t4.bk hb3 (by rw [ob3]; exact nS)
      have dat4 : Byt h4 sd s.data := (((hst.dat.kp w1.w2.kp fun _ _ h => h).kp k3 fun _ _ h => h)).kpo t4.kp fun a ha hne => by
        rw [old3 _ (hst.dat.lt hne ha)]; omega
      have hkeep := append_keeps (l := l) (m := m) (kind := s.kind) (data := s.data) (fl := s.flag) hlw
      refine ⟨s.kind, hb4.rdi 3 rfl, sd, hb4.rdi 5 rfl, s.flag, hb4.rdi 4 rfl, ?_⟩
      refine ref3_Append_c (i := 2) (j := 5 + i) (l := l) (m := m) w4 (by rw [upd_ne (by omega), upd_ne (by omega)]; exact a2) (by rw [upd_ne (by omega), upd_ne (by omega)]; exact a5) (by omega) hlw hle (by omega) dat4 (fun a ha hne => ?_) fun h5 o5 w5 t5 => ?_
      · have hlt := hst.dat.lt hne ha
        rw [t4.own _ (by have := w3.w2.kp.size; omega), old3 _ hlt]; exact ⟨by decide, by omega⟩
      have ob4 : o4 q = 8 := by rw [t4.own _ hb3.lt]; exact ob3
      have hb5 := t5.bk hb4 (by rw [ob4]; exact nS2)
      refine dcb (fun _ => dcb (fun _ => ⟨sd, hb5.rdi 5 rfl, ?_⟩) (fun h => (h rfl).elim)) (fun h => (h rfl).elim)
      have lt3 : ∀ a, s3.p = some a → a.block < h3.size := fun a ha => v3.lt ⟨a, ha, rfl⟩
      have by5 : Byt h5 s3 (s.data ++ marksL) := (by3.kp t4.kp fun a ha => by rw [o3b _ ⟨a, ha, rfl⟩]; exact nS).kp t5.kp fun a ha => by rw [t4.own _ (lt3 a ha), o3b _ ⟨a, ha, rfl⟩]; exact nS2
      have dat5 : Byt h5 sd s.data := dat4.kpo t5.kp fun a ha hne => by
        rw [t4.own _ (by have := w3.w2.kp.size; have := hst.dat.lt hne ha; omega), old3 _ (hst.dat.lt hne ha)]; omega
      refine law3_walStays_c by5 dat5 hdl ?_
      refine fin _ _ h5 o5 _ hkeep w5 (fun k h1 h2 h3 h5 => by rw [upd_ne h5, upd_ne h2, upd_ne h3, upd_ne h1]) (by rw [upd_ne (by omega), upd_ne (by omega), upd_ne (by omega), upd_eq]) (by rw [upd_ne (by omega), upd_eq]) (by rw [upd_ne (by omega), upd_ne (by omega), upd_eq]) (by rw [upd_eq]) ?_
      exact ((t3.loc id).trans (t4.loc nS)).trans (t5.loc nS2)
    · refine wal_Flush_c (i := 1) (j := 3 + i) w1.w2.ow a1 a3 (by omega) fun h3 o3 w3 t3 => ?_
      refine ref3_Flush_c (i := 2) (j := 5 + i) (l := l) (m := m) w3 (by rw [upd_ne (by omega), upd_ne (by omega)]; exact a2) (by rw [upd_ne (by omega), upd_ne (by omega)]; exact a5) (by omega) (by omega) fun h4 o4 w4 t4 => ?_
      rw [tt]
      exact fin _ _ h4 o4 _ (flush_keeps hlw) w4 (fun k h1 h2 h3 h5 => by rw [upd_ne h5, upd_ne h2, upd_ne h3, upd_ne h1]) (by rw [upd_ne (by omega), upd_ne (by omega), upd_ne (by omega), upd_eq]) (by rw [upd_ne (by omega), upd_eq]) (by rw [upd_ne (by omega), upd_ne (by omega), upd_eq]) (by rw [upd_eq]) ((t3.loc (by omega)).trans (t4.loc (by omega)))
    · refine ⟨s.n, hb.rdi 2 rfl, s.n, hb.rdi 2 rfl, wal_Cut_c (i := 1) (j := 3 + i) w1.w2.ow a1 a3 (by omega) hlw (by omega) fun h3 o3 w3 t3 => ⟨(t3.bk hb (by rw [ob]; omega)).rdi 2 rfl, ?_⟩⟩
      refine ref3_Cut_c (i := 2) (j := 5 + i) (l := l) (m := m) w3 (by rw [upd_ne (by omega), upd_ne (by omega)]; exact a2) (by rw [upd_ne (by omega), upd_ne (by omega)]; exact a5) (by omega) hlw (by omega) fun h4 o4 w4 t4 => ?_
      rw [tt]
      exact fin _ _ h4 o4 _ (cut_keeps hlw) w4 (fun k h1 h2 h3 h5 => by rw [upd_ne h5, upd_ne h2, upd_ne h3, upd_ne h1]) (by rw [upd_ne (by omega), upd_ne (by omega), upd_ne (by omega), upd_eq]) (by rw [upd_ne (by omega), upd_eq]) (by rw [upd_ne (by omega), upd_ne (by omega), upd_eq]) (by rw [upd_eq]) ((t3.loc (by omega)).trans (t4.loc (by omega)))
    · refine ⟨s.n, hb.rdi 2 rfl, s.n, hb.rdi 2 rfl, wal_Reserve_c (j := 3 + i) w1.w2.ow a3 hlw fun h3 o3 w3 t3 => ⟨(t3.bk hb (by rw [ob]; omega)).rdi 2 rfl, ?_⟩⟩
      refine ref3_Reserve_c (j := 5 + i) (l := l) w3 (by rw [upd_ne (by omega)]; exact a5) hlw fun h4 o4 w4 t4 => ?_
      rw [tt]
      have hrw := reserve_wf (l := l) (k := s.n) hlw
      exact fin _ m h4 o4 _ ⟨hrw.1, hrw.2.1, hrw.2.2, rfl, by omega⟩ w4 (fun k h1 h2 h3 h5 => by rw [upd_ne h5, upd_ne h3]) (by rw [upd_ne (by omega), upd_ne (by omega)]; exact a1) (by rw [upd_ne (by omega), upd_ne (by omega)]; exact a2) (by rw [upd_ne (by omega), upd_eq]) (by rw [upd_eq]) ((t3.loc (by omega)).trans (t4.loc (by omega)))
    · refine ⟨s.n, hb.rdi 2 rfl, s.n, hb.rdi 2 rfl, wal_Release_c (j := 3 + i) w1.w2.ow a3 hlw fun h3 o3 w3 t3 => ⟨(t3.bk hb (by rw [ob]; omega)).rdi 2 rfl, ?_⟩⟩
      refine ref3_Release_c (j := 5 + i) (l := l) w3 (by rw [upd_ne (by omega)]; exact a5) hlw fun h4 o4 w4 t4 => ?_
      rw [tt]
      have hrw := release_wf (l := l) (k := s.n) hlw
      exact fin _ m h4 o4 _ ⟨hrw.1, hrw.2.1, hrw.2.2, rfl, by omega⟩ w4 (fun k h1 h2 h3 h5 => by rw [upd_ne h5, upd_ne h3]) (by rw [upd_ne (by omega), upd_ne (by omega)]; exact a1) (by rw [upd_ne (by omega), upd_ne (by omega)]; exact a2) (by rw [upd_ne (by omega), upd_eq]) (by rw [upd_eq]) ((t3.loc (by omega)).trans (t4.loc (by omega)))
    · refine wal_Records_c (j := 3 + i) w1.w2.ow a3 hlw fun sa ra h3 k3 r3 e3 => ?_
      obtain ⟨w3, t3⟩ := w1.fresh k3
      refine ref3_Records_c (j := 5 + i) w3.w2.ow a5 hlw fun sb rb h4 k4 r4 e4 => ?_
      have hlen : ra.length = (Lg.records l).length := by rw [← e3]; simp
      have hcle := Chain.le hlw.ch
      have hro := hlw.room
      have hnm := hlw.nm
      have hrl : (Lg.records l).length ≤ l.recs.length := by unfold Lg.records; split <;> simp
      refine law3_walRecs_c (RcL.kp0 r3 k4) r4 (by rw [e3, e4]) (by omega) (fun y hy => ?_) (same h4 (k3.trans k4))
      have hm : y.1 ∈ Lg.records l := by rw [← e3]; exact List.mem_map_of_mem hy
      have hm2 : y.1 ∈ l.recs := by unfold Lg.records at hm; split at hm; cases hm; exact hm
      have := (hlw.rl _ hm2).1; omega
    · refine wal_Stat_c (j := 3 + i) w1.w2.ow a3 hlw fun h3 k3 => ?_
      obtain ⟨w3, t3⟩ := w1.fresh k3
      refine ref3_Stat_c (j := 5 + i) w3.w2.ow a5 hlw fun h4 k4 => ?_
      have : (((l.head.lsn : Int) == (l.head.lsn : Int)) && (((l.next : Int) == (l.next : Int)) && (((l.durable : Int) == (l.durable : Int)) && ((((l.live : Nat) : Int) == ((l.live : Nat) : Int)) && (((l.reserved : Int) == (l.reserved : Int)) && ((((l.free : Nat) : Int) == ((l.free : Nat) : Int)) && true)))))) = true := by simp
      rw [this]
      exact same h4 (k3.trans k4)

theorem law3_powers_c {K : Bool → Hp → Prop} {s : StD} {sd sk : Sl} {k : Nat} (w : Wld h0 h t p r mo Q S G T N o A) (hs : smallO mo k) (hk : k ≤ 100000000000) (hst : StH h0 s sd sk)
    (hK : ∀ h' mo' Q' S' G' o' A', Wld h0 h' t p r mo' Q' S' G' T N o' A' → smallO mo' (k + 5000) → Loc h o h' o' → K true h') : law3_walWorld_powers (some (nA t)) s.do_ s.log s.n s.kind s.flag sd sk K h := by
  have hb := Bk.new h (stpC s sd sk) 67
  have k1 : Kp (fun _ => False) h (h.push (Cel (stpC s sd sk) 67)) := Kp.push (Kp.refl _ _) _
  obtain ⟨w1, t1⟩ := w.fresh k1
  have ob : Gro o 8 h h.size = 8 := by simp [Gro]
  refine ⟨_, _, rfl, rfl, s.do_, hb.rdi 0 rfl, ?_⟩
  have e1 : (h.push (Cel [.int .i64 s.do_, .int .i64 s.log, .int .i64 s.n, .int .i64 s.kind, .bool s.flag, sd.v, sk.v] 67)) = h.push (Cel (stpC s sd sk) 67) := rfl
  rw [e1]
  clear e1
  have l1 : Loc h o (h.push (Cel (stpC s sd sk) 67)) (Gro o 8 h) := t1.loc id
  generalize h.push (Cel (stpC s sd sk) 67) = h2 at *
  generalize Gro o 8 h = o2 at *
  generalize h.size = q at *
  have b2 := (w1.bk).1
  have ot := (w1.bk).2
  have tt : ∀ x : Int, (x == x) = true := fun x => by simp
  have n12 : ¬ ((8 : Nat) = 1 ∨ (8 : Nat) = 2) := by omega
  refine dcb (fun _ => ?_) (fun _ => dcb (fun _ => ?_) (fun _ => dcb (fun _ => ?_) (fun _ => hK h2 _ _ _ _ _ _ w1 (fun m hm => by have := hs m hm; omega) l1)))
  · refine ⟨nA t, rfl, p, b2.rdi 0 rfl, s.n, hb.rdi 2 rfl, r, b2.rdi 1 rfl, s.n, hb.rdi 2 rfl, ?_⟩
    cases mo with
    | none =>
      obtain ⟨rfl, rfl⟩ := W2.pn w1.w2
      exact disk_Cut_none_c ⟨hb.rdi 2 rfl, b2.rdi 1 rfl, ref2_Cut_none_c (hK h2 _ _ _ _ _ _ w1 (fun m hm => (nomatch hm)) l1)⟩
    | some m =>
      have hsm := hs m rfl
      refine ow_Cut (i := 1) w1.w2.ow w1.w2.a1 fun h3 w3 t3 => ⟨(t3.bk hb (by rw [ob]; decide)).rdi 2 rfl, (t3.bk b2 (by rw [ot]; decide)).rdi 1 rfl, ?_⟩
      refine rw_Cut (i := 2) w3 w1.w2.a2 fun h4 w4 t4 => ?_
      rw [tt]
      refine hK h4 (some (m.cut s.n).2) Q S G _ _ ⟨⟨w4, w1.w2.a0, rfl, rfl⟩, fun c hc => by rw [upd_ne (by omega), upd_ne (by omega)]; exact w1.aq c hc, fun c hc => by rw [upd_ne (by omega), upd_ne (by omega)]; exact w1.as_ c hc, w1.ac, fun c x hc hx => ?_⟩ (fun x hx => by cases hx; rw [Md.cut_pend]; omega) ((l1.trans (t3.loc (by decide))).trans (t4.loc (by decide)))
      obtain ⟨g1, m0, hm0, hle⟩ := w1.ok c x hc hx
      cases hm0
      refine ⟨g1, _, rfl, ?_⟩
      have : (m.cut s.n).2.laid = m.laid := by unfold Md.cut; split <;> (try split) <;> rfl
      rw [this]; exact hle
  · refine ⟨nA t, rfl, p, b2.rdi 0 rfl, sk, hb.rdi 6 rfl, _, _, _, rfl, rfl, rfl, (hb.push _).rdi 6 rfl, (b2.push _).rdi 0 rfl, ?_⟩
    refine copy_bools0 (hst.kee.kp w1.w2.kp fun _ _ h => h) (by have := hst.kl; omega) fun s3 h3 k3 bl3 n3 => ?_
    obtain ⟨w3, t3⟩ := w1.fresh k3
    have b3 := (w3.bk).1
    have ot3 := (w3.bk).2
    have hb3 := t3.bk hb id
    have ob3 : Gro o2 8 h2 q = 8 := by rw [Gro.old hb.lt]; exact ob
    have o3b : ∀ a, s3.p = some a → Gro o2 8 h2 a.block = 8 := fun a ha => by
      have := n3 _ ⟨a, ha, rfl⟩
      simp only [Gro, if_neg (show ¬ a.block < h2.size by omega)]
    have old3 := w3.w2.own
    have l3 := l1.trans (t3.loc id)
    clear n3
    generalize Gro o2 8 h2 = o3 at *
    refine ⟨b3.rdi 0 rfl, ?_⟩
    -- the end
    have fin : ∀ (n e : Int) (mo4 : Option Md) (h4 : Hp) (o4 : Nat → Nat) (A4 : Nat → Ass), W2 h0 h4 p r mo4 o4 A4 → A4 7 = Ass.cell t (wlC p r Q S T N) 48 → smallO mo4 0 → Loc h3 o3 h4 o4 →
        ∃ h60 : Hp, StL h4 ((nA t).add 2) [.pointer none, .pointer none] h60 ∧ ∃ h62 : Hp, StL h60 ((nA t).add 4) [.pointer none, .pointer none] h62 ∧ ((n == n) = true → (K (e == e) h62)) ∧ ((n == n) = false → (K false h62)) := by
      intro n e mo4 h4 o4 A4 w4 ac4 hs4 l4
      have b4 := (w4.ow.cell ac4).1
      let Z : Nat → Option Addr := fun _ => none
      have st1 : StL h4 ((nA t).add 2) [.pointer none, .pointer none] (setB h4 t (Cel (wlC p r Z S T N) 48)) := by
        rw [add_nA]
        exact b4.st (i := 0 + 2) (vs := [.pointer none, .pointer none]) (by simp [wlC])
      have b5 : Bk (setB h4 t (Cel (wlC p r Z S T N) 48)) t (wlC p r Z S T N) 48 := b4.set
      have st2 : StL (setB h4 t (Cel (wlC p r Z S T N) 48)) ((nA t).add 4) [.pointer none, .pointer none] (setB h4 t (Cel (wlC p r Z Z T N) 48)) := by
        rw [add_nA]
        have := b5.st (i := 0 + 4) (vs := [.pointer none, .pointer none]) (by simp [wlC])
        rw [setB_setB] at this
        exact this
      refine ⟨_, st1, _, st2, ?_⟩
      have w5 := (((w4.ow.put (i := 3) (B := Ass.logO none p none) rfl).put (i := 4) (B := Ass.logO none p none) rfl).put (i := 5) (B := Ass.rlogO none r none) rfl).put (i := 6) (B := Ass.rlogO none r none) rfl
      obtain ⟨w6, t6⟩ := w5.cell_set (i := 7) (b := t) (l := wlC p r Q S T N) (l' := wlC p r Z Z T N) ac4
      have hk2 := hK _ mo4 Z Z (fun _ => none) _ _ ⟨⟨w6, w4.a0, w4.a1, w4.a2⟩, fun c hc => by rcases (show c = 0 ∨ c = 1 by omega) with rfl | rfl <;> rfl, fun c hc => by rcases (show c = 0 ∨ c = 1 by omega) with rfl | rfl <;> rfl, rfl, fun c x hc hx => (nomatch hx)⟩ (fun m hm => by have := hs4 m hm; omega) ((l3.trans l4).trans (t6.loc (by decide)))
      rw [tt n, tt e]
      exact ⟨fun _ => hk2, fun h => (nomatch h)⟩
    cases mo with
    | none =>
      obtain ⟨rfl, rfl⟩ := W2.pn w3.w2
      exact disk_Crash_none_c ⟨_, b3.rdi 1 rfl, sk, hb3.rdi 6 rfl, ref2_Crash_none_c (fin 0 1 none h3 o3 A w3.w2 w3.ac (fun m hm => (nomatch hm)) (Loc.refl _ _))⟩
    | some m =>
      have hsm := hs m rfl
      refine ow_Crash (i := 1) w3.w2.ow w3.w2.a1 bl3 (fun a ha _ => by rw [o3b a ha]; decide) (by omega) fun h4 w4 t4 => ?_
      have kee4 : Bls h4 sk s.keep := (hst.kee.kp w3.w2.kp fun _ _ h => h).kpo t4.kp fun a ha hne => by rw [old3 _ (hst.kee.lt hne ha)]; decide
      refine ⟨r, (t4.bk b3 (by rw [ot3]; decide)).rdi 1 rfl, sk, (t4.bk hb3 (by rw [ob3]; decide)).rdi 6 rfl, ?_⟩
      refine rw_Crash (i := 2) w4 w3.w2.a2 kee4 (fun a ha hne => ?_) (by omega) fun h5 w5 t5 => ?_
      · rw [t4.own _ (by have := w3.w2.kp.size; have := hst.kee.lt hne ha; omega), old3 _ (hst.kee.lt hne ha)]; decide
      exact fin _ 0 (some (m.crash s.keep).2) h5 _ _ ⟨w5, w3.w2.a0, rfl, rfl⟩ w3.ac (fun x hx => by cases hx; simp [Md.crash]) ((t4.loc (by decide)).trans (t5.loc (by decide)))
  · refine ⟨nA t, rfl, p, b2.rdi 0 rfl, r, b2.rdi 1 rfl, law3_walDisks_c w1.w2 (fun m hm => by have := hs m hm; omega) fun h3 o3 s3 t3 => ?_⟩
    exact hK h3 _ _ _ _ _ _ ⟨s3, w1.aq, w1.as_, w1.ac, w1.ok⟩ (fun m hm => by have := hs m hm; omega) (l1.trans (t3.loc id))

/-- A script. -/
def StR (h0 : Hp) (s : StD) (cs : List Value) : Prop := ∃ sd sk, cs = stpC s sd sk ∧ StH h0 s sd sk

theorem law3_plays_c {K : Bool → Hp → Prop} {sc : Sl} {ops : List StD} {lo hi : Int} (w : Wld h0 h t p r mo Q S G T N o A) (hs0 : smallO mo 0) (hs : Arr h0 sc 7 (StR h0) ops) (hl : ops.length ≤ 1048576)
    (hK : ∀ h', Kp (fun _ => False) h0 h' → K true h') : law3_walWorld_plays (some (nA t)) sc lo hi K h := by
  have hsl := hs.len
  refine ⟨fun m k hx => ∃ (j : Nat) (mo : Option Md) (Q S : Nat → Option Addr) (G : Nat → Option Lg) (o : Nat → Nat) (A : Nat → Ass), k = j ∧ j ≤ ops.length ∧ m = ops.length - j ∧ Wld h0 hx t p r mo Q S G T N o A ∧ smallO mo (j * 5000),
    ⟨_, 0, mo, Q, S, G, o, A, rfl, by omega, rfl, w, fun m hm => by have := hs0 m hm; omega⟩, ?_⟩
  clear w hs0
  rintro m k hx ⟨j, mo, Q, S, G, o, A, rfl, hj, rfl, w, hsm⟩
  refine dcd (fun hlt => ?_) (fun hge => hK hx w.w2.kp)
  have hlt' : j < ops.length := by omega
  obtain ⟨a, ha, cs, ⟨sd, sk, rfl, hst⟩, _, hr⟩ := hs.ptr hlt'
  generalize ops[j] = s at *
  have hr1 := RdL.kp0 hr w.w2.kp
  have hb := Bk.new hx [.int .i64 0, .int .i64 0, .int .i64 0, .int .i64 0, .bool false, .slice none 0 0, .slice none 0 0] 67
  refine ⟨a, ha, by omega, by omega, s.do_, s.log, s.n, s.kind, s.flag, sd, sk, by rw [Int.toNat_natCast]; exact hr1, _, _, rfl, rfl, _, hb.st0 (vs := stpC s sd sk) rfl, s.log, hb.set.rdi 1 rfl, ?_⟩
  have kz : Kp (fun _ => False) hx (setB (hx.push (Cel [.int .i64 0, .int .i64 0, .int .i64 0, .int .i64 0, .bool false, .slice none 0 0, .slice none 0 0] 67)) hx.size (Cel (stpC s sd sk) 67)) := Kp.set (F := fun _ => False) (Kp.push (Kp.refl _ _) _) _ (.inl (Nat.le_refl _))
  have hbs : Bk (setB (hx.push (Cel [.int .i64 0, .int .i64 0, .int .i64 0, .int .i64 0, .bool false, .slice none 0 0, .slice none 0 0] 67)) hx.size (Cel (stpC s sd sk) 67)) hx.size (stpC s sd sk) 67 := hb.set
  obtain ⟨w1, t1⟩ := w.fresh kz
  have ob : Gro o 8 hx hx.size = 8 := by simp [Gro]
  clear hb
  generalize setB (hx.push (Cel [.int .i64 0, .int .i64 0, .int .i64 0, .int .i64 0, .bool false, .slice none 0 0, .slice none 0 0] 67)) hx.size (Cel (stpC s sd sk) 67) = h1 at *
  generalize Gro o 8 hx = o1 at *
  generalize hx.size = q at *
  have h5000 : j * 5000 ≤ 6000000000 := by omega
  refine ⟨fun i hy => hy = h1 ∧ ∃ c : Nat, i = c ∧ c < 2, ?_, dcb (fun _ => ⟨rfl, 1, rfl, by omega⟩) (fun _ => ⟨rfl, 0, rfl, by omega⟩)⟩
  rintro i hy ⟨rfl, c, rfl, hc⟩
  refine ⟨fun b hz => hz = hy ∧ b = decide (s.do_ = 1 ∨ s.do_ = 2), ?_, s.do_, hbs.rdi 0 rfl, dcb (fun h1 => ⟨rfl, by simp [h1]⟩) (fun h1 => ⟨s.do_, hbs.rdi 0 rfl, rfl, by rw [Bool.eq_iff_iff]; simp [h1]⟩)⟩
  rintro b hz ⟨rfl, rfl⟩
  have next : ∀ (h' : Hp) (mo' : Option Md) (Q' S' : Nat → Option Addr) (G' : Nat → Option Lg) (o' : Nat → Nat) (A' : Nat → Ass), Wld h0 h' t p r mo' Q' S' G' T N o' A' → smallO mo' (j * 5000 + 5000) →
      ∃ n58 : Int, Wr .i64 ((j : Int) + 1) n58 ∧ ∃ m60, m60 < ops.length - j ∧ ∃ (j' : Nat) (mo : Option Md) (Q S : Nat → Option Addr) (G : Nat → Option Lg) (o : Nat → Nat) (A : Nat → Ass), n58 = j' ∧ j' ≤ ops.length ∧ m60 = ops.length - j' ∧ Wld h0 h' t p r mo Q S G T N o A ∧ smallO mo (j' * 5000) :=
    fun h' mo' Q' S' G' o' A' w' hs' => ⟨_, Wr.i64 (by omega) (by omega), ops.length - (j + 1), by omega, j + 1, mo', Q', S', G', o', A', by omega, by omega, rfl, w', fun m hm => by have := hs' m hm; omega⟩
  refine ⟨fun g hu => g = true ∧ ∃ (mo' : Option Md) (Q' S' : Nat → Option Addr) (G' : Nat → Option Lg) (o' : Nat → Nat) (A' : Nat → Ass), Wld h0 hu t p r mo' Q' S' G' T N o' A' ∧ smallO mo' (j * 5000 + 5000), ?_, dcd (fun hmk => ?_) (fun hnm => ?_)⟩
  · rintro g hu ⟨rfl, mo', Q', S', G', o', A', w', hs'⟩
    refine ⟨fun b hv => b = false ∧ hv = hu, ?_, fun h => (nomatch h), fun _ => ⟨rfl, rfl⟩⟩
    rintro b hv ⟨rfl, rfl⟩
    exact ⟨fun h => (nomatch h), fun _ => next hv _ _ _ _ _ _ w' hs'⟩
  · refine ⟨s.do_, s.log, s.n, s.kind, s.flag, sd, sk, hbs.rd0, ?_⟩
    refine law3_makes_c (s := s) (k := j * 5000) w1 hsm (by omega) hc fun h' mo' Q' S' G' o' A' w' hs' hloc => ?_
    have b' := (w'.bk).1
    have hn1 : (Q' c).isNone = (G' c).isNone := by
      have a3 := w'.aq c hc
      cases hg : G' c with
      | none => rw [hg] at a3; exact congrArg Option.isNone (show Q' c = none from w'.w2.ow.at a3)
      | some l => rw [hg] at a3; obtain ⟨b, sr, rs, e, _⟩ := w'.w2.ow.log a3; rw [e]; rfl
    have hn2 : (S' c).isNone = (G' c).isNone := by
      have a5 := w'.as_ c hc
      cases hg : G' c with
      | none => rw [hg] at a5; exact congrArg Option.isNone (show S' c = none from w'.w2.ow.at a5)
      | some l => rw [hg] at a5; obtain ⟨b, sr, sv, rs, e, _⟩ := w'.w2.ow.rlog a5; rw [e]; rfl
    refine ⟨nA t, rfl, by omega, by omega, Q' c, wl_q hc b', by omega, by omega, S' c, wl_s hc b', ?_⟩
    rw [hn1, hn2]
    have : (!((G' c).isNone == (G' c).isNone)) = false := by simp
    rw [this]
    exact ⟨fun h => (nomatch h), fun _ => ⟨rfl, mo', Q', S', G', o', A', w', hs'⟩⟩
  · refine ⟨fun b hu => hu = hz ∧ b = decide (3 ≤ s.do_ ∧ s.do_ ≤ 9), ?_, s.do_, hbs.rdi 0 rfl, dcd (fun h1 => ⟨s.do_, hbs.rdi 0 rfl, rfl, by rw [Bool.eq_iff_iff]; simp only [decide_eq_true_eq]; omega⟩) (fun h1 => ⟨rfl, by symm; simp only [decide_eq_false_iff_not]; omega⟩)⟩
    rintro b hu ⟨rfl, rfl⟩
    refine dcd (fun hac => ?_) (fun hpo => ?_)
    · refine ⟨s.do_, s.log, s.n, s.kind, s.flag, sd, sk, hbs.rd0, ?_⟩
      exact law3_acts_c (s := s) (k := j * 5000) w1 hsm (by omega) hc hst fun h' mo' G' o' A' w' hs' hloc => ⟨rfl, mo', Q, S, G', o', A', w', hs'⟩
    · refine ⟨s.do_, s.log, s.n, s.kind, s.flag, sd, sk, hbs.rd0, ?_⟩
      exact law3_powers_c (s := s) (k := j * 5000) w1 hsm (by omega) hst fun h' mo' Q' S' G' o' A' w' hs' hloc => ⟨rfl, mo', Q', S', G', o', A', w', hs'⟩
end
end Go.Proofs.YthpeadoidpimmaaGreat
namespace Go.Proofs.YthpeadoidpimmaaGreat
open Go Tw Go.ChangeShapes Go.WideShapes Go.RowKit
set_option linter.unusedVariables false
set_option linter.unusedSimpArgs false
set_option maxRecDepth 10000
set_option maxHeartbeats 1000000

section
variable {h0 h : Hp} {t : Nat} {p r : Option Addr} {mo : Option Md} {o : Nat → Nat} {A : Nat → Ass}

theorem Wld.begin {l : List Value} (T N : Nat → Int) (w : W2 h0 h p r mo o A) (ac : A 7 = Ass.cell t l 48) :
    ∃ o' A', Wld h0 (setB h t (Cel (wlC p r (fun _ => none) (fun _ => none) T N) 48)) t p r mo (fun _ => none) (fun _ => none) (fun _ => none) T N o' A' := by
  have w5 := (((w.ow.put (i := 3) (B := Ass.logO none p none) rfl).put (i := 4) (B := Ass.logO none p none) rfl).put (i := 5) (B := Ass.rlogO none r none) rfl).put (i := 6) (B := Ass.rlogO none r none) rfl
  obtain ⟨w6, t6⟩ := w5.cell_set (i := 7) (b := t) (l := l) (l' := wlC p r (fun _ => none) (fun _ => none) T N) ac
  exact ⟨_, _, ⟨w6, w.a0, w.a1, w.a2⟩, fun c hc => by rcases (show c = 0 ∨ c = 1 by omega) with rfl | rfl <;> rfl, fun c hc => by rcases (show c = 0 ∨ c = 1 by omega) with rfl | rfl <;> rfl, rfl, fun c x hc hx => (nomatch hx)⟩

theorem PDo.ass {F : Nat → Prop} (d : PDo h p mo F) : (Ass.diskO p mo).P h F := by cases mo <;> exact d
theorem RDo.ass {F : Nat → Prop} (d : RDo h r mo F) : (Ass.rdiskO r mo).P h F := by cases mo <;> exact d

/-- Two stores into the world's block are one. -/
theorem bk_sts {b i : Nat} {l0 l l' : List Value} {ty : TypeId} {v : Value} {a : Addr} (hb : Bk h b l0 ty) (ha : a = (nA b).add i) (hi : i < l.length) (hl : l.set i v = l') :
    StL (setB h b (Cel l ty)) a [v] (setB h b (Cel l' ty)) := by
  have := (hb.set (l' := l)).sti i v hi
  rw [setB_setB, hl] at this
  rw [ha]; exact this

theorem law3_walBegin_c {a b c d e : Int} {K : Option Addr → Bool → Hp → Prop} (hk : Kp (fun _ => False) h0 h)
    (hK : ∀ h' t p r mo T N o A, Wld h0 h' t p r mo (fun _ => none) (fun _ => none) (fun _ => none) T N o A → smallO mo 0 → K (some (nA t)) true h') : law3_walBegin a b c d e K h := by
  have hpl := Bk.new h [.int .i64 a, .int .i64 b, .int .i64 c, .int .i64 d, .int .i64 e] 23
  let l0 : List Value := [.pointer none, .pointer none, .pointer none, .pointer none, .pointer none, .pointer none, .int .i64 0, .int .i64 0, .int .i64 0, .int .i64 0]
  refine ⟨_, _, rfl, rfl, _, _, rfl, rfl, a, (hpl.push (Cel l0 48)).rdi 0 rfl, ?_⟩
  have k0 : Kp (fun _ => False) h (h.push (Cel [.int .i64 a, .int .i64 b, .int .i64 c, .int .i64 d, .int .i64 e] 23)) := Kp.push (Kp.refl _ _) _
  have hq := hpl.lt
  generalize h.push (Cel [.int .i64 a, .int .i64 b, .int .i64 c, .int .i64 d, .int .i64 e] 23) = h1 at *
  generalize h.size = q at *
  have k1 : Kp (fun _ => False) h1 (h1.push (Cel l0 48)) := Kp.push (Kp.refl _ _) _
  have hb2 := Bk.new h1 l0 48
  have hpl2 := hpl.push (Cel l0 48)
  have h0s := hk.size
  have h1s := k0.size
  let o0 : Nat → Nat := fun x => if x < h0.size then 0 else if x = h1.size then 7 else 8
  have w0 : Ow (h1.push (Cel l0 48)) o0 (upd (upd (fun _ => Ass.top) 0 (Ass.old h0)) 7 (Ass.cell h1.size l0 48)) := by
    refine Ow.put (Ow.put (fun i => trivial) ⟨(hk.trans k0).trans k1, fun x hx => ?_⟩) ⟨hb2, ?_⟩
    · simp [o0, hx]
    · show (if h1.size < h0.size then 0 else if h1.size = h1.size then 7 else 8) = 7
      rw [if_neg (by omega), if_pos rfl]
  have hlt2 := hb2.lt
  clear_value o0
  generalize h1.push (Cel l0 48) = h2 at *
  generalize h1.size = t at *
  refine disk_New_o 1 o0 fun h3 p k3 d3 => ⟨a, (hpl2.kp k3 fun h => h).rdi 0 rfl, ref2_New_o 2 (Gro o0 1 h2) fun h4 r k4 d4 => ?_⟩
  have w3 := ((w0.fresh 1 k3).1).put (PDo.ass d3)
  have w4 := ((w3.fresh 2 k4).1).put (RDo.ass d4)
  have hb4 := (hb2.kp k3 fun h => h).kp k4 fun h => h
  have hpl4 := (hpl2.kp k3 fun h => h).kp k4 fun h => h
  have hqt : q ≠ t := by omega
  refine ⟨fun b hx => b = false ∧ hx = h4, ?_, dcn (fun h => (h rfl).elim) fun _ => ⟨by rw [PDo.iff d3, RDo.iff d4]; simp, rfl⟩⟩
  rintro x hx ⟨rfl, rfl⟩
  refine ⟨fun h => (nomatch h), fun _ => ?_⟩
  let T : Nat → Int := fun i => if i = 0 then b else d
  let N : Nat → Int := fun i => if i = 0 then c else e
  let l1 : List Value := [.pointer p, .pointer none, .pointer none, .pointer none, .pointer none, .pointer none, .int .i64 0, .int .i64 0, .int .i64 0, .int .i64 0]
  let l2 : List Value := [.pointer p, .pointer r, .pointer none, .pointer none, .pointer none, .pointer none, .int .i64 0, .int .i64 0, .int .i64 0, .int .i64 0]
  let l3 : List Value := [.pointer p, .pointer r, .pointer none, .pointer none, .pointer none, .pointer none, .int .i64 b, .int .i64 0, .int .i64 0, .int .i64 0]
  let l4 : List Value := [.pointer p, .pointer r, .pointer none, .pointer none, .pointer none, .pointer none, .int .i64 b, .int .i64 0, .int .i64 c, .int .i64 0]
  let l5 : List Value := [.pointer p, .pointer r, .pointer none, .pointer none, .pointer none, .pointer none, .int .i64 b, .int .i64 d, .int .i64 c, .int .i64 0]
  have pl : ∀ l, Bk (setB hx t (Cel l 48)) q [.int .i64 a, .int .i64 b, .int .i64 c, .int .i64 d, .int .i64 e] 23 := fun l => hpl4.kp (F := fun x => x = t) (Kp.set (Kp.refl _ _) _ (.inr rfl)) hqt
  refine ⟨setB hx t (Cel l1 48), hb4.sti 0 _ (by decide), setB hx t (Cel l2 48), bk_sts hb4 (i := 1) rfl (by simp [l1]) rfl, b, (pl l2).rdi 1 rfl, setB hx t (Cel l3 48), bk_sts hb4 (i := 6) rfl (by simp [l2]) rfl,
    c, (pl l3).rdi 2 rfl, setB hx t (Cel l4 48), bk_sts hb4 (i := 8) rfl (by simp [l3]) rfl, d, (pl l4).rdi 3 rfl, setB hx t (Cel l5 48), bk_sts hb4 (i := 7) rfl (by simp [l4]) rfl, e, (pl l5).rdi 4 rfl,
    setB hx t (Cel (wlC p r (fun _ => none) (fun _ => none) T N) 48), bk_sts hb4 (i := 9) rfl (by simp [l5]) rfl, ?_⟩
  obtain ⟨o', A', w5⟩ := Wld.begin T N (h0 := h0) (mo := newO a) ⟨w4, rfl, rfl, rfl⟩ (t := t) (l := l0) rfl
  refine hK _ t p r _ T N o' A' w5 fun m hm => ?_
  unfold newO at hm
  split at hm
  · cases hm
  · cases hm; simp [Md.new]

theorem law3_walHeld_c {a b c d e : Int} {sc : Sl} {ops : List StD} {lo hi : Int} (hs : Arr h0 sc 7 (StR h0) ops) (hl : ops.length ≤ 1048576) (hk : Kp (fun _ => False) h0 h) : law3_walHeld a b c d e sc lo hi (LawK h0) h := by
  have hpl := Bk.new h [.int .i64 a, .int .i64 b, .int .i64 c, .int .i64 d, .int .i64 e] 23
  refine ⟨_, _, rfl, rfl, a, b, c, d, e, hpl.rd0, law3_walBegin_c (h0 := h0) (Kp.push hk _) fun h' t p r mo T N o A w hsm => ⟨fun _ => ?_, fun h => (nomatch h)⟩⟩
  exact law3_plays_c w hsm hs hl fun h' k => ⟨rfl, k⟩
end

section
variable {H : Type} {enc : TypeId × Value → H} {w : World} {base : Nat} {sp : Nat → Bool} {held : Bool}

def stMu (s : StD) : Nat := s.data.length + s.keep.length + 1

theorem open_st : Opens enc Tryz.prog w base sp held 67 (fun (s : StD) cs => ∃ sd sk, cs = stpC s sd sk ∧ Byt w.heap sd s.data ∧ Bls w.heap sk s.keep) stMu := by
  intro fuel cs d p h
  obtain ⟨xs, n, rfl, hx, hcl, hxl, hf⟩ := DataW.trod_struct Tryz.underlying67 h
  cases hx
  have c3 : Tryz.prog.cellsOf 3 = 1 := by kernel_rfl
  have c2 : Tryz.prog.cellsOf 2 = 1 := by kernel_rfl
  have c29 : Tryz.prog.cellsOf 29 = 1 := by kernel_rfl
  have c65 : Tryz.prog.cellsOf 65 = 1 := by kernel_rfl
  have c67 : Tryz.prog.cellsOf 67 = 7 := by kernel_rfl
  have c5 : Tryz.prog.cellsOf 5 = 1 := by kernel_rfl
  have c4 : Tryz.prog.cellsOf 4 = 1 := by kernel_rfl
  rw [c67] at hcl
  have f0 : DataW.trod enc Tryz.prog w base sp held n 3 ((cs.drop 0).take (Tryz.prog.cellsOf 3)) = xs[0]? := hf 0 _ rfl
  have f1 : DataW.trod enc Tryz.prog w base sp held n 3 ((cs.drop 1).take (Tryz.prog.cellsOf 3)) = xs[1]? := hf 1 _ rfl
  have f2 : DataW.trod enc Tryz.prog w base sp held n 2 ((cs.drop 2).take (Tryz.prog.cellsOf 2)) = xs[2]? := hf 2 _ rfl
  have f3 : DataW.trod enc Tryz.prog w base sp held n 3 ((cs.drop 3).take (Tryz.prog.cellsOf 3)) = xs[3]? := hf 3 _ rfl
  have f4 : DataW.trod enc Tryz.prog w base sp held n 4 ((cs.drop 4).take (Tryz.prog.cellsOf 4)) = xs[4]? := hf 4 _ rfl
  have f5 : DataW.trod enc Tryz.prog w base sp held n 29 ((cs.drop 5).take (Tryz.prog.cellsOf 29)) = xs[5]? := hf 5 _ rfl
  have f6 : DataW.trod enc Tryz.prog w base sp held n 65 ((cs.drop 6).take (Tryz.prog.cellsOf 65)) = xs[6]? := hf 6 _ rfl
  rw [c3] at f0 f1 f3
  rw [c2] at f2
  rw [c4] at f4
  rw [c29] at f5
  rw [c65] at f6
  have hxl7 : xs.length = 7 := hxl
  match xs, hxl7 with
  | [x0, x1, x2, x3, x4, x5, x6], _ =>
  match cs, hcl with
  | [v0, v1, v2, v3, v4, v5, v6], _ =>
  obtain ⟨a0, ⟨e0, _⟩, _⟩ := open_i64 (P := Tryz.prog) Tryz.underlying3 _ _ _ _ f0
  obtain ⟨a1, ⟨e1, _⟩, _⟩ := open_i64 (P := Tryz.prog) Tryz.underlying3 _ _ _ _ f1
  obtain ⟨a2, ⟨e2, _⟩, _⟩ := open_i64 (P := Tryz.prog) Tryz.underlying2 _ _ _ _ f2
  obtain ⟨a3, ⟨e3, _⟩, _⟩ := open_i64 (P := Tryz.prog) Tryz.underlying3 _ _ _ _ f3
  obtain ⟨a4, e4, _⟩ := open_boolc (P := Tryz.prog) Tryz.underlying4 _ _ _ _ f4
  obtain ⟨dat, ⟨sd, e5, hd⟩, hm5⟩ := open_bytes (P := Tryz.prog) Tryz.underlying29 Tryz.underlying5 c5 _ _ _ _ f5
  obtain ⟨kee, ⟨sk, e6, hk⟩, hm6⟩ := open_bools (P := Tryz.prog) Tryz.underlying65 Tryz.underlying4 c4 _ _ _ _ f6
  refine ⟨⟨a0, a1, a2, a3, a4, dat, kee⟩, ⟨sd, sk, ?_, hd, hk⟩, ?_⟩
  · simp at e0 e1 e2 e3 e4 e5 e6
    rw [e0, e1, e2, e3, e4, e5, e6]; rfl
  · simp only at hm5 hm6
    simp only [stMu, Rows.uptoBulk, List.map_cons, List.map_nil, Rows.uptoBulkAll]
    omega

theorem mem_sum {α : Type} (μ : α → Nat) {l : List α} {x : α} (h : x ∈ l) : μ x ≤ (l.map μ).sum := by
  induction l with
  | nil => cases h
  | cons y r ih =>
    rcases List.mem_cons.1 h with rfl | h
    · simp
    · have := ih h; simp; omega
theorem len_sum {α : Type} (μ : α → Nat) (hμ : ∀ x, 1 ≤ μ x) (l : List α) : l.length ≤ (l.map μ).sum := by
  induction l with
  | nil => simp
  | cons y r ih => have := hμ y; simp; omega

/-- A script as an argument. -/
theorem open_script {v : Value} {d : DataW H} {ps : List MemPlace} {r : Reach} {b0 : Nat} (hval : Value.okWide Tryz.prog w r b0 24 v) (hd : DataW.Trod enc Tryz.prog w base sp held 24 v d ps) (hk : Rows.uptoBulk d ≤ 1048576) :
    ∃ (s : Sl) (ops : List StD), v = s.v ∧ Arr w.heap s 7 (StR w.heap) ops ∧ ops.length ≤ 1048576 := by
  have c67 : Tryz.prog.cellsOf 67 = 7 := by kernel_rfl
  obtain ⟨ops, ⟨s, hcs, hs⟩, hm⟩ := open_val (open_slice Tryz.underlying24 c67 (open_st (w := w))) hd
  have hlen := len_sum stMu (fun x => by unfold stMu; omega) ops
  refine ⟨s, ops, sl_of_cells Tryz.underlying24 hval hcs, ⟨hs.len, hs.cap, ?_⟩, by omega⟩
  have h1 := hs.rd
  cases hp : s.p with
  | none => rw [hp] at h1; exact h1
  | some a =>
    rw [hp] at h1
    intro i x hx
    obtain ⟨cs, ⟨sd, sk, e, hd, hk'⟩, hl, hr⟩ := h1 i x hx
    have hmx := mem_sum stMu (List.mem_of_getElem? hx)
    have hmu : stMu x = x.data.length + x.keep.length + 1 := rfl
    exact ⟨cs, ⟨sd, sk, e, hd, hk', by omega, by omega⟩, hl, hr⟩

/-- A place as an argument. -/
theorem open_place {v : Value} {d : DataW H} {ps : List MemPlace} {r : Reach} {b0 : Nat} (hval : Value.okWide Tryz.prog w r b0 23 v) (hd : DataW.Trod enc Tryz.prog w base sp held 23 v d ps) :
    ∃ a b c d e : Int, v = .agg (List.toArray [.int .i64 a, .int .i64 b, .int .i64 c, .int .i64 d, .int .i64 e]) := by
  obtain ⟨cs, rfl, hsz⟩ := okWide_struct Tryz.underlying23 hval
  obtain ⟨fuel, h⟩ := hd
  obtain ⟨xs, n, _, hx, hcl, hxl, hf⟩ := DataW.trod_struct Tryz.underlying23 h
  have c23 : Tryz.prog.cellsOf 23 = 5 := by kernel_rfl
  have c3 : Tryz.prog.cellsOf 3 = 1 := by kernel_rfl
  rw [c23] at hsz
  have hc : (Value.agg cs).cells.toList = cs.toList := rfl
  rw [hc] at hf
  have f0 : DataW.trod enc Tryz.prog w base sp held n 3 ((cs.toList.drop 0).take (Tryz.prog.cellsOf 3)) = xs[0]? := hf 0 _ rfl
  have f1 : DataW.trod enc Tryz.prog w base sp held n 3 ((cs.toList.drop 1).take (Tryz.prog.cellsOf 3)) = xs[1]? := hf 1 _ rfl
  have f2 : DataW.trod enc Tryz.prog w base sp held n 3 ((cs.toList.drop 2).take (Tryz.prog.cellsOf 3)) = xs[2]? := hf 2 _ rfl
  have f3 : DataW.trod enc Tryz.prog w base sp held n 3 ((cs.toList.drop 3).take (Tryz.prog.cellsOf 3)) = xs[3]? := hf 3 _ rfl
  have f4 : DataW.trod enc Tryz.prog w base sp held n 3 ((cs.toList.drop 4).take (Tryz.prog.cellsOf 3)) = xs[4]? := hf 4 _ rfl
  rw [c3] at f0 f1 f2 f3 f4
  have hxl5 : xs.length = 5 := hxl
  have hl5 : cs.toList.length = 5 := by simpa using hsz
  match xs, hxl5 with
  | [x0, x1, x2, x3, x4], _ =>
  obtain ⟨l⟩ := cs
  simp only at f0 f1 f2 f3 f4 hl5
  match l, hl5 with
  | [v0, v1, v2, v3, v4], _ =>
  obtain ⟨a0, ⟨e0, _⟩, _⟩ := open_i64 (P := Tryz.prog) Tryz.underlying3 _ _ _ _ f0
  obtain ⟨a1, ⟨e1, _⟩, _⟩ := open_i64 (P := Tryz.prog) Tryz.underlying3 _ _ _ _ f1
  obtain ⟨a2, ⟨e2, _⟩, _⟩ := open_i64 (P := Tryz.prog) Tryz.underlying3 _ _ _ _ f2
  obtain ⟨a3, ⟨e3, _⟩, _⟩ := open_i64 (P := Tryz.prog) Tryz.underlying3 _ _ _ _ f3
  obtain ⟨a4, ⟨e4, _⟩, _⟩ := open_i64 (P := Tryz.prog) Tryz.underlying3 _ _ _ _ f4
  refine ⟨a0, a1, a2, a3, a4, ?_⟩
  simp at e0 e1 e2 e3 e4
  rw [e0, e1, e2, e3, e4]
end
end Go.Proofs.YthpeadoidpimmaaGreat
