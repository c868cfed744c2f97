/- The calls of the program's log. No condition. -/
import Derived.Test.YthpeadoidpimmaaLogO
namespace Go.Proofs.Ythpeadoidpimmaa
open Go Tw
set_option linter.unusedVariables false
set_option linter.unusedSimpArgs false
set_option maxRecDepth 10000
set_option maxHeartbeats 1000000

def Ass.logO (q p : Option Addr) : Option Lg → Ass
  | none => ⟨fun _ _ => q = none, fun p _ _ => p, fun p _ => p⟩
  | some l => Ass.log q p l

theorem Byt.cut {h : Hp} {s : Sl} {bs : List UInt8} (hs : Byt h s bs) {lo hi : Nat} (h1 : lo ≤ hi) (h2 : hi ≤ bs.length) : Byt h (slS s 1 lo hi) ((bs.drop lo).take (hi - lo)) := by
  have hsl := hs.len
  have hcap := hs.cap
  rcases Nat.eq_or_lt_of_le h1 with rfl | hlt
  · have e : (bs.drop lo).take (lo - lo) = [] := by simp
    rw [e]
    refine ⟨by simp [slS], by simp [slS], ?_⟩
    have hr := hs.rd
    cases hp : s.p with
    | none =>
      rw [hp] at hr
      have : (slS s 1 lo lo).p = none := by simp only [slS, hp]; split <;> rfl
      rw [this]
      refine ⟨rfl, ?_⟩
      simp only [slS]; omega
    | some a =>
      have : ∃ a', (slS s 1 lo lo).p = some a' := by simp only [slS, hp]; split <;> exact ⟨_, rfl⟩
      obtain ⟨a', ha'⟩ := this
      rw [ha']
      intro j v hj; simp at hj
  · obtain ⟨a, ha, hr⟩ := Byt.part hs (show lo < bs.length by omega) (n := hi - lo)
    refine ⟨?_, ?_, ?_⟩
    · simp only [slS]; simp; omega
    · simp only [slS]; omega
    · simp only [slS]
      rw [if_neg (by omega), ha, Nat.mul_one]
      exact hr
theorem Byt.min {h : Hp} {s : Sl} {bs : List UInt8} {n : Nat} (hs : Byt h s bs) (hn : bs.length ≤ n) : RdS h ⟨s.p, Nat.min s.len n, s.cap⟩ 1 (bs.map bv) := by
  have e : Nat.min s.len n = s.len := Nat.min_eq_left (by rw [hs.len]; exact hn)
  rw [e]; exact Byt.rds hs

section
variable {h h1 h2 : Hp} {o : Nat → Nat} {A : Nat → Ass} {p q : Option Addr} {m : Md} {l l' : Lg} {st n i j : Nat}

theorem Ow.lset {b : Nat} {sr : Sl} {rs : List (Rec × Sl)} (w : Ow h o A) (hj : A j = Ass.log (some (nA b)) p l) (hp : PLg h b p sr rs l (fun x => o x = j)) (h1 : l'.recs = l.recs) :
    Ow (setB h b (Cel (lgC p sr l') 175)) (Gro o j h) (upd A j (Ass.log (some (nA b)) p l')) ∧ Stp (fun x => x = j) h o (setB h b (Cel (lgC p sr l') 175)) (Gro o j h) := by
  obtain ⟨p1, k1⟩ := hp.head h1
  exact w.step (k1.mono fun x _ e => by subst e; exact hp.fb) ⟨b, sr, rs, rfl, p1.mono fun x _ hx => .inl hx⟩

theorem wal_free_c {b : Nat} {sr : Sl} {K : Int → Hp → Prop} (hb : Bk h b (lgC p sr l) 175) (hw : l.Wf) (hK : ∀ h', Kp (fun _ => False) h h' → K ((l.free : Nat) : Int) h') : wal_Log_free (some (nA b)) K h := by
  have hle := Chain.le hw.ch
  have hro := hw.room
  have hn4 := hw.n4
  have hnm := hw.nm
  have hnx := hw.nx
  have e1 : ((l.next - l.head.lsn : Nat) : Int) = (l.next : Int) - l.head.lsn := by omega
  have R : ∀ hx, Bk hx b (lgC p sr l) 175 → rdc hx ((nA b).add 9) = some (.int .i64 l.reserved) ∧ rdc hx (((nA b).add 3).add 1) = some (.int .i64 l.head.lsn) ∧ rdc hx ((nA b).add 7) = some (.int .i64 l.next) := fun hx bx => ⟨bx.rdi 9 rfl, bx.rd2 3 1 rfl, bx.rdi 7 rfl⟩
  refine ⟨nA b, rfl, p, l.st, l.n, hb.rdk 0 [.pointer p, .int .i64 l.st, .int .i64 l.n] rfl, l.next, (R _ hb).2.2, l.head.lsn, (R _ hb).2.1, ((l.next - l.head.lsn : Nat) : Int), by rw [e1]; exact Wr.i64 (by omega) (by omega), l.reserved, (R _ hb).1, wal_ring_c hn4 (by omega) fun h1 k1 => ?_⟩
  have b1 := hb.kp k1 fun h => h
  have e2 : ((l.n - 2 - (l.next - l.head.lsn) : Nat) : Int) = ((l.n - 2 : Nat) : Int) - ((l.next - l.head.lsn : Nat) : Int) := by omega
  have e3 : ((l.free : Nat) : Int) = ((l.n - 2 - (l.next - l.head.lsn) : Nat) : Int) - (l.reserved : Int) := by unfold Lg.free Lg.live; omega
  refine ⟨(R _ b1).1, (R _ b1).2.1, (R _ b1).2.2, ((l.n - 2 - (l.next - l.head.lsn) : Nat) : Int), by rw [e2]; exact Wr.i64 (by omega) (by omega), ((l.free : Nat) : Int), by rw [e3]; exact Wr.i64 (by omega) (by omega), hK h1 k1⟩

theorem wal_died_c {b : Nat} {sr : Sl} {rs : List (Rec × Sl)} {e : Int} {K : Int → Hp → Prop} (w : Ow h o A) (hj : A j = Ass.log (some (nA b)) p l) (hp : PLg h b p sr rs l (fun x => o x = j))
    (h0 : e = 0 → K 0 h) (h1 : e ≠ 0 → ∀ h' o', Ow h' o' (upd A j (Ass.log (some (nA b)) p { l with dead := true })) → Stp (fun x => x = j) h o h' o' → K e h') : wal_Log_died (some (nA b)) e K h := by
  refine dcn (fun hne => ⟨nA b, rfl, _, hp.st.sti 11 (.bool true) (by simp [lgC]), ?_⟩) (fun he => by rw [he]; exact h0 he)
  obtain ⟨w1, s1⟩ := w.lset (l' := { l with dead := true }) hj hp rfl
  exact h1 hne _ _ w1 s1

/-! ### Reserve, Release, Flush, Stat -/
theorem PLg.own {b : Nat} {sr : Sl} {rs : List (Rec × Sl)} {S : Nat → Prop} {h' : Hp} {o' : Nat → Nat} (hp : PLg h b p sr rs l (fun x => o x = j)) (s : Stp S h o h' o') (hn : ¬ S j) : PLg h' b p sr rs l (fun x => o' x = j) :=
  (hp.kp s.kp fun x _ hx hs => hn (by rw [← hx]; exact hs)).mono fun x _ hx => by rw [s.own x hx.2]; exact hx.1

theorem wal_Stat_none_c {K : Int → Int → Int → Int → Int → Int → Hp → Prop} (hK : ∀ h', Kp (fun _ => False) h h' → K 0 0 0 0 0 0 h') : wal_Log_Stat none K h := by
  have hb := Bk.new h [.int .i64 0, .int .i64 0, .int .i64 0, .int .i64 0, .int .i64 0, .int .i64 0] 123
  refine ⟨_, _, rfl, rfl, isN0 ⟨_, hb.st0 rfl, 0, 0, 0, 0, 0, 0, hb.set.rd0, hK _ ((Kp.push (Kp.refl _ _) _).set _ (.inl (Nat.le_refl _)))⟩⟩
theorem wal_Stat_c {K : Int → Int → Int → Int → Int → Int → Hp → Prop} (w : Ow h o A) (hj : A j = Ass.log q p l) (hw : l.Wf)
    (hK : ∀ h', Kp (fun _ => False) h h' → K l.head.lsn l.next l.durable (l.live : Nat) l.reserved (l.free : Nat) h') : wal_Log_Stat q K h := by
  obtain ⟨b, sr, rs, rfl, hp⟩ := w.log hj
  have hle := Chain.le hw.ch
  have hnx := hw.nx
  have hb := Bk.new h [.int .i64 0, .int .i64 0, .int .i64 0, .int .i64 0, .int .i64 0, .int .i64 0] 123
  have kz : Kp (fun _ => False) h (h.push (Cel [.int .i64 0, .int .i64 0, .int .i64 0, .int .i64 0, .int .i64 0, .int .i64 0] 123)) := Kp.push (Kp.refl _ _) _
  have b1 := hp.st.push (Cel [.int .i64 0, .int .i64 0, .int .i64 0, .int .i64 0, .int .i64 0, .int .i64 0] 123)
  have e1 : ((l.live : Nat) : Int) = (l.next : Int) - l.head.lsn := by unfold Lg.live; omega
  have R : ∀ hx, Bk hx b (lgC p sr l) 175 → rdc hx (((nA b).add 3).add 1) = some (.int .i64 l.head.lsn) ∧ rdc hx ((nA b).add 7) = some (.int .i64 l.next) ∧ rdc hx ((nA b).add 8) = some (.int .i64 l.durable) ∧ rdc hx ((nA b).add 9) = some (.int .i64 l.reserved) :=
    fun hx bx => ⟨bx.rd2 3 1 rfl, bx.rdi 7 rfl, bx.rdi 8 rfl, bx.rdi 9 rfl⟩
  refine ⟨_, _, rfl, rfl, isN ⟨nA b, rfl, l.head.lsn, (R _ b1).1, l.next, (R _ b1).2.1, l.durable, (R _ b1).2.2.1, l.next, (R _ b1).2.1, l.head.lsn, (R _ b1).1, ((l.live : Nat) : Int), by rw [e1]; exact Wr.i64 (by omega) (by omega), l.reserved, (R _ b1).2.2.2, wal_free_c b1 hw fun h2 k2 => ?_⟩⟩
  have b2 := b1.kp k2 fun h => h
  have hb2 := hb.kp k2 fun h => h
  refine ⟨(R _ b2).2.2.2, (R _ b2).1, (R _ b2).2.1, (R _ b2).2.2.1, (R _ b2).2.1, (R _ b2).1, _, hb2.st0 rfl, _, _, _, _, _, _, hb2.set.rd0, hK _ ((kz.trans k2).set _ (.inl (Nat.le_refl _)))⟩

/-! ### Open -/
def opnI (m : Md) (start n : Int) : (Option Lg × Int) × Md := if areaOk m start n then opn m start.toNat n.toNat else ((none, 1), m)

theorem wal_Open_none_c {start n : Int} {K : Option Addr → Int → Hp → Prop} (hK : ∀ h', Kp (fun _ => False) h h' → K none 1 h') : wal_Open none start n K h := by
  refine wal_at_none_c fun x y z h1 k1 => ?_
  have hb := Bk.new h1 [.pointer none, .int .i64 0, .int .i64 0] 164
  exact ⟨_, _, rfl, rfl, _, hb.st0 (vs := [.pointer x, .int .i64 y, .int .i64 z]) rfl, fun _ => hK _ ((k1.push _).set _ (.inl k1.size)), fun h => (nomatch h)⟩

theorem wal_Open_c {start n : Int} {K : Option Addr → Int → Hp → Prop} (w : Ow h o A) (hi : A i = Ass.disk p m) (hij : i ≠ j) (hcap : m.pend.length + 10000 < 1000000000000)
    (hK : ∀ q h' o', Ow h' o' (upd (upd A i (Ass.disk p (opnI m start n).2)) j (Ass.logO q p (opnI m start n).1.1)) → Stp (fun x => x = i ∨ x = j) h o h' o' → K q (opnI m start n).1.2 h') : wal_Open p start n K h := by
  have hwf := (w.disk hi).wf
  have hhi := hwf.hi
  have bad : ∀ e h', opnI m start n = ((none, e), m) → Kp (fun _ => False) h h' → K none e h' := fun e h' he k => by
    rw [he] at hK
    obtain ⟨w1, s1⟩ := w.fresh j k
    refine hK none h' _ ?_ (s1.mono fun _ h => h.elim)
    rw [upd_same hi]
    exact w1.put rfl
  refine wal_at_c (w.disk hi) (fun hno x y z h1 k1 => ?_) (fun hok h1 k1 => ?_)
  · have hb := Bk.new h1 [.pointer none, .int .i64 0, .int .i64 0] 164
    exact ⟨_, _, rfl, rfl, _, hb.st0 (vs := [.pointer x, .int .i64 y, .int .i64 z]) rfl, fun _ => bad 1 _ (if_neg hno) ((k1.push _).set _ (.inl k1.size)), fun h => (nomatch h)⟩
  · have e : opnI m start n = opn m start.toNat n.toNat := if_pos hok
    rw [e] at hK bad
    unfold areaOk at hok
    obtain ⟨g1, g2, g3⟩ := hok
    obtain ⟨s, rfl⟩ := Int.eq_ofNat_of_zero_le g1
    obtain ⟨c, rfl⟩ := Int.eq_ofNat_of_zero_le (show 0 ≤ n by omega)
    simp only [Int.toNat_natCast] at hK bad
    have hb := Bk.new h1 [.pointer none, .int .i64 0, .int .i64 0] 164
    have kk : Kp (fun _ => False) h (setB (h1.push (Cel [.pointer none, .int .i64 0, .int .i64 0] 164)) h1.size (Cel (arC p s c) 164)) := (k1.push _).set _ (.inl k1.size)
    refine ⟨_, _, rfl, rfl, _, hb.st0 (vs := arC p s c) rfl, fun h => (nomatch h), fun _ => ?_⟩
    have hbs : Bk (setB (h1.push (Cel [.pointer none, .int .i64 0, .int .i64 0] 164)) h1.size (Cel (arC p s c) 164)) h1.size (arC p s c) 164 := hb.set
    generalize setB (h1.push (Cel [.pointer none, .int .i64 0, .int .i64 0] 164)) h1.size (Cel (arC p s c) 164) = h2 at *
    have h1s := k1.size
    generalize h1.size = qa at *
    refine ⟨p, s, c, hbs.rd0, wal_holds_c (PD.kpb (w.disk hi) kk) (by omega) (by omega) (fun hd h3 hho k3 => ?_) (fun e h3 hho hne k3 => ?_)⟩
    · have hd1 : m.down = false := by
        cases hdd : m.down with
        | false => rfl
        | true => unfold holdsM at hho; rw [if_pos hdd] at hho; cases hho
      have hgood : (1 ≤ hd.round ∧ hd.round ≤ 2147483647) ∧ (1 ≤ hd.lsn ∧ hd.lsn ≤ 1099511627776) ∧ (1 ≤ hd.turn ∧ hd.turn ≤ 1099511627776) ∧ (1 ≤ hd.floor ∧ hd.floor ≤ hd.round) ∧ hd.round ≠ 2147483647 ∧ hd.turn ≠ 1099511627776 := by
        unfold holdsM at hho
        rw [if_neg (by simp [hd1])] at hho
        split at hho
        · cases hho
        · rename_i y hy
          split at hho
          · cases hho
          · rename_i hb
            cases hho
            have : okHead (m.newest s) c 0 = some hd ∨ okHead (m.newest (s + 1)) c 1 = some hd := by
              unfold best at hy
              split at hy
              · exact .inl hy
              · rename_i z hz
                split at hy
                · cases hy; exact .inr hz
                · rename_i x hx
                  split at hy
                  · cases hy; exact .inr hz
                  · cases hy; exact .inl hx
            rcases this with h | h
            · have := okHead_some h; exact ⟨this.1, this.2.1, this.2.2.1, this.2.2.2.1, fun e => hb (.inl e), fun e => hb (.inr e)⟩
            · have := okHead_some h; exact ⟨this.1, this.2.1, this.2.2.1, this.2.2.2.1, fun e => hb (.inl e), fun e => hb (.inr e)⟩
      have b3 := hbs.kp k3 fun h => h
      have hbh := Bk.new h3 (hdO none) 170
      have k4 : Kp (fun _ => False) h (setB (h3.push (Cel (hdO none) 170)) h3.size (Cel (hdC hd) 170)) := ((kk.trans k3).push _).set _ (.inl (kk.trans k3).size)
      have l3 := b3.lt
      refine ⟨_, _, rfl, rfl, setB (h3.push (Cel (hdO none) 170)) h3.size (Cel (hdC hd) 170), hbh.st0 (vs := hdC hd) rfl, dcn (fun h => (h rfl).elim) fun _ => ?_⟩
      have hbh4 : Bk (setB (h3.push (Cel (hdO none) 170)) h3.size (Cel (hdC hd) 170)) h3.size (hdC hd) 170 := hbh.set
      have b4 : Bk (setB (h3.push (Cel (hdO none) 170)) h3.size (Cel (hdC hd) 170)) qa (arC p s c) 164 := (b3.push _).set_ne (by omega)
      generalize setB (h3.push (Cel (hdO none) 170)) h3.size (Cel (hdC hd) 170) = h4 at *
      generalize h3.size = qh at *
      obtain ⟨w4, s4⟩ := w.fresh j k4
      refine ⟨p, s, c, b4.rd0, hd.round, hd.lsn, hd.turn, hd.floor, hbh4.rd0, hd.lsn, hbh4.rdi 1 rfl, _, _, rfl, rfl, ?_⟩
      let l0 : Lg := ⟨s, c, hd, hd.lsn, 0, 0, [], false⟩
      have k5 : Kp (fun _ => False) h4 (h4.push (Cel (lgC p Sl.nil l0) 175)) := Kp.push (Kp.refl _ _) _
      obtain ⟨w5, s5⟩ := w4.fresh j k5
      have e5 : (h4.push (Cel [.pointer p, .int .i64 (s : Int), .int .i64 (c : Int), .int .i64 hd.round, .int .i64 hd.lsn, .int .i64 hd.turn, .int .i64 hd.floor, .int .i64 hd.lsn, .int .i64 0, .int .i64 0, .slice none 0 0, .bool false] 175)) = h4.push (Cel (lgC p Sl.nil l0) 175) := rfl
      rw [e5]
      have p5 : PLg (h4.push (Cel (lgC p Sl.nil l0) 175)) h4.size p Sl.nil [] l0 (fun x => Gro (Gro o j h) j h4 x = j) :=
        ⟨Bk.new h4 _ 175, Vec.nil _ _ _, rfl, (fun x hx => (nomatch hx)), (fun x hx => (nomatch hx)), (by rintro ⟨a, ha, _⟩; cases ha), by simp [Gro], (by rintro x ⟨a, ha, _⟩; cases ha)⟩
      have w5' := w5.put (i := j) (B := Ass.log (some (nA h4.size)) p l0) ⟨h4.size, Sl.nil, [], rfl, p5⟩
      have s45 := s4.trans s5
      generalize h4.push (Cel (lgC p Sl.nil l0) 175) = h5 at *
      generalize Gro (Gro o j h) j h4 = o5 at *
      generalize h4.size = b at *
      refine wal_find_c (l := l0) (q := some (nA b)) w5' (by rw [upd_ne hij]; exact hi) upd_eq hij hd1 (by show 4 ≤ c; omega) (by show s + c ≤ _; omega) rfl rfl hgood.2.1.1 hgood.2.1.2 (by show hd.round ≤ _; omega) _ rfl fun h6 o6 w6 s6 => ?_
      rw [upd_upd] at w6
      generalize hX : findGo m.newest l0.st l0.n l0.head.round (l0.n - 2) l0.head.lsn l0.head.floor (l0.n - 2) = X at *
      have eo : opn m s c = (let y := runs m (layA s c { hd with round := hd.round + 1, turn := hd.turn + 1 }); if y.1 = 0 then ((some ⟨s, c, { hd with round := hd.round + 1, turn := hd.turn + 1 }, X.2, X.2, 0, X.1, false⟩, 0), y.2) else ((none, y.1), y.2)) := by
        unfold opn; rw [hho, ← hX]
      rw [eo] at hK
      simp only at hK
      refine dcn (fun h => (h rfl).elim) fun _ => ?_
      obtain ⟨b', sr, rs, hb', p6⟩ := w6.log upd_eq
      cases hb'
      let l6 : Lg := { l0 with next := X.2, recs := X.1 }
      let l7 : Lg := { l6 with head := { hd with round := hd.round + 1 } }
      let l8 : Lg := { l6 with head := { hd with round := hd.round + 1, turn := hd.turn + 1 } }
      have b6 : Bk h6 b (lgC p sr l6) 175 := p6.st
      have W1 : Wr .i64 ((hd.round : Int) + 1) ((hd.round + 1 : Nat) : Int) := by
        have : ((hd.round + 1 : Nat) : Int) = (hd.round : Int) + 1 := by omega
        rw [this]; exact Wr.i64 (by omega) (by omega)
      have W2 : Wr .i64 ((hd.turn : Int) + 1) ((hd.turn + 1 : Nat) : Int) := by
        have : ((hd.turn + 1 : Nat) : Int) = (hd.turn : Int) + 1 := by omega
        rw [this]; exact Wr.i64 (by omega) (by omega)
      have st1 := b6.st2 3 0 (.int .i64 ((hd.round + 1 : Nat) : Int)) (by simp [lgC])
      have b7 : Bk (setB h6 b (Cel (lgC p sr l7) 175)) b (lgC p sr l7) 175 := b6.set
      have st2 := b7.st2 3 2 (.int .i64 ((hd.turn + 1 : Nat) : Int)) (by simp [lgC])
      obtain ⟨w8, s8⟩ := w6.lset (l' := l8) upd_eq p6 rfl
      rw [upd_upd] at w8
      have b8 : Bk (setB h6 b (Cel (lgC p sr l8) 175)) b (lgC p sr l8) 175 := b6.set
      refine ⟨hd.round, b6.rd2 3 0 rfl, _, W1, setB h6 b (Cel (lgC p sr l7) 175), st1, hd.turn, b7.rd2 3 2 rfl, _, W2, setB (setB h6 b (Cel (lgC p sr l7) 175)) b (Cel (lgC p sr l8) 175), st2, ?_⟩
      rw [setB_setB]
      have ob6 : o6 b = j := p6.fb
      have ob8 : Gro o6 j h6 b = j := by rw [Gro.old b6.lt]; exact ob6
      have p8 := (p6.head (l' := l8) rfl).1
      have p8' : PLg (setB h6 b (Cel (lgC p sr l8) 175)) b p sr rs l8 (fun x => Gro o6 j h6 x = j) := p8.mono fun x hx hh => by rw [size_set] at hx; rw [Gro.old hx]; exact hh
      refine ⟨p, s, c, b8.rdk 0 (arC p s c) rfl, _, _, _, _, b8.rdk 3 (hdC { hd with round := hd.round + 1, turn := hd.turn + 1 }) rfl, ?_⟩
      have s68 := (s45.mono (T := fun x => x = i ∨ x = j) fun _ h => h.elim).trans ((s6.mono (T := fun x => x = i ∨ x = j) fun _ h => .inr h).trans (s8.mono (T := fun x => x = i ∨ x = j) fun _ h => .inr h))
      generalize setB h6 b (Cel (lgC p sr l8) 175) = h8 at *
      generalize Gro o6 j h6 = o8 at *
      refine wal_lay_c (d := { hd with round := hd.round + 1, turn := hd.turn + 1 }) (i := i) j w8 (by rw [upd_ne hij]; exact hi) (Ne.symm hij) ⟨by show hd.round + 1 < _; omega, by show hd.lsn < _; omega, by show hd.turn + 1 < _; omega, by show hd.floor < _; omega⟩ (by omega) (by omega) (by omega) fun h9 o9 w9 s9 => ?_
      have s89 := s68.trans (s9.mono fun _ h => .inl h)
      have p9 := PLg.own p8' s9 (Ne.symm hij)
      rw [upd_comm (Ne.symm hij)] at w9
      refine dcn (fun hne => ?_) (fun h0 => ?_)
      · rw [if_neg hne] at hK
        refine hK none h9 o9 ?_ s89
        have := (w9.put (i := j) (B := Ass.logO none p none) rfl)
        rwa [upd_upd] at this
      · rw [if_pos h0] at hK
        have st3 := p9.st.sti 8 (.int .i64 (X.2 : Int)) (by simp [lgC])
        obtain ⟨w10, s10⟩ := w9.lset (l' := ⟨s, c, { hd with round := hd.round + 1, turn := hd.turn + 1 }, X.2, X.2, 0, X.1, false⟩) upd_eq p9 rfl
        rw [upd_upd] at w10
        exact ⟨(X.2 : Int), p9.st.rdi 7 rfl, _, st3, hK (some (nA b)) _ _ w10 (s89.trans (s10.mono fun _ h => .inr h))⟩
    · have hbh := Bk.new h3 (hdO none) 170
      refine ⟨_, _, rfl, rfl, _, hbh.st0 rfl, dcn (fun _ => bad e _ ?_ (((kk.trans k3).push _).set _ (.inl (kk.trans k3).size))) (fun h => (hne h).elim)⟩
      unfold opn; rw [hho]
end
end Go.Proofs.Ythpeadoidpimmaa
