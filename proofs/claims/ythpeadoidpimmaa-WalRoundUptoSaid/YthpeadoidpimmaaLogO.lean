/- The program's log is opened. No condition. -/
import Derived.Test.YthpeadoidpimmaaLogH
namespace Tw
open Go
set_option linter.unusedVariables false
theorem setB_setB (h : Hp) (b : Nat) (x y : Obj) : setB (setB h b x) b y = setB h b y := by simp [setB]
theorem Bk.rdk {h : Hp} {b : Nat} {l : List Value} {t : TypeId} (hb : Bk h b l t) (i : Nat) (vs : List Value) (hv : (l.drop i).take vs.length = vs) : RdL h ((nA b).add i) vs := by
  rw [add_nA, Nat.zero_add]
  exact RdL.of_bk hb fun j v hj => get_dt hv hj
theorem Bk.rd2 {h : Hp} {b : Nat} {l : List Value} {t : TypeId} (hb : Bk h b l t) (i j : Nat) {v : Value} (hv : l[i + j]? = some v) : rdc h (((nA b).add i).add j) = some v := by
  rw [add_nA, add_nA, Nat.zero_add]; exact hb.rd hv
theorem Bk.st2 {h : Hp} {b : Nat} {l : List Value} {t : TypeId} (hb : Bk h b l t) (i j : Nat) (v : Value) (hi : i + j < l.length) : StL h (((nA b).add i).add j) [v] (setB h b (Cel (l.set (i + j) v) t)) := by
  have := hb.sti (i + j) v hi
  rw [add_nA, Nat.zero_add] at this
  rw [add_nA, add_nA, Nat.zero_add]; exact this

section
variable {h h' : Hp} {b : Nat} {dp : Option Addr} {sr : Sl} {rs : List (Rec × Sl)} {l l' : Lg} {F G : Nat → Prop}

theorem PLg.snoc (p : PLg h b dp sr rs l F) {r : Rec} {s x : Sl} {z : List Value} {K : Sl → Hp → Prop} (hs : Byt h s r.data) (hsep : ∀ y, s.blk y → F y ∧ y ≠ b ∧ ¬ sr.blk y ∧ y < h.size)
    (hx : RdS h x 4 (recE (r, s))) (hx1 : x.len = 1) (hb : (sr.len + 1) * 48 ≤ 140737488355328)
    (hK : ∀ sr' h', Bk h' b (lgC dp sr l) 175 → Kp sr.blk h h' → (∀ l', l'.recs = l.recs ++ [r] → PLg (setB h' b (Cel (lgC dp sr' l') 175)) b dp sr' (rs ++ [(r, s)]) l' (fun x => F x ∨ h.size ≤ x)) → K sr' h') : App h sr x 4 48 184 z K := by
  have ho : oneC (recE (r, s)) := by
    intro v hv
    simp only [recE, List.mem_cons, List.not_mem_nil, or_false] at hv
    rcases hv with rfl | rfl | rfl | rfl <;> rfl
  refine p.vec.app hx ho (by rw [hx1]; exact hb) fun sr' h2 hv hl hk hn => ?_
  have hlt := p.st.lt
  have hb2 : Bk h2 b (lgC dp sr l) 175 := p.st.kp hk p.n1
  refine hK sr' h2 hb2 hk fun l' hl' => ?_
  have nb : ¬ sr'.blk b := fun hbk => (hn b hbk).elim p.n1 fun e => by omega
  have k2 : Kp (fun x => x = b) h2 (setB h2 b (Cel (lgC dp sr' l') 175)) := Kp.set (F := fun x => x = b) (Kp.refl _ _) _ (.inr rfl)
  refine ⟨hb2.set, ?_, by rw [List.map_append, p.rl, hl']; rfl, ?_, ?_, nb, .inl p.fb, fun x hx => (hn x hx).elim (fun h => .inl (p.fs x h)) (fun h => .inr (by omega))⟩
  · rw [List.flatMap_append]
    have e : [(r, s)].flatMap recE = recE (r, s) := by simp
    rw [e]
    exact hv.kp k2 fun x hx e => by subst e; exact nb hx
  · intro y hy
    rcases List.mem_append.1 hy with hy | hy
    · have h1 := (p.dat y hy).kp hk fun a ha => (p.sep y hy _ ⟨a, ha, rfl⟩).2.2.1
      exact h1.kp k2 fun a ha e => (p.sep y hy _ ⟨a, ha, rfl⟩).2.1 e
    · simp at hy; subst hy
      have h1 := hs.kp hk fun a ha => (hsep _ ⟨a, ha, rfl⟩).2.2.1
      exact h1.kp k2 fun a ha e => (hsep _ ⟨a, ha, rfl⟩).2.1 e
  · intro y hy z hz
    have hh : F z ∧ z ≠ b ∧ ¬ sr.blk z ∧ z < h.size := by
      rcases List.mem_append.1 hy with hy | hy
      · exact p.sep y hy z hz
      · simp at hy; subst hy; exact hsep z hz
    refine ⟨.inl hh.1, hh.2.1, fun hbk => (hn z hbk).elim hh.2.2.1 fun e => by omega, ?_⟩
    rw [size_set]; have := hk.size; omega
end

/-! ### What is found is a chain -/
theorem findGo_len {rd : Nat → List UInt8} {st n high q low room : Nat} {r : Rec} (h128 : ∀ j, (rd (place st n (q + j))).length = 128) (h : recAt rd st n q low high room = some r) :
    r.lsn = q ∧ r.data.length ≤ 32768 ∧ needN r.data.length ≤ room ∧ q + needN r.data.length - 1 ≤ 1099511627776 ∧ r.kind < 256 ∧ r.kind ≠ 0 ∧ low ≤ r.round ∧ r.round ≤ high ∧ r.round ≤ 2147483647 := by
  unfold recAt at h
  split at h
  · cases h
  · rename_i mk hmk
    split at h
    · cases h
    · rename_i hh
      have hmo := Go.Proofs.Ythpeadoidpimmaa.okMark_some hmk
      cases h
      have hl : (((List.range (needN mk.len)).flatMap fun i => ((rd (place st n (q + i))).drop 24).take 104).take mk.len).length = mk.len := by
        have := Go.Proofs.Ythpeadoidpimmaa.catP_len (rd := rd) (st := st) (n := n) (q := q) h128 (needN mk.len)
        unfold Go.Proofs.Ythpeadoidpimmaa.catP at this
        have := Go.Proofs.Ythpeadoidpimmaa.needN_all mk.len
        rw [List.length_take]; omega
      simp only [hl]
      refine ⟨trivial, hmo.2.2.2.2.2, ?_, ?_, hmo.2.2.1, hmo.2.2.2.1, ?_, ?_, hmo.1⟩
      · exact Nat.le_of_not_lt fun e => hh (.inr (.inr (.inl e)))
      · exact Nat.le_of_not_lt fun e => hh (.inr (.inr (.inr (.inl e))))
      · exact Nat.le_of_not_lt fun e => hh (.inl e)
      · exact Nat.le_of_not_lt fun e => hh (.inr (.inl e))
end Tw
namespace Go.Proofs.Ythpeadoidpimmaa
open Go Tw
set_option linter.unusedVariables false
set_option linter.unusedSimpArgs false
set_option maxRecDepth 10000
set_option maxHeartbeats 1000000

section
variable {h h1 h2 : Hp} {o : Nat → Nat} {A : Nat → Ass} {p q : Option Addr} {m : Md} {l : Lg} {st n i j : Nat}

theorem findGo_zero (rd : Nat → List UInt8) (st n high f p low : Nat) : findGo rd st n high f p low 0 = ([], p) := by
  cases f <;> simp [findGo]

theorem wal_find_c {K : Int → Hp → Prop} (w : Ow h o A) (hi : A i = Ass.disk p m) (hj : A j = Ass.log q p l) (hij : i ≠ j) (hd : m.down = false) (hn : 4 ≤ l.n) (hm : l.st + l.n ≤ m.laid.length)
    (hr : l.recs = []) (hx : l.next = l.head.lsn) (hl1 : 1 ≤ l.head.lsn) (hl2 : l.head.lsn ≤ 1099511627776) (hro : l.head.round ≤ 2147483647) (X : List Rec × Nat) (hX : X = findGo m.newest l.st l.n l.head.round (l.n - 2) l.head.lsn l.head.floor (l.n - 2))
    (hK : ∀ h' o', Ow h' o' (upd A j (Ass.log q p { l with next := X.2, recs := X.1 })) → Stp (fun x => x = j) h o h' o' → K 0 h') : wal_Log_find q K h := by
  have hwf := (w.disk hi).wf
  have hhi := hwf.hi
  obtain ⟨b, sr0, rs0, rfl, p0⟩ := w.log hj
  have hsec : ∀ c j, (m.newest (place l.st l.n (c + j))).length = 128 := fun c j => Md.newest_len hwf (by have := place_lt (st := l.st) (q := c + j) hn; omega)
  refine ⟨nA b, rfl, l.head.floor, p0.st.rd2 3 3 rfl, ?_⟩
  refine ⟨fun room low hx => ∃ (f pk : Nat) (recs : List Rec) (lw : Nat) (o' : Nat → Nat), low = (lw : Int) ∧ Ow hx o' (upd A j (Ass.log (some (nA b)) p { l with next := pk, recs := recs })) ∧ Stp (fun x => x = j) h o hx o' ∧
      X.1 = recs ++ (findGo m.newest l.st l.n l.head.round f pk lw room).1 ∧ X.2 = (findGo m.newest l.st l.n l.head.round f pk lw room).2 ∧ room + (pk - l.head.lsn) = l.n - 2 ∧ l.head.lsn ≤ pk ∧ room ≤ f ∧ pk ≤ 1099511627777 ∧ recs.length ≤ pk - l.head.lsn,
    ⟨l.n - 2, l.n - 2, l.head.lsn, [], l.head.floor, o, rfl, ?_, Stp.refl _ _ _, by rw [← hX]; rfl, by rw [← hX], by omega, by omega, by omega, by omega, by simp⟩, ?_⟩
  · have e : ({ l with next := l.head.lsn, recs := [] } : Lg) = l := by rw [← hr, ← hx]
    rw [e, upd_same hj]; exact w
  rintro room low h3 ⟨f, pk, recs, lw, o3, rfl, w3, s3, x1, x2, hroom, hpk, hrf, hpm, hrl⟩
  have hi3 : (upd A j (Ass.log (some (nA b)) p { l with next := pk, recs := recs })) i = Ass.disk p m := by rw [upd_ne hij]; exact hi
  obtain ⟨b', sr, rs, hb', p3⟩ := w3.log upd_eq
  cases hb'
  have e17 : ((pk - l.head.lsn : Nat) : Int) = (pk : Int) - l.head.lsn := by omega
  have R7 : ∀ hx, Bk hx b (lgC p sr { l with next := pk, recs := recs }) 175 → rdc hx ((nA b).add 7) = some (.int .i64 (pk : Int)) := fun hx hb => hb.rdi 7 rfl
  have RA : ∀ hx, Bk hx b (lgC p sr { l with next := pk, recs := recs }) 175 → RdL hx ((nA b).add 0) [.pointer p, .int .i64 l.st, .int .i64 l.n] := fun hx hb => hb.rdk 0 [.pointer p, .int .i64 l.st, .int .i64 l.n] rfl
  have R31 : ∀ hx, Bk hx b (lgC p sr { l with next := pk, recs := recs }) 175 → rdc hx (((nA b).add 3).add 1) = some (.int .i64 (l.head.lsn : Int)) := fun hx hb => hb.rd2 3 1 rfl
  have R30 : ∀ hx, Bk hx b (lgC p sr { l with next := pk, recs := recs }) 175 → rdc hx (((nA b).add 3).add 0) = some (.int .i64 (l.head.round : Int)) := fun hx hb => hb.rd2 3 0 rfl
  refine ⟨pk, R7 _ p3.st, l.head.lsn, R31 _ p3.st, ((pk - l.head.lsn : Nat) : Int), by rw [e17]; exact Wr.i64 (by omega) (by omega), p, l.st, l.n, RA _ p3.st, wal_ring_c hn (by omega) fun h4 k4 => ?_⟩
  have b4 := p3.st.kp k4 fun h => h
  refine ⟨R31 _ b4, R7 _ b4, dcd (fun hlt => ?_) (fun hge => ?_)⟩
  · have hr0 : 0 < room := by omega
    obtain ⟨f', rfl⟩ : ∃ f', f = f' + 1 := ⟨f - 1, by omega⟩
    have hfg : findGo m.newest l.st l.n l.head.round (f' + 1) pk lw room = (match recAt m.newest l.st l.n pk lw l.head.round room with
      | none => ([], pk)
      | some r => ((r :: (findGo m.newest l.st l.n l.head.round f' (pk + needN r.data.length) r.round (room - needN r.data.length)).1, (findGo m.newest l.st l.n l.head.round f' (pk + needN r.data.length) r.round (room - needN r.data.length)).2))) := by
      rw [findGo, if_neg (by omega)]
      cases recAt m.newest l.st l.n pk lw l.head.round room <;> rfl
    rw [hfg] at x1 x2
    have eroom : ((room : Nat) : Int) = ((l.n - 2 : Nat) : Int) - ((pk - l.head.lsn : Nat) : Int) := by omega
    have W98 : Wr .i64 (((l.n - 2 : Nat) : Int) - ((pk - l.head.lsn : Nat) : Int)) (room : Int) := by rw [eroom]; exact Wr.i64 (by omega) (by omega)
    have W87 : Wr .i64 ((pk : Int) - (l.head.lsn : Int)) ((pk - l.head.lsn : Nat) : Int) := by rw [e17]; exact Wr.i64 (by omega) (by omega)
    have hrec : ∀ hx, Kp (fun _ => False) h3 hx → ∀ K', (∀ r s h', recAt m.newest l.st l.n pk lw l.head.round room = some r → Kp (fun _ => False) hx h' → Vec h' s 1 5 (r.data.map bv) → (∀ x, s.blk x → hx.size ≤ x) → K' (r.lsn : Int) (r.kind : Int) s (r.round : Int) 0 h') →
        (recAt m.newest l.st l.n pk lw l.head.round room = none → ∀ h', Kp (fun _ => False) hx h' → K' 0 0 Sl.nil 0 0 h') → wal_area_record p l.st l.n pk room lw l.head.round K' hx := fun hx kx K' c1 c2 =>
      wal_record_c (PD.kpb (w3.disk hi3) kx) hn hm hd (by omega) (by omega) (by omega) hro c1 c2
    refine ⟨fun bb e hx => e = 0 ∧ Kp (fun _ => False) h3 hx ∧ h3.size ≤ bb ∧ ((recAt m.newest l.st l.n pk lw l.head.round room = none ∧ Bk hx bb [.int .i64 0, .int .i64 0, .slice none 0 0, .int .i64 0] 184) ∨
        ∃ r s, recAt m.newest l.st l.n pk lw l.head.round room = some r ∧ Bk hx bb (recE (r, s)) 184 ∧ Byt hx s r.data ∧ (∀ y, s.blk y → h3.size ≤ y ∧ y < hx.size)), ?_, p, l.st, l.n, RA _ b4, pk, R7 _ b4, p, l.st, l.n, RA _ b4, pk, R7 _ b4, l.head.lsn, R31 _ b4, _, W87, l.head.round, R30 _ b4, wal_ring_c hn (by omega) fun h5 k5 => ?_, ?_⟩
    · rintro bb e h5 ⟨rfl, k5, hbb, hrec⟩
      refine dcn (fun h => (h rfl).elim) (fun _ => ?_)
      obtain ⟨w5, s5⟩ := w3.fresh j k5
      rcases hrec with ⟨hno, hbk⟩ | ⟨r, s, hsome, hbk, hby, hsn⟩
      · refine ⟨0, hbk.rd2 0 1 rfl, dcb (fun _ => ?_) (fun h => (h rfl).elim)⟩
        rw [hno] at x1 x2
        have e : ({ l with next := pk, recs := recs } : Lg) = { l with next := X.2, recs := X.1 } := by rw [x1, x2, List.append_nil]
        rw [e] at w5
        exact hK h5 _ w5 (s3.trans (s5.mono fun _ h => h.elim))
      · rw [hsome] at x1 x2
        obtain ⟨g1, g2, g3, g4, g5, g6, g7, g8, g9⟩ := findGo_len (hsec pk) hsome
        have hnp := needN_pos r.data.length
        have hnl := needN_le _ g2
        refine ⟨(r.kind : Nat), hbk.rd2 0 1 rfl, dcb (fun h0 => by omega) (fun _ => ?_)⟩
        have p5 := p3.kp k5 fun _ _ _ h => h
        have b5 := p5.st
        have hbl := p3.st.lt
        refine ⟨sr, b5.rdi 10 rfl, r.lsn, r.kind, s, r.round, hbk.rd0, _, _, _, rfl, rfl, rfl, (b5.push _).rdi 10 rfl, ?_⟩
        have htmp := Bk.new h5 (recE (r, s)) 184
        have k6 : Kp (fun _ => False) h5 (h5.push (Cel (recE (r, s)) 184)) := Kp.push (Kp.refl _ _) _
        have p6 := p5.kp k6 fun _ _ _ h => h
        have hby6 := hby.kp k6 fun _ _ h => h
        have hbk6 := hbk.push (Cel (recE (r, s)) 184)
        have hl6 := p6.len
        simp only at hl6
        have hsz5 := k5.size
        have s6sz : (h5.push (Cel (recE (r, s)) 184)).size = h5.size + 1 := by simp
        have k36 := k5.trans k6
        refine PLg.snoc (r := r) (s := s) (F := fun x => (o3 x = j ∧ x < h3.size) ∨ h3.size ≤ x) (p6.mono fun x _ hx => .inl hx.1) hby6 (fun y hy => ?_) ⟨rfl, htmp.rd0⟩ rfl (by rw [hl6]; omega) fun sr' h7 b7 k7 hp7 => ?_
        · have := hsn y hy
          exact ⟨.inr this.1, by omega, fun hbk => by have := p3.vec.lt hbk; omega, by omega⟩
        have hbk7 : Bk h7 bb (recE (r, s)) 184 := hbk6.kp k7 fun hh => by have := p3.vec.lt hh; omega
        have b7' := b7
        refine ⟨_, b7.sti 10 sr'.v (by simp [lgC]), pk, b7.set.rdi 7 rfl, s, (hbk7.set_ne (by omega)).rd2 0 2 rfl, wal_Need_c ?_⟩
        rw [hby.len, need_nat _ g2]
        have e64 : ((pk + needN r.data.length : Nat) : Int) = (pk : Int) + (needN r.data.length : Int) := by omega
        refine ⟨b7.set.rdi 7 rfl, ((pk + needN r.data.length : Nat) : Int), by rw [e64]; exact Wr.i64 (by omega) (by omega), _, b7.set.sti 7 (.int .i64 ((pk + needN r.data.length : Nat) : Int)) (by simp [lgC]), r.round, ((hbk7.set_ne (by omega)).set_ne (by omega)).rdi 3 rfl, room - needN r.data.length, by omega, ?_⟩
        rw [setB_setB]
        have p8 := hp7 { l with next := pk + needN r.data.length, recs := recs ++ [r] } rfl
        have k8 : Kp (fun x => o3 x = j) h3 (setB h7 b (Cel (lgC p sr' { l with next := pk + needN r.data.length, recs := recs ++ [r] }) 175)) := by
          have k37 : Kp (fun x => o3 x = j) h3 h7 := (k36.mono fun _ _ h => h.elim).and k7 fun y hy => .inr (p3.fs y hy)
          exact k37.set _ (.inr p3.fb)
        obtain ⟨w8, s8⟩ := w3.step (i := j) (B := Ass.log (some (nA b)) p { l with next := pk + needN r.data.length, recs := recs ++ [r] }) k8 ⟨b, sr', _, rfl, p8.mono fun x _ hx => by
          rcases hx with (⟨h1, _⟩ | h1) | h1
          · exact .inl h1
          · exact .inr h1
          · exact .inr (by omega)⟩
        rw [upd_upd] at w8
        refine ⟨f', pk + needN r.data.length, recs ++ [r], r.round, _, rfl, w8, s3.trans s8, by rw [x1, List.append_assoc]; rfl, x2, by omega, by omega, by omega, by omega, by simp; omega⟩
    · have b5 := b4.kp k5 fun h => h
      refine ⟨R30 _ b5, R31 _ b5, R7 _ b5, R7 _ b5, RA _ b5, _, W98, ?_, ?_⟩
      · refine hrec h5 (k4.trans k5) _ (fun r s h6 hr k6 hv hn => ?_) (fun hr h6 k6 => ?_)
        · have hb := Bk.new h6 [.int .i64 0, .int .i64 0, .slice none 0 0, .int .i64 0] 184
          have kk := ((k4.trans k5).trans k6)
          refine ⟨_, _, rfl, rfl, _, hb.st0 (vs := recE (r, s)) rfl, rfl, (kk.push _).set _ (.inl kk.size), kk.size, .inr ⟨r, s, hr, hb.set, ?_, fun y hy => ⟨by have := hn y hy; have := (k4.trans k5).size; omega, ?_⟩⟩⟩
          · have k7 : Kp (fun _ => False) h6 (setB (h6.push (Cel [.int .i64 0, .int .i64 0, .slice none 0 0, .int .i64 0] 184)) h6.size (Cel (recE (r, s)) 184)) := Kp.set (F := fun _ => False) (Kp.push (Kp.refl _ _) _) _ (.inl (Nat.le_refl _))
            exact (Byt.of_vec hv).kp k7 fun _ _ h => h
          · have := hv.lt hy; rw [size_set]; simp; omega
        · have hb := Bk.new h6 [.int .i64 0, .int .i64 0, .slice none 0 0, .int .i64 0] 184
          have kk := ((k4.trans k5).trans k6)
          exact ⟨_, _, rfl, rfl, _, hb.st0 rfl, rfl, (kk.push _).set _ (.inl kk.size), kk.size, .inl ⟨hr, hb.set⟩⟩
      · have hb := Bk.new h5 [.int .i64 0, .int .i64 0, .slice none 0 0, .int .i64 0] 184
        have kz : Kp (fun _ => False) h5 (h5.push (Cel [.int .i64 0, .int .i64 0, .slice none 0 0, .int .i64 0] 184)) := Kp.push (Kp.refl _ _) _
        have b6 := b5.push (Cel [.int .i64 0, .int .i64 0, .slice none 0 0, .int .i64 0] 184)
        have kk0 := k4.trans k5
        refine ⟨_, _, rfl, rfl, R30 _ b6, R31 _ b6, R7 _ b6, R7 _ b6, RA _ b6, hrec _ (kk0.trans kz) _ (fun r s h6 hr k6 hv hn => ?_) (fun hr h6 k6 => ?_)⟩
        · have hb6 := hb.kp k6 fun h => h
          refine ⟨_, hb6.st0 (vs := recE (r, s)) rfl, rfl, ((kk0.trans kz).trans k6).set _ (.inl kk0.size), kk0.size, .inr ⟨r, s, hr, hb6.set, ?_, fun y hy => ⟨by have := hn y hy; have := (kk0.trans kz).size; omega, ?_⟩⟩⟩
          · have k7 : Kp (fun x => x = h5.size) h6 (setB h6 h5.size (Cel (recE (r, s)) 184)) := Kp.set (F := fun x => x = h5.size) (Kp.refl _ _) _ (.inr rfl)
            refine (Byt.of_vec hv).kp k7 fun a ha e => ?_
            have := hn _ ⟨a, ha, rfl⟩
            simp at this; omega
          · have := hv.lt hy; rw [size_set]; omega
        · have hb6 := hb.kp k6 fun h => h
          exact ⟨_, hb6.st0 rfl, rfl, ((kk0.trans kz).trans k6).set _ (.inl kk0.size), kk0.size, .inl ⟨hr, hb6.set⟩⟩
    · have hb := Bk.new h4 [.int .i64 0, .int .i64 0, .slice none 0 0, .int .i64 0] 184
      have kz : Kp (fun _ => False) h4 (h4.push (Cel [.int .i64 0, .int .i64 0, .slice none 0 0, .int .i64 0] 184)) := Kp.push (Kp.refl _ _) _
      have b6 := b4.push (Cel [.int .i64 0, .int .i64 0, .slice none 0 0, .int .i64 0] 184)
      refine ⟨_, _, rfl, rfl, R30 _ b6, R31 _ b6, R7 _ b6, RA _ b6, R7 _ b6, RA _ b6, wal_ring_c hn (by omega) fun h5 k5 => ?_⟩
      have b7 := b6.kp k5 fun h => h
      have hb5 := hb.kp k5 fun h => h
      have kk0 := (k4.trans kz).trans k5
      refine ⟨R30 _ b7, R31 _ b7, R7 _ b7, R7 _ b7, RA _ b7, _, W98, hrec _ kk0 _ (fun r s h6 hr k6 hv hn => ?_) (fun hr h6 k6 => ?_)⟩
      · have hb6 := hb5.kp k6 fun h => h
        have h4l := hb5.lt
        refine ⟨_, hb6.st0 (vs := recE (r, s)) rfl, rfl, (kk0.trans k6).set _ (.inl k4.size), k4.size, .inr ⟨r, s, hr, hb6.set, ?_, fun y hy => ⟨by have := hn y hy; have := kk0.size; omega, ?_⟩⟩⟩
        · have k7 : Kp (fun x => x = h4.size) h6 (setB h6 h4.size (Cel (recE (r, s)) 184)) := Kp.set (F := fun x => x = h4.size) (Kp.refl _ _) _ (.inr rfl)
          refine (Byt.of_vec hv).kp k7 fun a ha e => ?_
          have := hn _ ⟨a, ha, rfl⟩
          omega
        · have := hv.lt hy; rw [size_set]; omega
      · have hb6 := hb5.kp k6 fun h => h
        exact ⟨_, hb6.st0 rfl, rfl, (kk0.trans k6).set _ (.inl k4.size), k4.size, .inl ⟨hr, hb6.set⟩⟩
  · have hr0 : room = 0 := by omega
    subst hr0
    rw [findGo_zero] at x1 x2
    obtain ⟨w4, s4⟩ := w3.fresh j k4
    have e : ({ l with next := pk, recs := recs } : Lg) = { l with next := X.2, recs := X.1 } := by rw [x1, x2, List.append_nil]
    rw [e] at w4
    exact hK h4 _ w4 (s3.trans (s4.mono fun _ h => h.elim))
end
end Go.Proofs.Ythpeadoidpimmaa
