/- The document's log is opened, formatted, told. No condition. -/
import Derived.Test.YthpeadoidpimmaaGreatRefN
namespace Go.Proofs.YthpeadoidpimmaaGreat
open Go Tw
set_option linter.unusedVariables false
set_option linter.unusedSimpArgs false
set_option maxRecDepth 10000
set_option maxHeartbeats 1000000

def Ass.rlog (q dp : Option Addr) (l : Lg) : Ass := ⟨fun h F => ∃ b sr sv rs, q = some (nA b) ∧ RLg h b dp sr sv rs (l.recs.map (·.round)) l F,
  fun {h h' F G} d hk hd => by obtain ⟨b, sr, sv, rs, e, d⟩ := d; exact ⟨b, sr, sv, rs, e, d.kp hk hd⟩,
  fun {h F F'} d hm => by obtain ⟨b, sr, sv, rs, e, d⟩ := d; exact ⟨b, sr, sv, rs, e, d.mono hm⟩⟩
def Ass.rlogO (q p : Option Addr) : Option Lg → Ass
  | none => ⟨fun _ _ => q = none, fun p _ _ => p, fun p _ => p⟩
  | some l => Ass.rlog q p l

section
variable {h h1 h2 : Hp} {o : Nat → Nat} {A : Nat → Ass} {p q : Option Addr} {m : Md} {l l' : Lg} {st n i j : Nat}

theorem Ow.rlog (w : Ow h o A) (hi : A i = Ass.rlog q p l) : ∃ b sr sv rs, q = some (nA b) ∧ RLg h b p sr sv rs (l.recs.map (·.round)) l (fun x => o x = i) := w.at hi
theorem RLg.own {b : Nat} {sr sv : Sl} {rs : List (Rec × Sl)} {rv : List Nat} {S : Nat → Prop} {h' : Hp} {o' : Nat → Nat} (hp : RLg h b p sr sv rs rv l (fun x => o x = j)) (s : Stp S h o h' o') (hn : ¬ S j) : RLg h' b p sr sv rs rv l (fun x => o' x = j) :=
  (hp.kp s.kp fun x _ hx hs => hn (by rw [← hx]; exact hs)).mono fun x _ hx => by rw [s.own x hx.2]; exact hx.1
theorem Ow.rlset {b : Nat} {sr sv : Sl} {rs : List (Rec × Sl)} (w : Ow h o A) (hj : A j = Ass.rlog (some (nA b)) p l) (hp : RLg h b p sr sv rs (l.recs.map (·.round)) l (fun x => o x = j)) (h1 : l'.recs = l.recs) :
    Ow (setB h b (Cel (rgC p sr sv l') 116)) (Gro o j h) (upd A j (Ass.rlog (some (nA b)) p l')) ∧ Stp (fun x => x = j) h o (setB h b (Cel (rgC p sr sv l') 116)) (Gro o j h) := by
  obtain ⟨p1, k1⟩ := hp.head h1
  exact w.step (k1.mono fun x _ e => by subst e; exact hp.fb) ⟨b, sr, sv, rs, rfl, by rw [h1]; exact p1.mono fun x _ hx => .inl hx⟩
theorem Ow.rd (w : Ow h o A) (hi : A i = Ass.rdisk p m) : RD h p m (fun x => o x = i) := w.rdisk hi

theorem ref3_found_c {high : Nat} {K : Int → Hp → Prop} (w : Ow h o A) (hi : A i = Ass.rdisk p m) (hj : A j = Ass.rlog q p l) (hij : i ≠ j) (hcap : m.pend.length ≤ 1000000000000) (hd : m.down = false) (hn : 4 ≤ l.n) (hm : l.st + l.n ≤ m.laid.length)
    (hr : l.recs = []) (hl1 : 1 ≤ l.head.lsn) (hl2 : l.head.lsn ≤ 1099511627776) (hro : high ≤ 2147483647) (X : List Rec × Nat) (hX : X = findGo m.newest l.st l.n high (l.n - 2) l.head.lsn l.head.floor (l.n - 2))
    (hK : ∀ h' o', Ow h' o' (upd A j (Ass.rlog q p { l with next := X.2, recs := X.1 })) → Stp (fun x => x = j) h o h' o' → K 0 h') : ref3_Log_found q high K h := by
  have hwf := (w.rd hi).wf
  have hhi := hwf.hi
  obtain ⟨b, sr0, sv0, rs0, rfl, p0⟩ := w.rlog hj
  have hsec : ∀ c j, (m.newest (place l.st l.n (c + j))).length = 128 := fun c j => Md.newest_len hwf (by have := place_lt (st := l.st) (q := c + j) hn; omega)
  refine ⟨nA b, rfl, l.head.lsn, p0.st.rdi 5 rfl, l.head.floor, p0.st.rdi 6 rfl, fun pp hx => pp = X.2 ∧ ∃ o', Ow hx o' (upd A j (Ass.rlog (some (nA b)) p { l with recs := X.1 })) ∧ Stp (fun x => x = j) h o hx o', ?_, ?_⟩
  · rintro pp hx ⟨rfl, o', w', s'⟩
    obtain ⟨b', sr, sv, rs, hb', p'⟩ := w'.rlog upd_eq
    cases hb'
    obtain ⟨w2, s2⟩ := w'.rlset (l' := { l with next := X.2, recs := X.1 }) upd_eq p' rfl
    rw [upd_upd] at w2
    exact ⟨_, p'.st.sti 7 (.int .i64 (X.2 : Int)) (by simp [rgC]), hK _ _ w2 (s'.trans s2)⟩
  refine ⟨fun room pk low hx => ∃ (f pc : Nat) (recs : List Rec) (lw : Nat) (o' : Nat → Nat), pk = (pc : Int) ∧ low = (lw : Int) ∧ Ow hx o' (upd A j (Ass.rlog (some (nA b)) p { l with recs := recs })) ∧ Stp (fun x => x = j) h o hx o' ∧
      X.1 = recs ++ (findGo m.newest l.st l.n high f pc lw room).1 ∧ X.2 = (findGo m.newest l.st l.n high f pc lw room).2 ∧ room + (pc - l.head.lsn) = l.n - 2 ∧ l.head.lsn ≤ pc ∧ room ≤ f ∧ pc ≤ 1099511627777 ∧ recs.length ≤ pc - l.head.lsn,
    ⟨l.n - 2, l.n - 2, l.head.lsn, [], l.head.floor, o, rfl, rfl, ?_, Stp.refl _ _ _, by rw [← hX]; rfl, by rw [← hX], by omega, by omega, by omega, by omega, by simp⟩, ?_⟩
  · have e : ({ l with recs := [] } : Lg) = l := by rw [← hr]
    rw [e, upd_same hj]; exact w
  rintro room pk low h3 ⟨f, pc, recs, lw, o3, rfl, rfl, w3, s3, x1, x2, hroom, hpk, hrf, hpm, hrl⟩
  have hi3 : (upd A j (Ass.rlog (some (nA b)) p { l with recs := recs })) i = Ass.rdisk p m := by rw [upd_ne hij]; exact hi
  obtain ⟨b', sr, sv, rs, hb', p3⟩ := w3.rlog upd_eq
  cases hb'
  refine ⟨l.head.lsn, p3.st.rdi 5 rfl, (pc : Int) - l.head.lsn, Wr.i64 (by omega) (by omega), l.n, p3.st.rdi 2 rfl, (l.n : Int) - 2, Wr.i64 (by omega) (by omega), dcd (fun hlt => ?_) (fun hge => ?_)⟩
  · obtain ⟨f', rfl⟩ : ∃ f', f = f' + 1 := ⟨f - 1, by omega⟩
    have hfg : findGo m.newest l.st l.n high (f' + 1) pc lw room = (match recAt m.newest l.st l.n pc lw high room with
      | none => ([], pc)
      | some r => ((r :: (findGo m.newest l.st l.n high f' (pc + needN r.data.length) r.round (room - needN r.data.length)).1, (findGo m.newest l.st l.n high f' (pc + needN r.data.length) r.round (room - needN r.data.length)).2))) := by
      rw [findGo, if_neg (by omega)]
      cases recAt m.newest l.st l.n pc lw high room <;> rfl
    rw [hfg] at x1 x2
    refine ref3_one_c (l := { l with recs := recs }) (room := room) (w3.rd hi3) p3.st hcap hn hm hd (by omega) (by omega) hpk (by show room + (pc - l.head.lsn) = l.n - 2; omega) hro (fun r s h5 hsome k5 hv5 hn5 => ?_) (fun hno h5 k5 => ?_)
    · have hsome' : recAt m.newest l.st l.n pc lw high room = some r := hsome
      rw [hsome'] at x1 x2
      obtain ⟨g1, g2, g3, g4, g5, g6, g7, g8, g9⟩ := findGo_len (hsec pc) hsome'
      have hnp := needN_pos r.data.length
      have hnl := needN_le _ g2
      have hby := Byt.of_vec hv5
      refine dcn (fun h => (h rfl).elim) (fun _ => dcb (fun h0 => by omega) (fun _ => ?_))
      have p5 := p3.kp k5 fun _ _ _ h => h
      have hbl := p3.st.lt
      have tmp := Bk.new h5 (rcE (r, s)) 128
      have k6 : Kp (fun _ => False) h5 (h5.push (Cel (rcE (r, s)) 128)) := Kp.push (Kp.refl _ _) _
      have erc : rcE (r, s) = [.int .i64 (pc : Int), .int .i64 (r.kind : Int), s.v] := by unfold rcE; simp only [g1]
      have p6 := p5.kp k6 fun _ _ _ h => h
      have hl6 := p6.len
      have hlv6 := p6.lenv
      simp only [List.length_map] at hl6 hlv6
      have hsz5 := k5.size
      have s6sz : (h5.push (Cel (rcE (r, s)) 128)).size = h5.size + 1 := by simp
      rw [erc] at tmp k6 p6 s6sz
      refine ⟨sr, p5.st.rdi 10 rfl, _, _, _, rfl, rfl, rfl, ?_⟩
      have k36 := k5.trans k6
      refine RLg.snocA (r := r) (s := s) (F := fun x => (o3 x = j ∧ x < h3.size) ∨ h3.size ≤ x) (p6.mono fun x _ hx => .inl hx.1) (hby.kp k6 fun _ _ h => h) (fun y hy => ?_) ⟨rfl, by rw [erc]; exact tmp.rd0⟩ rfl (by omega) fun sr' h7 b7 k7 hp7 => ?_
      · have h1 := hn5 y hy
        have h2 := hv5.lt hy
        exact ⟨.inr h1, by omega, fun hb => by have := p3.vec.lt hb; omega, fun hb => by have := p3.ves.lt hb; omega, by omega⟩
      have k37 : Kp (fun x => o3 x = j) h3 h7 := (k36.mono fun _ _ h => h.elim).and k7 fun y hy => .inr (p3.fs y hy)
      refine ⟨_, b7.sti 10 sr'.v (by simp [rgC]), sv, b7.set.rdi 11 rfl, _, _, _, rfl, rfl, rfl, ?_⟩
      have p8 := hp7 { l with recs := recs ++ [r] } rfl
      have e8 : (Cel ((rgC p sr sv { l with recs := recs }).set 10 sr'.v) 116 : Obj) = Cel (rgC p sr' sv { l with recs := recs ++ [r] }) 116 := rfl
      rw [e8]
      have k38 : Kp (fun x => o3 x = j) h3 (setB h7 b (Cel (rgC p sr' sv { l with recs := recs ++ [r] }) 116)) := k37.set _ (.inr p3.fb)
      generalize setB h7 b (Cel (rgC p sr' sv { l with recs := recs ++ [r] }) 116) = h8 at *
      have k9 : Kp (fun _ => False) h8 (h8.push (Cel [roV r.round] 2)) := Kp.push (Kp.refl _ _) _
      have p9 := p8.kp k9 fun _ _ _ h => h
      refine RLg.snocB (r := r.round) (F := fun x => ((o3 x = j ∧ x < h3.size) ∨ h3.size ≤ x) ∨ (h5.push (Cel [.int .i64 (pc : Int), .int .i64 (r.kind : Int), s.v] 128)).size ≤ x) (p9.mono fun x _ hx => hx.1) ⟨rfl, (Bk.new h8 [roV r.round] 2).rd0⟩ rfl (by omega) fun sv' h10 b10 k10 hp10 => ?_
      refine ⟨_, b10.sti 11 sv'.v (by simp [rgC]), ?_⟩
      have e10 : (Cel ((rgC p sr' sv { l with recs := recs ++ [r] }).set 11 sv'.v) 116 : Obj) = Cel (rgC p sr' sv' { l with recs := recs ++ [r] }) 116 := rfl
      rw [e10]
      have p11 := hp10 { l with recs := recs ++ [r] } rfl
      have k11 : Kp (fun x => o3 x = j) h3 (setB h10 b (Cel (rgC p sr' sv' { l with recs := recs ++ [r] }) 116)) := by
        have : Kp (fun x => o3 x = j) h3 h10 := (k38.trans (k9.mono fun _ _ h => h.elim)).and k10 fun y hy => .inr (p3.fv y hy)
        exact this.set _ (.inr p3.fb)
      have hk38s := k38.size
      obtain ⟨w11, s11⟩ := w3.step (i := j) (B := Ass.rlog (some (nA b)) p { l with recs := recs ++ [r] }) k11 ⟨b, sr', sv', _, rfl, by
        have e : ({ l with recs := recs ++ [r] } : Lg).recs.map (·.round) = ({ l with recs := recs } : Lg).recs.map (·.round) ++ [r.round] := by simp
        rw [e]
        exact p11.mono fun x _ hx => by
          simp at hx
          rcases hx with ((⟨h1, _⟩ | h1) | h1) | h1
          · exact .inl h1
          · exact .inr h1
          · exact .inr (by omega)
          · exact .inr (by omega)⟩
      rw [upd_upd] at w11
      rw [hby.len]
      refine ref3_Need_n g2 ?_
      have e64 : ((pc + needN r.data.length : Nat) : Int) = (pc : Int) + (needN r.data.length : Int) := by omega
      exact ⟨((pc + needN r.data.length : Nat) : Int), by rw [e64]; exact Wr.i64 (by omega) (by omega), room - needN r.data.length, by omega, f', pc + needN r.data.length, recs ++ [r], r.round, _, rfl, rfl, w11, s3.trans s11, by rw [x1, List.append_assoc]; rfl, x2, by omega, by omega, by omega, by omega, by simp; omega⟩
    · have hno' : recAt m.newest l.st l.n pc lw high room = none := hno
      rw [hno'] at x1 x2
      refine dcn (fun h => (h rfl).elim) (fun _ => dcb (fun _ => ?_) (fun h => (h rfl).elim))
      obtain ⟨w5, s5⟩ := w3.fresh j k5
      have e : ({ l with recs := recs } : Lg) = { l with recs := X.1 } := by rw [x1, List.append_nil]
      rw [e] at w5
      exact ⟨by rw [x2], _, w5, s3.trans (s5.mono fun _ h => h.elim)⟩
  · have hr0 : room = 0 := by omega
    subst hr0
    rw [findGo_zero] at x1 x2
    have e : ({ l with recs := recs } : Lg) = { l with recs := X.1 } := by rw [x1, List.append_nil]
    rw [e] at w3
    exact ⟨by rw [x2], o3, w3, s3⟩

/-- A new head. -/
theorem ref3_lead_c {b : Nat} {sr sv : Sl} {rs : List (Rec × Sl)} {lsn floor : Nat} {K : Int → Hp → Prop} (w : Ow h o A) (hi : A i = Ass.rdisk p m) (hij : i ≠ j) (hp : RLg h b p sr sv rs (l.recs.map (·.round)) l (fun x => o x = j)) (hcap : m.pend.length < 1000000000000)
    (hn : l.st + l.n ≤ 4096) (hr : l.head.round ≤ 2147483647) (ht : l.head.turn ≤ 1099511627776) (hl : lsn ≤ 1099511627777) (hf : floor ≤ 2147483647)
    (hK : ∀ h' o', Ow h' o' (upd A i (Ass.rdisk p (runs m (layA l.st l.n ⟨l.head.round, lsn, l.head.turn + 1, floor⟩)).2)) → Stp (fun x => x = i) h o h' o' → K (runs m (layA l.st l.n ⟨l.head.round, lsn, l.head.turn + 1, floor⟩)).1 h') : ref3_Log_lead (some (nA b)) lsn floor K h := by
  have e1 : ((l.head.turn + 1 : Nat) : Int) = (l.head.turn : Int) + 1 := by omega
  have W : Wr .i64 ((l.head.turn : Int) + 1) ((l.head.turn + 1 : Nat) : Int) := by rw [e1]; exact Wr.i64 (by omega) (by omega)
  have em : Int.tmod ((l.head.turn + 1 : Nat) : Int) 2 = (((l.head.turn + 1) % 2 : Nat) : Int) := by rw [Int.tmod_eq_emod_of_nonneg (by omega)]; omega
  refine ⟨nA b, rfl, l.st, hp.st.rdi 1 rfl, l.head.turn, hp.st.rdi 4 rfl, _, W, _, rfl, fun a hx => hx = h ∧ a = ((l.st + (l.head.turn + 1) % 2 : Nat) : Int), ?_, ?_⟩
  · rintro a hx ⟨rfl, rfl⟩
    refine ⟨p, hp.st.rdi 0 rfl, l.n, hp.st.rdi 2 rfl, l.head.round, hp.st.rdi 3 rfl, l.head.turn, hp.st.rdi 4 rfl, _, W, ?_⟩
    refine ref3_headB_c (d := ⟨l.head.round, lsn, l.head.turn + 1, floor⟩) ⟨by show l.head.round < _; omega, by show lsn < _; omega, by show l.head.turn + 1 < _; omega, by show floor < _; omega⟩ (by omega) fun bb h1 k1 b1 hbb => ?_
    obtain ⟨w1, s1⟩ := w.fresh j k1
    have p1 := RLg.own hp s1 (by simp)
    refine ⟨p1.st.rdi 0 rfl, ?_⟩
    refine rw_Write w1 hi (slB_byt b1 (headB_len _ _)) (fun a ha _ => ?_) (by omega) fun h2 w2 s2 => ?_
    · cases ha
      show Gro o j hx bb ≠ i
      simp only [Gro, if_neg (show ¬ bb < hx.size by omega)]
      exact Ne.symm hij
    have p2 := RLg.own p1 s2 (Ne.symm hij)
    have s12 := (s1.mono (T := fun x => x = i) fun _ h => h.elim).trans s2
    rw [runs_lay] at hK
    refine dcn (fun hne => ?_) (fun he => ⟨p, p2.st.rdi 0 rfl, rw_Flush w2 upd_eq (by have := Md.write_pend' m ((l.st + (l.head.turn + 1) % 2 : Nat) : Int) (headB l.n ⟨l.head.round, lsn, l.head.turn + 1, floor⟩); omega) fun h3 w3 s3 => ?_⟩)
    · rw [if_neg hne] at hK; exact hK h2 _ w2 s12
    · rw [if_pos he] at hK
      rw [upd_upd] at w3
      exact hK h3 _ w3 (s12.trans s3)
  · rw [em]
    refine dcb (fun h1 => ⟨l.st, hp.st.rdi 1 rfl, (l.st : Int) + 1, Wr.i64 (by omega) (by omega), rfl, by omega⟩) (fun h1 => ⟨rfl, by omega⟩)

def hdR : Option Hd → Nat
  | none => 0
  | some d => d.round
def hdL : Option Hd → Nat
  | none => 0
  | some d => d.lsn
def hdF : Option Hd → Nat
  | none => 0
  | some d => d.floor
theorem ref3_headOf_d {s : Sl} {l : List UInt8} {n odd : Nat} {K : Int → Int → Int → Int → Hp → Prop} (hs : Byt h s l) (hl : l.length = 128)
    (hK : K (hdR (okHead l n odd) : Nat) (hdL (okHead l n odd) : Nat) (hdT (okHead l n odd) : Nat) (hdF (okHead l n odd) : Nat) h) : ref3_headOf s n odd K h :=
  ref3_headOf_c hs hl (fun hd he => by rw [he] at hK; exact hK) (fun he => by rw [he] at hK; exact hK)

theorem ref3_bad_none_c {start n : Int} {K : Bool → Hp → Prop} (hK : K true h) : ref3_bad none start n K h :=
  ⟨fun b h' => b = true ∧ h' = h, by rintro b h' ⟨rfl, rfl⟩; exact ⟨fun _ => hK, fun h => (nomatch h)⟩, isN0 ⟨rfl, rfl⟩⟩
theorem ref3_bad_c {start n : Int} {K : Bool → Hp → Prop} {F : Nat → Prop} (d : RD h p m F) (hK : K (!decide (areaOk m start n)) h) : ref3_bad p start n K h := by
  have hhi := d.wf.hi
  obtain ⟨b, bl, sw, l, rfl, d⟩ := d
  refine ⟨fun c h' => h' = h ∧ c = decide (start < 0 ∨ n < 4), ?_, isN (dcd (fun hs => ⟨rfl, by simp [hs]⟩) (fun hs => ⟨rfl, by simp [hs]⟩))⟩
  rintro c h' ⟨rfl, rfl⟩
  refine dcd (fun hbad => ?_) (fun hgood => ref2_Sectors_i d (dcd (fun hgt => ?_) (fun hle => ⟨(m.laid.length : Int) - start, Wr.i64 (by omega) (by omega), ?_⟩)))
  · rw [decide_eq_false (by unfold areaOk; omega)] at hK; exact hK
  · rw [decide_eq_false (by unfold areaOk; omega)] at hK; exact hK
  · have : decide (n > (m.laid.length : Int) - start) = !decide (areaOk m start n) := by
      rw [Bool.eq_iff_iff]; simp only [decide_eq_true_eq, Bool.not_eq_true', decide_eq_false_iff_not]; unfold areaOk; omega
    rw [this]; exact hK

theorem ref3_Open_none_c {start n : Int} {K : Option Addr → Int → Hp → Prop} (hK : K none 1 h) : ref3_Open none start n K h :=
  ref3_bad_none_c ⟨fun _ => hK, fun h => (nomatch h)⟩

theorem ref3_Open_c {start n : Int} {K : Option Addr → Int → Hp → Prop} (w : Ow h o A) (hi : A i = Ass.rdisk p m) (hij : i ≠ j) (hcap : m.pend.length + 10000 < 1000000000000)
    (hK : ∀ q h' o', Ow h' o' (upd (upd A i (Ass.rdisk p (opnI m start n).2)) j (Ass.rlogO q p (opnI m start n).1.1)) → Stp (fun x => x = i ∨ x = j) h o h' o' → K q (opnI m start n).1.2 h') : ref3_Open p start n K h := by
  have hwf := (w.rd hi).wf
  have hhi := hwf.hi
  have bad : ∀ e h', opnI m start n = ((none, e), m) → Kp (fun _ => False) h h' → K none e h' := fun e h' he k => by
    rw [he] at hK
    obtain ⟨w1, s1⟩ := w.fresh j k
    refine hK none h' _ ?_ (s1.mono fun _ h => h.elim)
    rw [upd_same hi]
    exact w1.put rfl
  refine ref3_bad_c (w.rd hi) ⟨fun hb => bad 1 h (if_neg (by simpa using hb)) (Kp.refl _ _), fun hb => ?_⟩
  have hok : areaOk m start n := by simpa using hb
  have e : opnI m start n = opn m start.toNat n.toNat := if_pos hok
  rw [e] at hK bad
  unfold areaOk at hok
  obtain ⟨g1, g2, g3⟩ := hok
  obtain ⟨s, rfl⟩ := Int.eq_ofNat_of_zero_le g1
  obtain ⟨c, rfl⟩ := Int.eq_ofNat_of_zero_le (show 0 ≤ n by omega)
  simp only [Int.toNat_natCast] at hK bad
  refine RD.read (w.rd hi) (by omega) fun sa h1 k1 v1 n1 => ?_
  by_cases hdn : m.down = true
  · have er : (m.read (s : Int)).2 = 2 := by unfold Md.read; rw [if_neg (by omega), if_pos hdn]
    rw [er]
    refine dcn (fun _ => bad 2 h1 (by unfold opn holdsM; rw [if_pos hdn]) k1) (fun h => by omega)
  have hd : m.down = false := by simpa using hdn
  have er : m.read (s : Int) = (m.newest s, 0) := by unfold Md.read; rw [if_neg (by omega), if_neg hdn, Int.toNat_natCast]
  have er1 : m.read ((s : Int) + 1) = (m.newest (s + 1), 0) := by
    have e1 : (s : Int) + 1 = ((s + 1 : Nat) : Int) := by omega
    unfold Md.read; rw [if_neg (by omega), if_neg hdn, e1, Int.toNat_natCast]
  rw [er] at v1 ⊢
  refine dcn (fun h => (h rfl).elim) (fun _ => ⟨(s : Int) + 1, Wr.i64 (by omega) (by omega), RD.read (RD.kpb (w.rd hi) k1) (by omega) fun sb h2 k2 v2 n2 => ?_⟩)
  rw [er1] at v2 ⊢
  refine dcn (fun h => (h rfl).elim) (fun _ => ?_)
  have ba := (Byt.of_vec v1).kp k2 fun _ _ h => h
  have bb := Byt.of_vec v2
  simp only at ba bb
  have la : (m.newest s).length = 128 := Md.newest_len hwf (by omega)
  have lb : (m.newest (s + 1)).length = 128 := Md.newest_len hwf (by omega)
  have k12 := k1.trans k2
  refine ref3_headOf_d (n := c) (odd := 0) ba la (ref3_headOf_d (n := c) (odd := 1) bb lb ?_)
  generalize ho1 : okHead (m.newest s) c 0 = o1 at *
  generalize ho2 : okHead (m.newest (s + 1)) c 1 = o2 at *
  have hho : holdsM m s c = (match best o1 o2 with | none => (none, 30) | some h => if h.round = 2147483647 ∨ h.turn = 1099511627776 then (none, 31) else (some h, 0)) := by
    unfold holdsM; rw [if_neg hdn, ho1, ho2]; rfl
  have hgood : ∀ x, best o1 o2 = some x → (1 ≤ x.round ∧ x.round ≤ 2147483647) ∧ (1 ≤ x.lsn ∧ x.lsn ≤ 1099511627776) ∧ (1 ≤ x.turn ∧ x.turn ≤ 1099511627776) ∧ (1 ≤ x.floor ∧ x.floor ≤ x.round) := by
    intro x hx
    have : o1 = some x ∨ o2 = some x := by
      unfold best at hx
      split at hx
      · exact .inl hx
      · split at hx
        · exact .inr hx
        · split at hx
          · exact .inr hx
          · exact .inl hx
    rcases this with h | h
    · rw [h] at ho1; have := okHead_some ho1; exact ⟨this.1, this.2.1, this.2.2.1, this.2.2.2.1⟩
    · rw [h] at ho2; have := okHead_some ho2; exact ⟨this.1, this.2.1, this.2.2.1, this.2.2.2.1⟩
  have hp2 : ∀ y, o2 = some y → 1 ≤ y.turn := fun y hy => by rw [hy] at ho2; exact (okHead_some ho2).2.2.1.1
  refine ⟨fun r1 l1 t1 f1 hx => hx = h2 ∧ r1 = (hdR (best o1 o2) : Nat) ∧ l1 = (hdL (best o1 o2) : Nat) ∧ t1 = (hdT (best o1 o2) : Nat) ∧ f1 = (hdF (best o1 o2) : Nat), ?_, dcd (fun hgt => ?_) (fun hle => ?_)⟩
  · rintro r1 l1 t1 f1 hx ⟨rfl, rfl, rfl, rfl, rfl⟩
    cases hb : best o1 o2 with
    | none =>
      rw [hb] at hho
      exact dcb (fun _ => bad 30 hx (by unfold opn; rw [hho]) k12) (fun h => (h rfl).elim)
    | some x =>
      obtain ⟨q1, q2, q3, q4⟩ := hgood x hb
      rw [hb] at hho
      simp only at hho
      refine dcb (fun h0 => by simp only [hdT] at h0; omega) (fun _ => ?_)
      refine ⟨fun bb hy => hy = hx ∧ bb = decide (x.round = 2147483647 ∨ x.turn = 1099511627776), ?_, dcb (fun hr => ⟨rfl, by symm; simp only [decide_eq_true_eq]; simp only [hdR] at hr; left; omega⟩) (fun hr => ⟨rfl, by rw [Bool.eq_iff_iff]; simp only [beq_iff_eq, decide_eq_true_eq]; simp only [hdR, hdT] at *; omega⟩)⟩
      rintro bb' hy ⟨rfl, rfl⟩
      refine dcd (fun hbad => bad 31 hy (by unfold opn; rw [hho]; simp only; rw [if_pos hbad]) k12) (fun hok2 => ?_)
      rw [if_neg hok2] at hho
      have e1 : ((x.round + 1 : Nat) : Int) = (x.round : Int) + 1 := by omega
      have e2 : ((x.turn + 1 : Nat) : Int) = (x.turn : Int) + 1 := by omega
      let l0 : Lg := ⟨s, c, { x with round := x.round + 1 }, 0, 0, 0, [], false⟩
      obtain ⟨w4, s4⟩ := w.fresh j k12
      have k5 : Kp (fun _ => False) hy (hy.push (Cel (rgC p Sl.nil Sl.nil l0) 116)) := Kp.push (Kp.refl _ _) _
      obtain ⟨w5, s5⟩ := w4.fresh j k5
      refine ⟨((x.round + 1 : Nat) : Int), by rw [e1]; exact Wr.i64 (by simp only [hdR]; omega) (by simp only [hdR]; omega), _, _, rfl, rfl, ?_⟩
      have e5 : (hy.push (Cel [.pointer p, .int .i64 (s : Int), .int .i64 (c : Int), .int .i64 ((x.round + 1 : Nat) : Int), .int .i64 (hdT (some x) : Nat), .int .i64 (hdL (some x) : Nat), .int .i64 (hdF (some x) : Nat), .int .i64 0, .int .i64 0, .int .i64 0, .slice none 0 0, .slice none 0 0, .bool false] 116)) = hy.push (Cel (rgC p Sl.nil Sl.nil l0) 116) := rfl
      rw [e5]
      have p5 : RLg (hy.push (Cel (rgC p Sl.nil Sl.nil l0) 116)) hy.size p Sl.nil Sl.nil [] [] l0 (fun y => Gro (Gro o j h) j hy y = j) :=
        ⟨Bk.new hy _ 116, Vec.nil _ _ _, Vec.nil _ _ _, rfl, (fun x hx => (nomatch hx)), (fun x hx => (nomatch hx)), (by rintro ⟨a, ha, _⟩; cases ha), (by rintro ⟨a, ha, _⟩; cases ha), (by rintro y ⟨a, ha, _⟩; cases ha), by simp [Gro], (by rintro x ⟨a, ha, _⟩; cases ha), (by rintro x ⟨a, ha, _⟩; cases ha)⟩
      have w5' := w5.put (i := j) (B := Ass.rlog (some (nA hy.size)) p l0) ⟨hy.size, Sl.nil, Sl.nil, [], rfl, p5⟩
      have s45 := s4.trans s5
      generalize hy.push (Cel (rgC p Sl.nil Sl.nil l0) 116) = h5 at *
      generalize Gro (Gro o j h) j hy = o5 at *
      generalize hy.size = b at *
      refine ref3_found_c (l := l0) (q := some (nA b)) (high := x.round) w5' (by rw [upd_ne hij]; exact hi) upd_eq hij (by omega) hd (by show 4 ≤ c; omega) (by show s + c ≤ _; omega) rfl q2.1 q2.2 (by omega) _ rfl fun h6 o6 w6 s6 => ?_
      rw [upd_upd] at w6
      generalize hX : findGo m.newest l0.st l0.n x.round (l0.n - 2) l0.head.lsn l0.head.floor (l0.n - 2) = X at *
      have eo : opn m s c = (let y := runs m (layA s c { x with round := x.round + 1, turn := x.turn + 1 }); if y.1 = 0 then ((some ⟨s, c, { x with round := x.round + 1, turn := x.turn + 1 }, X.2, X.2, 0, X.1, false⟩, 0), y.2) else ((none, y.1), y.2)) := by
        unfold opn; rw [hho, ← hX]
      rw [eo] at hK
      simp only at hK
      refine dcn (fun h => (h rfl).elim) fun _ => ?_
      obtain ⟨b', sr, sv, rs, hb', p6⟩ := w6.rlog upd_eq
      cases hb'
      have s68 := (s45.mono (T := fun y => y = i ∨ y = j) fun _ h => h.elim).trans (s6.mono (T := fun y => y = i ∨ y = j) fun _ h => .inr h)
      refine ref3_lead_c (lsn := x.lsn) (floor := x.floor) w6 (by rw [upd_ne hij]; exact hi) hij p6 (by omega) (by show s + c ≤ 4096; omega) (by show x.round + 1 ≤ _; omega) (by show x.turn ≤ _; omega) (by omega) (by omega) fun h7 o7 w7 s7 => ?_
      have s78 := s68.trans (s7.mono fun _ h => .inl h)
      have p7 := RLg.own p6 s7 (Ne.symm hij)
      rw [upd_comm (Ne.symm hij)] at w7
      have elay : layA l0.st l0.n ⟨l0.head.round, x.lsn, l0.head.turn + 1, x.floor⟩ = layA s c { x with round := x.round + 1, turn := x.turn + 1 } := rfl
      have elay2 : ({ l0 with next := X.2, recs := X.1 } : Lg).head.turn = x.turn := rfl
      refine dcn (fun hne => ?_) (fun h0 => ?_)
      · have hne' : ¬ (runs m (layA s c { x with round := x.round + 1, turn := x.turn + 1 })).1 = 0 := hne
        rw [if_neg hne'] at hK
        refine hK none h7 o7 ?_ s78
        have := (w7.put (i := j) (B := Ass.rlogO none p none) rfl)
        rwa [upd_upd] at this
      · have h0' : (runs m (layA s c { x with round := x.round + 1, turn := x.turn + 1 })).1 = 0 := h0
        rw [if_pos h0'] at hK
        have st1 := p7.st.sti 4 (.int .i64 ((x.turn + 1 : Nat) : Int)) (by simp [rgC])
        let l8 : Lg := ⟨s, c, { x with round := x.round + 1, turn := x.turn + 1 }, X.2, 0, 0, X.1, false⟩
        have b8 : Bk (setB h7 b (Cel (rgC p sr sv l8) 116)) b (rgC p sr sv l8) 116 := p7.st.set
        have st2 := b8.sti 8 (.int .i64 (X.2 : Int)) (by simp [rgC])
        rw [setB_setB] at st2
        obtain ⟨w9, s9⟩ := w7.rlset (l' := ⟨s, c, { x with round := x.round + 1, turn := x.turn + 1 }, X.2, X.2, 0, X.1, false⟩) upd_eq p7 rfl
        rw [upd_upd] at w9
        exact ⟨((x.turn + 1 : Nat) : Int), by rw [e2]; exact Wr.i64 (by simp only [hdT]; omega) (by simp only [hdT]; omega), _, st1, (X.2 : Int), b8.rdi 7 rfl, _, st2, hK (some (nA b)) _ _ w9 (s78.trans (s9.mono fun _ h => .inr h))⟩
  · cases o2 with
    | none => simp only [hdT] at hgt; omega
    | some y =>
      have : best o1 (some y) = some y := by
        cases o1 with
        | none => rfl
        | some z => simp only [hdT] at hgt; simp only [best]; rw [if_pos (by omega)]
      rw [this]; exact ⟨rfl, rfl, rfl, rfl, rfl⟩
  · cases o2 with
    | none => exact ⟨rfl, rfl, rfl, rfl, rfl⟩
    | some y =>
      have : best o1 (some y) = o1 := by
        cases o1 with
        | none => have := hp2 y rfl; simp only [hdT] at hle; omega
        | some z => simp only [hdT] at hle; simp only [best]; rw [if_neg (by omega)]
      rw [this]; exact ⟨rfl, rfl, rfl, rfl, rfl⟩

/-! ### Records, Stat -/
theorem ref3_Records_none_c {K : Sl → Hp → Prop} (hK : K Sl.nil h) : ref3_Log_Records none K h :=
  ⟨fun b h' => b = true ∧ h' = h, by rintro b h' ⟨rfl, rfl⟩; exact ⟨fun _ => hK, fun h => (nomatch h)⟩, isN0 ⟨rfl, rfl⟩⟩

theorem ref3_Records_c {K : Sl → Hp → Prop} (w : Ow h o A) (hj : A j = Ass.rlog q p l) (hw : l.Wf)
    (hK : ∀ s rs h', Kp (fun _ => False) h h' → RcL h' s rs (fun x => h.size ≤ x) → rs.map (·.1) = (Lg.records l) → K s h') : ref3_Log_Records q K h := by
  obtain ⟨b, sr, sv, rs, rfl, hp⟩ := w.rlog hj
  have hcle := Chain.le hw.ch
  have hroom := hw.room
  have hnm := hw.nm
  have hlen := hp.len
  have hrlen := hp.rlen
  refine ⟨fun c hx => hx = h ∧ c = l.dead, ?_, isN ⟨nA b, rfl, l.dead, hp.st.rdi 12 rfl, rfl, rfl⟩⟩
  rintro c hx ⟨rfl, rfl⟩
  refine ⟨fun hd => hK Sl.nil [] hx (Kp.refl _ _) (RcL.nil _ _) (by unfold Lg.records; rw [if_pos hd]; rfl), fun hd => ?_⟩
  have erec : Lg.records l = l.recs := by unfold Lg.records; rw [if_neg (by simp [hd])]
  rw [erec] at hK
  refine ⟨fun k s i hy => ∃ (c : Nat) (os : List (Rec × Sl)), i = c ∧ c ≤ l.recs.length ∧ k = l.recs.length - c ∧ Kp (fun _ => False) hx hy ∧ RcL hy s os (fun x => hx.size ≤ x) ∧ os.map (·.1) = l.recs.take c,
    ⟨_, 0, [], rfl, by omega, rfl, Kp.refl _ _, RcL.nil _ _, rfl⟩, ?_⟩
  rintro k s i h3 ⟨c, os, rfl, hc, rfl, k3, r3, hos⟩
  have p3 := hp.kp k3 fun _ _ _ h => h
  have hosl : os.length = c := by have := congrArg List.length hos; simp at this; omega
  refine ⟨nA b, rfl, sr, p3.st.rdi 10 rfl, dcd (fun hlt => ?_) (fun hge => ?_)⟩
  · have hc' : c < l.recs.length := by omega
    obtain ⟨x, hx1⟩ : ∃ x, rs[c]? = some x := ⟨rs[c]'(by omega), by rw [List.getElem?_eq_getElem]⟩
    have hxm := List.mem_of_getElem? hx1
    have hx2 : l.recs[c]? = some x.1 := by rw [← hp.rl, List.getElem?_map, hx1]; rfl
    obtain ⟨a, ha, hr⟩ := p3.at_ hx1
    have hxl := (hw.rl x.1 (List.mem_of_getElem? hx2)).1
    have hb := Bk.new h3 [.int .i64 0, .int .i64 0, .slice none 0 0] 128
    have k4 : Kp (fun _ => False) h3 (setB (h3.push (Cel [.int .i64 0, .int .i64 0, .slice none 0 0] 128)) h3.size (Cel (rcE x) 128)) := Kp.set (F := fun _ => False) (Kp.push (Kp.refl _ _) _) _ (.inl (Nat.le_refl _))
    have hb4 : Bk (setB (h3.push (Cel [.int .i64 0, .int .i64 0, .slice none 0 0] 128)) h3.size (Cel (rcE x) 128)) h3.size (rcE x) 128 := hb.set
    refine ⟨sr, p3.st.rdi 10 rfl, a, ha, by omega, by omega, x.1.lsn, x.1.kind, x.2, by rw [Int.toNat_natCast]; exact hr, _, _, rfl, rfl, _, hb.st0 (vs := rcE x) rfl, ?_⟩
    have x4 := (p3.dat x hxm).kp k4 fun _ _ h => h
    have h4s : (setB (h3.push (Cel [.int .i64 0, .int .i64 0, .slice none 0 0] 128)) h3.size (Cel (rcE x) 128)).size = h3.size + 1 := by rw [size_set]; simp
    generalize setB (h3.push (Cel [.int .i64 0, .int .i64 0, .slice none 0 0] 128)) h3.size (Cel (rcE x) 128) = h4 at *
    have hxlen := x4.len
    have h3s := k3.size
    refine ⟨fun k sd i hy => ∃ d : Nat, i = d ∧ d ≤ x.1.data.length ∧ k = x.1.data.length - d ∧ Kp (fun _ => False) h4 hy ∧ Vec hy sd 1 5 ((x.1.data.take d).map bv) ∧ (∀ y, sd.blk y → h4.size ≤ y), ⟨_, 0, rfl, by omega, rfl, Kp.refl _ _, Vec.nil _ _ _, by rintro y ⟨a, ha, _⟩; cases ha⟩, ?_⟩
    rintro k sd i h5 ⟨d, rfl, hdl, rfl, k5, v5, n5⟩
    have hb5 := hb4.kp k5 fun h => h
    refine ⟨x.2, hb5.rdi 2 rfl, dcd (fun hlt2 => ?_) (fun hge2 => ?_)⟩
    · have hd' : d < x.1.data.length := by omega
      obtain ⟨a2, ha2, hr2⟩ := (x4.kp k5 fun _ _ h => h).at hd'
      refine ⟨x.2, hb5.rdi 2 rfl, a2, ha2, by omega, by omega, _, by rw [Int.toNat_natCast, Nat.mul_one]; exact hr2, _, _, _, rfl, rfl, rfl, ?_⟩
      have tmp := Bk.new h5 [bv x.1.data[d]] 5
      have k6 : Kp (fun _ => False) h5 (h5.push (Cel [bv x.1.data[d]] 5)) := Kp.push (Kp.refl _ _) _
      have hbyt : Byt (h5.push (Cel [bv x.1.data[d]] 5)) ⟨some (nA h5.size), 1, 1⟩ [x.1.data[d]] := ⟨rfl, Nat.le_refl _, tmp.rd0⟩
      refine App.bytes (v5.kp k6 fun _ _ h => h) hbyt (by simp; omega) fun s7 h7 v7 k7 n7 => ?_
      refine ⟨_, Wr.i64 (by omega) (by omega), x.1.data.length - (d + 1), by omega, d + 1, by omega, by omega, rfl, (k5.trans k6).and k7 fun y hy => .inl (n5 y hy), ?_, fun y hy => ?_⟩
      · rw [List.take_add_one, List.getElem?_eq_getElem hd', Option.toList_some]; exact v7
      · rcases n7 y hy with h | h
        · exact n5 y h
        · have := k5.size; simp at h; omega
    · have hde : d = x.1.data.length := by omega
      subst hde
      rw [List.take_length] at v5
      let e : Rec × Sl := (x.1, sd)
      have tmp := Bk.new h5 (rcE e) 128
      have k6 : Kp (fun _ => False) h5 (h5.push (Cel (rcE e) 128)) := Kp.push (Kp.refl _ _) _
      have k36 := (k4.trans k5).trans k6
      refine ⟨x.1.lsn, hb5.rdi 0 rfl, x.1.kind, hb5.rdi 1 rfl, _, _, _, rfl, rfl, rfl, ?_⟩
      have v6 := r3.vec.kp k36 fun _ _ h => h
      have hone : oneC (rcE e) := by
        intro v hv
        simp only [rcE, List.mem_cons, List.not_mem_nil, or_false] at hv
        rcases hv with rfl | rfl | rfl <;> rfl
      have hsl : s.len = os.length := by
        have := r3.vec.len
        rw [flat_len rcE 3 os fun _ _ => rfl] at this
        omega
      have k5s := k5.size
      have s6s : (h5.push (Cel (rcE e) 128)).size = h5.size + 1 := by simp
      refine v6.app (news := rcE e) ⟨rfl, tmp.rd0⟩ hone (by show (s.len + 1) * 40 ≤ _; omega) fun s' h7 hv7 hl7 k7 hn7 => ?_
      have k7s := k7.size
      refine ⟨_, Wr.i64 (by omega) (by omega), l.recs.length - (c + 1), by omega, c + 1, os ++ [e], by omega, by omega, rfl, (k3.trans k36).and k7 fun y hy => .inl (r3.fs y hy), ⟨?_, fun y hy => ?_, fun y hy => ?_, fun y hy z hz => ?_⟩, ?_⟩
      · rw [List.flatMap_append]
        have : [e].flatMap rcE = rcE e := by simp
        rw [this]; exact hv7
      · rcases List.mem_append.1 hy with hy | hy
        · exact ((r3.dat y hy).kp k36 fun _ _ h => h).kp k7 fun a ha => (r3.fd y hy _ ⟨a, ha, rfl⟩).2.1
        · simp at hy; subst hy
          refine ((Byt.of_vec v5).kp k6 fun _ _ h => h).kp k7 fun a ha hbk => ?_
          have h1 := r3.vec.lt hbk
          have h2 := n5 _ ⟨a, ha, rfl⟩
          omega
      · rcases hn7 y hy with h1 | h1
        · exact r3.fs y h1
        · omega
      · rcases List.mem_append.1 hy with hy | hy
        · have h1 := r3.fd y hy z hz
          exact ⟨h1.1, fun hbk => (hn7 z hbk).elim h1.2.1 fun e => by omega, by omega⟩
        · simp at hy; subst hy
          have h1 := n5 z hz
          have h2 := v5.lt hz
          refine ⟨by omega, fun hbk => ?_, by omega⟩
          rcases hn7 z hbk with h3 | h3
          · have := r3.vec.lt h3; omega
          · omega
      · rw [List.map_append, hos, List.take_add_one, hx2]; rfl
  · have hcl : c = l.recs.length := by omega
    rw [hcl, List.take_length] at hos
    exact hK s os h3 k3 r3 hos

theorem ref3_free_c {b : Nat} {sr sv : Sl} {K : Int → Hp → Prop} (hb : Bk h b (rgC p sr sv l) 116) (hw : l.Wf) (hK : K ((l.free : Nat) : Int) h) : ref3_Log_free (some (nA b)) K h := by
  have hle := Chain.le hw.ch
  have hro := hw.room
  have hn4 := hw.n4
  have hnm := hw.nm
  have hnx := hw.nx
  have e1 : ((l.n - 2 : Nat) : Int) = (l.n : Int) - 2 := by omega
  have e2 : ((l.next - l.head.lsn : Nat) : Int) = (l.next : Int) - l.head.lsn := by omega
  have e3 : ((l.n - 2 - (l.next - l.head.lsn) : Nat) : Int) = ((l.n - 2 : Nat) : Int) - ((l.next - l.head.lsn : Nat) : Int) := by omega
  have e4 : ((l.free : Nat) : Int) = ((l.n - 2 - (l.next - l.head.lsn) : Nat) : Int) - (l.reserved : Int) := by unfold Lg.free Lg.live; omega
  exact ⟨nA b, rfl, l.n, hb.rdi 2 rfl, _, by rw [← e1]; exact Wr.i64 (by omega) (by omega), l.next, hb.rdi 7 rfl, l.head.lsn, hb.rdi 5 rfl, _, by rw [← e2]; exact Wr.i64 (by omega) (by omega), _, by rw [← e3]; exact Wr.i64 (by omega) (by omega), l.reserved, hb.rdi 9 rfl, _, by rw [← e4]; exact Wr.i64 (by omega) (by omega), hK⟩

theorem ref3_Stat_none_c {K : Int → Int → Int → Int → Int → Int → Hp → Prop} (hK : ∀ h', Kp (fun _ => False) h h' → K 0 0 0 0 0 0 h') : ref3_Log_Stat none K h := by
  have hb := Bk.new h [.int .i64 0, .int .i64 0, .int .i64 0, .int .i64 0, .int .i64 0, .int .i64 0] 89
  refine ⟨_, _, rfl, rfl, isN0 ⟨_, hb.st0 rfl, 0, 0, 0, 0, 0, 0, hb.set.rd0, hK _ ((Kp.push (Kp.refl _ _) _).set _ (.inl (Nat.le_refl _)))⟩⟩
theorem ref3_Stat_c {K : Int → Int → Int → Int → Int → Int → Hp → Prop} (w : Ow h o A) (hj : A j = Ass.rlog q p l) (hw : l.Wf)
    (hK : ∀ h', Kp (fun _ => False) h h' → K l.head.lsn l.next l.durable (l.live : Nat) l.reserved (l.free : Nat) h') : ref3_Log_Stat q K h := by
  obtain ⟨b, sr, sv, rs, rfl, hp⟩ := w.rlog hj
  have hle := Chain.le hw.ch
  have hnx := hw.nx
  have hb := Bk.new h [.int .i64 0, .int .i64 0, .int .i64 0, .int .i64 0, .int .i64 0, .int .i64 0] 89
  have kz : Kp (fun _ => False) h (h.push (Cel [.int .i64 0, .int .i64 0, .int .i64 0, .int .i64 0, .int .i64 0, .int .i64 0] 89)) := Kp.push (Kp.refl _ _) _
  have b1 := hp.st.push (Cel [.int .i64 0, .int .i64 0, .int .i64 0, .int .i64 0, .int .i64 0, .int .i64 0] 89)
  have e1 : ((l.live : Nat) : Int) = (l.next : Int) - l.head.lsn := by unfold Lg.live; omega
  have R : ∀ hx, Bk hx b (rgC p sr sv l) 116 → rdc hx ((nA b).add 5) = some (.int .i64 l.head.lsn) ∧ rdc hx ((nA b).add 7) = some (.int .i64 l.next) ∧ rdc hx ((nA b).add 8) = some (.int .i64 l.durable) ∧ rdc hx ((nA b).add 9) = some (.int .i64 l.reserved) :=
    fun hx bx => ⟨bx.rdi 5 rfl, bx.rdi 7 rfl, bx.rdi 8 rfl, bx.rdi 9 rfl⟩
  refine ⟨_, _, rfl, rfl, isN ⟨nA b, rfl, l.head.lsn, (R _ b1).1, l.next, (R _ b1).2.1, l.durable, (R _ b1).2.2.1, l.next, (R _ b1).2.1, l.head.lsn, (R _ b1).1, ((l.live : Nat) : Int), by rw [e1]; exact Wr.i64 (by omega) (by omega), l.reserved, (R _ b1).2.2.2, ref3_free_c b1 hw ?_⟩⟩
  exact ⟨(R _ b1).2.2.2, (R _ b1).1, (R _ b1).2.1, (R _ b1).2.2.1, (R _ b1).2.1, (R _ b1).1, _, hb.st0 rfl, _, _, _, _, _, _, hb.set.rd0, hK _ (kz.set _ (.inl (Nat.le_refl _)))⟩

/-! ### Format -/
theorem ref3_Format_none_c {start n : Int} {K : Int → Hp → Prop} (hK : K 1 h) : ref3_Format none start n K h :=
  ref3_bad_none_c ⟨fun _ => hK, fun h => (nomatch h)⟩

/-- The acts of sector i. -/
def fmtS (st n i : Nat) : List DAct := .wr (st + i) zeroS :: if i = 1 ∨ i = n - 1 then [.fl] else []
theorem fmtS_all (hn : 4 ≤ n) : fmtA st n = ((List.range n).flatMap (fmtS st n)) ++ layA st n ⟨1, 1, 2, 1⟩ := by
  rw [fmtA_eq hn]
  congr 1
  obtain ⟨k, rfl⟩ : ∃ k, n = k + 3 := ⟨n - 3, by omega⟩
  have e1 : List.range (k + 3) = [0, 1] ++ (List.range k).map (· + 2) ++ [k + 2] := by
    rw [List.range_succ, show k + 2 = 2 + k by omega, List.range_add]
    congr 1
    congr 1
    apply List.map_congr_left
    intro a _
    omega
  rw [e1, List.flatMap_append, List.flatMap_append]
  have e2 : [0, 1].flatMap (fmtS st (k + 3)) = wipeA st 0 2 := by
    have a0 : fmtS st (k + 3) 0 = [.wr (st + 0) zeroS] := by unfold fmtS; rw [if_neg (by omega)]
    have a1 : fmtS st (k + 3) 1 = [.wr (st + 1) zeroS, .fl] := by unfold fmtS; rw [if_pos (.inl rfl)]
    simp only [List.flatMap_cons, List.flatMap_nil, a0, a1]
    rfl
  have e3 : ((List.range k).map (· + 2)).flatMap (fmtS st (k + 3)) = (List.range k).map fun i => DAct.wr (st + 2 + i) zeroS := by
    rw [List.flatMap_map]
    have : ∀ i ∈ List.range k, fmtS st (k + 3) (i + 2) = [DAct.wr (st + 2 + i) zeroS] := by
      intro i hi
      have := List.mem_range.1 hi
      unfold fmtS
      rw [if_neg (by omega), show st + (i + 2) = st + 2 + i by omega]
    have h2 : ∀ L : List Nat, (∀ i ∈ L, fmtS st (k + 3) (i + 2) = [DAct.wr (st + 2 + i) zeroS]) → L.flatMap (fun i => fmtS st (k + 3) (i + 2)) = L.map fun i => DAct.wr (st + 2 + i) zeroS := by
      intro L
      induction L with
      | nil => intro _; rfl
      | cons x r ih => intro hL; rw [List.flatMap_cons, hL x (by simp), ih fun i hi => hL i (by simp [hi])]; rfl
    exact h2 _ this
  have e4 : [k + 2].flatMap (fmtS st (k + 3)) = [DAct.wr (st + 2 + k) zeroS, .fl] := by
    simp only [List.flatMap_cons, List.flatMap_nil, fmtS, List.append_nil]
    rw [if_pos (by omega), show st + (k + 2) = st + 2 + k by omega]
  rw [e2, e3, e4, List.append_assoc]
  congr 1
  unfold wipeA
  have e5 : k + 3 - 2 = k + 1 := by omega
  rw [e5, List.range_succ, List.map_append, List.append_assoc]
  rfl

theorem ref3_Format_c {start n : Int} {K : Int → Hp → Prop} (t : Nat) (w : Ow h o A) (hi : A i = Ass.rdisk p m) (ht : t ≠ i) (hcap : m.pend.length + 10000 < 1000000000000)
    (hK : ∀ h' o', Ow h' o' (upd A i (Ass.rdisk p (fmtI m start n).2)) → Stp (fun j => j = i) h o h' o' → K (fmtI m start n).1 h') : ref3_Format p start n K h := by
  have hwf := (w.rd hi).wf
  have hhi := hwf.hi
  refine ref3_bad_c (w.rd hi) ⟨fun hb => ?_, fun hb => ?_⟩
  · have efm : fmtI m start n = (1, m) := if_neg (by simpa using hb)
    rw [efm] at hK
    exact hK h o (by rw [upd_same hi]; exact w) (Stp.refl _ _ _)
  have hok : areaOk m start n := by simpa using hb
  have efm : fmtI m start n = fmt m start.toNat n.toNat := if_pos hok
  rw [efm] at hK
  unfold areaOk at hok
  obtain ⟨g1, g2, g3⟩ := hok
  obtain ⟨s, rfl⟩ := Int.eq_ofNat_of_zero_le g1
  obtain ⟨c, rfl⟩ := Int.eq_ofNat_of_zero_le (show 0 ≤ n by omega)
  simp only [Int.toNat_natCast] at hK
  unfold fmt at hK
  rw [fmtS_all (by omega)] at hK
  have rest : ∀ k, k < c → ((List.range c).drop k).flatMap (fmtS s c) = fmtS s c k ++ ((List.range c).drop (k + 1)).flatMap (fmtS s c) := by
    intro k hk
    rw [List.drop_eq_getElem_cons (by simp; exact hk)]; simp
  refine ⟨fun k i' hx => ∃ (e : Nat) (m' : Md) (o' : Nat → Nat), i' = (e : Int) ∧ e ≤ c ∧ k = c - e ∧ Ow hx o' (upd A i (Ass.rdisk p m')) ∧ Stp (fun j => j = i) h o hx o' ∧ m'.pend.length ≤ m.pend.length + e ∧
      runs m ((List.range c).flatMap (fmtS s c) ++ layA s c ⟨1, 1, 2, 1⟩) = runs m' (((List.range c).drop e).flatMap (fmtS s c) ++ layA s c ⟨1, 1, 2, 1⟩),
    ⟨_, 0, m, o, rfl, by omega, rfl, by rw [upd_same hi]; exact w, Stp.refl _ _ _, by omega, rfl⟩, ?_⟩
  rintro k i' h2 ⟨e, m2, o2, rfl, he, rfl, w2, s2, hp2, hr⟩
  refine dcd (fun hlt => ?_) (fun hge => ?_)
  · have hlt' : e < c := by omega
    rw [rest e hlt', List.append_assoc] at hr
    have ef : fmtS s c e = .wr (s + e) zeroS :: (if e = 1 ∨ e = c - 1 then [.fl] else []) := rfl
    rw [ef, List.cons_append, runs_cons] at hr
    have er : (DAct.wr (s + e) zeroS).run m2 = m2.write ((s + e : Nat) : Int) zeroS := rfl
    rw [er] at hr
    have eqa : (s : Int) + e = ((s + e : Nat) : Int) := by omega
    have hpp := Md.write_pend' m2 ((s + e : Nat) : Int) zeroS
    refine ⟨fun hx => ∃ (m' : Md) (o' : Nat → Nat), Ow hx o' (upd A i (Ass.rdisk p m')) ∧ Stp (fun j => j = i) h o hx o' ∧ m'.pend.length ≤ m.pend.length + (e + 1) ∧
      runs m ((List.range c).flatMap (fmtS s c) ++ layA s c ⟨1, 1, 2, 1⟩) = runs m' (((List.range c).drop (e + 1)).flatMap (fmtS s c) ++ layA s c ⟨1, 1, 2, 1⟩), ?_, (s : Int) + e, Wr.i64 (by omega) (by omega), by omega, by omega, by omega, _, _, _, rfl, rfl, rfl, ?_⟩
    · rintro hx ⟨m', o', w', s', hp', hr'⟩
      exact ⟨_, Wr.i64 (by omega) (by omega), c - (e + 1), by omega, e + 1, m', o', by omega, by omega, rfl, w', s', hp', hr'⟩
    have hb0 := Bk.new h2 (zr [.int .u8 0] (Int.toNat 128 * 1)) 5
    have hz : zr [.int .u8 0] (Int.toNat 128 * 1) = zeroS.map bv := zr_u8 128
    have hk0 : Kp (fun _ => False) h2 (h2.push (Cel (zr [.int .u8 0] (Int.toNat 128 * 1)) 5)) := Kp.push (Kp.refl _ _) _
    rw [hz] at hb0 hk0 ⊢
    obtain ⟨w3, s3⟩ := w2.fresh t hk0
    rw [eqa]
    refine rw_Write (data := zeroS) w3 upd_eq (slB_byt hb0 rfl) (fun a ha _ => ?_) (by omega) fun h4 w4 s4 => ?_
    · cases ha
      show Gro o2 t h2 h2.size ≠ i
      simp only [Gro, if_neg (Nat.lt_irrefl _)]
      exact ht
    rw [upd_upd] at w4
    have s24 := (s2.trans (s3.mono fun _ h => h.elim)).trans s4
    refine dcn (fun hne => ?_) (fun h0 => ?_)
    · rw [if_neg hne] at hr
      rw [hr] at hK
      exact hK h4 _ w4 s24
    rw [if_pos h0] at hr
    generalize (m2.write ((s + e : Nat) : Int) zeroS).2 = m4 at *
    refine ⟨fun bb hx => hx = h4 ∧ bb = decide (e = 1 ∨ e = c - 1), ?_, dcb (fun h1 => ⟨rfl, by symm; simp only [decide_eq_true_eq]; omega⟩) (fun h1 => ⟨(c : Int) - 1, Wr.i64 (by omega) (by omega), rfl, by rw [Bool.eq_iff_iff]; simp only [beq_iff_eq, decide_eq_true_eq]; omega⟩)⟩
    rintro bb hx ⟨rfl, rfl⟩
    refine dcd (fun hfl => ?_) (fun hnf => ?_)
    · rw [if_pos hfl, List.cons_append, List.nil_append, runs_cons] at hr
      have er2 : DAct.fl.run m4 = m4.flush := rfl
      rw [er2] at hr
      refine rw_Flush w4 upd_eq (by omega) fun h5 w5 s5 => ?_
      rw [upd_upd] at w5
      have hfp := Md.flush_pend' m4
      refine dcn (fun hne => ?_) (fun h0 => ?_)
      · rw [if_neg hne] at hr
        rw [hr] at hK
        exact hK h5 _ w5 (s24.trans s5)
      · rw [if_pos h0] at hr
        exact ⟨_, _, w5, s24.trans s5, by omega, hr⟩
    · rw [if_neg hnf, List.nil_append] at hr
      exact ⟨_, _, w4, s24, by omega, hr⟩
  · have hec : e = c := by omega
    subst hec
    rw [List.drop_of_length_le (by simp), List.flatMap_nil, List.nil_append] at hr
    rw [hr] at hK
    refine ref3_headB_c (d := ⟨1, 1, 2, 1⟩) ⟨by decide, by decide, by decide, by decide⟩ (by omega) fun bb h3 k3 b3 hbb => ?_
    obtain ⟨w3, s3⟩ := w2.fresh t k3
    rw [runs_lay, show (s + (⟨1, 1, 2, 1⟩ : Hd).turn % 2 : Nat) = s from rfl] at hK
    refine rw_Write w3 upd_eq (slB_byt b3 (headB_len _ _)) (fun a ha _ => ?_) (by omega) fun h4 w4 s4 => ?_
    · cases ha
      show Gro o2 t h2 bb ≠ i
      simp only [Gro, if_neg (show ¬ bb < h2.size by omega)]
      exact ht
    rw [upd_upd] at w4
    have s24 := (s2.trans (s3.mono fun _ h => h.elim)).trans s4
    have hpp := Md.write_pend' m2 (s : Int) (headB e ⟨1, 1, 2, 1⟩)
    refine dcn (fun hne => ?_) (fun h0 => rw_Flush w4 upd_eq (by omega) fun h5 w5 s5 => ?_)
    · rw [if_neg hne] at hK; exact hK h4 _ w4 s24
    · rw [if_pos h0] at hK
      rw [upd_upd] at w5
      exact hK h5 _ w5 (s24.trans s5)
end
end Go.Proofs.YthpeadoidpimmaaGreat
