/- trellislaw2.DiskCrash answers true at all rounds: the whole. No condition but bounds on the lists. -/
import Derived.Test.YthpeadoidpimmaaCrashD
namespace Go.Proofs.Ythpeadoidpimmaa
open Go Tw
set_option linter.unusedVariables false
set_option linter.unusedSimpArgs false
set_option maxRecDepth 10000

def RndR (h0 : Hp) (x : RndD) (cs : List Value) : Prop :=
  ∃ s1 s2 s3 : Sl, cs = [s1.v, s2.v, s3.v, .bool x.dark] ∧ Arr h0 s1 2 PutR x.first ∧ Arr h0 s2 2 PutR x.then_ ∧ Bls h0 s3 x.keep ∧ x.first.length ≤ 1048576 ∧ x.then_.length ≤ 1048576 ∧ x.keep.length ≤ 1048576

section
variable {h0 h h1 : Hp} {p : Option Addr} {m m' : Md} {V W : Ass} {o o1 : Nat → Nat} {A : Nat → Ass}

theorem LaidR.set {sls : List Sl} {ls : List (List UInt8)} (r : LaidR h o sls ls) {i : Nat} {x : Sl} {bs : List UInt8} (hx : Byt h x bs) (ho : ∀ a, x.p = some a → o a.block = 5) : LaidR h o (sls.set i x) (ls.set i bs) := by
  refine ⟨by simp [r.len], fun j y b hy hb => ?_⟩
  rw [List.getElem?_set] at hy hb
  by_cases e : i = j
  · subst e
    rw [if_pos rfl] at hy hb
    split at hy
    · split at hb
      · cases hy; cases hb; exact ⟨hx, ho⟩
      · cases hb
    · cases hy
  · rw [if_neg e] at hy hb
    exact r.at_ j y b hy hb
theorem LaidR.snoc {sls : List Sl} {ls : List (List UInt8)} (r : LaidR h o sls ls) {x : Sl} {bs : List UInt8} (hx : Byt h x bs) (ho : ∀ a, x.p = some a → o a.block = 5) : LaidR h o (sls ++ [x]) (ls ++ [bs]) := by
  refine ⟨by simp [r.len], fun j y b hy hb => ?_⟩
  by_cases e : j < sls.length
  · rw [List.getElem?_append_left e] at hy
    rw [List.getElem?_append_left (by rw [← r.len]; exact e)] at hb
    exact r.at_ j y b hy hb
  · rw [List.getElem?_append_right (by omega)] at hy
    rw [List.getElem?_append_right (by rw [← r.len]; omega)] at hb
    rw [r.len] at hy
    cases hjj : j - ls.length with
    | zero => rw [hjj] at hy hb; simp at hy hb; subst hy; subst hb; exact ⟨hx, ho⟩
    | succ k => rw [hjj] at hy; simp at hy

/-- One element of the list of lists is written. -/
theorem St3.stL {sl y : Sl} {sls : List Sl} {j : Nat} (s : St3 h0 h p m (vecL sl sls) o A) (hj : j < sls.length) {a : Addr} (ha : sl.p = some a) :
    ∃ h1 o1 A1, StL h (a.add (j * 1)) [y.v] h1 ∧ St3 h0 h1 p m (vecL sl (sls.set j y)) o1 A1 ∧ Stp (fun i => i = 6) h o h1 o1 := by
  obtain ⟨hv, hb⟩ := s.ow.vec s.a6
  obtain ⟨h1, hst, hv1, hk⟩ := hv.st ha (i := j) (vs := [y.v]) (by simp; omega)
  have hk' : Kp (fun x => o x = 6) h h1 := hk.mono fun x _ hx => hb x hx
  have e : splice (sls.map Sl.v) j [y.v] = (sls.set j y).map Sl.v := by
    rw [splice_one _ _ _ (by simp; exact hj), List.map_set]
  rw [e] at hv1
  obtain ⟨w1, t1⟩ := s.ow.step (i := 6) (B := vecL sl (sls.set j y)) hk' ⟨hv1, fun x hx => .inl (hb x hx)⟩
  exact ⟨h1, _, _, by rw [Nat.mul_one]; exact hst, s.lst w1, t1⟩

theorem OneR.st3 (s : OneR h0.size h0 h p m o) : ∃ A, St3 h0 h p m (vecL Sl.nil []) o A := by
  refine ⟨upd (upd (upd (fun _ => Ass.top) 0 (Ass.old h0)) 1 (Ass.disk p m)) 6 (vecL Sl.nil []), ?_, rfl, rfl, rfl, rfl⟩
  refine Ow.put (Ow.put (Ow.put (fun i => trivial) ⟨s.ok.kp, s.ok.own⟩) s.d) ⟨Vec.nil _ _ _, ?_⟩
  rintro x ⟨a, ha, _⟩; cases ha

theorem laid_at (x : RndD) (L : List (List UInt8)) (k : Nat) (hk : k < L.length) :
    (x.laid L)[k]? = some ((lastW (keptW (wsOf L.length fillB x.then_) x.keep) (k : Int)).getD ((lastW (wsOf L.length fillB x.first) (k : Int)).getD (L.getD k []))) := by
  unfold RndD.laid
  rw [layAll_get _ _ (fun w hw => ?_) k (by rw [layAll_len]; exact hk)]
  · have := layAll_get L (wsOf L.length fillB x.first) (wsOf_in _ _ _) k hk
    rw [List.getD, this]; rfl
  · rw [layAll_len]; exact wsOf_in _ _ _ w (keptW_mem _ _ w hw)

theorem law2_DiskCrash_c {h : Hp} {n : Int} {sl sk : Sl} {rs : List RndD} {again : List Bool} (hs : Arr h sl 4 (RndR h) rs) (hk : Bls h sk again) (hl : rs.length ≤ 1048576) (hka : again.length ≤ 1048576) : law2_DiskCrash n sl sk (LawK h) h := by
  have hsl := hs.len
  refine law2_sizes_c (fun hb => ?_) (fun g1 g2 h' p o s0 ho => ?_)
  · refine ⟨fun b h' => b = true ∧ h' = h, ?_, fun h => (nomatch h), fun _ => ⟨rfl, rfl⟩⟩
    rintro b h' ⟨rfl, rfl⟩
    exact ⟨fun _ => ⟨rfl, Kp.refl _ _⟩, fun h => (nomatch h)⟩
  refine ⟨fun b h2 => b = false ∧ h2 = h', ?_, fun h => (nomatch h), fun _ => ⟨rfl, rfl⟩⟩
  rintro b h2 ⟨rfl, rfl⟩
  refine ⟨fun h => (nomatch h), fun _ => ?_⟩
  obtain ⟨A0, s1⟩ := s0.st3
  have hn : (n.toNat : Int) = n := by omega
  have hz128 : ((List.replicate 128 (0 : UInt8))).length = 128 := by simp
  refine ⟨fun k s i hh => ∃ (j : Nat) (sls : List Sl) (o : Nat → Nat) (A : Nat → Ass), i = j ∧ j ≤ n.toNat ∧ k = n.toNat - j ∧ St3 h hh p (Md.new n.toNat) (vecL s sls) o A ∧ LaidR hh o sls (List.replicate j (List.replicate 128 0)),
    ⟨_, 0, [], o, A0, rfl, by omega, rfl, s1, ⟨rfl, fun i x bs hx => by simp at hx⟩⟩, ?_⟩
  clear s1 s0 ho o A0
  rintro k s i h3 ⟨j, sls, o, A, rfl, hj, rfl, s1, r1⟩
  have hrep : ∀ b ∈ List.replicate j (List.replicate 128 (0 : UInt8)), b.length = 128 := fun b hb => by rw [List.eq_of_mem_replicate hb]; simp
  refine dcd (fun hlt => ?_) (fun hge => ?_)
  · have hlt' : j < n.toNat := by omega
    have hb3 := Bk.new h3 (zr [.int .u8 0] (Int.toNat 128 * 1)) 5
    have hka : Kp (fun _ => False) h3 (h3.push (Cel (zr [.int .u8 0] (Int.toNat 128 * 1)) 5)) := Kp.push (Kp.refl _ _) _
    have hz : zr [.int .u8 0] (Int.toNat 128 * 1) = (List.replicate 128 (0 : UInt8)).map bv := by
      have := zr_zero 128 1 (by omega)
      rw [List.map_replicate]
      exact this
    refine ⟨by omega, by omega, by omega, _, _, _, rfl, rfl, rfl, _, _, _, rfl, rfl, rfl, ?_⟩
    have hbyt : Byt (h3.push (Cel (zr [.int .u8 0] (Int.toNat 128 * 1)) 5)) ⟨some (nA h3.size), Int.toNat 128, Int.toNat 128⟩ (List.replicate 128 (0 : UInt8)) := by
      refine ⟨by simp, Nat.le_refl _, ?_⟩
      show RdL _ (nA h3.size) _
      rw [← hz]; exact hb3.rd0
    have ho5 : Gro o 5 h3 h3.size = 5 := by simp [Gro]
    obtain ⟨s2, t2⟩ := s1.fresh hka
    have r2 := r1.stp hrep t2 id
    generalize h3.push (Cel (zr [.int .u8 0] (Int.toNat 128 * 1)) 5) = h4 at *
    generalize Gro o 5 h3 = o4 at *
    generalize hx : (⟨some (nA h3.size), Int.toNat 128, Int.toNat 128⟩ : Sl) = x at *
    have hxo : ∀ a, x.p = some a → o4 a.block = 5 := by
      rintro a ha; subst hx; cases ha; exact ho5
    have hkb : Kp (fun _ => False) h4 (h4.push (Cel [x.v] 24)) := Kp.push (Kp.refl _ _) _
    have hb4 := Bk.new h4 [x.v] 24
    obtain ⟨s3, t3⟩ := s2.fresh hkb
    have r3 := r2.stp hrep t3 id
    have hxlt : ∀ a, x.p = some a → a.block < h4.size := fun a ha => hbyt.lt (by intro e; rw [e] at hz128; simp at hz128) ha
    have hby3 : Byt (h4.push (Cel [x.v] 24)) x (List.replicate 128 (0 : UInt8)) := hbyt.kp hkb fun _ _ h => h
    have hxo3 : ∀ a, x.p = some a → Gro o4 5 h4 a.block = 5 := fun a ha => by rw [Gro.old (hxlt a ha)]; exact hxo a ha
    obtain ⟨hv, hvo⟩ := s3.ow.vec s3.a6
    have hlen : s.len = j := by
      have := hv.len
      have := r1.len
      simp at *; omega
    refine hv.app (news := [x.v]) ⟨rfl, RdL.of_bk hb4 (fun j v hj => by simpa using hj)⟩ (fun v hv' => by simp at hv'; subst hv'; rfl) (by show (s.len + 1) * 24 ≤ _; omega) fun s' h5 hv5 hl5 hk5 hb5 => ?_
    obtain ⟨w5, t5⟩ := s3.ow.step (i := 6) (B := vecL s' (sls ++ [x])) (hk5.mono fun y _ hy => hvo y hy) ⟨by rw [List.map_append]; exact hv5, fun y hy => (hb5 y hy).elim (fun h => .inl (hvo y h)) (fun h => .inr (by omega))⟩
    have r5 := r3.stp hrep t5 (by decide)
    have hby5 : Byt h5 x (List.replicate 128 (0 : UInt8)) := hby3.kp t5.kp fun a ha e => by rw [hxo3 a ha] at e; omega
    refine ⟨_, Wr.i64 (by omega) (by omega), n.toNat - (j + 1), by omega, j + 1, sls ++ [x], _, _, by omega, by omega, rfl, s3.lst w5, ?_⟩
    rw [List.replicate_succ']
    refine r5.snoc hby5 fun a ha => ?_
    rw [t5.own _ (by have := hxlt a ha; simp; omega)]
    exact hxo3 a ha
  have hjn : j = n.toNat := by omega
  subst hjn
  have hnew : (Md.new n.toNat).laid = List.replicate n.toNat (List.replicate 128 0) := rfl
  rw [← hnew] at r1
  have hmn : (Md.new n.toNat).laid.length = n.toNat := by simp [Md.new]
  have hmo : (Md.new n.toNat).On := ⟨rfl, rfl⟩
  have hmp : (Md.new n.toNat).pend = [] := rfl
  generalize Md.new n.toNat = m at *
  refine ⟨fun k i hh => ∃ (j : Nat) (m : Md) (sls : List Sl) (o : Nat → Nat) (A : Nat → Ass), i = j ∧ j ≤ rs.length ∧ k = rs.length - j ∧ St3 h hh p m (vecL s sls) o A ∧ LaidR hh o sls m.laid ∧ m.laid.length = n.toNat ∧ m.On ∧ m.pend = [],
    ⟨_, 0, m, sls, o, A, rfl, by omega, rfl, s1, r1, hmn, hmo, hmp⟩, ?_⟩
  clear s1 r1 hmn hmo hmp m sls o A hrep hnew
  rintro k i h3 ⟨j, m, sls, o, A, rfl, hj, rfl, s1, r1, hmn, hmo, hmp⟩
  refine dcd (fun hlt => ?_) (fun hge => ⟨rfl, s1.kp⟩)
  have hlt' : j < rs.length := by omega
  obtain ⟨a, ha, cs, ⟨sa, sb, sc, rfl, la, lb, lc, ca, cb, cc⟩, _, hr⟩ := hs.ptr hlt'
  generalize rs[j] = x at *
  have hr1 := RdL.kp0 hr s1.kp
  have hb := Bk.new h3 [.slice none 0 0, .slice none 0 0, .slice none 0 0, .bool false] 37
  refine ⟨a, ha, by omega, by omega, sa, sb, sc, x.dark, by rw [Int.toNat_natCast]; exact hr1, _, _, rfl, rfl, _, hb.st0 (vs := [sa.v, sb.v, sc.v, .bool x.dark]) rfl, sa, sb, sc, x.dark, hb.set.rd0, ?_⟩
  have hk4 : Kp (fun _ => False) h3 (setB (h3.push (Cel [.slice none 0 0, .slice none 0 0, .slice none 0 0, .bool false] 37)) h3.size (Cel [sa.v, sb.v, sc.v, .bool x.dark] 37)) :=
    Kp.set (F := fun _ => False) (Kp.push (Kp.refl _ _) _) _ (.inl (Nat.le_refl _))
  obtain ⟨s2, t2⟩ := s1.fresh hk4
  have hb2 : Bk (setB (h3.push (Cel [.slice none 0 0, .slice none 0 0, .slice none 0 0, .bool false] 37)) h3.size (Cel [sa.v, sb.v, sc.v, .bool x.dark] 37)) h3.size [sa.v, sb.v, sc.v, .bool x.dark] 37 := hb.set
  have ob2 : Gro o 5 h3 h3.size = 5 := by simp [Gro]
  have hwf := (s1.ow.disk s1.a1).wf
  have r2 := r1.stp hwf.sec t2 id
  generalize setB (h3.push (Cel [.slice none 0 0, .slice none 0 0, .slice none 0 0, .bool false] 37)) h3.size (Cel [sa.v, sb.v, sc.v, .bool x.dark] 37) = h4 at *
  generalize Gro o 5 h3 = o4 at *
  generalize h3.size = q at *
  refine law2_round_c s2 la lb lc (by omega) hmo hmp ca cb cc fun h5 m5 o5 A5 s5 t5 on5 pe5 la5 => ⟨fun h => (nomatch h), fun _ => ?_⟩
  have hb5 := t5.bk hb2 (by rw [ob2]; decide)
  have ob5 : o5 q = 5 := by rw [t5.own _ hb2.lt]; exact ob2
  have r5 := r2.stp hwf.sec t5 (by decide)
  have hsec : ∀ b ∈ m.laid, b.length = 128 := hwf.sec
  have hwf5 := (s5.ow.disk s5.a1).wf
  have hlen5 : (x.laid m.laid).length = n.toNat := by rw [x.laid_len, hmn]
  refine ⟨fun k i hh => ∃ (c : Nat) (L : List (List UInt8)) (sls : List Sl) (o : Nat → Nat) (A : Nat → Ass), i = c ∧ c ≤ n.toNat ∧ k = n.toNat - c ∧ St3 h hh p m5 (vecL s sls) o A ∧ LaidR hh o sls L ∧ L.length = n.toNat ∧ (∀ b ∈ L, b.length = 128) ∧
      (∀ i, i < c → L[i]? = (x.laid m.laid)[i]?) ∧ (∀ i, c ≤ i → L[i]? = m.laid[i]?) ∧ Bk hh q [sa.v, sb.v, sc.v, .bool x.dark] 37 ∧ o q = 5,
    ⟨_, 0, m.laid, sls, o5, A5, rfl, by omega, rfl, s5, r5, hmn, hsec, fun i hi => by omega, fun i _ => rfl, hb5, ob5⟩, ?_⟩
  clear s5 r5 hb5 ob5 t5 s2 t2 r2 hb2 ob2 hk4
  rintro k i h6 ⟨c, L, sls6, o6, A6, rfl, hc, rfl, s6, r6, hL, hL128, hlo, hhi, hb6, ob6⟩
  refine dcd (fun hlt2 => ?_) (fun hge2 => ?_)
  · have hc' : c < n.toNat := by omega
    obtain ⟨y, hy⟩ : ∃ y, sls6[c]? = some y := ⟨sls6[c]'(by rw [r6.len]; omega), by rw [List.getElem?_eq_getElem]⟩
    have hLc : L[c]? = some (m.laid.getD c []) := by
      rw [hhi c (Nat.le_refl _)]
      simp [List.getD, hmn, hc']
    have hold128 : (m.laid.getD c []).length = 128 := hL128 _ (List.mem_of_getElem? hLc)
    obtain ⟨by6, bo6⟩ := r6.at_ c y _ hy hLc
    obtain ⟨hv6, hvo6⟩ := s6.ow.vec s6.a6
    obtain ⟨a6, ha6, hra6⟩ := sl_rd hv6 hy
    have hslen : s.len = n.toNat := by
      have := hv6.len
      have := r6.len
      simp at *; omega
    refine ⟨sa, hb6.rdi 0 rfl, a6, ha6, by omega, by omega, y, by rw [Int.toNat_natCast]; exact hra6, ?_⟩
    refine law2_last_c (nn := n.toNat) (keep := []) (sk := Sl.nil) (l := x.first) ?_ ⟨rfl, Nat.le_refl _, rfl, rfl⟩ by6 hn ca fun s7 h7 hk7 hb7 hf7 => ?_
    · refine ⟨la.len, la.cap, ?_⟩
      have h1 := la.rd
      cases hp : sa.p with
      | none => rw [hp] at h1; exact h1
      | some a => rw [hp] at h1; exact fun i x hx => by obtain ⟨cs, q1, q2, q3⟩ := h1 i x hx; exact ⟨cs, q1, q2, RdL.kp0 q3 s6.kp⟩
    obtain ⟨s7', t7⟩ := s6.fresh hk7
    have r7 := r6.stp hL128 t7 id
    have hb7' := t7.bk hb6 id
    have ob7 : Gro o6 5 h6 q = 5 := by rw [Gro.old hb6.lt]; exact ob6
    have so7 : ∀ a, s7.p = some a → Gro o6 5 h6 a.block = 5 := by
      intro a ha
      rcases hf7 with rfl | hf
      · rw [Gro.old (by6.lt (by intro e; rw [e] at hold128; simp at hold128) ha)]; exact bo6 a ha
      · have := hf _ ⟨a, ha, rfl⟩
        simp [Gro, show ¬ a.block < h6.size by omega]
    generalize Gro o6 5 h6 = o7 at *
    obtain ⟨h8, o8, A8, hst8, s8, t8⟩ := s7'.stL (j := c) (y := s7) (by rw [r6.len]; omega) ha6
    have e1 : askW n.toNat x.first true [] = wsOf m.laid.length fillB x.first := by rw [hmn]; rfl
    rw [e1] at hb7
    generalize hv1 : (lastW (wsOf m.laid.length fillB x.first) (c : Int)).getD (m.laid.getD c []) = v1 at *
    have hv1l : v1.length = 128 := by
      rw [← hv1]
      have := layAll_get m.laid (wsOf m.laid.length fillB x.first) (wsOf_in _ _ _) c (by omega)
      exact layAll_sec hsec (fun w hw => (by
        have : ∀ (l : List (Int × UInt8)), ∀ w ∈ wsOf m.laid.length fillB l, w.2.length = 128 := by
          intro l
          induction l with
          | nil => simp [wsOf]
          | cons z r ih =>
            intro w hw
            simp only [wsOf] at hw
            split at hw
            · rcases List.mem_cons.1 hw with rfl | h
              · exact fillB_len _
              · exact ih w h
            · exact ih w hw
        exact this _ w hw)) _ (List.mem_of_getElem? this)
    have nv1 : v1 ≠ [] := by intro e; rw [e] at hv1l; simp at hv1l
    have r8 := (r7.stp hL128 t8 (by decide)).set (i := c) (x := s7) (bs := v1) (hb7.kp t8.kp fun a ha => by rw [so7 a ha]; decide) fun a ha => by rw [t8.own _ (hb7.lt nv1 ha)]; exact so7 a ha
    have hb8 := t8.bk hb7' (by rw [ob7]; decide)
    have ob8 : o8 q = 5 := by rw [t8.own _ hb7'.lt]; exact ob7
    have hby8 : Byt h8 s7 v1 := hb7.kp t8.kp fun a ha => by rw [so7 a ha]; decide
    have so8 : ∀ a, s7.p = some a → o8 a.block = 5 := fun a ha => by rw [t8.own _ (hb7.lt nv1 ha)]; exact so7 a ha
    have hsetl : c < sls6.length := by rw [r6.len]; omega
    have hy8 : (sls6.set c s7)[c]? = some s7 := by simp [hsetl]
    obtain ⟨a8, ha8, hra8⟩ := sl_rd (s8.ow.vec s8.a6).1 hy8
    rw [ha6] at ha8; cases ha8
    refine ⟨by omega, by omega, h8, by rw [Int.toNat_natCast]; exact hst8, sb, hb8.rdi 1 rfl, sc, hb8.rdi 2 rfl, by omega, by omega, s7, by rw [Int.toNat_natCast]; exact hra8, ?_⟩
    refine law2_last_c (nn := n.toNat) (keep := x.keep) (l := x.then_) ?_ (lc.kp s8.kp fun _ _ h => h) hby8 hn cb fun s9 h9 hk9 hb9 hf9 => ?_
    · refine ⟨lb.len, lb.cap, ?_⟩
      have h1 := lb.rd
      cases hp : sb.p with
      | none => rw [hp] at h1; exact h1
      | some a => rw [hp] at h1; exact fun i x hx => by obtain ⟨cs, q1, q2, q3⟩ := h1 i x hx; exact ⟨cs, q1, q2, RdL.kp0 q3 s8.kp⟩
    have e2 : askW n.toNat x.then_ false x.keep = keptW (wsOf m.laid.length fillB x.then_) x.keep := by rw [hmn]; rfl
    rw [e2] at hb9
    have hfin : (x.laid m.laid)[c]? = some ((lastW (keptW (wsOf m.laid.length fillB x.then_) x.keep) (c : Int)).getD v1) := by rw [← hv1]; exact laid_at x m.laid c (by omega)
    generalize hv2 : (lastW (keptW (wsOf m.laid.length fillB x.then_) x.keep) (c : Int)).getD v1 = v2 at *
    have hv2l : v2.length = 128 := by rw [← la5] at hfin; exact hwf5.sec _ (List.mem_of_getElem? hfin)
    have nv2 : v2 ≠ [] := by intro e; rw [e] at hv2l; simp at hv2l
    have hL8 : ∀ b ∈ L.set c v1, b.length = 128 := fun b hb => by
      rcases List.mem_or_eq_of_mem_set hb with h | rfl
      · exact hL128 b h
      · exact hv1l
    obtain ⟨s9', t9⟩ := s8.fresh hk9
    have r9 := r8.stp hL8 t9 id
    have hb9' := t9.bk hb8 id
    have ob9 : Gro o8 5 h8 q = 5 := by rw [Gro.old hb8.lt]; exact ob8
    have so9 : ∀ a, s9.p = some a → Gro o8 5 h8 a.block = 5 := by
      intro a ha
      rcases hf9 with rfl | hf
      · rw [Gro.old (hby8.lt nv1 ha)]; exact so8 a ha
      · have := hf _ ⟨a, ha, rfl⟩
        simp [Gro, show ¬ a.block < h8.size by omega]
    generalize Gro o8 5 h8 = o9 at *
    obtain ⟨h10, o10, A10, hst10, s10, t10⟩ := s9'.stL (j := c) (y := s9) (by simp; exact hsetl) ha6
    have r10 := (r9.stp hL8 t10 (by decide)).set (i := c) (x := s9) (bs := v2) (hb9.kp t10.kp fun a ha => by rw [so9 a ha]; decide) fun a ha => by rw [t10.own _ (hb9.lt nv2 ha)]; exact so9 a ha
    have hb10 := t10.bk hb9' (by rw [ob9]; decide)
    have ob10 : o10 q = 5 := by rw [t10.own _ hb9'.lt]; exact ob9
    refine ⟨by omega, by omega, h10, by rw [Int.toNat_natCast]; exact hst10, _, Wr.i64 (by omega) (by omega), n.toNat - (c + 1), by omega, c + 1, (L.set c v1).set c v2, _, o10, A10, by omega, by omega, rfl, s10, r10, by simp [hL], ?_, ?_, ?_, hb10, ob10⟩
    · intro b hb
      rcases List.mem_or_eq_of_mem_set hb with h | rfl
      · exact hL8 b h
      · exact hv2l
    · intro i hi
      rw [List.getElem?_set]
      by_cases e : c = i
      · subst e; rw [if_pos rfl, if_pos (by simp; omega)]; exact hfin.symm
      · rw [if_neg e, List.getElem?_set, if_neg e]; exact hlo i (by omega)
    · intro i hi
      rw [List.getElem?_set, if_neg (by omega), List.getElem?_set, if_neg (by omega)]; exact hhi i (by omega)
  · have hcn : c = n.toNat := by omega
    subst hcn
    have hLe : L = m5.laid := by
      rw [la5]
      apply List.ext_getElem?
      intro i
      by_cases hi : i < n.toNat
      · exact hlo i hi
      · rw [List.getElem?_eq_none (by omega), List.getElem?_eq_none (by omega)]
    subst hLe
    refine ⟨fun k i hh => ∃ (t : Nat) (m' : Md) (o : Nat → Nat) (A : Nat → Ass), i = t ∧ t ≤ 2 ∧ k = 2 - t ∧ St3 h hh p m' (vecL s sls6) o A ∧ LaidR hh o sls6 m'.laid ∧ m'.laid = m5.laid ∧ m'.On ∧ m'.pend = [],
      ⟨_, 0, m5, o6, A6, rfl, by omega, rfl, s6, r6, rfl, on5, pe5⟩, ?_⟩
    clear s6 r6 hb6 ob6
    rintro k i h7 ⟨t, m7, o7, A7, rfl, ht, rfl, s7, r7, e7, on7, pe7⟩
    refine dcd (fun hlt3 => ?_) (fun hge3 => ?_)
    · refine law2_holds_c s7 r7 hk hka on7 pe7 fun h8 m8 o8 A8 s8 t8 on8 pe8 e8 => ⟨fun h => (nomatch h), fun _ => ?_⟩
      refine ⟨_, Wr.i64 (by omega) (by omega), 2 - (t + 1), by omega, t + 1, m8, o8, A8, by omega, by omega, rfl, s8, ?_, by rw [e8, e7], on8, pe8⟩
      rw [e8]
      exact r7.stp (s7.ow.disk s7.a1).wf.sec t8 (by decide)
    · exact ⟨_, Wr.i64 (by omega) (by omega), rs.length - (j + 1), by omega, j + 1, m7, sls6, o7, A7, by omega, by omega, rfl, s7, r7, by rw [e7, hL], on7, pe7⟩
end
end Go.Proofs.Ythpeadoidpimmaa
