/- The document's log on the heap; a record on its disk. No condition. -/
import Derived.Test.YthpeadoidpimmaaGreatRefM
namespace Tw
open Go
set_option linter.unusedVariables false

def rgC (dp : Option Addr) (sr sv : Sl) (l : Lg) : List Value :=
  [.pointer dp, .int .i64 l.st, .int .i64 l.n, .int .i64 l.head.round, .int .i64 l.head.turn, .int .i64 l.head.lsn, .int .i64 l.head.floor, .int .i64 l.next, .int .i64 l.durable, .int .i64 l.reserved, sr.v, sv.v, .bool l.dead]
def roV (r : Nat) : Value := .int .i64 (r : Int)

structure RLg (h : Hp) (b : Nat) (dp : Option Addr) (sr sv : Sl) (rs : List (Rec × Sl)) (rv : List Nat) (l : Lg) (F : Nat → Prop) : Prop where
  st : Bk h b (rgC dp sr sv l) 116
  vec : Vec h sr 3 128 (rs.flatMap Go.Proofs.YthpeadoidpimmaaGreat.rcE)
  ves : Vec h sv 1 2 (rv.map roV)
  rl : rs.map (·.1) = l.recs
  dat : ∀ x ∈ rs, Byt h x.2 x.1.data
  sep : ∀ x ∈ rs, ∀ y, x.2.blk y → F y ∧ y ≠ b ∧ ¬ sr.blk y ∧ ¬ sv.blk y ∧ y < h.size
  n1 : ¬ sr.blk b
  n2 : ¬ sv.blk b
  n3 : ∀ y, sr.blk y → ¬ sv.blk y
  fb : F b
  fs : ∀ x, sr.blk x → F x
  fv : ∀ x, sv.blk x → F x

section
variable {h h' : Hp} {b : Nat} {dp : Option Addr} {sr sv : Sl} {rs : List (Rec × Sl)} {rv : List Nat} {l l' : Lg} {F G : Nat → Prop}

theorem RLg.kp (p : RLg h b dp sr sv rs rv l F) (hk : Kp G h h') (hd : ∀ x, x < h.size → F x → ¬ G x) : RLg h' b dp sr sv rs rv l (fun x => F x ∧ x < h.size) :=
  ⟨p.st.kp hk (hd _ p.st.lt p.fb), p.vec.kp hk fun x hx => hd _ (p.vec.lt hx) (p.fs x hx), p.ves.kp hk fun x hx => hd _ (p.ves.lt hx) (p.fv x hx), p.rl,
    fun x hx => (p.dat x hx).kp hk fun a ha => hd _ (p.sep x hx _ ⟨a, ha, rfl⟩).2.2.2.2 (p.sep x hx _ ⟨a, ha, rfl⟩).1,
    fun x hx y hy => ⟨⟨(p.sep x hx y hy).1, (p.sep x hx y hy).2.2.2.2⟩, (p.sep x hx y hy).2.1, (p.sep x hx y hy).2.2.1, (p.sep x hx y hy).2.2.2.1, Nat.lt_of_lt_of_le (p.sep x hx y hy).2.2.2.2 hk.size⟩, p.n1, p.n2, p.n3, ⟨p.fb, p.st.lt⟩, fun x hx => ⟨p.fs x hx, p.vec.lt hx⟩, fun x hx => ⟨p.fv x hx, p.ves.lt hx⟩⟩
theorem RLg.mono (p : RLg h b dp sr sv rs rv l F) (hg : ∀ x, x < h.size → F x → G x) : RLg h b dp sr sv rs rv l G :=
  ⟨p.st, p.vec, p.ves, p.rl, p.dat, fun x hx y hy => ⟨hg _ (p.sep x hx y hy).2.2.2.2 (p.sep x hx y hy).1, (p.sep x hx y hy).2⟩, p.n1, p.n2, p.n3, hg _ p.st.lt p.fb, fun x hx => hg _ (p.vec.lt hx) (p.fs x hx), fun x hx => hg _ (p.ves.lt hx) (p.fv x hx)⟩
theorem RLg.head (p : RLg h b dp sr sv rs rv l F) (h1 : l'.recs = l.recs) : RLg (setB h b (Cel (rgC dp sr sv l') 116)) b dp sr sv rs rv l' F ∧ Kp (fun x => x = b) h (setB h b (Cel (rgC dp sr sv l') 116)) := by
  have hk : Kp (fun x => x = b) h (setB h b (Cel (rgC dp sr sv l') 116)) := Kp.set (F := fun x => x = b) (Kp.refl _ _) _ (.inr rfl)
  refine ⟨⟨p.st.set, p.vec.kp hk fun x hx e => by subst e; exact p.n1 hx, p.ves.kp hk fun x hx e => by subst e; exact p.n2 hx, by rw [h1]; exact p.rl, fun x hx => (p.dat x hx).kp hk fun a ha e => (p.sep x hx _ ⟨a, ha, rfl⟩).2.1 e, fun x hx y hy => ?_, p.n1, p.n2, p.n3, p.fb, p.fs, p.fv⟩, hk⟩
  have := p.sep x hx y hy
  exact ⟨this.1, this.2.1, this.2.2.1, this.2.2.2.1, by rw [size_set]; exact this.2.2.2.2⟩
theorem RLg.rlen (p : RLg h b dp sr sv rs rv l F) : rs.length = l.recs.length := by rw [← p.rl]; simp
theorem RLg.len (p : RLg h b dp sr sv rs rv l F) : sr.len = l.recs.length := by
  have := p.vec.len
  rw [flat_len Go.Proofs.YthpeadoidpimmaaGreat.rcE 3 rs fun _ _ => rfl] at this
  rw [← p.rlen]; omega
theorem RLg.lenv (p : RLg h b dp sr sv rs rv l F) : sv.len = rv.length := by
  have := p.ves.len
  simp at this; omega
theorem RLg.at_ (p : RLg h b dp sr sv rs rv l F) {i : Nat} {x : Rec × Sl} (hx : rs[i]? = some x) : ∃ a, sr.p = some a ∧ RdL h (a.add (i * 3)) (Go.Proofs.YthpeadoidpimmaaGreat.rcE x) := by
  have hi := (List.getElem?_eq_some_iff.1 hx).1
  obtain ⟨a, ha⟩ := p.vec.ptr (by have := p.len; have := p.rlen; omega)
  exact ⟨a, ha, p.vec.rdl ha fun j v hj => flat_get Go.Proofs.YthpeadoidpimmaaGreat.rcE 3 rs (fun _ _ => rfl) i x hx j v hj⟩
theorem RLg.atv (p : RLg h b dp sr sv rs rv l F) {i r : Nat} (hx : rv[i]? = some r) : ∃ a, sv.p = some a ∧ rdc h (a.add (i * 1)) = some (.int .i64 (r : Int)) := by
  have hi := (List.getElem?_eq_some_iff.1 hx).1
  obtain ⟨a, ha⟩ := p.ves.ptr (by have := p.lenv; omega)
  refine ⟨a, ha, ?_⟩
  rw [Nat.mul_one]
  exact p.ves.rdc ha (by rw [List.getElem?_map, hx]; rfl)
theorem RLg.snocA (p : RLg h b dp sr sv rs rv l F) {r : Rec} {s x : Sl} {z : List Value} {K : Sl → Hp → Prop} (hs : Byt h s r.data) (hsep : ∀ y, s.blk y → F y ∧ y ≠ b ∧ ¬ sr.blk y ∧ ¬ sv.blk y ∧ y < h.size)
    (hx : RdS h x 3 (Go.Proofs.YthpeadoidpimmaaGreat.rcE (r, s))) (hx1 : x.len = 1) (hb : (sr.len + 1) * 40 ≤ 140737488355328)
    (hK : ∀ sr' h', Bk h' b (rgC dp sr sv l) 116 → Kp sr.blk h h' → (∀ l', l'.recs = l.recs ++ [r] → RLg (setB h' b (Cel (rgC dp sr' sv l') 116)) b dp sr' sv (rs ++ [(r, s)]) rv l' (fun x => F x ∨ h.size ≤ x)) → K sr' h') : App h sr x 3 40 128 z K := by
  have ho : oneC (Go.Proofs.YthpeadoidpimmaaGreat.rcE (r, s)) := by
    intro v hv
    simp only [Go.Proofs.YthpeadoidpimmaaGreat.rcE, List.mem_cons, List.not_mem_nil, or_false] at hv
    rcases hv with rfl | rfl | rfl <;> rfl
  refine p.vec.app hx ho (by rw [hx1]; exact hb) fun sr' h2 hv hl hk hn => ?_
  have hlt := p.st.lt
  have hb2 : Bk h2 b (rgC dp sr sv l) 116 := p.st.kp hk p.n1
  refine hK sr' h2 hb2 hk fun l' hl' => ?_
  have nb : ¬ sr'.blk b := fun hbk => (hn b hbk).elim p.n1 fun e => by omega
  have k2 : Kp (fun x => x = b) h2 (setB h2 b (Cel (rgC dp sr' sv l') 116)) := Kp.set (F := fun x => x = b) (Kp.refl _ _) _ (.inr rfl)
  refine ⟨hb2.set, ?_, (p.ves.kp hk fun y hy hr => p.n3 y hr hy).kp k2 fun y hy e => by subst e; exact p.n2 hy, by rw [List.map_append, p.rl, hl']; rfl, ?_, ?_, nb, p.n2, fun y hy hv => (hn y hy).elim (fun h => p.n3 y h hv) fun e => by have := p.ves.lt hv; omega, .inl p.fb, fun x hx => (hn x hx).elim (fun h => .inl (p.fs x h)) (fun h => .inr (by omega)), fun x hx => .inl (p.fv x hx)⟩
  · rw [List.flatMap_append]
    have e : [(r, s)].flatMap Go.Proofs.YthpeadoidpimmaaGreat.rcE = Go.Proofs.YthpeadoidpimmaaGreat.rcE (r, s) := by simp
    rw [e]
    exact hv.kp k2 fun x hx e => by subst e; exact nb hx
  · intro y hy
    rcases List.mem_append.1 hy with hy | hy
    · have h1 := (p.dat y hy).kp hk fun a ha => (p.sep y hy _ ⟨a, ha, rfl⟩).2.2.1
      exact h1.kp k2 fun a ha e => (p.sep y hy _ ⟨a, ha, rfl⟩).2.1 e
    · simp at hy; subst hy
      have h1 := hs.kp hk fun a ha => (hsep _ ⟨a, ha, rfl⟩).2.2.1
      exact h1.kp k2 fun a ha e => (hsep _ ⟨a, ha, rfl⟩).2.1 e
  · intro y hy z hz
    have hh : F z ∧ z ≠ b ∧ ¬ sr.blk z ∧ ¬ sv.blk z ∧ z < h.size := by
      rcases List.mem_append.1 hy with hy | hy
      · exact p.sep y hy z hz
      · simp at hy; subst hy; exact hsep z hz
    refine ⟨.inl hh.1, hh.2.1, fun hbk => (hn z hbk).elim hh.2.2.1 fun e => by omega, hh.2.2.2.1, ?_⟩
    rw [size_set]; have := hk.size; omega
theorem RLg.snocB (p : RLg h b dp sr sv rs rv l F) {r : Nat} {x : Sl} {z : List Value} {K : Sl → Hp → Prop}
    (hx : RdS h x 1 [roV r]) (hx1 : x.len = 1) (hb : (sv.len + 1) * 8 ≤ 140737488355328)
    (hK : ∀ sv' h', Bk h' b (rgC dp sr sv l) 116 → Kp sv.blk h h' → (∀ l', l'.recs = l.recs → RLg (setB h' b (Cel (rgC dp sr sv' l') 116)) b dp sr sv' rs (rv ++ [r]) l' (fun x => F x ∨ h.size ≤ x)) → K sv' h') : App h sv x 1 8 2 z K := by
  have ho : oneC [roV r] := by
    intro v hv
    simp only [List.mem_cons, List.not_mem_nil, or_false] at hv
    subst hv; rfl
  refine p.ves.app hx ho (by rw [hx1]; exact hb) fun sv' h2 hv hl hk hn => ?_
  have hlt := p.st.lt
  have hb2 : Bk h2 b (rgC dp sr sv l) 116 := p.st.kp hk p.n2
  refine hK sv' h2 hb2 hk fun l' hl' => ?_
  have nb : ¬ sv'.blk b := fun hbk => (hn b hbk).elim p.n2 fun e => by omega
  have k2 : Kp (fun x => x = b) h2 (setB h2 b (Cel (rgC dp sr sv' l') 116)) := Kp.set (F := fun x => x = b) (Kp.refl _ _) _ (.inr rfl)
  refine ⟨hb2.set, (p.vec.kp hk fun y hy hr => p.n3 y hy hr).kp k2 fun y hy e => by subst e; exact p.n1 hy, ?_, by rw [p.rl, hl'], ?_, ?_, p.n1, nb, fun y hy hv => (hn y hv).elim (fun h => p.n3 y hy h) fun e => by have := p.vec.lt hy; omega, .inl p.fb, fun x hx => .inl (p.fs x hx), fun x hx => (hn x hx).elim (fun h => .inl (p.fv x h)) (fun h => .inr (by omega))⟩
  · rw [List.map_append]
    exact hv.kp k2 fun x hx e => by subst e; exact nb hx
  · intro y hy
    have h1 := (p.dat y hy).kp hk fun a ha => (p.sep y hy _ ⟨a, ha, rfl⟩).2.2.2.1
    exact h1.kp k2 fun a ha e => (p.sep y hy _ ⟨a, ha, rfl⟩).2.1 e
  · intro y hy z hz
    have hh := p.sep y hy z hz
    refine ⟨.inl hh.1, hh.2.1, hh.2.2.1, fun hbk => (hn z hbk).elim hh.2.2.2.1 fun e => by omega, ?_⟩
    rw [size_set]; have := hk.size; omega
end
end Tw
namespace Go.Proofs.YthpeadoidpimmaaGreat
open Go Tw
set_option linter.unusedVariables false
set_option linter.unusedSimpArgs false
set_option maxRecDepth 10000
set_option maxHeartbeats 1000000

def RD (h : Hp) (p : Option Addr) (m : Md) (F : Nat → Prop) : Prop := ∃ b bl sw l, p = some (nA b) ∧ RDi h b bl sw l m F

section
variable {h : Hp} {p : Option Addr} {m : Md} {F : Nat → Prop} {l : Lg} {b : Nat} {sr sv : Sl}

theorem RD.kpb {h' : Hp} (d : RD h p m F) (hk : Kp (fun _ => False) h h') : RD h' p m F := by
  obtain ⟨b, bl, sw, l, e, d⟩ := d
  exact ⟨b, bl, sw, l, e, RDi.kpb d hk⟩
theorem RD.wf (d : RD h p m F) : m.Wf := by obtain ⟨b, bl, sw, l, e, d⟩ := d; exact d.wf
theorem RD.read {a : Int} {K : Sl → Int → Hp → Prop} (d : RD h p m F) (hcap : m.pend.length ≤ 1000000000000)
    (hK : ∀ x h', Kp (fun _ => False) h h' → Vec h' x 1 5 ((m.read a).1.map bv) → (∀ y, x.blk y → h.size ≤ y) → K x (m.read a).2 h') : ref2_Disk_Read p a K h := by
  obtain ⟨b, bl, sw, l, rfl, d⟩ := d
  exact ref2_Read_i d (by omega) hK

theorem ref3_place_c {q : Nat} {K : Int → Hp → Prop} (hb : Bk h b (rgC p sr sv l) 116) (hn : 4 ≤ l.n) (hm : l.st + l.n ≤ 4096) (hq : 1 ≤ q) (hq2 : q < 9223372036854775808) (hK : K ((place l.st l.n q : Nat) : Int) h) : ref3_Log_place (some (nA b)) q K h := by
  have e1 : ((q - 1 : Nat) : Int) = (q : Int) - 1 := by omega
  have e4 : ((l.n - 2 : Nat) : Int) = (l.n : Int) - 2 := by omega
  have hlt : (q - 1) % (l.n - 2) < l.n - 2 := Nat.mod_lt _ (by omega)
  have e2 : Int.tmod ((q - 1 : Nat) : Int) ((l.n - 2 : Nat) : Int) = (((q - 1) % (l.n - 2) : Nat) : Int) := by
    rw [Int.tmod_eq_emod_of_nonneg (by omega)]; rfl
  have e3 : ((place l.st l.n q : Nat) : Int) = (l.st : Int) + 2 + Int.tmod ((q - 1 : Nat) : Int) ((l.n - 2 : Nat) : Int) := by rw [e2]; unfold place; omega
  refine ⟨nA b, rfl, l.st, hb.rdi 1 rfl, _, Wr.i64 (by omega) (by omega), ((q - 1 : Nat) : Int), by rw [e1]; exact Wr.i64 (by omega) (by omega), l.n, hb.rdi 2 rfl, ((l.n - 2 : Nat) : Int), by rw [e4]; exact Wr.i64 (by omega) (by omega), by omega, _, rfl, ((place l.st l.n q : Nat) : Int), ?_, hK⟩
  rw [e3]; exact Wr.i64 (by rw [e2]; omega) (by rw [e2]; omega)

theorem ref3_first_c {s : Sl} {bs : List UInt8} {q low high room : Nat} {K : Int → Int → Hp → Prop} (hb : Bk h b (rgC p sr sv l) 116) (hs : Byt h s bs) (hl : bs.length = 128) (hn : 4 ≤ l.n) (hm : l.n ≤ 4096) (hq : 1 ≤ q) (hq2 : q ≤ 1099511627777) (hlq : l.head.lsn ≤ q)
    (hroom : room + (q - l.head.lsn) = l.n - 2) (hhigh : high ≤ 2147483647)
    (hK1 : ∀ mk, FirstOk bs q low high room mk → K mk.kind mk.len h) (hK0 : (∀ mk, ¬ FirstOk bs q low high room mk) → K 0 (-1) h) : ref3_Log_first (some (nA b)) s q low high K h := by
  have hsl := hs.len
  have f16 : fld bs 16 1 = (bs[16]'(by omega)).toNat := fld_one (by omega)
  have f17 : fld bs 17 1 = (bs[17]'(by omega)).toNat := fld_one (by omega)
  obtain ⟨p1, hp1, r16⟩ := hs.at (i := 16) (by omega)
  obtain ⟨p1', hp1', r17⟩ := hs.at (i := 17) (by omega)
  rw [hp1] at hp1'; cases hp1'
  have f4 := fld_lt bs 4 4
  have f20 := fld_lt bs 20 4
  have hb16 := (bs[16]'(by omega)).toNat_lt
  have e8 : getV bs 8 8 = (q : Int) ↔ fld bs 8 8 = q := by
    unfold getV
    split
    · rename_i hh
      have := fld_8 (l := bs) (a := 8) (by omega)
      constructor
      · intro h; omega
      · intro h; omega
    · omega
  -- what FirstOk asks
  have no : ∀ {P : Prop}, (∀ mk, FirstOk bs q low high room mk → P) → ¬ P → K 0 (-1) h := fun hP hn => hK0 fun mk hmk => hn (hP mk hmk)
  have fo : ∀ mk, FirstOk bs q low high room mk → whole bs = true ∧ fld bs 17 1 = 0 ∧ fld bs 16 1 ≠ 0 ∧ low ≤ fld bs 4 4 ∧ fld bs 4 4 ≤ high ∧ fld bs 8 8 = q ∧ fld bs 18 2 = 0 ∧ fld bs 20 4 ≤ 32768 ∧ needN (fld bs 20 4) ≤ room ∧ q + needN (fld bs 20 4) - 1 ≤ 1099511627776 := by
    rintro mk ⟨g1, g2, g3, g4, g5, g6, g7⟩
    have hmo := okMark_some g1
    obtain ⟨a1, a2, rfl⟩ := okMark_iff g1
    exact ⟨a1, a2, hmo.2.2.2.1, g4, g5, g2, g3, hmo.2.2.2.2.2, g6, g7⟩
  refine ref3_right_c hs hl ⟨fun hw => no (P := whole bs = true) (fun mk hmk => (fo mk hmk).1) (by simpa using hw), fun hw => ?_⟩
  have hw' : whole bs = true := by simpa using hw
  refine ref3_get_c (a := 4) (n := 4) hs (by omega) (by omega) (by omega) ?_
  rw [getV_lt (by omega)]
  refine ⟨fun c hx => hx = h ∧ c = !decide (low ≤ fld bs 4 4 ∧ fld bs 4 4 ≤ high ∧ fld bs 8 8 = q ∧ fld bs 16 1 ≠ 0 ∧ fld bs 17 1 = 0 ∧ fld bs 18 2 = 0), ?_, ?_⟩
  · rintro c hx ⟨rfl, rfl⟩
    refine ⟨fun hc => ?_, fun hc => ?_⟩
    · simp only [Bool.not_eq_true', decide_eq_false_iff_not] at hc
      exact no (fun mk hmk => by have := fo mk hmk; exact ⟨this.2.2.2.1, this.2.2.2.2.1, this.2.2.2.2.2.1, this.2.2.1, this.2.1, this.2.2.2.2.2.2.1⟩) hc
    have hc' : low ≤ fld bs 4 4 ∧ fld bs 4 4 ≤ high ∧ fld bs 8 8 = q ∧ fld bs 16 1 ≠ 0 ∧ fld bs 17 1 = 0 ∧ fld bs 18 2 = 0 := by simpa only [Bool.not_eq_false', decide_eq_true_eq] using hc
    refine ref3_get_c (a := 20) (n := 4) hs (by omega) (by omega) (by omega) ?_
    rw [getV_lt (by omega)]
    refine dcd (fun hbig => no (fun mk hmk => (fo mk hmk).2.2.2.2.2.2.2.1) (by omega)) (fun hsm => ?_)
    have hlen : fld bs 20 4 ≤ 32768 := by omega
    refine ref3_Need_n hlen ?_
    have hnl := needN_le _ hlen
    have hnp := needN_pos (fld bs 20 4)
    refine ⟨fun c hy => hy = hx ∧ c = !decide (needN (fld bs 20 4) ≤ room ∧ q + needN (fld bs 20 4) - 1 ≤ 1099511627776), ?_, nA b, rfl, l.head.lsn, hb.rdi 5 rfl, (q : Int) - l.head.lsn, Wr.i64 (by omega) (by omega), (q : Int) - l.head.lsn + (needN (fld bs 20 4) : Nat), Wr.i64 (by omega) (by omega), l.n, hb.rdi 2 rfl, (l.n : Int) - 2, Wr.i64 (by omega) (by omega), dcd (fun hgt => ⟨rfl, ?_⟩) (fun hle => ⟨(q : Int) + (needN (fld bs 20 4) : Nat), Wr.i64 (by omega) (by omega), (q : Int) + (needN (fld bs 20 4) : Nat) - 1, Wr.i64 (by omega) (by omega), rfl, ?_⟩)⟩
    · rintro c hy ⟨rfl, rfl⟩
      refine ⟨fun hc2 => ?_, fun hc2 => ?_⟩
      · simp only [Bool.not_eq_true', decide_eq_false_iff_not] at hc2
        exact no (fun mk hmk => by have := fo mk hmk; exact ⟨this.2.2.2.2.2.2.2.2.1, this.2.2.2.2.2.2.2.2.2⟩) hc2
      have hc2' : needN (fld bs 20 4) ≤ room ∧ q + needN (fld bs 20 4) - 1 ≤ 1099511627776 := by simpa only [Bool.not_eq_false', decide_eq_true_eq] using hc2
      refine ⟨p1, hp1, by omega, (bs[16].toNat : Int), r16, (bs[16].toNat : Int), Wr.i64 (by omega) (by omega), ?_⟩
      have := hK1 ⟨fld bs 4 4, fld bs 8 8, fld bs 16 1, fld bs 18 2, fld bs 20 4⟩ ⟨okMark_mk ⟨hw', hc'.2.2.2.2.1, hc'.2.2.2.1, by omega, by omega, hlen⟩, hc'.2.2.1, hc'.2.2.2.2.2, hc'.1, hc'.2.1, hc2'.1, hc2'.2⟩
      simp only [f16] at this
      exact this
    · symm; simp only [Bool.not_eq_true', decide_eq_false_iff_not]; omega
    · rw [Bool.eq_iff_iff]; simp only [decide_eq_true_eq, Bool.not_eq_true', decide_eq_false_iff_not]; omega
  · have no2 : ∀ {P : Prop} [Decidable P], ¬ P → true = !decide P := by intro P _ hP; simp [hP]
    refine dcd (fun h1 => ⟨rfl, no2 (by omega)⟩) (fun h1 => dcd (fun h2 => ⟨rfl, no2 (by omega)⟩) (fun h2 => ref3_get_c (a := 8) (n := 8) hs (by omega) (by omega) (by omega) (dcn (fun h3 => ⟨rfl, no2 (fun hh => h3 (e8.2 hh.2.2.1))⟩) (fun h3 => ⟨p1, hp1, by omega, (bs[16].toNat : Int), r16, dcb (fun h4 => ⟨rfl, no2 (by omega)⟩) (fun h4 => ⟨by omega, (bs[17].toNat : Int), r17, dcn (fun h5 => ⟨rfl, no2 (by omega)⟩) (fun h5 => ref3_get_c (a := 18) (n := 2) hs (by omega) (by omega) (by omega) ⟨rfl, ?_⟩)⟩)⟩))))
    have e8' := e8.1 h3
    rw [getV_lt (by omega), Bool.eq_iff_iff]; simp only [bne_iff_ne, ne_eq, Bool.not_eq_true', decide_eq_false_iff_not]; omega

theorem ref3_one_c {q room low high : Nat} {K : Sl → Int → Int → Int → Hp → Prop} (d : RD h p m F) (hb : Bk h b (rgC p sr sv l) 116) (hcap : m.pend.length ≤ 1000000000000) (hn : 4 ≤ l.n) (hm : l.st + l.n ≤ m.laid.length) (hd : m.down = false) (hq : 1 ≤ q) (hq2 : q ≤ 1099511627777)
    (hlq : l.head.lsn ≤ q) (hroom : room + (q - l.head.lsn) = l.n - 2) (hhigh : high ≤ 2147483647)
    (hK1 : ∀ r s h', recAt m.newest l.st l.n q low high room = some r → Kp (fun _ => False) h h' → Vec h' s 1 5 (r.data.map bv) → (∀ x, s.blk x → h.size ≤ x) → K s r.kind r.round 0 h')
    (hK0 : recAt m.newest l.st l.n q low high room = none → ∀ h', Kp (fun _ => False) h h' → K Sl.nil 0 0 0 h') : ref3_Log_one (some (nA b)) q low high K h := by
  have hwf := d.wf
  have hhi := hwf.hi
  have hsec : ∀ j, (m.newest (place l.st l.n (q + j))).length = 128 := fun j => Md.newest_len hwf (by have := place_lt (st := l.st) (q := q + j) hn; omega)
  have hread : ∀ j : Nat, m.read ((place l.st l.n (q + j) : Nat) : Int) = (m.newest (place l.st l.n (q + j)), 0) := fun j => by
    have := place_lt (st := l.st) (q := q + j) hn
    unfold Md.read; rw [if_neg (by omega), if_neg (by simp [hd]), Int.toNat_natCast]
  refine ⟨nA b, rfl, p, hb.rdi 0 rfl, ref3_place_c hb hn (by omega) (by omega) (by omega) ⟨hb.rdi 0 rfl, RD.read d hcap fun s0 h1 k1 v1 n1 => ?_⟩⟩
  have hr0 := hread 0
  rw [Nat.add_zero] at hr0
  rw [hr0] at v1 ⊢
  have by1 := Byt.of_vec v1
  simp only at by1
  have h128 := hsec 0
  rw [Nat.add_zero] at h128
  have b1 := hb.kp k1 fun h => h
  refine dcn (fun h => (h rfl).elim) (fun _ => ?_)
  have hnone : (∀ mk, ¬ FirstOk (m.newest (place l.st l.n q)) q low high room mk) → recAt m.newest l.st l.n q low high room = none := by
    intro hno
    cases hok : okMark (m.newest (place l.st l.n q)) with
    | none => exact recAt_none0 hok
    | some y =>
      by_cases hbad : y.round < low ∨ high < y.round ∨ room < needN y.len ∨ 1099511627776 < q + needN y.len - 1
      · exact recAt_none1 hok hbad
      · refine recAt_none2 (i := 0) hok (by have := needN_pos y.len; omega) ?_
        unfold okAt
        rw [Nat.add_zero, hok]
        rw [beq_eq_false_iff_ne]
        intro he
        simp only [Option.some.injEq] at he
        refine hno y ⟨hok, by rw [he], by rw [he], by omega, by omega, by omega, by omega⟩
  refine ref3_first_c (room := room) b1 by1 h128 hn (by omega) hq hq2 hlq hroom hhigh (fun mk hmk => ?_) (fun hno => dcd (fun _ => hK0 (hnone hno) _ k1) (fun h => by omega))
  obtain ⟨g1, g2, g3, g4, g5, g6, g7⟩ := hmk
  have hmo := okMark_some g1
  have hgood : ¬ (mk.round < low ∨ high < mk.round ∨ room < needN mk.len ∨ 1099511627776 < q + needN mk.len - 1) := by omega
  have hnl := needN_le _ hmo.2.2.2.2.2
  have hnp := needN_pos mk.len
  have hal := needN_all mk.len
  refine dcd (fun h => by omega) (fun _ => ?_)
  refine ⟨fun k s i hx => ∃ j : Nat, i = j ∧ j ≤ needN mk.len ∧ k = needN mk.len - j ∧ Kp (fun _ => False) h hx ∧ Kp (fun _ => False) h1 hx ∧ Vec hx s 1 5 (((catP m.newest l.st l.n q j).take mk.len).map bv) ∧ (∀ x, s.blk x → h.size ≤ x) ∧ (∀ x, s.blk x → h1.size ≤ x) ∧ ∀ c, c < j → okAt m.newest l.st l.n q mk c = true,
    ⟨_, 0, rfl, by omega, rfl, k1, Kp.refl _ _, (by have e0 : (catP m.newest l.st l.n q 0).take mk.len = [] := by simp [catP]
                                                    rw [e0]; exact Vec.nil _ _ _), (by rintro x ⟨a, ha, _⟩; cases ha), (by rintro x ⟨a, ha, _⟩; cases ha), fun c hc => by omega⟩, ?_⟩
  rintro k s i h2 ⟨j, rfl, hj, rfl, k2, k12, v2, n2, n12, ok2⟩
  refine ref3_Need_n hmo.2.2.2.2.2 (dcd (fun hlt => ?_) (fun hge => ?_))
  · have hlt' : j < needN mk.len := by omega
    have h104 := needN_in hlt'
    have hcl := catP_len hsec j
    have b2 := hb.kp k2 fun h => h
    have eqj : (q : Int) + j = ((q + j : Nat) : Int) := by omega
    refine ⟨p, b2.rdi 0 rfl, (q : Int) + j, Wr.i64 (by omega) (by omega), ?_⟩
    rw [eqj]
    refine ref3_place_c b2 hn (by omega) (by omega) (by omega) ⟨b2.rdi 0 rfl, RD.read (RD.kpb d k2) hcap fun sj h3 k3 v3 n3 => ?_⟩
    rw [hread j] at v3 ⊢
    have by3 := Byt.of_vec v3
    simp only at by3
    refine dcn (fun h => (h rfl).elim) (fun _ => ?_)
    refine ref3_further_c by3 (by1.kp (k12.trans k3) fun _ _ h => h) (hsec j) h128 g1 hq (by omega) ⟨fun hbad => ?_, fun hok => ?_⟩
    · refine hK0 (recAt_none2 g1 hlt' ?_) _ (k2.trans k3)
      simpa [okAt] using hbad
    have hokj : okAt m.newest l.st l.n q mk j = true := by simpa [okAt] using hok
    rw [List.take_of_length_le (by omega)] at v2
    have v23 := v2.kp k3 fun _ _ h => h
    -- byte by byte
    refine ⟨fun k s i hx => ∃ c : Nat, i = c ∧ c ≤ 104 ∧ k = 104 - c ∧ 104 * j + c ≤ mk.len ∧ Kp (fun x => h1.size ≤ x ∧ x < h2.size) h3 hx ∧ Vec hx s 1 5 ((catP m.newest l.st l.n q j ++ ((m.newest (place l.st l.n (q + j))).drop 24).take c).map bv) ∧ (∀ x, s.blk x → h1.size ≤ x) ∧ (∀ x, s.blk x → x < h2.size ∨ h3.size ≤ x),
      ⟨_, 0, rfl, by omega, rfl, by omega, Kp.refl _ _, by rw [List.take_zero, List.append_nil]; exact v23, n12, fun x hx => .inl (v2.lt hx)⟩, ?_⟩
    rintro k s4 i h4 ⟨c, rfl, hc, rfl, hcm, k4, v4, n14, n4⟩
    have hl4 := v4.len
    simp [hcl, hsec] at hl4
    have hs4 : s4.len = 104 * j + c := by omega
    refine ⟨fun bb hx => hx = h4 ∧ bb = decide (c < 104 ∧ 104 * j + c < mk.len), ?_, dcd (fun h1 => ⟨rfl, by rw [Bool.eq_iff_iff]; simp only [decide_eq_true_eq]; omega⟩) (fun h1 => ⟨rfl, by symm; simp only [decide_eq_false_iff_not]; omega⟩)⟩
    rintro bb hx ⟨rfl, rfl⟩
    refine dcd (fun hgo => ?_) (fun hstop => ?_)
    · have hcb : 24 + c < (m.newest (place l.st l.n (q + j))).length := by rw [hsec]; omega
      obtain ⟨a, ha, hr⟩ := (by3.kp k4 fun a ha hh => by have := n3 _ ⟨a, ha, rfl⟩; omega).at hcb
      have e2 : Int.toNat ((24 : Int) + c) * 1 = 24 + c := by omega
      have hbl := by3.len
      have htl := hsec j
      refine ⟨(24 : Int) + c, Wr.i64 (by omega) (by omega), a, ha, by omega, by omega, _, by rw [e2]; exact hr, _, _, _, rfl, rfl, rfl, ?_⟩
      have tmp := Bk.new hx [bv (m.newest (place l.st l.n (q + j)))[24 + c]] 5
      have k5 : Kp (fun _ => False) hx (hx.push (Cel [bv (m.newest (place l.st l.n (q + j)))[24 + c]] 5)) := Kp.push (Kp.refl _ _) _
      have hbyt : Byt (hx.push (Cel [bv (m.newest (place l.st l.n (q + j)))[24 + c]] 5)) ⟨some (nA hx.size), 1, 1⟩ [(m.newest (place l.st l.n (q + j)))[24 + c]] := ⟨rfl, Nat.le_refl _, tmp.rd0⟩
      refine App.bytes (v4.kp k5 fun _ _ h => h) hbyt (by simp [hcl, hsec]; omega) fun s6 h6 v6 k6 n6 => ?_
      have hxs := (k2.trans k3).size
      have hx4 := k4.size
      have h1s := (k12.trans k3).size
      refine ⟨_, Wr.i64 (by omega) (by omega), 104 - (c + 1), by omega, c + 1, by omega, by omega, rfl, by omega, (k4.trans (k5.mono fun _ _ h => h.elim)).and k6 fun x hx => (n4 x hx).elim (fun h => .inr ⟨n14 x hx, h⟩) (fun h => .inl h), ?_, fun x hx => ?_, fun x hx => ?_⟩
      · rw [List.take_add_one, List.getElem?_drop, List.getElem?_eq_getElem hcb, Option.toList_some, ← List.append_assoc]
        exact v6
      · rcases n6 x hx with h | h
        · exact n14 x h
        · simp at h; omega
      · rcases n6 x hx with h | h
        · exact n4 x h
        · simp at h; exact .inr (by omega)
    · refine ⟨_, Wr.i64 (by omega) (by omega), needN mk.len - (j + 1), by omega, j + 1, by omega, by omega, rfl, (k2.trans k3).and k4 fun x hx => .inl (by have := k1.size; omega), (k12.trans k3).and k4 fun x hx => .inl hx.1, ?_, fun x hx => by have := n14 x hx; have := k1.size; omega, n14, fun c' hc' => ?_⟩
      · have e5 : (catP m.newest l.st l.n q (j + 1)).take mk.len = catP m.newest l.st l.n q j ++ ((m.newest (place l.st l.n (q + j))).drop 24).take c := by
          rw [catP_succ, List.take_append, hcl, List.take_of_length_le (by omega), List.take_take]
          congr 2; omega
        rw [e5]; exact v4
      · by_cases e : c' = j
        · subst e; exact hokj
        · exact ok2 c' (by omega)
  · have hjn : j = needN mk.len := by omega
    subst hjn
    have hrec := recAt_some (st := l.st) (n := l.n) (low := low) (high := high) (room := room) g1 hgood ok2
    refine ref3_get_c (a := 4) (n := 4) (by1.kp k12 fun _ _ h => h) (by omega) (by omega) (by omega) ?_
    rw [getV_lt (by omega)]
    have hrd : mk.round = fld (m.newest (place l.st l.n q)) 4 4 := by rw [(okMark_iff g1).2.2]
    rw [← hrd]
    exact hK1 _ s h2 hrec k2 v2 n2
end
end Go.Proofs.YthpeadoidpimmaaGreat
