/- The program's log: Records. No condition. -/
import Derived.Test.YthpeadoidpimmaaLogP
namespace Go.Proofs.Ythpeadoidpimmaa
open Go Tw
set_option linter.unusedVariables false
set_option linter.unusedSimpArgs false
set_option maxRecDepth 10000
set_option maxHeartbeats 1000000

section
variable {h h1 h2 : Hp} {o : Nat → Nat} {A : Nat → Ass} {p q : Option Addr} {m : Md} {l l' : Lg} {st n i j : Nat}

theorem zr_u8 (k : Nat) : zr [.int .u8 0] k = (List.replicate k (0 : UInt8)).map bv := by
  have := zr_zero k 1 (by omega)
  rw [List.map_replicate]
  exact this

/-- A copy in new memory. -/
theorem copy_mk {h : Hp} {s : Sl} {bs : List UInt8} (hs : Byt h s bs) :
    ∃ h2, RdS (h.push (Cel (zr [.int .u8 0] (s.len * 1)) 5)) ⟨s.p, Nat.min s.len s.len, s.cap⟩ 1 (bs.map bv) ∧ StS (h.push (Cel (zr [.int .u8 0] (s.len * 1)) 5)) (some (nA h.size)) 0 (bs.map bv) h2 ∧ Kp (fun _ => False) h h2 ∧
      Bk h2 h.size (bs.map bv) 5 ∧ Byt h2 ⟨some (nA h.size), s.len, s.len⟩ bs ∧ Vec h2 ⟨some (nA h.size), s.len, s.len⟩ 1 5 (bs.map bv) ∧ h2.size = h.size + 1 := by
  have hb := Bk.new h (zr [.int .u8 0] (s.len * 1)) 5
  have hk : Kp (fun _ => False) h (h.push (Cel (zr [.int .u8 0] (s.len * 1)) 5)) := Kp.push (Kp.refl _ _) _
  have hl := hs.len
  have hst := hb.st0 (vs := bs.map bv) (by rw [zr_len]; simp; omega)
  have hset : Bk (setB (h.push (Cel (zr [.int .u8 0] (s.len * 1)) 5)) h.size (Cel (bs.map bv) 5)) h.size (bs.map bv) 5 := hb.set
  refine ⟨setB (h.push (Cel (zr [.int .u8 0] (s.len * 1)) 5)) h.size (Cel (bs.map bv) 5), ?_, ?_, hk.set _ (.inl (Nat.le_refl _)), hset, ?_, ?_, by rw [size_set]; simp⟩
  · exact Byt.min (hs.kp hk fun _ _ h => h) (by omega)
  · show StL _ ((nA h.size).add 0) _ _
    rw [add_zero']; exact hst
  · exact ⟨hl, Nat.le_refl _, hset.rd0⟩
  · exact ⟨by simp [hl], Nat.le_refl _, rfl, _, hset, by simp [hl], by simp only [List.drop_zero]; exact List.take_of_length_le (by simp [hl])⟩

/-! ### Records -/
def rcE (x : Rec × Sl) : List Value := [.int .i64 x.1.lsn, .int .i64 x.1.kind, x.2.v]
/-- Records that were handed out. -/
structure RcL (h : Hp) (s : Sl) (rs : List (Rec × Sl)) (G : Nat → Prop) : Prop where
  vec : Vec h s 3 99 (rs.flatMap rcE)
  dat : ∀ x ∈ rs, Byt h x.2 x.1.data
  fs : ∀ y, s.blk y → G y
  fd : ∀ x ∈ rs, ∀ y, x.2.blk y → G y ∧ ¬ s.blk y ∧ y < h.size

theorem RcL.nil (h : Hp) (G : Nat → Prop) : RcL h Sl.nil [] G := ⟨Vec.nil _ _ _, (fun x hx => (nomatch hx)), (by rintro y ⟨a, ha, _⟩; cases ha), fun x hx => (nomatch hx)⟩

def Lg.records (l : Lg) : List Rec := if l.dead then [] else l.recs

theorem wal_Records_none_c {K : Sl → Hp → Prop} (hK : K Sl.nil h) : wal_Log_Records none K h :=
  ⟨fun b h' => b = true ∧ h' = h, by rintro b h' ⟨rfl, rfl⟩; exact ⟨fun _ => hK, fun h => (nomatch h)⟩, isN0 ⟨rfl, rfl⟩⟩

theorem wal_Records_c {K : Sl → Hp → Prop} (w : Ow h o A) (hj : A j = Ass.log q p l) (hw : l.Wf)
    (hK : ∀ s rs h', Kp (fun _ => False) h h' → RcL h' s rs (fun x => h.size ≤ x) → rs.map (·.1) = (Lg.records l) → K s h') : wal_Log_Records q K h := by
  obtain ⟨b, sr, rs, rfl, hp⟩ := w.log hj
  have hcle := Chain.le hw.ch
  have hroom := hw.room
  have hnm := hw.nm
  have hlen := hp.len
  have hrlen := hp.rlen
  refine ⟨fun c hx => hx = h ∧ c = l.dead, ?_, isN ⟨nA b, rfl, l.dead, hp.st.rdi 11 rfl, rfl, rfl⟩⟩
  rintro c hx ⟨rfl, rfl⟩
  refine ⟨fun hd => hK Sl.nil [] hx (Kp.refl _ _) (RcL.nil _ _) (by unfold Lg.records; rw [if_pos hd]; rfl), fun hd => ?_⟩
  have erec : Lg.records l = l.recs := by unfold Lg.records; rw [if_neg (by simp [hd])]
  rw [erec] at hK
  refine ⟨nA b, rfl, sr, hp.st.rdi 10 rfl, by omega, by omega, by omega, _, _, _, rfl, rfl, rfl, sr, (hp.st.push _).rdi 10 rfl, ?_⟩
  have kz : Kp (fun _ => False) hx (hx.push (Cel (zr [.int .i64 0, .int .i64 0, .slice none 0 0] (Int.toNat (sr.len : Int) * 3)) 99)) := Kp.push (Kp.refl _ _) _
  refine ⟨fun k s i hy => ∃ (c : Nat) (os : List (Rec × Sl)), i = c ∧ c ≤ l.recs.length ∧ k = l.recs.length - c ∧ Kp (fun _ => False) hx hy ∧ RcL hy s os (fun x => hx.size ≤ x) ∧ os.map (·.1) = l.recs.take c,
    ⟨_, 0, [], rfl, by omega, rfl, kz, ⟨?_, (fun x hx => (nomatch hx)), ?_, fun x hx => (nomatch hx)⟩, rfl⟩, ?_⟩
  · refine Vec.mk0 _ _ _ _ _ _ _ (by rw [zr_len]) (Nat.zero_le _) ?_
    simp
  · rintro y ⟨a, ha, rfl⟩; cases ha; exact Nat.le_refl _
  rintro k s i h3 ⟨c, os, rfl, hc, rfl, k3, r3, hos⟩
  have p3 := hp.kp k3 fun _ _ _ h => h
  have hosl : os.length = c := by have := congrArg List.length hos; simp at this; omega
  refine dcd (fun hlt => ?_) (fun hge => ?_)
  · have hc' : c < l.recs.length := by omega
    obtain ⟨x, hx1⟩ : ∃ x, rs[c]? = some x := ⟨rs[c]'(by omega), by rw [List.getElem?_eq_getElem]⟩
    have hxm := List.mem_of_getElem? hx1
    have hx2 : l.recs[c]? = some x.1 := by rw [← hp.rl, List.getElem?_map, hx1]; rfl
    obtain ⟨a, ha, hr⟩ := p3.at_ hx1
    have hxl := (hw.rl x.1 (List.mem_of_getElem? hx2)).1
    have hb := Bk.new h3 [.int .i64 0, .int .i64 0, .slice none 0 0, .int .i64 0] 184
    have k4 : Kp (fun _ => False) h3 (setB (h3.push (Cel [.int .i64 0, .int .i64 0, .slice none 0 0, .int .i64 0] 184)) h3.size (Cel (recE x) 184)) := Kp.set (F := fun _ => False) (Kp.push (Kp.refl _ _) _) _ (.inl (Nat.le_refl _))
    have hb4 : Bk (setB (h3.push (Cel [.int .i64 0, .int .i64 0, .slice none 0 0, .int .i64 0] 184)) h3.size (Cel (recE x) 184)) h3.size (recE x) 184 := hb.set
    refine ⟨a, ha, by omega, by omega, x.1.lsn, x.1.kind, x.2, x.1.round, by rw [Int.toNat_natCast]; exact hr, _, _, rfl, rfl, _, hb.st0 (vs := recE x) rfl, x.2, hb4.rd2 0 2 rfl, ?_⟩
    have x4 := (p3.dat x hxm).kp k4 fun _ _ h => h
    have h4s : (setB (h3.push (Cel [.int .i64 0, .int .i64 0, .slice none 0 0, .int .i64 0] 184)) h3.size (Cel (recE x) 184)).size = h3.size + 1 := by rw [size_set]; simp
    generalize setB (h3.push (Cel [.int .i64 0, .int .i64 0, .slice none 0 0, .int .i64 0] 184)) h3.size (Cel (recE x) 184) = h4 at *
    have hxlen := x4.len
    obtain ⟨h5, r5, st5, k5, bk5, by5, vec5, sz5⟩ := copy_mk x4
    have hb5 := hb4.kp k5 fun h => h
    refine ⟨by omega, by omega, by omega, _, _, _, rfl, rfl, rfl, x.2, ?_, x.1.data.map bv, h5, _, ?_, oneC_bytes _, ?_, rfl, x.1.lsn, hb5.rd2 0 0 rfl, x.1.kind, hb5.rd2 0 1 rfl, _, _, _, rfl, rfl, rfl, ?_⟩
    · rw [Int.toNat_natCast]; exact (hb4.push _).rd2 0 2 rfl
    · rw [Int.toNat_natCast]; exact r5
    · rw [Int.toNat_natCast]; exact st5
    rw [Int.toNat_natCast]
    let e : Rec × Sl := (x.1, ⟨some (nA h4.size), x.2.len, x.2.len⟩)
    have tmp := Bk.new h5 (rcE e) 99
    have k6 : Kp (fun _ => False) h5 (h5.push (Cel (rcE e) 99)) := Kp.push (Kp.refl _ _) _
    have k36 := (k4.trans k5).trans k6
    have h3s := k3.size
    have v6 := r3.vec.kp k36 fun _ _ h => h
    have hone : oneC (rcE e) := by
      intro v hv
      simp only [rcE, List.mem_cons, List.not_mem_nil, or_false] at hv
      rcases hv with rfl | rfl | rfl <;> rfl
    have hsl : s.len = os.length := by
      have := r3.vec.len
      rw [flat_len rcE 3 os fun _ _ => rfl] at this
      omega
    refine v6.app (news := rcE e) ⟨rfl, tmp.rd0⟩ hone (by show (s.len + 1) * 40 ≤ _; omega) fun s' h7 hv7 hl7 k7 hn7 => ?_
    have s6s : (h5.push (Cel (rcE e) 99)).size = h5.size + 1 := by simp
    refine ⟨_, Wr.i64 (by omega) (by omega), l.recs.length - (c + 1), by omega, c + 1, os ++ [e], by omega, by omega, rfl, (k3.trans k36).and k7 fun y hy => .inl (r3.fs y hy), ⟨?_, fun y hy => ?_, fun y hy => ?_, fun y hy z hz => ?_⟩, ?_⟩
    · rw [List.flatMap_append]
      have : [e].flatMap rcE = rcE e := by simp
      rw [this]; exact hv7
    · rcases List.mem_append.1 hy with hy | hy
      · exact ((r3.dat y hy).kp k36 fun _ _ h => h).kp k7 fun a ha => (r3.fd y hy _ ⟨a, ha, rfl⟩).2.1
      · simp at hy; subst hy
        refine (by5.kp k6 fun _ _ h => h).kp k7 fun a ha hbk => ?_
        cases ha
        have h1 : h4.size < h3.size := r3.vec.lt hbk
        omega
    · rcases hn7 y hy with h1 | h1
      · exact r3.fs y h1
      · omega
    · rcases List.mem_append.1 hy with hy | hy
      · have h1 := r3.fd y hy z hz
        have k7s := k7.size
        have k36s := k36.size
        exact ⟨h1.1, fun hbk => (hn7 z hbk).elim h1.2.1 fun e => by omega, by omega⟩
      · simp at hy; subst hy
        obtain ⟨a, ha, rfl⟩ := hz
        cases ha
        have k7s := k7.size
        refine ⟨by show hx.size ≤ h4.size; omega, fun hbk => ?_, by show h4.size < h7.size; omega⟩
        have hbk' : s'.blk h4.size := hbk
        rcases hn7 _ hbk' with h1 | h1
        · have := r3.vec.lt h1; omega
        · omega
    · rw [List.map_append, hos, List.take_add_one, hx2]; rfl
  · have hcl : c = l.recs.length := by omega
    rw [hcl, List.take_length] at hos
    exact hK s os h3 k3 r3 hos
end
end Go.Proofs.Ythpeadoidpimmaa
