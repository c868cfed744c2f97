/- trellislaw2's outright statements on one disk: helpers. No condition. -/
import Derived.Test.YthpeadoidpimmaaLawD
namespace Go.Proofs.Ythpeadoidpimmaa
open Go Tw
set_option linter.unusedVariables false
set_option linter.unusedSimpArgs false
set_option maxRecDepth 10000

/-- One disk among other things: the disk is 1's. -/
structure OneR (n0 : Nat) (h0 h : Hp) (p : Option Addr) (m : Md) (o : Nat → Nat) : Prop where
  d : PD h p m (fun x => o x = 1)
  ok : Ok n0 h0 h o

section
variable {n0 : Nat} {h0 h h' : Hp} {p : Option Addr} {m m' : Md} {o : Nat → Nat}

/-- The others' own things (5) may turn; what is new is theirs. -/
theorem OneR.else_ {G : Nat → Prop} (s : OneR n0 h0 h p m o) (hk : Kp G h h') (hG : ∀ x, G x → o x = 5) : OneR n0 h0 h' p m (Gro o 5 h) :=
  ⟨PDo.other (m := some m) s.d hk fun x hx hg => by have := hG x hg; omega, s.ok.go 5 hk fun x hx => by have := hG x hx; omega⟩
theorem OneR.same (s : OneR n0 h0 h p m o) (hk : Kp (fun _ => False) h h') : OneR n0 h0 h' p m (Gro o 5 h) := s.else_ hk fun _ h => h.elim
theorem OneR.go (s : OneR n0 h0 h p m o) (hk : Kp (fun x => o x = 1) h h') (hd : PD h' p m' (fun x => o x = 1 ∨ h.size ≤ x)) : OneR n0 h0 h' p m' (Gro o 1 h) :=
  ⟨PDo.self (m := some m') hd, s.ok.go 1 hk fun x hx => by omega⟩
/-- The very same owners. -/
theorem OneR.kp0 (s : OneR n0 h0 h p m o) (hk : Kp (fun _ => False) h h') : OneR n0 h0 h' p m (Gro o 5 h) := s.same hk

theorem one_read {at_ : Int} {K : Sl → Int → Hp → Prop} (s : OneR n0 h0 h p m o)
    (hK : ∀ x h', Kp (fun _ => False) h h' → Vec h' x 1 5 ((m.read at_).1.map bv) → (∀ y, x.blk y → h.size ≤ y) → K x (m.read at_).2 h') : disk_Disk_Read p at_ K h := by
  obtain ⟨b, bl, r, sp, rfl, p⟩ := s.d
  exact disk_Read_i p hK
theorem one_write {at_ : Int} {x : Sl} {data : List UInt8} {K : Int → Hp → Prop} (s : OneR n0 h0 h p m o) (hx : Byt h x data) (hx1 : ∀ a, x.p = some a → data ≠ [] → o a.block ≠ 1) (hcap : m.pend.length ≤ 1000000000000)
    (hK : ∀ h', Kp (fun x => o x = 1) h h' → OneR n0 h0 h' p (m.write at_ data).2 (Gro o 1 h) → K (m.write at_ data).1 h') : disk_Disk_Write p at_ x K h := by
  obtain ⟨b, bl, r, sp, rfl, q⟩ := s.d
  exact disk_Write_i q hx hx1 (by omega) fun h' sp' hk p' => hK h' hk (s.go hk ⟨b, bl, r, sp', rfl, p'⟩)
theorem one_flush {K : Int → Hp → Prop} (s : OneR n0 h0 h p m o)
    (hK : ∀ h', Kp (fun x => o x = 1) h h' → OneR n0 h0 h' p m.flush.2 (Gro o 1 h) → K m.flush.1 h') : disk_Disk_Flush p K h := by
  obtain ⟨b, bl, r, sp, rfl, q⟩ := s.d
  exact disk_Flush_i q fun h' sp' hk p' => hK h' hk (s.go hk ⟨b, bl, r, sp', rfl, p'⟩)
theorem one_cut {a : Int} {K : Int → Hp → Prop} (s : OneR n0 h0 h p m o)
    (hK : ∀ h', Kp (fun x => o x = 1) h h' → OneR n0 h0 h' p (m.cut a).2 (Gro o 1 h) → K (m.cut a).1 h') : disk_Disk_Cut p a K h := by
  obtain ⟨b, bl, r, sp, rfl, q⟩ := s.d
  refine disk_Cut_i q fun h' hk p' => ?_
  have hk' : Kp (fun x => o x = 1) h h' := hk.mono fun x _ e => by subst e; exact q.fb
  exact hK h' hk' (s.go hk' ⟨b, bl, r, sp, rfl, p'.mono fun _ _ h => .inl h⟩)
theorem one_crash {x : Sl} {keep : List Bool} {K : Int → Int → Hp → Prop} (s : OneR n0 h0 h p m o) (hx : Bls h x keep) (hx1 : ∀ a, x.p = some a → keep ≠ [] → o a.block ≠ 1) (hcap : m.pend.length ≤ 1000000000000)
    (hK : ∀ h', Kp (fun x => o x = 1) h h' → OneR n0 h0 h' p (m.crash keep).2 (Gro o 1 h) → K (m.crash keep).1 0 h') : disk_Disk_Crash p x K h := by
  obtain ⟨b, bl, r, sp, rfl, q⟩ := s.d
  exact disk_Crash_i q hx hx1 (by omega) fun h' sp' hk p' => hK h' hk (s.go hk ⟨b, bl, r, sp', rfl, p'⟩)
theorem one_stat {K : Int → Int → Int → Bool → Hp → Prop} (s : OneR n0 h0 h p m o) (hK : ∀ h', Kp (fun _ => False) h h' → K m.writes m.flushes (m.pend.length : Int) m.down h') : disk_Disk_Stat p K h := by
  obtain ⟨b, bl, r, sp, rfl, q⟩ := s.d
  exact disk_Stat_i q hK
theorem one_image {K : Sl → Hp → Prop} (s : OneR n0 h0 h p m o)
    (hK : ∀ x h', Kp (fun _ => False) h h' → Vec h' x 1 5 ((m.laid.flatMap fun s => s).map bv) → (∀ y, x.blk y → h.size ≤ y) → K x h') : disk_Disk_Image p K h := by
  obtain ⟨b, bl, r, sp, rfl, q⟩ := s.d
  exact disk_Image_i q hK

/-- sizes: a disk just where there is one. -/
theorem law2_sizes_c {n : Int} {K : Option Addr → Bool → Bool → Hp → Prop} (hbad : n < 1 ∨ 4096 < n → K none true false h)
    (hK : 1 ≤ n → n ≤ 4096 → ∀ h' p o, OneR h.size h h' p (Md.new n.toNat) o → (∀ x, x < h.size → o x = 0) → K p true true h') : law2_sizes n K h := by
  refine disk_New_c (fun hb => ?_) fun h1 h2 h' b bl r hk p => ?_
  · refine ⟨fun bb h' => bb = true ∧ h' = h, ?_, dcd (fun _ => ⟨rfl, rfl⟩) (fun hn => ⟨by simp; omega, rfl⟩)⟩
    rintro bb h' ⟨rfl, rfl⟩
    exact ⟨fun _ => isN0 (hbad hb), fun h => (nomatch h)⟩
  · refine ⟨fun bb h2 => bb = false ∧ h2 = h', ?_, dcd (fun hn => by omega) (fun hn => ⟨by simp; omega, rfl⟩)⟩
    rintro bb h3 ⟨rfl, rfl⟩
    refine ⟨fun h => (nomatch h), fun _ => ⟨fun _ => ?_, fun h => by simp at h⟩⟩
    have hs : OneR h.size h h3 (some (nA b)) (Md.new n.toNat) (fun x => if x < h.size then 0 else 1) :=
      ⟨⟨b, bl, r, Sl.nil, rfl, p.mono fun x _ hx => by simp; omega⟩, ⟨hk.size, fun x hx => by simp [hx], hk, rfl⟩⟩
    exact hK h1 h2 h3 _ _ hs fun x hx => by simp [hx]

/-- What filled writes. -/
def fillB (f : UInt8) : List UInt8 := (List.range 128).map fun i => f + UInt8.ofNat (3 * i)
theorem fillB_len (f : UInt8) : (fillB f).length = 128 := by simp [fillB]
theorem fillB_get (f : UInt8) (i : Nat) (hi : i < 128) : (fillB f)[i]? = some (f + UInt8.ofNat (3 * i)) := by simp [fillB, hi]

theorem law2_filled_c {f : UInt8} {K : Sl → Hp → Prop} (hK : ∀ s' h', Kp (fun _ => False) h h' → Vec h' s' 1 5 ((fillB f).map bv) → (∀ x, s'.blk x → h.size ≤ x) → K s' h') : law2_filled (f.toNat : Int) K h := by
  have hk0 : Kp (fun _ => False) h (h.push (Cel (zr [.int .u8 0] (Int.toNat 128 * 1)) 5)) := Kp.push (Kp.refl _ _) _
  have hz : zr [.int .u8 0] (Int.toNat 128 * 1) = (List.replicate 128 (0 : UInt8)).map bv := by
    have := zr_zero 128 1 (by omega)
    rw [List.map_replicate]
    exact this
  have hb0 := Bk.new h (zr [.int .u8 0] (Int.toNat 128 * 1)) 5
  refine ⟨by omega, by omega, by omega, _, _, _, rfl, rfl, rfl, fun k i h1 => ∃ j : Nat, i = j ∧ j ≤ 128 ∧ k = 128 - j ∧ Kp (fun _ => False) h h1 ∧ ∃ cs : List UInt8, cs.length = 128 ∧ (∀ q, q < j → cs[q]? = (fillB f)[q]?) ∧ Bk h1 h.size (cs.map bv) 5,
    ⟨_, 0, rfl, by omega, rfl, hk0, List.replicate 128 0, by simp, fun q hq => by omega, by rw [← hz]; exact hb0⟩, ?_⟩
  rintro k i h1 ⟨j, rfl, hj, rfl, hk1, cs, hcl, hcs, hb1⟩
  refine dcd (fun hlt => ?_) (fun hge => ?_)
  · have hlt' : j < 128 := by omega
    refine ⟨_, Wr.i64 (by omega) (by omega), _, rfl, _, rfl, _, rfl, by omega, by show (j : Int) < 128; omega, _, hb1.sti _ _ (by simp; omega), _, Wr.i64 (by omega) (by omega), 128 - (j + 1), by omega, j + 1, by omega, by omega, rfl,
      hk1.set _ (.inl (Nat.le_refl _)), cs.set j (f + UInt8.ofNat (3 * j)), by simp [hcl], ?_, ?_⟩
    · intro q hq
      rw [List.getElem?_set]
      by_cases hqj : j = q
      · subst hqj
        rw [if_pos rfl, if_pos (by omega), fillB_get _ _ hlt']
      · rw [if_neg hqj]; exact hcs q (by omega)
    · have e : (.int .u8 (IntKind.u8.wrap ((f.toNat : Int) + IntKind.u8.wrap (3 * (j : Int)))) : Value) = bv (f + UInt8.ofNat (3 * j)) := by
        simp only [bv, Value.int.injEq, true_and]
        rw [wrap_u8, wrap_u8, UInt8.toNat_add, UInt8.toNat_ofNat']
        omega
      rw [e, Int.toNat_natCast, Nat.mul_one, ← List.map_set]
      exact hb1.set
  · have hj8 : j = 128 := by omega
    subst hj8
    have hce : cs = fillB f := by
      apply List.ext_getElem?
      intro q
      by_cases hq : q < 128
      · exact hcs q hq
      · rw [List.getElem?_eq_none (by omega), List.getElem?_eq_none (by rw [fillB_len]; omega)]
    subst hce
    refine hK _ h1 hk1 ⟨by simp [fillB_len], Nat.le_refl _, rfl, _, hb1, by simp [fillB_len], ?_⟩ ?_
    · simp only [List.drop_zero]
      exact List.take_of_length_le (by simp [fillB_len])
    · rintro x ⟨a, ha, rfl⟩; cases ha; exact Nat.le_refl _
end
end Go.Proofs.Ythpeadoidpimmaa
