/- The program's log: Reserve, Release, Flush. No condition. -/
import Derived.Test.YthpeadoidpimmaaLogT
import Derived.Test.YthpeadoidpimmaaGWalC
namespace Go.Proofs.Ythpeadoidpimmaa
open Go Tw
set_option linter.unusedVariables false
set_option linter.unusedSimpArgs false
set_option maxRecDepth 10000
set_option maxHeartbeats 1000000

section
variable {h h1 h2 : Hp} {o : Nat → Nat} {A : Nat → Ass} {p q : Option Addr} {m : Md} {l l' : Lg} {st n i j : Nat}

theorem wal_Reserve_none_c {k : Int} {K : Int → Hp → Prop} (hK : K 1 h) : wal_Log_Reserve none k K h :=
  ⟨fun b h' => b = true ∧ h' = h, by rintro b h' ⟨rfl, rfl⟩; exact ⟨fun _ => hK, fun h => (nomatch h)⟩, isN0 ⟨rfl, rfl⟩⟩
theorem wal_Reserve_c {k : Int} {K : Int → Hp → Prop} (w : Ow h o A) (hj : A j = Ass.log q p l) (hw : l.Wf)
    (hK : ∀ h' o', Ow h' o' (upd A j (Ass.log q p (l.reserve k).2)) → Stp (fun x => x = j) h o h' o' → K (l.reserve k).1 h') : wal_Log_Reserve q k K h := by
  obtain ⟨b, sr, rs, rfl, hp⟩ := w.log hj
  have hn4 := hw.n4
  have hnm := hw.nm
  have hro := hw.room
  refine ⟨fun c h' => c = decide (k < 0) ∧ h' = h, ?_, isN ⟨rfl, rfl⟩⟩
  rintro c h' ⟨rfl, rfl⟩
  have keep : ∀ e : Int, l.reserve k = (e, l) → ∀ hx, Kp (fun _ => False) h' hx → K e hx := fun e he hx kx => by
    rw [he] at hK
    obtain ⟨w1, s1⟩ := w.fresh j kx
    exact hK hx _ (by rw [upd_same hj]; exact w1) (s1.mono fun _ h => h.elim)
  refine dcd (fun hneg => keep 1 (by unfold Lg.reserve; rw [if_pos hneg]) _ (Kp.refl _ _)) (fun hpos => ⟨nA b, rfl, l.dead, hp.st.rdi 11 rfl, fun hd => keep 2 (by unfold Lg.reserve; rw [if_neg hpos, if_pos hd]) _ (Kp.refl _ _), fun hd => ?_⟩)
  refine wal_free_c hp.st hw fun h1 k1 => dcd (fun hgt => keep 31 (by unfold Lg.reserve; rw [if_neg hpos, if_neg (by simp [hd]), if_pos (by omega)]) _ k1) (fun hle => ?_)
  have b1 := hp.st.kp k1 fun h => h
  have e : l.reserve k = (0, { l with reserved := l.reserved + k.toNat }) := by unfold Lg.reserve; rw [if_neg hpos, if_neg (by simp [hd]), if_neg (by omega)]
  rw [e] at hK
  have hfr : l.free = l.n - 2 - (l.next - l.head.lsn) - l.reserved := rfl
  have e2 : ((l.reserved + k.toNat : Nat) : Int) = (l.reserved : Int) + k := by omega
  obtain ⟨w1, s1⟩ := w.fresh j k1
  have p1 : PLg h1 b p sr rs l (fun x => Gro o j h' x = j) := (hp.kp k1 fun _ _ _ h => h).mono fun x _ hx => by rw [Gro.old hx.2]; exact hx.1
  obtain ⟨w2, s2⟩ := w1.lset (l' := { l with reserved := l.reserved + k.toNat }) hj p1 rfl
  exact ⟨l.reserved, b1.rdi 9 rfl, ((l.reserved + k.toNat : Nat) : Int), by rw [e2]; exact Wr.i64 (by omega) (by omega), _, b1.sti 9 (.int .i64 ((l.reserved + k.toNat : Nat) : Int)) (by simp [lgC]), hK _ _ w2 ((s1.mono fun _ h => h.elim).trans s2)⟩

theorem wal_Release_none_c {k : Int} {K : Int → Hp → Prop} (hK : K 1 h) : wal_Log_Release none k K h :=
  ⟨fun b h' => b = true ∧ h' = h, by rintro b h' ⟨rfl, rfl⟩; exact ⟨fun _ => hK, fun h => (nomatch h)⟩, isN0 ⟨rfl, rfl⟩⟩
theorem wal_Release_c {k : Int} {K : Int → Hp → Prop} (w : Ow h o A) (hj : A j = Ass.log q p l) (hw : l.Wf)
    (hK : ∀ h' o', Ow h' o' (upd A j (Ass.log q p (l.release k).2)) → Stp (fun x => x = j) h o h' o' → K (l.release k).1 h') : wal_Log_Release q k K h := by
  obtain ⟨b, sr, rs, rfl, hp⟩ := w.log hj
  have hn4 := hw.n4
  have hnm := hw.nm
  have hro := hw.room
  refine ⟨fun c h' => c = decide (k < 0) ∧ h' = h, ?_, isN ⟨rfl, rfl⟩⟩
  rintro c h' ⟨rfl, rfl⟩
  have keep : ∀ e : Int, l.release k = (e, l) → K e h' := fun e he => by
    rw [he] at hK
    exact hK h' o (by rw [upd_same hj]; exact w) (Stp.refl _ _ _)
  refine dcd (fun hneg => keep 1 (by unfold Lg.release; rw [if_pos hneg])) (fun hpos => ⟨nA b, rfl, l.dead, hp.st.rdi 11 rfl, fun hd => keep 2 (by unfold Lg.release; rw [if_neg hpos, if_pos hd]), fun hd => ⟨l.reserved, hp.st.rdi 9 rfl, ?_⟩⟩)
  refine dcd (fun hgt => keep 34 (by unfold Lg.release; rw [if_neg hpos, if_neg (by simp [hd]), if_pos (by omega)])) (fun hle => ?_)
  have e : l.release k = (0, { l with reserved := l.reserved - k.toNat }) := by unfold Lg.release; rw [if_neg hpos, if_neg (by simp [hd]), if_neg (by omega)]
  rw [e] at hK
  have e2 : ((l.reserved - k.toNat : Nat) : Int) = (l.reserved : Int) - k := by omega
  obtain ⟨w2, s2⟩ := w.lset (l' := { l with reserved := l.reserved - k.toNat }) hj hp rfl
  exact ⟨l.reserved, hp.st.rdi 9 rfl, ((l.reserved - k.toNat : Nat) : Int), by rw [e2]; exact Wr.i64 (by omega) (by omega), _, hp.st.sti 9 (.int .i64 ((l.reserved - k.toNat : Nat) : Int)) (by simp [lgC]), hK _ _ w2 s2⟩

theorem wal_Flush_none_c {K : Int → Hp → Prop} (hK : K 1 h) : wal_Log_Flush none K h := isN0 hK
theorem wal_Flush_c {K : Int → Hp → Prop} (w : Ow h o A) (hi : A i = Ass.disk p m) (hj : A j = Ass.log q p l) (hij : i ≠ j)
    (hK : ∀ h' o', Ow h' o' (upd (upd A i (Ass.disk p (l.flush m).2.2)) j (Ass.log q p (l.flush m).2.1)) → Stp (fun x => x = i ∨ x = j) h o h' o' → K (l.flush m).1 h') : wal_Log_Flush q K h := by
  obtain ⟨b, sr, rs, rfl, hp⟩ := w.log hj
  have keep : ∀ e : Int, l.flush m = (e, l, m) → K e h := fun e he => by
    rw [he] at hK
    exact hK h o (by rw [upd_same hi, upd_same hj]; exact w) (Stp.refl _ _ _)
  refine isN ⟨nA b, rfl, l.dead, hp.st.rdi 11 rfl, fun hd => keep 2 (by unfold Lg.flush; rw [if_pos hd]), fun hd => ⟨l.durable, hp.st.rdi 8 rfl, l.next, hp.st.rdi 7 rfl, dcb (fun he => keep 0 (by unfold Lg.flush; rw [if_neg (by simp [hd]), if_pos (by omega)])) (fun hne => ?_)⟩⟩
  refine ⟨p, hp.st.rd2 0 0 rfl, ow_Flush w hi fun h1 w1 s1 => ?_⟩
  have e : l.flush m = if m.flush.1 = 0 then (0, { l with durable := l.next }, m.flush.2) else (m.flush.1, { l with dead := true }, m.flush.2) := by
    unfold Lg.flush; rw [if_neg (by simp [hd]), if_neg (by omega)]
  rw [e] at hK
  have hj1 : (upd A i (Ass.disk p m.flush.2)) j = Ass.log (some (nA b)) p l := by rw [upd_ne (Ne.symm hij)]; exact hj
  have p1 := PLg.own hp s1 (Ne.symm hij)
  refine wal_died_c w1 hj1 p1 (fun h0 => ?_) (fun hne h2 o2 w2 s2 => ?_)
  · rw [if_pos h0] at hK
    refine dcn (fun h => (h rfl).elim) (fun _ => ⟨l.next, p1.st.rdi 7 rfl, _, p1.st.sti 8 (.int .i64 l.next) (by simp [lgC]), ?_⟩)
    obtain ⟨w2, s2⟩ := w1.lset (l' := { l with durable := l.next }) hj1 p1 rfl
    exact hK _ _ w2 ((s1.mono fun _ h => .inl h).trans (s2.mono fun _ h => .inr h))
  · rw [if_neg hne] at hK
    exact dcn (fun _ => hK h2 o2 w2 ((s1.mono fun _ h => .inl h).trans (s2.mono fun _ h => .inr h))) (fun h => (hne h).elim)

end
end Go.Proofs.Ythpeadoidpimmaa
