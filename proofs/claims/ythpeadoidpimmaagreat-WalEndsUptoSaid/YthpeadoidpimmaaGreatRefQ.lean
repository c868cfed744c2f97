/- The document's log: Cut. No condition. -/
import Derived.Test.YthpeadoidpimmaaGreatRefP
import Derived.Test.YthpeadoidpimmaaGreatLogQ
namespace Tw
open Go
set_option linter.unusedVariables false
theorem Chain.mono : ∀ {rs : List Rec} {p q i j : Nat} {x y : Rec}, Chain rs p q → rs[i]? = some x → rs[j]? = some y → i < j → x.lsn < y.lsn
  | [], p, q, i, j, x, y, h, hi, hj, hij => by simp at hi
  | z :: r, p, q, 0, j + 1, x, y, h, hi, hj, hij => by
    simp at hi; subst hi
    have := needN_pos z.data.length
    have := Chain.low h.2 y (List.mem_of_getElem? (by simpa using hj))
    have := h.1
    omega
  | z :: r, p, q, i + 1, j + 1, x, y, h, hi, hj, hij => Chain.mono h.2 (by simpa using hi) (by simpa using hj) (by omega)
theorem goneN_at : ∀ {rs : List Rec} {k i : Nat}, goneN rs k = some i → ∃ x, rs[i]? = some x ∧ x.lsn = k
  | [], k, i, h => by simp [goneN] at h
  | y :: r, k, i, h => by
    unfold goneN at h
    split at h
    · rename_i hy; simp at h; subst h; exact ⟨y, rfl, hy⟩
    · rw [Option.map_eq_some_iff] at h
      obtain ⟨j, hj, rfl⟩ := h
      obtain ⟨x, hx, hxl⟩ := goneN_at hj
      exact ⟨x, by simpa using hx, hxl⟩
theorem gone_iff {l : Lg} {lsn : Int} {k : Nat} (hw : l.Wf) (hg : l.gone lsn = some k) : ∀ i x, l.recs[i]? = some x → (((x.lsn : Int) = lsn ↔ i = k) ∧ (lsn ≤ x.lsn ↔ k ≤ i)) := by
  intro i x hx
  have hlo := hw.lo
  have hmo := @Chain.mono l.recs l.head.lsn l.next
  unfold Lg.gone at hg
  split at hg
  · cases hg
  · rename_i hh
    split at hg
    · rename_i j hj
      cases hg
      obtain ⟨y, hy, hyl⟩ := goneN_at hj
      rcases Nat.lt_trichotomy i k with h1 | h1 | h1
      · have := hmo hw.ch hx hy h1
        exact ⟨⟨fun h => by omega, fun h => by omega⟩, ⟨fun h => by omega, fun h => by omega⟩⟩
      · subst h1
        rw [hx] at hy; cases hy
        exact ⟨⟨fun _ => rfl, fun _ => by omega⟩, ⟨fun _ => Nat.le_refl _, fun _ => by omega⟩⟩
      · have := hmo hw.ch hy hx h1
        exact ⟨⟨fun h => by omega, fun h => by omega⟩, ⟨fun h => by omega, fun h => by omega⟩⟩
    · split at hg
      · rename_i he
        cases hg
        have h1 := (List.getElem?_eq_some_iff.1 hx).1
        have h2 := Chain.low hw.ch x (List.mem_of_getElem? hx)
        exact ⟨⟨fun h => by omega, fun h => by omega⟩, ⟨fun h => by omega, fun h => by omega⟩⟩
      · cases hg
end Tw
namespace Go.Proofs.YthpeadoidpimmaaGreat
open Go Tw
set_option linter.unusedVariables false
set_option linter.unusedSimpArgs false
set_option maxRecDepth 10000
set_option maxHeartbeats 1000000

section
variable {h h1 h2 : Hp} {o : Nat → Nat} {A : Nat → Ass} {p q : Option Addr} {m : Md} {l l' : Lg} {st n i j : Nat}

theorem ref3_begins_c {b : Nat} {sr sv : Sl} {rs : List (Rec × Sl)} {rv : List Nat} {F : Nat → Prop} {lsn : Nat} {K : Bool → Hp → Prop} (hp : RLg h b p sr sv rs rv l F) (hlen : l.recs.length ≤ 100000)
    (hK : K (decide ((goneN l.recs lsn).isSome = true ∨ lsn = l.next)) h) : ref3_Log_begins (some (nA b)) lsn K h := by
  have hsl := hp.len
  have hrl := hp.rlen
  refine ⟨fun k i hy => ∃ c : Nat, i = c ∧ c ≤ l.recs.length ∧ k = l.recs.length - c ∧ hy = h ∧ ∀ (i : Nat) (y : Rec), i < c → l.recs[i]? = some y → y.lsn ≠ lsn, ⟨_, 0, rfl, by omega, rfl, rfl, fun i y hi => by omega⟩, ?_⟩
  rintro k i hy ⟨c, rfl, hc, rfl, rfl, hn⟩
  refine ⟨nA b, rfl, sr, hp.st.rdi 10 rfl, dcd (fun hlt => ?_) (fun hge => ?_)⟩
  · have hc' : c < l.recs.length := by omega
    obtain ⟨x, hx1⟩ : ∃ x, rs[c]? = some x := ⟨rs[c]'(by omega), by rw [List.getElem?_eq_getElem]⟩
    have hx2 : l.recs[c]? = some x.1 := by rw [← hp.rl, List.getElem?_map, hx1]; rfl
    obtain ⟨a, ha, hr⟩ := hp.at_ hx1
    refine ⟨sr, hp.st.rdi 10 rfl, a, ha, by omega, by omega, x.1.lsn, by rw [Int.toNat_natCast]; exact hr 0 _ rfl, dcb (fun he => ?_) (fun hne => ?_)⟩
    · have : decide ((goneN l.recs lsn).isSome = true ∨ lsn = l.next) = true := by
        rw [goneN_found hn hx2 (by omega)]; simp
      rw [this] at hK; exact hK
    · refine ⟨_, Wr.i64 (by omega) (by omega), l.recs.length - (c + 1), by omega, c + 1, by omega, by omega, rfl, rfl, fun i y hi hy => ?_⟩
      by_cases e : i = c
      · subst e; rw [hx2] at hy; cases hy; omega
      · exact hn i y (by omega) hy
  · have hno := goneN_none (rs := l.recs) (k := lsn) fun i y hy => hn i y (by have := (List.getElem?_eq_some_iff.1 hy).1; omega) hy
    refine ⟨l.next, hp.st.rdi 7 rfl, ?_⟩
    have : ((lsn : Int) == (l.next : Int)) = decide ((goneN l.recs lsn).isSome = true ∨ lsn = l.next) := by
      rw [hno, Bool.eq_iff_iff]; simp; omega
    rw [this]; exact hK

theorem ref3_Cut_none_c {k : Int} {K : Int → Hp → Prop} (hK : K 1 h) : ref3_Log_Cut none k K h := isN0 hK

theorem ref3_Cut_c {lsn : Int} {K : Int → Hp → Prop} (w : Ow h o A) (hi : A i = Ass.rdisk p m) (hj : A j = Ass.rlog q p l) (hij : i ≠ j) (hw : l.Wf) (hcap : m.pend.length < 1000000000000)
    (hK : ∀ h' o', Ow h' o' (upd (upd A i (Ass.rdisk p (l.cut m lsn).2.2)) j (Ass.rlog q p (l.cut m lsn).2.1)) → Stp (fun x => x = i ∨ x = j) h o h' o' → K (l.cut m lsn).1 h') : ref3_Log_Cut q lsn K h := by
  obtain ⟨b, sr, sv, rs, rfl, hp⟩ := w.rlog hj
  have hnm := hw.nm
  have htn := hw.tn
  have hrd := hw.rd
  have hlen := hp.len
  have hlv := hp.lenv
  have hrlen := hp.rlen
  have hnx := hw.nx
  have hdu := hw.du
  have hlo := hw.lo
  have hcle := Chain.le hw.ch
  have hroom := hw.room
  simp only [List.length_map] at hlv
  have keep : ∀ e : Int, l.cut m lsn = (e, l, m) → K e h := fun e he => by
    rw [he] at hK
    exact hK h o (by rw [upd_same hi, upd_same hj]; exact w) (Stp.refl _ _ _)
  refine isN ⟨nA b, rfl, l.dead, hp.st.rdi 12 rfl, fun hd => keep 2 (by unfold Lg.cut; rw [if_pos hd]), fun hd => ?_⟩
  have hd' : ¬ l.dead = true := by simp [hd]
  refine ⟨fun c hx => hx = h ∧ c = (l.gone lsn).isNone, ?_, l.head.lsn, hp.st.rdi 5 rfl, dcd (fun h1 => ⟨rfl, by unfold Lg.gone; rw [if_pos (.inl h1)]; rfl⟩) (fun h1 => ⟨l.durable, hp.st.rdi 8 rfl, dcd (fun h2 => ⟨rfl, by unfold Lg.gone; rw [if_pos (.inr h2)]; rfl⟩) (fun h2 => ?_)⟩)⟩
  · rintro c hx ⟨rfl, rfl⟩
    cases hg : l.gone lsn with
    | none => exact ⟨fun _ => keep 33 (by unfold Lg.cut; rw [if_neg hd', hg]), fun h => (nomatch h)⟩
    | some k =>
      refine ⟨fun h => (nomatch h), fun _ => ?_⟩
      obtain ⟨hkl, hl1, hl2, hch⟩ := gone_le hw hg
      have hiff := gone_iff hw hg
      refine ⟨l.head.lsn, hp.st.rdi 5 rfl, dcb (fun he => keep 0 (by unfold Lg.cut; rw [if_neg hd', hg]; simp only; rw [if_pos he])) (fun hne => ?_)⟩
      refine ⟨fun c hy => hy = hx ∧ c = decide (l.head.turn = 1099511627776 ∨ 1099511627776 < lsn), ?_, l.head.turn, hp.st.rdi 4 rfl, dcb (fun ht => ⟨rfl, by symm; simp only [decide_eq_true_eq]; omega⟩) (fun ht => ⟨rfl, by rw [Bool.eq_iff_iff]; simp only [decide_eq_true_eq]; omega⟩)⟩
      rintro c hy ⟨rfl, rfl⟩
      refine dcd (fun hbad => keep 31 (by unfold Lg.cut; rw [if_neg hd', hg]; simp only; rw [if_neg hne, if_pos hbad])) (fun hgood => ?_)
      obtain ⟨ln, rfl⟩ := Int.eq_ofNat_of_zero_le (show 0 ≤ lsn by omega)
      let fl : Nat := ((l.recs[k]?).map (·.round)).getD l.head.round
      let hn : Hd := ⟨l.head.round, ln, l.head.turn + 1, fl⟩
      have hcut : l.cut m ln = (let y := runs m (layA l.st l.n hn); if y.1 = 0 then (0, { l with head := hn, recs := l.recs.drop k, durable := l.next }, y.2) else (y.1, { l with dead := true }, y.2)) := by
        unfold Lg.cut; rw [if_neg hd', hg]; simp only; rw [if_neg hne, if_neg hgood]; rfl
      rw [hcut] at hK
      simp only at hK
      have hflr : fl ≤ 2147483647 := by
        show ((l.recs[k]?).map (·.round)).getD l.head.round ≤ _
        cases hrk : l.recs[k]? with
        | none => simp; omega
        | some y => have := (hw.rl y (List.mem_of_getElem? hrk)).2.2; simp; omega
      -- the floor
      refine ⟨l.head.round, hp.st.rdi 3 rfl, fun mm fo ci hz => ∃ c : Nat, ci = c ∧ c ≤ l.recs.length ∧ mm = l.recs.length - c ∧ hz = hy ∧ fo = ((if k < c then fl else l.head.round : Nat) : Int), ⟨_, 0, rfl, by omega, rfl, rfl, by rw [if_neg (by omega)]⟩, ?_⟩
      rintro mm fo ci hz ⟨c, rfl, hc, rfl, rfl, rfl⟩
      refine ⟨sr, hp.st.rdi 10 rfl, dcd (fun hlt => ?_) (fun hge => ?_)⟩
      · have hc' : c < l.recs.length := by omega
        obtain ⟨x, hx1⟩ : ∃ x, rs[c]? = some x := ⟨rs[c]'(by omega), by rw [List.getElem?_eq_getElem]⟩
        have hx2 : l.recs[c]? = some x.1 := by rw [← hp.rl, List.getElem?_map, hx1]; rfl
        have hi2 := hiff c x.1 hx2
        obtain ⟨a, ha, hr⟩ := hp.at_ hx1
        refine ⟨fun f2 hu => hu = hz ∧ f2 = ((if k < c + 1 then fl else l.head.round : Nat) : Int), ?_, sr, hp.st.rdi 10 rfl, a, ha, by omega, by omega, x.1.lsn, by rw [Int.toNat_natCast]; exact hr 0 _ rfl, dcb (fun he => ?_) (fun hne2 => ⟨rfl, ?_⟩)⟩
        · rintro f2 hu ⟨rfl, rfl⟩
          exact ⟨_, Wr.i64 (by omega) (by omega), l.recs.length - (c + 1), by omega, c + 1, by omega, by omega, rfl, rfl, rfl⟩
        · have hck := hi2.1.1 he
          subst hck
          have hrv : (l.recs.map (·.round))[c]? = some x.1.round := by rw [List.getElem?_map, hx2]; rfl
          obtain ⟨a2, ha2, hr2⟩ := hp.atv hrv
          refine ⟨sv, hp.st.rdi 11 rfl, a2, ha2, by omega, by omega, (x.1.round : Nat), by rw [Int.toNat_natCast]; exact hr2, rfl, ?_⟩
          rw [if_pos (by omega)]
          show ((x.1.round : Nat) : Int) = ((((l.recs[c]?).map (·.round)).getD l.head.round : Nat) : Int)
          rw [hx2]; rfl
        · have hck : c ≠ k := fun e => hne2 (hi2.1.2 e)
          by_cases h1 : k < c
          · rw [if_pos h1, if_pos (by omega)]
          · rw [if_neg h1, if_neg (by omega)]
      · have hcl : c = l.recs.length := by omega
        subst hcl
        have efl : (if k < l.recs.length then fl else l.head.round : Nat) = fl := by
          by_cases h1 : k < l.recs.length
          · rw [if_pos h1]
          · rw [if_neg h1]
            show _ = ((l.recs[k]?).map (·.round)).getD l.head.round
            rw [List.getElem?_eq_none (by omega)]; rfl
        rw [efl]
        refine ref3_lead_c (lsn := ln) (floor := fl) w hi hij hp hcap (by omega) hrd htn (by omega) hflr fun h3 o3 w3 s3 => ?_
        have p3 := RLg.own hp s3 (Ne.symm hij)
        have hj3 : (upd A i (Ass.rdisk p (runs m (layA l.st l.n hn)).2)) j = Ass.rlog (some (nA b)) p l := by rw [upd_ne (Ne.symm hij)]; exact hj
        refine dcn (fun hne3 => ?_) (fun h0 => ?_)
        · have hne3' : ¬ (runs m (layA l.st l.n hn)).1 = 0 := hne3
          rw [if_neg hne3'] at hK
          obtain ⟨w4, s4⟩ := w3.rlset (l' := { l with dead := true }) hj3 p3 rfl
          exact ⟨_, p3.st.sti 12 (.bool true) (by simp [rgC]), hK _ _ w4 ((s3.mono fun _ h => .inl h).trans (s4.mono fun _ h => .inr h))⟩
        · have h0' : (runs m (layA l.st l.n hn)).1 = 0 := h0
          rw [if_pos h0'] at hK
          let l4 : Lg := { l with head := hn, durable := l.next }
          have e74 : ((l.head.turn + 1 : Nat) : Int) = (l.head.turn : Int) + 1 := by omega
          have p4 := (p3.head (l' := l4) rfl).1
          have k4 := (p3.head (l' := l4) rfl).2
          refine ⟨l.head.turn, p3.st.rdi 4 rfl, ((l.head.turn + 1 : Nat) : Int), by rw [e74]; exact Wr.i64 (by omega) (by omega), _, p3.st.sti 4 (.int .i64 ((l.head.turn + 1 : Nat) : Int)) (by simp [rgC]), _, p3.st.set.sti 5 (.int .i64 (ln : Int)) (by simp [rgC]), _, p3.st.set.set.sti 6 (.int .i64 (fl : Int)) (by simp [rgC]), l.next, p3.st.set.set.set.rdi 7 rfl, _, p3.st.set.set.set.sti 8 (.int .i64 (l.next : Int)) (by simp [rgC]), ?_⟩
          simp only [setB_setB]
          have e4 : (Cel (((((rgC p sr sv l).set 4 (.int .i64 ((l.head.turn + 1 : Nat) : Int))).set 5 (.int .i64 (ln : Int))).set 6 (.int .i64 (fl : Int))).set 8 (.int .i64 (l.next : Int))) 116 : Obj) = Cel (rgC p sr sv l4) 116 := rfl
          rw [e4]
          have s3b := p3.st.lt
          have hbo : o3 b = j := p3.fb
          have z4 : (setB h3 b (Cel (rgC p sr sv l4) 116)).size = h3.size := size_set
          generalize setB h3 b (Cel (rgC p sr sv l4) 116) = h4 at *
          have hsv4 : l4.recs.map (·.round) = l.recs.map (·.round) := rfl
          -- what is left
          refine ⟨fun mm s1 s2 ci hz => ∃ c : Nat, ci = c ∧ c ≤ l.recs.length ∧ mm = l.recs.length - c ∧ Kp (fun _ => False) h4 hz ∧ Vec hz s1 3 128 (((rs.take c).drop k).flatMap rcE) ∧ Vec hz s2 1 2 ((((l.recs.map (·.round)).take c).drop k).map roV) ∧
              (∀ y, s1.blk y → h4.size ≤ y) ∧ (∀ y, s2.blk y → h4.size ≤ y) ∧ (∀ y, s1.blk y → ¬ s2.blk y), ⟨_, 0, rfl, by omega, rfl, Kp.refl _ _, by simp; exact Vec.nil _ _ _, by simp; exact Vec.nil _ _ _, (by rintro y ⟨a, ha, _⟩; cases ha), (by rintro y ⟨a, ha, _⟩; cases ha), (by rintro y ⟨a, ha, _⟩; cases ha)⟩, ?_⟩
          rintro mm s1 s2 ci h5 ⟨c, rfl, hc5, rfl, k5, v1, v2, n1, n2, n12⟩
          have p5 := p4.kp k5 fun _ _ _ h => h
          refine ⟨sr, p5.st.rdi 10 rfl, dcd (fun hlt5 => ?_) (fun hge5 => ?_)⟩
          · have hc' : c < l.recs.length := by omega
            obtain ⟨x, hx1⟩ : ∃ x, rs[c]? = some x := ⟨rs[c]'(by omega), by rw [List.getElem?_eq_getElem]⟩
            have hx2 : l.recs[c]? = some x.1 := by rw [← hp.rl, List.getElem?_map, hx1]; rfl
            have hi2 := hiff c x.1 hx2
            have hrv : (l.recs.map (·.round))[c]? = some x.1.round := by rw [List.getElem?_map, hx2]; rfl
            obtain ⟨a, ha, hr⟩ := p5.at_ hx1
            have dk : ∀ {α : Type} (L : List α) (y : α), L[c]? = some y → k ≤ c → (L.take (c + 1)).drop k = (L.take c).drop k ++ [y] := by
              intro α L y hy hk
              rw [List.take_add_one, hy, Option.toList_some, List.drop_append_of_le_length (by have := (List.getElem?_eq_some_iff.1 hy).1; simp; omega)]
            refine ⟨fun t1 t2 hz => Kp (fun _ => False) h4 hz ∧ Vec hz t1 3 128 (((rs.take (c + 1)).drop k).flatMap rcE) ∧ Vec hz t2 1 2 ((((l.recs.map (·.round)).take (c + 1)).drop k).map roV) ∧ (∀ y, t1.blk y → h4.size ≤ y) ∧ (∀ y, t2.blk y → h4.size ≤ y) ∧ (∀ y, t1.blk y → ¬ t2.blk y), ?_, sr, p5.st.rdi 10 rfl, a, ha, by omega, by omega, x.1.lsn, by rw [Int.toNat_natCast]; exact hr 0 _ rfl, dcd (fun hge6 => ?_) (fun hlt6 => ?_)⟩
            · rintro t1 t2 hz ⟨a1, a2, a3, a4, a5, a6⟩
              exact ⟨_, Wr.i64 (by omega) (by omega), l.recs.length - (c + 1), by omega, c + 1, by omega, by omega, rfl, a1, a2, a3, a4, a5, a6⟩
            · have hkc := hi2.2.1 hge6
              have k5s := k5.size
              refine ⟨sr, p5.st.rdi 10 rfl, a, ha, by omega, by omega, x.1.lsn, x.1.kind, x.2, by rw [Int.toNat_natCast]; exact hr, _, _, _, rfl, rfl, rfl, ?_⟩
              have tmp := Bk.new h5 (rcE x) 128
              have k6 : Kp (fun _ => False) h5 (h5.push (Cel (rcE x) 128)) := Kp.push (Kp.refl _ _) _
              have hone : oneC (rcE x) := by
                intro v hv
                simp only [rcE, List.mem_cons, List.not_mem_nil, or_false] at hv
                rcases hv with rfl | rfl | rfl <;> rfl
              have v1l : s1.len ≤ l.recs.length := by
                have := v1.len
                rw [flat_len rcE 3 _ fun _ _ => rfl] at this
                simp at this; omega
              have v2l : s2.len ≤ l.recs.length := by
                have := v2.len
                simp at this; omega
              have s6s : (h5.push (Cel (rcE x) 128)).size = h5.size + 1 := by simp
              refine (v1.kp k6 fun _ _ h => h).app (news := rcE x) ⟨rfl, tmp.rd0⟩ hone (by show (s1.len + 1) * 40 ≤ _; omega) fun t1 h7 v7 _ k7 n7 => ?_
              have k47 : Kp (fun _ => False) h4 h7 := (k5.trans k6).and k7 fun y hy => .inl (n1 y hy)
              have p7 := p4.kp k47 fun _ _ _ h => h
              obtain ⟨a2, ha2, hr2⟩ := p7.atv hrv
              have v27 := (v2.kp k6 fun _ _ h => h).kp k7 fun y hy hs => n12 y hs hy
              have hlv7 := p7.lenv
              simp only [List.length_map] at hlv7
              have hl4r : l4.recs.length = l.recs.length := rfl
              refine ⟨sv, p7.st.rdi 11 rfl, a2, ha2, by omega, by omega, (x.1.round : Nat), by rw [Int.toNat_natCast]; exact hr2, _, _, _, rfl, rfl, rfl, ?_⟩
              have tmp8 := Bk.new h7 [roV x.1.round] 2
              have k8 : Kp (fun _ => False) h7 (h7.push (Cel [roV x.1.round] 2)) := Kp.push (Kp.refl _ _) _
              have k7s := k7.size
              have s8s : (h7.push (Cel [roV x.1.round] 2)).size = h7.size + 1 := by simp
              refine (v27.kp k8 fun _ _ h => h).app (news := [roV x.1.round]) ⟨rfl, tmp8.rd0⟩ (by intro v hv; simp at hv; subst hv; rfl) (by show (s2.len + 1) * 8 ≤ _; omega) fun t2 h9 v9 _ k9 n9 => ?_
              have v79 := (v7.kp k8 fun _ _ h => h).kp k9 fun y hy hs => (n7 y hy).elim (fun h => n12 y h hs) fun e => by have := v2.lt hs; omega
              refine ⟨(k47.trans k8).and k9 fun y hy => .inl (n2 y hy), ?_, ?_, fun y hy => (n7 y hy).elim (fun h => n1 y h) fun e => by omega, fun y hy => (n9 y hy).elim (fun h => n2 y h) fun e => by have := k47.size; omega, fun y hy hy2 => ?_⟩
              · rw [dk rs x hx1 hkc, List.flatMap_append]
                have : [x].flatMap rcE = rcE x := by simp
                rw [this]; exact v79
              · rw [dk _ _ hrv hkc, List.map_append]; exact v9
              · rcases n7 y hy with h1 | h1
                · rcases n9 y hy2 with h2 | h2
                  · exact n12 y h1 h2
                  · have := v1.lt h1; omega
                · rcases n9 y hy2 with h2 | h2
                  · have := v2.lt h2; omega
                  · omega
            · have hkc : ¬ k ≤ c := fun h => hlt6 (hi2.2.2 h)
              have dz : ∀ {α : Type} (L : List α), (L.take (c + 1)).drop k = (L.take c).drop k := by
                intro α L
                rw [List.drop_of_length_le (by simp; omega), List.drop_of_length_le (by simp; omega)]
              exact ⟨k5, by rw [dz]; exact v1, by rw [dz]; exact v2, n1, n2, n12⟩
          · have hce : c = l.recs.length := by omega
            subst hce
            rw [List.take_of_length_le (by omega)] at v1
            rw [List.take_of_length_le (by simp)] at v2
            let l6 : Lg := { l with head := hn, recs := l.recs.drop k, durable := l.next }
            have b5 : Bk h5 b (rgC p sr sv l4) 116 := p5.st
            have st1 := b5.sti 10 s1.v (by simp [rgC])
            have b6 : Bk (setB h5 b (Cel (rgC p s1 sv l4) 116)) b (rgC p s1 sv l4) 116 := b5.set
            have st2 := b6.sti 11 s2.v (by simp [rgC])
            rw [setB_setB] at st2
            have nb1 : ¬ s1.blk b := fun hb => by have := n1 b hb; omega
            have nb2 : ¬ s2.blk b := fun hb => by have := n2 b hb; omega
            have k7 : Kp (fun x => x = b) h5 (setB h5 b (Cel (rgC p s1 s2 l6) 116)) := Kp.set (F := fun x => x = b) (Kp.refl _ _) _ (.inr rfl)
            have hmem : ∀ x ∈ rs.drop k, x ∈ rs := fun x hx => List.mem_of_mem_drop hx
            have p7 : RLg (setB h5 b (Cel (rgC p s1 s2 l6) 116)) b p s1 s2 (rs.drop k) (l6.recs.map (·.round)) l6 (fun x => o3 x = j ∨ h3.size ≤ x) := by
              refine ⟨b5.set, v1.kp k7 fun x hx e => by subst e; exact nb1 hx, ?_, by rw [List.map_drop, hp.rl], fun x hx => ?_, fun x hx y hy => ?_, nb1, nb2, n12, .inl p3.fb, fun x hx => .inr (by have := n1 x hx; omega), fun x hx => .inr (by have := n2 x hx; omega)⟩
              · show Vec _ s2 1 2 ((l.recs.drop k).map (·.round) |>.map roV)
                rw [List.map_drop]
                exact v2.kp k7 fun x hx e => by subst e; exact nb2 hx
              · exact (p5.dat x (hmem x hx)).kp k7 fun a ha e => (p5.sep x (hmem x hx) _ ⟨a, ha, rfl⟩).2.1 e
              · have h1 := p4.sep x (hmem x hx) y hy
                have h2 := p5.sep x (hmem x hx) y hy
                exact ⟨.inl h1.1, h1.2.1, fun hb => by have := n1 y hb; have := h1.2.2.2.2; omega, fun hb => by have := n2 y hb; have := h1.2.2.2.2; omega, by rw [size_set]; exact h2.2.2.2.2⟩
            have k37 : Kp (fun x => o3 x = j) h3 (setB h5 b (Cel (rgC p s1 s2 l6) 116)) := by
              have a1 : Kp (fun x => o3 x = j) h3 h4 := k4.mono fun x _ e => by subst e; exact p3.fb
              exact (a1.trans (k5.mono fun _ _ h => h.elim)).set _ (.inr p3.fb)
            obtain ⟨w7, s7⟩ := w3.step (i := j) (B := Ass.rlog (some (nA b)) p l6) k37 ⟨b, s1, s2, _, rfl, p7⟩
            exact ⟨_, st1, _, st2, hK _ _ w7 ((s3.mono fun _ h => .inl h).trans (s7.mono fun _ h => .inr h))⟩
  · obtain ⟨ln, rfl⟩ := Int.eq_ofNat_of_zero_le (show 0 ≤ lsn by omega)
    refine ref3_begins_c (lsn := ln) hp (by omega) ⟨rfl, ?_⟩
    have hg : l.gone ln = (match goneN l.recs ln with | some i => some i | none => if (ln : Int) = l.next then some l.recs.length else none) := by
      unfold Lg.gone; rw [if_neg (by omega), Int.toNat_natCast]; rfl
    rw [hg]
    cases goneN l.recs ln with
    | some i => simp
    | none =>
      by_cases he : (ln : Int) = l.next
      · have : ln = l.next := by omega
        simp [this]
      · have : ¬ ln = l.next := by omega
        simp [he, this]
end
end Go.Proofs.YthpeadoidpimmaaGreat
