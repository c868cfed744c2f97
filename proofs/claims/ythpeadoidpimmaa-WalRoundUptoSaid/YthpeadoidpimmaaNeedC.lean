/- The sectors of a record. No condition. -/
import Derived.Test.YthpeadoidpimmaaGSum
import Derived.Test.YthpeadoidpimmaaHx
namespace Go.Proofs.Ythpeadoidpimmaa
open Go Tw
set_option linter.unusedVariables false

/-- Need, by the document. -/
def need (b : Int) : Int := if b < 0 ∨ b > 32768 then 0 else if b = 0 then 1 else (b + 103) / 104

theorem quo104 {n : Int} (h0 : 0 ≤ n) (h1 : n ≤ 9223372036854775807) : IntKind.i64.wrap (Int.tdiv n 104) = n / 104 := by
  rw [Int.tdiv_eq_ediv_of_nonneg h0]
  exact wrap_i64 (by omega) (by omega)

theorem wal_Need_c {b : Int} {K : Int → Hp → Prop} {h : Hp} (hK : K (need b) h) : wal_Need b K h := by
  refine ⟨fun c h' => h' = h ∧ c = decide (b < 0 ∨ b > 32768), ?_, ?_⟩
  · rintro c h' ⟨rfl, rfl⟩
    refine dcd (fun hp => ?_) (fun hn => ?_)
    · simpa [need, hp] using hK
    · have h0 : 0 ≤ b := by omega
      have h1 : b ≤ 32768 := by omega
      refine ⟨b + 104, Wr.i64 (by omega) (by omega), b + 104 - 1, Wr.i64 (by omega) (by omega), (b + 104 - 1) / 104, (quo104 (by omega) (by omega)).symm, need b, ?_, hK⟩
      have hd : ¬ (b < 0 ∨ b > 32768) := by omega
      unfold need
      rw [if_neg hd]
      by_cases hz : b = 0
      · subst hz; rfl
      · rw [if_neg hz]
        split <;> omega
  · refine dcd (fun hp => ?_) (fun hn => ?_)
    · exact ⟨rfl, by simp [hp]⟩
    · exact ⟨rfl, by simp [hn]⟩

theorem ref3_Need_c {b : Int} {K : Int → Hp → Prop} {h : Hp} (hK : K (need b) h) : ref3_Need b K h := by
  refine ⟨fun c h' => h' = h ∧ c = decide (b < 0 ∨ b > 32768), ?_, ?_⟩
  · rintro c h' ⟨rfl, rfl⟩
    refine dcd (fun hp => ?_) (fun hn => ?_)
    · simpa [need, hp] using hK
    · have h0 : 0 ≤ b := by omega
      have h1 : b ≤ 32768 := by omega
      refine dcb (fun hz => ?_) (fun hz => ?_)
      · subst hz; exact hK
      · refine ⟨b + 104, Wr.i64 (by omega) (by omega), b + 104 - 1, Wr.i64 (by omega) (by omega), need b, ?_, hK⟩
        rw [quo104 (by omega) (by omega)]
        unfold need
        rw [if_neg (by omega), if_neg hz]
        congr 1
        omega
  · refine dcd (fun hp => ?_) (fun hn => ?_)
    · exact ⟨rfl, by simp [hp]⟩
    · exact ⟨rfl, by simp [hn]⟩

end Go.Proofs.Ythpeadoidpimmaa
