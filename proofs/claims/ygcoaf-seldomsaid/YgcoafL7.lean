/-
  tab.Fits.
-/
import Derived.Test.YgcoafL6
namespace Go.Proofs.Ygcoaf
open Go.RowKit Go.Proofs.Ygcoaf.M

def fitsB (h l : Nat) (x : Int) : Bool := decide (9223372036854775808 ≤ h) && !(decide (h = 18446744073709551615) && decide (l = 18446744073709551615)) && decide (-1300 ≤ x) && decide (x ≤ 1100)

set_option maxRecDepth 8000 in
/-- tab.Fits -/
theorem fits_any (h l : Nat) (x : Int) (hh : h < 18446744073709551616) (w : World) :
    Calls Oafg.prog 138 #[.agg #[.int .u64 h, .int .u64 l], .int .i16 x] w fun e w' => e = .returned (.bool (fitsB h l x)) ∧ Below w.heap.size w w' := by
  obtain ⟨V, hV⟩ : ∃ V, V = fitsB h l x := ⟨_, rfl⟩
  rw [← hV]
  unfold fitsB at hV
  by_cases a : 9223372036854775808 ≤ h
  · have a1 : ((h : Int) / 9223372036854775808 == 1) = true := by rw [beq_iff_eq]; omega
    obtain ⟨ne, hne⟩ : ∃ ne, ne = !(decide (h = 18446744073709551615) && decide (l = 18446744073709551615)) := ⟨_, rfl⟩
    rw [← hne, decide_eq_true a, Bool.true_and] at hV
    go_enter Oafg.func138, Oafg.ntmps138
    go_wp2
    all_goals
      go_ret
      refine ⟨congrArg (fun b => Ending.returned (.bool b)) ?_, self1⟩
      first
        | (rw [hV, hne, Bool.eq_iff_iff]; simp; omega)
        | (rw [Bool.eq_iff_iff]; simp; omega)
  · have a1 : ((h : Int) / 9223372036854775808 == 1) = false := by rw [beq_eq_false_iff_ne]; omega
    rw [decide_eq_false a] at hV
    simp only [Bool.false_and] at hV
    subst hV
    go_enter Oafg.func138, Oafg.ntmps138
    go_wp2
    go_ret
    exact ⟨rfl, self1⟩
end Go.Proofs.Ygcoaf
