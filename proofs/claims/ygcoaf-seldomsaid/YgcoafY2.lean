/-
  clinger.ten64, ten32, bits64, bits32.
-/
import Derived.Test.YgcoafY1
import Derived.Test.YgcoafW4
namespace Go.Proofs.Ygcoaf
open Go.RowKit Go.Proofs.Ygcoaf.M

/-- a float that is a whole number, by reckoning -/
def wholeB (E M a n : Nat) : Bool :=
  match (Ieee.Format.mk E M).read a with
  | .number false m i => m * 2 ^ i.toNat == n * 2 ^ (-i).toNat && !(m == 0) && !(n == 0)
  | _ => false
theorem wholeB_yes {E M a n : Nat} (h : wholeB E M a n = true) : Whole E M a n := by
  unfold wholeB at h
  split at h
  · rename_i m i hr
    simp at h
    exact ⟨m, i, hr, h.1.1, fun _ => h.1.2, fun c => absurd c h.2⟩
  · exact absurd h (by simp)

set_option maxHeartbeats 4000000 in
/-- clinger.ten64 -/
theorem ten64_any (q : Nat) (hq : q ≤ 22) (w : World) : Calls Oafg.prog 80 #[.int .i16 q] w fun e w' => (∃ b, e = .returned (.float .f64 b) ∧ Whole 11 52 b (10 ^ q)) ∧ w' = w := by
  rcases (show q = 0 ∨ q = 1 ∨ q = 2 ∨ q = 3 ∨ q = 4 ∨ q = 5 ∨ q = 6 ∨ q = 7 ∨ q = 8 ∨ q = 9 ∨ q = 10 ∨ q = 11 ∨ q = 12 ∨ q = 13 ∨ q = 14 ∨ q = 15 ∨ q = 16 ∨ q = 17 ∨ q = 18 ∨ q = 19 ∨ q = 20 ∨ q = 21 ∨ q = 22 by omega) with
    rfl | rfl | rfl | rfl | rfl | rfl | rfl | rfl | rfl | rfl | rfl | rfl | rfl | rfl | rfl | rfl | rfl | rfl | rfl | rfl | rfl | rfl | rfl
  all_goals
    go_enter Oafg.func80, Oafg.ntmps80
    go_wp2
    go_ret
    exact ⟨⟨_, rfl, wholeB_yes (by kernel_rfl)⟩, rfl⟩

set_option maxHeartbeats 4000000 in
/-- clinger.ten32 -/
theorem ten32_any (q : Nat) (hq : q ≤ 10) (w : World) : Calls Oafg.prog 82 #[.int .i16 q] w fun e w' => (∃ b, e = .returned (.float .f32 b) ∧ Whole 8 23 b (10 ^ q)) ∧ w' = w := by
  rcases (show q = 0 ∨ q = 1 ∨ q = 2 ∨ q = 3 ∨ q = 4 ∨ q = 5 ∨ q = 6 ∨ q = 7 ∨ q = 8 ∨ q = 9 ∨ q = 10 by omega) with
    rfl | rfl | rfl | rfl | rfl | rfl | rfl | rfl | rfl | rfl | rfl
  all_goals
    go_enter Oafg.func82, Oafg.ntmps82
    go_wp2
    go_ret
    exact ⟨⟨_, rfl, wholeB_yes (by kernel_rfl)⟩, rfl⟩
end Go.Proofs.Ygcoaf
