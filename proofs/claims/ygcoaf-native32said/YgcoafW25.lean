/-
  WALKS: SubFlags, Add, Sub, Mul, Div, law.softBin.
-/
import Derived.Test.YgcoafW23
import Derived.Test.YgcoafW24
namespace Go.Proofs.Ygcoaf
open Go.RowKit Go.Proofs.Ygcoaf.M

/-- a - b -/
def subU (E M a b : Nat) : Nat := addU E M a (b ^^^ 2 ^ (E + M))

set_option maxHeartbeats 1000000 in
/-- soft.SubFlags under NearestEven -/
theorem subFlags_ne {E M : Nat} (h1 : 2 ≤ E) (h2 : E ≤ 11) (h3 : 2 ≤ M) (h4 : M ≤ 52) (a b : Nat) (ha : a < 18446744073709551616) (hb : b < 18446744073709551616) (w : World) :
    Calls Oafg.prog 103 #[.agg #[.int .u8 E, .int .u8 M], .int .u8 0, .int .u64 a, .int .u64 b] w fun e w' =>
      (∃ fl : Int, e = .returned (.tuple #[.int .u64 (subU E M a b : Nat), .int .u8 fl])) ∧ Below w.heap.size w w' := by
  have e3 : 2 ^ (E + M) < 18446744073709551616 := Nat.lt_of_le_of_lt (two_pow_le (show E + M ≤ 63 by omega)) (by decide)
  have hx := u64_xor_nat b (2 ^ (E + M)) hb e3
  rw [cast_two_pow] at hx
  have hxb : b ^^^ 2 ^ (E + M) < 18446744073709551616 := Nat.lt_of_lt_of_eq (Nat.xor_lt_two_pow (n := 64) (Nat.lt_of_lt_of_eq hb (by decide)) (Nat.lt_of_lt_of_eq e3 (by decide))) (by decide)
  have A := fun w => addFlags_ne h1 h2 h3 h4 a (b ^^^ 2 ^ (E + M)) ha hxb w
  have S := fun w => signBit_yes h1 h2 h3 h4 w
  unfold subU
  generalize b ^^^ 2 ^ (E + M) = c at *
  generalize addU E M a c = V at *
  generalize (2 : Int) ^ (E + M) = Z at *
  have HA : Hid _ := A
  have HZ : Hid _ := S
  clear A S e3
  go_enter Oafg.func103, Oafg.ntmps103
  go_wp2
  have hS0 : HB (w.alloc (.cells #[.int .u8 E, .int .u8 M] 27)) (w.alloc (.cells #[.int .u8 E, .int .u8 M] 27)) := HB.start
  have hcl := HB.cells (W := (w.alloc (.cells #[.int .u8 E, .int .u8 M] 27)))
  go_region_held3 (fun w' => HB (w.alloc (.cells #[.int .u8 E, .int .u8 M] 27)) w')
    (repeat' (first | with_reducible exact hSu | with_reducible exact hS0 | with_reducible apply HB.drew | with_reducible assumption))
    (first
      | (go_at_call 71; refine (HZ.out _).mono ?_; rintro e w1 ⟨rfl, hbu⟩; have hSu := HB.call (by assumption) hbu)
      | (go_at_call 102; refine (HA.out _).mono ?_; rintro e w2 ⟨⟨fl, rfl⟩, hbu⟩; have hSu := HB.call (by assumption) hbu))
  all_goals
    go_wp2
    go_ret2
    exact ⟨⟨_, rfl⟩, below1 hSu.out⟩

theorem and8_3 (op : Nat) (ho : op < 256) : bits .and .u8 (op : Int) 3 = ((op % 4 : Nat) : Int) := by
  rw [show (3 : Int) = ((3 : Nat) : Int) by simp, u8_and_nat op 3 ho (by decide), show (3 : Nat) = 2 ^ 2 - 1 by decide, Nat.and_two_pow_sub_one_eq_mod]

theorem add_ne {E M : Nat} (h1 : 2 ≤ E) (h2 : E ≤ 11) (h3 : 2 ≤ M) (h4 : M ≤ 52) (a b : Nat) (ha : a < 18446744073709551616) (hb : b < 18446744073709551616) (w : World) : Calls Oafg.prog 62 #[.agg #[.int .u8 E, .int .u8 M], .int .u8 0, .int .u64 a, .int .u64 b] w fun e w' => e = .returned (.int .u64 (addU E M a b : Nat)) ∧ Below w.heap.size w w' := by
  have A : Hid _ := fun w => addFlags_ne h1 h2 h3 h4 a b ha hb w
  generalize addU E M a b = V at *
  go_enter Oafg.func62, Oafg.ntmps62
  go_wp2_with (go_at_call 102; refine (A.out _).mono ?_; rintro e w1 ⟨⟨fl, rfl⟩, hb1⟩)
  go_ret
  exact ⟨rfl, below1 hb1⟩
theorem sub_ne {E M : Nat} (h1 : 2 ≤ E) (h2 : E ≤ 11) (h3 : 2 ≤ M) (h4 : M ≤ 52) (a b : Nat) (ha : a < 18446744073709551616) (hb : b < 18446744073709551616) (w : World) : Calls Oafg.prog 63 #[.agg #[.int .u8 E, .int .u8 M], .int .u8 0, .int .u64 a, .int .u64 b] w fun e w' => e = .returned (.int .u64 (subU E M a b : Nat)) ∧ Below w.heap.size w w' := by
  have A : Hid _ := fun w => subFlags_ne h1 h2 h3 h4 a b ha hb w
  generalize subU E M a b = V at *
  go_enter Oafg.func63, Oafg.ntmps63
  go_wp2_with (go_at_call 103; refine (A.out _).mono ?_; rintro e w1 ⟨⟨fl, rfl⟩, hb1⟩)
  go_ret
  exact ⟨rfl, below1 hb1⟩
theorem mul_ne {E M : Nat} (h1 : 2 ≤ E) (h2 : E ≤ 11) (h3 : 2 ≤ M) (h4 : M ≤ 52) (a b : Nat) (ha : a < 18446744073709551616) (hb : b < 18446744073709551616) (w : World) : Calls Oafg.prog 64 #[.agg #[.int .u8 E, .int .u8 M], .int .u8 0, .int .u64 a, .int .u64 b] w fun e w' => e = .returned (.int .u64 (mulU E M a b : Nat)) ∧ Below w.heap.size w w' := by
  have A : Hid _ := fun w => mulFlags_ne h1 h2 h3 h4 a b ha hb w
  generalize mulU E M a b = V at *
  go_enter Oafg.func64, Oafg.ntmps64
  go_wp2_with (go_at_call 104; refine (A.out _).mono ?_; rintro e w1 ⟨⟨fl, rfl⟩, hb1⟩)
  go_ret
  exact ⟨rfl, below1 hb1⟩
theorem div_ne {E M : Nat} (h1 : 2 ≤ E) (h2 : E ≤ 11) (h3 : 2 ≤ M) (h4 : M ≤ 52) (a b : Nat) (ha : a < 18446744073709551616) (hb : b < 18446744073709551616) (w : World) : Calls Oafg.prog 65 #[.agg #[.int .u8 E, .int .u8 M], .int .u8 0, .int .u64 a, .int .u64 b] w fun e w' => e = .returned (.int .u64 (divU E M a b : Nat)) ∧ Below w.heap.size w w' := by
  have A : Hid _ := fun w => divFlags_ne h1 h2 h3 h4 a b ha hb w
  generalize divU E M a b = V at *
  go_enter Oafg.func65, Oafg.ntmps65
  go_wp2_with (go_at_call 105; refine (A.out _).mono ?_; rintro e w1 ⟨⟨fl, rfl⟩, hb1⟩)
  go_ret
  exact ⟨rfl, below1 hb1⟩

/-- the four of law.softBin -/
def binU (op E M a b : Nat) : Nat := if op % 4 = 0 then addU E M a b else if op % 4 = 1 then subU E M a b else if op % 4 = 2 then mulU E M a b else divU E M a b

theorem softBin_ne {E M : Nat} (h1 : 2 ≤ E) (h2 : E ≤ 11) (h3 : 2 ≤ M) (h4 : M ≤ 52) (a b : Nat) (ha : a < 18446744073709551616) (hb : b < 18446744073709551616) (w : World) (op : Nat) (ho : op < 256) : Calls Oafg.prog 16 #[.agg #[.int .u8 E, .int .u8 M], .int .u8 0, .int .u8 op, .int .u64 a, .int .u64 b] w fun e w' => e = .returned (.int .u64 (binU op E M a b : Nat)) ∧ Below w.heap.size w w' := by
  have A : Hid _ := fun w => add_ne h1 h2 h3 h4 a b ha hb w
  have S : Hid _ := fun w => sub_ne h1 h2 h3 h4 a b ha hb w
  have U : Hid _ := fun w => mul_ne h1 h2 h3 h4 a b ha hb w
  have D : Hid _ := fun w => div_ne h1 h2 h3 h4 a b ha hb w
  have f : bits .and .u8 (op : Int) 3 = ((op % 4 : Nat) : Int) := and8_3 op ho
  unfold binU
  generalize addU E M a b = V1 at *
  generalize subU E M a b = V2 at *
  generalize mulU E M a b = V3 at *
  generalize divU E M a b = V4 at *
  have hk : op % 4 < 4 := Nat.mod_lt _ (by decide)
  generalize op % 4 = k at *
  rcases (show k = 0 ∨ k = 1 ∨ k = 2 ∨ k = 3 by omega) with rfl | rfl | rfl | rfl
  all_goals
    go_enter Oafg.func16, Oafg.ntmps16
    go_wp2_with (first
      | (go_at_call 62; refine (A.out _).mono ?_; rintro e w1 ⟨rfl, hb1⟩)
      | (go_at_call 63; refine (S.out _).mono ?_; rintro e w1 ⟨rfl, hb1⟩)
      | (go_at_call 64; refine (U.out _).mono ?_; rintro e w1 ⟨rfl, hb1⟩)
      | (go_at_call 65; refine (D.out _).mono ?_; rintro e w1 ⟨rfl, hb1⟩))
    go_ret
    exact ⟨rfl, below1 hb1⟩
end Go.Proofs.Ygcoaf
