/-
  WALKS: the model's four operations; law.Native32.
-/
import Derived.Test.YgcoafM13
import Derived.Test.YgcoafM14
import Derived.Laws.FloatArith
namespace Go.Proofs.Ygcoaf
open Go.RowKit Go.Proofs.Ygcoaf.M

/-- an operation that has no answer: some NaN -/
theorem arith_nan32 (op : BinOp) (ho : op = .add ∨ op = .sub ∨ op = .mul ∨ op = .quo) (a b : Nat) (h : floatBits op .f32 a b = none) (w : World) : ∃ r, infR 8 23 < r % 2 ^ (8 + 23) ∧ (binOp op 84 (.float .f32 a) (.float .f32 b)).run Oafg.prog w = .ok (.float .f32 r) w.drew := by
  refine ⟨(Question.nanBits .f32 a b).cut (w.tape w.drawn (.nanBits .f32 a b)), ?_, ?_⟩
  · simp only [Question.cut]
    have : infR 8 23 = 2139095040 := by decide
    rw [this]
    generalize w.tape w.drawn (.nanBits .f32 a b) = t
    have hb : t % 2 < 2 := Nat.mod_lt _ (by decide)
    have hc : t / 2 % (2 ^ 23 - 1) < 2 ^ 23 - 1 := Nat.mod_lt _ (by decide)
    generalize t % 2 = b at *
    generalize t / 2 % (2 ^ 23 - 1) = c at *
    have : b = 0 ∨ b = 1 := by omega
    rcases this with rfl | rfl <;> omega
  · have hfo : (Question.nanBits .f32 a b).forced = false := rfl
    rcases ho with rfl | rfl | rfl | rfl <;> simp only [floatBits] at h <;> simp [binOp, Op.floatArith, h, hfo]

/-- what one of the four gives, and what it is once it is put into a word -/
theorem arith32 (op : BinOp) (ho : op = .add ∨ op = .sub ∨ op = .mul ∨ op = .quo) (a b : Nat) (w : World) : ∃ (r : Nat) (w1 : World), (binOp op 84 (.float .f32 a) (.float .f32 b)).run Oafg.prog w = .ok (.float .f32 r) w1 ∧ putV 8 23 r = outV 8 23 (floatBits op .f32 a b) ∧ Below w.heap.size w w1 := by
  cases h : floatBits op .f32 a b with
  | none =>
    obtain ⟨r, h1, h2⟩ := arith_nan32 op ho a b h w
    exact ⟨r, _, h2, putV_nan 8 23 r h1, (Below.refl _ _).drew⟩
  | some v => exact ⟨v, w, run_float_arith w op 84 .f32 a b v h, rfl, Below.refl _ _⟩

/-- Go's four operations on float32, as the package puts them -/
theorem op32_any (op a b : Nat) (ho : op < 4) (w : World) :
    Calls Oafg.prog 15 #[.int .u8 op, .int .u32 a, .int .u32 b] w fun e w' => e = .returned (.int .u32 (outV 8 23 (floatBits (if op = 0 then .add else if op = 1 then .sub else if op = 2 then .mul else .quo) .f32 a b) : Nat)) ∧ Below w.heap.size w w' := by
  rcases (show op = 0 ∨ op = 1 ∨ op = 2 ∨ op = 3 by omega) with rfl | rfl | rfl | rfl
  · obtain ⟨r, w1, hr, hp, hB⟩ := arith32 .add (by simp) a b w
    rw [show (if 0 = 0 then BinOp.add else if 0 = 1 then BinOp.sub else if 0 = 2 then BinOp.mul else BinOp.quo) = BinOp.add from rfl]
    generalize outV 8 23 (floatBits .add .f32 a b) = V at *
    have PT : Hid _ := fun w => put32_any r w
    rw [hp] at PT
    go_enter Oafg.func15, Oafg.ntmps15
    go_wp2_with (first
      | (go_at_call_of 60 (Value.int .u32 a); refine (from32_any a _).mono ?_; rintro e w2 ⟨rfl, rfl⟩)
      | (go_at_call_of 60 (Value.int .u32 b); refine (from32_any b _).mono ?_; rintro e w2 ⟨rfl, rfl⟩)
      | (go_at_call 61; refine (PT.out _).mono ?_; rintro e w2 ⟨rfl, rfl⟩))
    go_ret
    exact ⟨rfl, hB⟩
  · obtain ⟨r, w1, hr, hp, hB⟩ := arith32 .sub (by simp) a b w
    rw [show (if 1 = 0 then BinOp.add else if 1 = 1 then BinOp.sub else if 1 = 2 then BinOp.mul else BinOp.quo) = BinOp.sub from rfl]
    generalize outV 8 23 (floatBits .sub .f32 a b) = V at *
    have PT : Hid _ := fun w => put32_any r w
    rw [hp] at PT
    go_enter Oafg.func15, Oafg.ntmps15
    go_wp2_with (first
      | (go_at_call_of 60 (Value.int .u32 a); refine (from32_any a _).mono ?_; rintro e w2 ⟨rfl, rfl⟩)
      | (go_at_call_of 60 (Value.int .u32 b); refine (from32_any b _).mono ?_; rintro e w2 ⟨rfl, rfl⟩)
      | (go_at_call 61; refine (PT.out _).mono ?_; rintro e w2 ⟨rfl, rfl⟩))
    go_ret
    exact ⟨rfl, hB⟩
  · obtain ⟨r, w1, hr, hp, hB⟩ := arith32 .mul (by simp) a b w
    rw [show (if 2 = 0 then BinOp.add else if 2 = 1 then BinOp.sub else if 2 = 2 then BinOp.mul else BinOp.quo) = BinOp.mul from rfl]
    generalize outV 8 23 (floatBits .mul .f32 a b) = V at *
    have PT : Hid _ := fun w => put32_any r w
    rw [hp] at PT
    go_enter Oafg.func15, Oafg.ntmps15
    go_wp2_with (first
      | (go_at_call_of 60 (Value.int .u32 a); refine (from32_any a _).mono ?_; rintro e w2 ⟨rfl, rfl⟩)
      | (go_at_call_of 60 (Value.int .u32 b); refine (from32_any b _).mono ?_; rintro e w2 ⟨rfl, rfl⟩)
      | (go_at_call 61; refine (PT.out _).mono ?_; rintro e w2 ⟨rfl, rfl⟩))
    go_ret
    exact ⟨rfl, hB⟩
  · obtain ⟨r, w1, hr, hp, hB⟩ := arith32 .quo (by simp) a b w
    rw [show (if 3 = 0 then BinOp.add else if 3 = 1 then BinOp.sub else if 3 = 2 then BinOp.mul else BinOp.quo) = BinOp.quo from rfl]
    generalize outV 8 23 (floatBits .quo .f32 a b) = V at *
    have PT : Hid _ := fun w => put32_any r w
    rw [hp] at PT
    go_enter Oafg.func15, Oafg.ntmps15
    go_wp2_with (first
      | (go_at_call_of 60 (Value.int .u32 a); refine (from32_any a _).mono ?_; rintro e w2 ⟨rfl, rfl⟩)
      | (go_at_call_of 60 (Value.int .u32 b); refine (from32_any b _).mono ?_; rintro e w2 ⟨rfl, rfl⟩)
      | (go_at_call 61; refine (PT.out _).mono ?_; rintro e w2 ⟨rfl, rfl⟩))
    go_ret
    exact ⟨rfl, hB⟩

theorem out_lt (op : BinOp) (a b : Nat) : outV 8 23 (floatBits op .f32 a b) < 4294967296 := by
  cases h : floatBits op .f32 a b with
  | none => show nanR 8 23 < _; decide
  | some v =>
    have hw := floatBits_wf h
    have hv : v < 4294967296 := by simpa [Lit.wf] using hw
    show putV 8 23 v < _
    unfold putV
    split
    · decide
    · exact hv

/-- the two sides agree -/
theorem law32 (op a b : Nat) (hb : b < 4294967296) : outV 8 23 (floatBits (if op % 4 = 0 then .add else if op % 4 = 1 then .sub else if op % 4 = 2 then .mul else .quo) .f32 a b) = binU op 8 23 a b := by
  unfold binU
  by_cases c0 : op % 4 = 0
  · rw [if_pos c0, if_pos c0]; exact add_law 8 23 a b (by decide)
  · rw [if_neg c0, if_neg c0]
    by_cases c1 : op % 4 = 1
    · rw [if_pos c1, if_pos c1]; exact sub_law 8 23 a b (by decide) (Nat.lt_of_lt_of_eq hb (by decide))
    · rw [if_neg c1, if_neg c1]
      by_cases c2 : op % 4 = 2
      · rw [if_pos c2, if_pos c2]; exact mul_law 8 23 a b (by decide)
      · rw [if_neg c2, if_neg c2]; exact div_law 8 23 a b (by decide) (by decide)

/-- law.Native32 -/
theorem n32_walk (op a b : Nat) (ho : op < 256) (ha : a < 4294967296) (hb : b < 4294967296) (w : World) :
    Calls Oafg.prog 3 #[.int .u8 op, .int .u32 a, .int .u32 b] w fun e w' => e = .returned (.bool true) ∧ Below w.heap.size w w' := by
  have f := and8_3 op ho
  have hk : op % 4 < 4 := Nat.mod_lt _ (by decide)
  have k1 := fun w => op32_any (op % 4) a b hk w
  have k2 := fun w => softBin_ne (E := 8) (M := 23) (by decide) (by decide) (by decide) (by decide) a b (by omega) (by omega) w op ho
  have hl := out_lt (if op % 4 = 0 then .add else if op % 4 = 1 then .sub else if op % 4 = 2 then .mul else .quo) a b
  rw [law32 op a b hb] at k1 hl
  generalize binU op 8 23 a b = V at *
  generalize op % 4 = k at *
  have K1 : Hid _ := k1
  have K2 : Hid _ := k2
  clear k1 k2
  go_enter Oafg.func3, Oafg.ntmps3
  go_wp2_with (first
    | (go_at_call 15; refine (K1.out _).mono ?_; rintro e w1 ⟨rfl, hb1⟩)
    | (go_at_call 17; refine (binary32_any _).mono ?_; rintro e w2 ⟨rfl, hb2⟩)
    | (go_at_call 16; refine (K2.out _).mono ?_; rintro e w3 ⟨rfl, hb3⟩))
  go_ret
  exact ⟨rfl, bt (bt hb1 hb2) hb3⟩
end Go.Proofs.Ygcoaf
