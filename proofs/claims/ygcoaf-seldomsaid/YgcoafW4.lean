/-
  WALKS, the fourth: Go's own floats, and the first law.
-/
import Derived.Test.YgcoafW3
namespace Go.Proofs.Ygcoaf
open Go.RowKit

theorem run_f64frombits (x : Nat) (w : World) : (callFunc 108 #[.int .u64 x]).run Oafg.prog w = .ok (.value (.float .f64 x)) w := by
  rw [run_callFunc_extern (e := Extern.MathFloatBits.float64frombits) Oafg.func108 (by kernel_rfl) (by kernel_rfl) (by kernel_rfl) (by kernel_rfl)]
  rfl
theorem run_f32frombits (x : Nat) (w : World) : (callFunc 100 #[.int .u32 x]).run Oafg.prog w = .ok (.value (.float .f32 x)) w := by
  rw [run_callFunc_extern (e := Extern.MathFloatBits.float32frombits) Oafg.func100 (by kernel_rfl) (by kernel_rfl) (by kernel_rfl) (by kernel_rfl)]
  rfl
theorem run_f64bits (x : Nat) (w : World) : (callFunc 122 #[.float .f64 x]).run Oafg.prog w = .ok (.value (.int .u64 x)) w := by
  rw [run_callFunc_extern (e := Extern.MathFloatBits.float64bits) Oafg.func122 (by kernel_rfl) (by kernel_rfl) (by kernel_rfl) (by kernel_rfl)]
  rfl
theorem run_f32bits (x : Nat) (w : World) : (callFunc 123 #[.float .f32 x]).run Oafg.prog w = .ok (.value (.int .u32 x)) w := by
  rw [run_callFunc_extern (e := Extern.MathFloatBits.float32bits) Oafg.func123 (by kernel_rfl) (by kernel_rfl) (by kernel_rfl) (by kernel_rfl)]
  rfl

theorem from64_any (x : Nat) (w : World) : Calls Oafg.prog 68 #[.int .u64 x] w fun e w' => e = .returned (.float .f64 x) ∧ w = w' := by
  have h := run_f64frombits
  go_enter Oafg.func68, Oafg.ntmps68
  go_wp2
  go_ret
  exact ⟨rfl, rfl⟩
theorem from32_any (x : Nat) (w : World) : Calls Oafg.prog 60 #[.int .u32 x] w fun e w' => e = .returned (.float .f32 x) ∧ w = w' := by
  have h := run_f32frombits
  go_enter Oafg.func60, Oafg.ntmps60
  go_wp2
  go_ret
  exact ⟨rfl, rfl⟩
theorem bits64_any (x : Nat) (w : World) : Calls Oafg.prog 106 #[.float .f64 x] w fun e w' => e = .returned (.int .u64 x) ∧ w = w' := by
  have h := run_f64bits
  go_enter Oafg.func106, Oafg.ntmps106
  go_wp2
  go_ret
  exact ⟨rfl, rfl⟩
theorem bits32_any (x : Nat) (w : World) : Calls Oafg.prog 101 #[.float .f32 x] w fun e w' => e = .returned (.int .u32 x) ∧ w = w' := by
  have h := run_f32bits
  go_enter Oafg.func101, Oafg.ntmps101
  go_wp2
  go_ret
  exact ⟨rfl, rfl⟩

/-- Go's six comparisons -/
def tst (rel : Nat) (c : Option Ordering) : Bool :=
  if rel = 0 then c == some .eq else if rel = 1 then c != some .eq else if rel = 2 then c == some .lt else if rel = 3 then c == some .lt || c == some .eq else if rel = 4 then c == some .gt else if rel = 5 then c == some .gt || c == some .eq else false
def relS (rel : Nat) (o : Int) : Bool :=
  if rel = 0 then o == 0 else if rel = 1 then o != 0 else if rel = 2 then o == -1 else if rel = 3 then o == -1 || o == 0 else if rel = 4 then o == 1 else o == 1 || o == 0

theorem test64_any (rel a b : Nat) (h : rel < 6) (w : World) : Calls Oafg.prog 22 #[.int .u8 rel, .int .u64 a, .int .u64 b] w fun e w' => e = .returned (.bool (tst rel (FloatKind.f64.format.order a b))) ∧ w = w' := by
  have hr : rel = 0 ∨ rel = 1 ∨ rel = 2 ∨ rel = 3 ∨ rel = 4 ∨ rel = 5 := by omega
  rcases hr with rfl | rfl | rfl | rfl | rfl | rfl
  all_goals
    go_enter Oafg.func22, Oafg.ntmps22
    go_wp2_with (go_at_call 68; refine (from64_any _ _).mono ?_; rintro e w' ⟨rfl, rfl⟩)
    go_ret
    exact ⟨rfl, rfl⟩
theorem test32_any (rel a b : Nat) (h : rel < 6) (w : World) : Calls Oafg.prog 25 #[.int .u8 rel, .int .u32 a, .int .u32 b] w fun e w' => e = .returned (.bool (tst rel (FloatKind.f32.format.order a b))) ∧ w = w' := by
  have hr : rel = 0 ∨ rel = 1 ∨ rel = 2 ∨ rel = 3 ∨ rel = 4 ∨ rel = 5 := by omega
  rcases hr with rfl | rfl | rfl | rfl | rfl | rfl
  all_goals
    go_enter Oafg.func25, Oafg.ntmps25
    go_wp2_with (go_at_call 60; refine (from32_any _ _).mono ?_; rintro e w' ⟨rfl, rfl⟩)
    go_ret
    exact ⟨rfl, rfl⟩

theorem relHolds_any (rel : Nat) (o : Int) (h : rel < 6) (w : World) : Calls Oafg.prog 23 #[.int .u8 rel, .int .i8 o] w fun e w' => e = .returned (.bool (relS rel o)) ∧ w = w' := by
  have hr : rel = 0 ∨ rel = 1 ∨ rel = 2 ∨ rel = 3 ∨ rel = 4 ∨ rel = 5 := by omega
  rcases hr with rfl | rfl | rfl | rfl | rfl | rfl
  all_goals
    go_enter Oafg.func23, Oafg.ntmps23
    go_wp2
    all_goals
      go_ret
      refine ⟨?_, rfl⟩
      simp_all [relS]

theorem ordS_cases (na nb : Bool) (ca cb ra rb : Nat) : ordS na nb ca cb ra rb = 2 ∨ ordS na nb ca cb ra rb = 0 ∨ ordS na nb ca cb ra rb = -1 ∨ ordS na nb ca cb ra rb = 1 := by
  unfold ordS ordR
  repeat' split
  all_goals simp

theorem tst_relS (rel : Nat) (o : Int) (h : rel < 6) (ho : o = 2 ∨ o = 0 ∨ o = -1 ∨ o = 1) : tst rel (ordOf o) = relS rel o := by
  have hr : rel = 0 ∨ rel = 1 ∨ rel = 2 ∨ rel = 3 ∨ rel = 4 ∨ rel = 5 := by omega
  rcases hr with rfl | rfl | rfl | rfl | rfl | rfl <;> rcases ho with rfl | rfl | rfl | rfl <;> decide

set_option maxHeartbeats 400000 in
/-- THE LAW: Go's six comparisons are what soft.Cmp says. -/
theorem nTest_walk (rel a b c d : Nat) (h1 : a < 18446744073709551616) (h2 : b < 18446744073709551616) (h3 : c < 4294967296) (h4 : d < 4294967296) (w : World) :
    Calls Oafg.prog 5 #[.int .u8 rel, .int .u64 a, .int .u64 b, .int .u32 c, .int .u32 d] w fun e w' => e = .returned (.bool true) ∧ Below w.heap.size w w' := by
  obtain ⟨r, hr⟩ : ∃ r : Nat, r = rel % 6 := ⟨_, rfl⟩
  have hr6 : r < 6 := by omega
  have hri : (rel : Int) % 6 = (r : Int) := by omega
  have e1 : tst r (FloatKind.f64.format.order a b) = relS r (ordS (uNeg 11 52 a) (uNeg 11 52 b) (uCls 11 52 a) (uCls 11 52 b) (a % 2 ^ (11 + 52)) (b % 2 ^ (11 + 52))) := by
    rw [← tst_relS r _ hr6 (ordS_cases ..), ← order_eq 11 52 a b (by decide)]; rfl
  have e2 : tst r (FloatKind.f32.format.order c d) = relS r (ordS (uNeg 8 23 c) (uNeg 8 23 d) (uCls 8 23 c) (uCls 8 23 d) (c % 2 ^ (8 + 23)) (d % 2 ^ (8 + 23))) := by
    rw [← tst_relS r _ hr6 (ordS_cases ..), ← order_eq 8 23 c d (by decide)]; rfl
  have k1 := fun w => cmp_yes (E := 11) (M := 52) (by decide) (by decide) (by decide) (by decide) a b h1 h2 w
  have k2 := fun w => cmp_yes (E := 8) (M := 23) (by decide) (by decide) (by decide) (by decide) c d (by omega) (by omega) w
  generalize ordS (uNeg 11 52 a) (uNeg 11 52 b) (uCls 11 52 a) (uCls 11 52 b) (a % 2 ^ (11 + 52)) (b % 2 ^ (11 + 52)) = o1 at *
  generalize ordS (uNeg 8 23 c) (uNeg 8 23 d) (uCls 8 23 c) (uCls 8 23 d) (c % 2 ^ (8 + 23)) (d % 2 ^ (8 + 23)) = o2 at *
  have K1 : Hid _ := k1
  have K2 : Hid _ := k2
  clear k1 k2 hr
  go_enter Oafg.func5, Oafg.ntmps5
  go_wp2_with (first
    | (go_at_call 22; refine (test64_any r a b hr6 _).mono ?_; rintro e w' ⟨rfl, rfl⟩; rw [e1])
    | (go_at_call 25; refine (test32_any r c d hr6 _).mono ?_; rintro e w' ⟨rfl, rfl⟩; rw [e2])
    | (go_at_call 20; refine (binary64_any _).mono ?_; rintro e w1 ⟨rfl, hb1⟩)
    | (go_at_call 17; refine (binary32_any _).mono ?_; rintro e w3 ⟨rfl, hb3⟩)
    | (go_at_call_of 24 (Value.int .u64 a); refine (K1.out _).mono ?_; rintro e w2 ⟨rfl, hb2⟩)
    | (go_at_call_of 24 (Value.int .u64 c); refine (K2.out _).mono ?_; rintro e w4 ⟨rfl, hb4⟩)
    | (go_at_call_of 23 (Value.int .i8 o1); refine (relHolds_any r o1 hr6 _).mono ?_; rintro e w' ⟨rfl, rfl⟩)
    | (go_at_call_of 23 (Value.int .i8 o2); refine (relHolds_any r o2 hr6 _).mono ?_; rintro e w' ⟨rfl, rfl⟩))
  go_ret
  exact ⟨rfl, hb1.trans ((hb2.mono hb1.size).trans ((hb3.mono (Nat.le_trans hb1.size hb2.size)).trans (hb4.mono (Nat.le_trans hb1.size (Nat.le_trans hb2.size hb3.size)))))⟩
end Go.Proofs.Ygcoaf
