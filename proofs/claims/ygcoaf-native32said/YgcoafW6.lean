/-
  WALKS, the sixth: put, Neg, Abs, and the law NativeSign.
-/
import Derived.Test.YgcoafW5
namespace Go.Proofs.Ygcoaf
open Go.RowKit

/-- the pattern of a float, THE NaN for a NaN -/
def putV (E M x : Nat) : Nat := if infR E M < x % 2 ^ (E + M) then nanR E M else x

theorem order_self (E M x : Nat) (hE : 2 ≤ E) : (Ieee.Format.mk E M).order x x = if infR E M < x % 2 ^ (E + M) then none else some .eq := by
  rw [order_eq E M x x hE]
  by_cases h : infR E M < x % 2 ^ (E + M)
  · rw [if_pos h]; simp [ordS, (cls_nan E M x).2 h, ordOf]
  · rw [if_neg h]
    have hc : uCls E M x ≠ 4 := fun c => h ((cls_nan E M x).1 c)
    simp [ordS, hc, ordR, ordOf]

theorem put64_any (x : Nat) (w : World) : Calls Oafg.prog 66 #[.float .f64 x] w fun e w' => e = .returned (.int .u64 (putV 11 52 x)) ∧ w = w' := by
  have h : FloatKind.f64.format.order x x = if infR 11 52 < x % 2 ^ (11 + 52) then none else some .eq := order_self 11 52 x (by decide)
  unfold putV
  by_cases c : infR 11 52 < x % 2 ^ (11 + 52)
  · rw [if_pos c] at h ⊢
    clear c
    go_enter Oafg.func66, Oafg.ntmps66
    go_wp2
    go_ret
    exact ⟨rfl, rfl⟩
  · rw [if_neg c] at h ⊢
    clear c
    go_enter Oafg.func66, Oafg.ntmps66
    go_wp2_with (go_at_call 106; refine (bits64_any _ _).mono ?_; rintro e w' ⟨rfl, rfl⟩)
    go_ret
    exact ⟨rfl, rfl⟩
theorem put32_any (x : Nat) (w : World) : Calls Oafg.prog 61 #[.float .f32 x] w fun e w' => e = .returned (.int .u32 (putV 8 23 x)) ∧ w = w' := by
  have h : FloatKind.f32.format.order x x = if infR 8 23 < x % 2 ^ (8 + 23) then none else some .eq := order_self 8 23 x (by decide)
  unfold putV
  by_cases c : infR 8 23 < x % 2 ^ (8 + 23)
  · rw [if_pos c] at h ⊢
    clear c
    go_enter Oafg.func61, Oafg.ntmps61
    go_wp2
    go_ret
    exact ⟨rfl, rfl⟩
  · rw [if_neg c] at h ⊢
    clear c
    go_enter Oafg.func61, Oafg.ntmps61
    go_wp2_with (go_at_call 101; refine (bits32_any _ _).mono ?_; rintro e w' ⟨rfl, rfl⟩)
    go_ret
    exact ⟨rfl, rfl⟩

theorem neg64_any (x : Nat) (w : World) : Calls Oafg.prog 40 #[.int .u64 x] w fun e w' => e = .returned (.int .u64 (putV 11 52 (x ^^^ 2 ^ 63))) ∧ w = w' := by
  have h : ∀ w, (Op.unary .neg (.float .f64 x)).run Oafg.prog w = .ok (.float .f64 (x ^^^ 2 ^ 63)) w := fun _ => rfl
  generalize x ^^^ 2 ^ 63 = y at *
  go_enter Oafg.func40, Oafg.ntmps40
  go_wp2_with (first | (go_at_call 68; refine (from64_any _ _).mono ?_; rintro e w' ⟨rfl, rfl⟩) | (go_at_call 66; refine (put64_any _ _).mono ?_; rintro e w' ⟨rfl, rfl⟩))
  go_ret
  exact ⟨rfl, rfl⟩
theorem neg32_any (x : Nat) (w : World) : Calls Oafg.prog 42 #[.int .u32 x] w fun e w' => e = .returned (.int .u32 (putV 8 23 (x ^^^ 2 ^ 31))) ∧ w = w' := by
  have h : ∀ w, (Op.unary .neg (.float .f32 x)).run Oafg.prog w = .ok (.float .f32 (x ^^^ 2 ^ 31)) w := fun _ => rfl
  generalize x ^^^ 2 ^ 31 = y at *
  go_enter Oafg.func42, Oafg.ntmps42
  go_wp2_with (first | (go_at_call 60; refine (from32_any _ _).mono ?_; rintro e w' ⟨rfl, rfl⟩) | (go_at_call 61; refine (put32_any _ _).mono ?_; rintro e w' ⟨rfl, rfl⟩))
  go_ret
  exact ⟨rfl, rfl⟩

/-- what Go's Abs comes to -/
def absV (E M x : Nat) : Nat := if (Ieee.Format.mk E M).order x 0 = some .lt then putV E M (x ^^^ 2 ^ (E + M)) else if (Ieee.Format.mk E M).order x 0 = some .eq then putV E M 0 else putV E M x

theorem abs64_any (x : Nat) (w : World) : Calls Oafg.prog 41 #[.int .u64 x] w fun e w' => e = .returned (.int .u64 (absV 11 52 x)) ∧ w = w' := by
  have h : ∀ w, (Op.unary .neg (.float .f64 x)).run Oafg.prog w = .ok (.float .f64 (x ^^^ 2 ^ (11 + 52))) w := fun _ => rfl
  have h0 : FloatKind.f64.format.order x 0 = (Ieee.Format.mk 11 52).order x 0 := rfl
  unfold absV
  generalize x ^^^ 2 ^ (11 + 52) = y at *
  generalize (Ieee.Format.mk 11 52).order x 0 = o at *
  rcases o with _ | o
  · go_enter Oafg.func41, Oafg.ntmps41
    go_wp2_with (first | (go_at_call 68; refine (from64_any _ _).mono ?_; rintro e w' ⟨rfl, rfl⟩) | (go_at_call 66; refine (put64_any _ _).mono ?_; rintro e w' ⟨rfl, rfl⟩))
    go_ret
    exact ⟨rfl, rfl⟩
  · cases o
    all_goals
      go_enter Oafg.func41, Oafg.ntmps41
      go_wp2_with (first | (go_at_call 68; refine (from64_any _ _).mono ?_; rintro e w' ⟨rfl, rfl⟩) | (go_at_call 66; refine (put64_any _ _).mono ?_; rintro e w' ⟨rfl, rfl⟩))
      go_ret
      exact ⟨rfl, rfl⟩
theorem abs32_any (x : Nat) (w : World) : Calls Oafg.prog 43 #[.int .u32 x] w fun e w' => e = .returned (.int .u32 (absV 8 23 x)) ∧ w = w' := by
  have h : ∀ w, (Op.unary .neg (.float .f32 x)).run Oafg.prog w = .ok (.float .f32 (x ^^^ 2 ^ (8 + 23))) w := fun _ => rfl
  have h0 : FloatKind.f32.format.order x 0 = (Ieee.Format.mk 8 23).order x 0 := rfl
  unfold absV
  generalize x ^^^ 2 ^ (8 + 23) = y at *
  generalize (Ieee.Format.mk 8 23).order x 0 = o at *
  rcases o with _ | o
  · go_enter Oafg.func43, Oafg.ntmps43
    go_wp2_with (first | (go_at_call 60; refine (from32_any _ _).mono ?_; rintro e w' ⟨rfl, rfl⟩) | (go_at_call 61; refine (put32_any _ _).mono ?_; rintro e w' ⟨rfl, rfl⟩))
    go_ret
    exact ⟨rfl, rfl⟩
  · cases o
    all_goals
      go_enter Oafg.func43, Oafg.ntmps43
      go_wp2_with (first | (go_at_call 60; refine (from32_any _ _).mono ?_; rintro e w' ⟨rfl, rfl⟩) | (go_at_call 61; refine (put32_any _ _).mono ?_; rintro e w' ⟨rfl, rfl⟩))
      go_ret
      exact ⟨rfl, rfl⟩

/-! ### the plain laws -/
theorem xor_top (n x : Nat) (h : x < 2 ^ (n + 1)) : (x ^^^ 2 ^ n) % 2 ^ n = x % 2 ^ n ∧ (2 ^ n ≤ x → x ^^^ 2 ^ n = x - 2 ^ n) ∧ (x < 2 ^ n → x ^^^ 2 ^ n = x + 2 ^ n) := by
  have e : 2 ^ n % 2 ^ n = 0 := Nat.mod_self _
  have h1 : (x ^^^ 2 ^ n) % 2 ^ n = x % 2 ^ n := by rw [Nat.xor_mod_two_pow, e, Nat.xor_zero]
  have h2 : (x ^^^ 2 ^ n) / 2 ^ n = (x / 2 ^ n) ^^^ 1 := by rw [Nat.xor_div_two_pow, Nat.div_self (Nat.two_pow_pos n)]
  have hp : 2 ^ (n + 1) = 2 * 2 ^ n := by rw [Nat.pow_succ]; omega
  have h3 := Nat.div_add_mod x (2 ^ n)
  have h4 := Nat.div_add_mod (x ^^^ 2 ^ n) (2 ^ n)
  have h5 : x % 2 ^ n < 2 ^ n := Nat.mod_lt _ (Nat.two_pow_pos n)
  refine ⟨h1, fun c => ?_, fun c => ?_⟩
  · have q : x / 2 ^ n = 1 := by
      apply Nat.le_antisymm
      · exact Nat.le_of_lt_succ ((Nat.div_lt_iff_lt_mul (Nat.two_pow_pos n)).2 (by omega))
      · exact (Nat.le_div_iff_mul_le (Nat.two_pow_pos n)).2 (by omega)
    rw [h2, q, h1] at h4
    rw [q] at h3
    simp at h4 h3
    omega
  · have q : x / 2 ^ n = 0 := Nat.div_eq_of_lt c
    rw [h2, q, h1] at h4
    rw [q] at h3
    simp at h4 h3
    omega

theorem neg_law (E M x : Nat) (h : x < 2 ^ (E + M + 1)) : putV E M (x ^^^ 2 ^ (E + M)) = if uCls E M x = 4 then nanR E M else x ^^^ 2 ^ (E + M) := by
  unfold putV
  rw [(xor_top (E + M) x h).1]
  by_cases c : infR E M < x % 2 ^ (E + M)
  · rw [if_pos c, if_pos ((cls_nan E M x).2 c)]
  · rw [if_neg c, if_neg (fun k => c ((cls_nan E M x).1 k))]

theorem abs_law (E M x : Nat) (hE : 2 ≤ E) (h : x < 2 ^ (E + M + 1)) : absV E M x = if uCls E M x = 4 then nanR E M else x % 2 ^ (E + M) := by
  obtain ⟨x1, x2, x3⟩ := xor_top (E + M) x h
  have hi : 0 < infR E M := Nat.lt_of_lt_of_le (Nat.two_pow_pos M) (binade_le E M hE)
  have hp := Nat.two_pow_pos (E + M)
  have hp1 : 2 ^ (E + M + 1) = 2 * 2 ^ (E + M) := by rw [Nat.pow_succ]; omega
  have hdm := Nat.div_add_mod x (2 ^ (E + M))
  have hq : x / 2 ^ (E + M) < 2 := (Nat.div_lt_iff_lt_mul hp).2 (by omega)
  have hm : x % 2 ^ (E + M) < 2 ^ (E + M) := Nat.mod_lt _ hp
  have c0 : uCls E M 0 ≠ 4 := by rw [Ne, cls_nan]; simp
  have z0 : 0 % 2 ^ (E + M) = 0 := Nat.zero_mod _
  unfold absV
  rw [order_eq E M x 0 hE]
  by_cases c : infR E M < x % 2 ^ (E + M)
  · have c4 := (cls_nan E M x).2 c
    have : ordOf (ordS (uNeg E M x) (uNeg E M 0) (uCls E M x) (uCls E M 0) (x % 2 ^ (E + M)) (0 % 2 ^ (E + M))) = none := by simp [ordS, c4, ordOf]
    rw [this, if_pos c4]
    simp [putV, c]
  · have c4 : uCls E M x ≠ 4 := fun k => c ((cls_nan E M x).1 k)
    rw [if_neg c4]
    have hn : uNeg E M x = sF E M x := by unfold uNeg; rw [if_neg c4]
    have hn0 : uNeg E M 0 = false := by unfold uNeg; rw [if_neg c0]; unfold sF; rw [Nat.zero_div]; rfl
    have hS : ordS (uNeg E M x) (uNeg E M 0) (uCls E M x) (uCls E M 0) (x % 2 ^ (E + M)) (0 % 2 ^ (E + M)) = ordR (sF E M x) false (x % 2 ^ (E + M)) 0 := by
      unfold ordS; rw [if_neg (by omega), hn, hn0, z0]
    rw [hS]
    by_cases r0 : x % 2 ^ (E + M) = 0
    · have : ordR (sF E M x) false (x % 2 ^ (E + M)) 0 = 0 := by simp [ordR, r0]
      rw [this, r0]
      have e1 : ordOf 0 = some .eq := by decide
      rw [e1]
      simp [putV]
    · by_cases s : 2 ^ (E + M) ≤ x
      · have q1 : x / 2 ^ (E + M) = 1 := by
          have : 1 ≤ x / 2 ^ (E + M) := (Nat.le_div_iff_mul_le hp).2 (by omega)
          omega
        have sT : sF E M x = true := by unfold sF; rw [q1]; rfl
        have : ordR (sF E M x) false (x % 2 ^ (E + M)) 0 = -1 := by simp [ordR, r0, sT]
        rw [this]
        have e1 : ordOf (-1) = some .lt := by decide
        rw [e1, if_pos rfl, putV, x1, if_neg c, x2 s]
        rw [q1] at hdm
        omega
      · have q1 : x / 2 ^ (E + M) = 0 := Nat.div_eq_of_lt (by omega)
        have sT : sF E M x = false := by unfold sF; rw [q1]; rfl
        have : ordR (sF E M x) false (x % 2 ^ (E + M)) 0 = 1 := by simp [ordR, r0, sT]
        rw [this]
        have e1 : ordOf 1 = some .gt := by decide
        rw [e1, if_neg (by decide), if_neg (by decide), putV, if_neg c]
        exact (Nat.mod_eq_of_lt (by omega)).symm

set_option maxHeartbeats 800000 in
/-- THE LAW: Neg and Abs turn and clear the sign bit; NaN stays THE NaN. -/
theorem nSign_walk (a b : Nat) (ha : a < 18446744073709551616) (hb : b < 4294967296) (w : World) :
    Calls Oafg.prog 7 #[.int .u64 a, .int .u32 b] w fun e w' => e = .returned (.bool true) ∧ Below w.heap.size w w' := by
  have ha' : a < 2 ^ (11 + 52 + 1) := Nat.lt_of_lt_of_eq ha (by decide)
  have hb' : b < 2 ^ (8 + 23 + 1) := Nat.lt_of_lt_of_eq hb (by decide)
  have n1 := neg_law 11 52 a ha'
  have n2 := abs_law 11 52 a (by decide) ha'
  have n3 := neg_law 8 23 b hb'
  have n4 := abs_law 8 23 b (by decide) hb'
  clear ha' hb'
  have g1 : bits .xor .u64 (a : Int) 9223372036854775808 = ((a ^^^ 2 ^ 63 : Nat) : Int) := by
    rw [← u64_xor_nat a (2 ^ 63) ha (by decide)]; congr 1
  have g2 : bits .andNot .u64 (a : Int) 9223372036854775808 = ((a % 2 ^ 63 : Nat) : Int) := by
    have := u64_andNot_nat a 9223372036854775808 ha (by decide)
    have e : (18446744073709551615 - 9223372036854775808 : Nat) = 2 ^ 63 - 1 := by decide
    rw [e, Nat.and_two_pow_sub_one_eq_mod] at this
    simpa using this
  have g3 : bits .xor .u32 (b : Int) 2147483648 = ((b ^^^ 2 ^ 31 : Nat) : Int) := by
    rw [← u32_xor_nat b (2 ^ 31) hb (by decide)]; congr 1
  have g4 : bits .andNot .u32 (b : Int) 2147483648 = ((b % 2 ^ 31 : Nat) : Int) := by
    have := u32_andNot_nat b 2147483648 hb (by decide)
    have e : (4294967295 - 2147483648 : Nat) = 2 ^ 31 - 1 := by decide
    rw [e, Nat.and_two_pow_sub_one_eq_mod] at this
    simpa using this
  have l1 : b ^^^ 2 ^ 31 < 4294967296 := Nat.xor_lt_two_pow (n := 32) hb (by decide)
  have l2 : b % 2 ^ 31 < 4294967296 := by omega
  have l3 : nanR 8 23 < 4294967296 := by decide
  have q1 := fun w => neg64_any a w
  have q2 := fun w => abs64_any a w
  have q3 := fun w => neg32_any b w
  have q4 := fun w => abs32_any b w
  rw [show (11 + 52 : Nat) = 63 from rfl] at n1 n2
  rw [show (8 + 23 : Nat) = 31 from rfl] at n3 n4
  rw [n1] at q1
  rw [n2] at q2
  rw [n3] at q3
  rw [n4] at q4
  have kc1 := fun w => classOf_yes (E := 11) (M := 52) (by decide) (by decide) (by decide) (by decide) a ha w
  have kc2 := fun w => classOf_yes (E := 8) (M := 23) (by decide) (by decide) (by decide) (by decide) b (by omega) w
  have kn1 := fun w => nanOf_yes (E := 11) (M := 52) (by decide) (by decide) (by decide) (by decide) w
  have kn2 := fun w => nanOf_yes (E := 8) (M := 23) (by decide) (by decide) (by decide) (by decide) w
  have N1 : Hid _ := kn1
  have N2 : Hid _ := kn2
  clear kn1 kn2 n1 n2 n3 n4
  generalize a ^^^ 2 ^ 63 = xa at *
  generalize a % 2 ^ 63 = ya at *
  generalize b ^^^ 2 ^ 31 = xb at *
  generalize b % 2 ^ 31 = yb at *
  generalize uCls 11 52 a = ca at *
  generalize uCls 8 23 b = cb at *
  generalize nanR 11 52 = na at *
  generalize nanR 8 23 = nb at *
  have C1 : Hid _ := kc1
  have C2 : Hid _ := kc2
  clear kc1 kc2
  have B := Below.refl w.heap.size w
  by_cases c1 : ca = 4
  · simp only [if_pos c1] at q1 q2
    have Q1 : Hid _ := q1
    have Q2 : Hid _ := q2
    clear q1 q2
    have hc1 : ((ca : Int) == 4) = true := by simp [c1]
    clear c1
    by_cases c2 : cb = 4
    · simp only [if_pos c2] at q3 q4
      have Q3 : Hid _ := q3
      have Q4 : Hid _ := q4
      clear q3 q4
      have hc2 : ((cb : Int) == 4) = true := by simp [c2]
      clear c2
      go_enter Oafg.func7, Oafg.ntmps7
      go_wp2_with (first
        | (go_at_call 20; refine (binary64_any _).mono ?_; rintro e w1 ⟨rfl, hb1⟩; have B := bt B hb1; clear hb1)
        | (go_at_call 17; refine (binary32_any _).mono ?_; rintro e w1 ⟨rfl, hb1⟩; have B := bt B hb1; clear hb1)
        | (go_at_call_of 38 (Value.int .u64 a); refine (C1.out _).mono ?_; rintro e w1 ⟨rfl, hb1⟩; have B := bt B hb1; clear hb1)
        | (go_at_call_of 38 (Value.int .u64 b); refine (C2.out _).mono ?_; rintro e w1 ⟨rfl, hb1⟩; have B := bt B hb1; clear hb1)
        | (go_at_call_of 39 (Value.agg #[Value.int .u8 11, Value.int .u8 52]); refine (N1.out _).mono ?_; rintro e w1 ⟨rfl, hb1⟩; have B := bt B hb1; clear hb1)
        | (go_at_call_of 39 (Value.agg #[Value.int .u8 8, Value.int .u8 23]); refine (N2.out _).mono ?_; rintro e w1 ⟨rfl, hb1⟩; have B := bt B hb1; clear hb1)
        | (go_at_call 40; refine (Q1.out _).mono ?_; rintro e w1 ⟨rfl, rfl⟩)
        | (go_at_call 41; refine (Q2.out _).mono ?_; rintro e w1 ⟨rfl, rfl⟩)
        | (go_at_call 42; refine (Q3.out _).mono ?_; rintro e w1 ⟨rfl, rfl⟩)
        | (go_at_call 43; refine (Q4.out _).mono ?_; rintro e w1 ⟨rfl, rfl⟩))
      go_ret
      exact ⟨rfl, B⟩
    · simp only [if_neg c2] at q3 q4
      have Q3 : Hid _ := q3
      have Q4 : Hid _ := q4
      clear q3 q4
      have hc2 : ((cb : Int) == 4) = false := by simp; omega
      clear c2
      go_enter Oafg.func7, Oafg.ntmps7
      go_wp2_with (first
        | (go_at_call 20; refine (binary64_any _).mono ?_; rintro e w1 ⟨rfl, hb1⟩; have B := bt B hb1; clear hb1)
        | (go_at_call 17; refine (binary32_any _).mono ?_; rintro e w1 ⟨rfl, hb1⟩; have B := bt B hb1; clear hb1)
        | (go_at_call_of 38 (Value.int .u64 a); refine (C1.out _).mono ?_; rintro e w1 ⟨rfl, hb1⟩; have B := bt B hb1; clear hb1)
        | (go_at_call_of 38 (Value.int .u64 b); refine (C2.out _).mono ?_; rintro e w1 ⟨rfl, hb1⟩; have B := bt B hb1; clear hb1)
        | (go_at_call_of 39 (Value.agg #[Value.int .u8 11, Value.int .u8 52]); refine (N1.out _).mono ?_; rintro e w1 ⟨rfl, hb1⟩; have B := bt B hb1; clear hb1)
        | (go_at_call_of 39 (Value.agg #[Value.int .u8 8, Value.int .u8 23]); refine (N2.out _).mono ?_; rintro e w1 ⟨rfl, hb1⟩; have B := bt B hb1; clear hb1)
        | (go_at_call 40; refine (Q1.out _).mono ?_; rintro e w1 ⟨rfl, rfl⟩)
        | (go_at_call 41; refine (Q2.out _).mono ?_; rintro e w1 ⟨rfl, rfl⟩)
        | (go_at_call 42; refine (Q3.out _).mono ?_; rintro e w1 ⟨rfl, rfl⟩)
        | (go_at_call 43; refine (Q4.out _).mono ?_; rintro e w1 ⟨rfl, rfl⟩))
      go_ret
      exact ⟨rfl, B⟩
  · simp only [if_neg c1] at q1 q2
    have Q1 : Hid _ := q1
    have Q2 : Hid _ := q2
    clear q1 q2
    have hc1 : ((ca : Int) == 4) = false := by simp; omega
    clear c1
    by_cases c2 : cb = 4
    · simp only [if_pos c2] at q3 q4
      have Q3 : Hid _ := q3
      have Q4 : Hid _ := q4
      clear q3 q4
      have hc2 : ((cb : Int) == 4) = true := by simp [c2]
      clear c2
      go_enter Oafg.func7, Oafg.ntmps7
      go_wp2_with (first
        | (go_at_call 20; refine (binary64_any _).mono ?_; rintro e w1 ⟨rfl, hb1⟩; have B := bt B hb1; clear hb1)
        | (go_at_call 17; refine (binary32_any _).mono ?_; rintro e w1 ⟨rfl, hb1⟩; have B := bt B hb1; clear hb1)
        | (go_at_call_of 38 (Value.int .u64 a); refine (C1.out _).mono ?_; rintro e w1 ⟨rfl, hb1⟩; have B := bt B hb1; clear hb1)
        | (go_at_call_of 38 (Value.int .u64 b); refine (C2.out _).mono ?_; rintro e w1 ⟨rfl, hb1⟩; have B := bt B hb1; clear hb1)
        | (go_at_call_of 39 (Value.agg #[Value.int .u8 11, Value.int .u8 52]); refine (N1.out _).mono ?_; rintro e w1 ⟨rfl, hb1⟩; have B := bt B hb1; clear hb1)
        | (go_at_call_of 39 (Value.agg #[Value.int .u8 8, Value.int .u8 23]); refine (N2.out _).mono ?_; rintro e w1 ⟨rfl, hb1⟩; have B := bt B hb1; clear hb1)
        | (go_at_call 40; refine (Q1.out _).mono ?_; rintro e w1 ⟨rfl, rfl⟩)
        | (go_at_call 41; refine (Q2.out _).mono ?_; rintro e w1 ⟨rfl, rfl⟩)
        | (go_at_call 42; refine (Q3.out _).mono ?_; rintro e w1 ⟨rfl, rfl⟩)
        | (go_at_call 43; refine (Q4.out _).mono ?_; rintro e w1 ⟨rfl, rfl⟩))
      go_ret
      exact ⟨rfl, B⟩
    · simp only [if_neg c2] at q3 q4
      have Q3 : Hid _ := q3
      have Q4 : Hid _ := q4
      clear q3 q4
      have hc2 : ((cb : Int) == 4) = false := by simp; omega
      clear c2
      go_enter Oafg.func7, Oafg.ntmps7
      go_wp2_with (first
        | (go_at_call 20; refine (binary64_any _).mono ?_; rintro e w1 ⟨rfl, hb1⟩; have B := bt B hb1; clear hb1)
        | (go_at_call 17; refine (binary32_any _).mono ?_; rintro e w1 ⟨rfl, hb1⟩; have B := bt B hb1; clear hb1)
        | (go_at_call_of 38 (Value.int .u64 a); refine (C1.out _).mono ?_; rintro e w1 ⟨rfl, hb1⟩; have B := bt B hb1; clear hb1)
        | (go_at_call_of 38 (Value.int .u64 b); refine (C2.out _).mono ?_; rintro e w1 ⟨rfl, hb1⟩; have B := bt B hb1; clear hb1)
        | (go_at_call_of 39 (Value.agg #[Value.int .u8 11, Value.int .u8 52]); refine (N1.out _).mono ?_; rintro e w1 ⟨rfl, hb1⟩; have B := bt B hb1; clear hb1)
        | (go_at_call_of 39 (Value.agg #[Value.int .u8 8, Value.int .u8 23]); refine (N2.out _).mono ?_; rintro e w1 ⟨rfl, hb1⟩; have B := bt B hb1; clear hb1)
        | (go_at_call 40; refine (Q1.out _).mono ?_; rintro e w1 ⟨rfl, rfl⟩)
        | (go_at_call 41; refine (Q2.out _).mono ?_; rintro e w1 ⟨rfl, rfl⟩)
        | (go_at_call 42; refine (Q3.out _).mono ?_; rintro e w1 ⟨rfl, rfl⟩)
        | (go_at_call 43; refine (Q4.out _).mono ?_; rintro e w1 ⟨rfl, rfl⟩))
      go_ret
      exact ⟨rfl, B⟩

end Go.Proofs.Ygcoaf
