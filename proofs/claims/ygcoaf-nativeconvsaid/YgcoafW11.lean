/-
  WALKS, the eleventh: whole numbers to floats and back, and the law NativeConv.
-/
import Derived.Test.YgcoafW10
namespace Go.Proofs.Ygcoaf
open Go.RowKit

theorem nFromInt64 (i : Int) (w : World) : Calls Oafg.prog 29 #[.int .i64 i] w fun e w' => e = .returned (.int .u64 (((Ieee.Format.mk 11 52).nearest (decide (i < 0)) i.natAbs 0 : Nat) : Int)) ∧ w = w' := by
  have hc : ∀ w, (convert 2 89 (.int .i64 i)).run Oafg.prog w = .ok (.float .f64 ((Ieee.Format.mk 11 52).nearest (decide (i < 0)) i.natAbs 0)) w := fun w => by
    simp [convert, run_underlying Oafg.underlying89, run_underlying Oafg.underlying2, Conv.intToFloat]; rfl
  have hp := putV_nearest 11 52 (decide (i < 0)) i.natAbs 0
  generalize (Ieee.Format.mk 11 52).nearest (decide (i < 0)) i.natAbs 0 = N at *
  have HP : Hid _ := hp
  clear hp
  go_enter Oafg.func29, Oafg.ntmps29
  go_wp2_with (go_at_call 66; refine (put64_any N _).mono ?_; rintro e w' ⟨rfl, rfl⟩)
  go_ret
  exact ⟨ret_int (congrArg Nat.cast HP.out), rfl⟩
theorem nFromInt64To32 (i : Int) (w : World) : Calls Oafg.prog 31 #[.int .i64 i] w fun e w' => e = .returned (.int .u32 (((Ieee.Format.mk 8 23).nearest (decide (i < 0)) i.natAbs 0 : Nat) : Int)) ∧ w = w' := by
  have hc : ∀ w, (convert 2 84 (.int .i64 i)).run Oafg.prog w = .ok (.float .f32 ((Ieee.Format.mk 8 23).nearest (decide (i < 0)) i.natAbs 0)) w := fun w => by
    simp [convert, run_underlying Oafg.underlying84, run_underlying Oafg.underlying2, Conv.intToFloat]; rfl
  have hp := putV_nearest 8 23 (decide (i < 0)) i.natAbs 0
  generalize (Ieee.Format.mk 8 23).nearest (decide (i < 0)) i.natAbs 0 = N at *
  have HP : Hid _ := hp
  clear hp
  go_enter Oafg.func31, Oafg.ntmps31
  go_wp2_with (go_at_call 61; refine (put32_any N _).mono ?_; rintro e w' ⟨rfl, rfl⟩)
  go_ret
  exact ⟨ret_int (congrArg Nat.cast HP.out), rfl⟩
theorem nFromUint64 (u : Nat) (w : World) : Calls Oafg.prog 32 #[.int .u64 u] w fun e w' => e = .returned (.int .u64 (((Ieee.Format.mk 11 52).nearest false u 0 : Nat) : Int)) ∧ w = w' := by
  have hc : ∀ w, (convert 23 89 (.int .u64 u)).run Oafg.prog w = .ok (.float .f64 ((Ieee.Format.mk 11 52).nearest false u 0)) w := fun w => by
    have h0 : decide ((u : Int) < 0) = false := by simp
    simp [convert, run_underlying Oafg.underlying89, run_underlying Oafg.underlying23, Conv.intToFloat, FloatKind.nearest, h0]; rfl
  have hp := putV_nearest 11 52 false u 0
  generalize (Ieee.Format.mk 11 52).nearest false u 0 = N at *
  have HP : Hid _ := hp
  clear hp
  go_enter Oafg.func32, Oafg.ntmps32
  go_wp2_with (go_at_call 66; refine (put64_any N _).mono ?_; rintro e w' ⟨rfl, rfl⟩)
  go_ret
  exact ⟨ret_int (congrArg Nat.cast HP.out), rfl⟩
theorem nFromUint64To32 (u : Nat) (w : World) : Calls Oafg.prog 34 #[.int .u64 u] w fun e w' => e = .returned (.int .u32 (((Ieee.Format.mk 8 23).nearest false u 0 : Nat) : Int)) ∧ w = w' := by
  have hc : ∀ w, (convert 23 84 (.int .u64 u)).run Oafg.prog w = .ok (.float .f32 ((Ieee.Format.mk 8 23).nearest false u 0)) w := fun w => by
    have h0 : decide ((u : Int) < 0) = false := by simp
    simp [convert, run_underlying Oafg.underlying84, run_underlying Oafg.underlying23, Conv.intToFloat, FloatKind.nearest, h0]; rfl
  have hp := putV_nearest 8 23 false u 0
  generalize (Ieee.Format.mk 8 23).nearest false u 0 = N at *
  have HP : Hid _ := hp
  clear hp
  go_enter Oafg.func34, Oafg.ntmps34
  go_wp2_with (go_at_call 61; refine (put32_any N _).mono ?_; rintro e w' ⟨rfl, rfl⟩)
  go_ret
  exact ⟨ret_int (congrArg Nat.cast HP.out), rfl⟩

/-! ### toward zero: the plain law -/
theorem cut_zero (neg : Bool) (n drop : Nat) : Ieee.Toward.zero.cut neg n drop = n / 2 ^ drop := by
  unfold Ieee.Toward.cut
  simp only [Nat.one_shiftLeft, Bool.toNat_false, Nat.add_zero]
  by_cases h : drop ≤ n.log2 + 2
  · rw [Nat.min_eq_left h]
  · have hn : n < 2 ^ (n.log2 + 1) := Nat.lt_log2_self
    have h1 : 2 ^ (n.log2 + 1) ≤ 2 ^ (n.log2 + 2) := two_pow_le (by omega)
    have h2 : 2 ^ (n.log2 + 2) ≤ 2 ^ drop := two_pow_le (by omega)
    rw [Nat.min_eq_right (by omega), Nat.div_eq_of_lt (by omega), Nat.div_eq_of_lt (by omega)]

theorem toInt_trunc (s : Bool) (m : Nat) (i : Int) : (Ieee.Datum.number s m i).toInt .zero = some (sv s (truncN i m)) := by
  unfold Ieee.Datum.toInt Ieee.Datum.integral
  simp only [cut_zero, Nat.shiftLeft_eq, signed_eq, Nat.pow_zero, Nat.mul_one]
  congr 2
  unfold truncN
  split
  · have : (-i).toNat = 0 := by omega
    rw [this]; simp
  · have : i.toNat = 0 := by omega
    rw [this]; simp

/-- the whole part, by the model's number or by the parts -/
theorem trunc_parts (E M x : Nat) (hb : 3 ≤ biasN E) (m : Nat) (i : Int) (hm : m = 0 ↔ uMan E M x = 0) (hc : m = uMan E M x ∧ i = uExp E M x ∨ m < 2 ^ M ∧ i = lo E - M ∧ (m = 0 ∨ uExp E M x < lo E - M))
    (hu : uMan E M x < 2 ^ (M + 1)) : truncN i m = truncN (uExp E M x) (uMan E M x) := by
  rcases hc with ⟨rfl, rfl⟩ | ⟨a, b, c⟩
  · rfl
  · have hi : i < 0 := by rw [b]; unfold lo; omega
    have hz : truncN i m = 0 := by
      unfold truncN; rw [if_neg (by omega)]
      apply Nat.div_eq_of_lt
      exact Nat.lt_of_lt_of_le a (two_pow_le (by rw [b]; unfold lo; omega))
    rw [hz]
    rcases c with c | c
    · unfold truncN; rw [hm.1 c]; split <;> simp
    · unfold truncN; rw [if_neg (by unfold lo at c; omega)]
      symm
      apply Nat.div_eq_of_lt
      exact Nat.lt_of_lt_of_le hu (two_pow_le (by unfold lo at c; omega))

theorem biasN_pos {E : Nat} (h1 : 2 ≤ E) : 1 ≤ biasN E := by
  have hb := bias_two h1
  have h4 : 2 ^ 2 ≤ 2 ^ E := two_pow_le h1
  have := cast_two_pow E
  omega

theorem toIP_in (M : Nat) (un : Bool) (uc : Nat) (ue : Int) (um n : Nat) (h0 : uc ≠ 0) (h4 : uc ≠ 4) (h3 : uc ≠ 3) (hx : ue + M ≤ 63) (hn : truncN ue um = n) (hlt : n < 9223372036854775808) :
    toIP M un uc ue um = (sv un n, true) := by
  unfold toIP
  rw [if_neg h0, if_neg (by omega), hn]
  cases un
  · simp [hlt, sv]
  · simp [Nat.le_of_lt hlt, sv]

/-- WHERE THE WHOLE PART IS AN int64 -/
theorem toI_law (E M x p P : Nat) (h1 : 2 ≤ E) (h4 : M ≤ 52) (hp : (p : Int) = biasN E + 63) (hP : P = p * 2 ^ M) (hPi : P < infR E M) (h : x % 2 ^ (E + M) ≤ infR E M) :
    (sv (uNeg E M x) (truncN (uExp E M x) (uMan E M x)) = sv (uNeg E M x) (truncN (uExp E M x) (uMan E M x))) ∧
    ((if sF E M x then x % 2 ^ (E + M) ≤ P else x % 2 ^ (E + M) < P) → toIP M (uNeg E M x) (uCls E M x) (uExp E M x) (uMan E M x) = (sv (uNeg E M x) (truncN (uExp E M x) (uMan E M x)), true) ∧
      -9223372036854775808 ≤ sv (uNeg E M x) (truncN (uExp E M x) (uMan E M x)) ∧ sv (uNeg E M x) (truncN (uExp E M x) (uMan E M x)) ≤ 9223372036854775807) ∧
    (¬ (if sF E M x then x % 2 ^ (E + M) ≤ P else x % 2 ^ (E + M) < P) → toIP M (uNeg E M x) (uCls E M x) (uExp E M x) (uMan E M x) = (0, false)) := by
  have hc4 : uCls E M x ≠ 4 := by rw [Ne, cls_nan]; omega
  have hneg : uNeg E M x = sF E M x := by unfold uNeg; rw [if_neg hc4]
  have hsp := rung_split E M x
  have hm := mF_lt M x
  have hp2 := Nat.two_pow_pos M
  have hbd0 : ∀ n : Nat, n < 9223372036854775808 → ∀ s : Bool, -9223372036854775808 ≤ sv s n ∧ sv s n ≤ 9223372036854775807 := by
    intro n hn s; unfold sv; split <;> omega
  refine ⟨rfl, ?_⟩
  rw [hneg]
  by_cases hi : x % 2 ^ (E + M) = infR E M
  · have hc3 := (cls_inf E M x).2 hi
    refine ⟨fun c => ?_, fun _ => ?_⟩
    · exfalso; split at c <;> omega
    · unfold toIP; rw [hc3]; rfl
  have hc3 : uCls E M x ≠ 3 := by rw [Ne, cls_inf]; exact hi
  by_cases hz : uMan E M x = 0
  · have hc0 : uCls E M x = 0 := by
      have : uCls E M x ≤ 4 := by unfold uCls; repeat' split
                                  all_goals omega
      by_cases c1 : uCls E M x = 1
      · exfalso; have := uMan_bd E M x (Or.inl c1); omega
      · by_cases c2 : uCls E M x = 2
        · exfalso; have := uMan_bd E M x (Or.inr c2); omega
        · omega
    have t0 : truncN (uExp E M x) 0 = 0 := by unfold truncN; split <;> simp
    have hr0 : x % 2 ^ (E + M) = 0 := by
      unfold uCls at hc0
      split at hc0
      · split at hc0 <;> omega
      · split at hc0
        · rename_i e0
          split at hc0
          · rename_i m0; rw [hsp, e0, m0]; simp
          · omega
        · omega
    have hP0 : 0 < P := by rw [hP]; exact Nat.mul_pos (by have := biasN_pos h1; omega) hp2
    rw [hz, t0, hr0]
    have hT : toIP M (sF E M x) (uCls E M x) (uExp E M x) 0 = (0, true) := by unfold toIP; rw [hc0]; rfl
    rw [hT]
    refine ⟨fun _ => ?_, fun c => ?_⟩
    · cases sF E M x <;> decide
    · exfalso; apply c; split <;> omega
  · have hlt : x % 2 ^ (E + M) < infR E M := by omega
    have hcl := man_cls E M x h1 hlt hz
    have hbd := uMan_bd E M x hcl
    have hn0 : uCls E M x ≠ 0 := by omega
    rcases exp_eF E M x h1 hlt hz with ⟨e0, hx⟩ | ⟨e0, hx, hu⟩
    · have hxl : uExp E M x + M ≤ 63 := by unfold lo at hx; have := biasN_pos h1; omega
      have ht : truncN (uExp E M x) (uMan E M x) = 0 := by
        unfold truncN
        have hb := biasN_pos h1
        rw [if_neg (by unfold lo at hx; omega)]
        apply Nat.div_eq_of_lt
        exact Nat.lt_of_lt_of_le hbd.2 (two_pow_le (by unfold lo at hx; omega))
      rw [toIP_in M _ _ _ _ 0 hn0 hc4 hc3 hxl ht (by decide), ht]
      refine ⟨fun _ => ⟨rfl, hbd0 0 (by decide) _⟩, fun c => ?_⟩
      exfalso
      apply c
      have : 1 * 2 ^ M ≤ p * 2 ^ M := Nat.mul_le_mul_right _ (by have := biasN_pos h1; omega)
      rw [hsp, e0, hP]
      split <;> omega
    · by_cases hlt' : eF E M x < p
      · have hxl : uExp E M x + M ≤ 62 := by omega
        have ht : truncN (uExp E M x) (uMan E M x) < 9223372036854775808 := by
          unfold truncN
          split
          · calc uMan E M x * 2 ^ (uExp E M x).toNat < 2 ^ (M + 1) * 2 ^ (uExp E M x).toNat := Nat.mul_lt_mul_of_pos_right hbd.2 (Nat.two_pow_pos _)
              _ = 2 ^ (M + 1 + (uExp E M x).toNat) := by rw [← Nat.pow_add]
              _ ≤ 2 ^ 63 := two_pow_le (by omega)
          · calc _ ≤ uMan E M x := Nat.div_le_self _ _
              _ < 2 ^ (M + 1) := hbd.2
              _ ≤ 2 ^ 63 := two_pow_le (by omega)
        rw [toIP_in M _ _ _ _ _ hn0 hc4 hc3 (by omega) rfl ht]
        refine ⟨fun _ => ⟨rfl, hbd0 _ ht _⟩, fun c => ?_⟩
        exfalso
        apply c
        have : (eF E M x + 1) * 2 ^ M ≤ p * 2 ^ M := Nat.mul_le_mul_right _ (by omega)
        rw [Nat.add_mul, Nat.one_mul] at this
        rw [hsp, hP]
        split <;> omega
      · by_cases heq : eF E M x = p
        · have hx63 : uExp E M x = 63 - M := by omega
          have ht : truncN (uExp E M x) (uMan E M x) = 9223372036854775808 + mF M x * 2 ^ (63 - M) := by
            unfold truncN
            rw [if_pos (by omega), hx63, hu, Nat.add_mul, show ((63 : Int) - M).toNat = 63 - M by omega, ← Nat.pow_add, show M + (63 - M) = 63 by omega]
          have hq : 0 < 2 ^ (63 - M) := Nat.two_pow_pos _
          have hm0 : mF M x * 2 ^ (63 - M) = 0 ↔ mF M x = 0 := by rw [Nat.mul_eq_zero]; omega
          have hT : toIP M (sF E M x) (uCls E M x) (uExp E M x) (uMan E M x) = if sF E M x then (if mF M x = 0 then (-9223372036854775808, true) else (0, false)) else (0, false) := by
            unfold toIP
            rw [if_neg hn0, if_neg (by omega), ht]
            generalize mF M x * 2 ^ (63 - M) = y at *
            cases sF E M x
            · simp
            · by_cases hmz : mF M x = 0
              · have : y = 0 := hm0.2 hmz
                subst this; simp [hmz]
              · have : y ≠ 0 := fun c => hmz (hm0.1 c)
                simp [hmz]; omega
          rw [hT, ht, hsp, heq, hP]
          cases sF E M x
          · refine ⟨fun c => ?_, fun _ => rfl⟩
            simp at c
            omega
          · by_cases hmz : mF M x = 0
            · refine ⟨fun _ => ?_, fun c => ?_⟩
              · simp [hmz, sv]
              · exfalso; apply c; simp [hmz]
            · refine ⟨fun c => ?_, fun _ => by simp [hmz]⟩
              simp at c
              omega
        · have hgt : 63 < uExp E M x + M := by omega
          have hT : toIP M (sF E M x) (uCls E M x) (uExp E M x) (uMan E M x) = (0, false) := by
            unfold toIP; rw [if_neg hn0, if_pos (by omega)]
          rw [hT]
          refine ⟨fun c => ?_, fun _ => rfl⟩
          exfalso
          have : (p + 1) * 2 ^ M ≤ eF E M x * 2 ^ M := Nat.mul_le_mul_right _ (by omega)
          rw [Nat.add_mul, Nat.one_mul] at this
          rw [hsp, hP] at c
          split at c <;> omega

theorem nTo64_ord (a : Nat) (h : a % 2 ^ (11 + 52) ≤ infR 11 52) : FloatKind.f64.format.order a 4890909195324358656 = ordOf (ordR (sF 11 52 a) false (a % 2 ^ (11 + 52)) 4890909195324358656) ∧
    FloatKind.f64.format.order a 14114281232179134464 = ordOf (ordR (sF 11 52 a) true (a % 2 ^ (11 + 52)) 4890909195324358656) := by
  have hc4 : uCls 11 52 a ≠ 4 := by rw [Ne, cls_nan]; omega
  have hn : uNeg 11 52 a = sF 11 52 a := by unfold uNeg; rw [if_neg hc4]
  have a1 := order_eq 11 52 a 4890909195324358656 (by decide)
  have a2 := order_eq 11 52 a 14114281232179134464 (by decide)
  rw [hn, show uNeg 11 52 4890909195324358656 = false by decide, show uCls 11 52 4890909195324358656 = 2 by decide, show 4890909195324358656 % 2 ^ (11 + 52) = 4890909195324358656 by decide] at a1
  rw [hn, show uNeg 11 52 14114281232179134464 = true by decide, show uCls 11 52 14114281232179134464 = 2 by decide, show 14114281232179134464 % 2 ^ (11 + 52) = 4890909195324358656 by decide] at a2
  unfold ordS at a1 a2
  rw [if_neg (by omega)] at a1 a2
  exact ⟨a1, a2⟩

/-- the two tests, and what they lead to -/
theorem nTo64_tests (a : Nat) (h : a % 2 ^ (11 + 52) ≤ infR 11 52) :
    ((if sF 11 52 a then a % 2 ^ (11 + 52) ≤ 4890909195324358656 else a % 2 ^ (11 + 52) < 4890909195324358656) → (FloatKind.f64.format.order a 14114281232179134464 = some .gt ∨ FloatKind.f64.format.order a 14114281232179134464 = some .eq) ∧ FloatKind.f64.format.order a 4890909195324358656 = some .lt) ∧
    (¬ (if sF 11 52 a then a % 2 ^ (11 + 52) ≤ 4890909195324358656 else a % 2 ^ (11 + 52) < 4890909195324358656) → FloatKind.f64.format.order a 14114281232179134464 = some .lt ∨ FloatKind.f64.format.order a 14114281232179134464 = some .gt ∧ (FloatKind.f64.format.order a 4890909195324358656 = some .eq ∨ FloatKind.f64.format.order a 4890909195324358656 = some .gt)) := by
  obtain ⟨o1, o2⟩ := nTo64_ord a h
  rw [o1, o2]
  generalize a % 2 ^ (11 + 52) = r
  cases sF 11 52 a
  · have e2 : ordR false true r 4890909195324358656 = 1 := by unfold ordR; rw [if_neg (by simp), if_neg (by simp)]
    rw [e2]
    refine ⟨fun c => ⟨Or.inl rfl, ?_⟩, fun c => Or.inr ⟨rfl, ?_⟩⟩
    · have : ordR false false r 4890909195324358656 = -1 := by unfold ordR; simp at c; rw [if_neg (by omega), if_pos (by simp; omega)]
      rw [this]; rfl
    · simp at c
      by_cases e : r = 4890909195324358656
      · left; rw [e]; rfl
      · right
        have : ordR false false r 4890909195324358656 = 1 := by unfold ordR; rw [if_neg (by omega), if_neg (by simp; omega)]
        rw [this]; rfl
  · have e1 : ordR true false r 4890909195324358656 = -1 := by unfold ordR; rw [if_neg (by simp), if_pos (by simp)]
    rw [e1]
    refine ⟨fun c => ⟨?_, rfl⟩, fun c => Or.inl ?_⟩
    · simp at c
      by_cases e : r = 4890909195324358656
      · right; rw [e]; rfl
      · left
        have : ordR true true r 4890909195324358656 = 1 := by unfold ordR; rw [if_neg (by omega), if_neg (by simp; omega)]
        rw [this]; rfl
    · simp at c
      have : ordR true true r 4890909195324358656 = -1 := by unfold ordR; rw [if_neg (by omega), if_pos (by simp; omega)]
      rw [this]; rfl

theorem nTo64_any (a : Nat) (w : World) : Calls Oafg.prog 35 #[.int .u64 a] w fun e w' => e = .returned (.tuple #[.int .i64 (toIP 52 (uNeg 11 52 a) (uCls 11 52 a) (uExp 11 52 a) (uMan 11 52 a)).1, .bool (toIP 52 (uNeg 11 52 a) (uCls 11 52 a) (uExp 11 52 a) (uMan 11 52 a)).2]) ∧ w = w' := by
  by_cases hn : infR 11 52 < a % 2 ^ (11 + 52)
  · obtain ⟨s, t, hr⟩ := read_nan 11 52 a hn (by decide)
    have o2 : FloatKind.f64.format.order a 14114281232179134464 = none := by show ((Ieee.Format.mk 11 52).read a).order _ = none; rw [hr]; rfl
    have hT : toIP 52 (uNeg 11 52 a) (uCls 11 52 a) (uExp 11 52 a) (uMan 11 52 a) = (0, false) := by
      unfold toIP; rw [(cls_nan 11 52 a).2 hn]; rfl
    rw [hT]
    clear hn hr hT
    go_enter Oafg.func35, Oafg.ntmps35
    go_wp2_with (go_at_call 68; refine (from64_any a _).mono ?_; rintro e w' ⟨rfl, rfl⟩)
    go_ret2
    exact ⟨rfl, rfl⟩
  · have hle : a % 2 ^ (11 + 52) ≤ infR 11 52 := by omega
    obtain ⟨t1, t2⟩ := nTo64_tests a hle
    obtain ⟨_, l1, l2⟩ := toI_law 11 52 a 1086 4890909195324358656 (by decide) (by decide) (by decide) (by decide) (by decide) hle
    by_cases c : if sF 11 52 a then a % 2 ^ (11 + 52) ≤ 4890909195324358656 else a % 2 ^ (11 + 52) < 4890909195324358656
    · obtain ⟨hT, b1, b2⟩ := l1 c
      obtain ⟨q1, q2⟩ := t1 c
      have hlt : a % 2 ^ (11 + 52) < infR 11 52 := by
        have : 4890909195324358656 < infR 11 52 := by decide
        split at c <;> omega
      obtain ⟨m, i, hr, h0, _, hc⟩ := read_parts 11 52 a (by decide) hlt
      have hub : uMan 11 52 a < 2 ^ (52 + 1) := by
        by_cases z : uMan 11 52 a = 0
        · rw [z]; decide
        · exact (uMan_bd 11 52 a (man_cls 11 52 a (by decide) hlt z)).2
      have htr := trunc_parts 11 52 a (by decide) m i h0 hc hub
      have hconv : ∀ w, (convert 89 2 (.float .f64 a)).run Oafg.prog w = .ok (.int .i64 (sv (uNeg 11 52 a) (truncN (uExp 11 52 a) (uMan 11 52 a)))) w := fun w => by
        apply run_convert_float_int w 89 2 .f64 .i64 a _ (by rw [Oafg.underlying89]; rfl) Oafg.underlying2
        unfold floatToIntVal
        have hd : FloatKind.f64.decode a = .number (uNeg 11 52 a) m i := hr
        rw [hd, toInt_trunc, htr]
        simp only
        rw [if_pos]
        simp only [IntKind.min, IntKind.max, IntKind.signed, IntKind.bits]
        exact ⟨by simpa using b1, by simpa using b2⟩
      rw [hT]
      generalize sv (uNeg 11 52 a) (truncN (uExp 11 52 a) (uMan 11 52 a)) = v at *
      clear hT t1 t2 l1 l2 c hr h0 hc htr hlt hle hn hub b1 b2
      rcases q1 with q1 | q1
      all_goals
        go_enter Oafg.func35, Oafg.ntmps35
        go_wp2_with (go_at_call 68; refine (from64_any a _).mono ?_; rintro e w' ⟨rfl, rfl⟩)
        go_ret2
        exact ⟨rfl, rfl⟩
    · have hT := l2 c
      have q := t2 c
      rw [hT]
      clear hT t1 t2 l1 l2 c hle hn
      rcases q with q | ⟨q1, q2⟩
      · go_enter Oafg.func35, Oafg.ntmps35
        go_wp2_with (go_at_call 68; refine (from64_any a _).mono ?_; rintro e w' ⟨rfl, rfl⟩)
        go_ret2
        exact ⟨rfl, rfl⟩
      · rcases q2 with q2 | q2
        all_goals
          go_enter Oafg.func35, Oafg.ntmps35
          go_wp2_with (go_at_call 68; refine (from64_any a _).mono ?_; rintro e w' ⟨rfl, rfl⟩)
          go_ret2
          exact ⟨rfl, rfl⟩

theorem nTo32_ord (a : Nat) (h : a % 2 ^ (8 + 23) ≤ infR 8 23) : FloatKind.f32.format.order a 1593835520 = ordOf (ordR (sF 8 23 a) false (a % 2 ^ (8 + 23)) 1593835520) ∧
    FloatKind.f32.format.order a 3741319168 = ordOf (ordR (sF 8 23 a) true (a % 2 ^ (8 + 23)) 1593835520) := by
  have hc4 : uCls 8 23 a ≠ 4 := by rw [Ne, cls_nan]; omega
  have hn : uNeg 8 23 a = sF 8 23 a := by unfold uNeg; rw [if_neg hc4]
  have a1 := order_eq 8 23 a 1593835520 (by decide)
  have a2 := order_eq 8 23 a 3741319168 (by decide)
  rw [hn, show uNeg 8 23 1593835520 = false by decide, show uCls 8 23 1593835520 = 2 by decide, show 1593835520 % 2 ^ (8 + 23) = 1593835520 by decide] at a1
  rw [hn, show uNeg 8 23 3741319168 = true by decide, show uCls 8 23 3741319168 = 2 by decide, show 3741319168 % 2 ^ (8 + 23) = 1593835520 by decide] at a2
  unfold ordS at a1 a2
  rw [if_neg (by omega)] at a1 a2
  exact ⟨a1, a2⟩

/-- the two tests, and what they lead to -/
theorem nTo32_tests (a : Nat) (h : a % 2 ^ (8 + 23) ≤ infR 8 23) :
    ((if sF 8 23 a then a % 2 ^ (8 + 23) ≤ 1593835520 else a % 2 ^ (8 + 23) < 1593835520) → (FloatKind.f32.format.order a 3741319168 = some .gt ∨ FloatKind.f32.format.order a 3741319168 = some .eq) ∧ FloatKind.f32.format.order a 1593835520 = some .lt) ∧
    (¬ (if sF 8 23 a then a % 2 ^ (8 + 23) ≤ 1593835520 else a % 2 ^ (8 + 23) < 1593835520) → FloatKind.f32.format.order a 3741319168 = some .lt ∨ FloatKind.f32.format.order a 3741319168 = some .gt ∧ (FloatKind.f32.format.order a 1593835520 = some .eq ∨ FloatKind.f32.format.order a 1593835520 = some .gt)) := by
  obtain ⟨o1, o2⟩ := nTo32_ord a h
  rw [o1, o2]
  generalize a % 2 ^ (8 + 23) = r
  cases sF 8 23 a
  · have e2 : ordR false true r 1593835520 = 1 := by unfold ordR; rw [if_neg (by simp), if_neg (by simp)]
    rw [e2]
    refine ⟨fun c => ⟨Or.inl rfl, ?_⟩, fun c => Or.inr ⟨rfl, ?_⟩⟩
    · have : ordR false false r 1593835520 = -1 := by unfold ordR; simp at c; rw [if_neg (by omega), if_pos (by simp; omega)]
      rw [this]; rfl
    · simp at c
      by_cases e : r = 1593835520
      · left; rw [e]; rfl
      · right
        have : ordR false false r 1593835520 = 1 := by unfold ordR; rw [if_neg (by omega), if_neg (by simp; omega)]
        rw [this]; rfl
  · have e1 : ordR true false r 1593835520 = -1 := by unfold ordR; rw [if_neg (by simp), if_pos (by simp)]
    rw [e1]
    refine ⟨fun c => ⟨?_, rfl⟩, fun c => Or.inl ?_⟩
    · simp at c
      by_cases e : r = 1593835520
      · right; rw [e]; rfl
      · left
        have : ordR true true r 1593835520 = 1 := by unfold ordR; rw [if_neg (by omega), if_neg (by simp; omega)]
        rw [this]; rfl
    · simp at c
      have : ordR true true r 1593835520 = -1 := by unfold ordR; rw [if_neg (by omega), if_pos (by simp; omega)]
      rw [this]; rfl

theorem nTo32_any (a : Nat) (w : World) : Calls Oafg.prog 37 #[.int .u32 a] w fun e w' => e = .returned (.tuple #[.int .i64 (toIP 23 (uNeg 8 23 a) (uCls 8 23 a) (uExp 8 23 a) (uMan 8 23 a)).1, .bool (toIP 23 (uNeg 8 23 a) (uCls 8 23 a) (uExp 8 23 a) (uMan 8 23 a)).2]) ∧ w = w' := by
  by_cases hn : infR 8 23 < a % 2 ^ (8 + 23)
  · obtain ⟨s, t, hr⟩ := read_nan 8 23 a hn (by decide)
    have o2 : FloatKind.f32.format.order a 3741319168 = none := by show ((Ieee.Format.mk 8 23).read a).order _ = none; rw [hr]; rfl
    have hT : toIP 23 (uNeg 8 23 a) (uCls 8 23 a) (uExp 8 23 a) (uMan 8 23 a) = (0, false) := by
      unfold toIP; rw [(cls_nan 8 23 a).2 hn]; rfl
    rw [hT]
    clear hn hr hT
    go_enter Oafg.func37, Oafg.ntmps37
    go_wp2_with (go_at_call 60; refine (from32_any a _).mono ?_; rintro e w' ⟨rfl, rfl⟩)
    go_ret2
    exact ⟨rfl, rfl⟩
  · have hle : a % 2 ^ (8 + 23) ≤ infR 8 23 := by omega
    obtain ⟨t1, t2⟩ := nTo32_tests a hle
    obtain ⟨_, l1, l2⟩ := toI_law 8 23 a 190 1593835520 (by decide) (by decide) (by decide) (by decide) (by decide) hle
    by_cases c : if sF 8 23 a then a % 2 ^ (8 + 23) ≤ 1593835520 else a % 2 ^ (8 + 23) < 1593835520
    · obtain ⟨hT, b1, b2⟩ := l1 c
      obtain ⟨q1, q2⟩ := t1 c
      have hlt : a % 2 ^ (8 + 23) < infR 8 23 := by
        have : 1593835520 < infR 8 23 := by decide
        split at c <;> omega
      obtain ⟨m, i, hr, h0, _, hc⟩ := read_parts 8 23 a (by decide) hlt
      have hub : uMan 8 23 a < 2 ^ (23 + 1) := by
        by_cases z : uMan 8 23 a = 0
        · rw [z]; decide
        · exact (uMan_bd 8 23 a (man_cls 8 23 a (by decide) hlt z)).2
      have htr := trunc_parts 8 23 a (by decide) m i h0 hc hub
      have hconv : ∀ w, (convert 84 2 (.float .f32 a)).run Oafg.prog w = .ok (.int .i64 (sv (uNeg 8 23 a) (truncN (uExp 8 23 a) (uMan 8 23 a)))) w := fun w => by
        apply run_convert_float_int w 84 2 .f32 .i64 a _ (by rw [Oafg.underlying84]; rfl) Oafg.underlying2
        unfold floatToIntVal
        have hd : FloatKind.f32.decode a = .number (uNeg 8 23 a) m i := hr
        rw [hd, toInt_trunc, htr]
        simp only
        rw [if_pos]
        simp only [IntKind.min, IntKind.max, IntKind.signed, IntKind.bits]
        exact ⟨by simpa using b1, by simpa using b2⟩
      rw [hT]
      generalize sv (uNeg 8 23 a) (truncN (uExp 8 23 a) (uMan 8 23 a)) = v at *
      clear hT t1 t2 l1 l2 c hr h0 hc htr hlt hle hn hub b1 b2
      rcases q1 with q1 | q1
      all_goals
        go_enter Oafg.func37, Oafg.ntmps37
        go_wp2_with (go_at_call 60; refine (from32_any a _).mono ?_; rintro e w' ⟨rfl, rfl⟩)
        go_ret2
        exact ⟨rfl, rfl⟩
    · have hT := l2 c
      have q := t2 c
      rw [hT]
      clear hT t1 t2 l1 l2 c hle hn
      rcases q with q | ⟨q1, q2⟩
      · go_enter Oafg.func37, Oafg.ntmps37
        go_wp2_with (go_at_call 60; refine (from32_any a _).mono ?_; rintro e w' ⟨rfl, rfl⟩)
        go_ret2
        exact ⟨rfl, rfl⟩
      · rcases q2 with q2 | q2
        all_goals
          go_enter Oafg.func37, Oafg.ntmps37
          go_wp2_with (go_at_call 60; refine (from32_any a _).mono ?_; rintro e w' ⟨rfl, rfl⟩)
          go_ret2
          exact ⟨rfl, rfl⟩

end Go.Proofs.Ygcoaf
