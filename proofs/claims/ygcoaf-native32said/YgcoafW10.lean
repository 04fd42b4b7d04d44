/-
  WALKS, the tenth: Go's own conversions.
-/
import Derived.Test.YgcoafW9
import Derived.Test.YgcoafM7
namespace Go.Proofs.Ygcoaf
open Go.RowKit

theorem putV_nan (E M x : Nat) (h : infR E M < x % 2 ^ (E + M)) : putV E M x = nanR E M := by unfold putV; rw [if_pos h]
theorem putV_num (E M x : Nat) (h : x % 2 ^ (E + M) ≤ infR E M) : putV E M x = x := by unfold putV; rw [if_neg (by omega)]
theorem putV_word (E M : Nat) (neg : Bool) (r : Nat) (h : r ≤ infR E M) : putV E M (r + sgn E M neg) = r + sgn E M neg := by
  apply putV_num
  rw [word_mod _ _ _ _ (Nat.lt_of_le_of_lt h (infR_lt E M))]
  exact h
theorem putV_nearest (E M : Nat) (neg : Bool) (m : Nat) (i : Int) : putV E M ((Ieee.Format.mk E M).nearest neg m i) = (Ieee.Format.mk E M).nearest neg m i := by
  obtain ⟨r, h1, h2⟩ := nearest_rung E M neg m i
  rw [h2, putV_word _ _ _ _ h1]

/-- a NaN converted: some NaN -/
theorem conv_nan32 (a : Nat) (h : infR 11 52 < a % 2 ^ (11 + 52)) (w : World) : ∃ r, infR 8 23 < r % 2 ^ (8 + 23) ∧ (convert 89 84 (.float .f64 a)).run Oafg.prog w = .ok (.float .f32 r) w.drew := by
  obtain ⟨s, t, hr⟩ := read_nan 11 52 a h (by decide)
  have hd : FloatKind.f64.decode a = .nan s t := hr
  refine ⟨(Question.nanConv .f32 a).cut (w.tape w.drawn (.nanConv .f32 a)), ?_, ?_⟩
  · simp only [Question.cut]
    have : infR 8 23 = 2139095040 := by decide
    rw [this]
    generalize w.tape w.drawn (.nanConv .f32 a) = t
    have hb : t % 2 < 2 := Nat.mod_lt _ (by decide)
    have hc : t / 2 % (2 ^ 23 - 1) < 2 ^ 23 - 1 := Nat.mod_lt _ (by decide)
    generalize t % 2 = b at *
    generalize t / 2 % (2 ^ 23 - 1) = c at *
    have : b = 0 ∨ b = 1 := by omega
    rcases this with rfl | rfl <;> omega
  · have hfo : (Question.nanConv .f32 a).forced = false := rfl
    simp [convert, run_underlying Oafg.underlying89, run_underlying Oafg.underlying84, Conv.floatToFloat, hd, hfo]
theorem conv_nan64 (a : Nat) (h : infR 8 23 < a % 2 ^ (8 + 23)) (w : World) : ∃ r, infR 11 52 < r % 2 ^ (11 + 52) ∧ (convert 84 89 (.float .f32 a)).run Oafg.prog w = .ok (.float .f64 r) w.drew := by
  obtain ⟨s, t, hr⟩ := read_nan 8 23 a h (by decide)
  have hd : FloatKind.f32.decode a = .nan s t := hr
  refine ⟨(Question.nanConv .f64 a).cut (w.tape w.drawn (.nanConv .f64 a)), ?_, ?_⟩
  · simp only [Question.cut]
    have : infR 11 52 = 9218868437227405312 := by decide
    rw [this]
    generalize w.tape w.drawn (.nanConv .f64 a) = t
    have hb : t % 2 < 2 := Nat.mod_lt _ (by decide)
    have hc : t / 2 % (2 ^ 52 - 1) < 2 ^ 52 - 1 := Nat.mod_lt _ (by decide)
    generalize t % 2 = b at *
    generalize t / 2 % (2 ^ 52 - 1) = c at *
    have : b = 0 ∨ b = 1 := by omega
    rcases this with rfl | rfl <;> omega
  · have hfo : (Question.nanConv .f64 a).forced = false := rfl
    simp [convert, run_underlying Oafg.underlying89, run_underlying Oafg.underlying84, Conv.floatToFloat, hd, hfo]

theorem notInf (E M : Nat) (neg : Bool) (r : Nat) (_hE : 2 ≤ E) (h : r < infR E M) : ((Ieee.Format.mk E M).read (r + sgn E M neg)).isInfinity = false := by
  obtain ⟨m, i, hr, _⟩ := read_num E M (r + sgn E M neg) (by rw [word_mod _ _ _ _ (Nat.lt_trans h (infR_lt E M))]; exact h)
  rw [hr]; rfl

/-- widening: what the model gives for what is no NaN -/
theorem conv_widen (a : Nat) (h : a % 2 ^ (8 + 23) ≤ infR 8 23) (w : World) :
    (convert 84 89 (.float .f32 a)).run Oafg.prog w = .ok (.float .f64 (convV 8 23 11 52 a)) w := by
  apply run_convert_float_float w 84 89 .f32 .f64 a _ (by rw [Oafg.underlying84]; rfl) Oafg.underlying89
  have hc4 : uCls 8 23 a ≠ 4 := by rw [Ne, cls_nan]; omega
  unfold floatToFloatBits convV
  rw [if_neg (by decide), if_neg hc4]
  by_cases hi : a % 2 ^ (8 + 23) = infR 8 23
  · have hd : FloatKind.f32.decode a = .infinity (sF 8 23 a) := read_inf 8 23 a hi (by decide)
    have hn : uNeg 8 23 a = sF 8 23 a := by unfold uNeg; rw [if_neg hc4]
    rw [hd, if_pos ((cls_inf 8 23 a).2 hi), hn, ← infRung_eq 11 52, ← word_eq]
    rfl
  · have hc3 : uCls 8 23 a ≠ 3 := by rw [Ne, cls_inf]; exact hi
    rw [if_neg hc3]
    obtain ⟨m, i, hr, h0, hv, _⟩ := read_parts 8 23 a (by decide) (by omega)
    have hd : FloatKind.f32.decode a = .number (uNeg 8 23 a) m i := hr
    have he : FloatKind.f64.encode (.number (uNeg 8 23 a) m i) = (Ieee.Format.mk 11 52).nearest (uNeg 8 23 a) (uMan 8 23 a) (uExp 8 23 a) :=
      nearest_parts (Ieee.Format.mk 11 52) 8 23 a m i h0 hv (uNeg 8 23 a)
    simp only [hd, he]
    have hni : (FloatKind.f64.decode ((Ieee.Format.mk 11 52).nearest (uNeg 8 23 a) (uMan 8 23 a) (uExp 8 23 a))).isInfinity = false := by
      by_cases hz : uMan 8 23 a = 0
      · rw [hz, nearest_zero, ← Nat.zero_add (sgn 11 52 (uNeg 8 23 a))]
        exact notInf 11 52 _ 0 (by decide) (by decide)
      · have hw := widen_in a (uNeg 8 23 a) (by omega) hz
        have hb := uMan_lt 8 23 a (by decide)
        rw [nearest_soft 11 52 (by decide) _ _ _ hz (by omega), Nat.min_eq_left (Nat.le_of_lt hw)]
        exact notInf 11 52 _ _ (by decide) hw
    rw [hni]
    rfl

/-- narrowing below the threshold: what the model gives -/
theorem conv_narrow (a : Nat) (h : a % 2 ^ (11 + 52) < 5183643170835005440) (w : World) :
    (convert 89 84 (.float .f64 a)).run Oafg.prog w = .ok (.float .f32 (convV 11 52 8 23 a)) w := by
  apply run_convert_float_float w 89 84 .f64 .f32 a _ (by rw [Oafg.underlying89]; rfl) Oafg.underlying84
  have hI : infR 11 52 = 9218868437227405312 := by decide
  have hc4 : uCls 11 52 a ≠ 4 := by rw [Ne, cls_nan]; omega
  have hc3 : uCls 11 52 a ≠ 3 := by rw [Ne, cls_inf]; omega
  unfold floatToFloatBits convV
  rw [if_neg (by decide), if_neg hc4, if_neg hc3]
  obtain ⟨m, i, hr, h0, hv, _⟩ := read_parts 11 52 a (by decide) (by omega)
  have hd : FloatKind.f64.decode a = .number (uNeg 11 52 a) m i := hr
  have he : FloatKind.f32.encode (.number (uNeg 11 52 a) m i) = (Ieee.Format.mk 8 23).nearest (uNeg 11 52 a) (uMan 11 52 a) (uExp 11 52 a) :=
    nearest_parts (Ieee.Format.mk 8 23) 11 52 a m i h0 hv (uNeg 11 52 a)
  simp only [hd, he]
  have hni : (FloatKind.f32.decode ((Ieee.Format.mk 8 23).nearest (uNeg 11 52 a) (uMan 11 52 a) (uExp 11 52 a))).isInfinity = false := by
    by_cases hz : uMan 11 52 a = 0
    · rw [hz, nearest_zero, ← Nat.zero_add (sgn 8 23 (uNeg 11 52 a))]
      exact notInf 8 23 _ 0 (by decide) (by decide)
    · have hw := (narrow_over a (uNeg 11 52 a) (by omega) hz).2 h
      have hb := uMan_lt 11 52 a (by decide)
      rw [nearest_soft 8 23 (by decide) _ _ _ hz (by omega), Nat.min_eq_left (Nat.le_of_lt hw)]
      exact notInf 8 23 _ _ (by decide) hw
  rw [hni]
  rfl

theorem convV_word (E M E' M' x : Nat) (h : uCls E M x ≠ 4) : putV E' M' (convV E M E' M' x) = convV E M E' M' x := by
  unfold convV
  rw [if_neg h]
  split
  · exact putV_word _ _ _ _ (Nat.le_refl _)
  · exact putV_nearest _ _ _ _ _

/-- from the threshold on: infinity -/
theorem convV_over (a : Nat) (h1 : a % 2 ^ (11 + 52) ≤ infR 11 52) (h : 5183643170835005440 ≤ a % 2 ^ (11 + 52)) : convV 11 52 8 23 a = infR 8 23 + sgn 8 23 (sF 11 52 a) := by
  have hc4 : uCls 11 52 a ≠ 4 := by rw [Ne, cls_nan]; omega
  have hn : uNeg 11 52 a = sF 11 52 a := by unfold uNeg; rw [if_neg hc4]
  unfold convV
  rw [if_neg hc4, hn]
  split
  · rfl
  · rename_i hc3
    have hlt : a % 2 ^ (11 + 52) < infR 11 52 := by rw [cls_inf] at hc3; omega
    have hz : uMan 11 52 a ≠ 0 := by
      intro z
      have hsp := rung_split 11 52 a
      have hm := mF_lt 52 a
      have h3 : uCls 11 52 a = 0 := by
        by_cases c1 : uCls 11 52 a = 1
        · exfalso; have := uMan_bd 11 52 a (Or.inl c1); omega
        · by_cases c2 : uCls 11 52 a = 2
          · exfalso; have := uMan_bd 11 52 a (Or.inr c2); omega
          · have : uCls 11 52 a ≤ 4 := by unfold uCls; repeat' split
                                          all_goals omega
            omega
      unfold uCls at h3
      split at h3
      · split at h3 <;> omega
      · split at h3
        · rename_i e0; rw [hsp, e0] at h; omega
        · omega
    have hw := (narrow_over a (sF 11 52 a) hlt hz).1 h
    have hb := uMan_lt 11 52 a (by decide)
    rw [nearest_soft 8 23 (by decide) _ _ _ hz (by omega), Nat.min_eq_right hw]

/-! ### the walks -/
theorem ord_T (a : Nat) (h : a % 2 ^ (11 + 52) ≤ infR 11 52) : FloatKind.f64.format.order a 5183643170835005440 = ordOf (ordR (sF 11 52 a) false (a % 2 ^ (11 + 52)) 5183643170835005440) ∧
    FloatKind.f64.format.order a 14407015207689781248 = ordOf (ordR (sF 11 52 a) true (a % 2 ^ (11 + 52)) 5183643170835005440) := by
  have hc4 : uCls 11 52 a ≠ 4 := by rw [Ne, cls_nan]; omega
  have hn : uNeg 11 52 a = sF 11 52 a := by unfold uNeg; rw [if_neg hc4]
  have a1 := order_eq 11 52 a 5183643170835005440 (by decide)
  have a2 := order_eq 11 52 a 14407015207689781248 (by decide)
  rw [hn, show uNeg 11 52 5183643170835005440 = false by decide, show uCls 11 52 5183643170835005440 = 2 by decide, show 5183643170835005440 % 2 ^ (11 + 52) = 5183643170835005440 by decide] at a1
  rw [hn, show uNeg 11 52 14407015207689781248 = true by decide, show uCls 11 52 14407015207689781248 = 2 by decide, show 14407015207689781248 % 2 ^ (11 + 52) = 5183643170835005440 by decide] at a2
  unfold ordS at a1 a2
  rw [if_neg (by omega)] at a1 a2
  exact ⟨a1, a2⟩

theorem narrow_any (a : Nat) (w : World) : Calls Oafg.prog 26 #[.int .u64 a] w fun e w' => e = .returned (.int .u32 (convV 11 52 8 23 a)) ∧ Below w.heap.size w w' := by
  have hu : ∀ w, (Op.unary .neg (.float .f64 5183643170835005440)).run Oafg.prog w = .ok (.float .f64 14407015207689781248) w := fun _ => rfl
  by_cases hn : infR 11 52 < a % 2 ^ (11 + 52)
  · obtain ⟨s, t, hr⟩ := read_nan 11 52 a hn (by decide)
    have o1 : FloatKind.f64.format.order a 5183643170835005440 = none := by show ((Ieee.Format.mk 11 52).read a).order _ = none; rw [hr]; rfl
    have o2 : FloatKind.f64.format.order a 14407015207689781248 = none := by show ((Ieee.Format.mk 11 52).read a).order _ = none; rw [hr]; rfl
    obtain ⟨r, hr1, hr2⟩ := conv_nan32 a hn w
    have hp := putV_nan 8 23 r hr1
    have hv : convV 11 52 8 23 a = nanR 8 23 := by unfold convV; rw [if_pos ((cls_nan 11 52 a).2 hn)]
    rw [hv]
    have HP : Hid _ := hp
    clear hn hr hr1 hp hv
    go_enter Oafg.func26, Oafg.ntmps26
    go_wp2_with (first
      | (go_at_call_of 68 (Value.int .u64 a); refine (from64_any a _).mono ?_; rintro e w' ⟨rfl, rfl⟩)
      | (go_at_call 68; refine (from64_any 5183643170835005440 _).mono ?_; rintro e w' ⟨rfl, rfl⟩)
      | (go_at_call 61; refine (put32_any r _).mono ?_; rintro e w' ⟨rfl, rfl⟩))
    go_ret
    exact ⟨ret_int (congrArg Nat.cast HP.out), (Below.refl _ _).drew⟩
  · obtain ⟨o1, o2⟩ := ord_T a (by omega)
    by_cases hT : 5183643170835005440 ≤ a % 2 ^ (11 + 52)
    · have hv := convV_over a (by omega) hT
      cases hs : sF 11 52 a
      · have e1 : ordR false false (a % 2 ^ (11 + 52)) 5183643170835005440 = 0 ∨ ordR false false (a % 2 ^ (11 + 52)) 5183643170835005440 = 1 := by
          unfold ordR; by_cases e : a % 2 ^ (11 + 52) = 5183643170835005440
          · rw [e]; decide
          · right; rw [if_neg (by omega), if_neg (by simp; omega)]
        rw [hs] at o1 hv
        rw [hv]
        rcases e1 with e1 | e1
        · rw [e1] at o1
          have o1' : FloatKind.f64.format.order a 5183643170835005440 = some .eq := o1
          clear o1 o2 e1 hv hT hn hs
          go_enter Oafg.func26, Oafg.ntmps26
          go_wp2_with (first
            | (go_at_call_of 68 (Value.int .u64 a); refine (from64_any a _).mono ?_; rintro e w' ⟨rfl, rfl⟩)
            | (go_at_call 68; refine (from64_any 5183643170835005440 _).mono ?_; rintro e w' ⟨rfl, rfl⟩))
          go_ret
          exact ⟨rfl, Below.refl _ _⟩
        · rw [e1] at o1
          have o1' : FloatKind.f64.format.order a 5183643170835005440 = some .gt := o1
          clear o1 o2 e1 hv hT hn hs
          go_enter Oafg.func26, Oafg.ntmps26
          go_wp2_with (first
            | (go_at_call_of 68 (Value.int .u64 a); refine (from64_any a _).mono ?_; rintro e w' ⟨rfl, rfl⟩)
            | (go_at_call 68; refine (from64_any 5183643170835005440 _).mono ?_; rintro e w' ⟨rfl, rfl⟩))
          go_ret
          exact ⟨rfl, Below.refl _ _⟩
      · have e1 : ordR true false (a % 2 ^ (11 + 52)) 5183643170835005440 = -1 := by
          unfold ordR; rw [if_neg (by simp), if_pos (by simp)]
        have e2 : ordR true true (a % 2 ^ (11 + 52)) 5183643170835005440 = 0 ∨ ordR true true (a % 2 ^ (11 + 52)) 5183643170835005440 = -1 := by
          unfold ordR; by_cases e : a % 2 ^ (11 + 52) = 5183643170835005440
          · rw [e]; decide
          · right; rw [if_neg (by omega), if_pos (by simp; omega)]
        rw [hs] at o1 o2 hv
        rw [hv]
        rw [e1] at o1
        have o1' : FloatKind.f64.format.order a 5183643170835005440 = some .lt := o1
        rcases e2 with e2 | e2
        · rw [e2] at o2
          have o2' : FloatKind.f64.format.order a 14407015207689781248 = some .eq := o2
          clear o1 o2 e1 e2 hv hT hn hs
          go_enter Oafg.func26, Oafg.ntmps26
          go_wp2_with (first
            | (go_at_call_of 68 (Value.int .u64 a); refine (from64_any a _).mono ?_; rintro e w' ⟨rfl, rfl⟩)
            | (go_at_call 68; refine (from64_any 5183643170835005440 _).mono ?_; rintro e w' ⟨rfl, rfl⟩))
          go_ret
          exact ⟨rfl, Below.refl _ _⟩
        · rw [e2] at o2
          have o2' : FloatKind.f64.format.order a 14407015207689781248 = some .lt := o2
          clear o1 o2 e1 e2 hv hT hn hs
          go_enter Oafg.func26, Oafg.ntmps26
          go_wp2_with (first
            | (go_at_call_of 68 (Value.int .u64 a); refine (from64_any a _).mono ?_; rintro e w' ⟨rfl, rfl⟩)
            | (go_at_call 68; refine (from64_any 5183643170835005440 _).mono ?_; rintro e w' ⟨rfl, rfl⟩))
          go_ret
          exact ⟨rfl, Below.refl _ _⟩
    · have hconv := fun w => conv_narrow a (by omega) w
      have hpv := convV_word 11 52 8 23 a (by rw [Ne, cls_nan]; exact hn)
      have e1 : ∀ s, ordR s false (a % 2 ^ (11 + 52)) 5183643170835005440 = -1 := by
        intro s; unfold ordR; cases s
        · rw [if_neg (by simp; omega), if_pos (by simp; omega)]
        · rw [if_neg (by simp), if_pos (by simp)]
      have e2 : ∀ s, ordR s true (a % 2 ^ (11 + 52)) 5183643170835005440 = 1 := by
        intro s; unfold ordR; cases s
        · rw [if_neg (by simp), if_neg (by simp)]
        · rw [if_neg (by simp; omega), if_neg (by simp; omega)]
      rw [e1] at o1
      rw [e2] at o2
      have o1' : FloatKind.f64.format.order a 5183643170835005440 = some .lt := o1
      have o2' : FloatKind.f64.format.order a 14407015207689781248 = some .gt := o2
      generalize convV 11 52 8 23 a = v at *
      have HP : Hid _ := hpv
      clear o1 o2 e1 e2 hpv hT hn
      go_enter Oafg.func26, Oafg.ntmps26
      go_wp2_with (first
        | (go_at_call_of 68 (Value.int .u64 a); refine (from64_any a _).mono ?_; rintro e w' ⟨rfl, rfl⟩)
        | (go_at_call 68; refine (from64_any 5183643170835005440 _).mono ?_; rintro e w' ⟨rfl, rfl⟩)
        | (go_at_call 61; refine (put32_any v _).mono ?_; rintro e w' ⟨rfl, rfl⟩))
      go_ret
      exact ⟨ret_int (congrArg Nat.cast HP.out), Below.refl _ _⟩

theorem widen_any (a : Nat) (w : World) : Calls Oafg.prog 28 #[.int .u32 a] w fun e w' => e = .returned (.int .u64 (convV 8 23 11 52 a)) ∧ Below w.heap.size w w' := by
  by_cases hn : infR 8 23 < a % 2 ^ (8 + 23)
  · obtain ⟨r, hr1, hr2⟩ := conv_nan64 a hn w
    have hp := putV_nan 11 52 r hr1
    have hv : convV 8 23 11 52 a = nanR 11 52 := by unfold convV; rw [if_pos ((cls_nan 8 23 a).2 hn)]
    rw [hv]
    have HP : Hid _ := hp
    clear hn hr1 hp hv
    go_enter Oafg.func28, Oafg.ntmps28
    go_wp2_with (first
      | (go_at_call 60; refine (from32_any a _).mono ?_; rintro e w' ⟨rfl, rfl⟩)
      | (go_at_call 66; refine (put64_any r _).mono ?_; rintro e w' ⟨rfl, rfl⟩))
    go_ret
    exact ⟨ret_int (congrArg Nat.cast HP.out), (Below.refl _ _).drew⟩
  · have hconv := fun w => conv_widen a (by omega) w
    have hpv := convV_word 8 23 11 52 a (by rw [Ne, cls_nan]; exact hn)
    generalize convV 8 23 11 52 a = v at *
    have HP : Hid _ := hpv
    clear hpv hn
    go_enter Oafg.func28, Oafg.ntmps28
    go_wp2_with (first
      | (go_at_call 60; refine (from32_any a _).mono ?_; rintro e w' ⟨rfl, rfl⟩)
      | (go_at_call 66; refine (put64_any v _).mono ?_; rintro e w' ⟨rfl, rfl⟩))
    go_ret
    exact ⟨ret_int (congrArg Nat.cast HP.out), Below.refl _ _⟩
end Go.Proofs.Ygcoaf
