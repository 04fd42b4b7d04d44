/-
  WALKS: DivFlags.
-/
import Derived.Test.YgcoafW22
namespace Go.Proofs.Ygcoaf
open Go.RowKit Go.Proofs.Ygcoaf.M

/-- a / b on what the words stand for -/
def divC (E M : Nat) (na : Bool) (ca : Nat) (ea : Int) (ma : Nat) (nb : Bool) (cb : Nat) (eb : Int) (mb : Nat) : Nat :=
  if ca = 4 ∨ cb = 4 then nanR E M else if (ca = 3 ∧ cb = 3) ∨ (ca = 0 ∧ cb = 0) then nanR E M else if ca = 3 then infR E M + sgn E M (!(na == nb)) else if cb = 0 then infR E M + sgn E M (!(na == nb)) else if ca = 0 ∨ cb = 3 then sgn E M (!(na == nb))
  else (Ieee.Format.mk E M).nearest (!(na == nb)) (st (ma * 2 ^ (63 - M) * 9223372036854775808) (mb * 2 ^ (63 - M))) (ea - eb - 63)
def divU (E M a b : Nat) : Nat := divC E M (uNeg E M a) (uCls E M a) (uExp E M a) (uMan E M a) (uNeg E M b) (uCls E M b) (uExp E M b) (uMan E M b)

theorem tops63 {M m : Nat} (h4 : M ≤ 52) (h : 2 ^ M ≤ m ∧ m < 2 ^ (M + 1)) : 9223372036854775808 ≤ m * 2 ^ (63 - M) ∧ m * 2 ^ (63 - M) < 18446744073709551616 := by
  constructor
  · calc 9223372036854775808 = 2 ^ M * 2 ^ (63 - M) := by rw [← Nat.pow_add, show M + (63 - M) = 63 by omega]
      _ ≤ _ := Nat.mul_le_mul_right _ h.1
  · calc m * 2 ^ (63 - M) < 2 ^ (M + 1) * 2 ^ (63 - M) := Nat.mul_lt_mul_of_pos_right h.2 (Nat.two_pow_pos _)
      _ = 18446744073709551616 := by rw [← Nat.pow_add, show M + 1 + (63 - M) = 64 by omega]

/-- what soft.DivFlags's last steps come to -/
theorem div_facts {E M : Nat} (h1 : 2 ≤ E) (h2 : E ≤ 11) (h3 : 2 ≤ M) (h4 : M ≤ 52) (neg na nb : Bool) (ca cb : Nat) (ea : Int) (ma : Nat) (eb : Int) (mb : Nat) (xa : -1200 ≤ ea ∧ ea ≤ 1100) (xb : -1200 ≤ eb ∧ eb ≤ 1100) (pa : 2 ^ M ≤ ma ∧ ma < 2 ^ (M + 1)) (pb : 2 ^ M ≤ mb ∧ mb < 2 ^ (M + 1)) :
    ∃ (mx my H L q r Q : Nat) (x1 x2 x3 : Int), (mx < 18446744073709551616 ∧ q < 18446744073709551616) ∧ (mx : Int) / 2 = (H : Int) ∧ IntKind.u64.wrap ((mx : Int) * 9223372036854775808) = (L : Int) ∧ bits .or .u64 (q : Int) 1 = (Q : Int) ∧ IntKind.i16.wrap (x1 - x2) = x1 - x2 ∧ x1 - x2 - 63 = x3 ∧ IntKind.i16.wrap x3 = x3 ∧
      (∀ w, Calls Oafg.prog 113 #[.agg #[.int .u8 E, .int .u8 M], .agg #[.bool na, .int .i8 ca, .int .i16 ea, .int .u64 ma]] w fun e w' => e = .returned (.tuple #[.int .u64 mx, .int .i16 x1]) ∧ Below w.heap.size w w') ∧
      (∀ w, Calls Oafg.prog 113 #[.agg #[.int .u8 E, .int .u8 M], .agg #[.bool nb, .int .i8 cb, .int .i16 eb, .int .u64 mb]] w fun e w' => e = .returned (.tuple #[.int .u64 my, .int .i16 x2]) ∧ Below w.heap.size w w') ∧
      (∀ w, Calls Oafg.prog 160 #[.agg #[.int .u64 H, .int .u64 L], .int .u64 my] w fun e w' => e = .returned (.tuple #[.int .u64 q, .int .u64 r, .bool true]) ∧ Below w.heap.size w w') ∧
      (r ≠ 0 → ∀ w, Calls Oafg.prog 116 #[.agg #[.int .u8 E, .int .u8 M], .int .u8 0, .bool neg, .int .i16 x3, .int .u64 Q] w fun e w' => (∃ fl : Int, e = .returned (.tuple #[.int .u64 ((Ieee.Format.mk E M).nearest neg (st (ma * 2 ^ (63 - M) * 9223372036854775808) (mb * 2 ^ (63 - M))) (ea - eb - 63) : Nat), .int .u8 fl])) ∧ Below w.heap.size w w') ∧
      (r = 0 → ∀ w, Calls Oafg.prog 116 #[.agg #[.int .u8 E, .int .u8 M], .int .u8 0, .bool neg, .int .i16 x3, .int .u64 q] w fun e w' => (∃ fl : Int, e = .returned (.tuple #[.int .u64 ((Ieee.Format.mk E M).nearest neg (st (ma * 2 ^ (63 - M) * 9223372036854775808) (mb * 2 ^ (63 - M))) (ea - eb - 63) : Nat), .int .u8 fl])) ∧ Below w.heap.size w w') := by
  obtain ⟨t1, t2⟩ := tops63 h4 pa
  obtain ⟨t3, t4⟩ := tops63 h4 pb
  have ta := fun w => top_any (E := E) h4 na ca ea ma pa.2 (by omega) w
  have tb := fun w => top_any (E := E) h4 nb cb eb mb pb.2 (by omega) w
  generalize ma * 2 ^ (63 - M) = mx at *
  generalize mb * 2 ^ (63 - M) = my at *
  have hd : two (mx / 2) (mx * 9223372036854775808 % 18446744073709551616) = mx * 9223372036854775808 := by unfold two; omega
  have hq : mx * 9223372036854775808 / my < 18446744073709551616 := by rw [Nat.div_lt_iff_lt_mul (by omega)]; omega
  have hQ : mx * 9223372036854775808 / my ||| 1 < 18446744073709551616 := Nat.lt_of_lt_of_eq (Nat.or_lt_two_pow (n := 64) (Nat.lt_of_lt_of_eq hq (by decide)) (by decide)) (by decide)
  refine ⟨mx, my, mx / 2, mx * 9223372036854775808 % 18446744073709551616, mx * 9223372036854775808 / my, mx * 9223372036854775808 % my, mx * 9223372036854775808 / my ||| 1, ea - (63 - M : Nat), eb - (63 - M : Nat), ea - eb - 63, ⟨t2, hq⟩, by omega, by rw [IntKind.wrap_u64]; omega, or64 _ 1 1 (by simp) hq (by decide), by rw [wrap_i16]; omega, by omega, by rw [wrap_i16]; omega, ta, tb, fun w => ?_, fun hr w => ?_, fun hr w => ?_⟩
  · refine (div_any _ _ my (Nat.mod_lt _ (by decide)) t4 (by omega) w).mono ?_
    rintro e w' ⟨⟨x, y, rfl, e1, e2⟩, hb⟩
    rw [hd] at e1 e2
    rw [e1, e2]
    exact ⟨rfl, hb⟩
  · have e : st (mx * 9223372036854775808) my = mx * 9223372036854775808 / my ||| 1 := by rw [st_odd _ _ hr, or_one]
    rw [e]
    exact roundPack_ne h1 h2 h3 h4 neg _ _ hQ (by omega) (by omega) w
  · rw [st_even _ _ hr]
    exact roundPack_ne h1 h2 h3 h4 neg _ _ hq (by omega) (by omega) w

set_option maxRecDepth 8000 in
set_option maxHeartbeats 2000000 in
/-- soft.DivFlags under NearestEven -/
theorem divFlags_ne {E M : Nat} (h1 : 2 ≤ E) (h2 : E ≤ 11) (h3 : 2 ≤ M) (h4 : M ≤ 52) (a b : Nat) (ha : a < 18446744073709551616) (hb : b < 18446744073709551616) (w : World) :
    Calls Oafg.prog 105 #[.agg #[.int .u8 E, .int .u8 M], .int .u8 0, .int .u64 a, .int .u64 b] w fun e w' =>
      (∃ fl : Int, e = .returned (.tuple #[.int .u64 (divU E M a b : Nat), .int .u8 fl])) ∧ Below w.heap.size w w' := by
  have ua := fun w => unpack_yes h1 h2 h3 h4 a ha w
  have ub := fun w => unpack_yes h1 h2 h3 h4 b hb w
  have xa := uExp_bd h1 h2 M a h4
  have xb := uExp_bd h1 h2 M b h4
  have ma' := uMan_lt E M a h4
  have mb' := uMan_lt E M b h4
  have za := uman_cls E M a
  have zb := uman_cls E M b
  unfold divU
  generalize uNeg E M a = na at *
  generalize uNeg E M b = nb at *
  generalize uCls E M a = ca at *
  generalize uCls E M b = cb at *
  generalize uExp E M a = ea at *
  generalize uExp E M b = eb at *
  generalize uMan E M a = ma at *
  generalize uMan E M b = mb at *
  have Ua : Hid _ := ua
  have Ub : Hid _ := ub
  have FN : Hid _ := fun (g1 : ca ≠ 0) (g2 : cb ≠ 0) (g3 : ca ≠ 3) (g4 : ca ≠ 4) (g5 : cb ≠ 3) (g6 : cb ≠ 4) => div_facts h1 h2 h3 h4 (!(na == nb)) na nb ca cb ea ma eb mb xa xb (za g1 g3 g4) (zb g2 g5 g6)
  clear ua ub xa xb ma' mb' za zb
  obtain ⟨V, hV⟩ : ∃ V, V = divC E M na ca ea ma nb cb eb mb := ⟨_, rfl⟩
  rw [← hV]
  have HV : Hid _ := hV
  clear hV
  go_enter Oafg.func105, Oafg.ntmps105
  go_wp2_with (go_at_call 54; refine (ok_yes h1 h2 h3 h4 _).mono ?_; rintro e w1 ⟨rfl, hb1⟩; obtain ⟨hc1, hf1⟩ := bcell hb1)
  go_cut [10, 11] (fun t7 t8 w' => ∃ b7 b8, t7 = .pointer (some ⟨b7, 0, none⟩) ∧ t8 = .pointer (some ⟨b8, 0, none⟩) ∧ Hid (PS w E M b7 b8 na ca ea ma nb cb eb mb w'))
  case first =>
    have hS0 : HS w w.heap.size E M w1 := ⟨below1 hb1, Nat.le_refl _, by simp [hc1], by simp [hc1]⟩
    obtain ⟨hl0, hl1⟩ := HS.cells (w := w) (b := w.heap.size) (E := E) (M := M)
    have hsz : w.heap.size < w1.heap.size := hS0.lt
    clear hc1 hf1
    go_region_held3 (fun w' => HS w w.heap.size E M w')
      (repeat' (first | with_reducible exact hSu | with_reducible exact hS0 | with_reducible apply HS.alloc | with_reducible apply HS.set | with_reducible apply HS.drew | (simp; omega) | omega))
      (first
        | (go_at_call_of 70 (Value.int .u64 a); refine (Ua.out _).mono ?_; rintro e w2 ⟨rfl, hbu⟩; have hSu := HS.call (by assumption) hbu; have hltu := HS.lt hSu; obtain ⟨hcu, hfu⟩ := bcell hbu; have hzu := hbu.size; (try simp at hzu); (try have q1 : w1.heap.size < w2.heap.size := by omega); (try have q2 : w1.heap.size + 1 < w2.heap.size := by omega))
        | (go_at_call_of 70 (Value.int .u64 b); refine (Ub.out _).mono ?_; rintro e w3 ⟨rfl, hbu⟩; have hSu := HS.call (by assumption) hbu; have hltu := HS.lt hSu; obtain ⟨hcu, hfu⟩ := bcell hbu; have hzu := hbu.size; (try simp at hzu); (try have q3 : w1.heap.size < w3.heap.size := by omega); (try have q4 : w1.heap.size + 1 < w3.heap.size := by omega); (try have q5 : w2.heap.size < w3.heap.size := by omega); (try have q6 : w2.heap.size + 1 < w3.heap.size := by omega)))
    all_goals
      rename_i hH
      go_wp2
      go_meet
      case rel => exact ⟨_, _, rfl, rfl, hH, by simp (maxDischargeDepth := 8) [go_sem, *], by simp (maxDischargeDepth := 8) [go_sem, *], by simp (maxDischargeDepth := 8) [go_sem, *], by simp (maxDischargeDepth := 8) [go_sem, *], by simp (maxDischargeDepth := 8) [go_sem, *], by simp (maxDischargeDepth := 8) [go_sem, *], by simp (maxDischargeDepth := 8) [go_sem, *], by simp (maxDischargeDepth := 8) [go_sem, *]⟩
  case rest =>
    clear hc1 hf1 hb1 Ua Ub
    obtain ⟨b7, b8, rfl, rfl, P⟩ := hcut
    obtain ⟨⟨hBw, hle, z0, z1⟩, x0, x1, x2, x3, y0, y1, y2, y3⟩ := P.out
    clear P hle
    by_cases ha4 : ca = 4
    · have ba4 : ((ca : Int) == 4) = true := by rw [ha4]; rfl
      have hv : V = nanR E M := HV.out.trans (by unfold divC; rw [if_pos (Or.inl ha4)])
      clear HV
      subst hv
      clear ha4 FN
      have hS0 : HB wc wc := HB.start
      have hcl := HB.cells (W := wc)
      have hlt := World.block_lt_of_cell? _ _ z0
      simp only at hlt
      go_wp2
      go_region_held3 (fun w' => HB wc w')
        (repeat' (first | with_reducible exact hSu | with_reducible exact hS0 | with_reducible apply HB.drew))
        (first
          | (go_at_call 110; refine (theNaN_yes h1 h2 h3 h4 _).mono ?_; rintro e w2 ⟨rfl, hbu⟩; have hSu := HB.call (by assumption) hbu)
          | (go_at_call 111; refine (heard_yes h1 h2 h3 h4 a b ha hb _).mono ?_; rintro e w3 ⟨⟨fl, rfl⟩, hbu⟩; have hSu := HB.call (by assumption) hbu))
      rename_i hH
      go_wp2
      go_ret2
      exact ⟨⟨_, rfl⟩, bt hBw hH.out⟩
    have ba4 : ((ca : Int) == 4) = false := by rw [beq_eq_false_iff_ne]; omega
    by_cases hb4 : cb = 4
    · have bb4 : ((cb : Int) == 4) = true := by rw [hb4]; rfl
      have hv : V = nanR E M := HV.out.trans (by unfold divC; rw [if_pos (Or.inr hb4)])
      clear HV
      subst hv
      clear ha4 hb4 FN
      have hS0 : HB wc wc := HB.start
      have hcl := HB.cells (W := wc)
      have hlt := World.block_lt_of_cell? _ _ z0
      simp only at hlt
      go_wp2
      go_region_held3 (fun w' => HB wc w')
        (repeat' (first | with_reducible exact hSu | with_reducible exact hS0 | with_reducible apply HB.drew))
        (first
          | (go_at_call 110; refine (theNaN_yes h1 h2 h3 h4 _).mono ?_; rintro e w2 ⟨rfl, hbu⟩; have hSu := HB.call (by assumption) hbu)
          | (go_at_call 111; refine (heard_yes h1 h2 h3 h4 a b ha hb _).mono ?_; rintro e w3 ⟨⟨fl, rfl⟩, hbu⟩; have hSu := HB.call (by assumption) hbu))
      rename_i hH
      go_wp2
      go_ret2
      exact ⟨⟨_, rfl⟩, bt hBw hH.out⟩
    have bb4 : ((cb : Int) == 4) = false := by rw [beq_eq_false_iff_ne]; omega
    by_cases ha3 : ca = 3
    · have ba3 : ((ca : Int) == 3) = true := by rw [ha3]; rfl
      have ba0 : ((ca : Int) == 0) = false := by rw [beq_eq_false_iff_ne]; omega
      by_cases hb3 : cb = 3
      · have bb3 : ((cb : Int) == 3) = true := by rw [hb3]; rfl
        have bb0 : ((cb : Int) == 0) = false := by rw [beq_eq_false_iff_ne]; omega
        have hv : V = nanR E M := HV.out.trans (by unfold divC; rw [if_neg (by omega), if_pos (by omega)])
        clear HV
        subst hv
        clear ha4 hb4 ha3 hb3 FN
        go_wp2_with (go_at_call 110; refine (theNaN_yes h1 h2 h3 h4 _).mono ?_; rintro e w2 ⟨rfl, hb2⟩)
        go_ret2
        exact ⟨⟨_, rfl⟩, bt hBw hb2⟩
      · have bb3 : ((cb : Int) == 3) = false := by rw [beq_eq_false_iff_ne]; omega
        have hv : V = infR E M + sgn E M (!(na == nb)) := HV.out.trans (by unfold divC; rw [if_neg (by omega), if_neg (by omega), if_pos (by omega)])
        clear HV
        subst hv
        clear ha4 hb4 ha3 hb3 FN
        go_wp2_with (go_at_call 112; refine (inf_yes h1 h2 h3 h4 _ _).mono ?_; rintro e w2 ⟨rfl, hb2⟩)
        go_ret2
        exact ⟨⟨_, rfl⟩, bt hBw hb2⟩
    have ba3 : ((ca : Int) == 3) = false := by rw [beq_eq_false_iff_ne]; omega
    by_cases ha0 : ca = 0
    · have ba0 : ((ca : Int) == 0) = true := by rw [ha0]; rfl
      by_cases hb0 : cb = 0
      · have bb0 : ((cb : Int) == 0) = true := by rw [hb0]; rfl
        have bb3 : ((cb : Int) == 3) = false := by rw [beq_eq_false_iff_ne]; omega
        have hv : V = nanR E M := HV.out.trans (by unfold divC; rw [if_neg (by omega), if_pos (by omega)])
        clear HV
        subst hv
        clear ha4 hb4 ha3 ha0 hb0 FN
        go_wp2_with (go_at_call 110; refine (theNaN_yes h1 h2 h3 h4 _).mono ?_; rintro e w2 ⟨rfl, hb2⟩)
        go_ret2
        exact ⟨⟨_, rfl⟩, bt hBw hb2⟩
      · have bb0 : ((cb : Int) == 0) = false := by rw [beq_eq_false_iff_ne]; omega
        have hv : V = sgn E M (!(na == nb)) := HV.out.trans (by unfold divC; rw [if_neg (by omega), if_neg (by omega), if_neg (by omega), if_neg (by omega), if_pos (by omega)])
        clear HV
        subst hv
        clear ha4 hb4 ha3 ha0 hb0 FN
        go_wp2_with (go_at_call 109; refine (zero_yes h1 h2 h3 h4 _ _).mono ?_; rintro e w2 ⟨rfl, hb2⟩)
        go_ret2
        exact ⟨⟨_, rfl⟩, bt hBw hb2⟩
    have ba0 : ((ca : Int) == 0) = false := by rw [beq_eq_false_iff_ne]; omega
    by_cases hb3 : cb = 3
    · have bb3 : ((cb : Int) == 3) = true := by rw [hb3]; rfl
      have bb0 : ((cb : Int) == 0) = false := by rw [beq_eq_false_iff_ne]; omega
      have hv : V = sgn E M (!(na == nb)) := HV.out.trans (by unfold divC; rw [if_neg (by omega), if_neg (by omega), if_neg (by omega), if_neg (by omega), if_pos (by omega)])
      clear HV
      subst hv
      clear ha4 hb4 ha3 ha0 hb3 FN
      go_wp2_with (go_at_call 109; refine (zero_yes h1 h2 h3 h4 _ _).mono ?_; rintro e w2 ⟨rfl, hb2⟩)
      go_ret2
      exact ⟨⟨_, rfl⟩, bt hBw hb2⟩
    have bb3 : ((cb : Int) == 3) = false := by rw [beq_eq_false_iff_ne]; omega
    by_cases hb0 : cb = 0
    · have bb0 : ((cb : Int) == 0) = true := by rw [hb0]; rfl
      have hv : V = infR E M + sgn E M (!(na == nb)) := HV.out.trans (by unfold divC; rw [if_neg (by omega), if_neg (by omega), if_neg (by omega), if_pos (by omega)])
      clear HV
      subst hv
      clear ha4 hb4 ha3 ha0 hb3 hb0 FN
      go_wp2_with (go_at_call 112; refine (inf_yes h1 h2 h3 h4 _ _).mono ?_; rintro e w2 ⟨rfl, hb2⟩)
      go_ret2
      exact ⟨⟨_, rfl⟩, bt hBw hb2⟩
    have bb0 : ((cb : Int) == 0) = false := by rw [beq_eq_false_iff_ne]; omega
    have hv : V = (Ieee.Format.mk E M).nearest (!(na == nb)) (st (ma * 2 ^ (63 - M) * 9223372036854775808) (mb * 2 ^ (63 - M))) (ea - eb - 63) := HV.out.trans (by unfold divC; rw [if_neg (by omega), if_neg (by omega), if_neg (by omega), if_neg (by omega), if_neg (by omega)])
    obtain ⟨mx, my, H, L, q, r, Q, x1', x2', x3', ⟨s1, s2⟩, s3, s4, s5, s6, s7, s8, K1, K2, K3, K4, K5⟩ := FN.out ha0 hb0 ha3 ha4 hb3 hb4
    rw [← hv] at K4 K5
    have H1 : Hid _ := K1
    have H2 : Hid _ := K2
    have H3 : Hid _ := K3
    have HK4 : Hid _ := K4
    have HK5 : Hid _ := K5
    clear HV hv FN K1 K2 K3 K4 K5 ha4 hb4 ha3 ha0 hb3 hb0
    have hlt := World.block_lt_of_cell? _ _ z0
    have hlx := World.block_lt_of_cell? _ _ x0
    have hly := World.block_lt_of_cell? _ _ y0
    simp only at hlt hlx hly
    have B := Below.refl wc.heap.size wc
    obtain ⟨hc, hf⟩ := bcell B
    by_cases hr : r = 0
    · have hrb : ((r : Int) == 0) = true := by rw [hr]; rfl
      have H4 : Hid _ := HK5.out hr
      clear hr HK4 HK5
      go_wp2_with (first
          | (go_at_call_of 113 (Value.agg #[.bool na, .int .i8 ca, .int .i16 ea, .int .u64 ma]); refine (H1.out _).mono ?_; rintro e w2 ⟨rfl, hb2⟩; have B := bt B hb2; clear hc hf hb2; obtain ⟨hc, hf⟩ := bcell B)
          | (go_at_call_of 113 (Value.agg #[.bool nb, .int .i8 cb, .int .i16 eb, .int .u64 mb]); refine (H2.out _).mono ?_; rintro e w2 ⟨rfl, hb2⟩; have B := bt B hb2; clear hc hf hb2; obtain ⟨hc, hf⟩ := bcell B)
          | (go_at_call 160; refine (H3.out _).mono ?_; rintro e w2 ⟨rfl, hb2⟩; have B := bt B hb2; clear hc hf hb2; obtain ⟨hc, hf⟩ := bcell B)
          | (go_at_call 116; refine (H4.out _).mono ?_; rintro e w2 ⟨⟨fl, rfl⟩, hb2⟩; have B := bt B hb2))
      go_ret2
      exact ⟨⟨_, rfl⟩, bt hBw B⟩
    · have hrb : ((r : Int) == 0) = false := by rw [beq_eq_false_iff_ne]; omega
      have H4 : Hid _ := HK4.out hr
      clear hr HK4 HK5
      go_wp2_with (first
          | (go_at_call_of 113 (Value.agg #[.bool na, .int .i8 ca, .int .i16 ea, .int .u64 ma]); refine (H1.out _).mono ?_; rintro e w2 ⟨rfl, hb2⟩; have B := bt B hb2; clear hc hf hb2; obtain ⟨hc, hf⟩ := bcell B)
          | (go_at_call_of 113 (Value.agg #[.bool nb, .int .i8 cb, .int .i16 eb, .int .u64 mb]); refine (H2.out _).mono ?_; rintro e w2 ⟨rfl, hb2⟩; have B := bt B hb2; clear hc hf hb2; obtain ⟨hc, hf⟩ := bcell B)
          | (go_at_call 160; refine (H3.out _).mono ?_; rintro e w2 ⟨rfl, hb2⟩; have B := bt B hb2; clear hc hf hb2; obtain ⟨hc, hf⟩ := bcell B)
          | (go_at_call 116; refine (H4.out _).mono ?_; rintro e w2 ⟨⟨fl, rfl⟩, hb2⟩; have B := bt B hb2))
      go_ret2
      exact ⟨⟨_, rfl⟩, bt hBw B⟩
end Go.Proofs.Ygcoaf
