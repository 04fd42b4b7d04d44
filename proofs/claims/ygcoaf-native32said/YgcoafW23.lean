/-
  WALKS: MulFlags.
-/
import Derived.Test.YgcoafW22
namespace Go.Proofs.Ygcoaf
open Go.RowKit Go.Proofs.Ygcoaf.M

/-- a * b on what the words stand for -/
def mulC (E M : Nat) (na : Bool) (ca : Nat) (ea : Int) (ma : Nat) (nb : Bool) (cb : Nat) (eb : Int) (mb : Nat) : Nat :=
  if ca = 4 ∨ cb = 4 then nanR E M else if (ca = 3 ∧ cb = 0) ∨ (ca = 0 ∧ cb = 3) then nanR E M else if ca = 3 ∨ cb = 3 then infR E M + sgn E M (!(na == nb)) else if ca = 0 ∨ cb = 0 then sgn E M (!(na == nb)) else (Ieee.Format.mk E M).nearest (!(na == nb)) (ma * mb) (ea + eb)
def mulU (E M a b : Nat) : Nat := mulC E M (uNeg E M a) (uCls E M a) (uExp E M a) (uMan E M a) (uNeg E M b) (uCls E M b) (uExp E M b) (uMan E M b)

/-- what soft.MulFlags's last steps come to -/
theorem mul_facts {E M : Nat} (h1 : 2 ≤ E) (h2 : E ≤ 11) (h3 : 2 ≤ M) (h4 : M ≤ 52) (neg : Bool) (ea : Int) (ma : Nat) (eb : Int) (mb : Nat) (xa : -1200 ≤ ea ∧ ea ≤ 1100) (xb : -1200 ≤ eb ∧ eb ≤ 1100) (ga : ma < 9007199254740992) (gb : mb < 9007199254740992) (pa : ma ≠ 0) (pb : mb ≠ 0) :
    ∃ (H L sig : Nat) (ex : Int), IntKind.i16.wrap (ea + eb) = ea + eb ∧ (∀ w, Calls Oafg.prog 155 #[.int .u64 ma, .int .u64 mb] w fun e w' => e = .returned (.agg #[.int .u64 H, .int .u64 L]) ∧ Below w.heap.size w w') ∧
      (∀ w, Calls Oafg.prog 168 #[.agg #[.int .u64 H, .int .u64 L], .int .i16 (ea + eb)] w fun e w' => e = .returned (.tuple #[.int .u64 sig, .int .i16 ex]) ∧ Below w.heap.size w w') ∧
      (∀ w, Calls Oafg.prog 116 #[.agg #[.int .u8 E, .int .u8 M], .int .u8 0, .bool neg, .int .i16 ex, .int .u64 sig] w fun e w' => (∃ fl : Int, e = .returned (.tuple #[.int .u64 ((Ieee.Format.mk E M).nearest neg (ma * mb) (ea + eb) : Nat), .int .u8 fl])) ∧ Below w.heap.size w w') := by
  have hlt : ma * mb < 340282366920938463463374607431768211456 := Nat.lt_of_lt_of_le (Nat.mul_lt_mul'' ga gb) (by decide)
  have hne : ma * mb ≠ 0 := Nat.mul_ne_zero pa pb
  obtain ⟨H, L, v, b1, b2⟩ := two_parts (ma * mb) hlt
  have hlog : (ma * mb).log2 < 128 := (Nat.log2_lt hne).2 (by rw [p128]; exact hlt)
  refine ⟨H, L, st (ma * mb * 2 ^ (127 - (ma * mb).log2)) 18446744073709551616, ea + eb + 64 - (127 - (ma * mb).log2 : Nat), by rw [wrap_i16]; omega, fun w => ?_, fun w => ?_, fun w => ?_⟩
  · refine (mul64_any ma mb (by omega) (by omega) w).mono ?_
    rintro e w' ⟨⟨x, y, rfl, e1, e2, e3⟩, hb⟩
    obtain ⟨rfl, rfl⟩ := two_inj e3 b2 (e1.trans v.symm)
    exact ⟨rfl, hb⟩
  · refine (jam_any H L b1 b2 (ea + eb) (by omega) (by rw [v]; exact hne) w).mono ?_
    rintro e w' ⟨⟨s, x, rfl, ⟨e1, e2⟩, e3⟩, hb⟩
    rw [v] at e1 e2
    rw [← e1, ← e2]
    exact ⟨rfl, hb⟩
  · have hs : st (ma * mb * 2 ^ (127 - (ma * mb).log2)) 18446744073709551616 < 18446744073709551616 := by
      have hup := log_up2 (ma * mb) (Nat.pos_of_ne_zero hne) hlt
      obtain ⟨P, Q, v2, c1, c2⟩ := two_parts _ hup
      rw [← v2, st_two P Q c2]
      split
      · exact c1
      · exact Nat.lt_of_lt_of_eq (Nat.or_lt_two_pow (n := 64) (Nat.lt_of_lt_of_eq c1 (by decide)) (by decide)) (by decide)
    have r := roundPack_ne h1 h2 h3 h4 neg (ea + eb + 64 - (127 - (ma * mb).log2 : Nat)) _ hs (by omega) (by omega) w
    rw [nearest_lead E M h4 neg (ma * mb) (ea + eb) hne hlt] at r
    exact r

set_option maxRecDepth 8000 in
set_option maxHeartbeats 2000000 in
/-- soft.MulFlags under NearestEven -/
theorem mulFlags_ne {E M : Nat} (h1 : 2 ≤ E) (h2 : E ≤ 11) (h3 : 2 ≤ M) (h4 : M ≤ 52) (a b : Nat) (ha : a < 18446744073709551616) (hb : b < 18446744073709551616) (w : World) :
    Calls Oafg.prog 104 #[.agg #[.int .u8 E, .int .u8 M], .int .u8 0, .int .u64 a, .int .u64 b] w fun e w' =>
      (∃ fl : Int, e = .returned (.tuple #[.int .u64 (mulU E M a b : Nat), .int .u8 fl])) ∧ Below w.heap.size w w' := by
  have ua := fun w => unpack_yes h1 h2 h3 h4 a ha w
  have ub := fun w => unpack_yes h1 h2 h3 h4 b hb w
  have xa := uExp_bd h1 h2 M a h4
  have xb := uExp_bd h1 h2 M b h4
  have ma' := uMan_lt E M a h4
  have mb' := uMan_lt E M b h4
  have za := uman_cls E M a
  have zb := uman_cls E M b
  unfold mulU
  generalize uNeg E M a = na at *
  generalize uNeg E M b = nb at *
  generalize uCls E M a = ca at *
  generalize uCls E M b = cb at *
  generalize uExp E M a = ea at *
  generalize uExp E M b = eb at *
  generalize uMan E M a = ma at *
  generalize uMan E M b = mb at *
  have Ua : Hid _ := ua
  have Ub : Hid _ := ub
  have FN : Hid _ := fun (g1 : ca ≠ 0) (g2 : cb ≠ 0) (g3 : ca ≠ 3) (g4 : ca ≠ 4) (g5 : cb ≠ 3) (g6 : cb ≠ 4) => mul_facts h1 h2 h3 h4 (!(na == nb)) ea ma eb mb xa xb ma' mb' (by have := (za g1 g3 g4).1; have := Nat.two_pow_pos M; omega) (by have := (zb g2 g5 g6).1; have := Nat.two_pow_pos M; omega)
  clear ua ub xa xb ma' mb' za zb
  obtain ⟨V, hV⟩ : ∃ V, V = mulC E M na ca ea ma nb cb eb mb := ⟨_, rfl⟩
  rw [← hV]
  have HV : Hid _ := hV
  clear hV
  go_enter Oafg.func104, Oafg.ntmps104
  go_wp2_with (go_at_call 54; refine (ok_yes h1 h2 h3 h4 _).mono ?_; rintro e w1 ⟨rfl, hb1⟩; obtain ⟨hc1, hf1⟩ := bcell hb1)
  go_cut [10, 11] (fun t7 t8 w' => ∃ b7 b8, t7 = .pointer (some ⟨b7, 0, none⟩) ∧ t8 = .pointer (some ⟨b8, 0, none⟩) ∧ Hid (PS w E M b7 b8 na ca ea ma nb cb eb mb w'))
  case first =>
    have hS0 : HS w w.heap.size E M w1 := ⟨below1 hb1, Nat.le_refl _, by simp [hc1], by simp [hc1]⟩
    obtain ⟨hl0, hl1⟩ := HS.cells (w := w) (b := w.heap.size) (E := E) (M := M)
    have hsz : w.heap.size < w1.heap.size := hS0.lt
    clear hc1 hf1
    go_region_held3 (fun w' => HS w w.heap.size E M w')
      (repeat' (first | with_reducible exact hSu | with_reducible exact hS0 | with_reducible apply HS.alloc | with_reducible apply HS.set | with_reducible apply HS.drew | (simp; omega) | omega))
      (first
        | (go_at_call_of 70 (Value.int .u64 a); refine (Ua.out _).mono ?_; rintro e w2 ⟨rfl, hbu⟩; have hSu := HS.call (by assumption) hbu; have hltu := HS.lt hSu; obtain ⟨hcu, hfu⟩ := bcell hbu; have hzu := hbu.size; (try simp at hzu); (try have q1 : w1.heap.size < w2.heap.size := by omega); (try have q2 : w1.heap.size + 1 < w2.heap.size := by omega))
        | (go_at_call_of 70 (Value.int .u64 b); refine (Ub.out _).mono ?_; rintro e w3 ⟨rfl, hbu⟩; have hSu := HS.call (by assumption) hbu; have hltu := HS.lt hSu; obtain ⟨hcu, hfu⟩ := bcell hbu; have hzu := hbu.size; (try simp at hzu); (try have q3 : w1.heap.size < w3.heap.size := by omega); (try have q4 : w1.heap.size + 1 < w3.heap.size := by omega); (try have q5 : w2.heap.size < w3.heap.size := by omega); (try have q6 : w2.heap.size + 1 < w3.heap.size := by omega)))
    all_goals
      rename_i hH
      go_wp2
      go_meet
      case rel => exact ⟨_, _, rfl, rfl, hH, by simp (maxDischargeDepth := 8) [go_sem, *], by simp (maxDischargeDepth := 8) [go_sem, *], by simp (maxDischargeDepth := 8) [go_sem, *], by simp (maxDischargeDepth := 8) [go_sem, *], by simp (maxDischargeDepth := 8) [go_sem, *], by simp (maxDischargeDepth := 8) [go_sem, *], by simp (maxDischargeDepth := 8) [go_sem, *], by simp (maxDischargeDepth := 8) [go_sem, *]⟩
  case rest =>
    clear hc1 hf1 hb1 Ua Ub
    obtain ⟨b7, b8, rfl, rfl, P⟩ := hcut
    obtain ⟨⟨hBw, hle, z0, z1⟩, x0, x1, x2, x3, y0, y1, y2, y3⟩ := P.out
    clear P hle
    by_cases ha4 : ca = 4
    · have ba4 : ((ca : Int) == 4) = true := by rw [ha4]; rfl
      have hv : V = nanR E M := HV.out.trans (by unfold mulC; rw [if_pos (Or.inl ha4)])
      clear HV
      subst hv
      clear ha4 FN
      have hS0 : HB wc wc := HB.start
      have hcl := HB.cells (W := wc)
      have hlt := World.block_lt_of_cell? _ _ z0
      simp only at hlt
      go_wp2
      go_region_held3 (fun w' => HB wc w')
        (repeat' (first | with_reducible exact hSu | with_reducible exact hS0 | with_reducible apply HB.drew))
        (first
          | (go_at_call 110; refine (theNaN_yes h1 h2 h3 h4 _).mono ?_; rintro e w2 ⟨rfl, hbu⟩; have hSu := HB.call (by assumption) hbu)
          | (go_at_call 111; refine (heard_yes h1 h2 h3 h4 a b ha hb _).mono ?_; rintro e w3 ⟨⟨fl, rfl⟩, hbu⟩; have hSu := HB.call (by assumption) hbu))
      rename_i hH
      go_wp2
      go_ret2
      exact ⟨⟨_, rfl⟩, bt hBw hH.out⟩
    have ba4 : ((ca : Int) == 4) = false := by rw [beq_eq_false_iff_ne]; omega
    by_cases hb4 : cb = 4
    · have bb4 : ((cb : Int) == 4) = true := by rw [hb4]; rfl
      have hv : V = nanR E M := HV.out.trans (by unfold mulC; rw [if_pos (Or.inr hb4)])
      clear HV
      subst hv
      clear ha4 hb4 FN
      have hS0 : HB wc wc := HB.start
      have hcl := HB.cells (W := wc)
      have hlt := World.block_lt_of_cell? _ _ z0
      simp only at hlt
      go_wp2
      go_region_held3 (fun w' => HB wc w')
        (repeat' (first | with_reducible exact hSu | with_reducible exact hS0 | with_reducible apply HB.drew))
        (first
          | (go_at_call 110; refine (theNaN_yes h1 h2 h3 h4 _).mono ?_; rintro e w2 ⟨rfl, hbu⟩; have hSu := HB.call (by assumption) hbu)
          | (go_at_call 111; refine (heard_yes h1 h2 h3 h4 a b ha hb _).mono ?_; rintro e w3 ⟨⟨fl, rfl⟩, hbu⟩; have hSu := HB.call (by assumption) hbu))
      rename_i hH
      go_wp2
      go_ret2
      exact ⟨⟨_, rfl⟩, bt hBw hH.out⟩
    have bb4 : ((cb : Int) == 4) = false := by rw [beq_eq_false_iff_ne]; omega
    by_cases ha3 : ca = 3
    · have ba3 : ((ca : Int) == 3) = true := by rw [ha3]; rfl
      have ba0 : ((ca : Int) == 0) = false := by rw [beq_eq_false_iff_ne]; omega
      by_cases hb0 : cb = 0
      · have bb0 : ((cb : Int) == 0) = true := by rw [hb0]; rfl
        have bb3 : ((cb : Int) == 3) = false := by rw [beq_eq_false_iff_ne]; omega
        have hv : V = nanR E M := HV.out.trans (by unfold mulC; rw [if_neg (by omega), if_pos (by omega)])
        clear HV
        subst hv
        clear ha4 hb4 ha3 hb0 FN
        go_wp2_with (go_at_call 110; refine (theNaN_yes h1 h2 h3 h4 _).mono ?_; rintro e w2 ⟨rfl, hb2⟩)
        go_ret2
        exact ⟨⟨_, rfl⟩, bt hBw hb2⟩
      · have bb0 : ((cb : Int) == 0) = false := by rw [beq_eq_false_iff_ne]; omega
        have hv : V = infR E M + sgn E M (!(na == nb)) := HV.out.trans (by unfold mulC; rw [if_neg (by omega), if_neg (by omega), if_pos (by omega)])
        clear HV
        subst hv
        clear ha4 hb4 ha3 hb0 FN
        go_wp2_with (go_at_call 112; refine (inf_yes h1 h2 h3 h4 _ _).mono ?_; rintro e w2 ⟨rfl, hb2⟩)
        go_ret2
        exact ⟨⟨_, rfl⟩, bt hBw hb2⟩
    have ba3 : ((ca : Int) == 3) = false := by rw [beq_eq_false_iff_ne]; omega
    by_cases ha0 : ca = 0
    · have ba0 : ((ca : Int) == 0) = true := by rw [ha0]; rfl
      by_cases hb3 : cb = 3
      · have bb3 : ((cb : Int) == 3) = true := by rw [hb3]; rfl
        have bb0 : ((cb : Int) == 0) = false := by rw [beq_eq_false_iff_ne]; omega
        have hv : V = nanR E M := HV.out.trans (by unfold mulC; rw [if_neg (by omega), if_pos (by omega)])
        clear HV
        subst hv
        clear ha4 hb4 ha3 ha0 hb3 FN
        go_wp2_with (go_at_call 110; refine (theNaN_yes h1 h2 h3 h4 _).mono ?_; rintro e w2 ⟨rfl, hb2⟩)
        go_ret2
        exact ⟨⟨_, rfl⟩, bt hBw hb2⟩
      · have bb3 : ((cb : Int) == 3) = false := by rw [beq_eq_false_iff_ne]; omega
        have hv : V = sgn E M (!(na == nb)) := HV.out.trans (by unfold mulC; rw [if_neg (by omega), if_neg (by omega), if_neg (by omega), if_pos (by omega)])
        clear HV
        subst hv
        clear ha4 hb4 ha3 ha0 hb3 FN
        go_wp2_with (go_at_call 109; refine (zero_yes h1 h2 h3 h4 _ _).mono ?_; rintro e w2 ⟨rfl, hb2⟩)
        go_ret2
        exact ⟨⟨_, rfl⟩, bt hBw hb2⟩
    have ba0 : ((ca : Int) == 0) = false := by rw [beq_eq_false_iff_ne]; omega
    by_cases hb3 : cb = 3
    · have bb3 : ((cb : Int) == 3) = true := by rw [hb3]; rfl
      have bb0 : ((cb : Int) == 0) = false := by rw [beq_eq_false_iff_ne]; omega
      have hv : V = infR E M + sgn E M (!(na == nb)) := HV.out.trans (by unfold mulC; rw [if_neg (by omega), if_neg (by omega), if_pos (by omega)])
      clear HV
      subst hv
      clear ha4 hb4 ha3 ha0 hb3 FN
      go_wp2_with (go_at_call 112; refine (inf_yes h1 h2 h3 h4 _ _).mono ?_; rintro e w2 ⟨rfl, hb2⟩)
      go_ret2
      exact ⟨⟨_, rfl⟩, bt hBw hb2⟩
    have bb3 : ((cb : Int) == 3) = false := by rw [beq_eq_false_iff_ne]; omega
    by_cases hb0 : cb = 0
    · have bb0 : ((cb : Int) == 0) = true := by rw [hb0]; rfl
      have hv : V = sgn E M (!(na == nb)) := HV.out.trans (by unfold mulC; rw [if_neg (by omega), if_neg (by omega), if_neg (by omega), if_pos (by omega)])
      clear HV
      subst hv
      clear ha4 hb4 ha3 ha0 hb3 hb0 FN
      go_wp2_with (go_at_call 109; refine (zero_yes h1 h2 h3 h4 _ _).mono ?_; rintro e w2 ⟨rfl, hb2⟩)
      go_ret2
      exact ⟨⟨_, rfl⟩, bt hBw hb2⟩
    have bb0 : ((cb : Int) == 0) = false := by rw [beq_eq_false_iff_ne]; omega
    have hv : V = (Ieee.Format.mk E M).nearest (!(na == nb)) (ma * mb) (ea + eb) := HV.out.trans (by unfold mulC; rw [if_neg (by omega), if_neg (by omega), if_neg (by omega), if_neg (by omega)])
    obtain ⟨H, L, sig, ex, t1, K155, K168, K116⟩ := FN.out ha0 hb0 ha3 ha4 hb3 hb4
    rw [← hv] at K116
    have H155 : Hid _ := K155
    have H168 : Hid _ := K168
    have H116 : Hid _ := K116
    clear HV hv FN K155 K168 K116 ha4 hb4 ha3 ha0 hb3 hb0
    have hS0 : HB wc wc := HB.start
    have hcl := HB.cells (W := wc)
    have hlt := World.block_lt_of_cell? _ _ z0
    have hlx := World.block_lt_of_cell? _ _ x0
    have hly := World.block_lt_of_cell? _ _ y0
    simp only at hlt hlx hly
    go_wp2
    go_region_held3 (fun w' => HB wc w')
      (repeat' (first | with_reducible exact hSu | with_reducible exact hS0 | with_reducible apply HB.drew | with_reducible assumption))
      (first
        | (go_at_call 155; refine (H155.out _).mono ?_; rintro e w2 ⟨rfl, hbu⟩; have hSu := HB.call (by assumption) hbu)
        | (go_at_call 168; refine (H168.out _).mono ?_; rintro e w3 ⟨rfl, hbu⟩; have hSu := HB.call (by assumption) hbu))
    all_goals
      have hSw := hSu
      go_wp2_with (go_at_call 116; refine (H116.out _).mono ?_; rintro e w4 ⟨⟨fl, rfl⟩, hb4⟩)
      go_ret2
      exact ⟨⟨_, rfl⟩, bt hBw (bt hSw.out hb4)⟩
end Go.Proofs.Ygcoaf
