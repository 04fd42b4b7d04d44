/-
  PACKAGE exact, the fourth: overflow, log2.
-/
import Derived.Test.YgcoafX3
namespace Go.Proofs.Ygcoaf
open Go.RowKit Go.Proofs.Ygcoaf.M

/-- the answer beyond the greatest finite value -/
def ovf (E M mode : Nat) (neg : Bool) : Nat := if mode = 2 ∨ (mode = 3 ∧ neg = true) ∨ (mode = 4 ∧ neg = false) then infR E M - 1 + sgn E M neg else infR E M + sgn E M neg

/-- exact.overflow -/
theorem eover_yes {E M : Nat} (h1 : 2 ≤ E) (h2 : E ≤ 11) (h3 : 2 ≤ M) (h4 : M ≤ 52) (mode : Nat) (hm : mode < 256) (neg : Bool) (w : World) :
    Calls Oafg.prog 129 #[.agg #[.int .u8 E, .int .u8 M], .int .u8 mode, .bool neg] w fun e w' => e = .returned (.tuple #[.int .u64 (ovf E M mode neg : Nat), .int .u8 20]) ∧ Below w.heap.size w w' := by
  obtain ⟨V, hV⟩ : ∃ V, V = ovf E M mode neg := ⟨_, rfl⟩
  rw [← hV]
  unfold ovf at hV
  by_cases c : mode = 2 ∨ (mode = 3 ∧ neg = true) ∨ (mode = 4 ∧ neg = false)
  · rw [if_pos c] at hV
    have HM : Hid _ := fun ww => maxFinite_yes h1 h2 h3 h4 neg ww
    rw [← hV] at HM
    obtain rfl | ⟨rfl, rfl⟩ | ⟨rfl, rfl⟩ := c
    all_goals
      clear hV
      go_enter Oafg.func129, Oafg.ntmps129
      go_wp2_with (go_at_call 154; refine (HM.out _).mono ?_; rintro e w1 ⟨rfl, hb⟩)
      go_ret2
      exact ⟨rfl, below1 hb⟩
  · rw [if_neg c] at hV
    have HM : Hid _ := fun ww => inf_yes h1 h2 h3 h4 neg ww
    rw [← hV] at HM
    have n2 : ((mode : Int) == 2) = false := by rw [beq_eq_false_iff_ne]; omega
    clear hV
    cases neg
    · have n4 : ((mode : Int) == 4) = false := by rw [beq_eq_false_iff_ne]; simp at c; omega
      by_cases c3 : mode = 3
      · subst c3
        clear c n2 n4
        go_enter Oafg.func129, Oafg.ntmps129
        go_wp2_with (go_at_call 112; refine (HM.out _).mono ?_; rintro e w1 ⟨rfl, hb⟩)
        go_ret2
        exact ⟨rfl, below1 hb⟩
      · have n3 : ((mode : Int) == 3) = false := by rw [beq_eq_false_iff_ne]; omega
        clear c c3
        go_enter Oafg.func129, Oafg.ntmps129
        go_wp2_with (go_at_call 112; refine (HM.out _).mono ?_; rintro e w1 ⟨rfl, hb⟩)
        go_ret2
        exact ⟨rfl, below1 hb⟩
    · have n3 : ((mode : Int) == 3) = false := by rw [beq_eq_false_iff_ne]; simp at c; omega
      by_cases c4 : mode = 4
      · subst c4
        clear c n2 n3
        go_enter Oafg.func129, Oafg.ntmps129
        go_wp2_with (go_at_call 112; refine (HM.out _).mono ?_; rintro e w1 ⟨rfl, hb⟩)
        go_ret2
        exact ⟨rfl, below1 hb⟩
      · have n4 : ((mode : Int) == 4) = false := by rw [beq_eq_false_iff_ne]; omega
        clear c c4
        go_enter Oafg.func129, Oafg.ntmps129
        go_wp2_with (go_at_call 112; refine (HM.out _).mono ?_; rintro e w1 ⟨rfl, hb⟩)
        go_ret2
        exact ⟨rfl, below1 hb⟩

/-! ### log2 -/
/-- the exponent of A/B by the bit lengths -/
def e0 (A B : Nat) : Int := (bl A : Int) - (bl B : Int)
def rlog (A B : Nat) : Int := if A * 2 ^ (-(e0 A B)).toNat < B * 2 ^ (e0 A B).toNat then e0 A B - 1 else e0 A B

theorem rlog_is (A B : Nat) (hA : A ≠ 0) (hB : B ≠ 0) : IsLog A B (rlog A B) := by
  have a1 := bl_lo A hA
  have a2 := bl_hi A
  have b1 := bl_lo B hB
  have b2 := bl_hi B
  have pa := bl_pos A hA
  have pb := bl_pos B hB
  unfold rlog
  obtain ⟨e, he⟩ : ∃ e, e = e0 A B := ⟨_, rfl⟩
  rw [← he]
  unfold e0 at he
  by_cases c : A * 2 ^ (-e).toNat < B * 2 ^ e.toNat
  · rw [if_pos c]
    refine ⟨Nat.pos_of_ne_zero hB, ?_, by rw [Int.sub_add_cancel]; exact c⟩
    calc B * 2 ^ (e - 1).toNat ≤ 2 ^ bl B * 2 ^ (e - 1).toNat := Nat.mul_le_mul_right _ (Nat.le_of_lt b2)
      _ = 2 ^ (bl A - 1) * 2 ^ (-(e - 1)).toNat := by rw [← Nat.pow_add, ← Nat.pow_add]; congr 1; omega
      _ ≤ _ := Nat.mul_le_mul_right _ a1
  · rw [if_neg c]
    refine ⟨Nat.pos_of_ne_zero hB, by omega, ?_⟩
    calc A * 2 ^ (-(e + 1)).toNat < 2 ^ bl A * 2 ^ (-(e + 1)).toNat := Nat.mul_lt_mul_of_pos_right a2 (Nat.two_pow_pos _)
      _ = 2 ^ (bl B - 1) * 2 ^ (e + 1).toNat := by rw [← Nat.pow_add, ← Nat.pow_add]; congr 1; omega
      _ ≤ _ := Nat.mul_le_mul_right _ b1

/-- exact.log2 -/
theorem log2_nat {w : World} {va vb : Value} {A B : Nat} (lo hi : Int) (hlo : -30000 ≤ lo) (hhi : hi ≤ 30000) (hlh : lo ≤ hi) (s1 : NatV w va A) (s2 : NatV w vb B) (b1 : bl A ≤ 800000) (b2 : bl B ≤ 800000) :
    Calls Oafg.prog 126 #[va, vb, .int .i64 lo, .int .i64 hi] w fun e w' => e = .returned (.int .i64 (max (lo - 1) (min (hi + 1) (rlog A B)))) ∧ Below w.heap.size w w' := by
  obtain ⟨e, he⟩ : ∃ e, e = e0 A B := ⟨_, rfl⟩
  have hr : rlog A B = if A * 2 ^ (-e).toNat < B * 2 ^ e.toNat then e - 1 else e := by unfold rlog; rw [← he]
  obtain ⟨V, hV⟩ : ∃ V, V = max (lo - 1) (min (hi + 1) (rlog A B)) := ⟨_, rfl⟩
  rw [← hV]
  have T1 : Hid _ := fun (_ : Unit) => bitLen_any s1
  have T2 : Hid _ := fun (_ : Unit) => bitLen_any s2
  obtain ⟨ba, hba⟩ : ∃ ba, ba = bl A := ⟨_, rfl⟩
  obtain ⟨bb, hbb⟩ : ∃ bb, bb = bl B := ⟨_, rfl⟩
  rw [← hba] at T1 b1
  rw [← hbb] at T2 b2
  have f1 : (ba : Int) - (bb : Int) = e := by rw [he]; unfold e0; rw [hba, hbb]
  by_cases c1 : hi + 1 < e
  · have hans : V = hi + 1 := by rw [hV, hr]; split <;> omega
    subst hans
    clear hV hr he hba hbb s1 s2
    go_enter Oafg.func126, Oafg.ntmps126
    go_wp2_with (first
      | (go_at_call_of 132 (va); refine (T1.out ()).mono ?_; rintro e' w1 ⟨rfl, hw⟩; have hw := hw.symm; subst hw)
      | (go_at_call_of 132 (vb); refine (T2.out ()).mono ?_; rintro e' w1 ⟨rfl, hw⟩; have hw := hw.symm; subst hw))
    go_ret
    exact ⟨rfl, Below.refl _ _⟩
  by_cases c2 : e < lo
  · have hans : V = lo - 1 := by rw [hV, hr]; split <;> omega
    subst hans
    clear hV hr he hba hbb s1 s2
    go_enter Oafg.func126, Oafg.ntmps126
    go_wp2_with (first
      | (go_at_call_of 132 (va); refine (T1.out ()).mono ?_; rintro e' w1 ⟨rfl, hw⟩; have hw := hw.symm; subst hw)
      | (go_at_call_of 132 (vb); refine (T2.out ()).mono ?_; rintro e' w1 ⟨rfl, hw⟩; have hw := hw.symm; subst hw))
    go_ret
    exact ⟨rfl, Below.refl _ _⟩
  have SH := shift_nat (-e) (by omega) (by omega) s1 s2 (by omega) (by omega)
  rw [Int.neg_neg] at SH
  have HSH : Hid _ := fun (_ : Unit) => SH
  have hbA : bl (A * 2 ^ (-e).toNat) ≤ 1000000 := by have := bl_shl A (-e).toNat; omega
  have hbB : bl (B * 2 ^ e.toNat) ≤ 1000000 := by have := bl_shl B e.toNat; omega
  have hCb := cmpN_bd (A * 2 ^ (-e).toNat) (B * 2 ^ e.toNat)
  have hCl := cmpN_lt (a := A * 2 ^ (-e).toNat) (b := B * 2 ^ e.toNat)
  have HCM : Hid (∀ w1 u1 u2, NatV w1 u1 (A * 2 ^ (-e).toNat) → NatV w1 u2 (B * 2 ^ e.toNat) → Calls Oafg.prog 179 #[u1, u2] w1 fun e' w' => e' = .returned (.int .i8 (cmpN (A * 2 ^ (-e).toNat) (B * 2 ^ e.toNat))) ∧ Below w1.heap.size w1 w') := fun w1 u1 u2 h1 h2 => cmp_nat h1 h2 hbA hbB
  generalize hX : A * 2 ^ (-e).toNat = X at *
  generalize hY : B * 2 ^ e.toNat = Y at *
  generalize cmpN X Y = C at *
  have he1 : -60000 ≤ e ∧ e ≤ 60000 := by omega
  obtain ⟨ne, hne⟩ : ∃ ne, ne = -e := ⟨_, rfl⟩
  by_cases c3 : X < Y
  · have hans : V = e - 1 := by rw [hV, hr, if_pos c3]; omega
    subst hans
    have hC : C < 0 := hCl.2 c3
    clear hV hr he hba hbb s1 s2 SH hX hY hbA hbB hCl c3 hne
    go_enter Oafg.func126, Oafg.ntmps126
    go_wp2_with (first
      | (go_at_call_of 132 (va); refine (T1.out ()).mono ?_; rintro e' w1 ⟨rfl, hw⟩; have hw := hw.symm; subst hw)
      | (go_at_call_of 132 (vb); refine (T2.out ()).mono ?_; rintro e' w1 ⟨rfl, hw⟩; have hw := hw.symm; subst hw)
      | (go_at_call 130; refine (HSH.out ()).mono ?_; rintro e' w1 ⟨⟨u1, u2, rfl, hN1, hN2⟩, hb1⟩; have HN1 : Hid _ := hN1; have HN2 : Hid _ := hN2; have HB1 : Hid _ := hb1; clear hN1 hN2 hb1)
      | (go_at_call 179; refine (HCM.out _ _ _ HN1.out HN2.out).mono ?_; rintro e' w2 ⟨rfl, hb2⟩))
    go_ret
    exact ⟨rfl, bt HB1.out hb2⟩
  · have hans : V = e := by rw [hV, hr, if_neg c3]; omega
    subst hans
    have hC : ¬ C < 0 := fun h => c3 (hCl.1 h)
    clear hV hr he hba hbb s1 s2 SH hX hY hbA hbB hCl c3 hne
    go_enter Oafg.func126, Oafg.ntmps126
    go_wp2_with (first
      | (go_at_call_of 132 (va); refine (T1.out ()).mono ?_; rintro e' w1 ⟨rfl, hw⟩; have hw := hw.symm; subst hw)
      | (go_at_call_of 132 (vb); refine (T2.out ()).mono ?_; rintro e' w1 ⟨rfl, hw⟩; have hw := hw.symm; subst hw)
      | (go_at_call 130; refine (HSH.out ()).mono ?_; rintro e' w1 ⟨⟨u1, u2, rfl, hN1, hN2⟩, hb1⟩; have HN1 : Hid _ := hN1; have HN2 : Hid _ := hN2; have HB1 : Hid _ := hb1; clear hN1 hN2 hb1)
      | (go_at_call 179; refine (HCM.out _ _ _ HN1.out HN2.out).mono ?_; rintro e' w2 ⟨rfl, hb2⟩))
    go_ret
    exact ⟨rfl, bt HB1.out hb2⟩
end Go.Proofs.Ygcoaf
