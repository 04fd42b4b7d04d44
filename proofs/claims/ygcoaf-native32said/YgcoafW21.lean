/-
  WALKS, the twenty-first: addFinite.
-/
import Derived.Test.YgcoafW20
namespace Go.Proofs.Ygcoaf
open Go.RowKit Go.Proofs.Ygcoaf.M

/-- the sum of two finite numbers -/
def finV (E M : Nat) (na : Bool) (ca : Nat) (ea : Int) (ma : Nat) (nb : Bool) (cb : Nat) (eb : Int) (mb : Nat) : Nat :=
  if ca = 0 then (if cb = 0 then sgn E M (na && nb) else (Ieee.Format.mk E M).nearest nb mb eb)
  else if cb = 0 then (Ieee.Format.mk E M).nearest na ma ea else sumV E M na ma ea nb mb eb

theorem tops_bd {M m : Nat} (h4 : M ≤ 52) (h : 2 ^ M ≤ m ∧ m < 2 ^ (M + 1)) : 2 ^ 126 ≤ m * 2 ^ (126 - M) ∧ m * 2 ^ (126 - M) < 2 ^ 127 ∧ m * 2 ^ (126 - M) % 2 ^ 74 = 0 := by
  refine ⟨?_, ?_, ?_⟩
  · calc 2 ^ 126 = 2 ^ M * 2 ^ (126 - M) := by rw [← Nat.pow_add, show M + (126 - M) = 126 by omega]
      _ ≤ _ := Nat.mul_le_mul_right _ h.1
  · calc m * 2 ^ (126 - M) < 2 ^ (M + 1) * 2 ^ (126 - M) := Nat.mul_lt_mul_of_pos_right h.2 (Nat.two_pow_pos _)
      _ = 2 ^ 127 := by rw [← Nat.pow_add, show M + 1 + (126 - M) = 127 by omega]
  · rw [show 126 - M = 74 + (52 - M) by omega, Nat.pow_add, ← Nat.mul_assoc, Nat.mul_right_comm]; exact Nat.mul_mod_left _ _

set_option maxRecDepth 8000 in
set_option maxHeartbeats 2000000 in
/-- soft.addFinite under NearestEven -/
theorem addFinite_ne {E M : Nat} (h1 : 2 ≤ E) (h2 : E ≤ 11) (h3 : 2 ≤ M) (h4 : M ≤ 52) (na : Bool) (ca : Nat) (ea : Int) (ma : Nat) (nb : Bool) (cb : Nat) (eb : Int) (mb : Nat)
    (xa : -1200 ≤ ea ∧ ea ≤ 1100) (xb : -1200 ≤ eb ∧ eb ≤ 1100) (ha : ca ≠ 0 → 2 ^ M ≤ ma ∧ ma < 2 ^ (M + 1)) (hb : cb ≠ 0 → 2 ^ M ≤ mb ∧ mb < 2 ^ (M + 1)) (ga : ma < 9007199254740992) (gb : mb < 9007199254740992) (w : World) :
    Calls Oafg.prog 167 #[.agg #[.int .u8 E, .int .u8 M], .int .u8 0, .agg #[.bool na, .int .i8 ca, .int .i16 ea, .int .u64 ma], .agg #[.bool nb, .int .i8 cb, .int .i16 eb, .int .u64 mb]] w fun e w' =>
      (∃ fl : Int, e = .returned (.tuple #[.int .u64 (finV E M na ca ea ma nb cb eb mb : Nat), .int .u8 fl])) ∧ Below w.heap.size w w' := by
  unfold finV
  by_cases c1 : ca = 0
  · have d1 : ((ca : Int) == 0) = true := by rw [c1]; rfl
    rw [if_pos c1]
    by_cases c2 : cb = 0
    · have d2 : ((cb : Int) == 0) = true := by rw [c2]; rfl
      rw [if_pos c2]
      clear c1 c2 ha hb
      cases na <;> cases nb
      all_goals
        go_enter Oafg.func167, Oafg.ntmps167
        go_wp2_with (go_at_call 109; refine (zero_yes h1 h2 h3 h4 _ _).mono ?_; rintro e w1 ⟨rfl, hb1⟩)
        go_ret2
        exact ⟨⟨_, rfl⟩, below3 hb1⟩
    · have d2 : ((cb : Int) == 0) = false := by rw [beq_eq_false_iff_ne]; omega
      rw [if_neg c2]
      have R : Hid _ := fun w => roundPack_ne h1 h2 h3 h4 nb eb mb (by omega) (by omega) (by omega) w
      generalize (Ieee.Format.mk E M).nearest nb mb eb = V at *
      clear c1 c2 ha hb
      go_enter Oafg.func167, Oafg.ntmps167
      go_wp2_with (go_at_call 116; refine (R.out _).mono ?_; rintro e w1 ⟨⟨fl, rfl⟩, hb1⟩)
      go_ret2
      exact ⟨⟨_, rfl⟩, below3 hb1⟩
  · have d1 : ((ca : Int) == 0) = false := by rw [beq_eq_false_iff_ne]; omega
    rw [if_neg c1]
    by_cases c2 : cb = 0
    · have d2 : ((cb : Int) == 0) = true := by rw [c2]; rfl
      rw [if_pos c2]
      have R : Hid _ := fun w => roundPack_ne h1 h2 h3 h4 na ea ma (by omega) (by omega) (by omega) w
      generalize (Ieee.Format.mk E M).nearest na ma ea = V at *
      clear c1 c2 ha hb
      go_enter Oafg.func167, Oafg.ntmps167
      go_wp2_with (go_at_call 116; refine (R.out _).mono ?_; rintro e w1 ⟨⟨fl, rfl⟩, hb1⟩)
      go_ret2
      exact ⟨⟨_, rfl⟩, below3 hb1⟩
    · have d2 : ((cb : Int) == 0) = false := by rw [beq_eq_false_iff_ne]; omega
      rw [if_neg c2]
      obtain ⟨p1, p2, p3⟩ := tops_bd h4 (ha c1)
      obtain ⟨q1, q2, q3⟩ := tops_bd h4 (hb c2)
      obtain ⟨ah, al, va, b1, b2⟩ := two_parts (ma * 2 ^ (126 - M)) (Nat.lt_trans (Nat.lt_of_lt_of_eq p2 rfl) (by decide))
      obtain ⟨bh, bl, vb, b3, b4⟩ := two_parts (mb * 2 ^ (126 - M)) (Nat.lt_trans (Nat.lt_of_lt_of_eq q2 rfl) (by decide))
      obtain ⟨ya, hya⟩ : ∃ ya : Int, ya = ea - (126 - M : Nat) := ⟨_, rfl⟩
      obtain ⟨yb, hyb⟩ : ∃ yb : Int, yb = eb - (126 - M : Nat) := ⟨_, rfl⟩
      have NA : Hid (∀ w, Calls Oafg.prog 196 #[.agg #[.int .u8 E, .int .u8 M], .agg #[.bool na, .int .i8 ca, .int .i16 ea, .int .u64 ma]] w fun e w' => e = .returned (.agg #[.bool na, .int .i16 ya, .int .u64 ah, .int .u64 al]) ∧ Below w.heap.size w w') := fun w => by
        refine (numberOf_any h4 na ca ea ma (ha c1).2 (by omega) w).mono ?_
        rintro e w' ⟨⟨x, y, rfl, e1, e2, e3⟩, hb⟩
        obtain ⟨rfl, rfl⟩ := two_inj e3 b2 (e1.trans va.symm)
        rw [hya]; exact ⟨rfl, hb⟩
      have NB : Hid (∀ w, Calls Oafg.prog 196 #[.agg #[.int .u8 E, .int .u8 M], .agg #[.bool nb, .int .i8 cb, .int .i16 eb, .int .u64 mb]] w fun e w' => e = .returned (.agg #[.bool nb, .int .i16 yb, .int .u64 bh, .int .u64 bl]) ∧ Below w.heap.size w w') := fun w => by
        refine (numberOf_any h4 nb cb eb mb (hb c2).2 (by omega) w).mono ?_
        rintro e w' ⟨⟨x, y, rfl, e1, e2, e3⟩, hb⟩
        obtain ⟨rfl, rfl⟩ := two_inj e3 b4 (e1.trans vb.symm)
        rw [hyb]; exact ⟨rfl, hb⟩
      have SV : sumV E M na (two ah al) ya nb (two bh bl) yb = sumV E M na ma ea nb mb eb := by
        rw [va, vb, hya, hyb]
        exact sumV_same _ _ _ _ _ _ _ _ _ _ _ _ (sameN_up ma (126 - M) ea) (sameN_up mb (126 - M) eb)
      have SM := fun w => sum_ne h1 h2 h3 h4 na ya ah al nb yb bh bl (by omega) (by omega) b1 b2 b3 b4 (by rw [va]; exact p1) (by rw [va]; exact p2) (by rw [va]; exact p3) (by rw [vb]; exact q1) (by rw [vb]; exact q2) (by rw [vb]; exact q3) w
      rw [SV] at SM
      have HSM : Hid _ := SM
      generalize sumV E M na ma ea nb mb eb = V at *
      clear SM SV va vb hya hyb p1 p2 p3 q1 q2 q3 ha hb c1 c2
      go_enter Oafg.func167, Oafg.ntmps167
      go_wp2
      have hS0 : HB (((w.alloc (.cells #[.int .u8 E, .int .u8 M] 27)).alloc (.cells #[.bool na, .int .i8 ca, .int .i16 ea, .int .u64 ma] 94)).alloc (.cells #[.bool nb, .int .i8 cb, .int .i16 eb, .int .u64 mb] 94)) (((w.alloc (.cells #[.int .u8 E, .int .u8 M] 27)).alloc (.cells #[.bool na, .int .i8 ca, .int .i16 ea, .int .u64 ma] 94)).alloc (.cells #[.bool nb, .int .i8 cb, .int .i16 eb, .int .u64 mb] 94)) := HB.start
      have hcl := HB.cells (W := (((w.alloc (.cells #[.int .u8 E, .int .u8 M] 27)).alloc (.cells #[.bool na, .int .i8 ca, .int .i16 ea, .int .u64 ma] 94)).alloc (.cells #[.bool nb, .int .i8 cb, .int .i16 eb, .int .u64 mb] 94)))
      go_region_held3 (fun w' => HB (((w.alloc (.cells #[.int .u8 E, .int .u8 M] 27)).alloc (.cells #[.bool na, .int .i8 ca, .int .i16 ea, .int .u64 ma] 94)).alloc (.cells #[.bool nb, .int .i8 cb, .int .i16 eb, .int .u64 mb] 94)) w')
        (repeat' (first | with_reducible exact hSu | with_reducible exact hS0 | with_reducible apply HB.drew | with_reducible assumption))
        (first
          | (go_at_call_of 196 (Value.agg #[.bool na, .int .i8 ca, .int .i16 ea, .int .u64 ma]); refine (NA.out _).mono ?_; rintro e w1 ⟨rfl, hbu⟩; have hSu := HB.call (by assumption) hbu)
          | (go_at_call_of 196 (Value.agg #[.bool nb, .int .i8 cb, .int .i16 eb, .int .u64 mb]); refine (NB.out _).mono ?_; rintro e w2 ⟨rfl, hbu⟩; have hSu := HB.call (by assumption) hbu)
          | (go_at_call 195; refine (HSM.out _).mono ?_; rintro e w3 ⟨⟨fl, rfl⟩, hbu⟩; have hSu := HB.call (by assumption) hbu))
      all_goals
        go_wp2
        go_ret2
        exact ⟨⟨_, rfl⟩, below3 hSu.out⟩
end Go.Proofs.Ygcoaf
