/-
  WALKS, the ninth: soft.ToInt64 toward zero.
-/
import Derived.Test.YgcoafW8
namespace Go.Proofs.Ygcoaf
open Go.RowKit

/-- the whole part of a pattern's size -/
def truncN (ue : Int) (um : Nat) : Nat := if 0 ≤ ue then um * 2 ^ ue.toNat else um / 2 ^ (-ue).toNat

/-- what soft.ToInt64 answers toward zero, by the parts -/
def toIP (M : Nat) (un : Bool) (uc : Nat) (ue : Int) (um : Nat) : Int × Bool :=
  if uc = 0 then (0, true) else if uc = 4 ∨ uc = 3 ∨ 63 < ue + M then (0, false)
  else if un then (if truncN ue um ≤ 9223372036854775808 then (-(truncN ue um : Int), true) else (0, false))
  else (if truncN ue um < 9223372036854775808 then ((truncN ue um : Int), true) else (0, false))

theorem ret_i64 {a b : Int} {v c d : Value} (h : a = b) (h' : c = d) : Ending.returned (.tuple #[.int .i64 a, c, v]) = .returned (.tuple #[.int .i64 b, d, v]) := by rw [h, h']
theorem neg_i64 (n : Nat) (h : n ≤ 9223372036854775808) : wrap64 (-wrap64 (n : Int)) = -(n : Int) := by
  rw [← IntWalk.i64_left, ← IntWalk.i64_left, IntKind.wrap_i64, IntKind.wrap_i64]; omega

theorem pos_i64 (n : Nat) (h : n < 9223372036854775808) : wrap64 (n : Int) = (n : Int) := by
  rw [← IntWalk.i64_left, IntKind.wrap_i64]; omega
set_option maxHeartbeats 2000000 in
theorem toInt64Flags_tz {E M : Nat} (h1 : 2 ≤ E) (h2 : E ≤ 11) (h3 : 2 ≤ M) (h4 : M ≤ 52) (x : Nat) (hx : x < 18446744073709551616) (w : World) :
    Calls Oafg.prog 75 #[.agg #[.int .u8 E, .int .u8 M], .int .u8 2, .int .u64 x] w fun e w' => (∃ fl : Int, e = .returned (.tuple #[.int .i64 (toIP M (uNeg E M x) (uCls E M x) (uExp E M x) (uMan E M x)).1, .bool (toIP M (uNeg E M x) (uCls E M x) (uExp E M x) (uMan E M x)).2, .int .u8 fl])) ∧ Below w.heap.size w w' := by
  have ku := fun w => unpack_yes h1 h2 h3 h4 x hx w
  have hman := uMan_lt E M x h4
  have hbd := uMan_bd E M x
  obtain ⟨hx1, hx2⟩ := uExp_bd h1 h2 M x h4
  have hc5 : uCls E M x ≤ 4 := by unfold uCls; repeat' split
                                  all_goals omega
  have KU : Hid _ := ku
  clear ku
  generalize uNeg E M x = un at *
  generalize uCls E M x = uc at *
  generalize uExp E M x = ue at *
  generalize uMan E M x = um at *
  have B := Below.refl (w.alloc (.cells #[.int .u8 E, .int .u8 M] 27)).heap.size (w.alloc (.cells #[.int .u8 E, .int .u8 M] 27))
  obtain ⟨hc, hf⟩ := bcell B
  have hP : ∀ P : Prop, [Decidable P] → ∀ a b : Int × Bool, P → (if P then a else b) = a := fun P _ a b h => if_pos h
  by_cases c0 : uc = 0
  · have q0 : ((uc : Int) == 0) = true := by simp [c0]
    have hr : toIP M un uc ue um = (0, true) := by unfold toIP; rw [if_pos c0]
    rw [hr]
    clear c0 hr hbd hc5 hP
    go_enter Oafg.func75, Oafg.ntmps75
    go_wp2_with (first
      | (go_at_call 70; refine (KU.out _).mono ?_; rintro e w1 ⟨rfl, hb1⟩; have B := bt B hb1; clear hc hf hb1; obtain ⟨hc, hf⟩ := bcell B; have hz1 := size1 B)
      | (go_at_call 54; refine (ok_yes h1 h2 h3 h4 _).mono ?_; rintro e w2 ⟨rfl, hb2⟩; obtain ⟨hc2, hf2⟩ := bcell hb2))
    go_ret3
    exact ⟨⟨_, rfl⟩, below1 (bt B (below1 hb2))⟩
  have q0 : ((uc : Int) == 0) = false := by rw [beq_eq_false_iff_ne]; omega
  by_cases cb : uc = 4 ∨ uc = 3 ∨ 63 < ue + M
  · have hr : toIP M un uc ue um = (0, false) := by unfold toIP; rw [if_neg c0, if_pos cb]
    rw [hr]
    by_cases c4 : uc = 4
    · have q4 : ((uc : Int) == 4) = true := by simp [c4]
      clear c4 c0 cb hr hbd hc5 hP
      go_enter Oafg.func75, Oafg.ntmps75
      go_wp2_with (first
        | (go_at_call 70; refine (KU.out _).mono ?_; rintro e w1 ⟨rfl, hb1⟩; have B := bt B hb1; clear hc hf hb1; obtain ⟨hc, hf⟩ := bcell B; have hz1 := size1 B)
        | (go_at_call 54; refine (ok_yes h1 h2 h3 h4 _).mono ?_; rintro e w2 ⟨rfl, hb2⟩; obtain ⟨hc2, hf2⟩ := bcell hb2))
      go_ret3
      exact ⟨⟨_, rfl⟩, below1 (bt B (below1 hb2))⟩
    have q4 : ((uc : Int) == 4) = false := by rw [beq_eq_false_iff_ne]; omega
    by_cases c3 : uc = 3
    · have q3 : ((uc : Int) == 3) = true := by simp [c3]
      clear c3 c4 c0 cb hr hbd hc5 hP
      go_enter Oafg.func75, Oafg.ntmps75
      go_wp2_with (first
        | (go_at_call 70; refine (KU.out _).mono ?_; rintro e w1 ⟨rfl, hb1⟩; have B := bt B hb1; clear hc hf hb1; obtain ⟨hc, hf⟩ := bcell B; have hz1 := size1 B)
        | (go_at_call 54; refine (ok_yes h1 h2 h3 h4 _).mono ?_; rintro e w2 ⟨rfl, hb2⟩; obtain ⟨hc2, hf2⟩ := bcell hb2))
      go_ret3
      exact ⟨⟨_, rfl⟩, below1 (bt B (below1 hb2))⟩
    have q3 : ((uc : Int) == 3) = false := by rw [beq_eq_false_iff_ne]; omega
    have hgt : 63 < ue + M := by omega
    clear c3 c4 c0 cb hr hbd hc5 hP
    go_enter Oafg.func75, Oafg.ntmps75
    go_wp2_with (first
      | (go_at_call 70; refine (KU.out _).mono ?_; rintro e w1 ⟨rfl, hb1⟩; have B := bt B hb1; clear hc hf hb1; obtain ⟨hc, hf⟩ := bcell B; have hz1 := size1 B)
      | (go_at_call 54; refine (ok_yes h1 h2 h3 h4 _).mono ?_; rintro e w2 ⟨rfl, hb2⟩; obtain ⟨hc2, hf2⟩ := bcell hb2))
    go_ret3
    exact ⟨⟨_, rfl⟩, below1 (bt B (below1 hb2))⟩
  have q4 : ((uc : Int) == 4) = false := by rw [beq_eq_false_iff_ne]; omega
  have q3 : ((uc : Int) == 3) = false := by rw [beq_eq_false_iff_ne]; omega
  have hle : ue + M ≤ 63 := by omega
  obtain ⟨hm1, hm2⟩ := hbd (by omega)
  have hm0 : 0 < um := Nat.lt_of_lt_of_le (Nat.two_pow_pos _) hm1
  have HM2 : Hid _ := hm2
  clear hbd hc5 hP hm1 hm2
  obtain ⟨n, hn⟩ : ∃ n, n = truncN ue um := ⟨_, rfl⟩
  have HN : Hid (truncN ue um = n) := hn.symm
  by_cases hge : 0 ≤ ue
  · have hn64 : n < 18446744073709551616 := by
      rw [hn]; unfold truncN; rw [if_pos hge]
      have := HM2.out
      calc um * 2 ^ ue.toNat < 2 ^ (M + 1) * 2 ^ ue.toNat := Nat.mul_lt_mul_of_pos_right this (Nat.two_pow_pos _)
        _ = 2 ^ (M + 1 + ue.toNat) := by rw [← Nat.pow_add]
        _ ≤ 2 ^ 64 := two_pow_le (by omega)
    have e1 : IntKind.u64.wrap ((um : Int) * 2 ^ ue.toNat) = (n : Int) := by
      have : n = um * 2 ^ ue.toNat := by rw [hn]; unfold truncN; rw [if_pos hge]
      rw [← cast_two_pow, ← Int.natCast_mul, ← this, wrap64_lt _ (by omega) (by omega)]
    clear hn
    cases un
    · have HR : Hid (toIP M false uc ue um = if n < 9223372036854775808 then ((n : Int), true) else (0, false)) := by show _ = _; unfold toIP; rw [if_neg c0, if_neg cb, HN.out]; rfl
      clear c0 cb
      go_enter Oafg.func75, Oafg.ntmps75
      go_upto_if 77 with (first
        | (go_at_call 70; refine (KU.out _).mono ?_; rintro e w1 ⟨rfl, hb1⟩; have B := bt B hb1; clear hc hf hb1; obtain ⟨hc, hf⟩ := bcell B; have hz1 := size1 B)
        | (go_at_call 54; refine (ok_yes h1 h2 h3 h4 _).mono ?_; rintro e w2 ⟨rfl, hb2⟩; have B2 := below1 hb2; obtain ⟨hc2, hf2⟩ := bcell hb2; have hz2 := size1 hb2; have hz3 := Nat.lt_trans hz1 hz2))
      all_goals
        generalize hbb : decide ((n : Int) < 9223372036854775808) = bb
        have HBB : Hid _ := hbb
        clear hbb
        cases bb
        · go_wp2
          go_ret3
          refine ⟨⟨_, ret_i64 ?_ ?_⟩, below1 (bt B B2)⟩
          all_goals
            have := of_decide_eq_false HBB.out
            (rw [HR.out, if_neg (by omega)]) <;> rfl
        · go_wp2
          go_ret3
          have hle63 := of_decide_eq_true HBB.out
          refine ⟨⟨_, ret_i64 ?_ ?_⟩, below1 (bt B B2)⟩
          · rw [HR.out, if_pos (by omega)]
            exact pos_i64 n (by omega)
          · (rw [HR.out, if_pos (by omega)]) <;> rfl
    · have HR : Hid (toIP M true uc ue um = if n ≤ 9223372036854775808 then (-(n : Int), true) else (0, false)) := by show _ = _; unfold toIP; rw [if_neg c0, if_neg cb, HN.out]; rfl
      clear c0 cb
      go_enter Oafg.func75, Oafg.ntmps75
      go_upto_if 66 with (first
        | (go_at_call 70; refine (KU.out _).mono ?_; rintro e w1 ⟨rfl, hb1⟩; have B := bt B hb1; clear hc hf hb1; obtain ⟨hc, hf⟩ := bcell B; have hz1 := size1 B)
        | (go_at_call 54; refine (ok_yes h1 h2 h3 h4 _).mono ?_; rintro e w2 ⟨rfl, hb2⟩; have B2 := below1 hb2; obtain ⟨hc2, hf2⟩ := bcell hb2; have hz2 := size1 hb2; have hz3 := Nat.lt_trans hz1 hz2))
      all_goals
        generalize hbb : decide ((n : Int) ≤ 9223372036854775808) = bb
        have HBB : Hid _ := hbb
        clear hbb
        cases bb
        · go_wp2
          go_ret3
          refine ⟨⟨_, ret_i64 ?_ ?_⟩, below1 (bt B B2)⟩
          all_goals
            have := of_decide_eq_false HBB.out
            (rw [HR.out, if_neg (by omega)]) <;> rfl
        · go_wp2
          go_ret3
          have hle63 := of_decide_eq_true HBB.out
          refine ⟨⟨_, ret_i64 ?_ ?_⟩, below1 (bt B B2)⟩
          · rw [HR.out, if_pos (by omega)]
            exact neg_i64 n (by omega)
          · (rw [HR.out, if_pos (by omega)]) <;> rfl
  · obtain ⟨k, hk⟩ : ∃ k : Nat, k = (-ue).toNat := ⟨_, rfl⟩
    have hk1 : -ue = (k : Int) := by omega
    have kc := fun w => cut_yes um k (by omega) hm0 (by omega) (by omega) w
    have hnk : um / 2 ^ k = n := by rw [hn, hk]; unfold truncN; rw [if_neg hge]
    rw [hnk] at kc
    have hn64 : n < 18446744073709551616 := by rw [← hnk]; exact Nat.lt_of_le_of_lt (Nat.div_le_self _ _) (by omega)
    generalize cutRest um k = r at *
    have KC : Hid _ := kc
    clear kc hn hk hnk
    cases un
    · have HR : Hid (toIP M false uc ue um = if n < 9223372036854775808 then ((n : Int), true) else (0, false)) := by show _ = _; unfold toIP; rw [if_neg c0, if_neg cb, HN.out]; rfl
      clear c0 cb
      go_enter Oafg.func75, Oafg.ntmps75
      go_upto_if 77 with (first
        | (go_at_call 70; refine (KU.out _).mono ?_; rintro e w1 ⟨rfl, hb1⟩; have B := bt B hb1; clear hc hf hb1; obtain ⟨hc, hf⟩ := bcell B; have hz1 := size1 B)
        | (go_at_call 54; refine (ok_yes h1 h2 h3 h4 _).mono ?_; rintro e w2 ⟨rfl, hb2⟩; have B2 := below1 hb2; obtain ⟨hc2, hf2⟩ := bcell hb2; have hz2 := size1 hb2; have hz3 := Nat.lt_trans hz1 hz2)
        | (go_at_call 119; refine (KC.out _).mono ?_; rintro e w3 ⟨rfl, hb3⟩; have B2 := bt B2 hb3; obtain ⟨hc3, hf3⟩ := bcell hb3)
        | (go_at_call 120; refine (raises_tz _ _ _ _).mono ?_; rintro e w4 ⟨rfl, hb4⟩; have B2 := bt B2 hb4; have hb34 := bt hb3 hb4; obtain ⟨hc4, hf4⟩ := bcell hb34))
      all_goals
        generalize hbb : decide ((n : Int) < 9223372036854775808) = bb
        have HBB : Hid _ := hbb
        clear hbb
        cases bb
        · go_wp2
          go_ret3
          refine ⟨⟨_, ret_i64 ?_ ?_⟩, below1 (bt B B2)⟩
          all_goals
            have := of_decide_eq_false HBB.out
            (rw [HR.out, if_neg (by omega)]) <;> rfl
        · go_wp2
          go_ret3
          have hle63 := of_decide_eq_true HBB.out
          refine ⟨⟨_, ret_i64 ?_ ?_⟩, below1 (bt B B2)⟩
          · rw [HR.out, if_pos (by omega)]
            exact pos_i64 n (by omega)
          · (rw [HR.out, if_pos (by omega)]) <;> rfl
    · have HR : Hid (toIP M true uc ue um = if n ≤ 9223372036854775808 then (-(n : Int), true) else (0, false)) := by show _ = _; unfold toIP; rw [if_neg c0, if_neg cb, HN.out]; rfl
      clear c0 cb
      go_enter Oafg.func75, Oafg.ntmps75
      go_upto_if 66 with (first
        | (go_at_call 70; refine (KU.out _).mono ?_; rintro e w1 ⟨rfl, hb1⟩; have B := bt B hb1; clear hc hf hb1; obtain ⟨hc, hf⟩ := bcell B; have hz1 := size1 B)
        | (go_at_call 54; refine (ok_yes h1 h2 h3 h4 _).mono ?_; rintro e w2 ⟨rfl, hb2⟩; have B2 := below1 hb2; obtain ⟨hc2, hf2⟩ := bcell hb2; have hz2 := size1 hb2; have hz3 := Nat.lt_trans hz1 hz2)
        | (go_at_call 119; refine (KC.out _).mono ?_; rintro e w3 ⟨rfl, hb3⟩; have B2 := bt B2 hb3; obtain ⟨hc3, hf3⟩ := bcell hb3)
        | (go_at_call 120; refine (raises_tz _ _ _ _).mono ?_; rintro e w4 ⟨rfl, hb4⟩; have B2 := bt B2 hb4; have hb34 := bt hb3 hb4; obtain ⟨hc4, hf4⟩ := bcell hb34))
      all_goals
        generalize hbb : decide ((n : Int) ≤ 9223372036854775808) = bb
        have HBB : Hid _ := hbb
        clear hbb
        cases bb
        · go_wp2
          go_ret3
          refine ⟨⟨_, ret_i64 ?_ ?_⟩, below1 (bt B B2)⟩
          all_goals
            have := of_decide_eq_false HBB.out
            (rw [HR.out, if_neg (by omega)]) <;> rfl
        · go_wp2
          go_ret3
          have hle63 := of_decide_eq_true HBB.out
          refine ⟨⟨_, ret_i64 ?_ ?_⟩, below1 (bt B B2)⟩
          · rw [HR.out, if_pos (by omega)]
            exact neg_i64 n (by omega)
          · (rw [HR.out, if_pos (by omega)]) <;> rfl

theorem toInt64_tz {E M : Nat} (h1 : 2 ≤ E) (h2 : E ≤ 11) (h3 : 2 ≤ M) (h4 : M ≤ 52) (x : Nat) (hx : x < 18446744073709551616) (w : World) :
    Calls Oafg.prog 36 #[.agg #[.int .u8 E, .int .u8 M], .int .u8 2, .int .u64 x] w fun e w' => e = .returned (.tuple #[.int .i64 (toIP M (uNeg E M x) (uCls E M x) (uExp E M x) (uMan E M x)).1, .bool (toIP M (uNeg E M x) (uCls E M x) (uExp E M x) (uMan E M x)).2]) ∧ Below w.heap.size w w' := by
  go_enter Oafg.func36, Oafg.ntmps36
  go_wp2_with (go_at_call 75; refine (toInt64Flags_tz h1 h2 h3 h4 x hx _).mono ?_; rintro e w1 ⟨⟨fl, rfl⟩, hb1⟩)
  go_ret2
  exact ⟨rfl, below1 hb1⟩
end Go.Proofs.Ygcoaf
