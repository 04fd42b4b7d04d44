/-
  WALKS, the eighth: soft's conversions under NearestEven.
-/
import Derived.Test.YgcoafW7
namespace Go.Proofs.Ygcoaf
open Go.RowKit

/-- soft.roundPack under NearestEven -/
theorem roundPack_ne {E M : Nat} (h1 : 2 ≤ E) (h2 : E ≤ 11) (h3 : 2 ≤ M) (h4 : M ≤ 52) (neg : Bool) (exp : Int) (sig : Nat) (hs : sig < 18446744073709551616) (hx1 : -20000 ≤ exp) (hx2 : exp ≤ 20000) (w : World) :
    Calls Oafg.prog 116 #[.agg #[.int .u8 E, .int .u8 M], .int .u8 0, .bool neg, .int .i16 exp, .int .u64 sig] w fun e w' => (∃ fl : Int, e = .returned (.tuple #[.int .u64 (((Ieee.Format.mk E M).nearest neg sig exp : Nat) : Int), .int .u8 fl])) ∧ Below w.heap.size w w' := by
  by_cases h : sig = 0
  · subst h
    rw [nearest_zero]
    exact roundPack_zero h1 h2 h3 h4 neg exp w
  · exact roundPack_pos h1 h2 h3 h4 neg exp sig (by omega) hs hx1 hx2 w

set_option maxHeartbeats 400000 in
theorem signals_yes {E M : Nat} (h1 : 2 ≤ E) (h2 : E ≤ 11) (h3 : 2 ≤ M) (h4 : M ≤ 52) (x : Nat) (hx : x < 18446744073709551616) (w : World) :
    Calls Oafg.prog 170 #[.agg #[.int .u8 E, .int .u8 M], .int .u64 x] w fun e w' => (∃ b : Bool, e = .returned (.bool b)) ∧ Below w.heap.size w w' := by
  have ku := fun w => unpack_yes h1 h2 h3 h4 x hx w
  have KU : Hid _ := ku
  clear ku
  generalize uNeg E M x = un at *
  generalize uCls E M x = uc at *
  generalize uExp E M x = ue at *
  generalize uMan E M x = um at *
  have hfield : ∀ w, (Instr.field 94 (.agg #[.bool un, .int .i8 uc, .int .i16 ue, .int .u64 um]) 1).run Oafg.prog w = .ok (.int .i8 uc) w := fun _ => by kernel_rfl
  go_enter Oafg.func170, Oafg.ntmps170
  go_wp2_with (go_at_call 70; refine (KU.out _).mono ?_; rintro e w1 ⟨rfl, hb1⟩; obtain ⟨hc, hf⟩ := bcell hb1)
  all_goals
    go_ret
    exact ⟨⟨_, rfl⟩, below1 hb1⟩

set_option maxHeartbeats 400000 in
theorem heard_yes {E M : Nat} (h1 : 2 ≤ E) (h2 : E ≤ 11) (h3 : 2 ≤ M) (h4 : M ≤ 52) (a b : Nat) (ha : a < 18446744073709551616) (hb : b < 18446744073709551616) (w : World) :
    Calls Oafg.prog 111 #[.agg #[.int .u8 E, .int .u8 M], .int .u64 a, .int .u64 b] w fun e w' => (∃ fl : Int, e = .returned (.int .u8 fl)) ∧ Below w.heap.size w w' := by
  have B := Below.refl (w.alloc (.cells #[.int .u8 E, .int .u8 M] 27)).heap.size (w.alloc (.cells #[.int .u8 E, .int .u8 M] 27))
  obtain ⟨hc, hf⟩ := bcell B
  go_enter Oafg.func111, Oafg.ntmps111
  go_wp2_with (first
    | (go_at_call_of 170 (Value.int .u64 a); refine (signals_yes h1 h2 h3 h4 a ha _).mono ?_; rintro e w1 ⟨⟨b1, rfl⟩, hb1⟩; have B := bt B hb1; clear hc hf hb1; obtain ⟨hc, hf⟩ := bcell B)
    | (go_at_call_of 170 (Value.int .u64 b); refine (signals_yes h1 h2 h3 h4 b hb _).mono ?_; rintro e w1 ⟨⟨b1, rfl⟩, hb1⟩; have B := bt B hb1; clear hc hf hb1; obtain ⟨hc, hf⟩ := bcell B))
  all_goals
    go_ret
    exact ⟨⟨_, rfl⟩, below1 B⟩

theorem uMan_lt (E M x : Nat) (hM : M ≤ 52) : uMan E M x < 9007199254740992 := by
  have hp : 2 ^ (M + 1) ≤ 2 ^ 53 := two_pow_le (by omega)
  by_cases h : uCls E M x = 1 ∨ uCls E M x = 2
  · have := (uMan_bd E M x h).2; omega
  · unfold uMan; rw [if_neg (by omega), if_neg (by omega)]; decide

theorem uExp_bd {E : Nat} (h1 : 2 ≤ E) (h2 : E ≤ 11) (M x : Nat) (hM : M ≤ 52) : -1200 ≤ uExp E M x ∧ uExp E M x ≤ 1100 := by
  have hb := biasN_bd h1 h2
  have he := eF_lt E M x
  have hb2 := bias_two h1
  have hc := cast_two_pow E
  unfold uExp
  split
  · omega
  · split <;> omega

/-- what soft.Convert answers -/
def convV (E M E' M' x : Nat) : Nat :=
  if uCls E M x = 4 then nanR E' M' else if uCls E M x = 3 then infR E' M' + sgn E' M' (uNeg E M x) else (Ieee.Format.mk E' M').nearest (uNeg E M x) (uMan E M x) (uExp E M x)

set_option maxHeartbeats 1000000 in
/-- soft.ConvertFlags under NearestEven -/
theorem convertFlags_ne {E M E' M' : Nat} (h1 : 2 ≤ E) (h2 : E ≤ 11) (h3 : 2 ≤ M) (h4 : M ≤ 52) (g1 : 2 ≤ E') (g2 : E' ≤ 11) (g3 : 2 ≤ M') (g4 : M' ≤ 52) (x : Nat) (hx : x < 18446744073709551616) (w : World) :
    Calls Oafg.prog 72 #[.agg #[.int .u8 E, .int .u8 M], .agg #[.int .u8 E', .int .u8 M'], .int .u8 0, .int .u64 x] w fun e w' => (∃ fl : Int, e = .returned (.tuple #[.int .u64 (convV E M E' M' x : Int), .int .u8 fl])) ∧ Below w.heap.size w w' := by
  have ku := fun w => unpack_yes h1 h2 h3 h4 x hx w
  have hman := uMan_lt E M x h4
  obtain ⟨hx1, hx2⟩ := uExp_bd h1 h2 M x h4
  have kr := fun w => roundPack_ne g1 g2 g3 g4 (uNeg E M x) (uExp E M x) (uMan E M x) (by omega) (by omega) (by omega) w
  have ki := fun w => inf_yes g1 g2 g3 g4 (uNeg E M x) w
  have KU : Hid _ := ku
  have KR : Hid _ := kr
  have KI : Hid _ := ki
  clear ku kr ki
  unfold convV
  generalize (Ieee.Format.mk E' M').nearest (uNeg E M x) (uMan E M x) (uExp E M x) = N at *
  generalize uNeg E M x = un at *
  generalize uCls E M x = uc at *
  generalize uExp E M x = ue at *
  generalize uMan E M x = um at *
  clear hman hx1 hx2
  have B := Below.refl ((w.alloc (.cells #[.int .u8 E, .int .u8 M] 27)).alloc (.cells #[.int .u8 E', .int .u8 M'] 27)).heap.size ((w.alloc (.cells #[.int .u8 E, .int .u8 M] 27)).alloc (.cells #[.int .u8 E', .int .u8 M'] 27))
  obtain ⟨hc, hf⟩ := bcell B
  by_cases c4 : uc = 4
  · have c4b : ((uc : Int) == 4) = true := by simp [c4]
    rw [if_pos c4]
    clear c4
    go_enter Oafg.func72, Oafg.ntmps72
    go_wp2_with (first
      | (go_at_call_of 54 (Value.agg #[.int .u8 E, .int .u8 M]); refine (ok_yes h1 h2 h3 h4 _).mono ?_; rintro e w1 ⟨rfl, hb1⟩; have B := bt B hb1; clear hc hf hb1; obtain ⟨hc, hf⟩ := bcell B)
      | (go_at_call_of 54 (Value.agg #[.int .u8 E', .int .u8 M']); refine (ok_yes g1 g2 g3 g4 _).mono ?_; rintro e w1 ⟨rfl, hb1⟩; have B := bt B hb1; clear hc hf hb1; obtain ⟨hc, hf⟩ := bcell B)
      | (go_at_call 70; refine (KU.out _).mono ?_; rintro e w1 ⟨rfl, hb1⟩; have B := bt B hb1; clear hc hf hb1; obtain ⟨hc, hf⟩ := bcell B))
    have hz : ((w.alloc (.cells #[.int .u8 E, .int .u8 M] 27)).alloc (.cells #[.int .u8 E', .int .u8 M'] 27)).heap.size ≤ w1.heap.size := B.size
    simp at hz
    have hz1 : w.heap.size < w1.heap.size := by omega
    have hz2 : w.heap.size + 1 < w1.heap.size := by omega
    have hS0 : HB w1 (w1.alloc (.cells #[.bool un, .int .i8 uc, .int .i16 ue, .int .u64 um] 94)) := HB.start.alloc
    have hcl := HB.cells (W := w1)
    go_region_held3 (fun w' => HB w1 w')
      (repeat' (first | with_reducible exact hSu | with_reducible exact hS0 | with_reducible apply HB.drew))
      (first
        | (go_at_call 110; refine (theNaN_yes g1 g2 g3 g4 _).mono ?_; rintro e w2 ⟨rfl, hbu⟩; have hSu := HB.call (by assumption) hbu)
        | (go_at_call 111; refine (heard_yes h1 h2 h3 h4 x x hx hx _).mono ?_; rintro e w3 ⟨⟨fl, rfl⟩, hbu⟩; have hSu := HB.call (by assumption) hbu))
    rename_i hH
    go_wp2
    go_ret2
    exact ⟨⟨_, rfl⟩, below2 (bt B hH.out)⟩
  have c4b : ((uc : Int) == 4) = false := by rw [beq_eq_false_iff_ne]; omega
  rw [if_neg c4]
  clear c4
  by_cases c3 : uc = 3
  · have c3b : ((uc : Int) == 3) = true := by simp [c3]
    rw [if_pos c3]
    clear c3
    go_enter Oafg.func72, Oafg.ntmps72
    go_wp2_with (first
      | (go_at_call_of 54 (Value.agg #[.int .u8 E, .int .u8 M]); refine (ok_yes h1 h2 h3 h4 _).mono ?_; rintro e w1 ⟨rfl, hb1⟩; have B := bt B hb1; clear hc hf hb1; obtain ⟨hc, hf⟩ := bcell B)
      | (go_at_call_of 54 (Value.agg #[.int .u8 E', .int .u8 M']); refine (ok_yes g1 g2 g3 g4 _).mono ?_; rintro e w1 ⟨rfl, hb1⟩; have B := bt B hb1; clear hc hf hb1; obtain ⟨hc, hf⟩ := bcell B)
      | (go_at_call 70; refine (KU.out _).mono ?_; rintro e w1 ⟨rfl, hb1⟩; have B := bt B hb1; clear hc hf hb1; obtain ⟨hc, hf⟩ := bcell B; obtain ⟨hz1, hz2⟩ := size2 B)
      | (go_at_call 112; refine (KI.out _).mono ?_; rintro e w3 ⟨rfl, hb3⟩))
    go_ret2
    exact ⟨⟨_, rfl⟩, below2 (bt B (below1 hb3))⟩
  · have c3b : ((uc : Int) == 3) = false := by rw [beq_eq_false_iff_ne]; omega
    rw [if_neg c3]
    clear c3
    go_enter Oafg.func72, Oafg.ntmps72
    go_wp2_with (first
      | (go_at_call_of 54 (Value.agg #[.int .u8 E, .int .u8 M]); refine (ok_yes h1 h2 h3 h4 _).mono ?_; rintro e w1 ⟨rfl, hb1⟩; have B := bt B hb1; clear hc hf hb1; obtain ⟨hc, hf⟩ := bcell B)
      | (go_at_call_of 54 (Value.agg #[.int .u8 E', .int .u8 M']); refine (ok_yes g1 g2 g3 g4 _).mono ?_; rintro e w1 ⟨rfl, hb1⟩; have B := bt B hb1; clear hc hf hb1; obtain ⟨hc, hf⟩ := bcell B)
      | (go_at_call 70; refine (KU.out _).mono ?_; rintro e w1 ⟨rfl, hb1⟩; have B := bt B hb1; clear hc hf hb1; obtain ⟨hc, hf⟩ := bcell B; obtain ⟨hz1, hz2⟩ := size2 B)
      | (go_at_call 116; refine (KR.out _).mono ?_; rintro e w3 ⟨⟨fl, rfl⟩, hb3⟩))
    go_ret2
    exact ⟨⟨_, rfl⟩, below2 (bt B (below1 hb3))⟩

/-- soft.Convert under NearestEven -/
theorem convert_ne {E M E' M' : Nat} (h1 : 2 ≤ E) (h2 : E ≤ 11) (h3 : 2 ≤ M) (h4 : M ≤ 52) (g1 : 2 ≤ E') (g2 : E' ≤ 11) (g3 : 2 ≤ M') (g4 : M' ≤ 52) (x : Nat) (hx : x < 18446744073709551616) (w : World) :
    Calls Oafg.prog 27 #[.agg #[.int .u8 E, .int .u8 M], .agg #[.int .u8 E', .int .u8 M'], .int .u8 0, .int .u64 x] w fun e w' => e = .returned (.int .u64 (convV E M E' M' x : Int)) ∧ Below w.heap.size w w' := by
  go_enter Oafg.func27, Oafg.ntmps27
  go_wp2_with (go_at_call 72; refine (convertFlags_ne h1 h2 h3 h4 g1 g2 g3 g4 x hx _).mono ?_; rintro e w1 ⟨⟨fl, rfl⟩, hb1⟩)
  go_ret
  exact ⟨rfl, below2 hb1⟩

/-- soft.FromUint64 under NearestEven -/
theorem fromUint64_ne {E M : Nat} (h1 : 2 ≤ E) (h2 : E ≤ 11) (h3 : 2 ≤ M) (h4 : M ≤ 52) (u : Nat) (hu : u < 18446744073709551616) (w : World) :
    Calls Oafg.prog 33 #[.agg #[.int .u8 E, .int .u8 M], .int .u8 0, .int .u64 u] w fun e w' => e = .returned (.int .u64 (((Ieee.Format.mk E M).nearest false u 0 : Nat) : Int)) ∧ Below w.heap.size w w' := by
  have kr := fun w => roundPack_ne h1 h2 h3 h4 false 0 u hu (by omega) (by omega) w
  have KR : Hid _ := kr
  clear kr
  generalize (Ieee.Format.mk E M).nearest false u 0 = N at *
  have kf : ∀ w, Calls Oafg.prog 74 #[.agg #[.int .u8 E, .int .u8 M], .int .u8 0, .int .u64 u] w fun e w' => (∃ fl : Int, e = .returned (.tuple #[.int .u64 (N : Int), .int .u8 fl])) ∧ Below w.heap.size w w' := by
    intro w
    have B := Below.refl (w.alloc (.cells #[.int .u8 E, .int .u8 M] 27)).heap.size (w.alloc (.cells #[.int .u8 E, .int .u8 M] 27))
    obtain ⟨hc, hf⟩ := bcell B
    go_enter Oafg.func74, Oafg.ntmps74
    go_wp2_with (first
      | (go_at_call 54; refine (ok_yes h1 h2 h3 h4 _).mono ?_; rintro e w1 ⟨rfl, hb1⟩; have B := bt B hb1; clear hc hf hb1; obtain ⟨hc, hf⟩ := bcell B)
      | (go_at_call 116; refine (KR.out _).mono ?_; rintro e w3 ⟨⟨fl, rfl⟩, hb3⟩; have B := bt B hb3))
    go_ret2
    exact ⟨⟨_, rfl⟩, below1 B⟩
  have KF : Hid _ := kf
  clear kf
  go_enter Oafg.func33, Oafg.ntmps33
  go_wp2_with (go_at_call 74; refine (KF.out _).mono ?_; rintro e w1 ⟨⟨fl, rfl⟩, hb1⟩)
  go_ret
  exact ⟨rfl, below1 hb1⟩

set_option maxHeartbeats 400000 in
/-- soft.FromInt64 under NearestEven -/
theorem fromInt64_ne {E M : Nat} (h1 : 2 ≤ E) (h2 : E ≤ 11) (h3 : 2 ≤ M) (h4 : M ≤ 52) (i : Int) (hi1 : -9223372036854775808 ≤ i) (hi2 : i ≤ 9223372036854775807) (w : World) :
    Calls Oafg.prog 30 #[.agg #[.int .u8 E, .int .u8 M], .int .u8 0, .int .i64 i] w fun e w' => e = .returned (.int .u64 (((Ieee.Format.mk E M).nearest (decide (i < 0)) i.natAbs 0 : Nat) : Int)) ∧ Below w.heap.size w w' := by
  have kr := fun w => roundPack_ne h1 h2 h3 h4 (decide (i < 0)) 0 i.natAbs (by omega) (by omega) (by omega) w
  have KR : Hid _ := kr
  clear kr
  generalize (Ieee.Format.mk E M).nearest (decide (i < 0)) i.natAbs 0 = N at *
  have kf : ∀ w, Calls Oafg.prog 73 #[.agg #[.int .u8 E, .int .u8 M], .int .u8 0, .int .i64 i] w fun e w' => (∃ fl : Int, e = .returned (.tuple #[.int .u64 (N : Int), .int .u8 fl])) ∧ Below w.heap.size w w' := by
    intro w
    have B := Below.refl (w.alloc (.cells #[.int .u8 E, .int .u8 M] 27)).heap.size (w.alloc (.cells #[.int .u8 E, .int .u8 M] 27))
    obtain ⟨hc, hf⟩ := bcell B
    by_cases hn : i < 0
    · have e1 : decide (i < 0) = true := by simpa using hn
      have e2 : IntKind.u64.wrap (-IntKind.u64.wrap i) = (i.natAbs : Int) := by rw [IntKind.wrap_u64, IntKind.wrap_u64]; omega
      rw [e1] at KR
      generalize i.natAbs = na at *
      go_enter Oafg.func73, Oafg.ntmps73
      go_wp2_with (first
        | (go_at_call 54; refine (ok_yes h1 h2 h3 h4 _).mono ?_; rintro e w1 ⟨rfl, hb1⟩; have B := bt B hb1; clear hc hf hb1; obtain ⟨hc, hf⟩ := bcell B)
        | (go_at_call 116; refine (KR.out _).mono ?_; rintro e w3 ⟨⟨fl, rfl⟩, hb3⟩; have B := bt B hb3))
      go_ret2
      exact ⟨⟨_, rfl⟩, below1 B⟩
    · have e1 : decide (i < 0) = false := by simpa using hn
      have e2 : IntKind.u64.wrap i = (i.natAbs : Int) := by rw [IntKind.wrap_u64]; omega
      rw [e1] at KR
      generalize i.natAbs = na at *
      go_enter Oafg.func73, Oafg.ntmps73
      go_wp2_with (first
        | (go_at_call 54; refine (ok_yes h1 h2 h3 h4 _).mono ?_; rintro e w1 ⟨rfl, hb1⟩; have B := bt B hb1; clear hc hf hb1; obtain ⟨hc, hf⟩ := bcell B)
        | (go_at_call 116; refine (KR.out _).mono ?_; rintro e w3 ⟨⟨fl, rfl⟩, hb3⟩; have B := bt B hb3))
      go_ret2
      exact ⟨⟨_, rfl⟩, below1 B⟩
  have KF : Hid _ := kf
  clear kf
  go_enter Oafg.func30, Oafg.ntmps30
  go_wp2_with (go_at_call 73; refine (KF.out _).mono ?_; rintro e w1 ⟨⟨fl, rfl⟩, hb1⟩)
  go_ret
  exact ⟨rfl, below1 hb1⟩
end Go.Proofs.Ygcoaf
