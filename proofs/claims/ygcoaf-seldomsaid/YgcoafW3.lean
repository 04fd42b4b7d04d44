/-
  WALKS, the third: soft.Cmp and what the first law comes to.
-/
import Derived.Test.YgcoafW2
import Derived.Deep.DeepCutAuto
namespace Go.Proofs.Ygcoaf
open Go.RowKit

/-- ieee.Parts as a value -/
def partsV (E M x : Nat) : Value := .agg #[.bool (uNeg E M x), .int .i8 (uCls E M x), .int .i16 (uExp E M x), .int .u64 (uMan E M x)]

theorem unpack_yes {E M : Nat} (h1 : 2 ≤ E) (h2 : E ≤ 11) (h3 : 2 ≤ M) (h4 : M ≤ 52) (x : Nat) (hx : x < 18446744073709551616) (w : World) :
    Calls Oafg.prog 70 #[.agg #[.int .u8 E, .int .u8 M], .int .u64 x] w fun e w' =>
      e = .returned (.agg #[.bool (uNeg E M x), .int .i8 (uCls E M x), .int .i16 (uExp E M x), .int .u64 (uMan E M x)]) ∧ Below w.heap.size w w' := by
  have h4E : 2 ^ 2 ≤ 2 ^ E := two_pow_le h1
  by_cases he : eF E M x = 2 ^ E - 1
  · by_cases hm : mF M x = 0
    · have hc : uCls E M x = 3 := by simp [uCls, he, hm]
      have := unpack_inf h1 h2 h3 h4 x hx he hm w
      simpa [uNeg, uExp, uMan, hc] using this
    · have hc : uCls E M x = 4 := by simp [uCls, he, hm]
      have := unpack_nan h1 h2 h3 h4 x hx he hm w
      simpa [uNeg, uExp, uMan, hc] using this
  · by_cases h0 : eF E M x = 0
    · have h0' : ¬ (0 = 2 ^ E - 1) := by omega
      by_cases hm : mF M x = 0
      · have hc : uCls E M x = 0 := by unfold uCls; rw [if_neg he, if_pos h0, if_pos hm]
        have := unpack_zero h1 h2 h3 h4 x hx h0 hm w
        simpa [uNeg, uExp, uMan, hc] using this
      · have hc : uCls E M x = 1 := by unfold uCls; rw [if_neg he, if_pos h0, if_neg hm]
        have := unpack_sub h1 h2 h3 h4 x hx h0 hm w
        simpa [uNeg, uExp, uMan, hc] using this
    · have hc : uCls E M x = 2 := by unfold uCls; rw [if_neg he, if_neg h0]
      have := unpack_norm h1 h2 h3 h4 x hx h0 he w
      simpa [uNeg, uExp, uMan, hc] using this

/-- what is held through a region: nothing old has turned; the format lies in block b -/
def HS (w : World) (b : Nat) (E M : Nat) (w' : World) : Prop := Below w.heap.size w w' ∧ w.heap.size ≤ b ∧ w'.cell? ⟨b, 0, none⟩ = some (.int .u8 E) ∧ w'.cell? ⟨b, 1, none⟩ = some (.int .u8 M)
theorem HS.call {w w1 w2 : World} {b E M : Nat} (h : HS w b E M w1) (hb : Below w1.heap.size w1 w2) : HS w b E M w2 :=
  ⟨h.1.trans (hb.mono h.1.size), h.2.1, by rw [hb.cell (World.block_lt_of_cell? _ _ h.2.2.1)]; exact h.2.2.1, by rw [hb.cell (World.block_lt_of_cell? _ _ h.2.2.2)]; exact h.2.2.2⟩
theorem HS.alloc {w w1 : World} {b E M : Nat} {o : Obj} (h : HS w b E M w1) : HS w b E M (w1.alloc o) :=
  h.call ((Below.refl _ _).alloc (Nat.le_refl _) o)
theorem HS.drew {w w1 : World} {b E M : Nat} (h : HS w b E M w1) : HS w b E M w1.drew := ⟨h.1.drew, h.2.1, h.2.2.1, h.2.2.2⟩
theorem HS.lt {w w1 : World} {b E M : Nat} (h : HS w b E M w1) : b < w1.heap.size := World.block_lt_of_cell? _ _ h.2.2.1
theorem HS.set {w w1 : World} {b E M : Nat} {c o : Nat} {v : Value} (h : HS w b E M w1) (hc : b < c) : HS w b E M (w1.setCell ⟨c, o, none⟩ v) :=
  ⟨h.1.setCell (Nat.le_trans h.2.1 (Nat.le_of_lt hc)) v, h.2.1, by rw [World.cell?_setCell_far _ _ _ _ (Nat.ne_of_gt hc)]; exact h.2.2.1, by rw [World.cell?_setCell_far _ _ _ _ (Nat.ne_of_gt hc)]; exact h.2.2.2⟩
theorem HS.set4 {w w1 : World} {b E M : Nat} {c o0 o1 o2 o3 : Nat} {v0 v1 v2 v3 : Value} (h : HS w b E M w1) (hc : b < c) : HS w b E M ((((w1.setCell ⟨c, o0, none⟩ v0).setCell ⟨c, o1, none⟩ v1).setCell ⟨c, o2, none⟩ v2).setCell ⟨c, o3, none⟩ v3) :=
  (((h.set hc).set hc).set hc).set hc
theorem HS.cells {w : World} {b E M : Nat} : (∀ w', HS w b E M w' → w'.cell? ⟨b, 0, none⟩ = some (.int .u8 E)) ∧ (∀ w', HS w b E M w' → w'.cell? ⟨b, 1, none⟩ = some (.int .u8 M)) :=
  ⟨fun _ h => h.2.2.1, fun _ h => h.2.2.2⟩

set_option maxHeartbeats 1000000 in
/-- soft.Cmp -/
theorem cmp_yes {E M : Nat} (h1 : 2 ≤ E) (h2 : E ≤ 11) (h3 : 2 ≤ M) (h4 : M ≤ 52) (a b : Nat) (ha : a < 18446744073709551616) (hb : b < 18446744073709551616) (w : World) :
    Calls Oafg.prog 24 #[.agg #[.int .u8 E, .int .u8 M], .int .u64 a, .int .u64 b] w fun e w' =>
      e = .returned (.int .i8 (ordS (uNeg E M a) (uNeg E M b) (uCls E M a) (uCls E M b) (a % 2 ^ (E + M)) (b % 2 ^ (E + M)))) ∧ Below w.heap.size w w' := by
  have ua := fun w => unpack_yes h1 h2 h3 h4 a ha w
  have ub := fun w => unpack_yes h1 h2 h3 h4 b hb w
  have e3 : 2 ^ (E + M) ≤ 2 ^ 63 := two_pow_le (by omega)
  have p3 := Nat.two_pow_pos (E + M)
  have g0 : (2 : Int) ^ (E + M) - 1 = ((2 ^ (E + M) - 1 : Nat) : Int) := by rw [← cast_two_pow]; omega
  have g1 : bits .and .u64 (a : Int) ((2 ^ (E + M) - 1 : Nat) : Int) = ((a % 2 ^ (E + M) : Nat) : Int) := by
    rw [and64 a (2 ^ (E + M) - 1) _ _ rfl rfl ha (by omega), Nat.and_two_pow_sub_one_eq_mod]
  have g2 : bits .and .u64 (b : Int) ((2 ^ (E + M) - 1 : Nat) : Int) = ((b % 2 ^ (E + M) : Nat) : Int) := by
    rw [and64 b (2 ^ (E + M) - 1) _ _ rfl rfl hb (by omega), Nat.and_two_pow_sub_one_eq_mod]
  have hra : a % 2 ^ (E + M) < 2 ^ (E + M) := Nat.mod_lt _ p3
  have hrb : b % 2 ^ (E + M) < 2 ^ (E + M) := Nat.mod_lt _ p3
  have g3 : bits .or .u64 ((a % 2 ^ (E + M) : Nat) : Int) ((b % 2 ^ (E + M) : Nat) : Int) = ((a % 2 ^ (E + M) ||| b % 2 ^ (E + M) : Nat) : Int) := or64 _ _ _ rfl (by omega) (by omega)
  have hz : (((a % 2 ^ (E + M) ||| b % 2 ^ (E + M) : Nat) : Int) == 0) = decide (a % 2 ^ (E + M) = 0 ∧ b % 2 ^ (E + M) = 0) := by
    rw [Bool.eq_iff_iff, beq_iff_eq, decide_eq_true_iff]
    rw [← Nat.or_eq_zero_iff]; omega
  have hZ : 2 ^ (E + M) - 1 < 18446744073709551616 := by omega
  generalize a % 2 ^ (E + M) ||| b % 2 ^ (E + M) = o at *
  generalize a % 2 ^ (E + M) = ra at *
  generalize b % 2 ^ (E + M) = rb at *
  generalize 2 ^ (E + M) - 1 = Z at *
  clear e3 p3 hra hrb
  generalize uNeg E M a = na at ua ⊢
  generalize uNeg E M b = nb at ub ⊢
  generalize uCls E M a = ca at ua ⊢
  generalize uCls E M b = cb at ub ⊢
  generalize uExp E M a = ea at ua
  generalize uExp E M b = eb at ub
  generalize uMan E M a = ma at ua
  generalize uMan E M b = mb at ub
  have Ua : Hid _ := ua
  have Ub : Hid _ := ub
  clear ua ub
  go_enter Oafg.func24, Oafg.ntmps24
  go_wp2_with (go_at_call 54; refine (ok_yes h1 h2 h3 h4 _).mono ?_; rintro e w1 ⟨rfl, hb1⟩; obtain ⟨hc1, hf1⟩ := bcell hb1)
  go_cut [7, 8] (fun t7 t8 w' => ∃ b7 b8, t7 = .pointer (some ⟨b7, 0, none⟩) ∧ t8 = .pointer (some ⟨b8, 0, none⟩) ∧ HS w w.heap.size E M w' ∧
    (w'.cell? ⟨b7, 0, none⟩ = some (.bool na) ∧ w'.cell? ⟨b7, 1, none⟩ = some (.int .i8 ca) ∧ w'.cell? ⟨b7, 2, none⟩ = some (.int .i16 ea) ∧ w'.cell? ⟨b7, 3, none⟩ = some (.int .u64 ma)) ∧
    (w'.cell? ⟨b8, 0, none⟩ = some (.bool nb) ∧ w'.cell? ⟨b8, 1, none⟩ = some (.int .i8 cb) ∧ w'.cell? ⟨b8, 2, none⟩ = some (.int .i16 eb) ∧ w'.cell? ⟨b8, 3, none⟩ = some (.int .u64 mb)))
  case first =>
    have hS0 : HS w w.heap.size E M w1 := ⟨below1 hb1, Nat.le_refl _, by simp [hc1], by simp [hc1]⟩
    obtain ⟨hl0, hl1⟩ := HS.cells (w := w) (b := w.heap.size) (E := E) (M := M)
    have hsz : w.heap.size < w1.heap.size := hS0.lt
    clear hc1 hf1
    go_region_held3 (fun w' => HS w w.heap.size E M w')
      (repeat' (first | with_reducible exact hSu | with_reducible exact hS0 | with_reducible apply HS.alloc | with_reducible apply HS.set | with_reducible apply HS.drew | (simp; omega) | omega))
      (first
        | (go_at_call_of 70 (Value.int .u64 a); refine (Ua.out _).mono ?_; rintro e w2 ⟨rfl, hbu⟩; have hSu := HS.call (by assumption) hbu; have hltu := HS.lt hSu; obtain ⟨hcu, hfu⟩ := bcell hbu; have hzu := hbu.size; (try simp at hzu); (try have q1 : w1.heap.size < w2.heap.size := by omega); (try have q2 : w1.heap.size + 1 < w2.heap.size := by omega))
        | (go_at_call_of 70 (Value.int .u64 b); refine (Ub.out _).mono ?_; rintro e w3 ⟨rfl, hbu⟩; have hSu := HS.call (by assumption) hbu; have hltu := HS.lt hSu; obtain ⟨hcu, hfu⟩ := bcell hbu; have hzu := hbu.size; (try simp at hzu); (try have q3 : w1.heap.size < w3.heap.size := by omega); (try have q4 : w1.heap.size + 1 < w3.heap.size := by omega); (try have q5 : w2.heap.size < w3.heap.size := by omega); (try have q6 : w2.heap.size + 1 < w3.heap.size := by omega)))
    all_goals
      rename_i hH
      go_wp2
      go_meet
      case rel => exact ⟨_, _, rfl, rfl, hH, by simp (maxDischargeDepth := 8) [go_sem, *], by simp (maxDischargeDepth := 8) [go_sem, *]⟩
  case rest =>
    obtain ⟨b7, b8, rfl, rfl, hS, ⟨x0, x1, x2, x3⟩, y0, y1, y2, y3⟩ := hcut
    have hbw := hS.lt
    have hb7 := World.block_lt_of_cell? _ _ x0
    have hb8 := World.block_lt_of_cell? _ _ y0
    simp only at hb7 hb8
    have z0 := hS.2.2.1
    have z1 := hS.2.2.2
    cases na <;> cases nb
    all_goals
      go_wp2_with (go_at_call 71; refine (signBit_yes h1 h2 h3 h4 _).mono ?_; rintro e w5 ⟨rfl, hb5⟩; obtain ⟨hc5, hf5⟩ := bcell hb5)
      all_goals
        go_ret
        refine ⟨ret_int ?_, hS.1.trans (hb5.mono hS.1.size)⟩
        clear hc5 hf5 hb5 Ua Ub
        simp only [ordS, ordR]
        simp_all
        try omega
end Go.Proofs.Ygcoaf
