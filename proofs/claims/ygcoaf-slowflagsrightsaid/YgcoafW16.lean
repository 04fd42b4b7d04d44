/-
  WALKS, the sixteenth: wide.Div.
-/
import Derived.Test.YgcoafW15
namespace Go.Proofs.Ygcoaf
open Go.RowKit Go.Proofs.Ygcoaf.M

theorem log_up (d : Nat) (h0 : 0 < d) (hd : d < 18446744073709551616) : 9223372036854775808 ≤ d * 2 ^ (63 - d.log2) ∧ d * 2 ^ (63 - d.log2) < 18446744073709551616 := by
  have hl : d.log2 < 64 := (Nat.log2_lt (by omega)).2 (by rw [p64]; exact hd)
  have a := Nat.log2_self_le (n := d) (by omega)
  have b := Nat.lt_log2_self (n := d)
  constructor
  · calc 9223372036854775808 = 2 ^ d.log2 * 2 ^ (63 - d.log2) := by rw [← Nat.pow_add, show d.log2 + (63 - d.log2) = 63 by omega]
      _ ≤ _ := Nat.mul_le_mul_right _ a
  · calc d * 2 ^ (63 - d.log2) < 2 ^ (d.log2 + 1) * 2 ^ (63 - d.log2) := Nat.mul_lt_mul_of_pos_right b (Nat.two_pow_pos _)
      _ = 18446744073709551616 := by rw [← Nat.pow_add, show d.log2 + 1 + (63 - d.log2) = 64 by omega]

theorem two_fit {H L N D : Nat} (h : two H L = N % 340282366920938463463374607431768211456) (hN : N < D * 18446744073709551616) (hD : D < 18446744073709551616) (_ : L < 18446744073709551616) : H < D ∧ two H L = N := by
  rw [Nat.mod_eq_of_lt (by omega)] at h
  unfold two at *
  omega
theorem low_parts (L : Nat) (hL : L < 18446744073709551616) : ∃ L1 L0 : Nat, (L : Int) / 4294967296 = (L1 : Int) ∧ bits .and .u64 (L : Int) 4294967295 = (L0 : Int) ∧ L1 < 4294967296 ∧ L0 < 4294967296 ∧ L1 = L / 4294967296 ∧ L0 = L % 4294967296 := by
  refine ⟨L / 4294967296, L % 4294967296, by omega, ?_, by omega, by omega, rfl, rfl⟩
  rw [and64 L 4294967295 _ _ rfl (by simp) hL (by decide), show (4294967295 : Nat) = 2 ^ 32 - 1 by decide, Nat.and_two_pow_sub_one_eq_mod]
theorem quot_lt {h n d : Nat} (hh : h < d) (hn : n < 4294967296) : (h * 4294967296 + n) / d < 4294967296 := by
  rw [Nat.div_lt_iff_lt_mul (by omega)]; omega
theorem or_lowW (a b : Nat) (ha : a < 4294967296) (hb : b < 4294967296) : ∃ Q : Nat, bits .or .u64 ((a : Int) * 4294967296) (b : Int) = (Q : Int) ∧ Q = a * 4294967296 + b := by
  refine ⟨a * 4294967296 + b, ?_, rfl⟩
  rw [show (a : Int) * 4294967296 = ((a * 4294967296 : Nat) : Int) by simp, or64 _ _ _ rfl (by omega) (by omega), or_sum _ _ 32 ⟨a, by rw [Nat.mul_comm]⟩ hb]
theorem shr_sure (r s : Nat) : ∃ R : Nat, (r : Int) / 2 ^ s = (R : Int) ∧ R = r / 2 ^ s := ⟨_, by simp, rfl⟩
theorem set_size {w1 w2 : World} {n b c o o' : Nat} {v v' : Value} (h : n < w1.heap.size) (hb : Below ((w1.setCell ⟨b, o, none⟩ v).setCell ⟨c, o', none⟩ v').heap.size ((w1.setCell ⟨b, o, none⟩ v).setCell ⟨c, o', none⟩ v') w2) : n < w2.heap.size := by
  have := hb.size
  simp [World.setCell] at this
  omega

set_option maxHeartbeats 800000 in
/-- wide.Div where the quotient fits -/
theorem div_any (h l d : Nat) (hl : l < 18446744073709551616) (hd : d < 18446744073709551616) (hh : h < d) (w : World) :
    Calls Oafg.prog 160 #[.agg #[.int .u64 h, .int .u64 l], .int .u64 d] w fun e w' => (∃ q r : Nat, e = .returned (.tuple #[.int .u64 q, .int .u64 r, .bool true]) ∧ QR (two h l) d q r) ∧ Below w.heap.size w w' := by
  have hlog : d.log2 < 64 := (Nat.log2_lt (by omega)).2 (by rw [p64]; exact hd)
  obtain ⟨u1, u2⟩ := log_up d (by omega) hd
  have hN : two h l * 2 ^ (63 - d.log2) < d * 2 ^ (63 - d.log2) * 18446744073709551616 := by
    rw [Nat.mul_right_comm]
    exact Nat.mul_lt_mul_of_pos_right (by unfold two; omega) (Nat.two_pow_pos _)
  have hk : 63 - d.log2 < 64 := by omega
  have hz := clz_pos d hd (by omega)
  have e1 : IntKind.u64.wrap ((d : Int) * 2 ^ (63 - d.log2)) = ((d * 2 ^ (63 - d.log2) : Nat) : Int) := by rw [← cast_two_pow, ← Int.natCast_mul, wrap64_nat, Nat.mod_eq_of_lt u2]
  have hS := fun w => shl_any h l (63 - d.log2) hl (by omega) w
  have hG : ∀ q r : Nat, QR (two h l * 2 ^ (63 - d.log2)) (d * 2 ^ (63 - d.log2)) q r → QR (two h l) d q (r / 2 ^ (63 - d.log2)) := by
    intro q r ⟨a, b⟩
    refine ⟨by rw [a, Nat.mul_div_mul_right _ _ (Nat.two_pow_pos _)], by rw [b, Nat.mul_mod_mul_right, Nat.mul_div_cancel _ (Nat.two_pow_pos _)]⟩
  generalize d * 2 ^ (63 - d.log2) = D at *
  generalize two h l * 2 ^ (63 - d.log2) = N at *
  generalize 63 - d.log2 = s at *
  have HG : Hid _ := hG
  have HS : Hid _ := hS
  have HZ : Hid _ := hz
  clear hG hS hz
  have d1 : decide ((d : Int) ≤ (h : Int)) = false := by simp; omega
  go_enter Oafg.func160, Oafg.ntmps160
  go_wp2_with (first
    | (go_at_call 172; refine (HZ.out _).mono ?_; rintro e w1 ⟨rfl, rfl⟩)
    | (go_at_call 174; refine (HS.out _).mono ?_; rintro e w1 ⟨⟨H, L, rfl, hHL, hH, hL⟩, hb1⟩; obtain ⟨hc, hf⟩ := bcell hb1; have hlt := size1 hb1
       obtain ⟨y1, y2⟩ := two_fit hHL hN u2 hL
       obtain ⟨L1, L0, x1, x2, x3, x4, x5, x6⟩ := low_parts L hL
       have X5 : Hid _ := x5
       have X6 : Hid _ := x6
       have Y2 : Hid _ := y2
       clear x5 x6 y2 hHL)
    | (go_at_call_of 194 (Value.int .u64 H); refine (divHalf_any H L1 D x3 y1 u1 u2 _).mono ?_; rintro e w2 ⟨⟨q1, r1, rfl, hq1⟩, hb2⟩; obtain ⟨hc2, hf2⟩ := bcell hb2
       have hr1 : r1 < D := by rw [hq1.2]; exact Nat.mod_lt _ (by omega)
       have hq2 : q1 < 4294967296 := by rw [hq1.1]; exact quot_lt y1 x3
       have hlt2 := set_size hlt hb2
       have HQ1 : Hid _ := hq1
       clear hq1)
    | (go_at_call_of 194 (Value.int .u64 r1); refine (divHalf_any r1 L0 D x4 hr1 u1 u2 _).mono ?_; rintro e w3 ⟨⟨q0, r0, rfl, hq0⟩, hb3⟩; obtain ⟨hc3, hf3⟩ := bcell hb3
       have hr0 : r0 < D := by rw [hq0.2]; exact Nat.mod_lt _ (by omega)
       have hq3 : q0 < 4294967296 := by rw [hq0.1]; exact quot_lt hr1 x4
       obtain ⟨Q, z1, z2⟩ := or_lowW q1 q0 hq2 hq3
       obtain ⟨R, z3, z4⟩ := shr_sure r0 s
       have HQ0 : Hid _ := hq0
       have Z2 : Hid _ := z2
       have Z4 : Hid _ := z4
       clear hq0 z2 z4))
  have fin : QR (two h l) d Q R := by
    rw [Z4.out]
    refine HG.out Q r0 ?_
    have := div_halves H L D (by omega)
    rw [← Y2.out]
    refine ⟨?_, ?_⟩
    · rw [Z2.out, HQ0.out.1, HQ1.out.1, HQ1.out.2, X5.out, X6.out]; exact this.1
    · rw [HQ0.out.2, HQ1.out.2, X5.out, X6.out]; exact this.2
  exact bodyPost_ret (v := .tuple #[.int .u64 Q, .int .u64 R, .bool true]) (by simp [results, Oafg.results160, go_sem]) rfl ⟨⟨Q, R, rfl, fin⟩, bt (bt (((below1 hb1).setCell (Nat.le_refl _) _).setCell (Nat.le_refl _) _) hb2) hb3⟩
end Go.Proofs.Ygcoaf
