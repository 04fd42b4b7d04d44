/-
  lemire.pattern.
-/
import Derived.Test.YgcoafL2
namespace Go.Proofs.Ygcoaf
open Go.RowKit Go.Proofs.Ygcoaf.M

/-- three words -/
def three (a b c : Nat) : Nat := (a * 18446744073709551616 + b) * 18446744073709551616 + c

theorem three_top (a b c : Nat) (hb : b < 18446744073709551616) (hc : c < 18446744073709551616) : three a b c / 2 ^ 128 = a ∧ three a b c % 2 ^ 128 = b * 18446744073709551616 + c := by
  unfold three
  have : (2 : Nat) ^ 128 = 340282366920938463463374607431768211456 := by decide
  rw [this]
  omega
theorem three_next (a b c : Nat) (hc : c < 18446744073709551616) : three a b c / 2 ^ 127 = 2 * a + b / 9223372036854775808 ∧ three a b c % 2 ^ 127 = b % 9223372036854775808 * 18446744073709551616 + c := by
  unfold three
  have : (2 : Nat) ^ 127 = 170141183460469231731687303715884105728 := by decide
  rw [this]
  omega

theorem or_pair_zero (a b : Nat) : a ||| b = 0 ↔ a = 0 ∧ b = 0 := Nat.or_eq_zero_iff

set_option maxRecDepth 8000 in
set_option maxHeartbeats 1000000 in
/-- lemire.pattern -/
theorem patt_any {E M : Nat} (h1 : 2 ≤ E) (h2 : E ≤ 11) (h3 : 2 ≤ M) (h4 : M ≤ 52) (a1 a0 low : Nat) (exp : Int) (ha : 4611686018427387904 ≤ a1) (ha1 : a1 < 18446744073709551616) (ha0 : a0 < 18446744073709551616) (hl : low < 18446744073709551616) (hx1 : -4000 ≤ exp) (hx2 : exp ≤ 2500) (w : World) :
    Calls Oafg.prog 186 #[.agg #[.int .u8 E, .int .u8 M], .agg #[.int .u64 a1, .int .u64 a0], .int .u64 low, .int .i16 exp] w fun r w' => r = .returned (.int .u64 (patV E M (three a1 a0 low) exp : Nat)) ∧ Below w.heap.size w w' := by
  obtain ⟨V, hV⟩ : ∃ V, V = patV E M (three a1 a0 low) exp := ⟨_, rfl⟩
  rw [← hV]
  by_cases c : 9223372036854775808 ≤ a1
  · have c1 : ((a1 : Int) / 9223372036854775808 == 0) = false := by rw [beq_eq_false_iff_ne]; omega
    obtain ⟨t1, t2⟩ := three_top a1 a0 low ha0 hl
    have hP := pat_st (E := E) (M := M) h1 h4 (N := three a1 a0 low) (j := 128) (exp := exp) (by rw [t1]; exact c) (by rw [t1]; exact ha1)
    obtain ⟨o, ho⟩ : ∃ o, o = a0 ||| low := ⟨_, rfl⟩
    have f1 : bits .or .u64 (a0 : Int) (low : Int) = (o : Int) := by rw [ho]; exact u64_or_nat _ _ ha0 hl
    have hoz := or_pair_zero a0 low
    rw [← ho] at hoz
    by_cases z : o = 0
    · have hst : st (three a1 a0 low) (2 ^ 128) = a1 := by rw [st_even _ _ (by rw [t2]; have := hoz.1 z; omega), t1]
      rw [hst, ← hV] at hP
      have HR := fun ww => lround_any h1 h2 h3 h4 a1 (exp + 128) c ha1 (by omega) (by omega) ww
      have hP' : slV E M 0 false a1 (exp + 128) = V := hP.symm
      rw [hP'] at HR
      have H : Hid _ := HR
      subst z
      clear HR hP hP' hst hV t1 t2 ho hoz c
      go_enter Oafg.func186, Oafg.ntmps186
      go_wp2_with (go_at_call 197; refine (H.out _).mono ?_; rintro e w2 ⟨rfl, hb⟩)
      go_ret
      exact ⟨rfl, below2 hb⟩
    · have hst : st (three a1 a0 low) (2 ^ 128) = a1 ||| 1 := by
        have hne : three a1 a0 low % 2 ^ 128 ≠ 0 := by rw [t2]; intro h; exact z (hoz.2 (by omega))
        unfold st; rw [if_neg hne, t1]
      obtain ⟨s, hs⟩ : ∃ s, s = a1 ||| 1 := ⟨_, rfl⟩
      have f2 : bits .or .u64 (a1 : Int) 1 = (s : Int) := by rw [hs]; exact u64_or_nat a1 1 ha1 (by decide)
      have hs9 := or_one a1
      have hsb : 9223372036854775808 ≤ s ∧ s < 18446744073709551616 := by rw [← hs] at hs9; omega
      rw [hst, ← hV, ← hs] at hP
      have HR := fun ww => lround_any h1 h2 h3 h4 s (exp + 128) hsb.1 hsb.2 (by omega) (by omega) ww
      have hP' : slV E M 0 false s (exp + 128) = V := hP.symm
      rw [hP'] at HR
      have H : Hid _ := HR
      have z1 : ((o : Int) != 0) = true := by simp; exact z
      have ob : o < 18446744073709551616 := by rw [ho]; exact Nat.or_lt_two_pow (n := 64) ha0 hl
      clear HR hP hP' hst hV t1 t2 ho hoz z c hs hs9
      go_enter Oafg.func186, Oafg.ntmps186
      go_wp2_with (go_at_call 197; refine (H.out _).mono ?_; rintro e w2 ⟨rfl, hb⟩)
      go_ret
      exact ⟨rfl, below2 hb⟩
  · have c1 : ((a1 : Int) / 9223372036854775808 == 0) = true := by rw [beq_iff_eq]; omega
    obtain ⟨t1, t2⟩ := three_next a1 a0 low hl
    obtain ⟨hi, hhi⟩ : ∃ hi, hi = 2 * a1 + a0 / 9223372036854775808 := ⟨_, rfl⟩
    rw [← hhi] at t1
    have hb : 9223372036854775808 ≤ hi ∧ hi < 18446744073709551616 := by omega
    have hP := pat_st (E := E) (M := M) h1 h4 (N := three a1 a0 low) (j := 127) (exp := exp) (by rw [t1]; exact hb.1) (by rw [t1]; exact hb.2)
    obtain ⟨l2, hl2⟩ : ∃ l2, l2 = a0 * 2 % 18446744073709551616 := ⟨_, rfl⟩
    have f3 : IntKind.u64.wrap ((a0 : Int) * 2) = (l2 : Int) := by rw [hl2, ← wrap64_nat]; simp
    have hl2b : l2 < 18446744073709551616 := by omega
    obtain ⟨o, ho⟩ : ∃ o, o = l2 ||| low := ⟨_, rfl⟩
    have f1 : bits .or .u64 (l2 : Int) (low : Int) = (o : Int) := by rw [ho]; exact u64_or_nat _ _ hl2b hl
    have hoz := or_pair_zero l2 low
    rw [← ho] at hoz
    obtain ⟨a2, ha2⟩ : ∃ a2, a2 = 2 * a1 := ⟨_, rfl⟩
    obtain ⟨b1, hb1⟩ : ∃ b1, b1 = a0 / 9223372036854775808 := ⟨_, rfl⟩
    have g1 : (a1 : Int) * 2 = (a2 : Int) := by omega
    have g2 : (a0 : Int) / 9223372036854775808 = (b1 : Int) := by omega
    have g3 : bits .or .u64 (a2 : Int) (b1 : Int) = (hi : Int) := by
      rw [u64_or_nat _ _ (by omega) (by omega), ha2, Nat.mul_comm 2 a1, Nat.or_comm, show a1 * 2 = a1 * 2 ^ 1 by simp, or_low b1 a1 1 (by omega)]
      omega
    have ha2b : a2 < 18446744073709551616 := by omega
    have hb1b : b1 < 18446744073709551616 := by omega
    by_cases z : o = 0
    · have hst : st (three a1 a0 low) (2 ^ 127) = hi := by rw [st_even _ _ (by rw [t2]; have := hoz.1 z; omega), t1]
      rw [hst, ← hV] at hP
      have HR := fun ww => lround_any h1 h2 h3 h4 hi (exp + 127) hb.1 hb.2 (by omega) (by omega) ww
      have hP' : slV E M 0 false hi (exp + 127) = V := hP.symm
      rw [hP'] at HR
      have H : Hid _ := HR
      have fe : exp + 128 - 1 = exp + 127 := by omega
      subst z
      clear HR hP hP' hst hV t1 t2 ho hoz c hhi hl2 ha2 hb1
      go_enter Oafg.func186, Oafg.ntmps186
      go_wp2_with (go_at_call 197; refine (H.out _).mono ?_; rintro e w2 ⟨rfl, hb⟩)
      go_ret
      exact ⟨rfl, below2 hb⟩
    · have hst : st (three a1 a0 low) (2 ^ 127) = hi ||| 1 := by
        have hne : three a1 a0 low % 2 ^ 127 ≠ 0 := by rw [t2]; intro h; exact z (hoz.2 (by omega))
        unfold st; rw [if_neg hne, t1]
      obtain ⟨s, hs⟩ : ∃ s, s = hi ||| 1 := ⟨_, rfl⟩
      have f2 : bits .or .u64 (hi : Int) 1 = (s : Int) := by rw [hs]; exact u64_or_nat hi 1 hb.2 (by decide)
      have hs9 := or_one hi
      have hsb : 9223372036854775808 ≤ s ∧ s < 18446744073709551616 := by rw [← hs] at hs9; omega
      rw [hst, ← hV, ← hs] at hP
      have HR := fun ww => lround_any h1 h2 h3 h4 s (exp + 127) hsb.1 hsb.2 (by omega) (by omega) ww
      have hP' : slV E M 0 false s (exp + 127) = V := hP.symm
      rw [hP'] at HR
      have H : Hid _ := HR
      have z1 : ((o : Int) != 0) = true := by simp; exact z
      have ob : o < 18446744073709551616 := by rw [ho]; exact Nat.or_lt_two_pow (n := 64) hl2b hl
      have fe : exp + 128 - 1 = exp + 127 := by omega
      clear HR hP hP' hst hV t1 t2 ho hoz z c hs hs9 hhi hl2 ha2 hb1
      go_enter Oafg.func186, Oafg.ntmps186
      go_wp2_with (go_at_call 197; refine (H.out _).mono ?_; rintro e w2 ⟨rfl, hb⟩)
      go_ret
      exact ⟨rfl, below2 hb⟩
end Go.Proofs.Ygcoaf
