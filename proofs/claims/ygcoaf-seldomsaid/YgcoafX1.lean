/-
  PACKAGE exact, the first: zero, emin, emax, shift, toU64, raises, overflow.
-/
import Derived.Test.YgcoafN18
namespace Go.Proofs.Ygcoaf
open Go.RowKit Go.Proofs.Ygcoaf.M

/-- exact.zero -/
theorem ezero_yes {E M : Nat} (h1 : 2 ≤ E) (h2 : E ≤ 11) (h3 : 2 ≤ M) (h4 : M ≤ 52) (neg : Bool) (w : World) :
    Calls Oafg.prog 125 #[.agg #[.int .u8 E, .int .u8 M], .bool neg] w fun e w' => e = .returned (.int .u64 ((sgn E M neg : Nat) : Int)) ∧ Below w.heap.size w w' := by
  cases neg
  · go_enter Oafg.func125, Oafg.ntmps125
    go_wp2
    go_ret
    exact ⟨rfl, self1⟩
  · go_enter Oafg.func125, Oafg.ntmps125
    go_wp2_with (go_at_call 71; refine (signBit_yes h1 h2 h3 h4 _).mono ?_; rintro e w1 ⟨rfl, hb⟩)
    go_ret
    exact ⟨ret_int (by simp [sgn]), below1 hb⟩

/-- exact.emin -/
theorem emin_yes {E M : Nat} (h1 : 2 ≤ E) (h2 : E ≤ 11) (h3 : 2 ≤ M) (h4 : M ≤ 52) (w : World) :
    Calls Oafg.prog 127 #[.agg #[.int .u8 E, .int .u8 M]] w fun e w' => e = .returned (.int .i64 (lo E)) ∧ Below w.heap.size w w' := by
  have hb := biasN_bd h1 h2
  obtain ⟨b, hbe⟩ : ∃ b, b = biasN E := ⟨_, rfl⟩
  have B := fun w => bias_yes h1 h2 h3 h4 w
  rw [← hbe] at hb
  simp only [← hbe] at B
  have HBI : Hid _ := B
  have hl : lo E = 1 - b := by unfold lo; rw [hbe]
  rw [hl]
  clear hl hbe B
  go_enter Oafg.func127, Oafg.ntmps127
  go_wp2_with (go_at_call 118; refine (HBI.out _).mono ?_; rintro e w1 ⟨rfl, hbb⟩)
  go_ret
  exact ⟨ret_int (by first | rfl | (rw [wrap_i64']; omega)), below1 hbb⟩

/-- exact.emax -/
theorem emax_yes {E M : Nat} (h1 : 2 ≤ E) (h2 : E ≤ 11) (h3 : 2 ≤ M) (h4 : M ≤ 52) (w : World) :
    Calls Oafg.prog 128 #[.agg #[.int .u8 E, .int .u8 M]] w fun e w' => e = .returned (.int .i64 (biasN E)) ∧ Below w.heap.size w w' := by
  have hb := biasN_bd h1 h2
  have B := fun w => bias_yes h1 h2 h3 h4 w
  generalize biasN E = b at *
  have HBI : Hid _ := B
  clear B
  go_enter Oafg.func128, Oafg.ntmps128
  go_wp2_with (go_at_call 118; refine (HBI.out _).mono ?_; rintro e w1 ⟨rfl, hbb⟩)
  go_ret
  exact ⟨ret_int (by first | rfl | (rw [wrap_i64']; omega)), below1 hbb⟩

/-- exact.shift -/
theorem shift_nat {w : World} {va vb : Value} {A B : Nat} (k : Int) (hk1 : -60000 ≤ k) (hk2 : k ≤ 60000) (s1 : NatV w va A) (s2 : NatV w vb B) (b1 : bl A ≤ 900000) (b2 : bl B ≤ 900000) :
    Calls Oafg.prog 130 #[va, vb, .int .i64 k] w fun e w' => (∃ v1 v2, e = .returned (.tuple #[v1, v2]) ∧ NatV w' v1 (A * 2 ^ k.toNat) ∧ NatV w' v2 (B * 2 ^ (-k).toNat)) ∧ Below w.heap.size w w' := by
  by_cases c : k < 0
  · obtain ⟨j, hj⟩ : ∃ j : Nat, j = (-k).toNat := ⟨_, rfl⟩
    have e1 : -k = (j : Int) := by omega
    have e2 : k.toNat = 0 := by omega
    rw [e2, ← hj]
    have T : Hid _ := fun (_ : Unit) => shl_nat j (by omega) s2 (by omega)
    have HS1 : Hid _ := s1
    have hj2 : j < 65536 := by omega
    clear hj s1 s2
    go_enter Oafg.func130, Oafg.ntmps130
    go_wp2_with (go_at_call 146; refine (T.out ()).mono ?_; rintro e w1 ⟨⟨v2, rfl, hN⟩, hb⟩)
    go_ret2
    exact ⟨⟨_, _, rfl, by simpa using HS1.out.call hb, hN⟩, hb⟩
  · obtain ⟨j, hj⟩ : ∃ j : Nat, k = (j : Int) := ⟨k.toNat, by omega⟩
    subst hj
    have e2 : (-(j : Int)).toNat = 0 := by omega
    rw [e2, Int.toNat_natCast]
    have T : Hid _ := fun (_ : Unit) => shl_nat j (by omega) s1 (by omega)
    have HS1 : Hid _ := s2
    have hj2 : j < 65536 := by omega
    clear s1 s2
    go_enter Oafg.func130, Oafg.ntmps130
    go_wp2_with (go_at_call 146; refine (T.out ()).mono ?_; rintro e w1 ⟨⟨v2, rfl, hN⟩, hb⟩)
    go_ret2
    exact ⟨⟨_, _, rfl, hN, by simpa using HS1.out.call hb⟩, hb⟩

/-- exact.toU64 -/
theorem toU64_nat {w : World} {v : Value} {n : Nat} (s : NatV w v n) (hn : n < 18446744073709551616) :
    Calls Oafg.prog 134 #[v] w fun e w' => e = .returned (.int .u64 n) ∧ w' = w := by
  obtain ⟨rfl, rfl⟩ | ⟨b, off, cap, xs, rfl, h2, h3, h4, h5, h6⟩ := s.out
  · go_enter Oafg.func134, Oafg.ntmps134
    go_wp2
    go_ret
    exact ⟨rfl, rfl⟩
  · match xs, h4, h2, h3, h5 with
    | [x], _, h2, h3, _ =>
      obtain ⟨b', o', e, hc⟩ := h2.cell 0 (by simp)
      cases e
      have hl := h2.lim 0 (by simp)
      have hf := h2.fits
      simp [lv] at hl hf h3 hc
      subst h3
      have g1 : bits .or .u64 0 (x : Int) = (x : Int) := by
        have := u64_or_nat 0 x (by decide) (by omega)
        simpa using this
      clear h2 s
      go_enter Oafg.func134, Oafg.ntmps134
      go_wp2
      go_ret
      exact ⟨rfl, rfl⟩
    | [x, y], _, h2, h3, _ =>
      obtain ⟨b', o', e, hc⟩ := h2.cell 0 (by simp)
      cases e
      obtain ⟨b', o', e, hc1⟩ := h2.cell 1 (by simp)
      cases e
      have hl := h2.lim 0 (by simp)
      have hl1 := h2.lim 1 (by simp)
      have hf := h2.fits
      simp at hl hf hc hl1 hc1
      have h3' : x + 4294967296 * y = n := by simpa [lv] using h3
      have g1 : bits .or .u64 ((y : Int) * 4294967296) (x : Int) = (n : Int) := by
        have := or_low x y 32 (by simpa using hl)
        rw [← h3', Nat.mul_comm 4294967296 y, show 4294967296 = 2 ^ 32 from by decide, ← this, Nat.or_comm]
        have h3 := u64_or_nat (y * 2 ^ 32) x (by omega) (by omega)
        rw [← h3]; simp
      clear h2 h3 h3' s
      go_enter Oafg.func134, Oafg.ntmps134
      go_wp2
      go_ret
      exact ⟨rfl, rfl⟩
    | x :: y :: z :: r, _, h2, h3, h5 =>
      exfalso
      have hlen : (x :: y :: z :: r).length = r.length + 2 + 1 := by simp
      have ht := lv_top (x :: y :: z :: r) (r.length + 2) hlen
      rw [hlen] at h5
      simp only [Nat.add_sub_cancel] at h5
      have h3' : 2 ^ 64 ≤ 2 ^ (32 * (r.length + 2)) := two_pow_le (by omega)
      have h4' : 2 ^ (32 * (r.length + 2)) * 1 ≤ 2 ^ (32 * (r.length + 2)) * (x :: y :: z :: r).getD (r.length + 2) 0 := Nat.mul_le_mul_left _ (Nat.pos_of_ne_zero h5)
      rw [h3] at ht
      omega
end Go.Proofs.Ygcoaf
