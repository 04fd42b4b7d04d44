/-
  slow.big: the number as a value; mulPow5, read.
-/
import Derived.Test.YgcoafT2
namespace Go.Proofs.Ygcoaf
open Go.RowKit Go.Proofs.Ygcoaf.M

/-- a big number that is N, its top limb not zero -/
structure BigV (w : World) (R N : Nat) : Prop where
  out : ∃ n ws, Big w R n ws ∧ lw ws = N ∧ (∀ i, n ≤ i → ws.getD i 0 = 0) ∧ (n ≠ 0 → ws.getD (n - 1) 0 ≠ 0)
theorem BigV.call {w w' : World} {R N : Nat} (b : BigV w R N) (h : Below w.heap.size w w') : BigV w' R N := by
  obtain ⟨n, ws, h1, h2⟩ := b.out; exact ⟨n, ws, h1.call h, h2⟩
theorem BigV.in {w : World} {R N : Nat} (b : BigV w R N) : R < w.heap.size := by
  obtain ⟨n, ws, h1, h2⟩ := b.out; exact h1.in
/-- a number lies between the powers of its limbs -/
theorem limbs_bd {n N : Nat} {ws : List Nat} (hl : ws.length = 52) (hlim : Lim6 ws) (hn : n ≤ 52) (hv : lw ws = N) (hz : ∀ i, n ≤ i → ws.getD i 0 = 0) : N < 18446744073709551616 ^ n ∧ (n ≠ 0 → (ws.getD (n - 1) 0 ≠ 0 ↔ 18446744073709551616 ^ (n - 1) ≤ N)) := by
  rw [lw_all ws n hz] at hv
  refine ⟨by rw [← hv]; exact lw_take_lt ws hlim n (by omega), fun h0 => ?_⟩
  obtain ⟨k, rfl⟩ : ∃ k, n = k + 1 := ⟨n - 1, by omega⟩
  rw [lw_take_next] at hv
  rw [Nat.add_sub_cancel]
  have h1 := lw_take_lt ws hlim k (by omega)
  constructor
  · intro h
    have : 18446744073709551616 ^ k * 1 ≤ 18446744073709551616 ^ k * ws.getD k 0 := Nat.mul_le_mul_left _ (by omega)
    omega
  · intro h e
    rw [e, Nat.mul_zero] at hv
    omega

theorem mulAdd_V {w : World} {R N : Nat} (b : BigV w R N) (m c : Nat) (hm : m < 18446744073709551616) (hc : c < 18446744073709551616) (h1 : 1 ≤ m ∨ N = 0) (hfit : N * m + c < 18446744073709551616 ^ 52) :
    Calls Oafg.prog 96 #[.pointer (some ⟨R, 0, none⟩), .int .u64 m, .int .u64 c] w fun e w' => (∃ v, e = .returned v) ∧ BigV w' R (N * m + c) ∧ Only R w w' := by
  obtain ⟨n, ws, hB, hv, hz, ht⟩ := b.out
  have hT := limbs_bd hB.len hB.lim hB.n52 hv hz
  refine (mulAdd_any hB m c hm hc hz (by rw [hv]; exact hfit)).mono ?_
  rintro e w' ⟨he, n', ws', hB', hv', hz', hn', hO⟩
  rw [hv] at hv'
  refine ⟨he, ⟨n', ws', hB', hv', hz', fun h0 => ?_⟩, hO⟩
  obtain rfl | ⟨rfl, hne⟩ := hn'
  · have hT' := limbs_bd hB'.len hB'.lim hB'.n52 hv' hz'
    rw [(hT'.2 h0)]
    have h9 := (hT.2 h0).1 (ht h0)
    have hp : 0 < 18446744073709551616 ^ (n' - 1) := Nat.pow_pos (by decide)
    obtain h1 | h1 := h1
    · have : N * 1 ≤ N * m := Nat.mul_le_mul_left _ h1
      omega
    · omega
  · rw [Nat.add_sub_cancel]; exact hne

theorem p5_27 : (7450580596923828125 : Nat) = 5 ^ 27 := by decide

set_option maxRecDepth 8000 in
/-- slow.big.mulPow5 -/
theorem mulPow5_V {w : World} {R N : Nat} (b : BigV w R N) (k : Nat) (hk : k ≤ 100000) (hfit : N * 5 ^ k < 18446744073709551616 ^ 52) :
    Calls Oafg.prog 97 #[.pointer (some ⟨R, 0, none⟩), .int .i64 k] w fun e w' => (∃ v, e = .returned v) ∧ BigV w' R (N * 5 ^ k) ∧ Only R w w' := by
  have H0 : Hid (BigV w R (N * 5 ^ (k - k))) := by show BigV _ _ _; rw [Nat.sub_self, Nat.pow_zero, Nat.mul_one]; exact b
  have Hfit : Hid _ := hfit
  have Hle : Hid (∀ j, j ≤ k → N * 5 ^ j < 18446744073709551616 ^ 52) := fun j hj => Nat.lt_of_le_of_lt (Nat.mul_le_mul_left _ (Nat.pow_le_pow_right (by decide) hj)) hfit
  clear hfit b
  go_enter Oafg.func97, Oafg.ntmps97
  go_wp2
  go_loopw [1] (fun i wr => ∃ j : Nat, j ≤ k ∧ i = .int .i64 j ∧ Hid (BigV wr R (N * 5 ^ (k - j))) ∧ Hid (Only R w wr)) (fun i _ => (intOf i).toNat)
  case atStart => exact ⟨k, Nat.le_refl _, rfl, H0, Only.refl _ _⟩
  case round =>
    obtain ⟨j, hj, rfl, hM, hO⟩ := hrel
    by_cases c : 27 ≤ j
    · have hv : N * 5 ^ (k - j) * 7450580596923828125 + 0 = N * 5 ^ (k - (j - 27)) := by
        rw [Nat.add_zero, p5_27, Nat.mul_assoc, ← Nat.pow_add]; congr 2; omega
      have MA := mulAdd_V hM.out 7450580596923828125 0 (by decide) (by decide) (Or.inl (by decide)) (by rw [hv]; exact Hle.out _ (by omega))
      rw [hv] at MA
      have HMA : Hid _ := fun (_ : Unit) => MA
      obtain ⟨i, hi⟩ : ∃ i, i = j - 27 := ⟨_, rfl⟩
      rw [← hi] at HMA
      have f1 : (j : Int) - 27 = (i : Int) := by omega
      have hij : i < j := by omega
      have hik : i ≤ k := by omega
      clear MA hv hi
      go_wp2_with (go_at_call 96; refine (HMA.out ()).mono ?_; rintro e w2 ⟨⟨v, rfl⟩, hB2, hO2⟩)
      go_roundw
      case rel => exact ⟨i, hik, rfl, hB2, hO.out.trans hO2⟩
      case measure => simp [intOf]; omega
    · go_wp2
      obtain ⟨wo, rfl⟩ : ∃ wo : World, wo = wr := ⟨_, rfl⟩
      go_loop [1, 4] (fun i p => ∃ t a : Nat, t ≤ j ∧ i = .int .i64 ((j - t : Nat) : Int) ∧ p = .int .u64 a ∧ a < 7450580596923828125 ∧ Hid (a = 5 ^ t)) (fun i _ => (intOf i).toNat)
      case atStart => exact ⟨0, 1, Nat.zero_le _, by simp, rfl, by decide, rfl⟩
      case round =>
        obtain ⟨t, a, ht, rfl, rfl, ha, hv⟩ := hrel
        obtain ⟨r, hr⟩ : ∃ r, r = j - t := ⟨_, rfl⟩
        rw [← hr]
        by_cases d : 0 < r
        · have ha2 : a * 5 < 7450580596923828125 := by
            have : 5 ^ (t + 1) ≤ 5 ^ 26 := Nat.pow_le_pow_right (by decide) (by omega)
            rw [Nat.pow_succ, ← hv.out] at this
            have h2 : (5 : Nat) ^ 26 = 1490116119384765625 := by decide
            omega
          have hv2 : Hid (a * 5 = 5 ^ (t + 1)) := by show _ = _; rw [Nat.pow_succ, hv.out]
          clear hv
          go_wp2
          go_round
          case rel => exact ⟨t + 1, a * 5, by omega, by congr 1; omega, by go_num, ha2, hv2⟩
          case measure => simp [intOf]; omega
        · have htj : t = j := by omega
          have hr0 : r = 0 := by omega
          have hv9 : N * 5 ^ (k - j) * a + 0 = N * 5 ^ k := by rw [Nat.add_zero, hv.out, htj, Nat.mul_assoc, ← Nat.pow_add]; congr 2; omega
          have ha1 : 1 ≤ a := by rw [hv.out]; exact Nat.pow_pos (by decide)
          have MA := mulAdd_V hM.out a 0 (by omega) (by decide) (Or.inl ha1) (by rw [hv9]; exact Hfit.out)
          rw [hv9] at MA
          have HMA : Hid _ := fun (_ : Unit) => MA
          subst hr0
          clear MA hv9 hv hr d htj
          go_wp2_with (go_at_call 96; refine (HMA.out ()).mono ?_; rintro e w2 ⟨⟨v, rfl⟩, hB2, hO2⟩)
          go_end0
          exact ⟨⟨_, rfl⟩, hB2, hO.out.trans hO2⟩
end Go.Proofs.Ygcoaf
