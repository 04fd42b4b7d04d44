/-
  slow.big.less, isZero.
-/
import Derived.Test.YgcoafT6
namespace Go.Proofs.Ygcoaf
open Go.RowKit Go.Proofs.Ygcoaf.M

theorem lt_top {A B P x y : Nat} (hA : A < P) (hB : B < P) : (x < y → A + P * x < B + P * y) ∧ (y < x → ¬ A + P * x < B + P * y) ∧ (x = y → (A + P * x < B + P * y ↔ A < B)) := by
  refine ⟨fun h => ?_, fun h => ?_, fun h => ?_⟩
  · have : P * (x + 1) ≤ P * y := Nat.mul_le_mul_left _ h
    rw [Nat.mul_succ] at this; omega
  · have : P * (y + 1) ≤ P * x := Nat.mul_le_mul_left _ h
    rw [Nat.mul_succ] at this; omega
  · subst h; omega

set_option maxRecDepth 8000 in
set_option maxHeartbeats 1000000 in
/-- slow.big.less -/
theorem less_V {w : World} {R S N P : Nat} (b1 : BigV w R N) (b2 : BigV w S P) :
    Calls Oafg.prog 159 #[.pointer (some ⟨R, 0, none⟩), .pointer (some ⟨S, 0, none⟩)] w fun e w' => e = .returned (.bool (decide (N < P))) ∧ Below w.heap.size w w' := by
  obtain ⟨n, xs, hB1, hv1, hz1, _⟩ := b1.out
  obtain ⟨m, ys, hB2, hv2, hz2, _⟩ := b2.out
  have cn1 := hB1.cn
  have cn2 := hB2.cn
  have h521 := hB1.n52
  have h522 := hB2.n52
  obtain ⟨V, hV⟩ : ∃ V, V = decide (N < P) := ⟨_, rfl⟩
  rw [← hV]
  obtain ⟨mx, hmx⟩ : ∃ mx, mx = max n m := ⟨_, rfl⟩
  have H0 : Hid (V = decide (lw (xs.take mx) < lw (ys.take mx))) := by
    show _ = _
    rw [hV, ← hv1, ← hv2, lw_all xs mx (fun i hi => hz1 i (by omega)), lw_all ys mx (fun i hi => hz2 i (by omega))]
  have hmx52 : mx ≤ 52 := by omega
  have HB1 : Hid _ := hB1
  have HB2 : Hid _ := hB2
  have Hmx : Hid _ := hmx
  clear hB1 hB2 hv1 hv2 hz1 hz2 b1 b2 hV hmx
  go_enter Oafg.func159, Oafg.ntmps159
  go_wp2
  go_cut [5] (fun t w' => t = .int .i64 ((mx : Int) - 1) ∧ Below w.heap.size w w')
  case first =>
    by_cases hnm : n < m
    · go_quiet (fail)
      go_wp2_with fail
      all_goals
        go_meet
        case rel => exact ⟨by have := Hmx.out; congr 1; omega, below_dN (Below.refl _ _) _⟩
    · go_quiet (fail)
      go_wp2_with fail
      all_goals
        go_meet
        case rel => exact ⟨by have := Hmx.out; congr 1; omega, below_dN (Below.refl _ _) _⟩
  case rest =>
  obtain ⟨rfl, hb0⟩ := hcut
  clear cn1 cn2
  go_wp2
  go_loopw [5] (fun i wr => ∃ k : Nat, k ≤ mx ∧ i = .int .i64 ((k : Int) - 1) ∧ Hid (V = decide (lw (xs.take k) < lw (ys.take k))) ∧ Below w.heap.size w wr) (fun i _ => (intOf i + 1).toNat)
  case atStart => exact ⟨mx, Nat.le_refl _, rfl, H0, hb0⟩
  case round =>
    obtain ⟨k, hk, hi, hM, hb⟩ := hrel
    by_cases c : k = 0
    · subst c
      rw [show ((0 : Nat) : Int) - 1 = -1 from by decide] at hi
      subst hi
      have hans : V = false := by rw [hM.out]; simp [lw]
      subst hans
      clear hM H0
      go_wp2
      go_ret
      exact ⟨rfl, hb⟩
    · obtain ⟨j, rfl⟩ : ∃ j, k = j + 1 := ⟨k - 1, by omega⟩
      rw [show ((j + 1 : Nat) : Int) - 1 = (j : Int) from by omega] at hi
      subst hi
      obtain ⟨x, hx, hlx, hcx, _⟩ := (HB1.out.call hb).get j (by omega)
      obtain ⟨y, hy, hly, hcy, _⟩ := (HB2.out.call hb).get j (by omega)
      have ht := lt_top (x := x) (y := y) (lw_take_lt xs HB1.out.lim j (by rw [HB1.out.len]; omega)) (lw_take_lt ys HB2.out.lim j (by rw [HB2.out.len]; omega))
      have hM' := hM.out
      rw [lw_take_next, lw_take_next, ← hx, ← hy] at hM'
      have hj52 : (j : Int) < 52 := by omega
      have hj0 : (0 : Int) ≤ (j : Int) := by omega
      clear hM hx hy H0
      by_cases d1 : x < y
      · obtain rfl : V = true := by rw [hM', decide_eq_true_iff]; exact ht.1 d1
        have te : ((x : Int) == (y : Int)) = false := by rw [beq_eq_false_iff_ne]; omega
        clear hM' ht
        go_wp2
        go_quiet (fail)
        go_wp2
        go_quiet (fail)
        go_wp2
        go_ret
        exact ⟨by simp, by simpa using below_dN hb _⟩
      by_cases d2 : y < x
      · obtain rfl : V = false := by rw [hM', decide_eq_false_iff_not]; exact ht.2.1 d2
        have te : ((x : Int) == (y : Int)) = false := by rw [beq_eq_false_iff_ne]; omega
        clear hM' ht
        go_wp2
        go_quiet (fail)
        go_wp2
        go_quiet (fail)
        go_wp2
        go_ret
        exact ⟨by simp, by simpa using below_dN hb _⟩
      · have exy : x = y := by omega
        have hN : Hid (V = decide (lw (xs.take j) < lw (ys.take j))) := by show _ = _; rw [hM', decide_eq_decide]; exact ht.2.2 exy
        have te : ((x : Int) == (y : Int)) = true := by rw [beq_iff_eq]; omega
        clear hM' ht exy
        go_wp2
        go_quiet (fail)
        go_wp2
        go_roundw
        case rel => exact ⟨j, by omega, rfl, hN, below_dN hb _⟩
        case measure => simp [intOf]
end Go.Proofs.Ygcoaf
