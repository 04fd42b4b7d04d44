/-
  tab.Build, the walk.
-/
import Derived.Test.YgcoafL8
namespace Go.Proofs.Ygcoaf
open Go.RowKit Go.Proofs.Ygcoaf.M

theorem fiv_neg (q : Nat) : fiv (-(q : Int)) = 5 ^ q := by unfold fiv; congr 1; omega
theorem fiv_nat (q : Nat) : fiv (q : Int) = 5 ^ q := by unfold fiv; congr 1

theorem wrap16_in (x : Int) (h1 : -32768 ≤ x) (h2 : x ≤ 32767) : IntKind.i16.wrap x = x := by
  rw [wrap_i16]
  omega

set_option maxRecDepth 8000 in
set_option maxHeartbeats 4000000 in
/-- tab.Build: a table, whatever its entries -/
theorem build_any (w : World) : Calls Oafg.prog 51 #[] w fun e w' => (∃ R, e = .returned (.pointer (some ⟨R, 0, none⟩)) ∧ TB w' R ∧ w.heap.size ≤ R) ∧ Below w.heap.size w w' := by
  have HT0 : Hid _ := TB.new w Oafg.zeroCells115 zc115
  have HF1 : Hid _ := fun ww => fromU64_any 1 (by decide) ww
  have HF5 : Hid _ := fun ww => fromU64_any 5 (by decide) ww
  go_enter Oafg.func51, Oafg.ntmps51
  go_upto_region 3 with (first
    | (go_at_call_of 86 (Value.int .u64 1); refine (HF1.out _).mono ?_; rintro e w2 ⟨⟨v2, rfl, hN2⟩, hb2⟩; obtain ⟨x2, y2, z2, rfl⟩ := hN2.sl; have HN2 : Hid _ := hN2; have HB2 : Hid _ := hb2; clear hN2 hb2)
    | (go_at_call_of 86 (Value.int .u64 5); refine (HF5.out _).mono ?_; rintro e w3 ⟨⟨v3, rfl, hN3⟩, hb3⟩; obtain ⟨x3, y3, z3, rfl⟩ := hN3.sl; have HN3 : Hid _ := hN3; have HB3 : Hid _ := hb3; clear hN3 hb3))
  obtain ⟨R, hR⟩ : ∃ R, R = w.heap.size := ⟨_, rfl⟩
  have H0 : Hid (BS w R (.slice x3 y3 z3) (.slice x2 y2 z2) 0 w3) := by
    have t3 := (HT0.out.call HB2.out).call HB3.out
    rw [hR]
    exact ⟨below1 (bt HB2.out HB3.out), Nat.le_refl _, t3, HN3.out, by simpa using HN2.out.call HB3.out⟩
  simp only [← hR]
  clear HT0 HF1 HF5 HN2 HB2 HN3 HB3 hR
  go_wp2
  go_loopw [2, 4] (fun p i wr => ∃ q : Nat, q ≤ 349 ∧ i = .int .i16 q ∧ ∃ a b c, p = .slice a b c ∧ Hid (BS w R (.slice x3 y3 z3) (.slice a b c) q wr)) (fun _ i _ => (349 - (intOf i).toNat))
  case atStart => exact ⟨0, by decide, rfl, _, _, _, rfl, H0⟩
  case round =>
    obtain ⟨q, hq, rfl, a, b, c, rfl, hS⟩ := hrel
    by_cases cq : q < 349
    · obtain ⟨j, hj⟩ : ∃ j : Nat, (348 : Int) - (q : Int) = (j : Int) := ⟨348 - q, by omega⟩
      have hj1 : j < 696 := by omega
      have hj2 : (0 : Int) ≤ (j : Int) := by omega
      have hj3 : (j : Int) < 696 := by omega
      have hwj : IntKind.i16.wrap (j : Int) = (j : Int) := wrap16_in _ (by omega) (by omega)
      obtain ⟨nq, hnq⟩ : ∃ nq : Int, -(q : Int) = nq := ⟨_, rfl⟩
      have hnqb : -348 ≤ nq ∧ nq ≤ 0 := by omega
      have hwn : IntKind.i16.wrap nq = nq := wrap16_in nq (by omega) (by omega)
      have hE := ent_hl (q := nq) (by omega) (by omega)
      have hX := (ent_is nq (by omega) (by omega)).xb
      have HEN : Hid (∀ w', BS w R (.slice x3 y3 z3) (.slice a b c) q w' → Calls Oafg.prog 90 #[.slice a b c, .int .i16 nq] w' fun e w2 => e = .returned (.tuple #[.agg #[.int .u64 (entH nq : Nat), .int .u64 (entL nq : Nat)], .int .i16 (entX nq)]) ∧ Below w'.heap.size w' w2) := fun w' h =>
        entry_nat (by rw [← hnq, fiv_neg]; exact h.np) (by omega) (by omega)
      obtain ⟨EH, hEH⟩ : ∃ EH, EH = entH nq := ⟨_, rfl⟩
      obtain ⟨EL, hEL⟩ : ∃ EL, EL = entL nq := ⟨_, rfl⟩
      obtain ⟨EX, hEX⟩ : ∃ EX, EX = entX nq := ⟨_, rfl⟩
      rw [← hEH, ← hEL, ← hEX] at HEN
      rw [← hEH, ← hEL] at hE
      rw [← hEX] at hX
      have hEHb : EH < 18446744073709551616 := hE.2.2.1
      have hELb : EL < 18446744073709551616 := hE.2.2.2
      have hEXb : -32768 ≤ EX ∧ EX ≤ 32767 := by omega
      clear hEH hEL hEX hE hX
      go_upto_region 6 with fail
      go_cut [12] (fun _ w' => Hid (BS w R (.slice x3 y3 z3) (.slice a b c) q w'))
      case first =>
        have hS0 : BS w R (.slice x3 y3 z3) (.slice a b c) q wr := hS.out
        have g0 : ∀ w', BS w R (.slice x3 y3 z3) (.slice a b c) q w' → w'.cell? ⟨R, j * 2, none⟩ = some (cellv w' ⟨R, j * 2, none⟩) := fun _ h => cellv_some (by obtain ⟨_, _, e⟩ := h.tb.m0 j hj1; rw [e]; rfl)
        have g1 : ∀ w', BS w R (.slice x3 y3 z3) (.slice a b c) q w' → w'.cell? ⟨R, j * 2 + 1, none⟩ = some (cellv w' ⟨R, j * 2 + 1, none⟩) := fun _ h => cellv_some (by obtain ⟨_, _, e⟩ := h.tb.m1 j hj1; rw [e]; rfl)
        have g2 : ∀ w', BS w R (.slice x3 y3 z3) (.slice a b c) q w' → w'.cell? ⟨R, 1392 + j, none⟩ = some (cellv w' ⟨R, 1392 + j, none⟩) := fun _ h => cellv_some (by obtain ⟨_, _, e⟩ := h.tb.ex j hj1; rw [e]; rfl)
        have g3 : ∀ w', BS w R (.slice x3 y3 z3) (.slice a b c) q w' → ∀ i, w'.frozen? ⟨R, i, none⟩ = false := fun _ h i => h.tb.fz i
        go_region_held3 (fun w' => BS w R (.slice x3 y3 z3) (.slice a b c) q w')
          (repeat' (first | with_reducible exact hSu | with_reducible exact hS0 | with_reducible apply BS.drew | with_reducible exact BS.setM (by assumption) _ hj1 _ _ hEHb hELb | with_reducible exact BS.setX (by assumption) _ hj1 _ hEXb))
          ((go_at_call 90; refine (HEN.out _ (by assumption)).mono ?_; rintro e w2 ⟨rfl, hbu⟩; have hSu := BS.call (by assumption) hbu))
        all_goals
          rename_i hH
          go_wp2_with fail
          go_meet
          case rel => exact hH
      case rest =>
        have hS2 := hcut
        clear hcut hS HEN hEHb hELb hEXb hwj hj3 hj2 hj1 hj hwn hnqb hnq H0
        go_upto_if 32 with fail
        go_cut [33] (fun _ w' => Hid (BS w R (.slice x3 y3 z3) (.slice a b c) q w'))
        case first =>
          by_cases c7 : q ≤ 347
          · have c8 : (q : Int) ≤ 347 := by omega
            obtain ⟨j, hj⟩ : ∃ j : Nat, (348 : Int) + (q : Int) = (j : Int) := ⟨348 + q, by omega⟩
            have hj1 : j < 696 := by omega
            have hj2 : (0 : Int) ≤ (j : Int) := by omega
            have hj3 : (j : Int) < 696 := by omega
            have hwj : IntKind.i16.wrap (j : Int) = (j : Int) := wrap16_in _ (by omega) (by omega)
            have hE := ent_hl (q := (q : Int)) (by omega) (by omega)
            have hX := (ent_is (q : Int) (by omega) (by omega)).xb
            have HEN : Hid (∀ w', BS w R (.slice x3 y3 z3) (.slice a b c) q w' → Calls Oafg.prog 90 #[.slice a b c, .int .i16 q] w' fun e w2 => e = .returned (.tuple #[.agg #[.int .u64 (entH q : Nat), .int .u64 (entL q : Nat)], .int .i16 (entX q)]) ∧ Below w'.heap.size w' w2) := fun w' h =>
              entry_nat (by rw [fiv_nat]; exact h.np) (by omega) (by omega)
            obtain ⟨EH, hEH⟩ : ∃ EH, EH = entH q := ⟨_, rfl⟩
            obtain ⟨EL, hEL⟩ : ∃ EL, EL = entL q := ⟨_, rfl⟩
            obtain ⟨EX, hEX⟩ : ∃ EX, EX = entX q := ⟨_, rfl⟩
            rw [← hEH, ← hEL, ← hEX] at HEN
            rw [← hEH, ← hEL] at hE
            rw [← hEX] at hX
            have hEHb : EH < 18446744073709551616 := hE.2.2.1
            have hELb : EL < 18446744073709551616 := hE.2.2.2
            have hEXb : -32768 ≤ EX ∧ EX ≤ 32767 := by omega
            clear hEH hEL hEX hE hX c7
            go_upto_region 8 with fail
            have hS0 : BS w R (.slice x3 y3 z3) (.slice a b c) q wc := hS2.out
            have g0 : ∀ w', BS w R (.slice x3 y3 z3) (.slice a b c) q w' → w'.cell? ⟨R, j * 2, none⟩ = some (cellv w' ⟨R, j * 2, none⟩) := fun _ h => cellv_some (by obtain ⟨_, _, e⟩ := h.tb.m0 j hj1; rw [e]; rfl)
            have g1 : ∀ w', BS w R (.slice x3 y3 z3) (.slice a b c) q w' → w'.cell? ⟨R, j * 2 + 1, none⟩ = some (cellv w' ⟨R, j * 2 + 1, none⟩) := fun _ h => cellv_some (by obtain ⟨_, _, e⟩ := h.tb.m1 j hj1; rw [e]; rfl)
            have g2 : ∀ w', BS w R (.slice x3 y3 z3) (.slice a b c) q w' → w'.cell? ⟨R, 1392 + j, none⟩ = some (cellv w' ⟨R, 1392 + j, none⟩) := fun _ h => cellv_some (by obtain ⟨_, _, e⟩ := h.tb.ex j hj1; rw [e]; rfl)
            have g3 : ∀ w', BS w R (.slice x3 y3 z3) (.slice a b c) q w' → ∀ i, w'.frozen? ⟨R, i, none⟩ = false := fun _ h i => h.tb.fz i
            go_region_held3 (fun w' => BS w R (.slice x3 y3 z3) (.slice a b c) q w')
              (repeat' (first | with_reducible exact hSu | with_reducible exact hS0 | with_reducible apply BS.drew | with_reducible exact BS.setM (by assumption) _ hj1 _ _ hEHb hELb | with_reducible exact BS.setX (by assumption) _ hj1 _ hEXb))
              ((go_at_call 90; refine (HEN.out _ (by assumption)).mono ?_; rintro e w2 ⟨rfl, hbu⟩; have hSu := BS.call (by assumption) hbu))
            all_goals
              rename_i hH
              go_wp2_with fail
              go_meet
              case rel => exact hH
          · have c8 : ¬ (q : Int) ≤ 347 := by omega
            go_wp2_with fail
            go_meet
            case rel => exact hS2
        case rest =>
          have hS3 := hcut
          clear hcut hS2
          have HML : Hid (∀ w', BS w R (.slice x3 y3 z3) (.slice a b c) q w' → Calls Oafg.prog 91 #[.slice a b c, .slice x3 y3 z3] w' fun e w2 => (∃ v, e = .returned v ∧ NatV w2 v (5 ^ (q + 1))) ∧ Below w'.heap.size w' w2) := fun w' h => by
            rw [Nat.pow_succ]
            exact mul_nat h.np h.n5 (by have := bl_pow5 q; omega) (by decide)
          go_wp2_with (go_at_call 91; refine (HML.out _ hS3.out).mono ?_; rintro e w5 ⟨⟨v5, rfl, hN5⟩, hb5⟩; obtain ⟨xa, xb, xc, rfl⟩ := hN5.sl; have HN5 : Hid _ := hN5; have HS5 : Hid _ := hS3.out.call hb5; clear hN5 hb5)
          go_roundw
          case rel => exact ⟨q + 1, by omega, by go_num, _, _, _, rfl, ⟨HS5.out.below, HS5.out.old, HS5.out.tb, HS5.out.n5, HN5.out⟩⟩
          case measure => simp [intOf]; omega
    · obtain rfl : q = 349 := by omega
      go_wp2
      go_ret
      exact ⟨⟨R, rfl, hS.out.tb, hS.out.old⟩, hS.out.below⟩
end Go.Proofs.Ygcoaf
