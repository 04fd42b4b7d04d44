/-
  slow.big.add.
-/
import Derived.Test.YgcoafT8
namespace Go.Proofs.Ygcoaf
open Go.RowKit Go.Proofs.Ygcoaf.M

/-- what add's loop holds -/
structure AI (w wr : World) (R n : Nat) (xs ys : List Nat) (i b : Nat) : Prop where
  out : ∃ vs, Big wr R n vs ∧ vs.drop i = xs.drop i ∧ lw (vs.take i) + 18446744073709551616 ^ i * b = lw (xs.take i) + lw (ys.take i) ∧ Only R w wr
theorem AI.step {w wr : World} {R n : Nat} {xs ys : List Nat} {i b : Nat} (o : AI w wr R n xs ys i b) (hi : i < 52) :
    ∃ x : Nat, x < 18446744073709551616 ∧ wr.cell? ⟨R, 1 + i, none⟩ = some (.int .u64 x) ∧
      ∀ w', (∀ vs, Big wr R n vs → Big w' R n vs) → Only R w w' → ∀ lo b', lo < 18446744073709551616 → lo + 18446744073709551616 * b' = x + b + ys.getD i 0 → AI w (w'.setCell ⟨R, 1 + i, none⟩ (.int .u64 lo)) R n xs ys (i + 1) b' := by
  obtain ⟨vs, h1, h2, h3, h4⟩ := o.out
  obtain ⟨x, hx, hlt, hcell, hfz⟩ := h1.get i hi
  have hxi : xs.getD i 0 = x := by
    have e : (vs.drop i).getD 0 0 = (xs.drop i).getD 0 0 := by rw [h2]
    simp only [List.getD_eq_getElem?_getD, List.getElem?_drop, Nat.add_zero] at e
    rw [hx, List.getD_eq_getElem?_getD, List.getD_eq_getElem?_getD, e]
  refine ⟨x, hlt, hcell, fun w' hB hO lo b' hlo he => ⟨vs.set i lo, (hB vs h1).limb i lo hi hlo, ?_, ?_, hO.setCell _ _⟩⟩
  · rw [drop_set_lt, ← List.drop_drop (i := 1), h2, List.drop_drop]
  · rw [lw_take_next, take_set, getD_set_eq _ _ _ (by rw [h1.len]; exact hi), lw_take_next xs i, hxi, lw_take_next ys i, Nat.pow_succ]
    generalize lw (vs.take i) = L at *
    generalize lw (xs.take i) = X at *
    generalize lw (ys.take i) = Y at *
    generalize ys.getD i 0 = y at *
    generalize 18446744073709551616 ^ i = P at *
    clear h1 h2 h4 hB hO hcell hfz hx hxi o
    grind
theorem AI.done {w wr : World} {R n : Nat} {xs ys : List Nat} {b : Nat} (o : AI w wr R n xs ys 52 b) (hx : xs.length = 52) (hy : ys.length = 52) :
    ∃ vs, Big wr R n vs ∧ lw vs + 18446744073709551616 ^ 52 * b = lw xs + lw ys ∧ Only R w wr := by
  obtain ⟨vs, h1, h2, h3, h4⟩ := o.out
  rw [List.take_of_length_le (by rw [h1.len]; omega), List.take_of_length_le (by omega), List.take_of_length_le (by omega)] at h3
  exact ⟨vs, h1, h3, h4⟩

/-- the round's own struct -/
structure AP (wr W : World) (P h l : Nat) : Prop where
  bel : Below wr.heap.size wr W
  old : wr.heap.size ≤ P
  c0 : W.cell? ⟨P, 0, none⟩ = some (.int .u64 h)
  c1 : W.cell? ⟨P, 1, none⟩ = some (.int .u64 l)
  f0 : W.frozen? ⟨P, 0, none⟩ = false
  f1 : W.frozen? ⟨P, 1, none⟩ = false
theorem AP.put {wr W : World} {P h l : Nat} (a : AP wr W P h l) (H L : Nat) : AP wr ((W.setCell ⟨P, 0, none⟩ (.int .u64 H)).setCell ⟨P, 1, none⟩ (.int .u64 L)) P H L := by
  refine ⟨below_set2 _ _ a.bel a.old, a.old, ?_, ?_, by rw [World.frozen?_setCell, World.frozen?_setCell]; exact a.f0, by rw [World.frozen?_setCell, World.frozen?_setCell]; exact a.f1⟩
  · rw [World.cell?_setCell_other (h := fun h => absurd (congrArg Addr.off h) (by show ¬ ((1 : Nat) = 0); decide)), World.cell?_setCell_same _ _ _ a.c0]
  · have e : (W.setCell ⟨P, 0, none⟩ (.int .u64 H)).cell? ⟨P, 1, none⟩ = some (.int .u64 l) := by
      rw [World.cell?_setCell_other (h := fun h => absurd (congrArg Addr.off h) (by show ¬ ((0 : Nat) = 1); decide))]; exact a.c1
    exact World.cell?_setCell_same _ _ _ e
theorem AP.call {wr W w' : World} {P h l : Nat} (a : AP wr W P h l) (hb : Below W.heap.size W w') : AP wr w' P h l := by
  have lP : P < W.heap.size := World.block_lt_of_cell? _ _ a.c0
  obtain ⟨hc, hf⟩ := bcell hb
  exact ⟨bt a.bel hb, a.old, by rw [hc _ _ lP]; exact a.c0, by rw [hc _ _ lP]; exact a.c1, by rw [hf _ _ lP]; exact a.f0, by rw [hf _ _ lP]; exact a.f1⟩

set_option maxRecDepth 8000 in
set_option maxHeartbeats 2000000 in
/-- slow.big.add -/
theorem badd_any {w : World} {R S n m : Nat} {xs ys : List Nat} (b1 : Big w R n xs) (b2 : Big w S m ys) (hRS : R ≠ S) :
    Calls Oafg.prog 162 #[.pointer (some ⟨R, 0, none⟩), .pointer (some ⟨S, 0, none⟩)] w fun e w' => ∃ vs cb, e = .returned (.bool (decide (cb = 1))) ∧ cb ≤ 1 ∧ Big w' R n vs ∧ lw vs + 18446744073709551616 ^ 52 * cb = lw xs + lw ys ∧ Only R w w' := by
  have H0 : Hid (AI w w R n xs ys 0 0) := ⟨xs, b1, rfl, by simp [lw], Only.refl _ _⟩
  have hSw := b2.in
  have hl1 := b1.len
  have hl2 := b2.len
  have HB2 : Hid _ := b2
  clear b1 b2
  go_enter Oafg.func162, Oafg.ntmps162
  go_wp2
  go_loopw [6, 5] (fun i cy wr => ∃ k b : Nat, k ≤ 52 ∧ b ≤ 1 ∧ i = .int .i64 k ∧ cy = .bool (decide (b = 1)) ∧ Hid (AI w wr R n xs ys k b)) (fun i _ _ => 52 - (intOf i).toNat)
  case atStart => exact ⟨0, 0, by decide, by decide, rfl, rfl, H0⟩
  case round =>
    obtain ⟨k, b, hk, hb, rfl, rfl, hM⟩ := hrel
    obtain ⟨vs0, hB0, _, _, hO0⟩ := hM.out.out
    by_cases c52 : k < 52
    · obtain ⟨x, hlx, hcx, hnext⟩ := hM.out.step c52
      have hB2r : Big wr S m ys := by
        have hb2 := HB2.out
        exact ⟨by rw [hO0.cell (fun h => hRS h.symm) hSw]; exact hb2.cn, fun i hi => by rw [hO0.cell (fun h => hRS h.symm) hSw]; exact hb2.cw i hi, fun i => by rw [hO0.frozen (fun h => hRS h.symm) hSw]; exact hb2.fz i, hb2.len, hb2.lim, hb2.n52⟩
      obtain ⟨y, hy, hly, hcy, _⟩ := hB2r.get k c52
      rw [← hy] at hnext
      have hltR := hB0.in
      have hltS := hB2r.in
      have hk52 : (k : Int) < 52 := by omega
      have hk0 : (0 : Int) ≤ (k : Int) := by omega
      have Hnext : Hid _ := hnext
      have HB0 : Hid _ := hB0
      have HO0 : Hid _ := hO0
      have hAP0 : AP wr (wr.alloc (.cells #[.int .u64 0, .int .u64 x] 111)) wr.heap.size 0 x := by
        have ku := kept2 (w := wr) (u := .int .u64 0) (v := .int .u64 x) (t := 111) (Below.refl _ _)
        exact ⟨self1, Nat.le_refl _, ku.1, ku.2.1, ku.2.2.1, ku.2.2.2⟩
      have HAP0 : Hid _ := hAP0
      clear hM hnext hy H0 hB2r hB0 hO0 hAP0
      go_upto_if 19 with fail
      obtain ⟨bb, hbb⟩ : ∃ bb, bb = decide (b = 1) := ⟨_, rfl⟩
      simp only [← hbb]
      rcases (show b = 0 ∨ b = 1 by omega) with hb0 | hb0
      case' inl =>
        obtain rfl : bb = false := by rw [hbb, hb0]; rfl
        clear hbb
        go_upto_region 8 with fail
        have hAP := HAP0.out
        have h2 : two 0 x = x + b := by rw [hb0]; simp [two]
        generalize hW : wr.alloc (.cells #[.int .u64 0, .int .u64 x] 111) = W5 at hAP ⊢
        obtain ⟨P, hP⟩ : ∃ P, P = wr.heap.size := ⟨_, rfl⟩
        rw [← hP] at hAP
        simp only [← hP]
        obtain ⟨h0, hh0⟩ : ∃ h0 : Nat, h0 = 0 := ⟨_, rfl⟩
        rw [← hh0] at hAP h2
        obtain ⟨l0, hl0⟩ : ∃ l0, l0 = x := ⟨_, rfl⟩
        rw [← hl0] at hAP
        have hl0b : l0 < 18446744073709551616 := by omega
        have h2' : two h0 l0 = x + b := by rw [hl0]; exact h2
        clear h2 hh0 hl0 hW
      case' inr =>
        obtain rfl : bb = true := by rw [hbb, hb0]; rfl
        have WA1 : Hid _ := fun ww => wadd_any 0 x 0 1 hlx (by decide) ww
        have p0 := HAP0.out.c0
        have p1 := HAP0.out.c1
        clear hbb
        go_upto_region 8 with ((go_at_call 156; refine (WA1.out _).mono ?_; rintro e w2 ⟨⟨h0, l0, b9, rfl, hsum0, hh0b, hl0b⟩, hb2⟩; have hAQ := HAP0.out.call hb2; have q0 := hAQ.c0; have q1 := hAQ.c1; have q2 := hAQ.f0; have q3 := hAQ.f1))
        have hAP := hAQ.put h0 l0
        have h2' : two h0 l0 = x + b := by
          rw [hsum0, hb0]
          have e : two 0 x + two 0 1 = x + 1 := by simp [two]
          rw [e]; exact Nat.mod_eq_of_lt (by omega)
        generalize hW : ((w2.setCell ⟨wr.heap.size, 0, none⟩ (.int .u64 h0)).setCell ⟨wr.heap.size, 1, none⟩ (.int .u64 l0)) = W5 at hAP ⊢
        obtain ⟨P, hP⟩ : ∃ P, P = wr.heap.size := ⟨_, rfl⟩
        rw [← hP] at hAP
        simp only [← hP]
        clear hW hsum0 hAQ q0 q1 q2 q3 hb2 p0 p1 WA1
      all_goals
        have c0 := hAP.c0
        have c1 := hAP.c1
        have f0 := hAP.f0
        have f1 := hAP.f1
        have hcy5 : W5.cell? ⟨S, 1 + k, none⟩ = some (.int .u64 y) := by rw [hAP.bel.cell (p := ⟨S, 1 + k, none⟩) hltS]; exact hcy
        have hltP := World.block_lt_of_cell? _ _ c0
        have hltS5 := World.block_lt_of_cell? _ _ hcy5
        simp only at hltP hltS5
        have hPR : P ≠ R := by have := hAP.old; omega
        have WA : Hid _ := fun ww => wadd_any h0 l0 0 y hl0b hly ww
        have H2 : Hid _ := h2'
        have HAP : Hid _ := hAP
        clear HAP0 hP hcx hcy h2' hAP
        go_region_with ((go_at_call 156; refine (WA.out _).mono ?_; rintro e w3 ⟨⟨H, L, b8, rfl, hsum, hH, hL⟩, hb3⟩; have hAQ := (HAP.out.call ((Below.refl _ _).drew)).call hb3; have q0 := hAQ.c0; have q1 := hAQ.c1; have q2 := hAQ.f0; have q3 := hAQ.f1))
        all_goals
          have hAP6 := hAQ.put H L
          have hBig6 : ∀ vs, Big wr R n vs → Big ((w3.setCell ⟨P, 0, none⟩ (.int .u64 H)).setCell ⟨P, 1, none⟩ (.int .u64 L)) R n vs := fun vs bg => bg.call hAP6.bel
          have htw : L + 18446744073709551616 * H = x + b + y := by
            have e : two H L = x + b + y := by
              rw [hsum, H2.out]
              have : two 0 y = y := by simp [two]
              rw [this]; exact Nat.mod_eq_of_lt (by omega)
            rw [← e]; unfold two; omega
          have hnx := Hnext.out _ hBig6 (HO0.out.call hAP6.bel) L H hL htw
          obtain ⟨x5, _, _, hcx5, hfx5⟩ := (hBig6 vs0 HB0.out).get k c52
          have z0 := hAP6.c0
          have z1 := hAP6.c1
          have hH1 : H ≤ 1 := by omega
          generalize hW6 : ((w3.setCell ⟨P, 0, none⟩ (.int .u64 H)).setCell ⟨P, 1, none⟩ (.int .u64 L)) = W6 at *
          have z2 : (W6.setCell ⟨R, 1 + k, none⟩ (.int .u64 L)).cell? ⟨P, 0, none⟩ = some (.int .u64 H) := by rw [World.cell?_setCell_far _ _ _ _ (fun h => hPR h.symm)]; exact z0
          have HNX : Hid _ := hnx
          have tH : ((H : Int) != 0) = decide (H = 1) := by
            rcases (show H = 0 ∨ H = 1 by omega) with h9 | h9 <;> rw [h9] <;> rfl
          clear hnx hBig6 htw hsum hAQ q0 q1 q2 q3 hb3 hAP6 hW6 c0 c1 f0 f1 hcy5
          go_wp2
          go_region
          all_goals
            go_wp2
            go_roundw
            case rel => exact ⟨k + 1, H, by omega, hH1, by go_num, by first | rfl | rw [tH], by
              obtain ⟨vs9, j1, j2, j3, j4⟩ := HNX.out.out
              exact ⟨vs9, j1.call ((Below.refl _ _).drew), j2, j3, j4.drew⟩⟩
            case measure => simp [intOf]; omega
    · obtain rfl : k = 52 := by omega
      obtain ⟨vs, hB, hv, hO⟩ := hM.out.done hl1 hl2
      have HH : Hid (Big wr R n vs ∧ lw vs + 18446744073709551616 ^ 52 * b = lw xs + lw ys ∧ Only R w wr) := ⟨hB, hv, hO⟩
      clear hM hB hv hO hB0 hO0 H0
      go_wp2
      go_ret
      exact ⟨vs, b, rfl, hb, HH.out⟩
end Go.Proofs.Ygcoaf
