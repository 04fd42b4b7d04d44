/-
  law.ClingerRight.
-/
import Derived.Test.YgcoafY4
namespace Go.Proofs.Ygcoaf
open Go.RowKit Go.Proofs.Ygcoaf.M

set_option maxRecDepth 8000 in
set_option maxHeartbeats 4000000 in
/-- law.ClingerRight -/
theorem clingerRight_walk (E M man : Nat) (q : Int) (hman : man < 18446744073709551616) (hq : -32768 ≤ q ∧ q ≤ 32767) (w : World) :
    Calls Oafg.prog 10 #[.agg #[.int .u8 E, .int .u8 M], .int .u64 man, .int .i16 q] w fun r w' => r = .returned (.bool true) ∧ Below w.heap.size w w' := by
  obtain ⟨bb, hbb⟩ : ∃ bb, bb = (serv64 E M man q || serv32 E M man q) := ⟨_, rfl⟩
  obtain ⟨V, hV⟩ : ∃ V, V = cliV E M man q := ⟨_, rfl⟩
  have HCL : Hid _ := fun ww => clinger_any E M man q hman hq ww
  have HSV : Hid _ := fun ww => serves_any E M man q hman ww
  rw [← hbb, ← hV] at HCL
  rw [← hbb] at HSV
  unfold cliV at hV
  cases bb
  case false =>
    have hz : V = 0 := by
      rw [hV, if_neg]
      intro c
      have := hbb.symm
      simp at this
      rcases c with c | c
      · rw [this.1] at c; exact absurd c (by decide)
      · rw [this.2] at c; exact absurd c (by decide)
    subst hz
    clear hV hbb
    go_enter Oafg.func10, Oafg.ntmps10
    go_wp2_with (first
      | (go_at_call 46; refine (HCL.out _).mono ?_; rintro e w1 ⟨rfl, hb1⟩; obtain ⟨hc1, hf1⟩ := bcell hb1)
      | (go_at_call 47; refine (HSV.out _).mono ?_; rintro e w2 ⟨rfl, hb2⟩))
    go_ret
    exact ⟨rfl, bt (below1 hb1) hb2⟩
  case true =>
    have hb : serv64 E M man q = true ∨ serv32 E M man q = true := by have := hbb.symm; simpa using this
    have hfm : 2 ≤ E ∧ E ≤ 11 ∧ 2 ≤ M ∧ M ≤ 52 ∧ -22 ≤ q ∧ q ≤ 22 := by
      rcases hb with c | c
      · unfold serv64 at c; simp at c; omega
      · unfold serv32 at c; simp at c; omega
    obtain ⟨h1, h2, h3, h4, q1, q2⟩ := hfm
    rw [if_pos hb] at hV
    have HDC : Hid _ := fun ww => decimal_nat (w := ww) man hman q (by omega) (by omega)
    have g1 : ∀ j : Nat, j ≤ 22 → bl (10 ^ j) ≤ 100 := fun j hj => by
      refine Nat.le_trans (bl_le _ (4 * j + 1) ?_) (by omega)
      have : 10 ^ j ≤ 16 ^ j := Nat.pow_le_pow_left (by decide) j
      rw [show 16 = 2 ^ 4 from by decide, ← Nat.pow_mul] at this
      have h2 : 2 ^ (4 * j) < 2 ^ (4 * j + 1) := Nat.pow_lt_pow_right (by decide) (by omega)
      omega
    have gA : bl (man * 10 ^ q.toNat) ≤ 700000 := by
      have a := bl_mul man (10 ^ q.toNat)
      have b := bl_le man 64 (by simpa using hman)
      have c := g1 q.toNat (by omega)
      omega
    have gB : bl (10 ^ (-q).toNat) ≤ 700000 := by have c := g1 (-q).toNat (by omega); omega
    have HRD : Hid (∀ ww (v1 v2 : Value), NatV ww v1 (man * 10 ^ q.toNat) → NatV ww v2 (10 ^ (-q).toNat) → Calls Oafg.prog 48 #[.agg #[.int .u8 E, .int .u8 M], .int .u8 0, .agg #[.bool false, v1, v2]] ww fun r w' => r = .returned (.int .u64 V) ∧ Below ww.heap.size ww w') := fun ww v1 v2 n1 n2 => by
      rw [hV]; exact round_yes h1 h2 h3 h4 0 (by decide) false n1 n2 gA gB (ten_ne _)
    clear hV hbb hb g1 gA gB
    generalize man * 10 ^ q.toNat = X at *
    generalize 10 ^ (-q).toNat = Y at *
    go_enter Oafg.func10, Oafg.ntmps10
    go_upto_region 4 with (first
      | (go_at_call 46; refine (HCL.out _).mono ?_; rintro e w1 ⟨rfl, hb1⟩; obtain ⟨hc1, hf1⟩ := bcell hb1)
      | (go_at_call 47; refine (HSV.out _).mono ?_; rintro e w2 ⟨rfl, hb2⟩))
    have hFC : FC w w.heap.size E M w2 := by
      have h0 : FC w w.heap.size E M (w.alloc (.cells #[.int .u8 E, .int .u8 M] 27)) := ⟨self1, by simp [go_sem], by simp [go_sem]⟩
      exact (h0.call hb1).call hb2
    have c0 := hFC.cE
    have c1 := hFC.cM
    have hlt := World.block_lt_of_cell? _ _ c0
    simp only at hlt
    have hbel : Hid _ := hFC.below
    clear hFC hc1 hf1 hb1 hb2 HCL HSV
    obtain ⟨R, hR⟩ : ∃ R, R = w.heap.size := ⟨_, rfl⟩
    rw [← hR] at c0 c1 hlt
    simp only [← hR]
    clear hR
    have fq : IntKind.i64.wrap q = q := by rw [wrap_i64']; omega
    have tV : ((V : Int) == (V : Int)) = true := by simp
    have hS0 : HB w2 w2 := HB.start
    have hcl := HB.cells (W := w2)
    go_region_held3 (fun w' => HB w2 w')
      (repeat' (first | with_reducible exact hSu | with_reducible exact hS0 | with_reducible apply HB.drew))
      (first
        | (go_at_call 49; refine (HDC.out _).mono ?_; rintro e w3 ⟨⟨v1, v2, rfl, hN1, hN2⟩, hbu⟩; have hSu := HB.call (by assumption) hbu; have HN1 : Hid _ := hN1; have HN2 : Hid _ := hN2; clear hN1 hN2)
        | (go_at_call 48; refine (HRD.out _ _ _ HN1.out HN2.out).mono ?_; rintro e w4 ⟨rfl, hbu⟩; have hSu := HB.call (by assumption) hbu))
    all_goals
      rename_i hH
      go_wp2
      go_ret
      exact ⟨by simp, bt hbel.out hH⟩
end Go.Proofs.Ygcoaf
