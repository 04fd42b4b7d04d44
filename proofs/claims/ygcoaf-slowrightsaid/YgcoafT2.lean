/-
  slow.big.mulAdd.
-/
import Derived.Test.YgcoafT1
namespace Go.Proofs.Ygcoaf
open Go.RowKit Go.Proofs.Ygcoaf.M

theorem two_sum (a b c : Nat) (ha : a < 18446744073709551616) (hb : b < 18446744073709551616) (hc : c < 18446744073709551616) : a * b + c < 340282366920938463463374607431768211456 := by
  have : a * b ≤ 18446744073709551615 * 18446744073709551615 := Nat.mul_le_mul (by omega) (by omega)
  omega

set_option maxRecDepth 8000 in
set_option maxHeartbeats 2000000 in
/-- slow.big.mulAdd -/
theorem mulAdd_any {w : World} {R n : Nat} {ws : List Nat} (b : Big w R n ws) (m c0 : Nat) (hm : m < 18446744073709551616) (hc0 : c0 < 18446744073709551616) (hhi : ∀ i, n ≤ i → ws.getD i 0 = 0) (hfit : lw ws * m + c0 < 18446744073709551616 ^ 52) :
    Calls Oafg.prog 96 #[.pointer (some ⟨R, 0, none⟩), .int .u64 m, .int .u64 c0] w fun e w' => (∃ v, e = .returned v) ∧ ∃ n' ws', Big w' R n' ws' ∧ lw ws' = lw ws * m + c0 ∧ (∀ i, n' ≤ i → ws'.getD i 0 = 0) ∧ (n' = n ∨ (n' = n + 1 ∧ ws'.getD n 0 ≠ 0)) ∧ Only R w w' := by
  have hn52 := b.n52
  have H0 : Hid (MA w w R n ws m c0 0 c0) := ⟨ws, b, rfl, by simp [lw], Only.refl _ _⟩
  have Hhi : Hid _ := hhi
  have Hfit : Hid _ := hfit
  have hRw := b.in
  have hlen := b.len
  clear b hhi hfit
  go_enter Oafg.func96, Oafg.ntmps96
  go_wp2
  go_loopw [6, 2] (fun i c wr => ∃ k cy : Nat, k ≤ n ∧ cy < 18446744073709551616 ∧ i = .int .i64 k ∧ c = .int .u64 cy ∧ Hid (MA w wr R n ws m c0 k cy)) (fun i _ _ => n - (intOf i).toNat)
  case atStart => exact ⟨0, c0, Nat.zero_le _, hc0, rfl, rfl, H0⟩
  case round =>
    obtain ⟨k, cy, hk, hcy, rfl, rfl, hM⟩ := hrel
    obtain ⟨x, hx, hcx, hnext⟩ : ∃ x : Nat, x < 18446744073709551616 ∧ (k < 52 → wr.cell? ⟨R, 1 + k, none⟩ = some (.int .u64 x)) ∧ (k < 52 → ∀ w', (∀ vs, Big wr R n vs → Big w' R n vs) → Only R w w' → ∀ lo hi', lo < 18446744073709551616 → lo + 18446744073709551616 * hi' = x * m + cy → MA w (w'.setCell ⟨R, 1 + k, none⟩ (.int .u64 lo)) R n ws m c0 (k + 1) hi') := by
      by_cases h52 : k < 52
      · obtain ⟨x, h1, h2, h3⟩ := hM.out.step h52
        exact ⟨x, h1, fun _ => h2, fun _ => h3⟩
      · exact ⟨0, by decide, fun h => absurd h h52, fun h => absurd h h52⟩
    obtain ⟨vs0, hB0, hdr, hval, hO0⟩ := hM.out.out
    have cn := hB0.cn
    by_cases c : k < n
    · have hcx' := hcx (by omega)
      have hlt := hB0.in
      have T1 : Hid _ := fun (_ : Unit) => mul64_any x m hx hm wr
      go_upto_region 5 with (first
        | (go_at_call 155; refine (T1.out ()).mono ?_; rintro e w2 ⟨⟨h, l, rfl, htwo, hh, hl⟩, hb2⟩)
        | (go_at_call 156; refine (wadd_any h l 0 cy hl hcy _).mono ?_; rintro e w3 ⟨⟨H, L, bb, rfl, hsum, hH, hL⟩, hb3⟩; obtain ⟨p0, p1, p2, p3⟩ := kept2 hb3))
      have hPR : w2.heap.size ≠ R := by have := hb2.size; omega
      have hPw : w.heap.size ≤ w2.heap.size := Nat.le_trans hO0.size hb2.size
      have hbb : Below wr.heap.size wr w3 := bt hb2 (below1 hb3)
      have hBig : ∀ vs, Big wr R n vs → Big ((w3.setCell ⟨w2.heap.size, 0, none⟩ (.int .u64 H)).setCell ⟨w2.heap.size, 1, none⟩ (.int .u64 L)) R n vs := fun vs b => ((b.call hbb).far _ _ _ hPR).far _ _ _ hPR
      have hOn : Only R w ((w3.setCell ⟨w2.heap.size, 0, none⟩ (.int .u64 H)).setCell ⟨w2.heap.size, 1, none⟩ (.int .u64 L)) := ((hO0.call hbb).new _ _ _ hPw).new _ _ _ hPw
      have hNx := hnext (by omega) _ hBig hOn L H hL (by
        have e : two H L = x * m + cy := by
          rw [hsum, htwo]
          have : two 0 cy = cy := by simp [two]
          rw [this]
          exact Nat.mod_eq_of_lt (two_sum x m cy hx hm hcy)
        rw [← e]; unfold two; omega)
      obtain ⟨x5, hx5, hlx5, hcx5, hfx5⟩ := (hBig vs0 hB0).get k (by omega)
      have z0 : ((w3.setCell ⟨w2.heap.size, 0, none⟩ (.int .u64 H)).setCell ⟨w2.heap.size, 1, none⟩ (.int .u64 L)).cell? ⟨w2.heap.size, 0, none⟩ = some (.int .u64 H) := by
        rw [World.cell?_setCell_other (h := fun h => absurd (congrArg Addr.off h) (by show ¬ ((1 : Nat) = 0); decide)), World.cell?_setCell_same _ _ _ p0]
      have z1 : ((w3.setCell ⟨w2.heap.size, 0, none⟩ (.int .u64 H)).setCell ⟨w2.heap.size, 1, none⟩ (.int .u64 L)).cell? ⟨w2.heap.size, 1, none⟩ = some (.int .u64 L) := by
        have p1' : (w3.setCell ⟨w2.heap.size, 0, none⟩ (.int .u64 H)).cell? ⟨w2.heap.size, 1, none⟩ = some (.int .u64 l) := by
          rw [World.cell?_setCell_other (h := fun h => absurd (congrArg Addr.off h) (by show ¬ ((0 : Nat) = 1); decide))]; exact p1
        exact World.cell?_setCell_same _ _ _ p1'
      generalize hW : ((w3.setCell ⟨w2.heap.size, 0, none⟩ (.int .u64 H)).setCell ⟨w2.heap.size, 1, none⟩ (.int .u64 L)) = W5 at *
      obtain ⟨P, hP⟩ : ∃ P, P = w2.heap.size := ⟨_, rfl⟩
      rw [← hP] at z0 z1 hPR
      simp only [← hP]
      have HNX : Hid _ := hNx
      clear hNx hBig hOn hnext hM hW hbb hP p0 p1 p2 p3 hsum htwo hb2 hb3 hdr hval hB0 hO0 cn hcx' hx5 T1 hPw
      have z2 : (W5.setCell ⟨R, 1 + k, none⟩ (.int .u64 L)).cell? ⟨P, 0, none⟩ = some (.int .u64 H) := by rw [World.cell?_setCell_far _ _ _ _ (fun h => hPR h.symm)]; exact z0
      have hk52 : (k : Int) < 52 := by omega
      have hk0 : (0 : Int) ≤ (k : Int) := by omega
      go_region
      all_goals
        go_wp2
        go_roundw
        case rel => exact ⟨k + 1, H, by omega, hH, by go_num, rfl, HNX.out.call ((Below.refl _ _).drew)⟩
        case measure => simp [intOf]; omega
    · obtain rfl : k = n := by omega
      obtain ⟨vs, hB, hz, hv, hO⟩ := hM.out.done Hhi.out
      by_cases hc : cy = 0
      · subst hc
        have HH : Hid (∃ n' ws', Big wr R n' ws' ∧ lw ws' = lw ws * m + c0 ∧ (∀ i, n' ≤ i → ws'.getD i 0 = 0) ∧ (n' = k ∨ (n' = k + 1 ∧ ws'.getD k 0 ≠ 0)) ∧ Only R w wr) := ⟨k, vs, hB, by rw [← hv]; simp, hz, Or.inl rfl, hO⟩
        clear hB hz hv hO hM hcx hnext hB0 hdr hval hO0
        go_wp2
        go_end0
        exact ⟨⟨_, rfl⟩, HH.out⟩
      · have tc : ((cy : Int) == 0) = false := by rw [beq_eq_false_iff_ne]; omega
        have tb : ((cy : Int) != 0) = true := by rw [bne, tc]; rfl
        have hk52 : k < 52 := by
          by_cases h : k < 52
          · exact h
          · exfalso
            obtain rfl : k = 52 := by omega
            have h9 := Hfit.out
            rw [← hv] at h9
            have : 18446744073709551616 ^ 52 * 1 ≤ 18446744073709551616 ^ 52 * cy := Nat.mul_le_mul_left _ (by omega)
            omega
        obtain ⟨x5, hx5, hlx5, hcx5, hfx5⟩ := hB.get k hk52
        have cn0 := hB.cn
        have fn0 := hB.fz 0
        have hB2 := (hB.limb k cy hk52 hcy).count (k + 1) (by omega)
        have HH : Hid (Big ((wr.setCell ⟨R, 1 + k, none⟩ (.int .u64 cy)).setCell ⟨R, 0, none⟩ (.int .i64 ((k + 1 : Nat) : Int))) R (k + 1) (vs.set k cy) ∧ lw (vs.set k cy) = lw ws * m + c0 ∧ (∀ i, k + 1 ≤ i → (vs.set k cy).getD i 0 = 0) ∧ Only R w wr) :=
          ⟨hB2, by rw [lw_set6 _ _ _ (by rw [hB.len]; exact hk52) hz]; exact hv, fun i hi => by rw [getD_set_ne _ _ _ _ (by omega)]; exact hz i (by omega), hO⟩
        have hgk : Hid ((vs.set k cy).getD k 0 ≠ 0) := by show _ ≠ _; rw [getD_set_eq _ _ _ (by rw [hB.len]; exact hk52)]; exact hc
        have z2 : (wr.setCell ⟨R, 1 + k, none⟩ (.int .u64 cy)).cell? ⟨R, 0, none⟩ = some (.int .i64 k) := by
          rw [World.cell?_setCell_other (h := fun h => absurd (congrArg Addr.off h) (by show ¬ (1 + k = 0); omega))]; exact cn0
        have hk0 : (0 : Int) ≤ (k : Int) := by omega
        have hk5 : (k : Int) < 52 := by omega
        clear hB hz hv hO hM hcx hnext hB0 hdr hval hO0 hB2 hx5 cn
        go_wp2
        go_region
        all_goals
          go_wp2
          go_end0
          refine ⟨⟨_, rfl⟩, k + 1, vs.set k cy, ?_, HH.out.2.1, HH.out.2.2.1, Or.inr ⟨rfl, hgk.out⟩, ?_⟩
          · have h9 := HH.out.1.call ((Below.refl _ _).drew)
            simpa using h9
          · have h9 := ((HH.out.2.2.2.setCell (1 + k) (.int .u64 cy)).setCell 0 (.int .i64 ((k + 1 : Nat) : Int))).drew
            simpa using h9
end Go.Proofs.Ygcoaf
