/-
  What slow.quotient holds; wide.Div where the quotient does not fit.
-/
import Derived.Test.YgcoafT11
import Derived.Test.YgcoafW16
namespace Go.Proofs.Ygcoaf
open Go.RowKit Go.Proofs.Ygcoaf.M

/-- wide.Div where the quotient does not fit -/
theorem div_no (h l d : Nat) (hd : d ≤ h) (w : World) :
    Calls Oafg.prog 160 #[.agg #[.int .u64 h, .int .u64 l], .int .u64 d] w fun e w' => e = .returned (.tuple #[.int .u64 0, .int .u64 0, .bool false]) ∧ Below w.heap.size w w' := by
  have d1 : decide ((d : Int) ≤ (h : Int)) = true := by simp; omega
  go_enter Oafg.func160, Oafg.ntmps160
  go_wp2
  exact bodyPost_ret (v := .tuple #[.int .u64 0, .int .u64 0, .bool false]) (by simp [results, Oafg.results160, go_sem]) rfl ⟨rfl, self1⟩

theorem bl_shift (n k : Nat) (h : n ≠ 0) : bl (n * 2 ^ k) = bl n + k := by
  have := bl_top n 0 k h (Nat.two_pow_pos _)
  rw [Nat.zero_add, Nat.mul_comm] at this; omega
theorem bl_same {a b : Nat} (h : bl a = bl b) (ha : a ≠ 0) : b < 2 * a := by
  have h1 := bl_lo a ha
  have h2 := bl_hi b
  rw [← h] at h2
  have h3 := bl_pos a ha
  rw [show bl a = (bl a - 1) + 1 from by omega, Nat.pow_succ] at h2
  omega

/-- two numbers behind pointers -/
structure QS (w wr : World) (R S X Y : Nat) : Prop where
  bel : Below w.heap.size w wr
  bx : BigV wr R X
  by' : BigV wr S Y
theorem BigV.only {w w1 : World} {R S N : Nat} (b : BigV w S N) (h : Only R w w1) (hne : S ≠ R) : BigV w1 S N := by
  obtain ⟨n, ws, hB, h2⟩ := b.out
  exact ⟨n, ws, ⟨by rw [h.cell hne hB.in]; exact hB.cn, fun i hi => by rw [h.cell hne hB.in]; exact hB.cw i hi, fun i => by rw [h.frozen hne hB.in]; exact hB.fz i, hB.len, hB.lim, hB.n52⟩, h2⟩
theorem Big.only {w w1 : World} {R S n : Nat} {ws : List Nat} (hB : Big w S n ws) (h : Only R w w1) (hne : S ≠ R) : Big w1 S n ws :=
  ⟨by rw [h.cell hne hB.in]; exact hB.cn, fun i hi => by rw [h.cell hne hB.in]; exact hB.cw i hi, fun i => by rw [h.frozen hne hB.in]; exact hB.fz i, hB.len, hB.lim, hB.n52⟩
theorem QS.call {w wr w' : World} {R S X Y : Nat} (q : QS w wr R S X Y) (h : Below wr.heap.size wr w') : QS w w' R S X Y := ⟨bt q.bel h, q.bx.call h, q.by'.call h⟩
theorem QS.onX {w wr w' : World} {R S X Y X' : Nat} (q : QS w wr R S X Y) (hne : R ≠ S) (hR : w.heap.size ≤ R) (b : BigV w' R X') (h : Only R wr w') : QS w w' R S X' Y := ⟨h.below q.bel hR, b, q.by'.only h (fun e => hne e.symm)⟩
theorem QS.onY {w wr w' : World} {R S X Y Y' : Nat} (q : QS w wr R S X Y) (hne : R ≠ S) (hS : w.heap.size ≤ S) (b : BigV w' S Y') (h : Only S wr w') : QS w w' R S X Y' := ⟨h.below q.bel hS, q.bx.only h hne, b⟩

/-- what fits into the limbs -/
theorem fit52 {N k m : Nat} (h : N < 2 ^ k) (hm : k + m ≤ 3328) : N * 2 ^ m < 18446744073709551616 ^ 52 := by
  obtain ⟨c, hc⟩ : ∃ c, c = 52 := ⟨_, rfl⟩
  rw [← hc, p64_pow]
  calc N * 2 ^ m < 2 ^ k * 2 ^ m := Nat.mul_lt_mul_of_pos_right h (Nat.two_pow_pos _)
    _ = 2 ^ (k + m) := by rw [Nat.pow_add]
    _ ≤ _ := two_pow_le (by omega)

/-- the guess out of the top limbs is never too small -/
theorem guess_ge {xs ys : List Nat} {n X Y q : Nat} (hx : Lim6 xs) (hxl : xs.length = 52) (hn : n + 1 ≤ 52) (hX : lw xs = X) (hY : lw ys = Y)
    (hz : ∀ i, n + 1 ≤ i → ys.getD i 0 = 0) (hlt : X < Y) (hyl : Lim6 ys) (hyn : ys.length = 52)
    (hq : (ys.getD n 0 ≤ xs.getD n 0 ∧ q = 18446744073709551615) ∨ (xs.getD n 0 < ys.getD n 0 ∧ q = (two (xs.getD n 0) (if n = 0 then 0 else xs.getD (n - 1) 0)) / ys.getD n 0)) :
    X * 18446744073709551616 < (q + 1) * Y := by
  rcases hq with ⟨_, rfl⟩ | ⟨hd, rfl⟩
  · rw [Nat.mul_comm]; exact Nat.mul_lt_mul_of_pos_left hlt (by decide)
  · obtain ⟨d, hdd⟩ : ∃ d, d = ys.getD n 0 := ⟨_, rfl⟩
    obtain ⟨h, hh⟩ : ∃ h, h = xs.getD n 0 := ⟨_, rfl⟩
    have hYb := (limbs_bd hyn hyl hn hY hz).1
    have hYlo : d * 18446744073709551616 ^ n ≤ Y := by
      rw [← hY, lw_all ys (n + 1) hz, lw_take_next, ← hdd, Nat.mul_comm d]; omega
    have hzx : lw (xs.take (n + 1)) = X := by
      -- the limbs above are zero, for X < Y < B^(n+1)
      have hsp : lw xs = lw (xs.take (n + 1)) + 18446744073709551616 ^ (n + 1) * lw (xs.drop (n + 1)) := by
        have := lw_append (xs.take (n + 1)) (xs.drop (n + 1))
        rw [List.take_append_drop, List.length_take, hxl, Nat.min_eq_left (by omega)] at this
        exact this
      rw [hX] at hsp
      by_cases z : lw (xs.drop (n + 1)) = 0
      · rw [z] at hsp; omega
      · exfalso
        have : 18446744073709551616 ^ (n + 1) * 1 ≤ 18446744073709551616 ^ (n + 1) * lw (xs.drop (n + 1)) := Nat.mul_le_mul_left _ (by omega)
        omega
    rw [← hdd, ← hh] at hd ⊢
    obtain ⟨t, ht⟩ : ∃ t, t = two h (if n = 0 then 0 else xs.getD (n - 1) 0) := ⟨_, rfl⟩
    rw [← ht]
    have hdiv : t + 1 ≤ (t / d + 1) * d := by
      have h1 := Nat.div_add_mod t d
      have h2 := Nat.mod_lt t (show d > 0 by omega)
      have h3 : (t / d + 1) * d = d * (t / d) + d := by rw [Nat.add_mul, Nat.mul_comm]; omega
      omega
    have hXB : X * 18446744073709551616 < (t + 1) * 18446744073709551616 ^ n := by
      rw [lw_take_next, ← hh] at hzx
      by_cases z : n = 0
      · subst z
        rw [ht, ← hzx]
        simp [lw, two]
      · obtain ⟨m, rfl⟩ : ∃ m, n = m + 1 := ⟨n - 1, by omega⟩
        rw [if_neg z, Nat.add_sub_cancel] at ht
        rw [lw_take_next] at hzx
        have hlow := lw_take_lt xs hx m (by omega)
        rw [ht, ← hzx]
        unfold two
        rw [Nat.pow_succ]
        generalize 18446744073709551616 ^ m = P at *
        generalize xs.getD m 0 = l at *
        generalize lw (xs.take m) = L at *
        grind
    calc X * 18446744073709551616 < (t + 1) * 18446744073709551616 ^ n := hXB
      _ ≤ ((t / d + 1) * d) * 18446744073709551616 ^ n := Nat.mul_le_mul_right _ hdiv
      _ = (t / d + 1) * (d * 18446744073709551616 ^ n) := by rw [Nat.mul_assoc]
      _ ≤ _ := Nat.mul_le_mul_left _ hYlo

/-- what the loop of quotient holds: N = X * 2^64 against the guess q -/
structure QL (w wr : World) (R S n m N Y q : Nat) (ys : List Nat) (b : Bool) : Prop where
  bel : Below w.heap.size w wr
  by' : Big wr S m ys
  out : ∃ xs, Big wr R n xs ∧ N < (q + 1) * Y ∧ (b = true → lw xs + q * Y = N + 18446744073709551616 ^ 52) ∧ (b = false → N = q * Y + lw xs)
theorem lw_lt52 {xs : List Nat} (h : Lim6 xs) (hl : xs.length = 52) : lw xs < 18446744073709551616 ^ 52 := by
  have := lw_take_lt xs h 52 (by omega)
  rwa [List.take_of_length_le (by omega)] at this
theorem QL.start {w wr w' : World} {R S n m N Y q bw : Nat} {xs ys vs : List Nat} (hbel : Below w.heap.size w wr) (hB2 : Big wr S m ys) (hY : lw ys = Y) (hne : R ≠ S) (hR : w.heap.size ≤ R) (hN : lw xs = N) (hlt : N < (q + 1) * Y)
    (hbw : bw ≤ 1) (hB : Big w' R n vs) (hv : lw vs + q * lw ys = lw xs + 18446744073709551616 ^ 52 * bw) (hO : Only R wr w') : QL w w' R S n m N Y q ys (decide (bw = 1)) := by
  refine ⟨hO.below hbel hR, hB2.only hO (fun e => hne e.symm), vs, hB, hlt, fun h => ?_, fun h => ?_⟩
  · rw [decide_eq_true_iff] at h
    rw [hY, hN, h] at hv; omega
  · rw [decide_eq_false_iff_not] at h
    have : bw = 0 := by omega
    rw [hY, hN, this] at hv; omega
theorem QL.pos {w wr : World} {R S n m N Y q : Nat} {ys : List Nat} (o : QL w wr R S n m N Y q ys true) : q ≠ 0 := by
  obtain ⟨xs, hB, h1, h2, h3⟩ := o.out
  intro h
  have := h2 rfl
  have := lw_lt52 hB.lim hB.len
  rw [h] at *
  omega
theorem QL.step {w wr w' : World} {R S n m N Y q cb : Nat} {xs ys vs : List Nat} (o : QL w wr R S n m N Y (q + 1) ys true) (hY : lw ys = Y) (hne : R ≠ S) (hR : w.heap.size ≤ R)
    (hB0 : Big wr R n xs) (hx : lw xs + (q + 1) * Y = N + 18446744073709551616 ^ 52)
    (hcb : cb ≤ 1) (hB : Big w' R n vs) (hv : lw vs + 18446744073709551616 ^ 52 * cb = lw xs + lw ys) (hO : Only R wr w') : QL w w' R S n m N Y q ys (!decide (cb = 1)) := by
  have hl := lw_lt52 hB0.lim hB0.len
  have hl2 := lw_lt52 hB.lim hB.len
  refine ⟨hO.below o.bel hR, o.by'.only hO (fun e => hne e.symm), vs, hB, by omega, fun h => ?_, fun h => ?_⟩
  · have : cb = 0 := by simp at h; omega
    rw [hY, this] at hv
    rw [Nat.add_mul] at hx
    omega
  · have : cb = 1 := by simpa using h
    rw [hY, this] at hv
    rw [Nat.add_mul] at hx
    omega
end Go.Proofs.Ygcoaf
