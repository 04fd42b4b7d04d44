/-
  slow.big.subMul.
-/
import Derived.Test.YgcoafT7
namespace Go.Proofs.Ygcoaf
open Go.RowKit Go.Proofs.Ygcoaf.M

/-- what subMul's loop holds -/
structure SM (w wr : World) (R n : Nat) (xs ys : List Nat) (q i c b : Nat) : Prop where
  out : ∃ vs pl, Big wr R n vs ∧ vs.drop i = xs.drop i ∧ pl < 18446744073709551616 ^ i ∧ pl + 18446744073709551616 ^ i * c = q * lw (ys.take i) ∧ lw (vs.take i) + pl = lw (xs.take i) + 18446744073709551616 ^ i * b ∧ Only R w wr

theorem SM.step {w wr : World} {R n : Nat} {xs ys : List Nat} {q i c b : Nat} (o : SM w wr R n xs ys q i c b) (hi : i < 52) :
    ∃ x : Nat, x = xs.getD i 0 ∧ x < 18446744073709551616 ∧ wr.cell? ⟨R, 1 + i, none⟩ = some (.int .u64 x) ∧
      ∀ w', (∀ vs, Big wr R n vs → Big w' R n vs) → Only R w w' → ∀ lo hi' v b', lo < 18446744073709551616 → v < 18446744073709551616 → lo + 18446744073709551616 * hi' = ys.getD i 0 * q + c → x + 18446744073709551616 * b' = v + lo + b →
        SM w (w'.setCell ⟨R, 1 + i, none⟩ (.int .u64 v)) R n xs ys q (i + 1) hi' b' := by
  obtain ⟨vs, pl, h1, h2, h3, h4, h5, h6⟩ := o.out
  obtain ⟨x, hx, hlt, hcell, hfz⟩ := h1.get i hi
  have hxi : xs.getD i 0 = x := by
    have e : (vs.drop i).getD 0 0 = (xs.drop i).getD 0 0 := by rw [h2]
    simp only [List.getD_eq_getElem?_getD, List.getElem?_drop, Nat.add_zero] at e
    rw [hx, List.getD_eq_getElem?_getD, List.getD_eq_getElem?_getD, e]
  refine ⟨x, hxi.symm, hlt, hcell, fun w' hB hO lo hi' v b' hlo hv he1 he2 => ⟨vs.set i v, pl + 18446744073709551616 ^ i * lo, (hB vs h1).limb i v hi hv, ?_, ?_, ?_, ?_, hO.setCell _ _⟩⟩
  · rw [drop_set_lt, ← List.drop_drop (i := 1), h2, List.drop_drop]
  · rw [Nat.pow_succ]
    have : 18446744073709551616 ^ i * (lo + 1) ≤ 18446744073709551616 ^ i * 18446744073709551616 := Nat.mul_le_mul_left _ hlo
    rw [Nat.mul_succ] at this
    omega
  · rw [lw_take_next ys i, Nat.pow_succ]
    generalize lw (ys.take i) = Y at *
    generalize ys.getD i 0 = y at *
    generalize 18446744073709551616 ^ i = P at *
    clear h1 h2 h5 h6 hB hO hcell hfz hx hxi o he2 h3
    grind
  · rw [lw_take_next, take_set, getD_set_eq _ _ _ (by rw [h1.len]; exact hi), lw_take_next xs i, hxi, Nat.pow_succ]
    generalize lw (vs.take i) = L at *
    generalize lw (xs.take i) = X at *
    generalize 18446744073709551616 ^ i = P at *
    clear h1 h2 h4 h6 hB hO hcell hfz hx hxi o he1 h3
    grind

theorem SM.call {w wr w' : World} {R n : Nat} {xs ys : List Nat} {q i c b : Nat} (o : SM w wr R n xs ys q i c b) (h : Below wr.heap.size wr w') : SM w w' R n xs ys q i c b := by
  obtain ⟨vs, pl, h1, h2, h3, h4, h5, h6⟩ := o.out
  exact ⟨vs, pl, h1.call h, h2, h3, h4, h5, h6.call h⟩

/-- the end, all limbs done -/
theorem SM.done {w wr : World} {R n : Nat} {xs ys : List Nat} {q c b : Nat} (o : SM w wr R n xs ys q 52 c b) (hx : xs.length = 52) (hy : ys.length = 52) (hfit : q * lw ys < 18446744073709551616 ^ 52) :
    ∃ vs, Big wr R n vs ∧ lw vs + q * lw ys = lw xs + 18446744073709551616 ^ 52 * b ∧ Only R w wr := by
  obtain ⟨vs, pl, h1, h2, h3, h4, h5, h6⟩ := o.out
  rw [List.take_of_length_le (by omega)] at h4
  rw [List.take_of_length_le (by rw [h1.len]; omega), List.take_of_length_le (by omega)] at h5
  refine ⟨vs, h1, ?_, h6⟩
  have hc : c = 0 := by
    by_cases hc : c = 0
    · exact hc
    · exfalso
      have : 18446744073709551616 ^ 52 * 1 ≤ 18446744073709551616 ^ 52 * c := Nat.mul_le_mul_left _ (by omega)
      omega
  rw [hc, Nat.mul_zero, Nat.add_zero] at h4
  rw [← h4]; exact h5
/-- the end, nothing left to do -/
theorem SM.early {w wr : World} {R n m i : Nat} {xs ys : List Nat} {q : Nat} (o : SM w wr R n xs ys q i 0 0) (hzx : ∀ j, n ≤ j → xs.getD j 0 = 0) (hzy : ∀ j, m ≤ j → ys.getD j 0 = 0) (hin : n ≤ i) (him : m ≤ i) :
    ∃ vs, Big wr R n vs ∧ lw vs + q * lw ys = lw xs + 18446744073709551616 ^ 52 * 0 ∧ Only R w wr := by
  obtain ⟨vs, pl, h1, h2, h3, h4, h5, h6⟩ := o.out
  have hz : ∀ j, i ≤ j → vs.getD j 0 = 0 := fun j hj => by
    have e : (vs.drop i).getD (j - i) 0 = (xs.drop i).getD (j - i) 0 := by rw [h2]
    simp only [List.getD_eq_getElem?_getD, List.getElem?_drop, show i + (j - i) = j from by omega] at e
    have := hzx j (by omega)
    rw [List.getD_eq_getElem?_getD] at this ⊢
    rw [e]; exact this
  refine ⟨vs, h1, ?_, h6⟩
  rw [lw_all vs i hz, lw_all xs i (fun j hj => hzx j (by omega)), lw_all ys i (fun j hj => hzy j (by omega))]
  rw [Nat.mul_zero, Nat.add_zero] at h4 h5
  rw [← h4, Nat.mul_zero, Nat.add_zero]; exact h5

/-- one limb less another and a borrow -/
theorem borrow64 (x lo b : Nat) (hx : x < 18446744073709551616) (hl : lo < 18446744073709551616) (hb : b ≤ 1) : ∃ d v b' : Nat, IntKind.u64.wrap ((x : Int) - (lo : Int)) = (d : Int) ∧ d < 18446744073709551616 ∧ IntKind.u64.wrap ((d : Int) - (b : Int)) = (v : Int) ∧ v < 18446744073709551616 ∧ b' ≤ 1 ∧ (b' = 1 ↔ (x < lo ∨ d < b)) ∧ x + 18446744073709551616 * b' = v + lo + b := by
  by_cases h : x < lo
  · refine ⟨x + 18446744073709551616 - lo, x + 18446744073709551616 - lo - b, 1, ?_, by omega, ?_, by omega, by omega, by omega, by omega⟩
    · rw [IntKind.wrap_u64]; omega
    · rw [IntKind.wrap_u64]; omega
  · by_cases h2 : x - lo < b
    · refine ⟨x - lo, x - lo + 18446744073709551616 - b, 1, ?_, by omega, ?_, by omega, by omega, by omega, by omega⟩
      · rw [IntKind.wrap_u64]; omega
      · rw [IntKind.wrap_u64]; omega
    · refine ⟨x - lo, x - lo - b, 0, ?_, by omega, ?_, by omega, by omega, by omega, by omega⟩
      · rw [IntKind.wrap_u64]; omega
      · rw [IntKind.wrap_u64]; omega
end Go.Proofs.Ygcoaf
