/-
  PACKAGE slow: numbers of 52 limbs of 64 bits in a struct behind a pointer.
-/
import Derived.Test.YgcoafS4
import Derived.Test.YgcoafW14
namespace Go.Proofs.Ygcoaf
open Go.RowKit Go.Proofs.Ygcoaf.M

/-- the number that limbs of 64 bits spell -/
def lw : List Nat → Nat
  | [] => 0
  | x :: xs => x + 18446744073709551616 * lw xs
theorem lw_append (xs ys : List Nat) : lw (xs ++ ys) = lw xs + 18446744073709551616 ^ xs.length * lw ys := by
  induction xs with
  | nil => simp [lw]
  | cons x xs ih =>
    simp only [List.cons_append, lw, ih, List.length_cons, Nat.pow_succ]
    generalize 18446744073709551616 ^ xs.length = P
    generalize lw ys = Y
    generalize lw xs = X
    grind
/-- every limb is one -/
def Lim6 (xs : List Nat) : Prop := ∀ i, i < xs.length → xs.getD i 0 < 18446744073709551616
theorem lw_take_next (ds : List Nat) (i : Nat) : lw (ds.take (i + 1)) = lw (ds.take i) + 18446744073709551616 ^ i * ds.getD i 0 := by
  by_cases h : i < ds.length
  · rw [List.take_succ_eq_append_getElem h, lw_append]
    simp [lw, Nat.min_eq_left (Nat.le_of_lt h), List.getD_eq_getElem?_getD, List.getElem?_eq_getElem h]
  · rw [List.take_of_length_le (by omega), List.take_of_length_le (by omega), List.getD_eq_getElem?_getD, List.getElem?_eq_none (by omega)]; simp
theorem lw_take_lt (xs : List Nat) (h : Lim6 xs) : ∀ j, j ≤ xs.length → lw (xs.take j) < 18446744073709551616 ^ j
  | 0, _ => by simp [lw]
  | j + 1, hj => by
    have ih := lw_take_lt xs h j (by omega)
    have hx := h j (by omega)
    rw [lw_take_next, Nat.pow_succ]
    generalize 18446744073709551616 ^ j = P at *
    have : P * (xs.getD j 0 + 1) ≤ P * 18446744073709551616 := Nat.mul_le_mul_left _ hx
    rw [Nat.mul_succ] at this
    omega
theorem lw_high (xs : List Nat) (n : Nat) (h : ∀ i, n ≤ i → xs.getD i 0 = 0) : ∀ k, lw (xs.take (n + k)) = lw (xs.take n)
  | 0 => rfl
  | k + 1 => by rw [show n + (k + 1) = n + k + 1 from by omega, lw_take_next, h (n + k) (by omega), Nat.mul_zero, Nat.add_zero]; exact lw_high xs n h k
theorem lw_all (xs : List Nat) (n : Nat) (h : ∀ i, n ≤ i → xs.getD i 0 = 0) : lw xs = lw (xs.take n) := by
  have := lw_high xs n h xs.length
  rw [List.take_of_length_le (by omega)] at this
  exact this
theorem take_set (xs : List Nat) (i x : Nat) : (xs.set i x).take i = xs.take i := by
  rw [List.take_set]
  exact List.set_eq_of_length_le (by simp; omega)

/-- a big number behind a pointer -/
structure Big (w : World) (R n : Nat) (ws : List Nat) : Prop where
  cn : w.cell? ⟨R, 0, none⟩ = some (.int .i64 n)
  cw : ∀ i, i < 52 → w.cell? ⟨R, 1 + i, none⟩ = some (.int .u64 (ws.getD i 0))
  fz : ∀ i, w.frozen? ⟨R, i, none⟩ = false
  len : ws.length = 52
  lim : Lim6 ws
  n52 : n ≤ 52
theorem Big.in {w : World} {R n : Nat} {ws : List Nat} (b : Big w R n ws) : R < w.heap.size := World.block_lt_of_cell? _ _ b.cn
theorem Big.call {w w' : World} {R n : Nat} {ws : List Nat} (b : Big w R n ws) (h : Below w.heap.size w w') : Big w' R n ws := by
  obtain ⟨hc, hf⟩ := bcell h
  exact ⟨by rw [hc _ _ b.in]; exact b.cn, fun i hi => by rw [hc _ _ b.in]; exact b.cw i hi, fun i => by rw [hf _ _ b.in]; exact b.fz i, b.len, b.lim, b.n52⟩
theorem Big.far {w : World} {R n : Nat} {ws : List Nat} (b : Big w R n ws) (P o : Nat) (v : Value) (h : P ≠ R) : Big (w.setCell ⟨P, o, none⟩ v) R n ws :=
  ⟨by rw [World.cell?_setCell_far _ _ _ _ h]; exact b.cn, fun i hi => by rw [World.cell?_setCell_far _ _ _ _ h]; exact b.cw i hi, fun i => by rw [World.frozen?_setCell]; exact b.fz i, b.len, b.lim, b.n52⟩
theorem Big.limb {w : World} {R n : Nat} {ws : List Nat} (b : Big w R n ws) (i x : Nat) (hi : i < 52) (hx : x < 18446744073709551616) : Big (w.setCell ⟨R, 1 + i, none⟩ (.int .u64 x)) R n (ws.set i x) := by
  refine ⟨?_, fun j hj => ?_, fun j => by rw [World.frozen?_setCell]; exact b.fz j, by rw [List.length_set]; exact b.len, ?_, b.n52⟩
  · rw [World.cell?_setCell_other (h := fun h => absurd (congrArg Addr.off h) (by show ¬ (1 + i = 0); omega))]; exact b.cn
  · by_cases e : i = j
    · subst e
      rw [World.cell?_setCell_same _ _ _ (b.cw i hi), getD_set_eq _ _ _ (by rw [b.len]; exact hi)]
    · rw [World.cell?_setCell_other (h := fun h => absurd (congrArg Addr.off h) (by show ¬ (1 + i = 1 + j); omega)), getD_set_ne _ _ _ _ e]; exact b.cw j hj
  · intro j hj
    rw [List.length_set] at hj
    by_cases e : i = j
    · subst e; rw [getD_set_eq _ _ _ hj]; exact hx
    · rw [getD_set_ne _ _ _ _ e]; exact b.lim j hj
theorem Big.count {w : World} {R n : Nat} {ws : List Nat} (b : Big w R n ws) (m : Nat) (hm : m ≤ 52) : Big (w.setCell ⟨R, 0, none⟩ (.int .i64 m)) R m ws :=
  ⟨World.cell?_setCell_same _ _ _ b.cn, fun i hi => by rw [World.cell?_setCell_other (h := fun h => absurd (congrArg Addr.off h) (by show ¬ (0 = 1 + i); omega))]; exact b.cw i hi, fun i => by rw [World.frozen?_setCell]; exact b.fz i, b.len, b.lim, hm⟩
/-- a limb, read -/
theorem Big.get {w : World} {R n : Nat} {ws : List Nat} (b : Big w R n ws) (i : Nat) (hi : i < 52) : ∃ x : Nat, x = ws.getD i 0 ∧ x < 18446744073709551616 ∧ w.cell? ⟨R, 1 + i, none⟩ = some (.int .u64 x) ∧ w.frozen? ⟨R, 1 + i, none⟩ = false :=
  ⟨_, rfl, b.lim i (by rw [b.len]; exact hi), b.cw i hi, b.fz _⟩

theorem Only.call {R : Nat} {w w1 w2 : World} (h : Only R w w1) (hb : Below w1.heap.size w1 w2) : Only R w w2 :=
  ⟨hb.os.trans h.os, hb.tape.trans h.tape, hb.output.trans h.output, Nat.le_trans h.size hb.size, fun k hk hl => (hb.block k (Nat.lt_of_lt_of_le hl h.size)).trans (h.block k hk hl)⟩
theorem Only.new {R : Nat} {w w1 : World} (h : Only R w w1) (P o : Nat) (v : Value) (hP : w.heap.size ≤ P) : Only R w (w1.setCell ⟨P, o, none⟩ v) :=
  ⟨h.os, h.tape, h.output, by simpa [World.setCell] using h.size, fun k hk hl => by rw [Below.heap_setCell _ _ _ _ (by show k ≠ P; omega)]; exact h.block k hk hl⟩
theorem Only.drewN {R : Nat} {w w1 : World} (h : Only R w w1) (n : Nat) : Only R w (w1.drewN n) := h.call (below_dN (Below.refl _ _) n)
theorem Only.drew {R : Nat} {w w1 : World} (h : Only R w w1) : Only R w w1.drew := h.call ((Below.refl _ _).drew)

/-- what mulAdd's loop holds -/
structure MA (w wr : World) (R n : Nat) (ws : List Nat) (m c0 i c : Nat) : Prop where
  out : ∃ vs, Big wr R n vs ∧ vs.drop i = ws.drop i ∧ lw (vs.take i) + 18446744073709551616 ^ i * c = lw (ws.take i) * m + c0 ∧ Only R w wr
theorem MA.call {w wr w' : World} {R n : Nat} {ws : List Nat} {m c0 i c : Nat} (o : MA w wr R n ws m c0 i c) (h : Below wr.heap.size wr w') : MA w w' R n ws m c0 i c := by
  obtain ⟨vs, h1, h2, h3, h4⟩ := o.out
  exact ⟨vs, h1.call h, h2, h3, h4.call h⟩
/-- the loop's end: the limbs hold the number but for the carry -/
theorem MA.done {w wr : World} {R n : Nat} {ws : List Nat} {m c0 c : Nat} (o : MA w wr R n ws m c0 n c) (hhi : ∀ i, n ≤ i → ws.getD i 0 = 0) :
    ∃ vs, Big wr R n vs ∧ (∀ i, n ≤ i → vs.getD i 0 = 0) ∧ lw vs + 18446744073709551616 ^ n * c = lw ws * m + c0 ∧ Only R w wr := by
  obtain ⟨vs, h1, h2, h3, h4⟩ := o.out
  have hz : ∀ i, n ≤ i → vs.getD i 0 = 0 := fun i hi => by
    have e : (vs.drop n).getD (i - n) 0 = (ws.drop n).getD (i - n) 0 := by rw [h2]
    simp only [List.getD_eq_getElem?_getD, List.getElem?_drop, show n + (i - n) = i from by omega] at e
    have := hhi i hi
    rw [List.getD_eq_getElem?_getD] at this ⊢
    rw [e]; exact this
  exact ⟨vs, h1, hz, by rw [lw_all vs n hz, lw_all ws n hhi]; exact h3, h4⟩
theorem lw_set6 (cs : List Nat) (k x : Nat) (hk : k < cs.length) (hz : ∀ i, k ≤ i → cs.getD i 0 = 0) : lw (cs.set k x) = lw cs + 18446744073709551616 ^ k * x := by
  have h1 : ∀ i, k + 1 ≤ i → (cs.set k x).getD i 0 = 0 := fun i hi => by rw [getD_set_ne _ _ _ _ (by omega)]; exact hz i (by omega)
  rw [lw_all _ (k + 1) h1, lw_take_next, take_set, getD_set_eq _ _ _ hk, lw_all cs k hz]
theorem MA.step {w wr : World} {R n : Nat} {ws : List Nat} {m c0 i c : Nat} (o : MA w wr R n ws m c0 i c) (hi : i < 52) :
    ∃ x : Nat, x < 18446744073709551616 ∧ wr.cell? ⟨R, 1 + i, none⟩ = some (.int .u64 x) ∧
      ∀ w', (∀ vs, Big wr R n vs → Big w' R n vs) → Only R w w' → ∀ lo hi', lo < 18446744073709551616 → lo + 18446744073709551616 * hi' = x * m + c → MA w (w'.setCell ⟨R, 1 + i, none⟩ (.int .u64 lo)) R n ws m c0 (i + 1) hi' := by
  obtain ⟨vs, h1, h2, h3, h4⟩ := o.out
  obtain ⟨x, hx, hlt, hcell, hfz⟩ := h1.get i hi
  have hxi : ws.getD i 0 = x := by
    have e : (vs.drop i).getD 0 0 = (ws.drop i).getD 0 0 := by rw [h2]
    simp only [List.getD_eq_getElem?_getD, List.getElem?_drop, Nat.add_zero] at e
    rw [hx, List.getD_eq_getElem?_getD, List.getD_eq_getElem?_getD, e]
  refine ⟨x, hlt, hcell, fun w' hB hO lo hi' hlo he => ⟨vs.set i lo, (hB vs h1).limb i lo hi hlo, ?_, ?_, hO.setCell _ _⟩⟩
  · rw [drop_set_lt, ← List.drop_drop (i := 1), h2, List.drop_drop]
  · rw [lw_take_next, take_set, getD_set_eq _ _ _ (by rw [h1.len]; exact hi), lw_take_next ws i, hxi, Nat.pow_succ]
    generalize lw (vs.take i) = L at *
    generalize lw (ws.take i) = G at *
    generalize 18446744073709551616 ^ i = P at *
    clear h1 h2 h4 hB hO hcell hfz hx hxi o
    grind
end Go.Proofs.Ygcoaf
