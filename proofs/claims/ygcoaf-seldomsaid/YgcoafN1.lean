/-
  LIMBS: big natural numbers as lists of 32-bit limbs, the least first.
-/
import Derived.Test.YgcoafM6
namespace Go.Proofs.Ygcoaf

/-- the number that limbs spell -/
def lv : List Nat → Nat
  | [] => 0
  | x :: xs => x + 4294967296 * lv xs

theorem lv_append (xs ys : List Nat) : lv (xs ++ ys) = lv xs + 4294967296 ^ xs.length * lv ys := by
  induction xs with
  | nil => simp [lv]
  | cons x xs ih =>
    simp only [List.cons_append, lv, ih, List.length_cons, Nat.pow_succ]
    rw [Nat.mul_add, ← Nat.mul_assoc, Nat.mul_comm 4294967296 (4294967296 ^ xs.length)]
    omega

/-- every limb is one -/
def Lim (xs : List Nat) : Prop := ∀ i, i < xs.length → xs.getD i 0 < 4294967296

theorem Lim.tail {x : Nat} {xs : List Nat} (h : Lim (x :: xs)) : Lim xs := fun i hi => by
  have := h (i + 1) (by simp; omega)
  simpa using this
theorem Lim.head {x : Nat} {xs : List Nat} (h : Lim (x :: xs)) : x < 4294967296 := by
  have := h 0 (by simp)
  simpa using this

theorem lv_lt (xs : List Nat) (h : Lim xs) : lv xs < 4294967296 ^ xs.length := by
  induction xs with
  | nil => simp [lv]
  | cons x xs ih =>
    have a := h.head
    have b := ih h.tail
    simp only [lv, List.length_cons, Nat.pow_succ]
    generalize 4294967296 ^ xs.length = P at *
    omega

/-- the first k limbs, one more -/
theorem lv_take_succ (xs : List Nat) (k : Nat) (h : k < xs.length) : lv (xs.take (k + 1)) = lv (xs.take k) + 4294967296 ^ k * xs.getD k 0 := by
  rw [List.take_succ_eq_append_getElem h, lv_append]
  simp [lv, Nat.min_eq_left (Nat.le_of_lt h), List.getD_eq_getElem?_getD, List.getElem?_eq_getElem h]

end Go.Proofs.Ygcoaf
