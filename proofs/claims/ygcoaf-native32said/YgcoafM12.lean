/-
  PLAIN LAWS, the twelfth: soft's four operations are the model's.
-/
import Derived.Test.YgcoafW25
import Derived.Test.YgcoafW10
namespace Go.Proofs.Ygcoaf
open Go.Proofs.Ygcoaf.M

/-- what the model's operation comes to once a NaN is written as soft writes it -/
def outV (E M : Nat) : Option Nat → Nat
  | none => nanR E M
  | some v => putV E M v

theorem write_inf (E M : Nat) (s : Bool) : (Ieee.Format.mk E M).write (.infinity s) = infR E M + sgn E M s := by
  show (Ieee.Format.mk E M).word s (Ieee.Format.mk E M).infRung = _
  rw [word_eq, infRung_eq]

theorem man_zero (E M x : Nat) (h3 : uCls E M x ≠ 3) (h4 : uCls E M x ≠ 4) : uMan E M x = 0 ↔ uCls E M x = 0 := by
  constructor
  · intro h
    by_cases c : uCls E M x = 0
    · exact c
    · have := (uman_cls E M x c h3 h4).1
      have := Nat.two_pow_pos M
      omega
  · intro h
    unfold uMan
    rw [if_neg (by omega), if_neg (by omega)]

/-- what a word stands for -/
theorem view (E M x : Nat) (hE : 2 ≤ E) :
    (uCls E M x = 4 ∧ ∃ s t, (Ieee.Format.mk E M).read x = .nan s t) ∨ (uCls E M x = 3 ∧ (Ieee.Format.mk E M).read x = .infinity (uNeg E M x)) ∨
    (uCls E M x ≠ 3 ∧ uCls E M x ≠ 4 ∧ ∃ m i, (Ieee.Format.mk E M).read x = .number (uNeg E M x) m i ∧ (m = 0 ↔ uCls E M x = 0) ∧ SameN m i (uMan E M x) (uExp E M x)) := by
  by_cases h4 : uCls E M x = 4
  · left; exact ⟨h4, read_nan E M x ((cls_nan E M x).1 h4) hE⟩
  · right
    by_cases h3 : uCls E M x = 3
    · left
      refine ⟨h3, ?_⟩
      rw [read_inf E M x ((cls_inf E M x).1 h3) hE]
      unfold uNeg; rw [if_neg h4]
    · right
      have hlt : x % 2 ^ (E + M) < infR E M := by
        have a := mt (cls_nan E M x).2 h4
        have b := mt (cls_inf E M x).2 h3
        omega
      obtain ⟨m, i, e1, e2, e3, -⟩ := read_parts E M x hE hlt
      exact ⟨h3, h4, m, i, e1, e2.trans (man_zero E M x h3 h4), sameN_of _ _ _ _ e3⟩

theorem nearest_same (E M : Nat) (s : Bool) (A : Nat) (a : Int) (B : Nat) (b c : Int) (h1 : c ≤ a) (h2 : c ≤ b) (h : A * 2 ^ (a - c).toNat = B * 2 ^ (b - c).toNat) : (Ieee.Format.mk E M).nearest s A a = (Ieee.Format.mk E M).nearest s B b := by
  rw [← nearest_up E M s A (a - c).toNat a c (by omega), ← nearest_up E M s B (b - c).toNat b c (by omega), h]

theorem outV_near (E M : Nat) (s : Bool) (m : Nat) (i : Int) : outV E M (some ((Ieee.Format.mk E M).write (.number s m i))) = (Ieee.Format.mk E M).nearest s m i := putV_nearest E M s m i
theorem outV_inf (E M : Nat) (s : Bool) : outV E M (some ((Ieee.Format.mk E M).write (.infinity s))) = infR E M + sgn E M s := by
  show putV E M _ = _
  rw [write_inf]; exact putV_word E M s _ (Nat.le_refl _)

/-- MULTIPLICATION -/
theorem mul_law (E M a b : Nat) (hE : 2 ≤ E) : outV E M ((Ieee.Format.mk E M).mul a b) = mulU E M a b := by
  have hx : ∀ s t : Bool, (s ^^ t) = !(s == t) := by decide
  unfold Ieee.Format.mul mulU mulC
  rcases view E M a hE with ⟨a1, s, t, ra⟩ | ⟨a1, ra⟩ | ⟨a1, a2, m, i, ra, a3, a4⟩
  · rw [ra, if_pos (Or.inl a1)]; rfl
  · rcases view E M b hE with ⟨b1, s', t', rb⟩ | ⟨b1, rb⟩ | ⟨b1, b2, n, j, rb, b3, b4⟩
    · rw [ra, rb, if_pos (Or.inr b1)]; rfl
    · rw [ra, rb, if_neg (by omega), if_neg (by omega), if_pos (by omega), ← hx]
      exact outV_inf E M _
    · rw [ra, rb, if_neg (by omega)]
      simp only [Ieee.Datum.product]
      by_cases hn : n = 0
      · rw [if_pos hn, if_pos (by omega)]; rfl
      · rw [if_neg hn, if_neg (by omega), if_pos (by omega), ← hx]
        exact outV_inf E M _
  · rcases view E M b hE with ⟨b1, s', t', rb⟩ | ⟨b1, rb⟩ | ⟨b1, b2, n, j, rb, b3, b4⟩
    · rw [ra, rb, if_pos (Or.inr b1)]; rfl
    · rw [ra, rb, if_neg (by omega)]
      simp only [Ieee.Datum.product]
      by_cases hn : m = 0
      · rw [if_pos hn, if_pos (by omega)]; rfl
      · rw [if_neg hn, if_neg (by omega), if_pos (by omega), ← hx, Bool.xor_comm]
        exact outV_inf E M _
    · rw [ra, rb, if_neg (by omega), if_neg (by omega), if_neg (by omega), ← hx]
      refine (outV_near E M _ _ _).trans ?_
      by_cases hz : uCls E M a = 0 ∨ uCls E M b = 0
      · have : m * n = 0 := by
          rcases hz with h | h
          · rw [a3.2 h, Nat.zero_mul]
          · rw [b3.2 h, Nat.mul_zero]
        rw [if_pos hz, this, nearest_zero]
      · rw [if_neg hz]
        have e1 := a4 (min i (uExp E M a)) (by omega) (by omega)
        have e2 := b4 (min j (uExp E M b)) (by omega) (by omega)
        refine nearest_same E M _ _ _ _ _ (min i (uExp E M a) + min j (uExp E M b)) (by omega) (by omega) ?_
        rw [show (i + j - (min i (uExp E M a) + min j (uExp E M b))).toNat = (i - min i (uExp E M a)).toNat + (j - min j (uExp E M b)).toNat by omega,
          show (uExp E M a + uExp E M b - (min i (uExp E M a) + min j (uExp E M b))).toNat = (uExp E M a - min i (uExp E M a)).toNat + (uExp E M b - min j (uExp E M b)).toNat by omega,
          Nat.pow_add, Nat.pow_add, Nat.mul_mul_mul_comm, e1, e2, Nat.mul_mul_mul_comm]
end Go.Proofs.Ygcoaf
