/-
  THE PARTS OF A PATTERN: what ieee.Unpack answers, said of numbers.
-/
import Derived.Test.YgcoafM3
namespace Go.Proofs.Ygcoaf

/-- the exponent field, the fraction field, the sign -/
def eF (E M x : Nat) : Nat := x / 2 ^ M % 2 ^ E
def mF (M x : Nat) : Nat := x % 2 ^ M
def sF (E M x : Nat) : Bool := x / 2 ^ (E + M) % 2 == 1

def uCls (E M x : Nat) : Nat :=
  if eF E M x = 2 ^ E - 1 then (if mF M x = 0 then 3 else 4) else if eF E M x = 0 then (if mF M x = 0 then 0 else 1) else 2
def uNeg (E M x : Nat) : Bool := if uCls E M x = 4 then false else sF E M x
def uMan (E M x : Nat) : Nat := if uCls E M x = 1 then mF M x * 2 ^ (M - (mF M x).log2) else if uCls E M x = 2 then mF M x + 2 ^ M else 0
/-- the bias -/
def biasN (E : Nat) : Int := 2 ^ (E - 1) - 1
def uExp (E M x : Nat) : Int := if uCls E M x = 1 then 1 - biasN E - M - (M - (mF M x).log2 : Nat) else if uCls E M x = 2 then (eF E M x : Int) - biasN E - M else 0

theorem mF_lt (M x : Nat) : mF M x < 2 ^ M := Nat.mod_lt _ (Nat.two_pow_pos _)
theorem eF_lt (E M x : Nat) : eF E M x < 2 ^ E := Nat.mod_lt _ (Nat.two_pow_pos _)
theorem log2_lt_of (M x : Nat) (h0 : x ≠ 0) (h : x < 2 ^ M) : x.log2 < M := (Nat.log2_lt h0).2 h

theorem sub_bd (M m : Nat) (h0 : m ≠ 0) (h : m < 2 ^ M) : 2 ^ M ≤ m * 2 ^ (M - m.log2) ∧ m * 2 ^ (M - m.log2) < 2 ^ (M + 1) := by
  have hl := log2_lt_of M m h0 h
  have a := Nat.log2_self_le h0
  have b : m < 2 ^ (m.log2 + 1) := Nat.lt_log2_self
  constructor
  · calc 2 ^ M = 2 ^ m.log2 * 2 ^ (M - m.log2) := by rw [← Nat.pow_add]; congr 1; omega
      _ ≤ m * 2 ^ (M - m.log2) := Nat.mul_le_mul_right _ a
  · calc m * 2 ^ (M - m.log2) < 2 ^ (m.log2 + 1) * 2 ^ (M - m.log2) := Nat.mul_lt_mul_of_pos_right b (Nat.two_pow_pos _)
      _ = 2 ^ (M + 1) := by rw [← Nat.pow_add]; congr 1; omega

/-- a significand that is there has M+1 bits -/
theorem uMan_bd (E M x : Nat) (h : uCls E M x = 1 ∨ uCls E M x = 2) : 2 ^ M ≤ uMan E M x ∧ uMan E M x < 2 ^ (M + 1) := by
  have hm := mF_lt M x
  rcases h with h | h
  · have h0 : mF M x ≠ 0 := by
      intro c; unfold uCls at h; rw [if_pos c, if_pos c] at h; split at h
      · omega
      · split at h <;> omega
    unfold uMan; rw [if_pos h]; exact sub_bd M _ h0 hm
  · unfold uMan; rw [if_neg (by omega), if_pos h, Nat.pow_succ]; omega
end Go.Proofs.Ygcoaf
