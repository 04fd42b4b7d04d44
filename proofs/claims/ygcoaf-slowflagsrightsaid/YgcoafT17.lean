/-
  slow.SlowFlags: the plain laws of its three cases.
-/
import Derived.Test.YgcoafT13
import Derived.Test.YgcoafT15
namespace Go.Proofs.Ygcoaf
open Go.RowKit Go.Proofs.Ygcoaf.M

theorem dgv_ten (s : ByteArray) (hd : Digs s) : ∀ k, k ≤ s.size → dgv s k < 10 ^ k
  | 0, _ => by simp [dgv]
  | k + 1, h => by
    have ih := dgv_ten s hd k (by omega)
    have hb := hd k (by omega)
    rw [dgv, Nat.pow_succ]
    omega
theorem dgv_low (s : ByteArray) (hd : Digs s) (h0 : byt s 0 ≠ 48) : ∀ k, k + 1 ≤ s.size → 10 ^ k ≤ dgv s (k + 1)
  | 0, h => by
    have hb := hd 0 (by omega)
    simp [dgv]; omega
  | k + 1, h => by
    have ih := dgv_low s hd h0 k (by omega)
    rw [dgv, Nat.pow_succ]
    omega

/-- a decimal that has digits -/
structure Some1 (s : ByteArray) (x : Int) : Prop where
  can : Canon s x
  ne : s.size ≠ 0
theorem Some1.lo {s : ByteArray} {x : Int} (h : Some1 s x) : 10 ^ (s.size - 1) ≤ dgv s s.size := by
  have h9 := h.ne
  have := dgv_low s h.can.digs (h.can.ends h9).1 (s.size - 1) (by omega)
  rwa [show s.size - 1 + 1 = s.size by omega] at this
theorem Some1.hi {s : ByteArray} {x : Int} (h : Some1 s x) : dgv s s.size < 10 ^ s.size := dgv_ten s h.can.digs _ (Nat.le_refl _)
theorem Some1.pos {s : ByteArray} {x : Int} (h : Some1 s x) : dgv s s.size ≠ 0 := by
  have := h.lo
  have := Nat.pow_pos (n := s.size - 1) (show 0 < 10 by decide)
  omega
theorem ten_le {a b : Nat} (h : a ≤ b) : 10 ^ a ≤ 10 ^ b := Nat.pow_le_pow_right (by decide) h

theorem ten310 {K : Nat} (hK : K = 1025) (j : Nat) (hj : j = 310) : 2 ^ K ≤ 10 ^ j := by
  obtain ⟨m, hm⟩ : ∃ m, m = 5 := ⟨_, rfl⟩
  rw [show K = 205 * m by omega, show j = 62 * m by omega, Nat.pow_mul, Nat.pow_mul 10]
  exact Nat.pow_le_pow_left (by decide) m
theorem ten401 {K : Nat} (j : Nat) (hK : K = 3 * j) : 2 ^ K ≤ 10 ^ j := by
  rw [hK, Nat.pow_mul]
  exact Nat.pow_le_pow_left (by decide) _

theorem Some1.high {s : ByteArray} {x : Int} (h : Some1 s x) (hl : 310 < (s.size : Int) + x) {K : Nat} (hK : K = 1025) : 10 ^ (-x).toNat * 2 ^ K ≤ dgv s s.size * 10 ^ x.toNat := by
  obtain ⟨j, hj⟩ : ∃ j, j = 310 := ⟨_, rfl⟩
  have h9 := h.ne
  calc 10 ^ (-x).toNat * 2 ^ K ≤ 10 ^ (-x).toNat * 10 ^ j := Nat.mul_le_mul_left _ (ten310 hK j hj)
    _ = 10 ^ ((-x).toNat + j) := by rw [Nat.pow_add]
    _ ≤ 10 ^ (s.size - 1 + x.toNat) := ten_le (by omega)
    _ = 10 ^ (s.size - 1) * 10 ^ x.toNat := by rw [Nat.pow_add]
    _ ≤ _ := Nat.mul_le_mul_right _ h.lo

theorem Some1.low {s : ByteArray} {x : Int} (h : Some1 s x) (hl : (s.size : Int) + x < -400) {K : Nat} (hK : K = 1203) : dgv s s.size * 10 ^ x.toNat * 2 ^ K < 10 ^ (-x).toNat := by
  obtain ⟨j, hj⟩ : ∃ j, j = 401 := ⟨_, rfl⟩
  rw [show x.toNat = 0 by omega, Nat.pow_zero, Nat.mul_one]
  calc dgv s s.size * 2 ^ K < 10 ^ s.size * 2 ^ K := Nat.mul_lt_mul_of_pos_right h.hi (Nat.two_pow_pos _)
    _ ≤ 10 ^ s.size * 10 ^ j := Nat.mul_le_mul_left _ (ten401 j (by omega))
    _ = 10 ^ (s.size + j) := by rw [Nat.pow_add]
    _ ≤ _ := ten_le (by omega)

/-! ### the middle -/
theorem ten_two (j : Nat) : 10 ^ (10 * j) ≤ 2 ^ (34 * j) := by
  rw [Nat.pow_mul, Nat.pow_mul]
  exact Nat.pow_le_pow_left (by decide) _
/-- the numerator's bound -/
theorem Some1.num {s : ByteArray} {x : Int} (h : Some1 s x) (hl : (s.size : Int) + x ≤ 310) {L : Nat} (hL : L = if x < 0 then 2720 else 1054) : dgv s s.size * 5 ^ x.toNat < 2 ^ L := by
  have hf := h.can.few
  by_cases c : x < 0
  · rw [if_pos c] at hL
    rw [show x.toNat = 0 by omega, Nat.pow_zero, Nat.mul_one, show L = 34 * 80 by omega]
    exact Nat.lt_of_lt_of_le h.hi (Nat.le_trans (ten_le (b := 10 * 80) (by omega)) (ten_two 80))
  · rw [if_neg c] at hL
    rw [show L = 34 * 31 by omega]
    calc dgv s s.size * 5 ^ x.toNat < 10 ^ s.size * 5 ^ x.toNat := Nat.mul_lt_mul_of_pos_right h.hi (Nat.pow_pos (by decide))
      _ ≤ 10 ^ s.size * 10 ^ x.toNat := Nat.mul_le_mul_left _ (Nat.pow_le_pow_left (by decide) _)
      _ = 10 ^ (s.size + x.toNat) := by rw [Nat.pow_add]
      _ ≤ 10 ^ (10 * 31) := ten_le (by omega)
      _ ≤ _ := ten_two 31
theorem five_two {k L : Nat} (hk : k ≤ 1200) (hL : L = 2800) : 5 ^ k < 2 ^ L := by
  obtain ⟨m, hm⟩ : ∃ m, m = 400 := ⟨_, rfl⟩
  rw [show L = 7 * m by omega]
  calc 5 ^ k ≤ 5 ^ (3 * m) := Nat.pow_le_pow_right (by decide) (by omega)
    _ < 2 ^ (7 * m) := by rw [Nat.pow_mul, Nat.pow_mul 2]; exact Nat.pow_lt_pow_left (by decide) (by omega)

/-- the three of a quotient: the fraction, its floor, its sticky floor -/
theorem Quo.sm {X Y a b q r sg : Nat} (k : Quo X Y a b q r sg) (hY : Y ≠ 0) : X * 2 ^ a / (Y * 2 ^ b) = q ∧ st (X * 2 ^ a) (Y * 2 ^ b) = sg := by
  have hd : 0 < Y * 2 ^ b := Nat.mul_pos (Nat.pos_of_ne_zero hY) (Nat.two_pow_pos _)
  have e1 : X * 2 ^ a / (Y * 2 ^ b) = q := by
    rw [k.eq, Nat.mul_comm, Nat.mul_add_div hd, Nat.div_eq_of_lt k.lt, Nat.add_zero]
  have e2 : X * 2 ^ a % (Y * 2 ^ b) = r := by
    rw [k.eq, Nat.mul_comm, Nat.mul_add_mod, Nat.mod_eq_of_lt k.lt]
  refine ⟨e1, ?_⟩
  unfold st
  rw [e1, e2, k.sg]

theorem dec_sm {x : Int} (a b D : Nat) : Sm (D * 10 ^ x.toNat) (10 ^ (-x).toNat) (D * 5 ^ x.toNat * 2 ^ a) (5 ^ (-x).toNat * 2 ^ b) ((b : Int) - a + x) := by
  refine ⟨Nat.pow_pos (by decide), Nat.mul_pos (Nat.pow_pos (by decide)) (Nat.two_pow_pos _), ?_⟩
  obtain ⟨p, hp⟩ : ∃ p, p = (b : Int) - a + x := ⟨_, rfl⟩
  rw [← hp, show (10 : Nat) = 5 * 2 by decide, Nat.mul_pow, Nat.mul_pow]
  calc D * (5 ^ x.toNat * 2 ^ x.toNat) * (5 ^ (-x).toNat * 2 ^ b * 2 ^ (-p).toNat) = D * 5 ^ x.toNat * 5 ^ (-x).toNat * 2 ^ (x.toNat + b + (-p).toNat) := by rw [Nat.pow_add, Nat.pow_add]; ac_rfl
    _ = D * 5 ^ x.toNat * 5 ^ (-x).toNat * 2 ^ (a + p.toNat + (-x).toNat) := by congr 2; omega
    _ = _ := by rw [Nat.pow_add, Nat.pow_add]; ac_rfl

/-- the exponent stays within round's reach -/
theorem Some1.bd {s : ByteArray} {x : Int} (h : Some1 s x) (hl1 : -400 ≤ (s.size : Int) + x) (hl2 : (s.size : Int) + x ≤ 310) {a b q r sg : Nat} (k : Quo (dgv s s.size * 5 ^ x.toNat) (5 ^ (-x).toNat) a b q r sg) : -5000 ≤ (b : Int) - a + x ∧ (b : Int) - a + x ≤ 3000 ∧ sg < 18446744073709551616 := by
  have hf := h.can.few
  have ha := k.ha
  have hY : 1 ≤ 5 ^ (-x).toNat := Nat.pow_pos (by decide)
  obtain ⟨L, hL⟩ : ∃ L, L = if x < 0 then 2720 else 1054 := ⟨_, rfl⟩
  have hX := h.num hl2 hL
  have h1 : 2 ^ (63 + b) < 2 ^ (L + a) := by
    calc 2 ^ (63 + b) = 9223372036854775808 * (1 * 2 ^ b) := by rw [Nat.pow_add]; omega
      _ ≤ q * (5 ^ (-x).toNat * 2 ^ b) := Nat.mul_le_mul k.lo (Nat.mul_le_mul_right _ hY)
      _ ≤ dgv s s.size * 5 ^ x.toNat * 2 ^ a := by rw [k.eq]; exact Nat.le_add_right _ _
      _ < 2 ^ L * 2 ^ a := Nat.mul_lt_mul_of_pos_right hX (Nat.two_pow_pos _)
      _ = _ := by rw [Nat.pow_add]
  have h2 : 63 + b < L + a := (Nat.pow_lt_pow_iff_right (by decide)).1 h1
  refine ⟨by omega, by split at hL <;> omega, ?_⟩
  have g1 := k.sg
  have g2 := k.hi
  have g3 := or_one q
  by_cases c : r = 0
  · rw [if_pos c] at g1; omega
  · rw [if_neg c] at g1; omega

/-- THE LAW -/
theorem Some1.law {E M : Nat} (h1 : 2 ≤ E) (h4 : M ≤ 52) (mode : Nat) (neg : Bool) {s : ByteArray} {x : Int} (h : Some1 s x) {a b q r sg : Nat} (k : Quo (dgv s s.size * 5 ^ x.toNat) (5 ^ (-x).toNat) a b q r sg) :
    rfV E M mode neg (dgv s s.size * 10 ^ x.toNat) (10 ^ (-x).toNat) = slV E M mode neg sg ((b : Int) - a + x) ∧ rfF E M mode neg (dgv s s.size * 10 ^ x.toNat) (10 ^ (-x).toNat) = slF E M mode neg sg ((b : Int) - a + x) := by
  have hY : 5 ^ (-x).toNat ≠ 0 := by have := Nat.pow_pos (n := (-x).toNat) (show 0 < 5 by decide); omega
  obtain ⟨e1, e2⟩ := k.sm hY
  have hA : dgv s s.size * 10 ^ x.toNat ≠ 0 := by
    have := Nat.mul_pos (Nat.pos_of_ne_zero h.pos) (Nat.pow_pos (n := x.toNat) (show 0 < 10 by decide)); omega
  have := slow_law h1 h4 mode neg (dec_sm (x := x) a b (dgv s s.size)) hA (by rw [e1]; exact k.lo) (by rw [e1]; exact k.hi)
  rwa [e2] at this
end Go.Proofs.Ygcoaf
