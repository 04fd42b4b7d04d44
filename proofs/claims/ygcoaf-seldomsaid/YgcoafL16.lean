/-
  LemireRight: the plain law.
-/
import Derived.Test.YgcoafL12
namespace Go.Proofs.Ygcoaf
open Go.RowKit Go.Proofs.Ygcoaf.M

/-- far below: zero -/
theorem rfV_zero {E M : Nat} (h1 : 2 ≤ E) (h2 : E ≤ 11) (h3 : 2 ≤ M) (h4 : M ≤ 52) {A B : Nat} (hA : A ≠ 0) (hB : B ≠ 0) {K : Nat} (hK : 1075 ≤ K) (h : A * 2 ^ K < B) : rfV E M 0 false A B = 0 := by
  have hbd := biasN_bd h1 h2
  have hlo : lo E = 1 - biasN E := rfl
  have hr : rlog A B < -1030 := by
    obtain ⟨_, g2, _⟩ := rlog_is A B hA hB
    rcases Int.lt_or_le (rlog A B) (-1030) with c | c
    · exact c
    · exfalso
      have g4 : B * 1 ≤ B * 2 ^ (rlog A B).toNat := Nat.mul_le_mul_left _ (Nat.two_pow_pos _)
      have g5 : A * 2 ^ (-(rlog A B)).toNat ≤ A * 2 ^ K := Nat.mul_le_mul_left _ (two_pow_le (by omega))
      omega
  rw [rfV_min h1 h2 hA hB]
  have he : max (rlog A B) (lo E) = lo E := by omega
  have hz : (lo E - (M : Int)).toNat = 0 := by omega
  have hN : A * 2 ^ ((M : Int) - lo E).toNat ≠ 0 := by have := Nat.mul_pos (Nat.pos_of_ne_zero hA) (Nat.two_pow_pos ((M : Int) - lo E).toNat); omega
  have hND : 2 * (A * 2 ^ ((M : Int) - lo E).toNat) < B * 2 ^ (lo E - (M : Int)).toNat := by
    rw [hz, Nat.pow_zero, Nat.mul_one]
    refine Nat.lt_of_le_of_lt ?_ h
    calc 2 * (A * 2 ^ ((M : Int) - lo E).toNat) = A * 2 ^ (((M : Int) - lo E).toNat + 1) := by rw [Nat.pow_succ]; ac_rfl
      _ ≤ _ := Nat.mul_le_mul_left _ (two_pow_le (by omega))
  have hrd : rnd 0 false (A * 2 ^ ((M : Int) - lo E).toNat) (B * 2 ^ (lo E - (M : Int)).toNat) = 0 := by
    rw [rnd_small 0 false hN hND (N' := 1) (D' := 8) (by decide) (by decide)]; rfl
  unfold rg rungOf
  rw [he, hrd]
  simp

theorem ten349 {j : Nat} (h : 349 ≤ j) {K : Nat} (hK : K = 1139) : 2 ^ K ≤ 10 ^ j := by
  obtain ⟨m, hm⟩ : ∃ m, m = 11 := ⟨_, rfl⟩
  calc 2 ^ K ≤ 2 ^ (102 * m + 26) := two_pow_le (by omega)
    _ = (2 ^ 102) ^ m * 2 ^ 26 := by rw [Nat.pow_add, Nat.pow_mul]
    _ ≤ (10 ^ 31) ^ m * 10 ^ 8 := Nat.mul_le_mul (Nat.pow_le_pow_left (by decide) m) (by decide)
    _ = 10 ^ (31 * m + 8) := by rw [Nat.pow_add, Nat.pow_mul]
    _ ≤ 10 ^ j := Nat.pow_le_pow_right (by decide) (by omega)

/-- a decimal's fraction -/
def dA (man : Nat) (q : Int) : Nat := man * 10 ^ q.toNat
def dB (q : Int) : Nat := 10 ^ (-q).toNat
theorem dB_ne (q : Int) : dB q ≠ 0 := by unfold dB; have := Nat.pow_pos (n := (-q).toNat) (show 0 < 10 by decide); omega
theorem dA_ne {man : Nat} (h : man ≠ 0) (q : Int) : dA man q ≠ 0 := by
  unfold dA; have := Nat.mul_pos (Nat.pos_of_ne_zero h) (Nat.pow_pos (n := q.toNat) (show 0 < 10 by decide)); omega

theorem dec_zero {E M man : Nat} (h1 : 2 ≤ E) (h2 : E ≤ 11) (h3 : 2 ≤ M) (h4 : M ≤ 52) (hman : man < 18446744073709551616) {q : Int} (h : man = 0 ∨ q < -348) : rfV E M 0 false (dA man q) (dB q) = 0 := by
  by_cases m0 : man = 0
  · unfold rfV dA; rw [m0, Nat.zero_mul, if_pos rfl]; rfl
  · have hq : q < -348 := by omega
    obtain ⟨K, hK⟩ : ∃ K, K = 1075 := ⟨_, rfl⟩
    refine rfV_zero h1 h2 h3 h4 (dA_ne m0 q) (dB_ne q) (K := K) (by omega) ?_
    unfold dA dB
    rw [show q.toNat = 0 by omega, Nat.pow_zero, Nat.mul_one]
    refine Nat.lt_of_lt_of_le ?_ (ten349 (j := (-q).toNat) (by omega) (K := 64 + K) (by omega))
    rw [Nat.pow_add]
    exact Nat.mul_lt_mul_of_pos_right hman (Nat.two_pow_pos _)

theorem dec_inf {E M man : Nat} (h1 : 2 ≤ E) (h2 : E ≤ 11) (h4 : M ≤ 52) (m0 : man ≠ 0) {q : Int} (hq : 347 < q) : rfV E M 0 false (dA man q) (dB q) = infR E M := by
  obtain ⟨K, hK⟩ : ∃ K, K = 1024 := ⟨_, rfl⟩
  have hbd := biasN_bd h1 h2
  rw [(slow_high h1 h2 h4 0 false (dA_ne m0 q) (dB_ne q) (K := K) (by omega) ?_).1, slV_gt h1 h4 (by decide) (by unfold sE; omega)]
  unfold dA dB
  rw [show (-q).toNat = 0 by omega, Nat.pow_zero, Nat.one_mul]
  calc 2 ^ K ≤ 2 ^ (3 * q.toNat) := two_pow_le (by omega)
    _ = (2 ^ 3) ^ q.toNat := by rw [Nat.pow_mul]
    _ ≤ 10 ^ q.toNat := Nat.pow_le_pow_left (by decide) _
    _ ≤ man * 10 ^ q.toNat := Nat.le_mul_of_pos_left _ (Nat.pos_of_ne_zero m0)

/-! ### the middle -/
/-- the law's own fractions: N times the unit -/
def uA (man : Nat) (q : Int) (N : Nat) : Nat := N * (man * 2 ^ (entX q).toNat)
def uB (q : Int) : Nat := 2 ^ (-(entX q)).toNat
theorem u_pat {E M : Nat} (h1 : 2 ≤ E) (h2 : E ≤ 11) {man N : Nat} (m0 : man ≠ 0) (hN : N ≠ 0) (q : Int) : rfV E M 0 false (uA man q N) (uB q) = patV E M (wv man * N) (lex man q) := by
  have a1 := Nat.two_pow_pos (entX q).toNat
  have a2 := Nat.two_pow_pos (lex man q).toNat
  have a3 := Nat.two_pow_pos (ld man)
  have hm := Nat.pos_of_ne_zero m0
  have hn := Nat.pos_of_ne_zero hN
  have b1 := Nat.mul_pos hn (Nat.mul_pos hm a1)
  have b2 : 0 < wv man * N * 2 ^ (lex man q).toNat := Nat.mul_pos (Nat.mul_pos (Nat.mul_pos hm a3) hn) a2
  have b3 := Nat.two_pow_pos (-(entX q)).toNat
  have b4 := Nat.two_pow_pos (-(lex man q)).toNat
  unfold patV
  refine rfV_congr h1 h2 (by unfold uA; omega) (by unfold uB; omega) (by omega) (by omega) ?_
  unfold uA uB wv
  have hl : lex man q = entX q - (ld man : Int) := rfl
  calc N * (man * 2 ^ (entX q).toNat) * 2 ^ (-(lex man q)).toNat = N * man * 2 ^ ((entX q).toNat + (-(lex man q)).toNat) := by rw [Nat.pow_add]; ac_rfl
    _ = N * man * 2 ^ (ld man + (lex man q).toNat + (-(entX q)).toNat) := by congr 2; omega
    _ = _ := by rw [Nat.pow_add, Nat.pow_add]; ac_rfl

theorem u_ne {man : Nat} (m0 : man ≠ 0) {N : Nat} (hN : N ≠ 0) (q : Int) : uA man q N ≠ 0 := by
  have := Nat.mul_pos (Nat.pos_of_ne_zero hN) (Nat.mul_pos (Nat.pos_of_ne_zero m0) (Nat.two_pow_pos (entX q).toNat))
  unfold uA; omega
theorem uB_ne (q : Int) : uB q ≠ 0 := by have := Nat.two_pow_pos (-(entX q)).toNat; unfold uB; omega

/-- what the second end is -/
def hiN (q : Int) : Nat := if 0 ≤ q ∧ q ≤ 55 then entT q else entT q + 1
theorem hi_slk (man : Nat) (q : Int) : wv man * hiN q = wv man * entT q + slk man q := by
  unfold hiN slk
  split
  · rw [Nat.add_zero]
  · rw [Nat.mul_succ]

/-- whether the entry is exact, in the law's own terms -/
theorem u_exact {man : Nat} (m0 : man ≠ 0) {q : Int} (h1 : -348 ≤ q) (h2 : q ≤ 347) : uA man q (entT q) * dB q = dA man q * uB q ↔ 0 ≤ q ∧ q ≤ 55 := by
  rw [← (ent_is q h1 (by omega)).ex]
  unfold uA uB dA dB
  have hm := Nat.pos_of_ne_zero m0
  have e1 : entT q * (man * 2 ^ (entX q).toNat) * 10 ^ (-q).toNat = man * (entT q * 2 ^ (entX q).toNat * 10 ^ (-q).toNat) := by ac_rfl
  have e2 : man * 10 ^ q.toNat * 2 ^ (-(entX q)).toNat = man * (10 ^ q.toNat * 2 ^ (-(entX q)).toNat) := by ac_rfl
  rw [e1, e2]
  exact ⟨fun h => Nat.eq_of_mul_eq_mul_left hm h, fun h => by rw [h]⟩

/-- THE LAW -/
theorem lemire_law {E M man : Nat} (hs : servB E M = true) (m0 : man ≠ 0) (hman : man < 18446744073709551616) {q : Int} (h1 : -348 ≤ q) (h2 : q ≤ 347) :
    (lemO E M man q = decide (rfV E M 0 false (uA man q (entT q)) (uB q) = rfV E M 0 false (uA man q (hiN q)) (uB q))) ∧ (lemO E M man q = false → lemV E M man q = 0) ∧ (lemO E M man q = true → lemV E M man q = rfV E M 0 false (dA man q) (dB q)) := by
  obtain ⟨e1, e2, e3, e4⟩ := serv_bd hs
  have hE := ent_is q h1 (by omega)
  obtain ⟨g1, g2, g3, g4⟩ := ent_hl h1 (show q ≤ 348 by omega)
  obtain ⟨w1, w2, _⟩ := wv_bd m0 hman
  have hT0 : entT q ≠ 0 := by have := hE.lo; omega
  have hH0 : hiN q ≠ 0 := by unfold hiN; split <;> omega
  have eL := u_pat (E := E) (M := M) e1 e2 m0 hT0 q
  have eU := u_pat (E := E) (M := M) e1 e2 m0 hH0 q
  rw [hi_slk] at eU
  have wp : 0 < wv man := by omega
  have hsl : slk man q ≤ wv man := by unfold slk; split <;> omega
  have hwH : 0 < wv man * entH q * 18446744073709551616 := Nat.mul_pos (Nat.mul_pos wp (by omega)) (by decide)
  have eT : wv man * entT q = wv man * entH q * 18446744073709551616 + wv man * entL q := by rw [← g1, Nat.mul_add, Nat.mul_assoc]
  have hLw : wv man * entL q + wv man ≤ wv man * 18446744073709551616 := by
    have := Nat.mul_le_mul_left (wv man) (show entL q + 1 ≤ 18446744073709551616 by omega)
    rwa [Nat.mul_succ] at this
  have eB : wv man * (entH q + 1) * 18446744073709551616 = wv man * entH q * 18446744073709551616 + wv man * 18446744073709551616 := by rw [show wv man * (entH q + 1) = wv man * entH q + wv man from Nat.mul_succ _ _, Nat.add_mul]
  have m1 : pA E M man q ≤ pL E M man q := by
    unfold pA pL
    exact pat_mono e1 e2 (by omega) (by rw [eT]; exact Nat.le_add_right _ _)
  have m2 : pL E M man q ≤ pU E M man q := by
    unfold pL pU
    exact pat_mono e1 e2 (by have := Nat.mul_pos wp (Nat.pos_of_ne_zero hT0); omega) (Nat.le_add_right _ _)
  have m3 : pU E M man q ≤ pB E M man q := by
    unfold pU pB
    refine pat_mono e1 e2 (by have := Nat.mul_pos wp (Nat.pos_of_ne_zero hT0); omega) ?_
    rw [eT, eB]; omega
  have hO : lemO E M man q = decide (pL E M man q = pU E M man q) := by
    unfold lemO
    rw [if_neg (by rw [hs]; decide), if_neg (by omega), if_neg (by omega)]
    by_cases c : pA E M man q = pB E M man q
    · rw [if_pos c]; symm; rw [decide_eq_true_iff]; omega
    · rw [if_neg c]
      by_cases d : pL E M man q = pU E M man q
      · rw [if_pos d]; symm; rw [decide_eq_true_iff]; exact d
      · rw [if_neg d]; symm; rw [decide_eq_false_iff_not]; exact d
  have hV : lemV E M man q = if pL E M man q = pU E M man q then pL E M man q else 0 := by
    unfold lemV
    rw [if_neg (by rw [hs]; decide), if_neg (by omega), if_neg (by omega)]
    by_cases c : pA E M man q = pB E M man q
    · rw [if_pos c, if_pos (by omega)]; omega
    · rw [if_neg c]
  refine ⟨by rw [hO, eL, eU]; rfl, fun h => ?_, fun h => ?_⟩
  · rw [hO, decide_eq_false_iff_not] at h
    rw [hV, if_neg h]
  · rw [hO, decide_eq_true_iff] at h
    rw [hV, if_pos h]
    have lo : pL E M man q ≤ rfV E M 0 false (dA man q) (dB q) := by
      have e : pL E M man q = rfV E M 0 false (uA man q (entT q)) (uB q) := eL.symm
      rw [e]
      refine rfV_mono e1 e2 (u_ne m0 hT0 q) (uB_ne q) (dA_ne m0 q) (dB_ne q) ?_
      unfold uA uB dA dB
      calc entT q * (man * 2 ^ (entX q).toNat) * 10 ^ (-q).toNat = man * (entT q * 2 ^ (entX q).toNat * 10 ^ (-q).toNat) := by ac_rfl
        _ ≤ man * (10 ^ q.toNat * 2 ^ (-(entX q)).toNat) := Nat.mul_le_mul_left _ hE.le
        _ = _ := by ac_rfl
    have hi : rfV E M 0 false (dA man q) (dB q) ≤ pU E M man q := by
      have e : pU E M man q = rfV E M 0 false (uA man q (hiN q)) (uB q) := eU.symm
      rw [e]
      refine rfV_mono e1 e2 (dA_ne m0 q) (dB_ne q) (u_ne m0 hH0 q) (uB_ne q) ?_
      by_cases c : 0 ≤ q ∧ q ≤ 55
      · have : hiN q = entT q := by unfold hiN; rw [if_pos c]
        rw [this]
        exact Nat.le_of_eq ((u_exact m0 h1 h2).2 c).symm
      · have : hiN q = entT q + 1 := by unfold hiN; rw [if_neg c]
        rw [this]
        unfold uA uB dA dB
        calc man * 10 ^ q.toNat * 2 ^ (-(entX q)).toNat = man * (10 ^ q.toNat * 2 ^ (-(entX q)).toNat) := by ac_rfl
          _ ≤ man * ((entT q + 1) * 2 ^ (entX q).toNat * 10 ^ (-q).toNat) := Nat.mul_le_mul_left _ (Nat.le_of_lt hE.lt)
          _ = _ := by ac_rfl
    omega
end Go.Proofs.Ygcoaf
