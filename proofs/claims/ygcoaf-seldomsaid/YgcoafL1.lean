/-
  LEMIRE, the plain laws: rounding to nearest is monotone; a pattern of 192 bits.
-/
import Derived.Test.YgcoafT15
import Derived.Test.YgcoafY1
namespace Go.Proofs.Ygcoaf
open Go.RowKit Go.Proofs.Ygcoaf.M

/-- rounding to nearest is monotone -/
theorem rnd_mono0 (neg : Bool) {n n' d : Nat} (hd : 0 < d) (h : n ≤ n') : rnd 0 neg n d ≤ rnd 0 neg n' d := by
  have e : ∀ m, m = d * (m / d) + m % d := fun m => (Nat.div_add_mod m d).symm
  have l : ∀ m, m % d < d := fun m => Nat.mod_lt _ hd
  have hq : n / d ≤ n' / d := Nat.div_le_div_right h
  rcases Nat.lt_or_ge (n / d) (n' / d) with c | c
  · unfold rnd
    have h1 : (ups 0 neg n d).toNat ≤ 1 := Bool.toNat_le _
    omega
  · have hqe : n / d = n' / d := by omega
    have hr : n % d ≤ n' % d := by
      have a := e n
      have b := e n'
      rw [hqe] at a
      omega
    unfold rnd ups
    simp only [show ¬ ((0 : Nat) = 1) by decide, show ¬ ((0 : Nat) = 2) by decide, show ¬ ((0 : Nat) = 3) by decide, show ¬ ((0 : Nat) = 4) by decide, if_false, hqe]
    apply Nat.add_le_add_left
    by_cases c1 : d < 2 * (n % d)
    · have : d < 2 * (n' % d) := by omega
      simp [c1, this]
    · by_cases c2 : d = 2 * (n % d)
      · by_cases c3 : d < 2 * (n' % d)
        · simp only [c3, decide_true, Bool.true_or, Bool.toNat_true]; exact Bool.toNat_le _
        · have c4 : d = 2 * (n' % d) := by omega
          have : (d == 2 * (n % d)) = (d == 2 * (n' % d)) := by rw [Bool.eq_iff_iff, beq_iff_eq, beq_iff_eq]; omega
          simp [c1, c3, this]
      · have c5 : (d == 2 * (n % d)) = false := by rw [beq_eq_false_iff_ne]; exact c2
        simp [c1, c5]

theorem rnd_mono (neg : Bool) {n d n' d' : Nat} (hd : 0 < d) (hd' : 0 < d') (h : n * d' ≤ n' * d) : rnd 0 neg n d ≤ rnd 0 neg n' d' := by
  rw [← rnd_scale 0 neg n d d' hd', ← rnd_scale 0 neg n' d' d hd, Nat.mul_comm d' d]
  exact rnd_mono0 neg (Nat.mul_pos hd hd') h

/-- the exponents go with the fractions -/
theorem rlog_mono {A B A' B' : Nat} (hA : A ≠ 0) (hB : B ≠ 0) (hA' : A' ≠ 0) (hB' : B' ≠ 0) (h : A * B' ≤ A' * B) : rlog A B ≤ rlog A' B' := by
  obtain ⟨_, a2, _⟩ := rlog_is A B hA hB
  obtain ⟨_, _, b3⟩ := rlog_is A' B' hA' hB'
  generalize rlog A B = r at *
  generalize rlog A' B' = r' at *
  rcases Int.lt_or_le r' r with c | c
  · exfalso
    -- B*2^r⁺ ≤ A*2^(-r)⁺ ; A'*2^(-(r'+1))⁺ < B'*2^(r'+1)⁺ ; r' + 1 ≤ r
    have hBp := Nat.pos_of_ne_zero hB
    have hBp' := Nat.pos_of_ne_zero hB'
    have k : B * 2 ^ r.toNat * B' * 2 ^ (-(r' + 1)).toNat < B * 2 ^ (-r).toNat * B' * 2 ^ (r' + 1).toNat := by
      calc B * 2 ^ r.toNat * B' * 2 ^ (-(r' + 1)).toNat ≤ A * 2 ^ (-r).toNat * B' * 2 ^ (-(r' + 1)).toNat := Nat.mul_le_mul_right _ (Nat.mul_le_mul_right _ a2)
        _ = A * B' * (2 ^ (-r).toNat * 2 ^ (-(r' + 1)).toNat) := by ac_rfl
        _ ≤ A' * B * (2 ^ (-r).toNat * 2 ^ (-(r' + 1)).toNat) := Nat.mul_le_mul_right _ h
        _ = A' * 2 ^ (-(r' + 1)).toNat * (B * 2 ^ (-r).toNat) := by ac_rfl
        _ < B' * 2 ^ (r' + 1).toNat * (B * 2 ^ (-r).toNat) := Nat.mul_lt_mul_of_pos_right b3 (Nat.mul_pos hBp (Nat.two_pow_pos _))
        _ = _ := by ac_rfl
    have k2 : B * B' * 2 ^ (r.toNat + (-(r' + 1)).toNat) < B * B' * 2 ^ ((-r).toNat + (r' + 1).toNat) := by
      rw [Nat.pow_add, Nat.pow_add]
      calc _ = B * 2 ^ r.toNat * B' * 2 ^ (-(r' + 1)).toNat := by ac_rfl
        _ < _ := k
        _ = _ := by ac_rfl
    have k3 : 2 ^ ((-r).toNat + (r' + 1).toNat) ≤ 2 ^ (r.toNat + (-(r' + 1)).toNat) := two_pow_le (by omega)
    have k4 := Nat.mul_le_mul_left (B * B') k3
    omega
  · exact c

/-- the rung at the fraction's own exponent -/
def rg (E M : Nat) (A B : Nat) : Nat := rungOf M (lo E) 0 false A B (max (rlog A B) (lo E))

theorem rg_mono (E M : Nat) {A B A' B' : Nat} (hA : A ≠ 0) (hB : B ≠ 0) (hA' : A' ≠ 0) (hB' : B' ≠ 0) (h : A * B' ≤ A' * B) : rg E M A B ≤ rg E M A' B' := by
  have hl := rlog_mono hA hB hA' hB' h
  have top := rnd_top M 0 false A B hA hB (max (rlog A B) (lo E)) (by omega)
  obtain ⟨_, b2, _⟩ := rlog_is A' B' hA' hB'
  unfold rg rungOf
  obtain ⟨e, he⟩ : ∃ e, e = max (rlog A B) (lo E) := ⟨_, rfl⟩
  obtain ⟨e', he'⟩ : ∃ e', e' = max (rlog A' B') (lo E) := ⟨_, rfl⟩
  rw [← he] at top ⊢
  rw [← he']
  rw [show -((M : Int) - e) = e - M by omega] at top
  rcases Int.lt_or_le e e' with c | c
  · -- the exponent grows: the greater is normal
    have hr' : rlog A' B' = e' := by omega
    rw [hr'] at b2
    have low : 2 ^ M ≤ rnd 0 false (A' * 2 ^ ((M : Int) - e').toNat) (B' * 2 ^ (e' - M).toNat) := by
      refine Nat.le_trans ?_ (Nat.le_add_right _ _)
      rw [Nat.le_div_iff_mul_le (Nat.mul_pos (Nat.pos_of_ne_zero hB') (Nat.two_pow_pos _))]
      have h4 : 2 ^ M * (B' * 2 ^ (e' - M).toNat) * 2 ^ (-e').toNat ≤ A' * 2 ^ ((M : Int) - e').toNat * 2 ^ (-e').toNat := by
        calc 2 ^ M * (B' * 2 ^ (e' - M).toNat) * 2 ^ (-e').toNat = B' * 2 ^ (M + (e' - M).toNat + (-e').toNat) := by rw [Nat.pow_add, Nat.pow_add]; ac_rfl
          _ = B' * 2 ^ (e'.toNat + ((M : Int) - e').toNat) := by congr 2; omega
          _ = B' * 2 ^ e'.toNat * 2 ^ ((M : Int) - e').toNat := by rw [Nat.pow_add]; ac_rfl
          _ ≤ A' * 2 ^ (-e').toNat * 2 ^ ((M : Int) - e').toNat := Nat.mul_le_mul_right _ b2
          _ = _ := by ac_rfl
      exact Nat.le_of_mul_le_mul_right h4 (Nat.two_pow_pos _)
    have hm : ((e - lo E).toNat + 1) * 2 ^ M ≤ (e' - lo E).toNat * 2 ^ M := Nat.mul_le_mul_right _ (by omega)
    rw [Nat.succ_mul] at hm
    rw [Nat.pow_succ] at top
    omega
  · have hee : e = e' := by omega
    rw [← hee]
    apply Nat.add_le_add_left
    apply rnd_mono false (Nat.mul_pos (Nat.pos_of_ne_zero hB) (Nat.two_pow_pos _)) (Nat.mul_pos (Nat.pos_of_ne_zero hB') (Nat.two_pow_pos _))
    calc A * 2 ^ ((M : Int) - e).toNat * (B' * 2 ^ (e - M).toNat) = A * B' * (2 ^ ((M : Int) - e).toNat * 2 ^ (e - M).toNat) := by ac_rfl
      _ ≤ A' * B * (2 ^ ((M : Int) - e).toNat * 2 ^ (e - M).toNat) := Nat.mul_le_mul_right _ h
      _ = _ := by ac_rfl

theorem rfV_min {E M : Nat} (h1 : 2 ≤ E) (h2 : E ≤ 11) {A B : Nat} (hA : A ≠ 0) (hB : B ≠ 0) : rfV E M 0 false A B = min (rg E M A B) (infR E M) := by
  rw [rfV_near h1 h2 false A B hA hB]
  unfold ratNear rg
  simp [sgn]

/-- THE LAW: rounding to nearest is monotone -/
theorem rfV_mono {E M : Nat} (h1 : 2 ≤ E) (h2 : E ≤ 11) {A B A' B' : Nat} (hA : A ≠ 0) (hB : B ≠ 0) (hA' : A' ≠ 0) (hB' : B' ≠ 0) (h : A * B' ≤ A' * B) : rfV E M 0 false A B ≤ rfV E M 0 false A' B' := by
  rw [rfV_min h1 h2 hA hB, rfV_min h1 h2 hA' hB']
  have := rg_mono E M hA hB hA' hB' h
  omega
theorem rfV_congr {E M : Nat} (h1 : 2 ≤ E) (h2 : E ≤ 11) {A B A' B' : Nat} (hA : A ≠ 0) (hB : B ≠ 0) (hA' : A' ≠ 0) (hB' : B' ≠ 0) (h : A * B' = A' * B) : rfV E M 0 false A B = rfV E M 0 false A' B' :=
  Nat.le_antisymm (rfV_mono h1 h2 hA hB hA' hB' (Nat.le_of_eq h)) (rfV_mono h1 h2 hA' hB' hA hB (Nat.le_of_eq h.symm))

/-! ### the pattern of N * 2^exp -/
def patV (E M N : Nat) (exp : Int) : Nat := rfV E M 0 false (N * 2 ^ exp.toNat) (2 ^ (-exp).toNat)

theorem pat_sm (N j : Nat) (exp : Int) : Sm (N * 2 ^ exp.toNat) (2 ^ (-exp).toNat) N (2 ^ j) (exp + j) := by
  refine ⟨Nat.two_pow_pos _, Nat.two_pow_pos _, ?_⟩
  calc N * 2 ^ exp.toNat * (2 ^ j * 2 ^ (-(exp + j)).toNat) = N * 2 ^ (exp.toNat + j + (-(exp + (j : Int))).toNat) := by rw [Nat.pow_add, Nat.pow_add]; ac_rfl
    _ = N * 2 ^ ((exp + (j : Int)).toNat + (-exp).toNat) := by congr 2; omega
    _ = _ := by rw [Nat.pow_add]; ac_rfl

/-- the leading 64 bits, with what is left, tell the pattern -/
theorem pat_st {E M : Nat} (h1 : 2 ≤ E) (h4 : M ≤ 52) {N j : Nat} {exp : Int} (hq1 : 9223372036854775808 ≤ N / 2 ^ j) (hq2 : N / 2 ^ j < 18446744073709551616) : patV E M N exp = slV E M 0 false (st N (2 ^ j)) (exp + j) := by
  have hN : N ≠ 0 := by
    intro h
    rw [h, Nat.zero_div] at hq1
    omega
  have hA : N * 2 ^ exp.toNat ≠ 0 := by have := Nat.mul_pos (Nat.pos_of_ne_zero hN) (Nat.two_pow_pos exp.toNat); omega
  exact (slow_law h1 h4 0 false (pat_sm N j exp) hA hq1 hq2).1

theorem pat_mono {E M : Nat} (h1 : 2 ≤ E) (h2 : E ≤ 11) {N N' : Nat} {exp : Int} (hN : N ≠ 0) (h : N ≤ N') : patV E M N exp ≤ patV E M N' exp := by
  have p := Nat.two_pow_pos exp.toNat
  have q := Nat.two_pow_pos (-exp).toNat
  have a := Nat.mul_pos (Nat.pos_of_ne_zero hN) p
  have b := Nat.mul_pos (show 0 < N' by omega) p
  exact rfV_mono h1 h2 (by omega) (by omega) (by omega) (by omega) (Nat.mul_le_mul_right _ (Nat.mul_le_mul_right _ h))

/-! ### lemire.round -/
/-- up to the greatest exponent the rung does not pass infinity -/
theorem sX_le {E M : Nat} (h1 : 2 ≤ E) (h4 : M ≤ 52) {sig : Nat} {p : Int} (hs : sig < 18446744073709551616) (he : sE E p ≤ biasN E) : sX E M 0 false sig p ≤ infR E M := by
  have hbt := bias_two h1
  have hlo : lo E = 1 - biasN E := rfl
  have hc := cast_two_pow E
  have h22 : 2 ^ 2 ≤ 2 ^ E := two_pow_le h1
  have hel : lo E ≤ sE E p := by unfold sE; omega
  have hk : 63 - M ≤ sK E M p := by unfold sK sE; omega
  have hr : rnd 0 false sig (2 ^ sK E M p) ≤ 2 ^ (M + 1) := by
    have hle := rnd_le 0 false sig (2 ^ sK E M p)
    have : sig / 2 ^ sK E M p < 2 ^ (M + 1) := by
      rw [Nat.div_lt_iff_lt_mul (Nat.two_pow_pos _), ← Nat.pow_add]
      exact Nat.lt_of_lt_of_le hs (two_pow_le (a := 64) (by omega))
    omega
  unfold sX infR
  have hm : (sE E p - lo E).toNat * 2 ^ M ≤ (2 ^ E - 3) * 2 ^ M := Nat.mul_le_mul_right _ (by omega)
  have hi : (2 ^ E - 1) * 2 ^ M = (2 ^ E - 3) * 2 ^ M + 2 * 2 ^ M := by rw [← Nat.add_mul]; congr 1; omega
  rw [Nat.pow_succ] at hr
  omega
theorem slV_le {E M : Nat} (h1 : 2 ≤ E) (h4 : M ≤ 52) {sig : Nat} {p : Int} (h0 : sig ≠ 0) (hs : sig < 18446744073709551616) (he : sE E p ≤ biasN E) : slV E M 0 false sig p = sX E M 0 false sig p := by
  have := sX_le h1 h4 hs he
  unfold slV
  rw [if_neg h0]
  unfold packV
  by_cases c : infR E M ≤ sX E M 0 false sig p
  · rw [if_pos c]; unfold ovf; simp [sgn]; omega
  · rw [if_neg c]; simp [sgn]
theorem slV_gt {E M : Nat} (h1 : 2 ≤ E) (h4 : M ≤ 52) {sig : Nat} {p : Int} (hs : 9223372036854775808 ≤ sig) (he : biasN E < sE E p) : slV E M 0 false sig p = infR E M := by
  have hlo : lo E = 1 - biasN E := rfl
  have hbt := bias_two h1
  have hbp : 1 ≤ biasN E := by have : 2 ^ 2 ≤ 2 ^ E := two_pow_le h1; have h9 := cast_two_pow E; omega
  have hi := big_inf (mode := 0) h1 h4 false hs (p := p) (by unfold sE at he; omega)
  unfold slV packV
  rw [if_neg (by omega), if_pos hi]
  unfold ovf
  simp [sgn]
end Go.Proofs.Ygcoaf
