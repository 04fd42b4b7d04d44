/-
  SELDOM: the plain law: where Lemire declines the decimal is a midpoint.
-/
import Derived.Test.YgcoafQ2
import Derived.Test.YgcoafL16
namespace Go.Proofs.Ygcoaf
open Go.RowKit Go.Proofs.Ygcoaf.M

/-- two multiples of G that are less than G apart -/
theorem near_mult {G x y X Y d : Nat} (hX : X = x * G) (hY : Y = y * G) (h1 : X ≤ Y + d) (h2 : Y ≤ X + d) (hd : d < G) : X = Y := by
  subst hX hY
  rcases Nat.lt_trichotomy x y with c | c | c
  · have := Nat.mul_le_mul_right G c
    rw [Nat.succ_mul] at this
    omega
  · rw [c]
  · have := Nat.mul_le_mul_right G c
    rw [Nat.succ_mul] at this
    omega

/-- the small powers: a midpoint within the table's error is the number itself -/
theorem exact_small {nn : Nat} (h1 : 1 ≤ nn) (h2 : nn ≤ 27) {w K j : Nat} (hw : w < 18446744073709551616) (hj : 137 ≤ j)
    (g1 : w * (2 ^ (127 + bl (5 ^ nn)) / 5 ^ nn) ≤ K * 2 ^ j) (g2 : K * 2 ^ j ≤ w * (2 ^ (127 + bl (5 ^ nn)) / 5 ^ nn) + w) : K * 2 ^ j * 5 ^ nn = w * 2 ^ (127 + bl (5 ^ nn)) := by
  have hP : 0 < 5 ^ nn := Nat.pow_pos (by decide)
  have hb3 : 3 ≤ bl (5 ^ nn) := by
    have a := bl_hi (5 ^ nn)
    have b : 5 ^ 1 ≤ 5 ^ nn := Nat.pow_le_pow_right (by decide) h1
    rcases Nat.lt_or_ge (bl (5 ^ nn)) 3 with c | c
    · have : 2 ^ bl (5 ^ nn) ≤ 2 ^ 2 := two_pow_le (by omega)
      omega
    · exact c
  have hPb : 5 ^ nn ≤ 5 ^ 27 := Nat.pow_le_pow_right (by decide) h2
  obtain ⟨b, hb⟩ : ∃ b, b = bl (5 ^ nn) := ⟨_, rfl⟩
  rw [← hb] at g1 g2 hb3 ⊢
  obtain ⟨P, hPP⟩ : ∃ P, P = 5 ^ nn := ⟨_, rfl⟩
  rw [← hPP] at g1 g2 hP hPb ⊢
  clear hb hPP
  obtain ⟨T, hT⟩ : ∃ T, T = 2 ^ (127 + b) / P := ⟨_, rfl⟩
  rw [← hT] at g1 g2
  have d1 := Nat.div_add_mod (2 ^ (127 + b)) P
  have d2 := Nat.mod_lt (2 ^ (127 + b)) hP
  rw [← hT] at d1
  have hwP : w * P < 2 ^ 130 := by
    calc w * P ≤ 18446744073709551615 * 5 ^ 27 := Nat.mul_le_mul (by omega) hPb
      _ < 2 ^ 130 := by decide
  obtain ⟨g, hg⟩ : ∃ g, g = 130 := ⟨_, rfl⟩
  rw [← hg] at hwP
  refine near_mult (G := 2 ^ g) (x := K * 2 ^ (j - g) * P) (y := w * 2 ^ (b - 3)) (d := w * P) ?_ ?_ ?_ ?_ hwP
  · obtain ⟨i, hi⟩ : ∃ i, i = j - g := ⟨_, rfl⟩
    rw [← hi, show j = i + g by omega, Nat.pow_add]; ac_rfl
  · obtain ⟨i, hi⟩ : ∃ i, i = b - 3 := ⟨_, rfl⟩
    rw [← hi, show 127 + b = i + g by omega, Nat.pow_add]; ac_rfl
  · -- X ≤ w (T+1) P ≤ Y + w P
    have a1 := Nat.mul_le_mul_right P g2
    have a2 : (w * T + w) * P = w * (P * T) + w * P := by grind
    have a3 : w * (P * T) ≤ w * 2 ^ (127 + b) := Nat.mul_le_mul_left _ (by omega)
    omega
  · have a1 := Nat.mul_le_mul_right P g1
    have a2 : w * T * P = w * (P * T) := by grind
    have a3 : w * 2 ^ (127 + b) ≤ w * (P * T + P) := Nat.mul_le_mul_left _ (by omega)
    have a4 : w * (P * T + P) = w * (P * T) + w * P := by grind
    omega

/-- a decimal that is n and a half at the exponent e -/
structure Tie (E M man n : Nat) (q e : Int) : Prop where
  lo : lo E ≤ e
  top : n < 2 ^ (M + 1)
  norm : 2 ^ M ≤ n ∨ e = Go.Proofs.Ygcoaf.lo E
  fin : (e - Go.Proofs.Ygcoaf.lo E).toNat * 2 ^ M + n < infR E M
  eq : dA man q * 2 ^ (-(e - M - 1)).toNat = (2 * n + 1) * 2 ^ (e - M - 1).toNat * dB q

/-- THE LAW: where Lemire declines the decimal is a tie -/
theorem seldom_tie {E M man : Nat} (hs : servB E M = true) (hman : man < 18446744073709551616) {q : Int} (hO : lemO E M man q = false) :
    man ≠ 0 ∧ -348 ≤ q ∧ q ≤ 347 ∧ ∃ n e, Tie E M man n q e := by
  obtain ⟨e1, e2, e3, e4⟩ := serv_bd hs
  have m0 : man ≠ 0 := by
    intro h
    unfold lemO at hO
    rw [if_neg (by rw [hs]; decide), if_pos (Or.inl h)] at hO
    exact absurd hO (by decide)
  have h1 : -348 ≤ q := by
    rcases Int.lt_or_le q (-348) with c | c
    · unfold lemO at hO
      rw [if_neg (by rw [hs]; decide), if_pos (Or.inr c)] at hO
      exact absurd hO (by decide)
    · exact c
  have h2 : q ≤ 347 := by
    rcases Int.lt_or_le 347 q with c | c
    · unfold lemO at hO
      rw [if_neg (by rw [hs]; decide), if_neg (by omega), if_pos c] at hO
      exact absurd hO (by decide)
    · exact c
  refine ⟨m0, h1, h2, ?_⟩
  have hE := ent_is q h1 (by omega)
  have hl := (lemire_law hs m0 hman h1 h2).1
  rw [hO] at hl
  have hne := of_decide_eq_false hl.symm
  have hT0 : entT q ≠ 0 := by have := hE.lo; omega
  have hnx : ¬ (0 ≤ q ∧ q ≤ 55) := by
    intro c
    apply hne
    have : hiN q = entT q := by unfold hiN; rw [if_pos c]
    rw [this]
  have hhi : hiN q = entT q + 1 := by unfold hiN; rw [if_neg hnx]
  rw [hhi, u_pat e1 e2 m0 hT0 q, u_pat e1 e2 m0 (by omega) q] at hne
  obtain ⟨w1, w2, w3⟩ := wv_bd m0 hman
  have hmul : wv man * (entT q + 1) = wv man * entT q + wv man := Nat.mul_succ _ _
  rw [hmul] at hne
  obtain ⟨bb, hbb⟩ : ∃ bb, bb = 190 := ⟨_, rfl⟩
  have h190 : 2 ^ bb ≤ wv man * entT q := by
    rw [show bb = 63 + 127 by omega, Nat.pow_add]
    exact Nat.mul_le_mul w1 hE.lo
  obtain ⟨n, e, j, mid, hj, hm1, hm2⟩ := mid_between e1 e2 e4 hbb h190 (Nat.le_add_right _ (wv man)) hne
  -- k * 2^137
  have hk : (2 * n + 1) * 2 ^ j = (2 * n + 1) * 2 ^ (j - 137) * 174224571863520493293247799005065324265472 := by
    rw [← p137, Nat.mul_assoc, ← Nat.pow_add, show j - 137 + 137 = j by omega]
  rcases Int.lt_or_le q (-27) with c | c
  · exact (no_mid (q := q) (Or.inl ⟨h1, by omega⟩) (by omega) w2 (by rw [← hk]; exact hm1) (by rw [← hk]; exact hm2)).elim
  rcases Int.lt_or_le 55 q with d | d
  · exact (no_mid (q := q) (Or.inr ⟨by omega, h2⟩) (by omega) w2 (by rw [← hk]; exact hm1) (by rw [← hk]; exact hm2)).elim
  -- a small negative power
  obtain ⟨nn, hnn⟩ : ∃ nn : Nat, q = -(nn : Int) := ⟨(-q).toNat, by omega⟩
  have hf : fiv q = 5 ^ nn := by unfold fiv; congr 1; omega
  have hT : entT q = 2 ^ (127 + bl (5 ^ nn)) / 5 ^ nn := by unfold entT; rw [if_pos (by omega), hf]
  have hX : entX q = q - ((127 + bl (5 ^ nn) : Nat) : Int) := by unfold entX; rw [if_pos (by omega), hf]
  rw [hT] at hm1 hm2
  have hx := exact_small (by omega) (by omega) w2 hj hm1 hm2
  refine ⟨n, e, mid.lo, mid.top, mid.norm, mid.fin, ?_⟩
  have hjj := mid.hj
  unfold lex at hjj
  rw [hX] at hjj
  unfold wv at hx
  unfold dA dB
  rw [show q.toNat = 0 by omega, show (-q).toNat = nn by omega, Nat.pow_zero, Nat.mul_one, ten_pow]
  obtain ⟨b, hb⟩ : ∃ b, b = 127 + bl (5 ^ nn) := ⟨_, rfl⟩
  rw [← hb] at hx hjj
  clear hb
  obtain ⟨cz, hcz⟩ : ∃ cz : Int, cz = e - M - 1 := ⟨_, rfl⟩
  rw [← hcz]
  apply Nat.eq_of_mul_eq_mul_right (Nat.two_pow_pos (ld man + b))
  calc man * 2 ^ (-cz).toNat * 2 ^ (ld man + b) = man * 2 ^ ld man * 2 ^ b * 2 ^ (-cz).toNat := by rw [Nat.pow_add]; ac_rfl
    _ = (2 * n + 1) * 2 ^ j * 5 ^ nn * 2 ^ (-cz).toNat := by rw [hx]
    _ = (2 * n + 1) * 5 ^ nn * 2 ^ (j + (-cz).toNat) := by rw [Nat.pow_add]; ac_rfl
    _ = (2 * n + 1) * 5 ^ nn * 2 ^ (cz.toNat + nn + (ld man + b)) := by congr 2; omega
    _ = _ := by rw [Nat.pow_add 2 (cz.toNat + nn), Nat.pow_add 2 cz.toNat]; ac_rfl
end Go.Proofs.Ygcoaf
