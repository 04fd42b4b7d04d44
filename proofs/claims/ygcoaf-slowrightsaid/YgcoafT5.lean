/-
  slow.big.shl.
-/
import Derived.Test.YgcoafT4
namespace Go.Proofs.Ygcoaf
open Go.RowKit Go.Proofs.Ygcoaf.M

/-- what goes over from limb u - 1 -/
def cyF (ws : List Nat) (s u : Nat) : Nat := if u = 0 then 0 else ws.getD (u - 1) 0 / 2 ^ (64 - s)
/-- limb t of the number moved up by mv limbs and s bits -/
def shF (ws : List Nat) (mv s t : Nat) : Nat := if t < mv then 0 else ws.getD (t - mv) 0 * 2 ^ s % 18446744073709551616 + cyF ws s (t - mv)
def sumF (F : Nat → Nat) : Nat → Nat
  | 0 => 0
  | t + 1 => sumF F t + 18446744073709551616 ^ t * F t
theorem lw_sumF (vs : List Nat) (F : Nat → Nat) : ∀ T, (∀ t, t < T → vs.getD t 0 = F t) → lw (vs.take T) = sumF F T
  | 0, _ => rfl
  | T + 1, h => by rw [lw_take_next, h T (by omega), sumF, lw_sumF vs F T (fun t ht => h t (by omega))]

theorem split_64 (s : Nat) (hs : s < 64) : 18446744073709551616 = 2 ^ (64 - s) * 2 ^ s := by rw [← Nat.pow_add, show 64 - s + s = 64 from by omega]
theorem hi_part (x s : Nat) (hs : s < 64) : x * 2 ^ s / 18446744073709551616 = x / 2 ^ (64 - s) := by
  rw [split_64 s hs, Nat.mul_div_mul_right _ _ (Nat.two_pow_pos s)]
theorem lo_part (x s : Nat) (hs : s < 64) : x * 2 ^ s % 18446744073709551616 = x % 2 ^ (64 - s) * 2 ^ s := by
  rw [split_64 s hs, Nat.mul_mod_mul_right]
theorem cyF_lt (ws : List Nat) (h : Lim6 ws) (s u : Nat) (hs : s < 64) : cyF ws s u < 2 ^ s := by
  unfold cyF
  split
  · exact Nat.two_pow_pos s
  · rw [Nat.div_lt_iff_lt_mul (Nat.two_pow_pos _), Nat.mul_comm, ← split_64 s hs]
    by_cases c : u - 1 < ws.length
    · exact h _ c
    · rw [List.getD_eq_getElem?_getD, List.getElem?_eq_none (by omega)]; decide

theorem sumF_low (ws : List Nat) (mv s : Nat) : ∀ t, t ≤ mv → sumF (shF ws mv s) t = 0
  | 0, _ => rfl
  | t + 1, h => by rw [sumF, sumF_low ws mv s t (by omega), shF, if_pos (by omega)]; simp
theorem sumF_shF (ws : List Nat) (mv s : Nat) (hs : s < 64) : ∀ u, sumF (shF ws mv s) (mv + u) + 18446744073709551616 ^ (mv + u) * cyF ws s u = lw (ws.take u) * 2 ^ s * 18446744073709551616 ^ mv
  | 0 => by rw [Nat.add_zero, sumF_low ws mv s mv (Nat.le_refl _), cyF, if_pos rfl]; simp [lw]
  | u + 1 => by
    have ih := sumF_shF ws mv s hs u
    rw [show mv + (u + 1) = mv + u + 1 from by omega, sumF, lw_take_next, Nat.pow_succ]
    have hF : shF ws mv s (mv + u) = ws.getD u 0 * 2 ^ s % 18446744073709551616 + cyF ws s u := by
      unfold shF; rw [if_neg (by omega), show mv + u - mv = u from by omega]
    have hc : cyF ws s (u + 1) = ws.getD u 0 * 2 ^ s / 18446744073709551616 := by
      unfold cyF; rw [if_neg (by omega), Nat.add_sub_cancel, hi_part _ _ hs]
    rw [hF, hc]
    have hdm := Nat.div_add_mod (ws.getD u 0 * 2 ^ s) 18446744073709551616
    rw [Nat.pow_add] at ih ⊢
    generalize ws.getD u 0 * 2 ^ s / 18446744073709551616 = q at *
    generalize ws.getD u 0 * 2 ^ s % 18446744073709551616 = r at *
    generalize sumF (shF ws mv s) (mv + u) = S at *
    generalize cyF ws s u = c at *
    generalize lw (ws.take u) = X at *
    generalize ws.getD u 0 = x at *
    generalize 18446744073709551616 ^ mv = P at *
    generalize 18446744073709551616 ^ u = Q at *
    generalize 2 ^ s = Z at *
    clear hF hc
    grind

theorem shF_lt (ws : List Nat) (h : Lim6 ws) (mv s t : Nat) (hs : s < 64) : shF ws mv s t < 18446744073709551616 := by
  unfold shF
  split
  · decide
  · have a := cyF_lt ws h s (t - mv) hs
    rw [lo_part _ _ hs]
    have b := Nat.mod_lt (ws.getD (t - mv) 0) (Nat.two_pow_pos (64 - s))
    have c : (ws.getD (t - mv) 0 % 2 ^ (64 - s) + 1) * 2 ^ s ≤ 2 ^ (64 - s) * 2 ^ s := Nat.mul_le_mul_right _ b
    rw [← split_64 s hs, Nat.add_mul] at c
    omega

/-- all of it -/
theorem shl_sum (ws : List Nat) (n N mv s n' : Nat) (hs : s < 64) (hv : lw ws = N) (hz : ∀ i, n ≤ i → ws.getD i 0 = 0) (hmv : mv ≤ 51) (hn' : n' = min (n + mv + 1) 52) (hfit : N * 2 ^ (64 * mv + s) < 18446744073709551616 ^ 52) :
    sumF (shF ws mv s) n' = N * 2 ^ (64 * mv + s) := by
  have hpow : 2 ^ (64 * mv + s) = 2 ^ s * 18446744073709551616 ^ mv := by rw [Nat.pow_add, p64_pow, Nat.mul_comm]
  by_cases c : n + mv + 1 ≤ 52
  · have e : n' = mv + (n + 1) := by omega
    have h := sumF_shF ws mv s hs (n + 1)
    have hc0 : cyF ws s (n + 1) = 0 := by unfold cyF; rw [if_neg (by omega), Nat.add_sub_cancel, hz n (Nat.le_refl _)]; simp
    rw [hc0, Nat.mul_zero, Nat.add_zero, lw_high ws n hz 1, ← lw_all ws n hz, hv] at h
    rw [e, h, hpow, Nat.mul_assoc]
  · obtain ⟨u, hu⟩ : ∃ u, 52 = mv + u := ⟨52 - mv, by omega⟩
    have e : n' = mv + u := by omega
    have h := sumF_shF ws mv s hs u
    rw [hu] at hfit
    have hle : lw (ws.take u) ≤ N := by
      rw [← hv]
      conv => rhs; rw [← List.take_append_drop u ws, lw_append]
      omega
    have hlow : ∀ i, u ≤ i → ws.getD i 0 = 0 := by
      intro i hi
      by_cases c0 : ws.getD i 0 = 0
      · exact c0
      · exfalso
        have h1 : 18446744073709551616 ^ i ≤ N := by
          have a := lw_take_next ws i
          have b : lw (ws.take (i + 1)) ≤ N := by
            rw [← hv]
            conv => rhs; rw [← List.take_append_drop (i + 1) ws, lw_append]
            omega
          have c9 : 18446744073709551616 ^ i * 1 ≤ 18446744073709551616 ^ i * ws.getD i 0 := Nat.mul_le_mul_left _ (by omega)
          omega
        have h2 : 18446744073709551616 ^ u ≤ 18446744073709551616 ^ i := Nat.pow_le_pow_right (by decide) hi
        have h3 : 18446744073709551616 ^ u * 18446744073709551616 ^ mv ≤ N * 2 ^ (64 * mv + s) := by
          rw [hpow]
          refine Nat.mul_le_mul (Nat.le_trans h2 h1) ?_
          exact Nat.le_mul_of_pos_left _ (Nat.two_pow_pos s)
        rw [← Nat.pow_add, Nat.add_comm u mv] at h3
        omega
    rw [← lw_all ws u hlow, hv] at h
    have hN : N * 2 ^ s * 18446744073709551616 ^ mv = N * 2 ^ (64 * mv + s) := by rw [hpow, Nat.mul_assoc]
    rw [hN] at h
    have hc0 : cyF ws s u = 0 := by
      by_cases c0 : cyF ws s u = 0
      · exact c0
      · exfalso
        have : 18446744073709551616 ^ (mv + u) * 1 ≤ 18446744073709551616 ^ (mv + u) * cyF ws s u := Nat.mul_le_mul_left _ (by omega)
        omega
    rw [hc0, Nat.mul_zero, Nat.add_zero] at h
    rw [e]; exact h

/-- what shl's first loop holds -/
structure ShI (w wr : World) (R n : Nat) (ws : List Nat) (mv s n' i : Nat) : Prop where
  out : ∃ vs, Big wr R n vs ∧ (∀ t, t < i → vs.getD t 0 = ws.getD t 0) ∧ (∀ t, i ≤ t → t < n' → vs.getD t 0 = shF ws mv s t) ∧ (∀ t, n' ≤ t → vs.getD t 0 = 0) ∧ Only R w wr
theorem ShI.step {w wr : World} {R n : Nat} {ws : List Nat} {mv s n' i : Nat} (o : ShI w wr R n ws mv s n' (i + 1)) (hi : i < 52) (hin : i < n') (hlim : Lim6 ws) (hs : s < 64) :
    (∀ t, t ≤ i → ∃ x : Nat, x = ws.getD t 0 ∧ wr.cell? ⟨R, 1 + t, none⟩ = some (.int .u64 x) ∧ x < 18446744073709551616) ∧ wr.frozen? ⟨R, 1 + i, none⟩ = false ∧
      ∀ v, v = shF ws mv s i → ShI w (wr.setCell ⟨R, 1 + i, none⟩ (.int .u64 v)) R n ws mv s n' i := by
  obtain ⟨vs, h1, h2, h3, h4, h5⟩ := o.out
  refine ⟨fun t ht => ⟨vs.getD t 0, h2 t (by omega), h1.cw t (by omega), h1.lim t (by rw [h1.len]; omega)⟩, h1.fz _, fun v hv => ⟨vs.set i v, h1.limb i v hi (by rw [hv]; exact shF_lt ws hlim mv s i hs), fun t ht => ?_, fun t ht htn => ?_, fun t ht => ?_, h5.setCell _ _⟩⟩
  · rw [getD_set_ne _ _ _ _ (by omega)]; exact h2 t (by omega)
  · by_cases e : i = t
    · subst e; rw [getD_set_eq _ _ _ (by rw [h1.len]; exact hi)]; exact hv
    · rw [getD_set_ne _ _ _ _ e]; exact h3 t (by omega) htn
  · by_cases e : i = t
    · omega
    · rw [getD_set_ne _ _ _ _ e]; exact h4 t ht
end Go.Proofs.Ygcoaf
