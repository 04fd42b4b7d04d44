/-
  Unpack of a finite pattern by its rung; law.biasOf, law.isFinite.
-/
import Derived.Test.YgcoafQ5
import Derived.Test.YgcoafW5
namespace Go.Proofs.Ygcoaf
open Go.RowKit Go.Proofs.Ygcoaf.M

/-- a finite rung: n at the exponent e -/
structure Rung (E M n : Nat) (e : Int) : Prop where
  lo : lo E ≤ e
  top : n < 2 ^ (M + 1)
  norm : 2 ^ M ≤ n ∨ e = Go.Proofs.Ygcoaf.lo E
  fin : tieR E M n e < infR E M

/-- its parts -/
structure Parts (E M n : Nat) (e : Int) (cls man : Nat) (ex : Int) : Prop where
  call : ∀ ww, Calls Oafg.prog 70 #[.agg #[.int .u8 E, .int .u8 M], .int .u64 (tieR E M n e : Nat)] ww fun r w' => r = .returned (.agg #[.bool false, .int .i8 cls, .int .i16 ex, .int .u64 man]) ∧ Below ww.heap.size ww w'
  hcls : cls = 0 ∨ cls = 1 ∨ cls = 2
  hman : man < 18446744073709551616
  exb : -1200 ≤ ex ∧ ex ≤ 1100
  eq : man * 2 ^ ex.toNat * 2 ^ ((M : Int) - e).toNat = n * 2 ^ (e - M).toNat * 2 ^ (-ex).toNat

theorem rung_lt {E M n : Nat} {e : Int} (h2 : E ≤ 11) (h4 : M ≤ 52) (r : Rung E M n e) : tieR E M n e < 2 ^ (E + M) ∧ tieR E M n e < 18446744073709551616 ∧ sF E M (tieR E M n e) = false := by
  have a := infR_lt E M
  have b : 2 ^ (E + M) ≤ 2 ^ 63 := two_pow_le (by omega)
  have f := r.fin
  refine ⟨by omega, by omega, ?_⟩
  unfold sF
  rw [Nat.div_eq_of_lt (by omega)]
  rfl

theorem rung_parts {E M n : Nat} {e : Int} (h1 : 2 ≤ E) (h2 : E ≤ 11) (h3 : 2 ≤ M) (h4 : M ≤ 52) (r : Rung E M n e) : ∃ cls man ex, Parts E M n e cls man ex := by
  obtain ⟨x1, x2, x3⟩ := rung_lt h2 h4 r
  have hbd := biasN_bd h1 h2
  have hlo : lo E = 1 - biasN E := rfl
  have pM := Nat.two_pow_pos M
  have hM2 : 2 ^ (M + 1) = 2 * 2 ^ M := by rw [Nat.pow_succ, Nat.mul_comm]
  have h53 : 2 ^ (M + 1) ≤ 2 ^ 53 := two_pow_le (by omega)
  have htop := r.top
  by_cases c : 2 ^ M ≤ n
  · -- normal
    have hx : tieR E M n e = (n - 2 ^ M) + 2 ^ M * ((e - lo E).toNat + 1) := by
      unfold tieR
      rw [Nat.mul_add, Nat.mul_one, Nat.mul_comm (2 ^ M)]; omega
    have hdiv : tieR E M n e / 2 ^ M = (e - lo E).toNat + 1 := by
      rw [hx, Nat.add_mul_div_left _ _ pM, Nat.div_eq_of_lt (by omega), Nat.zero_add]
    have hmod : tieR E M n e % 2 ^ M = n - 2 ^ M := by
      rw [hx, Nat.add_mul_mod_self_left, Nat.mod_eq_of_lt (by omega)]
    have hf : (e - lo E).toNat + 1 < 2 ^ E - 1 := by
      have := r.fin
      unfold infR at this
      rw [← hdiv, Nat.div_lt_iff_lt_mul pM]; exact this
    have hE : eF E M (tieR E M n e) = (e - lo E).toNat + 1 := by unfold eF; rw [hdiv, Nat.mod_eq_of_lt (by omega)]
    have hm : mF M (tieR E M n e) = n - 2 ^ M := hmod
    have lo9 := r.lo
    have hbt := bias_two h1
    have hc := cast_two_pow E
    refine ⟨2, n, e - M, fun ww => ?_, Or.inr (Or.inr rfl), by omega, by omega, ?_⟩
    · have := unpack_norm h1 h2 h3 h4 (tieR E M n e) x2 (by rw [hE]; omega) (by rw [hE]; omega) ww
      rw [x3, hE, hm, show n - 2 ^ M + 2 ^ M = n by omega, show (((e - lo E).toNat + 1 : Nat) : Int) - biasN E - M = e - M by omega] at this
      exact this
    · rw [show (-(e - (M : Int))).toNat = ((M : Int) - e).toNat by omega]
  · have hel : e = lo E := by rcases r.norm with g | g; exact absurd g c; exact g
    have hx : tieR E M n e = n := by unfold tieR; rw [hel]; simp
    have hE : eF E M n = 0 := by unfold eF; rw [Nat.div_eq_of_lt (by omega)]; exact Nat.zero_mod _
    have hm : mF M n = n := by unfold mF; exact Nat.mod_eq_of_lt (by omega)
    rw [hx] at x2 x3
    by_cases z : n = 0
    · refine ⟨0, 0, 0, fun ww => ?_, Or.inl rfl, by decide, by decide, ?_⟩
      · have := unpack_zero h1 h2 h3 h4 n x2 hE (by rw [hm]; exact z) ww
        rw [x3] at this
        rw [hx]
        exact this
      · rw [z]; simp
    · have hl := log2_lt_of M n z (by omega)
      have hsb := sub_bd M n z (by omega)
      refine ⟨1, n * 2 ^ (M - n.log2), lo E - M - ((M - n.log2 : Nat) : Int), fun ww => ?_, Or.inr (Or.inl rfl), by omega, by omega, ?_⟩
      · have := unpack_sub h1 h2 h3 h4 n x2 hE (by rw [hm]; exact z) ww
        rw [x3, hm] at this
        rw [hx]
        exact this
      · rw [hel]
        obtain ⟨t, ht⟩ : ∃ t, t = M - n.log2 := ⟨_, rfl⟩
        rw [← ht]
        obtain ⟨ex, hex⟩ : ∃ ex : Int, ex = lo E - M - (t : Int) := ⟨_, rfl⟩
        rw [← hex]
        calc n * 2 ^ t * 2 ^ ex.toNat * 2 ^ ((M : Int) - lo E).toNat = n * 2 ^ (t + ex.toNat + ((M : Int) - lo E).toNat) := by rw [Nat.pow_add, Nat.pow_add]; ac_rfl
          _ = n * 2 ^ ((lo E - M).toNat + (-ex).toNat) := by congr 2; omega
          _ = _ := by rw [Nat.pow_add]; ac_rfl

/-- law.biasOf -/
theorem biasOf_yes {E M : Nat} (h1 : 2 ≤ E) (h2 : E ≤ 11) (w : World) :
    Calls Oafg.prog 150 #[.agg #[.int .u8 E, .int .u8 M]] w fun e w' => e = .returned (.int .i64 (biasN E)) ∧ Below w.heap.size w w' := by
  have hbd := biasN_bd h1 h2
  obtain ⟨k, hk⟩ : ∃ k : Nat, (E : Int) - 1 = (k : Int) := ⟨E - 1, by omega⟩
  have hb : biasN E = 2 ^ k - 1 := by unfold biasN; rw [show E - 1 = k by omega]
  obtain ⟨P, hP⟩ : ∃ P : Int, (2 : Int) ^ k = P := ⟨_, rfl⟩
  rw [hP] at hb
  have hPb : 1 ≤ P ∧ P ≤ 1024 := by omega
  have hw : IntKind.i64.wrap P = P := by rw [wrap_i64']; omega
  have hk2 : k ≤ 10 := by omega
  have hbi : P - 1 = biasN E := hb.symm
  generalize biasN E = bi at *
  clear hb
  go_enter Oafg.func150, Oafg.ntmps150
  go_wp2
  go_ret
  exact ⟨by first | rfl | (rw [hP]; simp [hbi]), self1⟩
end Go.Proofs.Ygcoaf
