/-
  slow.nearby.
-/
import Derived.Test.YgcoafT15
namespace Go.Proofs.Ygcoaf
open Go.RowKit Go.Proofs.Ygcoaf.M

/-- what nearby keeps of what is cut off -/
structure NP (mode : Nat) (neg : Bool) (sig drop n rest : Nat) : Prop where
  hn : n = sig / 2 ^ drop
  hr : rest < 18446744073709551616
  z : rest = 0 ↔ sig % 2 ^ drop = 0
  ge : 9223372036854775808 ≤ rest ↔ 2 ^ drop ≤ 2 * (sig % 2 ^ drop)
  gt : 9223372036854775808 < rest ↔ 2 ^ drop < 2 * (sig % 2 ^ drop)
  eq : rest = 9223372036854775808 ↔ 2 ^ drop = 2 * (sig % 2 ^ drop)
  lt : n < 9223372036854775808
  lo : drop ≤ 64 → rest = sig * 2 ^ (64 - drop) % 18446744073709551616
  hi : 64 < drop → n = 0 ∧ rest = 1

theorem near_parts (mode : Nat) (neg : Bool) (sig drop : Nat) (h0 : sig ≠ 0) (hs : sig < 18446744073709551616) (hd : 1 ≤ drop) : ∃ n rest : Nat, NP mode neg sig drop n rest := by
  have hn : sig / 2 ^ drop < 9223372036854775808 := by
    have h1 : sig / 2 ^ drop ≤ sig / 2 ^ 1 := Nat.div_le_div_left (Nat.pow_le_pow_right (by decide) hd) (by decide)
    omega
  by_cases c : drop ≤ 64
  · have hp : 2 ^ drop * 2 ^ (64 - drop) = 18446744073709551616 := by rw [← Nat.pow_add, show drop + (64 - drop) = 64 by omega]
    have hc : 0 < 2 ^ (64 - drop) := Nat.two_pow_pos _
    have hm : sig * 2 ^ (64 - drop) % 18446744073709551616 = sig % 2 ^ drop * 2 ^ (64 - drop) := by rw [← hp, Nat.mul_mod_mul_right]
    have hD : 0 < 2 ^ drop := Nat.two_pow_pos _
    have hlt := Nat.mod_lt sig hD
    refine ⟨_, _, rfl, Nat.mod_lt _ (by decide), ?_, ?_, ?_, ?_, hn, fun _ => rfl, fun h => absurd h (by omega)⟩
    all_goals
      rw [hm]
      generalize sig % 2 ^ drop = r at *
      generalize 2 ^ drop = D at *
      generalize 2 ^ (64 - drop) = C at *
      clear hm hn
    · rw [Nat.mul_eq_zero]; omega
    · have := Nat.mul_le_mul_right_iff (n := D) (m := 2 * r) hc; rw [← this, hp, Nat.mul_assoc]; omega
    · have := Nat.mul_lt_mul_right (b := D) (c := 2 * r) hc; rw [← this, hp, Nat.mul_assoc]; omega
    · have := @Nat.mul_right_cancel_iff C hc D (2 * r); rw [← this, hp, Nat.mul_assoc]; omega
  · have h65 : 2 ^ 65 ≤ 2 ^ drop := two_pow_le (by omega)
    have hlt : sig < 2 ^ drop := by omega
    have hm : sig % 2 ^ drop = sig := Nat.mod_eq_of_lt hlt
    have hq : sig / 2 ^ drop = 0 := Nat.div_eq_of_lt hlt
    refine ⟨0, 1, hq.symm, by decide, ?_, ?_, ?_, ?_, by decide, fun h => absurd h (by omega), fun _ => ⟨rfl, rfl⟩⟩
    all_goals
      rw [hm]
      omega

/-- the rule, by what is kept -/
def upK (mode : Nat) (neg : Bool) (n rest : Nat) : Bool :=
  if mode = 1 then decide (9223372036854775808 ≤ rest) else if mode = 2 then false else if mode = 3 then (!(rest == 0) && !neg) else if mode = 4 then (!(rest == 0) && neg)
  else (decide (9223372036854775808 < rest) || (rest == 9223372036854775808 && n % 2 == 1))

theorem NP.ups {mode : Nat} {neg : Bool} {sig drop n rest : Nat} (k : NP mode neg sig drop n rest) : upK mode neg n rest = M.ups mode neg sig (2 ^ drop) := by
  unfold upK M.ups
  have e1 : decide (9223372036854775808 ≤ rest) = decide (2 ^ drop ≤ 2 * (sig % 2 ^ drop)) := by rw [decide_eq_decide]; exact k.ge
  have e2 : decide (9223372036854775808 < rest) = decide (2 ^ drop < 2 * (sig % 2 ^ drop)) := by rw [decide_eq_decide]; exact k.gt
  have e3 : (rest == 9223372036854775808) = (2 ^ drop == 2 * (sig % 2 ^ drop)) := by rw [Bool.eq_iff_iff, beq_iff_eq, beq_iff_eq]; exact k.eq
  have e4 : (rest == 0) = (sig % 2 ^ drop == 0) := by rw [Bool.eq_iff_iff, beq_iff_eq, beq_iff_eq]; exact k.z
  rw [e1, e2, e3, e4, ← k.hn]

set_option maxRecDepth 8000 in
set_option maxHeartbeats 2000000 in
/-- slow.nearby -/
theorem nearby_any (mode : Nat) (hm : mode < 256) (neg : Bool) (sig drop : Nat) (h0 : sig ≠ 0) (hs : sig < 18446744073709551616) (hd1 : 1 ≤ drop) (hd2 : drop ≤ 100000) (w : World) :
    Calls Oafg.prog 153 #[.int .u8 mode, .bool neg, .int .u64 sig, .int .i64 drop] w fun e w' => e = .returned (.tuple #[.int .u64 (rnd mode neg sig (2 ^ drop) : Nat), .bool (decide (sig % 2 ^ drop ≠ 0))]) ∧ Below w.heap.size w w' := by
  obtain ⟨n, rest, K⟩ := near_parts mode neg sig drop h0 hs hd1
  obtain ⟨ub, hub⟩ : ∃ ub, ub = upK mode neg n rest := ⟨_, rfl⟩
  have hR : rnd mode neg sig (2 ^ drop) = n + ub.toNat := by unfold rnd; rw [← K.ups, ← K.hn, hub]
  obtain ⟨sm, hsm⟩ : ∃ sm, sm = decide (sig % 2 ^ drop ≠ 0) := ⟨_, rfl⟩
  have hsm2 : sm = decide (rest ≠ 0) := by rw [hsm, decide_eq_decide]; exact not_congr K.z.symm
  obtain ⟨V, hV⟩ : ∃ V, V = n + ub.toNat := ⟨_, rfl⟩
  rw [hR, ← hsm, ← hV]
  have HV : Hid _ := hV
  have hr := K.hr
  have hn := K.lt
  have HK : Hid _ := K
  have Hub : Hid _ := hub
  have Hsm : Hid _ := hsm2
  clear hub hsm hsm2 hR K hV
  go_enter Oafg.func153, Oafg.ntmps153
  go_upto_if 13 with fail
  go_cut [8, 10] (fun t8 t10 w' => t8 = .int .u64 n ∧ t10 = .int .u64 rest ∧ Hid (Below w.heap.size w w'))
  case first =>
    by_cases c : drop ≤ 64
    · have f1 : (sig : Int) / 2 ^ drop = (n : Int) := by rw [HK.out.hn]; simp
      have Hn : Hid _ := HK.out.hn
      obtain ⟨c64, hc64⟩ : ∃ c64, c64 = 64 - drop := ⟨_, rfl⟩
      have f2 : (64 : Int) - (drop : Int) = (c64 : Int) := by omega
      have f3 : IntKind.u64.wrap ((sig : Int) * 2 ^ c64) = (rest : Int) := by
        rw [HK.out.lo c, ← hc64, ← wrap64_nat]; simp
      have f4 : (drop : Int) ≤ 64 := by omega
      have hc9 : c64 < 64 := by omega
      clear HK
      by_cases c6 : drop = 64
      · obtain rfl : n = 0 := by
          rw [Hn.out, c6]; exact Nat.div_eq_of_lt hs
        obtain rfl : c64 = 0 := by omega
        have f5 : (rest : Int) = (sig : Int) := by rw [← f3, IntKind.wrap_u64]; omega
        obtain rfl : rest = sig := by omega
        have f6 : (drop : Int) = 64 := by omega
        clear f1 f3 f5 c f4 hc64 f2 Hsm Hub
        subst c6
        go_wp2_with fail
        go_quiet (fail)
        go_wp2_with fail
        go_meet
        case rel => exact ⟨by rw [show (rest : Int) / 18446744073709551616 = ((0 : Nat) : Int) by omega], rfl, below_dN (Below.refl _ _) _⟩
      · have hd9 : drop < 64 := by omega
        go_wp2_with fail
        go_quiet (fail)
        go_wp2_with fail
        go_meet
        case rel => exact ⟨rfl, by rw [← hc64, f3], below_dN (Below.refl _ _) _⟩
    · obtain ⟨rfl, rfl⟩ := HK.out.hi (by omega)
      have f4 : ¬ (drop : Int) ≤ 64 := by omega
      clear HK
      go_wp2_with fail
      go_meet
      case rel => exact ⟨rfl, rfl, Below.refl _ _⟩
  case rest =>
    obtain ⟨rfl, rfl, hK⟩ := hcut
    have hub := Hub.out
    unfold upK at hub
    have hsm2 : ((rest : Int) != 0) = sm := by rw [Hsm.out]; by_cases c : rest = 0 <;> simp [c]
    have hn1 : (n : Int) < 9223372036854775808 := by omega
    clear HK Hub hd1 hd2 h0 hs
    have hV := HV.out
    have v0 : ub = false → V = n := fun h => by rw [hV, h]; rfl
    have v1 : ub = true → (n : Int) + 1 = (V : Int) := fun h => by rw [hV, h]; rfl
    clear hV HV
    by_cases m1 : mode = 1
    · subst m1
      rw [if_pos rfl] at hub
      have e1 : ((rest : Int) / 9223372036854775808 == 1) = ub := by rw [hub, Bool.eq_iff_iff, beq_iff_eq, decide_eq_true_iff]; omega
      clear hub
      cases ub
      · obtain rfl := v0 rfl
        clear v0 v1
        go_wp2
        go_ret2
        exact ⟨rfl, hK.out⟩
      · have f1 := v1 rfl
        clear v0 v1
        go_wp2
        go_ret2
        exact ⟨rfl, hK.out⟩
    rw [if_neg m1] at hub
    have n1 : ((mode : Int) == 1) = false := by rw [beq_eq_false_iff_ne]; omega
    by_cases m2 : mode = 2
    · subst m2
      rw [if_pos rfl] at hub
      obtain rfl := v0 hub
      clear v0 v1 hub n1 m1
      go_wp2
      go_ret2
      exact ⟨rfl, hK.out⟩
    rw [if_neg m2] at hub
    have n2 : ((mode : Int) == 2) = false := by rw [beq_eq_false_iff_ne]; omega
    have hs2 : (!(rest == 0)) = sm := by rw [Hsm.out]; by_cases c : rest = 0 <;> simp [c]
    by_cases m3 : mode = 3
    · subst m3
      rw [if_pos rfl, hs2] at hub
      clear hs2 n1 n2 m1 m2 Hsm
      cases sm <;> cases neg
      all_goals
        first
          | (obtain rfl := v0 hub
             clear v0 v1 hub
             go_wp2
             go_ret2
             exact ⟨rfl, hK.out⟩)
          | (have f1 := v1 hub
             clear v0 v1 hub
             go_wp2
             go_ret2
             exact ⟨rfl, hK.out⟩)
    rw [if_neg m3] at hub
    have n3 : ((mode : Int) == 3) = false := by rw [beq_eq_false_iff_ne]; omega
    by_cases m4 : mode = 4
    · subst m4
      rw [if_pos rfl, hs2] at hub
      clear hs2 n1 n2 n3 m1 m2 m3 Hsm
      cases sm <;> cases neg
      all_goals
        first
          | (obtain rfl := v0 hub
             clear v0 v1 hub
             go_wp2
             go_ret2
             exact ⟨rfl, hK.out⟩)
          | (have f1 := v1 hub
             clear v0 v1 hub
             go_wp2
             go_ret2
             exact ⟨rfl, hK.out⟩)
    rw [if_neg m4] at hub
    have n4 : ((mode : Int) == 4) = false := by rw [beq_eq_false_iff_ne]; omega
    clear m1 m2 m3 m4 hs2 Hsm
    by_cases c : 9223372036854775808 < rest
    · have c1 : (9223372036854775808 : Int) < (rest : Int) := by omega
      have hu : ub = true := by rw [hub]; simp [c]
      have f1 := v1 hu
      clear v0 v1 hu hub c
      go_wp2
      go_ret2
      exact ⟨rfl, hK.out⟩
    have c1 : ¬ (9223372036854775808 : Int) < (rest : Int) := by omega
    by_cases d : rest = 9223372036854775808
    · have d1 : ((rest : Int) == 9223372036854775808) = true := by rw [beq_iff_eq]; omega
      have g1 : bits .and .u64 (n : Int) 1 = ((n % 2 : Nat) : Int) := by
        rw [and64 n 1 _ _ rfl (by simp) (by omega) (by decide), show (1 : Nat) = 2 ^ 1 - 1 by decide, Nat.and_two_pow_sub_one_eq_mod]
      obtain ⟨o, ho⟩ : ∃ o, o = n % 2 := ⟨_, rfl⟩
      rw [← ho] at g1
      by_cases o1 : o = 1
      · have hu : ub = true := by rw [hub]; simp [d, ← ho, o1]
        have f1 := v1 hu
        have o2 : ((o : Int) == 1) = true := by rw [beq_iff_eq]; omega
        clear v0 v1 hu hub c d ho o1
        go_wp2
        go_ret2
        exact ⟨rfl, hK.out⟩
      · have hu : ub = false := by rw [hub]; simp [d, ← ho, o1]
        obtain rfl := v0 hu
        have o2 : ((o : Int) == 1) = false := by rw [beq_eq_false_iff_ne]; omega
        clear v0 v1 hu hub c d ho o1
        go_wp2
        go_ret2
        exact ⟨rfl, hK.out⟩
    · have d1 : ((rest : Int) == 9223372036854775808) = false := by rw [beq_eq_false_iff_ne]; omega
      have hu : ub = false := by rw [hub]; simp [c, d]
      obtain rfl := v0 hu
      clear v0 v1 hu hub c d
      go_wp2
      go_ret2
      exact ⟨rfl, hK.out⟩
end Go.Proofs.Ygcoaf
