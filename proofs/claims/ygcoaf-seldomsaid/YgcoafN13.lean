/-
  nat.guess: the quotient's limb out of the three and two top limbs.
-/
import Derived.Test.YgcoafN12
namespace Go.Proofs.Ygcoaf
open Go.RowKit

/-- what guess answers -/
structure Guess (N3 D2 e : Nat) : Prop where
  lt : e < 4294967296
  fits : e * D2 ≤ N3
  most : 4294967296 ≤ e + 1 ∨ N3 < (e + 1) * D2

theorem guess_law {U D P N3 D2 low dl e : Nat} (hU : U = low + P * N3) (hD : D = dl + P * D2) (hl : low < P) (hdl : dl < P) (hlt : U < D * 4294967296) (hD2 : 4294967296 ≤ D2) (g : Guess N3 D2 e) :
    U / D ≤ e ∧ e ≤ U / D + 1 := by
  have hP : 0 < P := by omega
  have hDp : 0 < D := by have := Nat.mul_pos hP (show 0 < D2 by omega); omega
  obtain ⟨t, ht⟩ : ∃ t, t = U / D := ⟨_, rfl⟩
  rw [← ht]
  have h1 : t * D ≤ U := by rw [ht]; exact Nat.div_mul_le_self U D
  have h2 : U < (t + 1) * D := by rw [ht, Nat.mul_comm]; exact Nat.lt_mul_div_succ U hDp
  have h3 : t < 4294967296 := by rw [ht]; rw [Nat.div_lt_iff_lt_mul hDp, Nat.mul_comm]; exact hlt
  clear ht
  constructor
  · obtain g3 | g3 := g.most
    · omega
    · have : t * D2 ≤ N3 := by
        have a : P * (t * D2) ≤ U := by
          have : t * D = t * dl + P * (t * D2) := by rw [hD]; grind
          omega
        have b : U < P * (N3 + 1) := by rw [hU, Nat.mul_succ]; omega
        have := Nat.lt_of_mul_lt_mul_left (Nat.lt_of_le_of_lt a b)
        omega
      have c : t * D2 < (e + 1) * D2 := by omega
      have := Nat.lt_of_mul_lt_mul_right c
      omega
  · by_cases c : e ≤ t + 1
    · exact c
    · exfalso
      have a1 : (t + 2) * D2 ≤ N3 := Nat.le_trans (Nat.mul_le_mul_right _ (by omega)) g.fits
      have a2 : P * ((t + 2) * D2) ≤ U := by
        have := Nat.mul_le_mul_left P a1
        omega
      have a3 : (t + 1) * D ≤ P * ((t + 1) * (D2 + 1)) := by
        have : D ≤ P * (D2 + 1) := by rw [hD, Nat.mul_succ]; omega
        have := Nat.mul_le_mul_left (t + 1) this
        have e : (t + 1) * (P * (D2 + 1)) = P * ((t + 1) * (D2 + 1)) := by grind
        omega
      have a4 : (t + 2) * D2 < (t + 1) * (D2 + 1) := Nat.lt_of_mul_lt_mul_left (a := P) (by omega)
      have e1 : (t + 2) * D2 = t * D2 + 2 * D2 := by grind
      have e2 : (t + 1) * (D2 + 1) = t * D2 + D2 + t + 1 := by grind
      omega

theorem guess_top {U D P N3 D2 low dl u2 u1 u0 d1 d0 : Nat} (hU : U = low + P * N3) (hD : D = dl + P * D2) (hdl : dl < P) (hlt : U < D * 4294967296)
    (hN : N3 = (u2 * 4294967296 + u1) * 4294967296 + u0) (hE : D2 = d1 * 4294967296 + d0) (hd0 : d0 < 4294967296) : u2 ≤ d1 := by
  have hP : 0 < P := by omega
  have a : P * (u2 * 4294967296 * 4294967296) ≤ U := by
    have : P * (u2 * 4294967296 * 4294967296) ≤ P * N3 := Nat.mul_le_mul_left _ (by omega)
    omega
  have b : D * 4294967296 ≤ P * ((D2 + 1) * 4294967296) := by
    have : D ≤ P * (D2 + 1) := by rw [hD, Nat.mul_succ]; omega
    have := Nat.mul_le_mul_right 4294967296 this
    rw [Nat.mul_assoc] at this
    exact this
  have c : u2 * 4294967296 * 4294967296 < (D2 + 1) * 4294967296 := Nat.lt_of_mul_lt_mul_left (a := P) (by omega)
  omega

/-- the loop's start and step -/
structure GI (head D2 N3 d1 est rest : Nat) : Prop where
  sum : head = est * d1 + rest
  most : 4294967296 ≤ est + 1 ∨ N3 < (est + 1) * D2
  top : est ≤ 4294967297
  small : est = 4294967297 → rest + d1 < 4294967296

theorem GI.first {head D2 N3 d1 d0 u1 u0 u2 : Nat} (hh : head = u2 * 4294967296 + u1) (hN : N3 = head * 4294967296 + u0) (hE : D2 = d1 * 4294967296 + d0) (h1 : u1 < 4294967296) (h0 : u0 < 4294967296) (hd : 2147483648 ≤ d1) (hu : u2 ≤ d1) : GI head D2 N3 d1 (head / d1) (head % d1) := by
  have e := Nat.div_add_mod head d1
  have m := Nat.mod_lt head (show 0 < d1 by omega)
  have s1 : head = head / d1 * d1 + head % d1 := by rw [Nat.mul_comm]; omega
  have hb : head < (head / d1 + 1) * d1 := by rw [Nat.add_mul]; omega
  have hc : u2 * 4294967296 ≤ d1 * 4294967296 := Nat.mul_le_mul_right _ hu
  refine ⟨s1, .inr ?_, ?_, fun h => ?_⟩
  · have : (head + 1) * 4294967296 ≤ (head / d1 + 1) * D2 := by
      calc (head + 1) * 4294967296 ≤ (head / d1 + 1) * d1 * 4294967296 := Nat.mul_le_mul_right _ hb
        _ = (head / d1 + 1) * (d1 * 4294967296) := by rw [Nat.mul_assoc]
        _ ≤ _ := Nat.mul_le_mul_left _ (by rw [hE]; exact Nat.le_add_right _ _)
    rw [hN]; omega
  · by_cases c : head / d1 ≤ 4294967297
    · exact c
    · exfalso
      have : 4294967298 * d1 ≤ head / d1 * d1 := Nat.mul_le_mul_right _ (by omega)
      omega
  · rw [h] at s1
    omega

theorem GI.test {head D2 N3 d1 d0 u0 est rest : Nat} (hN : N3 = head * 4294967296 + u0) (hE : D2 = d1 * 4294967296 + d0) (g : GI head D2 N3 d1 est rest) : rest * 4294967296 + u0 < est * d0 → N3 < est * D2 := by
  intro h
  rw [hN, hE, g.sum]
  have : est * (d1 * 4294967296 + d0) = est * d1 * 4294967296 + est * d0 := by grind
  rw [this, Nat.add_mul, Nat.add_assoc]
  exact Nat.add_lt_add_left h _
theorem GI.less {head D2 N3 d1 est rest : Nat} (g : GI head D2 N3 d1 est rest) (hd : 1 ≤ est) (h : 4294967296 ≤ est ∨ N3 < est * D2) : GI head D2 N3 d1 (est - 1) (rest + d1) := by
  obtain ⟨e, rfl⟩ : ∃ e, est = e + 1 := ⟨est - 1, by omega⟩
  have s := g.sum
  rw [Nat.add_mul] at s
  have t := g.top
  exact ⟨by rw [Nat.add_sub_cancel]; omega, by rw [Nat.add_sub_cancel]; exact h, by omega, fun h => by omega⟩

theorem GI.done {head D2 N3 d1 d0 u0 est rest : Nat} (hN : N3 = head * 4294967296 + u0) (hE : D2 = d1 * 4294967296 + d0) (g : GI head D2 N3 d1 est rest) (he : est < 4294967296) (h : est * d0 ≤ rest * 4294967296 + u0) : Guess N3 D2 est := by
  refine ⟨he, ?_, g.most⟩
  have s := g.sum
  rw [hN, hE, s]
  have : est * (d1 * 4294967296 + d0) = est * d1 * 4294967296 + est * d0 := by grind
  rw [this, Nat.add_mul]; omega

set_option maxRecDepth 8000 in
/-- nat.guess -/
theorem guess_any (u2 u1 u0 d1 d0 : Nat) (h2 : u2 ≤ d1) (h1 : u1 < 4294967296) (h0 : u0 < 4294967296) (hd1 : d1 < 4294967296) (hd : 2147483648 ≤ d1) (hd0 : d0 < 4294967296) (w : World) :
    Calls Oafg.prog 198 #[.int .u32 u2, .int .u32 u1, .int .u32 u0, .int .u32 d1, .int .u32 d0] w fun e w' =>
      (∃ g, e = .returned (.int .u32 (g : Nat)) ∧ Guess ((u2 * 4294967296 + u1) * 4294967296 + u0) (d1 * 4294967296 + d0) g) ∧ ∃ m, w' = w.drewN m := by
  obtain ⟨head, hh⟩ : ∃ head, head = u2 * 4294967296 + u1 := ⟨_, rfl⟩
  rw [← hh]
  obtain ⟨N3, hN⟩ : ∃ N3, N3 = head * 4294967296 + u0 := ⟨_, rfl⟩
  rw [← hN]
  obtain ⟨D2, hE⟩ : ∃ D2, D2 = d1 * 4294967296 + d0 := ⟨_, rfl⟩
  rw [← hE]
  have G0 := GI.first hh hN hE h1 h0 hd h2
  have hhb : head < 18446744073709551616 := by omega
  have f1 : bits .or .u64 ((u2 : Int) * 4294967296) (u1 : Int) = (head : Int) := by
    have := or_low u1 u2 32 (by simpa using h1)
    rw [hh, Nat.add_comm, show 4294967296 = 2 ^ 32 from by decide, ← this, Nat.or_comm]
    have h3 := u64_or_nat (u2 * 2 ^ 32) u1 (by omega) (by omega)
    rw [← h3]; simp
  obtain ⟨est, hest⟩ : ∃ est, est = head / d1 := ⟨_, rfl⟩
  obtain ⟨rs, hrs⟩ : ∃ rs, rs = head % d1 := ⟨_, rfl⟩
  rw [← hest, ← hrs] at G0
  have f2 : (head : Int) / (d1 : Int) = (est : Int) := by rw [hest]; simp
  have f3 : (head : Int) % (d1 : Int) = (rs : Int) := by rw [hrs]; simp
  have hes2 : est < 18446744073709551616 := by have := G0.top; omega
  have hrs2 : rs < 4294967296 := by have := Nat.mod_lt head (show 0 < d1 by omega); omega
  have hne : ((d1 : Int) == 0) = false := by rw [beq_eq_false_iff_ne]; omega
  have HG0 : Hid _ := G0
  have HN : Hid _ := hN
  have HE : Hid _ := hE
  have hd9 : 0 < d1 := by omega
  clear hh hN hE G0 hest hrs hd
  go_enter Oafg.func198, Oafg.ntmps198
  go_wp2
  go_quiet (fail)
  go_wp2
  go_loop [12, 13] (fun a b => ∃ est rest : Nat, est ≤ 4294967297 ∧ rest < 4294967296 ∧ a = .int .u64 est ∧ b = .int .u64 rest ∧ Hid (GI head D2 N3 d1 est rest)) (fun a _ => (intOf a).toNat)
  case atStart => exact ⟨est, rs, HG0.out.top, hrs2, by first | rfl | rw [f3], by first | rfl | rw [f3], HG0⟩
  case round =>
    obtain ⟨e, r, he, hr, rfl, rfl, hM⟩ := hrel
    clear f1 f2 f3
    obtain ⟨e', hee⟩ : ∃ e', e' = e - 1 := ⟨_, rfl⟩
    obtain ⟨r', hrr⟩ : ∃ r', r' = r + d1 := ⟨_, rfl⟩
    have x5 : (r : Int) + (d1 : Int) = (r' : Int) := by omega
    have x6 : r' < 8589934592 := by omega
    by_cases c : 4294967295 < e
    · have hL := hM.out.less (by omega) (.inl (by omega))
      rw [← hee, ← hrr] at hL
      have x4 : (e : Int) - 1 = (e' : Int) := by omega
      have z1 : (4294967296 : Int) ≤ (e : Int) := by omega
      have x7 : e' < e := by omega
      have x8 : e' ≤ 4294967297 := by omega
      by_cases c2 : 4294967295 < r'
      · have he2 : e' < 4294967296 := by have := hM.out.small; omega
        have hD := GI.done HN.out HE.out hL he2 (by
          have : e' * d0 ≤ 4294967295 * 4294967295 := Nat.mul_le_mul (by omega) (by omega)
          omega)
        have HD : Hid _ := hD
        have z2 : (4294967296 : Int) ≤ (r' : Int) := by omega
        clear hL hM hD hee hrr
        go_wp2
        go_ret
        exact ⟨⟨e', ret_int (by omega), HD.out⟩, _, rfl⟩
      · have HL : Hid _ := hL
        have z2 : ¬ ((4294967296 : Int) ≤ (r' : Int)) := by omega
        have z3 : r' < 4294967296 := by omega
        clear hL hM c2 hee hrr
        go_wp2
        go_round
        case rel => exact ⟨e', r', x8, z3, rfl, rfl, HL⟩
        case measure => simp [intOf]; omega
    · have c9 : e ≤ 4294967295 := by omega
      clear c
      obtain ⟨p, hp⟩ : ∃ p, p = e * d0 := ⟨_, rfl⟩
      obtain ⟨m, hm⟩ : ∃ m, m = r * 4294967296 + u0 := ⟨_, rfl⟩
      have hp2 : p < 18446744073709551616 := by
        have : e * d0 ≤ 4294967295 * 4294967295 := Nat.mul_le_mul (by omega) (by omega)
        omega
      have g1 : (e : Int) * (d0 : Int) = (p : Int) := by rw [hp]; simp
      have hm2 : m < 18446744073709551616 := by omega
      have g2 : bits .or .u64 ((r : Int) * 4294967296) (u0 : Int) = (m : Int) := by
        have := or_low u0 r 32 (by simpa using h0)
        rw [hm, Nat.add_comm, show 4294967296 = 2 ^ 32 from by decide, ← this, Nat.or_comm]
        have h3 := u64_or_nat (r * 2 ^ 32) u0 (by omega) (by omega)
        rw [← h3]; simp
      by_cases d : m < p
      · have ht := GI.test HN.out HE.out hM.out (by rw [← hp, ← hm]; exact d)
        have he1 : 1 ≤ e := by
          by_cases z : e = 0
          · rw [z] at hp; omega
          · omega
        have hL := hM.out.less he1 (.inr ht)
        rw [← hee, ← hrr] at hL
        have x4 : (e : Int) - 1 = (e' : Int) := by omega
        have z1 : ¬ ((4294967296 : Int) ≤ (e : Int)) := by omega
        have x7 : e' < e := by omega
        have x8 : e' ≤ 4294967297 := by omega
        by_cases c2 : 4294967295 < r'
        · have hD := GI.done HN.out HE.out hL (by omega) (by
            have : e' * d0 ≤ 4294967295 * 4294967295 := Nat.mul_le_mul (by omega) (by omega)
            omega)
          have HD : Hid _ := hD
          have z2 : (4294967296 : Int) ≤ (r' : Int) := by omega
          clear hL hM hD hp hm ht hee hrr
          go_wp2
          go_ret
          exact ⟨⟨e', ret_int (by omega), HD.out⟩, _, rfl⟩
        · have HL : Hid _ := hL
          have z2 : ¬ ((4294967296 : Int) ≤ (r' : Int)) := by omega
          have z3 : r' < 4294967296 := by omega
          clear hL hM hp hm ht c2 hee hrr
          go_wp2
          go_round
          case rel => exact ⟨e', r', x8, z3, rfl, rfl, HL⟩
          case measure => simp [intOf]; omega
      · have hD := GI.done HN.out HE.out hM.out (by omega) (by rw [← hp, ← hm]; omega)
        have HD : Hid _ := hD
        have d9 : p ≤ m := by omega
        have z1 : ¬ ((4294967296 : Int) ≤ (e : Int)) := by omega
        clear hM hD hp hm d hee hrr x5 x6
        go_wp2
        go_ret
        exact ⟨⟨e, ret_int (by omega), HD.out⟩, _, rfl⟩
end Go.Proofs.Ygcoaf
