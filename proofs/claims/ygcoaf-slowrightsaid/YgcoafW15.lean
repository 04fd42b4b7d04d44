/-
  WALKS, the fifteenth: 128 bits divided by 64.
-/
import Derived.Test.YgcoafW13
namespace Go.Proofs.Ygcoaf
open Go.RowKit Go.Proofs.Ygcoaf.M

theorem below_drewN {B : Nat} {a w : World} (h : Below B a w) (n : Nat) : Below B a (w.drewN n) := h.trans ⟨rfl, rfl, rfl, Nat.le_refl _, fun _ _ => rfl⟩

/-- quotient and remainder -/
def QR (n d q r : Nat) : Prop := q = n / d ∧ r = n % d

set_option maxHeartbeats 800000 in
/-- wide.divHalf -/
theorem divHalf_any (hi next d : Nat) (hn : next < 4294967296) (hd : hi < d) (hd1 : 9223372036854775808 ≤ d) (hd2 : d < 18446744073709551616) (w : World) :
    Calls Oafg.prog 194 #[.int .u64 hi, .int .u64 next, .int .u64 d] w fun e w' => (∃ q r : Nat, e = .returned (.tuple #[.int .u64 q, .int .u64 r]) ∧ QR (hi * 4294967296 + next) d q r) ∧ Below w.heap.size w w' := by
  obtain ⟨d1, d0, ed, g1, g2⟩ : ∃ d1 d0 : Nat, d = d1 * 4294967296 + d0 ∧ d1 < 4294967296 ∧ d0 < 4294967296 := ⟨d / 4294967296, d % 4294967296, by omega, by omega, by omega⟩
  have g3 : 2147483648 ≤ d1 := by omega
  have f1 : (d : Int) / 4294967296 = (d1 : Int) := by omega
  have f2 : bits .and .u64 (d : Int) 4294967295 = (d0 : Int) := by
    rw [and64 d 4294967295 _ _ rfl (by simp) hd2 (by decide), show (4294967295 : Nat) = 2 ^ 32 - 1 by decide, Nat.and_two_pow_sub_one_eq_mod]; omega
  have f3 : (hi : Int) / (d1 : Int) = ((hi / d1 : Nat) : Int) := by simp
  have f4 : (hi : Int) % (d1 : Int) = ((hi % d1 : Nat) : Int) := by simp
  have H0 : Hid _ := half_start (hi := hi) (next := next) (by omega) hn g3 g2
  have hE := half_left hi next d (by omega) hd2
  have hr := Nat.mod_lt hi (show 0 < d1 by omega)
  have hq := half_start (hi := hi) (next := next) (d1 := d1) (d0 := d0) (by omega) hn g3 g2 |>.top
  generalize hi / d1 = q0 at *
  generalize hi % d1 = r0 at *
  have ED : Hid _ := ed
  clear ed
  have f5 : ((d1 : Int) == 0) = false := by rw [beq_eq_false_iff_ne]; omega
  go_enter Oafg.func194, Oafg.ntmps194
  go_wp2
  go_quiet (fail)
  go_wp2
  go_loop [6, 10] (fun q r => ∃ Q R : Nat, q = .int .u64 Q ∧ r = .int .u64 R ∧ R < 4294967296 ∧ Q ≤ 4294967297 ∧ Hid (Half hi next d1 d0 Q R)) (fun q _ => (intOf q).toNat)
  case atStart => exact ⟨q0, r0, rfl, by rw [f4], by omega, hq, H0⟩
  case round =>
    obtain ⟨Q, R, rfl, rfl, hR, hQ, HH⟩ := hrel
    clear f3 f4 hq hr H0
    obtain ⟨X, hX⟩ : ∃ X, X = R * 4294967296 + next := ⟨_, rfl⟩
    obtain ⟨P, hP⟩ : ∃ P, P = Q * d0 := ⟨_, rfl⟩
    have x1 : bits .or .u64 ((R : Int) * 4294967296) (next : Int) = (X : Int) := by
      rw [show (R : Int) * 4294967296 = ((R * 4294967296 : Nat) : Int) by simp, or64 _ _ _ rfl (by omega) (by omega), or_sum _ _ 32 ⟨R, by rw [Nat.mul_comm]⟩ hn, hX]
    have x2 : (Q : Int) * (d0 : Int) = (P : Int) := by rw [hP]; simp
    have x3 : P < 18446744073709551616 := by
      have : Q * d0 ≤ 4294967297 * 4294967295 := Nat.mul_le_mul hQ (by omega)
      omega
    have hdd : hi < d1 * 4294967296 + d0 := by rw [← ED.out]; exact hd
    have M1 : Hid ((4294967295 < Q ∨ X < P) → 1 ≤ Q ∧ Half hi next d1 d0 (Q - 1) (R + d1)) := fun h => half_more hdd hn HH.out (by rw [hX, hP] at h; exact h)
    have M2 : Hid ((4294967295 < Q ∨ X < P) → 4294967295 < R + d1 → Q - 1 = (hi * 4294967296 + next) / d) := fun h h' => by
      rw [ED.out]; exact half_end g2 (by omega) (M1.out h).2 (Or.inl h')
    have M3 : Hid (Q ≤ 4294967295 → P ≤ X → Q = (hi * 4294967296 + next) / d) := fun h h' => by
      rw [ED.out]; exact half_end g2 (by omega) HH.out (Or.inr ⟨h, by rw [hX, hP] at h'; exact h'⟩)
    clear hX hP hdd HH ED
    obtain ⟨QQ, hQQ⟩ : ∃ q, q = (hi * 4294967296 + next) / d := ⟨_, rfl⟩
    obtain ⟨RR, hRR⟩ : ∃ r, r = (hi * 4294967296 + next) % d := ⟨_, rfl⟩
    rw [← hQQ] at hE M2 M3
    rw [← hRR] at hE
    have GG : Hid (QQ = (hi * 4294967296 + next) / d ∧ RR = (hi * 4294967296 + next) % d) := ⟨hQQ, hRR⟩
    clear hQQ hRR
    by_cases c : 4294967295 < Q ∨ X < P
    · have m1 := M1.out c
      have m2 := M2.out c
      have x4 : (Q : Int) - 1 = ((Q - 1 : Nat) : Int) := by omega
      have x5 : (R : Int) + (d1 : Int) = ((R + d1 : Nat) : Int) := by omega
      obtain ⟨m3, m4⟩ := m1
      have M4 : Hid _ := m4
      have x6 : R + d1 < 18446744073709551616 := by omega
      have x7 : Q - 1 < Q := by omega
      have x8 : Q - 1 ≤ 4294967297 := by omega
      generalize Q - 1 = Q' at *
      generalize R + d1 = R' at *
      clear M1 M2 M3 m4
      by_cases c2 : 4294967295 < R'
      · obtain rfl := m2 c2
        clear m2
        rcases c with c | c
        · go_wp2
          exact bodyPost_ret (v := .tuple #[.int .u64 Q', .int .u64 RR]) (by simp [results, Oafg.results194, go_sem]) rfl ⟨⟨Q', RR, rfl, GG.out⟩, below_drewN (Below.refl _ _) _⟩
        · go_wp2
          all_goals
            exact bodyPost_ret (v := .tuple #[.int .u64 Q', .int .u64 RR]) (by simp [results, Oafg.results194, go_sem]) rfl ⟨⟨Q', RR, rfl, GG.out⟩, below_drewN (Below.refl _ _) _⟩
      · have c3 : R' ≤ 4294967295 := by omega
        clear m2 hE
        rcases c with c | c
        · go_wp2
          go_round
          case rel => exact ⟨Q', R', rfl, rfl, by omega, x8, M4⟩
          case measure => simp [intOf]; omega
        · go_wp2
          all_goals
            go_round
            case rel => exact ⟨Q', R', rfl, rfl, by omega, x8, M4⟩
            case measure => simp [intOf]; omega
    · have m3 := M3.out (by omega) (by omega)
      subst m3
      have c1 : Q ≤ 4294967295 := by omega
      have c2 : P ≤ X := by omega
      clear M1 M2 M3 c
      go_wp2
      exact bodyPost_ret (v := .tuple #[.int .u64 Q, .int .u64 RR]) (by simp [results, Oafg.results194, go_sem]) rfl ⟨⟨Q, RR, rfl, GG.out⟩, below_drewN (Below.refl _ _) _⟩
end Go.Proofs.Ygcoaf
