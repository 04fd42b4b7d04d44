/-
  WALKS, the thirteenth: words of 128 bits (package wide).
-/
import Derived.Test.YgcoafW1
import Derived.Test.YgcoafM9
import Derived.BigQuiet
namespace Go.Proofs.Ygcoaf
open Go.RowKit

theorem self3 {w : World} {o p q : Obj} : Below w.heap.size w (((w.alloc o).alloc p).alloc q) := self2.alloc (by simp; omega) _

set_option maxHeartbeats 400000 in
/-- wide.Mul64 -/
theorem mul64_any (a b : Nat) (ha : a < 18446744073709551616) (hb : b < 18446744073709551616) (w : World) :
    Calls Oafg.prog 155 #[.int .u64 a, .int .u64 b] w fun e w' => (∃ h l : Nat, e = .returned (.agg #[.int .u64 h, .int .u64 l]) ∧ two h l = a * b ∧ h < 18446744073709551616 ∧ l < 18446744073709551616) ∧ Below w.heap.size w w' := by
  obtain ⟨a1, a0, ea, g1, g2⟩ : ∃ a1 a0 : Nat, a = a1 * 4294967296 + a0 ∧ a1 < 4294967296 ∧ a0 < 4294967296 := ⟨a / 4294967296, a % 4294967296, by omega, by omega, by omega⟩
  obtain ⟨b1, b0, eb, g3, g4⟩ : ∃ b1 b0 : Nat, b = b1 * 4294967296 + b0 ∧ b1 < 4294967296 ∧ b0 < 4294967296 := ⟨b / 4294967296, b % 4294967296, by omega, by omega, by omega⟩
  obtain ⟨p11, p10, p01, p00, e11, e10, e01, e00, k1, k2, k3, k4, hp⟩ := mul64_hi a1 a0 b1 b0 g1 g2 g3 g4
  rw [← ea, ← eb] at hp
  have f1 : (a : Int) / 4294967296 = (a1 : Int) := by omega
  have f2 : bits .and .u64 (a : Int) 4294967295 = (a0 : Int) := by
    rw [and64 a 4294967295 _ _ rfl (by simp) ha (by decide), show (4294967295 : Nat) = 2 ^ 32 - 1 by decide, Nat.and_two_pow_sub_one_eq_mod]; omega
  have f3 : (b : Int) / 4294967296 = (b1 : Int) := by omega
  have f4 : bits .and .u64 (b : Int) 4294967295 = (b0 : Int) := by
    rw [and64 b 4294967295 _ _ rfl (by simp) hb (by decide), show (4294967295 : Nat) = 2 ^ 32 - 1 by decide, Nat.and_two_pow_sub_one_eq_mod]; omega
  have f5 : (a1 : Int) * (b0 : Int) = (p10 : Int) := by rw [e10]; simp
  have f6 : (a0 : Int) * (b0 : Int) = (p00 : Int) := by rw [e00]; simp
  have f7 : (a0 : Int) * (b1 : Int) = (p01 : Int) := by rw [e01]; simp
  have f8 : (a1 : Int) * (b1 : Int) = (p11 : Int) := by rw [e11]; simp
  obtain ⟨mid, hmid⟩ : ∃ mid : Nat, mid = p10 + p00 / 4294967296 := ⟨_, rfl⟩
  have f9 : (p10 : Int) + (p00 : Int) / 4294967296 = (mid : Int) := by omega
  obtain ⟨ml, hml⟩ : ∃ ml : Nat, ml = mid % 4294967296 := ⟨_, rfl⟩
  have hmid64 : mid < 18446744073709551616 := by omega
  have f10 : bits .and .u64 (mid : Int) 4294967295 = (ml : Int) := by
    rw [and64 mid 4294967295 _ _ rfl (by simp) hmid64 (by decide), show (4294967295 : Nat) = 2 ^ 32 - 1 by decide, Nat.and_two_pow_sub_one_eq_mod]; omega
  obtain ⟨mid2, hmid2⟩ : ∃ mid2 : Nat, mid2 = p01 + ml := ⟨_, rfl⟩
  have f11 : (p01 : Int) + (ml : Int) = (mid2 : Int) := by omega
  obtain ⟨hi, hhi⟩ : ∃ hi : Nat, hi = p11 + mid / 4294967296 + mid2 / 4294967296 := ⟨_, rfl⟩
  have f12 : (p11 : Int) + (mid : Int) / 4294967296 + (mid2 : Int) / 4294967296 = (hi : Int) := by omega
  obtain ⟨lo', hlo⟩ : ∃ lo' : Nat, lo' = a * b % 18446744073709551616 := ⟨_, rfl⟩
  have f13 : IntKind.u64.wrap ((a : Int) * (b : Int)) = (lo' : Int) := by rw [hlo, ← Int.natCast_mul, wrap64_nat]
  have fin : two hi lo' = a * b ∧ hi < 18446744073709551616 ∧ lo' < 18446744073709551616 := by
    have hab : a * b < 18446744073709551616 * 18446744073709551616 := Nat.mul_lt_mul'' ha hb
    unfold two
    generalize a * b = ab at *
    omega
  have k5 : p10 < 18446744073709551616 := by omega
  have k6 : mid2 < 18446744073709551616 := by omega
  have k7 : hi < 18446744073709551616 := fin.2.1
  have HF : Hid _ := fin
  clear ea eb hp e11 e10 e01 e00 hmid hml hmid2 hhi hlo fin g1 g2 g3 g4
  go_enter Oafg.func155, Oafg.ntmps155
  go_wp2
  exact bodyPost_ret (v := .agg #[.int .u64 hi, .int .u64 lo']) (by simp [results, Oafg.results155, go_sem]) rfl ⟨⟨hi, lo', rfl, HF.out⟩, self1⟩
/-- what is left, though the words wrap -/
theorem half_left (hi next d : Nat) (hd : 0 < d) (hd' : d < 18446744073709551616) :
    IntKind.u64.wrap (IntKind.u64.wrap (IntKind.u64.wrap ((hi : Int) * 4294967296) + (next : Int)) - IntKind.u64.wrap ((((hi * 4294967296 + next) / d : Nat) : Int) * (d : Int))) = (((hi * 4294967296 + next) % d : Nat) : Int) := by
  simp only [IntKind.wrap_u64]
  have h1 := Nat.div_add_mod (hi * 4294967296 + next) d
  have h2 := Nat.mod_lt (hi * 4294967296 + next) hd
  rw [Nat.mul_comm] at h1
  generalize (hi * 4294967296 + next) % d = R at *
  rw [show (((hi * 4294967296 + next) / d : Nat) : Int) * (d : Int) = (((hi * 4294967296 + next) / d * d : Nat) : Int) by simp]
  generalize (hi * 4294967296 + next) / d * d = P at *
  omega


theorem min_shl (l j : Nat) : l * 2 ^ min j 64 % 18446744073709551616 = l * 2 ^ j % 18446744073709551616 := by
  by_cases h : j ≤ 64
  · rw [Nat.min_eq_left h]
  · rw [Nat.min_eq_right (by omega), show j = 64 + (j - 64) by omega, Nat.pow_add, p64, ← Nat.mul_assoc, Nat.mul_right_comm, Nat.mul_mod_left, Nat.mul_mod_left]
theorem min_shr (l j : Nat) (hl : l < 18446744073709551616) : l / 2 ^ min j 64 = l / 2 ^ j := by
  by_cases h : j ≤ 64
  · rw [Nat.min_eq_left h]
  · rw [Nat.min_eq_right (by omega), p64, Nat.div_eq_of_lt hl, Nat.div_eq_of_lt]
    have : 2 ^ 64 ≤ 2 ^ j := two_pow_le (by omega)
    rw [p64] at this
    omega

/-- wide.Shl -/
theorem shl_any (h l k : Nat) (hl : l < 18446744073709551616) (hk : k < 256) (w : World) :
    Calls Oafg.prog 174 #[.agg #[.int .u64 h, .int .u64 l], .int .u8 k] w fun e w' => (∃ h' l' : Nat, e = .returned (.agg #[.int .u64 h', .int .u64 l']) ∧ two h' l' = two h l * 2 ^ k % 340282366920938463463374607431768211456 ∧ h' < 18446744073709551616 ∧ l' < 18446744073709551616) ∧ Below w.heap.size w w' := by
  by_cases k64 : 64 ≤ k
  · have d1 : decide ((64 : Int) ≤ (k : Int)) = true := by simp; omega
    obtain ⟨j, rfl⟩ : ∃ j, k = j + 64 := ⟨k - 64, by omega⟩
    have d2 : (((j + 64 : Nat) : Int)) - 64 = (j : Int) := by omega
    have hF := shl_hi2 h l (j + 64) k64
    rw [Nat.add_sub_cancel] at hF
    have d3 : IntKind.u64.wrap ((l : Int) * 2 ^ min j 64) = ((l * 2 ^ j % 18446744073709551616 : Nat) : Int) := by rw [← cast_two_pow, ← Int.natCast_mul, wrap64_nat, min_shl]
    have hb : l * 2 ^ j % 18446744073709551616 < 18446744073709551616 := Nat.mod_lt _ (by decide)
    generalize l * 2 ^ j % 18446744073709551616 = H at *
    have HF : Hid _ := hF
    clear hF
    go_enter Oafg.func174, Oafg.ntmps174
    go_wp2
    exact bodyPost_ret (v := .agg #[.int .u64 H, .int .u64 (0 : Nat)]) (by simp [results, Oafg.results174, go_sem]) rfl ⟨⟨H, 0, rfl, HF.out, hb, by decide⟩, self2⟩
  · have d1 : decide ((64 : Int) ≤ (k : Int)) = false := by simp; omega
    have hF := shl_hi h l k (by omega) hl
    have e1 : IntKind.u64.wrap ((h : Int) * 2 ^ k) = ((h * 2 ^ k % 18446744073709551616 : Nat) : Int) := by rw [← cast_two_pow, ← Int.natCast_mul, wrap64_nat]
    have e2 : IntKind.u64.wrap ((l : Int) * 2 ^ k) = ((l * 2 ^ k % 18446744073709551616 : Nat) : Int) := by rw [← cast_two_pow, ← Int.natCast_mul, wrap64_nat]
    have e3 : (l : Int) / 2 ^ (64 - k) = ((l / 2 ^ (64 - k) : Nat) : Int) := by simp
    have hb1 : h * 2 ^ k % 18446744073709551616 < 18446744073709551616 := Nat.mod_lt _ (by decide)
    have hb2 : l * 2 ^ k % 18446744073709551616 < 18446744073709551616 := Nat.mod_lt _ (by decide)
    have hb3 : l / 2 ^ (64 - k) < 18446744073709551616 := Nat.lt_of_le_of_lt (Nat.div_le_self _ _) hl
    generalize h * 2 ^ k % 18446744073709551616 = A at *
    generalize l * 2 ^ k % 18446744073709551616 = B at *
    generalize l / 2 ^ (64 - k) = C at *
    have e4 := or64 A C _ rfl hb1 hb3
    generalize A ||| C = H at *
    have HF : Hid _ := hF
    clear hF
    go_enter Oafg.func174, Oafg.ntmps174
    go_wp2
    exact bodyPost_ret (v := .agg #[.int .u64 H, .int .u64 B]) (by simp [results, Oafg.results174, go_sem]) rfl ⟨⟨H, B, rfl, HF.out.1, HF.out.2, hb2⟩, self2⟩

/-- wide.Shr -/
theorem shr_any (h l k : Nat) (hh : h < 18446744073709551616) (hl : l < 18446744073709551616) (hk : k < 256) (w : World) :
    Calls Oafg.prog 114 #[.agg #[.int .u64 h, .int .u64 l], .int .u8 k] w fun e w' => (∃ h' l' : Nat, e = .returned (.agg #[.int .u64 h', .int .u64 l']) ∧ two h' l' = two h l / 2 ^ k ∧ h' < 18446744073709551616 ∧ l' < 18446744073709551616) ∧ Below w.heap.size w w' := by
  by_cases k64 : 64 ≤ k
  · have d1 : decide ((64 : Int) ≤ (k : Int)) = true := by simp; omega
    obtain ⟨j, rfl⟩ : ∃ j, k = j + 64 := ⟨k - 64, by omega⟩
    have d2 : (((j + 64 : Nat) : Int)) - 64 = (j : Int) := by omega
    have hF := shr_lo2 h l (j + 64) k64 hl
    rw [Nat.add_sub_cancel] at hF
    have d3 : (h : Int) / 2 ^ min j 64 = ((h / 2 ^ j : Nat) : Int) := by rw [← min_shr h j hh]; simp
    have hb : h / 2 ^ j < 18446744073709551616 := Nat.lt_of_le_of_lt (Nat.div_le_self _ _) hh
    generalize h / 2 ^ j = H at *
    have HF : Hid _ := hF
    clear hF
    go_enter Oafg.func114, Oafg.ntmps114
    go_wp2
    exact bodyPost_ret (v := .agg #[.int .u64 (0 : Nat), .int .u64 H]) (by simp [results, Oafg.results114, go_sem]) rfl ⟨⟨0, H, rfl, HF.out, by decide, hb⟩, self2⟩
  · have d1 : decide ((64 : Int) ≤ (k : Int)) = false := by simp; omega
    have hF := shr_lo h l k (by omega) hl
    have e1 : IntKind.u64.wrap ((h : Int) * 2 ^ (64 - k)) = ((h * 2 ^ (64 - k) % 18446744073709551616 : Nat) : Int) := by rw [← cast_two_pow, ← Int.natCast_mul, wrap64_nat]
    have e2 : (l : Int) / 2 ^ k = ((l / 2 ^ k : Nat) : Int) := by simp
    have e3 : (h : Int) / 2 ^ k = ((h / 2 ^ k : Nat) : Int) := by simp
    have hb1 : h * 2 ^ (64 - k) % 18446744073709551616 < 18446744073709551616 := Nat.mod_lt _ (by decide)
    have hb2 : l / 2 ^ k < 18446744073709551616 := Nat.lt_of_le_of_lt (Nat.div_le_self _ _) hl
    have hb3 : h / 2 ^ k < 18446744073709551616 := Nat.lt_of_le_of_lt (Nat.div_le_self _ _) hh
    generalize h * 2 ^ (64 - k) % 18446744073709551616 = A at *
    generalize l / 2 ^ k = B at *
    generalize h / 2 ^ k = C at *
    have e4 := or64 B A _ rfl hb2 hb1
    generalize B ||| A = H at *
    have HF : Hid _ := hF
    clear hF
    go_enter Oafg.func114, Oafg.ntmps114
    go_wp2
    exact bodyPost_ret (v := .agg #[.int .u64 C, .int .u64 H]) (by simp [results, Oafg.results114, go_sem]) rfl ⟨⟨C, H, rfl, HF.out.1, hb3, HF.out.2⟩, self2⟩
end Go.Proofs.Ygcoaf
