/-
  WALKS, the nineteenth: top, numberOf.
-/
import Derived.Test.YgcoafW18
import Derived.Test.YgcoafW17
import Derived.Test.YgcoafM11
namespace Go.Proofs.Ygcoaf
open Go.RowKit Go.Proofs.Ygcoaf.M

/-- soft.top -/
theorem top_any {E M : Nat} (h4 : M ≤ 52) (neg : Bool) (c ex : Int) (man : Nat) (hm : man < 2 ^ (M + 1)) (hx : -10000 ≤ ex ∧ ex ≤ 10000) (w : World) :
    Calls Oafg.prog 113 #[.agg #[.int .u8 E, .int .u8 M], .agg #[.bool neg, .int .i8 c, .int .i16 ex, .int .u64 man]] w fun e w' => e = .returned (.tuple #[.int .u64 ((man * 2 ^ (63 - M) : Nat) : Int), .int .i16 (ex - (63 - M : Nat))]) ∧ Below w.heap.size w w' := by
  have hb : man * 2 ^ (63 - M) < 18446744073709551616 := by
    calc man * 2 ^ (63 - M) < 2 ^ (M + 1) * 2 ^ (63 - M) := Nat.mul_lt_mul_of_pos_right hm (Nat.two_pow_pos _)
      _ = 18446744073709551616 := by rw [← Nat.pow_add, show M + 1 + (63 - M) = 64 by omega]
  have e1 : (63 : Int) - (M : Int) = ((63 - M : Nat) : Int) := by omega
  have hk : 63 - M < 64 := by omega
  have e2 : IntKind.u64.wrap ((man : Int) * 2 ^ (63 - M)) = ((man * 2 ^ (63 - M) : Nat) : Int) := by rw [← cast_two_pow, ← Int.natCast_mul, wrap64_nat, Nat.mod_eq_of_lt hb]
  generalize man * 2 ^ (63 - M) = R at *
  generalize 63 - M = k at *
  have y1 : IntKind.i16.wrap (k : Int) = (k : Int) := by rw [wrap_i16]; omega
  have y2 : IntKind.i16.wrap (ex - (k : Int)) = ex - (k : Int) := by rw [wrap_i16]; omega
  go_enter Oafg.func113, Oafg.ntmps113
  go_wp2
  go_quiet (fail)
  go_wp2
  go_ret2
  exact ⟨rfl, below_drewN self2 _⟩

/-- soft.numberOf -/
theorem numberOf_any {E M : Nat} (h4 : M ≤ 52) (neg : Bool) (c ex : Int) (man : Nat) (hm : man < 2 ^ (M + 1)) (hx : -9000 ≤ ex ∧ ex ≤ 9000) (w : World) :
    Calls Oafg.prog 196 #[.agg #[.int .u8 E, .int .u8 M], .agg #[.bool neg, .int .i8 c, .int .i16 ex, .int .u64 man]] w fun e w' => (∃ h l : Nat, e = .returned (.agg #[.bool neg, .int .i16 (ex - (126 - M : Nat)), .int .u64 h, .int .u64 l]) ∧ two h l = man * 2 ^ (126 - M) ∧ h < 18446744073709551616 ∧ l < 18446744073709551616) ∧ Below w.heap.size w w' := by
  have T := fun w => top_any (E := E) h4 neg c ex man hm (by omega) w
  have hb : man * 2 ^ (63 - M) < 18446744073709551616 := by
    calc man * 2 ^ (63 - M) < 2 ^ (M + 1) * 2 ^ (63 - M) := Nat.mul_lt_mul_of_pos_right hm (Nat.two_pow_pos _)
      _ = 18446744073709551616 := by rw [← Nat.pow_add, show M + 1 + (63 - M) = 64 by omega]
  have e0 : man * 2 ^ (126 - M) = man * 2 ^ (63 - M) * 9223372036854775808 := by
    rw [Nat.mul_assoc, show (9223372036854775808 : Nat) = 2 ^ 63 by decide, ← Nat.pow_add, show 126 - M = 63 - M + 63 by omega]
  rw [e0]
  have e1 : ex - ((63 - M : Nat) : Int) - 63 = ex - ((126 - M : Nat) : Int) := by omega
  have e2 : IntKind.i16.wrap (ex - ((126 - M : Nat) : Int)) = ex - ((126 - M : Nat) : Int) := by rw [wrap_i16]; omega
  generalize man * 2 ^ (63 - M) = R at *
  generalize ex - ((126 - M : Nat) : Int) = x2 at *
  generalize ex - ((63 - M : Nat) : Int) = x1 at *
  obtain ⟨h, hh⟩ : ∃ h, h = R / 2 := ⟨_, rfl⟩
  obtain ⟨l, hl⟩ : ∃ l, l = R * 9223372036854775808 % 18446744073709551616 := ⟨_, rfl⟩
  have f1 : (R : Int) / 2 = (h : Int) := by omega
  have f2 : IntKind.u64.wrap ((R : Int) * 9223372036854775808) = (l : Int) := by rw [IntKind.wrap_u64]; omega
  have F : Hid (two h l = R * 9223372036854775808 ∧ h < 18446744073709551616 ∧ l < 18446744073709551616) := by unfold Hid two; omega
  have HT : Hid _ := T
  clear T hh hl e0
  go_enter Oafg.func196, Oafg.ntmps196
  go_wp2_with (go_at_call 113; refine (HT.out _).mono ?_; rintro e w1 ⟨rfl, hb1⟩; obtain ⟨hc, hf⟩ := bcell hb1)
  have q0 : w1.cell? ⟨w.heap.size + 1 + 1, 0, none⟩ = some (.bool false) := by rw [hc _ _ (by simp)]; simp [go_sem]
  have q1 : w1.cell? ⟨w.heap.size + 1 + 1, 1, none⟩ = some (.int .i16 0) := by rw [hc _ _ (by simp)]; simp [go_sem]
  have q2 : w1.cell? ⟨w.heap.size + 1 + 1, 2, none⟩ = some (.int .u64 0) := by rw [hc _ _ (by simp)]; simp [go_sem]
  have q3 : w1.cell? ⟨w.heap.size + 1 + 1, 3, none⟩ = some (.int .u64 0) := by rw [hc _ _ (by simp)]; simp [go_sem]
  have hle : w.heap.size ≤ w.heap.size + 1 + 1 := by omega
  exact bodyPost_ret (v := .agg #[.bool neg, .int .i16 x2, .int .u64 h, .int .u64 l]) (by simp (maxDischargeDepth := 8) [results, Oafg.results196, go_sem, q0, q1, q2, q3]) rfl ⟨⟨h, l, rfl, F.out⟩, ((((below3 hb1).setCell hle _).setCell hle _).setCell hle _).setCell hle _⟩
end Go.Proofs.Ygcoaf
