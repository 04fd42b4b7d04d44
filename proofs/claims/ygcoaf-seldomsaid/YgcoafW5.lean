/-
  WALKS, the fifth: the laws' own readings of a pattern (classOf, nanOf, infOf), put, and the law NativeSign.
-/
import Derived.Test.YgcoafW4
namespace Go.Proofs.Ygcoaf
open Go.RowKit

theorem expField_yes {E M : Nat} (h1 : 2 ≤ E) (h2 : E ≤ 11) (h3 : 2 ≤ M) (h4 : M ≤ 52) (x : Nat) (hx : x < 18446744073709551616) (w : World) :
    Calls Oafg.prog 76 #[.agg #[.int .u8 E, .int .u8 M], .int .u64 x] w fun e w' => e = .returned (.int .u64 (eF E M x)) ∧ Below w.heap.size w w' := by
  obtain ⟨f1, f2, f3, f4, f5⟩ := fields_spell h1 h2 h3 h4 x hx
  have s1 : IntKind.u64.wrap (2 ^ E) = 2 ^ E := wrap64_pow E (by omega)
  have hE11 : 2 ^ E ≤ 2 ^ 11 := two_pow_le h2
  have s3 : 2 ^ E - 1 < 18446744073709551616 := by omega
  generalize 2 ^ E - 1 = T at *
  clear f1 f3 f5 hE11
  go_enter Oafg.func76, Oafg.ntmps76
  go_wp2
  go_ret
  exact ⟨rfl, self1⟩

theorem fracField_yes {E M : Nat} (h1 : 2 ≤ E) (h2 : E ≤ 11) (h3 : 2 ≤ M) (h4 : M ≤ 52) (x : Nat) (hx : x < 18446744073709551616) (w : World) :
    Calls Oafg.prog 77 #[.agg #[.int .u8 E, .int .u8 M], .int .u64 x] w fun e w' => e = .returned (.int .u64 (mF M x)) ∧ Below w.heap.size w w' := by
  obtain ⟨f1, f2, f3, f4, f5⟩ := fields_spell h1 h2 h3 h4 x hx
  have s1 : IntKind.u64.wrap (2 ^ M) = 2 ^ M := wrap64_pow M (by omega)
  have hE11 : 2 ^ M ≤ 2 ^ 52 := two_pow_le h4
  have s3 : 2 ^ M - 1 < 18446744073709551616 := by omega
  generalize 2 ^ M - 1 = T at *
  clear f1 f2 f4 hE11
  go_enter Oafg.func77, Oafg.ntmps77
  go_wp2
  go_ret
  exact ⟨rfl, self1⟩

set_option maxHeartbeats 400000 in
/-- law.classOf -/
theorem classOf_yes {E M : Nat} (h1 : 2 ≤ E) (h2 : E ≤ 11) (h3 : 2 ≤ M) (h4 : M ≤ 52) (x : Nat) (hx : x < 18446744073709551616) (w : World) :
    Calls Oafg.prog 38 #[.agg #[.int .u8 E, .int .u8 M], .int .u64 x] w fun e w' => e = .returned (.int .i8 (uCls E M x)) ∧ Below w.heap.size w w' := by
  obtain ⟨f1, f2, f3, f4, f5⟩ := fields_spell h1 h2 h3 h4 x hx
  have s1 : IntKind.u64.wrap (2 ^ E) = 2 ^ E := wrap64_pow E (by omega)
  have hE11 : 2 ^ E ≤ 2 ^ 11 := two_pow_le h2
  have s3 : 2 ^ E - 1 < 18446744073709551616 := by omega
  have ke := fun w => expField_yes h1 h2 h3 h4 x hx w
  have km := fun w => fracField_yes h1 h2 h3 h4 x hx w
  have KE : Hid _ := ke
  have KM : Hid _ := km
  clear ke km f1 f2 f3 f5 hE11
  unfold uCls
  generalize 2 ^ E - 1 = T at *
  generalize eF E M x = e at *
  generalize mF M x = m at *
  go_enter Oafg.func38, Oafg.ntmps38
  go_wp2
  have hS0 : HS w w.heap.size E M (w.alloc (.cells #[.int .u8 E, .int .u8 M] 27)) := ⟨self1, Nat.le_refl _, by simp, by simp⟩
  obtain ⟨hl0, hl1⟩ := HS.cells (w := w) (b := w.heap.size) (E := E) (M := M)
  go_region_held3 (fun w' => HS w w.heap.size E M w')
    (repeat' (first | with_reducible exact hSu | with_reducible exact hS0 | with_reducible apply HS.drew))
    (first
      | (go_at_call 76; refine (KE.out _).mono ?_; rintro e' w2 ⟨rfl, hbu⟩; have hSu := HS.call (by assumption) hbu)
      | (go_at_call 77; refine (KM.out _).mono ?_; rintro e' w3 ⟨rfl, hbu⟩; have hSu := HS.call (by assumption) hbu))
  rename_i hH
  go_wp2
  all_goals
    go_ret
    refine ⟨ret_int ?_, hH.1⟩
    clear KE KM hl0 hl1 hS0 hSu hH
    simp_all <;> omega

theorem signedZero_yes {E M : Nat} (h1 : 2 ≤ E) (h2 : E ≤ 11) (h3 : 2 ≤ M) (h4 : M ≤ 52) (neg : Bool) (w : World) :
    Calls Oafg.prog 121 #[.agg #[.int .u8 E, .int .u8 M], .bool neg] w fun e w' => e = .returned (.int .u64 (sgn E M neg)) ∧ Below w.heap.size w w' := by
  cases neg
  all_goals
    go_enter Oafg.func121, Oafg.ntmps121
    go_wp2
    go_ret
    refine ⟨ret_int ?_, self1⟩
    simp [sgn]
  exact wrap64_pow (E + M) (by omega)

theorem infOf_spell {E M : Nat} (h2 : E ≤ 11) (h4 : M ≤ 52) (neg : Bool) : bits .or .u64 (sgn E M neg : Int) (infR E M : Int) = ((infR E M + sgn E M neg : Nat) : Int) := by
  have a := infR_lt E M
  have b : 2 ^ (E + M) ≤ 2 ^ 63 := two_pow_le (by omega)
  have c := sgn_lt E M neg (by omega)
  rw [or64 _ _ _ rfl (by omega) (by omega)]
  cases neg
  · simp [sgn]
  · rw [Nat.or_comm, show sgn E M true = 2 ^ (E + M) from rfl, or_add _ _ a]

set_option maxHeartbeats 400000 in
/-- law.infOf -/
theorem infOf_yes {E M : Nat} (h1 : 2 ≤ E) (h2 : E ≤ 11) (h3 : 2 ≤ M) (h4 : M ≤ 52) (neg : Bool) (w : World) :
    Calls Oafg.prog 78 #[.agg #[.int .u8 E, .int .u8 M], .bool neg] w fun e w' => e = .returned (.int .u64 ((infR E M + sgn E M neg : Nat) : Int)) ∧ Below w.heap.size w w' := by
  have e0 := infR_spell (E := E) (M := M) h2 h4
  have e1 := infOf_spell (E := E) (M := M) h2 h4 neg
  have e2 : IntKind.u64.wrap (2 ^ E) = 2 ^ E := wrap64_pow E (by omega)
  rw [e2] at e0
  have e3 : min M 64 = M := by omega
  have e4 : min E 64 = E := by omega
  go_enter Oafg.func78, Oafg.ntmps78
  go_wp2
  have hS0 : HS w w.heap.size E M (w.alloc (.cells #[.int .u8 E, .int .u8 M] 27)) := ⟨self1, Nat.le_refl _, by simp, by simp⟩
  obtain ⟨hl0, hl1⟩ := HS.cells (w := w) (b := w.heap.size) (E := E) (M := M)
  go_region_held3 (fun w' => HS w w.heap.size E M w')
    (repeat' (first | with_reducible exact hSu | with_reducible exact hS0 | with_reducible apply HS.drew))
    ((go_at_call 121; refine (signedZero_yes h1 h2 h3 h4 neg _).mono ?_; rintro e' w2 ⟨rfl, hbu⟩; have hSu := HS.call (by assumption) hbu))
  rename_i hH
  go_wp2
  go_ret
  exact ⟨rfl, hH.1⟩

set_option maxHeartbeats 400000 in
/-- law.nanOf -/
theorem nanOf_yes {E M : Nat} (h1 : 2 ≤ E) (h2 : E ≤ 11) (h3 : 2 ≤ M) (h4 : M ≤ 52) (w : World) :
    Calls Oafg.prog 39 #[.agg #[.int .u8 E, .int .u8 M]] w fun e w' => e = .returned (.int .u64 (nanR E M : Int)) ∧ Below w.heap.size w w' := by
  have e1 : ((infR E M + sgn E M false : Nat) : Int) = (infR E M : Int) := by simp [sgn]
  have e0 := nan_spell (E := E) (M := M) h2 h3 h4
  have e2 : IntKind.u8.wrap ((M : Int) - 1) = ((M - 1 : Nat) : Int) := by rw [IntKind.wrap_u8']; omega
  have e3 : min (M - 1) 64 = M - 1 := by omega
  go_enter Oafg.func39, Oafg.ntmps39
  go_wp2
  have hS0 : HS w w.heap.size E M (w.alloc (.cells #[.int .u8 E, .int .u8 M] 27)) := ⟨self1, Nat.le_refl _, by simp, by simp⟩
  obtain ⟨hl0, hl1⟩ := HS.cells (w := w) (b := w.heap.size) (E := E) (M := M)
  go_region_held3 (fun w' => HS w w.heap.size E M w')
    (repeat' (first | with_reducible exact hSu | with_reducible exact hS0 | with_reducible apply HS.drew))
    ((go_at_call 78; refine (infOf_yes h1 h2 h3 h4 false _).mono ?_; rintro e' w2 ⟨rfl, hbu⟩; have hSu := HS.call (by assumption) hbu; rw [e1]))
  rename_i hH
  go_wp2
  go_ret
  exact ⟨rfl, hH.1⟩

end Go.Proofs.Ygcoaf
