/-
  nat.FromU64, width32, BitLen.
-/
import Derived.Test.YgcoafN3
import Derived.Test.YgcoafW1
namespace Go.Proofs.Ygcoaf
open Go.RowKit

/-- nat.FromU64 -/
theorem fromU64_any (x : Nat) (hx : x < 18446744073709551616) (w : World) :
    Calls Oafg.prog 86 #[.int .u64 x] w fun e w' => (∃ v, e = .returned v ∧ NatV w' v x) ∧ Below w.heap.size w w' := by
  obtain ⟨lo, hlo⟩ : ∃ lo, lo = x % 4294967296 := ⟨_, rfl⟩
  obtain ⟨hi, hhi⟩ : ∃ hi, hi = x / 4294967296 := ⟨_, rfl⟩
  have f1 : IntKind.u32.wrap (x : Int) = (lo : Int) := by rw [IntKind.wrap_u32]; omega
  have f2 : (x : Int) / 4294967296 = (hi : Int) := by omega
  have b1 : lo < 4294967296 := by omega
  have b2 : hi < 4294967296 := by omega
  have hv : lv [lo, hi] = x := by simp [lv]; omega
  have HV : Hid _ := hv
  clear hlo hhi hv
  have S : Hid (SL (w.alloc (.cells #[.int .u32 lo, .int .u32 hi] 22)) (some ⟨w.heap.size, 0, none⟩) 2 [lo, hi]) := by
    refine ⟨fun i h => ?_, Nat.le_refl 2, fun i h => ?_⟩
    · match i, h with
      | 0, _ => exact b1
      | 1, _ => exact b2
    · match i, h with
      | 0, _ => exact ⟨_, _, rfl, by simp [go_sem]⟩
      | 1, _ => exact ⟨_, _, rfl, by simp [go_sem]⟩
  have T : Calls Oafg.prog 136 #[.slice (some ⟨w.heap.size, 0, none⟩) 2 2] (w.alloc (.cells #[.int .u32 lo, .int .u32 hi] 22)) fun e w' => (∃ v, e = .returned v ∧ NatV (w.alloc (.cells #[.int .u32 lo, .int .u32 hi] 22)) v (lv [lo, hi])) ∧ w' = w.alloc (.cells #[.int .u32 lo, .int .u32 hi] 22) := trim_any (some ⟨w.heap.size, 0, none⟩) 2 [lo, hi] (w.alloc (.cells #[.int .u32 lo, .int .u32 hi] 22)) S.out (by decide)
  rw [HV.out] at T
  have HT : Hid _ := fun (_ : Unit) => T
  clear T S
  go_enter Oafg.func86, Oafg.ntmps86
  go_wp2_with (go_at_call 136; refine (HT.out ()).mono ?_; rintro e w1 ⟨⟨v, rfl, hN⟩, rfl⟩; have HN : Hid _ := hN; clear hN)
  go_ret
  exact ⟨⟨v, rfl, HN.out⟩, self1⟩
end Go.Proofs.Ygcoaf
