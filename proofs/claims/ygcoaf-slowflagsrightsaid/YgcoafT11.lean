/-
  slow.big.isZero.
-/
import Derived.Test.YgcoafT10
import Derived.Deep.MidRow
namespace Go.Proofs.Ygcoaf
open Go.RowKit Go.Proofs.Ygcoaf.M

theorem info120 : (Oafg.prog.info? 120).map (·.size) = some 52 := by kernel_rfl
theorem info23 : (Oafg.prog.info? 23).map (·.size) = some 1 := by kernel_rfl

/-- one limb of an array that was read whole -/
theorem idx120 (cs : List Value) (k x : Nat) (hk : k < 52) (h : cs[k]? = some (.int .u64 x)) (w : World) : (Instr.index 120 (.agg cs.toArray) (.int .i64 (k : Int))).run Oafg.prog w = .ok (.int .u64 x) w := by
  have u1 := run_underlying (P := Oafg.prog) Oafg.underlying120 w
  cases hq : Oafg.prog.info? 23 with
  | none => have := info23; rw [hq] at this; simp at this
  | some i =>
    have hs : i.size = 1 := by have := info23; rw [hq] at this; simpa using this
    simp [Instr.index, asIntOf, u1, part, isAgg, sizeOf, typeInfo, hq, hs, h]
    intro h9; omega

set_option maxRecDepth 8000 in
/-- slow.big.isZero -/
theorem isZero_any {w : World} {R n : Nat} {xs : List Nat} (b : Big w R n xs) :
    Calls Oafg.prog 163 #[.pointer (some ⟨R, 0, none⟩)] w fun e w' => e = .returned (.bool (decide (lw xs = 0))) ∧ w' = w := by
  obtain ⟨cs, hcs⟩ : ∃ cs : List Value, cs = xs.map fun (x : Nat) => Value.int .u64 (x : Int) := ⟨_, rfl⟩
  have hlen : cs.length = 52 := by rw [hcs, List.length_map]; exact b.len
  have hget : ∀ k, k < 52 → cs[k]? = some (.int .u64 (xs.getD k 0)) := fun k hk => by
    have h9 : k < xs.length := by rw [b.len]; exact hk
    rw [hcs, List.getElem?_map, List.getElem?_eq_getElem h9]
    simp [List.getD_eq_getElem?_getD, h9]
  have hrange : w.rangeAt R 1 cs := fun j v hv => by
    by_cases hj : j < 52
    · rw [hget j hj] at hv
      cases hv
      exact b.cw j hj
    · rw [List.getElem?_eq_none (by omega)] at hv; cases hv
  have hsz : Hid ((Oafg.prog.info? 120).map (·.size) = some cs.length) := by rw [hlen]; exact info120
  have hidx := fun k x (hk : k < 52) (h : cs[k]? = some (.int .u64 (x : Nat))) => idx120 cs k x hk h
  have Hidx : Hid (∀ k : Nat, k < 52 → ∀ ww, (Instr.index 120 (.agg cs.toArray) (.int .i64 (k : Int))).run Oafg.prog ww = .ok (.int .u64 (xs.getD k 0)) ww) := fun k hk ww => hidx k _ hk (hget k hk) ww
  have HL : Hid (∀ k, k < 52 → xs.getD k 0 < 18446744073709551616) := fun k hk => b.lim k (by rw [b.len]; exact hk)
  obtain ⟨V, hV⟩ : ∃ V, V = decide (lw xs = 0) := ⟨_, rfl⟩
  rw [← hV]
  have HV : Hid (V = decide (lw (xs.take 52) = 0)) := by rw [List.take_of_length_le (by rw [b.len]; omega)]; exact hV
  clear hV hidx hget hcs hlen b
  go_enter Oafg.func163, Oafg.ntmps163
  go_wp2_with (refine wpList_load_mid rfl 120 (.tmp 8) rfl R 1 rfl cs _ hrange Oafg.underlying120 rfl hsz.out ?_)
  clear hrange hsz
  generalize cs.toArray = arr at *
  go_loop [10, 3] (fun i a => ∃ k x : Nat, k ≤ 52 ∧ x < 18446744073709551616 ∧ i = .int .i64 k ∧ a = .int .u64 x ∧ Hid (x = 0 ↔ lw (xs.take k) = 0)) (fun i _ => 52 - (intOf i).toNat)
  case atStart => exact ⟨0, 0, by decide, by decide, rfl, rfl, by simp [Hid, lw]⟩
  case round =>
    obtain ⟨k, x, hk, hx, rfl, rfl, hM⟩ := hrel
    by_cases c : k < 52
    · have hi := Hidx.out k c
      have hly := HL.out k c
      obtain ⟨y, hy⟩ : ∃ y, y = xs.getD k 0 := ⟨_, rfl⟩
      rw [← hy] at hi hly
      obtain ⟨z, hz⟩ : ∃ z, z = x ||| y := ⟨_, rfl⟩
      have fz : bits .or .u64 (x : Int) (y : Int) = (z : Int) := by rw [hz]; exact u64_or_nat x y hx hly
      have hzl : z < 18446744073709551616 := by rw [hz]; exact Nat.or_lt_two_pow (n := 64) (by simpa using hx) (by simpa using hly)
      have hN : Hid (z = 0 ↔ lw (xs.take (k + 1)) = 0) := by
        show _ ↔ _
        rw [hz, Nat.or_eq_zero_iff, lw_take_next, ← hy, hM.out]
        have hp : 0 < 18446744073709551616 ^ k := Nat.pow_pos (by decide)
        constructor
        · rintro ⟨h1, h2⟩; rw [h1, h2]; simp
        · intro h
          have h1 : lw (xs.take k) = 0 := by omega
          refine ⟨h1, ?_⟩
          by_cases h3 : y = 0
          · exact h3
          · exfalso
            have := Nat.mul_pos hp (Nat.pos_of_ne_zero h3)
            omega
      clear hM hy hz
      go_wp2
      go_round
      case rel => exact ⟨k + 1, z, by omega, hzl, by go_num, rfl, hN⟩
      case measure => simp [intOf]; omega
    · obtain rfl : k = 52 := by omega
      have hans : V = ((x : Int) == 0) := by
        rw [HV.out, Bool.eq_iff_iff, decide_eq_true_iff, beq_iff_eq, ← hM.out]; omega
      subst hans
      clear hM HV
      go_wp2
      go_ret
      exact ⟨rfl, rfl⟩
end Go.Proofs.Ygcoaf
