/-
  exact.scaled; Unpack of a finite pattern, in one.
-/
import Derived.Test.YgcoafQ4
import Derived.Test.YgcoafL18
import Derived.Test.YgcoafS2
namespace Go.Proofs.Ygcoaf
open Go.RowKit Go.Proofs.Ygcoaf.M

set_option maxHeartbeats 1000000 in
/-- exact.scaled -/
theorem scaled_nat {w : World} {v : Value} {N : Nat} (neg : Bool) (s : NatV w v N) (k : Int) (h1 : -60000 ≤ k) (h2 : k ≤ 60000) (hb : bl N ≤ 100000) :
    Calls Oafg.prog 191 #[.bool neg, v, .int .i64 k] w fun e w' => (∃ v1 v2, e = .returned (.agg #[.bool neg, v1, v2]) ∧ NatV w' v1 (N * 2 ^ k.toNat) ∧ NatV w' v2 (2 ^ (-k).toNat)) ∧ Below w.heap.size w w' := by
  obtain ⟨p, l, c, rfl⟩ := s.sl
  have HS : Hid _ := s.call (self1 (o := .cells #[.bool false, .slice none 0 0, .slice none 0 0] 66))
  clear s
  by_cases ck : k < 0
  · obtain ⟨j, hj⟩ : ∃ j : Nat, j = (-k).toNat := ⟨_, rfl⟩
    have e1 : -k = (j : Int) := by omega
    have e2 : k.toNat = 0 := by omega
    rw [e2, ← hj, Nat.pow_zero, Nat.mul_one]
    have hj2 : j ≤ 60000 := by omega
    have T2 : Hid _ := fun ww => fromU64_any 1 (by decide) ww
    have T1 : Hid (∀ ww v, NatV ww v 1 → Calls Oafg.prog 146 #[v, .int .u16 j] ww fun e w' => (∃ v, e = .returned v ∧ NatV w' v (2 ^ j)) ∧ Below ww.heap.size ww w') := fun ww v g => by
      have := shl_nat j hj2 g (by decide)
      rw [Nat.one_mul] at this; exact this
    clear hj e2 hb
    go_enter Oafg.func191, Oafg.ntmps191
    go_wp2_with (first
      | (go_at_call 146; refine (T1.out _ _ HN1.out).mono ?_; rintro e' w3 ⟨⟨v3, rfl, hN3⟩, hb3⟩; obtain ⟨ad3, l3, c3, rfl⟩ := hN3.sl; obtain ⟨⟨k0, k1, k2⟩, k3, k4, k5⟩ := kept3 (bt HB1.out hb3); have HN3 : Hid _ := hN3; have HB3 : Hid _ := hb3; clear hN3 hb3)
      | (go_at_call 86; refine (T2.out _).mono ?_; rintro e' w1 ⟨⟨v1, rfl, hN1⟩, hb1⟩; obtain ⟨ad1, l1, c1, rfl⟩ := hN1.sl; have HN1 : Hid _ := hN1; have HB1 : Hid _ := hb1; clear hN1 hb1))
    refine bodyPost_ret (v := .agg #[.bool neg, .slice p l c, .slice ad3 l3 c3]) (by simp [results, Oafg.results191, go_sem, k0, k1, k2]) rfl ⟨⟨_, _, rfl, ?_, ?_⟩, ?_⟩
    · exact ((HS.out.call HB1.out).call HB3.out).set3 _ _ _ k0 k1 k2 (fun x => by simp) (fun x => by simp) (fun x => by simp)
    · exact HN3.out.set3 _ _ _ k0 k1 k2 (fun x => by simp) (fun x => by simp) (fun x => by simp)
    · exact below_set3 _ _ _ (bt (below1 HB1.out) HB3.out) (Nat.le_refl _)
  · obtain ⟨j, hj⟩ : ∃ j : Nat, k = (j : Int) := ⟨k.toNat, by omega⟩
    subst hj
    have e2 : (-(j : Int)).toNat = 0 := by omega
    rw [e2, Int.toNat_natCast, Nat.pow_zero]
    have hj2 : j ≤ 60000 := by omega
    have T1 : Hid (∀ ww, NatV ww (.slice p l c) N → Calls Oafg.prog 146 #[.slice p l c, .int .u16 j] ww fun e w' => (∃ v, e = .returned v ∧ NatV w' v (N * 2 ^ j)) ∧ Below ww.heap.size ww w') := fun ww g => shl_nat j hj2 g (by omega)
    have T3 : Hid (∀ ww v, NatV ww v (N * 2 ^ j) → Calls Oafg.prog 164 #[.bool neg, v] ww fun e w' => (∃ v1 v2, e = .returned (.agg #[.bool neg, v1, v2]) ∧ NatV w' v1 (N * 2 ^ j) ∧ NatV w' v2 1) ∧ Below ww.heap.size ww w') := fun ww v g => ewhole_nat neg g
    clear e2 hb
    go_enter Oafg.func191, Oafg.ntmps191
    go_wp2_with (first
      | (go_at_call 164; refine (T3.out _ _ HN1.out).mono ?_; rintro e' w3 ⟨⟨v3, v4, rfl, hN3, hN4⟩, hb3⟩; obtain ⟨ad3, l3, c3, rfl⟩ := hN3.sl; obtain ⟨ad4, l4, c4, rfl⟩ := hN4.sl; obtain ⟨⟨k0, k1, k2⟩, k3, k4, k5⟩ := kept3 (bt HB1.out hb3); have HN3 : Hid _ := hN3; have HN4 : Hid _ := hN4; have HB3 : Hid _ := hb3; clear hN3 hN4 hb3)
      | (go_at_call 146; refine (T1.out _ HS.out).mono ?_; rintro e' w1 ⟨⟨v1, rfl, hN1⟩, hb1⟩; obtain ⟨ad1, l1, c1, rfl⟩ := hN1.sl; have HN1 : Hid _ := hN1; have HB1 : Hid _ := hb1; clear hN1 hb1))
    refine bodyPost_ret (v := .agg #[.bool neg, .slice ad3 l3 c3, .slice ad4 l4 c4]) (by simp [results, Oafg.results191, go_sem, k0, k1, k2]) rfl ⟨⟨_, _, rfl, ?_, ?_⟩, ?_⟩
    · exact HN3.out.set3 _ _ _ k0 k1 k2 (fun x => by simp) (fun x => by simp) (fun x => by simp)
    · exact HN4.out.set3 _ _ _ k0 k1 k2 (fun x => by simp) (fun x => by simp) (fun x => by simp)
    · exact below_set3 _ _ _ (bt (below1 HB1.out) HB3.out) (Nat.le_refl _)
end Go.Proofs.Ygcoaf
