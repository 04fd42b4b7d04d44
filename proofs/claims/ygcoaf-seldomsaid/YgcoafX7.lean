/-
  exact.Round; the laws' fractions: one, wholeFrac, pow10Nat, pow10Frac, mulFrac.
-/
import Derived.Test.YgcoafX6
namespace Go.Proofs.Ygcoaf
open Go.RowKit Go.Proofs.Ygcoaf.M

/-- exact.Round -/
theorem round_yes {E M : Nat} (h1 : 2 ≤ E) (h2 : E ≤ 11) (h3 : 2 ≤ M) (h4 : M ≤ 52) (mode : Nat) (hm : mode < 256) (neg : Bool) {w : World} {va vb : Value} {A B : Nat} (s1 : NatV w va A) (s2 : NatV w vb B) (b1 : bl A ≤ 700000) (b2 : bl B ≤ 700000) (hB : B ≠ 0) :
    Calls Oafg.prog 48 #[.agg #[.int .u8 E, .int .u8 M], .int .u8 mode, .agg #[.bool neg, va, vb]] w fun r w' =>
      r = .returned (.int .u64 (rfV E M mode neg A B : Nat)) ∧ Below w.heap.size w w' := by
  obtain ⟨ada, la, ca, rfl⟩ := s1.sl
  obtain ⟨adb, lb, cb, rfl⟩ := s2.sl
  have hbw : Below w.heap.size w ((w.alloc (.cells #[.int .u8 E, .int .u8 M] 27)).alloc (.cells #[.bool neg, .slice ada la ca, .slice adb lb cb] 66)) := self2
  have R := roundFlags_yes h1 h2 h3 h4 mode hm neg (s1.call hbw) (s2.call hbw) b1 b2 hB
  generalize rfV E M mode neg A B = V at *
  generalize rfF E M mode neg A B = F at *
  have HR : Hid _ := fun (_ : Unit) => R
  clear R hbw s1 s2
  go_enter Oafg.func48, Oafg.ntmps48
  go_wp2_with (go_at_call 83; refine (HR.out ()).mono ?_; rintro e' w1 ⟨rfl, hb1⟩)
  go_ret
  exact ⟨rfl, below2 hb1⟩

/-- law.one -/
theorem one_nat (w : World) : Calls Oafg.prog 135 #[] w fun e w' => (∃ v, e = .returned v ∧ NatV w' v 1) ∧ Below w.heap.size w w' := by
  have T : Hid _ := fun (_ : Unit) => fromU64_any 1 (by decide) w
  go_enter Oafg.func135, Oafg.ntmps135
  go_wp2_with (go_at_call 86; refine (T.out ()).mono ?_; rintro e' w1 ⟨⟨v, rfl, hN⟩, hb1⟩)
  go_ret
  exact ⟨⟨v, rfl, hN⟩, hb1⟩

/-- law.wholeFrac -/
theorem whole_nat {w : World} {v : Value} {n : Nat} (neg : Bool) (s : NatV w v n) :
    Calls Oafg.prog 85 #[.bool neg, v] w fun e w' => (∃ v1 v2, e = .returned (.agg #[.bool neg, v1, v2]) ∧ NatV w' v1 n ∧ NatV w' v2 1) ∧ Below w.heap.size w w' := by
  obtain ⟨ad, l, c, rfl⟩ := s.sl
  have HS : Hid _ := s.call (self1 (o := .cells #[.bool false, .slice none 0 0, .slice none 0 0] 66))
  have T : Hid _ := fun ww => one_nat ww
  clear s
  go_enter Oafg.func85, Oafg.ntmps85
  go_wp2_with (go_at_call 135; refine (T.out _).mono ?_; rintro e' w1 ⟨⟨v2, rfl, hN⟩, hb1⟩; obtain ⟨ad2, l2, c2, rfl⟩ := hN.sl; obtain ⟨⟨k0, k1, k2⟩, k3, k4, k5⟩ := kept3 hb1; have HN : Hid _ := hN; have HB1 : Hid _ := hb1; clear hN hb1)
  refine bodyPost_ret (v := .agg #[.bool neg, .slice ad l c, .slice ad2 l2 c2]) (by simp [results, Oafg.results85, go_sem, k0, k1, k2]) rfl ⟨⟨_, _, rfl, ?_, ?_⟩, ?_⟩
  · exact (HS.out.call HB1.out).set3 _ _ _ k0 k1 k2 (fun x => by simp) (fun x => by simp) (fun x => by simp)
  · exact HN.out.set3 _ _ _ k0 k1 k2 (fun x => by simp) (fun x => by simp) (fun x => by simp)
  · exact below_set3 _ _ _ (below1 HB1.out) (Nat.le_refl _)

/-- law.pow10Nat -/
theorem pow10_nat {w : World} (k : Nat) (hk : k ≤ 60000) :
    Calls Oafg.prog 137 #[.int .i64 k] w fun e w' => (∃ v, e = .returned v ∧ NatV w' v (10 ^ k)) ∧ Below w.heap.size w w' := by
  have hv : 5 ^ k * (1 * 2 ^ k) = 10 ^ k := by rw [Nat.one_mul, ← Nat.mul_pow]
  have T1 : Hid _ := fun ww => pow5_nat (w := ww) k (by omega)
  have T2 : Hid _ := fun ww => one_nat ww
  have T3 : Hid _ := fun ww (v : Value) (h : NatV ww v 1) => shl_nat k hk h (by decide)
  have hbk : bl (1 * 2 ^ k) ≤ 1000000 := by
    have e1 := bl_shl 1 k
    have e2 : bl 1 = 1 := by decide
    omega
  have hb5 : bl (5 ^ k) ≤ 1000000 := by have := bl_pow5 k; omega
  have T4 : Hid _ := fun ww (v1 v2 : Value) (g1 : NatV ww v1 (5 ^ k)) (g2 : NatV ww v2 (1 * 2 ^ k)) => mul_nat g1 g2 hb5 hbk
  rw [hv] at T4
  clear hv hbk hb5
  have hk2 : k < 65536 := by omega
  go_enter Oafg.func137, Oafg.ntmps137
  go_wp2_with (first
    | (go_at_call 184; refine (T1.out _).mono ?_; rintro e' w1 ⟨⟨v1, rfl, hN1⟩, hb1⟩; have HN1 : Hid _ := hN1; have HB1 : Hid _ := hb1; clear hN1 hb1)
    | (go_at_call 135; refine (T2.out _).mono ?_; rintro e' w2 ⟨⟨v2, rfl, hN2⟩, hb2⟩; have HN2 : Hid _ := hN2; have HB2 : Hid _ := hb2; clear hN2 hb2)
    | (go_at_call 146; refine (T3.out _ _ HN2.out).mono ?_; rintro e' w3 ⟨⟨v3, rfl, hN3⟩, hb3⟩; have HN3 : Hid _ := hN3; have HB3 : Hid _ := hb3; clear hN3 hb3)
    | (go_at_call 91; refine (T4.out _ _ _ ((HN1.out.call HB2.out).call HB3.out) HN3.out).mono ?_; rintro e' w4 ⟨⟨v4, rfl, hN4⟩, hb4⟩; have HN4 : Hid _ := hN4; have HB4 : Hid _ := hb4; clear hN4 hb4))
  go_ret
  exact ⟨⟨_, rfl, HN4.out⟩, bt (bt (bt HB1.out HB2.out) HB3.out) HB4.out⟩

/-- law.pow10Frac -/
theorem pow10Frac_nat {w : World} (k : Int) (h1 : -60000 ≤ k) (h2 : k ≤ 60000) :
    Calls Oafg.prog 87 #[.int .i64 k] w fun e w' => (∃ v1 v2, e = .returned (.agg #[.bool false, v1, v2]) ∧ NatV w' v1 (10 ^ k.toNat) ∧ NatV w' v2 (10 ^ (-k).toNat)) ∧ Below w.heap.size w w' := by
  have T2 : Hid _ := fun ww => one_nat ww
  by_cases c : k < 0
  · obtain ⟨j, hj⟩ : ∃ j : Nat, j = (-k).toNat := ⟨_, rfl⟩
    have e1 : -k = (j : Int) := by omega
    have e2 : k.toNat = 0 := by omega
    rw [e2, ← hj, Nat.pow_zero]
    have T1 : Hid _ := fun ww => pow10_nat (w := ww) j (by omega)
    clear hj e2
    go_enter Oafg.func87, Oafg.ntmps87
    go_wp2_with (first
      | (go_at_call 135; refine (T2.out _).mono ?_; rintro e' w1 ⟨⟨v1, rfl, hN1⟩, hb1⟩; obtain ⟨ad1, l1, c1, rfl⟩ := hN1.sl; have HN1 : Hid _ := hN1; have HB1 : Hid _ := hb1; clear hN1 hb1)
      | (go_at_call 137; refine (T1.out _).mono ?_; rintro e' w2 ⟨⟨v2, rfl, hN2⟩, hb2⟩; obtain ⟨ad2, l2, c2, rfl⟩ := hN2.sl; obtain ⟨⟨k0, k1, k2⟩, k3, k4, k5⟩ := kept3 (bt HB1.out hb2); have HN2 : Hid _ := hN2; have HB2 : Hid _ := hb2; clear hN2 hb2))
    refine bodyPost_ret (v := .agg #[.bool false, .slice ad1 l1 c1, .slice ad2 l2 c2]) (by simp [results, Oafg.results87, go_sem, k0, k1, k2]) rfl ⟨⟨_, _, rfl, ?_, ?_⟩, ?_⟩
    · exact (HN1.out.call HB2.out).set3 _ _ _ k0 k1 k2 (fun x => by simp) (fun x => by simp) (fun x => by simp)
    · exact HN2.out.set3 _ _ _ k0 k1 k2 (fun x => by simp) (fun x => by simp) (fun x => by simp)
    · exact below_set3 _ _ _ (bt (below1 HB1.out) HB2.out) (Nat.le_refl _)
  · obtain ⟨j, hj⟩ : ∃ j : Nat, k = (j : Int) := ⟨k.toNat, by omega⟩
    subst hj
    have e2 : (-(j : Int)).toNat = 0 := by omega
    rw [e2, Int.toNat_natCast, Nat.pow_zero]
    have T1 : Hid _ := fun ww => pow10_nat (w := ww) j (by omega)
    clear e2
    go_enter Oafg.func87, Oafg.ntmps87
    go_wp2_with (first
      | (go_at_call 137; refine (T1.out _).mono ?_; rintro e' w1 ⟨⟨v1, rfl, hN1⟩, hb1⟩; obtain ⟨ad1, l1, c1, rfl⟩ := hN1.sl; have HN1 : Hid _ := hN1; have HB1 : Hid _ := hb1; clear hN1 hb1)
      | (go_at_call 135; refine (T2.out _).mono ?_; rintro e' w2 ⟨⟨v2, rfl, hN2⟩, hb2⟩; obtain ⟨ad2, l2, c2, rfl⟩ := hN2.sl; obtain ⟨⟨k0, k1, k2⟩, k3, k4, k5⟩ := kept3 (bt HB1.out hb2); have HN2 : Hid _ := hN2; have HB2 : Hid _ := hb2; clear hN2 hb2))
    refine bodyPost_ret (v := .agg #[.bool false, .slice ad1 l1 c1, .slice ad2 l2 c2]) (by simp [results, Oafg.results87, go_sem, k0, k1, k2]) rfl ⟨⟨_, _, rfl, ?_, ?_⟩, ?_⟩
    · exact (HN1.out.call HB2.out).set3 _ _ _ k0 k1 k2 (fun x => by simp) (fun x => by simp) (fun x => by simp)
    · exact HN2.out.set3 _ _ _ k0 k1 k2 (fun x => by simp) (fun x => by simp) (fun x => by simp)
    · exact below_set3 _ _ _ (bt (below1 HB1.out) HB2.out) (Nat.le_refl _)
end Go.Proofs.Ygcoaf
