/-
  law.pow2Frac, law.negFrac, wide.ToNat.
-/
import Derived.Test.YgcoafX8
import Derived.Test.YgcoafW13
namespace Go.Proofs.Ygcoaf
open Go.RowKit Go.Proofs.Ygcoaf.M

set_option maxHeartbeats 1000000 in
/-- law.pow2Frac -/
theorem pow2Frac_nat {w : World} (k : Int) (h1 : -60000 ≤ k) (h2 : k ≤ 60000) :
    Calls Oafg.prog 142 #[.int .i64 k] w fun e w' => (∃ v1 v2, e = .returned (.agg #[.bool false, v1, v2]) ∧ NatV w' v1 (2 ^ k.toNat) ∧ NatV w' v2 (2 ^ (-k).toNat)) ∧ Below w.heap.size w w' := by
  have T2 : Hid _ := fun ww => one_nat ww
  by_cases c : k < 0
  · obtain ⟨j, hj⟩ : ∃ j : Nat, j = (-k).toNat := ⟨_, rfl⟩
    have e1 : -k = (j : Int) := by omega
    have e2 : k.toNat = 0 := by omega
    rw [e2, ← hj, Nat.pow_zero]
    have hj2 : j ≤ 60000 := by omega
    have T1 : Hid (∀ ww v, NatV ww v 1 → Calls Oafg.prog 146 #[v, .int .u16 j] ww fun e w' => (∃ v, e = .returned v ∧ NatV w' v (2 ^ j)) ∧ Below ww.heap.size ww w') := fun ww v g => by
      have := shl_nat j hj2 g (by decide)
      rw [Nat.one_mul] at this; exact this
    clear hj e2
    go_enter Oafg.func142, Oafg.ntmps142
    go_wp2_with (first
      | (go_at_call 146; refine (T1.out _ _ HN2.out).mono ?_; rintro e' w3 ⟨⟨v3, rfl, hN3⟩, hb3⟩; obtain ⟨ad3, l3, c3, rfl⟩ := hN3.sl; obtain ⟨⟨k0, k1, k2⟩, k3, k4, k5⟩ := kept3 (bt (bt HB1.out HB2.out) hb3); have HN3 : Hid _ := hN3; have HB3 : Hid _ := hb3; clear hN3 hb3)
      | (go_at_call 135; have h9 := HB1.out; refine (T2.out _).mono ?_; rintro e' w2 ⟨⟨v2, rfl, hN2⟩, hb2⟩; obtain ⟨ad2, l2, c2, rfl⟩ := hN2.sl; have HN2 : Hid _ := hN2; have HB2 : Hid _ := hb2; clear hN2 hb2 h9)
      | (go_at_call 135; refine (T2.out _).mono ?_; rintro e' w1 ⟨⟨v1, rfl, hN1⟩, hb1⟩; obtain ⟨ad1, l1, c1, rfl⟩ := hN1.sl; have HN1 : Hid _ := hN1; have HB1 : Hid _ := hb1; clear hN1 hb1))
    refine bodyPost_ret (v := .agg #[.bool false, .slice ad1 l1 c1, .slice ad3 l3 c3]) (by simp [results, Oafg.results142, go_sem, k0, k1, k2]) rfl ⟨⟨_, _, rfl, ?_, ?_⟩, ?_⟩
    · exact ((HN1.out.call HB2.out).call HB3.out).set3 _ _ _ k0 k1 k2 (fun x => by simp) (fun x => by simp) (fun x => by simp)
    · exact HN3.out.set3 _ _ _ k0 k1 k2 (fun x => by simp) (fun x => by simp) (fun x => by simp)
    · exact below_set3 _ _ _ (bt (bt (below1 HB1.out) HB2.out) HB3.out) (Nat.le_refl _)
  · obtain ⟨j, hj⟩ : ∃ j : Nat, k = (j : Int) := ⟨k.toNat, by omega⟩
    subst hj
    have e2 : (-(j : Int)).toNat = 0 := by omega
    rw [e2, Int.toNat_natCast, Nat.pow_zero]
    have hj2 : j ≤ 60000 := by omega
    have T1 : Hid (∀ ww v, NatV ww v 1 → Calls Oafg.prog 146 #[v, .int .u16 j] ww fun e w' => (∃ v, e = .returned v ∧ NatV w' v (2 ^ j)) ∧ Below ww.heap.size ww w') := fun ww v g => by
      have := shl_nat j hj2 g (by decide)
      rw [Nat.one_mul] at this; exact this
    clear e2
    go_enter Oafg.func142, Oafg.ntmps142
    go_wp2_with (first
      | (go_at_call 135; have h9 := HB3.out; refine (T2.out _).mono ?_; rintro e' w2 ⟨⟨v2, rfl, hN2⟩, hb2⟩; obtain ⟨ad2, l2, c2, rfl⟩ := hN2.sl; obtain ⟨⟨k0, k1, k2⟩, k3, k4, k5⟩ := kept3 (bt (bt HB1.out HB3.out) hb2); have HN2 : Hid _ := hN2; have HB2 : Hid _ := hb2; clear hN2 hb2 h9)
      | (go_at_call 146; refine (T1.out _ _ HN1.out).mono ?_; rintro e' w3 ⟨⟨v3, rfl, hN3⟩, hb3⟩; obtain ⟨ad3, l3, c3, rfl⟩ := hN3.sl; have HN3 : Hid _ := hN3; have HB3 : Hid _ := hb3; clear hN3 hb3)
      | (go_at_call 135; refine (T2.out _).mono ?_; rintro e' w1 ⟨⟨v1, rfl, hN1⟩, hb1⟩; obtain ⟨ad1, l1, c1, rfl⟩ := hN1.sl; have HN1 : Hid _ := hN1; have HB1 : Hid _ := hb1; clear hN1 hb1))
    refine bodyPost_ret (v := .agg #[.bool false, .slice ad3 l3 c3, .slice ad2 l2 c2]) (by simp [results, Oafg.results142, go_sem, k0, k1, k2]) rfl ⟨⟨_, _, rfl, ?_, ?_⟩, ?_⟩
    · exact (HN3.out.call HB2.out).set3 _ _ _ k0 k1 k2 (fun x => by simp) (fun x => by simp) (fun x => by simp)
    · exact HN2.out.set3 _ _ _ k0 k1 k2 (fun x => by simp) (fun x => by simp) (fun x => by simp)
    · exact below_set3 _ _ _ (bt (bt (below1 HB1.out) HB3.out) HB2.out) (Nat.le_refl _)

/-- law.negFrac -/
theorem negFrac_nat {w : World} {v1 v2 : Value} {A B : Nat} (neg : Bool) (s1 : NatV w v1 A) (s2 : NatV w v2 B) :
    Calls Oafg.prog 187 #[.agg #[.bool neg, v1, v2]] w fun e w' => e = .returned (.agg #[.bool (!neg), v1, v2]) ∧ Below w.heap.size w w' := by
  obtain ⟨p1, q1, r1, rfl⟩ := s1.sl
  obtain ⟨p2, q2, r2, rfl⟩ := s2.sl
  clear s1 s2
  go_enter Oafg.func187, Oafg.ntmps187
  go_wp2
  exact bodyPost_ret (v := .agg #[.bool !neg, .slice p1 q1 r1, .slice p2 q2 r2]) (by simp [results, Oafg.results187, go_sem]) rfl ⟨rfl, self2⟩

/-- four limbs in a new block -/
theorem natV_four (w : World) (a b c d : Nat) (ha : a < 4294967296) (hb : b < 4294967296) (hc : c < 4294967296) (hd : d < 4294967296) (h0 : d ≠ 0) :
    NatV (w.alloc (.cells #[.int .u32 a, .int .u32 b, .int .u32 c, .int .u32 d] 22)) (.slice (some ⟨w.heap.size, 0, none⟩) 4 4) (a + 4294967296 * b + 18446744073709551616 * c + 79228162514264337593543950336 * d) :=
  ⟨.inr ⟨w.heap.size, 0, 4, [a, b, c, d], rfl, ⟨fun i hi => by
    match i, hi with
    | 0, _ => exact ha
    | 1, _ => exact hb
    | 2, _ => exact hc
    | 3, _ => exact hd, Nat.le_refl _, fun i hi => by
    match i, hi with
    | 0, _ => exact ⟨_, _, rfl, by simp [go_sem]⟩
    | 1, _ => exact ⟨_, _, rfl, by simp [go_sem]⟩
    | 2, _ => exact ⟨_, _, rfl, by simp [go_sem]⟩
    | 3, _ => exact ⟨_, _, rfl, by simp [go_sem]⟩⟩, by simp [lv]; omega, by simp, by simpa using h0, by decide⟩⟩

set_option maxRecDepth 8000 in
/-- wide.ToNat of a word whose top bit is set -/
theorem toNat_nat {w : World} (h l : Nat) (hh : 9223372036854775808 ≤ h) (hh2 : h < 18446744073709551616) (hl : l < 18446744073709551616) :
    Calls Oafg.prog 141 #[.agg #[.int .u64 h, .int .u64 l]] w fun e w' => (∃ v, e = .returned v ∧ NatV w' v (h * 18446744073709551616 + l)) ∧ Below w.heap.size w w' := by
  obtain ⟨l0, hl0⟩ : ∃ l0, l0 = l % 4294967296 := ⟨_, rfl⟩
  obtain ⟨l1, hl1⟩ : ∃ l1, l1 = l / 4294967296 := ⟨_, rfl⟩
  obtain ⟨h0, hh0⟩ : ∃ h0, h0 = h % 4294967296 := ⟨_, rfl⟩
  obtain ⟨h1, hh1⟩ : ∃ h1, h1 = h / 4294967296 := ⟨_, rfl⟩
  have g0 : IntKind.u32.wrap (l : Int) = (l0 : Int) := by rw [IntKind.wrap_u32]; omega
  have g1 : (l : Int) / 4294967296 = (l1 : Int) := by omega
  have g2 : IntKind.u32.wrap (h : Int) = (h0 : Int) := by rw [IntKind.wrap_u32]; omega
  have g3 : (h : Int) / 4294967296 = (h1 : Int) := by omega
  have hb : l0 < 4294967296 ∧ l1 < 4294967296 ∧ h0 < 4294967296 ∧ h1 < 4294967296 := by omega
  obtain ⟨N, hN⟩ : ∃ N, N = h * 18446744073709551616 + l := ⟨_, rfl⟩
  rw [← hN]
  have hNN : l0 + 4294967296 * l1 + 18446744073709551616 * h0 + 79228162514264337593543950336 * h1 = N := by omega
  have hN8 : N < 340282366920938463463374607431768211456 := by omega
  have H4 := fun ww => natV_four ww l0 l1 h0 h1 hb.1 hb.2.1 hb.2.2.1 hb.2.2.2 (by omega)
  rw [hNN] at H4
  have HT : Hid (∀ ww v, NatV ww v N → Calls Oafg.prog 178 #[v] ww fun e w' => (∃ v, e = .returned v ∧ NatV w' v N) ∧ Below ww.heap.size ww w') := fun ww v g => take_nat g (Nat.le_trans (bl_le N 128 hN8) (by decide))
  have H5 := H4 (w.alloc (.cells #[.int .u64 h, .int .u64 l] 111))
  rw [show (w.alloc (.cells #[.int .u64 h, .int .u64 l] 111)).heap.size = w.heap.size + 1 by simp] at H5
  have H4' : Hid _ := H5
  clear H5 hl0 hl1 hh0 hh1 H4 hN hNN hN8
  go_enter Oafg.func141, Oafg.ntmps141
  go_wp2_with (go_at_call 178; refine (HT.out _ _ H4'.out).mono ?_; rintro e w2 ⟨⟨v, rfl, hV⟩, hb2⟩)
  go_ret
  exact ⟨⟨v, rfl, hV⟩, below2 hb2⟩
end Go.Proofs.Ygcoaf
