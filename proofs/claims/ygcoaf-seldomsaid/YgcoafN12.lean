/-
  nat.divLimb.
-/
import Derived.Test.YgcoafN11
namespace Go.Proofs.Ygcoaf
open Go.RowKit

/-- what divLimb's loop holds: the limbs from k on are divided -/
structure DivL (w wr : World) (R : Nat) (xs : List Nat) (d k r : Nat) : Prop where
  out : ∃ cs, Own w wr R cs ∧ cs.length = xs.length ∧ lv (cs.drop k) = lv (xs.drop k) / d ∧ r = lv (xs.drop k) % d
theorem DivL.below {w wr : World} {R : Nat} {xs : List Nat} {d k r : Nat} (o : DivL w wr R xs d k r) : Below w.heap.size w wr := by
  obtain ⟨cs, h1, _⟩ := o.out; exact h1.below
theorem drop_set_lt (cs : List Nat) (j x : Nat) : (cs.set j x).drop (j + 1) = cs.drop (j + 1) := by
  rw [List.drop_set]; simp

theorem DivL.step {w wr : World} {R : Nat} {xs : List Nat} {d j r : Nat} (o : DivL w wr R xs d (j + 1) r) (hj : j < xs.length) (hd : 0 < d) (hx : xs.getD j 0 < 4294967296) :
    r < d ∧ (∃ c : Nat, wr.cell? ⟨R, j, none⟩ = some (.int .u32 c)) ∧ wr.frozen? ⟨R, j, none⟩ = false ∧
      ∀ t q, t = r * 4294967296 + xs.getD j 0 → q = t / d → q < 4294967296 ∧ DivL w (wr.setCell ⟨R, j, none⟩ (.int .u32 q)) R xs d j (t % d) := by
  obtain ⟨cs, h1, h2, h3, h4⟩ := o.out
  obtain ⟨c, hc, hlt, hcell, hfz⟩ := h1.cell j (by omega)
  have hr : r < d := by rw [h4]; exact Nat.mod_lt _ hd
  refine ⟨hr, ⟨c, hcell⟩, hfz, fun t q ht hq => ?_⟩
  have e := Nat.div_add_mod (lv (xs.drop (j + 1))) d
  rw [← h4] at e
  have hD := lv_drop xs j
  have hval : lv (xs.drop j) = t + d * (4294967296 * (lv (xs.drop (j + 1)) / d)) := by
    rw [hD]
    generalize lv (xs.drop (j + 1)) / d = Q at *
    generalize lv (xs.drop (j + 1)) = H at *
    generalize xs.getD j 0 = x at *
    clear hD h3 h4 hcell hfz hc
    grind
  have hq2 : q < 4294967296 := by
    rw [hq, Nat.div_lt_iff_lt_mul hd, ht]
    have : (r + 1) * 4294967296 ≤ d * 4294967296 := Nat.mul_le_mul_right _ hr
    rw [Nat.mul_comm 4294967296 d]
    omega
  refine ⟨hq2, cs.set j q, h1.set _ _ (by omega) hq2, by rw [List.length_set]; exact h2, ?_, ?_⟩
  · rw [lv_drop, getD_set_eq _ _ _ (by omega), drop_set_lt, h3, hval, Nat.add_mul_div_left _ _ hd, ← hq]
  · rw [hval, Nat.add_mul_mod_self_left]

set_option maxRecDepth 8000 in
/-- nat.divLimb -/
theorem divLimb_nat {w : World} {v : Value} {n : Nat} (d : Nat) (hd : 0 < d) (hd2 : d < 4294967296) (s1 : NatV w v n) (b1 : bl n ≤ 1000000) :
    Calls Oafg.prog 188 #[v, .int .u32 d] w fun e w' => (∃ v', e = .returned (.tuple #[v', .int .u32 (n % d : Nat)]) ∧ NatV w' v' (n / d)) ∧ Below w.heap.size w w' := by
  obtain ⟨ad1, cap1, xs, rfl, hs1, hl1, hlen1⟩ := s1.few b1
  obtain ⟨V, hV⟩ : ∃ V, V = n / d := ⟨_, rfl⟩
  obtain ⟨U, hU⟩ : ∃ U, U = n % d := ⟨_, rfl⟩
  rw [← hV, ← hU]
  obtain ⟨la, hla⟩ : ∃ la, la = xs.length := ⟨_, rfl⟩
  obtain ⟨w2, hmk, hown⟩ := mkOwn w w la (by omega) (Below.refl _ _)
  obtain ⟨R, hR⟩ : ∃ R, R = w.heap.size := ⟨_, rfl⟩
  rw [← hR] at hmk hown
  have H0 : Hid (DivL w w2 R xs d la 0) := by
    refine ⟨_, hown, by rw [List.length_replicate]; omega, ?_, ?_⟩
    · rw [List.drop_replicate, lv_zeros, hla, List.drop_length]; simp [lv]
    · rw [hla, List.drop_length]; simp [lv]
  have HS1 : Hid _ := hs1
  have HL1 : Hid _ := hl1
  have Hla : Hid _ := hla
  have HV : Hid _ := hV
  have HU : Hid _ := hU
  rw [← hla] at hlen1 ⊢
  clear hs1 hl1 hown hla s1 hR hV hU
  have hne : ((d : Int) == 0) = false := by rw [beq_eq_false_iff_ne]; omega
  go_enter Oafg.func188, Oafg.ntmps188
  go_wp2
  go_loopw [7, 8] (fun rr i wr => ∃ k r : Nat, k ≤ la ∧ r < d ∧ rr = .int .u64 r ∧ i = .int .i64 ((k : Int) - 1) ∧ Hid (DivL w wr R xs d k r)) (fun _ i _ => (intOf i + 1).toNat)
  case atStart => exact ⟨la, 0, Nat.le_refl _, hd, rfl, rfl, H0⟩
  case round =>
    obtain ⟨k, r, hk, hrd, rfl, hi, hM⟩ := hrel
    by_cases c : k = 0
    · subst c
      rw [show ((0 : Nat) : Int) - 1 = -1 from by decide] at hi
      subst hi
      obtain ⟨cs, ho, hlc2, hval, hr⟩ := hM.out.out
      rw [List.drop_zero, List.drop_zero, HL1.out, ← HV.out] at hval
      rw [List.drop_zero, HL1.out, ← HU.out] at hr
      have htr := trim_own ho (by have := Hla.out; omega)
      rw [hlc2, hval, ← Hla.out] at htr
      subst hr
      have HTR : Hid _ := fun (_ : Unit) => htr
      clear htr hval hlc2 ho hM
      go_wp2_with (go_at_call 136; refine (HTR.out ()).mono ?_; rintro e w3 ⟨⟨v, rfl, hN⟩, hb⟩)
      go_ret2
      exact ⟨⟨v, rfl, hN⟩, hb⟩
    · obtain ⟨j, rfl⟩ : ∃ j, k = j + 1 := ⟨k - 1, by omega⟩
      rw [show ((j + 1 : Nat) : Int) - 1 = (j : Int) from by omega] at hi
      subst hi
      have hjx : j < xs.length := by have := Hla.out; omega
      obtain ⟨p1, q1, x, rfl, hx1, hx2, hcx⟩ := HS1.out.now hM.out.below j hjx
      obtain ⟨_, ⟨c0, hcell⟩, hfz, hnext⟩ := hM.out.step hjx hd (by rw [← hx1]; exact hx2)
      rw [← hx1] at hnext
      obtain ⟨t, ht⟩ : ∃ t, t = r * 4294967296 + x := ⟨_, rfl⟩
      obtain ⟨q, hq⟩ : ∃ q, q = t / d := ⟨_, rfl⟩
      obtain ⟨r2, hr2⟩ : ∃ r2, r2 = t % d := ⟨_, rfl⟩
      obtain ⟨hq2, hN⟩ := hnext t q ht hq
      rw [← hr2] at hN
      have hrd2 : r2 < d := by rw [hr2]; exact Nat.mod_lt _ hd
      have g1 : bits .or .u64 ((r : Int) * 4294967296) (x : Int) = (t : Int) := by
        have := or_low x r 32 (by simpa using hx2)
        rw [ht, Nat.add_comm, show 4294967296 = 2 ^ 32 from by decide, ← this, Nat.or_comm]
        have h3 := u64_or_nat (r * 2 ^ 32) x (by omega) (by omega)
        rw [← h3]; simp
      have g2 : (t : Int) / (d : Int) = (q : Int) := by rw [hq]; simp
      have g3 : (t : Int) % (d : Int) = (r2 : Int) := by rw [hr2]; simp
      have ht2 : t < 18446744073709551616 := by omega
      have HN : Hid _ := hN
      clear hnext hx1 hM ht hq hr2 hN
      go_wp2
      go_roundw
      case rel => exact ⟨j, r2, by omega, hrd2, by rw [g3], rfl, HN⟩
      case measure => simp [intOf]
end Go.Proofs.Ygcoaf
