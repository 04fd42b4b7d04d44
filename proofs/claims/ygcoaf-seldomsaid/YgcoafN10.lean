/-
  nat.Succ, Pow5.
-/
import Derived.Test.YgcoafN9
namespace Go.Proofs.Ygcoaf
open Go.RowKit

/-- what Succ's loop holds: the first k limbs have turned to zero -/
structure SuccI (w wr : World) (R len n k : Nat) : Prop where
  out : ∃ cs, Own w wr R cs ∧ cs.length = len ∧ lv cs + 4294967296 ^ k = n + 1

theorem SuccI.step {w wr : World} {R len n k : Nat} (o : SuccI w wr R len n k) (hk : k < len) :
    ∃ c : Nat, c < 4294967296 ∧ wr.cell? ⟨R, k, none⟩ = some (.int .u32 c) ∧ wr.frozen? ⟨R, k, none⟩ = false ∧
      (c = 4294967295 → SuccI w (wr.setCell ⟨R, k, none⟩ (.int .u32 0)) R len n (k + 1)) ∧
      (c ≠ 4294967295 → ∃ cs, Own w (wr.setCell ⟨R, k, none⟩ (.int .u32 (c + 1 : Nat))) R cs ∧ cs.length = len ∧ lv cs = n + 1) := by
  obtain ⟨cs, h1, h2, h3⟩ := o.out
  obtain ⟨c, hc, hlt, hcell, hfz⟩ := h1.cell k (by omega)
  refine ⟨c, hlt, hcell, hfz, fun e => ⟨cs.set k 0, h1.set _ _ (by omega) (by decide), by rw [List.length_set]; exact h2, ?_⟩, fun e => ⟨cs.set k (c + 1), h1.set _ _ (by omega) (by omega), by rw [List.length_set]; exact h2, ?_⟩⟩
  · have := lv_set cs k 0 (by omega)
    rw [← hc, e] at this
    rw [Nat.pow_succ]
    generalize 4294967296 ^ k = P at *
    rw [Nat.mul_zero, Nat.add_zero] at this
    clear e hc h1 hcell hfz o
    grind
  · have := lv_set cs k (c + 1) (by omega)
    rw [← hc, Nat.mul_succ] at this
    omega

set_option maxRecDepth 8000 in
/-- nat.Succ -/
theorem succ_nat {w : World} {v : Value} {n : Nat} (s1 : NatV w v n) (b1 : bl n ≤ 1000000) :
    Calls Oafg.prog 143 #[v] w fun e w' => (∃ v, e = .returned v ∧ NatV w' v (n + 1)) ∧ Below w.heap.size w w' := by
  have T1 : Hid _ := fun (_ : Unit) => trim_nat s1
  go_enter Oafg.func143, Oafg.ntmps143
  go_upto_region 2 with (go_at_call 136; refine (T1.out ()).mono ?_; rintro e w1 ⟨⟨u1, rfl, hN1⟩, hw1⟩; subst hw1)
  obtain ⟨ad1, cap1, xs, rfl, hs1, hl1, hlen1, hup, _⟩ := hN1.size b1
  obtain ⟨la, hla⟩ : ∃ la, la = xs.length := ⟨_, rfl⟩
  obtain ⟨w2, hmk, hown⟩ := mkOwn w1 w1 (la + 1) (by omega) (Below.refl _ _)
  have hmk' : (Instr.makeSlice 64 (.int .i64 ((la : Int) + 1)) (.int .i64 ((la : Int) + 1))).run Oafg.prog w1 = .ok (.slice (some ⟨w1.heap.size, 0, none⟩) ((la + 1 : Nat)) ((la + 1 : Nat))) w2 := hmk
  obtain ⟨R, hR⟩ : ∃ R, R = w1.heap.size := ⟨_, rfl⟩
  rw [← hR] at hmk' hown
  obtain ⟨w3, hcp, hown3⟩ := copyOwn hown (hs1.call hown.below) (by rw [List.length_replicate]; omega)
  rw [List.length_replicate, ← hla] at hcp
  have H0 : Hid (SuccI w1 w3 R (la + 1) n 0) := by
    refine ⟨_, hown3, by simp; omega, ?_⟩
    rw [lv_append, List.drop_replicate, lv_zeros, hl1]; simp
  rw [← hla] at hlen1 hup ⊢
  have Hup : Hid _ := hup
  clear hs1 hl1 hN1 hown hown3 hmk hla T1 s1 hR hup
  go_wp2
  go_loopw [16] (fun i wr => ∃ k : Nat, k ≤ la + 1 ∧ i = .int .i64 k ∧ Hid (SuccI w1 wr R (la + 1) n k)) (fun i _ => la + 1 - (intOf i).toNat)
  case atStart => exact ⟨0, Nat.zero_le _, rfl, H0⟩
  case round =>
    obtain ⟨k, hk, rfl, hM⟩ := hrel
    have hlt : k < la + 1 := by
      obtain ⟨cs, h1, h2, h3⟩ := hM.out.out
      by_cases c : k < la + 1
      · exact c
      · exfalso
        have : 4294967296 ^ (la + 1) ≤ 4294967296 ^ k := Nat.pow_le_pow_right (by decide) (by omega)
        have h4 := Hup.out
        rw [Nat.pow_succ] at this
        omega
    obtain ⟨c, hc, hcell, hfz, hz, hnz⟩ := hM.out.step hlt
    by_cases e : c = 4294967295
    · have hN : Hid _ := hz e
      have f1 : IntKind.u32.wrap ((c : Int) + 1) = 0 := by rw [e, IntKind.wrap_u32]; decide
      clear hz hnz hM e
      go_wp2
      go_roundw
      case rel => exact ⟨k + 1, by omega, by go_num, hN⟩
      case measure => simp [intOf]; omega
    · obtain ⟨cs, ho, hl, hv⟩ := hnz e
      have htr := trim_own ho (by omega)
      rw [hl, hv] at htr
      have HTR : Hid _ := fun (_ : Unit) => htr
      have f1 : IntKind.u32.wrap ((c : Int) + 1) = ((c + 1 : Nat) : Int) := by rw [IntKind.wrap_u32]; omega
      have f2 : (((c + 1 : Nat) : Int) == 0) = false := by rw [beq_eq_false_iff_ne]; omega
      clear hz hnz hM ho hv htr hl
      go_wp2_with (go_at_call 136; refine (HTR.out ()).mono ?_; rintro e w3 ⟨⟨v, rfl, hN⟩, hb⟩)
      go_ret
      exact ⟨⟨v, rfl, hN⟩, hb⟩

theorem bl_mul (a b : Nat) : bl (a * b) ≤ bl a + bl b := by
  by_cases ha : a = 0
  · subst ha; simp [bl]
  by_cases hb : b = 0
  · subst hb; simp [bl]
  refine bl_le _ _ ?_
  unfold bl
  rw [if_neg ha, if_neg hb, Nat.pow_add]
  exact Nat.mul_lt_mul'' Nat.lt_log2_self Nat.lt_log2_self
theorem bl_pow5 (k : Nat) : bl (5 ^ k) ≤ 3 * k + 1 := by
  refine bl_le _ _ ?_
  have : 5 ^ k ≤ 8 ^ k := Nat.pow_le_pow_left (by decide) k
  rw [show 8 = 2 ^ 3 from by decide, ← Nat.pow_mul] at this
  have h2 : 2 ^ (3 * k) < 2 ^ (3 * k + 1) := Nat.pow_lt_pow_right (by decide) (by omega)
  omega

/-- one limb in a new block -/
theorem natV_one (w : World) (x : Nat) (hx : x < 4294967296) (h0 : x ≠ 0) : NatV (w.alloc (.cells #[.int .u32 x] 22)) (.slice (some ⟨w.heap.size, 0, none⟩) 1 1) x :=
  ⟨.inr ⟨w.heap.size, 0, 1, [x], rfl, ⟨fun i hi => by
    match i, hi with
    | 0, _ => exact hx, Nat.le_refl _, fun i hi => by
    match i, hi with
    | 0, _ => exact ⟨_, _, rfl, by simp [go_sem]⟩⟩, by simp [lv], by simp, by simpa using h0, by decide⟩⟩

set_option maxRecDepth 8000 in
/-- nat.Pow5 -/
theorem pow5_nat {w : World} (k : Nat) (hk : k < 65536) :
    Calls Oafg.prog 184 #[.int .u16 k] w fun e w' => (∃ v, e = .returned v ∧ NatV w' v (5 ^ k)) ∧ Below w.heap.size w w' := by
  go_enter Oafg.func184, Oafg.ntmps184
  go_wp2
  have H0 := natV_one w 1 (by decide) (by decide)
  go_loopw [3, 4] (fun p i wr => ∃ j : Nat, j ≤ 16 ∧ i = .int .i64 ((j : Int) - 1) ∧ Hid (NatV wr p (5 ^ (k / 2 ^ j))) ∧ Below w.heap.size w wr) (fun _ i _ => (intOf i + 1).toNat)
  case atStart => exact ⟨16, Nat.le_refl _, rfl, by rw [Nat.div_eq_of_lt (by simpa using hk)]; exact H0, self1⟩
  case round =>
    obtain ⟨j, hj, hi, hM, hb⟩ := hrel
    by_cases c : j = 0
    · subst c
      rw [show ((0 : Nat) : Int) - 1 = -1 from by decide] at hi
      subst hi
      go_wp2
      go_ret
      exact ⟨⟨_, rfl, by simpa using hM.out⟩, hb⟩
    · obtain ⟨i, rfl⟩ : ∃ i, j = i + 1 := ⟨j - 1, by omega⟩
      rw [show ((i + 1 : Nat) : Int) - 1 = (i : Int) from by omega] at hi
      subst hi
      obtain ⟨q, hq⟩ : ∃ q, q = k / 2 ^ i := ⟨_, rfl⟩
      have hq2 : k / 2 ^ (i + 1) = q / 2 := by rw [hq, Nat.pow_succ, Nat.div_div_eq_div_mul]
      have hq3 : q < 65536 := by rw [hq]; exact Nat.lt_of_le_of_lt (Nat.div_le_self _ _) hk
      have f1 : (k : Int) / 2 ^ i = (q : Int) := by rw [hq]; simp
      rw [hq2] at hM
      have hbl : bl (5 ^ (q / 2)) ≤ 1000000 := by have := bl_pow5 (q / 2); omega
      have hbl2 : bl (5 ^ (q / 2) * 5 ^ (q / 2)) ≤ 1000000 := by have := bl_mul (5 ^ (q / 2)) (5 ^ (q / 2)); have := bl_pow5 (q / 2); omega
      have M1 : Hid _ := fun (_ : Unit) => mul_nat hM.out hM.out hbl hbl
      obtain ⟨r, hr⟩ : ∃ r, r = q % 2 := ⟨_, rfl⟩
      have f2 : bits .and .u16 (q : Int) 1 = (r : Int) := by
        rw [hr, ← Nat.and_one_is_mod]; exact u16_and_nat q 1 hq3 (by decide)
      by_cases c0 : q = 0
      · have hN : Hid (NatV wr u3 (5 ^ q)) := by have := hM.out; rw [c0] at this ⊢; exact this
        have e0 : ((q : Int) == 0) = true := by rw [c0]; rfl
        have e1 : ((r : Int) == 1) = false := by rw [hr, c0]; rfl
        rw [hq] at hN
        clear hM M1 hq hr c0
        go_wp2
        go_roundw
        case rel => exact ⟨i, by omega, rfl, hN, hb⟩
        case measure => simp [intOf]
      · have e0 : ((q : Int) == 0) = false := by rw [beq_eq_false_iff_ne]; omega
        by_cases c1 : q % 2 = 1
        · have e1 : ((r : Int) == 1) = true := by rw [beq_iff_eq]; omega
          have hval : 5 ^ (q / 2) * 5 ^ (q / 2) * 5 = 5 ^ (k / 2 ^ i) := by
            rw [← hq, ← Nat.pow_add, ← Nat.pow_succ]; congr 1; omega
          have HV : Hid _ := hval
          clear hM hq hr c0 hval c1
          go_wp2_with (first
            | (go_at_call_of 91 (u3); refine (M1.out ()).mono ?_; rintro e w1 ⟨⟨p2, rfl, hN1⟩, hb1⟩
               have M2 : Hid _ := fun (_ : Unit) => mul_nat (hN1.call (self1 (o := .cells #[.int .u32 5] 22))) (natV_one w1 5 (by decide) (by decide)) hbl2 (by decide)
               have HB1 : Hid _ := hb1
               clear hN1 hb1)
            | (go_at_call_of 91 (p2); refine (M2.out ()).mono ?_; rintro e w2 ⟨⟨p3, rfl, hN2⟩, hb2⟩
               have HN2 : Hid _ := hN2
               have HB2 : Hid _ := hb2
               clear hN2 hb2))
          have hN2 := HN2.out
          rw [HV.out] at hN2
          go_roundw
          case rel => exact ⟨i, by omega, rfl, hN2, bt (bt hb HB1.out) (below1 HB2.out)⟩
          case measure => simp [intOf]
        · have e1 : ((r : Int) == 1) = false := by rw [beq_eq_false_iff_ne]; omega
          have hval : 5 ^ (q / 2) * 5 ^ (q / 2) = 5 ^ (k / 2 ^ i) := by
            rw [← hq, ← Nat.pow_add]; congr 1; omega
          have HV : Hid _ := hval
          clear hM hq hr c0 hval c1
          go_wp2_with (go_at_call 91; refine (M1.out ()).mono ?_; rintro e w1 ⟨⟨p2, rfl, hN1⟩, hb1⟩; have HN1 : Hid _ := hN1; have HB1 : Hid _ := hb1; clear hN1 hb1)
          have hN2 := HN1.out
          rw [HV.out] at hN2
          go_roundw
          case rel => exact ⟨i, by omega, rfl, hN2, bt hb HB1.out⟩
          case measure => simp [intOf]
end Go.Proofs.Ygcoaf
