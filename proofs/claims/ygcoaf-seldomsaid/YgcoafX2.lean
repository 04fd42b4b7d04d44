/-
  PACKAGE exact, the second: raises, floor, raised.
-/
import Derived.Test.YgcoafX1
namespace Go.Proofs.Ygcoaf
open Go.RowKit Go.Proofs.Ygcoaf.M

def raisesB (mode : Nat) (neg odd : Bool) (C : Int) (sm : Bool) : Bool :=
  if mode = 1 then decide (0 ≤ C) else if mode = 2 then false else if mode = 3 then sm && !neg else if mode = 4 then sm && neg else decide (0 < C) || (decide (C = 0) && odd)

theorem cmpN_parts (a b : Nat) : (0 ≤ cmpN a b ↔ b ≤ a) ∧ (0 < cmpN a b ↔ b < a) ∧ (cmpN a b = 0 ↔ b = a) := by
  unfold cmpN
  by_cases h : a < b
  · rw [if_pos h]; refine ⟨?_, ?_, ?_⟩ <;> constructor <;> intro k <;> omega
  · rw [if_neg h]
    by_cases e : a = b
    · rw [if_pos e]; refine ⟨?_, ?_, ?_⟩ <;> constructor <;> intro k <;> omega
    · rw [if_neg e]; refine ⟨?_, ?_, ?_⟩ <;> constructor <;> intro k <;> omega

theorem raisesB_ups (mode : Nat) (neg : Bool) (A B : Nat) : raisesB mode neg (decide (A / B % 2 = 1)) (cmpN (A % B * 2) B) (decide (A % B ≠ 0)) = ups mode neg A B := by
  obtain ⟨c1, c2, c3⟩ := cmpN_parts (A % B * 2) B
  unfold raisesB ups
  by_cases m1 : mode = 1
  · rw [if_pos m1, if_pos m1, decide_eq_decide, c1, Nat.mul_comm]
  rw [if_neg m1, if_neg m1]
  by_cases m2 : mode = 2
  · rw [if_pos m2, if_pos m2]
  rw [if_neg m2, if_neg m2]
  have hs : decide (A % B ≠ 0) = !(A % B == 0) := by
    by_cases c : A % B = 0 <;> simp [c]
  by_cases m3 : mode = 3
  · rw [if_pos m3, if_pos m3, hs]
  rw [if_neg m3, if_neg m3]
  by_cases m4 : mode = 4
  · rw [if_pos m4, if_pos m4, hs]
  rw [if_neg m4, if_neg m4]
  have e1 : decide (0 < cmpN (A % B * 2) B) = decide (B < 2 * (A % B)) := by rw [decide_eq_decide, c2, Nat.mul_comm]
  have e2 : decide (cmpN (A % B * 2) B = 0) = (B == 2 * (A % B)) := by rw [Bool.eq_iff_iff, decide_eq_true_iff, beq_iff_eq, c3, Nat.mul_comm]
  have e3 : decide (A / B % 2 = 1) = (A / B % 2 == 1) := by rw [Bool.eq_iff_iff, decide_eq_true_iff, beq_iff_eq]
  rw [e1, e2, e3]

/-- exact.raises -/
theorem raises_any (mode : Nat) (hm : mode < 256) (neg odd : Bool) (C : Int) (hC : -1 ≤ C ∧ C ≤ 1) (sm : Bool) (w : World) :
    Calls Oafg.prog 181 #[.int .u8 mode, .bool neg, .bool odd, .agg #[.int .i8 C, .bool sm]] w fun e w' => e = .returned (.bool (raisesB mode neg odd C sm)) ∧ Below w.heap.size w w' := by
  obtain ⟨V, hV⟩ : ∃ V, V = raisesB mode neg odd C sm := ⟨_, rfl⟩
  rw [← hV]
  unfold raisesB at hV
  by_cases m1 : mode = 1
  · subst m1
    rw [if_pos rfl] at hV
    subst hV
    go_enter Oafg.func181, Oafg.ntmps181
    go_wp2
    go_ret
    exact ⟨rfl, self1⟩
  rw [if_neg m1] at hV
  have n1 : ((mode : Int) == 1) = false := by rw [beq_eq_false_iff_ne]; omega
  by_cases m2 : mode = 2
  · subst m2
    rw [if_pos rfl] at hV
    subst hV
    go_enter Oafg.func181, Oafg.ntmps181
    go_wp2
    go_ret
    exact ⟨rfl, self1⟩
  rw [if_neg m2] at hV
  have n2 : ((mode : Int) == 2) = false := by rw [beq_eq_false_iff_ne]; omega
  by_cases m3 : mode = 3
  · subst m3
    rw [if_pos rfl] at hV
    subst hV
    cases sm <;> cases neg
    all_goals
      go_enter Oafg.func181, Oafg.ntmps181
      go_wp2
      go_ret
      exact ⟨rfl, self1⟩
  rw [if_neg m3] at hV
  have n3 : ((mode : Int) == 3) = false := by rw [beq_eq_false_iff_ne]; omega
  by_cases m4 : mode = 4
  · subst m4
    rw [if_pos rfl] at hV
    subst hV
    cases sm <;> cases neg
    all_goals
      go_enter Oafg.func181, Oafg.ntmps181
      go_wp2
      go_ret
      exact ⟨rfl, self1⟩
  rw [if_neg m4] at hV
  have n4 : ((mode : Int) == 4) = false := by rw [beq_eq_false_iff_ne]; omega
  obtain c | c | c : C = -1 ∨ C = 0 ∨ C = 1 := by omega
  all_goals
    subst c
    cases odd
    all_goals
      subst hV
      clear m1 m2 m3 m4
      go_enter Oafg.func181, Oafg.ntmps181
      go_wp2
      go_ret
      exact ⟨rfl, self1⟩

theorem kept2 {w w3 : World} {u v : Value} {t : TypeId} (h : Below (w.alloc (.cells #[u, v] t)).heap.size (w.alloc (.cells #[u, v] t)) w3) :
    w3.cell? ⟨w.heap.size, 0, none⟩ = some u ∧ w3.cell? ⟨w.heap.size, 1, none⟩ = some v ∧ w3.frozen? ⟨w.heap.size, 0, none⟩ = false ∧ w3.frozen? ⟨w.heap.size, 1, none⟩ = false := by
  obtain ⟨hc, hf⟩ := bcell h
  have hl : w.heap.size < (w.alloc (.cells #[u, v] t)).heap.size := by simp
  rw [hc _ _ hl, hc _ _ hl, hf _ _ hl, hf _ _ hl]
  simp [go_sem]

/-- a cell that is no limb is none of a number's -/
theorem NatV.setOther {w : World} {v : Value} {n : Nat} (s : NatV w v n) {p : Addr} {c : Value} (u : Value) (hp : w.cell? p = some c) (hc : ∀ x, c ≠ .int .u32 x) : NatV (w.setCell p u) v n := by
  obtain h | ⟨b, off, cap, xs, h1, h2, h3⟩ := s.out
  · exact ⟨.inl h⟩
  · refine ⟨.inr ⟨b, off, cap, xs, h1, ⟨h2.lim, h2.fits, fun i hi => ?_⟩, h3⟩⟩
    obtain ⟨b', off', e, cc⟩ := h2.cell i hi
    refine ⟨b', off', e, ?_⟩
    rw [World.cell?_setCell_other (h := fun h => ?_)]
    · exact cc
    · rw [h, cc] at hp
      cases hp
      exact hc _ rfl
/-- .. twice: a struct of two fields is written -/
theorem NatV.set2 {w : World} {v : Value} {n R : Nat} (s : NatV w v n) {c0 c1 : Value} (u0 u1 : Value) (h0 : w.cell? ⟨R, 0, none⟩ = some c0) (h1 : w.cell? ⟨R, 1, none⟩ = some c1) (k0 : ∀ x, c0 ≠ .int .u32 x) (k1 : ∀ x, c1 ≠ .int .u32 x) :
    NatV ((w.setCell ⟨R, 0, none⟩ u0).setCell ⟨R, 1, none⟩ u1) v n := by
  refine (s.setOther u0 h0 k0).setOther u1 (c := c1) ?_ k1
  rw [World.cell?_setCell_other (h := fun h => absurd (congrArg Addr.off h) (by show ¬ ((0 : Nat) = 1); decide))]
  exact h1
theorem below_set2 {w w3 : World} {R : Nat} (u0 u1 : Value) (h : Below w.heap.size w w3) (hR : w.heap.size ≤ R) : Below w.heap.size w ((w3.setCell ⟨R, 0, none⟩ u0).setCell ⟨R, 1, none⟩ u1) :=
  (h.setCell (p := ⟨R, 0, none⟩) hR u0).setCell (p := ⟨R, 1, none⟩) hR u1

/-- exact.floor -/
theorem floor_nat {w : World} {va vb : Value} {A B : Nat} (s1 : NatV w va A) (s2 : NatV w vb B) (b1 : bl A ≤ 900000) (b2 : bl B ≤ 900000) (hB : B ≠ 0) :
    Calls Oafg.prog 180 #[va, vb] w fun e w' => (∃ v, e = .returned (.tuple #[v, .agg #[.int .i8 (cmpN (A % B * 2) B), .bool (decide (A % B ≠ 0))]]) ∧ NatV w' v (A / B)) ∧ Below w.heap.size w w' := by
  obtain ⟨C, hC⟩ : ∃ C, C = cmpN (A % B * 2) B := ⟨_, rfl⟩
  obtain ⟨r, hr⟩ : ∃ r, r = A % B := ⟨_, rfl⟩
  obtain ⟨q, hq⟩ : ∃ q, q = A / B := ⟨_, rfl⟩
  have hrb : bl r ≤ 900000 := by
    rw [hr]
    refine Nat.le_trans (bl_le _ _ (Nat.lt_trans (Nat.mod_lt A (Nat.pos_of_ne_zero hB)) (bl_hi B))) b2
  have hrb2 : bl (r * 2 ^ 1) ≤ 1000000 := by have := bl_shl r 1; omega
  rw [← hC, ← hr, ← hq]
  rw [← hr] at hC
  obtain ⟨sm, hsm⟩ : ∃ sm, sm = decide (r ≠ 0) := ⟨_, rfl⟩
  rw [← hsm]
  have Hsm : Hid _ := hsm
  clear hsm
  have hbw : Below w.heap.size w (w.alloc (.cells #[.int .i8 0, .bool false] 149)) := self1
  have D := divMod_nat (s1.call hbw) (s2.call hbw) b1 b2 hB
  rw [← hr, ← hq] at D
  have HD : Hid _ := fun (_ : Unit) => D
  have HS2 : Hid _ := s2.call hbw
  have qN := neNil
  have HCe : Hid _ := hC
  clear D hr hq s1 s2 hbw hC
  go_enter Oafg.func180, Oafg.ntmps180
  go_upto_region 2 with (go_at_call 145; refine (HD.out ()).mono ?_; rintro e w1 ⟨⟨v1, v2, rfl, hN1, hN2⟩, hb1⟩)
  obtain ⟨hc, hf⟩ := bcell hb1
  have hsz := hb1.size
  have SH := shl_nat 1 (by decide) hN2 (by omega)
  have HSH : Hid _ := fun (_ : Unit) => SH
  have HCM : Hid (∀ w2 u, Below w1.heap.size w1 w2 → NatV w2 u (r * 2 ^ 1) → Calls Oafg.prog 179 #[u, vb] w2 fun e w' => e = .returned (.int .i8 C) ∧ Below w2.heap.size w2 w') := fun w2 u h2 hu => by
    have := cmp_nat hu (HS2.out.call (bt hb1 h2)) hrb2 (by omega)
    rw [HCe.out, ← Nat.pow_one 2]; exact this
  have HB1 : Hid _ := hb1
  have HN1 : Hid _ := hN1
  clear hc hf hsz SH hb1 hN1
  by_cases hr0 : r = 0
  · obtain rfl : v2 = .slice none 0 0 := by rw [hr0] at hN2; exact hN2.zero
    obtain rfl : sm = false := by rw [Hsm.out]; simp [hr0]
    clear hN2 hr0
    go_wp2_with (first
      | (go_at_call 146; refine (HSH.out ()).mono ?_; rintro e w2 ⟨⟨u, rfl, hNu⟩, hb2⟩; have HNu : Hid _ := hNu; have HB2 : Hid _ := hb2; clear hNu hb2)
      | (go_at_call 179; refine (HCM.out _ _ HB2.out HNu.out).mono ?_; rintro e w3 ⟨rfl, hb3⟩; obtain ⟨k1, k2, k3, k4⟩ := kept2 (bt (bt HB1.out HB2.out) hb3); have HB3 : Hid _ := hb3; clear hb3))
    refine bodyPost_ret (v := .tuple #[v1, .agg #[.int .i8 C, .bool false]]) (by simp [results, Oafg.results180, go_sem, k1, k2]) rfl ⟨⟨v1, rfl, ?_⟩, ?_⟩
    · exact ((HN1.out.call HB2.out).call HB3.out).set2 _ _ k1 k2 (fun x => by simp) (fun x => by simp)
    · exact below_set2 _ _ (bt (bt (below1 HB1.out) HB2.out) HB3.out) (Nat.le_refl _)
  · obtain ⟨b0, off0, cap0, xs, rfl, _⟩ := hN2.pos hr0
    obtain rfl : sm = true := by rw [Hsm.out]; simp [hr0]
    clear hN2 hr0
    go_wp2_with (first
      | (go_at_call 146; refine (HSH.out ()).mono ?_; rintro e w2 ⟨⟨u, rfl, hNu⟩, hb2⟩; have HNu : Hid _ := hNu; have HB2 : Hid _ := hb2; clear hNu hb2)
      | (go_at_call 179; refine (HCM.out _ _ HB2.out HNu.out).mono ?_; rintro e w3 ⟨rfl, hb3⟩; obtain ⟨k1, k2, k3, k4⟩ := kept2 (bt (bt HB1.out HB2.out) hb3); have HB3 : Hid _ := hb3; clear hb3))
    refine bodyPost_ret (v := .tuple #[v1, .agg #[.int .i8 C, .bool true]]) (by simp [results, Oafg.results180, go_sem, k1, k2]) rfl ⟨⟨v1, rfl, ?_⟩, ?_⟩
    · exact ((HN1.out.call HB2.out).call HB3.out).set2 _ _ k1 k2 (fun x => by simp) (fun x => by simp)
    · exact below_set2 _ _ (bt (bt (below1 HB1.out) HB2.out) HB3.out) (Nat.le_refl _)
end Go.Proofs.Ygcoaf
