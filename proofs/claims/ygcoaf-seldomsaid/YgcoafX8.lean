/-
  law.mulFrac, decimal.
-/
import Derived.Test.YgcoafX7
namespace Go.Proofs.Ygcoaf
open Go.RowKit Go.Proofs.Ygcoaf.M

/-- what mulFrac holds through its one statement: two fractions read, a third to be written -/
structure MF (w : World) (R2 R3 R4 : Nat) (na nb : Bool) (a1 a2 c1 c2 : Value) (A B C D : Nat) (w' : World) : Prop where
  below : Below w.heap.size w w'
  old : w.heap.size ≤ R4
  x0 : w'.cell? ⟨R2, 0, none⟩ = some (.bool na)
  x1 : w'.cell? ⟨R2, 1, none⟩ = some a1
  x2 : w'.cell? ⟨R2, 2, none⟩ = some a2
  y0 : w'.cell? ⟨R3, 0, none⟩ = some (.bool nb)
  y1 : w'.cell? ⟨R3, 1, none⟩ = some c1
  y2 : w'.cell? ⟨R3, 2, none⟩ = some c2
  far2 : R4 ≠ R2
  far3 : R4 ≠ R3
  z0 : ∃ b, w'.cell? ⟨R4, 0, none⟩ = some (.bool b)
  z1 : ∃ p q r, w'.cell? ⟨R4, 1, none⟩ = some (.slice p q r)
  z2 : ∃ p q r, w'.cell? ⟨R4, 2, none⟩ = some (.slice p q r)
  f0 : w'.frozen? ⟨R4, 0, none⟩ = false
  f1 : w'.frozen? ⟨R4, 1, none⟩ = false
  f2 : w'.frozen? ⟨R4, 2, none⟩ = false
  n1 : NatV w' a1 A
  n2 : NatV w' a2 B
  n3 : NatV w' c1 C
  n4 : NatV w' c2 D
theorem MF.call {w W w' : World} {R2 R3 R4 : Nat} {na nb : Bool} {a1 a2 c1 c2 : Value} {A B C D : Nat} (s : MF w R2 R3 R4 na nb a1 a2 c1 c2 A B C D W) (h : Below W.heap.size W w') : MF w R2 R3 R4 na nb a1 a2 c1 c2 A B C D w' := by
  have l2 : R2 < W.heap.size := World.block_lt_of_cell? _ _ s.x0
  have l3 : R3 < W.heap.size := World.block_lt_of_cell? _ _ s.y0
  obtain ⟨b, e0⟩ := s.z0
  obtain ⟨p1, q1, r1, e1⟩ := s.z1
  obtain ⟨p2, q2, r2, e2⟩ := s.z2
  have l4 : R4 < W.heap.size := World.block_lt_of_cell? _ _ e0
  obtain ⟨hc, hf⟩ := bcell h
  exact ⟨bt s.below h, s.old, by rw [hc _ _ l2]; exact s.x0, by rw [hc _ _ l2]; exact s.x1, by rw [hc _ _ l2]; exact s.x2, by rw [hc _ _ l3]; exact s.y0, by rw [hc _ _ l3]; exact s.y1, by rw [hc _ _ l3]; exact s.y2,
    s.far2, s.far3, ⟨b, by rw [hc _ _ l4]; exact e0⟩, ⟨p1, q1, r1, by rw [hc _ _ l4]; exact e1⟩, ⟨p2, q2, r2, by rw [hc _ _ l4]; exact e2⟩, by rw [hf _ _ l4]; exact s.f0, by rw [hf _ _ l4]; exact s.f1, by rw [hf _ _ l4]; exact s.f2, s.n1.call h, s.n2.call h, s.n3.call h, s.n4.call h⟩
theorem MF.drew {w W : World} {R2 R3 R4 : Nat} {na nb : Bool} {a1 a2 c1 c2 : Value} {A B C D : Nat} (s : MF w R2 R3 R4 na nb a1 a2 c1 c2 A B C D W) : MF w R2 R3 R4 na nb a1 a2 c1 c2 A B C D W.drew := s.call ((Below.refl _ _).drew)

theorem NatV.setBS {w : World} {v : Value} {n R : Nat} (s : NatV w v n) (u0 u1 u2 : Value) (h0 : ∃ b, w.cell? ⟨R, 0, none⟩ = some (.bool b)) (h1 : ∃ p q r, w.cell? ⟨R, 1, none⟩ = some (.slice p q r)) (h2 : ∃ p q r, w.cell? ⟨R, 2, none⟩ = some (.slice p q r)) :
    NatV (((w.setCell ⟨R, 0, none⟩ u0).setCell ⟨R, 1, none⟩ u1).setCell ⟨R, 2, none⟩ u2) v n := by
  obtain ⟨b, e0⟩ := h0
  obtain ⟨p1, q1, r1, e1⟩ := h1
  obtain ⟨p2, q2, r2, e2⟩ := h2
  exact s.set3 _ _ _ e0 e1 e2 (fun x => by simp) (fun x => by simp) (fun x => by simp)

theorem MF.set {w W : World} {R2 R3 R4 : Nat} {na nb : Bool} {a1 a2 c1 c2 : Value} {A B C D : Nat} (s : MF w R2 R3 R4 na nb a1 a2 c1 c2 A B C D W) (b : Bool) (p1 p2 : Option Addr) (q1 r1 q2 r2 : Nat) :
    MF w R2 R3 R4 na nb a1 a2 c1 c2 A B C D (((W.setCell ⟨R4, 0, none⟩ (.bool b)).setCell ⟨R4, 1, none⟩ (.slice p1 q1 r1)).setCell ⟨R4, 2, none⟩ (.slice p2 q2 r2)) := by
  have far : ∀ R o, R4 ≠ R → (((W.setCell ⟨R4, 0, none⟩ (.bool b)).setCell ⟨R4, 1, none⟩ (.slice p1 q1 r1)).setCell ⟨R4, 2, none⟩ (.slice p2 q2 r2)).cell? ⟨R, o, none⟩ = W.cell? ⟨R, o, none⟩ := fun R o h => by
    rw [World.cell?_setCell_far _ _ _ _ h, World.cell?_setCell_far _ _ _ _ h, World.cell?_setCell_far _ _ _ _ h]
  obtain ⟨b', e0⟩ := s.z0
  obtain ⟨_, _, _, e1⟩ := s.z1
  obtain ⟨_, _, _, e2⟩ := s.z2
  have z1' : (W.setCell ⟨R4, 0, none⟩ (.bool b)).cell? ⟨R4, 1, none⟩ = W.cell? ⟨R4, 1, none⟩ := by
    rw [World.cell?_setCell_other (h := fun h => absurd (congrArg Addr.off h) (by show ¬ ((0 : Nat) = 1); decide))]
  have z2' : ((W.setCell ⟨R4, 0, none⟩ (.bool b)).setCell ⟨R4, 1, none⟩ (.slice p1 q1 r1)).cell? ⟨R4, 2, none⟩ = W.cell? ⟨R4, 2, none⟩ := by
    rw [World.cell?_setCell_other (h := fun h => absurd (congrArg Addr.off h) (by show ¬ ((1 : Nat) = 2); decide)), World.cell?_setCell_other (h := fun h => absurd (congrArg Addr.off h) (by show ¬ ((0 : Nat) = 2); decide))]
  refine ⟨below_set3 _ _ _ s.below s.old, s.old, by rw [far _ _ s.far2]; exact s.x0, by rw [far _ _ s.far2]; exact s.x1, by rw [far _ _ s.far2]; exact s.x2, by rw [far _ _ s.far3]; exact s.y0, by rw [far _ _ s.far3]; exact s.y1, by rw [far _ _ s.far3]; exact s.y2,
    s.far2, s.far3, ⟨b, ?_⟩, ⟨p1, q1, r1, ?_⟩, ⟨p2, q2, r2, ?_⟩, ?_, ?_, ?_, s.n1.setBS _ _ _ s.z0 s.z1 s.z2, s.n2.setBS _ _ _ s.z0 s.z1 s.z2, s.n3.setBS _ _ _ s.z0 s.z1 s.z2, s.n4.setBS _ _ _ s.z0 s.z1 s.z2⟩
  · rw [World.cell?_setCell_other (h := fun h => absurd (congrArg Addr.off h) (by show ¬ ((2 : Nat) = 0); decide)), World.cell?_setCell_other (h := fun h => absurd (congrArg Addr.off h) (by show ¬ ((1 : Nat) = 0); decide)), World.cell?_setCell_same _ _ _ e0]
  · rw [World.cell?_setCell_other (h := fun h => absurd (congrArg Addr.off h) (by show ¬ ((2 : Nat) = 1); decide)), World.cell?_setCell_same _ _ _ (z1'.trans e1)]
  · rw [World.cell?_setCell_same _ _ _ (z2'.trans e2)]
  · rw [World.frozen?_setCell, World.frozen?_setCell, World.frozen?_setCell]; exact s.f0
  · rw [World.frozen?_setCell, World.frozen?_setCell, World.frozen?_setCell]; exact s.f1
  · rw [World.frozen?_setCell, World.frozen?_setCell, World.frozen?_setCell]; exact s.f2

set_option maxHeartbeats 2000000 in
/-- law.mulFrac -/
theorem mulFrac_nat {w : World} {a1 a2 c1 c2 : Value} {A B C D : Nat} (na nb : Bool) (s1 : NatV w a1 A) (s2 : NatV w a2 B) (s3 : NatV w c1 C) (s4 : NatV w c2 D) (b1 : bl A ≤ 300000) (b2 : bl B ≤ 300000) (b3 : bl C ≤ 300000) (b4 : bl D ≤ 300000) :
    Calls Oafg.prog 84 #[.agg #[.bool na, a1, a2], .agg #[.bool nb, c1, c2]] w fun e w' => (∃ v1 v2, e = .returned (.agg #[.bool (na != nb), v1, v2]) ∧ NatV w' v1 (A * C) ∧ NatV w' v2 (B * D)) ∧ Below w.heap.size w w' := by
  obtain ⟨p1, q1, r1, rfl⟩ := s1.sl
  obtain ⟨p2, q2, r2, rfl⟩ := s2.sl
  obtain ⟨p3, q3, r3, rfl⟩ := s3.sl
  obtain ⟨p4, q4, r4, rfl⟩ := s4.sl
  obtain ⟨R2, hR2⟩ : ∃ R2, R2 = w.heap.size := ⟨_, rfl⟩
  obtain ⟨R3, hR3⟩ : ∃ R3, R3 = w.heap.size + 1 := ⟨_, rfl⟩
  obtain ⟨R4, hR4⟩ : ∃ R4, R4 = w.heap.size + 1 + 1 := ⟨_, rfl⟩
  have hM : MF w R2 R3 R4 na nb (.slice p1 q1 r1) (.slice p2 q2 r2) (.slice p3 q3 r3) (.slice p4 q4 r4) A B C D (((w.alloc (.cells #[.bool na, .slice p1 q1 r1, .slice p2 q2 r2] 66)).alloc (.cells #[.bool nb, .slice p3 q3 r3, .slice p4 q4 r4] 66)).alloc (.cells #[.bool false, .slice none 0 0, .slice none 0 0] 66)) := by
    have hb : Below w.heap.size w (((w.alloc (.cells #[.bool na, .slice p1 q1 r1, .slice p2 q2 r2] 66)).alloc (.cells #[.bool nb, .slice p3 q3 r3, .slice p4 q4 r4] 66)).alloc (.cells #[.bool false, .slice none 0 0, .slice none 0 0] 66)) := bt self2 self1
    refine ⟨hb, by omega, ?_, ?_, ?_, ?_, ?_, ?_, by omega, by omega, ⟨false, ?_⟩, ⟨none, 0, 0, ?_⟩, ⟨none, 0, 0, ?_⟩, ?_, ?_, ?_, s1.call hb, s2.call hb, s3.call hb, s4.call hb⟩ <;> simp [go_sem, hR2, hR3, hR4]
  have M1 : Hid (∀ w', MF w R2 R3 R4 na nb (.slice p1 q1 r1) (.slice p2 q2 r2) (.slice p3 q3 r3) (.slice p4 q4 r4) A B C D w' → Calls Oafg.prog 91 #[.slice p1 q1 r1, .slice p3 q3 r3] w' fun e w2 => (∃ v, e = .returned v ∧ NatV w2 v (A * C)) ∧ Below w'.heap.size w' w2) := fun w' h => mul_nat h.n1 h.n3 (by omega) (by omega)
  have M2 : Hid (∀ w', MF w R2 R3 R4 na nb (.slice p1 q1 r1) (.slice p2 q2 r2) (.slice p3 q3 r3) (.slice p4 q4 r4) A B C D w' → Calls Oafg.prog 91 #[.slice p2 q2 r2, .slice p4 q4 r4] w' fun e w2 => (∃ v, e = .returned v ∧ NatV w2 v (B * D)) ∧ Below w'.heap.size w' w2) := fun w' h => mul_nat h.n2 h.n4 (by omega) (by omega)
  have HM : Hid _ := hM
  have HR2 : Hid _ := hR2
  have HR3 : Hid _ := hR3
  have HR4 : Hid _ := hR4
  clear s1 s2 s3 s4 hM hR2 hR3 hR4
  go_enter Oafg.func84, Oafg.ntmps84
  go_wp2
  generalize hW : (((w.alloc (.cells #[.bool na, .slice p1 q1 r1, .slice p2 q2 r2] 66)).alloc (.cells #[.bool nb, .slice p3 q3 r3, .slice p4 q4 r4] 66)).alloc (.cells #[.bool false, .slice none 0 0, .slice none 0 0] 66)) = W at *
  simp only [← HR4.out]
  simp only [← HR3.out]
  simp only [← HR2.out]
  have hS0 : MF w R2 R3 R4 na nb (.slice p1 q1 r1) (.slice p2 q2 r2) (.slice p3 q3 r3) (.slice p4 q4 r4) A B C D W := HM.out
  have g0 : ∀ w', MF w R2 R3 R4 na nb (.slice p1 q1 r1) (.slice p2 q2 r2) (.slice p3 q3 r3) (.slice p4 q4 r4) A B C D w' → w'.cell? ⟨R2, 0, none⟩ = some (.bool na) := fun _ h => h.x0
  have g1 : ∀ w', MF w R2 R3 R4 na nb (.slice p1 q1 r1) (.slice p2 q2 r2) (.slice p3 q3 r3) (.slice p4 q4 r4) A B C D w' → w'.cell? ⟨R2, 1, none⟩ = some (.slice p1 q1 r1) := fun _ h => h.x1
  have g2 : ∀ w', MF w R2 R3 R4 na nb (.slice p1 q1 r1) (.slice p2 q2 r2) (.slice p3 q3 r3) (.slice p4 q4 r4) A B C D w' → w'.cell? ⟨R2, 2, none⟩ = some (.slice p2 q2 r2) := fun _ h => h.x2
  have g3 : ∀ w', MF w R2 R3 R4 na nb (.slice p1 q1 r1) (.slice p2 q2 r2) (.slice p3 q3 r3) (.slice p4 q4 r4) A B C D w' → w'.cell? ⟨R3, 0, none⟩ = some (.bool nb) := fun _ h => h.y0
  have g4 : ∀ w', MF w R2 R3 R4 na nb (.slice p1 q1 r1) (.slice p2 q2 r2) (.slice p3 q3 r3) (.slice p4 q4 r4) A B C D w' → w'.cell? ⟨R3, 1, none⟩ = some (.slice p3 q3 r3) := fun _ h => h.y1
  have g5 : ∀ w', MF w R2 R3 R4 na nb (.slice p1 q1 r1) (.slice p2 q2 r2) (.slice p3 q3 r3) (.slice p4 q4 r4) A B C D w' → w'.cell? ⟨R3, 2, none⟩ = some (.slice p4 q4 r4) := fun _ h => h.y2
  have g6 : ∀ w', MF w R2 R3 R4 na nb (.slice p1 q1 r1) (.slice p2 q2 r2) (.slice p3 q3 r3) (.slice p4 q4 r4) A B C D w' → w'.cell? ⟨R4, 0, none⟩ = some (cellv w' ⟨R4, 0, none⟩) := fun _ h => cellv_some (by obtain ⟨b, e⟩ := h.z0; rw [e]; rfl)
  have g7 : ∀ w', MF w R2 R3 R4 na nb (.slice p1 q1 r1) (.slice p2 q2 r2) (.slice p3 q3 r3) (.slice p4 q4 r4) A B C D w' → w'.cell? ⟨R4, 1, none⟩ = some (cellv w' ⟨R4, 1, none⟩) := fun _ h => cellv_some (by obtain ⟨_, _, _, e⟩ := h.z1; rw [e]; rfl)
  have g8 : ∀ w', MF w R2 R3 R4 na nb (.slice p1 q1 r1) (.slice p2 q2 r2) (.slice p3 q3 r3) (.slice p4 q4 r4) A B C D w' → w'.cell? ⟨R4, 2, none⟩ = some (cellv w' ⟨R4, 2, none⟩) := fun _ h => cellv_some (by obtain ⟨_, _, _, e⟩ := h.z2; rw [e]; rfl)
  have g9 : ∀ w', MF w R2 R3 R4 na nb (.slice p1 q1 r1) (.slice p2 q2 r2) (.slice p3 q3 r3) (.slice p4 q4 r4) A B C D w' → w'.frozen? ⟨R4, 0, none⟩ = false := fun _ h => h.f0
  have g10 : ∀ w', MF w R2 R3 R4 na nb (.slice p1 q1 r1) (.slice p2 q2 r2) (.slice p3 q3 r3) (.slice p4 q4 r4) A B C D w' → w'.frozen? ⟨R4, 1, none⟩ = false := fun _ h => h.f1
  have g11 : ∀ w', MF w R2 R3 R4 na nb (.slice p1 q1 r1) (.slice p2 q2 r2) (.slice p3 q3 r3) (.slice p4 q4 r4) A B C D w' → w'.frozen? ⟨R4, 2, none⟩ = false := fun _ h => h.f2
  clear HM hW
  go_region_held3 (fun w' => MF w R2 R3 R4 na nb (.slice p1 q1 r1) (.slice p2 q2 r2) (.slice p3 q3 r3) (.slice p4 q4 r4) A B C D w')
    (repeat' (first | with_reducible exact hSu | with_reducible exact hS0 | with_reducible apply MF.drew | with_reducible apply MF.set))
    (first
      | (go_at_call_of 91 (Value.slice p1 q1 r1); refine (M1.out _ (by assumption)).mono ?_; rintro e w2 ⟨⟨u1, rfl, hN1⟩, hbu1⟩; obtain ⟨x1, y1, z1, rfl⟩ := hN1.sl; have hSu := MF.call (by assumption) hbu1; have HN1 : Hid _ := hN1; have HB1 : Hid _ := hbu1; clear hN1 hbu1)
      | (go_at_call_of 91 (Value.slice p2 q2 r2); refine (M2.out _ (by assumption)).mono ?_; rintro e w3 ⟨⟨u2, rfl, hN2⟩, hbu2⟩; obtain ⟨x2, y2, z2, rfl⟩ := hN2.sl; have hSu := MF.call (by assumption) hbu2; have HN2 : Hid _ := hN2; have HB2 : Hid _ := hbu2; clear hN2 hbu2))
  all_goals
    go_wp2
    obtain ⟨b', e0⟩ := hSu.z0
    obtain ⟨_, _, _, e1⟩ := hSu.z1
    obtain ⟨_, _, _, e2⟩ := hSu.z2
    refine bodyPost_ret (v := .agg #[.bool (!(na == nb)), .slice x1 y1 z1, .slice x2 y2 z2]) (by simp [results, Oafg.results84, go_sem, e0, e1, e2]) rfl ⟨⟨_, _, rfl, ?_, ?_⟩, ?_⟩
    · first
        | exact (HN1.out.call HB2.out).setBS _ _ _ hSu.z0 hSu.z1 hSu.z2
        | exact HN1.out.setBS _ _ _ hSu.z0 hSu.z1 hSu.z2
    · first
        | exact HN2.out.setBS _ _ _ hSu.z0 hSu.z1 hSu.z2
        | exact (HN2.out.call HB1.out).setBS _ _ _ hSu.z0 hSu.z1 hSu.z2
    · exact below_set3 _ _ _ hSu.below hSu.old

/-- law.decimal -/
theorem decimal_nat {w : World} (man : Nat) (hman : man < 18446744073709551616) (k : Int) (h1 : -60000 ≤ k) (h2 : k ≤ 60000) :
    Calls Oafg.prog 49 #[.int .u64 man, .int .i64 k] w fun e w' => (∃ v1 v2, e = .returned (.agg #[.bool false, v1, v2]) ∧ NatV w' v1 (man * 10 ^ k.toNat) ∧ NatV w' v2 (10 ^ (-k).toNat)) ∧ Below w.heap.size w w' := by
  have hb10 : ∀ j : Nat, j ≤ 60000 → bl (10 ^ j) ≤ 300000 := fun j hj => by
    refine Nat.le_trans (bl_le _ (4 * j + 1) ?_) (by omega)
    have : 10 ^ j ≤ 16 ^ j := Nat.pow_le_pow_left (by decide) j
    rw [show 16 = 2 ^ 4 from by decide, ← Nat.pow_mul] at this
    have h2 : 2 ^ (4 * j) < 2 ^ (4 * j + 1) := Nat.pow_lt_pow_right (by decide) (by omega)
    omega
  have hbm : bl man ≤ 300000 := Nat.le_trans (bl_le man 64 (by simpa using hman)) (by decide)
  have g1 := hb10 k.toNat (by omega)
  have g2 := hb10 (-k).toNat (by omega)
  have T1 : Hid _ := fun ww => fromU64_any man hman ww
  have T2 : Hid _ := fun ww (v : Value) (h : NatV ww v man) => whole_nat false h
  have T3 : Hid _ := fun ww => pow10Frac_nat (w := ww) k h1 h2
  have T4 : Hid _ := fun ww (a1 a2 c1 c2 : Value) (s1 : NatV ww a1 man) (s2 : NatV ww a2 1) (s3 : NatV ww c1 (10 ^ k.toNat)) (s4 : NatV ww c2 (10 ^ (-k).toNat)) => mulFrac_nat false false s1 s2 s3 s4 hbm (by decide) g1 g2
  simp only [Nat.one_mul] at T4
  generalize man * 10 ^ k.toNat = X at *
  generalize 10 ^ k.toNat = Y at *
  generalize 10 ^ (-k).toNat = Z at *
  clear hb10 hbm g1 g2
  go_enter Oafg.func49, Oafg.ntmps49
  go_wp2_with (first
    | (go_at_call 86; refine (T1.out _).mono ?_; rintro e' w1 ⟨⟨v0, rfl, hN0⟩, hb1⟩; have HN0 : Hid _ := hN0; have HB1 : Hid _ := hb1; clear hN0 hb1)
    | (go_at_call 85; refine (T2.out _ _ HN0.out).mono ?_; rintro e' w2 ⟨⟨a1, a2, rfl, hA1, hA2⟩, hb2⟩; have HA1 : Hid _ := hA1; have HA2 : Hid _ := hA2; have HB2 : Hid _ := hb2; clear hA1 hA2 hb2)
    | (go_at_call 87; refine (T3.out _).mono ?_; rintro e' w3 ⟨⟨c1, c2, rfl, hC1, hC2⟩, hb3⟩; have HC1 : Hid _ := hC1; have HC2 : Hid _ := hC2; have HB3 : Hid _ := hb3; clear hC1 hC2 hb3)
    | (go_at_call 84; refine (T4.out _ _ _ _ _ (HA1.out.call HB3.out) (HA2.out.call HB3.out) HC1.out HC2.out).mono ?_; rintro e' w4 ⟨⟨u1, u2, rfl, hU1, hU2⟩, hb4⟩; obtain ⟨ad1, l1, cp1, rfl⟩ := hU1.sl; obtain ⟨ad2, l2, cp2, rfl⟩ := hU2.sl; obtain ⟨⟨k0, k1, k2⟩, k3, k4, k5⟩ := kept3 (bt (bt (bt HB1.out HB2.out) HB3.out) hb4); have HU1 : Hid _ := hU1; have HU2 : Hid _ := hU2; have HB4 : Hid _ := hb4; clear hU1 hU2 hb4))
  refine bodyPost_ret (v := .agg #[.bool false, .slice ad1 l1 cp1, .slice ad2 l2 cp2]) (by simp [results, Oafg.results49, go_sem, k0, k1, k2]) rfl ⟨⟨_, _, rfl, ?_, ?_⟩, ?_⟩
  · exact HU1.out.set3 _ _ _ k0 k1 k2 (fun x => by simp) (fun x => by simp) (fun x => by simp)
  · exact HU2.out.set3 _ _ _ k0 k1 k2 (fun x => by simp) (fun x => by simp) (fun x => by simp)
  · exact below_set3 _ _ _ (bt (bt (bt (below1 HB1.out) HB2.out) HB3.out) HB4.out) (Nat.le_refl _)
end Go.Proofs.Ygcoaf
