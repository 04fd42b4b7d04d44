/-
  exact.OfDec, RoundDecFlags, RoundDec.
-/
import Derived.Test.YgcoafS2
namespace Go.Proofs.Ygcoaf
open Go.RowKit Go.Proofs.Ygcoaf.M

/-- what OfDec holds: the decimal read, a fraction to be written, the digits' number -/
structure OD (w : World) (R1 R2 : Nat) (neg : Bool) (s : ByteArray) (x : Int) (vn : Value) (n : Nat) (w' : World) : Prop where
  below : Below w.heap.size w w'
  old : w.heap.size ≤ R2
  c0 : w'.cell? ⟨R1, 0, none⟩ = some (.bool neg)
  c1 : w'.cell? ⟨R1, 1, none⟩ = some (.string s)
  c2 : w'.cell? ⟨R1, 2, none⟩ = some (.int .i16 x)
  far : R2 ≠ R1
  z0 : ∃ b, w'.cell? ⟨R2, 0, none⟩ = some (.bool b)
  z1 : ∃ p q r, w'.cell? ⟨R2, 1, none⟩ = some (.slice p q r)
  z2 : ∃ p q r, w'.cell? ⟨R2, 2, none⟩ = some (.slice p q r)
  f0 : w'.frozen? ⟨R2, 0, none⟩ = false
  f1 : w'.frozen? ⟨R2, 1, none⟩ = false
  f2 : w'.frozen? ⟨R2, 2, none⟩ = false
  num : NatV w' vn n
theorem OD.call {w W w' : World} {R1 R2 : Nat} {neg : Bool} {s : ByteArray} {x : Int} {vn : Value} {n : Nat} (o : OD w R1 R2 neg s x vn n W) (h : Below W.heap.size W w') : OD w R1 R2 neg s x vn n w' := by
  have l1 : R1 < W.heap.size := World.block_lt_of_cell? _ _ o.c0
  obtain ⟨b, e0⟩ := o.z0
  obtain ⟨p1, q1, r1, e1⟩ := o.z1
  obtain ⟨p2, q2, r2, e2⟩ := o.z2
  have l2 : R2 < W.heap.size := World.block_lt_of_cell? _ _ e0
  obtain ⟨hc, hf⟩ := bcell h
  exact ⟨bt o.below h, o.old, by rw [hc _ _ l1]; exact o.c0, by rw [hc _ _ l1]; exact o.c1, by rw [hc _ _ l1]; exact o.c2, o.far, ⟨b, by rw [hc _ _ l2]; exact e0⟩, ⟨p1, q1, r1, by rw [hc _ _ l2]; exact e1⟩, ⟨p2, q2, r2, by rw [hc _ _ l2]; exact e2⟩,
    by rw [hf _ _ l2]; exact o.f0, by rw [hf _ _ l2]; exact o.f1, by rw [hf _ _ l2]; exact o.f2, o.num.call h⟩
theorem OD.drew {w W : World} {R1 R2 : Nat} {neg : Bool} {s : ByteArray} {x : Int} {vn : Value} {n : Nat} (o : OD w R1 R2 neg s x vn n W) : OD w R1 R2 neg s x vn n W.drew := o.call ((Below.refl _ _).drew)
theorem OD.set {w W : World} {R1 R2 : Nat} {neg : Bool} {s : ByteArray} {x : Int} {vn : Value} {n : Nat} (o : OD w R1 R2 neg s x vn n W) (b : Bool) (p1 p2 : Option Addr) (q1 r1 q2 r2 : Nat) :
    OD w R1 R2 neg s x vn n (((W.setCell ⟨R2, 0, none⟩ (.bool b)).setCell ⟨R2, 1, none⟩ (.slice p1 q1 r1)).setCell ⟨R2, 2, none⟩ (.slice p2 q2 r2)) := by
  have far : ∀ k, (((W.setCell ⟨R2, 0, none⟩ (.bool b)).setCell ⟨R2, 1, none⟩ (.slice p1 q1 r1)).setCell ⟨R2, 2, none⟩ (.slice p2 q2 r2)).cell? ⟨R1, k, none⟩ = W.cell? ⟨R1, k, none⟩ := fun k => by
    rw [World.cell?_setCell_far _ _ _ _ o.far, World.cell?_setCell_far _ _ _ _ o.far, World.cell?_setCell_far _ _ _ _ o.far]
  obtain ⟨b', e0⟩ := o.z0
  obtain ⟨_, _, _, e1⟩ := o.z1
  obtain ⟨_, _, _, e2⟩ := o.z2
  have z1' : (W.setCell ⟨R2, 0, none⟩ (.bool b)).cell? ⟨R2, 1, none⟩ = W.cell? ⟨R2, 1, none⟩ := by
    rw [World.cell?_setCell_other (h := fun h => absurd (congrArg Addr.off h) (by show ¬ ((0 : Nat) = 1); decide))]
  have z2' : ((W.setCell ⟨R2, 0, none⟩ (.bool b)).setCell ⟨R2, 1, none⟩ (.slice p1 q1 r1)).cell? ⟨R2, 2, none⟩ = W.cell? ⟨R2, 2, none⟩ := by
    rw [World.cell?_setCell_other (h := fun h => absurd (congrArg Addr.off h) (by show ¬ ((1 : Nat) = 2); decide)), World.cell?_setCell_other (h := fun h => absurd (congrArg Addr.off h) (by show ¬ ((0 : Nat) = 2); decide))]
  refine ⟨below_set3 _ _ _ o.below o.old, o.old, by rw [far]; exact o.c0, by rw [far]; exact o.c1, by rw [far]; exact o.c2, o.far, ⟨b, ?_⟩, ⟨p1, q1, r1, ?_⟩, ⟨p2, q2, r2, ?_⟩, ?_, ?_, ?_, o.num.setBS _ _ _ o.z0 o.z1 o.z2⟩
  · rw [World.cell?_setCell_other (h := fun h => absurd (congrArg Addr.off h) (by show ¬ ((2 : Nat) = 0); decide)), World.cell?_setCell_other (h := fun h => absurd (congrArg Addr.off h) (by show ¬ ((1 : Nat) = 0); decide)), World.cell?_setCell_same _ _ _ e0]
  · rw [World.cell?_setCell_other (h := fun h => absurd (congrArg Addr.off h) (by show ¬ ((2 : Nat) = 1); decide)), World.cell?_setCell_same _ _ _ (z1'.trans e1)]
  · rw [World.cell?_setCell_same _ _ _ (z2'.trans e2)]
  · rw [World.frozen?_setCell, World.frozen?_setCell, World.frozen?_setCell]; exact o.f0
  · rw [World.frozen?_setCell, World.frozen?_setCell, World.frozen?_setCell]; exact o.f1
  · rw [World.frozen?_setCell, World.frozen?_setCell, World.frozen?_setCell]; exact o.f2

theorem bl_ten (j : Nat) : bl (10 ^ j) ≤ 4 * j + 1 := by
  refine bl_le _ _ ?_
  have : 10 ^ j ≤ 16 ^ j := Nat.pow_le_pow_left (by decide) j
  rw [show 16 = 2 ^ 4 from by decide, ← Nat.pow_mul] at this
  have h2 : 2 ^ (4 * j) < 2 ^ (4 * j + 1) := Nat.pow_lt_pow_right (by decide) (by omega)
  omega

set_option maxRecDepth 8000 in
set_option maxHeartbeats 2000000 in
/-- exact.OfDec of a canonical decimal -/
theorem ofDec_nat {s : ByteArray} {x : Int} (h : Canon s x) (neg : Bool) (w : World) :
    Calls Oafg.prog 99 #[.agg #[.bool neg, .string s, .int .i16 x]] w fun e w' => (∃ v1 v2, e = .returned (.agg #[.bool neg, v1, v2]) ∧ NatV w' v1 (dgv s s.size * 10 ^ x.toNat) ∧ NatV w' v2 (10 ^ (-x).toNat)) ∧ Below w.heap.size w w' := by
  have hx := h.exp
  have hfew := h.few
  have T1 : Hid _ := fun ww => decOk_yes h neg ww
  have T2 : Hid _ := fun ww => ofDigits_nat (w := ww) s h.digs h.few
  have hbn : bl (dgv s s.size) ≤ 10000 := Nat.le_trans (bl_le _ _ (dgv_lt s h.digs s.size (Nat.le_refl _))) (by omega)
  obtain ⟨N, hN⟩ : ∃ N, N = dgv s s.size := ⟨_, rfl⟩
  rw [← hN] at T2 hbn ⊢
  obtain ⟨X, hX⟩ : ∃ X, X = N * 10 ^ x.toNat := ⟨_, rfl⟩
  obtain ⟨Y, hY⟩ : ∃ Y, Y = 10 ^ (-x).toNat := ⟨_, rfl⟩
  rw [← hX, ← hY]
  have HX : Hid _ := hX
  have HY : Hid _ := hY
  clear h hN hX hY
  go_enter Oafg.func99, Oafg.ntmps99
  go_upto_region 4 with (first
    | (go_at_call 93; refine (T1.out _).mono ?_; rintro e' w1 ⟨rfl, hb1⟩; obtain ⟨hc1, hf1⟩ := bcell hb1)
    | (go_at_call 165; refine (T2.out _).mono ?_; rintro e' w2 ⟨⟨vn, rfl, hNn⟩, hb2⟩))
  obtain ⟨an, ln, cn, rfl⟩ := hNn.sl
  have hOD : OD w w.heap.size (w.heap.size + 1) neg s x (.slice an ln cn) N w2 := by
    obtain ⟨hc, hf⟩ := bcell (bt hb1 hb2)
    have hl0 : w.heap.size < ((w.alloc (.cells #[.bool neg, .string s, .int .i16 x] 74)).alloc (.cells #[.bool false, .slice none 0 0, .slice none 0 0] 66)).heap.size := by simp; omega
    have hl1 : w.heap.size + 1 < ((w.alloc (.cells #[.bool neg, .string s, .int .i16 x] 74)).alloc (.cells #[.bool false, .slice none 0 0, .slice none 0 0] 66)).heap.size := by simp
    refine ⟨bt (below2 hb1) hb2, by omega, ?_, ?_, ?_, by omega, ⟨false, ?_⟩, ⟨none, 0, 0, ?_⟩, ⟨none, 0, 0, ?_⟩, ?_, ?_, ?_, hNn⟩
    · rw [hc _ _ hl0]; simp [go_sem]
    · rw [hc _ _ hl0]; simp [go_sem]
    · rw [hc _ _ hl0]; simp [go_sem]
    · rw [hc _ _ hl1]; simp [go_sem]
    · rw [hc _ _ hl1]; simp [go_sem]
    · rw [hc _ _ hl1]; simp [go_sem]
    · rw [hf _ _ hl1]; simp [go_sem]
    · rw [hf _ _ hl1]; simp [go_sem]
    · rw [hf _ _ hl1]; simp [go_sem]
  obtain ⟨R2, hR2⟩ : ∃ R2, R2 = w.heap.size + 1 := ⟨_, rfl⟩
  rw [← hR2] at hOD
  simp only [← hR2]
  obtain ⟨R1, hR1⟩ : ∃ R1, R1 = w.heap.size := ⟨_, rfl⟩
  simp only [← hR1]
  have hS0 : OD w R1 R2 neg s x (.slice an ln cn) N w2 := by rw [hR1]; exact hOD
  have q2 := hS0.c2
  clear hOD hR1 hR2 hc1 hf1 hb1 hb2 hNn T1 T2
  have g0 : ∀ w', OD w R1 R2 neg s x (.slice an ln cn) N w' → w'.cell? ⟨R1, 0, none⟩ = some (.bool neg) := fun _ h => h.c0
  have g1 : ∀ w', OD w R1 R2 neg s x (.slice an ln cn) N w' → w'.cell? ⟨R1, 1, none⟩ = some (.string s) := fun _ h => h.c1
  have g2 : ∀ w', OD w R1 R2 neg s x (.slice an ln cn) N w' → w'.cell? ⟨R1, 2, none⟩ = some (.int .i16 x) := fun _ h => h.c2
  have g6 : ∀ w', OD w R1 R2 neg s x (.slice an ln cn) N w' → w'.cell? ⟨R2, 0, none⟩ = some (cellv w' ⟨R2, 0, none⟩) := fun _ h => cellv_some (by obtain ⟨b, e⟩ := h.z0; rw [e]; rfl)
  have g7 : ∀ w', OD w R1 R2 neg s x (.slice an ln cn) N w' → w'.cell? ⟨R2, 1, none⟩ = some (cellv w' ⟨R2, 1, none⟩) := fun _ h => cellv_some (by obtain ⟨_, _, _, e⟩ := h.z1; rw [e]; rfl)
  have g8 : ∀ w', OD w R1 R2 neg s x (.slice an ln cn) N w' → w'.cell? ⟨R2, 2, none⟩ = some (cellv w' ⟨R2, 2, none⟩) := fun _ h => cellv_some (by obtain ⟨_, _, _, e⟩ := h.z2; rw [e]; rfl)
  have g9 : ∀ w', OD w R1 R2 neg s x (.slice an ln cn) N w' → w'.frozen? ⟨R2, 0, none⟩ = false := fun _ h => h.f0
  have g10 : ∀ w', OD w R1 R2 neg s x (.slice an ln cn) N w' → w'.frozen? ⟨R2, 1, none⟩ = false := fun _ h => h.f1
  have g11 : ∀ w', OD w R1 R2 neg s x (.slice an ln cn) N w' → w'.frozen? ⟨R2, 2, none⟩ = false := fun _ h => h.f2
  by_cases c : x < 0
  · obtain ⟨j, hj⟩ : ∃ j : Nat, j = (-x).toNat := ⟨_, rfl⟩
    have e1 : -x = (j : Int) := by omega
    have e2 : x.toNat = 0 := by omega
    have fx : IntKind.i64.wrap x = x := by rw [wrap_i64']; omega
    have fj : IntKind.i64.wrap (j : Int) = (j : Int) := by rw [wrap_i64']; omega
    have hXN : X = N := by rw [HX.out, e2, Nat.pow_zero, Nat.mul_one]
    have hYj : Y = 10 ^ j := by rw [HY.out, ← hj]
    have HXN : Hid _ := hXN
    have HYj : Hid _ := hYj
    clear hXN hYj HX HY
    have T3 : Hid _ := fun ww => epow10_nat (w := ww) j (by omega)
    clear hj e2
    go_wp2
    go_region_held3 (fun w' => OD w R1 R2 neg s x (.slice an ln cn) N w')
      (repeat' (first | with_reducible exact hSu | with_reducible exact hS0 | with_reducible apply OD.drew | with_reducible apply OD.set))
      ((go_at_call 166; refine (T3.out _).mono ?_; rintro e w3 ⟨⟨u1, rfl, hN1⟩, hbu1⟩; obtain ⟨x1, y1, z1, rfl⟩ := hN1.sl; have hSu := OD.call (by assumption) hbu1; have HN1 : Hid _ := hN1; clear hN1))
    all_goals
      go_wp2
      obtain ⟨b', e0⟩ := hSu.z0
      obtain ⟨_, _, _, e1⟩ := hSu.z1
      obtain ⟨_, _, _, e2⟩ := hSu.z2
      refine bodyPost_ret (v := .agg #[.bool neg, .slice an ln cn, .slice x1 y1 z1]) (by simp [results, Oafg.results99, go_sem, e0, e1, e2]) rfl ⟨⟨_, _, rfl, ?_, ?_⟩, ?_⟩
      · rw [HXN.out]; exact hSu.num.setBS _ _ _ hSu.z0 hSu.z1 hSu.z2
      · rw [HYj.out]; exact HN1.out.setBS _ _ _ hSu.z0 hSu.z1 hSu.z2
      · exact below_set3 _ _ _ hSu.below hSu.old
  · obtain ⟨j, hj⟩ : ∃ j : Nat, x = (j : Int) := ⟨x.toNat, by omega⟩
    have hXN : N * 10 ^ j = X := by rw [HX.out, hj, Int.toNat_natCast]
    have hY1 : Y = 1 := by rw [HY.out, hj, show (-(j : Int)).toNat = 0 from by omega, Nat.pow_zero]
    have hbj : bl (10 ^ j) ≤ 1000000 := by have := bl_ten j; omega
    have T3 : Hid _ := fun ww => epow10_nat (w := ww) j (by omega)
    have T4 : Hid (∀ ww (v1 v2 : Value), NatV ww v1 N → NatV ww v2 (10 ^ j) → Calls Oafg.prog 91 #[v1, v2] ww fun e w' => (∃ v, e = .returned v ∧ NatV w' v X) ∧ Below ww.heap.size ww w') := fun ww v1 v2 n1 n2 => by rw [← hXN]; exact mul_nat n1 n2 (by omega) hbj
    have T5 : Hid (∀ ww (v : Value), NatV ww v X → Calls Oafg.prog 164 #[.bool neg, v] ww fun e w' => (∃ v1 v2, e = .returned (.agg #[.bool neg, v1, v2]) ∧ NatV w' v1 X ∧ NatV w' v2 Y) ∧ Below ww.heap.size ww w') := fun ww v n1 => by rw [hY1]; exact ewhole_nat neg n1
    have fx : IntKind.i64.wrap x = (j : Int) := by rw [hj, wrap_i64']; omega
    clear hXN hY1 hbj HX HY hj
    go_wp2
    go_region_held3 (fun w' => OD w R1 R2 neg s x (.slice an ln cn) N w')
      (repeat' (first | with_reducible exact hSu | with_reducible exact hS0 | with_reducible apply OD.drew | with_reducible apply OD.set))
      (first
        | (go_at_call 166; refine (T3.out _).mono ?_; rintro e w3 ⟨⟨u1, rfl, hN1⟩, hbu1⟩; have hSu := OD.call (by assumption) hbu1; have HN1 : Hid _ := hN1; clear hN1)
        | (go_at_call 91; refine (T4.out _ _ _ hSu.num HN1.out).mono ?_; rintro e w4 ⟨⟨u2, rfl, hN2⟩, hbu2⟩; have hSu := OD.call (by assumption) hbu2; have HN2 : Hid _ := hN2; clear hN2)
        | (go_at_call 164; refine (T5.out _ _ HN2.out).mono ?_; rintro e w5 ⟨⟨u3, u4, rfl, hN3, hN4⟩, hbu3⟩; obtain ⟨x1, y1, z1, rfl⟩ := hN3.sl; obtain ⟨x2, y2, z2, rfl⟩ := hN4.sl; have hSu := OD.call (by assumption) hbu3; have HN3 : Hid _ := hN3; have HN4 : Hid _ := hN4; clear hN3 hN4))
    all_goals
      go_wp2
      obtain ⟨b', e0⟩ := hSu.z0
      obtain ⟨_, _, _, e1⟩ := hSu.z1
      obtain ⟨_, _, _, e2⟩ := hSu.z2
      refine bodyPost_ret (v := .agg #[.bool neg, .slice x1 y1 z1, .slice x2 y2 z2]) (by simp [results, Oafg.results99, go_sem, e0, e1, e2]) rfl ⟨⟨_, _, rfl, ?_, ?_⟩, ?_⟩
      · exact HN3.out.setBS _ _ _ hSu.z0 hSu.z1 hSu.z2
      · exact HN4.out.setBS _ _ _ hSu.z0 hSu.z1 hSu.z2
      · exact below_set3 _ _ _ hSu.below hSu.old
end Go.Proofs.Ygcoaf
