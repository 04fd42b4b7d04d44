/-
  PACKAGE exact, the third: raised.
-/
import Derived.Test.YgcoafX2
namespace Go.Proofs.Ygcoaf
open Go.RowKit Go.Proofs.Ygcoaf.M

/-- two structs of two fields in own blocks, and a number -/
structure RS (w : World) (R9 R11 : Nat) (C : Int) (sm : Bool) (v : Value) (n : Nat) (w' : World) : Prop where
  below : Below w.heap.size w w'
  old9 : w.heap.size ≤ R9
  old11 : w.heap.size ≤ R11
  ne : R9 ≠ R11
  c9 : (∃ i, w'.cell? ⟨R9, 0, none⟩ = some (.int .i8 i)) ∧ (∃ b, w'.cell? ⟨R9, 1, none⟩ = some (.bool b))
  f9 : w'.frozen? ⟨R9, 0, none⟩ = false ∧ w'.frozen? ⟨R9, 1, none⟩ = false
  c11 : w'.cell? ⟨R11, 0, none⟩ = some (.int .i8 C) ∧ w'.cell? ⟨R11, 1, none⟩ = some (.bool sm)
  num : NatV w' v n

theorem rnd_bl (A B : Nat) (h : bl A ≤ 900000) : bl (A / B) ≤ 900000 := by
  refine Nat.le_trans (bl_le _ _ (Nat.lt_of_le_of_lt (Nat.div_le_self A B) (bl_hi A))) h

theorem RS.call {w : World} {R9 R11 : Nat} {C : Int} {sm : Bool} {v : Value} {n : Nat} {W w' : World} (s : RS w R9 R11 C sm v n W) (h : Below W.heap.size W w') : RS w R9 R11 C sm v n w' := by
  obtain ⟨⟨i, ci⟩, b, cb⟩ := s.c9
  have l9 : R9 < W.heap.size := World.block_lt_of_cell? _ _ ci
  have l11 : R11 < W.heap.size := World.block_lt_of_cell? _ _ s.c11.1
  obtain ⟨hc, hf⟩ := bcell h
  exact ⟨bt s.below h, s.old9, s.old11, s.ne, ⟨⟨i, by rw [hc _ _ l9]; exact ci⟩, b, by rw [hc _ _ l9]; exact cb⟩, by rw [hf _ _ l9, hf _ _ l9]; exact s.f9, by rw [hc _ _ l11, hc _ _ l11]; exact s.c11, s.num.call h⟩
theorem RS.numTo {w : World} {R9 R11 : Nat} {C : Int} {sm : Bool} {v v2 : Value} {n n2 : Nat} {W : World} (s : RS w R9 R11 C sm v n W) (h : NatV W v2 n2) : RS w R9 R11 C sm v2 n2 W := ⟨s.below, s.old9, s.old11, s.ne, s.c9, s.f9, s.c11, h⟩
theorem RS.drew {w : World} {R9 R11 : Nat} {C : Int} {sm : Bool} {v : Value} {n : Nat} {W : World} (s : RS w R9 R11 C sm v n W) : RS w R9 R11 C sm v n W.drew := s.call ((Below.refl _ _).drew)

theorem bit0_nat' {w : World} {v : Value} {n : Nat} (s1 : NatV w v n) :
    Calls Oafg.prog 182 #[v, .int .i64 0] w fun e w' => e = .returned (.bool (decide (n % 2 = 1))) ∧ Below w.heap.size w w' :=
  (bit0_nat s1).mono fun e w' ⟨h1, h2⟩ => ⟨h1, by rw [h2]; exact Below.refl _ _⟩

set_option maxHeartbeats 800000 in
/-- exact.raised -/
theorem raised_nat {w : World} {va vb : Value} {A B : Nat} (mode : Nat) (hm : mode < 256) (neg : Bool) (s1 : NatV w va A) (s2 : NatV w vb B) (b1 : bl A ≤ 900000) (b2 : bl B ≤ 900000) (hB : B ≠ 0) :
    Calls Oafg.prog 131 #[.int .u8 mode, .bool neg, va, vb] w fun e w' => (∃ v, e = .returned (.tuple #[v, .agg #[.int .i8 (cmpN (A % B * 2) B), .bool (decide (A % B ≠ 0))]]) ∧ NatV w' v (rnd mode neg A B)) ∧ Below w.heap.size w w' := by
  have hbw : Below w.heap.size w (w.alloc (.cells #[.int .i8 0, .bool false] 149)) := self1
  have D := floor_nat (s1.call hbw) (s2.call hbw) b1 b2 hB
  have hU := raisesB_ups mode neg A B
  obtain ⟨q, hq⟩ : ∃ q, q = A / B := ⟨_, rfl⟩
  have hC := cmpN_bd (A % B * 2) B
  have hR : rnd mode neg A B = q + (ups mode neg A B).toNat := by unfold rnd; rw [hq]
  have hqb : bl q ≤ 900000 := by rw [hq]; exact rnd_bl A B b1
  obtain ⟨odd, hodd⟩ : ∃ odd, odd = decide (q % 2 = 1) := ⟨_, rfl⟩
  rw [← hq, ← hodd] at hU
  rw [← hq] at D
  rw [hR]
  generalize cmpN (A % B * 2) B = C at *
  generalize decide (A % B ≠ 0) = sm at *
  obtain ⟨up, hup⟩ : ∃ up, up = ups mode neg A B := ⟨_, rfl⟩
  rw [← hup] at hU hR ⊢
  have HD : Hid _ := fun (_ : Unit) => D
  have HRA : Hid _ := fun ww => raises_any mode hm neg odd C hC sm ww
  rw [hU] at HRA
  have Hodd : Hid _ := hodd
  clear D hq s1 s2 hbw hR hU hup hodd
  go_enter Oafg.func131, Oafg.ntmps131
  go_upto_region 2 with (go_at_call 180; refine (HD.out ()).mono ?_; rintro e w1 ⟨⟨v1, rfl, hN1⟩, hb1⟩; obtain ⟨k1, k2, k3, k4⟩ := kept2 hb1)
  have hRS : RS w w.heap.size w1.heap.size C sm v1 q (w1.alloc (.cells #[.int .i8 C, .bool sm] 149)) := by
    have hb := self1 (w := w1) (o := .cells #[.int .i8 C, .bool sm] 149)
    have ku := kept2 (w := w1) (u := .int .i8 C) (v := .bool sm) (t := 149) (Below.refl _ _)
    have hlt : w.heap.size < w1.heap.size := World.block_lt_of_cell? _ _ k1
    obtain ⟨hc, hf⟩ := bcell hb
    exact ⟨bt (below1 hb1) hb, Nat.le_refl _, Nat.le_of_lt hlt, by omega, ⟨⟨0, by rw [hc _ _ hlt]; exact k1⟩, false, by rw [hc _ _ hlt]; exact k2⟩, ⟨by rw [hf _ _ hlt]; exact k3, by rw [hf _ _ hlt]; exact k4⟩, ⟨ku.1, ku.2.1⟩, hN1.call hb⟩
  generalize hW : w1.alloc (.cells #[.int .i8 C, .bool sm] 149) = W at hRS ⊢
  have HRS : Hid _ := hRS
  obtain ⟨d0, d1⟩ := hRS.c11
  have hlt := World.block_lt_of_cell? _ _ d0
  simp only at hlt
  have HBit : Hid (∀ w', HB W w' → Calls Oafg.prog 182 #[v1, .int .i64 0] w' fun e w2 => e = .returned (.bool odd) ∧ Below w'.heap.size w' w2) := fun w' h => by
    have := bit0_nat' (hRS.num.call h)
    rw [← Hodd.out] at this
    exact this
  obtain ⟨R9, hR9⟩ : ∃ R9, R9 = w.heap.size := ⟨_, rfl⟩
  obtain ⟨R11, hR11⟩ : ∃ R11, R11 = w1.heap.size := ⟨_, rfl⟩
  rw [← hR9, ← hR11] at HRS
  rw [← hR11] at d0 d1 hlt
  simp only [← hR11, ← hR9]
  have HR9 : Hid _ := hR9
  clear hRS hW k1 k2 k3 k4 hb1 hN1 hR11 hR9
  go_cut [23] (fun t w' => t = .bool up ∧ Hid (RS w R9 R11 C sm v1 q w'))
  case first =>
    have hS0 : HB W W := HB.start
    have hcl := HB.cells (W := W)
    go_region_held3 (fun w' => HB W w')
      (repeat' (first | with_reducible exact hSu | with_reducible exact hS0 | with_reducible apply HB.drew))
      (first
        | (go_at_call 182; refine (HBit.out _ (by assumption)).mono ?_; rintro e w2 ⟨rfl, hbu⟩; have hSu := HB.call (by assumption) hbu)
        | (go_at_call 181; refine (HRA.out _).mono ?_; rintro e w3 ⟨rfl, hbu⟩; have hSu := HB.call (by assumption) hbu))
    all_goals
      rename_i hH
      go_wp2_with fail
      go_meet
      case rel => exact ⟨rfl, HRS.out.call hH⟩
  case rest =>
    obtain ⟨rfl, hR⟩ := hcut
    cases up
    · obtain ⟨⟨⟨i9, z0⟩, b9, z1⟩, ⟨z2, z3⟩, ⟨z4, z5⟩⟩ : ((∃ i, wc.cell? ⟨R9, 0, none⟩ = some (.int .i8 i)) ∧ (∃ b, wc.cell? ⟨R9, 1, none⟩ = some (.bool b))) ∧ (wc.frozen? ⟨R9, 0, none⟩ = false ∧ wc.frozen? ⟨R9, 1, none⟩ = false) ∧ (wc.cell? ⟨R11, 0, none⟩ = some (.int .i8 C) ∧ wc.cell? ⟨R11, 1, none⟩ = some (.bool sm)) := ⟨hR.out.c9, hR.out.f9, hR.out.c11⟩
      clear d0 d1 hlt HRS HBit HRA
      go_wp2
      go_region
      all_goals
        go_wp2
        refine bodyPost_ret (v := .tuple #[v1, .agg #[.int .i8 C, .bool sm]]) (by simp [results, Oafg.results131, go_sem, z0, z1]) rfl ⟨⟨v1, rfl, ?_⟩, ?_⟩
        · exact (hR.out.num.set2 _ _ z0 z1 (fun x => by simp) (fun x => by simp)).call (Below.refl _ _).drew
        · exact (below_set2 _ _ hR.out.below hR.out.old9).drew
    · have HSU : Hid _ := fun (_ : Unit) => succ_nat hR.out.num (by omega)
      clear d0 d1 hlt HRS HBit HRA
      go_upto_region 4 with (go_at_call 143; refine (HSU.out ()).mono ?_; rintro e w5 ⟨⟨v5, rfl, hN5⟩, hb5⟩)
      have hR5 : Hid _ := (hR.out.call hb5).numTo hN5
      obtain ⟨⟨⟨i9, z0⟩, b9, z1⟩, ⟨z2, z3⟩, ⟨z4, z5⟩⟩ : ((∃ i, w5.cell? ⟨R9, 0, none⟩ = some (.int .i8 i)) ∧ (∃ b, w5.cell? ⟨R9, 1, none⟩ = some (.bool b))) ∧ (w5.frozen? ⟨R9, 0, none⟩ = false ∧ w5.frozen? ⟨R9, 1, none⟩ = false) ∧ (w5.cell? ⟨R11, 0, none⟩ = some (.int .i8 C) ∧ w5.cell? ⟨R11, 1, none⟩ = some (.bool sm)) := ⟨hR5.out.c9, hR5.out.f9, hR5.out.c11⟩
      clear hR hN5 hb5
      go_region
      all_goals
        go_wp2
        refine bodyPost_ret (v := .tuple #[v5, .agg #[.int .i8 C, .bool sm]]) (by simp [results, Oafg.results131, go_sem, z0, z1]) rfl ⟨⟨v5, rfl, ?_⟩, ?_⟩
        · exact (hR5.out.num.set2 _ _ z0 z1 (fun x => by simp) (fun x => by simp)).call (Below.refl _ _).drew
        · exact (below_set2 _ _ hR5.out.below hR5.out.old9).drew
end Go.Proofs.Ygcoaf
