/-
  law.sumFrac of two that are not negative.
-/
import Derived.Test.YgcoafL14
namespace Go.Proofs.Ygcoaf
open Go.RowKit Go.Proofs.Ygcoaf.M

/-- a fraction that is not negative, handed back -/
structure PosP (N D : Nat) (e : Ending) (w' : World) : Prop where
  out : ∃ v1 v2, e = .returned (.agg #[.bool false, v1, v2]) ∧ NatV w' v1 N ∧ NatV w' v2 D

set_option maxRecDepth 8000 in
set_option maxHeartbeats 4000000 in
/-- law.sumFrac of two that are not negative -/
theorem sumFrac_pos {w : World} {a1 a2 c1 c2 : Value} {A B C D : Nat} (s1 : NatV w a1 A) (s2 : NatV w a2 B) (s3 : NatV w c1 C) (s4 : NatV w c2 D) (b1 : bl A ≤ 300000) (b2 : bl B ≤ 300000) (b3 : bl C ≤ 300000) (b4 : bl D ≤ 300000) :
    Calls Oafg.prog 152 #[.agg #[.bool false, a1, a2], .agg #[.bool false, c1, c2]] w fun e w' => PosP (A * D + C * B) (B * D) e w' ∧ Below w.heap.size w w' := by
  obtain ⟨N, hNN⟩ : ∃ N, N = A * D + C * B := ⟨_, rfl⟩
  rw [← hNN]
  have HNN : Hid _ := hNN
  clear hNN
  obtain ⟨p1, q1, r1, rfl⟩ := s1.sl
  obtain ⟨p2, q2, r2, rfl⟩ := s2.sl
  obtain ⟨p3, q3, r3, rfl⟩ := s3.sl
  obtain ⟨p4, q4, r4, rfl⟩ := s4.sl
  obtain ⟨R2, hR2⟩ : ∃ R2, R2 = w.heap.size := ⟨_, rfl⟩
  obtain ⟨R3, hR3⟩ : ∃ R3, R3 = w.heap.size + 1 := ⟨_, rfl⟩
  obtain ⟨R4, hR4⟩ : ∃ R4, R4 = w.heap.size + 1 + 1 := ⟨_, rfl⟩
  have hM : MF w R2 R3 R4 false false (.slice p1 q1 r1) (.slice p2 q2 r2) (.slice p3 q3 r3) (.slice p4 q4 r4) A B C D (((w.alloc (.cells #[.bool false, .slice p1 q1 r1, .slice p2 q2 r2] 66)).alloc (.cells #[.bool false, .slice p3 q3 r3, .slice p4 q4 r4] 66)).alloc (.cells #[.bool false, .slice none 0 0, .slice none 0 0] 66)) := by
    have hb : Below w.heap.size w (((w.alloc (.cells #[.bool false, .slice p1 q1 r1, .slice p2 q2 r2] 66)).alloc (.cells #[.bool false, .slice p3 q3 r3, .slice p4 q4 r4] 66)).alloc (.cells #[.bool false, .slice none 0 0, .slice none 0 0] 66)) := bt self2 self1
    refine ⟨hb, by omega, ?_, ?_, ?_, ?_, ?_, ?_, by omega, by omega, ⟨false, ?_⟩, ⟨none, 0, 0, ?_⟩, ⟨none, 0, 0, ?_⟩, ?_, ?_, ?_, s1.call hb, s2.call hb, s3.call hb, s4.call hb⟩ <;> simp [go_sem, hR2, hR3, hR4]
  have hbm : ∀ {X Y : Nat}, bl X ≤ 300000 → bl Y ≤ 300000 → bl (X * Y) ≤ 600000 := fun {X Y} h k => by have := bl_mul X Y; omega
  have M1 : Hid (∀ w', MF w R2 R3 R4 false false (.slice p1 q1 r1) (.slice p2 q2 r2) (.slice p3 q3 r3) (.slice p4 q4 r4) A B C D w' → Calls Oafg.prog 91 #[.slice p1 q1 r1, .slice p4 q4 r4] w' fun e w2 => (∃ v, e = .returned v ∧ NatV w2 v (A * D)) ∧ Below w'.heap.size w' w2) := fun w' h => mul_nat h.n1 h.n4 (by omega) (by omega)
  have M2 : Hid (∀ w', MF w R2 R3 R4 false false (.slice p1 q1 r1) (.slice p2 q2 r2) (.slice p3 q3 r3) (.slice p4 q4 r4) A B C D w' → Calls Oafg.prog 91 #[.slice p3 q3 r3, .slice p2 q2 r2] w' fun e w2 => (∃ v, e = .returned v ∧ NatV w2 v (C * B)) ∧ Below w'.heap.size w' w2) := fun w' h => mul_nat h.n3 h.n2 (by omega) (by omega)
  have M3 : Hid (∀ w', MF w R2 R3 R4 false false (.slice p1 q1 r1) (.slice p2 q2 r2) (.slice p3 q3 r3) (.slice p4 q4 r4) A B C D w' → Calls Oafg.prog 91 #[.slice p2 q2 r2, .slice p4 q4 r4] w' fun e w2 => (∃ v, e = .returned v ∧ NatV w2 v (B * D)) ∧ Below w'.heap.size w' w2) := fun w' h => mul_nat h.n2 h.n4 (by omega) (by omega)
  have e1 := hbm b1 b4
  have e2 := hbm b3 b2
  have HR : Hid (R2 = w.heap.size ∧ R3 = w.heap.size + 1 ∧ R4 = w.heap.size + 1 + 1) := ⟨hR2, hR3, hR4⟩
  have HM : Hid _ := hM
  clear hM hR2 hR3 hR4 s1 s2 s3 s4 hbm
  go_enter Oafg.func152, Oafg.ntmps152
  go_upto_region 1 with fail
  generalize hW : (((w.alloc (.cells #[.bool false, .slice p1 q1 r1, .slice p2 q2 r2] 66)).alloc (.cells #[.bool false, .slice p3 q3 r3, .slice p4 q4 r4] 66)).alloc (.cells #[.bool false, .slice none 0 0, .slice none 0 0] 66)) = W at HM ⊢
  simp only [← HR.out.2.2]
  simp only [← HR.out.2.1]
  simp only [← HR.out.1]
  clear hW
  go_cut [5, 6] (fun t5 t6 w' => ∃ x1 x2 x3 y1 y2 y3, t5 = .slice x1 x2 x3 ∧ t6 = .slice y1 y2 y3 ∧ Hid (SF w R2 R3 R4 false false (.slice p1 q1 r1) (.slice p2 q2 r2) (.slice p3 q3 r3) (.slice p4 q4 r4) (.slice x1 x2 x3) (.slice y1 y2 y3) A B C D w'))
  case first =>
    have hS0 : MF w R2 R3 R4 false false (.slice p1 q1 r1) (.slice p2 q2 r2) (.slice p3 q3 r3) (.slice p4 q4 r4) A B C D W := HM.out
    have g1 : ∀ w', MF w R2 R3 R4 false false (.slice p1 q1 r1) (.slice p2 q2 r2) (.slice p3 q3 r3) (.slice p4 q4 r4) A B C D w' → w'.cell? ⟨R2, 1, none⟩ = some (.slice p1 q1 r1) := fun _ h => h.x1
    have g2 : ∀ w', MF w R2 R3 R4 false false (.slice p1 q1 r1) (.slice p2 q2 r2) (.slice p3 q3 r3) (.slice p4 q4 r4) A B C D w' → w'.cell? ⟨R2, 2, none⟩ = some (.slice p2 q2 r2) := fun _ h => h.x2
    have g4 : ∀ w', MF w R2 R3 R4 false false (.slice p1 q1 r1) (.slice p2 q2 r2) (.slice p3 q3 r3) (.slice p4 q4 r4) A B C D w' → w'.cell? ⟨R3, 1, none⟩ = some (.slice p3 q3 r3) := fun _ h => h.y1
    have g5 : ∀ w', MF w R2 R3 R4 false false (.slice p1 q1 r1) (.slice p2 q2 r2) (.slice p3 q3 r3) (.slice p4 q4 r4) A B C D w' → w'.cell? ⟨R3, 2, none⟩ = some (.slice p4 q4 r4) := fun _ h => h.y2
    go_region_held3 (fun w' => MF w R2 R3 R4 false false (.slice p1 q1 r1) (.slice p2 q2 r2) (.slice p3 q3 r3) (.slice p4 q4 r4) A B C D w')
      (repeat' (first | with_reducible exact hSu | with_reducible exact hS0 | with_reducible apply MF.drew))
      (first
        | (go_at_call_of 91 (Value.slice p1 q1 r1); refine (M1.out _ (by assumption)).mono ?_; rintro e w2 ⟨⟨u1, rfl, hN1⟩, hbu1⟩; obtain ⟨x1, y1, z1, rfl⟩ := hN1.sl; have hSu := MF.call (by assumption) hbu1; have HN1 : Hid _ := hN1; have HB1 : Hid _ := hbu1; clear hN1 hbu1)
        | (go_at_call_of 91 (Value.slice p3 q3 r3); refine (M2.out _ (by assumption)).mono ?_; rintro e w3 ⟨⟨u2, rfl, hN2⟩, hbu2⟩; obtain ⟨x2, y2, z2, rfl⟩ := hN2.sl; have hSu := MF.call (by assumption) hbu2; have HN2 : Hid _ := hN2; have HB2 : Hid _ := hbu2; clear hN2 hbu2))
    all_goals
      rename_i hH
      go_wp2_with fail
      go_meet
      case rel =>
        refine ⟨_, _, _, _, _, _, rfl, rfl, ⟨hH, ?_, ?_⟩⟩
        · first | exact HN1.out.call HB2.out | exact HN1.out
        · first | exact HN2.out.call HB1.out | exact HN2.out
  case rest =>
    obtain ⟨x1, x2, x3, y1, y2, y3, rfl, rfl, hS⟩ := hcut
    clear HM M1 M2
    go_upto_region 2 with fail
    go_cut [7] (fun t7 w' => ∃ R7 d1 d2 d3, t7 = .pointer (some ⟨R7, 0, none⟩) ∧ Hid (SG w R2 R3 R4 R7 false false false (.slice p1 q1 r1) (.slice p2 q2 r2) (.slice p3 q3 r3) (.slice p4 q4 r4) (.slice x1 x2 x3) (.slice y1 y2 y3) (.slice d1 d2 d3) A B C D w'))
    case first =>
      have hS0 : SF w R2 R3 R4 false false (.slice p1 q1 r1) (.slice p2 q2 r2) (.slice p3 q3 r3) (.slice p4 q4 r4) (.slice x1 x2 x3) (.slice y1 y2 y3) A B C D wc := hS.out
      have hFr := hS.out.fresh
      have g0 : ∀ w', SF w R2 R3 R4 false false (.slice p1 q1 r1) (.slice p2 q2 r2) (.slice p3 q3 r3) (.slice p4 q4 r4) (.slice x1 x2 x3) (.slice y1 y2 y3) A B C D w' → w'.cell? ⟨R2, 0, none⟩ = some (.bool false) := fun _ h => h.mf.x0
      have g2 : ∀ w', SF w R2 R3 R4 false false (.slice p1 q1 r1) (.slice p2 q2 r2) (.slice p3 q3 r3) (.slice p4 q4 r4) (.slice x1 x2 x3) (.slice y1 y2 y3) A B C D w' → w'.cell? ⟨R2, 2, none⟩ = some (.slice p2 q2 r2) := fun _ h => h.mf.x2
      have g5 : ∀ w', SF w R2 R3 R4 false false (.slice p1 q1 r1) (.slice p2 q2 r2) (.slice p3 q3 r3) (.slice p4 q4 r4) (.slice x1 x2 x3) (.slice y1 y2 y3) A B C D w' → w'.cell? ⟨R3, 2, none⟩ = some (.slice p4 q4 r4) := fun _ h => h.mf.y2
      go_region_held3 (fun w' => SF w R2 R3 R4 false false (.slice p1 q1 r1) (.slice p2 q2 r2) (.slice p3 q3 r3) (.slice p4 q4 r4) (.slice x1 x2 x3) (.slice y1 y2 y3) A B C D w')
        (repeat' (first | with_reducible exact hSu | with_reducible exact hS0 | with_reducible apply SF.drew | with_reducible apply SF.alloc | with_reducible exact SF.put (by assumption) hFr hBss _ _ _))
        ((go_at_call 91; refine (M3.out _ (SF.mf (by assumption))).mono ?_; rintro e w2 ⟨⟨u1, rfl, hN1⟩, hbu1⟩; obtain ⟨d1, d2, d3, rfl⟩ := hN1.sl; have hSu := SF.call (by assumption) hbu1; have HN1 : Hid _ := hN1; have HB1 : Hid _ := hbu1; obtain ⟨hc1, hf1⟩ := bcell hbu1; (first | (have hBss := bss_kept hbu1) | skip); clear hN1 hbu1))
      all_goals
        go_wp2_with fail
        go_meet
        case rel =>
          first
            | exact ⟨_, _, _, _, rfl, SG.newA hSu HN1.out⟩
            | exact ⟨_, _, _, _, rfl, SG.newB hSu hFr hBss HN1.out⟩
    case rest =>
      obtain ⟨R7, d1, d2, d3, rfl, hG⟩ := hcut
      clear hS M3
      have c0 := hG.out.sf.mf.x0
      have c1 := hG.out.sf.mf.y0
      have hNv := HNN.out
      have HAD : Hid (Unit → Calls Oafg.prog 192 #[.slice x1 x2 x3, .slice y1 y2 y3] wc fun e w' => (∃ v, e = .returned v ∧ NatV w' v N) ∧ Below wc.heap.size wc w') := fun _ => by rw [hNv]; exact add_nat hG.out.sf.nx hG.out.sf.ny (by omega) (by omega)
      have hc7 := hG.out.c1
      obtain ⟨i7, j7, k7, hc7⟩ := hc7
      have hf7 := hG.out.f1
      clear hNv HNN
      go_upto_region 9 with (go_at_call 192; refine (HAD.out ()).mono ?_; rintro e w5 ⟨⟨v, rfl, hN5⟩, hb5⟩; obtain ⟨v1, v2, v3, rfl⟩ := hN5.sl; have HN5 : Hid _ := hN5; have HG5 : Hid _ := hG.out.call hb5; obtain ⟨i8, j8, k8, hc8⟩ := HG5.out.c1; have hf8 := HG5.out.f1; clear hN5 hb5)
      have HH : Hid _ := HG5.out.num HN5.out
      generalize hW7 : w5.setCell ⟨R7, 1, none⟩ (.slice v1 v2 v3) = W7 at *
      have t0 := HH.out.c0
      have t1 := HH.out.c1
      have t2 := HH.out.c2
      have t3 := HH.out.r.f0
      have t4 := HH.out.r.f1
      have t5 := HH.out.r.f2
      obtain ⟨ob, t6⟩ := HH.out.r.c0
      obtain ⟨op, oq, or', t7⟩ := HH.out.r.c1
      obtain ⟨oi, oj, ok, t8⟩ := HH.out.r.c2
      clear hW7 HG5 HN5
      go_wp2
      obtain ⟨y0, y1, y2⟩ := set3_own HH.out.r (.bool false) (.slice v1 v2 v3) (.slice d1 d2 d3)
      have hB := below_set3 (.bool false) (.slice v1 v2 v3) (.slice d1 d2 d3) HH.out.below HH.out.old
      have hV := HH.out.nv.setBS (.bool false) (.slice v1 v2 v3) (.slice d1 d2 d3) HH.out.r.c0 HH.out.r.c1 HH.out.r.c2
      have hD := HH.out.nd.setBS (.bool false) (.slice v1 v2 v3) (.slice d1 d2 d3) HH.out.r.c0 HH.out.r.c1 HH.out.r.c2
      generalize ((W7.setCell ⟨R4, 0, none⟩ (.bool false)).setCell ⟨R4, 1, none⟩ (.slice v1 v2 v3)).setCell ⟨R4, 2, none⟩ (.slice d1 d2 d3) = W8 at *
      exact bodyPost_ret (v := .agg #[.bool false, .slice v1 v2 v3, .slice d1 d2 d3]) (by simp [results, Oafg.results152, go_sem, y0, y1, y2]) rfl ⟨⟨_, _, rfl, hV, hD⟩, hB⟩
end Go.Proofs.Ygcoaf
