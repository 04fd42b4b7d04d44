/-
  law.cmpFrac.
-/
import Derived.Test.YgcoafL14
namespace Go.Proofs.Ygcoaf
open Go.RowKit Go.Proofs.Ygcoaf.M

/-- the two fractions -/
structure CF (w : World) (R2 R3 : Nat) (a1 a2 c1 c2 : Value) (A B C D : Nat) (w' : World) : Prop where
  below : Below w.heap.size w w'
  x0 : w'.cell? ⟨R2, 0, none⟩ = some (.bool false)
  x1 : w'.cell? ⟨R2, 1, none⟩ = some a1
  x2 : w'.cell? ⟨R2, 2, none⟩ = some a2
  y0 : w'.cell? ⟨R3, 0, none⟩ = some (.bool false)
  y1 : w'.cell? ⟨R3, 1, none⟩ = some c1
  y2 : w'.cell? ⟨R3, 2, none⟩ = some c2
  n1 : NatV w' a1 A
  n2 : NatV w' a2 B
  n3 : NatV w' c1 C
  n4 : NatV w' c2 D
theorem CF.call {w W w' : World} {R2 R3 : Nat} {a1 a2 c1 c2 : Value} {A B C D : Nat} (s : CF w R2 R3 a1 a2 c1 c2 A B C D W) (h : Below W.heap.size W w') : CF w R2 R3 a1 a2 c1 c2 A B C D w' := by
  have l2 : R2 < W.heap.size := World.block_lt_of_cell? _ _ s.x0
  have l3 : R3 < W.heap.size := World.block_lt_of_cell? _ _ s.y0
  obtain ⟨hc, hf⟩ := bcell h
  exact ⟨bt s.below h, by rw [hc _ _ l2]; exact s.x0, by rw [hc _ _ l2]; exact s.x1, by rw [hc _ _ l2]; exact s.x2, by rw [hc _ _ l3]; exact s.y0, by rw [hc _ _ l3]; exact s.y1, by rw [hc _ _ l3]; exact s.y2, s.n1.call h, s.n2.call h, s.n3.call h, s.n4.call h⟩
theorem CF.drew {w W : World} {R2 R3 : Nat} {a1 a2 c1 c2 : Value} {A B C D : Nat} (s : CF w R2 R3 a1 a2 c1 c2 A B C D W) : CF w R2 R3 a1 a2 c1 c2 A B C D W.drew := s.call ((Below.refl _ _).drew)
theorem CF.alloc {w W : World} {R2 R3 : Nat} {a1 a2 c1 c2 : Value} {A B C D : Nat} {o : Obj} (s : CF w R2 R3 a1 a2 c1 c2 A B C D W) : CF w R2 R3 a1 a2 c1 c2 A B C D (W.alloc o) := s.call self1
theorem CF.fresh {w W : World} {R2 R3 : Nat} {a1 a2 c1 c2 : Value} {A B C D : Nat} (s : CF w R2 R3 a1 a2 c1 c2 A B C D W) : (W.heap.size ≠ R2 ∧ W.heap.size ≠ R3) ∧ w.heap.size ≤ W.heap.size := by
  have l2 := World.block_lt_of_cell? _ _ s.x0
  have l3 := World.block_lt_of_cell? _ _ s.y0
  simp only at l2 l3
  exact ⟨⟨by omega, by omega⟩, s.below.size⟩
theorem CF.put {w W : World} {R2 R3 : Nat} {a1 a2 c1 c2 : Value} {A B C D : Nat} (s : CF w R2 R3 a1 a2 c1 c2 A B C D W) {P : Nat} (hP : (P ≠ R2 ∧ P ≠ R3) ∧ w.heap.size ≤ P) (k : Bss W P) (u0 u1 u2 : Value) :
    CF w R2 R3 a1 a2 c1 c2 A B C D (((W.setCell ⟨P, 0, none⟩ u0).setCell ⟨P, 1, none⟩ u1).setCell ⟨P, 2, none⟩ u2) := by
  obtain ⟨⟨p2, p3⟩, po⟩ := hP
  exact ⟨below_set3 _ _ _ s.below po, by rw [set3_far p2]; exact s.x0, by rw [set3_far p2]; exact s.x1, by rw [set3_far p2]; exact s.x2, by rw [set3_far p3]; exact s.y0, by rw [set3_far p3]; exact s.y1, by rw [set3_far p3]; exact s.y2, s.n1.setBS _ _ _ k.c0 k.c1 k.c2, s.n2.setBS _ _ _ k.c0 k.c1 k.c2, s.n3.setBS _ _ _ k.c0 k.c1 k.c2, s.n4.setBS _ _ _ k.c0 k.c1 k.c2⟩
theorem Bss.call {w w' : World} {P : Nat} (k : Bss w P) (h : Below w.heap.size w w') : Bss w' P := by
  obtain ⟨b, e0⟩ := k.c0
  obtain ⟨p1, q1, r1, e1⟩ := k.c1
  obtain ⟨p2, q2, r2, e2⟩ := k.c2
  have l := World.block_lt_of_cell? _ _ e0
  obtain ⟨hc, hf⟩ := bcell h
  exact ⟨⟨b, by rw [hc _ _ l]; exact e0⟩, ⟨_, _, _, by rw [hc _ _ l]; exact e1⟩, ⟨_, _, _, by rw [hc _ _ l]; exact e2⟩, by rw [hf _ _ l]; exact k.f0, by rw [hf _ _ l]; exact k.f1, by rw [hf _ _ l]; exact k.f2⟩
theorem bss_kept0 {w w3 : World} (h : Below (w.alloc (.cells #[.bool false, .slice none 0 0, .slice none 0 0] 66)).heap.size (w.alloc (.cells #[.bool false, .slice none 0 0, .slice none 0 0] 66)) w3) : Bss w3 w.heap.size := by
  obtain ⟨⟨k0, k1, k2⟩, k3, k4, k5⟩ := kept3 h
  exact ⟨⟨_, k0⟩, ⟨_, _, _, k1⟩, ⟨_, _, _, k2⟩, k3, k4, k5⟩

theorem cmp_newA {w W : World} {n : Bool} {i1 i2 : Option Addr} {j1 k1 j2 k2 N : Nat} (hV : NatV W (.slice i1 j1 k1) N) (hB : Below w.heap.size w (W.alloc (.cells #[.bool n, .slice i1 j1 k1, .slice i2 j2 k2] 66))) :
    Hid ((W.alloc (.cells #[.bool n, .slice i1 j1 k1, .slice i2 j2 k2] 66)).cell? ⟨W.heap.size, 0, none⟩ = some (.bool n) ∧ (W.alloc (.cells #[.bool n, .slice i1 j1 k1, .slice i2 j2 k2] 66)).cell? ⟨W.heap.size, 1, none⟩ = some (.slice i1 j1 k1) ∧ NatV (W.alloc (.cells #[.bool n, .slice i1 j1 k1, .slice i2 j2 k2] 66)) (.slice i1 j1 k1) N ∧ Below w.heap.size w (W.alloc (.cells #[.bool n, .slice i1 j1 k1, .slice i2 j2 k2] 66))) :=
  ⟨by simp [go_sem], by simp [go_sem], hV.call self1, hB⟩
theorem cmp_newB {w W : World} {P : Nat} {n : Bool} {i1 i2 : Option Addr} {j1 k1 j2 k2 N : Nat} (k : Bss W P) (hV : NatV W (.slice i1 j1 k1) N) (hB : Below w.heap.size w (((W.setCell ⟨P, 0, none⟩ (.bool n)).setCell ⟨P, 1, none⟩ (.slice i1 j1 k1)).setCell ⟨P, 2, none⟩ (.slice i2 j2 k2))) :
    Hid ((((W.setCell ⟨P, 0, none⟩ (.bool n)).setCell ⟨P, 1, none⟩ (.slice i1 j1 k1)).setCell ⟨P, 2, none⟩ (.slice i2 j2 k2)).cell? ⟨P, 0, none⟩ = some (.bool n) ∧ (((W.setCell ⟨P, 0, none⟩ (.bool n)).setCell ⟨P, 1, none⟩ (.slice i1 j1 k1)).setCell ⟨P, 2, none⟩ (.slice i2 j2 k2)).cell? ⟨P, 1, none⟩ = some (.slice i1 j1 k1) ∧ NatV (((W.setCell ⟨P, 0, none⟩ (.bool n)).setCell ⟨P, 1, none⟩ (.slice i1 j1 k1)).setCell ⟨P, 2, none⟩ (.slice i2 j2 k2)) (.slice i1 j1 k1) N ∧ Below w.heap.size w (((W.setCell ⟨P, 0, none⟩ (.bool n)).setCell ⟨P, 1, none⟩ (.slice i1 j1 k1)).setCell ⟨P, 2, none⟩ (.slice i2 j2 k2))) := by
  obtain ⟨y0, y1, _⟩ := set3_own k (.bool n) (.slice i1 j1 k1) (.slice i2 j2 k2)
  exact ⟨y0, y1, hV.setBS _ _ _ k.c0 k.c1 k.c2, hB⟩
theorem NatV.len {w : World} {ad : Option Addr} {l c N : Nat} (s : NatV w (.slice ad l c) N) : l = 0 ↔ N = 0 := by
  constructor
  · intro h
    obtain ⟨_, e⟩ | ⟨b, off, cap, xs, h1, h2, h3, h4, h5⟩ := s.out
    · exact e
    · injection h1 with _ h8 _
      exfalso
      exact h4 (List.length_eq_zero_iff.1 (by omega))
  · intro h
    subst h
    have := s.zero
    injection this

/-- the order of two fractions, as far as whether they are equal -/
structure CmpP (A B C D : Nat) (e : Ending) : Prop where
  out : ∃ c : Int, e = .returned (.int .i8 c) ∧ -1 ≤ c ∧ c ≤ 1 ∧ (c = 0 ↔ A * D = C * B)

set_option maxRecDepth 8000 in
set_option maxHeartbeats 4000000 in
/-- law.cmpFrac of two that are not negative -/
theorem cmpFrac_nat {w : World} {a1 a2 c1 c2 : Value} {A B C D : Nat} (s1 : NatV w a1 A) (s2 : NatV w a2 B) (s3 : NatV w c1 C) (s4 : NatV w c2 D) (b1 : bl A ≤ 300000) (b2 : bl B ≤ 300000) (b3 : bl C ≤ 300000) (b4 : bl D ≤ 300000) :
    Calls Oafg.prog 144 #[.agg #[.bool false, a1, a2], .agg #[.bool false, c1, c2]] w fun e w' => CmpP A B C D e ∧ Below w.heap.size w w' := by
  obtain ⟨p1, q1, r1, rfl⟩ := s1.sl
  obtain ⟨p2, q2, r2, rfl⟩ := s2.sl
  obtain ⟨p3, q3, r3, rfl⟩ := s3.sl
  obtain ⟨p4, q4, r4, rfl⟩ := s4.sl
  obtain ⟨R2, hR2⟩ : ∃ R2, R2 = w.heap.size := ⟨_, rfl⟩
  obtain ⟨R3, hR3⟩ : ∃ R3, R3 = w.heap.size + 1 := ⟨_, rfl⟩
  have hM : CF w R2 R3 (.slice p1 q1 r1) (.slice p2 q2 r2) (.slice p3 q3 r3) (.slice p4 q4 r4) A B C D ((w.alloc (.cells #[.bool false, .slice p1 q1 r1, .slice p2 q2 r2] 66)).alloc (.cells #[.bool false, .slice p3 q3 r3, .slice p4 q4 r4] 66)) := by
    refine ⟨self2, ?_, ?_, ?_, ?_, ?_, ?_, s1.call self2, s2.call self2, s3.call self2, s4.call self2⟩ <;> simp [go_sem, hR2, hR3]
  obtain ⟨N, hNN⟩ : ∃ N, N = (if C * B ≤ A * D then A * D - C * B else C * B - A * D) := ⟨_, rfl⟩
  have N1 : Hid (∀ w', CF w R2 R3 (.slice p1 q1 r1) (.slice p2 q2 r2) (.slice p3 q3 r3) (.slice p4 q4 r4) A B C D w' → Calls Oafg.prog 187 #[.agg #[.bool false, .slice p3 q3 r3, .slice p4 q4 r4]] w' fun e w2 => e = .returned (.agg #[.bool true, .slice p3 q3 r3, .slice p4 q4 r4]) ∧ Below w'.heap.size w' w2) := fun w' h => negFrac_nat false h.n3 h.n4
  have N2 : Hid (∀ w', CF w R2 R3 (.slice p1 q1 r1) (.slice p2 q2 r2) (.slice p3 q3 r3) (.slice p4 q4 r4) A B C D w' → Calls Oafg.prog 152 #[.agg #[.bool false, .slice p1 q1 r1, .slice p2 q2 r2], .agg #[.bool true, .slice p3 q3 r3, .slice p4 q4 r4]] w' fun e w2 => FracP N (B * D) e w2 ∧ Below w'.heap.size w' w2) := fun w' h => by
    have := sumFrac_nat false true h.n1 h.n2 h.n3 h.n4 b1 b2 b3 b4
    rw [if_neg (by decide), ← hNN] at this
    exact this
  have HNZ : Hid (N = 0 ↔ A * D = C * B) := by
    show _ ↔ _
    rw [hNN]; split <;> omega
  have HR : Hid (R2 = w.heap.size ∧ R3 = w.heap.size + 1) := ⟨hR2, hR3⟩
  have HM : Hid _ := hM
  clear hM hR2 hR3 s1 s2 s3 s4 hNN
  go_enter Oafg.func144, Oafg.ntmps144
  go_upto_region 1 with fail
  generalize hW : ((w.alloc (.cells #[.bool false, .slice p1 q1 r1, .slice p2 q2 r2] 66)).alloc (.cells #[.bool false, .slice p3 q3 r3, .slice p4 q4 r4] 66)) = W at HM ⊢
  simp only [← HR.out.2]
  simp only [← HR.out.1]
  clear hW
  go_cut [5] (fun t5 w' => ∃ R5 n v1 v2 v3, t5 = .pointer (some ⟨R5, 0, none⟩) ∧ Hid (w'.cell? ⟨R5, 0, none⟩ = some (.bool n) ∧ w'.cell? ⟨R5, 1, none⟩ = some (.slice v1 v2 v3) ∧ NatV w' (.slice v1 v2 v3) N ∧ Below w.heap.size w w'))
  case first =>
    have hS0 : CF w R2 R3 (.slice p1 q1 r1) (.slice p2 q2 r2) (.slice p3 q3 r3) (.slice p4 q4 r4) A B C D W := HM.out
    have hFr := HM.out.fresh
    have g0 : ∀ w', CF w R2 R3 (.slice p1 q1 r1) (.slice p2 q2 r2) (.slice p3 q3 r3) (.slice p4 q4 r4) A B C D w' → w'.cell? ⟨R2, 0, none⟩ = some (.bool false) := fun _ h => h.x0
    have g1 : ∀ w', CF w R2 R3 (.slice p1 q1 r1) (.slice p2 q2 r2) (.slice p3 q3 r3) (.slice p4 q4 r4) A B C D w' → w'.cell? ⟨R2, 1, none⟩ = some (.slice p1 q1 r1) := fun _ h => h.x1
    have g2 : ∀ w', CF w R2 R3 (.slice p1 q1 r1) (.slice p2 q2 r2) (.slice p3 q3 r3) (.slice p4 q4 r4) A B C D w' → w'.cell? ⟨R2, 2, none⟩ = some (.slice p2 q2 r2) := fun _ h => h.x2
    have g3 : ∀ w', CF w R2 R3 (.slice p1 q1 r1) (.slice p2 q2 r2) (.slice p3 q3 r3) (.slice p4 q4 r4) A B C D w' → w'.cell? ⟨R3, 0, none⟩ = some (.bool false) := fun _ h => h.y0
    have g4 : ∀ w', CF w R2 R3 (.slice p1 q1 r1) (.slice p2 q2 r2) (.slice p3 q3 r3) (.slice p4 q4 r4) A B C D w' → w'.cell? ⟨R3, 1, none⟩ = some (.slice p3 q3 r3) := fun _ h => h.y1
    have g5 : ∀ w', CF w R2 R3 (.slice p1 q1 r1) (.slice p2 q2 r2) (.slice p3 q3 r3) (.slice p4 q4 r4) A B C D w' → w'.cell? ⟨R3, 2, none⟩ = some (.slice p4 q4 r4) := fun _ h => h.y2
    go_region_held3 (fun w' => CF w R2 R3 (.slice p1 q1 r1) (.slice p2 q2 r2) (.slice p3 q3 r3) (.slice p4 q4 r4) A B C D w')
      (repeat' (first | with_reducible exact hSu | with_reducible exact hSv | with_reducible exact hS0 | with_reducible apply CF.drew | with_reducible apply CF.alloc | with_reducible exact CF.put (by assumption) hFr hBss2 _ _ _ | with_reducible exact CF.put (by assumption) hFr2 hBss2 _ _ _))
      (first
        | (go_at_call 187; refine (N1.out _ (by assumption)).mono ?_; rintro e w2 ⟨rfl, hbu1⟩; have hSu := CF.call (by assumption) hbu1; obtain ⟨hc1, hf1⟩ := bcell hbu1; (first | (have hBss := bss_kept hbu1) | skip); have hFr2 := hSu.fresh; clear hbu1)
        | (go_at_call 152; refine (N2.out _ (by assumption)).mono ?_; rintro e w3 ⟨hP3, hbu2⟩; obtain ⟨n, v1, v2, rfl, hV, hD⟩ := hP3.out; obtain ⟨i1, j1, k1, rfl⟩ := hV.sl; obtain ⟨i2, j2, k2, rfl⟩ := hD.sl; have hSv := CF.call (by assumption) hbu2; obtain ⟨hc2, hf2⟩ := bcell hbu2; (first | (have hBss2 := hBss.call hbu2) | (have hBss2 := bss_kept0 hbu2) | skip); (first | (obtain ⟨zb, zc0⟩ := hBss2.c0; obtain ⟨za1, za2, za3, zc1⟩ := hBss2.c1; obtain ⟨zb1, zb2, zb3, zc2⟩ := hBss2.c2; have zf0 := hBss2.f0; have zf1 := hBss2.f1; have zf2 := hBss2.f2) | skip); have HV : Hid _ := hV; clear hbu2 hP3 hV hD))
    all_goals
      rename_i hH
      have hHb := CF.below hH
      go_wp2_with fail
      go_meet
      case rel =>
        first
          | exact ⟨_, _, _, _, _, rfl, cmp_newA HV.out hHb⟩
          | exact ⟨_, _, _, _, _, rfl, cmp_newB hBss2 HV.out hHb⟩
  case rest =>
    obtain ⟨R5, n, v1, v2, v3, rfl, hS⟩ := hcut
    have c0 := hS.out.1
    have c1 := hS.out.2.1
    have hlen := hS.out.2.2.1.len
    have HZ : Hid (v2 = 0 ↔ A * D = C * B) := by show _ ↔ _; rw [hlen]; exact HNZ.out
    clear hlen HM N1 N2 HNZ
    by_cases cl : v2 = 0
    · have t0 : ((v2 : Int) == 0) = true := by rw [beq_iff_eq]; omega
      subst cl
      go_wp2
      go_ret
      exact ⟨⟨0, rfl, by decide, by decide, fun _ => HZ.out.1 trivial, fun _ => rfl⟩, hS.out.2.2.2⟩
    · have t0 : ((v2 : Int) == 0) = false := by rw [beq_eq_false_iff_ne]; omega
      cases n
      · go_wp2
        go_ret
        exact ⟨⟨1, rfl, by decide, by decide, fun h => absurd h (by decide), fun h => absurd (HZ.out.2 h) cl⟩, hS.out.2.2.2⟩
      · go_wp2
        go_ret
        exact ⟨⟨-1, rfl, by decide, by decide, fun h => absurd h (by decide), fun h => absurd (HZ.out.2 h) cl⟩, hS.out.2.2.2⟩
end Go.Proofs.Ygcoaf
