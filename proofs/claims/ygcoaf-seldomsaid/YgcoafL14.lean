/-
  law.sumFrac, law.cmpFrac.
-/
import Derived.Test.YgcoafL13
import Derived.Test.YgcoafN20
import Derived.Test.YgcoafL6
namespace Go.Proofs.Ygcoaf
open Go.RowKit Go.Proofs.Ygcoaf.M

/-- what sumFrac holds: the two fractions, the cross products -/
structure SF (w : World) (R2 R3 R4 : Nat) (na nb : Bool) (a1 a2 c1 c2 x y : Value) (A B C D : Nat) (w' : World) : Prop where
  mf : MF w R2 R3 R4 na nb a1 a2 c1 c2 A B C D w'
  nx : NatV w' x (A * D)
  ny : NatV w' y (C * B)
theorem SF.call {w W w' : World} {R2 R3 R4 : Nat} {na nb : Bool} {a1 a2 c1 c2 x y : Value} {A B C D : Nat} (s : SF w R2 R3 R4 na nb a1 a2 c1 c2 x y A B C D W) (h : Below W.heap.size W w') : SF w R2 R3 R4 na nb a1 a2 c1 c2 x y A B C D w' := ⟨s.mf.call h, s.nx.call h, s.ny.call h⟩
theorem SF.drew {w W : World} {R2 R3 R4 : Nat} {na nb : Bool} {a1 a2 c1 c2 x y : Value} {A B C D : Nat} (s : SF w R2 R3 R4 na nb a1 a2 c1 c2 x y A B C D W) : SF w R2 R3 R4 na nb a1 a2 c1 c2 x y A B C D W.drew := s.call ((Below.refl _ _).drew)
theorem SF.alloc {w W : World} {R2 R3 R4 : Nat} {na nb : Bool} {a1 a2 c1 c2 x y : Value} {A B C D : Nat} {o : Obj} (s : SF w R2 R3 R4 na nb a1 a2 c1 c2 x y A B C D W) : SF w R2 R3 R4 na nb a1 a2 c1 c2 x y A B C D (W.alloc o) := s.call self1

/-- a block of three cells, a bool and two slices -/
structure Bss (w : World) (P : Nat) : Prop where
  c0 : ∃ b, w.cell? ⟨P, 0, none⟩ = some (.bool b)
  c1 : ∃ p q r, w.cell? ⟨P, 1, none⟩ = some (.slice p q r)
  c2 : ∃ p q r, w.cell? ⟨P, 2, none⟩ = some (.slice p q r)
  f0 : w.frozen? ⟨P, 0, none⟩ = false
  f1 : w.frozen? ⟨P, 1, none⟩ = false
  f2 : w.frozen? ⟨P, 2, none⟩ = false
theorem set3_own {w : World} {P : Nat} (k : Bss w P) (u0 u1 u2 : Value) : (((w.setCell ⟨P, 0, none⟩ u0).setCell ⟨P, 1, none⟩ u1).setCell ⟨P, 2, none⟩ u2).cell? ⟨P, 0, none⟩ = some u0 ∧ (((w.setCell ⟨P, 0, none⟩ u0).setCell ⟨P, 1, none⟩ u1).setCell ⟨P, 2, none⟩ u2).cell? ⟨P, 1, none⟩ = some u1 ∧ (((w.setCell ⟨P, 0, none⟩ u0).setCell ⟨P, 1, none⟩ u1).setCell ⟨P, 2, none⟩ u2).cell? ⟨P, 2, none⟩ = some u2 := by
  obtain ⟨b, e0⟩ := k.c0
  obtain ⟨_, _, _, e1⟩ := k.c1
  obtain ⟨q1, q2, q3, e2⟩ := k.c2
  obtain ⟨y0, y1⟩ := set2_cells (u0 := u0) (u1 := u1) e0 e1
  have y2 : ((w.setCell ⟨P, 0, none⟩ u0).setCell ⟨P, 1, none⟩ u1).cell? ⟨P, 2, none⟩ = some (.slice q1 q2 q3) := by
    rw [World.cell?_setCell_other _ _ _ _ (fun h => absurd (congrArg Addr.off h) (by show ¬ ((1 : Nat) = 2); decide)), World.cell?_setCell_other _ _ _ _ (fun h => absurd (congrArg Addr.off h) (by show ¬ ((0 : Nat) = 2); decide))]; exact e2
  refine ⟨?_, ?_, World.cell?_setCell_same _ _ _ y2⟩
  · rw [World.cell?_setCell_other _ _ _ _ (fun h => absurd (congrArg Addr.off h) (by show ¬ ((2 : Nat) = 0); decide))]; exact y0
  · rw [World.cell?_setCell_other _ _ _ _ (fun h => absurd (congrArg Addr.off h) (by show ¬ ((2 : Nat) = 1); decide))]; exact y1
theorem set3_far {w : World} {P R : Nat} (h : P ≠ R) (u0 u1 u2 : Value) (o : Nat) : (((w.setCell ⟨P, 0, none⟩ u0).setCell ⟨P, 1, none⟩ u1).setCell ⟨P, 2, none⟩ u2).cell? ⟨R, o, none⟩ = w.cell? ⟨R, o, none⟩ := by
  rw [World.cell?_setCell_far _ _ _ _ h, World.cell?_setCell_far _ _ _ _ h, World.cell?_setCell_far _ _ _ _ h]
theorem SF.put {w W : World} {R2 R3 R4 : Nat} {na nb : Bool} {a1 a2 c1 c2 x y : Value} {A B C D : Nat} (s : SF w R2 R3 R4 na nb a1 a2 c1 c2 x y A B C D W) {P : Nat} (hP : (P ≠ R2 ∧ P ≠ R3 ∧ P ≠ R4) ∧ w.heap.size ≤ P) (k : Bss W P) (u0 u1 u2 : Value) :
    SF w R2 R3 R4 na nb a1 a2 c1 c2 x y A B C D (((W.setCell ⟨P, 0, none⟩ u0).setCell ⟨P, 1, none⟩ u1).setCell ⟨P, 2, none⟩ u2) := by
  obtain ⟨⟨p2, p3, p4⟩, po⟩ := hP
  have m := s.mf
  obtain ⟨b, e0⟩ := m.z0
  obtain ⟨i1, j1, k1, e1⟩ := m.z1
  obtain ⟨i2, j2, k2, e2⟩ := m.z2
  refine ⟨⟨below_set3 _ _ _ m.below po, m.old, ?_, ?_, ?_, ?_, ?_, ?_, m.far2, m.far3, ⟨b, ?_⟩, ⟨i1, j1, k1, ?_⟩, ⟨i2, j2, k2, ?_⟩, ?_, ?_, ?_, ?_, ?_, ?_, ?_⟩, s.nx.setBS _ _ _ k.c0 k.c1 k.c2, s.ny.setBS _ _ _ k.c0 k.c1 k.c2⟩
  · rw [set3_far p2]; exact m.x0
  · rw [set3_far p2]; exact m.x1
  · rw [set3_far p2]; exact m.x2
  · rw [set3_far p3]; exact m.y0
  · rw [set3_far p3]; exact m.y1
  · rw [set3_far p3]; exact m.y2
  · rw [set3_far p4]; exact e0
  · rw [set3_far p4]; exact e1
  · rw [set3_far p4]; exact e2
  · rw [World.frozen?_setCell, World.frozen?_setCell, World.frozen?_setCell]; exact m.f0
  · rw [World.frozen?_setCell, World.frozen?_setCell, World.frozen?_setCell]; exact m.f1
  · rw [World.frozen?_setCell, World.frozen?_setCell, World.frozen?_setCell]; exact m.f2
  · exact m.n1.setBS _ _ _ k.c0 k.c1 k.c2
  · exact m.n2.setBS _ _ _ k.c0 k.c1 k.c2
  · exact m.n3.setBS _ _ _ k.c0 k.c1 k.c2
  · exact m.n4.setBS _ _ _ k.c0 k.c1 k.c2
theorem SF.fresh {w W : World} {R2 R3 R4 : Nat} {na nb : Bool} {a1 a2 c1 c2 x y : Value} {A B C D : Nat} (s : SF w R2 R3 R4 na nb a1 a2 c1 c2 x y A B C D W) : (W.heap.size ≠ R2 ∧ W.heap.size ≠ R3 ∧ W.heap.size ≠ R4) ∧ w.heap.size ≤ W.heap.size := by
  obtain ⟨b, e0⟩ := s.mf.z0
  have l2 := World.block_lt_of_cell? _ _ s.mf.x0
  have l3 := World.block_lt_of_cell? _ _ s.mf.y0
  have l4 := World.block_lt_of_cell? _ _ e0
  simp only at l2 l3 l4
  exact ⟨⟨by omega, by omega, by omega⟩, s.mf.below.size⟩
theorem bss_kept {w w3 : World} (h : Below ((w.alloc (.cells #[.bool false, .slice none 0 0, .slice none 0 0] 66)).drew).heap.size ((w.alloc (.cells #[.bool false, .slice none 0 0, .slice none 0 0] 66)).drew) w3) : Bss w3 w.heap.size := by
  obtain ⟨⟨k0, k1, k2⟩, k3, k4, k5⟩ := kept3 (bt ((Below.refl _ _).drew) h)
  exact ⟨⟨_, k0⟩, ⟨_, _, _, k1⟩, ⟨_, _, _, k2⟩, k3, k4, k5⟩

/-- .. and the sum in the making -/
structure SG (w : World) (R2 R3 R4 R7 : Nat) (na nb n : Bool) (a1 a2 c1 c2 x y d : Value) (A B C D : Nat) (w' : World) : Prop where
  sf : SF w R2 R3 R4 na nb a1 a2 c1 c2 x y A B C D w'
  nd : NatV w' d (B * D)
  c0 : w'.cell? ⟨R7, 0, none⟩ = some (.bool n)
  c1 : ∃ p q r, w'.cell? ⟨R7, 1, none⟩ = some (.slice p q r)
  c2 : w'.cell? ⟨R7, 2, none⟩ = some d
  f0 : w'.frozen? ⟨R7, 0, none⟩ = false
  f1 : w'.frozen? ⟨R7, 1, none⟩ = false
  f2 : w'.frozen? ⟨R7, 2, none⟩ = false
  ne : R7 ≠ R2 ∧ R7 ≠ R3 ∧ R7 ≠ R4
  old : w.heap.size ≤ R7
theorem SG.call {w W w' : World} {R2 R3 R4 R7 : Nat} {na nb n : Bool} {a1 a2 c1 c2 x y d : Value} {A B C D : Nat} (s : SG w R2 R3 R4 R7 na nb n a1 a2 c1 c2 x y d A B C D W) (h : Below W.heap.size W w') : SG w R2 R3 R4 R7 na nb n a1 a2 c1 c2 x y d A B C D w' := by
  have l7 : R7 < W.heap.size := World.block_lt_of_cell? _ _ s.c0
  obtain ⟨hc, hf⟩ := bcell h
  obtain ⟨p, q, r, e1⟩ := s.c1
  exact ⟨s.sf.call h, s.nd.call h, by rw [hc _ _ l7]; exact s.c0, ⟨p, q, r, by rw [hc _ _ l7]; exact e1⟩, by rw [hc _ _ l7]; exact s.c2, by rw [hf _ _ l7]; exact s.f0, by rw [hf _ _ l7]; exact s.f1, by rw [hf _ _ l7]; exact s.f2, s.ne, s.old⟩
theorem SG.newA {w W : World} {R2 R3 R4 : Nat} {na nb : Bool} {a1 a2 c1 c2 x y d : Value} {A B C D : Nat} (s : SF w R2 R3 R4 na nb a1 a2 c1 c2 x y A B C D W) (hN : NatV W d (B * D)) : SG w R2 R3 R4 W.heap.size na nb na a1 a2 c1 c2 x y d A B C D (W.alloc (.cells #[.bool na, .slice none 0 0, d] 66)) := by
  have fr := s.fresh
  refine ⟨s.alloc, hN.call self1, ?_, ⟨none, 0, 0, ?_⟩, ?_, ?_, ?_, ?_, fr.1, fr.2⟩ <;> simp [go_sem]
theorem SG.newB {w W : World} {R2 R3 R4 P : Nat} {na nb : Bool} {a1 a2 c1 c2 x y d : Value} {A B C D : Nat} (s : SF w R2 R3 R4 na nb a1 a2 c1 c2 x y A B C D W) (hP : (P ≠ R2 ∧ P ≠ R3 ∧ P ≠ R4) ∧ w.heap.size ≤ P) (k : Bss W P) (hN : NatV W d (B * D)) : SG w R2 R3 R4 P na nb na a1 a2 c1 c2 x y d A B C D (((W.setCell ⟨P, 0, none⟩ (.bool na)).setCell ⟨P, 1, none⟩ (.slice none 0 0)).setCell ⟨P, 2, none⟩ d) := by
  obtain ⟨y0, y1, y2⟩ := set3_own k (.bool na) (.slice none 0 0) d
  exact ⟨s.put hP k _ _ _, hN.setBS _ _ _ k.c0 k.c1 k.c2, y0, ⟨_, _, _, y1⟩, y2, by rw [World.frozen?_setCell, World.frozen?_setCell, World.frozen?_setCell]; exact k.f0, by rw [World.frozen?_setCell, World.frozen?_setCell, World.frozen?_setCell]; exact k.f1, by rw [World.frozen?_setCell, World.frozen?_setCell, World.frozen?_setCell]; exact k.f2, hP.1, hP.2⟩

theorem SF.put1 {w W : World} {R2 R3 R4 : Nat} {na nb : Bool} {a1 a2 c1 c2 x y : Value} {A B C D : Nat} (s : SF w R2 R3 R4 na nb a1 a2 c1 c2 x y A B C D W) {P o : Nat} (hP : (P ≠ R2 ∧ P ≠ R3 ∧ P ≠ R4) ∧ w.heap.size ≤ P) {c : Value} (hc : W.cell? ⟨P, o, none⟩ = some c) (hc2 : ∀ i, c ≠ .int .u32 i) (u : Value) :
    SF w R2 R3 R4 na nb a1 a2 c1 c2 x y A B C D (W.setCell ⟨P, o, none⟩ u) := by
  obtain ⟨⟨p2, p3, p4⟩, po⟩ := hP
  have m := s.mf
  obtain ⟨b, e0⟩ := m.z0
  obtain ⟨i1, j1, k1, e1⟩ := m.z1
  obtain ⟨i2, j2, k2, e2⟩ := m.z2
  refine ⟨⟨m.below.setCell (p := ⟨P, o, none⟩) po _, m.old, ?_, ?_, ?_, ?_, ?_, ?_, m.far2, m.far3, ⟨b, ?_⟩, ⟨i1, j1, k1, ?_⟩, ⟨i2, j2, k2, ?_⟩, ?_, ?_, ?_, m.n1.setOther _ hc hc2, m.n2.setOther _ hc hc2, m.n3.setOther _ hc hc2, m.n4.setOther _ hc hc2⟩, s.nx.setOther _ hc hc2, s.ny.setOther _ hc hc2⟩
  · rw [World.cell?_setCell_far _ _ _ _ p2]; exact m.x0
  · rw [World.cell?_setCell_far _ _ _ _ p2]; exact m.x1
  · rw [World.cell?_setCell_far _ _ _ _ p2]; exact m.x2
  · rw [World.cell?_setCell_far _ _ _ _ p3]; exact m.y0
  · rw [World.cell?_setCell_far _ _ _ _ p3]; exact m.y1
  · rw [World.cell?_setCell_far _ _ _ _ p3]; exact m.y2
  · rw [World.cell?_setCell_far _ _ _ _ p4]; exact e0
  · rw [World.cell?_setCell_far _ _ _ _ p4]; exact e1
  · rw [World.cell?_setCell_far _ _ _ _ p4]; exact e2
  · rw [World.frozen?_setCell]; exact m.f0
  · rw [World.frozen?_setCell]; exact m.f1
  · rw [World.frozen?_setCell]; exact m.f2
theorem SG.setN {w W : World} {R2 R3 R4 R7 : Nat} {na nb n : Bool} {a1 a2 c1 c2 x y d : Value} {A B C D : Nat} (s : SG w R2 R3 R4 R7 na nb n a1 a2 c1 c2 x y d A B C D W) (n' : Bool) : SG w R2 R3 R4 R7 na nb n' a1 a2 c1 c2 x y d A B C D (W.setCell ⟨R7, 0, none⟩ (.bool n')) := by
  obtain ⟨p, q, r, e1⟩ := s.c1
  refine ⟨s.sf.put1 ⟨s.ne, s.old⟩ s.c0 (fun i => by simp) _, s.nd.setOther _ s.c0 (fun i => by simp), World.cell?_setCell_same _ _ _ s.c0, ⟨p, q, r, ?_⟩, ?_, ?_, ?_, ?_, s.ne, s.old⟩
  · rw [World.cell?_setCell_other _ _ _ _ (fun h => absurd (congrArg Addr.off h) (by show ¬ ((0 : Nat) = 1); decide))]; exact e1
  · rw [World.cell?_setCell_other _ _ _ _ (fun h => absurd (congrArg Addr.off h) (by show ¬ ((0 : Nat) = 2); decide))]; exact s.c2
  · rw [World.frozen?_setCell]; exact s.f0
  · rw [World.frozen?_setCell]; exact s.f1
  · rw [World.frozen?_setCell]; exact s.f2
/-- the number written -/
structure SH (w : World) (R4 R7 N B D : Nat) (n : Bool) (v d : Value) (w' : World) : Prop where
  below : Below w.heap.size w w'
  old : w.heap.size ≤ R4
  nv : NatV w' v N
  nd : NatV w' d (B * D)
  c0 : w'.cell? ⟨R7, 0, none⟩ = some (.bool n)
  c1 : w'.cell? ⟨R7, 1, none⟩ = some v
  c2 : w'.cell? ⟨R7, 2, none⟩ = some d
  r : Bss w' R4
theorem SG.num {w W : World} {R2 R3 R4 R7 : Nat} {na nb n : Bool} {a1 a2 c1 c2 x y d : Value} {A B C D N : Nat} (s : SG w R2 R3 R4 R7 na nb n a1 a2 c1 c2 x y d A B C D W) {v : Value} (hv : NatV W v N) : SH w R4 R7 N B D n v d (W.setCell ⟨R7, 1, none⟩ v) := by
  obtain ⟨p, q, r, e1⟩ := s.c1
  have g := s.sf.put1 ⟨s.ne, s.old⟩ e1 (fun i => by simp) v
  refine ⟨g.mf.below, g.mf.old, hv.setOther _ e1 (fun i => by simp), s.nd.setOther _ e1 (fun i => by simp), ?_, World.cell?_setCell_same _ _ _ e1, ?_, ⟨g.mf.z0, g.mf.z1, g.mf.z2, g.mf.f0, g.mf.f1, g.mf.f2⟩⟩
  · rw [World.cell?_setCell_other _ _ _ _ (fun h => absurd (congrArg Addr.off h) (by show ¬ ((1 : Nat) = 0); decide))]; exact s.c0
  · rw [World.cell?_setCell_other _ _ _ _ (fun h => absurd (congrArg Addr.off h) (by show ¬ ((1 : Nat) = 2); decide))]; exact s.c2

/-- a fraction handed back -/
structure FracP (N D : Nat) (e : Ending) (w' : World) : Prop where
  out : ∃ n v1 v2, e = .returned (.agg #[.bool n, v1, v2]) ∧ NatV w' v1 N ∧ NatV w' v2 D

set_option maxRecDepth 8000 in
set_option maxHeartbeats 4000000 in
/-- law.sumFrac -/
theorem sumFrac_nat {w : World} {a1 a2 c1 c2 : Value} {A B C D : Nat} (na nb : Bool) (s1 : NatV w a1 A) (s2 : NatV w a2 B) (s3 : NatV w c1 C) (s4 : NatV w c2 D) (b1 : bl A ≤ 300000) (b2 : bl B ≤ 300000) (b3 : bl C ≤ 300000) (b4 : bl D ≤ 300000) :
    Calls Oafg.prog 152 #[.agg #[.bool na, a1, a2], .agg #[.bool nb, c1, c2]] w fun e w' => FracP (if na = nb then A * D + C * B else if C * B ≤ A * D then A * D - C * B else C * B - A * D) (B * D) e w' ∧ Below w.heap.size w w' := by
  obtain ⟨N, hNN⟩ : ∃ N, N = (if na = nb then A * D + C * B else if C * B ≤ A * D then A * D - C * B else C * B - A * D) := ⟨_, rfl⟩
  rw [← hNN]
  have HNN : Hid _ := hNN
  clear hNN
  obtain ⟨p1, q1, r1, rfl⟩ := s1.sl
  obtain ⟨p2, q2, r2, rfl⟩ := s2.sl
  obtain ⟨p3, q3, r3, rfl⟩ := s3.sl
  obtain ⟨p4, q4, r4, rfl⟩ := s4.sl
  obtain ⟨R2, hR2⟩ : ∃ R2, R2 = w.heap.size := ⟨_, rfl⟩
  obtain ⟨R3, hR3⟩ : ∃ R3, R3 = w.heap.size + 1 := ⟨_, rfl⟩
  obtain ⟨R4, hR4⟩ : ∃ R4, R4 = w.heap.size + 1 + 1 := ⟨_, rfl⟩
  have hM : MF w R2 R3 R4 na nb (.slice p1 q1 r1) (.slice p2 q2 r2) (.slice p3 q3 r3) (.slice p4 q4 r4) A B C D (((w.alloc (.cells #[.bool na, .slice p1 q1 r1, .slice p2 q2 r2] 66)).alloc (.cells #[.bool nb, .slice p3 q3 r3, .slice p4 q4 r4] 66)).alloc (.cells #[.bool false, .slice none 0 0, .slice none 0 0] 66)) := by
    have hb : Below w.heap.size w (((w.alloc (.cells #[.bool na, .slice p1 q1 r1, .slice p2 q2 r2] 66)).alloc (.cells #[.bool nb, .slice p3 q3 r3, .slice p4 q4 r4] 66)).alloc (.cells #[.bool false, .slice none 0 0, .slice none 0 0] 66)) := bt self2 self1
    refine ⟨hb, by omega, ?_, ?_, ?_, ?_, ?_, ?_, by omega, by omega, ⟨false, ?_⟩, ⟨none, 0, 0, ?_⟩, ⟨none, 0, 0, ?_⟩, ?_, ?_, ?_, s1.call hb, s2.call hb, s3.call hb, s4.call hb⟩ <;> simp [go_sem, hR2, hR3, hR4]
  have hbm : ∀ {X Y : Nat}, bl X ≤ 300000 → bl Y ≤ 300000 → bl (X * Y) ≤ 600000 := fun {X Y} h k => by have := bl_mul X Y; omega
  have M1 : Hid (∀ w', MF w R2 R3 R4 na nb (.slice p1 q1 r1) (.slice p2 q2 r2) (.slice p3 q3 r3) (.slice p4 q4 r4) A B C D w' → Calls Oafg.prog 91 #[.slice p1 q1 r1, .slice p4 q4 r4] w' fun e w2 => (∃ v, e = .returned v ∧ NatV w2 v (A * D)) ∧ Below w'.heap.size w' w2) := fun w' h => mul_nat h.n1 h.n4 (by omega) (by omega)
  have M2 : Hid (∀ w', MF w R2 R3 R4 na nb (.slice p1 q1 r1) (.slice p2 q2 r2) (.slice p3 q3 r3) (.slice p4 q4 r4) A B C D w' → Calls Oafg.prog 91 #[.slice p3 q3 r3, .slice p2 q2 r2] w' fun e w2 => (∃ v, e = .returned v ∧ NatV w2 v (C * B)) ∧ Below w'.heap.size w' w2) := fun w' h => mul_nat h.n3 h.n2 (by omega) (by omega)
  have M3 : Hid (∀ w', MF w R2 R3 R4 na nb (.slice p1 q1 r1) (.slice p2 q2 r2) (.slice p3 q3 r3) (.slice p4 q4 r4) A B C D w' → Calls Oafg.prog 91 #[.slice p2 q2 r2, .slice p4 q4 r4] w' fun e w2 => (∃ v, e = .returned v ∧ NatV w2 v (B * D)) ∧ Below w'.heap.size w' w2) := fun w' h => mul_nat h.n2 h.n4 (by omega) (by omega)
  have e1 := hbm b1 b4
  have e2 := hbm b3 b2
  have HR : Hid (R2 = w.heap.size ∧ R3 = w.heap.size + 1 ∧ R4 = w.heap.size + 1 + 1) := ⟨hR2, hR3, hR4⟩
  have HM : Hid _ := hM
  clear hM hR2 hR3 hR4 s1 s2 s3 s4 hbm
  go_enter Oafg.func152, Oafg.ntmps152
  go_upto_region 1 with fail
  generalize hW : (((w.alloc (.cells #[.bool na, .slice p1 q1 r1, .slice p2 q2 r2] 66)).alloc (.cells #[.bool nb, .slice p3 q3 r3, .slice p4 q4 r4] 66)).alloc (.cells #[.bool false, .slice none 0 0, .slice none 0 0] 66)) = W at HM ⊢
  simp only [← HR.out.2.2]
  simp only [← HR.out.2.1]
  simp only [← HR.out.1]
  clear hW
  go_cut [5, 6] (fun t5 t6 w' => ∃ x1 x2 x3 y1 y2 y3, t5 = .slice x1 x2 x3 ∧ t6 = .slice y1 y2 y3 ∧ Hid (SF w R2 R3 R4 na nb (.slice p1 q1 r1) (.slice p2 q2 r2) (.slice p3 q3 r3) (.slice p4 q4 r4) (.slice x1 x2 x3) (.slice y1 y2 y3) A B C D w'))
  case first =>
    have hS0 : MF w R2 R3 R4 na nb (.slice p1 q1 r1) (.slice p2 q2 r2) (.slice p3 q3 r3) (.slice p4 q4 r4) A B C D W := HM.out
    have g1 : ∀ w', MF w R2 R3 R4 na nb (.slice p1 q1 r1) (.slice p2 q2 r2) (.slice p3 q3 r3) (.slice p4 q4 r4) A B C D w' → w'.cell? ⟨R2, 1, none⟩ = some (.slice p1 q1 r1) := fun _ h => h.x1
    have g2 : ∀ w', MF w R2 R3 R4 na nb (.slice p1 q1 r1) (.slice p2 q2 r2) (.slice p3 q3 r3) (.slice p4 q4 r4) A B C D w' → w'.cell? ⟨R2, 2, none⟩ = some (.slice p2 q2 r2) := fun _ h => h.x2
    have g4 : ∀ w', MF w R2 R3 R4 na nb (.slice p1 q1 r1) (.slice p2 q2 r2) (.slice p3 q3 r3) (.slice p4 q4 r4) A B C D w' → w'.cell? ⟨R3, 1, none⟩ = some (.slice p3 q3 r3) := fun _ h => h.y1
    have g5 : ∀ w', MF w R2 R3 R4 na nb (.slice p1 q1 r1) (.slice p2 q2 r2) (.slice p3 q3 r3) (.slice p4 q4 r4) A B C D w' → w'.cell? ⟨R3, 2, none⟩ = some (.slice p4 q4 r4) := fun _ h => h.y2
    go_region_held3 (fun w' => MF w R2 R3 R4 na nb (.slice p1 q1 r1) (.slice p2 q2 r2) (.slice p3 q3 r3) (.slice p4 q4 r4) A B C D w')
      (repeat' (first | with_reducible exact hSu | with_reducible exact hS0 | with_reducible apply MF.drew))
      (first
        | (go_at_call_of 91 (Value.slice p1 q1 r1); refine (M1.out _ (by assumption)).mono ?_; rintro e w2 ⟨⟨u1, rfl, hN1⟩, hbu1⟩; obtain ⟨x1, y1, z1, rfl⟩ := hN1.sl; have hSu := MF.call (by assumption) hbu1; have HN1 : Hid _ := hN1; have HB1 : Hid _ := hbu1; clear hN1 hbu1)
        | (go_at_call_of 91 (Value.slice p3 q3 r3); refine (M2.out _ (by assumption)).mono ?_; rintro e w3 ⟨⟨u2, rfl, hN2⟩, hbu2⟩; obtain ⟨x2, y2, z2, rfl⟩ := hN2.sl; have hSu := MF.call (by assumption) hbu2; have HN2 : Hid _ := hN2; have HB2 : Hid _ := hbu2; clear hN2 hbu2))
    all_goals
      rename_i hH
      go_wp2_with fail
      go_meet
      case rel =>
        refine ⟨_, _, _, _, _, _, rfl, rfl, ⟨hH, ?_, ?_⟩⟩
        · first | exact HN1.out.call HB2.out | exact HN1.out
        · first | exact HN2.out.call HB1.out | exact HN2.out
  case rest =>
    obtain ⟨x1, x2, x3, y1, y2, y3, rfl, rfl, hS⟩ := hcut
    clear HM M1 M2
    go_upto_region 2 with fail
    go_cut [7] (fun t7 w' => ∃ R7 d1 d2 d3, t7 = .pointer (some ⟨R7, 0, none⟩) ∧ Hid (SG w R2 R3 R4 R7 na nb na (.slice p1 q1 r1) (.slice p2 q2 r2) (.slice p3 q3 r3) (.slice p4 q4 r4) (.slice x1 x2 x3) (.slice y1 y2 y3) (.slice d1 d2 d3) A B C D w'))
    case first =>
      have hS0 : SF w R2 R3 R4 na nb (.slice p1 q1 r1) (.slice p2 q2 r2) (.slice p3 q3 r3) (.slice p4 q4 r4) (.slice x1 x2 x3) (.slice y1 y2 y3) A B C D wc := hS.out
      have hFr := hS.out.fresh
      have g0 : ∀ w', SF w R2 R3 R4 na nb (.slice p1 q1 r1) (.slice p2 q2 r2) (.slice p3 q3 r3) (.slice p4 q4 r4) (.slice x1 x2 x3) (.slice y1 y2 y3) A B C D w' → w'.cell? ⟨R2, 0, none⟩ = some (.bool na) := fun _ h => h.mf.x0
      have g2 : ∀ w', SF w R2 R3 R4 na nb (.slice p1 q1 r1) (.slice p2 q2 r2) (.slice p3 q3 r3) (.slice p4 q4 r4) (.slice x1 x2 x3) (.slice y1 y2 y3) A B C D w' → w'.cell? ⟨R2, 2, none⟩ = some (.slice p2 q2 r2) := fun _ h => h.mf.x2
      have g5 : ∀ w', SF w R2 R3 R4 na nb (.slice p1 q1 r1) (.slice p2 q2 r2) (.slice p3 q3 r3) (.slice p4 q4 r4) (.slice x1 x2 x3) (.slice y1 y2 y3) A B C D w' → w'.cell? ⟨R3, 2, none⟩ = some (.slice p4 q4 r4) := fun _ h => h.mf.y2
      go_region_held3 (fun w' => SF w R2 R3 R4 na nb (.slice p1 q1 r1) (.slice p2 q2 r2) (.slice p3 q3 r3) (.slice p4 q4 r4) (.slice x1 x2 x3) (.slice y1 y2 y3) A B C D w')
        (repeat' (first | with_reducible exact hSu | with_reducible exact hS0 | with_reducible apply SF.drew | with_reducible apply SF.alloc | with_reducible exact SF.put (by assumption) hFr hBss _ _ _))
        ((go_at_call 91; refine (M3.out _ (SF.mf (by assumption))).mono ?_; rintro e w2 ⟨⟨u1, rfl, hN1⟩, hbu1⟩; obtain ⟨d1, d2, d3, rfl⟩ := hN1.sl; have hSu := SF.call (by assumption) hbu1; have HN1 : Hid _ := hN1; have HB1 : Hid _ := hbu1; obtain ⟨hc1, hf1⟩ := bcell hbu1; (first | (have hBss := bss_kept hbu1) | skip); clear hN1 hbu1))
      all_goals
        go_wp2_with fail
        go_meet
        case rel =>
          first
            | exact ⟨_, _, _, _, rfl, SG.newA hSu HN1.out⟩
            | exact ⟨_, _, _, _, rfl, SG.newB hSu hFr hBss HN1.out⟩
    case rest =>
      obtain ⟨R7, d1, d2, d3, rfl, hG⟩ := hcut
      clear hS M3
      have c0 := hG.out.sf.mf.x0
      have c1 := hG.out.sf.mf.y0
      have hNv := HNN.out
      by_cases hn : na = nb
      · have tn : (na == nb) = true := by rw [beq_iff_eq]; exact hn
        rw [if_pos hn] at hNv
        have HAD : Hid (Unit → Calls Oafg.prog 192 #[.slice x1 x2 x3, .slice y1 y2 y3] wc fun e w' => (∃ v, e = .returned v ∧ NatV w' v N) ∧ Below wc.heap.size wc w') := fun _ => by rw [hNv]; exact add_nat hG.out.sf.nx hG.out.sf.ny (by omega) (by omega)
        have hc7 := hG.out.c1
        obtain ⟨i7, j7, k7, hc7⟩ := hc7
        have hf7 := hG.out.f1
        clear hNv HNN hn
        go_upto_region 9 with (go_at_call 192; refine (HAD.out ()).mono ?_; rintro e w5 ⟨⟨v, rfl, hN5⟩, hb5⟩; obtain ⟨v1, v2, v3, rfl⟩ := hN5.sl; have HN5 : Hid _ := hN5; have HG5 : Hid _ := hG.out.call hb5; obtain ⟨i8, j8, k8, hc8⟩ := HG5.out.c1; have hf8 := HG5.out.f1; clear hN5 hb5)
        have HH : Hid _ := HG5.out.num HN5.out
        generalize hW7 : w5.setCell ⟨R7, 1, none⟩ (.slice v1 v2 v3) = W7 at *
        have t0 := HH.out.c0
        have t1 := HH.out.c1
        have t2 := HH.out.c2
        have t3 := HH.out.r.f0
        have t4 := HH.out.r.f1
        have t5 := HH.out.r.f2
        obtain ⟨ob, t6⟩ := HH.out.r.c0
        obtain ⟨op, oq, or', t7⟩ := HH.out.r.c1
        obtain ⟨oi, oj, ok, t8⟩ := HH.out.r.c2
        clear hW7 HG5 HN5
        go_wp2
        obtain ⟨y0, y1, y2⟩ := set3_own HH.out.r (.bool na) (.slice v1 v2 v3) (.slice d1 d2 d3)
        have hB := below_set3 (.bool na) (.slice v1 v2 v3) (.slice d1 d2 d3) HH.out.below HH.out.old
        have hV := HH.out.nv.setBS (.bool na) (.slice v1 v2 v3) (.slice d1 d2 d3) HH.out.r.c0 HH.out.r.c1 HH.out.r.c2
        have hD := HH.out.nd.setBS (.bool na) (.slice v1 v2 v3) (.slice d1 d2 d3) HH.out.r.c0 HH.out.r.c1 HH.out.r.c2
        generalize ((W7.setCell ⟨R4, 0, none⟩ (.bool na)).setCell ⟨R4, 1, none⟩ (.slice v1 v2 v3)).setCell ⟨R4, 2, none⟩ (.slice d1 d2 d3) = W8 at *
        exact bodyPost_ret (v := .agg #[.bool na, .slice v1 v2 v3, .slice d1 d2 d3]) (by simp [results, Oafg.results152, go_sem, y0, y1, y2]) rfl ⟨⟨_, _, _, rfl, hV, hD⟩, hB⟩
      · have tn : (na == nb) = false := by rw [beq_eq_false_iff_ne]; exact hn
        rw [if_neg hn] at hNv
        have HCM : Hid (Unit → Calls Oafg.prog 179 #[.slice x1 x2 x3, .slice y1 y2 y3] wc fun e w' => e = .returned (.int .i8 (cmpN (A * D) (C * B))) ∧ Below wc.heap.size wc w') := fun _ => cmp_nat hG.out.sf.nx hG.out.sf.ny (by omega) (by omega)
        have hcb := cmpN_bd (A * D) (C * B)
        have hcl := cmpN_lt (a := A * D) (b := C * B)
        by_cases hle : C * B ≤ A * D
        · rw [if_pos hle] at hNv
          have hcg : 0 ≤ cmpN (A * D) (C * B) := by omega
          generalize cmpN (A * D) (C * B) = cc at *
          have HSB : Hid (∀ w', Below wc.heap.size wc w' → Calls Oafg.prog 193 #[.slice x1 x2 x3, .slice y1 y2 y3] w' fun e w2 => (∃ v, e = .returned (.tuple #[v, .bool true]) ∧ NatV w2 v N) ∧ Below w'.heap.size w' w2) := fun w' g => by rw [hNv]; exact sub_nat (hG.out.sf.nx.call g) (hG.out.sf.ny.call g) (by omega) (by omega) hle
          clear hNv HNN hcl hle
          go_upto_region 9 with (first
            | (go_at_call 193; refine (HSB.out _ HB4.out).mono ?_; rintro e w5 ⟨⟨v, rfl, hN5⟩, hb5⟩; obtain ⟨v1, v2, v3, rfl⟩ := hN5.sl; have HN5 : Hid _ := hN5; have HG5 : Hid _ := (hG.out.call HB4.out).call hb5; obtain ⟨i8, j8, k8, hc8⟩ := HG5.out.c1; have hf8 := HG5.out.f1; clear hN5 hb5)
            | (go_at_call 179; refine (HCM.out ()).mono ?_; rintro e w4 ⟨rfl, hb4⟩; have HB4 : Hid _ := hb4; clear hb4))
          have HH : Hid _ := HG5.out.num HN5.out
          generalize hW7 : w5.setCell ⟨R7, 1, none⟩ (.slice v1 v2 v3) = W7 at *
          have t0 := HH.out.c0
          have t1 := HH.out.c1
          have t2 := HH.out.c2
          have t3 := HH.out.r.f0
          have t4 := HH.out.r.f1
          have t5 := HH.out.r.f2
          obtain ⟨ob, t6⟩ := HH.out.r.c0
          obtain ⟨op, oq, or', t7⟩ := HH.out.r.c1
          obtain ⟨oi, oj, ok, t8⟩ := HH.out.r.c2
          clear hW7 HG5 HN5
          go_wp2
          obtain ⟨y0, y1, y2⟩ := set3_own HH.out.r (.bool na) (.slice v1 v2 v3) (.slice d1 d2 d3)
          have hB := below_set3 (.bool na) (.slice v1 v2 v3) (.slice d1 d2 d3) HH.out.below HH.out.old
          have hV := HH.out.nv.setBS (.bool na) (.slice v1 v2 v3) (.slice d1 d2 d3) HH.out.r.c0 HH.out.r.c1 HH.out.r.c2
          have hD := HH.out.nd.setBS (.bool na) (.slice v1 v2 v3) (.slice d1 d2 d3) HH.out.r.c0 HH.out.r.c1 HH.out.r.c2
          generalize ((W7.setCell ⟨R4, 0, none⟩ (.bool na)).setCell ⟨R4, 1, none⟩ (.slice v1 v2 v3)).setCell ⟨R4, 2, none⟩ (.slice d1 d2 d3) = W8 at *
          exact bodyPost_ret (v := .agg #[.bool na, .slice v1 v2 v3, .slice d1 d2 d3]) (by simp [results, Oafg.results152, go_sem, y0, y1, y2]) rfl ⟨⟨_, _, _, rfl, hV, hD⟩, hB⟩
        · rw [if_neg hle] at hNv
          have hcg : cmpN (A * D) (C * B) < 0 := by rw [hcl]; omega
          generalize cmpN (A * D) (C * B) = cc at *
          have HSB : Hid (∀ w', NatV w' (.slice x1 x2 x3) (A * D) → NatV w' (.slice y1 y2 y3) (C * B) → Calls Oafg.prog 193 #[.slice y1 y2 y3, .slice x1 x2 x3] w' fun e w2 => (∃ v, e = .returned (.tuple #[v, .bool true]) ∧ NatV w2 v N) ∧ Below w'.heap.size w' w2) := fun w' g1 g2 => by rw [hNv]; exact sub_nat g2 g1 (by omega) (by omega) (by omega)
          clear hNv HNN hcl hle
          go_upto_region 3 with (go_at_call 179; refine (HCM.out ()).mono ?_; rintro e w4 ⟨rfl, hb4⟩; have HG4 : Hid _ := hG.out.call hb4; clear hb4)
          have u0 := HG4.out.sf.mf.y0
          have u1 := HG4.out.c0
          have u2 := HG4.out.f0
          go_upto_region 4 with fail
          have HG6 : Hid _ := HG4.out.setN nb
          generalize hW6 : w4.setCell ⟨R7, 0, none⟩ (.bool nb) = W6 at *
          clear HG4 u0 u1 u2 hW6
          go_upto_region 9 with (go_at_call 193; refine (HSB.out _ HG6.out.sf.nx HG6.out.sf.ny).mono ?_; rintro e w5 ⟨⟨v, rfl, hN5⟩, hb5⟩; obtain ⟨v1, v2, v3, rfl⟩ := hN5.sl; have HN5 : Hid _ := hN5; have HG5 : Hid _ := HG6.out.call hb5; obtain ⟨i8, j8, k8, hc8⟩ := HG5.out.c1; have hf8 := HG5.out.f1; clear hN5 hb5)
          have HH : Hid _ := HG5.out.num HN5.out
          generalize hW7 : w5.setCell ⟨R7, 1, none⟩ (.slice v1 v2 v3) = W7 at *
          have t0 := HH.out.c0
          have t1 := HH.out.c1
          have t2 := HH.out.c2
          have t3 := HH.out.r.f0
          have t4 := HH.out.r.f1
          have t5 := HH.out.r.f2
          obtain ⟨ob, t6⟩ := HH.out.r.c0
          obtain ⟨op, oq, or', t7⟩ := HH.out.r.c1
          obtain ⟨oi, oj, ok, t8⟩ := HH.out.r.c2
          clear hW7 HG5 HN5
          go_wp2
          obtain ⟨y0, y1, y2⟩ := set3_own HH.out.r (.bool nb) (.slice v1 v2 v3) (.slice d1 d2 d3)
          have hB := below_set3 (.bool nb) (.slice v1 v2 v3) (.slice d1 d2 d3) HH.out.below HH.out.old
          have hV := HH.out.nv.setBS (.bool nb) (.slice v1 v2 v3) (.slice d1 d2 d3) HH.out.r.c0 HH.out.r.c1 HH.out.r.c2
          have hD := HH.out.nd.setBS (.bool nb) (.slice v1 v2 v3) (.slice d1 d2 d3) HH.out.r.c0 HH.out.r.c1 HH.out.r.c2
          generalize ((W7.setCell ⟨R4, 0, none⟩ (.bool nb)).setCell ⟨R4, 1, none⟩ (.slice v1 v2 v3)).setCell ⟨R4, 2, none⟩ (.slice d1 d2 d3) = W8 at *
          exact bodyPost_ret (v := .agg #[.bool nb, .slice v1 v2 v3, .slice d1 d2 d3]) (by simp [results, Oafg.results152, go_sem, y0, y1, y2]) rfl ⟨⟨_, _, _, rfl, hV, hD⟩, hB⟩
end Go.Proofs.Ygcoaf
