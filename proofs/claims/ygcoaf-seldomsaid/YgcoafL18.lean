/-
  Fractions in blocks: what lemireRightOn holds.
-/
import Derived.Test.YgcoafL15
import Derived.Test.YgcoafT16
namespace Go.Proofs.Ygcoaf
open Go.RowKit Go.Proofs.Ygcoaf.M

/-- a fraction that is not negative in a block of its own -/
structure FB (w : World) (R : Nat) (v1 v2 : Value) (N1 N2 : Nat) : Prop where
  c0 : w.cell? ⟨R, 0, none⟩ = some (.bool false)
  c1 : w.cell? ⟨R, 1, none⟩ = some v1
  c2 : w.cell? ⟨R, 2, none⟩ = some v2
  n1 : NatV w v1 N1
  n2 : NatV w v2 N2
  f0 : w.frozen? ⟨R, 0, none⟩ = false
  f1 : w.frozen? ⟨R, 1, none⟩ = false
  f2 : w.frozen? ⟨R, 2, none⟩ = false
theorem FB.in {w : World} {R : Nat} {v1 v2 : Value} {N1 N2 : Nat} (s : FB w R v1 v2 N1 N2) : R < w.heap.size := World.block_lt_of_cell? _ _ s.c0
theorem FB.call {w w' : World} {R : Nat} {v1 v2 : Value} {N1 N2 : Nat} (s : FB w R v1 v2 N1 N2) (h : Below w.heap.size w w') : FB w' R v1 v2 N1 N2 := by
  have l := s.in
  obtain ⟨hc, hf⟩ := bcell h
  exact ⟨by rw [hc _ _ l]; exact s.c0, by rw [hc _ _ l]; exact s.c1, by rw [hc _ _ l]; exact s.c2, s.n1.call h, s.n2.call h, by rw [hf _ _ l]; exact s.f0, by rw [hf _ _ l]; exact s.f1, by rw [hf _ _ l]; exact s.f2⟩
theorem FB.far {w : World} {R : Nat} {v1 v2 : Value} {N1 N2 : Nat} (s : FB w R v1 v2 N1 N2) {P : Nat} (hP : P ≠ R) (k : Bss w P) (u0 u1 u2 : Value) : FB (((w.setCell ⟨P, 0, none⟩ u0).setCell ⟨P, 1, none⟩ u1).setCell ⟨P, 2, none⟩ u2) R v1 v2 N1 N2 :=
  ⟨by rw [set3_far hP]; exact s.c0, by rw [set3_far hP]; exact s.c1, by rw [set3_far hP]; exact s.c2, s.n1.setBS _ _ _ k.c0 k.c1 k.c2, s.n2.setBS _ _ _ k.c0 k.c1 k.c2, by rw [World.frozen?_setCell, World.frozen?_setCell, World.frozen?_setCell]; exact s.f0, by rw [World.frozen?_setCell, World.frozen?_setCell, World.frozen?_setCell]; exact s.f1, by rw [World.frozen?_setCell, World.frozen?_setCell, World.frozen?_setCell]; exact s.f2⟩
theorem FB.newA {W : World} {i1 i2 : Option Addr} {j1 k1 j2 k2 N1 N2 : Nat} (h1 : NatV W (.slice i1 j1 k1) N1) (h2 : NatV W (.slice i2 j2 k2) N2) : FB (W.alloc (.cells #[.bool false, .slice i1 j1 k1, .slice i2 j2 k2] 66)) W.heap.size (.slice i1 j1 k1) (.slice i2 j2 k2) N1 N2 := by
  refine ⟨?_, ?_, ?_, h1.call self1, h2.call self1, ?_, ?_, ?_⟩ <;> simp [go_sem]
theorem FB.newB {W : World} {P : Nat} {v1 v2 : Value} {N1 N2 : Nat} (k : Bss W P) (h1 : NatV W v1 N1) (h2 : NatV W v2 N2) : FB (((W.setCell ⟨P, 0, none⟩ (.bool false)).setCell ⟨P, 1, none⟩ v1).setCell ⟨P, 2, none⟩ v2) P v1 v2 N1 N2 := by
  obtain ⟨y0, y1, y2⟩ := set3_own k (.bool false) v1 v2
  exact ⟨y0, y1, y2, h1.setBS _ _ _ k.c0 k.c1 k.c2, h2.setBS _ _ _ k.c0 k.c1 k.c2, by rw [World.frozen?_setCell, World.frozen?_setCell, World.frozen?_setCell]; exact k.f0, by rw [World.frozen?_setCell, World.frozen?_setCell, World.frozen?_setCell]; exact k.f1, by rw [World.frozen?_setCell, World.frozen?_setCell, World.frozen?_setCell]; exact k.f2⟩
theorem FS.put {w W : World} {R E M : Nat} (s : FS w R E M W) {P : Nat} (hP : P ≠ R) (ho : w.heap.size ≤ P) (u0 u1 u2 : Value) : FS w R E M (((W.setCell ⟨P, 0, none⟩ u0).setCell ⟨P, 1, none⟩ u1).setCell ⟨P, 2, none⟩ u2) :=
  ⟨below_set3 _ _ _ s.below ho, by rw [set3_far hP]; exact s.cE, by rw [set3_far hP]; exact s.cM⟩

/-- the format, the number, the unit -/
structure LZ (w : World) (R5 R15 E M : Nat) (k u1 u2 : Value) (K U1 U2 : Nat) (w' : World) : Prop where
  fs : FS w R5 E M w'
  nk : NatV w' k K
  u : FB w' R15 u1 u2 U1 U2
theorem LZ.call {w W w' : World} {R5 R15 E M : Nat} {k u1 u2 : Value} {K U1 U2 : Nat} (s : LZ w R5 R15 E M k u1 u2 K U1 U2 W) (h : Below W.heap.size W w') : LZ w R5 R15 E M k u1 u2 K U1 U2 w' := ⟨s.fs.call h, s.nk.call h, s.u.call h⟩
theorem LZ.drew {w W : World} {R5 R15 E M : Nat} {k u1 u2 : Value} {K U1 U2 : Nat} (s : LZ w R5 R15 E M k u1 u2 K U1 U2 W) : LZ w R5 R15 E M k u1 u2 K U1 U2 W.drew := s.call ((Below.refl _ _).drew)
theorem LZ.alloc {w W : World} {R5 R15 E M : Nat} {k u1 u2 : Value} {K U1 U2 : Nat} {o : Obj} (s : LZ w R5 R15 E M k u1 u2 K U1 U2 W) : LZ w R5 R15 E M k u1 u2 K U1 U2 (W.alloc o) := s.call self1
theorem LZ.fresh {w W : World} {R5 R15 E M : Nat} {k u1 u2 : Value} {K U1 U2 : Nat} (s : LZ w R5 R15 E M k u1 u2 K U1 U2 W) : (W.heap.size ≠ R5 ∧ W.heap.size ≠ R15) ∧ w.heap.size ≤ W.heap.size := by
  have l2 := World.block_lt_of_cell? _ _ s.fs.cE
  have l3 := s.u.in
  simp only at l2
  exact ⟨⟨by omega, by omega⟩, s.fs.below.size⟩
theorem LZ.put {w W : World} {R5 R15 E M : Nat} {k u1 u2 : Value} {K U1 U2 : Nat} (s : LZ w R5 R15 E M k u1 u2 K U1 U2 W) {P : Nat} (hP : (P ≠ R5 ∧ P ≠ R15) ∧ w.heap.size ≤ P) (b : Bss W P) (x0 x1 x2 : Value) : LZ w R5 R15 E M k u1 u2 K U1 U2 (((W.setCell ⟨P, 0, none⟩ x0).setCell ⟨P, 1, none⟩ x1).setCell ⟨P, 2, none⟩ x2) :=
  ⟨s.fs.put hP.1.1 hP.2 _ _ _, s.nk.setBS _ _ _ b.c0 b.c1 b.c2, s.u.far hP.1.2 b _ _ _⟩

/-- .. and the lower end -/
structure LY (w : World) (R5 R15 R16 E M : Nat) (k u1 u2 l1 l2 : Value) (K U1 U2 L1 L2 : Nat) (w' : World) : Prop where
  z : LZ w R5 R15 E M k u1 u2 K U1 U2 w'
  l : FB w' R16 l1 l2 L1 L2
theorem LY.call {w W w' : World} {R5 R15 R16 E M : Nat} {k u1 u2 l1 l2 : Value} {K U1 U2 L1 L2 : Nat} (s : LY w R5 R15 R16 E M k u1 u2 l1 l2 K U1 U2 L1 L2 W) (h : Below W.heap.size W w') : LY w R5 R15 R16 E M k u1 u2 l1 l2 K U1 U2 L1 L2 w' := ⟨s.z.call h, s.l.call h⟩
theorem LY.drew {w W : World} {R5 R15 R16 E M : Nat} {k u1 u2 l1 l2 : Value} {K U1 U2 L1 L2 : Nat} (s : LY w R5 R15 R16 E M k u1 u2 l1 l2 K U1 U2 L1 L2 W) : LY w R5 R15 R16 E M k u1 u2 l1 l2 K U1 U2 L1 L2 W.drew := s.call ((Below.refl _ _).drew)
theorem LY.alloc {w W : World} {R5 R15 R16 E M : Nat} {k u1 u2 l1 l2 : Value} {K U1 U2 L1 L2 : Nat} {o : Obj} (s : LY w R5 R15 R16 E M k u1 u2 l1 l2 K U1 U2 L1 L2 W) : LY w R5 R15 R16 E M k u1 u2 l1 l2 K U1 U2 L1 L2 (W.alloc o) := s.call self1
theorem LY.fresh {w W : World} {R5 R15 R16 E M : Nat} {k u1 u2 l1 l2 : Value} {K U1 U2 L1 L2 : Nat} (s : LY w R5 R15 R16 E M k u1 u2 l1 l2 K U1 U2 L1 L2 W) : ((W.heap.size ≠ R5 ∧ W.heap.size ≠ R15) ∧ w.heap.size ≤ W.heap.size) ∧ W.heap.size ≠ R16 := by
  have l3 := s.l.in
  exact ⟨s.z.fresh, by omega⟩
theorem LY.put {w W : World} {R5 R15 R16 E M : Nat} {k u1 u2 l1 l2 : Value} {K U1 U2 L1 L2 : Nat} (s : LY w R5 R15 R16 E M k u1 u2 l1 l2 K U1 U2 L1 L2 W) {P : Nat} (hP : ((P ≠ R5 ∧ P ≠ R15) ∧ w.heap.size ≤ P) ∧ P ≠ R16) (b : Bss W P) (x0 x1 x2 : Value) : LY w R5 R15 R16 E M k u1 u2 l1 l2 K U1 U2 L1 L2 (((W.setCell ⟨P, 0, none⟩ x0).setCell ⟨P, 1, none⟩ x1).setCell ⟨P, 2, none⟩ x2) :=
  ⟨s.z.put hP.1 b _ _ _, s.l.far hP.2 b _ _ _⟩

/-- both ends, and the format -/
structure LE (w : World) (R5 R16 R17 E M : Nat) (l1 l2 g1 g2 : Value) (L1 L2 G1 G2 : Nat) (w' : World) : Prop where
  fs : FS w R5 E M w'
  l : FB w' R16 l1 l2 L1 L2
  g : FB w' R17 g1 g2 G1 G2
theorem LE.call {w W w' : World} {R5 R16 R17 E M : Nat} {l1 l2 g1 g2 : Value} {L1 L2 G1 G2 : Nat} (s : LE w R5 R16 R17 E M l1 l2 g1 g2 L1 L2 G1 G2 W) (h : Below W.heap.size W w') : LE w R5 R16 R17 E M l1 l2 g1 g2 L1 L2 G1 G2 w' := ⟨s.fs.call h, s.l.call h, s.g.call h⟩
theorem LE.drew {w W : World} {R5 R16 R17 E M : Nat} {l1 l2 g1 g2 : Value} {L1 L2 G1 G2 : Nat} (s : LE w R5 R16 R17 E M l1 l2 g1 g2 L1 L2 G1 G2 W) : LE w R5 R16 R17 E M l1 l2 g1 g2 L1 L2 G1 G2 W.drew := s.call ((Below.refl _ _).drew)
theorem LE.copy {w W : World} {R5 R16 R17 E M : Nat} {l1 l2 g1 g2 : Value} {L1 L2 G1 G2 : Nat} (s : LE w R5 R16 R17 E M l1 l2 g1 g2 L1 L2 G1 G2 W) (h1 : R17 ≠ R5) (h2 : R17 ≠ R16) (ho : w.heap.size ≤ R17) (hg1 : ∃ p q r, g1 = .slice p q r) (hg2 : ∃ p q r, g2 = .slice p q r) : LE w R5 R16 R17 E M l1 l2 l1 l2 L1 L2 L1 L2 (((W.setCell ⟨R17, 0, none⟩ (.bool false)).setCell ⟨R17, 1, none⟩ l1).setCell ⟨R17, 2, none⟩ l2) := by
  obtain ⟨p, q, r, rfl⟩ := hg1
  obtain ⟨p2, q2, r2, rfl⟩ := hg2
  have b : Bss W R17 := ⟨⟨_, s.g.c0⟩, ⟨_, _, _, s.g.c1⟩, ⟨_, _, _, s.g.c2⟩, s.g.f0, s.g.f1, s.g.f2⟩
  exact ⟨s.fs.put h1 ho _ _ _, s.l.far h2 b _ _ _, FB.newB b s.l.n1 s.l.n2⟩
end Go.Proofs.Ygcoaf
