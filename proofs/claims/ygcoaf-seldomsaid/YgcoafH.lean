/-
  WHAT IS HELD THROUGH A REGION THAT DRAWS ITS ORDER: of the blocks that were there when it began all but block R read as they did; block R's cells are there; nothing older than the call has turned.
-/
import Derived.Test.YgcoafProg
import Derived.WalkKit
import Derived.WalkSpells
import Derived.WalkLawsBesides
import Derived.Deep.RegionHeld3
import Derived.Deep.RegionWith
namespace Go.Proofs.Ygcoaf
open Go.RowKit

theorem ret_int {k : IntKind} {a b : Int} (h : a = b) : Ending.returned (.int k a) = .returned (.int k b) := by rw [h]
theorem bcell {W w1 : World} (hb : Below W.heap.size W w1) : (∀ b o, b < W.heap.size → w1.cell? ⟨b, o, none⟩ = W.cell? ⟨b, o, none⟩) ∧ (∀ b o, b < W.heap.size → w1.frozen? ⟨b, o, none⟩ = W.frozen? ⟨b, o, none⟩) :=
  ⟨fun b o h => hb.cell (p := ⟨b, o, none⟩) h, fun b o h => hb.frozen (p := ⟨b, o, none⟩) h⟩
theorem bmore {W w1 : World} (hb : Below W.heap.size W w1) : (∀ n, n < W.heap.size → n < w1.heap.size) ∧ (∀ n, n ≤ W.heap.size → n ≤ w1.heap.size) :=
  ⟨fun _ h => Nat.lt_of_lt_of_le h hb.size, fun _ h => Nat.le_trans h hb.size⟩
theorem below1 {w w' : World} {o : Obj} (h : Below (w.alloc o).heap.size (w.alloc o) w') : Below w.heap.size w w' :=
  ((Below.refl _ _).alloc (Nat.le_refl _) _).trans (h.mono (by simp))
theorem below2 {w w' : World} {o p : Obj} (h : Below ((w.alloc o).alloc p).heap.size ((w.alloc o).alloc p) w') : Below w.heap.size w w' :=
  below1 (below1 h)

theorem bt {w w1 w2 : World} (h : Below w.heap.size w w1) (k : Below w1.heap.size w1 w2) : Below w.heap.size w w2 := h.trans (k.mono h.size)
theorem self1 {w : World} {o : Obj} : Below w.heap.size w (w.alloc o) := (Below.refl _ _).alloc (Nat.le_refl _) _
theorem self2 {w : World} {o p : Obj} : Below w.heap.size w ((w.alloc o).alloc p) := self1.alloc (by simp) _

/-- what a cell holds, behind a name -/
def cellv (w : World) (a : Addr) : Value := (w.cell? a).getD undef
theorem cellv_some {w : World} {a : Addr} (h : (w.cell? a).isSome = true) : w.cell? a = some (cellv w a) := by
  obtain ⟨u, hu⟩ := Option.isSome_iff_exists.1 h
  rw [cellv, hu]; rfl

/-- what is held: w the world that the function was called in, W the region's first, R the one block that the region may write -/
abbrev HeldR (w W : World) (R : Nat) (w' : World) : Prop :=
  Below w.heap.size w w' ∧ W.heap.size ≤ w'.heap.size ∧
  (∀ b o, b < W.heap.size → b ≠ R → w'.cell? ⟨b, o, none⟩ = W.cell? ⟨b, o, none⟩) ∧
  (∀ o, (W.cell? ⟨R, o, none⟩).isSome = true → w'.cell? ⟨R, o, none⟩ = some (cellv w' ⟨R, o, none⟩)) ∧
  (∀ b o, b < W.heap.size → w'.frozen? ⟨b, o, none⟩ = W.frozen? ⟨b, o, none⟩)

theorem heldR_start {w W : World} {R : Nat} (h : Below w.heap.size w W) : HeldR w W R W.drew :=
  ⟨h.drew, Nat.le_refl _, fun _ _ _ _ => rfl, fun _ h => cellv_some h, fun _ _ _ => rfl⟩

theorem heldR_from {w W w1 : World} {R : Nat} (hR : R < W.heap.size) (h : Below w.heap.size w W) (hb : Below W.heap.size W w1) : HeldR w W R w1.drew :=
  ⟨(h.trans (hb.mono h.size)).drew, hb.size, fun b o l _ => hb.cell (p := ⟨b, o, none⟩) l, fun o p => cellv_some (by show (w1.cell? ⟨R, o, none⟩).isSome = true; rw [hb.cell (p := ⟨R, o, none⟩) hR]; exact p), fun b o l => hb.frozen (p := ⟨b, o, none⟩) l⟩

theorem heldR_call {w W w1 w2 : World} {R : Nat} (hR : R < W.heap.size) (h : HeldR w W R w1) (hb : Below w1.heap.size w1 w2) : HeldR w W R w2 := by
  obtain ⟨h1, h2, h3, h4, h5⟩ := h
  refine ⟨h1.trans (hb.mono h1.size), Nat.le_trans h2 hb.size, fun b o l n => ?_, fun o p => ?_, fun b o l => ?_⟩
  · rw [hb.cell (p := ⟨b, o, none⟩) (Nat.lt_of_lt_of_le l h2)]; exact h3 b o l n
  · refine cellv_some ?_
    rw [hb.cell (p := ⟨R, o, none⟩) (Nat.lt_of_lt_of_le hR h2), h4 o p]; rfl
  · rw [hb.frozen (p := ⟨b, o, none⟩) (Nat.lt_of_lt_of_le l h2)]; exact h5 b o l

theorem heldR_set {w W w1 : World} {R : Nat} (hw : w.heap.size ≤ R) (h : HeldR w W R w1) (o : Nat) (v : Value) : HeldR w W R (w1.setCell ⟨R, o, none⟩ v) := by
  obtain ⟨h1, h2, h3, h4, h5⟩ := h
  refine ⟨h1.setCell hw v, by simpa [World.setCell] using h2, fun b o' l n => ?_, fun o' p => ?_, fun b o' l => ?_⟩
  · rw [World.cell?_setCell_far _ _ _ _ (fun e => n e.symm)]; exact h3 b o' l n
  · have q := h4 o' p
    refine cellv_some ?_
    by_cases e : o' = o
    · subst e
      rw [World.cell?_setCell_same (h := q)]; rfl
    · rw [World.cell?_setCell_other (h := fun c => e (by cases c; rfl)), q]; rfl
  · rw [World.frozen?_setCell]; exact h5 b o' l

theorem size1 {w w1 : World} {o : Obj} (B : Below (w.alloc o).heap.size (w.alloc o) w1) : w.heap.size < w1.heap.size := by
  have := B.size; simp at this; omega
theorem size2 {w w1 : World} {o p : Obj} (B : Below ((w.alloc o).alloc p).heap.size ((w.alloc o).alloc p) w1) : w.heap.size < w1.heap.size ∧ w.heap.size + 1 < w1.heap.size := by
  have := B.size; simp at this; omega

/-- what is held through a region that writes nothing old: every block that was there when it began is as it was -/
def HB (W w' : World) : Prop := Below W.heap.size W w'
theorem HB.start {W : World} : HB W W := Below.refl _ _
theorem HB.call {W w1 w2 : World} (h : HB W w1) (hb : Below w1.heap.size w1 w2) : HB W w2 := bt h hb
theorem HB.drew {W w1 : World} (h : HB W w1) : HB W w1.drew := Below.drew h
theorem HB.alloc {W w1 : World} {o : Obj} (h : HB W w1) : HB W (w1.alloc o) := Below.alloc h (Below.size h) o
theorem HB.cells {W : World} : ∀ w', HB W w' → ∀ b o, b < W.heap.size → w'.cell? ⟨b, o, none⟩ = W.cell? ⟨b, o, none⟩ :=
  fun _ h b o l => Below.cell (p := ⟨b, o, none⟩) h l
theorem HB.out {W w' : World} (h : HB W w') : Below W.heap.size W w' := h
end Go.Proofs.Ygcoaf
