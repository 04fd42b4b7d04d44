/-
  A ROW OF LIMBS THAT THE CALL ITSELF MADE.
-/
import Derived.Test.YgcoafN2
import Derived.OwnWalk
namespace Go.Proofs.Ygcoaf
open Go.RowKit

theorem info22 : (Oafg.prog.info? 22).map (fun i => (i.zero, i.size, i.bytes)) = some (some (.int .u32 0), 1, 4) := by kernel_rfl

/-- a row of limbs in a block of its own -/
structure Row (w : World) (R : Nat) (cs : List Nat) : Prop where
  cell : ∀ i, i < cs.length → w.cell? ⟨R, i, none⟩ = some (.int .u32 (cs.getD i 0))
  fz : ∀ i, w.frozen? ⟨R, i, none⟩ = false

theorem Row.set {w : World} {R : Nat} {cs : List Nat} (r : Row w R cs) (k x : Nat) (hk : k < cs.length) : Row (w.setCell ⟨R, k, none⟩ (.int .u32 x)) R (cs.set k x) := by
  refine ⟨fun i hi => ?_, fun i => by rw [World.frozen?_setCell]; exact r.fz i⟩
  rw [List.length_set] at hi
  by_cases e : i = k
  · subst e
    rw [World.cell?_setCell_same _ _ _ (r.cell i hi)]
    simp [List.getD_eq_getElem?_getD, hk]
  · rw [World.cell?_setCell_other (h := fun c => e (by cases c; rfl)), r.cell i hi]
    have : k ≠ i := fun h => e h.symm
    simp [List.getD_eq_getElem?_getD, this]

theorem Row.call {w w' : World} {R : Nat} {cs : List Nat} (r : Row w R cs) (hR : R < w.heap.size) (hb : Below w.heap.size w w') : Row w' R cs :=
  ⟨fun i hi => by rw [hb.cell (p := ⟨R, i, none⟩) hR]; exact r.cell i hi, fun i => by rw [hb.frozen (p := ⟨R, i, none⟩) hR]; exact r.fz i⟩

/-- make(Nat, n) -/
theorem mk32 (w : World) (n : Nat) (h : n ≤ 1099511627776) : ∃ w', (Instr.makeSlice 64 (.int .i64 (n : Int)) (.int .i64 (n : Int))).run Oafg.prog w = .ok (.slice (some ⟨w.heap.size, 0, none⟩) n n) w' ∧
    Row w' w.heap.size (List.replicate n 0) ∧ Below w.heap.size w w' ∧ w.heap.size < w'.heap.size := by
  obtain ⟨i, hi, hz0, hz1, hz2⟩ := info_parts info22
  have hb' : (i.bytes : Int) * (n : Int) ≤ 281474976710656 := by rw [hz2]; omega
  have hr := run_make (P := Oafg.prog) w 64 22 i (.int .u32 0) Oafg.underlying64 hi hz0 .i64 .i64 n n (by omega) (Int.le_refl _) hb' (by omega)
  simp only [Int.toNat_natCast] at hr
  refine ⟨_, hr, ⟨fun j hj => ?_, fun j => ?_⟩, self1, by simp⟩
  · rw [List.length_replicate] at hj
    have hz : i.size = 1 := hz1
    simp [hz, madeCells, Value.cells, hj, List.getD_eq_getElem?_getD, Nat.mod_one]
  · simp
end Go.Proofs.Ygcoaf
