/-
  tab.Table.At.
-/
import Derived.Test.YgcoafL10
namespace Go.Proofs.Ygcoaf
open Go.RowKit Go.Proofs.Ygcoaf.M

structure AS (w : World) (R4 R i h l : Nat) (x : Int) (w' : World) : Prop where
  below : Below w.heap.size w w'
  old : w.heap.size ≤ R4
  ne : R4 ≠ R
  m0 : w'.cell? ⟨R, i * 2, none⟩ = some (.int .u64 h)
  m1 : w'.cell? ⟨R, i * 2 + 1, none⟩ = some (.int .u64 l)
  ex : w'.cell? ⟨R, 1392 + i, none⟩ = some (.int .i16 x)
  c0 : ∃ v, w'.cell? ⟨R4, 0, none⟩ = some v
  c1 : ∃ v, w'.cell? ⟨R4, 1, none⟩ = some v
  f0 : w'.frozen? ⟨R4, 0, none⟩ = false
  f1 : w'.frozen? ⟨R4, 1, none⟩ = false
theorem AS.drew {w W : World} {R4 R i h l : Nat} {x : Int} (s : AS w R4 R i h l x W) : AS w R4 R i h l x W.drew := by
  have hB : Below W.heap.size W W.drew := (Below.refl _ _).drew
  obtain ⟨v0, e0⟩ := s.c0
  obtain ⟨v1, e1⟩ := s.c1
  have l4 := World.block_lt_of_cell? _ _ e0
  have l9 := World.block_lt_of_cell? _ _ s.m0
  obtain ⟨hc, hf⟩ := bcell hB
  exact ⟨bt s.below hB, s.old, s.ne, by rw [hc _ _ l9]; exact s.m0, by rw [hc _ _ l9]; exact s.m1, by rw [hc _ _ l9]; exact s.ex, ⟨v0, by rw [hc _ _ l4]; exact e0⟩, ⟨v1, by rw [hc _ _ l4]; exact e1⟩, by rw [hf _ _ l4]; exact s.f0, by rw [hf _ _ l4]; exact s.f1⟩
theorem AS.set {w W : World} {R4 R i h l : Nat} {x : Int} (s : AS w R4 R i h l x W) (u0 u1 : Value) : AS w R4 R i h l x ((W.setCell ⟨R4, 0, none⟩ u0).setCell ⟨R4, 1, none⟩ u1) := by
  obtain ⟨v0, e0⟩ := s.c0
  obtain ⟨v1, e1⟩ := s.c1
  obtain ⟨y0, y1⟩ := set2_cells (u0 := u0) (u1 := u1) e0 e1
  have far : ∀ o, ((W.setCell ⟨R4, 0, none⟩ u0).setCell ⟨R4, 1, none⟩ u1).cell? ⟨R, o, none⟩ = W.cell? ⟨R, o, none⟩ := fun o => by
    rw [World.cell?_setCell_far _ _ _ _ (by show R4 ≠ R; exact s.ne), World.cell?_setCell_far _ _ _ _ (by show R4 ≠ R; exact s.ne)]
  exact ⟨below_set2 _ _ s.below s.old, s.old, s.ne, by rw [far]; exact s.m0, by rw [far]; exact s.m1, by rw [far]; exact s.ex, ⟨_, y0⟩, ⟨_, y1⟩, by rw [World.frozen?_setCell, World.frozen?_setCell]; exact s.f0, by rw [World.frozen?_setCell, World.frozen?_setCell]; exact s.f1⟩

set_option maxRecDepth 8000 in
set_option maxHeartbeats 4000000 in
/-- tab.Table.At within the table -/
theorem tabAt_any {w : World} {R : Nat} {H L : Nat → Nat} {X : Nat → Int} (t : TV w R H L X) (q : Int) (i : Nat) (hq : q + 348 = (i : Int)) (hi : i < 696) :
    Calls Oafg.prog 185 #[.pointer (some ⟨R, 0, none⟩), .int .i16 q] w fun e w' => e = .returned (.tuple #[.agg #[.int .u64 (H i : Nat), .int .u64 (L i : Nat)], .int .i16 (X i), .bool true]) ∧ Below w.heap.size w w' := by
  have hlt := t.in
  obtain ⟨_, k1⟩ := t.m0 i hi
  obtain ⟨_, k3⟩ := t.m1 i hi
  obtain ⟨_, k5⟩ := t.ex i hi
  generalize H i = h at *
  generalize L i = l at *
  generalize X i = x at *
  have hA : AS w w.heap.size R i h l x (w.alloc (.cells #[.int .u64 0, .int .u64 0] 111)) := by
    have hc := (bcell (self1 (w := w) (o := .cells #[.int .u64 0, .int .u64 0] 111))).1
    refine ⟨self1, Nat.le_refl _, by omega, by rw [hc _ _ hlt]; exact k1, by rw [hc _ _ hlt]; exact k3, by rw [hc _ _ hlt]; exact k5, ⟨.int .u64 0, ?_⟩, ⟨.int .u64 0, ?_⟩, ?_, ?_⟩ <;> simp [go_sem]
  have HA : Hid _ := hA
  have hq1 : -348 ≤ q ∧ q ≤ 347 := by omega
  have hi0 : (0 : Int) ≤ (i : Int) := by omega
  have hi1 : (i : Int) < 696 := by omega
  clear hA k1 k3 k5 t hlt
  go_enter Oafg.func185, Oafg.ntmps185
  go_upto_region 4 with fail
  generalize hW : w.alloc (.cells #[.int .u64 0, .int .u64 0] 111) = W at HA ⊢
  obtain ⟨R4, hR4⟩ : ∃ R4, R4 = w.heap.size := ⟨_, rfl⟩
  rw [← hR4] at HA
  simp only [← hR4]
  clear hW hR4
  have hS0 : AS w R4 R i h l x W := HA.out
  have g0 : ∀ w', AS w R4 R i h l x w' → w'.cell? ⟨R, i * 2, none⟩ = some (.int .u64 h) := fun _ h => h.m0
  have g1 : ∀ w', AS w R4 R i h l x w' → w'.cell? ⟨R, i * 2 + 1, none⟩ = some (.int .u64 l) := fun _ h => h.m1
  have g2 : ∀ w', AS w R4 R i h l x w' → w'.cell? ⟨R, 1392 + i, none⟩ = some (.int .i16 x) := fun _ h => h.ex
  have g3 : ∀ w', AS w R4 R i h l x w' → w'.cell? ⟨R4, 0, none⟩ = some (cellv w' ⟨R4, 0, none⟩) := fun _ h => cellv_some (by obtain ⟨_, e⟩ := h.c0; rw [e]; rfl)
  have g4 : ∀ w', AS w R4 R i h l x w' → w'.cell? ⟨R4, 1, none⟩ = some (cellv w' ⟨R4, 1, none⟩) := fun _ h => cellv_some (by obtain ⟨_, e⟩ := h.c1; rw [e]; rfl)
  have g5 : ∀ w', AS w R4 R i h l x w' → w'.frozen? ⟨R4, 0, none⟩ = false := fun _ h => h.f0
  have g6 : ∀ w', AS w R4 R i h l x w' → w'.frozen? ⟨R4, 1, none⟩ = false := fun _ h => h.f1
  go_region_held3 (fun w' => AS w R4 R i h l x w')
    (repeat' (first | with_reducible exact hS0 | with_reducible apply AS.drew | with_reducible apply AS.set | assumption))
    (fail)
  all_goals
    rename_i hH
    go_wp2
    obtain ⟨v0, e0⟩ := hS0.c0
    obtain ⟨v1, e1⟩ := hS0.c1
    obtain ⟨y0, y1⟩ := set2_cells (u0 := .int .u64 h) (u1 := .int .u64 l) e0 e1
    have hD := bcell ((Below.refl ((W.setCell ⟨R4, 0, none⟩ (.int .u64 h)).setCell ⟨R4, 1, none⟩ (.int .u64 l)).heap.size ((W.setCell ⟨R4, 0, none⟩ (.int .u64 h)).setCell ⟨R4, 1, none⟩ (.int .u64 l))).drew)
    have l4 := World.block_lt_of_cell? _ _ y0
    have z0 := hD.1 R4 0 l4
    have z1 := hD.1 R4 1 l4
    rw [y0] at z0
    rw [y1] at z1
    have hB := hH.below
    generalize ((W.setCell ⟨R4, 0, none⟩ (.int .u64 h)).setCell ⟨R4, 1, none⟩ (.int .u64 l)).drew = W5 at *
    exact bodyPost_ret (v := .tuple #[.agg #[.int .u64 h, .int .u64 l], .int .i16 x, .bool true]) (by simp [results, Oafg.results185, go_sem, z0, z1]) rfl ⟨rfl, hB⟩
end Go.Proofs.Ygcoaf
