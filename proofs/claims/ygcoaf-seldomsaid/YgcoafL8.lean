/-
  tab.Build.
-/
import Derived.Test.YgcoafL7
import Derived.Test.YgcoafX8
namespace Go.Proofs.Ygcoaf
open Go.RowKit Go.Proofs.Ygcoaf.M

/-- a table in memory -/
structure TB (w : World) (R : Nat) : Prop where
  m0 : ∀ i, i < 696 → ∃ h : Nat, h < 18446744073709551616 ∧ w.cell? ⟨R, i * 2, none⟩ = some (.int .u64 h)
  m1 : ∀ i, i < 696 → ∃ h : Nat, h < 18446744073709551616 ∧ w.cell? ⟨R, i * 2 + 1, none⟩ = some (.int .u64 h)
  ex : ∀ i, i < 696 → ∃ x : Int, (-32768 ≤ x ∧ x ≤ 32767) ∧ w.cell? ⟨R, 1392 + i, none⟩ = some (.int .i16 x)
  fz : ∀ j, w.frozen? ⟨R, j, none⟩ = false

/-- the cells of a new table -/
def zcOk (z : Array Value) : Prop := z.toList = List.replicate 1392 (Value.int .u64 0) ++ List.replicate 696 (Value.int .i16 0)
theorem zc115 : zcOk Oafg.zeroCells115 := by unfold zcOk; kernel_rfl
theorem zc_at {z : Array Value} (h : zcOk z) (i : Nat) (hi : i < 696) : z[i * 2]? = some (.int .u64 0) ∧ z[i * 2 + 1]? = some (.int .u64 0) ∧ z[1392 + i]? = some (.int .i16 0) := by
  unfold zcOk at h
  refine ⟨?_, ?_, ?_⟩
  · rw [← Array.getElem?_toList, h, List.getElem?_append_left (by rw [List.length_replicate]; omega), List.getElem?_replicate, if_pos (by omega)]
  · rw [← Array.getElem?_toList, h, List.getElem?_append_left (by rw [List.length_replicate]; omega), List.getElem?_replicate, if_pos (by omega)]
  · rw [← Array.getElem?_toList, h, List.getElem?_append_right (by rw [List.length_replicate]; omega), List.length_replicate, List.getElem?_replicate, if_pos (by omega)]
theorem TB.new (w : World) (z : Array Value) (hz : zcOk z) : TB (w.alloc (.cells z 115)) w.heap.size := by
  refine ⟨fun i hi => ⟨0, by decide, ?_⟩, fun i hi => ⟨0, by decide, ?_⟩, fun i hi => ⟨0, by decide, ?_⟩, fun j => by simp [go_sem]⟩
  · simp [go_sem, (zc_at hz i hi).1]
  · simp [go_sem, (zc_at hz i hi).2.1]
  · simp [go_sem, (zc_at hz i hi).2.2]
theorem TB.in {w : World} {R : Nat} (t : TB w R) : R < w.heap.size := by
  obtain ⟨h, _, hc⟩ := t.m0 0 (by decide)
  exact World.block_lt_of_cell? _ _ hc
theorem TB.call {w w' : World} {R : Nat} (t : TB w R) (h : Below w.heap.size w w') : TB w' R := by
  obtain ⟨hc, hf⟩ := bcell h
  have hl := t.in
  exact ⟨fun i hi => by rw [hc _ _ hl]; exact t.m0 i hi, fun i hi => by rw [hc _ _ hl]; exact t.m1 i hi, fun i hi => by rw [hc _ _ hl]; exact t.ex i hi, fun j => by rw [hf _ _ hl]; exact t.fz j⟩
theorem TB.m0s {w : World} {R : Nat} (t : TB w R) (i : Nat) (hi : i < 696) (h : Nat) (hh : h < 18446744073709551616) : TB (w.setCell ⟨R, i * 2, none⟩ (.int .u64 h)) R := by
  have far : ∀ j, j ≠ i * 2 → (w.setCell ⟨R, i * 2, none⟩ (.int .u64 h)).cell? ⟨R, j, none⟩ = w.cell? ⟨R, j, none⟩ := fun j hj => World.cell?_setCell_other _ _ _ _ (fun e => absurd (congrArg Addr.off e) (by show ¬ (i * 2 = j); omega))
  refine ⟨fun k hk => ?_, fun k hk => ?_, fun k hk => ?_, fun j => by rw [World.frozen?_setCell]; exact t.fz j⟩
  · by_cases e : k = i
    · subst e
      obtain ⟨a, _, hc⟩ := t.m0 k hi
      exact ⟨h, hh, World.cell?_setCell_same _ _ _ hc⟩
    · rw [far _ (by omega)]; exact t.m0 k hk
  · rw [far _ (by omega)]; exact t.m1 k hk
  · rw [far _ (by omega)]; exact t.ex k hk
theorem TB.m1s {w : World} {R : Nat} (t : TB w R) (i : Nat) (hi : i < 696) (h : Nat) (hh : h < 18446744073709551616) : TB (w.setCell ⟨R, i * 2 + 1, none⟩ (.int .u64 h)) R := by
  have far : ∀ j, j ≠ i * 2 + 1 → (w.setCell ⟨R, i * 2 + 1, none⟩ (.int .u64 h)).cell? ⟨R, j, none⟩ = w.cell? ⟨R, j, none⟩ := fun j hj => World.cell?_setCell_other _ _ _ _ (fun e => absurd (congrArg Addr.off e) (by show ¬ (i * 2 + 1 = j); omega))
  refine ⟨fun k hk => ?_, fun k hk => ?_, fun k hk => ?_, fun j => by rw [World.frozen?_setCell]; exact t.fz j⟩
  · rw [far _ (by omega)]; exact t.m0 k hk
  · by_cases e : k = i
    · subst e
      obtain ⟨a, _, hc⟩ := t.m1 k hi
      exact ⟨h, hh, World.cell?_setCell_same _ _ _ hc⟩
    · rw [far _ (by omega)]; exact t.m1 k hk
  · rw [far _ (by omega)]; exact t.ex k hk
theorem TB.exs {w : World} {R : Nat} (t : TB w R) (i : Nat) (hi : i < 696) (x : Int) (hx : -32768 ≤ x ∧ x ≤ 32767) : TB (w.setCell ⟨R, 1392 + i, none⟩ (.int .i16 x)) R := by
  have far : ∀ j, j ≠ 1392 + i → (w.setCell ⟨R, 1392 + i, none⟩ (.int .i16 x)).cell? ⟨R, j, none⟩ = w.cell? ⟨R, j, none⟩ := fun j hj => World.cell?_setCell_other _ _ _ _ (fun e => absurd (congrArg Addr.off e) (by show ¬ (1392 + i = j); omega))
  refine ⟨fun k hk => ?_, fun k hk => ?_, fun k hk => ?_, fun j => by rw [World.frozen?_setCell]; exact t.fz j⟩
  · rw [far _ (by omega)]; exact t.m0 k hk
  · rw [far _ (by omega)]; exact t.m1 k hk
  · by_cases e : k = i
    · subst e
      obtain ⟨a, _, hc⟩ := t.ex k hi
      exact ⟨x, hx, World.cell?_setCell_same _ _ _ hc⟩
    · rw [far _ (by omega)]; exact t.ex k hk

/-- what Build holds -/
structure BS (w : World) (R : Nat) (v5 vp : Value) (q : Nat) (w' : World) : Prop where
  below : Below w.heap.size w w'
  old : w.heap.size ≤ R
  tb : TB w' R
  n5 : NatV w' v5 5
  np : NatV w' vp (5 ^ q)
theorem BS.call {w W w' : World} {R : Nat} {v5 vp : Value} {q : Nat} (s : BS w R v5 vp q W) (h : Below W.heap.size W w') : BS w R v5 vp q w' := ⟨bt s.below h, s.old, s.tb.call h, s.n5.call h, s.np.call h⟩
theorem BS.drew {w W : World} {R : Nat} {v5 vp : Value} {q : Nat} (s : BS w R v5 vp q W) : BS w R v5 vp q W.drew := s.call ((Below.refl _ _).drew)
theorem BS.setM {w W : World} {R : Nat} {v5 vp : Value} {q : Nat} (s : BS w R v5 vp q W) (i : Nat) (hi : i < 696) (h l : Nat) (hh : h < 18446744073709551616) (hl : l < 18446744073709551616) : BS w R v5 vp q ((W.setCell ⟨R, i * 2, none⟩ (.int .u64 h)).setCell ⟨R, i * 2 + 1, none⟩ (.int .u64 l)) := by
  obtain ⟨a, _, ha⟩ := s.tb.m0 i hi
  have t2 := s.tb.m0s i hi h hh
  obtain ⟨b, _, hb⟩ := t2.m1 i hi
  exact ⟨(s.below.setCell (p := ⟨R, i * 2, none⟩) s.old _).setCell (p := ⟨R, i * 2 + 1, none⟩) s.old _, s.old, t2.m1s i hi l hl, (s.n5.setOther _ ha (fun x => by simp)).setOther _ hb (fun x => by simp), (s.np.setOther _ ha (fun x => by simp)).setOther _ hb (fun x => by simp)⟩
theorem BS.setX {w W : World} {R : Nat} {v5 vp : Value} {q : Nat} (s : BS w R v5 vp q W) (i : Nat) (hi : i < 696) (x : Int) (hx : -32768 ≤ x ∧ x ≤ 32767) : BS w R v5 vp q (W.setCell ⟨R, 1392 + i, none⟩ (.int .i16 x)) := by
  obtain ⟨a, _, ha⟩ := s.tb.ex i hi
  exact ⟨s.below.setCell (p := ⟨R, 1392 + i, none⟩) s.old _, s.old, s.tb.exs i hi x hx, s.n5.setOther _ ha (fun x => by simp), s.np.setOther _ ha (fun x => by simp)⟩
end Go.Proofs.Ygcoaf
