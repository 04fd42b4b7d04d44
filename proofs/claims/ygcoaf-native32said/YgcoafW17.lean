/-
  WALKS, the seventeenth: wide.Sub.
-/
import Derived.Test.YgcoafW14
namespace Go.Proofs.Ygcoaf
open Go.RowKit Go.Proofs.Ygcoaf.M

theorem below3 {w w' : World} {o p q : Obj} (h : Below (((w.alloc o).alloc p).alloc q).heap.size (((w.alloc o).alloc p).alloc q) w') : Below w.heap.size w w' :=
  below1 (below2 h)

/-- what is held through wide.Sub's last region -/
structure SB (w : World) (h l h' l' : Nat) (w' : World) : Prop where
  bel : Below w.heap.size w w'
  a0 : w'.cell? ⟨w.heap.size, 0, none⟩ = some (.int .u64 h)
  a1 : w'.cell? ⟨w.heap.size, 1, none⟩ = some (.int .u64 l)
  b0 : w'.cell? ⟨w.heap.size + 1, 0, none⟩ = some (.int .u64 h')
  b1 : w'.cell? ⟨w.heap.size + 1, 1, none⟩ = some (.int .u64 l')
  r0 : w'.cell? ⟨w.heap.size + 1 + 1, 0, none⟩ = some (cellv w' ⟨w.heap.size + 1 + 1, 0, none⟩)
  r1 : w'.cell? ⟨w.heap.size + 1 + 1, 1, none⟩ = some (cellv w' ⟨w.heap.size + 1 + 1, 1, none⟩)
  f0 : w'.frozen? ⟨w.heap.size + 1 + 1, 0, none⟩ = false
  f1 : w'.frozen? ⟨w.heap.size + 1 + 1, 1, none⟩ = false

theorem SB.call {w w1 w2 : World} {h l h' l' : Nat} (s : SB w h l h' l' w1) (hb : Below w1.heap.size w1 w2) : SB w h l h' l' w2 := by
  have c : ∀ b o v, w1.cell? ⟨b, o, none⟩ = some v → w2.cell? ⟨b, o, none⟩ = some v := fun b o v e => by rw [hb.cell (World.block_lt_of_cell? _ _ e)]; exact e
  have d : ∀ b o v, w1.cell? ⟨b, o, none⟩ = some v → w2.frozen? ⟨b, o, none⟩ = w1.frozen? ⟨b, o, none⟩ := fun b o v e => hb.frozen (World.block_lt_of_cell? _ _ e)
  exact ⟨bt s.bel hb, c _ _ _ s.a0, c _ _ _ s.a1, c _ _ _ s.b0, c _ _ _ s.b1, cellv_some (by rw [c _ _ _ s.r0]; rfl), cellv_some (by rw [c _ _ _ s.r1]; rfl), (d _ _ _ s.r0).trans s.f0, (d _ _ _ s.r1).trans s.f1⟩
theorem SB.drew {w w1 : World} {h l h' l' : Nat} (s : SB w h l h' l' w1) : SB w h l h' l' w1.drew := ⟨s.bel.drew, s.a0, s.a1, s.b0, s.b1, s.r0, s.r1, s.f0, s.f1⟩
theorem SB.set {w w1 : World} {h l h' l' : Nat} (s : SB w h l h' l' w1) (o : Nat) (v : Value) : SB w h l h' l' (w1.setCell ⟨w.heap.size + 1 + 1, o, none⟩ v) := by
  have far : ∀ b o' x, b < w.heap.size + 1 + 1 → w1.cell? ⟨b, o', none⟩ = some x → (w1.setCell ⟨w.heap.size + 1 + 1, o, none⟩ v).cell? ⟨b, o', none⟩ = some x := fun b o' x hb e => by
    rw [World.cell?_setCell_far _ _ _ _ (Nat.ne_of_gt hb)]; exact e
  have near : ∀ o' x, w1.cell? ⟨w.heap.size + 1 + 1, o', none⟩ = some x → ((w1.setCell ⟨w.heap.size + 1 + 1, o, none⟩ v).cell? ⟨w.heap.size + 1 + 1, o', none⟩).isSome = true := fun o' x q => by
    by_cases e : o' = o
    · subst e
      rw [World.cell?_setCell_same (h := q)]; rfl
    · rw [World.cell?_setCell_other (h := fun c => e (by cases c; rfl)), q]; rfl
  exact ⟨s.bel.setCell (show w.heap.size ≤ w.heap.size + 1 + 1 by omega) v, far _ _ _ (by omega) s.a0, far _ _ _ (by omega) s.a1, far _ _ _ (by omega) s.b0, far _ _ _ (by omega) s.b1, cellv_some (near _ _ s.r0), cellv_some (near _ _ s.r1), by rw [World.frozen?_setCell]; exact s.f0, by rw [World.frozen?_setCell]; exact s.f1⟩
theorem SB.start {w : World} {h l h' l' : Nat} : SB w h l h' l' (((w.alloc (.cells #[.int .u64 h, .int .u64 l] 111)).alloc (.cells #[.int .u64 h', .int .u64 l'] 111)).alloc (.cells #[.int .u64 0, .int .u64 0] 111)) :=
  ⟨self3, by simp [go_sem], by simp [go_sem], by simp [go_sem], by simp [go_sem], cellv_some (by simp [go_sem]), cellv_some (by simp [go_sem]), by simp [go_sem], by simp [go_sem]⟩

set_option maxHeartbeats 800000 in
/-- wide.Sub where nothing is borrowed -/
theorem wsub_any (h l h' l' : Nat) (hl : l < 18446744073709551616) (hl' : l' < 18446744073709551616) (hh : h < 18446744073709551616) (hle : two h' l' ≤ two h l) (w : World) :
    Calls Oafg.prog 202 #[.agg #[.int .u64 h, .int .u64 l], .agg #[.int .u64 h', .int .u64 l']] w fun e w' => (∃ (H L : Nat), e = .returned (.tuple #[.agg #[.int .u64 H, .int .u64 L], .bool false]) ∧ two H L = two h l - two h' l' ∧ H < 18446744073709551616 ∧ L < 18446744073709551616) ∧ Below w.heap.size w w' := by
  have hle' : h' ≤ h := by unfold two at hle; omega
  obtain ⟨G, hG⟩ : ∃ G, G = h - h' := ⟨_, rfl⟩
  obtain ⟨L, hL⟩ : ∃ L, L = (l + 18446744073709551616 - l') % 18446744073709551616 := ⟨_, rfl⟩
  obtain ⟨H, hH⟩ : ∃ H, H = G - 1 := ⟨_, rfl⟩
  have e1 : (h : Int) - (h' : Int) = (G : Int) := by omega
  have e2 : IntKind.u64.wrap ((l : Int) - (l' : Int)) = (L : Int) := by rw [IntKind.wrap_u64]; omega
  have e3 : l < l' → (G : Int) - 1 = (H : Int) := fun _ => by unfold two at hle; omega
  have b1 : L < 18446744073709551616 := by omega
  have b2 : H < 18446744073709551616 := by omega
  have b3 : G < 18446744073709551616 := by omega
  have F1 : Hid (l < l' → two H L = two h l - two h' l') := fun _ => by unfold two at *; omega
  have F2 : Hid (l' ≤ l → two G L = two h l - two h' l') := fun _ => by unfold two at *; omega
  have hcm := fun w => wcmp_any h l h' l' hl hl' w
  have hd : decide (cmpN (two h l) (two h' l') < 0) = false := by
    unfold cmpN
    rw [if_neg (by omega)]
    by_cases q : two h l = two h' l'
    · rw [if_pos q]; rfl
    · rw [if_neg q]; rfl
  generalize cmpN (two h l) (two h' l') = c at *
  have HC : Hid _ := hcm
  clear hcm hL hH hG hle hle'
  have hS0 := SB.start (w := w) (h := h) (l := l) (h' := h') (l' := l')
  have k1 := fun w' (s : SB w h l h' l' w') => s.a0
  have k2 := fun w' (s : SB w h l h' l' w') => s.a1
  have k3 := fun w' (s : SB w h l h' l' w') => s.b0
  have k4 := fun w' (s : SB w h l h' l' w') => s.b1
  have k5 := fun w' (s : SB w h l h' l' w') => s.r0
  have k6 := fun w' (s : SB w h l h' l' w') => s.r1
  have k7 := fun w' (s : SB w h l h' l' w') => s.f0
  have k8 := fun w' (s : SB w h l h' l' w') => s.f1
  go_enter Oafg.func202, Oafg.ntmps202
  by_cases q : l < l'
  · have e4 := e3 q
    have F := F1.out q
    have HF : Hid _ := F
    clear e3 F1 F2 F
    go_wp2
    go_region_held3 (fun w' => SB w h l h' l' w')
      (repeat' (first | with_reducible exact hSu | with_reducible exact hS0 | with_reducible apply SB.drew | with_reducible apply SB.set | with_reducible assumption))
      ((go_at_call 175; refine (HC.out _).mono ?_; rintro e w3 ⟨rfl, hb⟩; have hSu := SB.call (by assumption) hb))
    go_wp2
    exact bodyPost_ret (v := .tuple #[.agg #[.int .u64 H, .int .u64 L], .bool false]) (by simp [results, Oafg.results202, go_sem, hSu.r0, hSu.r1]) rfl ⟨⟨H, L, rfl, HF.out, b2, b1⟩, ((hSu.set 0 _).set 1 _).bel⟩
  · have HF : Hid _ := F2.out (by omega)
    clear e3 F1 F2
    go_wp2
    go_region_held3 (fun w' => SB w h l h' l' w')
      (repeat' (first | with_reducible exact hSu | with_reducible exact hS0 | with_reducible apply SB.drew | with_reducible apply SB.set | with_reducible assumption))
      ((go_at_call 175; refine (HC.out _).mono ?_; rintro e w3 ⟨rfl, hb⟩; have hSu := SB.call (by assumption) hb))
    go_wp2
    exact bodyPost_ret (v := .tuple #[.agg #[.int .u64 G, .int .u64 L], .bool false]) (by simp [results, Oafg.results202, go_sem, hSu.r0, hSu.r1]) rfl ⟨⟨G, L, rfl, HF.out, b3, b1⟩, ((hSu.set 0 _).set 1 _).bel⟩
end Go.Proofs.Ygcoaf
