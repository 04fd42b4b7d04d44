/-
  THE LAW LemireRight, the walk.
-/
import Derived.Test.YgcoafL17
namespace Go.Proofs.Ygcoaf
open Go.RowKit Go.Proofs.Ygcoaf.M

set_option maxRecDepth 8000 in
/-- law.lemireRight -/
theorem lemireRight_any {w : World} {R : Nat} {H L : Nat → Nat} {X : Nat → Int} (t : TV w R H L X) (E M man : Nat) (q : Int) (hman : man < 18446744073709551616) (hq : -32768 ≤ q ∧ q ≤ 32767) :
    Calls Oafg.prog 50 #[.pointer (some ⟨R, 0, none⟩), .agg #[.int .u8 E, .int .u8 M], .int .u64 man, .int .i16 q] w fun e w' => e = .returned (.bool true) ∧ Below w.heap.size w w' := by
  have HFS0 : Hid _ := FS.start (w := w) (E := E) (M := M)
  have HOk : Hid (∀ ww, Below w.heap.size w ww → Calls Oafg.prog 88 #[.pointer (some ⟨R, 0, none⟩)] ww fun e w' => OkP H L X e ∧ Below ww.heap.size ww w') := fun ww g => tabOk_any (t.call g)
  have HOn : Hid (∀ ww, Right H L X → Below w.heap.size w ww → Calls Oafg.prog 89 #[.pointer (some ⟨R, 0, none⟩), .agg #[.int .u8 E, .int .u8 M], .int .u64 man, .int .i16 q] ww fun e w' => e = .returned (.bool true) ∧ Below ww.heap.size ww w') := fun ww r g => lemireRightOn_any (t.call g) r E M man q hman hq
  clear t
  go_enter Oafg.func50, Oafg.ntmps50
  go_wp2_with (first
    | (go_at_call 89; refine (HOn.out _ ?_ HF2.out.below).mono ?_; (first | exact Hb.out rfl | exact Hb.out trivial | exact Hb.out); rintro e w3 ⟨rfl, hb3⟩)
    | (go_at_call 88; refine (HOk.out _ HFS0.out.below).mono ?_; rintro e w2 ⟨hok, hb2⟩; obtain ⟨b, rfl, hbR⟩ := hok.out; have Hb : Hid _ := hbR; have HF2 : Hid _ := HFS0.out.call hb2; have c0 := HF2.out.cE; have c1 := HF2.out.cM; clear hok hbR hb2; cases b))
  all_goals
    go_ret
    first
      | exact ⟨rfl, HF2.out.below⟩
      | exact ⟨rfl, bt HF2.out.below hb3⟩

set_option maxRecDepth 8000 in
set_option maxHeartbeats 1000000 in
/-- law.LemireRight -/
theorem lemireRight_walk (E M man : Nat) (q : Int) (hman : man < 18446744073709551616) (hq : -32768 ≤ q ∧ q ≤ 32767) (w : World) :
    Calls Oafg.prog 11 #[.agg #[.int .u8 E, .int .u8 M], .int .u64 man, .int .i16 q] w fun e w' => e = .returned (.bool true) ∧ Below w.heap.size w w' := by
  have HFS0 : Hid _ := FS.start (w := w) (E := E) (M := M)
  have HBu : Hid _ := fun ww => build_any ww
  have HLe : Hid (∀ ww R, TB ww R → Calls Oafg.prog 50 #[.pointer (some ⟨R, 0, none⟩), .agg #[.int .u8 E, .int .u8 M], .int .u64 man, .int .i16 q] ww fun e w' => e = .returned (.bool true) ∧ Below ww.heap.size ww w') := fun ww R t => by
    obtain ⟨H, L, X, hTV⟩ := t.vals
    exact lemireRight_any hTV E M man q hman hq
  go_enter Oafg.func11, Oafg.ntmps11
  go_upto_region 1 with fail
  generalize hW : w.alloc (.cells #[.int .u8 E, .int .u8 M] 27) = W at *
  obtain ⟨R5, hR5⟩ : ∃ R, R = w.heap.size := ⟨_, rfl⟩
  simp only [← hR5]
  have hS0 : FS w R5 E M W := by rw [hR5]; exact HFS0.out
  have g0 : ∀ w', FS w R5 E M w' → w'.cell? ⟨R5, 0, none⟩ = some (.int .u8 E) := fun _ h => h.cE
  have g1 : ∀ w', FS w R5 E M w' → w'.cell? ⟨R5, 1, none⟩ = some (.int .u8 M) := fun _ h => h.cM
  clear HFS0 hW hR5
  go_region_held3 (fun w' => FS w R5 E M w')
    (repeat' (first | with_reducible exact hSu | with_reducible exact hSv | with_reducible exact hS0 | with_reducible apply FS.drew))
    (first
      | (go_at_call 51; refine (HBu.out _).mono ?_; rintro e w2 ⟨⟨R, rfl, hT, ho⟩, hbu⟩; have hSu := FS.call (by assumption) hbu; have HT : Hid _ := hT; clear hbu hT)
      | (go_at_call 50; refine (HLe.out _ _ HT.out).mono ?_; rintro e w3 ⟨rfl, hbu2⟩; have hSv := FS.call (by assumption) hbu2; clear hbu2))
  all_goals
    rename_i hH
    go_wp2
    go_ret
    exact ⟨rfl, FS.below hH⟩
end Go.Proofs.Ygcoaf
