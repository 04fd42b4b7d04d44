/-
  THE LAW Seldom, the walk.
-/
import Derived.Test.YgcoafQ10
namespace Go.Proofs.Ygcoaf
open Go.RowKit Go.Proofs.Ygcoaf.M

set_option maxRecDepth 8000 in
/-- law.seldom -/
theorem seldom_any {w : World} {R : Nat} {H L : Nat → Nat} {X : Nat → Int} (t : TV w R H L X) (f32 : Bool) (man : Nat) (q : Int) (hman : man < 18446744073709551616) (hq : -32768 ≤ q ∧ q ≤ 32767) :
    Calls Oafg.prog 52 #[.pointer (some ⟨R, 0, none⟩), .bool f32, .int .u64 man, .int .i16 q] w fun e w' => e = .returned (.bool true) ∧ Below w.heap.size w w' := by
  have HOk : Hid (∀ ww, Below w.heap.size w ww → Calls Oafg.prog 88 #[.pointer (some ⟨R, 0, none⟩)] ww fun e w' => OkP H L X e ∧ Below ww.heap.size ww w') := fun ww g => tabOk_any (t.call g)
  have HOn : Hid (∀ ww, Right H L X → Below w.heap.size w ww → Calls Oafg.prog 92 #[.pointer (some ⟨R, 0, none⟩), .bool f32, .int .u64 man, .int .i16 q] ww fun e w' => e = .returned (.bool true) ∧ Below ww.heap.size ww w') := fun ww r g => seldomOn_any (t.call g) r f32 man q hman hq
  clear t
  go_enter Oafg.func52, Oafg.ntmps52
  go_wp2_with (first
    | (go_at_call 92; refine (HOn.out _ ?_ HB2.out).mono ?_; (first | exact Hb.out rfl | exact Hb.out trivial | exact Hb.out); rintro e w3 ⟨rfl, hb3⟩)
    | (go_at_call 88; refine (HOk.out _ (Below.refl _ _)).mono ?_; rintro e w2 ⟨hok, hb2⟩; obtain ⟨b, rfl, hbR⟩ := hok.out; have Hb : Hid _ := hbR; have HB2 : Hid _ := hb2; clear hok hbR hb2; cases b))
  all_goals
    go_ret
    first
      | exact ⟨rfl, HB2.out⟩
      | exact ⟨rfl, bt HB2.out hb3⟩

set_option maxRecDepth 8000 in
set_option maxHeartbeats 1000000 in
/-- law.Seldom -/
theorem seldom_walk (f32 : Bool) (man : Nat) (q : Int) (hman : man < 18446744073709551616) (hq : -32768 ≤ q ∧ q ≤ 32767) (w : World) :
    Calls Oafg.prog 12 #[.bool f32, .int .u64 man, .int .i16 q] w fun e w' => e = .returned (.bool true) ∧ Below w.heap.size w w' := by
  have HBu : Hid _ := fun ww => build_any ww
  have HLe : Hid (∀ ww R, TB ww R → Calls Oafg.prog 52 #[.pointer (some ⟨R, 0, none⟩), .bool f32, .int .u64 man, .int .i16 q] ww fun e w' => e = .returned (.bool true) ∧ Below ww.heap.size ww w') := fun ww R t => by
    obtain ⟨H, L, X, hTV⟩ := t.vals
    exact seldom_any hTV f32 man q hman hq
  go_enter Oafg.func12, Oafg.ntmps12
  go_wp2_with (first
    | (go_at_call 52; refine (HLe.out _ _ HT.out).mono ?_; rintro e w3 ⟨rfl, hb3⟩)
    | (go_at_call 51; refine (HBu.out _).mono ?_; rintro e w2 ⟨⟨R, rfl, hT, ho⟩, hbu⟩; have HT : Hid _ := hT; have HB2 : Hid _ := hbu; clear hbu hT))
  go_ret
  exact ⟨rfl, bt HB2.out hb3⟩
end Go.Proofs.Ygcoaf
