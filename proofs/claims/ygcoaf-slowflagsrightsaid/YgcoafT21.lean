/-
  THE LAWS SlowFlagsRight AND SlowRight, the walks.
-/
import Derived.Test.YgcoafT19
import Derived.Test.YgcoafT20
import Derived.Test.YgcoafY3
namespace Go.Proofs.Ygcoaf
open Go.RowKit Go.Proofs.Ygcoaf.M

theorem DS.made {w w1 : World} {E M : Nat} {b : Bool} {s' : ByteArray} {x : Int} (h : FS w w.heap.size E M w1) : DS w w.heap.size w1.heap.size E M b s' x (w1.alloc (.cells #[.bool b, .string s', .int .i16 x] 74)) := by
  have h2 := h.call (self1 (o := .cells #[.bool b, .string s', .int .i16 x] 74))
  refine ⟨h2.below, h2.cE, h2.cM, ?_, ?_, ?_⟩ <;> simp [go_sem]

set_option maxRecDepth 8000 in
set_option maxHeartbeats 1000000 in
/-- law.SlowFlagsRight -/
theorem slowFlagsRight_walk (E M mode : Nat) (neg : Bool) (s : ByteArray) (exp : Int) (hm : mode < 256) (hs : s.size ≤ 9223372036854775807) (w : World) :
    Calls Oafg.prog 14 #[.agg #[.int .u8 E, .int .u8 M], .int .u8 mode, .bool neg, .string s, .int .i64 exp] w fun e w' => e = .returned (.bool true) ∧ Below w.heap.size w w' := by
  have HMK : Hid _ := fun ww => make_any neg s exp hs ww
  have HFS : Hid _ := FS.start (w := w) (E := E) (M := M)
  have HSF : Hid (∀ s' x, Canon s' x → ∀ ww, Calls Oafg.prog 57 #[.agg #[.int .u8 E, .int .u8 M], .int .u8 mode, .agg #[.bool neg, .string s', .int .i16 x]] ww fun r w' => r = .returned (.tuple #[.int .u64 (decV E M mode neg s' x : Nat), .int .u8 (decF E M mode neg s' x : Nat)]) ∧ Below ww.heap.size ww w') := fun s' x h ww => slowFlags_any h E M mode hm neg ww
  have HRF : Hid (∀ s' x, Canon s' x → ∀ ww, Calls Oafg.prog 58 #[.agg #[.int .u8 E, .int .u8 M], .int .u8 mode, .agg #[.bool neg, .string s', .int .i16 x]] ww fun r w' => r = .returned (.tuple #[.int .u64 (decV E M mode neg s' x : Nat), .int .u8 (decF E M mode neg s' x : Nat)]) ∧ Below ww.heap.size ww w') := fun s' x h ww => roundDecFlags_any h E M mode hm neg ww
  have HFL : Hid (∀ s' x, Canon s' x → ∀ ww, Calls Oafg.prog 59 #[.agg #[.int .u8 E, .int .u8 M], .int .u8 mode, .agg #[.bool neg, .string s', .int .i16 x]] ww fun r w' => r = .returned (.int .u8 (decF E M mode neg s' x : Nat)) ∧ Below ww.heap.size ww w') := fun s' x h ww => flags_any h E M mode hm neg ww
  clear hs
  go_enter Oafg.func14, Oafg.ntmps14
  go_upto_if 25 with (go_at_call 53; refine (HMK.out _).mono ?_; rintro e w1 ⟨hmk, hb1⟩; obtain ⟨b, s', x, ok, rfl, hok⟩ := hmk.out; have HB1 : Hid _ := hb1; have Hok : Hid _ := hok; clear hmk hok hb1)
  have HD0 := DS.made (b := b) (s' := s') (x := x) (HFS.out.call HB1.out)
  generalize hW : w1.alloc (.cells #[.bool b, .string s', .int .i16 x] 74) = W at HD0 ⊢
  obtain ⟨R11, hR11⟩ : ∃ R, R = w1.heap.size := ⟨_, rfl⟩
  rw [← hR11] at HD0
  simp only [← hR11]
  obtain ⟨R5, hR5⟩ : ∃ R, R = w.heap.size := ⟨_, rfl⟩
  simp only [← hR5]
  have HD : Hid (DS w R5 R11 E M b s' x W) := by rw [hR5]; exact HD0
  clear HD0 hW hR11 hR5 HFS HMK HB1
  cases ok
  · go_wp2
    go_ret
    exact ⟨rfl, HD.out.below⟩
  obtain ⟨rfl, HC⟩ := Hok.out rfl
  obtain ⟨V, hV⟩ : ∃ V, V = decV E M mode b s' x := ⟨_, rfl⟩
  obtain ⟨F, hF⟩ : ∃ F, F = decF E M mode b s' x := ⟨_, rfl⟩
  have H1 := HSF.out s' x HC
  have H2 := HRF.out s' x HC
  have H3 := HFL.out s' x HC
  rw [← hV, ← hF] at H1 H2
  rw [← hF] at H3
  have G1 : Hid _ := H1
  have G2 : Hid _ := H2
  have G3 : Hid _ := H3
  have c0 := HD.out.cE
  have c1 := HD.out.cM
  have c2 := HD.out.cN
  have c3 := HD.out.cS
  have c4 := HD.out.cX
  clear H1 H2 H3 HSF HRF HFL hV hF HC Hok
  go_wp2_with (first
    | (go_at_call 59; have hh := HD3.out; refine (G3.out _).mono ?_; rintro e w4 ⟨rfl, hb4⟩)
    | (go_at_call 58; refine (G2.out _).mono ?_; rintro e w3 ⟨rfl, hb3⟩; have HD3 : Hid _ := HD2.out.call hb3; have k0 := HD3.out.cE; have k1 := HD3.out.cM; have k2 := HD3.out.cN; have k3 := HD3.out.cS; have k4 := HD3.out.cX; clear hb3)
    | (go_at_call 57; refine (G1.out _).mono ?_; rintro e w2 ⟨rfl, hb2⟩; have HD2 : Hid _ := HD.out.call hb2; have d0 := HD2.out.cE; have d1 := HD2.out.cM; have d2 := HD2.out.cN; have d3 := HD2.out.cS; have d4 := HD2.out.cX; clear hb2))
  go_ret
  exact ⟨by simp, bt HD3.out.below hb4⟩

set_option maxRecDepth 8000 in
set_option maxHeartbeats 1000000 in
/-- law.SlowRight -/
theorem slowRight_walk (E M mode : Nat) (neg : Bool) (s : ByteArray) (exp : Int) (hm : mode < 256) (hs : s.size ≤ 9223372036854775807) (w : World) :
    Calls Oafg.prog 13 #[.agg #[.int .u8 E, .int .u8 M], .int .u8 mode, .bool neg, .string s, .int .i64 exp] w fun e w' => e = .returned (.bool true) ∧ Below w.heap.size w w' := by
  have HMK : Hid _ := fun ww => make_any neg s exp hs ww
  have HFS : Hid _ := FS.start (w := w) (E := E) (M := M)
  have HOK : Hid (∀ ww, Calls Oafg.prog 54 #[.agg #[.int .u8 E, .int .u8 M]] ww fun e w' => e = .returned (.bool (fokB E M)) ∧ Below ww.heap.size ww w') := fun ww => ok_any _ _ ww
  have HSL : Hid (∀ s' x, Canon s' x → ∀ ww, Calls Oafg.prog 55 #[.agg #[.int .u8 E, .int .u8 M], .int .u8 mode, .agg #[.bool neg, .string s', .int .i16 x]] ww fun r w' => r = .returned (.int .u64 (decV E M mode neg s' x : Nat)) ∧ Below ww.heap.size ww w') := fun s' x h ww => slow_any h E M mode hm neg ww
  have HRD : Hid (∀ s' x, Canon s' x → ∀ ww, Calls Oafg.prog 56 #[.agg #[.int .u8 E, .int .u8 M], .int .u8 mode, .agg #[.bool neg, .string s', .int .i16 x]] ww fun r w' => r = .returned (.int .u64 (decV E M mode neg s' x : Nat)) ∧ Below ww.heap.size ww w') := fun s' x h ww => roundDec_any h E M mode hm neg ww
  obtain ⟨fb, hfb⟩ : ∃ fb, fb = fokB E M := ⟨_, rfl⟩
  rw [← hfb] at HOK
  clear hs hfb
  go_enter Oafg.func13, Oafg.ntmps13
  go_upto_region 2 with (go_at_call 53; refine (HMK.out _).mono ?_; rintro e w1 ⟨hmk, hb1⟩; obtain ⟨b, s', x, ok, rfl, hok⟩ := hmk.out; have HB1 : Hid _ := hb1; have Hok : Hid _ := hok; clear hmk hok hb1)
  have HD0 := DS.made (b := b) (s' := s') (x := x) (HFS.out.call HB1.out)
  generalize hW : w1.alloc (.cells #[.bool b, .string s', .int .i16 x] 74) = W at HD0 ⊢
  obtain ⟨R11, hR11⟩ : ∃ R, R = w1.heap.size := ⟨_, rfl⟩
  rw [← hR11] at HD0
  simp only [← hR11]
  obtain ⟨R5, hR5⟩ : ∃ R, R = w.heap.size := ⟨_, rfl⟩
  simp only [← hR5]
  have HD : Hid (DS w R5 R11 E M b s' x W) := by rw [hR5]; exact HD0
  clear HD0 hW hR11 hR5 HFS HMK HB1
  have hwne := HW.ne W
  have x0 : ∀ q : HW W, q.val.cell? ⟨R5, 0, none⟩ = some (.int .u8 E) := fun q => (HD.out.call q.ok).cE
  have x1 : ∀ q : HW W, q.val.cell? ⟨R5, 1, none⟩ = some (.int .u8 M) := fun q => (HD.out.call q.ok).cM
  have x2 : ∀ q : HW W, q.val.cell? ⟨R11, 0, none⟩ = some (.bool b) := fun q => (HD.out.call q.ok).cN
  have x3 : ∀ q : HW W, q.val.cell? ⟨R11, 1, none⟩ = some (.string s') := fun q => (HD.out.call q.ok).cS
  have x4 : ∀ q : HW W, q.val.cell? ⟨R11, 2, none⟩ = some (.int .i16 x) := fun q => (HD.out.call q.ok).cX
  cases ok
  · refine quiet_held (by kernel_rfl) (by kernel_rfl) ?_
    repeat (go_big_quiet_step (fail))
    refine wpQuiet_nil ?_
    rintro _ ⟨q, rfl⟩
    go_wp2
    go_ret
    exact ⟨rfl, bt HD.out.below q.ok⟩
  cases fb
  · refine quiet_held (by kernel_rfl) (by kernel_rfl) ?_
    repeat (go_big_quiet_step ((go_at_call 54; refine (HOK.out _).mono ?_; rintro e w2 ⟨rfl, hbu⟩; exact ⟨rfl, ⟨w2, HB.call (HW.ok _) hbu⟩, rfl⟩)))
    refine wpQuiet_nil ?_
    rintro _ ⟨q, rfl⟩
    go_wp2
    go_ret
    exact ⟨rfl, bt HD.out.below q.ok⟩
  obtain ⟨rfl, HC⟩ := Hok.out rfl
  obtain ⟨V, hV⟩ : ∃ V, V = decV E M mode b s' x := ⟨_, rfl⟩
  have H1 := HSL.out s' x HC
  have H2 := HRD.out s' x HC
  rw [← hV] at H1 H2
  have G1 : Hid _ := H1
  have G2 : Hid _ := H2
  clear H1 H2 HSL HRD hV HC Hok
  refine quiet_held (by kernel_rfl) (by kernel_rfl) ?_
  repeat (go_big_quiet_step (first
    | (go_at_call 54; refine (HOK.out _).mono ?_; rintro e w2 ⟨rfl, hbu⟩; exact ⟨rfl, ⟨w2, HB.call (HW.ok _) hbu⟩, rfl⟩)
    | (go_at_call 55; refine (G1.out _).mono ?_; rintro e w2 ⟨rfl, hbu⟩; exact ⟨rfl, ⟨w2, HB.call (HW.ok _) hbu⟩, rfl⟩)
    | (go_at_call 56; refine (G2.out _).mono ?_; rintro e w2 ⟨rfl, hbu⟩; exact ⟨rfl, ⟨w2, HB.call (HW.ok _) hbu⟩, rfl⟩)))
  refine wpQuiet_nil ?_
  rintro _ ⟨q, rfl⟩
  go_wp2
  go_ret
  exact ⟨by simp, bt HD.out.below q.ok⟩
end Go.Proofs.Ygcoaf
