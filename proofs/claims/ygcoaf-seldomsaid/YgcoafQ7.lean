/-
  law.isFinite, exact.Value.
-/
import Derived.Test.YgcoafQ6
import Derived.Test.YgcoafY3
namespace Go.Proofs.Ygcoaf
open Go.RowKit Go.Proofs.Ygcoaf.M

set_option maxRecDepth 8000 in
/-- law.isFinite -/
theorem isFinite_yes {E M : Nat} (h1 : 2 ≤ E) (h2 : E ≤ 11) (h3 : 2 ≤ M) (h4 : M ≤ 52) (x : Nat) (hx : x < 18446744073709551616) (w : World) :
    Calls Oafg.prog 151 #[.agg #[.int .u8 E, .int .u8 M], .int .u64 x] w fun e w' => e = .returned (.bool (!decide (eF E M x = 2 ^ E - 1))) ∧ Below w.heap.size w w' := by
  obtain ⟨f, hf⟩ : ∃ f, f = eF E M x := ⟨_, rfl⟩
  have HX : Hid _ := fun ww => expField_yes h1 h2 h3 h4 x hx ww
  rw [← hf] at HX ⊢
  have hfl : f < 2 ^ E := by rw [hf]; exact eF_lt E M x
  have hE11 : 2 ^ E ≤ 2 ^ 11 := two_pow_le h2
  have h22 : 2 ^ 2 ≤ 2 ^ E := two_pow_le h1
  obtain ⟨m, hm⟩ : ∃ m : Nat, m = 2 ^ E - 1 := ⟨_, rfl⟩
  have hc := cast_two_pow E
  obtain ⟨P, hP⟩ : ∃ P : Int, (2 : Int) ^ E = P := ⟨_, rfl⟩
  have hw1 : IntKind.u64.wrap P = P := by rw [IntKind.wrap_u64]; omega
  have hw2 : P - 1 = (m : Int) := by omega
  have hPb : 4 ≤ P ∧ P ≤ 2048 := by omega
  have hmb : m < 18446744073709551616 := by omega
  have hfb : f < 18446744073709551616 := by omega
  rw [← hm]
  obtain ⟨b, hb⟩ : ∃ b, b = decide (f = m) := ⟨_, rfl⟩
  rw [← hb]
  have hb2 : ((f : Int) == (m : Int)) = b := by rw [hb, Bool.eq_iff_iff, beq_iff_eq, decide_eq_true_iff]; omega
  have hE9 : (0 : Int) ≤ (E : Int) := by omega
  clear hf hfl hE11 h22 hm hc hb
  have HFS0 : Hid _ := FS.start (w := w) (E := E) (M := M)
  go_enter Oafg.func151, Oafg.ntmps151
  go_upto_region 1 with fail
  generalize hW : w.alloc (.cells #[.int .u8 E, .int .u8 M] 27) = W at *
  obtain ⟨R2, hR2⟩ : ∃ R, R = w.heap.size := ⟨_, rfl⟩
  simp only [← hR2]
  have HFS : Hid (FS w R2 E M W) := by rw [hR2]; exact HFS0
  clear HFS0 hW hR2
  have hwne := HW.ne W
  have x0 : ∀ x : HW W, x.val.cell? ⟨R2, 0, none⟩ = some (.int .u8 E) := fun x => (HFS.out.call x.ok).cE
  have x1 : ∀ x : HW W, x.val.cell? ⟨R2, 1, none⟩ = some (.int .u8 M) := fun x => (HFS.out.call x.ok).cM
  refine quiet_held (by kernel_rfl) (by kernel_rfl) ?_
  repeat (go_big_quiet_step ((go_at_call 76; refine (HX.out _).mono ?_; rintro e w2 ⟨rfl, hbu⟩; exact ⟨rfl, ⟨w2, HB.call (HW.ok _) hbu⟩, rfl⟩)))
  refine wpQuiet_nil ?_
  rintro _ ⟨y, rfl⟩
  go_wp2
  go_ret
  refine ⟨?_, bt HFS.out.below y.ok⟩
  show Ending.returned (.bool ((f : Int) != (m : Int))) = _
  rw [← hb2]
  rfl

/-- what Value holds -/
structure VS (w : World) (R4 R6 cls man : Nat) (ex : Int) (w' : World) : Prop where
  below : Below w.heap.size w w'
  old : w.heap.size ≤ R4
  ne : R4 ≠ R6
  p0 : w'.cell? ⟨R6, 0, none⟩ = some (.bool false)
  p1 : w'.cell? ⟨R6, 1, none⟩ = some (.int .i8 cls)
  p2 : w'.cell? ⟨R6, 2, none⟩ = some (.int .i16 ex)
  p3 : w'.cell? ⟨R6, 3, none⟩ = some (.int .u64 man)
  r : Bss w' R4
theorem VS.call {w W w' : World} {R4 R6 cls man : Nat} {ex : Int} (s : VS w R4 R6 cls man ex W) (h : Below W.heap.size W w') : VS w R4 R6 cls man ex w' := by
  have l := World.block_lt_of_cell? _ _ s.p0
  obtain ⟨hc, hf⟩ := bcell h
  exact ⟨bt s.below h, s.old, s.ne, by rw [hc _ _ l]; exact s.p0, by rw [hc _ _ l]; exact s.p1, by rw [hc _ _ l]; exact s.p2, by rw [hc _ _ l]; exact s.p3, s.r.call h⟩
theorem VS.drew {w W : World} {R4 R6 cls man : Nat} {ex : Int} (s : VS w R4 R6 cls man ex W) : VS w R4 R6 cls man ex W.drew := s.call ((Below.refl _ _).drew)
theorem Bss.put {w : World} {P : Nat} (k : Bss w P) (b : Bool) (i1 i2 : Option Addr) (j1 k1 j2 k2 : Nat) : Bss (((w.setCell ⟨P, 0, none⟩ (.bool b)).setCell ⟨P, 1, none⟩ (.slice i1 j1 k1)).setCell ⟨P, 2, none⟩ (.slice i2 j2 k2)) P := by
  obtain ⟨y0, y1, y2⟩ := set3_own k (.bool b) (.slice i1 j1 k1) (.slice i2 j2 k2)
  exact ⟨⟨_, y0⟩, ⟨_, _, _, y1⟩, ⟨_, _, _, y2⟩, by rw [World.frozen?_setCell, World.frozen?_setCell, World.frozen?_setCell]; exact k.f0, by rw [World.frozen?_setCell, World.frozen?_setCell, World.frozen?_setCell]; exact k.f1, by rw [World.frozen?_setCell, World.frozen?_setCell, World.frozen?_setCell]; exact k.f2⟩
theorem VS.put {w W : World} {R4 R6 cls man : Nat} {ex : Int} (s : VS w R4 R6 cls man ex W) (b : Bool) (i1 i2 : Option Addr) (j1 k1 j2 k2 : Nat) : VS w R4 R6 cls man ex (((W.setCell ⟨R4, 0, none⟩ (.bool b)).setCell ⟨R4, 1, none⟩ (.slice i1 j1 k1)).setCell ⟨R4, 2, none⟩ (.slice i2 j2 k2)) :=
  ⟨below_set3 _ _ _ s.below s.old, s.old, s.ne, by rw [set3_far s.ne]; exact s.p0, by rw [set3_far s.ne]; exact s.p1, by rw [set3_far s.ne]; exact s.p2, by rw [set3_far s.ne]; exact s.p3, s.r.put _ _ _ _ _ _ _⟩

/-- a value handed back -/
structure ValP (N D : Nat) (e : Ending) (w' : World) : Prop where
  out : ∃ (c : Nat) (v1 v2 : Value), e = .returned (.tuple #[.agg #[.bool false, v1, v2], .int .i8 c]) ∧ NatV w' v1 N ∧ NatV w' v2 D

set_option maxRecDepth 8000 in
set_option maxHeartbeats 2000000 in
/-- exact.Value of a finite rung -/
theorem value_rung {E M n : Nat} {e : Int} (h1 : 2 ≤ E) (h2 : E ≤ 11) (h3 : 2 ≤ M) (h4 : M ≤ 52) {cls man : Nat} {ex : Int} (pt : Parts E M n e cls man ex) (w : World) :
    Calls Oafg.prog 149 #[.agg #[.int .u8 E, .int .u8 M], .int .u64 (tieR E M n e : Nat)] w fun r w' => ValP (man * 2 ^ ex.toNat) (2 ^ (-ex).toNat) r w' ∧ Below w.heap.size w w' := by
  have HU : Hid _ := pt.call
  have hcls := pt.hcls
  have hman := pt.hman
  have hexb := pt.exb
  have HOK : Hid _ := fun ww => ok_yes h1 h2 h3 h4 ww
  have HF : Hid _ := fun ww => fromU64_any man hman ww
  have HSc : Hid (∀ ww v, NatV ww v man → Calls Oafg.prog 191 #[.bool false, v, .int .i64 ex] ww fun e w' => (∃ v1 v2, e = .returned (.agg #[.bool false, v1, v2]) ∧ NatV w' v1 (man * 2 ^ ex.toNat) ∧ NatV w' v2 (2 ^ (-ex).toNat)) ∧ Below ww.heap.size ww w') := fun ww v g => scaled_nat false g ex (by omega) (by omega) (Nat.le_trans (bl_le man 64 hman) (by decide))
  have hw9 : IntKind.i64.wrap ex = ex := by rw [wrap_i64']; omega
  generalize tieR E M n e = x at *
  generalize man * 2 ^ ex.toNat = N1 at *
  generalize 2 ^ (-ex).toNat = N2 at *
  have tc3 : ((cls : Int) == 3) = false := by rw [beq_eq_false_iff_ne]; omega
  have tc4 : ((cls : Int) == 4) = false := by rw [beq_eq_false_iff_ne]; omega
  clear pt hcls
  have HFS0 : Hid (FS w w.heap.size E M ((w.alloc (.cells #[.int .u8 E, .int .u8 M] 27)).alloc (.cells #[.bool false, .slice none 0 0, .slice none 0 0] 66))) := (FS.start (w := w) (E := E) (M := M)).call self1
  have HB40 : Hid (Bss ((w.alloc (.cells #[.int .u8 E, .int .u8 M] 27)).alloc (.cells #[.bool false, .slice none 0 0, .slice none 0 0] 66)) (w.heap.size + 1)) := by
    refine ⟨⟨false, ?_⟩, ⟨none, 0, 0, ?_⟩, ⟨none, 0, 0, ?_⟩, ?_, ?_, ?_⟩ <;> simp [go_sem]
  go_enter Oafg.func149, Oafg.ntmps149
  go_upto_region 4 with (first
    | (go_at_call 70; refine (HU.out _).mono ?_; rintro e w3 ⟨rfl, hb3⟩; have HF3 : Hid _ := HF2.out.call hb3; have HB43 : Hid _ := HB42.out.call hb3; clear hb3)
    | (go_at_call 54; refine (HOK.out _).mono ?_; rintro e w2 ⟨rfl, hb2⟩; have HF2 : Hid _ := HFS0.out.call hb2; have HB42 : Hid _ := HB40.out.call hb2; have c0 := HF2.out.cE; have c1 := HF2.out.cM; clear hb2))
  have hVS0 : VS w (w.heap.size + 1) w3.heap.size cls man ex (w3.alloc (.cells #[.bool false, .int .i8 cls, .int .i16 ex, .int .u64 man] 94)) := by
    have l4 : w.heap.size + 1 < w3.heap.size := by obtain ⟨b, e0⟩ := HB43.out.c0; exact World.block_lt_of_cell? _ _ e0
    refine ⟨bt HF3.out.below self1, by omega, by omega, ?_, ?_, ?_, ?_, HB43.out.call self1⟩ <;> simp [go_sem]
  generalize hW : w3.alloc (.cells #[.bool false, .int .i8 cls, .int .i16 ex, .int .u64 man] 94) = W at *
  obtain ⟨R6, hR6⟩ : ∃ R, R = w3.heap.size := ⟨_, rfl⟩
  obtain ⟨R4, hR4⟩ : ∃ R, R = w.heap.size + 1 := ⟨_, rfl⟩
  rw [← hR6, ← hR4] at hVS0
  simp only [← hR6]
  simp only [← hR4]
  have HVS : Hid _ := hVS0
  have d0 := hVS0.p0
  have d1 := hVS0.p1
  clear hVS0 hW hR6 hR4 HFS0 HB40 HF2 HB42 HF3 HB43 c0 c1 HU HOK
  go_upto_region 6 with fail
  have hS0 : VS w R4 R6 cls man ex W := HVS.out
  have y0 : ∀ w', VS w R4 R6 cls man ex w' → w'.cell? ⟨R6, 0, none⟩ = some (.bool false) := fun _ h => h.p0
  have y1 : ∀ w', VS w R4 R6 cls man ex w' → w'.cell? ⟨R6, 1, none⟩ = some (.int .i8 cls) := fun _ h => h.p1
  have y2 : ∀ w', VS w R4 R6 cls man ex w' → w'.cell? ⟨R6, 2, none⟩ = some (.int .i16 ex) := fun _ h => h.p2
  have y3 : ∀ w', VS w R4 R6 cls man ex w' → w'.cell? ⟨R6, 3, none⟩ = some (.int .u64 man) := fun _ h => h.p3
  have y4 : ∀ w', VS w R4 R6 cls man ex w' → w'.cell? ⟨R4, 0, none⟩ = some (cellv w' ⟨R4, 0, none⟩) := fun _ h => cellv_some (by obtain ⟨_, e⟩ := h.r.c0; rw [e]; rfl)
  have y5 : ∀ w', VS w R4 R6 cls man ex w' → w'.cell? ⟨R4, 1, none⟩ = some (cellv w' ⟨R4, 1, none⟩) := fun _ h => cellv_some (by obtain ⟨_, _, _, e⟩ := h.r.c1; rw [e]; rfl)
  have y6 : ∀ w', VS w R4 R6 cls man ex w' → w'.cell? ⟨R4, 2, none⟩ = some (cellv w' ⟨R4, 2, none⟩) := fun _ h => cellv_some (by obtain ⟨_, _, _, e⟩ := h.r.c2; rw [e]; rfl)
  have y7 : ∀ w', VS w R4 R6 cls man ex w' → w'.frozen? ⟨R4, 0, none⟩ = false := fun _ h => h.r.f0
  have y8 : ∀ w', VS w R4 R6 cls man ex w' → w'.frozen? ⟨R4, 1, none⟩ = false := fun _ h => h.r.f1
  have y9 : ∀ w', VS w R4 R6 cls man ex w' → w'.frozen? ⟨R4, 2, none⟩ = false := fun _ h => h.r.f2
  go_region_held3 (fun w' => VS w R4 R6 cls man ex w')
    (repeat' (first | with_reducible exact hSu | with_reducible exact hSv | with_reducible exact hS0 | with_reducible apply VS.drew | with_reducible apply VS.put))
    (first
      | (go_at_call 86; refine (HF.out _).mono ?_; rintro e w4 ⟨⟨v, rfl, hN⟩, hbu⟩; obtain ⟨a1, a2, a3, rfl⟩ := hN.sl; have hSu := VS.call (by assumption) hbu; have HN : Hid _ := hN; clear hN hbu)
      | (go_at_call 191; refine (HSc.out _ _ HN.out).mono ?_; rintro e w5 ⟨⟨v1, v2, rfl, hv1, hv2⟩, hbu2⟩; obtain ⟨i1, j1, k1, rfl⟩ := hv1.sl; obtain ⟨i2, j2, k2, rfl⟩ := hv2.sl; have hSv := VS.call (by assumption) hbu2; have HV1 : Hid _ := hv1; have HV2 : Hid _ := hv2; clear hbu2 hv1 hv2))
  all_goals
    rename_i hH
    go_wp2
    obtain ⟨z0, z1, z2⟩ := set3_own hSv.r (.bool false) (.slice i1 j1 k1) (.slice i2 j2 k2)
    have hB := hH.below
    have hV := HV1.out.setBS (.bool false) (.slice i1 j1 k1) (.slice i2 j2 k2) hSv.r.c0 hSv.r.c1 hSv.r.c2
    have hD := HV2.out.setBS (.bool false) (.slice i1 j1 k1) (.slice i2 j2 k2) hSv.r.c0 hSv.r.c1 hSv.r.c2
    generalize ((w5.setCell ⟨R4, 0, none⟩ (.bool false)).setCell ⟨R4, 1, none⟩ (.slice i1 j1 k1)).setCell ⟨R4, 2, none⟩ (.slice i2 j2 k2) = W8 at *
    exact bodyPost_ret (v := .tuple #[.agg #[.bool false, .slice i1 j1 k1, .slice i2 j2 k2], .int .i8 cls]) (by simp [results, Oafg.results149, go_sem, z0, z1, z2]) rfl ⟨⟨_, _, _, rfl, hV, hD⟩, hB⟩
end Go.Proofs.Ygcoaf
