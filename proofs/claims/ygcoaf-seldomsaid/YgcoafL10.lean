/-
  tab.Table.Ok.
-/
import Derived.Test.YgcoafL9
import Derived.Test.YgcoafY3
namespace Go.Proofs.Ygcoaf
open Go.RowKit Go.Proofs.Ygcoaf.M

/-- a table and what it holds -/
structure TV (w : World) (R : Nat) (H L : Nat → Nat) (X : Nat → Int) : Prop where
  m0 : ∀ i, i < 696 → H i < 18446744073709551616 ∧ w.cell? ⟨R, i * 2, none⟩ = some (.int .u64 (H i : Nat))
  m1 : ∀ i, i < 696 → L i < 18446744073709551616 ∧ w.cell? ⟨R, i * 2 + 1, none⟩ = some (.int .u64 (L i : Nat))
  ex : ∀ i, i < 696 → (-32768 ≤ X i ∧ X i ≤ 32767) ∧ w.cell? ⟨R, 1392 + i, none⟩ = some (.int .i16 (X i))
theorem TB.vals {w : World} {R : Nat} (t : TB w R) : ∃ H L X, TV w R H L X := by
  refine ⟨fun i => if h : i < 696 then Classical.choose (t.m0 i h) else 0, fun i => if h : i < 696 then Classical.choose (t.m1 i h) else 0, fun i => if h : i < 696 then Classical.choose (t.ex i h) else 0, fun i hi => ?_, fun i hi => ?_, fun i hi => ?_⟩
  · rw [dif_pos hi]; exact Classical.choose_spec (t.m0 i hi)
  · rw [dif_pos hi]; exact Classical.choose_spec (t.m1 i hi)
  · rw [dif_pos hi]; exact Classical.choose_spec (t.ex i hi)
theorem TV.in {w : World} {R : Nat} {H L : Nat → Nat} {X : Nat → Int} (t : TV w R H L X) : R < w.heap.size := World.block_lt_of_cell? _ _ (t.m0 0 (by decide)).2
theorem TV.call {w w' : World} {R : Nat} {H L : Nat → Nat} {X : Nat → Int} (t : TV w R H L X) (h : Below w.heap.size w w') : TV w' R H L X := by
  obtain ⟨hc, hf⟩ := bcell h
  have hl := t.in
  exact ⟨fun i hi => by rw [hc _ _ hl]; exact t.m0 i hi, fun i hi => by rw [hc _ _ hl]; exact t.m1 i hi, fun i hi => by rw [hc _ _ hl]; exact t.ex i hi⟩

/-- a table that is right -/
def Right (H L : Nat → Nat) (X : Nat → Int) : Prop := ∀ i : Nat, i < 696 → fitsB (H i) (L i) (X i) = true ∧ H i = entH ((i : Int) - 348) ∧ L i = entL ((i : Int) - 348) ∧ X i = entX ((i : Int) - 348)

structure OkP (H L : Nat → Nat) (X : Nat → Int) (e : Ending) : Prop where
  out : ∃ b, e = .returned (.bool b) ∧ (b = true → Right H L X)

/-- the entries' own part -/
def Mine (H L : Nat → Nat) (X : Nat → Int) (i : Nat) : Prop := H i = entH ((i : Int) - 348) ∧ L i = entL ((i : Int) - 348) ∧ X i = entX ((i : Int) - 348)

set_option maxRecDepth 8000 in
set_option maxHeartbeats 4000000 in
/-- tab.Table.Ok -/
theorem tabOk_any {w : World} {R : Nat} {H L : Nat → Nat} {X : Nat → Int} (t : TV w R H L X) :
    Calls Oafg.prog 88 #[.pointer (some ⟨R, 0, none⟩)] w fun e w' => OkP H L X e ∧ Below w.heap.size w w' := by
  have HT : Hid _ := t
  clear t
  go_enter Oafg.func88, Oafg.ntmps88
  go_wp2
  go_loopw [10] (fun i wr => ∃ t : Nat, t ≤ 696 ∧ i = .int .i64 t ∧ Hid (Below w.heap.size w wr) ∧ Hid (∀ j, j < t → fitsB (H j) (L j) (X j) = true)) (fun i _ => 696 - (intOf i).toNat)
  case atStart => exact ⟨0, by decide, rfl, Below.refl _ _, fun j h => absurd h (by omega)⟩
  case round =>
    obtain ⟨t, ht, rfl, hB, hF⟩ := hrel
    by_cases c : t < 696
    · have hT := HT.out.call hB.out
      obtain ⟨k0, k1⟩ := hT.m0 t c
      obtain ⟨k2, k3⟩ := hT.m1 t c
      obtain ⟨k4, k5⟩ := hT.ex t c
      have hlt := hT.in
      have hFi : Hid _ := fun ww => fits_any (H t) (L t) (X t) k0 ww
      obtain ⟨b, hb⟩ : ∃ b, b = fitsB (H t) (L t) (X t) := ⟨_, rfl⟩
      rw [← hb] at hFi
      have Hb : Hid _ := hb
      obtain ⟨h0, hh0⟩ : ∃ h0, h0 = H t := ⟨_, rfl⟩
      obtain ⟨l0, hl0⟩ : ∃ l0, l0 = L t := ⟨_, rfl⟩
      obtain ⟨x0, hx0⟩ : ∃ x0, x0 = X t := ⟨_, rfl⟩
      rw [← hh0] at k0 k1 hFi
      rw [← hl0] at k2 k3 hFi
      rw [← hx0] at k4 k5 hFi
      have hwne := HW.ne wr
      have r0 : ∀ x : HW wr, x.val.cell? ⟨R, t * 2, none⟩ = some (.int .u64 h0) := fun x => by rw [HB.cells _ x.ok _ _ hlt]; exact k1
      have r1 : ∀ x : HW wr, x.val.cell? ⟨R, t * 2 + 1, none⟩ = some (.int .u64 l0) := fun x => by rw [HB.cells _ x.ok _ _ hlt]; exact k3
      have r2 : ∀ x : HW wr, x.val.cell? ⟨R, 1392 + t, none⟩ = some (.int .i16 x0) := fun x => by rw [HB.cells _ x.ok _ _ hlt]; exact k5
      have ti0 : (0 : Int) ≤ (t : Int) := by omega
      have ti1 : (t : Int) < 696 := by omega
      clear hb hh0 hl0 hx0 hT HT k1 k3 k5
      go_upto_region 6 with fail
      refine quiet_held (by kernel_rfl) (by kernel_rfl) ?_
      repeat (go_big_quiet_step ((go_at_call 138; refine (hFi.out _).mono ?_; rintro e w2 ⟨rfl, hbu⟩; exact ⟨rfl, ⟨w2, HB.call (HW.ok _) hbu⟩, rfl⟩)))
      refine wpQuiet_nil ?_
      rintro _ ⟨x, rfl⟩
      cases b
      · go_wp2
        go_ret
        exact ⟨⟨false, rfl, fun h => absurd h (by decide)⟩, bt hB.out x.ok⟩
      · have hF2 : Hid (∀ j, j < t + 1 → fitsB (H j) (L j) (X j) = true) := fun j hj => by
          by_cases e : j = t
          · rw [e]; exact Hb.out.symm
          · exact hF.out j (by omega)
        go_wp2
        go_roundw
        case rel => exact ⟨t + 1, by omega, by go_num, bt hB.out x.ok, hF2⟩
        case measure => simp [intOf]; omega
    · obtain rfl : t = 696 := by omega
      go_wp2
      obtain ⟨wo, hwo⟩ : ∃ wo : World, wo = wr := ⟨_, rfl⟩
      have HB0 : Hid (Below w.heap.size w wo) := by rw [hwo]; exact hB
      rw [← hwo]
      clear hB hwo
      go_loopw [28] (fun i wr => ∃ t : Nat, t ≤ 696 ∧ i = .int .i64 t ∧ Hid (Below w.heap.size w wr) ∧ Hid (∀ j, j < t → Mine H L X j)) (fun i _ => 696 - (intOf i).toNat)
      case atStart => exact ⟨0, by decide, rfl, HB0, fun j h => absurd h (by omega)⟩
      case round =>
        obtain ⟨t, ht, rfl, hB, hG⟩ := hrel
        by_cases c : t < 696
        · obtain ⟨qq, hqq⟩ : ∃ qq : Int, (t : Int) - 348 = qq := ⟨_, rfl⟩
          have hq1 : -348 ≤ qq ∧ qq ≤ 347 := by omega
          have hEN : Hid _ := fun ww => tEntry_nat (q := qq) hq1.1 hq1.2 ww
          have hX := (ent_is qq (by omega) (by omega)).xb
          obtain ⟨EH, hEH⟩ : ∃ EH, EH = entH qq := ⟨_, rfl⟩
          obtain ⟨EL, hEL⟩ : ∃ EL, EL = entL qq := ⟨_, rfl⟩
          obtain ⟨EX, hEX⟩ : ∃ EX, EX = entX qq := ⟨_, rfl⟩
          rw [← hEH, ← hEL, ← hEX] at hEN
          rw [← hEX] at hX
          obtain ⟨h0, hh0⟩ : ∃ h0, h0 = H t := ⟨_, rfl⟩
          obtain ⟨l0, hl0⟩ : ∃ l0, l0 = L t := ⟨_, rfl⟩
          obtain ⟨x0, hx0⟩ : ∃ x0, x0 = X t := ⟨_, rfl⟩
          have HMi : Hid (h0 = EH → l0 = EL → x0 = EX → Mine H L X t) := fun a b c => by
            unfold Mine
            rw [hqq, ← hEH, ← hEL, ← hEX, ← hh0, ← hl0, ← hx0]
            exact ⟨a, b, c⟩
          have ti0 : (0 : Int) ≤ (t : Int) := by omega
          have ti1 : (t : Int) < 696 := by omega
          have Hh0 : Hid _ := hh0
          have Hl0 : Hid _ := hl0
          have Hx0 : Hid _ := hx0
          clear hEH hEL hEX hh0 hl0 hx0
          go_upto_region 13 with (go_at_call 139; refine (hEN.out _).mono ?_; rintro e w3 ⟨rfl, hb3⟩; have HB3 : Hid _ := bt hB.out hb3; clear hb3)
          have HBW : Hid (Below w.heap.size w (w3.alloc (.cells #[.int .u64 EH, .int .u64 EL] 111))) := bt HB3.out self1
          have e0 : (w3.alloc (.cells #[.int .u64 EH, .int .u64 EL] 111)).cell? ⟨w3.heap.size, 0, none⟩ = some (.int .u64 EH) := by simp [go_sem]
          have e1 : (w3.alloc (.cells #[.int .u64 EH, .int .u64 EL] 111)).cell? ⟨w3.heap.size, 1, none⟩ = some (.int .u64 EL) := by simp [go_sem]
          generalize hW : w3.alloc (.cells #[.int .u64 EH, .int .u64 EL] 111) = W at *
          obtain ⟨R5, hR5⟩ : ∃ R5, R5 = w3.heap.size := ⟨_, rfl⟩
          rw [← hR5] at e0 e1
          simp only [← hR5]
          have hT := HT.out.call HBW.out
          obtain ⟨_, k1⟩ := hT.m0 t c
          obtain ⟨_, k3⟩ := hT.m1 t c
          obtain ⟨k4, k5⟩ := hT.ex t c
          have hlt := hT.in
          rw [← Hh0.out] at k1
          rw [← Hl0.out] at k3
          rw [← Hx0.out] at k4 k5
          have hlt5 := World.block_lt_of_cell? _ _ e0
          have hwne := HW.ne W
          have r0 : ∀ x : HW W, x.val.cell? ⟨R, t * 2, none⟩ = some (.int .u64 h0) := fun x => by rw [HB.cells _ x.ok _ _ hlt]; exact k1
          have r1 : ∀ x : HW W, x.val.cell? ⟨R, t * 2 + 1, none⟩ = some (.int .u64 l0) := fun x => by rw [HB.cells _ x.ok _ _ hlt]; exact k3
          have r2 : ∀ x : HW W, x.val.cell? ⟨R, 1392 + t, none⟩ = some (.int .i16 x0) := fun x => by rw [HB.cells _ x.ok _ _ hlt]; exact k5
          have r3 : ∀ x : HW W, x.val.cell? ⟨R5, 0, none⟩ = some (.int .u64 EH) := fun x => by rw [HB.cells _ x.ok _ _ hlt5]; exact e0
          have r4 : ∀ x : HW W, x.val.cell? ⟨R5, 1, none⟩ = some (.int .u64 EL) := fun x => by rw [HB.cells _ x.ok _ _ hlt5]; exact e1
          clear k1 k3 k5 hT e0 e1 hW hR5 hEN HB3
          by_cases y0 : h0 = EH
          · by_cases y1 : l0 = EL
            · by_cases y2 : x0 = EX
              · have hM2 : Hid (∀ j, j < t + 1 → Mine H L X j) := fun j hj => by
                  by_cases e : j = t
                  · rw [e]; exact HMi.out y0 y1 y2
                  · exact hG.out j (by omega)
                clear HMi Hh0 Hl0 Hx0
                subst y0 y1 y2
                refine quiet_held (by kernel_rfl) (by kernel_rfl) ?_
                repeat (go_big_quiet_step (fail))
                refine wpQuiet_nil ?_
                rintro _ ⟨x, rfl⟩
                go_wp2
                go_roundw
                case rel => exact ⟨_, _, _, _, _, _, ⟨t + 1, by omega, by go_num, bt HBW.out x.ok, hM2⟩, rfl, rfl, rfl, rfl, rfl, rfl⟩
                case measure => simp [intOf]; omega
              · have z2 : (x0 == EX) = false := by rw [beq_eq_false_iff_ne]; exact y2
                clear HMi Hh0 Hl0 Hx0
                subst y0 y1
                refine quiet_held (by kernel_rfl) (by kernel_rfl) ?_
                repeat (go_big_quiet_step (fail))
                refine wpQuiet_nil ?_
                rintro _ ⟨x, rfl⟩
                go_wp2
                go_ret
                exact ⟨⟨false, rfl, fun h => absurd h (by decide)⟩, bt HBW.out x.ok⟩
            · have z1 : ((l0 : Int) == (EL : Int)) = false := by rw [beq_eq_false_iff_ne]; omega
              clear HMi Hh0 Hl0 Hx0
              subst y0
              refine quiet_held (by kernel_rfl) (by kernel_rfl) ?_
              repeat (go_big_quiet_step (fail))
              refine wpQuiet_nil ?_
              rintro _ ⟨x, rfl⟩
              go_wp2
              go_ret
              exact ⟨⟨false, rfl, fun h => absurd h (by decide)⟩, bt HBW.out x.ok⟩
          · have z0 : ((h0 : Int) == (EH : Int)) = false := by rw [beq_eq_false_iff_ne]; omega
            clear HMi Hh0 Hl0 Hx0
            refine quiet_held (by kernel_rfl) (by kernel_rfl) ?_
            repeat (go_big_quiet_step (fail))
            refine wpQuiet_nil ?_
            rintro _ ⟨x, rfl⟩
            go_wp2
            go_ret
            exact ⟨⟨false, rfl, fun h => absurd h (by decide)⟩, bt HBW.out x.ok⟩
        · obtain rfl : t = 696 := by omega
          go_wp2
          go_ret
          exact ⟨⟨true, rfl, fun _ i hi => ⟨hF.out i hi, hG.out i hi⟩⟩, hB.out⟩
end Go.Proofs.Ygcoaf
