/-
  clinger.Clinger.
-/
import Derived.Test.YgcoafY2
import Derived.Laws.FloatArith
namespace Go.Proofs.Ygcoaf
open Go.RowKit Go.Proofs.Ygcoaf.M

theorem cbits64 (x : Nat) (w : World) : Calls Oafg.prog 79 #[.float .f64 x] w fun e w' => e = .returned (.int .u64 x) ∧ w' = w := by
  have h := run_f64bits
  go_enter Oafg.func79, Oafg.ntmps79
  go_wp2
  go_ret
  exact ⟨rfl, rfl⟩
theorem cbits32 (x : Nat) (w : World) : Calls Oafg.prog 81 #[.float .f32 x] w fun e w' => e = .returned (.int .u32 x) ∧ w' = w := by
  have h := run_f32bits
  go_enter Oafg.func81, Oafg.ntmps81
  go_wp2
  go_ret
  exact ⟨rfl, rfl⟩

theorem conv64 (man : Nat) (h : man ≤ 9007199254740992) : Whole 11 52 (floatOfInt .f64 (man : Int)) man := by
  have e : floatOfInt .f64 (man : Int) = (Ieee.Format.mk 11 52).nearest false man 0 := by
    show (Ieee.Format.mk 11 52).nearest (decide ((man : Int) < 0)) (man : Int).natAbs 0 = _
    rw [decide_eq_false (by omega)]; rfl
  rw [e]
  by_cases h0 : man = 0
  · subst h0
    rw [nearest_zero]
    exact ⟨0, _, rfl, by simp, fun c => absurd rfl c, fun _ => rfl⟩
  by_cases h1 : man = 9007199254740992
  · subst h1
    exact wholeB_yes (by kernel_rfl)
  · obtain ⟨m, i, r, z, y⟩ := read_exact 11 52 (by decide) (by decide) man h0 (by show man < 2 ^ 53; omega)
    exact ⟨m, i, r, y, fun _ => z, fun c => absurd c h0⟩
theorem conv32 (man : Nat) (h : man ≤ 16777216) : Whole 8 23 (floatOfInt .f32 (man : Int)) man := by
  have e : floatOfInt .f32 (man : Int) = (Ieee.Format.mk 8 23).nearest false man 0 := by
    show (Ieee.Format.mk 8 23).nearest (decide ((man : Int) < 0)) (man : Int).natAbs 0 = _
    rw [decide_eq_false (by omega)]; rfl
  rw [e]
  by_cases h0 : man = 0
  · subst h0
    rw [nearest_zero]
    exact ⟨0, _, rfl, by simp, fun c => absurd rfl c, fun _ => rfl⟩
  by_cases h1 : man = 16777216
  · subst h1
    exact wholeB_yes (by kernel_rfl)
  · obtain ⟨m, i, r, z, y⟩ := read_exact 8 23 (by decide) (by decide) man h0 (by show man < 2 ^ 24; omega)
    exact ⟨m, i, r, y, fun _ => z, fun c => absurd c h0⟩

theorem ten_ne (q : Nat) : 10 ^ q ≠ 0 := by have := Nat.pow_pos (n := q) (show 0 < 10 by decide); omega

theorem mul64 {a b man : Nat} {q : Nat} (ha : Whole 11 52 a man) (hb : Whole 11 52 b (10 ^ q)) (w : World) : (binOp .mul 89 (.float .f64 a) (.float .f64 b)).run Oafg.prog w = .ok (.float .f64 (rfV 11 52 0 false (man * 10 ^ q) 1)) w :=
  run_float_arith w .mul 89 .f64 a b _ (whole_mul (by decide) (by decide) ha hb (ten_ne q))
theorem div64 {a b man : Nat} {q : Nat} (ha : Whole 11 52 a man) (hb : Whole 11 52 b (10 ^ q)) (w : World) : (binOp .quo 89 (.float .f64 a) (.float .f64 b)).run Oafg.prog w = .ok (.float .f64 (rfV 11 52 0 false man (10 ^ q))) w :=
  run_float_arith w .quo 89 .f64 a b _ (whole_div (by decide) (by decide) ha hb (ten_ne q))
theorem mul32f {a b man : Nat} {q : Nat} (ha : Whole 8 23 a man) (hb : Whole 8 23 b (10 ^ q)) (w : World) : (binOp .mul 84 (.float .f32 a) (.float .f32 b)).run Oafg.prog w = .ok (.float .f32 (rfV 8 23 0 false (man * 10 ^ q) 1)) w :=
  run_float_arith w .mul 84 .f32 a b _ (whole_mul (by decide) (by decide) ha hb (ten_ne q))
theorem div32f {a b man : Nat} {q : Nat} (ha : Whole 8 23 a man) (hb : Whole 8 23 b (10 ^ q)) (w : World) : (binOp .quo 84 (.float .f32 a) (.float .f32 b)).run Oafg.prog w = .ok (.float .f32 (rfV 8 23 0 false man (10 ^ q))) w :=
  run_float_arith w .quo 84 .f32 a b _ (whole_div (by decide) (by decide) ha hb (ten_ne q))

/-- a pattern of the small format fits its word -/
theorem rfV_lt32 (A B : Nat) : rfV 8 23 0 false A B < 4294967296 := by
  have hi := infR_lt 8 23
  have hp : (2 : Nat) ^ (8 + 23) = 2147483648 := by decide
  have ho : ovf 8 23 0 false = infR 8 23 := by unfold ovf; simp [sgn]
  unfold rfV
  split
  · simp [sgn]
  · split
    · omega
    · unfold packV
      split
      · omega
      · simp only [sgn]; simp; omega

/-- where Clinger answers -/
def serv64 (E M man : Nat) (q : Int) : Bool := decide (E = 11) && decide (M = 52) && decide (man ≤ 9007199254740992) && decide (-22 ≤ q) && decide (q ≤ 22)
def serv32 (E M man : Nat) (q : Int) : Bool := decide (E = 8) && decide (M = 23) && decide (man ≤ 16777216) && decide (-10 ≤ q) && decide (q ≤ 10)
def cliV (E M man : Nat) (q : Int) : Nat := if serv64 E M man q = true ∨ serv32 E M man q = true then rfV E M 0 false (man * 10 ^ q.toNat) (10 ^ (-q).toNat) else 0

/-- the format's cells -/
structure FC (w : World) (R E M : Nat) (w' : World) : Prop where
  below : Below w.heap.size w w'
  cE : w'.cell? ⟨R, 0, none⟩ = some (.int .u8 E)
  cM : w'.cell? ⟨R, 1, none⟩ = some (.int .u8 M)
theorem FC.call {w W w' : World} {R E M : Nat} (s : FC w R E M W) (h : Below W.heap.size W w') : FC w R E M w' := by
  have l9 : R < W.heap.size := World.block_lt_of_cell? _ _ s.cE
  obtain ⟨hc, hf⟩ := bcell h
  exact ⟨bt s.below h, by rw [hc _ _ l9]; exact s.cE, by rw [hc _ _ l9]; exact s.cM⟩

/-- a world in which every block that was there reads as it did -/
structure HW (W : World) where
  val : World
  ok : HB W val
theorem HW.ne (W : World) : Nonempty (HW W) := ⟨⟨W, HB.start⟩⟩
/-- a region that draws its order, whose callees make memory and write none: one walk -/
theorem quiet_held {P : Program} {id : Nat} {Q : Exit → Act → World → Prop} {a : Act} {w : World} {l : List Oper} (hm : P.follows .mixedOrders = true) (hB : Region.lexB .any l.toArray = true)
    (h : wpQuiet P l.toArray (fun w' => ∃ x : HW w, w' = x.val) (fun a' => ∀ w', (∃ x : HW w, w' = x.val) → Q .normal a' w') l a) : (Code.region id l.toArray true).wp P Q a w :=
  wp_region_quiet (C := fun w' => ∃ x : HW w, w' = x.val) hm hB ⟨⟨w.drew, HB.start.drew⟩, rfl⟩ (by simpa using h)

set_option maxHeartbeats 4000000 in
/-- clinger.Clinger -/
theorem clinger_any (E M man : Nat) (q : Int) (hman : man < 18446744073709551616) (hq : -32768 ≤ q ∧ q ≤ 32767) (w : World) :
    Calls Oafg.prog 46 #[.agg #[.int .u8 E, .int .u8 M], .int .u64 man, .int .i16 q] w fun r w' => r = .returned (.tuple #[.int .u64 (cliV E M man q : Nat), .bool (serv64 E M man q || serv32 E M man q)]) ∧ Below w.heap.size w w' := by
  obtain ⟨V, hV⟩ : ∃ V, V = cliV E M man q := ⟨_, rfl⟩
  obtain ⟨b1, hb1⟩ : ∃ b1, b1 = serv64 E M man q := ⟨_, rfl⟩
  obtain ⟨b2, hb2⟩ : ∃ b2, b2 = serv32 E M man q := ⟨_, rfl⟩
  obtain ⟨bb, hbb⟩ : ∃ bb, bb = (b1 || b2) := ⟨_, rfl⟩
  unfold cliV at hV
  rw [← hb1, ← hb2] at hV
  rw [← hb1, ← hb2, ← hbb]
  unfold cliV
  rw [← hb1, ← hb2, ← hV]
  unfold serv64 at hb1
  unfold serv32 at hb2
  have HV : Hid _ := hV
  have H1 : Hid _ := hb1
  have H2 : Hid _ := hb2
  have HBB : Hid _ := hbb
  have HBI64 : Hid _ := fun ww => binary64_any ww
  have HBI32 : Hid _ := fun ww => binary32_any ww
  clear hV hb1 hb2 hbb
  go_enter Oafg.func46, Oafg.ntmps46
  go_wp2
  have hPK : FC w w.heap.size E M (w.alloc (.cells #[.int .u8 E, .int .u8 M] 27)) := ⟨self1, by simp [go_sem], by simp [go_sem]⟩
  generalize hW : w.alloc (.cells #[.int .u8 E, .int .u8 M] 27) = W at hPK ⊢
  obtain ⟨R, hR⟩ : ∃ R, R = w.heap.size := ⟨_, rfl⟩
  simp only [← hR]
  have hPK' : FC w R E M W := by rw [hR]; exact hPK
  have HPK : Hid _ := hPK'
  have c0 := hPK'.cE
  have c1 := hPK'.cM
  have hlt := World.block_lt_of_cell? _ _ c0
  simp only at hlt
  clear hPK hPK' hW hR
  go_cut [8] (fun t w' => t = .bool b1 ∧ Hid (FC w R E M w'))
  case first =>
    have hwne := HW.ne W
    have x0 : ∀ x : HW W, x.val.cell? ⟨R, 0, none⟩ = some (.int .u8 E) := fun x => by rw [HB.cells _ x.ok _ _ hlt]; exact c0
    have x1 : ∀ x : HW W, x.val.cell? ⟨R, 1, none⟩ = some (.int .u8 M) := fun x => by rw [HB.cells _ x.ok _ _ hlt]; exact c1
    by_cases e1 : E = 11
    · have tE : ((E : Int) == 11) = true := by rw [beq_iff_eq]; omega
      by_cases e2 : M = 52
      · have tM : ((M : Int) == 52) = true := by rw [beq_iff_eq]; omega
        by_cases m1 : man ≤ 9007199254740992
        · have tm : ((man : Int) ≤ 9007199254740992) := by omega
          by_cases q1 : -22 ≤ q
          · by_cases q2 : q ≤ 22
            · obtain rfl : b1 = true := by rw [H1.out]; simp [e1, e2, m1, q1, q2]
              clear HV H1 H2 HBB HBI32 e1 e2
              refine quiet_held (by kernel_rfl) (by kernel_rfl) ?_
              repeat (go_big_quiet_step ((go_at_call 20; refine (HBI64.out _).mono ?_; rintro e w2 ⟨rfl, hbu⟩; exact ⟨rfl, ⟨w2, HB.call (HW.ok _) hbu⟩, rfl⟩)))
              refine wpQuiet_nil ?_
              rintro _ ⟨x, rfl⟩
              go_wp2_with fail
              go_meet
              case rel => exact ⟨rfl, HPK.out.call x.ok⟩
            · obtain rfl : b1 = false := by rw [H1.out]; simp [q2]
              have tq : decide (q ≤ 22) = false := decide_eq_false q2
              clear HV H1 H2 HBB HBI32 e1 e2 q2
              refine quiet_held (by kernel_rfl) (by kernel_rfl) ?_
              repeat (go_big_quiet_step ((go_at_call 20; refine (HBI64.out _).mono ?_; rintro e w2 ⟨rfl, hbu⟩; exact ⟨rfl, ⟨w2, HB.call (HW.ok _) hbu⟩, rfl⟩)))
              refine wpQuiet_nil ?_
              rintro _ ⟨x, rfl⟩
              go_wp2_with fail
              go_meet
              case rel => exact ⟨rfl, HPK.out.call x.ok⟩
          · obtain rfl : b1 = false := by rw [H1.out]; simp [q1]
            have tq : decide (-22 ≤ q) = false := decide_eq_false q1
            clear HV H1 H2 HBB HBI32 e1 e2 q1
            refine quiet_held (by kernel_rfl) (by kernel_rfl) ?_
            repeat (go_big_quiet_step ((go_at_call 20; refine (HBI64.out _).mono ?_; rintro e w2 ⟨rfl, hbu⟩; exact ⟨rfl, ⟨w2, HB.call (HW.ok _) hbu⟩, rfl⟩)))
            refine wpQuiet_nil ?_
            rintro _ ⟨x, rfl⟩
            go_wp2_with fail
            go_meet
            case rel => exact ⟨rfl, HPK.out.call x.ok⟩
        · obtain rfl : b1 = false := by rw [H1.out]; simp [m1]
          have tm : decide ((man : Int) ≤ 9007199254740992) = false := decide_eq_false (by omega)
          clear HV H1 H2 HBB HBI32 e1 e2 m1
          refine quiet_held (by kernel_rfl) (by kernel_rfl) ?_
          repeat (go_big_quiet_step ((go_at_call 20; refine (HBI64.out _).mono ?_; rintro e w2 ⟨rfl, hbu⟩; exact ⟨rfl, ⟨w2, HB.call (HW.ok _) hbu⟩, rfl⟩)))
          refine wpQuiet_nil ?_
          rintro _ ⟨x, rfl⟩
          go_wp2_with fail
          go_meet
          case rel => exact ⟨rfl, HPK.out.call x.ok⟩
      · obtain rfl : b1 = false := by rw [H1.out]; simp [e2]
        have tM : ((M : Int) == 52) = false := by rw [beq_eq_false_iff_ne]; omega
        clear HV H1 H2 HBB HBI32 e1 e2
        refine quiet_held (by kernel_rfl) (by kernel_rfl) ?_
        repeat (go_big_quiet_step ((go_at_call 20; refine (HBI64.out _).mono ?_; rintro e w2 ⟨rfl, hbu⟩; exact ⟨rfl, ⟨w2, HB.call (HW.ok _) hbu⟩, rfl⟩)))
        refine wpQuiet_nil ?_
        rintro _ ⟨x, rfl⟩
        go_wp2_with fail
        go_meet
        case rel => exact ⟨rfl, HPK.out.call x.ok⟩
    · obtain rfl : b1 = false := by rw [H1.out]; simp [e1]
      have tE : ((E : Int) == 11) = false := by rw [beq_eq_false_iff_ne]; omega
      clear HV H1 H2 HBB HBI32 e1
      refine quiet_held (by kernel_rfl) (by kernel_rfl) ?_
      repeat (go_big_quiet_step ((go_at_call 20; refine (HBI64.out _).mono ?_; rintro e w2 ⟨rfl, hbu⟩; exact ⟨rfl, ⟨w2, HB.call (HW.ok _) hbu⟩, rfl⟩)))
      refine wpQuiet_nil ?_
      rintro _ ⟨x, rfl⟩
      go_wp2_with fail
      go_meet
      case rel => exact ⟨rfl, HPK.out.call x.ok⟩
  case rest =>
    obtain ⟨rfl, hK⟩ := hcut
    have c0 := hK.out.cE
    have c1 := hK.out.cM
    have hlt := World.block_lt_of_cell? _ _ c0
    simp only at hlt
    clear HPK
    cases b1
    case true =>
      have hh : E = 11 ∧ M = 52 ∧ man ≤ 9007199254740992 ∧ -22 ≤ q ∧ q ≤ 22 := by have := H1.out; simp at this; omega
      obtain ⟨e1, e2, m1, q1, q2⟩ := hh
      have hV : V = rfV 11 52 0 false (man * 10 ^ q.toNat) (10 ^ (-q).toNat) := by rw [HV.out, if_pos (Or.inl rfl), e1, e2]
      obtain rfl : bb = true := by rw [HBB.out]; rfl
      obtain ⟨cv, hcv'⟩ : ∃ cv, cv = floatOfInt .f64 (man : Int) := ⟨_, rfl⟩
      have hcv : Hid (Whole 11 52 cv man) := by rw [hcv']; exact conv64 man m1
      have hcv2 : floatOfInt .f64 (man : Int) = cv := hcv'.symm
      clear HV H1 H2 HBB HBI64 HBI32 e1 e2 hcv'
      by_cases c : q < 0
      · obtain ⟨j, hj⟩ : ∃ j : Nat, j = (-q).toNat := ⟨_, rfl⟩
        have f1 : -q = (j : Int) := by omega
        have hz : q.toNat = 0 := by omega
        have hv : rfV 11 52 0 false man (10 ^ j) = V := by rw [hV, hz, ← hj, Nat.pow_zero, Nat.mul_one]
        have hTT : Hid (∀ ww, Calls Oafg.prog 80 #[.int .i16 j] ww fun e w' => (∃ b, e = .returned (.float .f64 b) ∧ Whole 11 52 b (10 ^ j)) ∧ w' = ww) := fun ww => ten64_any j (by omega) ww
        have hDV : Hid (∀ b, Whole 11 52 b (10 ^ j) → ∀ ww, (binOp .quo 89 (.float .f64 cv) (.float .f64 b)).run Oafg.prog ww = .ok (.float .f64 V) ww) := fun b hb ww => by rw [← hv]; exact div64 hcv.out hb ww
        have hj2 : j ≤ 22 := by omega
        clear hz hv hV hj
        go_wp2_with (first
          | (go_at_call 80; refine (hTT.out _).mono ?_; rintro e w2 ⟨⟨b, rfl, hwb⟩, hw2⟩; have hw2 := hw2.symm; subst hw2; have hdv := hDV.out b hwb)
          | (go_at_call 79; refine (cbits64 _ _).mono ?_; rintro e w3 ⟨rfl, hw3⟩; have hw3 := hw3.symm; subst hw3))
        go_ret2
        exact ⟨rfl, hK.out.below⟩
      · obtain ⟨j, rfl⟩ : ∃ j : Nat, q = (j : Int) := ⟨q.toNat, by omega⟩
        have hz : (-(j : Int)).toNat = 0 := by omega
        have hv : rfV 11 52 0 false (man * 10 ^ j) 1 = V := by rw [hV, hz, Int.toNat_natCast, Nat.pow_zero]
        have hTT : Hid (∀ ww, Calls Oafg.prog 80 #[.int .i16 j] ww fun e w' => (∃ b, e = .returned (.float .f64 b) ∧ Whole 11 52 b (10 ^ j)) ∧ w' = ww) := fun ww => ten64_any j (by omega) ww
        have hDV : Hid (∀ b, Whole 11 52 b (10 ^ j) → ∀ ww, (binOp .mul 89 (.float .f64 cv) (.float .f64 b)).run Oafg.prog ww = .ok (.float .f64 V) ww) := fun b hb ww => by rw [← hv]; exact mul64 hcv.out hb ww
        clear hz hv hV
        go_wp2_with (first
          | (go_at_call 80; refine (hTT.out _).mono ?_; rintro e w2 ⟨⟨b, rfl, hwb⟩, hw2⟩; have hw2 := hw2.symm; subst hw2; have hdv := hDV.out b hwb)
          | (go_at_call 79; refine (cbits64 _ _).mono ?_; rintro e w3 ⟨rfl, hw3⟩; have hw3 := hw3.symm; subst hw3))
        go_ret2
        exact ⟨rfl, hK.out.below⟩
    case false =>
      go_upto_region 5 with fail
      go_cut [39] (fun t w' => t = .bool b2 ∧ Hid (FC w R E M w'))
      case first =>
        have hwne := HW.ne wc
        have x0 : ∀ x : HW wc, x.val.cell? ⟨R, 0, none⟩ = some (.int .u8 E) := fun x => by rw [HB.cells _ x.ok _ _ hlt]; exact c0
        have x1 : ∀ x : HW wc, x.val.cell? ⟨R, 1, none⟩ = some (.int .u8 M) := fun x => by rw [HB.cells _ x.ok _ _ hlt]; exact c1
        by_cases e1 : E = 8
        · have tE : ((E : Int) == 8) = true := by rw [beq_iff_eq]; omega
          by_cases e2 : M = 23
          · have tM : ((M : Int) == 23) = true := by rw [beq_iff_eq]; omega
            by_cases m1 : man ≤ 16777216
            · have tm : ((man : Int) ≤ 16777216) := by omega
              by_cases q1 : -10 ≤ q
              · by_cases q2 : q ≤ 10
                · obtain rfl : b2 = true := by rw [H2.out]; simp [e1, e2, m1, q1, q2]
                  clear HV H1 H2 HBB e1 e2
                  refine quiet_held (by kernel_rfl) (by kernel_rfl) ?_
                  repeat (go_big_quiet_step ((go_at_call 17; refine (HBI32.out _).mono ?_; rintro e w2 ⟨rfl, hbu⟩; exact ⟨rfl, ⟨w2, HB.call (HW.ok _) hbu⟩, rfl⟩)))
                  refine wpQuiet_nil ?_
                  rintro _ ⟨x, rfl⟩
                  go_wp2_with fail
                  go_meet
                  case rel => exact ⟨rfl, hK.out.call x.ok⟩
                · obtain rfl : b2 = false := by rw [H2.out]; simp [q2]
                  have tq : decide (q ≤ 10) = false := decide_eq_false q2
                  clear HV H1 H2 HBB e1 e2 q2
                  refine quiet_held (by kernel_rfl) (by kernel_rfl) ?_
                  repeat (go_big_quiet_step ((go_at_call 17; refine (HBI32.out _).mono ?_; rintro e w2 ⟨rfl, hbu⟩; exact ⟨rfl, ⟨w2, HB.call (HW.ok _) hbu⟩, rfl⟩)))
                  refine wpQuiet_nil ?_
                  rintro _ ⟨x, rfl⟩
                  go_wp2_with fail
                  go_meet
                  case rel => exact ⟨rfl, hK.out.call x.ok⟩
              · obtain rfl : b2 = false := by rw [H2.out]; simp [q1]
                have tq : decide (-10 ≤ q) = false := decide_eq_false q1
                clear HV H1 H2 HBB e1 e2 q1
                refine quiet_held (by kernel_rfl) (by kernel_rfl) ?_
                repeat (go_big_quiet_step ((go_at_call 17; refine (HBI32.out _).mono ?_; rintro e w2 ⟨rfl, hbu⟩; exact ⟨rfl, ⟨w2, HB.call (HW.ok _) hbu⟩, rfl⟩)))
                refine wpQuiet_nil ?_
                rintro _ ⟨x, rfl⟩
                go_wp2_with fail
                go_meet
                case rel => exact ⟨rfl, hK.out.call x.ok⟩
            · obtain rfl : b2 = false := by rw [H2.out]; simp [m1]
              have tm : decide ((man : Int) ≤ 16777216) = false := decide_eq_false (by omega)
              clear HV H1 H2 HBB e1 e2 m1
              refine quiet_held (by kernel_rfl) (by kernel_rfl) ?_
              repeat (go_big_quiet_step ((go_at_call 17; refine (HBI32.out _).mono ?_; rintro e w2 ⟨rfl, hbu⟩; exact ⟨rfl, ⟨w2, HB.call (HW.ok _) hbu⟩, rfl⟩)))
              refine wpQuiet_nil ?_
              rintro _ ⟨x, rfl⟩
              go_wp2_with fail
              go_meet
              case rel => exact ⟨rfl, hK.out.call x.ok⟩
          · obtain rfl : b2 = false := by rw [H2.out]; simp [e2]
            have tM : ((M : Int) == 23) = false := by rw [beq_eq_false_iff_ne]; omega
            clear HV H1 H2 HBB e1 e2
            refine quiet_held (by kernel_rfl) (by kernel_rfl) ?_
            repeat (go_big_quiet_step ((go_at_call 17; refine (HBI32.out _).mono ?_; rintro e w2 ⟨rfl, hbu⟩; exact ⟨rfl, ⟨w2, HB.call (HW.ok _) hbu⟩, rfl⟩)))
            refine wpQuiet_nil ?_
            rintro _ ⟨x, rfl⟩
            go_wp2_with fail
            go_meet
            case rel => exact ⟨rfl, hK.out.call x.ok⟩
        · obtain rfl : b2 = false := by rw [H2.out]; simp [e1]
          have tE : ((E : Int) == 8) = false := by rw [beq_eq_false_iff_ne]; omega
          clear HV H1 H2 HBB e1
          refine quiet_held (by kernel_rfl) (by kernel_rfl) ?_
          repeat (go_big_quiet_step ((go_at_call 17; refine (HBI32.out _).mono ?_; rintro e w2 ⟨rfl, hbu⟩; exact ⟨rfl, ⟨w2, HB.call (HW.ok _) hbu⟩, rfl⟩)))
          refine wpQuiet_nil ?_
          rintro _ ⟨x, rfl⟩
          go_wp2_with fail
          go_meet
          case rel => exact ⟨rfl, hK.out.call x.ok⟩
      case rest =>
        obtain ⟨rfl, hK⟩ := hcut
        cases b2
        case true =>
          have hh : E = 8 ∧ M = 23 ∧ man ≤ 16777216 ∧ -10 ≤ q ∧ q ≤ 10 := by have := H2.out; simp at this; omega
          obtain ⟨e1, e2, m1, q1, q2⟩ := hh
          have hV : V = rfV 8 23 0 false (man * 10 ^ q.toNat) (10 ^ (-q).toNat) := by rw [HV.out, if_pos (Or.inr rfl), e1, e2]
          obtain rfl : bb = true := by rw [HBB.out]; rfl
          obtain ⟨cv, hcv'⟩ : ∃ cv, cv = floatOfInt .f32 (man : Int) := ⟨_, rfl⟩
          have hcv : Hid (Whole 8 23 cv man) := by rw [hcv']; exact conv32 man m1
          have hcv2 : floatOfInt .f32 (man : Int) = cv := hcv'.symm
          have hV32 : V < 4294967296 := by rw [hV]; exact rfV_lt32 _ _
          clear HV H1 H2 HBB HBI64 HBI32 e1 e2 hcv'
          by_cases c : q < 0
          · obtain ⟨j, hj⟩ : ∃ j : Nat, j = (-q).toNat := ⟨_, rfl⟩
            have f1 : -q = (j : Int) := by omega
            have hz : q.toNat = 0 := by omega
            have hv : rfV 8 23 0 false man (10 ^ j) = V := by rw [hV, hz, ← hj, Nat.pow_zero, Nat.mul_one]
            have hTT : Hid (∀ ww, Calls Oafg.prog 82 #[.int .i16 j] ww fun e w' => (∃ b, e = .returned (.float .f32 b) ∧ Whole 8 23 b (10 ^ j)) ∧ w' = ww) := fun ww => ten32_any j (by omega) ww
            have hDV : Hid (∀ b, Whole 8 23 b (10 ^ j) → ∀ ww, (binOp .quo 84 (.float .f32 cv) (.float .f32 b)).run Oafg.prog ww = .ok (.float .f32 V) ww) := fun b hb ww => by rw [← hv]; exact div32f hcv.out hb ww
            have hj2 : j ≤ 10 := by omega
            clear hz hv hV hj
            go_wp2_with (first
              | (go_at_call 82; refine (hTT.out _).mono ?_; rintro e w2 ⟨⟨b, rfl, hwb⟩, hw2⟩; have hw2 := hw2.symm; subst hw2; have hdv := hDV.out b hwb)
              | (go_at_call 81; refine (cbits32 _ _).mono ?_; rintro e w3 ⟨rfl, hw3⟩; have hw3 := hw3.symm; subst hw3))
            go_ret2
            exact ⟨rfl, hK.out.below⟩
          · obtain ⟨j, rfl⟩ : ∃ j : Nat, q = (j : Int) := ⟨q.toNat, by omega⟩
            have hz : (-(j : Int)).toNat = 0 := by omega
            have hv : rfV 8 23 0 false (man * 10 ^ j) 1 = V := by rw [hV, hz, Int.toNat_natCast, Nat.pow_zero]
            have hTT : Hid (∀ ww, Calls Oafg.prog 82 #[.int .i16 j] ww fun e w' => (∃ b, e = .returned (.float .f32 b) ∧ Whole 8 23 b (10 ^ j)) ∧ w' = ww) := fun ww => ten32_any j (by omega) ww
            have hDV : Hid (∀ b, Whole 8 23 b (10 ^ j) → ∀ ww, (binOp .mul 84 (.float .f32 cv) (.float .f32 b)).run Oafg.prog ww = .ok (.float .f32 V) ww) := fun b hb ww => by rw [← hv]; exact mul32f hcv.out hb ww
            clear hz hv hV
            go_wp2_with (first
              | (go_at_call 82; refine (hTT.out _).mono ?_; rintro e w2 ⟨⟨b, rfl, hwb⟩, hw2⟩; have hw2 := hw2.symm; subst hw2; have hdv := hDV.out b hwb)
              | (go_at_call 81; refine (cbits32 _ _).mono ?_; rintro e w3 ⟨rfl, hw3⟩; have hw3 := hw3.symm; subst hw3))
            go_ret2
            exact ⟨rfl, hK.out.below⟩
        case false =>
          obtain rfl : V = 0 := by rw [HV.out, if_neg (by simp)]
          obtain rfl : bb = false := by rw [HBB.out]; rfl
          clear HV H1 H2 HBB HBI64 HBI32
          go_wp2
          go_ret2
          exact ⟨rfl, hK.out.below⟩
end Go.Proofs.Ygcoaf
