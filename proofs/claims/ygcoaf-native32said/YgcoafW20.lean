/-
  WALKS, the twentieth: sum.
-/
import Derived.Test.YgcoafW19
import Derived.Test.YgcoafW8
import Derived.Deep.DeepCutAuto
namespace Go.Proofs.Ygcoaf
open Go.RowKit Go.Proofs.Ygcoaf.M

/-- soft.sum's own memory: the format, and two numbers -/
structure SumSt (w : World) (E M : Nat) (n1 : Bool) (e1 : Int) (H1 L1 : Nat) (n2 : Bool) (e2 : Int) (H2 L2 : Nat) (w' : World) : Prop where
  bel : Below w.heap.size w w'
  f0 : w'.cell? ⟨w.heap.size, 0, none⟩ = some (.int .u8 E)
  f1 : w'.cell? ⟨w.heap.size, 1, none⟩ = some (.int .u8 M)
  a0 : w'.cell? ⟨w.heap.size + 1, 0, none⟩ = some (.bool n1)
  a1 : w'.cell? ⟨w.heap.size + 1, 1, none⟩ = some (.int .i16 e1)
  a2 : w'.cell? ⟨w.heap.size + 1, 2, none⟩ = some (.int .u64 H1)
  a3 : w'.cell? ⟨w.heap.size + 1, 3, none⟩ = some (.int .u64 L1)
  b0 : w'.cell? ⟨w.heap.size + 1 + 1, 0, none⟩ = some (.bool n2)
  b1 : w'.cell? ⟨w.heap.size + 1 + 1, 1, none⟩ = some (.int .i16 e2)
  b2 : w'.cell? ⟨w.heap.size + 1 + 1, 2, none⟩ = some (.int .u64 H2)
  b3 : w'.cell? ⟨w.heap.size + 1 + 1, 3, none⟩ = some (.int .u64 L2)
  za : ∀ o, w'.frozen? ⟨w.heap.size + 1, o, none⟩ = false
  zb : ∀ o, w'.frozen? ⟨w.heap.size + 1 + 1, o, none⟩ = false

section
variable {w w1 w2 : World} {E M : Nat} {n1 : Bool} {e1 : Int} {H1 L1 : Nat} {n2 : Bool} {e2 : Int} {H2 L2 : Nat}

theorem SumSt.call (s : SumSt w E M n1 e1 H1 L1 n2 e2 H2 L2 w1) (hb : Below w1.heap.size w1 w2) : SumSt w E M n1 e1 H1 L1 n2 e2 H2 L2 w2 := by
  have c : ∀ b o v, w1.cell? ⟨b, o, none⟩ = some v → w2.cell? ⟨b, o, none⟩ = some v := fun b o v e => by rw [hb.cell (World.block_lt_of_cell? _ _ e)]; exact e
  have ha := World.block_lt_of_cell? _ _ s.a0
  have hb' := World.block_lt_of_cell? _ _ s.b0
  exact ⟨bt s.bel hb, c _ _ _ s.f0, c _ _ _ s.f1, c _ _ _ s.a0, c _ _ _ s.a1, c _ _ _ s.a2, c _ _ _ s.a3, c _ _ _ s.b0, c _ _ _ s.b1, c _ _ _ s.b2, c _ _ _ s.b3,
    fun o => (hb.frozen (p := ⟨w.heap.size + 1, o, none⟩) ha).trans (s.za o), fun o => (hb.frozen (p := ⟨w.heap.size + 1 + 1, o, none⟩) hb').trans (s.zb o)⟩

theorem SumSt.setA (s : SumSt w E M n1 e1 H1 L1 n2 e2 H2 L2 w1) (H L : Nat) : SumSt w E M n1 e1 H L n2 e2 H2 L2 ((w1.setCell ⟨w.heap.size + 1, 2, none⟩ (.int .u64 H)).setCell ⟨w.heap.size + 1, 3, none⟩ (.int .u64 L)) := by
  have hle : w.heap.size ≤ w.heap.size + 1 := Nat.le_succ _
  obtain ⟨bel, f0, f1, a0, a1, a2, a3, b0, b1, b2, b3, za, zb⟩ := s
  constructor
  · exact (bel.setCell hle _).setCell hle _
  all_goals (first | (intro o; rw [World.frozen?_setCell, World.frozen?_setCell]; first | exact za o | exact zb o) | simp (maxDischargeDepth := 6) [go_sem, *])

theorem SumSt.setB (s : SumSt w E M n1 e1 H1 L1 n2 e2 H2 L2 w1) (H L : Nat) : SumSt w E M n1 e1 H1 L1 n2 e2 H L ((w1.setCell ⟨w.heap.size + 1 + 1, 2, none⟩ (.int .u64 H)).setCell ⟨w.heap.size + 1 + 1, 3, none⟩ (.int .u64 L)) := by
  have hle : w.heap.size ≤ w.heap.size + 1 + 1 := Nat.le_trans (Nat.le_succ _) (Nat.le_succ _)
  obtain ⟨bel, f0, f1, a0, a1, a2, a3, b0, b1, b2, b3, za, zb⟩ := s
  constructor
  · exact (bel.setCell hle _).setCell hle _
  all_goals (first | (intro o; rw [World.frozen?_setCell, World.frozen?_setCell]; first | exact za o | exact zb o) | simp (maxDischargeDepth := 6) [go_sem, *])
theorem SumSt.swap (s : SumSt w E M n1 e1 H1 L1 n2 e2 H2 L2 w1) : SumSt w E M n2 e2 H2 L2 n1 e1 H1 L1 ((((((((w1.setCell ⟨w.heap.size + 1, 0, none⟩ (.bool n2)).setCell ⟨w.heap.size + 1, 1, none⟩ (.int .i16 e2)).setCell ⟨w.heap.size + 1, 2, none⟩ (.int .u64 H2)).setCell ⟨w.heap.size + 1, 3, none⟩ (.int .u64 L2)).setCell ⟨w.heap.size + 1 + 1, 0, none⟩ (.bool n1)).setCell ⟨w.heap.size + 1 + 1, 1, none⟩ (.int .i16 e1)).setCell ⟨w.heap.size + 1 + 1, 2, none⟩ (.int .u64 H1)).setCell ⟨w.heap.size + 1 + 1, 3, none⟩ (.int .u64 L1)) := by
  have hle : w.heap.size ≤ w.heap.size + 1 + 1 := Nat.le_trans (Nat.le_succ _) (Nat.le_succ _)
  have hle1 : w.heap.size ≤ w.heap.size + 1 := Nat.le_succ _
  obtain ⟨bel, f0, f1, a0, a1, a2, a3, b0, b1, b2, b3, za, zb⟩ := s
  constructor
  · exact (((((((bel.setCell hle1 _).setCell hle1 _).setCell hle1 _).setCell hle1 _).setCell hle _).setCell hle _).setCell hle _).setCell hle _
  all_goals (first | (intro o; simp only [World.frozen?_setCell]; first | exact za o | exact zb o) | simp (maxDischargeDepth := 12) [go_sem, *])
end

/-- what the two numbers are once they stand in order -/
structure InOrder (E M V : Nat) (n1 : Bool) (e1 : Int) (H1 L1 : Nat) (n2 : Bool) (e2 : Int) (H2 L2 : Nat) : Prop where
  sum : sumV E M n1 (two H1 L1) e1 n2 (two H2 L2) e2 = V
  up : e2 ≤ e1
  up2 : e1 = e2 → two H2 L2 ≤ two H1 L1
  x1 : -6000 ≤ e1 ∧ e1 ≤ 6000
  x2 : -6000 ≤ e2 ∧ e2 ≤ 6000
  h1 : H1 < 18446744073709551616
  l1 : L1 < 18446744073709551616
  h2 : H2 < 18446744073709551616
  l2 : L2 < 18446744073709551616
  A1 : 2 ^ 126 ≤ two H1 L1
  A2 : two H1 L1 < 2 ^ 127
  A3 : two H1 L1 % 2 ^ 74 = 0
  B1 : 2 ^ 126 ≤ two H2 L2
  B2 : two H2 L2 < 2 ^ 127
  B3 : two H2 L2 % 2 ^ 74 = 0

/-- what soft.sum's steps come to -/
theorem sum_facts {E M V : Nat} (h4 : M ≤ 52) {n1 : Bool} {e1 : Int} {H1 L1 : Nat} {n2 : Bool} {e2 : Int} {H2 L2 : Nat} (O : InOrder E M V n1 e1 H1 L1 n2 e2 H2 L2) :
    ∃ g H3 L3 : Nat, ∃ _ : H3 < 18446744073709551616, ∃ _ : L3 < 18446744073709551616, ∃ H4 L4 : Nat, ∃ _ : H4 < 18446744073709551616, ∃ _ : L4 < 18446744073709551616, ∃ V' : Nat,
      g < 256 ∧ min (e1 - e2) 255 = (g : Int) ∧ IntKind.i16.wrap (e1 - e2) = e1 - e2 ∧
      Hid (∀ w, Calls Oafg.prog 201 #[.agg #[.int .u64 H2, .int .u64 L2], .int .u8 g] w fun e w' => e = .returned (.agg #[.int .u64 H3, .int .u64 L3]) ∧ Below w.heap.size w w') ∧
      Hid (n1 = n2 → ∀ w, Calls Oafg.prog 156 #[.agg #[.int .u64 H1, .int .u64 L1], .agg #[.int .u64 H3, .int .u64 L3]] w fun e w' => (∃ b : Bool, e = .returned (.tuple #[.agg #[.int .u64 H4, .int .u64 L4], .bool b])) ∧ Below w.heap.size w w') ∧
      Hid (∀ w, Calls Oafg.prog 175 #[.agg #[.int .u64 H1, .int .u64 L1], .agg #[.int .u64 H3, .int .u64 L3]] w fun e w' => (∃ c : Int, e = .returned (.int .i8 c) ∧ decide (c < 0) = false) ∧ Below w.heap.size w w') ∧
      Hid (n1 ≠ n2 → ∀ w, Calls Oafg.prog 202 #[.agg #[.int .u64 H1, .int .u64 L1], .agg #[.int .u64 H3, .int .u64 L3]] w fun e w' => e = .returned (.tuple #[.agg #[.int .u64 H4, .int .u64 L4], .bool false]) ∧ Below w.heap.size w w') ∧
      Hid (two H4 L4 = V') ∧
      Hid ((V' = 0 → V = 0) ∧ (V' ≠ 0 → V = (Ieee.Format.mk E M).nearest n1 V' e1)) := by
  obtain ⟨hsum, up, up2, x1, x2, q1, q2, q3, q4, A1, A2, A3, B1, B2, B3⟩ := O
  have hA2 : two H1 L1 % 2 = 0 := by
    obtain ⟨q, hq⟩ := Nat.dvd_of_mod_eq_zero A3
    rw [hq, show (2 : Nat) ^ 74 = 2 * 2 ^ 73 by decide, Nat.mul_assoc]; exact Nat.mul_mod_right _ _
  obtain ⟨hsA, hres⟩ := sum_sticky E M h4 n1 n2 (two H1 L1) (two H2 L2) e1 e2 up A1 B2 hA2 B3 up2
  obtain ⟨g, hg⟩ : ∃ g, g = min (e1 - e2).toNat 255 := ⟨_, rfl⟩
  rw [← hg] at hsA hres
  obtain ⟨s, hs⟩ : ∃ s, s = st (two H2 L2) (2 ^ g) := ⟨_, rfl⟩
  rw [← hs] at hsA hres
  have hA128 := two_lt q1 q2
  have hA127 : two H1 L1 < 170141183460469231731687303715884105728 := Nat.lt_of_lt_of_eq A2 (by decide)
  obtain ⟨H3, L3, v3, b3, b4⟩ := two_parts s (by omega)
  obtain ⟨V', hV'⟩ : ∃ V', V' = if n1 = n2 then two H1 L1 + s else two H1 L1 - s := ⟨_, rfl⟩
  rw [← hV'] at hres
  have hVlt : V' < 340282366920938463463374607431768211456 := by
    rw [hV']; by_cases c : n1 = n2
    · rw [if_pos c]; omega
    · rw [if_neg c]; omega
  obtain ⟨H4, L4, v4, b5, b6⟩ := two_parts V' hVlt
  refine ⟨g, H3, L3, b3, b4, H4, L4, b5, b6, V', by omega, by omega, by rw [wrap_i16]; omega, fun w => ?_, fun c w => ?_, fun w => ?_, fun c w => ?_, v4, ?_, ?_⟩
  · refine (shrJam_any H2 L2 g q3 q4 (by omega) w).mono ?_
    rintro e w' ⟨⟨a, b, rfl, y1, y2, y3⟩, hb⟩
    obtain ⟨rfl, rfl⟩ := two_inj y3 b4 (y1.trans (hs.symm.trans v3.symm))
    exact ⟨rfl, hb⟩
  · refine (wadd_any H1 L1 H3 L3 q2 b4 w).mono ?_
    rintro e w' ⟨⟨a, b, cc, rfl, y1, y2, y3⟩, hb⟩
    rw [if_pos c] at hV'
    rw [v3, ← hV', Nat.mod_eq_of_lt hVlt] at y1
    obtain ⟨rfl, rfl⟩ := two_inj y3 b6 (y1.trans v4.symm)
    exact ⟨⟨cc, rfl⟩, hb⟩
  · refine (wcmp_any H1 L1 H3 L3 q2 b4 w).mono ?_
    rintro e w' ⟨rfl, hb⟩
    refine ⟨⟨_, rfl, ?_⟩, hb⟩
    rw [v3]
    unfold cmpN
    rw [if_neg (by omega)]
    by_cases q : two H1 L1 = s
    · rw [if_pos q]; rfl
    · rw [if_neg q]; rfl
  · refine (wsub_any H1 L1 H3 L3 q2 b4 q1 (by rw [v3]; exact hsA) w).mono ?_
    rintro e w' ⟨⟨a, b, rfl, y1, y2, y3⟩, hb⟩
    rw [if_neg c] at hV'
    rw [v3, ← hV'] at y1
    obtain ⟨rfl, rfl⟩ := two_inj y3 b6 (y1.trans v4.symm)
    exact ⟨rfl, hb⟩
  · intro c; rw [← hsum, hres, if_pos c]
  · intro c; rw [← hsum, hres, if_neg c]

set_option maxRecDepth 8000 in
set_option maxHeartbeats 2000000 in
/-- soft.sum under NearestEven -/
theorem sum_ne {E M : Nat} (h1 : 2 ≤ E) (h2 : E ≤ 11) (h3 : 2 ≤ M) (h4 : M ≤ 52) (na : Bool) (ea : Int) (ha la : Nat) (nb : Bool) (eb : Int) (hb lb : Nat)
    (xa : -6000 ≤ ea ∧ ea ≤ 6000) (xb : -6000 ≤ eb ∧ eb ≤ 6000) (ga : ha < 18446744073709551616) (gla : la < 18446744073709551616) (gb : hb < 18446744073709551616) (glb : lb < 18446744073709551616)
    (A1 : 2 ^ 126 ≤ two ha la) (A2 : two ha la < 2 ^ 127) (A3 : two ha la % 2 ^ 74 = 0) (B1 : 2 ^ 126 ≤ two hb lb) (B2 : two hb lb < 2 ^ 127) (B3 : two hb lb % 2 ^ 74 = 0) (w : World) :
    Calls Oafg.prog 195 #[.agg #[.int .u8 E, .int .u8 M], .int .u8 0, .agg #[.bool na, .int .i16 ea, .int .u64 ha, .int .u64 la], .agg #[.bool nb, .int .i16 eb, .int .u64 hb, .int .u64 lb]] w fun e w' =>
      (∃ fl : Int, e = .returned (.tuple #[.int .u64 (sumV E M na (two ha la) ea nb (two hb lb) eb : Nat), .int .u8 fl])) ∧ Below w.heap.size w w' := by
  obtain ⟨V, hV⟩ : ∃ V, V = sumV E M na (two ha la) ea nb (two hb lb) eb := ⟨_, rfl⟩
  rw [← hV]
  have O1 : Hid ((eb ≤ ea) → (ea = eb → two hb lb ≤ two ha la) → InOrder E M V na ea ha la nb eb hb lb) := fun g1 g2 => ⟨hV.symm, g1, g2, xa, xb, ga, gla, gb, glb, A1, A2, A3, B1, B2, B3⟩
  have O2 : Hid ((ea ≤ eb) → (eb = ea → two ha la ≤ two hb lb) → InOrder E M V nb eb hb lb na ea ha la) := fun g1 g2 => ⟨(sumV_comm ..).trans hV.symm, g1, g2, xb, xa, gb, glb, ga, gla, B1, B2, B3, A1, A2, A3⟩
  have KC : Hid _ := fun w => wcmp_any ha la hb lb gla glb w
  clear hV A1 A2 A3 B1 B2 B3
  go_enter Oafg.func195, Oafg.ntmps195
  have S0 : SumSt w E M na ea ha la nb eb hb lb (((w.alloc (.cells #[.int .u8 E, .int .u8 M] 27)).alloc (.cells #[.bool na, .int .i16 ea, .int .u64 ha, .int .u64 la] 209)).alloc (.cells #[.bool nb, .int .i16 eb, .int .u64 hb, .int .u64 lb] 209)) := by
    constructor
    · exact self3
    all_goals (first | (intro o; simp [go_sem]) | simp [go_sem])
  have HS0 : Hid _ := S0
  clear S0
  go_upto_region 1 with fail
  go_cut [33] (fun v w' => ∃ sw, v = .bool sw ∧ SumSt w E M na ea ha la nb eb hb lb w' ∧ Hid ((sw = true → InOrder E M V nb eb hb lb na ea ha la) ∧ (sw = false → InOrder E M V na ea ha la nb eb hb lb)))
  case first =>
    by_cases c1 : ea < eb
    · have d0 : decide (ea < eb) = true := decide_eq_true c1
      go_wp2
      go_meet
      case rel => exact ⟨true, rfl, HS0.out, fun _ => O2.out (by omega) (by omega), by simp⟩
    · by_cases c2 : ea = eb
      · subst c2
        by_cases c3 : two ha la < two hb lb
        · have d1 : cmpN (two ha la) (two hb lb) = -1 := by unfold cmpN; rw [if_pos c3]
          rw [d1] at KC
          go_wp2_with (go_at_call 175; refine (KC.out _).mono ?_; rintro e w1 ⟨rfl, hb1⟩; have S1 := HS0.out.call hb1)
          go_meet
          case rel => exact ⟨true, rfl, S1, fun _ => O2.out (by omega) (by omega), by simp⟩
        · have d1 : decide (cmpN (two ha la) (two hb lb) < 0) = false := by
            unfold cmpN; rw [if_neg c3]; by_cases q : two ha la = two hb lb
            · rw [if_pos q]; rfl
            · rw [if_neg q]; rfl
          generalize cmpN (two ha la) (two hb lb) = cc at *
          go_wp2_with (go_at_call 175; refine (KC.out _).mono ?_; rintro e w1 ⟨rfl, hb1⟩; have S1 := HS0.out.call hb1)
          go_meet
          case rel => exact ⟨false, rfl, S1, by simp, fun _ => O1.out (by omega) (by omega)⟩
      · go_wp2
        go_meet
        case rel => exact ⟨false, rfl, HS0.out, by simp, fun _ => O1.out (by omega) (by omega)⟩
  case rest =>
    obtain ⟨sw, rfl, S, HO⟩ := hcut
    clear KC O1 O2 HS0
    go_upto_if 33 with fail
    go_cut [8] (fun v w' => v = .int .u64 0 ∧ ∃ n1 e1 H1 L1 n2 e2 H2 L2, SumSt w E M n1 e1 H1 L1 n2 e2 H2 L2 w' ∧ Hid (InOrder E M V n1 e1 H1 L1 n2 e2 H2 L2))
    case first =>
      have T := S
      obtain ⟨-, f0, f1, a0, a1, a2, a3, b0, b1, b2, b3, za, zb⟩ := T
      have HS : Hid _ := S
      clear S
      cases sw
      · go_wp2
        go_meet
        case rel => exact ⟨rfl, na, ea, ha, la, nb, eb, hb, lb, HS.out, HO.out.2 (by simp)⟩
      · go_wp2
        go_meet
        case rel => exact ⟨rfl, nb, eb, hb, lb, na, ea, ha, la, HS.out.swap, HO.out.1 (by simp)⟩
    case rest =>
      clear HO S
      obtain ⟨rfl, n1, e1, H1, L1, n2, e2, H2, L2, S, O⟩ := hcut
      obtain ⟨g, H3, L3, b3, b4, H4, L4, b5, b6, V', g1, g2, g3, K201, K156, K175, K202, hv4, FV⟩ := sum_facts h4 O.out
      have hxe := O.out.x1
      clear O xa xb ga gla gb glb
      have hx1 : IntKind.i16.wrap (e1 - e2) = e1 - e2 := g3
      have hor := or64 H4 L4 _ rfl b5 b6
      have hoz : (((H4 ||| L4 : Nat) : Int) == 0) = decide (V' = 0) := by
        rw [Bool.eq_iff_iff, beq_iff_eq, decide_eq_true_iff, ← hv4.out]
        have : (H4 ||| L4 = 0) ↔ (H4 = 0 ∧ L4 = 0) := Nat.or_eq_zero_iff
        unfold two
        omega
      generalize H4 ||| L4 = O4 at *
      have HS : Hid _ := S
      clear S g3
      have gi : IntKind.u8.wrap (g : Int) = (g : Int) := by rw [IntKind.wrap_u8]; omega
      have GI : Hid _ := gi
      have G2 : Hid _ := g2
      have HX : Hid _ := hx1
      have OZ : Hid _ := hoz
      have OR : Hid _ := hor
      clear gi g2 hx1 hoz hor
      go_upto_region 3 with fail
      go_cut [10] (fun v w' => v = .int .i16 g ∧ Hid (SumSt w E M n1 e1 H1 L1 n2 e2 H2 L2 w'))
      case first =>
        obtain ⟨-, f0, f1, a0, a1, a2, a3, c0, c1, c2, c3, za, zb⟩ := HS.out
        have hx1 := HX.out
        go_wp2
        all_goals
          go_meet
          case rel =>
            refine ⟨?_, HS⟩
            congr 1
            have := G2.out
            clear K201 K156 K175 K202
            omega
      case rest =>
        clear HS
        obtain ⟨rfl, HS⟩ := hcut
        go_upto_region 4 with fail
        go_cut [10] (fun v w' => v = .int .i16 g ∧ Hid (SumSt w E M n1 e1 H1 L1 n2 e2 H3 L3 w'))
        case first =>
          obtain ⟨-, f0, f1, a0, a1, a2, a3, c0, c1, c2, c3, za, zb⟩ := HS.out
          have gi := GI.out
          go_wp2_with (go_at_call 201; refine (K201.out _).mono ?_; rintro e w1 ⟨rfl, hb1⟩; have HS1 : Hid _ := HS.out.call hb1; clear f0 f1 a0 a1 a2 a3 c0 c1 c2 c3 za zb; obtain ⟨-, f0, f1, a0, a1, a2, a3, c0, c1, c2, c3, za, zb⟩ := HS1.out)
          go_meet
          case rel => exact ⟨rfl, HS1.out.setB H3 L3⟩
        case rest =>
          clear HS
          obtain ⟨rfl, HS⟩ := hcut
          clear K201 GI G2 HX
          obtain ⟨-, f0, f1, a0, a1, a2, a3, c0, c1, c2, c3, za, zb⟩ := HS.out
          go_upto_if 52 with fail
          clear f0 f1 a0 a1 a2 a3 c0 c1 c2 c3 za zb
          go_cut [8] (fun v w' => v = .int .u64 0 ∧ Hid (SumSt w E M n1 e1 H4 L4 n2 e2 H3 L3 w'))
          case first =>
            obtain ⟨-, f0, f1, a0, a1, a2, a3, c0, c1, c2, c3, za, zb⟩ := HS.out
            by_cases hn : n1 = n2
            · have hnb : (n1 == n2) = true := by rw [hn]; cases n2 <;> rfl
              have hK := K156.out hn
              have HK : Hid _ := hK
              clear hK hn K156 K202 K175
              rw [hnb]
              go_wp2_with (go_at_call 156; refine (HK.out _).mono ?_; rintro e w1 ⟨⟨bb, rfl⟩, hb1⟩; have HS1 : Hid _ := HS.out.call hb1; clear f0 f1 a0 a1 a2 a3 c0 c1 c2 c3 za zb; obtain ⟨-, f0, f1, a0, a1, a2, a3, c0, c1, c2, c3, za, zb⟩ := HS1.out)
              go_meet
              case rel => exact ⟨rfl, HS1.out.setA H4 L4⟩
            · have hnb : (n1 == n2) = false := by revert hn; cases n1 <;> cases n2 <;> simp
              have hK := K202.out hn
              have HK : Hid _ := hK
              clear hK hn K156 K202
              rw [hnb]
              go_wp2_with (first
                | (go_at_call 175; refine (K175.out _).mono ?_; rintro e w1 ⟨⟨cc, rfl, hcc⟩, hb1⟩; have HS1 : Hid _ := HS.out.call hb1; clear f0 f1 a0 a1 a2 a3 c0 c1 c2 c3 za zb; obtain ⟨-, f0, f1, a0, a1, a2, a3, c0, c1, c2, c3, za, zb⟩ := HS1.out)
                | (go_at_call 202; refine (HK.out _).mono ?_; rintro e w2 ⟨rfl, hb1⟩; have HS2 : Hid _ := HS1.out.call hb1; clear f0 f1 a0 a1 a2 a3 c0 c1 c2 c3 za zb; obtain ⟨-, f0, f1, a0, a1, a2, a3, c0, c1, c2, c3, za, zb⟩ := HS2.out))
              go_meet
              case rel => exact ⟨rfl, HS2.out.setA H4 L4⟩
          case rest =>
            clear HS K156 K175 K202
            obtain ⟨rfl, HS⟩ := hcut
            obtain ⟨-, f0, f1, a0, a1, a2, a3, c0, c1, c2, c3, za, zb⟩ := HS.out
            have hor := OR.out
            by_cases hz : V' = 0
            · have hoz' : ((O4 : Int) == 0) = true := by rw [OZ.out]; exact decide_eq_true hz
              have hV0 := FV.out.1 hz
              clear FV OZ OR hz hv4
              subst hV0
              go_wp2_with (go_at_call 109; refine (zero_yes h1 h2 h3 h4 false _).mono ?_; rintro e w1 ⟨rfl, hb1⟩; have hB := bt HS.out.bel hb1)
              go_ret2
              exact ⟨⟨_, rfl⟩, hB⟩
            · have hoz' : ((O4 : Int) == 0) = false := by rw [OZ.out]; exact decide_eq_false hz
              have hV1 := FV.out.2 hz
              have RP : Hid (∀ (sig : Nat) (ex : Int), Jam (two H4 L4) e1 sig ex → sig < 18446744073709551616 → ∀ w, Calls Oafg.prog 116 #[.agg #[.int .u8 E, .int .u8 M], .int .u8 0, .bool n1, .int .i16 ex, .int .u64 sig] w fun e w' => (∃ fl : Int, e = .returned (.tuple #[.int .u64 (V : Int), .int .u8 fl])) ∧ Below w.heap.size w w') := fun sig ex hj hs w => by
                have hlog : (two H4 L4).log2 < 128 := (Nat.log2_lt (by rw [hv4.out]; exact hz)).2 (by rw [p128]; exact two_lt b5 b6)
                have r := roundPack_ne h1 h2 h3 h4 n1 ex sig hs (by rw [hj.2]; omega) (by rw [hj.2]; omega) w
                have hlead := nearest_lead E M h4 n1 (two H4 L4) e1 (by rw [hv4.out]; exact hz) (two_lt b5 b6)
                have hq : (Ieee.Format.mk E M).nearest n1 sig ex = V := by rw [hj.1, hj.2, hlead, hv4.out, ← hV1]
                rw [hq] at r
                exact r
              have JK : Hid _ := fun w => jam_any H4 L4 b5 b6 e1 (by omega) (by rw [hv4.out]; exact hz) w
              clear FV OZ OR hz hv4 hV1
              go_wp2_with (first
                | (go_at_call 168; refine (JK.out _).mono ?_; rintro e w1 ⟨⟨sig, ex, rfl, hj, hsig⟩, hb1⟩; have HJ : Hid _ := hj; clear hj; have HS1 : Hid _ := HS.out.call hb1; clear f0 f1 a0 a1 a2 a3 c0 c1 c2 c3 za zb; obtain ⟨-, f0, f1, a0, a1, a2, a3, c0, c1, c2, c3, za, zb⟩ := HS1.out)
                | (go_at_call 116; refine (RP.out sig ex HJ.out hsig _).mono ?_; rintro e w2 ⟨⟨fl, rfl⟩, hb2⟩; have hB := bt HS1.out.bel hb2))
              go_ret2
              exact ⟨⟨_, rfl⟩, hB⟩
end Go.Proofs.Ygcoaf
