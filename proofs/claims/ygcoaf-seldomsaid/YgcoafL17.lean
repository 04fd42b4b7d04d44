/-
  law.lemireRightOn, the walk.
-/
import Derived.Test.YgcoafL16
import Derived.Test.YgcoafL18
import Derived.Test.YgcoafW5
namespace Go.Proofs.Ygcoaf
open Go.RowKit Go.Proofs.Ygcoaf.M

theorem FS.drew {w W : World} {R E M : Nat} (s : FS w R E M W) : FS w R E M W.drew := s.call ((Below.refl _ _).drew)

/-- the law's last line: where the answer is given it is right -/
def Says (E M man : Nat) (q : Int) (V : Nat) (O : Bool) : Prop := O = true → -3000 ≤ q → q ≤ 3000 → V = rfV E M 0 false (dA man q) (dB q)

set_option maxRecDepth 8000 in
set_option maxHeartbeats 4000000 in
/-- law.lemireRightOn -/
theorem lemireRightOn_any {w : World} {R : Nat} {H L : Nat → Nat} {X : Nat → Int} (t : TV w R H L X) (hRi : Right H L X) (E M man : Nat) (q : Int) (hman : man < 18446744073709551616) (hq : -32768 ≤ q ∧ q ≤ 32767) :
    Calls Oafg.prog 89 #[.pointer (some ⟨R, 0, none⟩), .agg #[.int .u8 E, .int .u8 M], .int .u64 man, .int .i16 q] w fun e w' => e = .returned (.bool true) ∧ Below w.heap.size w w' := by
  have HLem : Hid (∀ ww, Below w.heap.size w ww → Calls Oafg.prog 140 #[.pointer (some ⟨R, 0, none⟩), .agg #[.int .u8 E, .int .u8 M], .int .u64 man, .int .i16 q] ww fun e w' => e = .returned (.tuple #[.int .u64 (lemV E M man q : Nat), .bool (lemO E M man q)]) ∧ Below ww.heap.size ww w') := fun ww g => lemire_any (t.call g) hRi E M man q hman hq
  obtain ⟨V, hV⟩ : ∃ V, V = lemV E M man q := ⟨_, rfl⟩
  obtain ⟨O, hO⟩ : ∃ O, O = lemO E M man q := ⟨_, rfl⟩
  rw [← hV, ← hO] at HLem
  have HV : Hid _ := hV
  have HO : Hid _ := hO
  have HBI64 : Hid _ := fun ww => binary64_any ww
  have HBI32 : Hid _ := fun ww => binary32_any ww
  obtain ⟨sv, hsv⟩ : ∃ sv, sv = servB E M := ⟨_, rfl⟩
  have Hsv : Hid _ := hsv
  have HFS0 : Hid _ := FS.start (w := w) (E := E) (M := M)
  clear hV hO t hRi hsv
  go_enter Oafg.func89, Oafg.ntmps89
  go_upto_region 2 with (go_at_call 140; refine (HLem.out _ HFS0.out.below).mono ?_; rintro e W ⟨rfl, hb⟩; have HFS1 : Hid _ := HFS0.out.call hb; clear hb)
  obtain ⟨R5, hR5⟩ : ∃ R, R = w.heap.size := ⟨_, rfl⟩
  simp only [← hR5]
  have HFS : Hid (FS w R5 E M W) := by rw [hR5]; exact HFS1
  clear HFS0 HFS1 HLem hR5
  go_cut [33] (fun t w' => t = .bool (!sv) ∧ Hid (FS w R5 E M w'))
  case first =>
    have hwne := HW.ne W
    have x0 : ∀ x : HW W, x.val.cell? ⟨R5, 0, none⟩ = some (.int .u8 E) := fun x => (HFS.out.call x.ok).cE
    have x1 : ∀ x : HW W, x.val.cell? ⟨R5, 1, none⟩ = some (.int .u8 M) := fun x => (HFS.out.call x.ok).cM
    by_cases e1 : E = 11
    · have tE : ((E : Int) == 11) = true := by rw [beq_iff_eq]; omega
      by_cases e2 : M = 52
      · have tM : ((M : Int) == 52) = true := by rw [beq_iff_eq]; omega
        obtain rfl : sv = true := by rw [Hsv.out]; simp [servB, e1, e2]
        clear e1 e2
        refine quiet_held (by kernel_rfl) (by kernel_rfl) ?_
        repeat (go_big_quiet_step (first
          | (go_at_call 20; refine (HBI64.out _).mono ?_; rintro e w2 ⟨rfl, hbu⟩; exact ⟨rfl, ⟨w2, HB.call (HW.ok _) hbu⟩, rfl⟩)
          | (go_at_call 17; refine (HBI32.out _).mono ?_; rintro e w2 ⟨rfl, hbu⟩; exact ⟨rfl, ⟨w2, HB.call (HW.ok _) hbu⟩, rfl⟩)))
        refine wpQuiet_nil ?_
        rintro _ ⟨x, rfl⟩
        go_wp2_with fail
        go_meet
        case rel => exact ⟨rfl, HFS.out.call x.ok⟩
      · have tM : ((M : Int) == 52) = false := by rw [beq_eq_false_iff_ne]; omega
        have t8 : ((E : Int) == 8) = false := by rw [beq_eq_false_iff_ne]; omega
        obtain rfl : sv = false := by rw [Hsv.out]; simp [servB, e1, e2]
        clear e1 e2
        refine quiet_held (by kernel_rfl) (by kernel_rfl) ?_
        repeat (go_big_quiet_step (first
          | (go_at_call 20; refine (HBI64.out _).mono ?_; rintro e w2 ⟨rfl, hbu⟩; exact ⟨rfl, ⟨w2, HB.call (HW.ok _) hbu⟩, rfl⟩)
          | (go_at_call 17; refine (HBI32.out _).mono ?_; rintro e w2 ⟨rfl, hbu⟩; exact ⟨rfl, ⟨w2, HB.call (HW.ok _) hbu⟩, rfl⟩)))
        refine wpQuiet_nil ?_
        rintro _ ⟨x, rfl⟩
        go_wp2_with fail
        go_meet
        case rel => exact ⟨rfl, HFS.out.call x.ok⟩
    · have tE : ((E : Int) == 11) = false := by rw [beq_eq_false_iff_ne]; omega
      by_cases e3 : E = 8
      · have t8 : ((E : Int) == 8) = true := by rw [beq_iff_eq]; omega
        by_cases e4 : M = 23
        · have tM : ((M : Int) == 23) = true := by rw [beq_iff_eq]; omega
          obtain rfl : sv = true := by rw [Hsv.out]; simp [servB, e3, e4]
          clear e1 e3 e4
          refine quiet_held (by kernel_rfl) (by kernel_rfl) ?_
          repeat (go_big_quiet_step (first
            | (go_at_call 20; refine (HBI64.out _).mono ?_; rintro e w2 ⟨rfl, hbu⟩; exact ⟨rfl, ⟨w2, HB.call (HW.ok _) hbu⟩, rfl⟩)
            | (go_at_call 17; refine (HBI32.out _).mono ?_; rintro e w2 ⟨rfl, hbu⟩; exact ⟨rfl, ⟨w2, HB.call (HW.ok _) hbu⟩, rfl⟩)))
          refine wpQuiet_nil ?_
          rintro _ ⟨x, rfl⟩
          go_wp2_with fail
          go_meet
          case rel => exact ⟨rfl, HFS.out.call x.ok⟩
        · have tM : ((M : Int) == 23) = false := by rw [beq_eq_false_iff_ne]; omega
          obtain rfl : sv = false := by rw [Hsv.out]; simp [servB, e3, e4]
          clear e1 e3 e4
          refine quiet_held (by kernel_rfl) (by kernel_rfl) ?_
          repeat (go_big_quiet_step (first
            | (go_at_call 20; refine (HBI64.out _).mono ?_; rintro e w2 ⟨rfl, hbu⟩; exact ⟨rfl, ⟨w2, HB.call (HW.ok _) hbu⟩, rfl⟩)
            | (go_at_call 17; refine (HBI32.out _).mono ?_; rintro e w2 ⟨rfl, hbu⟩; exact ⟨rfl, ⟨w2, HB.call (HW.ok _) hbu⟩, rfl⟩)))
          refine wpQuiet_nil ?_
          rintro _ ⟨x, rfl⟩
          go_wp2_with fail
          go_meet
          case rel => exact ⟨rfl, HFS.out.call x.ok⟩
      · have t8 : ((E : Int) == 8) = false := by rw [beq_eq_false_iff_ne]; omega
        obtain rfl : sv = false := by rw [Hsv.out]; simp [servB, e1, e3]
        clear e1 e3
        refine quiet_held (by kernel_rfl) (by kernel_rfl) ?_
        repeat (go_big_quiet_step (first
          | (go_at_call 20; refine (HBI64.out _).mono ?_; rintro e w2 ⟨rfl, hbu⟩; exact ⟨rfl, ⟨w2, HB.call (HW.ok _) hbu⟩, rfl⟩)
          | (go_at_call 17; refine (HBI32.out _).mono ?_; rintro e w2 ⟨rfl, hbu⟩; exact ⟨rfl, ⟨w2, HB.call (HW.ok _) hbu⟩, rfl⟩)))
        refine wpQuiet_nil ?_
        rintro _ ⟨x, rfl⟩
        go_wp2_with fail
        go_meet
        case rel => exact ⟨rfl, HFS.out.call x.ok⟩
  case rest =>
    obtain ⟨rfl, hK⟩ := hcut
    clear HFS
    cases sv
    · have hVV : V = 0 := by rw [HV.out]; unfold lemV; rw [if_pos Hsv.out.symm]
      have hOO : O = false := by rw [HO.out]; unfold lemO; rw [if_pos Hsv.out.symm]
      subst hVV hOO
      clear HV HO
      go_wp2
      go_ret
      exact ⟨rfl, hK.out.below⟩
    obtain ⟨h1, h2, h3, h4⟩ := serv_bd Hsv.out.symm
    have c0 := hK.out.cE
    have c1 := hK.out.cM
    obtain ⟨z, hz⟩ : ∃ z, z = decide (man = 0 ∨ q < -348) := ⟨_, rfl⟩
    have Hz : Hid _ := hz
    clear hz
    go_upto_region 4 with fail
    go_cut [45] (fun t w' => t = .bool z ∧ w' = wc)
    case first =>
      by_cases m0 : man = 0
      · have e9 : z = true := by rw [Hz.out]; simp [m0]
        subst m0
        go_wp2_with fail
        go_meet
        case rel => exact ⟨by rw [e9], rfl⟩
      · have m1 : ((man : Int) == 0) = false := by rw [beq_eq_false_iff_ne]; omega
        by_cases q0 : q < -348
        · have e9 : z = true := by rw [Hz.out]; simp [q0]
          go_wp2_with fail
          go_meet
          case rel => exact ⟨by rw [e9], rfl⟩
        · have e9 : z = false := by rw [Hz.out]; simp [m0]; omega
          go_wp2_with fail
          go_meet
          case rel => exact ⟨by rw [e9], rfl⟩
    case rest =>
      obtain ⟨rfl, hw⟩ := hcut
      subst hw
      go_upto_if 45 with fail
      go_cut [8, 11, 12, 13, 14, 15, 16, 17] (fun _ _ _ _ _ _ _ _ w' => Hid (FS w R5 E M w') ∧ Hid (Says E M man q V O))
      case first =>
        cases z
        · have hzz := Hz.out
          have m0 : man ≠ 0 := by intro h; simp [h] at hzz
          have q0 : ¬ q < -348 := by intro h; simp [h] at hzz
          clear hzz
          by_cases q1 : 347 < q
          · have hVV : V = infR E M := by rw [HV.out]; unfold lemV; rw [if_neg (by rw [← Hsv.out]; decide), if_neg (by omega), if_pos q1]
            have hOO : O = true := by rw [HO.out]; unfold lemO; rw [if_neg (by rw [← Hsv.out]; decide), if_neg (by omega), if_pos q1]
            have HSay : Hid (Says E M man q V O) := fun _ _ _ => by rw [hVV, dec_inf h1 h2 h4 m0 q1]
            have HI : Hid _ := fun ww => infOf_yes h1 h2 h3 h4 false ww
            have eI : infR E M + sgn E M false = infR E M := by simp [sgn]
            rw [eI, ← hVV] at HI
            subst hOO
            clear HV HO hVV eI
            go_wp2_with (go_at_call 78; refine (HI.out _).mono ?_; rintro e w2 ⟨rfl, hb2⟩; have HK2 : Hid _ := hK.out.call hb2)
            go_meet
            case rel => exact ⟨HK2, HSay⟩
          · obtain ⟨la1, la2, la3⟩ := lemire_law Hsv.out.symm m0 hman (q := q) (by omega) (by omega)
            rw [← HO.out] at la1 la2 la3
            rw [← HV.out] at la2 la3
            have HSay : Hid (Says E M man q V O) := fun a _ _ => la3 a
            have HVz : Hid _ := la2
            have HOe : Hid _ := la1
            have hqi1 : -348 ≤ q := by omega
            have hqi2 : q ≤ 347 := by omega
            have HEN : Hid _ := fun ww => tEntry_nat (q := q) hqi1 hqi2 ww
            obtain ⟨gE1, gE2, gE3, gE4⟩ := ent_hl hqi1 (show q ≤ 348 by omega)
            have hEn := ent_is q hqi1 (by omega)
            have hxb := hEn.xb
            have hTb : bl (entT q) ≤ 128 := bl_le _ _ hEn.hi
            have hT0 : entT q ≠ 0 := by have := hEn.lo; omega
            have hex := u_exact m0 hqi1 hqi2
            obtain ⟨EX, hEX⟩ : ∃ EX, EX = entX q := ⟨_, rfl⟩
            obtain ⟨EH, hEH⟩ : ∃ EH, EH = entH q := ⟨_, rfl⟩
            obtain ⟨EL, hEL⟩ : ∃ EL, EL = entL q := ⟨_, rfl⟩
            have HTN : Hid (∀ ww, Calls Oafg.prog 141 #[.agg #[.int .u64 EH, .int .u64 EL]] ww fun e w' => (∃ v, e = .returned v ∧ NatV w' v (entT q)) ∧ Below ww.heap.size ww w') := fun ww => by
              have := toNat_nat (w := ww) EH EL (by omega) (by omega) (by omega)
              rw [show EH * 18446744073709551616 + EL = entT q by rw [hEH, hEL]; exact gE1] at this
              exact this
            rw [← hEH, ← hEL, ← hEX] at HEN
            obtain ⟨U1, hU1⟩ : ∃ U1, U1 = man * 2 ^ (entX q).toNat := ⟨_, rfl⟩
            obtain ⟨U2, hU2⟩ : ∃ U2, U2 = 2 ^ (-(entX q)).toNat := ⟨_, rfl⟩
            have huA : ∀ N, uA man q N = N * U1 := fun N => by unfold uA; rw [← hU1]
            have huB : uB q = U2 := by unfold uB; rw [← hU2]
            have hb2 : ∀ j : Nat, j ≤ 5000 → bl (2 ^ j) ≤ 5001 := fun j hj => by
              have := bl_shl 1 j
              rw [Nat.one_mul] at this
              have e : bl 1 = 1 := by decide
              omega
            have hbman : bl man ≤ 64 := bl_le man 64 hman
            have hbU1 : bl U1 ≤ 6000 := by rw [hU1]; have a := bl_mul man (2 ^ (entX q).toNat); have b := hb2 (entX q).toNat (by omega); omega
            have hbU2 : bl U2 ≤ 6000 := by rw [hU2]; have b := hb2 (-(entX q)).toNat (by omega); omega
            rw [← hEX] at hxb
            have HF : Hid _ := fun ww => fromU64_any man hman ww
            have HWh : Hid (∀ ww v n, NatV ww v n → Calls Oafg.prog 85 #[.bool false, v] ww fun e w' => (∃ v1 v2, e = .returned (.agg #[.bool false, v1, v2]) ∧ NatV w' v1 n ∧ NatV w' v2 1) ∧ Below ww.heap.size ww w') := fun ww v n g => whole_nat false g
            have HP2 : Hid (∀ ww, Calls Oafg.prog 142 #[.int .i64 EX] ww fun e w' => (∃ v1 v2, e = .returned (.agg #[.bool false, v1, v2]) ∧ NatV w' v1 (2 ^ (entX q).toNat) ∧ NatV w' v2 U2) ∧ Below ww.heap.size ww w') := fun ww => by
              rw [hU2, hEX]; exact pow2Frac_nat (w := ww) (entX q) (by omega) (by omega)
            have HMu : Hid (∀ ww v1 v2 v3 v4, NatV ww v1 man → NatV ww v2 1 → NatV ww v3 (2 ^ (entX q).toNat) → NatV ww v4 U2 → Calls Oafg.prog 84 #[.agg #[.bool false, v1, v2], .agg #[.bool false, v3, v4]] ww fun e w' => (∃ v1 v2, e = .returned (.agg #[.bool false, v1, v2]) ∧ NatV w' v1 U1 ∧ NatV w' v2 U2) ∧ Below ww.heap.size ww w') := fun ww v1 v2 v3 v4 g1 g2 g3 g4 => by
              have := mulFrac_nat false false g1 g2 g3 g4 (by omega) (by decide) (by have b := hb2 (entX q).toNat (by omega); omega) (by omega)
              rw [Nat.one_mul, ← hU1] at this
              exact this
            have HMk : Hid (∀ ww N v1 v2 v3 v4, bl N ≤ 200 → NatV ww v1 N → NatV ww v2 1 → NatV ww v3 U1 → NatV ww v4 U2 → Calls Oafg.prog 84 #[.agg #[.bool false, v1, v2], .agg #[.bool false, v3, v4]] ww fun e w' => (∃ v1 v2, e = .returned (.agg #[.bool false, v1, v2]) ∧ NatV w' v1 (N * U1) ∧ NatV w' v2 U2) ∧ Below ww.heap.size ww w') := fun ww N v1 v2 v3 v4 gb g1 g2 g3 g4 => by
              have := mulFrac_nat false false g1 g2 g3 g4 (by omega) (by decide) (by omega) (by omega)
              rw [Nat.one_mul] at this
              exact this
            have HSu : Hid (∀ ww v, NatV ww v (entT q) → Calls Oafg.prog 143 #[v] ww fun e w' => (∃ v, e = .returned v ∧ NatV w' v (entT q + 1)) ∧ Below ww.heap.size ww w') := fun ww v g => succ_nat g (by omega)
            have hTb1 : bl (entT q + 1) ≤ 200 := Nat.le_trans (bl_le (entT q + 1) 129 (by have := hEn.hi; have e : (2 : Nat) ^ 129 = 680564733841876926926749214863536422912 := (by decide); omega)) (by decide)
            have hTb0 : bl (entT q) ≤ 200 := by omega
            have HDc : Hid (∀ ww, Calls Oafg.prog 49 #[.int .u64 man, .int .i64 q] ww fun e w' => (∃ v1 v2, e = .returned (.agg #[.bool false, v1, v2]) ∧ NatV w' v1 (dA man q) ∧ NatV w' v2 (dB q)) ∧ Below ww.heap.size ww w') := fun ww => decimal_nat (w := ww) man hman q (by omega) (by omega)
            obtain ⟨bx, hbx⟩ : ∃ bx, bx = decide (0 ≤ q ∧ q ≤ 55) := ⟨_, rfl⟩
            have hbTU : bl (entT q * U1) ≤ 10000 := by have a := bl_mul (entT q) U1; omega
            have hbdA : bl (dA man q) ≤ 10000 := by unfold dA; have a := bl_mul man (10 ^ q.toNat); have b := bl_ten q.toNat; omega
            have hbdB : bl (dB q) ≤ 10000 := by unfold dB; have b := bl_ten (-q).toNat; omega
            have HCm : Hid (∀ ww v1 v2 v3 v4, NatV ww v1 (entT q * U1) → NatV ww v2 U2 → NatV ww v3 (dA man q) → NatV ww v4 (dB q) → Calls Oafg.prog 144 #[.agg #[.bool false, v1, v2], .agg #[.bool false, v3, v4]] ww fun e w' => (∃ c : Int, e = .returned (.int .i8 c) ∧ (-1 ≤ c ∧ c ≤ 1) ∧ ((c == 0) = bx)) ∧ Below ww.heap.size ww w') := fun ww v1 v2 v3 v4 g1 g2 g3 g4 =>
              (cmpFrac_nat g1 g2 g3 g4 (by omega) (by omega) (by omega) (by omega)).mono fun e w' ⟨k, hb⟩ => by
                obtain ⟨c, e1, e2, e3, e4⟩ := k.out
                refine ⟨⟨c, e1, ⟨e2, e3⟩, ?_⟩, hb⟩
                rw [hbx, Bool.eq_iff_iff, beq_iff_eq, decide_eq_true_iff, e4, ← hex, huA, huB]
            have hU20 : U2 ≠ 0 := by rw [hU2]; have := Nat.two_pow_pos (-(entX q)).toNat; omega
            obtain ⟨PL, hPL⟩ : ∃ PL, PL = rfV E M 0 false (uA man q (entT q)) (uB q) := ⟨_, rfl⟩
            obtain ⟨PG, hPG⟩ : ∃ PG, PG = rfV E M 0 false (uA man q (hiN q)) (uB q) := ⟨_, rfl⟩
            rw [← hPL, ← hPG] at HOe
            have HPL : Hid (∀ ww v1 v2, NatV ww v1 (entT q * U1) → NatV ww v2 U2 → Calls Oafg.prog 48 #[.agg #[.int .u8 E, .int .u8 M], .int .u8 0, .agg #[.bool false, v1, v2]] ww fun r w' => r = .returned (.int .u64 PL) ∧ Below ww.heap.size ww w') := fun ww v1 v2 g1 g2 => by
              rw [hPL, huA, huB]; exact round_yes h1 h2 h3 h4 0 (by decide) false g1 g2 (by omega) (by omega) hU20
            have HPG : Hid (∀ ww v1 v2, NatV ww v1 (hiN q * U1) → NatV ww v2 U2 → Calls Oafg.prog 48 #[.agg #[.int .u8 E, .int .u8 M], .int .u8 0, .agg #[.bool false, v1, v2]] ww fun r w' => r = .returned (.int .u64 PG) ∧ Below ww.heap.size ww w') := fun ww v1 v2 g1 g2 => by
              rw [hPG, huA, huB]
              refine round_yes h1 h2 h3 h4 0 (by decide) false g1 g2 ?_ (by omega) hU20
              have a := bl_mul (hiN q) U1
              have b : bl (hiN q) ≤ 200 := by unfold hiN; split <;> assumption
              omega
            have HhiN : Hid (hiN q = if bx = true then entT q else entT q + 1) := by
              show _ = _
              unfold hiN; rw [hbx]; simp only [decide_eq_true_eq]
            have hwq : IntKind.i64.wrap q = q := by rw [wrap_i64']; omega
            clear HV HO la1 la2 la3 gE1 gE2 gE3 gE4 hEn hTb hT0 hex hEX hEH hEL hU1 hU2 huA huB hb2 hbman hbU1 hbU2 hbx hbTU hbdA hbdB hU20 hPL hPG
            have HT1 : Hid _ := hTb1
            have HT0 : Hid _ := hTb0
            clear hTb1 hTb0
            obtain ⟨T, hT⟩ : ∃ T, T = entT q := ⟨_, rfl⟩
            obtain ⟨T1, hT1⟩ : ∃ T1, T1 = entT q + 1 := ⟨_, rfl⟩
            rw [← hT1] at HSu HT1 HhiN
            rw [← hT] at HTN HSu HCm HPL HT0 HhiN
            clear hT hT1
            generalize hiN q = TG at *
            generalize 2 ^ (entX q).toNat = Y2 at *
            go_upto_region 11 with (go_at_call 139; refine (HEN.out _).mono ?_; rintro e w2 ⟨rfl, hb2⟩; have HK2 : Hid _ := hK.out.call hb2; clear hb2)
            have HB11 : Hid _ := Bx.new w2 (.int .u64 EH) (.int .u64 EL) 111
            have HK3 : Hid _ := HK2.out.call (self1 (o := .cells #[.int .u64 EH, .int .u64 EL] 111))
            generalize hW3 : w2.alloc (.cells #[.int .u64 EH, .int .u64 EL] 111) = W3 at *
            obtain ⟨R11, hR11⟩ : ∃ R, R = w2.heap.size := ⟨_, rfl⟩
            simp only [← hR11]
            rw [← hR11] at HB11
            have d0 := HB11.out.c0
            have d1 := HB11.out.c1
            clear hW3 hR11 HK2 hK c0 c1 HEN
            go_upto_region 12 with (go_at_call 141; refine (HTN.out _).mono ?_; rintro e w4 ⟨⟨kv, rfl, hkN⟩, hb4⟩; obtain ⟨ka, kb, kc, rfl⟩ := hkN.sl; have HKN : Hid _ := hkN; have HK4 : Hid _ := HK3.out.call hb4; clear hkN hb4)
            clear HB11 d0 d1 HK3 HTN
            go_upto_region 13 with (first
              | (go_at_call 84; refine (HMu.out _ _ _ _ _ (HA1.out.call HBP.out) (HA2.out.call HBP.out) HP1.out HP3.out).mono ?_; rintro e w8 ⟨⟨u1, u2, rfl, hu1, hu2⟩, hb8⟩; obtain ⟨i1, j1, k1, rfl⟩ := hu1.sl; obtain ⟨i2, j2, k2, rfl⟩ := hu2.sl; have HU1 : Hid _ := hu1; have HU2 : Hid _ := hu2; have HB8 : Hid _ := bt (bt (bt HBF.out HBA.out) HBP.out) hb8; clear hu1 hu2 hb8)
              | (go_at_call 142; refine (HP2.out _).mono ?_; rintro e w7 ⟨⟨p1, p2, rfl, hp1, hp2⟩, hb7⟩; obtain ⟨m1, m2, m3, rfl⟩ := hp1.sl; obtain ⟨m4, m5, m6, rfl⟩ := hp2.sl; have HP1 : Hid _ := hp1; have HP3 : Hid _ := hp2; have HBP : Hid _ := hb7; clear hp1 hp2 hb7)
              | (go_at_call 85; refine (HWh.out _ _ _ HNF.out).mono ?_; rintro e w6 ⟨⟨a1, a2, rfl, ha1, ha2⟩, hb6⟩; obtain ⟨n1, n2, n3, rfl⟩ := ha1.sl; obtain ⟨n4, n5, n6, rfl⟩ := ha2.sl; have HA1 : Hid _ := ha1; have HA2 : Hid _ := ha2; have HBA : Hid _ := hb6; clear ha1 ha2 hb6)
              | (go_at_call 86; refine (HF.out _).mono ?_; rintro e w5 ⟨⟨fv, rfl, hf⟩, hb5⟩; obtain ⟨o1, o2, o3, rfl⟩ := hf.sl; have HNF : Hid _ := hf; have HBF : Hid _ := hb5; clear hf hb5))
            have HLZ0 := (⟨(HK4.out.call HB8.out).call self1, (HKN.out.call HB8.out).call self1, FB.newA HU1.out HU2.out⟩ : LZ w R5 w8.heap.size E M (.slice ka kb kc) (.slice i1 j1 k1) (.slice i2 j2 k2) T U1 U2 (w8.alloc (.cells #[.bool false, .slice i1 j1 k1, .slice i2 j2 k2] 66)))
            generalize hW9 : w8.alloc (.cells #[.bool false, .slice i1 j1 k1, .slice i2 j2 k2] 66) = W9 at *
            obtain ⟨R15, hR15⟩ : ∃ R, R = w8.heap.size := ⟨_, rfl⟩
            simp only [← hR15]
            rw [← hR15] at HLZ0
            have HLZ : Hid _ := HLZ0
            clear HLZ0 hW9 hR15 HK4 HKN HNF HA1 HA2 HP1 HP3 HU1 HU2 HBF HBA HBP HB8 HMu HP2 HF
            go_cut [16] (fun t16 w' => ∃ R16 a b c d e f, t16 = .pointer (some ⟨R16, 0, none⟩) ∧ Hid (LY w R5 R15 R16 E M (.slice ka kb kc) (.slice i1 j1 k1) (.slice i2 j2 k2) (.slice a b c) (.slice d e f) T U1 U2 (T * U1) U2 w'))
            case first =>
              have hS0 : LZ w R5 R15 E M (.slice ka kb kc) (.slice i1 j1 k1) (.slice i2 j2 k2) T U1 U2 W9 := HLZ.out
              have hFr := HLZ.out.fresh
              have y0 : ∀ w', LZ w R5 R15 E M (.slice ka kb kc) (.slice i1 j1 k1) (.slice i2 j2 k2) T U1 U2 w' → w'.cell? ⟨R15, 0, none⟩ = some (.bool false) := fun _ h => h.u.c0
              have y1 : ∀ w', LZ w R5 R15 E M (.slice ka kb kc) (.slice i1 j1 k1) (.slice i2 j2 k2) T U1 U2 w' → w'.cell? ⟨R15, 1, none⟩ = some (.slice i1 j1 k1) := fun _ h => h.u.c1
              have y2 : ∀ w', LZ w R5 R15 E M (.slice ka kb kc) (.slice i1 j1 k1) (.slice i2 j2 k2) T U1 U2 w' → w'.cell? ⟨R15, 2, none⟩ = some (.slice i2 j2 k2) := fun _ h => h.u.c2
              go_region_held3 (fun w' => LZ w R5 R15 E M (.slice ka kb kc) (.slice i1 j1 k1) (.slice i2 j2 k2) T U1 U2 w')
                (repeat' (first | with_reducible exact hSu | with_reducible exact hSv | with_reducible exact hS0 | with_reducible apply LZ.drew | with_reducible apply LZ.alloc | with_reducible exact LZ.put (by assumption) hFr hBss2 _ _ _ | with_reducible exact LZ.put (by assumption) hFr2 hBss2 _ _ _))
                (first
                  | (go_at_call 85; refine (HWh.out _ _ T ?_).mono ?_; (exact LZ.nk (by assumption)); rintro e w2 ⟨⟨a1, a2, rfl, ha1, ha2⟩, hbu1⟩; obtain ⟨n1, n2, n3, rfl⟩ := ha1.sl; obtain ⟨n4, n5, n6, rfl⟩ := ha2.sl; have hSu := LZ.call (by assumption) hbu1; have HA1 : Hid _ := ha1; have HA2 : Hid _ := ha2; obtain ⟨hc1, hf1⟩ := bcell hbu1; (first | (have hBss := bss_kept hbu1) | skip); have hFr2 := hSu.fresh; clear hbu1 ha1 ha2)
                  | (go_at_call 84; refine (HMk.out _ T _ _ _ _ HT0.out ?_ ?_ ?_ ?_).mono ?_; (first | with_reducible exact HA1.out | with_reducible exact HA1.out.call self1); (first | with_reducible exact HA2.out | with_reducible exact HA2.out.call self1); (exact (LZ.u (by assumption)).n1); (exact (LZ.u (by assumption)).n2); rintro e w3 ⟨⟨v1, v2, rfl, hv1, hv2⟩, hbu2⟩; obtain ⟨r1, r2, r3, rfl⟩ := hv1.sl; obtain ⟨r4, r5, r6, rfl⟩ := hv2.sl; have hSv := LZ.call (by assumption) hbu2; obtain ⟨hc2, hf2⟩ := bcell hbu2; (first | (have hBss2 := hBss.call hbu2) | (have hBss2 := bss_kept0 hbu2) | skip); (first | (obtain ⟨zb, zc0⟩ := hBss2.c0; obtain ⟨za1, za2, za3, zc1⟩ := hBss2.c1; obtain ⟨zb1, zb2, zb3, zc2⟩ := hBss2.c2; have zf0 := hBss2.f0; have zf1 := hBss2.f1; have zf2 := hBss2.f2) | skip); have HV1 : Hid _ := hv1; have HV2 : Hid _ := hv2; clear hbu2 hv1 hv2))
              all_goals
                rename_i hH
                go_wp2_with fail
                go_meet
                case rel =>
                  first
                    | exact ⟨_, _, _, _, _, _, _, rfl, ⟨hH, FB.newA HV1.out HV2.out⟩⟩
                    | exact ⟨_, _, _, _, _, _, _, rfl, ⟨hH, FB.newB hBss2 HV1.out HV2.out⟩⟩
            case rest =>
              obtain ⟨R16, s1, s2, s3, s4, s5, s6, rfl, hLY⟩ := hcut
              clear HLZ
              go_upto_region 14 with fail
              go_cut [17] (fun t17 w' => ∃ R17 a b c d e f, t17 = .pointer (some ⟨R17, 0, none⟩) ∧ Hid ((R17 ≠ R5 ∧ R17 ≠ R16 ∧ w.heap.size ≤ R17) ∧ LE w R5 R16 R17 E M (.slice s1 s2 s3) (.slice s4 s5 s6) (.slice a b c) (.slice d e f) (T * U1) U2 (T1 * U1) U2 w'))
              case first =>
                have hS0 : LY w R5 R15 R16 E M (.slice ka kb kc) (.slice i1 j1 k1) (.slice i2 j2 k2) (.slice s1 s2 s3) (.slice s4 s5 s6) T U1 U2 (T * U1) U2 wc := hLY.out
                have hFr := hLY.out.fresh
                have y0 : ∀ w', LY w R5 R15 R16 E M (.slice ka kb kc) (.slice i1 j1 k1) (.slice i2 j2 k2) (.slice s1 s2 s3) (.slice s4 s5 s6) T U1 U2 (T * U1) U2 w' → w'.cell? ⟨R15, 0, none⟩ = some (.bool false) := fun _ h => h.z.u.c0
                have y1 : ∀ w', LY w R5 R15 R16 E M (.slice ka kb kc) (.slice i1 j1 k1) (.slice i2 j2 k2) (.slice s1 s2 s3) (.slice s4 s5 s6) T U1 U2 (T * U1) U2 w' → w'.cell? ⟨R15, 1, none⟩ = some (.slice i1 j1 k1) := fun _ h => h.z.u.c1
                have y2 : ∀ w', LY w R5 R15 R16 E M (.slice ka kb kc) (.slice i1 j1 k1) (.slice i2 j2 k2) (.slice s1 s2 s3) (.slice s4 s5 s6) T U1 U2 (T * U1) U2 w' → w'.cell? ⟨R15, 2, none⟩ = some (.slice i2 j2 k2) := fun _ h => h.z.u.c2
                go_region_held3 (fun w' => LY w R5 R15 R16 E M (.slice ka kb kc) (.slice i1 j1 k1) (.slice i2 j2 k2) (.slice s1 s2 s3) (.slice s4 s5 s6) T U1 U2 (T * U1) U2 w')
                  (repeat' (first | with_reducible exact hSu | with_reducible exact hSv | with_reducible exact hSx | with_reducible exact hS0 | with_reducible apply LY.drew | with_reducible apply LY.alloc | with_reducible exact LY.put (by assumption) hFr hBss3 _ _ _ | with_reducible exact LY.put (by assumption) hFr2 hBss3 _ _ _ | with_reducible exact LY.put (by assumption) hFr3 hBss3 _ _ _))
                  (first
                    | (go_at_call 143; refine (HSu.out _ _ ?_).mono ?_; (exact (LY.z (by assumption)).nk); rintro e w2 ⟨⟨sv1, rfl, hs1⟩, hbu0⟩; obtain ⟨t1, t2, t3, rfl⟩ := hs1.sl; have hSx := LY.call (by assumption) hbu0; have HS1 : Hid _ := hs1; obtain ⟨hc0, hf0⟩ := bcell hbu0; (first | (have hBss := bss_kept hbu0) | skip); have hFr2 := hSx.fresh; clear hbu0 hs1)
                    | (go_at_call 85; refine (HWh.out _ _ T1 ?_).mono ?_; (first | with_reducible exact HS1.out | with_reducible exact HS1.out.call self1); rintro e w3 ⟨⟨a1, a2, rfl, ha1, ha2⟩, hbu1⟩; obtain ⟨n1, n2, n3, rfl⟩ := ha1.sl; obtain ⟨n4, n5, n6, rfl⟩ := ha2.sl; have hSu := LY.call (by assumption) hbu1; have HA1 : Hid _ := ha1; have HA2 : Hid _ := ha2; obtain ⟨hc1, hf1⟩ := bcell hbu1; (first | (have hBss2 := hBss.call hbu1) | (have hBss2 := bss_kept0 hbu1) | skip); have hFr3 := hSu.fresh; clear hbu1 ha1 ha2)
                    | (go_at_call 84; refine (HMk.out _ T1 _ _ _ _ HT1.out ?_ ?_ ?_ ?_).mono ?_; (first | with_reducible exact HA1.out | with_reducible exact HA1.out.call self1); (first | with_reducible exact HA2.out | with_reducible exact HA2.out.call self1); (exact (LY.z (by assumption)).u.n1); (exact (LY.z (by assumption)).u.n2); rintro e w4 ⟨⟨v1, v2, rfl, hv1, hv2⟩, hbu2⟩; obtain ⟨r1, r2, r3, rfl⟩ := hv1.sl; obtain ⟨r4, r5, r6, rfl⟩ := hv2.sl; have hSv := LY.call (by assumption) hbu2; obtain ⟨hc2, hf2⟩ := bcell hbu2; (first | (have hBss3 := hBss2.call hbu2) | (have hBss3 := bss_kept0 hbu2) | skip); (first | (obtain ⟨zb, zc0⟩ := hBss3.c0; obtain ⟨za1, za2, za3, zc1⟩ := hBss3.c1; obtain ⟨zb1, zb2, zb3, zc2⟩ := hBss3.c2; have zf0 := hBss3.f0; have zf1 := hBss3.f1; have zf2 := hBss3.f2) | skip); have HV1 : Hid _ := hv1; have HV2 : Hid _ := hv2; have hFr4 := hSv.fresh; clear hbu2 hv1 hv2))
                all_goals
                  rename_i hH
                  go_wp2_with fail
                  go_meet
                  case rel =>
                    first
                      | exact ⟨_, _, _, _, _, _, _, rfl, ⟨hFr4.1.1.1, hFr4.2, hFr4.1.2⟩, hH.z.fs, hH.l, FB.newA HV1.out HV2.out⟩
                      | exact ⟨_, _, _, _, _, _, _, rfl, ⟨hFr.1.1.1, hFr.2, hFr.1.2⟩, hH.z.fs, hH.l, FB.newB hBss3 HV1.out HV2.out⟩
                      | exact ⟨_, _, _, _, _, _, _, rfl, ⟨hFr2.1.1.1, hFr2.2, hFr2.1.2⟩, hH.z.fs, hH.l, FB.newB hBss3 HV1.out HV2.out⟩
                      | exact ⟨_, _, _, _, _, _, _, rfl, ⟨hFr3.1.1.1, hFr3.2, hFr3.1.2⟩, hH.z.fs, hH.l, FB.newB hBss3 HV1.out HV2.out⟩
              case rest =>
                obtain ⟨R17, g1, g2, g3, g4, g5, g6, rfl, hLE0⟩ := hcut
                have Hne : Hid _ := hLE0.out.1
                have hLE : Hid (LE w R5 R16 R17 E M (.slice s1 s2 s3) (.slice s4 s5 s6) (.slice g1 g2 g3) (.slice g4 g5 g6) (T * U1) U2 (T1 * U1) U2 wc) := hLE0.out.2
                clear hLY hLE0
                go_upto_region 15 with fail
                go_cut [92] (fun t92 w' => t92 = .bool bx ∧ Hid (LE w R5 R16 R17 E M (.slice s1 s2 s3) (.slice s4 s5 s6) (.slice g1 g2 g3) (.slice g4 g5 g6) (T * U1) U2 (T1 * U1) U2 w'))
                case first =>
                  have hS0 : LE w R5 R16 R17 E M (.slice s1 s2 s3) (.slice s4 s5 s6) (.slice g1 g2 g3) (.slice g4 g5 g6) (T * U1) U2 (T1 * U1) U2 wc := hLE.out
                  have y0 : ∀ w', LE w R5 R16 R17 E M (.slice s1 s2 s3) (.slice s4 s5 s6) (.slice g1 g2 g3) (.slice g4 g5 g6) (T * U1) U2 (T1 * U1) U2 w' → w'.cell? ⟨R16, 0, none⟩ = some (.bool false) := fun _ h => h.l.c0
                  have y1 : ∀ w', LE w R5 R16 R17 E M (.slice s1 s2 s3) (.slice s4 s5 s6) (.slice g1 g2 g3) (.slice g4 g5 g6) (T * U1) U2 (T1 * U1) U2 w' → w'.cell? ⟨R16, 1, none⟩ = some (.slice s1 s2 s3) := fun _ h => h.l.c1
                  have y2 : ∀ w', LE w R5 R16 R17 E M (.slice s1 s2 s3) (.slice s4 s5 s6) (.slice g1 g2 g3) (.slice g4 g5 g6) (T * U1) U2 (T1 * U1) U2 w' → w'.cell? ⟨R16, 2, none⟩ = some (.slice s4 s5 s6) := fun _ h => h.l.c2
                  go_region_held3 (fun w' => LE w R5 R16 R17 E M (.slice s1 s2 s3) (.slice s4 s5 s6) (.slice g1 g2 g3) (.slice g4 g5 g6) (T * U1) U2 (T1 * U1) U2 w')
                    (repeat' (first | with_reducible exact hSu | with_reducible exact hSv | with_reducible exact hS0 | with_reducible apply LE.drew))
                    (first
                      | (go_at_call 49; refine (HDc.out _).mono ?_; rintro e w2 ⟨⟨v1, v2, rfl, hv1, hv2⟩, hbu1⟩; obtain ⟨n1, n2, n3, rfl⟩ := hv1.sl; obtain ⟨n4, n5, n6, rfl⟩ := hv2.sl; have hSu := LE.call (by assumption) hbu1; have HV1 : Hid _ := hv1; have HV2 : Hid _ := hv2; clear hbu1 hv1 hv2)
                      | (go_at_call 144; refine (HCm.out _ _ _ _ _ ?_ ?_ ?_ ?_).mono ?_; (exact (LE.l (by assumption)).n1); (exact (LE.l (by assumption)).n2); (exact HV1.out); (exact HV2.out); rintro e w3 ⟨⟨cc, rfl, hcb, hc0⟩, hbu2⟩; have hSv := LE.call (by assumption) hbu2; clear hbu2))
                  all_goals
                    rename_i hH
                    go_wp2_with fail
                    go_meet
                    case rel => exact ⟨by first | rfl | rw [hc0], hH⟩
                case rest =>
                  obtain ⟨rfl, hLE2⟩ := hcut
                  clear hLE HCm HDc HMk HWh HSu
                  go_upto_if 92 with fail
                  have k0 := hLE2.out.l.c0
                  have k1 := hLE2.out.l.c1
                  have k2 := hLE2.out.l.c2
                  have k3 := hLE2.out.g.c0
                  have k4 := hLE2.out.g.c1
                  have k5 := hLE2.out.g.c2
                  have k6 := hLE2.out.g.f0
                  have k7 := hLE2.out.g.f1
                  have k8 := hLE2.out.g.f2
                  go_cut [93] (fun _ w' => ∃ a b c d e f, Hid (LE w R5 R16 R17 E M (.slice s1 s2 s3) (.slice s4 s5 s6) (.slice a b c) (.slice d e f) (T * U1) U2 (TG * U1) U2 w'))
                  case first =>
                    cases bx
                    · have e9 : TG = T1 := by rw [HhiN.out]; rfl
                      subst e9
                      go_wp2_with fail
                      go_meet
                      case rel => exact ⟨_, _, _, _, _, _, hLE2⟩
                    · have e9 : TG = T := by rw [HhiN.out]; rfl
                      subst e9
                      have hC : Hid _ := hLE2.out.copy Hne.out.1 Hne.out.2.1 Hne.out.2.2 ⟨_, _, _, rfl⟩ ⟨_, _, _, rfl⟩
                      go_wp2_with fail
                      go_meet
                      case rel => exact ⟨_, _, _, _, _, _, hC⟩
                  case rest =>
                    obtain ⟨f1, f2, f3, f4, f5, f6, hL⟩ := hcut
                    clear hLE2 k0 k1 k2 k3 k4 k5 k6 k7 k8 Hne HhiN
                    go_upto_region 17 with fail
                    have hwne := HW.ne wc
                    have x0 : ∀ x : HW wc, x.val.cell? ⟨R5, 0, none⟩ = some (.int .u8 E) := fun x => (hL.out.call x.ok).fs.cE
                    have x1 : ∀ x : HW wc, x.val.cell? ⟨R5, 1, none⟩ = some (.int .u8 M) := fun x => (hL.out.call x.ok).fs.cM
                    have x2 : ∀ x : HW wc, x.val.cell? ⟨R16, 0, none⟩ = some (.bool false) := fun x => (hL.out.call x.ok).l.c0
                    have x3 : ∀ x : HW wc, x.val.cell? ⟨R16, 1, none⟩ = some (.slice s1 s2 s3) := fun x => (hL.out.call x.ok).l.c1
                    have x4 : ∀ x : HW wc, x.val.cell? ⟨R16, 2, none⟩ = some (.slice s4 s5 s6) := fun x => (hL.out.call x.ok).l.c2
                    have x5 : ∀ x : HW wc, x.val.cell? ⟨R17, 0, none⟩ = some (.bool false) := fun x => (hL.out.call x.ok).g.c0
                    have x6 : ∀ x : HW wc, x.val.cell? ⟨R17, 1, none⟩ = some (.slice f1 f2 f3) := fun x => (hL.out.call x.ok).g.c1
                    have x7 : ∀ x : HW wc, x.val.cell? ⟨R17, 2, none⟩ = some (.slice f4 f5 f6) := fun x => (hL.out.call x.ok).g.c2
                    have HQL : Hid (∀ x : HW wc, Calls Oafg.prog 48 #[.agg #[.int .u8 E, .int .u8 M], .int .u8 0, .agg #[.bool false, .slice s1 s2 s3, .slice s4 s5 s6]] x.val fun r w' => r = .returned (.int .u64 PL) ∧ Below x.val.heap.size x.val w') := fun x => HPL.out _ _ _ (hL.out.call x.ok).l.n1 (hL.out.call x.ok).l.n2
                    have HQG : Hid (∀ x : HW wc, Calls Oafg.prog 48 #[.agg #[.int .u8 E, .int .u8 M], .int .u8 0, .agg #[.bool false, .slice f1 f2 f3, .slice f4 f5 f6]] x.val fun r w' => r = .returned (.int .u64 PG) ∧ Below x.val.heap.size x.val w') := fun x => HPG.out _ _ _ (hL.out.call x.ok).g.n1 (hL.out.call x.ok).g.n2
                    have hOv := HOe.out
                    by_cases pe : PL = PG
                    · have e9 : O = true := by rw [hOv]; simp [pe]
                      have pe1 : ((PL : Int) == (PG : Int)) = true := by rw [beq_iff_eq]; omega
                      clear hOv HOe HVz pe
                      subst e9
                      refine quiet_held (by kernel_rfl) (by kernel_rfl) ?_
                      repeat (go_big_quiet_step (first
                        | (go_at_call_of 48 (Value.slice s1 s2 s3); refine (HQL.out _).mono ?_; rintro e w2 ⟨rfl, hbu⟩; exact ⟨rfl, ⟨w2, HB.call (HW.ok _) hbu⟩, rfl⟩)
                        | (go_at_call_of 48 (Value.slice f1 f2 f3); refine (HQG.out _).mono ?_; rintro e w2 ⟨rfl, hbu⟩; exact ⟨rfl, ⟨w2, HB.call (HW.ok _) hbu⟩, rfl⟩)))
                      refine wpQuiet_nil ?_
                      rintro _ ⟨x, rfl⟩
                      go_wp2_with fail
                      go_meet
                      case rel => exact ⟨hL.out.fs.call x.ok, HSay⟩
                    · have e9 : O = false := by rw [hOv]; simp [pe]
                      have e8 : V = 0 := HVz.out e9
                      have pe1 : ((PL : Int) == (PG : Int)) = false := by rw [beq_eq_false_iff_ne]; omega
                      clear hOv HOe HVz pe
                      subst e9 e8
                      refine quiet_held (by kernel_rfl) (by kernel_rfl) ?_
                      repeat (go_big_quiet_step (first
                        | (go_at_call_of 48 (Value.slice s1 s2 s3); refine (HQL.out _).mono ?_; rintro e w2 ⟨rfl, hbu⟩; exact ⟨rfl, ⟨w2, HB.call (HW.ok _) hbu⟩, rfl⟩)
                        | (go_at_call_of 48 (Value.slice f1 f2 f3); refine (HQG.out _).mono ?_; rintro e w2 ⟨rfl, hbu⟩; exact ⟨rfl, ⟨w2, HB.call (HW.ok _) hbu⟩, rfl⟩)))
                      refine wpQuiet_nil ?_
                      rintro _ ⟨x, rfl⟩
                      go_wp2_with fail
                      go_meet
                      case rel => exact ⟨hL.out.fs.call x.ok, HSay⟩
        · have hzz : man = 0 ∨ q < -348 := by have := Hz.out; simpa using this.symm
          have hVV : V = 0 := by rw [HV.out]; unfold lemV; rw [if_neg (by rw [← Hsv.out]; decide), if_pos hzz]
          have hOO : O = true := by rw [HO.out]; unfold lemO; rw [if_neg (by rw [← Hsv.out]; decide), if_pos hzz]
          have HSay : Hid (Says E M man q V O) := fun _ _ _ => by rw [hVV, dec_zero h1 h2 h3 h4 hman hzz]
          subst hVV hOO
          clear HV HO hzz
          go_wp2_with fail
          go_meet
          case rel => exact ⟨hK, HSay⟩
      case rest =>
        obtain ⟨hK2, hSay⟩ := hcut
        clear hK c0 c1
        have hwne := HW.ne wc
        have x0 : ∀ x : HW wc, x.val.cell? ⟨R5, 0, none⟩ = some (.int .u8 E) := fun x => (hK2.out.call x.ok).cE
        have x1 : ∀ x : HW wc, x.val.cell? ⟨R5, 1, none⟩ = some (.int .u8 M) := fun x => (hK2.out.call x.ok).cM
        have tail : True := trivial
        cases O
        · go_upto_region 19 with fail
          refine quiet_held (by kernel_rfl) (by kernel_rfl) ?_
          repeat (go_big_quiet_step (fail))
          refine wpQuiet_nil ?_
          rintro _ ⟨x, rfl⟩
          go_wp2
          go_ret
          exact ⟨rfl, bt hK2.out.below x.ok⟩
        by_cases q3 : q < -3000
        · go_upto_region 19 with fail
          refine quiet_held (by kernel_rfl) (by kernel_rfl) ?_
          repeat (go_big_quiet_step (fail))
          refine wpQuiet_nil ?_
          rintro _ ⟨x, rfl⟩
          go_wp2
          go_ret
          exact ⟨rfl, bt hK2.out.below x.ok⟩
        have q3' : decide (q < -3000) = false := decide_eq_false q3
        by_cases q4 : 3000 < q
        · go_upto_region 19 with fail
          refine quiet_held (by kernel_rfl) (by kernel_rfl) ?_
          repeat (go_big_quiet_step (fail))
          refine wpQuiet_nil ?_
          rintro _ ⟨x, rfl⟩
          go_wp2
          go_ret
          exact ⟨rfl, bt hK2.out.below x.ok⟩
        have q4' : decide (3000 < q) = false := decide_eq_false q4
        have hVd := hSay.out rfl (by omega) (by omega)
        have HD : Hid (∀ ww, Calls Oafg.prog 49 #[.int .u64 man, .int .i64 q] ww fun e w' => (∃ v1 v2, e = .returned (.agg #[.bool false, v1, v2]) ∧ NatV w' v1 (dA man q) ∧ NatV w' v2 (dB q)) ∧ Below ww.heap.size ww w') := fun ww => decimal_nat (w := ww) man hman q (by omega) (by omega)
        have hwq : IntKind.i64.wrap q = q := by rw [wrap_i64']; omega
        have HRd : Hid (∀ ww v1 v2, NatV ww v1 (dA man q) → NatV ww v2 (dB q) → Calls Oafg.prog 48 #[.agg #[.int .u8 E, .int .u8 M], .int .u8 0, .agg #[.bool false, v1, v2]] ww fun r w' => r = .returned (.int .u64 V) ∧ Below ww.heap.size ww w') := fun ww v1 v2 g1 g2 => by
          rw [hVd]
          exact round_yes h1 h2 h3 h4 0 (by decide) false g1 g2 (by unfold dA; have a := bl_mul man (10 ^ q.toNat); have b := bl_ten q.toNat; have c := bl_le man 64 hman; omega) (by unfold dB; have b := bl_ten (-q).toNat; omega) (dB_ne q)
        clear hVd
        go_upto_region 19 with fail
        have hS0 : FS w R5 E M wc := hK2.out
        have g0 : ∀ w', FS w R5 E M w' → w'.cell? ⟨R5, 0, none⟩ = some (.int .u8 E) := fun _ h => h.cE
        have g1 : ∀ w', FS w R5 E M w' → w'.cell? ⟨R5, 1, none⟩ = some (.int .u8 M) := fun _ h => h.cM
        go_region_held3 (fun w' => FS w R5 E M w')
          (repeat' (first | with_reducible exact hSu | with_reducible exact hSv | with_reducible exact hS0 | with_reducible apply FS.drew))
          (first
            | (go_at_call 49; refine (HD.out _).mono ?_; rintro e w2 ⟨⟨v1, v2, rfl, hN1, hN2⟩, hbu⟩; have hSu := FS.call (by assumption) hbu; have HN1 : Hid _ := hN1; have HN2 : Hid _ := hN2; clear hN1 hN2)
            | (go_at_call 48; refine (HRd.out _ _ _ HN1.out HN2.out).mono ?_; rintro e w3 ⟨rfl, hbu2⟩; have hSv := FS.call (by assumption) hbu2))
        all_goals
          rename_i hH
          go_wp2
          go_ret
          exact ⟨by simp, FS.below hH⟩
end Go.Proofs.Ygcoaf
