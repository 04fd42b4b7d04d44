/-
  law.seldomOn, the walk.
-/
import Derived.Test.YgcoafQ9
import Derived.Test.YgcoafQ8
import Derived.Test.YgcoafL12
import Derived.Test.YgcoafL15
import Derived.Test.YgcoafL17
namespace Go.Proofs.Ygcoaf
open Go.RowKit Go.Proofs.Ygcoaf.M

def selE (f32 : Bool) : Nat := if f32 = true then 8 else 11
def selM (f32 : Bool) : Nat := if f32 = true then 23 else 52
theorem sel_serv (f32 : Bool) : servB (selE f32) (selM f32) = true := by cases f32 <;> rfl

/-- what seldomOn holds -/
structure SX (w : World) (R9 R12 E M : Nat) (d1 d2 : Value) (A B : Nat) (w' : World) : Prop where
  fs : FS w R9 E M w'
  d : FB w' R12 d1 d2 A B
theorem SX.call {w W w' : World} {R9 R12 E M : Nat} {d1 d2 : Value} {A B : Nat} (s : SX w R9 R12 E M d1 d2 A B W) (h : Below W.heap.size W w') : SX w R9 R12 E M d1 d2 A B w' := ⟨s.fs.call h, s.d.call h⟩
structure SY (w : World) (R9 R12 R15 R17 E M : Nat) (d1 d2 x1 x2 y1 y2 : Value) (A B X1 X2 Y1 Y2 : Nat) (w' : World) : Prop where
  s : SX w R9 R12 E M d1 d2 A B w'
  x : FB w' R15 x1 x2 X1 X2
  y : FB w' R17 y1 y2 Y1 Y2
theorem SY.call {w W w' : World} {R9 R12 R15 R17 E M : Nat} {d1 d2 x1 x2 y1 y2 : Value} {A B X1 X2 Y1 Y2 : Nat} (s : SY w R9 R12 R15 R17 E M d1 d2 x1 x2 y1 y2 A B X1 X2 Y1 Y2 W) (h : Below W.heap.size W w') : SY w R9 R12 R15 R17 E M d1 d2 x1 x2 y1 y2 A B X1 X2 Y1 Y2 w' := ⟨s.s.call h, s.x.call h, s.y.call h⟩
theorem SY.drew {w W : World} {R9 R12 R15 R17 E M : Nat} {d1 d2 x1 x2 y1 y2 : Value} {A B X1 X2 Y1 Y2 : Nat} (s : SY w R9 R12 R15 R17 E M d1 d2 x1 x2 y1 y2 A B X1 X2 Y1 Y2 W) : SY w R9 R12 R15 R17 E M d1 d2 x1 x2 y1 y2 A B X1 X2 Y1 Y2 W.drew := s.call ((Below.refl _ _).drew)
/-- the upper neighbour, written anew -/
theorem SY.copy {w W : World} {R9 R12 R15 R17 E M : Nat} {d1 d2 x1 x2 : Value} {i1 i2 : Option Addr} {j1 k1 j2 k2 A B X1 X2 Y1 Y2 : Nat} (s : SY w R9 R12 R15 R17 E M d1 d2 x1 x2 (.slice i1 j1 k1) (.slice i2 j2 k2) A B X1 X2 Y1 Y2 W) (h : (R17 ≠ R9 ∧ R17 ≠ R12 ∧ R17 ≠ R15) ∧ w.heap.size ≤ R17) {v1 v2 : Value} {Z1 Z2 : Nat} (g1 : NatV W v1 Z1) (g2 : NatV W v2 Z2) :
    SY w R9 R12 R15 R17 E M d1 d2 x1 x2 v1 v2 A B X1 X2 Z1 Z2 (((W.setCell ⟨R17, 0, none⟩ (.bool false)).setCell ⟨R17, 1, none⟩ v1).setCell ⟨R17, 2, none⟩ v2) := by
  have b : Bss W R17 := ⟨⟨_, s.y.c0⟩, ⟨_, _, _, s.y.c1⟩, ⟨_, _, _, s.y.c2⟩, s.y.f0, s.y.f1, s.y.f2⟩
  exact ⟨⟨s.s.fs.put h.1.1 h.2 _ _ _, s.s.d.far h.1.2.1 b _ _ _⟩, s.x.far h.1.2.2 b _ _ _, FB.newB b g1 g2⟩

theorem bl_pw (j : Nat) : bl (2 ^ j) ≤ j + 1 := by
  have := bl_shl 1 j
  rw [Nat.one_mul] at this
  have e : bl 1 = 1 := by decide
  omega

set_option maxRecDepth 8000 in
set_option maxHeartbeats 1500000 in
/-- law.seldomOn -/
theorem seldomOn_any {w : World} {R : Nat} {H L : Nat → Nat} {X : Nat → Int} (t : TV w R H L X) (hRi : Right H L X) (f32 : Bool) (man : Nat) (q : Int) (hman : man < 18446744073709551616) (hq : -32768 ≤ q ∧ q ≤ 32767) :
    Calls Oafg.prog 92 #[.pointer (some ⟨R, 0, none⟩), .bool f32, .int .u64 man, .int .i16 q] w fun e w' => e = .returned (.bool true) ∧ Below w.heap.size w w' := by
  obtain ⟨E, hEe⟩ : ∃ E, E = selE f32 := ⟨_, rfl⟩
  obtain ⟨M, hMe⟩ : ∃ M, M = selM f32 := ⟨_, rfl⟩
  have hsv : servB E M = true := by rw [hEe, hMe]; exact sel_serv f32
  obtain ⟨h1, h2, h3, h4⟩ := serv_bd hsv
  have HLem : Hid (∀ ww, Below w.heap.size w ww → Calls Oafg.prog 140 #[.pointer (some ⟨R, 0, none⟩), .agg #[.int .u8 E, .int .u8 M], .int .u64 man, .int .i16 q] ww fun e w' => e = .returned (.tuple #[.int .u64 (lemV E M man q : Nat), .bool (lemO E M man q)]) ∧ Below ww.heap.size ww w') := fun ww g => lemire_any (t.call g) hRi E M man q hman hq
  obtain ⟨V, hV⟩ : ∃ V, V = lemV E M man q := ⟨_, rfl⟩
  obtain ⟨O, hO⟩ : ∃ O, O = lemO E M man q := ⟨_, rfl⟩
  rw [← hV, ← hO] at HLem
  have HO : Hid _ := hO
  have Hsv : Hid _ := hsv
  have HEM : Hid (E = selE f32 ∧ M = selM f32) := ⟨hEe, hMe⟩
  have HBI64 : Hid _ := fun ww => binary64_any ww
  have HBI32 : Hid _ := fun ww => binary32_any ww
  clear hV hO t hRi hsv hEe hMe
  go_enter Oafg.func92, Oafg.ntmps92
  go_upto_if 19 with (go_at_call 20; refine (HBI64.out _).mono ?_; rintro e w2 ⟨rfl, hb2⟩; have HB2 : Hid _ := hb2; clear hb2)
  have HBx : Hid _ := Bx.new w2 (.int .u8 11) (.int .u8 52) 27
  have HBl : Hid _ := bt HB2.out (self1 (o := .cells #[.int .u8 11, .int .u8 52] 27))
  have Hold : Hid (w.heap.size ≤ w2.heap.size) := HB2.out.size
  generalize hW3 : w2.alloc (.cells #[.int .u8 11, .int .u8 52] 27) = W3 at *
  obtain ⟨R9, hR9⟩ : ∃ R, R = w2.heap.size := ⟨_, rfl⟩
  rw [← hR9] at HBx Hold
  simp only [← hR9]
  clear hW3 hR9 HB2
  have c0 := HBx.out.c0
  have c1 := HBx.out.c1
  have c2 := HBx.out.f0
  have c3 := HBx.out.f1
  go_cut [20] (fun _ w' => Hid (FS w R9 E M w'))
  case first =>
    obtain ⟨e1, e2⟩ := HEM.out
    cases f32
    · have e3 : E = 11 := e1
      have e4 : M = 52 := e2
      have hF : Hid (FS w R9 E M W3) := ⟨HBl.out, by rw [e3]; exact HBx.out.c0, by rw [e4]; exact HBx.out.c1⟩
      clear e1 e2 e3 e4
      go_wp2_with fail
      go_meet
      case rel => exact hF
    · have e3 : E = 8 := e1
      have e4 : M = 23 := e2
      clear e1 e2
      go_wp2_with (go_at_call 17; refine (HBI32.out _).mono ?_; rintro e w4 ⟨rfl, hb4⟩; have HBx4 : Hid _ := HBx.out.call hb4; have d0 := HBx4.out.c0; have d1 := HBx4.out.c1; have d2 := HBx4.out.f0; have d3 := HBx4.out.f1; have HBl4 : Hid _ := bt HBl.out hb4; clear hb4)
      go_meet
      case rel =>
        have hp := HBx4.out.put (.int .u8 8) (.int .u8 23)
        exact ⟨below_set2 _ _ HBl4.out Hold.out, by rw [e3]; exact hp.c0, by rw [e4]; exact hp.c1⟩
  case rest =>
    have hK := hcut
    clear hcut HBx HBl c0 c1 c2 c3
    have c0 := hK.out.cE
    have c1 := hK.out.cM
    go_upto_region 5 with (go_at_call 140; refine (HLem.out _ hK.out.below).mono ?_; rintro e w5 ⟨rfl, hb5⟩; have HK5 : Hid _ := hK.out.call hb5; clear hb5)
    clear hK c0 c1 HLem
    cases O
    · have hOf := HO.out.symm
      obtain ⟨m0, q1, q2, n, e, ti⟩ := seldom_tie Hsv.out hman hOf
      obtain ⟨hdn, hup, heb⟩ := tie_rnd h1 m0 ti
      have hrg := tie_rung ti
      obtain ⟨cls1, man1, ex1, pt1⟩ := rung_parts h1 h2 h3 h4 hrg
      obtain ⟨_, hr64, _⟩ := rung_lt h2 h4 hrg
      have hbi := biasN_bd h1 h2
      have hiR : infR E M < 9223372036854775808 := by
        have a := infR_lt E M
        have b : 2 ^ (E + M) ≤ 2 ^ 63 := two_pow_le (by omega)
        omega
      have hbdA : bl (dA man q) ≤ 100000 := by unfold dA; have a := bl_mul man (10 ^ q.toNat); have b := bl_ten q.toNat; have c := bl_le man 64 hman; omega
      have hbdB : bl (dB q) ≤ 100000 := by unfold dB; have b := bl_ten (-q).toNat; omega
      have HDc : Hid (∀ ww, Calls Oafg.prog 49 #[.int .u64 man, .int .i64 q] ww fun e w' => (∃ v1 v2, e = .returned (.agg #[.bool false, v1, v2]) ∧ NatV w' v1 (dA man q) ∧ NatV w' v2 (dB q)) ∧ Below ww.heap.size ww w') := fun ww => decimal_nat (w := ww) man hman q (by omega) (by omega)
      obtain ⟨r, hr⟩ : ∃ r, r = tieR E M n e := ⟨_, rfl⟩
      obtain ⟨up, hup9⟩ : ∃ up, up = r + 1 := ⟨_, rfl⟩
      rw [← hr] at hdn hup hr64
      rw [← hup9] at hup
      have HR4 : Hid (∀ ww v1 v2, NatV ww v1 (dA man q) → NatV ww v2 (dB q) → Calls Oafg.prog 48 #[.agg #[.int .u8 E, .int .u8 M], .int .u8 4, .agg #[.bool false, v1, v2]] ww fun r' w' => r' = .returned (.int .u64 r) ∧ Below ww.heap.size ww w') := fun ww v1 v2 g1 g2 => by
        rw [← hdn]; exact round_yes h1 h2 h3 h4 4 (by decide) false g1 g2 (by omega) (by omega) (dB_ne q)
      have HR3 : Hid (∀ ww v1 v2, NatV ww v1 (dA man q) → NatV ww v2 (dB q) → Calls Oafg.prog 48 #[.agg #[.int .u8 E, .int .u8 M], .int .u8 3, .agg #[.bool false, v1, v2]] ww fun r' w' => r' = .returned (.int .u64 up) ∧ Below ww.heap.size ww w') := fun ww v1 v2 g1 g2 => by
        rw [← hup]; exact round_yes h1 h2 h3 h4 3 (by decide) false g1 g2 (by omega) (by omega) (dB_ne q)
      have hne9 : ((r : Int) == (up : Int)) = false := by rw [beq_eq_false_iff_ne]; omega
      obtain ⟨X1, hX1⟩ : ∃ X1, X1 = man1 * 2 ^ ex1.toNat := ⟨_, rfl⟩
      obtain ⟨X2, hX2⟩ : ∃ X2, X2 = 2 ^ (-ex1).toNat := ⟨_, rfl⟩
      have hpe := pt1.exb
      have hbX1 : bl X1 ≤ 2000 := by rw [hX1]; have a := bl_mul man1 (2 ^ ex1.toNat); have b := bl_pw ex1.toNat; have c := bl_le man1 64 pt1.hman; omega
      have hbX2 : bl X2 ≤ 2000 := by rw [hX2]; have b := bl_pw (-ex1).toNat; omega
      have hxAt : IsAt M n e X1 X2 := by unfold IsAt; rw [hX1, hX2]; exact pt1.eq
      have HVal1 : Hid (∀ ww, Calls Oafg.prog 149 #[.agg #[.int .u8 E, .int .u8 M], .int .u64 r] ww fun r' w' => ValP X1 X2 r' w' ∧ Below ww.heap.size ww w') := fun ww => by
        rw [hX1, hX2, hr]; exact value_rung h1 h2 h3 h4 pt1 ww
      obtain ⟨bi, hbi9⟩ : ∃ bi, bi = biasN E := ⟨_, rfl⟩
      obtain ⟨b1, hb19⟩ : ∃ b1 : Int, bi + 1 = b1 := ⟨_, rfl⟩
      obtain ⟨P1, hP1⟩ : ∃ P1, P1 = 2 ^ b1.toNat := ⟨_, rfl⟩
      obtain ⟨P2, hP2⟩ : ∃ P2, P2 = 2 ^ (-b1).toNat := ⟨_, rfl⟩
      have HBi : Hid (∀ ww, Calls Oafg.prog 150 #[.agg #[.int .u8 E, .int .u8 M]] ww fun e w' => e = .returned (.int .i64 bi) ∧ Below ww.heap.size ww w') := fun ww => by rw [hbi9]; exact biasOf_yes h1 h2 ww
      have HP : Hid (∀ ww, Calls Oafg.prog 142 #[.int .i64 b1] ww fun e w' => (∃ v1 v2, e = .returned (.agg #[.bool false, v1, v2]) ∧ NatV w' v1 P1 ∧ NatV w' v2 P2) ∧ Below ww.heap.size ww w') := fun ww => by rw [hP1, hP2]; exact pow2Frac_nat (w := ww) b1 (by omega) (by omega)
      have HPow1 : Hid (∀ ww, Calls Oafg.prog 142 #[.int .i64 1] ww fun e w' => (∃ v1 v2, e = .returned (.agg #[.bool false, v1, v2]) ∧ NatV w' v1 2 ∧ NatV w' v2 1) ∧ Below ww.heap.size ww w') := fun ww => pow2Frac_nat (w := ww) 1 (by decide) (by decide)
      have hb1b : 1 ≤ b1 ∧ b1 ≤ 2000 := by omega
      have hbib : 1 ≤ bi ∧ bi ≤ 1100 := by omega
      obtain ⟨fin, hfin⟩ : ∃ fin, fin = decide (up < infR E M) := ⟨_, rfl⟩
      have HFi : Hid (∀ ww, Calls Oafg.prog 151 #[.agg #[.int .u8 E, .int .u8 M], .int .u64 up] ww fun e w' => e = .returned (.bool fin) ∧ Below ww.heap.size ww w') := fun ww => by
        have := isFinite_yes h1 h2 h3 h4 up (by have := ti.fin; unfold tieR at hr; omega) ww
        rw [fin_of h1 (by have := ti.fin; unfold tieR at hr; omega)] at this
        have e9 : (!decide (up = infR E M)) = fin := by
          rw [hfin, Bool.eq_iff_iff]
          have := ti.fin
          unfold tieR at hr
          simp
          omega
        rw [e9] at this
        exact this
      have HY : Hid (∃ Y1 Y2, (bl Y1 ≤ 5000 ∧ bl Y2 ≤ 5000) ∧ IsAt M (n + 1) e Y1 Y2 ∧ ((fin = true ∧ ∀ ww, Calls Oafg.prog 149 #[.agg #[.int .u8 E, .int .u8 M], .int .u64 up] ww fun r' w' => ValP Y1 Y2 r' w' ∧ Below ww.heap.size ww w') ∨ (fin = false ∧ Y1 = P1 ∧ Y2 = P2))) := by
        by_cases hf : tieR E M n e + 1 < infR E M
        · obtain ⟨n', e', rg', htr, hat⟩ := next_fin ti hf
          obtain ⟨cls2, man2, ex2, pt2⟩ := rung_parts h1 h2 h3 h4 rg'
          have hpe2 := pt2.exb
          refine ⟨man2 * 2 ^ ex2.toNat, 2 ^ (-ex2).toNat, ⟨?_, ?_⟩, hat _ _ pt2.eq, Or.inl ⟨?_, fun ww => ?_⟩⟩
          · have a := bl_mul man2 (2 ^ ex2.toNat); have b := bl_pw ex2.toNat; have c := bl_le man2 64 pt2.hman; omega
          · have b := bl_pw (-ex2).toNat; omega
          · rw [hfin, decide_eq_true_iff]; omega
          · rw [show up = tieR E M n' e' by omega]; exact value_rung h1 h2 h3 h4 pt2 ww
        · obtain ⟨htr, hat⟩ := next_inf h1 ti heb hf
          refine ⟨_, _, ⟨?_, ?_⟩, hat, Or.inr ⟨?_, ?_, ?_⟩⟩
          · have b := bl_pw (biasN E + 1).toNat; omega
          · have b := bl_pw (-(biasN E + 1)).toNat; omega
          · rw [hfin, decide_eq_false_iff_not]; omega
          · rw [hP1, ← hb19, hbi9]
          · rw [hP2, ← hb19, hbi9]
      obtain ⟨Y1, Y2, ⟨hbY1, hbY2⟩, hyAt, hYc⟩ := HY.out
      have hsum := tie_sum ti hxAt hyAt
      have HYc : Hid _ := hYc
      have hwq : IntKind.i64.wrap q = q := by rw [wrap_i64']; omega
      have hr64' : r < 18446744073709551616 := hr64
      have hup64 : up < 18446744073709551616 := by have := ti.fin; unfold tieR at hr; omega
      have HSum : Hid (∀ ww v1 v2 v3 v4, NatV ww v1 X1 → NatV ww v2 X2 → NatV ww v3 Y1 → NatV ww v4 Y2 → Calls Oafg.prog 152 #[.agg #[.bool false, v1, v2], .agg #[.bool false, v3, v4]] ww fun e w' => PosP (X1 * Y2 + Y1 * X2) (X2 * Y2) e w' ∧ Below ww.heap.size ww w') := fun ww v1 v2 v3 v4 g1 g2 g3 g4 => sumFrac_pos g1 g2 g3 g4 (by omega) (by omega) (by omega) (by omega)
      have HMul : Hid (∀ ww v1 v2 v3 v4, NatV ww v1 2 → NatV ww v2 1 → NatV ww v3 (dA man q) → NatV ww v4 (dB q) → Calls Oafg.prog 84 #[.agg #[.bool false, v1, v2], .agg #[.bool false, v3, v4]] ww fun e w' => (∃ v1 v2, e = .returned (.agg #[.bool false, v1, v2]) ∧ NatV w' v1 (2 * dA man q) ∧ NatV w' v2 (1 * dB q)) ∧ Below ww.heap.size ww w') := fun ww v1 v2 v3 v4 g1 g2 g3 g4 => mulFrac_nat false false g1 g2 g3 g4 (by decide) (by decide) (by omega) (by omega)
      have hbS1 : bl (X1 * Y2 + Y1 * X2) ≤ 20000 := by
        have a := bl_mul X1 Y2
        have b := bl_mul Y1 X2
        have c : X1 * Y2 + Y1 * X2 < 2 ^ 15001 := by
          obtain ⟨g, hg⟩ : ∃ g, g = 15000 := ⟨_, rfl⟩
          have u1 : X1 * Y2 < 2 ^ g := Nat.lt_of_lt_of_le (bl_hi _) (two_pow_le (by omega))
          have u2 : Y1 * X2 < 2 ^ g := Nat.lt_of_lt_of_le (bl_hi _) (two_pow_le (by omega))
          have u3 : 2 ^ (g + 1) = 2 * 2 ^ g := by rw [Nat.pow_succ, Nat.mul_comm]
          rw [show (15001 : Nat) = g + 1 by omega]
          omega
        have := bl_le _ _ c
        omega
      have HCm : Hid (∀ ww v1 v2 v3 v4, NatV ww v1 (X1 * Y2 + Y1 * X2) → NatV ww v2 (X2 * Y2) → NatV ww v3 (2 * dA man q) → NatV ww v4 (1 * dB q) → Calls Oafg.prog 144 #[.agg #[.bool false, v1, v2], .agg #[.bool false, v3, v4]] ww fun e w' => e = .returned (.int .i8 0) ∧ Below ww.heap.size ww w') := fun ww v1 v2 v3 v4 g1 g2 g3 g4 =>
        (cmpFrac_nat g1 g2 g3 g4 (by omega) (by have := bl_mul X2 Y2; omega) (by have := bl_mul 2 (dA man q); have e2 : bl 2 = 2 := by decide
                                                                                 omega) (by rw [Nat.one_mul]; omega)).mono fun e w' ⟨k, hb⟩ => by
          obtain ⟨c, e1, e2, e3, e4⟩ := k.out
          have : c = 0 := e4.2 hsum
          rw [this] at e1
          exact ⟨e1, hb⟩
      clear HY hYc hdn hup hrg pt1 hr hup9 hX1 hX2 hpe hbX1 hbX2 hxAt hbi9 hP1 hP2 hfin hbY1 hbY2 hyAt hsum hbS1 hbdA hbdB hiR hbi hr64 hOf HO heb ti
      generalize dA man q = A at *
      generalize dB q = B at *
      go_upto_region 8 with (go_at_call 49; refine (HDc.out _).mono ?_; rintro e w6 ⟨⟨v1, v2, rfl, hv1, hv2⟩, hb6⟩; obtain ⟨a1, a2, a3, rfl⟩ := hv1.sl; obtain ⟨a4, a5, a6, rfl⟩ := hv2.sl; have HV1 : Hid _ := hv1; have HV2 : Hid _ := hv2; have HK6 : Hid _ := HK5.out.call hb6; clear hv1 hv2 hb6)
      have hSX0 : SX w R9 w6.heap.size E M (.slice a1 a2 a3) (.slice a4 a5 a6) A B (w6.alloc (.cells #[.bool false, .slice a1 a2 a3, .slice a4 a5 a6] 66)) := ⟨HK6.out.call self1, FB.newA HV1.out HV2.out⟩
      generalize hW7 : w6.alloc (.cells #[.bool false, .slice a1 a2 a3, .slice a4 a5 a6] 66) = W7 at *
      obtain ⟨R12, hR12⟩ : ∃ R, R = w6.heap.size := ⟨_, rfl⟩
      rw [← hR12] at hSX0
      simp only [← hR12]
      have HSX : Hid _ := hSX0
      clear hSX0 hW7 hR12 HK5 HK6 HV1 HV2 HDc
      go_cut [13, 14] (fun t13 t14 w' => t13 = .int .u64 r ∧ t14 = .int .u64 up ∧ Hid (SX w R9 R12 E M (.slice a1 a2 a3) (.slice a4 a5 a6) A B w'))
      case first =>
        have hwne := HW.ne W7
        have x0 : ∀ x : HW W7, x.val.cell? ⟨R9, 0, none⟩ = some (.int .u8 E) := fun x => (HSX.out.call x.ok).fs.cE
        have x1 : ∀ x : HW W7, x.val.cell? ⟨R9, 1, none⟩ = some (.int .u8 M) := fun x => (HSX.out.call x.ok).fs.cM
        have x2 : ∀ x : HW W7, x.val.cell? ⟨R12, 0, none⟩ = some (.bool false) := fun x => (HSX.out.call x.ok).d.c0
        have x3 : ∀ x : HW W7, x.val.cell? ⟨R12, 1, none⟩ = some (.slice a1 a2 a3) := fun x => (HSX.out.call x.ok).d.c1
        have x4 : ∀ x : HW W7, x.val.cell? ⟨R12, 2, none⟩ = some (.slice a4 a5 a6) := fun x => (HSX.out.call x.ok).d.c2
        have HQ4 : Hid (∀ x : HW W7, Calls Oafg.prog 48 #[.agg #[.int .u8 E, .int .u8 M], .int .u8 4, .agg #[.bool false, .slice a1 a2 a3, .slice a4 a5 a6]] x.val fun r' w' => r' = .returned (.int .u64 r) ∧ Below x.val.heap.size x.val w') := fun x => HR4.out _ _ _ (HSX.out.call x.ok).d.n1 (HSX.out.call x.ok).d.n2
        have HQ3 : Hid (∀ x : HW W7, Calls Oafg.prog 48 #[.agg #[.int .u8 E, .int .u8 M], .int .u8 3, .agg #[.bool false, .slice a1 a2 a3, .slice a4 a5 a6]] x.val fun r' w' => r' = .returned (.int .u64 up) ∧ Below x.val.heap.size x.val w') := fun x => HR3.out _ _ _ (HSX.out.call x.ok).d.n1 (HSX.out.call x.ok).d.n2
        refine quiet_held (by kernel_rfl) (by kernel_rfl) ?_
        repeat (go_big_quiet_step (first
          | (go_at_call_of 48 (Value.int .u8 4); refine (HQ4.out _).mono ?_; rintro e w2 ⟨rfl, hbu⟩; exact ⟨rfl, ⟨w2, HB.call (HW.ok _) hbu⟩, rfl⟩)
          | (go_at_call_of 48 (Value.int .u8 3); refine (HQ3.out _).mono ?_; rintro e w2 ⟨rfl, hbu⟩; exact ⟨rfl, ⟨w2, HB.call (HW.ok _) hbu⟩, rfl⟩)))
        refine wpQuiet_nil ?_
        rintro _ ⟨x, rfl⟩
        go_wp2_with fail
        go_meet
        case rel => exact ⟨rfl, rfl, HSX.out.call x.ok⟩
      case rest =>
        obtain ⟨rfl, rfl, hS⟩ := hcut
        clear HSX HR4 HR3
        have c0 := hS.out.fs.cE
        have c1 := hS.out.fs.cM
        go_upto_region 12 with (go_at_call 149; refine (HVal1.out _).mono ?_; rintro e w8 ⟨hvp, hb8⟩; obtain ⟨cc1, v1, v2, rfl, hv1, hv2⟩ := hvp.out; obtain ⟨b3, b4, b5, rfl⟩ := hv1.sl; obtain ⟨b6, b7, b8, rfl⟩ := hv2.sl; have HV1 : Hid _ := hv1; have HV2 : Hid _ := hv2; have HS8 : Hid _ := hS.out.call hb8; clear hvp hv1 hv2 hb8)
        have HS9 : Hid _ := HS8.out.call (self1 (o := .cells #[.bool false, .slice b3 b4 b5, .slice b6 b7 b8] 66))
        have HX9 : Hid _ := FB.newA HV1.out HV2.out
        generalize hW9 : w8.alloc (.cells #[.bool false, .slice b3 b4 b5, .slice b6 b7 b8] 66) = W9 at *
        obtain ⟨R15, hR15⟩ : ∃ R, R = w8.heap.size := ⟨_, rfl⟩
        rw [← hR15] at HX9
        simp only [← hR15]
        clear hW9 hR15 hS HS8 HV1 HV2 c0 c1 HVal1
        have c0 := HS9.out.fs.cE
        have c1 := HS9.out.fs.cM
        go_upto_region 13 with (first
          | (go_at_call 142; refine (HP.out _).mono ?_; rintro e wb ⟨⟨v1, v2, rfl, hv1, hv2⟩, hbb⟩; obtain ⟨g3, g4, g5, rfl⟩ := hv1.sl; obtain ⟨g6, g7, g8, rfl⟩ := hv2.sl; have HV1 : Hid _ := hv1; have HV2 : Hid _ := hv2; have HSb : Hid _ := HSa.out.call hbb; have HXb : Hid _ := HXa.out.call hbb; clear hv1 hv2 hbb)
          | (go_at_call 150; refine (HBi.out _).mono ?_; rintro e wa ⟨rfl, hba⟩; have HSa : Hid _ := HS9.out.call hba; have HXa : Hid _ := HX9.out.call hba; clear hba))
        have hSY0 : SY w R9 R12 R15 wb.heap.size E M (.slice a1 a2 a3) (.slice a4 a5 a6) (.slice b3 b4 b5) (.slice b6 b7 b8) (.slice g3 g4 g5) (.slice g6 g7 g8) A B X1 X2 P1 P2 (wb.alloc (.cells #[.bool false, .slice g3 g4 g5, .slice g6 g7 g8] 66)) := ⟨HSb.out.call self1, HXb.out.call self1, FB.newA HV1.out HV2.out⟩
        have Hne : Hid ((wb.heap.size ≠ R9 ∧ wb.heap.size ≠ R12 ∧ wb.heap.size ≠ R15) ∧ w.heap.size ≤ wb.heap.size) := by
          have l1 := World.block_lt_of_cell? _ _ HSb.out.fs.cE
          have l2 := HSb.out.d.in
          have l3 := HXb.out.in
          simp only at l1
          exact ⟨⟨by omega, by omega, by omega⟩, HSb.out.fs.below.size⟩
        generalize hWc : wb.alloc (.cells #[.bool false, .slice g3 g4 g5, .slice g6 g7 g8] 66) = Wc at *
        obtain ⟨R17, hR17⟩ : ∃ R, R = wb.heap.size := ⟨_, rfl⟩
        rw [← hR17] at hSY0 Hne
        simp only [← hR17]
        have HSY : Hid _ := hSY0
        clear hSY0 hWc hR17 HS9 HX9 HSa HXa HSb HXb HV1 HV2 c0 c1 HP HBi
        have c0 := HSY.out.s.fs.cE
        have c1 := HSY.out.s.fs.cM
        go_upto_if 64 with (go_at_call 151; refine (HFi.out _).mono ?_; rintro e wd ⟨rfl, hbd⟩; have HSYd : Hid _ := HSY.out.call hbd; clear hbd)
        clear HSY c0 c1 HFi
        have c0 := HSYd.out.s.fs.cE
        have c1 := HSYd.out.s.fs.cM
        go_cut [65, 66, 67, 68, 69, 70] (fun _ _ _ _ _ _ w' => ∃ m1 m2 m3 m4 m5 m6, Hid (SY w R9 R12 R15 R17 E M (.slice a1 a2 a3) (.slice a4 a5 a6) (.slice b3 b4 b5) (.slice b6 b7 b8) (.slice m1 m2 m3) (.slice m4 m5 m6) A B X1 X2 Y1 Y2 w'))
        case first =>
          rcases HYc.out with ⟨e9, hval⟩ | ⟨e9, e8, e7⟩
          · have HVal2 : Hid _ := hval
            subst e9
            clear hval
            go_wp2_with (go_at_call 149; refine (HVal2.out _).mono ?_; rintro e we ⟨hvp, hbe⟩; obtain ⟨cc2, v1, v2, rfl, hv1, hv2⟩ := hvp.out; obtain ⟨l1, l2, l3, rfl⟩ := hv1.sl; obtain ⟨l4, l5, l6, rfl⟩ := hv2.sl; have HV1 : Hid _ := hv1; have HV2 : Hid _ := hv2; have HSYe : Hid _ := HSYd.out.call hbe; have t0 := HSYe.out.y.c0; have t1 := HSYe.out.y.c1; have t2 := HSYe.out.y.c2; have t3 := HSYe.out.y.f0; have t4 := HSYe.out.y.f1; have t5 := HSYe.out.y.f2; clear hvp hv1 hv2 hbe)
            go_meet
            case rel => exact ⟨_, _, _, _, _, _, HSYe.out.copy Hne.out HV1.out HV2.out⟩
          · subst e9 e8 e7
            go_wp2_with fail
            go_meet
            case rel => exact ⟨_, _, _, _, _, _, HSYd⟩
        case rest =>
          obtain ⟨m1, m2, m3, m4, m5, m6, hSY⟩ := hcut
          clear HSYd HYc Hne c0 c1
          go_upto_region 15 with fail
          have hS0 : SY w R9 R12 R15 R17 E M (.slice a1 a2 a3) (.slice a4 a5 a6) (.slice b3 b4 b5) (.slice b6 b7 b8) (.slice m1 m2 m3) (.slice m4 m5 m6) A B X1 X2 Y1 Y2 wc := hSY.out
          have y0 : ∀ w', SY w R9 R12 R15 R17 E M (.slice a1 a2 a3) (.slice a4 a5 a6) (.slice b3 b4 b5) (.slice b6 b7 b8) (.slice m1 m2 m3) (.slice m4 m5 m6) A B X1 X2 Y1 Y2 w' → w'.cell? ⟨R15, 0, none⟩ = some (.bool false) := fun _ h => h.x.c0
          have y1 : ∀ w', SY w R9 R12 R15 R17 E M (.slice a1 a2 a3) (.slice a4 a5 a6) (.slice b3 b4 b5) (.slice b6 b7 b8) (.slice m1 m2 m3) (.slice m4 m5 m6) A B X1 X2 Y1 Y2 w' → w'.cell? ⟨R15, 1, none⟩ = some (.slice b3 b4 b5) := fun _ h => h.x.c1
          have y2 : ∀ w', SY w R9 R12 R15 R17 E M (.slice a1 a2 a3) (.slice a4 a5 a6) (.slice b3 b4 b5) (.slice b6 b7 b8) (.slice m1 m2 m3) (.slice m4 m5 m6) A B X1 X2 Y1 Y2 w' → w'.cell? ⟨R15, 2, none⟩ = some (.slice b6 b7 b8) := fun _ h => h.x.c2
          have y3 : ∀ w', SY w R9 R12 R15 R17 E M (.slice a1 a2 a3) (.slice a4 a5 a6) (.slice b3 b4 b5) (.slice b6 b7 b8) (.slice m1 m2 m3) (.slice m4 m5 m6) A B X1 X2 Y1 Y2 w' → w'.cell? ⟨R17, 0, none⟩ = some (.bool false) := fun _ h => h.y.c0
          have y4 : ∀ w', SY w R9 R12 R15 R17 E M (.slice a1 a2 a3) (.slice a4 a5 a6) (.slice b3 b4 b5) (.slice b6 b7 b8) (.slice m1 m2 m3) (.slice m4 m5 m6) A B X1 X2 Y1 Y2 w' → w'.cell? ⟨R17, 1, none⟩ = some (.slice m1 m2 m3) := fun _ h => h.y.c1
          have y5 : ∀ w', SY w R9 R12 R15 R17 E M (.slice a1 a2 a3) (.slice a4 a5 a6) (.slice b3 b4 b5) (.slice b6 b7 b8) (.slice m1 m2 m3) (.slice m4 m5 m6) A B X1 X2 Y1 Y2 w' → w'.cell? ⟨R17, 2, none⟩ = some (.slice m4 m5 m6) := fun _ h => h.y.c2
          have y6 : ∀ w', SY w R9 R12 R15 R17 E M (.slice a1 a2 a3) (.slice a4 a5 a6) (.slice b3 b4 b5) (.slice b6 b7 b8) (.slice m1 m2 m3) (.slice m4 m5 m6) A B X1 X2 Y1 Y2 w' → w'.cell? ⟨R12, 0, none⟩ = some (.bool false) := fun _ h => h.s.d.c0
          have y7 : ∀ w', SY w R9 R12 R15 R17 E M (.slice a1 a2 a3) (.slice a4 a5 a6) (.slice b3 b4 b5) (.slice b6 b7 b8) (.slice m1 m2 m3) (.slice m4 m5 m6) A B X1 X2 Y1 Y2 w' → w'.cell? ⟨R12, 1, none⟩ = some (.slice a1 a2 a3) := fun _ h => h.s.d.c1
          have y8 : ∀ w', SY w R9 R12 R15 R17 E M (.slice a1 a2 a3) (.slice a4 a5 a6) (.slice b3 b4 b5) (.slice b6 b7 b8) (.slice m1 m2 m3) (.slice m4 m5 m6) A B X1 X2 Y1 Y2 w' → w'.cell? ⟨R12, 2, none⟩ = some (.slice a4 a5 a6) := fun _ h => h.s.d.c2
          go_region_held3 (fun w' => SY w R9 R12 R15 R17 E M (.slice a1 a2 a3) (.slice a4 a5 a6) (.slice b3 b4 b5) (.slice b6 b7 b8) (.slice m1 m2 m3) (.slice m4 m5 m6) A B X1 X2 Y1 Y2 w')
            (repeat' (first | with_reducible exact hSu1 | with_reducible exact hSu2 | with_reducible exact hSu3 | with_reducible exact hSu4 | with_reducible exact hS0 | with_reducible apply SY.drew))
            (first
              | (go_at_call 152; refine (HSum.out _ _ _ _ _ ?_ ?_ ?_ ?_).mono ?_; (exact (SY.x (by assumption)).n1); (exact (SY.x (by assumption)).n2); (exact (SY.y (by assumption)).n1); (exact (SY.y (by assumption)).n2); rintro e w2 ⟨hp, hbu⟩; obtain ⟨v1, v2, rfl, hv1, hv2⟩ := hp.out; obtain ⟨s1, s2, s3, rfl⟩ := hv1.sl; obtain ⟨s4, s5, s6, rfl⟩ := hv2.sl; have hSu1 := SY.call (by assumption) hbu; (first | (have HQ1 : Hid _ := HQ1.out.call hbu; have HQ2 : Hid _ := HQ2.out.call hbu) | skip); (first | (have HM1 : Hid _ := HM1.out.call hbu; have HM2 : Hid _ := HM2.out.call hbu) | skip); have HS1 : Hid _ := hv1; have HS2 : Hid _ := hv2; clear hp hv1 hv2 hbu)
              | (go_at_call 142; refine (HPow1.out _).mono ?_; rintro e w3 ⟨⟨v3, v4, rfl, hv3, hv4⟩, hbu⟩; obtain ⟨t1, t2, t3, rfl⟩ := hv3.sl; obtain ⟨t4, t5, t6, rfl⟩ := hv4.sl; have hSu2 := SY.call (by assumption) hbu; (first | (have HS1 : Hid _ := HS1.out.call hbu; have HS2 : Hid _ := HS2.out.call hbu) | skip); have HQ1 : Hid _ := hv3; have HQ2 : Hid _ := hv4; clear hv3 hv4 hbu)
              | (go_at_call 84; refine (HMul.out _ _ _ _ _ ?_ ?_ ?_ ?_).mono ?_; (exact HQ1.out); (exact HQ2.out); (exact (SY.s (by assumption)).d.n1); (exact (SY.s (by assumption)).d.n2); rintro e w4 ⟨⟨v5, v6, rfl, hv5, hv6⟩, hbu⟩; obtain ⟨o1, o2, o3, rfl⟩ := hv5.sl; obtain ⟨o4, o5, o6, rfl⟩ := hv6.sl; have hSu3 := SY.call (by assumption) hbu; (first | (have HS1 : Hid _ := HS1.out.call hbu; have HS2 : Hid _ := HS2.out.call hbu) | skip); have HM1 : Hid _ := hv5; have HM2 : Hid _ := hv6; clear hv5 hv6 hbu)
              | (go_at_call 144; refine (HCm.out _ _ _ _ _ ?_ ?_ ?_ ?_).mono ?_; (exact HS1.out); (exact HS2.out); (exact HM1.out); (exact HM2.out); rintro e w5 ⟨rfl, hbu⟩; have hSu4 := SY.call (by assumption) hbu; clear hbu))
          all_goals
            rename_i hH
            go_wp2
            go_ret
            exact ⟨rfl, hH.s.fs.below⟩
    · go_wp2
      go_ret
      exact ⟨rfl, HK5.out.below⟩
end Go.Proofs.Ygcoaf
