/-
  PACKAGE exact, the sixth: RoundFlags.
-/
import Derived.Test.YgcoafX5
namespace Go.Proofs.Ygcoaf
open Go.RowKit Go.Proofs.Ygcoaf.M

/-- the exponent at which A/B is rounded -/
def eAt (E A B : Nat) : Int := max (rlog A B) (lo E)
def rfV (E M mode : Nat) (neg : Bool) (A B : Nat) : Nat :=
  if A = 0 then sgn E M neg else if biasN E < eAt E A B then ovf E M mode neg else packV E M mode neg (rungOf M (lo E) mode neg A B (eAt E A B))
def smAt (E M A B : Nat) : Bool := decide (A * 2 ^ ((M : Int) - eAt E A B).toNat % (B * 2 ^ (-((M : Int) - eAt E A B)).toNat) ≠ 0)
def tinyAt (E M mode : Nat) (neg : Bool) (A B : Nat) : Bool :=
  if rlog A B = lo E - 1 then decide (bl (rnd mode neg (A * 2 ^ ((M : Int) - rlog A B).toNat) (B * 2 ^ (-((M : Int) - rlog A B)).toNat)) = M + 1) else decide (rlog A B < lo E)
def rfF (E M mode : Nat) (neg : Bool) (A B : Nat) : Nat :=
  if A = 0 then 0 else if biasN E < eAt E A B then 20 else packF E M (smAt E M A B) (tinyAt E M mode neg A B) (rungOf M (lo E) mode neg A B (eAt E A B))

/-- the numerator's bound -/
theorem rnd_top (M mode : Nat) (neg : Bool) (A B : Nat) (hA : A ≠ 0) (hB : B ≠ 0) (e : Int) (he : rlog A B ≤ e) : rnd mode neg (A * 2 ^ ((M : Int) - e).toNat) (B * 2 ^ (-((M : Int) - e)).toNat) ≤ 2 ^ (M + 1) := by
  obtain ⟨_, _, h3⟩ := rlog_is A B hA hB
  have hle := rnd_le mode neg (A * 2 ^ ((M : Int) - e).toNat) (B * 2 ^ (-((M : Int) - e)).toNat)
  have hlt : A * 2 ^ ((M : Int) - e).toNat / (B * 2 ^ (-((M : Int) - e)).toNat) < 2 ^ (M + 1) := by
    rw [Nat.div_lt_iff_lt_mul (Nat.mul_pos (Nat.pos_of_ne_zero hB) (Nat.two_pow_pos _))]
    generalize rlog A B = r at *
    -- A * 2^(-(r+1)) < B * 2^(r+1), r ≤ e
    have h4 : A * 2 ^ ((M : Int) - e).toNat * 2 ^ (-(r + 1)).toNat < 2 ^ (M + 1) * (B * 2 ^ (-((M : Int) - e)).toNat) * 2 ^ (-(r + 1)).toNat := by
      calc A * 2 ^ ((M : Int) - e).toNat * 2 ^ (-(r + 1)).toNat = A * 2 ^ (-(r + 1)).toNat * 2 ^ ((M : Int) - e).toNat := by ac_rfl
        _ < B * 2 ^ (r + 1).toNat * 2 ^ ((M : Int) - e).toNat := Nat.mul_lt_mul_of_pos_right h3 (Nat.two_pow_pos _)
        _ = B * 2 ^ ((r + 1).toNat + ((M : Int) - e).toNat) := by rw [Nat.pow_add]; ac_rfl
        _ ≤ B * 2 ^ (M + 1 + (-((M : Int) - e)).toNat + (-(r + 1)).toNat) := Nat.mul_le_mul_left _ (two_pow_le (by omega))
        _ = _ := by rw [Nat.pow_add, Nat.pow_add]; ac_rfl
    exact Nat.lt_of_mul_lt_mul_right h4
  omega

/-- what RoundFlags holds -/
structure RF (w : World) (R0 R1 E M : Nat) (neg : Bool) (v1 v2 : Value) (A B : Nat) (w' : World) : Prop where
  below : Below w.heap.size w w'
  cE : w'.cell? ⟨R0, 0, none⟩ = some (.int .u8 E)
  cM : w'.cell? ⟨R0, 1, none⟩ = some (.int .u8 M)
  cN : w'.cell? ⟨R1, 0, none⟩ = some (.bool neg)
  c1 : w'.cell? ⟨R1, 1, none⟩ = some v1
  c2 : w'.cell? ⟨R1, 2, none⟩ = some v2
  n1 : NatV w' v1 A
  n2 : NatV w' v2 B
theorem RF.call {w W w' : World} {R0 R1 E M : Nat} {neg : Bool} {v1 v2 : Value} {A B : Nat} (s : RF w R0 R1 E M neg v1 v2 A B W) (h : Below W.heap.size W w') : RF w R0 R1 E M neg v1 v2 A B w' := by
  have l9 : R0 < W.heap.size := World.block_lt_of_cell? _ _ s.cE
  have l11 : R1 < W.heap.size := World.block_lt_of_cell? _ _ s.cN
  obtain ⟨hc, hf⟩ := bcell h
  exact ⟨bt s.below h, by rw [hc _ _ l9]; exact s.cE, by rw [hc _ _ l9]; exact s.cM, by rw [hc _ _ l11]; exact s.cN, by rw [hc _ _ l11]; exact s.c1, by rw [hc _ _ l11]; exact s.c2, s.n1.call h, s.n2.call h⟩

/-- .. and the floor's rest, the rounded number -/
structure RG (w : World) (R0 R1 R13 E M : Nat) (neg : Bool) (v1 v2 vn : Value) (A B n : Nat) (C : Int) (sm : Bool) (w' : World) : Prop where
  rf : RF w R0 R1 E M neg v1 v2 A B w'
  cC : w'.cell? ⟨R13, 0, none⟩ = some (.int .i8 C)
  cS : w'.cell? ⟨R13, 1, none⟩ = some (.bool sm)
  num : NatV w' vn n
theorem RG.call {w W w' : World} {R0 R1 R13 E M : Nat} {neg : Bool} {v1 v2 vn : Value} {A B n : Nat} {C : Int} {sm : Bool} (s : RG w R0 R1 R13 E M neg v1 v2 vn A B n C sm W) (h : Below W.heap.size W w') : RG w R0 R1 R13 E M neg v1 v2 vn A B n C sm w' := by
  have l9 : R13 < W.heap.size := World.block_lt_of_cell? _ _ s.cC
  obtain ⟨hc, hf⟩ := bcell h
  exact ⟨s.rf.call h, by rw [hc _ _ l9]; exact s.cC, by rw [hc _ _ l9]; exact s.cS, s.num.call h⟩

set_option maxRecDepth 8000 in
set_option maxHeartbeats 4000000 in
/-- exact.RoundFlags -/
theorem roundFlags_yes {E M : Nat} (h1 : 2 ≤ E) (h2 : E ≤ 11) (h3 : 2 ≤ M) (h4 : M ≤ 52) (mode : Nat) (hm : mode < 256) (neg : Bool) {w : World} {va vb : Value} {A B : Nat} (s1 : NatV w va A) (s2 : NatV w vb B) (b1 : bl A ≤ 700000) (b2 : bl B ≤ 700000) (hB : B ≠ 0) :
    Calls Oafg.prog 83 #[.agg #[.int .u8 E, .int .u8 M], .int .u8 mode, .agg #[.bool neg, va, vb]] w fun r w' =>
      r = .returned (.tuple #[.int .u64 (rfV E M mode neg A B : Nat), .int .u8 (rfF E M mode neg A B : Nat)]) ∧ Below w.heap.size w w' := by
  obtain ⟨V, hV⟩ : ∃ V, V = rfV E M mode neg A B := ⟨_, rfl⟩
  obtain ⟨F, hF⟩ : ∃ F, F = rfF E M mode neg A B := ⟨_, rfl⟩
  rw [← hV, ← hF]
  have HV : Hid _ := hV
  have HF : Hid _ := hF
  obtain ⟨ada, la, ca, rfl⟩ := s1.sl
  obtain ⟨adb, lb, cb, rfl⟩ := s2.sl
  have hbw : Below w.heap.size w ((w.alloc (.cells #[.int .u8 E, .int .u8 M] 27)).alloc (.cells #[.bool neg, .slice ada la ca, .slice adb lb cb] 66)) := self2
  have MR : Hid (∀ w1, Below ((w.alloc (.cells #[.int .u8 E, .int .u8 M] 27)).alloc (.cells #[.bool neg, .slice ada la ca, .slice adb lb cb] 66)).heap.size ((w.alloc (.cells #[.int .u8 E, .int .u8 M] 27)).alloc (.cells #[.bool neg, .slice ada la ca, .slice adb lb cb] 66)) w1 → Calls Oafg.prog 124 #[.bool neg, .slice ada la ca, .slice adb lb cb] w1 fun e w' => (∃ v1 v2, e = .returned (.agg #[.bool neg, v1, v2]) ∧ NatV w' v1 A ∧ NatV w' v2 B) ∧ Below w1.heap.size w1 w') :=
    fun w1 hh => makeRat_nat neg ((s1.call hbw).call hh) ((s2.call hbw).call hh) (by omega) (by omega) hB
  have HOK : Hid _ := fun ww => ok_yes h1 h2 h3 h4 ww
  have Hsz : Hid ((w.alloc (.cells #[.int .u8 E, .int .u8 M] 27)).heap.size = w.heap.size + 1) := by show _ = _; simp
  clear hV hF s1 s2 hbw
  go_enter Oafg.func83, Oafg.ntmps83
  go_upto_region 4 with (first
    | (go_at_call 54; refine (HOK.out _).mono ?_; rintro e' w1 ⟨rfl, hb1⟩; obtain ⟨hc1, hf1⟩ := bcell hb1)
    | (go_at_call 124; refine (MR.out _ hb1).mono ?_; rintro e' w2 ⟨⟨v1, v2, rfl, hN1, hN2⟩, hb2⟩; obtain ⟨ad1, l1, cp1, rfl⟩ := hN1.sl; obtain ⟨ad2, l2, cp2, rfl⟩ := hN2.sl; obtain ⟨⟨k0, k1, k2⟩, k3, k4, k5⟩ := kept3 (bt hb1 hb2); rw [Hsz.out] at k0 k1 k2 k3 k4 k5; have HN1 : Hid _ := hN1; have HN2 : Hid _ := hN2; have HB2 : Hid _ := hb2; have HB1 : Hid _ := hb1; clear hN1 hN2 hb2))
  have hRF : RF w w.heap.size (w.heap.size + 1) E M neg (.slice ad1 l1 cp1) (.slice ad2 l2 cp2) A B (((w2.setCell ⟨w.heap.size + 1, 0, none⟩ (.bool neg)).setCell ⟨w.heap.size + 1, 1, none⟩ (.slice ad1 l1 cp1)).setCell ⟨w.heap.size + 1, 2, none⟩ (.slice ad2 l2 cp2)) := by
    obtain ⟨hc, hf⟩ := bcell (bt HB1.out HB2.out)
    have kE : w2.cell? ⟨w.heap.size, 0, none⟩ = some (.int .u8 E) := by rw [hc _ _ (by simp; omega)]; simp [go_sem]
    have kM : w2.cell? ⟨w.heap.size, 1, none⟩ = some (.int .u8 M) := by rw [hc _ _ (by simp; omega)]; simp [go_sem]
    have far : ∀ o, (((w2.setCell ⟨w.heap.size + 1, 0, none⟩ (.bool neg)).setCell ⟨w.heap.size + 1, 1, none⟩ (.slice ad1 l1 cp1)).setCell ⟨w.heap.size + 1, 2, none⟩ (.slice ad2 l2 cp2)).cell? ⟨w.heap.size, o, none⟩ = w2.cell? ⟨w.heap.size, o, none⟩ := fun o => by
      rw [World.cell?_setCell_far _ _ _ _ (by show w.heap.size + 1 ≠ w.heap.size; omega), World.cell?_setCell_far _ _ _ _ (by show w.heap.size + 1 ≠ w.heap.size; omega), World.cell?_setCell_far _ _ _ _ (by show w.heap.size + 1 ≠ w.heap.size; omega)]
    have z1 : (w2.setCell ⟨w.heap.size + 1, 0, none⟩ (.bool neg)).cell? ⟨w.heap.size + 1, 1, none⟩ = some (.slice ada la ca) := by
      rw [World.cell?_setCell_other (h := fun h => absurd (congrArg Addr.off h) (by show ¬ ((0 : Nat) = 1); decide))]; exact k1
    have z2 : ((w2.setCell ⟨w.heap.size + 1, 0, none⟩ (.bool neg)).setCell ⟨w.heap.size + 1, 1, none⟩ (.slice ad1 l1 cp1)).cell? ⟨w.heap.size + 1, 2, none⟩ = some (.slice adb lb cb) := by
      rw [World.cell?_setCell_other (h := fun h => absurd (congrArg Addr.off h) (by show ¬ ((1 : Nat) = 2); decide)), World.cell?_setCell_other (h := fun h => absurd (congrArg Addr.off h) (by show ¬ ((0 : Nat) = 2); decide))]; exact k2
    refine ⟨below_set3 _ _ _ (bt (below2 HB1.out) HB2.out) (by omega), by rw [far]; exact kE, by rw [far]; exact kM, ?_, ?_, ?_, HN1.out.set3 _ _ _ k0 k1 k2 (fun x => by simp) (fun x => by simp) (fun x => by simp), HN2.out.set3 _ _ _ k0 k1 k2 (fun x => by simp) (fun x => by simp) (fun x => by simp)⟩
    · rw [World.cell?_setCell_other (h := fun h => absurd (congrArg Addr.off h) (by show ¬ ((2 : Nat) = 0); decide)), World.cell?_setCell_other (h := fun h => absurd (congrArg Addr.off h) (by show ¬ ((1 : Nat) = 0); decide)), World.cell?_setCell_same _ _ _ k0]
    · rw [World.cell?_setCell_other (h := fun h => absurd (congrArg Addr.off h) (by show ¬ ((2 : Nat) = 1); decide)), World.cell?_setCell_same _ _ _ z1]
    · rw [World.cell?_setCell_same _ _ _ z2]
  generalize hW : (((w2.setCell ⟨w.heap.size + 1, 0, none⟩ (.bool neg)).setCell ⟨w.heap.size + 1, 1, none⟩ (.slice ad1 l1 cp1)).setCell ⟨w.heap.size + 1, 2, none⟩ (.slice ad2 l2 cp2)) = W at hRF ⊢
  obtain ⟨R1, hR1⟩ : ∃ R1, R1 = w.heap.size + 1 := ⟨_, rfl⟩
  rw [← hR1] at hRF
  simp only [← hR1]
  obtain ⟨R0, hR0⟩ : ∃ R0, R0 = w.heap.size := ⟨_, rfl⟩
  simp only [← hR0]
  have hRF' : RF w R0 R1 E M neg (.slice ad1 l1 cp1) (.slice ad2 l2 cp2) A B W := by rw [hR0]; exact hRF
  have HRF : Hid _ := hRF'
  have c0 := hRF'.cE
  have c1 := hRF'.cM
  have c2 := hRF'.cN
  have c3 := hRF'.c1
  have c4 := hRF'.c2
  have HZ : Hid _ := fun ww => ezero_yes h1 h2 h3 h4 neg ww
  have qE := eqNil
  clear hRF hRF' hW hR0 hR1 k0 k1 k2 k3 k4 k5 hc1 hf1 hb1 HB1 HB2 HN1 HN2 MR HOK Hsz
  by_cases hA : A = 0
  · have hv : (Value.slice ad1 l1 cp1) = .slice none 0 0 := by have := HRF.out.n1; rw [hA] at this; exact this.zero
    have hV : V = sgn E M neg := by rw [HV.out]; unfold rfV; rw [if_pos hA]
    have hF : F = 0 := by rw [HF.out]; unfold rfF; rw [if_pos hA]
    cases hv
    rw [← hV] at HZ
    subst hF
    clear hV HV HF hA
    go_wp2_with (go_at_call 125; refine (HZ.out _).mono ?_; rintro e' w3 ⟨rfl, hb3⟩)
    go_ret2
    exact ⟨rfl, bt HRF.out.below hb3⟩
  obtain ⟨b0, off0, cap0, xs, hv, _⟩ := HRF.out.n1.pos hA
  have had : ad1 = some ⟨b0, off0, none⟩ := by injection hv
  subst had
  clear hv HZ
  obtain ⟨em, hem⟩ : ∃ em, em = lo E := ⟨_, rfl⟩
  obtain ⟨bi, hbi⟩ : ∃ bi, bi = biasN E := ⟨_, rfl⟩
  have hbd := biasN_bd h1 h2
  have hlo : lo E = 1 - biasN E := rfl
  have HEI : Hid _ := fun ww => emin_yes h1 h2 h3 h4 ww
  have HEA : Hid _ := fun ww => emax_yes h1 h2 h3 h4 ww
  rw [← hem] at HEI
  rw [← hbi] at HEA
  obtain ⟨rl, hrl⟩ : ∃ rl, rl = rlog A B := ⟨_, rfl⟩
  obtain ⟨re, hre⟩ : ∃ re, re = max (em - 1 - 1) (min (bi + 1) rl) := ⟨_, rfl⟩
  have hemb : em = 1 - bi := by rw [hem, hbi]; exact hlo
  have hbi2 : 1 ≤ bi ∧ bi ≤ 1023 := by rw [hbi]; exact hbd
  have f1 : IntKind.i64.wrap (em - 1) = em - 1 := by rw [wrap_i64']; omega
  have HLG : Hid (∀ w', HB W w' → Calls Oafg.prog 126 #[.slice (some ⟨b0, off0, none⟩) l1 cp1, .slice ad2 l2 cp2, .int .i64 (em - 1), .int .i64 bi] w' fun e' w2 => e' = .returned (.int .i64 re) ∧ Below w'.heap.size w' w2) := fun w' h => by
    have := log2_nat (em - 1) bi (by omega) (by omega) (by omega) (HRF.out.n1.call h) (HRF.out.n2.call h) (by omega) (by omega)
    rw [← hrl, ← hre] at this
    exact this
  have Hem : Hid _ := hem
  have Hbi : Hid _ := hbi
  have Hrl : Hid _ := hrl
  have Hre : Hid _ := hre
  have Hemb : Hid _ := hemb
  have hem3 : -1022 ≤ em ∧ em ≤ 0 := by omega
  have hre3 : -2000 ≤ re ∧ re ≤ 2000 := by omega
  have hlt := World.block_lt_of_cell? _ _ c0
  have hlt1 := World.block_lt_of_cell? _ _ c2
  simp only at hlt hlt1
  clear hem hbi hrl hre hemb hbd hlo
  go_upto_region 6 with fail
  go_cut [8] (fun t w' => t = .int .i64 re ∧ Hid (RF w R0 R1 E M neg (.slice (some ⟨b0, off0, none⟩) l1 cp1) (.slice ad2 l2 cp2) A B w'))
  case first =>
    have hS0 : HB W W := HB.start
    have hcl := HB.cells (W := W)
    go_region_held3 (fun w' => HB W w')
      (repeat' (first | with_reducible exact hSu | with_reducible exact hS0 | with_reducible apply HB.drew))
      (first
        | (go_at_call 127; refine (HEI.out _).mono ?_; rintro e' w2 ⟨rfl, hbu⟩; have hSu := HB.call (by assumption) hbu)
        | (go_at_call 128; refine (HEA.out _).mono ?_; rintro e' w3 ⟨rfl, hbu⟩; have hSu := HB.call (by assumption) hbu)
        | (go_at_call 126; refine (HLG.out _ (by assumption)).mono ?_; rintro e' w4 ⟨rfl, hbu⟩; have hSu := HB.call (by assumption) hbu))
    all_goals
      rename_i hH
      go_wp2_with fail
      go_meet
      case rel => exact ⟨rfl, HRF.out.call hH⟩
  case rest =>
    obtain ⟨rfl, hK⟩ := hcut
    have c0 := hK.out.cE
    have c1 := hK.out.cM
    clear HRF HLG
    go_upto_region 8 with ((go_at_call 127; refine (HEI.out _).mono ?_; rintro e' w2 ⟨rfl, hb2⟩; have hK2 : Hid _ := hK.out.call hb2; clear hb2))
    obtain ⟨e, he⟩ : ∃ e, e = if re < em then em else re := ⟨_, rfl⟩
    simp only [← he]
    have he2 : e = max re em := by rw [he]; split <;> omega
    have heA : eAt E A B = max rl em := by unfold eAt; rw [← Hrl.out, ← Hem.out]
    have hHemb := Hemb.out
    have hHre := Hre.out
    have c0 := hK2.out.cE
    have c1 := hK2.out.cM
    have c2 := hK2.out.cN
    by_cases ho : bi < e
    · have hV : V = ovf E M mode neg := by rw [HV.out]; unfold rfV; rw [if_neg hA, if_pos (by rw [heA, ← Hbi.out]; omega)]
      have hF : F = 20 := by rw [HF.out]; unfold rfF; rw [if_neg hA, if_pos (by rw [heA, ← Hbi.out]; omega)]
      have HO : Hid _ := fun ww => eover_yes h1 h2 h3 h4 mode hm neg ww
      rw [← hV] at HO
      subst hF
      clear hV HV HF hA he he2 heA hHemb hHre HEI hK
      go_wp2_with (first
        | (go_at_call 128; refine (HEA.out _).mono ?_; rintro e' w3 ⟨rfl, hb3⟩; have hK3 : Hid _ := hK2.out.call hb3; have d0 := hK3.out.cE; have d1 := hK3.out.cM; have d2 := hK3.out.cN; clear hb3)
        | (go_at_call 129; refine (HO.out _).mono ?_; rintro e' w4 ⟨rfl, hb4⟩))
      go_ret2
      exact ⟨rfl, bt hK3.out.below hb4⟩
    · have heE : e = eAt E A B := by rw [heA]; omega
      have hns : ¬ biasN E < eAt E A B := by rw [← heE, ← Hbi.out]; exact ho
      obtain ⟨k, hk⟩ : ∃ k, k = (M : Int) - e := ⟨_, rfl⟩
      have hkb : -3000 ≤ k ∧ k ≤ 3000 := by omega
      obtain ⟨n, hn⟩ : ∃ n, n = rnd mode neg (A * 2 ^ k.toNat) (B * 2 ^ (-k).toNat) := ⟨_, rfl⟩
      have hn2 : n ≤ 2 ^ (M + 1) := by
        rw [hn, hk]
        exact rnd_top M mode neg A B hA hB e (by rw [heE, heA, ← Hrl.out]; omega)
      obtain ⟨C, hC⟩ : ∃ C, C = cmpN (A * 2 ^ k.toNat % (B * 2 ^ (-k).toNat) * 2) (B * 2 ^ (-k).toNat) := ⟨_, rfl⟩
      obtain ⟨sm, hsm⟩ : ∃ sm, sm = decide (A * 2 ^ k.toNat % (B * 2 ^ (-k).toNat) ≠ 0) := ⟨_, rfl⟩
      have hsmA : sm = smAt E M A B := by rw [hsm]; unfold smAt; rw [← heE, ← hk]
      have hB2 : B * 2 ^ (-k).toNat ≠ 0 := by have := Nat.mul_pos (Nat.pos_of_ne_zero hB) (Nat.two_pow_pos (-k).toNat); omega
      have HSF : Hid (∀ w', RF w R0 R1 E M neg (.slice (some ⟨b0, off0, none⟩) l1 cp1) (.slice ad2 l2 cp2) A B w' → Calls Oafg.prog 130 #[.slice (some ⟨b0, off0, none⟩) l1 cp1, .slice ad2 l2 cp2, .int .i64 k] w' fun e' w2 => (∃ v1 v2, e' = .returned (.tuple #[v1, v2]) ∧ NatV w2 v1 (A * 2 ^ k.toNat) ∧ NatV w2 v2 (B * 2 ^ (-k).toNat)) ∧ Below w'.heap.size w' w2) := fun w' hr => shift_nat k (by omega) (by omega) hr.n1 hr.n2 (by omega) (by omega)
      have HRD : Hid (∀ w' u1 u2, NatV w' u1 (A * 2 ^ k.toNat) → NatV w' u2 (B * 2 ^ (-k).toNat) → Calls Oafg.prog 131 #[.int .u8 mode, .bool neg, u1, u2] w' fun e' w2 => (∃ v, e' = .returned (.tuple #[v, .agg #[.int .i8 C, .bool sm]]) ∧ NatV w2 v n) ∧ Below w'.heap.size w' w2) := fun w' u1 u2 g1 g2 => by
        have := raised_nat mode hm neg g1 g2 (by have := bl_shl A k.toNat; omega) (by have := bl_shl B (-k).toNat; omega) hB2
        rw [← hC, ← hsm, ← hn] at this
        exact this
      have hx : (e - em).toNat * 2 ^ M + n = rungOf M (lo E) mode neg A B (eAt E A B) := by
        unfold rungOf
        rw [hn, ← heE, ← Hem.out, hk]
        rw [show -((M : Int) - e) = e - (M : Int) from by omega]
      obtain ⟨tiny, htiny⟩ : ∃ tiny, tiny = tinyAt E M mode neg A B := ⟨_, rfl⟩
      have hV : V = packV E M mode neg ((e - em).toNat * 2 ^ M + n) := by rw [HV.out]; unfold rfV; rw [if_neg hA, if_neg hns, hx]
      have hF : F = packF E M sm tiny ((e - em).toNat * 2 ^ M + n) := by rw [HF.out]; unfold rfF; rw [if_neg hA, if_neg hns, hx, hsmA, htiny]
      have HPK : Hid _ := fun ww => pack_yes h1 h2 h3 h4 mode hm neg e (by rw [← Hem.out]; omega) (by rw [← Hbi.out]; omega) n hn2 C sm tiny ww
      rw [← Hem.out, ← hV, ← hF] at HPK
      have f2 : (M : Int) - e = k := hk.symm
      have HnA : Hid _ := hA
      have Hns : Hid _ := hns
      have Htiny : Hid _ := htiny
      have Hn2 : Hid _ := hn2
      have ho2 : e ≤ bi := by omega
      clear hV hF HV HF hx hsmA hsm hC hn hk hns heE he he2 heA hA hn2 htiny hB2 hHre hHemb hK
      go_upto_region 12 with (first
        | (go_at_call 128; refine (HEA.out _).mono ?_; rintro e' w3 ⟨rfl, hb3⟩; have hK3 : Hid _ := hK2.out.call hb3; have d0 := hK3.out.cE; have d1 := hK3.out.cM; have d2 := hK3.out.cN; have d3 := hK3.out.c1; have d4 := hK3.out.c2; clear hb3)
        | (go_at_call 130; refine (HSF.out _ hK3.out).mono ?_; rintro e' w4 ⟨⟨u1, u2, rfl, hNu1, hNu2⟩, hb4⟩; have HNu1 : Hid _ := hNu1; have HNu2 : Hid _ := hNu2; have hK4 : Hid _ := hK3.out.call hb4; have g2 := hK4.out.cN; clear hNu1 hNu2 hb4)
        | (go_at_call 131; refine (HRD.out _ _ _ HNu1.out HNu2.out).mono ?_; rintro e' w5 ⟨⟨vn, rfl, hNn⟩, hb5⟩; have HNn : Hid _ := hNn; have hK5 : Hid _ := hK4.out.call hb5; clear hNn hb5))
      have hG : RG w R0 R1 w5.heap.size E M neg (.slice (some ⟨b0, off0, none⟩) l1 cp1) (.slice ad2 l2 cp2) vn A B n C sm (w5.alloc (.cells #[.int .i8 C, .bool sm] 149)) := by
        have ku := kept2 (w := w5) (u := .int .i8 C) (v := .bool sm) (t := 149) (Below.refl _ _)
        exact ⟨hK5.out.call self1, ku.1, ku.2.1, HNn.out.call self1⟩
      generalize hW6 : w5.alloc (.cells #[.int .i8 C, .bool sm] 149) = W6 at hG ⊢
      obtain ⟨R13, hR13⟩ : ∃ R13, R13 = w5.heap.size := ⟨_, rfl⟩
      rw [← hR13] at hG
      simp only [← hR13]
      have HG : Hid _ := hG
      have m0 := hG.rf.cE
      have m1 := hG.rf.cM
      clear hG hW6 hR13 hK3 hK4 hK5 hK2 HNn HNu1 HNu2 HSF HRD d0 d1 d2 d3 d4 g2
      go_upto_region 13 with ((go_at_call 127; refine (HEI.out _).mono ?_; rintro e' w7 ⟨rfl, hb7⟩; have hG7 : Hid _ := HG.out.call hb7; clear hb7))
      have m2 := hG7.out.rf.cE
      have m3 := hG7.out.rf.cM
      obtain ⟨tb, htb⟩ : ∃ tb, tb = decide (re < em) := ⟨_, rfl⟩
      rw [← htb]
      go_upto_if 89 with ((go_at_call 127; refine (HEI.out _).mono ?_; rintro e' w8 ⟨rfl, hb8⟩; have hG8 : Hid _ := hG7.out.call hb8; clear hb8))
      clear HG hG7 m0 m1 m2 m3 HEI HEA
      obtain ⟨tq, htq⟩ : ∃ tq, tq = (re == em - 1) := ⟨_, rfl⟩
      rw [← htq]
      go_cut [10, 11, 14, 15, 16] (fun _ _ t14 _ _ w' => t14 = .bool tiny ∧ Hid (RG w R0 R1 R13 E M neg (.slice (some ⟨b0, off0, none⟩) l1 cp1) (.slice ad2 l2 cp2) vn A B n C sm w'))
      case first =>
        by_cases cr : re = em - 1
        · obtain rfl : tq = true := by rw [htq, beq_iff_eq]; exact cr
          have hrr : rl = re := by have h9 := Hre.out; have h8 := Hemb.out; omega
          obtain ⟨k2, hk2⟩ : ∃ k2, k2 = (M : Int) - re := ⟨_, rfl⟩
          have hkb2 : -3000 ≤ k2 ∧ k2 ≤ 3000 := by omega
          obtain ⟨full, hfull⟩ : ∃ full, full = rnd mode neg (A * 2 ^ k2.toNat) (B * 2 ^ (-k2).toNat) := ⟨_, rfl⟩
          have hft : full ≤ 2 ^ (M + 1) := by
            rw [hfull, hk2]
            exact rnd_top M mode neg A B HnA.out hB re (by rw [← Hrl.out]; omega)
          have hfb : bl full ≤ 60 := bl_le full 60 (by
            have h9 : 2 ^ (M + 1) ≤ 2 ^ 53 := two_pow_le (by omega)
            omega)
          have hB2 : B * 2 ^ (-k2).toNat ≠ 0 := by have := Nat.mul_pos (Nat.pos_of_ne_zero hB) (Nat.two_pow_pos (-k2).toNat); omega
          have hti : tiny = decide (bl full = M + 1) := by
            rw [Htiny.out]; unfold tinyAt
            rw [← Hrl.out, ← Hem.out, if_pos (by omega), hrr, ← hk2, ← hfull]
          have S8 := hG8.out
          have HSF2 : Hid (Unit → Calls Oafg.prog 130 #[.slice (some ⟨b0, off0, none⟩) l1 cp1, .slice ad2 l2 cp2, .int .i64 k2] w8 fun e' w2 => (∃ v1 v2, e' = .returned (.tuple #[v1, v2]) ∧ NatV w2 v1 (A * 2 ^ k2.toNat) ∧ NatV w2 v2 (B * 2 ^ (-k2).toNat)) ∧ Below w8.heap.size w8 w2) := fun _ => shift_nat k2 (by omega) (by omega) S8.rf.n1 S8.rf.n2 (by omega) (by omega)
          have HRD2 : Hid (∀ w' u1 u2, NatV w' u1 (A * 2 ^ k2.toNat) → NatV w' u2 (B * 2 ^ (-k2).toNat) → Calls Oafg.prog 131 #[.int .u8 mode, .bool neg, u1, u2] w' fun e' w2 => (∃ v C2 sm2, e' = .returned (.tuple #[v, .agg #[.int .i8 C2, .bool sm2]]) ∧ NatV w2 v full) ∧ Below w'.heap.size w' w2) := fun w' u1 u2 g1 g2 => by
            have := raised_nat mode hm neg g1 g2 (by have := bl_shl A k2.toNat; omega) (by have := bl_shl B (-k2).toNat; omega) hB2
            rw [← hfull] at this
            exact this.mono fun e' w2 ⟨⟨v, x1, x2⟩, x3⟩ => ⟨⟨v, _, _, x1, x2⟩, x3⟩
          obtain ⟨bf, hbf⟩ : ∃ bf, bf = bl full := ⟨_, rfl⟩
          have f5 : (M : Int) - re = k2 := hk2.symm
          have m0 := S8.rf.cE
          have m1 := S8.rf.cM
          have m2 := S8.rf.cN
          have m3 := S8.rf.c1
          have m4 := S8.rf.c2
          have HBL : Hid (∀ w' u, NatV w' u full → Calls Oafg.prog 132 #[u] w' fun e' w2 => e' = .returned (.int .i64 bf) ∧ w2 = w') := fun w' u g => by rw [hbf]; exact bitLen_any g
          rw [← hbf] at hti hfb
          have Hti : Hid _ := hti
          clear hti hbf hfull hft hB2 hk2 hrr S8 cr htq htb
          go_upto_region 16 with (first
            | (go_at_call 130; refine (HSF2.out ()).mono ?_; rintro e' wa ⟨⟨u1, u2, rfl, hNu1, hNu2⟩, hba⟩; have HNu1 : Hid _ := hNu1; have HNu2 : Hid _ := hNu2; have hGa : Hid _ := hG8.out.call hba; have g2 := hGa.out.rf.cN; clear hNu1 hNu2 hba)
            | (go_at_call 131; refine (HRD2.out _ _ _ HNu1.out HNu2.out).mono ?_; rintro e' wb ⟨⟨vf, C2, sm2, rfl, hNf⟩, hbb⟩; have HNf : Hid _ := hNf; have hGb : Hid _ := hGa.out.call hbb; clear hNf hbb))
          have hGc : Hid _ := hGb.out.call (self1 (o := .cells #[.int .i8 C2, .bool sm2] 149))
          have HNc : Hid _ := HNf.out.call (self1 (o := .cells #[.int .i8 C2, .bool sm2] 149))
          generalize hWc : wb.alloc (.cells #[.int .i8 C2, .bool sm2] 149) = Wc at *
          have y0 := hGc.out.rf.cE
          have y1 := hGc.out.rf.cM
          have hMb : (0 : Int) ≤ (M : Int) ∧ (M : Int) ≤ 52 := by omega
          clear hG8 hGa hGb HNf HNu1 HNu2 HSF2 HRD2 m0 m1 m2 m3 m4 g2 hWc
          go_quiet ((go_at_call 132; exact Calls.quiet_of_same (HBL.out _ _ (HNc.out.call (below_dN (Below.refl _ _) _)))))
          go_wp2_with fail
          go_meet
          case rel =>
            refine ⟨?_, hGc.out.call (below_dN (Below.refl _ _) _)⟩
            rw [Hti.out]
            have : ((bf : Int) == (M : Int) + 1) = decide (bf = M + 1) := by rw [Bool.eq_iff_iff, beq_iff_eq, decide_eq_true_iff]; omega
            rw [← this]
        · obtain rfl : tq = false := by rw [htq, beq_eq_false_iff_ne]; exact cr
          have ht : tb = tiny := by
            rw [htb, Htiny.out]; unfold tinyAt
            have h9 := Hre.out
            have h8 := Hemb.out
            rw [← Hrl.out, ← Hem.out, if_neg (by omega), decide_eq_decide]; omega
          have HTB : Hid (decide (re < em) = tiny) := by rw [← ht]; exact htb.symm
          clear htq htb ht
          go_wp2_with fail
          go_meet
          case rel => exact ⟨by rw [← HTB.out], hG8⟩
      case rest =>
        obtain ⟨rfl, hL⟩ := hcut
        have m0 := hL.out.rf.cE
        have m1 := hL.out.rf.cM
        have m2 := hL.out.rf.cN
        have m3 := hL.out.cC
        have m4 := hL.out.cS
        have hlt0 := World.block_lt_of_cell? _ _ m0
        have hlt1 := World.block_lt_of_cell? _ _ m2
        have hlt2 := World.block_lt_of_cell? _ _ m3
        simp only at hlt0 hlt1 hlt2
        have hn64 : n < 18446744073709551616 := by
          have := Hn2.out
          have h9 : 2 ^ (M + 1) ≤ 2 ^ 53 := two_pow_le (by omega)
          omega
        have HTU : Hid (∀ w', HB wc w' → Calls Oafg.prog 134 #[vn] w' fun e' w2 => e' = .returned (.int .u64 n) ∧ Below w'.heap.size w' w2) := fun w' h => (toU64_nat (hL.out.num.call h) hn64).mono fun e' w2 ⟨g1, g2⟩ => ⟨g1, by rw [g2]; exact Below.refl _ _⟩
        clear hG8 htq htb
        have hS0 : HB wc wc := HB.start
        have hcl := HB.cells (W := wc)
        go_wp2_with fail
        go_region_held3 (fun w' => HB wc w')
          (repeat' (first | with_reducible exact hSu | with_reducible exact hS0 | with_reducible apply HB.drew))
          (first
            | (go_at_call 134; refine (HTU.out _ (by assumption)).mono ?_; rintro e' w2 ⟨rfl, hbu⟩; have hSu := HB.call (by assumption) hbu)
            | (go_at_call 133; refine (HPK.out _).mono ?_; rintro e' w3 ⟨rfl, hbu⟩; have hSu := HB.call (by assumption) hbu))
        all_goals
          rename_i hH
          go_wp2
          go_ret2
          exact ⟨rfl, bt hL.out.rf.below hH⟩
end Go.Proofs.Ygcoaf
