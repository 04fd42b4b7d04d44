/-
  slow.round.
-/
import Derived.Test.YgcoafT14
namespace Go.Proofs.Ygcoaf
open Go.RowKit Go.Proofs.Ygcoaf.M

/-- the format's cells -/
structure FS (w : World) (R E M : Nat) (w' : World) : Prop where
  below : Below w.heap.size w w'
  cE : w'.cell? ⟨R, 0, none⟩ = some (.int .u8 E)
  cM : w'.cell? ⟨R, 1, none⟩ = some (.int .u8 M)
theorem FS.call {w W w' : World} {R E M : Nat} (s : FS w R E M W) (h : Below W.heap.size W w') : FS w R E M w' := by
  have l9 : R < W.heap.size := World.block_lt_of_cell? _ _ s.cE
  obtain ⟨hc, hf⟩ := bcell h
  exact ⟨bt s.below h, by rw [hc _ _ l9]; exact s.cE, by rw [hc _ _ l9]; exact s.cM⟩
theorem FS.start {w : World} {E M : Nat} : FS w w.heap.size E M (w.alloc (.cells #[.int .u8 E, .int .u8 M] 27)) := by
  refine ⟨self1, ?_, ?_⟩ <;> simp [go_sem]

theorem rnd_le2 {M mode : Nat} (neg : Bool) {sig k : Nat} (hs : sig < 18446744073709551616) (h4 : M ≤ 52) (hk : 63 - M ≤ k) : rnd mode neg sig (2 ^ k) ≤ 2 ^ (M + 1) := by
  have hle := rnd_le mode neg sig (2 ^ k)
  have : sig / 2 ^ k < 2 ^ (M + 1) := by
    rw [Nat.div_lt_iff_lt_mul (Nat.two_pow_pos _), ← Nat.pow_add]
    refine Nat.lt_of_lt_of_le hs ?_
    exact two_pow_le (a := 64) (by omega)
  omega

set_option maxRecDepth 8000 in
set_option maxHeartbeats 4000000 in
/-- slow.round -/
theorem sround_any {E M : Nat} (h1 : 2 ≤ E) (h2 : E ≤ 11) (h3 : 2 ≤ M) (h4 : M ≤ 52) (mode : Nat) (hm : mode < 256) (neg : Bool) (sig : Nat) (exp : Int) (hs2 : sig < 18446744073709551616) (hx1 : -5000 ≤ exp) (hx2 : exp ≤ 3000) (w : World) :
    Calls Oafg.prog 94 #[.agg #[.int .u8 E, .int .u8 M], .int .u8 mode, .bool neg, .int .u64 sig, .int .i64 exp] w fun r w' =>
      r = .returned (.tuple #[.int .u64 (slV E M mode neg sig exp : Nat), .int .u8 (slF E M mode neg sig exp : Nat)]) ∧ Below w.heap.size w w' := by
  obtain ⟨V, hV⟩ : ∃ V, V = slV E M mode neg sig exp := ⟨_, rfl⟩
  obtain ⟨F, hF⟩ : ∃ F, F = slF E M mode neg sig exp := ⟨_, rfl⟩
  rw [← hV, ← hF]
  have HV : Hid _ := hV
  have HF : Hid _ := hF
  obtain ⟨sg, hsg⟩ : ∃ sg, sg = sgn E M neg := ⟨_, rfl⟩
  have Hsg : Hid _ := hsg
  have HSB : Hid _ := fun ww => signBit_yes h1 h2 h3 h4 ww
  have HBI : Hid _ := fun ww => bias_yes h1 h2 h3 h4 ww
  clear hV hF hsg
  go_enter Oafg.func94, Oafg.ntmps94
  go_upto_if 21 with fail
  have hFS : FS w w.heap.size E M (w.alloc (.cells #[.int .u8 E, .int .u8 M] 27)) := FS.start
  generalize hW : w.alloc (.cells #[.int .u8 E, .int .u8 M] 27) = W at hFS ⊢
  obtain ⟨R, hR⟩ : ∃ R, R = w.heap.size := ⟨_, rfl⟩
  simp only [← hR]
  have hFS' : FS w R E M W := by rw [hR]; exact hFS
  have HFS : Hid _ := hFS'
  have c0 := hFS'.cE
  have c1 := hFS'.cM
  clear hFS hFS' hW hR
  go_cut [12] (fun t w' => t = .int .u64 sg ∧ Hid (FS w R E M w'))
  case first =>
    cases neg
    · have hs0 : sg = 0 := by rw [Hsg.out]; rfl
      subst hs0
      go_wp2
      go_meet
      case rel => exact ⟨rfl, HFS⟩
    · have hs0 : (sg : Int) = 2 ^ (E + M) := by rw [Hsg.out]; simp [sgn]
      rw [← hs0] at HSB
      clear hs0
      go_wp2_with (go_at_call 71; refine (HSB.out _).mono ?_; rintro e w2 ⟨rfl, hb⟩; have hS2 : Hid _ := HFS.out.call hb)
      go_meet
      case rel => exact ⟨rfl, hS2⟩
  case rest =>
    obtain ⟨rfl, hK⟩ := hcut
    clear HFS c0 c1 HSB
    by_cases z : sig = 0
    · have e1 : V = sg := by rw [HV.out, Hsg.out]; unfold slV; rw [if_pos z]
      have e2 : F = 0 := by rw [HF.out]; unfold slF; rw [if_pos z]
      subst e1 e2 z
      clear HV HF
      go_wp2
      go_ret2
      exact ⟨rfl, hK.out.below⟩
    have z1 : ((sig : Int) == 0) = false := by rw [beq_eq_false_iff_ne]; omega
    obtain ⟨x, hx⟩ : ∃ x, x = sX E M mode neg sig exp := ⟨_, rfl⟩
    obtain ⟨sm, hsm⟩ : ∃ sm, sm = decide (sig % 2 ^ sK E M exp ≠ 0) := ⟨_, rfl⟩
    obtain ⟨tiny, hti⟩ : ∃ tiny, tiny = sTiny E M mode neg sig exp := ⟨_, rfl⟩
    have HVV : Hid (V = packV E M mode neg x) := by show V = _; rw [HV.out]; unfold slV; rw [if_neg z, hx]
    have HFF : Hid (F = packF E M sm tiny x) := by show F = _; rw [HF.out]; unfold slF; rw [if_neg z, hx, hsm, hti]
    have hbd := biasN_bd h1 h2
    obtain ⟨bi, hbi⟩ : ∃ bi, bi = biasN E := ⟨_, rfl⟩
    rw [← hbi] at HBI hbd
    obtain ⟨em, hem⟩ : ∃ em, em = lo E := ⟨_, rfl⟩
    have hemb : (1 : Int) - bi = em := by rw [hem, hbi]; rfl
    obtain ⟨ee, hee⟩ : ∃ ee, ee = sE E exp := ⟨_, rfl⟩
    have hee2 : ee = max (exp + 63) em := by rw [hee, hem]; rfl
    obtain ⟨k, hk⟩ : ∃ k, k = sK E M exp := ⟨_, rfl⟩
    have hk2 : ee - exp - (M : Int) = (k : Int) := by rw [hk, hee]; unfold sK; rw [← hee]; omega
    obtain ⟨n, hn⟩ : ∃ n, n = rnd mode neg sig (2 ^ k) := ⟨_, rfl⟩
    have hk3 : 63 - M ≤ k := by omega
    have hn2 : n ≤ 2 ^ (M + 1) := by rw [hn]; exact rnd_le2 neg hs2 h4 hk3
    have h53 : 2 ^ (M + 1) ≤ 2 ^ 53 := two_pow_le (by omega)
    have hn3 : n ≤ 9007199254740992 := Nat.le_trans hn2 h53
    have HN : Hid (∀ ww, Calls Oafg.prog 153 #[.int .u8 mode, .bool neg, .int .u64 sig, .int .i64 k] ww fun e w' => e = .returned (.tuple #[.int .u64 n, .bool sm]) ∧ Below ww.heap.size ww w') := fun ww => by
      rw [hn, hsm, ← hk]; exact nearby_any mode hm neg sig k z hs2 (by omega) (by omega) ww
    obtain ⟨full, hfull⟩ : ∃ full, full = rnd mode neg sig (2 ^ (63 - M)) := ⟨_, rfl⟩
    have hfb : full ≤ 9007199254740992 := by rw [hfull]; exact Nat.le_trans (rnd_le2 neg hs2 h4 (Nat.le_refl _)) h53
    obtain ⟨k2, hkk⟩ : ∃ k2, k2 = 63 - M := ⟨_, rfl⟩
    have hkk2 : (63 : Int) - (M : Int) = (k2 : Int) := by omega
    obtain ⟨sm2, hsm2⟩ : ∃ sm2, sm2 = decide (sig % 2 ^ k2 ≠ 0) := ⟨_, rfl⟩
    have HN2 : Hid (∀ ww, Calls Oafg.prog 153 #[.int .u8 mode, .bool neg, .int .u64 sig, .int .i64 k2] ww fun e w' => e = .returned (.tuple #[.int .u64 full, .bool sm2]) ∧ Below ww.heap.size ww w') := fun ww => by
      rw [hfull, hsm2, ← hkk]; exact nearby_any mode hm neg sig k2 z hs2 (by omega) (by omega) ww
    have Hti : Hid (tiny = if exp + 63 = em - 1 then decide (full / 2 ^ (M + 1) = 0) else decide (exp + 63 < em)) := by
      show tiny = _; rw [hti, hfull, hem]; rfl
    obtain ⟨d, hd⟩ : ∃ d, d = (ee - em).toNat := ⟨_, rfl⟩
    have hd2 : ee - em = (d : Int) := by omega
    have hd3 : d ≤ 4090 := by omega
    obtain ⟨p, hp⟩ : ∃ p, p = d * 2 ^ M := ⟨_, rfl⟩
    have hM52 : 2 ^ M ≤ 2 ^ 52 := two_pow_le h4
    have hp2 : p ≤ 4090 * 4503599627370496 := by rw [hp]; exact Nat.mul_le_mul hd3 (by simpa using hM52)
    have hpx : x = p + n := by rw [hx, hp, hd, hn, hee, hem, hk]; rfl
    have f2 : (d : Int) * 2 ^ M = (p : Int) := by rw [hp]; simp
    have f3 : (p : Int) + (n : Int) = (x : Int) := by omega
    have hx64 : x < 18446744073709551616 := by omega
    have fmax : (if exp + 63 < em then em else exp + 63) = ee := by rw [hee2]; split <;> omega
    have hem1 : -1022 ≤ em ∧ em ≤ 0 := by omega
    have hee1 : -1022 ≤ ee ∧ ee ≤ 3063 := by omega
    have hkb : k ≤ 100000 := by omega
    have hk2b : k2 ≤ 63 := by omega
    have c0 := hK.out.cE
    have c1 := hK.out.cM
    clear hx hsm hti HV HF hbi hem hee hee2 hk hk3 hn hn2 h53 hfull hkk hsm2 hd hp hM52 hpx
    go_upto_if 57 with (first
      | (go_at_call 118; refine (HBI.out _).mono ?_; rintro e w2 ⟨rfl, hb2⟩; have hK2 : Hid _ := hK.out.call hb2; have d0 := hK2.out.cE; have d1 := hK2.out.cM; clear hb2)
      | (go_at_call 153; refine (HN.out _).mono ?_; rintro e w3 ⟨rfl, hb3⟩; have hK3 : Hid _ := hK2.out.call hb3; have e0 := hK3.out.cE; have e1 := hK3.out.cM; clear hb3))
    clear hK hK2 d0 d1 c0 c1 HBI HN
    obtain ⟨tb, htb⟩ : ∃ tb, tb = decide (exp + 63 < em) := ⟨_, rfl⟩
    obtain ⟨tq, htq⟩ : ∃ tq, tq = (exp + 63 == em - 1) := ⟨_, rfl⟩
    rw [← htb, ← htq]
    go_cut [17, 18, 19] (fun t17 _ _ w' => t17 = .bool tiny ∧ Hid (FS w R E M w'))
    case first =>
      by_cases cr : exp + 63 = em - 1
      · obtain rfl : tq = true := by rw [htq, beq_iff_eq]; exact cr
        have Ht2 : Hid (tiny = decide (full / 2 ^ (M + 1) = 0)) := by show tiny = _; rw [Hti.out, if_pos cr]
        have g1 : (full : Int) / 2 ^ (M + 1) = ((full / 2 ^ (M + 1) : Nat) : Int) := by simp
        obtain ⟨fd, hfd⟩ : ∃ fd, fd = full / 2 ^ (M + 1) := ⟨_, rfl⟩
        rw [← hfd] at g1 Ht2
        clear Hti htb htq cr hfd
        go_wp2_with (go_at_call 153; refine (HN2.out _).mono ?_; rintro e w4 ⟨rfl, hb4⟩; have hK4 : Hid _ := hK3.out.call hb4; have g0 := hK4.out.cE; have g1 := hK4.out.cM; clear hb4)
        go_meet
        case rel =>
          refine ⟨?_, hK4⟩
          rw [Ht2.out]
          congr 1
          rw [Bool.eq_iff_iff, beq_iff_eq, decide_eq_true_iff]; omega
      · obtain rfl : tq = false := by rw [htq, beq_eq_false_iff_ne]; exact cr
        have HTB : Hid (tb = tiny) := by show _ = _; rw [Hti.out, if_neg cr, htb]
        clear htb htq Hti
        go_wp2_with fail
        go_meet
        case rel => exact ⟨by rw [HTB.out], hK3⟩
    case rest =>
      obtain ⟨rfl, hL⟩ := hcut
      clear hK3 e0 e1 HN2 Hti htb htq fmax hkk2 hk2 hemb
      have c0 := hL.out.cE
      have c1 := hL.out.cM
      have hfin : Hid (IntKind.u64.wrap (IntKind.u64.wrap (IntKind.u64.wrap (IntKind.i64.wrap ↑d) * 2 ^ M) + ↑n) = ↑x) := by
        show _ = _
        rw [show IntKind.i64.wrap (d : Int) = (d : Int) by rw [wrap_i64']; omega, show IntKind.u64.wrap (d : Int) = (d : Int) by rw [IntKind.wrap_u64]; omega, f2, show IntKind.u64.wrap (p : Int) = (p : Int) by rw [IntKind.wrap_u64]; omega, f3, IntKind.wrap_u64]; omega
      have HI : Hid _ := fun ww => inf_yes h1 h2 h3 h4 false ww
      have eI : infR E M + sgn E M false = infR E M := by simp [sgn]
      rw [eI] at HI
      obtain ⟨I, hI⟩ : ∃ I, I = infR E M := ⟨_, rfl⟩
      have hi64 : infR E M < 9223372036854775808 := by
        have a := infR_lt E M
        have b : 2 ^ (E + M) ≤ 2 ^ 63 := two_pow_le (by omega)
        omega
      rw [← hI] at HI hi64
      have hVV := HVV.out
      have hFF := HFF.out
      unfold packV at hVV
      unfold packF at hFF
      rw [← hI] at hVV hFF
      by_cases cx : I ≤ x
      · rw [if_pos cx] at hVV hFF
        have cx' : (I : Int) ≤ (x : Int) := by omega
        subst hFF
        unfold ovf at hVV
        obtain ⟨J, hJ⟩ : ∃ J : Bool → Nat, J = fun b => infR E M + sgn E M b := ⟨_, rfl⟩
        have HJ : Hid (∀ b ww, Calls Oafg.prog 112 #[.agg #[.int .u8 E, .int .u8 M], .bool b] ww fun e w' => e = .returned (.int .u64 (J b : Nat)) ∧ Below ww.heap.size ww w') := fun b ww => by rw [hJ]; exact inf_yes h1 h2 h3 h4 b ww
        have hJ0 : J false = I := by rw [hJ, hI]; exact eI
        have HM : Hid _ := fun ww => maxFinite_yes h1 h2 h3 h4 neg ww
        have hJn : J neg = infR E M + sgn E M neg := by rw [hJ]
        clear HI HVV HFF hI eI hJ Hsg cx
        by_cases c : mode = 2 ∨ (mode = 3 ∧ neg = true) ∨ (mode = 4 ∧ neg = false)
        · rw [if_pos c] at hVV
          rw [← hVV] at HM
          clear hVV hJn
          obtain rfl | ⟨rfl, rfl⟩ | ⟨rfl, rfl⟩ := c
          all_goals
            go_wp2_with (first
              | (go_at_call 112; refine (HJ.out _ _).mono ?_; rintro e' wq ⟨rfl, hbq⟩; have hL : Hid _ := hL.out.call hbq; have c0 := hL.out.cE; have c1 := hL.out.cM; clear hbq)
              | (go_at_call 154; refine (HM.out _).mono ?_; rintro e' wr ⟨rfl, hbr⟩; have hL : Hid _ := hL.out.call hbr; clear hbr))
            go_ret2
            exact ⟨rfl, hL.out.below⟩
        · rw [if_neg c, ← hJn] at hVV
          clear hJn HM
          have n2 : ((mode : Int) == 2) = false := by rw [beq_eq_false_iff_ne]; omega
          cases neg
          · rw [hJ0] at hVV
            subst hVV
            have n4 : ((mode : Int) == 4) = false := by rw [beq_eq_false_iff_ne]; simp at c; omega
            by_cases c3 : mode = 3
            · subst c3
              clear c n2 n4
              go_wp2_with ((go_at_call 112; refine (HJ.out _ _).mono ?_; rintro e' wq ⟨rfl, hbq⟩; have hL : Hid _ := hL.out.call hbq; have c0 := hL.out.cE; have c1 := hL.out.cM; clear hbq))
              go_ret2
              exact ⟨rfl, hL.out.below⟩
            · have n3 : ((mode : Int) == 3) = false := by rw [beq_eq_false_iff_ne]; omega
              clear c c3
              go_wp2_with ((go_at_call 112; refine (HJ.out _ _).mono ?_; rintro e' wq ⟨rfl, hbq⟩; have hL : Hid _ := hL.out.call hbq; have c0 := hL.out.cE; have c1 := hL.out.cM; clear hbq))
              go_ret2
              exact ⟨rfl, hL.out.below⟩
          · have hJ1 : J true = V := hVV.symm
            have n3 : ((mode : Int) == 3) = false := by rw [beq_eq_false_iff_ne]; simp at c; omega
            clear hVV
            by_cases c4 : mode = 4
            · subst c4
              clear c n2 n3
              go_wp2_with ((go_at_call 112; refine (HJ.out _ _).mono ?_; rintro e' wq ⟨rfl, hbq⟩; have hL : Hid _ := hL.out.call hbq; have c0 := hL.out.cE; have c1 := hL.out.cM; clear hbq))
              go_ret2
              exact ⟨rfl, hL.out.below⟩
            · have n4 : ((mode : Int) == 4) = false := by rw [beq_eq_false_iff_ne]; omega
              clear c c4
              go_wp2_with ((go_at_call 112; refine (HJ.out _ _).mono ?_; rintro e' wq ⟨rfl, hbq⟩; have hL : Hid _ := hL.out.call hbq; have c0 := hL.out.cE; have c1 := hL.out.cM; clear hbq))
              go_ret2
              exact ⟨rfl, hL.out.below⟩
      · rw [if_neg cx] at hVV hFF
        have cx' : (x : Int) < (I : Int) := by omega
        have hO := or_sgn h2 h4 neg x (by omega)
        rw [← hVV, ← Hsg.out] at hO
        clear hVV HVV HFF hI eI cx Hsg
        cases sm
        · rw [if_pos rfl] at hFF
          subst hFF
          go_wp2_with (first
            | (go_at_call 112; refine (HI.out _).mono ?_; rintro e' wq ⟨rfl, hbq⟩; have hL : Hid _ := hL.out.call hbq; have c0 := hL.out.cE; have c1 := hL.out.cM; clear hbq))
          go_ret2
          exact ⟨rfl, hL.out.below⟩
        · rw [if_neg (by simp)] at hFF
          cases tiny
          · rw [if_neg (by simp)] at hFF
            subst hFF
            go_wp2_with (first
            | (go_at_call 112; refine (HI.out _).mono ?_; rintro e' wq ⟨rfl, hbq⟩; have hL : Hid _ := hL.out.call hbq; have c0 := hL.out.cE; have c1 := hL.out.cM; clear hbq))
            go_ret2
            exact ⟨rfl, hL.out.below⟩
          · rw [if_pos rfl] at hFF
            subst hFF
            go_wp2_with (first
            | (go_at_call 112; refine (HI.out _).mono ?_; rintro e' wq ⟨rfl, hbq⟩; have hL : Hid _ := hL.out.call hbq; have c0 := hL.out.cE; have c1 := hL.out.cM; clear hbq))
            go_ret2
            exact ⟨rfl, hL.out.below⟩
end Go.Proofs.Ygcoaf
