/-
  lemire.round, lemire.pattern.
-/
import Derived.Test.YgcoafL1
import Derived.Test.YgcoafT16
namespace Go.Proofs.Ygcoaf
open Go.RowKit Go.Proofs.Ygcoaf.M

set_option maxRecDepth 8000 in
set_option maxHeartbeats 4000000 in
/-- lemire.round -/
theorem lround_any {E M : Nat} (h1 : 2 ≤ E) (h2 : E ≤ 11) (h3 : 2 ≤ M) (h4 : M ≤ 52) (sig : Nat) (exp : Int) (hs1 : 9223372036854775808 ≤ sig) (hs2 : sig < 18446744073709551616) (hx1 : -5000 ≤ exp) (hx2 : exp ≤ 3000) (w : World) :
    Calls Oafg.prog 197 #[.agg #[.int .u8 E, .int .u8 M], .int .u64 sig, .int .i16 exp] w fun r w' => r = .returned (.int .u64 (slV E M 0 false sig exp : Nat)) ∧ Below w.heap.size w w' := by
  obtain ⟨V, hV⟩ : ∃ V, V = slV E M 0 false sig exp := ⟨_, rfl⟩
  rw [← hV]
  have HV : Hid _ := hV
  have HBI : Hid _ := fun ww => bias_yes h1 h2 h3 h4 ww
  have hbd := biasN_bd h1 h2
  obtain ⟨bi, hbi⟩ : ∃ bi, bi = biasN E := ⟨_, rfl⟩
  rw [← hbi] at HBI hbd
  obtain ⟨em, hem⟩ : ∃ em, em = lo E := ⟨_, rfl⟩
  have hemb : (1 : Int) - bi = em := by rw [hem, hbi]; rfl
  obtain ⟨ee, hee⟩ : ∃ ee, ee = sE E exp := ⟨_, rfl⟩
  have hee2 : ee = max (exp + 63) em := by rw [hee, hem]; rfl
  obtain ⟨k, hk⟩ : ∃ k, k = sK E M exp := ⟨_, rfl⟩
  have hk2 : ee - exp - (M : Int) = (k : Int) := by rw [hk, hee]; unfold sK; rw [← hee]; omega
  obtain ⟨c63, hc63⟩ : ∃ c63 : Nat, (63 : Int) - (M : Int) = (c63 : Int) := ⟨63 - M, by omega⟩
  obtain ⟨n, rest, K⟩ := near_parts 0 false sig k (by omega) hs2 (by omega)
  have HK : Hid _ := K
  have hn9 := K.lt
  have hr9 := K.hr
  have Hbi : Hid _ := hbi
  have Hem : Hid _ := hem
  have Hee : Hid _ := hee
  have Hk : Hid _ := hk
  have hem1 : -1022 ≤ em ∧ em ≤ 0 := by omega
  have hee1 : -1022 ≤ ee ∧ ee ≤ 3063 := by omega
  have hk1 : 1 ≤ k ∧ k ≤ 10000 := by omega
  clear hV hbi hem hee hk K
  go_enter Oafg.func197, Oafg.ntmps197
  have hFS : FS w w.heap.size E M (w.alloc (.cells #[.int .u8 E, .int .u8 M] 27)) := FS.start
  have HFS0 : Hid _ := hFS
  clear hFS
  go_upto_if 23 with (go_at_call 118; refine (HBI.out _).mono ?_; rintro e w2 ⟨rfl, hb2⟩; have HFS1 : Hid _ := HFS0.out.call hb2; have c0 := HFS1.out.cE; have c1 := HFS1.out.cM; clear hb2)
  obtain ⟨R, hR⟩ : ∃ R, R = w.heap.size := ⟨_, rfl⟩
  simp only [← hR]
  have HFS : Hid (FS w R E M w2) := by rw [hR]; exact HFS1
  have c0 := HFS.out.cE
  have c1 := HFS.out.cM
  clear HFS0 HFS1 hR
  go_cut [8, 9] (fun t8 t9 w' => t8 = .int .i16 ee ∧ t9 = .int .i16 k ∧ w' = w2)
  case first =>
    by_cases c : exp + 63 < em
    · have f1 : (c63 : Int) + (em - (exp + 63)) = (k : Int) := by omega
      have f2 : ee = em := by omega
      subst f2
      clear hk2 hee2
      go_wp2_with fail
      go_meet
      case rel => exact ⟨rfl, rfl, rfl⟩
    · have f1 : c63 = k := by omega
      have f2 : exp + 63 = ee := by omega
      subst f1
      clear hk2 hee2
      go_wp2_with fail
      go_meet
      case rel => exact ⟨rfl, rfl, rfl⟩
  case rest =>
    obtain ⟨rfl, rfl, hw⟩ := hcut
    subst hw
    by_cases ho : bi < ee
    · have e1 : V = infR E M := by rw [HV.out]; exact slV_gt h1 h4 hs1 (by rw [← Hbi.out, ← Hee.out]; exact ho)
      have HI : Hid _ := fun ww => inf_yes h1 h2 h3 h4 false ww
      have eI : infR E M + sgn E M false = infR E M := by simp [sgn]
      rw [eI, ← e1] at HI
      clear e1 eI HV HK hk2 hee2 hemb
      go_wp2_with (first
        | (go_at_call 118; refine (HBI.out _).mono ?_; rintro e w3 ⟨rfl, hb3⟩; have HF2 : Hid _ := HFS.out.call hb3; have d0 := HF2.out.cE; have d1 := HF2.out.cM; clear hb3)
        | (go_at_call 112; refine (HI.out _).mono ?_; rintro e w4 ⟨rfl, hb4⟩))
      go_ret
      exact ⟨rfl, bt HF2.out.below hb4⟩
    · have e1 : V = sX E M 0 false sig exp := by rw [HV.out]; exact slV_le h1 h4 (by omega) hs2 (by rw [← Hbi.out, ← Hee.out]; omega)
      obtain ⟨ub, hub⟩ : ∃ ub, ub = upK 0 false n rest := ⟨_, rfl⟩
      have hR : rnd 0 false sig (2 ^ k) = n + ub.toNat := by unfold rnd; rw [← HK.out.ups, ← HK.out.hn, hub]
      obtain ⟨d, hd⟩ : ∃ d, d = (ee - em).toNat := ⟨_, rfl⟩
      have hd2 : ee - em = (d : Int) := by omega
      have hd3 : d ≤ 4090 := by omega
      obtain ⟨p, hp⟩ : ∃ p, p = d * 2 ^ M := ⟨_, rfl⟩
      have hM52 : 2 ^ M ≤ 2 ^ 52 := two_pow_le h4
      have hp2 : p ≤ 4090 * 4503599627370496 := by rw [hp]; exact Nat.mul_le_mul hd3 (by simpa using hM52)
      have hVx : V = p + (n + ub.toNat) := by rw [e1]; unfold sX; rw [← Hee.out, ← Hem.out, ← Hk.out, hR, ← hd, ← hp]
      have hn53 : n + ub.toNat ≤ 9007199254740992 := by
        have a := rnd_le2 (M := M) (mode := 0) false hs2 h4 (k := k) (by omega)
        rw [hR] at a
        have b : 2 ^ (M + 1) ≤ 2 ^ 53 := two_pow_le (by omega)
        exact Nat.le_trans a b
      have f2 : (d : Int) * 2 ^ M = (p : Int) := by rw [hp]; simp
      have hp3 : p < 18446744073709551616 := by omega
      have HVx : Hid _ := hVx
      clear hR hd hp hM52 hVx e1 HV Hbi Hem Hee Hk hk2 hee2 hemb
      go_upto_if 37 with (go_at_call 118; refine (HBI.out _).mono ?_; rintro e w3 ⟨rfl, hb3⟩; have HF2 : Hid _ := HFS.out.call hb3; have d0 := HF2.out.cE; have d1 := HF2.out.cM; clear hb3)
      have HF3 : Hid _ := HF2
      have c0 := HF3.out.cE
      have c1 := HF3.out.cM
      clear HF2 d0 d1 HFS
      by_cases ck : 64 < k
      · obtain ⟨n0, r0⟩ := HK.out.hi ck
        have hu : ub = false := by rw [hub, n0, r0]; rfl
        have hf : V = p := by have := HVx.out; rw [n0, hu] at this; exact this
        subst hf
        have ck1 : (64 : Int) < (k : Int) := by omega
        clear HK hub hu n0 r0 hn53 HVx
        go_upto_region 11 with fail
        go_quiet (fail)
        go_wp2
        go_ret
        exact ⟨rfl, bt HF3.out.below (below_dN (Below.refl _ _) _)⟩
      · have ck1 : ¬ (64 : Int) < (k : Int) := by omega
        have g1 : (sig : Int) / 2 ^ k = (n : Int) := by rw [HK.out.hn]; simp
        obtain ⟨c64, hc64⟩ : ∃ c64, c64 = 64 - k := ⟨_, rfl⟩
        have g2 : (64 : Int) - (k : Int) = (c64 : Int) := by omega
        have g3 : IntKind.u64.wrap ((sig : Int) * 2 ^ c64) = (rest : Int) := by
          rw [HK.out.lo (by omega), ← hc64, ← wrap64_nat]; simp
        have Hn : Hid _ := HK.out.hn
        have hc9 : c64 < 64 := by omega
        clear HK
        go_upto_region 11 with fail
        go_cut [10, 11] (fun t10 t11 w' => t10 = .int .u64 n ∧ t11 = .int .u64 rest ∧ Hid (FS w R E M w'))
        case first =>
          by_cases c6 : k = 64
          · have hn0 : n = 0 := by rw [Hn.out, c6]; exact Nat.div_eq_of_lt hs2
            have hc0 : c64 = 0 := by omega
            subst hn0 hc0 c6
            have f5 : (rest : Int) = (sig : Int) := by rw [← g3, IntKind.wrap_u64]; omega
            have f6 : rest = sig := by omega
            subst f6
            clear g1 g3 f5 hc64 g2 hub HVx
            go_quiet (fail)
            go_wp2_with fail
            go_meet
            case rel => exact ⟨by rw [show (rest : Int) / 18446744073709551616 = ((0 : Nat) : Int) by omega], rfl, HF3.out.call (below_dN (Below.refl _ _) _)⟩
          · have hd9 : k < 64 := by omega
            clear hub HVx
            go_quiet (fail)
            go_wp2_with fail
            go_meet
            case rel => exact ⟨rfl, by first | rw [← hc64, g3] | rw [g3], HF3.out.call (below_dN (Below.refl _ _) _)⟩
        case rest =>
          obtain ⟨rfl, rfl, hK⟩ := hcut
          have q0 := hK.out.cE
          have q1 := hK.out.cM
          unfold upK at hub
          rw [if_neg (by decide), if_neg (by decide), if_neg (by decide), if_neg (by decide)] at hub
          have v0 : ub = false → (p : Int) + (n : Int) = (V : Int) := fun h => by have := HVx.out; rw [h] at this; simp at this; omega
          have v1 : ub = true → (p : Int) + ((n : Int) + 1) = (V : Int) := fun h => by have := HVx.out; rw [h] at this; simp at this; omega
          have hV64 : V < 18446744073709551616 := by rw [HVx.out]; omega
          clear HVx Hn g1 g2 g3 hc64 c0 c1 HF3 ck ck1 hn53
          have fin0 : Below w.heap.size w wc := hK.out.below
          have HFin : Hid _ := fin0
          clear fin0
          by_cases c : 9223372036854775808 < rest
          · have c1 : (9223372036854775808 : Int) < (rest : Int) := by omega
            have hu : ub = true := by rw [hub]; simp [c]
            have f1 := v1 hu
            clear v0 v1 hu hub c
            go_wp2
            go_ret
            exact ⟨rfl, HFin.out⟩
          have c1 : ¬ (9223372036854775808 : Int) < (rest : Int) := by omega
          by_cases d' : rest = 9223372036854775808
          · have d1 : ((rest : Int) == 9223372036854775808) = true := by rw [beq_iff_eq]; omega
            have g1 : bits .and .u64 (n : Int) 1 = ((n % 2 : Nat) : Int) := by
              rw [and64 n 1 _ _ rfl (by simp) (by omega) (by decide), show (1 : Nat) = 2 ^ 1 - 1 by decide, Nat.and_two_pow_sub_one_eq_mod]
            obtain ⟨o, ho9⟩ : ∃ o, o = n % 2 := ⟨_, rfl⟩
            rw [← ho9] at g1
            by_cases o1 : o = 1
            · have hu : ub = true := by rw [hub]; simp [d', ← ho9, o1]
              have f1 := v1 hu
              have o2 : ((o : Int) == 1) = true := by rw [beq_iff_eq]; omega
              clear v0 v1 hu hub c d' ho9 o1
              go_wp2
              go_ret
              exact ⟨rfl, HFin.out⟩
            · have hu : ub = false := by rw [hub]; simp [d', ← ho9, o1]
              have f1 := v0 hu
              have o2 : ((o : Int) == 1) = false := by rw [beq_eq_false_iff_ne]; omega
              clear v0 v1 hu hub c d' ho9 o1
              go_wp2
              go_ret
              exact ⟨rfl, HFin.out⟩
          · have d1 : ((rest : Int) == 9223372036854775808) = false := by rw [beq_eq_false_iff_ne]; omega
            have hu : ub = false := by rw [hub]; simp [c, d']
            have f1 := v0 hu
            clear v0 v1 hu hub c d'
            go_wp2
            go_ret
            exact ⟨rfl, HFin.out⟩
end Go.Proofs.Ygcoaf
