/-
  nat.Shr.
-/
import Derived.Test.YgcoafN10
namespace Go.Proofs.Ygcoaf
open Go.RowKit

theorem lv_drop (xs : List Nat) (i : Nat) : lv (xs.drop i) = xs.getD i 0 + 4294967296 * lv (xs.drop (i + 1)) := by
  by_cases h : i < xs.length
  · rw [List.drop_eq_getElem_cons h, lv]; simp [List.getD_eq_getElem?_getD, h]
  · rw [List.drop_eq_nil_of_le (by omega), List.drop_eq_nil_of_le (by omega)]
    simp [lv, List.getD_eq_getElem?_getD, List.getElem?_eq_none (show xs.length ≤ i by omega)]
theorem lv_split (xs : List Nat) (m : Nat) (h : m ≤ xs.length) : lv xs = lv (xs.take m) + 4294967296 ^ m * lv (xs.drop m) := by
  conv => lhs; rw [← List.take_append_drop m xs, lv_append, List.length_take, Nat.min_eq_left h]

/-- what is pushed out -/
theorem shr_lost (xs : List Nat) (hL : Lim xs) (m s : Nat) (hm : m < xs.length) :
    lv xs % 2 ^ (32 * m + s) = lv (xs.take m) + 2 ^ (32 * m) * (lv (xs.drop m) % 2 ^ s) := by
  have := lv_take_lt xs m hL (by omega)
  rw [lv_split xs m (by omega), limb_pow, Nat.pow_add, Nat.mod_mul]
  rw [Nat.add_mul_mod_self_left, Nat.mod_eq_of_lt this, Nat.add_mul_div_left _ _ (Nat.two_pow_pos _), Nat.div_eq_of_lt this, Nat.zero_add]
theorem shr_kept (xs : List Nat) (hL : Lim xs) (m s : Nat) (hm : m < xs.length) :
    lv xs / 2 ^ (32 * m + s) = lv (xs.drop m) / 2 ^ s := by
  have := lv_take_lt xs m hL (by omega)
  rw [lv_split xs m (by omega), limb_pow, Nat.pow_add, ← Nat.div_div_eq_div_mul, Nat.add_mul_div_left _ _ (Nat.two_pow_pos _), Nat.div_eq_of_lt this, Nat.zero_add]

theorem low_mod (xs : List Nat) (m s : Nat) (hs : s < 32) : lv (xs.drop m) % 2 ^ s = xs.getD m 0 % 2 ^ s := by
  rw [lv_drop, show 4294967296 = 2 ^ s * 2 ^ (32 - s) from by rw [← Nat.pow_add, show s + (32 - s) = 32 from by omega], Nat.mul_assoc, Nat.add_mul_mod_self_left]

/-- one limb of the quotient -/
theorem shr_limb (x0 x1 r s : Nat) (hs : s < 32) : (x0 + 4294967296 * (x1 + 4294967296 * r)) / 2 ^ s % 4294967296 = (x0 + x1 * 4294967296) / 2 ^ s % 4294967296 := by
  have e : x0 + 4294967296 * (x1 + 4294967296 * r) = (x0 + x1 * 4294967296) + 2 ^ s * (4294967296 * (2 ^ (32 - s) * r)) := by
    have : 4294967296 = 2 ^ s * 2 ^ (32 - s) := by rw [← Nat.pow_add, show s + (32 - s) = 32 from by omega]
    generalize 2 ^ s = A at *
    generalize 2 ^ (32 - s) = D at *
    grind
  rw [e, Nat.add_mul_div_left _ _ (Nat.two_pow_pos _), Nat.add_mul_mod_self_left]
theorem shr_rest (x0 D s : Nat) (hx : x0 < 4294967296) : (x0 + 4294967296 * D) / 2 ^ s / 4294967296 = D / 2 ^ s := by
  rw [Nat.div_div_eq_div_mul, Nat.mul_comm (2 ^ s), ← Nat.div_div_eq_div_mul]
  congr 1; omega

/-- what Shr's second loop holds -/
structure ShrI (w wr : World) (R : Nat) (xs : List Nat) (m s i : Nat) : Prop where
  out : ∃ cs, Own w wr R cs ∧ cs.length = xs.length - m ∧ lv cs + 4294967296 ^ i * (lv (xs.drop (m + i)) / 2 ^ s) = lv (xs.drop m) / 2 ^ s ∧ ∀ t, i ≤ t → cs.getD t 0 = 0
theorem ShrI.below {w wr : World} {R : Nat} {xs : List Nat} {m s i : Nat} (o : ShrI w wr R xs m s i) : Below w.heap.size w wr := by
  obtain ⟨cs, h1, _⟩ := o.out; exact h1.below

theorem ShrI.step {w wr : World} {R : Nat} {xs : List Nat} {m s i : Nat} (o : ShrI w wr R xs m s i) (hL : Lim xs) (hi : m + i < xs.length) (hs : s < 32) :
    wr.cell? ⟨R, i, none⟩ = some (.int .u32 0) ∧ wr.frozen? ⟨R, i, none⟩ = false ∧
      ∀ r, r = (xs.getD (m + i) 0 + xs.getD (m + i + 1) 0 * 4294967296) / 2 ^ s % 4294967296 → ShrI w (wr.setCell ⟨R, i, none⟩ (.int .u32 r)) R xs m s (i + 1) := by
  obtain ⟨cs, h1, h2, h3, h4⟩ := o.out
  obtain ⟨c, hc, hlt, hcell, hfz⟩ := h1.cell i (by omega)
  have hz := h4 i (Nat.le_refl _)
  rw [hz] at hc
  subst hc
  refine ⟨hcell, hfz, fun r hr => ⟨cs.set i r, h1.set _ _ (by omega) (by rw [hr]; exact Nat.mod_lt _ (by decide)), by rw [List.length_set]; exact h2, ?_, fun t ht => ?_⟩⟩
  · have a1 := lv_set cs i r (by omega)
    rw [hz] at a1
    have a2 := shr_limb (xs.getD (m + i) 0) (xs.getD (m + i + 1) 0) (lv (xs.drop (m + i + 1 + 1))) s hs
    rw [← lv_drop, ← lv_drop, ← hr] at a2
    have a3 := shr_rest (xs.getD (m + i) 0) (lv (xs.drop (m + i + 1))) s (hL _ hi)
    rw [← lv_drop] at a3
    have a4 := Nat.div_add_mod (lv (xs.drop (m + i)) / 2 ^ s) 4294967296
    rw [a2, a3] at a4
    rw [show m + (i + 1) = m + i + 1 from by omega, Nat.pow_succ]
    generalize lv (xs.drop (m + i)) / 2 ^ s = T at *
    generalize lv (xs.drop (m + i + 1)) / 2 ^ s = T' at *
    generalize lv (cs.set i r) = L' at *
    generalize lv cs = L at *
    generalize lv (xs.drop m) / 2 ^ s = G at *
    generalize 4294967296 ^ i = P at *
    clear a2 a3 hr
    grind
  · rw [getD_set_ne _ _ _ _ (by omega)]; exact h4 t (by omega)

set_option maxRecDepth 8000 in
/-- nat.Shr of a row as it comes -/
theorem shr_nat {w : World} {v : Value} {n : Nat} (k : Nat) (hk : k < 65536) (T1 : Calls Oafg.prog 136 #[v] w fun e w' => (∃ v', e = .returned v' ∧ NatV w v' n) ∧ w' = w) (b1 : bl n ≤ 1000000) :
    Calls Oafg.prog 148 #[v, .int .u16 k] w fun e w' => (∃ v', e = .returned (.tuple #[v', .bool (decide (n % 2 ^ k ≠ 0))]) ∧ NatV w' v' (n / 2 ^ k)) ∧ Below w.heap.size w w' := by
  have T1 : Hid _ := fun (_ : Unit) => T1
  obtain ⟨V, hV⟩ : ∃ V, V = n / 2 ^ k := ⟨_, rfl⟩
  obtain ⟨U, hU⟩ : ∃ U, U = decide (n % 2 ^ k ≠ 0) := ⟨_, rfl⟩
  rw [← hV, ← hU]
  have HV : Hid _ := hV
  have HU : Hid _ := hU
  obtain ⟨m, hm⟩ : ∃ m, m = k / 32 := ⟨_, rfl⟩
  obtain ⟨s, hs⟩ : ∃ s, s = k % 32 := ⟨_, rfl⟩
  have f1 : (k : Int).tdiv 32 = (m : Int) := by rw [hm]; simp
  have f2 : (k : Int).tmod 32 = (s : Int) := by rw [hs]; simp [Int.tmod_eq_emod_of_nonneg]
  have hs32 : s < 32 := by omega
  have hm2 : m ≤ 100000 := by omega
  have hks : k = 32 * m + s := by omega
  have Hks : Hid _ := hks
  clear hV hm hs hks hU
  go_enter Oafg.func148, Oafg.ntmps148
  go_upto_region 2 with (go_at_call 136; refine (T1.out ()).mono ?_; rintro e w1 ⟨⟨u1, rfl, hN1⟩, hw1⟩; subst hw1)
  obtain ⟨ad1, cap1, xs, rfl, hs1, hl1, hlen1, hup, _⟩ := hN1.size b1
  obtain ⟨la, hla⟩ : ∃ la, la = xs.length := ⟨_, rfl⟩
  have HS1 : Hid _ := hs1
  have HL1 : Hid _ := hl1
  have Hla : Hid _ := hla
  have Hup : Hid _ := hup
  rw [← hla] at hlen1 ⊢
  clear hs1 hl1 hN1 hla T1 hup
  go_wp2
  go_loop [5, 8] (fun b i => ∃ t : Nat, t ≤ la ∧ t ≤ m ∧ i = .int .i64 t ∧ ∃ bb : Bool, b = .bool bb ∧ Hid (bb = decide (lv (xs.take t) ≠ 0))) (fun _ i => la - (intOf i).toNat)
  case atStart => exact ⟨0, Nat.zero_le _, Nat.zero_le _, rfl, false, rfl, by simp [Hid, lv]⟩
  case round =>
    obtain ⟨t, ht, htm, rfl, bb, rfl, hM⟩ := hrel
    by_cases c : t < m ∧ t < la
    · obtain ⟨c1, c2⟩ := c
      have hil : t < xs.length := by have := Hla.out; omega
      obtain ⟨p, q, x, rfl, hx1, hx2, hcx⟩ := HS1.out.now (Below.refl _ _) t hil
      have htk := lv_take_succ xs t hil
      rw [← hx1] at htk
      have hpp : 0 < 4294967296 ^ t := Nat.pow_pos (by decide)
      cases bb
      · have hz : lv (xs.take t) = 0 := by have := hM.out; simpa using this
        have hN : Hid ((!((x : Int) == 0)) = decide (lv (xs.take (t + 1)) ≠ 0)) := by
          show _ = _
          rw [htk, hz, Nat.zero_add]
          by_cases e : x = 0
          · rw [e]; simp
          · have : 4294967296 ^ t * x ≠ 0 := by have := Nat.mul_pos hpp (Nat.pos_of_ne_zero e); omega
            simp [this, e]
        clear hM htk hx1 hz
        go_wp2
        go_round
        case rel => exact ⟨t + 1, by omega, by omega, by go_num, _, rfl, hN⟩
        case measure => simp [intOf]; omega
      · have hz : lv (xs.take t) ≠ 0 := by have := hM.out; simpa using this
        have hN : Hid (true = decide (lv (xs.take (t + 1)) ≠ 0)) := by
          show _ = _
          have : lv (xs.take (t + 1)) ≠ 0 := by rw [htk]; omega
          simp [this]
        clear hM htk hx1 hz
        go_wp2
        go_round
        case rel => exact ⟨t + 1, by omega, by omega, by go_num, _, rfl, hN⟩
        case measure => simp [intOf]; omega
    · by_cases d : m < la
      · obtain rfl : t = m := by omega
        have htl : t < xs.length := by have := Hla.out; omega
        have hlost := shr_lost xs HS1.out.lim t s htl
        have hkept := shr_kept xs HS1.out.lim t s htl
        rw [low_mod xs t s hs32] at hlost
        rw [HL1.out, ← Hks.out] at hlost hkept
        obtain ⟨p, q, x, rfl, hx1, hx2, hcx⟩ := HS1.out.now (Below.refl _ _) t htl
        rw [← hx1] at hlost
        have hU : U = (bb || !decide (x % 2 ^ s = 0)) := by
          have hb := hM.out
          rw [HU.out, hlost, hb]
          have h2 : 0 < 2 ^ (32 * t) := Nat.two_pow_pos _
          by_cases e1 : lv (xs.take t) = 0
          · by_cases e2 : x % 2 ^ s = 0
            · simp [e1, e2]
            · have : 2 ^ (32 * t) * (x % 2 ^ s) ≠ 0 := by have := Nat.mul_pos h2 (Nat.pos_of_ne_zero e2); omega
              simp [e1, e2, this]
          · have : lv (xs.take t) + 2 ^ (32 * t) * (x % 2 ^ s) ≠ 0 := by omega
            simp only [ne_eq, this, not_false_iff, decide_true, e1, Bool.true_or]
        obtain ⟨mk, hmk⟩ : ∃ mk, mk = 2 ^ s - 1 := ⟨_, rfl⟩
        have hps : 2 ^ s < 4294967296 := by have := Nat.pow_lt_pow_right (a := 2) (by decide) hs32; simpa using this
        have hps0 := Nat.two_pow_pos s
        have hps2 := cast_two_pow s
        have g1 : IntKind.u32.wrap ((2 : Int) ^ s) = (2 : Int) ^ s := by rw [← hps2, IntKind.wrap_u32]; omega
        have g2 : IntKind.u32.wrap ((2 : Int) ^ s - 1) = (mk : Int) := by rw [← hps2, IntKind.wrap_u32]; omega
        have g3 : bits .and .u32 (x : Int) (mk : Int) = ((x % 2 ^ s : Nat) : Int) := by
          rw [u32_and_nat x mk hx2 (by omega), hmk, Nat.and_two_pow_sub_one_eq_mod]
        obtain ⟨lo, hlo⟩ : ∃ lo, lo = x % 2 ^ s := ⟨_, rfl⟩
        rw [← hlo] at g3 hU
        have HVV : Hid (V = lv (xs.drop t) / 2 ^ s) := by rw [← hkept]; exact HV.out
        clear hlost hkept hM hmk hlo hps hps0 hps2 hx1 HV HU Hks
        go_upto_region 9 with fail
        go_cut [5] (fun v w' => v = .bool U ∧ ∃ nq, w' = w1.drewN nq)
        case first =>
          cases bb
          · by_cases e : lo = 0
            · have e' : ((lo : Int) == 0) = true := by rw [e]; rfl
              obtain rfl : U = false := by rw [hU, e]; rfl
              clear hU
              go_quiet (fail)
              go_wp2
              go_meet
              case rel => exact ⟨rfl, _, rfl⟩
            · have e' : ((lo : Int) == 0) = false := by rw [beq_eq_false_iff_ne]; omega
              obtain rfl : U = true := by rw [hU]; simp [e]
              clear hU
              go_quiet (fail)
              go_wp2
              go_meet
              case rel => exact ⟨by simp [bne, e'], _, rfl⟩
          · obtain rfl : U = true := by rw [hU]; rfl
            clear hU
            go_quiet (fail)
            go_wp2
            go_meet
            case rel => exact ⟨rfl, _, rfl⟩
        case rest =>
          obtain ⟨rfl, nq, rfl⟩ := hcut
          obtain ⟨ln, hln⟩ : ∃ ln, la = t + ln := ⟨la - t, by omega⟩
          obtain ⟨w2, hmk2, hown⟩ := mkOwn w1 (w1.drewN nq) ln (by omega) (below_dN (Below.refl _ _) nq)
          have hsub : (la : Int) - (t : Int) = (ln : Int) := by omega
          obtain ⟨R, hR⟩ : ∃ R, R = w1.heap.size := ⟨_, rfl⟩
          rw [World.heap_drewN, ← hR] at hmk2 hown
          have H0 : Hid (ShrI w1 w2 R xs t s 0) := by
            refine ⟨_, hown, by rw [List.length_replicate]; have := Hla.out; omega, by simp [lv_zeros], fun t _ => getD_zeros _ _⟩
          have Hln : Hid _ := hln
          have hln1 : t + ln ≤ la := by omega
          have hln2 : la ≤ t + ln := by omega
          clear hown hR hU g1 g2 g3 hcx hln
          go_wp2
          go_loopw [62] (fun i wr => ∃ k : Nat, k ≤ ln ∧ i = .int .i64 k ∧ Hid (ShrI w1 wr R xs t s k)) (fun i _ => ln - (intOf i).toNat)
          case atStart => exact ⟨0, Nat.zero_le _, rfl, H0⟩
          case round =>
            obtain ⟨i, hi, rfl, hM⟩ := hrel
            by_cases c : i < ln
            · have hil : t + i < xs.length := by have := Hla.out; omega
              obtain ⟨_, _, y, e, hy1, hy2, hcy⟩ := HS1.out.now (hM.out.below) (t + i) hil
              cases e
              obtain ⟨hcell, hfz, hnext⟩ := hM.out.step HS1.out.lim hil hs32
              rw [← hy1] at hnext
              rw [Nat.add_comm t i] at hcy
              by_cases c2 : i + t + 1 < la
              · obtain ⟨_, _, z, e, hz1, hz2, hcz⟩ := HS1.out.now (hM.out.below) (i + t + 1) (by have := Hla.out; omega)
                cases e
                rw [show t + i + 1 = i + t + 1 from by omega, ← hz1] at hnext
                obtain ⟨u, hu⟩ : ∃ u, u = y + z * 4294967296 := ⟨_, rfl⟩
                obtain ⟨uq, huq⟩ : ∃ uq, uq = u / 2 ^ s := ⟨_, rfl⟩
                obtain ⟨r, hr⟩ : ∃ r, r = uq % 4294967296 := ⟨_, rfl⟩
                have g4 : bits .or .u64 (y : Int) ((z : Int) * 4294967296) = (u : Int) := by
                  have := or_low y z 32 (by simpa using hy2)
                  rw [hu, show 4294967296 = 2 ^ 32 from by decide, ← this]
                  exact or64 _ _ _ (by simp) (by omega) (by omega)
                have g5 : (u : Int) / 2 ^ s = (uq : Int) := by rw [huq]; simp
                have g6 : IntKind.u32.wrap (uq : Int) = (r : Int) := by rw [hr, IntKind.wrap_u32]; omega
                have hu2 : u < 18446744073709551616 := by omega
                have huq2 : uq < 18446744073709551616 := by have := Nat.div_le_self u (2 ^ s); omega
                have HN : Hid _ := hnext r (by rw [hr, huq, hu])
                clear hnext hy1 hz1 hM hu huq hr
                go_wp2
                go_roundw
                case rel => exact ⟨i + 1, by omega, by go_num, HN⟩
                case measure => simp [intOf]; omega
              · have hz0 : xs.getD (t + i + 1) 0 = 0 := by
                  have := Hla.out
                  rw [List.getD_eq_getElem?_getD, List.getElem?_eq_none (by omega)]; rfl
                rw [hz0] at hnext
                obtain ⟨uq, huq⟩ : ∃ uq, uq = y / 2 ^ s := ⟨_, rfl⟩
                have huq2 : uq < 4294967296 := by have := Nat.div_le_self y (2 ^ s); omega
                have g5 : (y : Int) / 2 ^ s = (uq : Int) := by rw [huq]; simp
                have HN : Hid _ := hnext uq (by rw [Nat.zero_mul, Nat.add_zero, ← huq, Nat.mod_eq_of_lt huq2])
                clear hnext hy1 hM huq hz0
                go_wp2
                go_roundw
                case rel => exact ⟨i + 1, by omega, by go_num, HN⟩
                case measure => simp [intOf]; omega
            · obtain rfl : i = ln := by omega
              obtain ⟨cs, ho, hlc2, hval, _⟩ := hM.out.out
              have htr := trim_own ho (by have := Hla.out; omega)
              have hz : lv (xs.drop (t + i)) = 0 := by rw [List.drop_eq_nil_of_le (by have := Hla.out; omega)]; rfl
              rw [hz, Nat.zero_div, Nat.mul_zero, Nat.add_zero, ← HVV.out] at hval
              rw [hlc2, hval, show xs.length - t = i from by have := Hla.out; omega] at htr
              have HTR : Hid _ := fun (_ : Unit) => htr
              clear htr hval hlc2 ho hM hz
              go_wp2_with (go_at_call 136; refine (HTR.out ()).mono ?_; rintro e w3 ⟨⟨v, rfl, hN⟩, hb⟩)
              go_ret2
              exact ⟨⟨v, rfl, hN⟩, hb⟩
      · obtain rfl : t = la := by omega
        have hlt : n < 2 ^ k := by
          have := Hup.out
          rw [← Hla.out, limb_pow] at this
          have h2 : 2 ^ (32 * t) ≤ 2 ^ k := two_pow_le (by have := Hks.out; omega)
          omega
        obtain rfl : V = 0 := by rw [HV.out]; exact Nat.div_eq_of_lt hlt
        obtain rfl : U = bb := by
          rw [HU.out, Nat.mod_eq_of_lt hlt]
          have := hM.out
          rw [this, Hla.out, List.take_length, HL1.out]
        clear hM
        go_wp2
        all_goals
          go_ret2
          exact ⟨⟨_, rfl, natV_nil _⟩, Below.refl _ _⟩
end Go.Proofs.Ygcoaf
