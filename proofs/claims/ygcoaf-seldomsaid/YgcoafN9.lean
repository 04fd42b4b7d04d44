/-
  nat.Cmp, Take, Bit (of bit 0).
-/
import Derived.Test.YgcoafN8
namespace Go.Proofs.Ygcoaf
open Go.RowKit

/-- which is the greater -/
def cmpN (a b : Nat) : Int := if a < b then -1 else if a = b then 0 else 1
theorem cmpN_top {A B P x y : Nat} (hA : A < P) (hB : B < P) : (x < y → cmpN (A + P * x) (B + P * y) = -1) ∧ (y < x → cmpN (A + P * x) (B + P * y) = 1) ∧ (x = y → cmpN (A + P * x) (B + P * y) = cmpN A B) := by
  refine ⟨fun h => ?_, fun h => ?_, fun h => ?_⟩
  · have : P * (x + 1) ≤ P * y := Nat.mul_le_mul_left _ h
    rw [Nat.mul_succ] at this
    unfold cmpN; rw [if_pos (by omega)]
  · have : P * (y + 1) ≤ P * x := Nat.mul_le_mul_left _ h
    rw [Nat.mul_succ] at this
    unfold cmpN; rw [if_neg (by omega), if_neg (by omega)]
  · subst h
    unfold cmpN
    by_cases c : A < B
    · rw [if_pos (by omega), if_pos c]
    · rw [if_neg (by omega), if_neg c]
      by_cases d : A = B
      · rw [if_pos (by omega), if_pos d]
      · rw [if_neg (by omega), if_neg d]

theorem NatV.size {w : World} {v : Value} {n : Nat} (s : NatV w v n) (h : bl n ≤ 1000000) : ∃ ad cap xs, v = .slice ad xs.length cap ∧ SL w ad cap xs ∧ lv xs = n ∧ xs.length ≤ 40000 ∧ n < 4294967296 ^ xs.length ∧ (∀ j, j < xs.length → 4294967296 ^ j ≤ n) := by
  obtain ⟨rfl, rfl⟩ | ⟨b, off, cap, xs, h1, h2, h3, h4, h5, h6⟩ := s.out
  · exact ⟨none, 0, [], rfl, ⟨fun i hi => absurd hi (Nat.not_lt_zero _), Nat.le_refl _, fun i hi => absurd hi (Nat.not_lt_zero _)⟩, rfl, by decide, by decide, fun i hi => absurd hi (Nat.not_lt_zero _)⟩
  · obtain ⟨j, hj⟩ : ∃ j, xs.length = j + 1 := ⟨xs.length - 1, by have := List.length_pos_iff.2 h4; omega⟩
    refine ⟨_, cap, xs, h1, h2, h3, ?_, by rw [← h3]; exact lv_lt xs h2.lim, fun i hi => ?_⟩
    · rw [hj] at h5 ⊢
      simp only [Nat.add_sub_cancel] at h5
      have ht := lv_top xs j hj
      have hlt := lv_take_lt xs j h2.lim (by omega)
      have := bl_top (xs.getD j 0) _ _ h5 hlt
      rw [← ht, h3] at this
      omega
    · rw [hj] at h5
      simp only [Nat.add_sub_cancel] at h5
      have ht := lv_top xs j hj
      rw [h3, ← limb_pow] at ht
      have a : 4294967296 ^ i ≤ 4294967296 ^ j := Nat.pow_le_pow_right (by decide) (by omega)
      have b : 4294967296 ^ j * 1 ≤ 4294967296 ^ j * xs.getD j 0 := Nat.mul_le_mul_left _ (by omega)
      omega

set_option maxRecDepth 8000 in
/-- nat.Cmp -/
theorem cmp_nat {w : World} {v1 v2 : Value} {n1 n2 : Nat} (s1 : NatV w v1 n1) (s2 : NatV w v2 n2) (b1 : bl n1 ≤ 1000000) (b2 : bl n2 ≤ 1000000) :
    Calls Oafg.prog 179 #[v1, v2] w fun e w' => e = .returned (.int .i8 (cmpN n1 n2)) ∧ Below w.heap.size w w' := by
  have T1 : Hid _ := fun (_ : Unit) => trim_nat s1
  have T2 : Hid _ := fun (_ : Unit) => trim_nat s2
  obtain ⟨V, hV⟩ : ∃ V, V = cmpN n1 n2 := ⟨_, rfl⟩
  rw [← hV]
  have HV : Hid _ := hV
  clear hV
  go_enter Oafg.func179, Oafg.ntmps179
  go_upto_region 2 with (first
    | (go_at_call_of 136 (v1); refine (T1.out ()).mono ?_; rintro e w1 ⟨⟨u1, rfl, hN1⟩, hw1⟩; subst hw1)
    | (go_at_call_of 136 (v2); refine (T2.out ()).mono ?_; rintro e w1 ⟨⟨u2, rfl, hN2⟩, hw2⟩; subst hw2))
  obtain ⟨ad1, cap1, xs, rfl, hs1, hl1, hlen1, up1, dn1⟩ := hN1.size b1
  obtain ⟨ad2, cap2, ys, rfl, hs2, hl2, hlen2, up2, dn2⟩ := hN2.size b2
  obtain ⟨la, hla⟩ : ∃ la, la = xs.length := ⟨_, rfl⟩
  obtain ⟨lb, hlb⟩ : ∃ lb, lb = ys.length := ⟨_, rfl⟩
  have HS1 : Hid _ := hs1
  have HS2 : Hid _ := hs2
  have Hla : Hid _ := hla
  have Hlb : Hid _ := hlb
  rw [← hla] at hlen1 up1 dn1 ⊢
  rw [← hlb] at hlen2 up2 dn2 ⊢
  by_cases c1 : la < lb
  · have hans : V = -1 := by
      have := dn2 la c1
      rw [HV.out]; unfold cmpN; rw [if_pos (by omega)]
    subst hans
    clear hs1 hs2 hl1 hl2 hN1 hN2 hla hlb T1 T2 s1 s2 up1 dn1 up2 dn2 HV
    have hne : ((la : Int) == (lb : Int)) = false := by rw [beq_eq_false_iff_ne]; omega
    go_wp2
    go_ret
    exact ⟨rfl, Below.refl _ _⟩
  by_cases c2 : lb < la
  · have hans : V = 1 := by
      have := dn1 lb c2
      rw [HV.out]; unfold cmpN; rw [if_neg (by omega), if_neg (by omega)]
    subst hans
    clear hs1 hs2 hl1 hl2 hN1 hN2 hla hlb T1 T2 s1 s2 up1 dn1 up2 dn2 HV
    have hne : ((la : Int) == (lb : Int)) = false := by rw [beq_eq_false_iff_ne]; omega
    go_wp2
    go_ret
    exact ⟨rfl, Below.refl _ _⟩
  obtain rfl : la = lb := by omega
  have H0 : Hid (V = cmpN (lv (xs.take la)) (lv (ys.take la))) := by
    show V = _
    rw [HV.out, ← hl1, ← hl2]
    conv => rhs; rw [hla, List.take_length, ← hla, hlb, List.take_length]
  clear hs1 hs2 hl1 hl2 hN1 hN2 hla hlb T1 T2 s1 s2 up1 dn1 up2 dn2 HV c1 c2
  go_wp2
  go_loopw [5] (fun i wr => ∃ k : Nat, k ≤ la ∧ i = .int .i64 ((k : Int) - 1) ∧ Hid (V = cmpN (lv (xs.take k)) (lv (ys.take k))) ∧ Below w1.heap.size w1 wr) (fun i _ => (intOf i + 1).toNat)
  case atStart => exact ⟨la, Nat.le_refl _, rfl, H0, Below.refl _ _⟩
  case round =>
    obtain ⟨k, hk, hi, hM, hb⟩ := hrel
    by_cases c : k = 0
    · subst c
      rw [show ((0 : Nat) : Int) - 1 = -1 from by decide] at hi
      subst hi
      have hans : V = 0 := by have := hM.out; simpa [cmpN] using this
      subst hans
      clear H0 hM
      go_wp2
      go_ret
      exact ⟨rfl, hb⟩
    · obtain ⟨j, rfl⟩ : ∃ j, k = j + 1 := ⟨k - 1, by omega⟩
      rw [show ((j + 1 : Nat) : Int) - 1 = (j : Int) from by omega] at hi
      subst hi
      have hjx : j < xs.length := by have := Hla.out; omega
      have hjy : j < ys.length := by have := Hlb.out; omega
      obtain ⟨p1, q1, x, rfl, hx1, hx2, hcx⟩ := HS1.out.now hb j hjx
      obtain ⟨p2, q2, y, rfl, hy1, hy2, hcy⟩ := HS2.out.now hb j hjy
      have ht := cmpN_top (x := x) (y := y) (lv_take_lt xs j HS1.out.lim (by omega)) (lv_take_lt ys j HS2.out.lim (by omega))
      have hM' := hM.out
      rw [lv_take_succ xs j hjx, lv_take_succ ys j hjy, ← hx1, ← hy1, limb_pow] at hM'
      clear hM hx1 hy1 H0
      by_cases d1 : x < y
      · have hans : V = -1 := by rw [hM']; exact ht.1 d1
        subst hans
        clear hM' ht
        go_wp2
        go_quiet (fail)
        go_wp2
        go_ret
        exact ⟨rfl, below_dN hb _⟩
      by_cases d2 : y < x
      · have hans : V = 1 := by rw [hM']; exact ht.2.1 d2
        subst hans
        clear hM' ht
        go_wp2
        go_quiet (fail)
        go_wp2
        go_quiet (fail)
        go_wp2
        go_ret
        exact ⟨rfl, by simpa using below_dN hb _⟩
      have hN : Hid (V = cmpN (lv (xs.take j)) (lv (ys.take j))) := by show V = _; rw [hM']; exact ht.2.2 (by omega)
      clear hM' ht
      go_wp2
      go_quiet (fail)
      go_wp2
      go_quiet (fail)
      go_wp2
      go_roundw
      case rel => exact ⟨j, by omega, rfl, hN, by simpa using below_dN hb _⟩
      case measure => simp [intOf]

/-- nat.Take of a normal number -/
theorem take_nat {w : World} {v : Value} {n : Nat} (s1 : NatV w v n) (b1 : bl n ≤ 1000000) :
    Calls Oafg.prog 178 #[v] w fun e w' => (∃ v, e = .returned v ∧ NatV w' v n) ∧ Below w.heap.size w w' := by
  have T1 : Hid _ := fun (_ : Unit) => trim_nat s1
  have qE := eqNil
  by_cases hn : n = 0
  · subst hn
    go_enter Oafg.func178, Oafg.ntmps178
    go_wp2_with (go_at_call 136; refine (T1.out ()).mono ?_; rintro e w1 ⟨⟨v', rfl, hN⟩, hw⟩; subst hw; obtain rfl := hN.zero)
    go_ret
    exact ⟨⟨_, rfl, natV_nil _⟩, Below.refl _ _⟩
  go_enter Oafg.func178, Oafg.ntmps178
  go_upto_region 2 with (go_at_call 136; refine (T1.out ()).mono ?_; rintro e w1 ⟨⟨u1, rfl, hN1⟩, hw1⟩; subst hw1)
  obtain ⟨b0, off0, cap0, xs, rfl, hs, hl, hne, htop, hcap⟩ := hN1.pos hn
  have hfit := hs.fits
  obtain ⟨la, hla⟩ : ∃ la, la = xs.length := ⟨_, rfl⟩
  obtain ⟨w2, hmk, hown⟩ := mkOwn w1 w1 la (by omega) (Below.refl _ _)
  obtain ⟨R, hR⟩ : ∃ R, R = w1.heap.size := ⟨_, rfl⟩
  rw [← hR] at hmk hown
  obtain ⟨w3, hcp, hown3⟩ := copyOwn hown (hs.call hown.below) (by rw [List.length_replicate]; omega)
  rw [List.length_replicate, ← hla] at hcp
  have hres : Hid (NatV w3 (.slice (some ⟨R, 0, none⟩) la la) n) := by
    have e : xs ++ (List.replicate la 0).drop xs.length = xs := by rw [List.drop_eq_nil_of_le (by rw [List.length_replicate]; omega), List.append_nil]
    rw [e] at hown3
    have := hown3.sl
    exact ⟨.inr ⟨R, 0, la, xs, by rw [hla], by rw [hla]; exact this, hl, hne, htop, by omega⟩⟩
  have hbel : Hid _ := hown3.below
  rw [← hla] at hfit ⊢
  clear hs hl hN1 hown hown3 hla T1 s1 hR hne htop
  go_wp2
  go_ret
  exact ⟨⟨_, rfl, hres.out⟩, hbel.out⟩

/-- nat.Bit: bit 0 -/
theorem bit0_nat {w : World} {v : Value} {n : Nat} (s1 : NatV w v n) :
    Calls Oafg.prog 182 #[v, .int .i64 0] w fun e w' => e = .returned (.bool (decide (n % 2 = 1))) ∧ w' = w := by
  obtain ⟨rfl, rfl⟩ | ⟨b, off, cap, xs, rfl, h2, h3, h4, h5, h6⟩ := s1.out
  · go_enter Oafg.func182, Oafg.ntmps182
    go_wp2
    go_ret
    exact ⟨rfl, rfl⟩
  · have hl := List.length_pos_iff.2 h4
    obtain ⟨b', off', e, hc⟩ := h2.cell 0 hl
    cases e
    have hlim := h2.lim 0 hl
    have hmod : n % 2 = xs.getD 0 0 % 2 := by
      rw [← h3]
      cases xs with
      | nil => exact absurd rfl h4
      | cons x xs => simp only [lv, List.getD_cons_zero]; omega
    obtain ⟨x, hx⟩ : ∃ x, x = xs.getD 0 0 := ⟨_, rfl⟩
    rw [← hx] at hc hlim hmod
    have hfit := h2.fits
    obtain ⟨la, hla⟩ : ∃ la, la = xs.length := ⟨_, rfl⟩
    rw [← hla] at hl hfit ⊢
    rw [hmod]
    rw [Nat.add_zero] at hc
    have f1 : bits .and .u32 (x : Int) 1 = ((x % 2 : Nat) : Int) := by
      have := u32_and_nat x 1 hlim (by decide)
      rw [Nat.and_one_is_mod] at this
      exact this
    clear hmod hx h2 h3 h4 h5 hla
    go_enter Oafg.func182, Oafg.ntmps182
    go_wp2
    go_ret
    refine ⟨?_, rfl⟩
    show Ending.returned (.bool ((x : Int) % 2 == 1)) = .returned (.bool (decide (x % 2 = 1)))
    have : ((x : Int) % 2 == 1) = decide (x % 2 = 1) := by
      rw [Bool.eq_iff_iff, beq_iff_eq, decide_eq_true_iff]; omega
    rw [this]
end Go.Proofs.Ygcoaf
