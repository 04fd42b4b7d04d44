/-
  nat.Sub.
-/
import Derived.Test.YgcoafN19
namespace Go.Proofs.Ygcoaf
open Go.RowKit

/-- what Sub's loop holds -/
structure SubI (w wr : World) (R : Nat) (xs ys : List Nat) (k br : Nat) : Prop where
  out : ∃ cs, Own w wr R cs ∧ cs.length = xs.length ∧ lv cs + lv (ys.take k) = lv (xs.take k) + 4294967296 ^ k * br ∧ ∀ t, k ≤ t → cs.getD t 0 = 0
theorem SubI.below {w wr : World} {R : Nat} {xs ys : List Nat} {k br : Nat} (o : SubI w wr R xs ys k br) : Below w.heap.size w wr := by
  obtain ⟨cs, h1, _⟩ := o.out; exact h1.below
theorem SubI.step {w wr : World} {R : Nat} {xs ys : List Nat} {k br : Nat} (o : SubI w wr R xs ys k br) (hk : k < xs.length) :
    wr.cell? ⟨R, k, none⟩ = some (.int .u32 0) ∧ wr.frozen? ⟨R, k, none⟩ = false ∧
      ∀ lo c', lo < 4294967296 → lo + ys.getD k 0 + br = xs.getD k 0 + 4294967296 * c' → SubI w (wr.setCell ⟨R, k, none⟩ (.int .u32 lo)) R xs ys (k + 1) c' := by
  obtain ⟨cs, h1, h2, h3, h4⟩ := o.out
  obtain ⟨c, hc, hlt, hcell, hfz⟩ := h1.cell k (by omega)
  have hz := h4 k (Nat.le_refl _)
  rw [hz] at hc
  subst hc
  refine ⟨hcell, hfz, fun lo c' hlo he => ⟨cs.set k lo, h1.set _ _ (by omega) hlo, by rw [List.length_set]; exact h2, ?_, fun t ht => ?_⟩⟩
  · have e1 := lv_set cs k lo (by omega)
    rw [hz] at e1
    rw [lv_take_next xs k, lv_take_next ys k, Nat.pow_succ]
    generalize lv (cs.set k lo) = L' at *
    generalize lv cs = L at *
    generalize lv (xs.take k) = X at *
    generalize lv (ys.take k) = Y at *
    generalize xs.getD k 0 = x at *
    generalize ys.getD k 0 = y at *
    generalize 4294967296 ^ k = P at *
    clear hlo h1 h2 h4 hcell hfz hz o
    grind
  · rw [getD_set_ne _ _ _ _ (by omega)]; exact h4 t (by omega)
theorem SubI.last {w wr : World} {R : Nat} {xs ys : List Nat} {br : Nat} (o : SubI w wr R xs ys xs.length br) (hl : ys.length ≤ xs.length) (hle : lv ys ≤ lv xs) : ∃ cs, Own w wr R cs ∧ cs.length = xs.length ∧ lv cs = lv xs - lv ys := by
  obtain ⟨cs, h1, h2, h3, h4⟩ := o.out
  refine ⟨cs, h1, h2, ?_⟩
  rw [List.take_length, List.take_of_length_le hl] at h3
  have hlt := lv_lt cs h1.lim
  rw [h2] at hlt
  cases br with
  | zero => omega
  | succ n =>
    exfalso
    rw [Nat.mul_succ] at h3
    omega

/-- one limb's step -/
theorem sub_limb (x y br : Nat) (hx : x < 4294967296) (hy : y < 4294967296) (hb : br ≤ 1) : ∃ t1 t2 lo c' : Nat, IntKind.u64.wrap ((x : Int) - (br : Int)) = (t1 : Int) ∧ t1 < 18446744073709551616 ∧ IntKind.u64.wrap ((t1 : Int) - (y : Int)) = (t2 : Int) ∧ t2 < 18446744073709551616 ∧ IntKind.u32.wrap (t2 : Int) = (lo : Int) ∧ (t2 : Int) / 9223372036854775808 = (c' : Int) ∧ lo < 4294967296 ∧ c' ≤ 1 ∧ lo + y + br = x + 4294967296 * c' := by
  refine ⟨((x : Int) - br).toNat + (if x < br then 18446744073709551615 else 0), if x < y + br then 18446744073709551616 + x - y - br else x - y - br, if x < y + br then 4294967296 + x - y - br else x - y - br, if x < y + br then 1 else 0, ?_, ?_, ?_, ?_, ?_, ?_, ?_, ?_, ?_⟩
  all_goals (try rw [IntKind.wrap_u64]); (try rw [IntKind.wrap_u32])
  all_goals
    by_cases c1 : x < y + br
    · by_cases c2 : x < br
      · simp only [if_pos c1, if_pos c2]; omega
      · simp only [if_pos c1, if_neg c2]; omega
    · have c2 : ¬ x < br := by omega
      simp only [if_neg c1, if_neg c2]; omega

set_option maxRecDepth 8000 in
set_option maxHeartbeats 1000000 in
/-- nat.Sub of what is not greater -/
theorem sub_nat {w : World} {v1 v2 : Value} {n1 n2 : Nat} (s1 : NatV w v1 n1) (s2 : NatV w v2 n2) (b1 : bl n1 ≤ 1000000) (b2 : bl n2 ≤ 1000000) (hle : n2 ≤ n1) :
    Calls Oafg.prog 193 #[v1, v2] w fun e w' => (∃ v, e = .returned (.tuple #[v, .bool true]) ∧ NatV w' v (n1 - n2)) ∧ Below w.heap.size w w' := by
  have T1 : Hid _ := fun (_ : Unit) => trim_nat s1
  have T2 : Hid _ := fun (_ : Unit) => trim_nat s2
  have hC : ¬ cmpN n1 n2 < 0 := by rw [cmpN_lt]; omega
  have hCb := cmpN_bd n1 n2
  have HCM : Hid (∀ u1 u2, NatV w u1 n1 → NatV w u2 n2 → Calls Oafg.prog 179 #[u1, u2] w fun e w' => e = .returned (.int .i8 (cmpN n1 n2)) ∧ Below w.heap.size w w') := fun u1 u2 g1 g2 => cmp_nat g1 g2 b1 b2
  generalize cmpN n1 n2 = C at *
  have Hle : Hid _ := hle
  clear hle
  go_enter Oafg.func193, Oafg.ntmps193
  go_upto_region 2 with (first
    | (go_at_call_of 136 (v1); refine (T1.out ()).mono ?_; rintro e w1 ⟨⟨u1, rfl, hN1⟩, hw1⟩; have hw1 := hw1.symm; subst hw1)
    | (go_at_call_of 136 (v2); refine (T2.out ()).mono ?_; rintro e w1 ⟨⟨u2, rfl, hN2⟩, hw2⟩; have hw2 := hw2.symm; subst hw2))
  obtain ⟨ad1, cap1, xs, rfl, hs1, hl1, hlen1, hup1, _⟩ := hN1.size b1
  obtain ⟨ad2, cap2, ys, rfl, hs2, hl2, hlen2, _, hlow2⟩ := hN2.size b2
  have hll : ys.length ≤ xs.length := by
    rcases Nat.lt_or_ge xs.length ys.length with c | c
    · have a := hlow2 _ c
      have b := Hle.out
      omega
    · exact c
  have HS1 : Hid _ := hs1
  have HS2 : Hid _ := hs2
  have HN1 : Hid _ := hN1
  have HN2 : Hid _ := hN2
  have HL : Hid (lv xs = n1 ∧ lv ys = n2 ∧ ys.length ≤ xs.length) := ⟨hl1, hl2, hll⟩
  obtain ⟨la, hla⟩ : ∃ la, la = xs.length := ⟨_, rfl⟩
  obtain ⟨lb, hlb⟩ : ∃ lb, lb = ys.length := ⟨_, rfl⟩
  rw [← hla] at hlen1
  rw [← hlb] at hlen2
  have Hla : Hid _ := hla
  have Hlb : Hid _ := hlb
  rw [← hla] at HN1
  rw [← hlb] at HN2
  rw [← hla, ← hlb]
  clear T1 T2 s1 s2 hN1 hN2 hs1 hs2 hl1 hl2 hll hup1 hlow2 hla hlb
  go_upto_region 4 with (go_at_call 179; refine (HCM.out _ _ HN1.out HN2.out).mono ?_; rintro e w2 ⟨rfl, hb2⟩; have HB2 : Hid _ := hb2; clear hb2)
  obtain ⟨w3, hmk, hown⟩ := mkOwn w w2 la (by omega) HB2.out
  obtain ⟨R, hR⟩ : ∃ R, R = w2.heap.size := ⟨_, rfl⟩
  rw [← hR] at hmk hown
  have H0 : Hid (SubI w w3 R xs ys 0 0) := ⟨_, hown, by rw [List.length_replicate]; exact Hla.out, by simp [lv_zeros, lv], fun t _ => getD_zeros _ _⟩
  clear hown hR HCM HN1 HN2
  go_wp2
  go_loopw [23, 7] (fun i cy wr => ∃ k br : Nat, k ≤ la ∧ i = .int .i64 k ∧ cy = .int .u64 br ∧ br ≤ 1 ∧ Hid (SubI w wr R xs ys k br)) (fun i _ _ => la - (intOf i).toNat)
  case atStart => exact ⟨0, 0, Nat.zero_le _, rfl, rfl, by decide, H0⟩
  case round =>
    obtain ⟨k, br, hk, rfl, rfl, hbr, hM⟩ := hrel
    clear hmk
    by_cases c : k < la
    · have hkx : k < xs.length := by have := Hla.out; omega
      obtain ⟨p1, q1, x, rfl, hx1, hx2, hcx⟩ := HS1.out.now hM.out.below k hkx
      obtain ⟨hcell, hfz, hnext⟩ := hM.out.step hkx
      rw [← hx1] at hnext
      by_cases c2 : k < lb
      · obtain ⟨p2, q2, y, rfl, hy1, hy2, hcy2⟩ := HS2.out.now hM.out.below k (by have := Hlb.out; omega)
        rw [← hy1] at hnext
        obtain ⟨t1, t2, lo, c', g1, g2, g3, g4, g5, g6, g7, g8, g9⟩ := sub_limb x y br hx2 hy2 hbr
        have hN : Hid _ := hnext lo c' g7 g9
        clear hnext hx1 hy1 hM g9
        go_wp2
        go_roundw
        case rel => exact ⟨k + 1, c', by omega, by go_num, rfl, g8, hN⟩
        case measure => simp [intOf]; omega
      · have hd0 : ys.getD k 0 = 0 := by
          have := Hlb.out
          rw [List.getD_eq_getElem?_getD, List.getElem?_eq_none (by omega)]; rfl
        rw [hd0] at hnext
        obtain ⟨t1, t2, lo, c', g1, g2, g3, g4, g5, g6, g7, g8, g9⟩ := sub_limb x 0 br hx2 (by decide) hbr
        have hN : Hid _ := hnext lo c' g7 g9
        have e12 : t2 = t1 := by
          have := g3
          rw [IntKind.wrap_u64] at this
          omega
        subst e12
        clear hnext hx1 hM hd0 g9 g3
        go_wp2
        go_roundw
        case rel => exact ⟨k + 1, c', by omega, by go_num, rfl, g8, hN⟩
        case measure => simp [intOf]; omega
    · obtain rfl : k = la := by omega
      have hM' := hM.out
      rw [Hla.out] at hM'
      obtain ⟨e1, e2, e3⟩ := HL.out
      obtain ⟨cs, ho, hlc, hval⟩ := hM'.last e3 (by rw [e1, e2]; exact Hle.out)
      rw [← Hla.out] at hlc
      have htr := trim_own ho (by omega)
      rw [hlc, hval, e1, e2] at htr
      have HTR : Hid _ := fun (_ : Unit) => htr
      clear htr hval hlc ho hM hM' e1 e2 e3 HL
      go_wp2_with (go_at_call 136; refine (HTR.out ()).mono ?_; rintro e w4 ⟨⟨v, rfl, hN⟩, hb⟩)
      go_ret2
      exact ⟨⟨v, rfl, hN⟩, hb⟩
end Go.Proofs.Ygcoaf
