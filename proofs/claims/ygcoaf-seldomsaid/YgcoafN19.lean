/-
  nat.Add.
-/
import Derived.Test.YgcoafN18
namespace Go.Proofs.Ygcoaf
open Go.RowKit

/-- what Add's loop holds -/
structure AddI (w wr : World) (R : Nat) (xs ys : List Nat) (k carry : Nat) : Prop where
  out : ∃ cs, Own w wr R cs ∧ cs.length = xs.length + 1 ∧ lv cs + 4294967296 ^ k * carry = lv (xs.take k) + lv (ys.take k) ∧ ∀ t, k ≤ t → cs.getD t 0 = 0
theorem AddI.below {w wr : World} {R : Nat} {xs ys : List Nat} {k carry : Nat} (o : AddI w wr R xs ys k carry) : Below w.heap.size w wr := by
  obtain ⟨cs, h1, _⟩ := o.out; exact h1.below
theorem AddI.step {w wr : World} {R : Nat} {xs ys : List Nat} {k carry : Nat} (o : AddI w wr R xs ys k carry) (hk : k < xs.length) :
    wr.cell? ⟨R, k, none⟩ = some (.int .u32 0) ∧ wr.frozen? ⟨R, k, none⟩ = false ∧
      ∀ T lo c', T = carry + xs.getD k 0 + ys.getD k 0 → lo = T % 4294967296 → c' = T / 4294967296 → AddI w (wr.setCell ⟨R, k, none⟩ (.int .u32 lo)) R xs ys (k + 1) c' := by
  obtain ⟨cs, h1, h2, h3, h4⟩ := o.out
  obtain ⟨c, hc, hlt, hcell, hfz⟩ := h1.cell k (by omega)
  have hz := h4 k (Nat.le_refl _)
  rw [hz] at hc
  subst hc
  refine ⟨hcell, hfz, fun T lo c' hT hlo hc' => ⟨cs.set k lo, h1.set _ _ (by omega) (by omega), by rw [List.length_set]; exact h2, ?_, fun t ht => ?_⟩⟩
  · have e1 := lv_set cs k lo (by omega)
    rw [hz] at e1
    rw [lv_take_next xs k, lv_take_next ys k, Nat.pow_succ]
    have e3 := Nat.div_add_mod T 4294967296
    rw [← hlo, ← hc'] at e3
    generalize lv (cs.set k lo) = L' at *
    generalize lv cs = L at *
    generalize lv (xs.take k) = X at *
    generalize lv (ys.take k) = Y at *
    generalize xs.getD k 0 = x at *
    generalize ys.getD k 0 = y at *
    generalize 4294967296 ^ k = P at *
    clear hlo hc' h1 h2 h4 hcell hfz hz o
    grind
  · rw [getD_set_ne _ _ _ _ (by omega)]; exact h4 t (by omega)
theorem AddI.last {w wr : World} {R : Nat} {xs ys : List Nat} {carry : Nat} (o : AddI w wr R xs ys xs.length carry) (hl : ys.length ≤ xs.length) (hc : carry < 4294967296) :
    (wr.cell? ⟨R, xs.length, none⟩ = some (.int .u32 0) ∧ wr.frozen? ⟨R, xs.length, none⟩ = false) ∧ ∃ cs, Own w (wr.setCell ⟨R, xs.length, none⟩ (.int .u32 carry)) R cs ∧ cs.length = xs.length + 1 ∧ lv cs = lv xs + lv ys := by
  obtain ⟨cs, h1, h2, h3, h4⟩ := o.out
  obtain ⟨c, hcc, hlt, hcell, hfz⟩ := h1.cell xs.length (by omega)
  have hz := h4 xs.length (Nat.le_refl _)
  rw [hz] at hcc
  subst hcc
  refine ⟨⟨hcell, hfz⟩, cs.set xs.length carry, h1.set _ _ (by omega) hc, by rw [List.length_set]; exact h2, ?_⟩
  have e1 := lv_set cs xs.length carry (by omega)
  rw [hz, Nat.mul_zero, Nat.add_zero] at e1
  rw [List.take_length, List.take_of_length_le hl] at h3
  omega

/-- two numbers, the longer first -/
structure Pair (w : World) (t0 t1 : Value) (V : Nat) (ad1 : Option Addr) (cap1 : Nat) (xs : List Nat) (ad2 : Option Addr) (cap2 : Nat) (ys : List Nat) : Prop where
  e0 : t0 = .slice ad1 xs.length cap1
  e1 : t1 = .slice ad2 ys.length cap2
  s1 : SL w ad1 cap1 xs
  s2 : SL w ad2 cap2 ys
  le : ys.length ≤ xs.length
  few : xs.length ≤ 40000
  sum : V = lv xs + lv ys

set_option maxRecDepth 8000 in
set_option maxHeartbeats 1000000 in
/-- nat.Add -/
theorem add_nat {w : World} {v1 v2 : Value} {n1 n2 : Nat} (s1 : NatV w v1 n1) (s2 : NatV w v2 n2) (b1 : bl n1 ≤ 1000000) (b2 : bl n2 ≤ 1000000) :
    Calls Oafg.prog 192 #[v1, v2] w fun e w' => (∃ v, e = .returned v ∧ NatV w' v (n1 + n2)) ∧ Below w.heap.size w w' := by
  have T1 : Hid _ := fun (_ : Unit) => trim_nat s1
  have T2 : Hid _ := fun (_ : Unit) => trim_nat s2
  obtain ⟨V, hV⟩ : ∃ V, V = n1 + n2 := ⟨_, rfl⟩
  rw [← hV]
  have HV : Hid _ := hV
  clear hV
  go_enter Oafg.func192, Oafg.ntmps192
  go_upto_region 2 with (first
    | (go_at_call_of 136 (v1); refine (T1.out ()).mono ?_; rintro e w1 ⟨⟨u1, rfl, hN1⟩, hw1⟩; have hw1 := hw1.symm; subst hw1)
    | (go_at_call_of 136 (v2); refine (T2.out ()).mono ?_; rintro e w1 ⟨⟨u2, rfl, hN2⟩, hw2⟩; have hw2 := hw2.symm; subst hw2))
  obtain ⟨ad1, cap1, xs0, rfl, hs1, hl1, hlen1⟩ := hN1.few b1
  obtain ⟨ad2, cap2, ys0, rfl, hs2, hl2, hlen2⟩ := hN2.few b2
  have HS1 : Hid _ := hs1
  have HS2 : Hid _ := hs2
  clear T1 T2 s1 s2 hN1 hN2 hs1 hs2
  go_upto_if 16 with fail
  go_cut [0, 1] (fun t0 t1 w' => (∃ ad1 cap1 xs ad2 cap2 ys, Hid (Pair w t0 t1 V ad1 cap1 xs ad2 cap2 ys)) ∧ w' = w)
  case first =>
    obtain ⟨la, hla⟩ : ∃ la, la = xs0.length := ⟨_, rfl⟩
    obtain ⟨lb, hlb⟩ : ∃ lb, lb = ys0.length := ⟨_, rfl⟩
    have Hla : Hid _ := hla
    have Hlb : Hid _ := hlb
    rw [← hla] at hlen1 ⊢
    rw [← hlb] at hlen2 ⊢
    clear hla hlb
    by_cases c : la < lb
    · go_wp2_with fail
      go_meet
      case rel => exact ⟨⟨_, _, ys0, _, _, xs0, ⟨by rw [Hlb.out], by rw [Hla.out], HS2.out, HS1.out, by rw [← Hla.out, ← Hlb.out]; omega, by rw [← Hlb.out]; exact hlen2, by rw [HV.out, hl1, hl2, Nat.add_comm]⟩⟩, rfl⟩
    · go_wp2_with fail
      go_meet
      case rel => exact ⟨⟨_, _, xs0, _, _, ys0, ⟨by rw [Hla.out], by rw [Hlb.out], HS1.out, HS2.out, by rw [← Hla.out, ← Hlb.out]; omega, by rw [← Hla.out]; exact hlen1, by rw [HV.out, hl1, hl2]⟩⟩, rfl⟩
  case rest =>
    obtain ⟨⟨ad1, cap1, xs, ad2, cap2, ys, hP⟩, hw⟩ := hcut
    subst hw
    obtain ⟨rfl, rfl⟩ := And.intro hP.out.e0 hP.out.e1
    obtain ⟨la, hla⟩ : ∃ la, la = xs.length := ⟨_, rfl⟩
    obtain ⟨lb, hlb⟩ : ∃ lb, lb = ys.length := ⟨_, rfl⟩
    have hle : lb ≤ la := by rw [hla, hlb]; exact hP.out.le
    have hfew : la ≤ 40000 := by rw [hla]; exact hP.out.few
    obtain ⟨w2, hmk, hown⟩ := mkOwn wc wc (la + 1) (by omega) (Below.refl _ _)
    have hmk' : (Instr.makeSlice 64 (.int .i64 ((la : Int) + 1)) (.int .i64 ((la : Int) + 1))).run Oafg.prog wc = .ok (.slice (some ⟨wc.heap.size, 0, none⟩) ((la + 1 : Nat)) ((la + 1 : Nat))) w2 := hmk
    obtain ⟨R, hR⟩ : ∃ R, R = wc.heap.size := ⟨_, rfl⟩
    rw [← hR] at hmk' hown
    have H0 : Hid (AddI wc w2 R xs ys 0 0) := ⟨_, hown, by rw [List.length_replicate]; omega, by simp [lv_zeros, lv], fun t _ => getD_zeros _ _⟩
    have Hla : Hid _ := hla
    have Hlb : Hid _ := hlb
    rw [← hla, ← hlb]
    clear hown hmk hla hlb hR HS1 HS2 HV hl1 hl2
    go_wp2
    go_loopw [25, 6] (fun i cy wr => ∃ k carry : Nat, k ≤ la ∧ i = .int .i64 k ∧ cy = .int .u64 carry ∧ carry ≤ 1 ∧ Hid (AddI wc wr R xs ys k carry)) (fun i _ _ => la - (intOf i).toNat)
    case atStart => exact ⟨0, 0, Nat.zero_le _, rfl, rfl, by decide, H0⟩
    case round =>
      obtain ⟨k, carry, hk, rfl, rfl, hcy, hM⟩ := hrel
      by_cases c : k < la
      · have hkx : k < xs.length := by have := Hla.out; omega
        obtain ⟨p1, q1, x, rfl, hx1, hx2, hcx⟩ := hP.out.s1.now hM.out.below k hkx
        obtain ⟨hcell, hfz, hnext⟩ := hM.out.step hkx
        rw [← hx1] at hnext
        by_cases c2 : k < lb
        · obtain ⟨p2, q2, y, rfl, hy1, hy2, hcy2⟩ := hP.out.s2.now hM.out.below k (by have := Hlb.out; omega)
          rw [← hy1] at hnext
          obtain ⟨T, hT⟩ : ∃ T, T = carry + x + y := ⟨_, rfl⟩
          obtain ⟨lo, hlo⟩ : ∃ lo, lo = T % 4294967296 := ⟨_, rfl⟩
          obtain ⟨c', hc'⟩ : ∃ c', c' = T / 4294967296 := ⟨_, rfl⟩
          have hN : Hid _ := hnext T lo c' hT hlo hc'
          have g2 : (carry : Int) + (x : Int) + (y : Int) = (T : Int) := by omega
          have g3 : IntKind.u32.wrap (T : Int) = (lo : Int) := by rw [IntKind.wrap_u32]; omega
          have g4 : (T : Int) / 4294967296 = (c' : Int) := by omega
          have hT2 : T < 18446744073709551616 := by omega
          have hc2 : c' ≤ 1 := by omega
          clear hnext hx1 hy1 hT hlo hc' hM
          go_wp2
          go_roundw
          case rel => exact ⟨k + 1, c', by omega, by go_num, rfl, hc2, hN⟩
          case measure => simp [intOf]; omega
        · have hd0 : ys.getD k 0 = 0 := by
            have := Hlb.out
            rw [List.getD_eq_getElem?_getD, List.getElem?_eq_none (by omega)]; rfl
          rw [hd0] at hnext
          obtain ⟨T, hT⟩ : ∃ T, T = carry + x := ⟨_, rfl⟩
          obtain ⟨lo, hlo⟩ : ∃ lo, lo = T % 4294967296 := ⟨_, rfl⟩
          obtain ⟨c', hc'⟩ : ∃ c', c' = T / 4294967296 := ⟨_, rfl⟩
          have hN : Hid _ := hnext T lo c' hT hlo hc'
          have g2 : (carry : Int) + (x : Int) = (T : Int) := by omega
          have g3 : IntKind.u32.wrap (T : Int) = (lo : Int) := by rw [IntKind.wrap_u32]; omega
          have g4 : (T : Int) / 4294967296 = (c' : Int) := by omega
          have hT2 : T < 18446744073709551616 := by omega
          have hc2 : c' ≤ 1 := by omega
          clear hnext hx1 hT hlo hc' hM hd0
          go_wp2
          go_roundw
          case rel => exact ⟨k + 1, c', by omega, by go_num, rfl, hc2, hN⟩
          case measure => simp [intOf]; omega
      · obtain rfl : k = la := by omega
        have hM' := hM.out
        rw [Hla.out] at hM'
        obtain ⟨⟨hc1, hc2⟩, cs, ho, hlc, hval⟩ := hM'.last hP.out.le (by omega)
        rw [← Hla.out] at hc1 hc2 ho hlc
        have htr := trim_own ho (by omega)
        rw [hlc, hval, ← hP.out.sum] at htr
        have HTR : Hid _ := fun (_ : Unit) => htr
        clear htr hval hlc ho hM hM'
        go_wp2_with (go_at_call 136; refine (HTR.out ()).mono ?_; rintro e w3 ⟨⟨v, rfl, hN⟩, hb⟩)
        go_ret
        exact ⟨⟨v, rfl, hN⟩, hb⟩
end Go.Proofs.Ygcoaf
