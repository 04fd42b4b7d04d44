/-
  nat.Mul.
-/
import Derived.Test.YgcoafN6
namespace Go.Proofs.Ygcoaf
open Go.RowKit

/-- what the outer loop holds -/
structure MulO (w wr : World) (R : Nat) (xs ys : List Nat) (k : Nat) : Prop where
  out : ∃ cs, Own w wr R cs ∧ cs.length = xs.length + ys.length ∧ lv cs = lv (xs.take k) * lv ys ∧ ∀ t, k + ys.length ≤ t → cs.getD t 0 = 0
/-- what the inner loop holds -/
structure MulI (w wr : World) (R : Nat) (xs ys : List Nat) (k j carry : Nat) : Prop where
  out : ∃ cs, Own w wr R cs ∧ cs.length = xs.length + ys.length ∧ lv cs + 4294967296 ^ (k + j) * carry = lv (xs.take k) * lv ys + 4294967296 ^ k * (xs.getD k 0 * lv (ys.take j)) ∧ ∀ t, k + ys.length ≤ t → cs.getD t 0 = 0

theorem MulO.inner {w wr : World} {R : Nat} {xs ys : List Nat} {k : Nat} (o : MulO w wr R xs ys k) : MulI w wr R xs ys k 0 0 := by
  obtain ⟨cs, h1, h2, h3, h4⟩ := o.out
  exact ⟨cs, h1, h2, by simp [h3, lv], h4⟩
theorem MulI.below {w wr : World} {R : Nat} {xs ys : List Nat} {k j carry : Nat} (o : MulI w wr R xs ys k j carry) : Below w.heap.size w wr := by
  obtain ⟨cs, h1, _⟩ := o.out; exact h1.below
theorem MulI.drew {w wr : World} {R : Nat} {xs ys : List Nat} {k j carry : Nat} (o : MulI w wr R xs ys k j carry) : MulI w wr.drew R xs ys k j carry := by
  obtain ⟨cs, h1, h2⟩ := o.out; exact ⟨cs, h1.drew, h2⟩

theorem MulI.step {w wr : World} {R : Nat} {xs ys : List Nat} {k j carry : Nat} (o : MulI w wr R xs ys k j carry) (hk : k < xs.length) (hj : j < ys.length) :
    ∃ c : Nat, c < 4294967296 ∧ wr.cell? ⟨R, k + j, none⟩ = some (.int .u32 c) ∧ wr.frozen? ⟨R, k + j, none⟩ = false ∧
      ∀ m T, T = carry + (xs.getD k 0 * ys.getD j 0 + c) → MulI w ((wr.drewN m).setCell ⟨R, k + j, none⟩ (.int .u32 (T % 4294967296 : Nat))) R xs ys k (j + 1) (T / 4294967296) := by
  obtain ⟨cs, h1, h2, h3, h4⟩ := o.out
  obtain ⟨c, hc, hlt, hcell, hfz⟩ := h1.cell (k + j) (by omega)
  refine ⟨c, hlt, hcell, hfz, fun m T hT => ⟨cs.set (k + j) (T % 4294967296), (h1.drewN m).set _ _ (by omega) (Nat.mod_lt _ (by decide)), by rw [List.length_set]; exact h2, ?_, fun t ht => ?_⟩⟩
  · have e1 := lv_set cs (k + j) (T % 4294967296) (by omega)
    have e2 := lv_take_succ ys j hj
    have e3 := Nat.div_add_mod T 4294967296
    rw [← hc] at e1
    rw [show k + (j + 1) = k + j + 1 from by omega, Nat.pow_succ, e2]
    rw [Nat.pow_add] at e1 h3 ⊢
    generalize lv (cs.set (k + j) (T % 4294967296)) = L' at *
    generalize lv cs = L at *
    generalize lv (ys.take j) = Y at *
    generalize ys.getD j 0 = y at *
    generalize xs.getD k 0 = x at *
    generalize lv (xs.take k) * lv ys = A at *
    generalize 4294967296 ^ k = P at *
    generalize 4294967296 ^ j = Q at *
    generalize T % 4294967296 = r at *
    generalize T / 4294967296 = q at *
    grind
  · rw [getD_set_ne _ _ _ _ (by omega)]; exact h4 t ht

theorem MulI.last {w wr : World} {R : Nat} {xs ys : List Nat} {k carry : Nat} (o : MulI w wr R xs ys k ys.length carry) (hk : k < xs.length) (hc : carry < 4294967296) :
    (wr.cell? ⟨R, k + ys.length, none⟩ = some (.int .u32 0) ∧ wr.frozen? ⟨R, k + ys.length, none⟩ = false) ∧ MulO w (wr.setCell ⟨R, k + ys.length, none⟩ (.int .u32 carry)) R xs ys (k + 1) := by
  obtain ⟨cs, h1, h2, h3, h4⟩ := o.out
  obtain ⟨c, hcc, hlt, hcell, hfz⟩ := h1.cell (k + ys.length) (by omega)
  have hz := h4 (k + ys.length) (Nat.le_refl _)
  rw [hz] at hcc
  subst hcc
  refine ⟨⟨hcell, hfz⟩, cs.set (k + ys.length) carry, h1.set _ _ (by omega) hc, by rw [List.length_set]; exact h2, ?_, fun t ht => ?_⟩
  · have e1 := lv_set cs (k + ys.length) carry (by omega)
    rw [hz] at e1
    rw [lv_take_succ xs k hk]
    rw [List.take_length] at h3
    rw [Nat.mul_zero, Nat.add_zero] at e1
    rw [e1, h3, Nat.add_mul, Nat.mul_assoc]
  · rw [getD_set_ne _ _ _ _ (by omega)]; exact h4 t (by omega)

theorem mul_bd (a b c d : Nat) (ha : a < 4294967296) (hb : b < 4294967296) (hc : c < 4294967296) (hd : d < 4294967296) : d + (a * b + c) < 18446744073709551616 ∧ (d + (a * b + c)) / 4294967296 < 4294967296 := by
  have : a * b ≤ 4294967295 * 4294967295 := Nat.mul_le_mul (by omega) (by omega)
  omega

set_option maxRecDepth 8000 in
/-- nat.Mul -/
theorem mul_nat {w : World} {v1 v2 : Value} {n1 n2 : Nat} (s1 : NatV w v1 n1) (s2 : NatV w v2 n2) (b1 : bl n1 ≤ 1000000) (b2 : bl n2 ≤ 1000000) :
    Calls Oafg.prog 91 #[v1, v2] w fun e w' => (∃ v, e = .returned v ∧ NatV w' v (n1 * n2)) ∧ Below w.heap.size w w' := by
  have T1 : Hid _ := fun (_ : Unit) => trim_nat s1
  have T2 : Hid _ := fun (_ : Unit) => trim_nat s2
  obtain ⟨V, hV⟩ : ∃ V, V = n1 * n2 := ⟨_, rfl⟩
  rw [← hV]
  have HV : Hid _ := hV
  clear hV
  go_enter Oafg.func91, Oafg.ntmps91
  go_upto_region 2 with (first
    | (go_at_call_of 136 (v1); refine (T1.out ()).mono ?_; rintro e w1 ⟨⟨u1, rfl, hN1⟩, hw1⟩; subst hw1)
    | (go_at_call_of 136 (v2); refine (T2.out ()).mono ?_; rintro e w1 ⟨⟨u2, rfl, hN2⟩, hw2⟩; subst hw2))
  obtain ⟨ad1, cap1, xs, rfl, hs1, hl1, hlen1⟩ := hN1.few b1
  obtain ⟨ad2, cap2, ys, rfl, hs2, hl2, hlen2⟩ := hN2.few b2
  obtain ⟨la, hla⟩ : ∃ la, la = xs.length := ⟨_, rfl⟩
  obtain ⟨lb, hlb⟩ : ∃ lb, lb = ys.length := ⟨_, rfl⟩
  have hB : Below w1.heap.size w1 w1 := Below.refl _ _
  obtain ⟨w2, hmk, hown⟩ := mkOwn w1 w1 (la + lb) (by omega) hB
  have hmk' : (Instr.makeSlice 64 (.int .i64 ((la : Int) + (lb : Int))) (.int .i64 ((la : Int) + (lb : Int)))).run Oafg.prog w1 = .ok (.slice (some ⟨w1.heap.size, 0, none⟩) ((la + lb : Nat)) ((la + lb : Nat))) w2 := hmk
  obtain ⟨R, hR⟩ : ∃ R, R = w1.heap.size := ⟨_, rfl⟩
  rw [← hR] at hmk' hown
  obtain ⟨lc, hlc⟩ : ∃ lc, lc = la + lb := ⟨_, rfl⟩
  rw [← hlc] at hmk'
  have H0 : Hid (MulO w1 w2 R xs ys 0) := by
    refine ⟨_, hown, by rw [List.length_replicate]; omega, by simp [lv_zeros, lv], fun t _ => getD_zeros _ _⟩
  have HS1 : Hid _ := hs1
  have HS2 : Hid _ := hs2
  have HL1 : Hid _ := hl1
  have HL2 : Hid _ := hl2
  have Hla : Hid _ := hla
  have Hlb : Hid _ := hlb
  rw [← hla] at hlen1 ⊢
  rw [← hlb] at hlen2 ⊢
  clear hs1 hs2 hl1 hl2 hN1 hN2 hown hB hmk hla hlb T1 T2 s1 s2 hR
  go_wp2
  go_loopw [21] (fun i wr => ∃ k : Nat, k ≤ la ∧ i = .int .i64 k ∧ Hid (MulO w1 wr R xs ys k)) (fun i _ => la - (intOf i).toNat)
  case atStart => exact ⟨0, Nat.zero_le _, rfl, H0⟩
  case round =>
    obtain ⟨k, hk, rfl, hM⟩ := hrel
    by_cases c : k < la
    · have hI : Hid _ := hM.out.inner
      have hkl : k < xs.length := by have := Hla.out; omega
      obtain ⟨x, hx⟩ : ∃ x, x = xs.getD k 0 := ⟨_, rfl⟩
      have Hx : Hid _ := hx
      clear hM hx
      go_wp2
      obtain ⟨wo, rfl⟩ : ∃ wo : World, wo = wr := ⟨_, rfl⟩
      go_loopw [26, 7] (fun j cy wr => ∃ l carry : Nat, l ≤ lb ∧ j = .int .i64 l ∧ cy = .int .u64 carry ∧ carry < 4294967296 ∧ Hid (MulI w1 wr R xs ys k l carry)) (fun j _ _ => lb - (intOf j).toNat)
      case atStart => exact ⟨0, 0, Nat.zero_le _, rfl, rfl, by decide, hI⟩
      case round =>
        obtain ⟨l, carry, hl, rfl, rfl, hcy, hm⟩ := hrel
        by_cases d : l < lb
        · obtain ⟨b1', off1, x', rfl, hx1, hx2, hcx⟩ := HS1.out.now hm.out.below k hkl
          obtain ⟨b2', off2, y, rfl, hy1, hy2, hcy2⟩ := HS2.out.now hm.out.below l (by have := Hlb.out; omega)
          obtain ⟨c0, hc0, hcell, hfz, hnext⟩ := hm.out.step hkl (by have := Hlb.out; omega)
          rw [← hx1, ← hy1] at hnext
          have hbd := mul_bd x' y c0 carry hx2 hy2 hc0 hcy
          have hN := fun m => hnext m _ rfl
          obtain ⟨p, hp⟩ : ∃ p, p = x' * y := ⟨_, rfl⟩
          rw [← hp] at hbd
          simp only [← hp] at hN
          obtain ⟨T, hT⟩ : ∃ T, T = carry + (p + c0) := ⟨_, rfl⟩
          rw [← hT] at hbd
          simp only [← hT] at hN
          obtain ⟨hb1, hb2⟩ := hbd
          obtain ⟨r, hr⟩ : ∃ r, r = T % 4294967296 := ⟨_, rfl⟩
          obtain ⟨q, hq⟩ : ∃ q, q = T / 4294967296 := ⟨_, rfl⟩
          simp only [← hr, ← hq] at hN
          rw [← hq] at hb2
          have f1 : (x' : Int) * (y : Int) = (p : Int) := by rw [hp]; simp
          have f3 : (carry : Int) + ((p : Int) + (c0 : Int)) = (T : Int) := by omega
          have f4 : IntKind.u32.wrap (T : Int) = (r : Int) := by rw [IntKind.wrap_u32]; omega
          have f5 : (T : Int) / 4294967296 = (q : Int) := by omega
          have hp2 : p < 18446744073709551616 := by omega
          have hp3 : p + c0 < 18446744073709551616 := by omega
          have HN : Hid _ := hN
          clear hnext hx1 hy1 hm hp hT hr hq hN
          go_wp2
          go_quiet (fail)
          go_wp2
          go_roundw
          case rel => exact ⟨l + 1, q, by omega, by go_num, rfl, hb2, HN.out nq⟩
          case measure => simp [intOf]; omega
        · obtain rfl : l = lb := by omega
          have hm' := hm.out
          rw [Hlb.out] at hm'
          obtain ⟨⟨hc1, hc2⟩, hO⟩ := hm'.last hkl hcy
          rw [← Hlb.out] at hc1 hc2 hO
          have HO : Hid _ := hO
          clear hO hm' hm
          go_wp2
          go_roundw
          case rel => exact ⟨k + 1, by omega, by go_num, HO⟩
          case measure => simp [intOf]; omega
    · obtain rfl : k = la := by omega
      obtain ⟨cs, ho, hlc2, hval, _⟩ := hM.out.out
      have htr := trim_own ho (by have := Hla.out; have := Hlb.out; omega)
      rw [hlc2, ← Hla.out, ← Hlb.out, hval, Hla.out, List.take_length, HL1.out, HL2.out, ← HV.out, ← Hla.out] at htr
      have HTR : Hid _ := fun (_ : Unit) => htr
      clear htr hval hlc2 ho hM
      go_wp2_with (go_at_call 136; refine (HTR.out ()).mono ?_; rintro e w3 ⟨⟨v, rfl, hN⟩, hb⟩)
      go_ret
      exact ⟨⟨v, rfl, hN⟩, hb⟩
end Go.Proofs.Ygcoaf
