/-
  DIGITS: exact.ofDigits.
-/
import Derived.Test.YgcoafN19
import Derived.Test.YgcoafX7
namespace Go.Proofs.Ygcoaf
open Go.RowKit Go.Proofs.Ygcoaf.M

/-- the byte at i, as a number -/
def byt (s : ByteArray) (i : Nat) : Nat := (s.data.getD i 0).toNat
/-- the number that the first k digits spell -/
def dgv (s : ByteArray) : Nat → Nat
  | 0 => 0
  | k + 1 => 10 * dgv s k + (byt s k - 48)
/-- digits only -/
def Digs (s : ByteArray) : Prop := ∀ i, i < s.size → 48 ≤ byt s i ∧ byt s i ≤ 57

theorem byt_get (s : ByteArray) (i : Nat) (h : i < s.size) : (s[i]'h).toNat = byt s i := by
  unfold byt
  have h' : i < s.data.size := h
  rw [Array.getD_eq_getD_getElem?, Array.getElem?_eq_getElem h']
  rfl

theorem dgv_lt (s : ByteArray) (hd : Digs s) : ∀ k, k ≤ s.size → dgv s k < 2 ^ (4 * k + 1)
  | 0, _ => by simp [dgv]
  | k + 1, h => by
    have ih := dgv_lt s hd k (by omega)
    have hb := hd k (by omega)
    have hp : 1 ≤ 2 ^ (4 * k) := Nat.one_le_two_pow
    rw [dgv, show 4 * (k + 1) + 1 = 4 * k + 1 + 4 from by omega, Nat.pow_add 2 (4 * k + 1)]
    rw [Nat.pow_succ] at ih ⊢
    omega

set_option maxRecDepth 8000 in
/-- exact.ofDigits -/
theorem ofDigits_nat {w : World} (s : ByteArray) (hd : Digs s) (hs : s.size ≤ 800) :
    Calls Oafg.prog 165 #[.string s] w fun e w' => (∃ v, e = .returned v ∧ NatV w' v (dgv s s.size)) ∧ Below w.heap.size w w' := by
  have HD : Hid _ := hd
  clear hd
  go_enter Oafg.func165, Oafg.ntmps165
  go_wp2
  go_loopw [3, 4] (fun n i wr => ∃ k : Nat, k ≤ s.size ∧ i = .int .i64 k ∧ Hid (NatV wr n (dgv s k)) ∧ Below w.heap.size w wr) (fun _ i _ => s.size - (intOf i).toNat)
  case atStart => exact ⟨0, Nat.zero_le _, rfl, natV_nil _, Below.refl _ _⟩
  case round =>
    obtain ⟨k, hk, rfl, hM, hb⟩ := hrel
    by_cases c : k < s.size
    · go_wp2
      go_loop [4, 5, 6, 7] (fun i v p j => ∃ t a b : Nat, t ≤ 9 ∧ k + t ≤ s.size ∧ i = .int .i64 ((k + t : Nat) : Int) ∧ v = .int .u64 a ∧ p = .int .u64 b ∧ j = .int .i64 t ∧ a < b ∧ b ≤ 1000000000 ∧ Hid (dgv s (k + t) = dgv s k * b + a ∧ b = 10 ^ t) ∧ Hid (t = 0 → k < s.size)) (fun _ _ _ j => 9 - (intOf j).toNat)
      case atStart => exact ⟨0, 0, 1, by decide, by omega, rfl, rfl, rfl, rfl, by decide, by decide, ⟨by simp, rfl⟩, fun _ => c⟩
      case round =>
        obtain ⟨t, a, b, ht, hkt, rfl, rfl, rfl, rfl, hab, hb9, hv, hpos⟩ := hrel
        by_cases d : t < 9 ∧ k + t < s.size
        · obtain ⟨d1, d2⟩ := d
          go_wp2
          have hg := byt_get s (k + t) d2
          have hdd := HD.out (k + t) d2
          have hn : Hid (dgv s (k + (t + 1)) = dgv s k * (b * 10) + (10 * a + (byt s (k + t) - 48)) ∧ b * 10 = 10 ^ (t + 1)) := by
            obtain ⟨v1, v2⟩ := hv.out
            refine ⟨?_, by rw [v2, Nat.pow_succ]⟩
            show 10 * dgv s (k + t) + (byt s (k + t) - 48) = _
            rw [v1]
            generalize byt s (k + t) - 48 = y
            generalize dgv s k = z
            grind
          have hb10 : b * 10 ≤ 1000000000 := by
            have : 10 ^ t ≤ 10 ^ 8 := Nat.pow_le_pow_right (by decide) (by omega)
            have h2 := hv.out.2
            omega
          go_round
          case rel => exact ⟨t + 1, 10 * a + (byt s (k + t) - 48), b * 10, by omega, by omega, by go_num, by congr 1; rw [hg]; omega, by go_num, by go_num, by omega, hb10, hn, fun h => by omega⟩
          case measure => simp [intOf]; omega
        · have hF1 : Hid _ := fun ww => fromU64_any b (by omega) ww
          have hF2 : Hid _ := fun ww => fromU64_any a (by omega) ww
          have hbk : bl (dgv s k) ≤ 5000 := Nat.le_trans (bl_le _ (4 * k + 1) (dgv_lt s HD.out k (by omega))) (by omega)
          have hbb : bl b ≤ 64 := bl_le b 64 (by omega)
          have hba : bl a ≤ 64 := bl_le a 64 (by omega)
          have hbm : bl (dgv s k * b) ≤ 1000000 := by have := bl_mul (dgv s k) b; omega
          have hMU : Hid (∀ ww (v1 v2 : Value), NatV ww v1 (dgv s k) → NatV ww v2 b → Calls Oafg.prog 91 #[v1, v2] ww fun e w' => (∃ v, e = .returned v ∧ NatV w' v (dgv s k * b)) ∧ Below ww.heap.size ww w') := fun ww v1 v2 n1 n2 => mul_nat n1 n2 (by omega) (by omega)
          have hAD : Hid (∀ ww (v1 v2 : Value), NatV ww v1 (dgv s k * b) → NatV ww v2 a → Calls Oafg.prog 192 #[v1, v2] ww fun e w' => (∃ v, e = .returned v ∧ NatV w' v (dgv s (k + t))) ∧ Below ww.heap.size ww w') := fun ww v1 v2 n1 n2 => by
            rw [hv.out.1]; exact add_nat n1 n2 hbm (by omega)
          have htp : 0 < t := by
            have := hpos.out
            omega
          clear hbk hbb hba hbm hv hpos
          go_upto_region 11 with fail
          all_goals
            go_wp2_with (first
              | (go_at_call_of 86 (Value.int .u64 b); refine (hF1.out _).mono ?_; rintro e w1 ⟨⟨u1, rfl, hN1⟩, hb1⟩; have HN1 : Hid _ := hN1; have HB1 : Hid _ := hb1; clear hN1 hb1)
              | (go_at_call 91; refine (hMU.out _ _ _ (hM.out.call HB1.out) HN1.out).mono ?_; rintro e w2 ⟨⟨u2, rfl, hN2⟩, hb2⟩; have HN2 : Hid _ := hN2; have HB2 : Hid _ := hb2; clear hN2 hb2)
              | (go_at_call_of 86 (Value.int .u64 a); refine (hF2.out _).mono ?_; rintro e w3 ⟨⟨u3, rfl, hN3⟩, hb3⟩; have HN3 : Hid _ := hN3; have HB3 : Hid _ := hb3; clear hN3 hb3)
              | (go_at_call 192; refine (hAD.out _ _ _ (HN2.out.call HB3.out) HN3.out).mono ?_; rintro e w4 ⟨⟨u4, rfl, hN4⟩, hb4⟩; have HN4 : Hid _ := hN4; have HB4 : Hid _ := hb4; clear hN4 hb4))
            go_roundw
            case rel => exact ⟨k + t, hkt, by go_num, HN4, bt (bt (bt (bt hb HB1.out) HB2.out) HB3.out) HB4.out⟩
            case measure => simp [intOf]; omega
    · obtain rfl : k = s.size := by omega
      go_wp2
      go_ret
      exact ⟨⟨_, rfl, hM.out⟩, hb⟩
end Go.Proofs.Ygcoaf
