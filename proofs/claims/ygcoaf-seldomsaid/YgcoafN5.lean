/-
  nat.width32, BitLen.
-/
import Derived.Test.YgcoafN4
import Derived.Deep.DeepCutAuto
namespace Go.Proofs.Ygcoaf
open Go.RowKit

/-- the number of significant bits -/
def bl (n : Nat) : Nat := if n = 0 then 0 else n.log2 + 1
theorem bl_half (n : Nat) (h : n ≠ 0) : bl n = bl (n / 2) + 1 := by
  unfold bl
  rw [if_neg h, Nat.log2_def]
  by_cases c : 2 ≤ n
  · rw [if_pos c, if_neg (by omega)]
  · rw [if_neg c, if_pos (by omega)]
theorem bl_le (n k : Nat) (h : n < 2 ^ k) : bl n ≤ k := by
  unfold bl
  by_cases c : n = 0
  · simp [c]
  · rw [if_neg c]; have := (Nat.log2_lt c).2 h; omega
theorem bl_top (q r k : Nat) (hq : q ≠ 0) (hr : r < 2 ^ k) : bl (r + 2 ^ k * q) = k + bl q := by
  unfold bl
  have h2 : 0 < 2 ^ k * q := Nat.mul_pos (Nat.two_pow_pos k) (Nat.pos_of_ne_zero hq)
  rw [if_neg (by omega), if_neg hq]
  have : (r + 2 ^ k * q).log2 = k + q.log2 := by
    rw [Nat.log2_eq_iff (by omega)]
    have a := Nat.log2_self_le hq
    have b := Nat.lt_log2_self (n := q)
    constructor
    · rw [Nat.pow_add]; exact Nat.le_trans (Nat.mul_le_mul_left _ a) (Nat.le_add_left _ _)
    · rw [show k + q.log2 + 1 = k + (q.log2 + 1) from by omega, Nat.pow_add]
      calc r + 2 ^ k * q < 2 ^ k + 2 ^ k * q := by omega
        _ = 2 ^ k * (q + 1) := by rw [Nat.mul_succ]; omega
        _ ≤ _ := Nat.mul_le_mul_left _ b
  omega

theorem eqNil (w : World) (a : Option Addr) (n c : Nat) : (binOp .eql 64 (.slice a n c) (.slice none 0 0)).run Oafg.prog w = .ok (.bool a.isNone) w := Lib.run_eql_slice_nil w _ _ a n c 0 0 Oafg.underlying64
theorem neNil (w : World) (a : Option Addr) (n c : Nat) : (binOp .neq 64 (.slice a n c) (.slice none 0 0)).run Oafg.prog w = .ok (.bool (!a.isNone)) w := run_neq_slice_nil_any w _ _ a n c 0 0 Oafg.underlying64

/-- nat.width32 -/
theorem width32_any (x : Nat) (hx : x < 4294967296) (w : World) :
    Calls Oafg.prog 183 #[.int .u32 x] w fun e w' => e = .returned (.int .i64 (bl x : Nat)) ∧ w' = w := by
  have hbl : bl x ≤ 32 := bl_le x 32 (by simpa using hx)
  obtain ⟨m, hm⟩ : ∃ m, m = bl x := ⟨_, rfl⟩
  rw [← hm] at hbl ⊢
  have HM : Hid _ := hm
  clear hm
  go_enter Oafg.func183, Oafg.ntmps183
  go_wp2
  go_loop [0, 3] (fun y n => ∃ z k : Nat, z ≤ x ∧ y = .int .u32 z ∧ n = .int .i64 k ∧ k ≤ m ∧ Hid (m = k + bl z)) (fun y _ => (intOf y).toNat)
  case atStart => exact ⟨x, 0, Nat.le_refl _, rfl, rfl, Nat.zero_le _, by show m = 0 + bl x; rw [Nat.zero_add]; exact HM.out⟩
  case round =>
    obtain ⟨z, k, hz, rfl, rfl, hk, hv⟩ := hrel
    by_cases c : z = 0
    · subst c
      go_wp2
      go_ret
      have := hv.out
      exact ⟨by rw [this]; simp [bl], rfl⟩
    · have hzb : ((z : Int) == 0) = false := by rw [beq_eq_false_iff_ne]; omega
      have hn : Hid (m = (k + 1) + bl (z / 2)) := by have a := hv.out; have b := bl_half z c; show m = _; omega
      have hk1 : k + 1 ≤ m := by have a := hv.out; have b := bl_half z c; omega
      clear hv
      go_wp2
      go_round
      case rel => exact ⟨z / 2, k + 1, by omega, by simp, by go_num, hk1, hn⟩
      case measure => simp [intOf]; omega

theorem limb_pow (k : Nat) : 4294967296 ^ k = 2 ^ (32 * k) := by rw [show 4294967296 = 2 ^ 32 from by decide, ← Nat.pow_mul]

/-- a list's top limb -/
theorem lv_top (xs : List Nat) (j : Nat) (h : xs.length = j + 1) : lv xs = lv (xs.take j) + 2 ^ (32 * j) * xs.getD j 0 := by
  have := lv_take_succ xs j (by omega)
  rw [← h, List.take_length, limb_pow] at this
  exact this
theorem Lim.take {xs : List Nat} (h : Lim xs) (k : Nat) : Lim (xs.take k) := fun i hi => by
  rw [List.length_take] at hi
  have hk : i < k := by omega
  have := h i (by omega)
  simpa [List.getD_eq_getElem?_getD, hk] using this
theorem lv_take_lt (xs : List Nat) (j : Nat) (h : Lim xs) (hj : j ≤ xs.length) : lv (xs.take j) < 2 ^ (32 * j) := by
  have := lv_lt _ (h.take j)
  rw [List.length_take, Nat.min_eq_left hj, limb_pow] at this
  exact this

/-- nat.BitLen -/
theorem bitLen_any {w : World} {v : Value} {n : Nat} (s : NatV w v n) :
    Calls Oafg.prog 132 #[v] w fun e w' => e = .returned (.int .i64 (bl n : Nat)) ∧ w' = w := by
  have T := trim_nat s
  have HT : Hid _ := fun (_ : Unit) => T
  clear T
  have qE := eqNil
  by_cases hn : n = 0
  · subst hn
    go_enter Oafg.func132, Oafg.ntmps132
    go_wp2_with (go_at_call 136; refine (HT.out ()).mono ?_; rintro e w1 ⟨⟨v', rfl, hN⟩, rfl⟩; obtain rfl := hN.zero)
    go_ret
    exact ⟨rfl, rfl⟩
  · obtain ⟨V, hV⟩ : ∃ V, V = bl n := ⟨_, rfl⟩
    rw [← hV]
    have HV : Hid _ := hV
    clear hV
    go_enter Oafg.func132, Oafg.ntmps132
    go_upto_region 2 with (go_at_call 136; refine (HT.out ()).mono ?_; rintro e w1 ⟨⟨v', rfl, hN⟩, rfl⟩; obtain ⟨b, off, cap, xs, rfl, hs, hl, hne, htop, hcap⟩ := hN.pos hn)
    obtain ⟨j, hj⟩ : ∃ j, xs.length = j + 1 := ⟨xs.length - 1, by have := List.length_pos_iff.2 hne; omega⟩
    rw [hj] at htop
    simp only [Nat.add_sub_cancel] at htop
    have ht := lv_top xs j hj
    have hlt := lv_take_lt xs j hs.lim (by omega)
    have hlim := hs.lim j (by omega)
    have hfit := hs.fits
    obtain ⟨b', off', e, hc⟩ := hs.cell j (by omega)
    cases e
    obtain ⟨t, hte⟩ : ∃ t, t = xs.getD j 0 := ⟨_, rfl⟩
    rw [← hte] at htop ht hlim hc
    have hans : V = 32 * j + bl t := by
      rw [HV.out, ← hl, ht]; exact bl_top t _ _ htop hlt
    have hbt : bl t ≤ 32 := bl_le t 32 (by simpa using hlim)
    obtain ⟨bt', hbt'⟩ : ∃ bt', bt' = bl t := ⟨_, rfl⟩
    have W := width32_any t hlim w1
    rw [← hbt'] at hans hbt W
    have HW : Hid _ := fun (_ : Unit) => W
    have hj2 : j < 1099511627776 := by omega
    rw [hj]
    clear W hs hl ht hte hbt' HV hlt hne hj hfit
    go_wp2_with (go_at_call 183; refine (HW.out ()).mono ?_; rintro e w2 ⟨rfl, rfl⟩)
    go_ret
    exact ⟨ret_int (by omega), rfl⟩
end Go.Proofs.Ygcoaf
