/-
  DECIMALS: Dec.Ok of a canonical one; exact.pow10, whole, OfDec.
-/
import Derived.Test.YgcoafS1
import Derived.Test.YgcoafX8
namespace Go.Proofs.Ygcoaf
open Go.RowKit Go.Proofs.Ygcoaf.M

/-- a canonical decimal's digits and exponent -/
structure Canon (s : ByteArray) (x : Int) : Prop where
  few : s.size ≤ 800
  digs : Digs s
  zero : s.size = 0 → x = 0
  ends : s.size ≠ 0 → byt s 0 ≠ 48 ∧ byt s (s.size - 1) ≠ 48
  exp : -2000 ≤ x ∧ x ≤ 2000

set_option maxRecDepth 8000 in
/-- dec.Dec.Ok of a canonical decimal -/
theorem decOk_yes {s : ByteArray} {x : Int} (h : Canon s x) (neg : Bool) (w : World) :
    Calls Oafg.prog 93 #[.agg #[.bool neg, .string s, .int .i16 x]] w fun e w' => e = .returned (.bool true) ∧ Below w.heap.size w w' := by
  have hx := h.exp
  by_cases hz : s.size = 0
  · have hx0 := h.zero hz
    subst hx0
    have tz : ((s.size : Int) == 0) = true := by rw [hz]; rfl
    clear h
    go_enter Oafg.func93, Oafg.ntmps93
    go_wp2
    go_ret
    exact ⟨rfl, self1⟩
  · obtain ⟨n, hn⟩ : ∃ n, s.size = n + 1 := ⟨s.size - 1, by omega⟩
    obtain ⟨e0, e1⟩ := h.ends hz
    rw [hn, Nat.add_sub_cancel] at e1
    have hf := h.few
    have HD : Hid _ := h.digs
    have g0 := byt_get s 0 (by omega)
    have g1 := byt_get s n (by omega)
    have tz : ((s.size : Int) == 0) = false := by rw [beq_eq_false_iff_ne]; omega
    have hn1 : n < s.size := by omega
    have hn0 : 0 < s.size := by omega
    have t0 : (((s[0]'hn0).toNat : Int) == 48) = false := by rw [beq_eq_false_iff_ne, g0]; omega
    have t1 : (((s[n]'hn1).toNat : Int) == 48) = false := by rw [beq_eq_false_iff_ne, g1]; omega
    have t2 : ¬ ((s[0]'hn0).toNat : Int) = 48 := by rw [g0]; omega
    have t3 : ¬ ((s[n]'hn1).toNat : Int) = 48 := by rw [g1]; omega
    have fn : (s.size : Int) - 1 = (n : Int) := by omega
    have Hn : Hid _ := hn
    clear h hz g0 g1 e0 e1 hn
    go_enter Oafg.func93, Oafg.ntmps93
    go_wp2
    go_loop [4] (fun i => ∃ k : Nat, k ≤ s.size ∧ i = .int .i64 k) (fun i => s.size - (intOf i).toNat)
    case atStart => exact ⟨0, Nat.zero_le _, rfl⟩
    case round =>
      obtain ⟨k, hk, rfl⟩ := hrel
      by_cases c : k < s.size
      · have gk := byt_get s k c
        have hb := HD.out k c
        have a1 : ¬ ((s[k]'c).toNat : Int) < 48 := by omega
        have a2 : ¬ (57 : Int) < ((s[k]'c).toNat : Int) := by omega
        have a3 : ¬ (s[k]'c).toNat < 48 := by omega
        have a4 : ¬ 57 < (s[k]'c).toNat := by omega
        clear gk hb
        go_wp2
        go_round
        case rel => exact ⟨k + 1, by omega, by go_num⟩
        case measure => simp [intOf]; omega
      · obtain rfl : k = s.size := by omega
        go_wp2
        go_ret
        refine ⟨?_, self1⟩
        simp [t2, t3]

/-- exact.pow10 -/
theorem epow10_nat {w : World} (k : Nat) (hk : k ≤ 60000) :
    Calls Oafg.prog 166 #[.int .i64 k] w fun e w' => (∃ v, e = .returned v ∧ NatV w' v (10 ^ k)) ∧ Below w.heap.size w w' := by
  have hv : 5 ^ k * 2 ^ k = 10 ^ k := by rw [← Nat.mul_pow]
  have T1 : Hid _ := fun ww => pow5_nat (w := ww) k (by omega)
  have hb5 : bl (5 ^ k) ≤ 1000000 := by have := bl_pow5 k; omega
  have T3 : Hid _ := fun ww (v : Value) (h : NatV ww v (5 ^ k)) => shl_nat k hk h hb5
  rw [hv] at T3
  clear hv hb5
  have hk2 : k < 65536 := by omega
  go_enter Oafg.func166, Oafg.ntmps166
  go_wp2_with (first
    | (go_at_call 184; refine (T1.out _).mono ?_; rintro e' w1 ⟨⟨v1, rfl, hN1⟩, hb1⟩; have HN1 : Hid _ := hN1; have HB1 : Hid _ := hb1; clear hN1 hb1)
    | (go_at_call 146; refine (T3.out _ _ HN1.out).mono ?_; rintro e' w3 ⟨⟨v3, rfl, hN3⟩, hb3⟩; have HN3 : Hid _ := hN3; have HB3 : Hid _ := hb3; clear hN3 hb3))
  go_ret
  exact ⟨⟨_, rfl, HN3.out⟩, bt HB1.out HB3.out⟩

/-- exact.whole -/
theorem ewhole_nat {w : World} {v : Value} {n : Nat} (neg : Bool) (s : NatV w v n) :
    Calls Oafg.prog 164 #[.bool neg, v] w fun e w' => (∃ v1 v2, e = .returned (.agg #[.bool neg, v1, v2]) ∧ NatV w' v1 n ∧ NatV w' v2 1) ∧ Below w.heap.size w w' := by
  obtain ⟨ad, l, c, rfl⟩ := s.sl
  have HS : Hid _ := s.call (self1 (o := .cells #[.bool false, .slice none 0 0, .slice none 0 0] 66))
  have T : Hid _ := fun ww => fromU64_any 1 (by decide) ww
  clear s
  go_enter Oafg.func164, Oafg.ntmps164
  go_wp2_with (go_at_call 86; refine (T.out _).mono ?_; rintro e' w1 ⟨⟨v2, rfl, hN⟩, hb1⟩; obtain ⟨ad2, l2, c2, rfl⟩ := hN.sl; obtain ⟨⟨k0, k1, k2⟩, k3, k4, k5⟩ := kept3 hb1; have HN : Hid _ := hN; have HB1 : Hid _ := hb1; clear hN hb1)
  refine bodyPost_ret (v := .agg #[.bool neg, .slice ad l c, .slice ad2 l2 c2]) (by simp [results, Oafg.results164, go_sem, k0, k1, k2]) rfl ⟨⟨_, _, rfl, ?_, ?_⟩, ?_⟩
  · exact (HS.out.call HB1.out).set3 _ _ _ k0 k1 k2 (fun x => by simp) (fun x => by simp) (fun x => by simp)
  · exact HN.out.set3 _ _ _ k0 k1 k2 (fun x => by simp) (fun x => by simp) (fun x => by simp)
  · exact below_set3 _ _ _ (below1 HB1.out) (Nat.le_refl _)
end Go.Proofs.Ygcoaf
