/-
  slow.quotient, the walk up to the division.
-/
import Derived.Test.YgcoafT12
import Derived.Test.YgcoafY3
import Derived.Test.YgcoafT9
namespace Go.Proofs.Ygcoaf
open Go.RowKit Go.Proofs.Ygcoaf.M

theorem and_i64_63 (z : Int) : ∃ l : Nat, l ≤ 63 ∧ bits .and .i64 z 63 = (l : Int) := by
  refine ⟨(BitVec.ofInt 64 z &&& BitVec.ofInt 64 63).toNat, ?_, ?_⟩
  · rw [BitVec.toNat_and]; exact Nat.le_trans Nat.and_le_right (by decide)
  · have h : (BitVec.ofInt 64 z &&& BitVec.ofInt 64 63).toNat ≤ 63 := by rw [BitVec.toNat_and]; exact Nat.le_trans Nat.and_le_right (by decide)
    show IntKind.i64.wrap ((BitVec.ofInt 64 z &&& BitVec.ofInt 64 63).toNat : Int) = _
    generalize (BitVec.ofInt 64 z &&& BitVec.ofInt 64 63).toNat = t at *
    simp [IntKind.wrap, IntKind.bits, IntKind.signed]; omega

theorem bits_P {w : World} {R N p : Nat} (b : BigV w R N) (h : bl N = p) :
    Calls Oafg.prog 157 #[.pointer (some ⟨R, 0, none⟩)] w fun e w' => e = .returned (.int .i64 (p : Nat)) ∧ Below w.heap.size w w' := by rw [← h]; exact bits_V b
theorem less_P {w : World} {R S N P : Nat} {d : Bool} (b1 : BigV w R N) (b2 : BigV w S P) (h : decide (N < P) = d) :
    Calls Oafg.prog 159 #[.pointer (some ⟨R, 0, none⟩), .pointer (some ⟨S, 0, none⟩)] w fun e w' => e = .returned (.bool d) ∧ Below w.heap.size w w' := by rw [← h]; exact less_V b1 b2
theorem bl_shl2 {N p k : Nat} (h : bl N = p) (h0 : N ≠ 0) : bl (N * 2 ^ k) = p + k := by rw [bl_shift _ _ h0, h]
theorem bl_fit {N p k : Nat} (h : bl N = p) (hk : p + k ≤ 3328) : N * 2 ^ k < 18446744073709551616 ^ 52 := fit52 (by rw [← h]; exact bl_hi N) hk

theorem isZero_P {w : World} {R n : Nat} {xs : List Nat} {z : Bool} (b : Big w R n xs) (h : decide (lw xs = 0) = z) :
    Calls Oafg.prog 163 #[.pointer (some ⟨R, 0, none⟩)] w fun e w' => e = .returned (.bool z) ∧ w' = w := by rw [← h]; exact isZero_any b

/-- brought to one width -/
structure QA (w wr : World) (R S X Y : Nat) (ex : Int) (a b : Nat) : Prop where
  qs : QS w wr R S (X * 2 ^ a) (Y * 2 ^ b)
  ex : ex = (b : Int) - a
  ha : a ≤ 3000
  hb : b ≤ 3000

/-- the answer -/
structure Quo (X Y a b q r sg : Nat) : Prop where
  eq : X * 2 ^ a = q * (Y * 2 ^ b) + r
  lt : r < Y * 2 ^ b
  lo : 9223372036854775808 ≤ q
  hi : q < 18446744073709551616
  sg : sg = if r = 0 then q else q ||| 1
  ha : a ≤ 3200
  hb : b ≤ 3200

set_option maxRecDepth 8000 in
set_option maxHeartbeats 2000000 in
/-- slow.quotient -/
theorem quotient_V {w0 w : World} {R S X Y : Nat} (hq : QS w0 w R S X Y) (hne : R ≠ S) (hR : w0.heap.size ≤ R) (hS : w0.heap.size ≤ S) (hX : X ≠ 0) (hY : Y ≠ 0) (hXb : X < 2 ^ 2800) (hYb : Y < 2 ^ 2800) :
    Calls Oafg.prog 98 #[.pointer (some ⟨R, 0, none⟩), .pointer (some ⟨S, 0, none⟩)] w fun e w' => ∃ sg a b q r : Nat, e = .returned (.tuple #[.int .u64 sg, .int .i64 ((b : Int) - (a : Int))]) ∧ Quo X Y a b q r sg ∧ Below w0.heap.size w0 w' := by
  have hp0 : bl X ≤ 2800 := bl_le _ _ hXb
  have hr0 : bl Y ≤ 2800 := bl_le _ _ hYb
  obtain ⟨p, hp⟩ : ∃ p, bl X = p := ⟨_, rfl⟩
  obtain ⟨r, hr⟩ : ∃ r, bl Y = r := ⟨_, rfl⟩
  rw [hp] at hp0
  rw [hr] at hr0
  obtain ⟨ex, hex⟩ : ∃ ex : Int, (p : Int) - (r : Int) = ex := ⟨_, rfl⟩
  have HQ : Hid _ := hq
  have Hp : Hid _ := hp
  have Hr : Hid _ := hr
  have HX : Hid _ := hX
  have HY : Hid _ := hY
  clear hq hp hr hX hY hXb hYb
  go_enter Oafg.func98, Oafg.ntmps98
  go_upto_if 19 with (first
    | (go_at_call 157; have hq9 := (HQ.out.call hb1).by'; refine (bits_P hq9 Hr.out).mono ?_; clear hq9; rintro e w2 ⟨rfl, hb2⟩)
    | (go_at_call 157; refine (bits_P HQ.out.bx Hp.out).mono ?_; rintro e w1 ⟨rfl, hb1⟩))
  have HQ2 : Hid (QS w0 w2 R S X Y) := (HQ.out.call hb1).call hb2
  clear hb1 hb2 HQ
  have Hex : Hid _ := hex
  clear hex
  go_cut [] (fun w' => ∃ a b : Nat, Hid (QA w0 w' R S X Y ex a b ∧ bl (X * 2 ^ a) = max p r ∧ bl (Y * 2 ^ b) = max p r ∧ (a ≤ 2800 ∧ b ≤ 2800)))
  case first =>
    rcases (show (∃ k : Nat, ex = -(k : Int) ∧ p + k = r ∧ k ≠ 0) ∨ (∃ k : Nat, ex = (k : Int) ∧ r + k = p) by
      have := Hex.out
      by_cases h : p < r
      · exact Or.inl ⟨r - p, by omega, by omega, by omega⟩
      · exact Or.inr ⟨p - r, by omega, by omega⟩) with ⟨k, rfl, hk, hk0⟩ | ⟨k, rfl, hk⟩
    · have hk1 : k ≤ 2800 := by omega
      have t1 : -(k : Int) < 0 := by omega
      have Hfin : Hid (∀ w', BigV w' R (X * 2 ^ k) → Only R w2 w' → QA w0 w' R S X Y (-(k : Int)) k 0 ∧ bl (X * 2 ^ k) = max p r ∧ bl (Y * 2 ^ 0) = max p r ∧ (k ≤ 2800 ∧ 0 ≤ 2800)) := fun w' b o => by
        refine ⟨⟨?_, by omega, by omega, by omega⟩, by rw [bl_shl2 Hp.out HX.out]; omega, by rw [Nat.pow_zero, Nat.mul_one, Hr.out]; omega, hk1, by omega⟩
        rw [Nat.pow_zero, Nat.mul_one]
        exact HQ2.out.onX hne hR b o
      have HC : Hid _ := fun (_ : Unit) => shl_V HQ2.out.bx k (by omega) (bl_fit Hp.out (by omega))
      clear HQ2 hk hk0
      go_wp2_with (go_at_call 158; refine (HC.out ()).mono ?_; rintro e w3 ⟨⟨v, rfl⟩, hb3, hO3⟩)
      go_meet
      case rel => exact ⟨k, 0, Hfin.out _ hb3 hO3⟩
    · have hk1 : k ≤ 2800 := by omega
      have t1 : ¬ ((k : Int) < 0) := by omega
      have Hfin : Hid (∀ w', BigV w' S (Y * 2 ^ k) → Only S w2 w' → QA w0 w' R S X Y (k : Int) 0 k ∧ bl (X * 2 ^ 0) = max p r ∧ bl (Y * 2 ^ k) = max p r ∧ (0 ≤ 2800 ∧ k ≤ 2800)) := fun w' b o => by
        refine ⟨⟨?_, by omega, by omega, by omega⟩, by rw [Nat.pow_zero, Nat.mul_one, Hp.out]; omega, by rw [bl_shl2 Hr.out HY.out]; omega, by omega, hk1⟩
        rw [Nat.pow_zero, Nat.mul_one]
        exact HQ2.out.onY hne hS b o
      have HC : Hid _ := fun (_ : Unit) => shl_V HQ2.out.by' k (by omega) (bl_fit Hr.out (by omega))
      clear HQ2 hk
      go_wp2_with (go_at_call 158; refine (HC.out ()).mono ?_; rintro e w3 ⟨⟨v, rfl⟩, hb3, hO3⟩)
      go_meet
      case rel => exact ⟨0, k, Hfin.out _ hb3 hO3⟩
  case rest =>
    obtain ⟨a, b, hH⟩ := hcut
    clear HQ2 Hex
    obtain ⟨hA, hbx, hby, ha, hb⟩ := hH.out
    obtain ⟨c, hc⟩ : ∃ c, decide (X * 2 ^ a < Y * 2 ^ b) = c := ⟨_, rfl⟩
    have hX1 : X * 2 ^ a ≠ 0 := Nat.mul_ne_zero HX.out (Nat.ne_of_gt (Nat.two_pow_pos _))
    have hY1 : Y * 2 ^ b ≠ 0 := Nat.mul_ne_zero HY.out (Nat.ne_of_gt (Nat.two_pow_pos _))
    have hY2 : Y * 2 ^ (b + 1) = 2 * (Y * 2 ^ b) := by rw [Nat.pow_succ]; grind
    have hm : max p r ≤ 2800 := by omega
    have s1 := bl_same (hbx.trans hby.symm) hX1
    have s2 := bl_same (hby.trans hbx.symm) hY1
    have he := hA.ex
    have he1 : -3000 ≤ ex ∧ ex ≤ 3000 := by omega
    have Hyes : Hid (c = true → ∀ w', QS w0 w' R S (X * 2 ^ a) (Y * 2 ^ b) → QA w0 w' R S X Y ex a b ∧ X * 2 ^ a < Y * 2 ^ b ∧ Y * 2 ^ b ≤ 2 * (X * 2 ^ a) ∧ bl (X * 2 ^ a) ≤ 2801 ∧ bl (Y * 2 ^ b) ≤ 2801 ∧ a ≤ 2801 ∧ b ≤ 2801) := fun h w' q => by
      rw [← hc, decide_eq_true_iff] at h
      exact ⟨⟨q, he, by omega, by omega⟩, h, by omega, by omega, by omega, by omega, by omega⟩
    have Hno : Hid (c = false → ∀ w', QS w0 w' R S (X * 2 ^ a) (Y * 2 ^ (b + 1)) → QA w0 w' R S X Y (ex + 1) a (b + 1) ∧ X * 2 ^ a < Y * 2 ^ (b + 1) ∧ Y * 2 ^ (b + 1) ≤ 2 * (X * 2 ^ a) ∧ bl (X * 2 ^ a) ≤ 2801 ∧ bl (Y * 2 ^ (b + 1)) ≤ 2801 ∧ a ≤ 2801 ∧ b + 1 ≤ 2801) := fun h w' q => by
      rw [← hc, decide_eq_false_iff_not] at h
      refine ⟨⟨q, by omega, by omega, by omega⟩, by omega, by omega, by omega, ?_, by omega, by omega⟩
      rw [bl_shl2 Hr.out HY.out]
      rw [bl_shl2 Hr.out HY.out] at hby
      omega
    have HC : Hid (∀ ww, QS w0 ww R S (X * 2 ^ a) (Y * 2 ^ b) → Calls Oafg.prog 158 #[.pointer (some ⟨S, 0, none⟩), .int .i64 ((1 : Nat) : Int)] ww fun e w' => (∃ v, e = .returned v) ∧ QS w0 w' R S (X * 2 ^ a) (Y * 2 ^ (b + 1))) := fun ww q => by
      refine (shl_V q.by' 1 (by omega) (bl_fit hby (by omega))).mono ?_
      rintro e w' ⟨he, hb, ho⟩
      refine ⟨he, q.onY hne hS ?_ ho⟩
      rw [Nat.mul_assoc, ← Nat.pow_add] at hb
      exact hb
    have HL : Hid _ := fun (_ : Unit) => less_P hA.qs.bx hA.qs.by' hc
    have HQ : Hid _ := hA.qs
    clear hH hA hbx hby hc s1 s2 he hY2 hm hX1 hY1
    go_upto_if 30 with (go_at_call 159; refine (HL.out ()).mono ?_; rintro e w4 ⟨rfl, hb4⟩)
    have HQ4 : Hid _ := HQ.out.call hb4
    clear HL HQ hb4
    go_cut [6] (fun t w' => ∃ (a b : Nat) (e2 : Int), t = .int .i64 e2 ∧ -3001 ≤ e2 ∧ e2 ≤ 3001 ∧ Hid (QA w0 w' R S X Y e2 a b ∧ X * 2 ^ a < Y * 2 ^ b ∧ Y * 2 ^ b ≤ 2 * (X * 2 ^ a) ∧ bl (X * 2 ^ a) ≤ 2801 ∧ bl (Y * 2 ^ b) ≤ 2801 ∧ a ≤ 2801 ∧ b ≤ 2801))
    case first =>
      cases c
      · clear Hyes
        go_wp2_with (go_at_call 158; refine (HC.out _ HQ4.out).mono ?_; rintro e w5 ⟨⟨v, rfl⟩, hb5⟩)
        go_meet
        case rel => exact ⟨a, b + 1, ex + 1, rfl, by omega, by omega, Hno.out (by trivial) _ hb5⟩
      · clear Hno HC
        go_wp2_with fail
        go_meet
        case rel => exact ⟨a, b, ex, rfl, by omega, by omega, Hyes.out (by trivial) _ HQ4.out⟩
    case rest =>
      clear HQ4 HC Hno Hyes
      clear ha hb he1 a b c ex
      obtain ⟨a, b, ex, rfl, he1, he2, hH⟩ := hcut
      obtain ⟨hA, g1, g2, g3, g4, g5, g6⟩ := hH.out
      obtain ⟨t, ht⟩ : ∃ t, bl (Y * 2 ^ b) = t := ⟨_, rfl⟩
      obtain ⟨s, hs⟩ : ∃ s, bl (X * 2 ^ a) = s := ⟨_, rfl⟩
      have ht2 : t ≤ 2801 := by rw [← ht]; exact g4
      have hs2 : s ≤ 2801 := by rw [← hs]; exact g3
      obtain ⟨lf, hlf, fl⟩ := and_i64_63 (-(t : Int))
      have hex := hA.ex
      have HB : Hid _ := fun (_ : Unit) => bits_P hA.qs.by' ht
      have HQ : Hid _ := hA.qs
      have HX1 : Hid (∀ ww, QS w0 ww R S (X * 2 ^ a) (Y * 2 ^ b) → Calls Oafg.prog 158 #[.pointer (some ⟨R, 0, none⟩), .int .i64 (lf : Int)] ww fun e w' => (∃ v, e = .returned v) ∧ QS w0 w' R S (X * 2 ^ (a + lf)) (Y * 2 ^ b)) := fun ww q => by
        refine (shl_V q.bx lf (by omega) (bl_fit hs (by omega))).mono ?_
        rintro e w' ⟨he, hb, ho⟩
        refine ⟨he, q.onX hne hR ?_ ho⟩
        rw [Nat.mul_assoc, ← Nat.pow_add] at hb
        exact hb
      have HY1 : Hid (∀ ww, QS w0 ww R S (X * 2 ^ (a + lf)) (Y * 2 ^ b) → Calls Oafg.prog 158 #[.pointer (some ⟨S, 0, none⟩), .int .i64 (lf : Int)] ww fun e w' => (∃ v, e = .returned v) ∧ QS w0 w' R S (X * 2 ^ (a + lf)) (Y * 2 ^ (b + lf))) := fun ww q => by
        refine (shl_V q.by' lf (by omega) (bl_fit ht (by omega))).mono ?_
        rintro e w' ⟨he, hb, ho⟩
        refine ⟨he, q.onY hne hS ?_ ho⟩
        rw [Nat.mul_assoc, ← Nat.pow_add] at hb
        exact hb
      have HG : Hid (X * 2 ^ (a + lf) < Y * 2 ^ (b + lf) ∧ Y * 2 ^ (b + lf) ≤ 2 * (X * 2 ^ (a + lf)) ∧ bl (X * 2 ^ (a + lf)) ≤ 2864 ∧ bl (Y * 2 ^ (b + lf)) ≤ 2864 ∧ ex = ((b + lf : Nat) : Int) - ((a + lf : Nat) : Int) ∧ a + lf ≤ 2864 ∧ b + lf ≤ 2864) := by
        have e1 := Nat.pow_add 2 a lf
        have e2 := Nat.pow_add 2 b lf
        have hpos := Nat.two_pow_pos lf
        have e3 : X * 2 ^ (a + lf) = X * 2 ^ a * 2 ^ lf := by rw [e1, Nat.mul_assoc]
        have e4 : Y * 2 ^ (b + lf) = Y * 2 ^ b * 2 ^ lf := by rw [e2, Nat.mul_assoc]
        refine ⟨?_, ?_, ?_, ?_, by omega, by omega, by omega⟩
        · rw [e3, e4]; exact Nat.mul_lt_mul_of_pos_right g1 hpos
        · rw [e3, e4, ← Nat.mul_assoc]; exact Nat.mul_le_mul_right _ g2
        · rw [e3]; exact Nat.le_trans (bl_shl _ _) (by omega)
        · rw [e4]; exact Nat.le_trans (bl_shl _ _) (by omega)
      clear hH hA g1 g2 g3 g4 hs ht hex g5 g6 hs2 s
      go_upto_region 11 with (first
        | (go_at_call 157; refine (HB.out ()).mono ?_; rintro e w5 ⟨rfl, hb5⟩)
        | (go_at_call 158; have h9 := HY1.out _ hq6; refine h9.mono ?_; clear h9; rintro e w7 ⟨⟨v7, rfl⟩, hq7⟩)
        | (go_at_call 158; refine (HX1.out _ (HQ.out.call hb5)).mono ?_; rintro e w6 ⟨⟨v6, rfl⟩, hq6⟩))
      have HQ7 : Hid _ := hq7
      clear HB HQ HX1 HY1 hb5 hq6 hq7 fl
      obtain ⟨X2, hX2⟩ : ∃ X2, X2 = X * 2 ^ (a + lf) := ⟨_, rfl⟩
      obtain ⟨Y2, hY2⟩ : ∃ Y2, Y2 = Y * 2 ^ (b + lf) := ⟨_, rfl⟩
      obtain ⟨A, hA⟩ : ∃ A, A = a + lf := ⟨_, rfl⟩
      obtain ⟨B, hB⟩ : ∃ B, B = b + lf := ⟨_, rfl⟩
      have HQ8 : Hid (QS w0 w7 R S X2 Y2) := by rw [hX2, hY2]; exact HQ7.out
      have HG8 : Hid (X2 < Y2 ∧ Y2 ≤ 2 * X2 ∧ bl X2 ≤ 2864 ∧ bl Y2 ≤ 2864 ∧ ex = (B : Int) - (A : Int) ∧ A ≤ 2864 ∧ B ≤ 2864 ∧ X2 = X * 2 ^ A ∧ Y2 = Y * 2 ^ B) := by
        rw [hX2, hY2, hA, hB]; obtain ⟨z1, z2, z3, z4, z5, z6, z7⟩ := HG.out; exact ⟨z1, z2, z3, z4, z5, z6, z7, rfl, rfl⟩
      clear HQ7 HG hA hB hX2 hY2 ht2 hlf
      clear a b
      obtain ⟨n1, xs, hB1, hv1, hz1, _⟩ := HQ8.out.bx.out
      obtain ⟨y, ys, hB2, hv2, hz2, _⟩ := HQ8.out.by'.out
      have hy0 : y ≠ 0 := fun h => by
        have h2 : lw ys = 0 := by rw [lw_all ys y hz2, h]; rfl
        have := HG8.out.1
        omega
      obtain ⟨n, hn⟩ : ∃ n, y = n + 1 := ⟨y - 1, by omega⟩
      have hy52 := hB2.n52
      have hn52 : n < 52 := by omega
      obtain ⟨h, hh, hhl, ch, _⟩ := hB1.get n hn52
      obtain ⟨d, hd, hdl, cd, _⟩ := hB2.get n hn52
      have cn := hB2.cn
      have i1 : (y : Int) - 1 = (n : Int) := by omega
      obtain ⟨nx, hnx⟩ : ∃ nx, nx = if n = 0 then 0 else xs.getD (n - 1) 0 := ⟨_, rfl⟩
      have hnxl : nx < 18446744073709551616 := by
        rw [hnx]; split
        · decide
        · exact hB1.lim _ (by rw [hB1.len]; omega)
      obtain ⟨q0, r0, ok, hgs, hq0, hD⟩ : ∃ (q0 r0 : Nat) (ok : Bool), ((ok = false ∧ d ≤ h) ∨ (ok = true ∧ h < d ∧ q0 = two h nx / d)) ∧ q0 < 18446744073709551616 ∧ ∀ ww, Calls Oafg.prog 160 #[.agg #[.int .u64 h, .int .u64 nx], .int .u64 d] ww fun e w' => e = .returned (.tuple #[.int .u64 q0, .int .u64 r0, .bool ok]) ∧ Below ww.heap.size ww w' := by
        by_cases c : h < d
        · refine ⟨two h nx / d, two h nx % d, true, Or.inr ⟨rfl, c, rfl⟩, ?_, fun ww => ?_⟩
          · rw [Nat.div_lt_iff_lt_mul (by omega)]; unfold two; omega
          · refine (div_any h nx d hnxl hdl c ww).mono ?_
            rintro e w' ⟨⟨q, r, rfl, rfl, rfl⟩, hb⟩
            exact ⟨rfl, hb⟩
        · exact ⟨0, 0, false, Or.inl ⟨rfl, by omega⟩, by decide, fun ww => div_no h nx d (by omega) ww⟩
      obtain ⟨qg, hqg⟩ : ∃ qg, qg = if ok = true then q0 else 18446744073709551615 := ⟨_, rfl⟩
      have hqgl : qg < 18446744073709551616 := by rw [hqg]; split <;> omega
      have HGE : Hid (X2 * 18446744073709551616 < (qg + 1) * Y2) := by
        refine guess_ge hB1.lim hB1.len hn52 hv1 hv2 (by rw [← hn]; exact hz2) HG8.out.1 hB2.lim hB2.len ?_
        rw [← hh, ← hd, ← hnx, hqg]
        rcases hgs with ⟨rfl, hc⟩ | ⟨rfl, hc, hqq⟩
        · exact Or.inl ⟨hc, rfl⟩
        · exact Or.inr ⟨hc, hqq⟩
      have HNX : Hid (n ≠ 0 → ∃ m : Nat, (y : Int) - 2 = (m : Int) ∧ (m : Int) < 52 ∧ w7.cell? ⟨R, 1 + m, none⟩ = some (.int .u64 nx)) := fun hm => ⟨n - 1, by omega, by omega, by rw [hB1.cw _ (by omega), hnx, if_neg hm]⟩
      have HN0 : Hid (n = 0 → nx = 0) := fun hm => by rw [hnx, if_pos hm]
      have HYN : Hid (y = n + 1) := hn
      have HD : Hid _ := hD
      have HQG : Hid _ := hqg
      have HB2 : Hid (Big w7 S y ys ∧ lw ys = Y2 ∧ (∀ i, y ≤ i → ys.getD i 0 = 0)) := ⟨hB2, hv2, hz2⟩
      have hltR := hB1.in
      have hltS := hB2.in
      clear hB1 hv1 hz1 hB2 hv2 hz2 hh hd hnx hgs hD hqg hn
      go_upto_if 49 with fail
      go_cut [8] (fun t w' => t = .int .u64 nx ∧ Hid (HB w7 w'))
      case first =>
        by_cases c : n = 0
        · obtain rfl := HN0.out c
          have t1 : ¬ ((1 : Int) < (y : Int)) := by have := HYN.out; omega
          clear HNX c
          go_wp2_with fail
          go_meet
          case rel => exact ⟨rfl, HB.start⟩
        · obtain ⟨m, i2, m52, cm⟩ := HNX.out c
          have t1 : (1 : Int) < (y : Int) := by have := HYN.out; omega
          have m0 : (0 : Int) ≤ (m : Int) := by omega
          clear HNX c HN0
          go_wp2_with fail
          go_quiet (fail)
          go_wp2_with fail
          go_meet
          case rel => exact ⟨rfl, HB.call HB.start (below_dN (Below.refl _ _) _)⟩
      case rest =>
        obtain ⟨rfl, hW⟩ := hcut
        have hl1 : R < wc.heap.size := Nat.lt_of_lt_of_le hltR hW.out.out.size
        have hl2 : S < wc.heap.size := Nat.lt_of_lt_of_le hltS hW.out.out.size
        have hwne := HW.ne wc
        have x0 : ∀ x : HW wc, x.val.cell? ⟨S, 0, none⟩ = some (.int .i64 y) := fun x => by rw [HB.cells _ x.ok _ _ hl2, HB.cells _ hW.out _ _ hltS]; exact cn
        have x1 : ∀ x : HW wc, x.val.cell? ⟨R, 1 + n, none⟩ = some (.int .u64 h) := fun x => by rw [HB.cells _ x.ok _ _ hl1, HB.cells _ hW.out _ _ hltR]; exact ch
        have x2 : ∀ x : HW wc, x.val.cell? ⟨S, 1 + n, none⟩ = some (.int .u64 d) := fun x => by rw [HB.cells _ x.ok _ _ hl2, HB.cells _ hW.out _ _ hltS]; exact cd
        have n52 : (n : Int) < 52 := by omega
        have n0 : (0 : Int) ≤ (n : Int) := by omega
        clear HNX HN0 ch cd cn
        go_upto_region 14 with fail
        go_cut [9, 11] (fun t u w' => t = .int .u64 q0 ∧ u = .bool ok ∧ Hid (HB w7 w'))
        case first =>
          refine quiet_held (by kernel_rfl) (by kernel_rfl) ?_
          repeat (go_big_quiet_step ((go_at_call 160; refine (HD.out _).mono ?_; rintro e w2 ⟨rfl, hbu⟩; exact ⟨rfl, ⟨w2, HB.call (HW.ok _) hbu⟩, rfl⟩)))
          refine wpQuiet_nil ?_
          rintro _ ⟨x, rfl⟩
          go_wp2_with fail
          go_meet
          case rel => exact ⟨rfl, rfl, HB.call hW.out x.ok⟩
        case rest =>
          clear x0 x1 x2 hwne hW hl1 hl2 HD
          obtain ⟨rfl, rfl, hW⟩ := hcut
          clear hhl hdl hnxl hy0 i1 n52 n0 hn52 hq0 HYN
          go_upto_if 88 with fail
          go_cut [9] (fun t w' => t = .int .u64 qg ∧ Hid (HB w7 w'))
          case first =>
            cases ok
            · obtain rfl : qg = 18446744073709551615 := by simpa using HQG.out
              clear HQG
              go_wp2_with fail
              go_meet
              case rel => exact ⟨rfl, hW⟩
            · obtain rfl : qg = q0 := by simpa using HQG.out
              clear HQG
              go_wp2_with fail
              go_meet
              case rel => exact ⟨rfl, hW⟩
          case rest =>
            clear HQG hW
            obtain ⟨rfl, hW⟩ := hcut
            have HQ9 : Hid _ := HQ8.out.call hW.out.out
            have HBY : Hid (Big wc S y ys) := HB2.out.1.call hW.out.out
            have HY : Hid (lw ys = Y2 ∧ (∀ i, y ≤ i → ys.getD i 0 = 0)) := HB2.out.2
            have hbX : bl X2 ≤ 2864 := HG8.out.2.2.1
            have hbY : bl Y2 ≤ 2864 := HG8.out.2.2.2.1
            have HX1 : Hid (Calls Oafg.prog 158 #[.pointer (some ⟨R, 0, none⟩), .int .i64 ((64 : Nat) : Int)] wc fun e w' => (∃ v, e = .returned v) ∧ BigV w' R (X2 * 2 ^ 64) ∧ Only R wc w') := by
              have := shl_V HQ9.out.bx 64 (by omega) (bl_fit rfl (by omega))
              exact this
            clear HQ8 HB2 hW hltR hltS hy52
            go_upto_region 18 with (go_at_call 158; refine HX1.out.mono ?_; rintro e w10 ⟨⟨v10, rfl⟩, hb10, hO10⟩)
            have hq10 := HQ9.out.onX hne hR hb10 hO10
            have hbY10 := HBY.out.only hO10 (fun e => hne e.symm)
            obtain ⟨n3, xs3, hB3, hv3, hz3, _⟩ := hb10.out
            obtain ⟨N, hN⟩ : ∃ N, N = X2 * 2 ^ 64 := ⟨_, rfl⟩
            rw [← hN] at hv3
            have hfit : qg * lw ys < 18446744073709551616 ^ 52 := by
              rw [HY.out.1, Nat.mul_comm]
              have h1 : Y2 * 2 ^ 64 < 18446744073709551616 ^ 52 := bl_fit rfl (by omega)
              refine Nat.lt_of_le_of_lt (Nat.mul_le_mul_left _ ?_) h1
              simp; omega
            have HSM : Hid _ := fun (_ : Unit) => subMul_any hB3 hbY10 hne hz3 HY.out.2 hqgl hfit
            have hGE : N < (qg + 1) * Y2 := by rw [hN]; exact HGE.out
            have Hst : Hid (∀ bw vs w', bw ≤ 1 → Big w' R n3 vs → lw vs + qg * lw ys = lw xs3 + 18446744073709551616 ^ 52 * bw → Only R w10 w' → QL w0 w' R S n3 y N Y2 qg ys (decide (bw = 1))) := fun bw vs w' h1 h2 h3 h4 => QL.start hq10.bel hbY10 HY.out.1 hne hR hv3 hGE h1 h2 h3 h4
            have HN : Hid _ := hN
            clear HX1 hb10 hO10 hq10 hbY10 hB3 hv3 hz3 hN hfit hGE HQ9 HBY HGE hbX hbY
            go_wp2_with (go_at_call 161; refine (HSM.out ()).mono ?_; rintro e w11 ⟨vs, bw, rfl, hbw, hB11, hv11, hO11⟩)
            have HL0 : Hid _ := Hst.out bw vs _ hbw hB11 hv11 hO11
            obtain ⟨bb, hbb⟩ : ∃ bb, bb = decide (bw = 1) := ⟨_, rfl⟩
            rw [← hbb] at HL0
            simp only [← hbb]
            clear hbw hB11 hv11 hO11 hbb Hst HSM
            go_loopw [9, 12] (fun sg be wr => ∃ (q : Nat) (b : Bool), q < 18446744073709551616 ∧ sg = .int .u64 q ∧ be = .bool b ∧ Hid (QL w0 wr R S n3 y N Y2 q ys b)) (fun sg _ _ => (intOf sg).toNat)
            case atStart => exact ⟨qg, bb, hqgl, rfl, rfl, HL0⟩
            case round =>
              clear HL0
              obtain ⟨q, b, hq, rfl, rfl, hM⟩ := hrel
              cases b
              · obtain ⟨xs, hBx, hlt, _, hx3⟩ := hM.out.out
                have hNe := hx3 rfl
                obtain ⟨g1, g2, _, _, g5, g6, g7, g8, g9⟩ := HG8.out
                have hbel := hM.out.bel
                have hx : ex - 64 = (B : Int) - ((A + 64 : Nat) : Int) := by omega
                have hrl : lw xs < Y2 := by rw [Nat.add_mul] at hlt; omega
                have hqlo : 9223372036854775808 ≤ q := by
                  have hN := HN.out
                  rcases Nat.lt_or_ge q 9223372036854775808 with h | h
                  · exfalso
                    have h1 : (q + 1) * Y2 ≤ 9223372036854775808 * Y2 := Nat.mul_le_mul_right _ h
                    have h2 : N = X2 * 18446744073709551616 := by rw [hN]
                    omega
                  · exact h
                have heq : X * 2 ^ (A + 64) = q * (Y * 2 ^ B) + lw xs := by
                  rw [Nat.pow_add, ← Nat.mul_assoc, ← g8, ← g9, ← HN.out]; exact hNe
                obtain ⟨z, hz⟩ : ∃ z, decide (lw xs = 0) = z := ⟨_, rfl⟩
                have HZ : Hid _ := fun (_ : Unit) => isZero_P hBx hz
                have for1 : bits .or .u64 (q : Int) 1 = ((q ||| 1 : Nat) : Int) := or64 q 1 1 rfl hq (by decide)
                have Hfin : Hid (∀ sg, sg = (if lw xs = 0 then q else q ||| 1) → Quo X Y (A + 64) B q (lw xs) sg) := fun sg hsg => ⟨heq, by rw [← g9]; exact hrl, hqlo, hq, hsg, by omega, by omega⟩
                have Hbel : Hid _ := hbel
                have Hx : Hid _ := hx
                generalize hor : q ||| 1 = qo at *
                clear hM hBx hlt hx3 hNe g1 g2 g5 g6 g7 g8 g9 hbel hx hrl hqlo heq HN HG8
                cases z
                · have hz0 : ¬ lw xs = 0 := by simpa using hz
                  rw [if_neg hz0] at Hfin
                  have HF : Hid _ := Hfin.out qo rfl
                  clear Hfin hz hz0 hor
                  go_wp2_with (go_at_call 163; refine (HZ.out ()).mono ?_; rintro e w12 ⟨rfl, hw⟩; have hw := hw.symm; subst hw)
                  exact bodyPost_ret (v := .tuple #[.int .u64 qo, .int .i64 (ex - 64)]) (by simp [results, Oafg.results98, go_sem]) rfl ⟨qo, A + 64, B, q, lw xs, by rw [Hx.out], HF.out, Hbel.out⟩
                · have hz0 : lw xs = 0 := by simpa using hz
                  rw [if_pos hz0] at Hfin
                  have HF : Hid _ := Hfin.out q rfl
                  clear Hfin hz hz0 hor for1
                  go_wp2_with (go_at_call 163; refine (HZ.out ()).mono ?_; rintro e w12 ⟨rfl, hw⟩; have hw := hw.symm; subst hw)
                  exact bodyPost_ret (v := .tuple #[.int .u64 q, .int .i64 (ex - 64)]) (by simp [results, Oafg.results98, go_sem]) rfl ⟨q, A + 64, B, q, lw xs, by rw [Hx.out], HF.out, Hbel.out⟩
              · have hq0 := hM.out.pos
                obtain ⟨q', hq'⟩ : ∃ q', q = q' + 1 := ⟨q - 1, by omega⟩
                obtain ⟨xs, hBx, _, hx2, _⟩ := hM.out.out
                have hxe := hx2 rfl
                have Hnx : Hid (∀ cb vs w', cb ≤ 1 → Big w' R n3 vs → lw vs + 18446744073709551616 ^ 52 * cb = lw xs + lw ys → Only R wr w' → QL w0 w' R S n3 y N Y2 q' ys (!decide (cb = 1))) := fun cb vs w' h1 h2 h3 h4 => by
                  subst hq'
                  exact QL.step hM.out HY.out.1 hne hR hBx hxe h1 h2 h3 h4
                have HA : Hid _ := fun (_ : Unit) => badd_any hBx hM.out.by' hne
                have i1 : (q : Int) - 1 = (q' : Int) := by omega
                have hq2 : q' < q := by omega
                clear hM hBx hx2 hxe hq' hq0
                go_wp2_with (go_at_call 162; refine (HA.out ()).mono ?_; rintro e w12 ⟨vs2, cb, rfl, hcb, hB12, hv12, hO12⟩)
                go_roundw
                case rel => exact ⟨q', _, by omega, rfl, rfl, Hnx.out cb vs2 _ hcb hB12 hv12 hO12⟩
                case measure => simp [intOf]; omega
end Go.Proofs.Ygcoaf
