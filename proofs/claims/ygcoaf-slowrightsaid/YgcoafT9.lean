/-
  slow.big.subMul, the walk.
-/
import Derived.Test.YgcoafT8
namespace Go.Proofs.Ygcoaf
open Go.RowKit Go.Proofs.Ygcoaf.M

set_option maxRecDepth 8000 in
set_option maxHeartbeats 3000000 in
/-- slow.big.subMul -/
theorem subMul_any {w : World} {R S n m q : Nat} {xs ys : List Nat} (b1 : Big w R n xs) (b2 : Big w S m ys) (hRS : R ≠ S) (hzx : ∀ j, n ≤ j → xs.getD j 0 = 0) (hzy : ∀ j, m ≤ j → ys.getD j 0 = 0) (hq : q < 18446744073709551616) (hfit : q * lw ys < 18446744073709551616 ^ 52) :
    Calls Oafg.prog 161 #[.pointer (some ⟨R, 0, none⟩), .pointer (some ⟨S, 0, none⟩), .int .u64 q] w fun e w' => ∃ vs bw, e = .returned (.bool (decide (bw = 1))) ∧ bw ≤ 1 ∧ Big w' R n vs ∧ lw vs + q * lw ys = lw xs + 18446744073709551616 ^ 52 * bw ∧ Only R w w' := by
  have H0 : Hid (SM w w R n xs ys q 0 0 0) := ⟨xs, 0, b1, rfl, by decide, by simp [lw], by simp [lw], Only.refl _ _⟩
  have hRw := b1.in
  have hSw := b2.in
  have hl1 := b1.len
  have hl2 := b2.len
  have hn52 := b1.n52
  have hm52 := b2.n52
  have HB2 : Hid _ := b2
  have Hzx : Hid _ := hzx
  have Hzy : Hid _ := hzy
  have Hfit : Hid _ := hfit
  clear b1 b2 hzx hzy hfit
  go_enter Oafg.func161, Oafg.ntmps161
  go_wp2
  go_loopw [9, 7, 8] (fun i cy bo wr => ∃ k c b : Nat, k ≤ 52 ∧ c < 18446744073709551616 ∧ b ≤ 1 ∧ i = .int .i64 k ∧ cy = .int .u64 c ∧ bo = .int .u64 b ∧ Hid (SM w wr R n xs ys q k c b)) (fun i _ _ _ => 52 - (intOf i).toNat)
  case atStart => exact ⟨0, 0, 0, by decide, by decide, by decide, rfl, rfl, rfl, H0⟩
  case round =>
    obtain ⟨k, c, b, hk, hc, hb, rfl, rfl, rfl, hM⟩ := hrel
    obtain ⟨vs0, pl0, hB0, _, _, _, _, hO0⟩ := hM.out.out
    have cn1 := hB0.cn
    have hB2r : Big wr S m ys := by
      have hb2 := HB2.out
      exact ⟨by rw [hO0.cell (fun h => hRS h.symm) hSw]; exact hb2.cn, fun i hi => by rw [hO0.cell (fun h => hRS h.symm) hSw]; exact hb2.cw i hi, fun i => by rw [hO0.frozen (fun h => hRS h.symm) hSw]; exact hb2.fz i, hb2.len, hb2.lim, hb2.n52⟩
    have cn2 := hB2r.cn
    have tb1 : ((b : Int) == 1) = decide (b = 1) := by rw [Bool.eq_iff_iff, beq_iff_eq, decide_eq_true_iff]; omega
    by_cases c52 : k < 52
    · by_cases cbr : n ≤ k ∧ m ≤ k ∧ c = 0 ∧ b = 0
      · obtain ⟨k1, k2, rfl, rfl⟩ := cbr
        obtain ⟨vs, hB, hv, hO⟩ := hM.out.early Hzx.out Hzy.out k1 k2
        have HH : Hid (Big wr R n vs ∧ lw vs + q * lw ys = lw xs + 18446744073709551616 ^ 52 * 0 ∧ Only R w wr) := ⟨hB, hv, hO⟩
        clear hM hB hv hO hB0 hO0 hB2r H0
        have f0 : bits .or .u64 0 0 = 0 := by decide
        go_wp2
        go_ret
        exact ⟨vs, 0, rfl, by decide, HH.out⟩
      · obtain ⟨x, hx, hlx, hcx, hnext⟩ := hM.out.step c52
        obtain ⟨y, hy, hly, hcy, _⟩ := hB2r.get k c52
        rw [← hy] at hnext
        have hltR := hB0.in
        have hltS := hB2r.in
        have T1 : Hid _ := fun (_ : Unit) => mul64_any y q hly hq wr
        have hk52 : (k : Int) < 52 := by omega
        have hk0 : (0 : Int) ≤ (k : Int) := by omega
        obtain ⟨ob, hob⟩ : ∃ ob, ob = c ||| b := ⟨_, rfl⟩
        have fob : bits .or .u64 (c : Int) (b : Int) = (ob : Int) := by rw [hob]; exact u64_or_nat c b hc (by omega)
        have hobz : ob = 0 → c = 0 ∧ b = 0 := fun h => by
          rw [hob] at h
          exact Nat.or_eq_zero_iff.1 h
        clear hob H0 hx hy
        rcases (show k < n ∨ (n ≤ k ∧ k < m) ∨ (n ≤ k ∧ m ≤ k ∧ ob ≠ 0) by omega) with g | ⟨g, g'⟩ | ⟨g, g', g''⟩
        case' inl =>
          clear hobz cbr
          go_upto_region 6 with fail
        case' inr.inl =>
          clear hobz cbr
          go_upto_region 6 with fail
        case' inr.inr =>
          have tg : ((ob : Int) == 0) = false := by rw [beq_eq_false_iff_ne]; omega
          clear hobz cbr
          go_upto_region 6 with fail
        all_goals
          clear fob
          go_upto_region 8 with (first
            | (go_at_call 155; refine (T1.out ()).mono ?_; rintro e w2 ⟨⟨h, l, rfl, htwo, hh, hl⟩, hb2⟩)
            | (go_at_call 156; refine (wadd_any h l 0 c hl hc _).mono ?_; rintro e w3 ⟨⟨H, L, bb, rfl, hsum, hH, hL⟩, hb3⟩; obtain ⟨p0, p1, p2, p3⟩ := kept2 hb3))
          have hPR : w2.heap.size ≠ R := by have := hb2.size; omega
          have hPw : w.heap.size ≤ w2.heap.size := Nat.le_trans hO0.size hb2.size
          have hbb : Below wr.heap.size wr w3 := bt hb2 (below1 hb3)
          have hBig : ∀ vs, Big wr R n vs → Big ((w3.setCell ⟨w2.heap.size, 0, none⟩ (.int .u64 H)).setCell ⟨w2.heap.size, 1, none⟩ (.int .u64 L)) R n vs := fun vs b => ((b.call hbb).far _ _ _ hPR).far _ _ _ hPR
          have hOn : Only R w ((w3.setCell ⟨w2.heap.size, 0, none⟩ (.int .u64 H)).setCell ⟨w2.heap.size, 1, none⟩ (.int .u64 L)) := ((hO0.call hbb).new _ _ _ hPw).new _ _ _ hPw
          obtain ⟨d, v, b', e1, e2, e3, e4, e5, e6, e7⟩ := borrow64 x L b hlx hL hb
          have htw : L + 18446744073709551616 * H = y * q + c := by
            have e : two H L = y * q + c := by
              rw [hsum, htwo]
              have : two 0 c = c := by simp [two]
              rw [this]
              exact Nat.mod_eq_of_lt (two_sum y q c hly hq hc)
            rw [← e]; unfold two; omega
          have hNx := fun nq => hnext (((w3.setCell ⟨w2.heap.size, 0, none⟩ (.int .u64 H)).setCell ⟨w2.heap.size, 1, none⟩ (.int .u64 L)).drewN nq) (fun vs b => (hBig vs b).call (below_dN (Below.refl _ _) nq)) (hOn.drewN nq) L H v b' hL e4 htw e7
          obtain ⟨x5, hx5, hlx5, hcx5, hfx5⟩ := (hBig vs0 hB0).get k c52
          have hx56 : x5 = x := by
            obtain ⟨x6, hx6, _, hc6, _⟩ := hB0.get k c52
            rw [hcx] at hc6
            have : (x : Int) = (x6 : Int) := by injection hc6 with h; injection h
            omega
          rw [hx56] at hcx5
          have z0 : ((w3.setCell ⟨w2.heap.size, 0, none⟩ (.int .u64 H)).setCell ⟨w2.heap.size, 1, none⟩ (.int .u64 L)).cell? ⟨w2.heap.size, 0, none⟩ = some (.int .u64 H) := by
            rw [World.cell?_setCell_other (h := fun h => absurd (congrArg Addr.off h) (by show ¬ ((1 : Nat) = 0); decide)), World.cell?_setCell_same _ _ _ p0]
          have z1 : ((w3.setCell ⟨w2.heap.size, 0, none⟩ (.int .u64 H)).setCell ⟨w2.heap.size, 1, none⟩ (.int .u64 L)).cell? ⟨w2.heap.size, 1, none⟩ = some (.int .u64 L) := by
            have p1' : (w3.setCell ⟨w2.heap.size, 0, none⟩ (.int .u64 H)).cell? ⟨w2.heap.size, 1, none⟩ = some (.int .u64 l) := by
              rw [World.cell?_setCell_other (h := fun h => absurd (congrArg Addr.off h) (by show ¬ ((0 : Nat) = 1); decide))]; exact p1
            exact World.cell?_setCell_same _ _ _ p1'
          generalize hW : ((w3.setCell ⟨w2.heap.size, 0, none⟩ (.int .u64 H)).setCell ⟨w2.heap.size, 1, none⟩ (.int .u64 L)) = W5 at *
          obtain ⟨P, hP⟩ : ∃ P, P = w2.heap.size := ⟨_, rfl⟩
          rw [← hP] at z0 z1 hPR
          simp only [← hP]
          have HNX : Hid _ := hNx
          have E6 : Hid _ := e6
          clear hNx hBig hOn hnext hM hW hbb hP p0 p1 p2 p3 hsum htwo hb2 hb3 hB0 hO0 cn1 cn2 hcx hcy hx5 hx56 T1 hPw htw e7 hB2r e6
          by_cases o1 : x < L
          · have hb1 : b' = 1 := E6.out.2 (Or.inl o1)
            subst hb1
            clear E6
            go_wp2
            go_quiet (fail)
            go_wp2
            go_quiet (fail)
            go_wp2
            go_roundw
            case rel => exact ⟨k + 1, H, 1, by omega, hH, by decide, by go_num, rfl, rfl, HNX.out _⟩
            case measure => simp [intOf]; omega
          · by_cases o2 : d < b
            · have hb1 : b' = 1 := E6.out.2 (Or.inr o2)
              subst hb1
              have o3 : decide ((x : Int) < (L : Int)) = false := decide_eq_false (by omega)
              clear E6
              go_wp2
              go_quiet (fail)
              go_wp2
              go_quiet (fail)
              go_wp2
              go_roundw
              case rel => exact ⟨k + 1, H, 1, by omega, hH, by decide, by go_num, rfl, rfl, HNX.out _⟩
              case measure => simp [intOf]; omega
            · have hb1 : b' = 0 := by
                have := E6.out.1
                omega
              subst hb1
              have o3 : decide ((x : Int) < (L : Int)) = false := decide_eq_false (by omega)
              have o4 : decide ((d : Int) < (b : Int)) = false := decide_eq_false (by omega)
              clear E6
              go_wp2
              go_quiet (fail)
              go_wp2
              go_quiet (fail)
              go_wp2
              go_roundw
              case rel => exact ⟨k + 1, H, 0, by omega, hH, by decide, by go_num, rfl, rfl, HNX.out _⟩
              case measure => simp [intOf]; omega
    · obtain rfl : k = 52 := by omega
      obtain ⟨vs, hB, hv, hO⟩ := hM.out.done hl1 hl2 Hfit.out
      have HH : Hid (Big wr R n vs ∧ lw vs + q * lw ys = lw xs + 18446744073709551616 ^ 52 * b ∧ Only R w wr) := ⟨hB, hv, hO⟩
      clear hM hB hv hO hB0 hO0 hB2r H0
      rcases (show b = 0 ∨ b = 1 by omega) with rfl | rfl
      · go_wp2
        go_ret
        exact ⟨vs, 0, rfl, by decide, HH.out⟩
      · go_wp2
        go_ret
        exact ⟨vs, 1, rfl, by decide, HH.out⟩
end Go.Proofs.Ygcoaf
