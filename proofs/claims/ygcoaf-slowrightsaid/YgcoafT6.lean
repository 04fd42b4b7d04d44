/-
  slow.big.shl, the walk.
-/
import Derived.Test.YgcoafT5
namespace Go.Proofs.Ygcoaf
open Go.RowKit Go.Proofs.Ygcoaf.M

theorem or_lowR (a y s : Nat) (h : a < 2 ^ s) : (y * 2 ^ s) ||| a = y * 2 ^ s + a := by
  rw [Nat.or_comm, or_low a y s h]; omega

set_option maxRecDepth 8000 in
set_option maxHeartbeats 2000000 in
/-- slow.big.shl -/
theorem shl_V {w : World} {R N : Nat} (b : BigV w R N) (k : Nat) (hk : k ≤ 3327) (hfit : N * 2 ^ k < 18446744073709551616 ^ 52) :
    Calls Oafg.prog 158 #[.pointer (some ⟨R, 0, none⟩), .int .i64 k] w fun e w' => (∃ v, e = .returned v) ∧ BigV w' R (N * 2 ^ k) ∧ Only R w w' := by
  obtain ⟨n, ws, hB, hv, hz, ht⟩ := b.out
  have cn := hB.cn
  have h52 := hB.n52
  obtain ⟨mv, hmv⟩ : ∃ mv, mv = k / 64 := ⟨_, rfl⟩
  obtain ⟨s, hs⟩ : ∃ s, s = k % 64 := ⟨_, rfl⟩
  have f1 : (k : Int).tdiv 64 = (mv : Int) := by rw [hmv]; simp
  have f2 : (k : Int).tmod 64 = (s : Int) := by rw [hs]; simp [Int.tmod_eq_emod_of_nonneg]
  have hs64 : s < 64 := by omega
  have hmv51 : mv ≤ 51 := by omega
  have hks : k = 64 * mv + s := by omega
  obtain ⟨n', hn'⟩ : ∃ n', n' = min (n + mv + 1) 52 := ⟨_, rfl⟩
  have hsum := shl_sum ws n N mv s n' hs64 hv hz hmv51 hn' (by rw [← hks]; exact hfit)
  rw [← hks] at hsum
  have hn52 : n' ≤ 52 := by omega
  have hnn : n ≤ n' := by omega
  obtain ⟨V, hV⟩ : ∃ V, V = N * 2 ^ k := ⟨_, rfl⟩
  rw [← hV] at hsum ⊢
  have H0 : Hid (ShI w w R n ws mv s n' n') := ⟨ws, hB, fun t _ => rfl, fun t h1 h2 => absurd h2 (by omega), fun t ht => hz t (by omega), Only.refl _ _⟩
  have HL : Hid _ := hB.lim
  have Hsum : Hid _ := hsum
  have fmin : (if (52 : Int) < (n : Int) + (mv : Int) + 1 then (52 : Int) else (n : Int) + (mv : Int) + 1) = (n' : Int) := by
    rw [hn']; split <;> omega
  clear hB hv hz ht b hmv hs hks hV hsum hfit hn'
  go_enter Oafg.func158, Oafg.ntmps158
  go_wp2
  go_loopw [7] (fun i wr => ∃ t : Nat, t ≤ n' ∧ i = .int .i64 ((t : Int) - 1) ∧ Hid (ShI w wr R n ws mv s n' t)) (fun i _ => (intOf i + 1).toNat)
  case atStart => exact ⟨n', Nat.le_refl _, rfl, H0⟩
  case round =>
    obtain ⟨t, htn, hi, hM⟩ := hrel
    clear cn fmin
    by_cases c : t = 0
    · subst c
      rw [show ((0 : Nat) : Int) - 1 = -1 from by decide] at hi
      subst hi
      obtain ⟨vs, hB, _, h3, h4, hO⟩ := hM.out.out
      have hval : lw vs = V := by
        rw [lw_all vs n' h4, lw_sumF vs (shF ws mv s) n' (fun t ht => h3 t (Nat.zero_le _) ht)]
        exact Hsum.out
      have HB : Hid _ := hB
      have HO : Hid _ := hO
      have HVal : Hid _ := hval
      have H4 : Hid _ := h4
      have cn := hB.cn
      have fn := hB.fz 0
      clear hM h3 h4 hval hB hO Hsum H0
      go_wp2
      obtain ⟨wo, rfl⟩ : ∃ wo : World, wo = wr := ⟨_, rfl⟩
      go_loop [6] (fun i => ∃ t : Nat, t ≤ n' ∧ i = .int .i64 t ∧ Hid (∀ j, t ≤ j → vs.getD j 0 = 0)) (fun i => (intOf i).toNat)
      case atStart => exact ⟨n', Nat.le_refl _, rfl, H4⟩
      case round =>
        obtain ⟨t, ht, rfl, hz⟩ := hrel
        by_cases d : t = 0
        · subst d
          have hfin := HB.out.count 0 (by decide)
          have HF : Hid (BigV (wo.setCell ⟨R, 0, none⟩ (.int .i64 ((0 : Nat) : Int))) R V) := ⟨0, vs, hfin, HVal.out, hz.out, fun h => absurd rfl h⟩
          have hO2 : Hid _ := HO.out.setCell 0 (.int .i64 ((0 : Nat) : Int))
          clear hfin hz
          go_wp2
          go_end0
          exact ⟨⟨_, rfl⟩, HF.out, hO2.out⟩
        · obtain ⟨r, rfl⟩ : ∃ r, t = r + 1 := ⟨t - 1, by omega⟩
          obtain ⟨x, hx, hlx, hcx, _⟩ := HB.out.get r (by omega)
          by_cases e : x = 0
          · have te : ((x : Int) == 0) = true := by rw [e]; rfl
            have hz2 : Hid (∀ j, r ≤ j → vs.getD j 0 = 0) := fun j hj => by
              by_cases h9 : j = r
              · rw [h9, ← hx]; exact e
              · exact hz.out j (by omega)
            have hr0 : ((r + 1 : Nat) : Int) - 1 = (r : Int) := by omega
            clear hz hx e
            go_wp2
            go_round
            case rel => exact ⟨r, by omega, by first | rfl | go_num, hz2⟩
            case measure => simp [intOf]
          · have te : ((x : Int) == 0) = false := by rw [beq_eq_false_iff_ne]; omega
            have hfin := HB.out.count (r + 1) (by omega)
            have HF : Hid (BigV (wo.setCell ⟨R, 0, none⟩ (.int .i64 ((r + 1 : Nat) : Int))) R V) := ⟨r + 1, vs, hfin, HVal.out, hz.out, fun _ => by rw [Nat.add_sub_cancel, ← hx]; exact e⟩
            have hO2 : Hid _ := HO.out.setCell 0 (.int .i64 ((r + 1 : Nat) : Int))
            clear hfin hz hx
            go_wp2
            go_end0
            exact ⟨⟨_, rfl⟩, by simpa using HF.out, by simpa using hO2.out⟩
    · obtain ⟨p, rfl⟩ : ∃ p, t = p + 1 := ⟨t - 1, by omega⟩
      rw [show ((p + 1 : Nat) : Int) - 1 = (p : Int) from by omega] at hi
      subst hi
      obtain ⟨hget, hfz, hnext⟩ := hM.out.step (by omega) (by omega) HL.out hs64
      obtain ⟨xp, _, hcp, _⟩ := hget p (Nat.le_refl _)
      by_cases c1 : p < mv
      · have hN : Hid _ := hnext 0 (by unfold shF; rw [if_pos c1])
        clear hM hget hnext
        go_wp2
        go_roundw
        case rel => exact ⟨p, by omega, rfl, hN⟩
        case measure => simp [intOf]
      · obtain ⟨q, hq⟩ : ∃ q, p = mv + q := ⟨p - mv, by omega⟩
        obtain ⟨x, hx, hcx, hlx⟩ := hget q (by omega)
        have fq : (p : Int) - (mv : Int) = (q : Int) := by omega
        obtain ⟨lo, hlo⟩ : ∃ lo, lo = x * 2 ^ s % 18446744073709551616 := ⟨_, rfl⟩
        have hloL : lo < 18446744073709551616 := by rw [hlo]; exact Nat.mod_lt _ (by decide)
        have g1 : IntKind.u64.wrap ((x : Int) * 2 ^ s) = (lo : Int) := by
          rw [hlo, ← wrap64_nat]; simp
        have hF : shF ws mv s p = lo + cyF ws s q := by unfold shF; rw [if_neg c1, show p - mv = q from by omega, ← hx, hlo]
        by_cases c2 : 0 < q ∧ 0 < s
        · obtain ⟨q0, s0⟩ := c2
          obtain ⟨y, hy, hcy, hly⟩ := hget (q - 1) (by omega)
          obtain ⟨q', hq'⟩ : ∃ q', q' = q - 1 := ⟨_, rfl⟩
          rw [← hq'] at hcy
          obtain ⟨sh, hsh⟩ : ∃ sh, sh = 64 - s := ⟨_, rfl⟩
          obtain ⟨cc, hcc⟩ : ∃ cc, cc = y / 2 ^ sh := ⟨_, rfl⟩
          have hcF : cyF ws s q = cc := by unfold cyF; rw [if_neg (by omega), ← hy, hcc, hsh]
          have hccl := cyF_lt ws HL.out s q hs64
          rw [hcF] at hccl hF
          have g2 : (y : Int) / 2 ^ sh = (cc : Int) := by rw [hcc]; simp
          have g3 : (64 : Int) - (s : Int) = (sh : Int) := by omega
          have hcc64 : cc < 18446744073709551616 := by rw [hcc]; exact Nat.lt_of_le_of_lt (Nat.div_le_self _ _) hly
          have g4 : bits .or .u64 (lo : Int) (cc : Int) = ((lo + cc : Nat) : Int) := by
            rw [u64_or_nat lo cc hloL hcc64, hlo, lo_part x s hs64, or_lowR _ _ _ hccl]
          have g5 : (q : Int) - 1 = (q' : Int) := by omega
          have hN := hnext (lo + cc) (by rw [hF])
          obtain ⟨vv, hvv⟩ : ∃ vv, vv = lo + cc := ⟨_, rfl⟩
          rw [← hvv] at g4 hN
          have HN : Hid _ := hN
          have hsh64 : sh < 64 := by omega
          have hq52 : q < 52 := by omega
          have hq52' : q' < 52 := by omega
          clear hM hget hnext hN hvv hF hcF hccl hcc hsh hq' hlo hy hx hq
          go_wp2
          go_roundw
          case rel => exact ⟨p, by omega, rfl, HN⟩
          case measure => simp [intOf]
        · have hc0 : cyF ws s q = 0 := by
            unfold cyF
            by_cases h9 : q = 0
            · rw [if_pos h9]
            · have hs0 : s = 0 := by omega
              rw [if_neg h9, hs0]
              obtain ⟨y, hy, _, hly⟩ := hget (q - 1) (by omega)
              rw [← hy]
              exact Nat.div_eq_of_lt (by simpa using hly)
          have HN : Hid _ := hnext lo (by rw [hF, hc0, Nat.add_zero])
          have hq52 : q < 52 := by omega
          have tg : (decide (0 < (q : Int)) && decide (0 < (s : Int))) = false := by
            simp only [Bool.and_eq_false_iff, decide_eq_false_iff_not]; omega
          clear hM hget hnext hF hc0 hlo hx hq
          by_cases q0 : 0 < q
          · have s0 : ¬ (0 : Int) < (s : Int) := by omega
            go_wp2
            go_roundw
            case rel => exact ⟨p, by omega, rfl, HN⟩
            case measure => simp [intOf]
          · have q9 : ¬ (0 : Int) < (q : Int) := by omega
            go_wp2
            go_roundw
            case rel => exact ⟨p, by omega, rfl, HN⟩
            case measure => simp [intOf]
end Go.Proofs.Ygcoaf
