/-
  slow.big.read, bits.
-/
import Derived.Test.YgcoafT3
namespace Go.Proofs.Ygcoaf
open Go.RowKit Go.Proofs.Ygcoaf.M

theorem p64_pow (k : Nat) : 18446744073709551616 ^ k = 2 ^ (64 * k) := by rw [show 18446744073709551616 = 2 ^ 64 from by decide, ← Nat.pow_mul]
theorem dgv_fit (s : ByteArray) (hd : Digs s) (hs : s.size ≤ 800) (k : Nat) (hk : k ≤ s.size) : dgv s k < 18446744073709551616 ^ 52 := by
  obtain ⟨m, hm⟩ : ∃ m, m = 52 := ⟨_, rfl⟩
  rw [← hm, p64_pow]
  exact Nat.lt_of_lt_of_le (dgv_lt s hd k hk) (two_pow_le (by omega))

set_option maxRecDepth 8000 in
/-- slow.big.read into a number that is zero -/
theorem read_V {w : World} {R : Nat} (b : BigV w R 0) (s : ByteArray) (hd : Digs s) (hs : s.size ≤ 800) :
    Calls Oafg.prog 95 #[.pointer (some ⟨R, 0, none⟩), .string s] w fun e w' => (∃ v, e = .returned v) ∧ BigV w' R (dgv s s.size) ∧ Only R w w' := by
  have HD : Hid _ := hd
  have H0 : Hid _ := b
  clear hd b
  go_enter Oafg.func95, Oafg.ntmps95
  go_wp2
  go_loopw [4] (fun i wr => ∃ k : Nat, k ≤ s.size ∧ i = .int .i64 k ∧ Hid (BigV wr R (dgv s k)) ∧ Hid (Only R w wr)) (fun i _ => s.size - (intOf i).toNat)
  case atStart => exact ⟨0, Nat.zero_le _, rfl, H0, Only.refl _ _⟩
  case round =>
    obtain ⟨k, hk, rfl, hM, hO⟩ := hrel
    by_cases c : k < s.size
    · go_wp2
      go_loop [4, 5, 6, 7] (fun i v p j => ∃ t a b : Nat, t ≤ 19 ∧ k + t ≤ s.size ∧ i = .int .i64 ((k + t : Nat) : Int) ∧ v = .int .u64 a ∧ p = .int .u64 b ∧ j = .int .i64 t ∧ a < b ∧ b ≤ 10000000000000000000 ∧ Hid (dgv s (k + t) = dgv s k * b + a ∧ b = 10 ^ t) ∧ Hid (t = 0 → k < s.size)) (fun _ _ _ j => 19 - (intOf j).toNat)
      case atStart => exact ⟨0, 0, 1, by decide, by omega, rfl, rfl, rfl, rfl, by decide, by decide, ⟨by simp, rfl⟩, fun _ => c⟩
      case round =>
        obtain ⟨t, a, b, ht, hkt, rfl, rfl, rfl, rfl, hab, hb9, hv, hpos⟩ := hrel
        by_cases d : t < 19 ∧ k + t < s.size
        · obtain ⟨d1, d2⟩ := d
          have hb10 : b * 10 ≤ 10000000000000000000 := by
            have : 10 ^ t ≤ 10 ^ 18 := Nat.pow_le_pow_right (by decide) (by omega)
            have h2 := hv.out.2
            omega
          go_wp2
          have hg := byt_get s (k + t) d2
          have hdd := HD.out (k + t) d2
          have hn : Hid (dgv s (k + (t + 1)) = dgv s k * (b * 10) + (10 * a + (byt s (k + t) - 48)) ∧ b * 10 = 10 ^ (t + 1)) := by
            obtain ⟨v1, v2⟩ := hv.out
            refine ⟨?_, by rw [v2, Nat.pow_succ]⟩
            show 10 * dgv s (k + t) + (byt s (k + t) - 48) = _
            rw [v1]
            generalize byt s (k + t) - 48 = y
            generalize dgv s k = z
            grind
          go_round
          case rel => exact ⟨t + 1, 10 * a + (byt s (k + t) - 48), b * 10, by omega, by omega, by go_num, by congr 1; rw [hg]; omega, by go_num, by go_num, by omega, hb10, hn, fun h => by omega⟩
          case measure => simp [intOf]; omega
        · have hb1 : 1 ≤ b := by rw [hv.out.2]; exact Nat.pow_pos (by decide)
          have MA := mulAdd_V hM.out b a (by omega) (by omega) (Or.inl hb1) (by rw [← hv.out.1]; exact dgv_fit s HD.out hs _ hkt)
          rw [← hv.out.1] at MA
          have HMA : Hid _ := fun (_ : Unit) => MA
          have htp : 0 < t := by
            have := hpos.out
            omega
          clear MA hv hpos
          go_upto_region 9 with fail
          all_goals
            go_wp2_with (go_at_call 96; refine (HMA.out ()).mono ?_; rintro e w2 ⟨⟨v, rfl⟩, hB2, hO2⟩)
            go_roundw
            case rel => exact ⟨k + t, hkt, by go_num, hB2, hO.out.trans hO2⟩
            case measure => simp [intOf]; omega
    · obtain rfl : k = s.size := by omega
      go_wp2
      go_end0
      exact ⟨⟨_, rfl⟩, hM.out, hO.out⟩

theorem bl_of {n k top low : Nat} (h : n = low + 2 ^ k * top) (ht : top ≠ 0) (hl : low < 2 ^ k) : bl n = k + bl top := by
  rw [h]; exact bl_top top low k ht hl

/-- slow.big.bits -/
theorem bits_V {w : World} {R N : Nat} (b : BigV w R N) :
    Calls Oafg.prog 157 #[.pointer (some ⟨R, 0, none⟩)] w fun e w' => e = .returned (.int .i64 (bl N : Nat)) ∧ Below w.heap.size w w' := by
  obtain ⟨n, ws, hB, hv, hz, ht⟩ := b.out
  have cn := hB.cn
  have h52 := hB.n52
  by_cases h0 : n = 0
  · have hN : N = 0 := by rw [← hv, lw_all ws n hz, h0]; rfl
    subst hN
    subst h0
    clear hB hv hz ht b
    go_enter Oafg.func157, Oafg.ntmps157
    go_wp2
    go_ret
    exact ⟨rfl, Below.refl _ _⟩
  · obtain ⟨k, rfl⟩ : ∃ k, n = k + 1 := ⟨n - 1, by omega⟩
    obtain ⟨x, hx, hlx, hcx, _⟩ := hB.get k (by omega)
    have hx0 : x ≠ 0 := by rw [hx]; exact ht h0
    have hN : N = lw (ws.take k) + 2 ^ (64 * k) * x := by rw [← hv, lw_all ws (k + 1) hz, lw_take_next, ← hx, p64_pow]
    have hbl := bl_of hN hx0 (by rw [← p64_pow]; exact lw_take_lt ws hB.lim k (by rw [hB.len]; omega))
    have hbx : bl x = x.log2 + 1 := by unfold bl; rw [if_neg hx0]
    have hlog : x.log2 < 64 := (Nat.log2_lt hx0).2 (by simpa using hlx)
    obtain ⟨V, hV⟩ : ∃ V, V = bl N := ⟨_, rfl⟩
    rw [← hV] at hbl ⊢
    obtain ⟨z, hz'⟩ : ∃ z, z = 63 - x.log2 := ⟨_, rfl⟩
    have T := fun ww => clz_pos x hlx (Nat.pos_of_ne_zero hx0) ww
    simp only [← hz'] at T
    have HT : Hid _ := T
    have hVz : V + z = 64 * (k + 1) := by omega
    have f1 : (64 : Int) * ((k : Int) + 1) - (z : Int) = (V : Int) := by omega
    have hk1 : ((k + 1 : Nat) : Int) - 1 = (k : Int) := by omega
    have hz64 : z < 64 := by omega
    have t0 : (((k + 1 : Nat) : Int) == 0) = false := by rw [beq_eq_false_iff_ne]; omega
    clear hB hv hz ht b hN hbl hbx hV hz' T hx hlog h0 hx0
    go_enter Oafg.func157, Oafg.ntmps157
    go_wp2
    go_quiet ((go_at_call 172; exact Calls.quiet_of_same ((HT.out _).mono fun e w' ⟨h1, h2⟩ => ⟨h1, h2.symm⟩)))
    go_wp2
    go_ret
    refine ⟨ret_int ?_, below_dN (Below.refl _ _) _⟩
    omega
end Go.Proofs.Ygcoaf
