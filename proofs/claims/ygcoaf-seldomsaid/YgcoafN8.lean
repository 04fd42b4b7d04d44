/-
  nat.lift, Shl.
-/
import Derived.Test.YgcoafN7
namespace Go.Proofs.Ygcoaf
open Go.RowKit

/-- what lift's loop holds: m limbs and s bits -/
structure LiftI (w wr : World) (R : Nat) (xs : List Nat) (m s i : Nat) : Prop where
  out : ∃ cs, Own w wr R cs ∧ cs.length = xs.length + m + 1 ∧ lv cs = lv (xs.take i) * 2 ^ (32 * m + s) ∧ cs.getD (i + m) 0 < 2 ^ s ∧ ∀ t, i + m < t → cs.getD t 0 = 0

theorem LiftI.below {w wr : World} {R : Nat} {xs : List Nat} {m s i : Nat} (o : LiftI w wr R xs m s i) : Below w.heap.size w wr := by
  obtain ⟨cs, h1, _⟩ := o.out; exact h1.below

theorem or_low (a y s : Nat) (h : a < 2 ^ s) : a ||| (y * 2 ^ s) = a + y * 2 ^ s := by
  rw [Nat.or_comm, Nat.mul_comm, ← Nat.two_pow_add_eq_or_of_lt h]; omega

theorem lift_parts (x s : Nat) (hx : x < 4294967296) (hs : s < 32) : ∃ y, x * 2 ^ s % 4294967296 = y * 2 ^ s ∧ x * 2 ^ s / 4294967296 < 2 ^ s ∧ x * 2 ^ s < 18446744073709551616 := by
  have e : 4294967296 = 2 ^ (32 - s) * 2 ^ s := by rw [← Nat.pow_add, show 32 - s + s = 32 from by omega]
  refine ⟨x % 2 ^ (32 - s), ?_, ?_, ?_⟩
  · rw [e, Nat.mul_mod_mul_right]
  · rw [Nat.div_lt_iff_lt_mul (by decide), Nat.mul_comm]
    exact Nat.mul_lt_mul_of_pos_left hx (Nat.two_pow_pos s)
  · have : 2 ^ s ≤ 2 ^ 32 := two_pow_le (by omega)
    calc x * 2 ^ s ≤ 4294967295 * 2 ^ 32 := Nat.mul_le_mul (by omega) this
      _ < _ := by decide

theorem LiftI.step {w wr : World} {R : Nat} {xs : List Nat} {m s i : Nat} (o : LiftI w wr R xs m s i) (hL : Lim xs) (hi : i < xs.length) (hs : s < 32) :
    ∃ c : Nat, c < 4294967296 ∧ wr.cell? ⟨R, i + m, none⟩ = some (.int .u32 c) ∧ wr.frozen? ⟨R, i + m, none⟩ = false ∧
      ∀ lo hi r, lo = xs.getD i 0 * 2 ^ s % 4294967296 → hi = xs.getD i 0 * 2 ^ s / 4294967296 → r = c ||| lo → r < 4294967296 ∧ (wr.setCell ⟨R, i + m, none⟩ (.int .u32 r)).cell? ⟨R, i + m + 1, none⟩ = some (.int .u32 0) ∧ wr.frozen? ⟨R, i + m + 1, none⟩ = false ∧ LiftI w ((wr.setCell ⟨R, i + m, none⟩ (.int .u32 r)).setCell ⟨R, i + m + 1, none⟩ (.int .u32 hi)) R xs m s (i + 1) := by
  obtain ⟨cs, h1, h2, h3, h4, h5⟩ := o.out
  obtain ⟨c, hc, hlt, hcell, hfz⟩ := h1.cell (i + m) (by omega)
  obtain ⟨c2, hc2, hlt2, hcell2, hfz2⟩ := h1.cell (i + m + 1) (by omega)
  have hx := hL i hi
  have htk := lv_take_succ xs i hi
  obtain ⟨x, hxe⟩ : ∃ x, x = xs.getD i 0 := ⟨_, rfl⟩
  rw [← hxe] at hx htk
  obtain ⟨y, e1, e2, e3⟩ := lift_parts x s hx hs
  have hz := h5 (i + m + 1) (by omega)
  rw [hz] at hc2
  subst hc2
  refine ⟨c, hlt, hcell, hfz, fun lo hi' r hlo hhi hr => ?_⟩
  rw [← hxe] at hlo hhi
  have hr1 : r < 4294967296 := by
    have : c ||| lo < 2 ^ 32 := Nat.or_lt_two_pow (by simpa using hlt) (by rw [hlo]; exact Nat.mod_lt _ (by decide))
    rw [hr]; simpa using this
  have hr2 : r = c + lo := by
    rw [hr, hlo, e1]; exact or_low c y s (by rw [hc]; exact h4)
  have hhl : hi' < 4294967296 := by
    have : 2 ^ s ≤ 2 ^ 32 := two_pow_le (by omega)
    rw [hhi]; exact Nat.lt_of_lt_of_le e2 (by simpa using this)
  refine ⟨hr1, by rw [World.cell?_setCell_other (h := fun c => absurd (congrArg Addr.off c) (by show ¬ (i + m = i + m + 1); omega))]; exact hcell2, hfz2, (cs.set (i + m) r).set (i + m + 1) hi', (h1.set _ _ (by omega) hr1).set _ _ (by rw [List.length_set]; omega) hhl, by rw [List.length_set, List.length_set]; exact h2, ?_, ?_, fun t ht => ?_⟩
  · have a1 := lv_set cs (i + m) r (by omega)
    have a2 := lv_set (cs.set (i + m) r) (i + m + 1) hi' (by rw [List.length_set]; omega)
    rw [getD_set_ne _ _ _ _ (by omega), hz] at a2
    rw [← hc] at a1
    have a3 := Nat.div_add_mod (x * 2 ^ s) 4294967296
    rw [← hlo, ← hhi] at a3
    rw [htk]
    have a4 : 4294967296 ^ (i + m) = 4294967296 ^ i * 2 ^ (32 * m) := by rw [Nat.pow_add, limb_pow m]
    have a5 : 4294967296 ^ (i + m + 1) = 4294967296 ^ i * 2 ^ (32 * m) * 4294967296 := by rw [Nat.pow_succ, a4]
    rw [a4] at a1
    rw [a5] at a2
    rw [Nat.pow_add] at h3 ⊢
    rw [hr2] at a1
    generalize lv ((cs.set (i + m) r).set (i + m + 1) hi') = L2 at *
    rw [hr2] at a2
    generalize lv (cs.set (i + m) (c + lo)) = L1 at *
    generalize lv cs = L at *
    generalize lv (xs.take i) = X at *
    generalize 4294967296 ^ i = P at *
    generalize 2 ^ (32 * m) = Q at *
    generalize 2 ^ s = S at *
    clear e1 hlo hhi h4 e2 e3 hr
    grind
  · rw [show i + 1 + m = i + m + 1 from by omega, getD_set_eq _ _ _ (by rw [List.length_set]; omega), hhi]; exact e2
  · rw [getD_set_ne _ _ _ _ (by omega), getD_set_ne _ _ _ _ (by omega)]; exact h5 t (by omega)

set_option maxRecDepth 8000 in
/-- nat.lift -/
theorem lift_nat {w : World} {v : Value} {n : Nat} (k : Nat) (hk : k ≤ 100000) (s1 : NatV w v n) (b1 : bl n ≤ 1000000) :
    Calls Oafg.prog 190 #[v, .int .i64 k] w fun e w' => (∃ v, e = .returned v ∧ NatV w' v (n * 2 ^ k)) ∧ Below w.heap.size w w' := by
  have T1 : Hid _ := fun (_ : Unit) => trim_nat s1
  have qE := eqNil
  by_cases hn : n = 0
  · subst hn
    go_enter Oafg.func190, Oafg.ntmps190
    go_wp2_with (go_at_call 136; refine (T1.out ()).mono ?_; rintro e w1 ⟨⟨v', rfl, hN⟩, hw⟩; subst hw; obtain rfl := hN.zero)
    go_ret
    exact ⟨⟨_, rfl, by rw [Nat.zero_mul]; exact natV_nil _⟩, Below.refl _ _⟩
  obtain ⟨V, hV⟩ : ∃ V, V = n * 2 ^ k := ⟨_, rfl⟩
  rw [← hV]
  have HV : Hid _ := hV
  obtain ⟨m, hm⟩ : ∃ m, m = k / 32 := ⟨_, rfl⟩
  obtain ⟨s, hs⟩ : ∃ s, s = k % 32 := ⟨_, rfl⟩
  have f1 : (k : Int).tdiv 32 = (m : Int) := by rw [hm]; simp
  have f2 : (k : Int).tmod 32 = (s : Int) := by rw [hs]; simp [Int.tmod_eq_emod_of_nonneg]
  have hs32 : s < 32 := by omega
  have hm2 : m ≤ 100000 := by omega
  have hks : k = 32 * m + s := by omega
  have Hks : Hid _ := hks
  clear hV hm hs hks
  go_enter Oafg.func190, Oafg.ntmps190
  go_upto_region 2 with (go_at_call 136; refine (T1.out ()).mono ?_; rintro e w1 ⟨⟨u1, rfl, hN1⟩, hw1⟩; subst hw1)
  obtain ⟨b0, off0, cap0, _, hsome, _⟩ := hN1.pos hn
  obtain ⟨ad1, cap1, xs, rfl, hs1, hl1, hlen1⟩ := hN1.few b1
  obtain ⟨la, hla⟩ : ∃ la, la = xs.length := ⟨_, rfl⟩
  obtain ⟨w2, hmk, hown⟩ := mkOwn w1 w1 (la + m + 1) (by omega) (Below.refl _ _)
  have hmk' : (Instr.makeSlice 64 (.int .i64 ((la : Int) + (m : Int) + 1)) (.int .i64 ((la : Int) + (m : Int) + 1))).run Oafg.prog w1 = .ok (.slice (some ⟨w1.heap.size, 0, none⟩) ((la + m + 1 : Nat)) ((la + m + 1 : Nat))) w2 := hmk
  obtain ⟨R, hR⟩ : ∃ R, R = w1.heap.size := ⟨_, rfl⟩
  rw [← hR] at hmk' hown
  have H0 : Hid (LiftI w1 w2 R xs m s 0) := by
    refine ⟨_, hown, by rw [List.length_replicate]; omega, by simp [lv_zeros, lv], by rw [getD_zeros]; exact Nat.two_pow_pos _, fun t _ => getD_zeros _ _⟩
  have HS1 : Hid _ := hs1
  have HL1 : Hid _ := hl1
  have Hla : Hid _ := hla
  have had : ad1 = some ⟨b0, off0, none⟩ := by injection hsome
  subst had
  rw [← hla] at hlen1 ⊢
  clear hsome
  clear hs1 hl1 hN1 hown hmk hla T1 s1 hR
  go_wp2
  go_loopw [27] (fun i wr => ∃ k : Nat, k ≤ la ∧ i = .int .i64 k ∧ Hid (LiftI w1 wr R xs m s k)) (fun i _ => la - (intOf i).toNat)
  case atStart => exact ⟨0, Nat.zero_le _, rfl, H0⟩
  case round =>
    obtain ⟨i, hi, rfl, hM⟩ := hrel
    by_cases c : i < la
    · have hil : i < xs.length := by have := Hla.out; omega
      obtain ⟨_, _, x, e, hx1, hx2, hcx⟩ := HS1.out.now (hM.out.below) i hil
      cases e
      obtain ⟨c1, hc1, hcell, hfz, hnext⟩ := hM.out.step HS1.out.lim hil hs32
      rw [← hx1] at hnext
      obtain ⟨y, _, e2, e3⟩ := lift_parts x s hx2 hs32
      obtain ⟨wd, hwd⟩ : ∃ wd, wd = x * 2 ^ s := ⟨_, rfl⟩
      rw [← hwd] at hnext e2 e3
      obtain ⟨lo, hlo⟩ : ∃ lo, lo = wd % 4294967296 := ⟨_, rfl⟩
      obtain ⟨hh, hhh⟩ : ∃ hh, hh = wd / 4294967296 := ⟨_, rfl⟩
      obtain ⟨r, hr⟩ : ∃ r, r = c1 ||| lo := ⟨_, rfl⟩
      obtain ⟨g1, g2, g3, g4⟩ := hnext lo hh r hlo hhh hr
      have f3 : (x : Int) * 2 ^ s = (wd : Int) := by rw [hwd]; simp
      have f4 : IntKind.u32.wrap (wd : Int) = (lo : Int) := by rw [IntKind.wrap_u32]; omega
      have f5 : (wd : Int) / 4294967296 = (hh : Int) := by omega
      have f6 : bits .or .u32 (c1 : Int) (lo : Int) = (r : Int) := by rw [hr]; exact u32_or_nat c1 lo hc1 (by omega)
      have hh2 : hh < 4294967296 := by omega
      have HN : Hid _ := g4
      clear hnext hx1 hM hwd hlo hhh hr g4 e2
      go_wp2
      go_roundw
      case rel => exact ⟨i + 1, by omega, by go_num, HN⟩
      case measure => simp [intOf]; omega
    · obtain rfl : i = la := by omega
      obtain ⟨cs, ho, hlc2, hval, _⟩ := hM.out.out
      have htr := trim_own ho (by have := Hla.out; omega)
      rw [hlc2, hval, Hla.out, List.take_length, HL1.out, ← Hks.out, ← HV.out, ← Hla.out] at htr
      have HTR : Hid _ := fun (_ : Unit) => htr
      clear htr hval hlc2 ho hM
      go_wp2_with (go_at_call 136; refine (HTR.out ()).mono ?_; rintro e w3 ⟨⟨v, rfl, hN⟩, hb⟩)
      go_ret
      exact ⟨⟨v, rfl, hN⟩, hb⟩

/-- nat.Shl -/
theorem shl_nat {w : World} {v : Value} {n : Nat} (k : Nat) (hk : k ≤ 60000) (s1 : NatV w v n) (b1 : bl n ≤ 1000000) :
    Calls Oafg.prog 146 #[v, .int .u16 k] w fun e w' => (∃ v, e = .returned v ∧ NatV w' v (n * 2 ^ k)) ∧ Below w.heap.size w w' := by
  have T1 : Hid _ := fun (_ : Unit) => lift_nat k (by omega) s1 b1
  go_enter Oafg.func146, Oafg.ntmps146
  go_wp2_with (go_at_call 190; refine (T1.out ()).mono ?_; rintro e w1 ⟨⟨v', rfl, hN⟩, hb⟩)
  go_ret
  exact ⟨⟨_, rfl, hN⟩, hb⟩
end Go.Proofs.Ygcoaf
