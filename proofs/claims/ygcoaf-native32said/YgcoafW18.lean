/-
  WALKS, the eighteenth: jam, top, numberOf.
-/
import Derived.Test.YgcoafW14
import Derived.Test.YgcoafW16
namespace Go.Proofs.Ygcoaf
open Go.RowKit Go.Proofs.Ygcoaf.M

/-- what soft.jam gives: the leading 64 bits, the rest stuck to the lowest -/
def Jam (N : Nat) (exp : Int) (sig : Nat) (ex : Int) : Prop := sig = st (N * 2 ^ (127 - N.log2)) 18446744073709551616 ∧ ex = exp + 64 - (127 - N.log2 : Nat)

theorem log_two (h l : Nat) (h0 : h ≠ 0) (hl : l < 18446744073709551616) : (two h l).log2 = 64 + h.log2 := by
  have a := Nat.log2_self_le h0
  have b := Nat.lt_log2_self (n := h)
  have hz : two h l ≠ 0 := by unfold two; omega
  refine Nat.le_antisymm ?_ ?_
  · apply Nat.le_of_lt_succ
    rw [Nat.log2_lt hz, show Nat.succ (64 + h.log2) = (h.log2 + 1) + 64 by omega, Nat.pow_add _ _ 64, p64]
    unfold two
    generalize 2 ^ (h.log2 + 1) = P at *
    omega
  · rw [Nat.le_log2 hz, Nat.add_comm, Nat.pow_add, p64]
    unfold two
    generalize 2 ^ h.log2 = P at *
    omega

theorem log_up2 (N : Nat) (h0 : 0 < N) (hN : N < 340282366920938463463374607431768211456) : N * 2 ^ (127 - N.log2) < 340282366920938463463374607431768211456 := by
  have hl : N.log2 < 128 := (Nat.log2_lt (by omega)).2 (by rw [p128]; exact hN)
  have b := Nat.lt_log2_self (n := N)
  calc N * 2 ^ (127 - N.log2) < 2 ^ (N.log2 + 1) * 2 ^ (127 - N.log2) := Nat.mul_lt_mul_of_pos_right b (Nat.two_pow_pos _)
    _ = 340282366920938463463374607431768211456 := by rw [← Nat.pow_add, show N.log2 + 1 + (127 - N.log2) = 128 by omega]

theorem st_two (H L : Nat) (hL : L < 18446744073709551616) : st (two H L) 18446744073709551616 = if L = 0 then H else H ||| 1 := by
  have a : two H L / 18446744073709551616 = H := by unfold two; omega
  have b : two H L % 18446744073709551616 = L := by unfold two; omega
  by_cases c : L = 0
  · rw [if_pos c, st_even _ _ (by rw [b, c]), a]
  · rw [if_neg c, st_odd _ _ (by rw [b]; exact c), a, or_one]

theorem set2_cells {w1 : World} {b : Nat} {u v H L K : Value} (x0 : w1.cell? ⟨b, 0, none⟩ = some u) (x1 : w1.cell? ⟨b, 1, none⟩ = some v) :
    ((w1.setCell ⟨b, 0, none⟩ H).setCell ⟨b, 1, none⟩ L).cell? ⟨b, 0, none⟩ = some H ∧ ((w1.setCell ⟨b, 0, none⟩ H).setCell ⟨b, 1, none⟩ L).cell? ⟨b, 1, none⟩ = some L ∧ (((w1.setCell ⟨b, 0, none⟩ H).setCell ⟨b, 1, none⟩ L).setCell ⟨b, 0, none⟩ K).cell? ⟨b, 0, none⟩ = some K := by
  have y0 : (w1.setCell ⟨b, 0, none⟩ H).cell? ⟨b, 0, none⟩ = some H := World.cell?_setCell_same _ _ _ x0
  have y1 : (w1.setCell ⟨b, 0, none⟩ H).cell? ⟨b, 1, none⟩ = some v := by rw [World.cell?_setCell_other (h := by simp)]; exact x1
  have z0 : ((w1.setCell ⟨b, 0, none⟩ H).setCell ⟨b, 1, none⟩ L).cell? ⟨b, 0, none⟩ = some H := by rw [World.cell?_setCell_other (h := by simp)]; exact y0
  exact ⟨z0, World.cell?_setCell_same _ _ _ y1, World.cell?_setCell_same _ _ _ z0⟩

set_option maxHeartbeats 800000 in
/-- soft.jam -/
theorem jam_any (h l : Nat) (hh : h < 18446744073709551616) (hl : l < 18446744073709551616) (exp : Int) (he : -10000 ≤ exp ∧ exp ≤ 10000) (h0 : two h l ≠ 0) (w : World) :
    Calls Oafg.prog 168 #[.agg #[.int .u64 h, .int .u64 l], .int .i16 exp] w fun e w' => (∃ (sig : Nat) (ex : Int), e = .returned (.tuple #[.int .u64 sig, .int .i16 ex]) ∧ Jam (two h l) exp sig ex ∧ sig < 18446744073709551616) ∧ Below w.heap.size w w' := by
  obtain ⟨k, hk⟩ : ∃ k, k = 127 - (two h l).log2 := ⟨_, rfl⟩
  have hlog : (two h l).log2 < 128 := (Nat.log2_lt h0).2 (by rw [p128]; exact two_lt hh hl)
  have hk' : k < 128 := by omega
  have hup := log_up2 _ (Nat.pos_of_ne_zero h0) (two_lt hh hl)
  rw [← hk] at hup
  obtain ⟨H, L, hV, hH, hL⟩ := two_parts (two h l * 2 ^ k) hup
  have S2 : Hid (∀ w, Calls Oafg.prog 174 #[.agg #[.int .u64 h, .int .u64 l], .int .u8 k] w fun e w' => e = .returned (.agg #[.int .u64 H, .int .u64 L]) ∧ Below w.heap.size w w') := fun w => by
    refine (shl_any h l k hl (by omega) w).mono ?_
    rintro e w' ⟨⟨a, b, rfl, e1, e2, e3⟩, hb⟩
    rw [Nat.mod_eq_of_lt hup] at e1
    obtain ⟨rfl, rfl⟩ := two_inj e3 hL (e1.trans hV.symm)
    exact ⟨rfl, hb⟩
  have x1 : bits .or .u64 (H : Int) 1 = ((H ||| 1 : Nat) : Int) := or64 H 1 1 (by simp) hH (by decide)
  have x2 : H ||| 1 < 18446744073709551616 := Nat.lt_of_lt_of_eq (Nat.or_lt_two_pow (n := 64) (Nat.lt_of_lt_of_eq hH (by decide)) (by decide)) (by decide)
  have hst := st_two H L hL
  rw [hV] at hst
  obtain ⟨ex, hex⟩ : ∃ ex : Int, ex = exp + 64 - (k : Int) := ⟨_, rfl⟩
  have x3 : exp + 64 - (k : Int) = ex := hex.symm
  have y1 : IntKind.i16.wrap (k : Int) = (k : Int) := by rw [wrap_i16]; omega
  have y2 : IntKind.i16.wrap (exp + 64) = exp + 64 := by rw [wrap_i16]; omega
  have y3 : IntKind.i16.wrap ex = ex := by rw [wrap_i16]; omega
  have J1 : Hid (L = 0 → Jam (two h l) exp H ex) := fun c => ⟨by rw [← hk, hst, if_pos c], by rw [← hk, hex]⟩
  have J2 : Hid (L ≠ 0 → Jam (two h l) exp (H ||| 1) ex) := fun c => ⟨by rw [← hk, hst, if_neg c], by rw [← hk, hex]⟩
  generalize H ||| 1 = H' at *
  have K1 : Hid (h ≠ 0 → k = 63 - h.log2) := fun c => by rw [hk, log_two h l c hl]; omega
  have K2 : Hid (h = 0 → l ≠ 0 ∧ k = 64 + (63 - l.log2)) := fun c => by
    have e : two h l = l := by rw [c]; unfold two; omega
    have hl0 : l ≠ 0 := by rw [← e]; exact h0
    refine ⟨hl0, ?_⟩
    rw [hk, e]
    have : l.log2 < 64 := (Nat.log2_lt hl0).2 (by rw [p64]; exact hl)
    omega
  clear hst hex hV hup hlog hk
  by_cases c : h = 0
  · obtain ⟨k1, k2⟩ := K2.out c
    subst c
    have Z := fun w => clz_pos l hl (by omega) w
    have z1 : (64 : Int) + ((63 - l.log2 : Nat) : Int) = (k : Int) := by omega
    generalize 63 - l.log2 = k0 at *
    have HZ : Hid _ := Z
    have z2 : k0 < 256 := by omega
    clear Z K1 K2 k2
    go_enter Oafg.func168, Oafg.ntmps168
    go_wp2_with (first
      | (go_at_call_of 172 (Value.int .u64 0); refine (clz_zero _).mono ?_; rintro e w1 ⟨rfl, rfl⟩)
      | (go_at_call 172; refine (HZ.out _).mono ?_; rintro e w1 ⟨rfl, rfl⟩)
      | (go_at_call 174; refine (S2.out _).mono ?_; rintro e w1 ⟨rfl, hb1⟩; obtain ⟨hc, hf⟩ := bcell hb1; have hlt := size1 hb1; have q0 : w1.cell? ⟨w.heap.size, 0, none⟩ = some (.int .u64 0) := (by rw [hc _ _ (by simp)]; simp [go_sem]); have q1 : w1.cell? ⟨w.heap.size, 1, none⟩ = some (.int .u64 l) := (by rw [hc _ _ (by simp)]; simp [go_sem]); obtain ⟨q2, q3, q4⟩ := set2_cells (H := .int .u64 H) (L := .int .u64 L) (K := .int .u64 H') q0 q1))
    · have hB := below1 hb1
      exact bodyPost_ret (v := .tuple #[.int .u64 H', .int .i16 ex]) (by simp [results, Oafg.results168, go_sem]) rfl ⟨⟨H', ex, rfl, J2.out (by simp_all), x2⟩, ((hB.setCell (Nat.le_refl _) _).setCell (Nat.le_refl _) _).setCell (Nat.le_refl _) _⟩
    · have hB := below1 hb1
      exact bodyPost_ret (v := .tuple #[.int .u64 H, .int .i16 ex]) (by simp [results, Oafg.results168, go_sem]) rfl ⟨⟨H, ex, rfl, J1.out (by simp_all), hH⟩, (hB.setCell (Nat.le_refl _) _).setCell (Nat.le_refl _) _⟩
  · have k2 := K1.out c
    have Z := fun w => clz_pos h hh (by omega) w
    rw [← k2] at Z
    have HZ : Hid _ := Z
    have z2 : ((h : Int) == 0) = false := by rw [beq_eq_false_iff_ne]; omega
    clear Z K1 K2 k2 c
    go_enter Oafg.func168, Oafg.ntmps168
    go_wp2_with (first
      | (go_at_call 172; refine (HZ.out _).mono ?_; rintro e w1 ⟨rfl, rfl⟩)
      | (go_at_call 174; refine (S2.out _).mono ?_; rintro e w1 ⟨rfl, hb1⟩; obtain ⟨hc, hf⟩ := bcell hb1; have hlt := size1 hb1; have q0 : w1.cell? ⟨w.heap.size, 0, none⟩ = some (.int .u64 h) := (by rw [hc _ _ (by simp)]; simp [go_sem]); have q1 : w1.cell? ⟨w.heap.size, 1, none⟩ = some (.int .u64 l) := (by rw [hc _ _ (by simp)]; simp [go_sem]); obtain ⟨q2, q3, q4⟩ := set2_cells (H := .int .u64 H) (L := .int .u64 L) (K := .int .u64 H') q0 q1))
    · have hB := below1 hb1
      exact bodyPost_ret (v := .tuple #[.int .u64 H', .int .i16 ex]) (by simp [results, Oafg.results168, go_sem]) rfl ⟨⟨H', ex, rfl, J2.out (by simp_all), x2⟩, ((hB.setCell (Nat.le_refl _) _).setCell (Nat.le_refl _) _).setCell (Nat.le_refl _) _⟩
    · have hB := below1 hb1
      exact bodyPost_ret (v := .tuple #[.int .u64 H, .int .i16 ex]) (by simp [results, Oafg.results168, go_sem]) rfl ⟨⟨H, ex, rfl, J1.out (by simp_all), hH⟩, (hB.setCell (Nat.le_refl _) _).setCell (Nat.le_refl _) _⟩
end Go.Proofs.Ygcoaf
