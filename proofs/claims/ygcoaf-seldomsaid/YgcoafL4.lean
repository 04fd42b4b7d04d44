/-
  tab.low128.
-/
import Derived.Test.YgcoafL1
import Derived.Test.YgcoafW13
namespace Go.Proofs.Ygcoaf
open Go.RowKit Go.Proofs.Ygcoaf.M

/-- what low128's loop holds -/
structure LW (w wr : World) (R2 R3 : Nat) (xs : List Nat) (i : Nat) : Prop where
  bel : Below w.heap.size w wr
  o2 : w.heap.size ≤ R2
  o3 : w.heap.size ≤ R3
  ne : R3 ≠ R2
  cell : ∀ j, j < 4 → wr.cell? ⟨R3, j, none⟩ = some (.int .u64 ((if j < i then xs.getD j 0 else 0 : Nat) : Int))
  fz : ∀ j, wr.frozen? ⟨R3, j, none⟩ = false
  z0 : wr.cell? ⟨R2, 0, none⟩ = some (.int .u64 0)
  z1 : wr.cell? ⟨R2, 1, none⟩ = some (.int .u64 0)
  f0 : wr.frozen? ⟨R2, 0, none⟩ = false
  f1 : wr.frozen? ⟨R2, 1, none⟩ = false
theorem LW.step {w wr : World} {R2 R3 : Nat} {xs : List Nat} {i : Nat} (s : LW w wr R2 R3 xs i) (hi : i < 4) : LW w (wr.setCell ⟨R3, i, none⟩ (.int .u64 ((xs.getD i 0 : Nat) : Int))) R2 R3 xs (i + 1) := by
  refine ⟨s.bel.setCell (by exact s.o3) _, s.o2, s.o3, s.ne, fun j hj => ?_, fun j => by rw [World.frozen?_setCell]; exact s.fz j, ?_, ?_, by rw [World.frozen?_setCell]; exact s.f0, by rw [World.frozen?_setCell]; exact s.f1⟩
  · by_cases e : i = j
    · subst e
      rw [World.cell?_setCell_same _ _ _ (s.cell i hi), if_pos (by omega)]
    · rw [World.cell?_setCell_other (h := fun h => absurd (congrArg Addr.off h) (by show ¬ (i = j); omega)), s.cell j hj]
      by_cases c : j < i
      · rw [if_pos c, if_pos (by omega)]
      · rw [if_neg c, if_neg (by omega)]
  · rw [World.cell?_setCell_far _ _ _ _ (by show R3 ≠ R2; exact s.ne)]; exact s.z0
  · rw [World.cell?_setCell_far _ _ _ _ (by show R3 ≠ R2; exact s.ne)]; exact s.z1

theorem lv_four (xs : List Nat) (h : xs.length ≤ 4) : lv xs = xs.getD 0 0 + 4294967296 * xs.getD 1 0 + 18446744073709551616 * xs.getD 2 0 + 79228162514264337593543950336 * xs.getD 3 0 := by
  match xs, h with
  | [], _ => rfl
  | [a], _ => simp [lv]
  | [a, b], _ => simp [lv]
  | [a, b, c], _ => simp [lv]; omega
  | [a, b, c, d], _ => simp [lv]; omega

theorem lim_getD {xs : List Nat} (h : Lim xs) (i : Nat) : xs.getD i 0 < 4294967296 := by
  by_cases c : i < xs.length
  · exact h i c
  · rw [List.getD_eq_getElem?_getD, List.getElem?_eq_none (by omega)]; decide

theorem or_words (a b : Nat) (ha : a < 4294967296) (hb : b < 4294967296) : bits .or .u64 ((a : Int) * 4294967296) (b : Int) = ((a * 4294967296 + b : Nat) : Int) := by
  have := u64_or_nat (a * 4294967296) b (by omega) (by omega)
  rw [Int.natCast_mul] at this
  rw [show ((4294967296 : Nat) : Int) = 4294967296 from rfl] at this
  rw [this, Nat.or_comm, show a * 4294967296 = a * 2 ^ 32 by simp, or_low b a 32 (by omega), Nat.add_comm]

set_option maxRecDepth 8000 in
set_option maxHeartbeats 1000000 in
/-- tab.low128 -/
theorem low128_nat {w : World} {v : Value} {n : Nat} (s : NatV w v n) (hn : n < 340282366920938463463374607431768211456) :
    Calls Oafg.prog 147 #[v] w fun e w' => (∃ h l : Nat, e = .returned (.agg #[.int .u64 h, .int .u64 l]) ∧ two h l = n ∧ h < 18446744073709551616 ∧ l < 18446744073709551616) ∧ Below w.heap.size w w' := by
  obtain ⟨ad, cap, xs, rfl, hSL, hlv, hlen, _, hlow⟩ := s.size (Nat.le_trans (bl_le n 128 hn) (by decide))
  have h4 : xs.length ≤ 4 := by
    rcases Nat.lt_or_ge 4 xs.length with c | c
    · have := hlow 4 c
      have e : (4294967296 : Nat) ^ 4 = 340282366920938463463374607431768211456 := by decide
      omega
    · exact c
  have h4v := lv_four xs h4
  rw [hlv] at h4v
  have l0 := lim_getD hSL.lim 0
  have l1 := lim_getD hSL.lim 1
  have l2 := lim_getD hSL.lim 2
  have l3 := lim_getD hSL.lim 3
  obtain ⟨x0, hx0⟩ : ∃ x, x = xs.getD 0 0 := ⟨_, rfl⟩
  obtain ⟨x1, hx1⟩ : ∃ x, x = xs.getD 1 0 := ⟨_, rfl⟩
  obtain ⟨x2, hx2⟩ : ∃ x, x = xs.getD 2 0 := ⟨_, rfl⟩
  obtain ⟨x3, hx3⟩ : ∃ x, x = xs.getD 3 0 := ⟨_, rfl⟩
  rw [← hx0, ← hx1, ← hx2, ← hx3] at h4v
  rw [← hx0] at l0
  rw [← hx1] at l1
  rw [← hx2] at l2
  rw [← hx3] at l3
  obtain ⟨hi, hhi⟩ : ∃ hi, hi = x3 * 4294967296 + x2 := ⟨_, rfl⟩
  obtain ⟨lo', hlo⟩ : ∃ lo', lo' = x1 * 4294967296 + x0 := ⟨_, rfl⟩
  have g1 := or_words x3 x2 l3 l2
  have g2 := or_words x1 x0 l1 l0
  rw [← hhi] at g1
  rw [← hlo] at g2
  have HF : Hid (two hi lo' = n ∧ hi < 18446744073709551616 ∧ lo' < 18446744073709551616) := by
    show _ ∧ _ ∧ _
    unfold two
    refine ⟨?_, ?_, ?_⟩ <;> omega
  obtain ⟨len, hl⟩ : ∃ len, len = xs.length := ⟨_, rfl⟩
  rw [← hl]
  rw [← hl] at h4
  have HSL : Hid _ := hSL
  have Hlen : Hid _ := hl
  have HX : Hid (x0 = xs.getD 0 0 ∧ x1 = xs.getD 1 0 ∧ x2 = xs.getD 2 0 ∧ x3 = xs.getD 3 0) := ⟨hx0, hx1, hx2, hx3⟩
  have H0 : Hid (LW w ((w.alloc (.cells #[.int .u64 0, .int .u64 0] 111)).alloc (.cells #[.int .u64 0, .int .u64 0, .int .u64 0, .int .u64 0] 203)) w.heap.size (w.heap.size + 1) xs 0) := by
    refine ⟨self2, Nat.le_refl _, by omega, by omega, fun j hj => ?_, fun j => by simp [go_sem], by simp [go_sem], by simp [go_sem], by simp [go_sem], by simp [go_sem]⟩
    obtain rfl | rfl | rfl | rfl : j = 0 ∨ j = 1 ∨ j = 2 ∨ j = 3 := by omega
    all_goals simp [go_sem]
  clear hSL hlv hlen hlow h4v hx0 hx1 hx2 hx3 hhi hlo hl s
  go_enter Oafg.func147, Oafg.ntmps147
  go_wp2
  generalize hW : (w.alloc (.cells #[.int .u64 0, .int .u64 0] 111)).alloc (.cells #[.int .u64 0, .int .u64 0, .int .u64 0, .int .u64 0] 203) = W at H0 ⊢
  obtain ⟨R3, hR3⟩ : ∃ R, R = w.heap.size + 1 := ⟨_, rfl⟩
  obtain ⟨R2, hR2⟩ : ∃ R, R = w.heap.size := ⟨_, rfl⟩
  rw [← hR3, ← hR2] at H0
  simp only [← hR3]
  simp only [← hR2]
  clear hW hR3 hR2
  go_loopw [8] (fun i wr => ∃ t : Nat, t ≤ len ∧ i = .int .i64 t ∧ Hid (LW w wr R2 R3 xs t)) (fun i _ => (len - (intOf i).toNat))
  case atStart => exact ⟨0, Nat.zero_le _, rfl, H0⟩
  case round =>
    obtain ⟨t, ht, rfl, hM⟩ := hrel
    by_cases c : t < len
    · obtain ⟨b, off, rfl, hc⟩ := HSL.out.cell t (by rw [← Hlen.out]; exact c)
      have hb9 := World.block_lt_of_cell? _ _ hc
      have hcw : wr.cell? ⟨b, off + t, none⟩ = some (.int .u32 (xs.getD t 0)) := by rw [hM.out.bel.cell hb9]; exact hc
      have hlt := lim_getD HSL.out.lim t
      have hN : Hid _ := hM.out.step (by omega)
      have hct := hM.out.cell t (by omega)
      have hft := hM.out.fz t
      have hcap := HSL.out.fits
      rw [← Hlen.out] at hcap
      obtain ⟨y, hy⟩ : ∃ y, y = xs.getD t 0 := ⟨_, rfl⟩
      rw [← hy] at hcw hlt hN
      obtain ⟨q, hq⟩ : ∃ q : Nat, q = if t < t then xs.getD t 0 else 0 := ⟨_, rfl⟩
      rw [← hq] at hct
      have f1 : bits .and .i64 (t : Int) 3 = (t : Int) := by
        obtain rfl | rfl | rfl | rfl : t = 0 ∨ t = 1 ∨ t = 2 ∨ t = 3 := by omega
        all_goals rfl
      clear hc hb9 hM hy hq
      go_wp2
      go_roundw
      case rel => exact ⟨t + 1, by omega, by go_num, hN⟩
      case measure => simp [intOf]; omega
    · obtain rfl : t = len := by omega
      have hcell : ∀ j, j < 4 → wr.cell? ⟨R3, j, none⟩ = some (.int .u64 ((xs.getD j 0 : Nat) : Int)) := fun j hj => by
        rw [hM.out.cell j hj]
        by_cases c9 : j < t
        · rw [if_pos c9]
        · rw [if_neg c9, List.getD_eq_getElem?_getD, List.getElem?_eq_none (by rw [← Hlen.out]; omega)]; rfl
      obtain ⟨y0, y1, y2, y3⟩ := HX.out
      have k0 := hcell 0 (by decide)
      have k1 := hcell 1 (by decide)
      have k2 := hcell 2 (by decide)
      have k3 := hcell 3 (by decide)
      rw [← y0] at k0
      rw [← y1] at k1
      rw [← y2] at k2
      rw [← y3] at k3
      have q0 := hM.out.z0
      have q1 := hM.out.z1
      have q2 := hM.out.f0
      have q3 := hM.out.f1
      have HB : Hid _ := hM.out.bel
      have Ho2 : Hid _ := hM.out.o2
      clear hcell y0 y1 y2 y3 hM HX c
      go_wp2
      exact bodyPost_ret (v := .agg #[.int .u64 hi, .int .u64 lo']) (by simp [results, Oafg.results147, go_sem, q0, q1]) rfl ⟨⟨_, _, rfl, HF.out⟩, below_set2 _ _ HB.out Ho2.out⟩
end Go.Proofs.Ygcoaf
