/-
  WALKS, the fourteenth: words of 128 bits compared, added, shifted with a sticky bit.
-/
import Derived.Test.YgcoafW13
namespace Go.Proofs.Ygcoaf
open Go.RowKit Go.Proofs.Ygcoaf.M

/-- how two numbers stand -/
def cmpW (a b : Nat) : Int := if a < b then -1 else if a = b then 0 else 1

/-- wide.Cmp -/
theorem wcmp_any (h l h' l' : Nat) (hl : l < 18446744073709551616) (hl' : l' < 18446744073709551616) (w : World) :
    Calls Oafg.prog 175 #[.agg #[.int .u64 h, .int .u64 l], .agg #[.int .u64 h', .int .u64 l']] w fun e w' => e = .returned (.int .i8 (cmpW (two h l) (two h' l'))) ∧ Below w.heap.size w w' := by
  have hF : cmpW (two h l) (two h' l') = if (h < h' ∨ (h = h' ∧ l < l')) then -1 else if (h = h' ∧ l = l') then 0 else 1 := by
    unfold cmpW two
    by_cases c1 : h < h' ∨ (h = h' ∧ l < l')
    · rw [if_pos (by omega), if_pos c1]
    · rw [if_neg (by omega), if_neg c1]
      by_cases c2 : h = h' ∧ l = l'
      · rw [if_pos (by omega), if_pos c2]
      · rw [if_neg (by omega), if_neg c2]
  have HF : Hid _ := hF
  clear hF
  go_enter Oafg.func175, Oafg.ntmps175
  go_wp2
  all_goals
    go_ret
    refine ⟨ret_int ?_, self2⟩
    rw [HF.out]
    clear HF
    first
      | (rw [if_pos (by omega)]; done)
      | (rw [if_neg (by omega), if_pos (by omega)]; done)
      | (rw [if_neg (by omega), if_neg (by omega)]; done)

/-- wide.Add -/
theorem wadd_any (h l h' l' : Nat) (hl : l < 18446744073709551616) (hl' : l' < 18446744073709551616) (w : World) :
    Calls Oafg.prog 156 #[.agg #[.int .u64 h, .int .u64 l], .agg #[.int .u64 h', .int .u64 l']] w fun e w' => (∃ (H L : Nat) (b : Bool), e = .returned (.tuple #[.agg #[.int .u64 H, .int .u64 L], .bool b]) ∧ two H L = (two h l + two h' l') % 340282366920938463463374607431768211456 ∧ H < 18446744073709551616 ∧ L < 18446744073709551616) ∧ Below w.heap.size w w' := by
  obtain ⟨L, hL⟩ : ∃ L, L = (l + l') % 18446744073709551616 := ⟨_, rfl⟩
  obtain ⟨H, hH⟩ : ∃ H, H = (h + h') % 18446744073709551616 := ⟨_, rfl⟩
  obtain ⟨G, hG⟩ : ∃ G, G = (H + 1) % 18446744073709551616 := ⟨_, rfl⟩
  have e1 : IntKind.u64.wrap ((l : Int) + (l' : Int)) = (L : Int) := by rw [← Int.natCast_add, wrap64_nat, hL]
  have e2 : IntKind.u64.wrap ((h : Int) + (h' : Int)) = (H : Int) := by rw [← Int.natCast_add, wrap64_nat, hH]
  have e3 : IntKind.u64.wrap ((H : Int) + 1) = (G : Int) := by rw [show (H : Int) + 1 = ((H + 1 : Nat) : Int) by simp, wrap64_nat, hG]
  have b1 : L < 18446744073709551616 := by omega
  have b2 : H < 18446744073709551616 := by omega
  have b3 : G < 18446744073709551616 := by omega
  have F1 : Hid (L < l → two G L = (two h l + two h' l') % 340282366920938463463374607431768211456) := fun _ => by unfold two; omega
  have F2 : Hid (l ≤ L → two H L = (two h l + two h' l') % 340282366920938463463374607431768211456) := fun _ => by unfold two; omega
  clear hL hH hG
  go_enter Oafg.func156, Oafg.ntmps156
  by_cases c : L < l
  · by_cases c2 : H < h
    · go_wp2
      exact bodyPost_ret (v := .tuple #[.agg #[.int .u64 G, .int .u64 L], .bool true]) (by simp [results, Oafg.results156, go_sem]) rfl ⟨⟨G, L, true, rfl, F1.out c, b3, b1⟩, self3⟩
    · obtain ⟨g, hg⟩ : ∃ g, ((G : Int) == 0) = g := ⟨_, rfl⟩
      go_wp2
      exact bodyPost_ret (v := .tuple #[.agg #[.int .u64 G, .int .u64 L], .bool g]) (by simp [results, Oafg.results156, go_sem]) rfl ⟨⟨G, L, g, rfl, F1.out c, b3, b1⟩, self3⟩
  · go_wp2
    exact bodyPost_ret (v := .tuple #[.agg #[.int .u64 H, .int .u64 L], .bool (decide (H < h))]) (by simp [results, Oafg.results156, go_sem]) rfl ⟨⟨H, L, _, rfl, F2.out (by omega), b2, b1⟩, self3⟩

theorem two_parts (V : Nat) (h : V < 340282366920938463463374607431768211456) : ∃ H L : Nat, two H L = V ∧ H < 18446744073709551616 ∧ L < 18446744073709551616 :=
  ⟨V / 18446744073709551616, V % 18446744073709551616, by unfold two; omega, by omega, by omega⟩

/-- wide.ShrJam -/
theorem shrJam_any (h l k : Nat) (hh : h < 18446744073709551616) (hl : l < 18446744073709551616) (hk : k < 256) (w : World) :
    Calls Oafg.prog 201 #[.agg #[.int .u64 h, .int .u64 l], .int .u8 k] w fun e w' => (∃ h' l' : Nat, e = .returned (.agg #[.int .u64 h', .int .u64 l']) ∧ two h' l' = st (two h l) (2 ^ k) ∧ h' < 18446744073709551616 ∧ l' < 18446744073709551616) ∧ Below w.heap.size w w' := by
  have S1 := fun w => shr_any h l k hh hl hk w
  have HS1 : Hid _ := S1
  have hlt0 := two_lt hh hl
  have hst := st_eq (two h l) (2 ^ k)
  have hle := Nat.div_mul_le_self (two h l) (2 ^ k)
  have HST : Hid _ := hst
  have HLE : Hid _ := hle
  clear S1 hst hle
  go_enter Oafg.func201, Oafg.ntmps201
  go_wp2_with (go_at_call 114; refine (HS1.out _).mono ?_; rintro e w1 ⟨⟨H, L, rfl, hHL, hH, hL⟩, hb1⟩; obtain ⟨hc, hf⟩ := bcell hb1; have hlt := size2 hb1; have H1 : Hid _ := hHL; clear hHL)
  obtain ⟨hlt1, hlt2⟩ := hlt
  have hS0 : HB (w1.alloc (.cells #[.int .u64 H, .int .u64 L] 111)) (w1.alloc (.cells #[.int .u64 H, .int .u64 L] 111)) := HB.start
  have hcl := HB.cells (W := w1.alloc (.cells #[.int .u64 H, .int .u64 L] 111))
  obtain ⟨H2, L2, hV, hH2, hL2⟩ := two_parts (two H L * 2 ^ k % 340282366920938463463374607431768211456) (Nat.mod_lt _ (by decide))
  have S2 : Hid (∀ w, Calls Oafg.prog 174 #[.agg #[.int .u64 H, .int .u64 L], .int .u8 k] w fun e w' => e = .returned (.agg #[.int .u64 H2, .int .u64 L2]) ∧ Below w.heap.size w w') := fun w => by
    refine (shl_any H L k hL hk w).mono ?_
    rintro e w' ⟨⟨a, b, rfl, e1, e2, e3⟩, hb⟩
    obtain ⟨rfl, rfl⟩ := two_inj e3 hL2 (e1.trans hV.symm)
    exact ⟨rfl, hb⟩
  have HV : Hid _ := hV
  clear hV
  have fin : Hid (((H2 = h ∧ L2 = l) → two H L = st (two h l) (2 ^ k)) ∧ (¬(H2 = h ∧ L2 = l) → two H (L ||| 1) = st (two h l) (2 ^ k))) := by
    have v : two H2 L2 = two h l / 2 ^ k * 2 ^ k := by
      rw [HV.out, H1.out, Nat.mod_eq_of_lt (Nat.lt_of_le_of_lt HLE.out hlt0)]
    have e : (H2 = h ∧ L2 = l) ↔ two h l / 2 ^ k * 2 ^ k = two h l := by
      rw [← v]; exact ⟨fun ⟨a, b⟩ => by rw [a, b], fun a => two_inj hL2 hl a⟩
    rw [HST.out]
    refine ⟨fun c => ?_, fun c => ?_⟩
    · rw [if_pos (e.1 c), H1.out]
    · rw [if_neg (fun x => c (e.2 x)), ← two_or, H1.out]
  have x1 : bits .or .u64 (L : Int) 1 = ((L ||| 1 : Nat) : Int) := or64 L 1 1 (by simp) hL (by decide)
  have x2 : L ||| 1 < 18446744073709551616 := Nat.lt_of_lt_of_eq (Nat.or_lt_two_pow (n := 64) (Nat.lt_of_lt_of_eq hL (by decide)) (by decide)) (by decide)
  generalize L ||| 1 = L' at *
  have hbel := below2 hb1
  clear HV HST HLE H1 HS1 hb1
  by_cases c1 : H2 = h
  · by_cases c2 : L2 = l
    · have HF : Hid _ := fin.out.1 ⟨c1, c2⟩
      have b1 : ((H2 : Int) == (h : Int)) = true := by rw [beq_iff_eq]; omega
      have b2 : ((L2 : Int) == (l : Int)) = true := by rw [beq_iff_eq]; omega
      clear fin c1 c2
      go_region_held3 (fun w' => HB (w1.alloc (.cells #[.int .u64 H, .int .u64 L] 111)) w')
        (repeat' (first | with_reducible exact hSu | with_reducible exact hS0 | with_reducible apply HB.drew))
        ((go_at_call 174; refine (S2.out _).mono ?_; rintro e w2 ⟨rfl, hbu⟩; have hSu := HB.call (by assumption) hbu))
      rename_i hH'
      obtain ⟨-, hfz⟩ := bcell hH'.out
      have hz := hH'.out.size
      simp at hz
      have hz1 : w.heap.size + 1 < w2.heap.size := by omega
      have q0 : w2.cell? ⟨w.heap.size + 1, 0, none⟩ = some (.int .u64 0) := by rw [hcl w2 hH' _ _ (by simp; omega)]; simp [go_sem, hc, hlt2]
      have q1 : w2.cell? ⟨w.heap.size + 1, 1, none⟩ = some (.int .u64 0) := by rw [hcl w2 hH' _ _ (by simp; omega)]; simp [go_sem, hc, hlt2]
      go_wp2
      have hB2 := bt hbel (bt self1 hH'.out)
      exact bodyPost_ret (v := .agg #[.int .u64 H, .int .u64 L]) (by simp [results, Oafg.results201, go_sem, q0, q1]) rfl ⟨⟨H, L, rfl, HF.out, hH, hL⟩, (hB2.setCell (by simp) _).setCell (by simp) _⟩
    · have HF : Hid _ := fin.out.2 (fun c => c2 c.2)
      have b1 : ((H2 : Int) == (h : Int)) = true := by rw [beq_iff_eq]; omega
      have b2 : ((L2 : Int) == (l : Int)) = false := by rw [beq_eq_false_iff_ne]; omega
      clear fin c1 c2
      go_region_held3 (fun w' => HB (w1.alloc (.cells #[.int .u64 H, .int .u64 L] 111)) w')
        (repeat' (first | with_reducible exact hSu | with_reducible exact hS0 | with_reducible apply HB.drew))
        ((go_at_call 174; refine (S2.out _).mono ?_; rintro e w2 ⟨rfl, hbu⟩; have hSu := HB.call (by assumption) hbu))
      rename_i hH'
      obtain ⟨-, hfz⟩ := bcell hH'.out
      have hz := hH'.out.size
      simp at hz
      have hz1 : w.heap.size + 1 < w2.heap.size := by omega
      have q0 : w2.cell? ⟨w.heap.size + 1, 0, none⟩ = some (.int .u64 0) := by rw [hcl w2 hH' _ _ (by simp; omega)]; simp [go_sem, hc, hlt2]
      have q1 : w2.cell? ⟨w.heap.size + 1, 1, none⟩ = some (.int .u64 0) := by rw [hcl w2 hH' _ _ (by simp; omega)]; simp [go_sem, hc, hlt2]
      go_wp2
      have hB2 := bt hbel (bt self1 hH'.out)
      exact bodyPost_ret (v := .agg #[.int .u64 H, .int .u64 L']) (by simp [results, Oafg.results201, go_sem, q0, q1]) rfl ⟨⟨H, L', rfl, HF.out, hH, x2⟩, (((hB2.setCell (show w.heap.size ≤ w1.heap.size from Nat.le_of_lt hlt1) _).setCell (by simp) _).setCell (by simp) _)⟩
  · have HF : Hid _ := fin.out.2 (fun c => c1 c.1)
    have b1 : ((H2 : Int) == (h : Int)) = false := by rw [beq_eq_false_iff_ne]; omega
    clear fin c1
    go_region_held3 (fun w' => HB (w1.alloc (.cells #[.int .u64 H, .int .u64 L] 111)) w')
      (repeat' (first | with_reducible exact hSu | with_reducible exact hS0 | with_reducible apply HB.drew))
      ((go_at_call 174; refine (S2.out _).mono ?_; rintro e w2 ⟨rfl, hbu⟩; have hSu := HB.call (by assumption) hbu))
    rename_i hH'
    obtain ⟨-, hfz⟩ := bcell hH'.out
    have hz := hH'.out.size
    simp at hz
    have hz1 : w.heap.size + 1 < w2.heap.size := by omega
    have q0 : w2.cell? ⟨w.heap.size + 1, 0, none⟩ = some (.int .u64 0) := by rw [hcl w2 hH' _ _ (by simp; omega)]; simp [go_sem, hc, hlt2]
    have q1 : w2.cell? ⟨w.heap.size + 1, 1, none⟩ = some (.int .u64 0) := by rw [hcl w2 hH' _ _ (by simp; omega)]; simp [go_sem, hc, hlt2]
    go_wp2
    have hB2 := bt hbel (bt self1 hH'.out)
    exact bodyPost_ret (v := .agg #[.int .u64 H, .int .u64 L']) (by simp [results, Oafg.results201, go_sem, q0, q1]) rfl ⟨⟨H, L', rfl, HF.out, hH, x2⟩, (((hB2.setCell (show w.heap.size ≤ w1.heap.size from Nat.le_of_lt hlt1) _).setCell (by simp) _).setCell (by simp) _)⟩
end Go.Proofs.Ygcoaf
