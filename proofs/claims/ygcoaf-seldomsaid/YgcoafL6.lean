/-
  tab.entry, tab.Entry: the walks.
-/
import Derived.Test.YgcoafL5
namespace Go.Proofs.Ygcoaf
open Go.RowKit Go.Proofs.Ygcoaf.M

def entH (q : Int) : Nat := entT q / 18446744073709551616
def entL (q : Int) : Nat := entT q % 18446744073709551616
theorem ent_two (q : Int) {h l : Nat} (e : two h l = entT q) (hl : l < 18446744073709551616) : h = entH q ∧ l = entL q := by
  unfold entH entL; rw [← e]; unfold two; omega
theorem ent_hl {q : Int} (h1 : -348 ≤ q) (h2 : q ≤ 348) : entH q * 18446744073709551616 + entL q = entT q ∧ 9223372036854775808 ≤ entH q ∧ entH q < 18446744073709551616 ∧ entL q < 18446744073709551616 := by
  have e := ent_is q h1 h2
  have a := e.lo
  have b := e.hi
  unfold entH entL
  omega

/-- entry's result cell -/
structure EC (w : World) (R : Nat) (w' : World) : Prop where
  below : Below w.heap.size w w'
  old : w.heap.size ≤ R
  c0 : w'.cell? ⟨R, 0, none⟩ = some (.int .u64 0)
  c1 : w'.cell? ⟨R, 1, none⟩ = some (.int .u64 0)
  f0 : w'.frozen? ⟨R, 0, none⟩ = false
  f1 : w'.frozen? ⟨R, 1, none⟩ = false
theorem EC.call {w W w' : World} {R : Nat} (s : EC w R W) (h : Below W.heap.size W w') : EC w R w' := by
  have l9 : R < W.heap.size := World.block_lt_of_cell? _ _ s.c0
  obtain ⟨hc, hf⟩ := bcell h
  exact ⟨bt s.below h, s.old, by rw [hc _ _ l9]; exact s.c0, by rw [hc _ _ l9]; exact s.c1, by rw [hf _ _ l9]; exact s.f0, by rw [hf _ _ l9]; exact s.f1⟩
theorem EC.start {w : World} : EC w w.heap.size (w.alloc (.cells #[.int .u64 0, .int .u64 0] 111)) := by
  refine ⟨self1, Nat.le_refl _, ?_, ?_, ?_, ?_⟩ <;> simp [go_sem]

theorem set2_cells {w : World} {R : Nat} {a b u0 u1 : Value} (t0 : w.cell? ⟨R, 0, none⟩ = some a) (t1 : w.cell? ⟨R, 1, none⟩ = some b) :
    ((w.setCell ⟨R, 0, none⟩ u0).setCell ⟨R, 1, none⟩ u1).cell? ⟨R, 0, none⟩ = some u0 ∧ ((w.setCell ⟨R, 0, none⟩ u0).setCell ⟨R, 1, none⟩ u1).cell? ⟨R, 1, none⟩ = some u1 := by
  have z1 : (w.setCell ⟨R, 0, none⟩ u0).cell? ⟨R, 1, none⟩ = some b := by
    rw [World.cell?_setCell_other (h := fun h => absurd (congrArg Addr.off h) (by show ¬ ((0 : Nat) = 1); decide))]; exact t1
  refine ⟨?_, World.cell?_setCell_same _ _ _ z1⟩
  rw [World.cell?_setCell_other (h := fun h => absurd (congrArg Addr.off h) (by show ¬ ((1 : Nat) = 0); decide)), World.cell?_setCell_same _ _ _ t0]

set_option maxRecDepth 8000 in
set_option maxHeartbeats 1000000 in
/-- tab.entry -/
theorem entry_nat {w : World} {v : Value} {q : Int} (s : NatV w v (fiv q)) (h1 : -348 ≤ q) (h2 : q ≤ 348) :
    Calls Oafg.prog 90 #[v, .int .i16 q] w fun e w' => e = .returned (.tuple #[.agg #[.int .u64 (entH q : Nat), .int .u64 (entL q : Nat)], .int .i16 (entX q)]) ∧ Below w.heap.size w w' := by
  have hE := ent_is q h1 h2
  have hb := fiv_bl q (by omega)
  have hp0 := fiv_pos q
  have HE0 : Hid _ := EC.start (w := w)
  obtain ⟨H, hH⟩ : ∃ H, H = entH q := ⟨_, rfl⟩
  obtain ⟨L, hL⟩ : ∃ L, L = entL q := ⟨_, rfl⟩
  obtain ⟨X, hX⟩ : ∃ X, X = entX q := ⟨_, rfl⟩
  have HT2 : Hid (∀ h l, two h l = entT q → l < 18446744073709551616 → h = H ∧ l = L) := fun h l a b => by rw [hH, hL]; exact ent_two q a b
  rw [← hH, ← hL, ← hX]
  have HLOW : Hid (∀ ww u, NatV ww u (entT q) → Calls Oafg.prog 147 #[u] ww fun e w' => e = .returned (.agg #[.int .u64 H, .int .u64 L]) ∧ Below ww.heap.size ww w') := fun ww u g =>
    (low128_nat g hE.hi).mono fun e w' ⟨⟨h, l, a, b, c, d⟩, f⟩ => by
      obtain ⟨rfl, rfl⟩ := HT2.out h l b d
      exact ⟨a, f⟩
  have HBL : Hid (∀ ww, Below w.heap.size w ww → Calls Oafg.prog 132 #[v] ww fun e w' => e = .returned (.int .i64 (bl (fiv q) : Nat)) ∧ w' = ww) := fun ww g => bitLen_any (s.call g)
  obtain ⟨m, hm⟩ : ∃ m, m = bl (fiv q) := ⟨_, rfl⟩
  rw [← hm] at HBL hb
  obtain ⟨p, q1, r1, rfl⟩ := s.sl
  have HS : Hid _ := s
  by_cases c : q < 0
  · have hT : entT q = 2 ^ (127 + m) / fiv q := by unfold entT; rw [if_pos c, ← hm]
    obtain ⟨k, hk⟩ : ∃ k, k = 127 + m := ⟨_, rfl⟩
    have fk : (127 : Int) + (m : Int) = (k : Int) := by omega
    have fX : q - (k : Int) = X := by rw [hX]; unfold entX; rw [if_pos c, ← hm, ← hk]
    rw [← hk] at hT
    have HF1 : Hid _ := fun ww => fromU64_any 1 (by decide) ww
    have HSH : Hid (∀ ww u, NatV ww u 1 → Calls Oafg.prog 146 #[u, .int .u16 k] ww fun e w' => (∃ v, e = .returned v ∧ NatV w' v (2 ^ k)) ∧ Below ww.heap.size ww w') := fun ww u g => by
      have := shl_nat k (by omega) g (by decide)
      rw [Nat.one_mul] at this; exact this
    have HDM : Hid (∀ ww u, NatV ww u (2 ^ k) → Below w.heap.size w ww → Calls Oafg.prog 145 #[u, .slice p q1 r1] ww fun e w' => (∃ v1 v2, e = .returned (.tuple #[v1, v2, .bool true]) ∧ NatV w' v1 (entT q) ∧ NatV w' v2 (2 ^ k % fiv q)) ∧ Below ww.heap.size ww w') := fun ww u g gb => by
      rw [hT]
      refine divMod_nat g (HS.out.call gb) ?_ (by rw [← hm]; omega) hp0
      have := bl_shl 1 k
      rw [Nat.one_mul] at this
      have e1 : bl 1 ≤ 1 := by decide
      omega
    have hkb : k ≤ 1200 := by omega
    have hX9 : -1600 ≤ X ∧ X ≤ 1300 := by rw [hX]; exact hE.xb
    clear hE hH hL hX hm hT hk hp0 s HS
    go_enter Oafg.func90, Oafg.ntmps90
    go_upto_region 4 with (first
      | (go_at_call 145; refine (HDM.out _ _ HN2.out (HE2.out.below)).mono ?_; rintro e w5 ⟨⟨v5, u5, rfl, hN5, hN6⟩, hb5⟩; obtain ⟨x5, y5, z5, rfl⟩ := hN5.sl; obtain ⟨x6, y6, z6, rfl⟩ := hN6.sl; have HN5 : Hid _ := hN5; have HE5 : Hid _ := HE2.out.call hb5; clear hN5 hN6 hb5)
      | (go_at_call 146; refine (HSH.out _ _ HN1.out).mono ?_; rintro e w4 ⟨⟨v4, rfl, hN4⟩, hb4⟩; obtain ⟨x4, y4, z4, rfl⟩ := hN4.sl; have HN2 : Hid _ := hN4; have HE2 : Hid _ := HE1.out.call hb4; clear hN4 hb4)
      | (go_at_call 86; refine (HF1.out _).mono ?_; rintro e w3 ⟨⟨v3, rfl, hN3⟩, hb3⟩; obtain ⟨x3, y3, z3, rfl⟩ := hN3.sl; have HN1 : Hid _ := hN3; have HE1 : Hid _ := HE0.out.call hb3; clear hN3 hb3)
      | (go_at_call 132; refine (HBL.out _ HE0.out.below).mono ?_; rintro e w2 ⟨rfl, hw⟩; have hw := hw.symm; subst hw))
    clear HE0 HE1 HE2 HN1 HN2 HF1 HSH HDM HBL
    obtain ⟨R, hR⟩ : ∃ R, R = w.heap.size := ⟨_, rfl⟩
    rw [← hR] at HE5
    simp only [← hR]
    clear hR
    go_wp2_with (go_at_call 147; refine (HLOW.out _ _ HN5.out).mono ?_; rintro e w6 ⟨rfl, hb6⟩; have HE6 : Hid _ := HE5.out.call hb6; have t0 := HE6.out.c0; have t1 := HE6.out.c1; have t2 := HE6.out.f0; have t3 := HE6.out.f1; clear hb6)
    exact bodyPost_ret (v := .tuple #[.agg #[.int .u64 H, .int .u64 L], .int .i16 X]) (by simp [results, Oafg.results90, go_sem, t0, t1]) rfl ⟨rfl, below_set2 _ _ HE6.out.below HE6.out.old⟩
  · have fX : (m : Int) - 128 + q = X := by rw [hX]; unfold entX; rw [if_neg c, ← hm]
    have hX9 : -1600 ≤ X ∧ X ≤ 1300 := by rw [hX]; exact hE.xb
    by_cases d : (m : Int) - 128 < 0
    · have hT : entT q = fiv q * 2 ^ (128 - m) := by unfold entT; rw [if_neg c, ← hm, if_pos d]
      obtain ⟨k, hk⟩ : ∃ k, k = 128 - m := ⟨_, rfl⟩
      obtain ⟨ex, hex⟩ : ∃ ex : Int, (m : Int) - 128 = ex := ⟨_, rfl⟩
      rw [← hk] at hT
      have fk : -ex = (k : Int) := by omega
      rw [hex] at fX d
      have HSH : Hid (∀ ww, Below w.heap.size w ww → Calls Oafg.prog 146 #[.slice p q1 r1, .int .u16 k] ww fun e w' => (∃ v, e = .returned v ∧ NatV w' v (entT q)) ∧ Below ww.heap.size ww w') := fun ww g => by
        rw [hT]; exact shl_nat k (by omega) (HS.out.call g) (by rw [← hm]; omega)
      have hkb : k ≤ 128 := by omega
      have hexb : -200 ≤ ex ∧ ex ≤ 1000 := by omega
      clear hE hH hL hX hm hT hk hp0 s HS
      go_enter Oafg.func90, Oafg.ntmps90
      go_upto_region 9 with (first
        | (go_at_call 146; refine (HSH.out _ HE0.out.below).mono ?_; rintro e w4 ⟨⟨v4, rfl, hN4⟩, hb4⟩; obtain ⟨x4, y4, z4, rfl⟩ := hN4.sl; have HN5 : Hid _ := hN4; have HE5 : Hid _ := HE0.out.call hb4; clear hN4 hb4)
        | (go_at_call 132; refine (HBL.out _ HE0.out.below).mono ?_; rintro e w2 ⟨rfl, hw⟩; have hw := hw.symm; subst hw))
      clear HE0 HSH HBL
      obtain ⟨R, hR⟩ : ∃ R, R = w.heap.size := ⟨_, rfl⟩
      rw [← hR] at HE5
      simp only [← hR]
      clear hR
      go_wp2_with (go_at_call 147; refine (HLOW.out _ _ HN5.out).mono ?_; rintro e w6 ⟨rfl, hb6⟩; have HE6 : Hid _ := HE5.out.call hb6; have t0 := HE6.out.c0; have t1 := HE6.out.c1; have t2 := HE6.out.f0; have t3 := HE6.out.f1; clear hb6)
      exact bodyPost_ret (v := .tuple #[.agg #[.int .u64 H, .int .u64 L], .int .i16 X]) (by simp [results, Oafg.results90, go_sem, t0, t1]) rfl ⟨rfl, below_set2 _ _ HE6.out.below HE6.out.old⟩
    · have hT : entT q = fiv q / 2 ^ (m - 128) := by unfold entT; rw [if_neg c, ← hm, if_neg d]
      obtain ⟨k, hk⟩ : ∃ k, k = m - 128 := ⟨_, rfl⟩
      have fk : (m : Int) - 128 = (k : Int) := by omega
      rw [← hk] at hT
      rw [fk] at fX
      have HSH : Hid (∀ ww, Below w.heap.size w ww → Calls Oafg.prog 148 #[.slice p q1 r1, .int .u16 k] ww fun e w' => (∃ v', e = .returned (.tuple #[v', .bool (decide (fiv q % 2 ^ k ≠ 0))]) ∧ NatV w' v' (entT q)) ∧ Below ww.heap.size ww w') := fun ww g => by
        rw [hT]; exact shr_nat k (by omega) (trim_nat (HS.out.call g)) (by rw [← hm]; omega)
      obtain ⟨bb, hbb⟩ : ∃ bb, bb = decide (fiv q % 2 ^ k ≠ 0) := ⟨_, rfl⟩
      rw [← hbb] at HSH
      have hkb : k ≤ 1000 := by omega
      clear hE hH hL hX hm hT hk hp0 s HS hbb d
      go_enter Oafg.func90, Oafg.ntmps90
      go_upto_region 9 with (first
        | (go_at_call 148; refine (HSH.out _ HE0.out.below).mono ?_; rintro e w4 ⟨⟨v4, rfl, hN4⟩, hb4⟩; obtain ⟨x4, y4, z4, rfl⟩ := hN4.sl; have HN5 : Hid _ := hN4; have HE5 : Hid _ := HE0.out.call hb4; clear hN4 hb4)
        | (go_at_call 132; refine (HBL.out _ HE0.out.below).mono ?_; rintro e w2 ⟨rfl, hw⟩; have hw := hw.symm; subst hw))
      clear HE0 HSH HBL
      obtain ⟨R, hR⟩ : ∃ R, R = w.heap.size := ⟨_, rfl⟩
      rw [← hR] at HE5
      simp only [← hR]
      clear hR
      go_wp2_with (go_at_call 147; refine (HLOW.out _ _ HN5.out).mono ?_; rintro e w6 ⟨rfl, hb6⟩; have HE6 : Hid _ := HE5.out.call hb6; have t0 := HE6.out.c0; have t1 := HE6.out.c1; have t2 := HE6.out.f0; have t3 := HE6.out.f1; clear hb6)
      exact bodyPost_ret (v := .tuple #[.agg #[.int .u64 H, .int .u64 L], .int .i16 X]) (by simp [results, Oafg.results90, go_sem, t0, t1]) rfl ⟨rfl, below_set2 _ _ HE6.out.below HE6.out.old⟩

set_option maxRecDepth 8000 in
set_option maxHeartbeats 1000000 in
/-- tab.Entry within the table -/
theorem tEntry_nat {q : Int} (h1 : -348 ≤ q) (h2 : q ≤ 347) (w : World) :
    Calls Oafg.prog 139 #[.int .i16 q] w fun e w' => e = .returned (.tuple #[.agg #[.int .u64 (entH q : Nat), .int .u64 (entL q : Nat)], .int .i16 (entX q), .bool true]) ∧ Below w.heap.size w w' := by
  have HEN : Hid (∀ ww u, NatV ww u (fiv q) → Calls Oafg.prog 90 #[u, .int .i16 q] ww fun e w' => e = .returned (.tuple #[.agg #[.int .u64 (entH q : Nat), .int .u64 (entL q : Nat)], .int .i16 (entX q)]) ∧ Below ww.heap.size ww w') := fun ww u g => entry_nat g h1 (by omega)
  obtain ⟨n, hn⟩ : ∃ n, n = q.natAbs := ⟨_, rfl⟩
  have HP5 : Hid (∀ ww, Calls Oafg.prog 184 #[.int .u16 n] ww fun e w' => (∃ v, e = .returned v ∧ NatV w' v (fiv q)) ∧ Below ww.heap.size ww w') := fun ww => by
    have := pow5_nat (w := ww) n (by omega)
    unfold fiv; rw [← hn]; exact this
  have fm : (if q < -q then -q else q) = (n : Int) := by split <;> omega
  have hnb : n ≤ 348 := by omega
  have HE0 : Hid _ := EC.start (w := w)
  generalize entH q = H at *
  generalize entL q = L at *
  generalize entX q = X at *
  clear hn
  go_enter Oafg.func139, Oafg.ntmps139
  go_wp2_with (first
    | (go_at_call 90; refine (HEN.out _ _ HN1.out).mono ?_; rintro e w3 ⟨rfl, hb3⟩; have HE2 : Hid _ := HE1.out.call hb3; have t0 := HE2.out.c0; have t1 := HE2.out.c1; have t2 := HE2.out.f0; have t3 := HE2.out.f1; clear hb3)
    | (go_at_call 184; refine (HP5.out _).mono ?_; rintro e w2 ⟨⟨v2, rfl, hN2⟩, hb2⟩; obtain ⟨x4, y4, z4, rfl⟩ := hN2.sl; have HN1 : Hid _ := hN2; have HE1 : Hid _ := HE0.out.call hb2; clear hN2 hb2))
  obtain ⟨y0, y1⟩ := set2_cells (u0 := .int .u64 H) (u1 := .int .u64 L) t0 t1
  obtain ⟨y2, y3⟩ := set2_cells (u0 := .int .u64 H) (u1 := .int .u64 L) y0 y1
  have hB := below_set2 (.int .u64 H) (.int .u64 L) (below_set2 (.int .u64 H) (.int .u64 L) HE2.out.below HE2.out.old) HE2.out.old
  generalize (((w3.setCell ⟨w.heap.size, 0, none⟩ (.int .u64 H)).setCell ⟨w.heap.size, 1, none⟩ (.int .u64 L)).setCell ⟨w.heap.size, 0, none⟩ (.int .u64 H)).setCell ⟨w.heap.size, 1, none⟩ (.int .u64 L) = W4 at *
  exact bodyPost_ret (v := .tuple #[.agg #[.int .u64 H, .int .u64 L], .int .i16 X, .bool true]) (by simp [results, Oafg.results139, go_sem, y2, y3]) rfl ⟨rfl, hB⟩
end Go.Proofs.Ygcoaf
