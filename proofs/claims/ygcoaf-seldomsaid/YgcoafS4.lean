/-
  exact.RoundDecFlags.
-/
import Derived.Test.YgcoafS3
import Derived.Test.YgcoafY3
namespace Go.Proofs.Ygcoaf
open Go.RowKit Go.Proofs.Ygcoaf.M

/-- exact.RoundFlags at a format that is not Ok -/
theorem roundFlags_no {E M : Nat} (hno : fokB E M = false) (mode : Nat) (neg : Bool) (p1 : Option Addr) (q1 r1 : Nat) (p2 : Option Addr) (q2 r2 : Nat) (w : World) :
    Calls Oafg.prog 83 #[.agg #[.int .u8 E, .int .u8 M], .int .u8 mode, .agg #[.bool neg, .slice p1 q1 r1, .slice p2 q2 r2]] w fun r w' => r = .returned (.tuple #[.int .u64 0, .int .u8 0]) ∧ Below w.heap.size w w' := by
  have T : Hid _ := fun ww => ok_any (E : Int) (M : Int) ww
  rw [hno] at T
  go_enter Oafg.func83, Oafg.ntmps83
  go_wp2_with (go_at_call 54; refine (T.out _).mono ?_; rintro e w1 ⟨rfl, hb1⟩)
  go_ret2
  exact ⟨rfl, below2 hb1⟩

/-- what a decimal rounds to -/
def rdV (E M mode : Nat) (neg : Bool) (A B : Nat) : Nat := if fokB E M = true then rfV E M mode neg A B else 0
def rdF (E M mode : Nat) (neg : Bool) (A B : Nat) : Nat := if fokB E M = true then rfF E M mode neg A B else 0

theorem fok_bd {E M : Nat} (h : fokB E M = true) : 2 ≤ E ∧ E ≤ 11 ∧ 2 ≤ M ∧ M ≤ 52 := by
  unfold fokB at h; simp at h; omega

set_option maxRecDepth 8000 in
set_option maxHeartbeats 1000000 in
/-- exact.RoundDecFlags of a canonical decimal -/
theorem roundDecFlags_any {s : ByteArray} {x : Int} (h : Canon s x) (E M mode : Nat) (hm : mode < 256) (neg : Bool) (w : World) :
    Calls Oafg.prog 58 #[.agg #[.int .u8 E, .int .u8 M], .int .u8 mode, .agg #[.bool neg, .string s, .int .i16 x]] w fun r w' =>
      r = .returned (.tuple #[.int .u64 (rdV E M mode neg (dgv s s.size * 10 ^ x.toNat) (10 ^ (-x).toNat) : Nat), .int .u8 (rdF E M mode neg (dgv s s.size * 10 ^ x.toNat) (10 ^ (-x).toNat) : Nat)]) ∧ Below w.heap.size w w' := by
  have hx := h.exp
  have hfew := h.few
  have T1 : Hid _ := fun ww => decOk_yes h neg ww
  have T2 : Hid _ := fun ww => ofDec_nat h neg ww
  have gA : bl (dgv s s.size * 10 ^ x.toNat) ≤ 700000 := by
    have a := bl_mul (dgv s s.size) (10 ^ x.toNat)
    have b := bl_le _ _ (dgv_lt s h.digs s.size (Nat.le_refl _))
    have c := bl_ten x.toNat
    omega
  have gB : bl (10 ^ (-x).toNat) ≤ 700000 := by have c := bl_ten (-x).toNat; omega
  have hB0 := ten_ne (-x).toNat
  generalize dgv s s.size * 10 ^ x.toNat = A at *
  generalize 10 ^ (-x).toNat = B at *
  obtain ⟨V, hV⟩ : ∃ V, V = rdV E M mode neg A B := ⟨_, rfl⟩
  obtain ⟨F, hF⟩ : ∃ F, F = rdF E M mode neg A B := ⟨_, rfl⟩
  rw [← hV, ← hF]
  have T3 : Hid (∀ ww (v1 v2 : Value), NatV ww v1 A → NatV ww v2 B → Calls Oafg.prog 83 #[.agg #[.int .u8 E, .int .u8 M], .int .u8 mode, .agg #[.bool neg, v1, v2]] ww fun r w' => r = .returned (.tuple #[.int .u64 V, .int .u8 F]) ∧ Below ww.heap.size ww w') := fun ww v1 v2 n1 n2 => by
    by_cases hf : fokB E M = true
    · obtain ⟨h1, h2, h3, h4⟩ := fok_bd hf
      rw [hV, hF]
      unfold rdV rdF
      rw [if_pos hf, if_pos hf]
      exact roundFlags_yes h1 h2 h3 h4 mode hm neg n1 n2 gA gB hB0
    · rw [hV, hF]
      unfold rdV rdF
      rw [if_neg hf, if_neg hf]
      obtain ⟨p1, q1, r1, rfl⟩ := n1.sl
      obtain ⟨p2, q2, r2, rfl⟩ := n2.sl
      exact roundFlags_no (by simpa using hf) mode neg p1 q1 r1 p2 q2 r2 ww
  clear hV hF gA gB hB0 h
  go_enter Oafg.func58, Oafg.ntmps58
  go_upto_region 3 with (go_at_call 93; refine (T1.out _).mono ?_; rintro e w1 ⟨rfl, hb1⟩)
  have hl0 : w.heap.size < ((w.alloc (.cells #[.int .u8 E, .int .u8 M] 27)).alloc (.cells #[.bool neg, .string s, .int .i16 x] 74)).heap.size := by simp; omega
  have hl1 : w.heap.size + 1 < ((w.alloc (.cells #[.int .u8 E, .int .u8 M] 27)).alloc (.cells #[.bool neg, .string s, .int .i16 x] 74)).heap.size := by simp
  obtain ⟨hc, hf⟩ := bcell hb1
  have c0 : w1.cell? ⟨w.heap.size, 0, none⟩ = some (.int .u8 E) := by rw [hc _ _ hl0]; simp [go_sem]
  have c1 : w1.cell? ⟨w.heap.size, 1, none⟩ = some (.int .u8 M) := by rw [hc _ _ hl0]; simp [go_sem]
  have c2 : w1.cell? ⟨w.heap.size + 1, 0, none⟩ = some (.bool neg) := by rw [hc _ _ hl1]; simp [go_sem]
  have c3 : w1.cell? ⟨w.heap.size + 1, 1, none⟩ = some (.string s) := by rw [hc _ _ hl1]; simp [go_sem]
  have c4 : w1.cell? ⟨w.heap.size + 1, 2, none⟩ = some (.int .i16 x) := by rw [hc _ _ hl1]; simp [go_sem]
  have HB0 : Hid _ := below2 hb1
  obtain ⟨R5, hR5⟩ : ∃ R5, R5 = w.heap.size + 1 := ⟨_, rfl⟩
  rw [← hR5] at c2 c3 c4
  simp only [← hR5]
  obtain ⟨R3, hR3⟩ : ∃ R3, R3 = w.heap.size := ⟨_, rfl⟩
  rw [← hR3] at c0 c1
  simp only [← hR3]
  have k0 := World.block_lt_of_cell? _ _ c0
  have k1 := World.block_lt_of_cell? _ _ c2
  simp only at k0 k1
  clear hl0 hl1 hc hf hb1 hR5 hR3 T1
  have hS0 : HB w1 w1 := HB.start
  have hcl := HB.cells (W := w1)
  go_region_held3 (fun w' => HB w1 w')
    (repeat' (first | with_reducible exact hSu | with_reducible exact hS0 | with_reducible apply HB.drew))
    (first
      | (go_at_call 99; refine (T2.out _).mono ?_; rintro e w3 ⟨⟨v1, v2, rfl, hN1, hN2⟩, hbu⟩; have hSu := HB.call (by assumption) hbu; have HN1 : Hid _ := hN1; have HN2 : Hid _ := hN2; clear hN1 hN2)
      | (go_at_call 83; refine (T3.out _ _ _ HN1.out HN2.out).mono ?_; rintro e w4 ⟨rfl, hbu⟩; have hSu := HB.call (by assumption) hbu))
  all_goals
    rename_i hH
    go_wp2
    go_ret2
    exact ⟨rfl, bt HB0.out hH⟩
end Go.Proofs.Ygcoaf
