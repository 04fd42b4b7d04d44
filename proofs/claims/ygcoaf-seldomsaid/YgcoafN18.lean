/-
  nat.DivMod.
-/
import Derived.Test.YgcoafN17
namespace Go.Proofs.Ygcoaf
open Go.RowKit

theorem cmpN_lt {a b : Nat} : cmpN a b < 0 ↔ a < b := by
  unfold cmpN
  by_cases h : a < b
  · simp [h]
  · rw [if_neg h]
    by_cases e : a = b
    · simp [e]
    · rw [if_neg e]; omega

theorem cmpN_bd (a b : Nat) : -1 ≤ cmpN a b ∧ cmpN a b ≤ 1 := by
  unfold cmpN; split
  · omega
  · split <;> omega

theorem SL.one {w : World} {b off cap : Nat} {ys : List Nat} (s : SL w (some ⟨b, off, none⟩) cap ys) (h : ys.length = 1) : ∃ d, lv ys = d ∧ d < 4294967296 ∧ w.cell? ⟨b, off, none⟩ = some (.int .u32 d) ∧ 1 ≤ cap := by
  match ys, h with
  | [d], _ =>
    obtain ⟨b', off', e, c⟩ := s.cell 0 (by simp)
    cases e
    have hl := s.lim 0 (by simp)
    have hf := s.fits
    simp at hl hf
    exact ⟨d, by simp [lv], hl, by simpa using c, hf⟩

set_option maxRecDepth 8000 in
set_option maxHeartbeats 1000000 in
/-- nat.DivMod -/
theorem divMod_nat {w : World} {va vb : Value} {A0 B0 : Nat} (s1 : NatV w va A0) (s2 : NatV w vb B0) (b1 : bl A0 ≤ 900000) (b2 : bl B0 ≤ 900000) (hB : B0 ≠ 0) :
    Calls Oafg.prog 145 #[va, vb] w fun e w' => (∃ v1 v2, e = .returned (.tuple #[v1, v2, .bool true]) ∧ NatV w' v1 (A0 / B0) ∧ NatV w' v2 (A0 % B0)) ∧ Below w.heap.size w w' := by
  have T1 : Hid _ := fun (_ : Unit) => trim_nat s1
  have T2 : Hid _ := fun (_ : Unit) => trim_nat s2
  have qE := eqNil
  obtain ⟨q, hq⟩ : ∃ q, q = A0 / B0 := ⟨_, rfl⟩
  obtain ⟨r, hr⟩ : ∃ r, r = A0 % B0 := ⟨_, rfl⟩
  rw [← hq, ← hr]
  have Hq : Hid _ := hq
  have Hr : Hid _ := hr
  clear hq hr
  go_enter Oafg.func145, Oafg.ntmps145
  go_upto_region 2 with (first
    | (go_at_call_of 136 (va); refine (T1.out ()).mono ?_; rintro e w1 ⟨⟨u1, rfl, hN1⟩, hw1⟩; have hw1 := hw1.symm; subst hw1)
    | (go_at_call_of 136 (vb); refine (T2.out ()).mono ?_; rintro e w1 ⟨⟨u2, rfl, hN2⟩, hw2⟩; have hw2 := hw2.symm; subst hw2))
  obtain ⟨b0, off0, cap0, ys, rfl, hs, hl, hne, htop, hcap⟩ := hN2.pos hB
  obtain ⟨C, hC⟩ : ∃ C, C = cmpN A0 B0 := ⟨_, rfl⟩
  have hCmp := cmp_nat hN1 hN2 (by omega) (by omega)
  rw [← hC] at hCmp
  have hC2 := cmpN_bd A0 B0
  rw [← hC] at hC2
  have hCl := cmpN_lt (a := A0) (b := B0)
  rw [← hC] at hCl
  have HCmp : Hid _ := fun (_ : Unit) => hCmp
  obtain ⟨lb, hlb⟩ : ∃ lb, lb = ys.length := ⟨_, rfl⟩
  rw [← hlb] at HCmp hN2 ⊢
  have HN1 : Hid _ := hN1
  have HN2 : Hid _ := hN2
  by_cases c1 : A0 < B0
  · have hlt : C < 0 := hCl.2 c1
    have eq0 : q = 0 := by rw [Hq.out]; exact Nat.div_eq_of_lt c1
    have er : r = A0 := by rw [Hr.out]; exact Nat.mod_eq_of_lt c1
    have HT : Hid (∀ w2, Below w.heap.size w w2 → Calls Oafg.prog 178 #[u1] w2 fun e w' => (∃ v, e = .returned v ∧ NatV w' v A0) ∧ Below w2.heap.size w2 w') := fun w2 h2 => take_nat (hN1.call h2) (by omega)
    clear hCl hC hCmp hs hl hne htop hlb hN1 hN2 T1 T2 s1 s2 c1
    go_wp2_with (first
      | (go_at_call 179; refine (HCmp.out ()).mono ?_; rintro e w2 ⟨rfl, hb2⟩; have HB2 : Hid _ := hb2; clear hb2)
      | (go_at_call 178; refine (HT.out _ HB2.out).mono ?_; rintro e w3 ⟨⟨v3, rfl, hN3⟩, hb3⟩; have HN3 : Hid _ := hN3; have HB3 : Hid _ := hb3; clear hN3 hb3))
    go_ret3
    exact ⟨⟨_, _, rfl, by rw [eq0]; exact natV_nil _, by rw [er]; exact HN3.out⟩, bt HB2.out HB3.out⟩
  have hge : ¬ C < 0 := fun h => c1 (hCl.1 h)
  by_cases c2 : lb = 1
  · have hl1 : ys.length = 1 := by rw [← hlb]; exact c2
    obtain ⟨d, hd', hdl, hcell, hfit⟩ := hs.one hl1
    have hd : d = B0 := by rw [← hd']; exact hl
    have hd0 : 0 < d := by omega
    clear hd'
    have hcellw : ∀ w2, Below w.heap.size w w2 → w2.cell? ⟨b0, off0, none⟩ = some (.int .u32 d) := fun w2 h2 => by rw [h2.cell (World.block_lt_of_cell? _ _ hcell)]; exact hcell
    have HCW : Hid _ := hcellw
    have HDL : Hid (∀ w2, Below w.heap.size w w2 → Calls Oafg.prog 188 #[u1, .int .u32 d] w2 fun e w' => (∃ v', e = .returned (.tuple #[v', .int .u32 r]) ∧ NatV w' v' q) ∧ Below w2.heap.size w2 w') := fun w2 h2 => by
      have := divLimb_nat d hd0 hdl (HN1.out.call h2) (by omega)
      rw [hd, ← Hq.out, ← Hr.out] at this
      rw [hd]; exact this
    have hrb : r < 4294967296 := by rw [Hr.out]; have := Nat.mod_lt A0 (show 0 < B0 by omega); omega
    have HF : Hid _ := fun w2 => fromU64_any r (by omega) w2
    subst c2
    clear hCl hC hCmp hs hl hne htop hlb hN1 hN2 T1 T2 s1 s2 hcellw hcell hl1 hd
    go_upto_region 7 with (go_at_call 179; refine (HCmp.out ()).mono ?_; rintro e w2 ⟨rfl, hb2⟩; have hcd := HCW.out _ hb2; have HB2 : Hid _ := hb2; clear hb2)
    go_wp2_with (first
      | (go_at_call 188; refine (HDL.out _ HB2.out).mono ?_; rintro e w3 ⟨⟨v3, rfl, hN3⟩, hb3⟩; have HN3 : Hid _ := hN3; have HB3 : Hid _ := hb3; clear hN3 hb3)
      | (go_at_call 86; refine (HF.out _).mono ?_; rintro e w4 ⟨⟨v4, rfl, hN4⟩, hb4⟩; have HN4 : Hid _ := hN4; have HB4 : Hid _ := hb4; clear hN4 hb4))
    go_ret3
    exact ⟨⟨_, _, rfl, HN3.out.call HB4.out, HN4.out⟩, bt (bt HB2.out HB3.out) HB4.out⟩
  · have hbig : 4294967296 ≤ B0 := by
      have h2 : 1 < ys.length := by have := List.length_pos_iff.2 hne; omega
      obtain ⟨j, hj⟩ : ∃ j, ys.length = j + 2 := ⟨ys.length - 2, by omega⟩
      rw [hj] at htop
      have ht := lv_top ys (j + 1) (by omega)
      rw [hl] at ht
      have h3 : 2 ^ 32 ≤ 2 ^ (32 * (j + 1)) := two_pow_le (by omega)
      have h4 : 2 ^ (32 * (j + 1)) * 1 ≤ 2 ^ (32 * (j + 1)) * ys.getD (j + 1) 0 := Nat.mul_le_mul_left _ (Nat.pos_of_ne_zero htop)
      omega
    have HDL : Hid (∀ w2, Below w.heap.size w w2 → Calls Oafg.prog 189 #[u1, .slice (some ⟨b0, off0, none⟩) lb cap0] w2 fun e w' => (∃ v1 v2, e = .returned (.tuple #[v1, v2]) ∧ NatV w' v1 q ∧ NatV w' v2 r) ∧ Below w2.heap.size w2 w') := fun w2 h2 => by
      have := divLong_nat (HN1.out.call h2) (HN2.out.call h2) b1 b2 hbig (by omega)
      rw [← Hq.out, ← Hr.out] at this
      exact this
    have hne1 : ((lb : Int) == 1) = false := by rw [beq_eq_false_iff_ne]; omega
    clear hCl hC hCmp hs hl hne htop hlb hN1 hN2 T1 T2 s1 s2 hbig
    go_wp2_with (first
      | (go_at_call 179; refine (HCmp.out ()).mono ?_; rintro e w2 ⟨rfl, hb2⟩; have HB2 : Hid _ := hb2; clear hb2)
      | (go_at_call 189; refine (HDL.out _ HB2.out).mono ?_; rintro e w3 ⟨⟨v3, v4, rfl, hN3, hN4⟩, hb3⟩; have HN3 : Hid _ := hN3; have HN4 : Hid _ := hN4; have HB3 : Hid _ := hb3; clear hN3 hN4 hb3))
    go_ret3
    exact ⟨⟨_, _, rfl, HN3.out, HN4.out⟩, bt HB2.out HB3.out⟩
end Go.Proofs.Ygcoaf
