/-
  WALKS, the second: ieee.Unpack.
-/
import Derived.Test.YgcoafW1
namespace Go.Proofs.Ygcoaf
open Go.RowKit

set_option maxHeartbeats 400000 in
theorem subnormal_yes {E M : Nat} (h1 : 2 ≤ E) (h2 : E ≤ 11) (h3 : 2 ≤ M) (h4 : M ≤ 52) (neg : Bool) (m : Nat) (h0 : 0 < m) (hm : m < 2 ^ M) (w : World) :
    Calls Oafg.prog 117 #[.agg #[.int .u8 E, .int .u8 M], .bool neg, .int .u64 m] w fun e w' =>
      e = .returned (.agg #[.bool neg, .int .i8 1, .int .i16 (1 - biasN E - M - (M - m.log2 : Nat)), .int .u64 ((m * 2 ^ (M - m.log2) : Nat) : Int)]) ∧ Below w.heap.size w w' := by
  have hl := log2_lt_of M m (by omega) hm
  have hmb : 2 ^ M ≤ 2 ^ 52 := two_pow_le h4
  have hm64 : m < 18446744073709551616 := by omega
  obtain ⟨l, hle⟩ : ∃ l, l = m.log2 := ⟨_, rfl⟩
  have HL : Hid _ := hle
  rw [← hle] at hl ⊢
  have HM : Hid _ := hm
  have hbi := biasN_bd h1 h2
  have s1 : IntKind.u8.wrap ((M : Int) + 1) = (M : Int) + 1 := by rw [IntKind.wrap_u8']; omega
  have s2 : IntKind.u8.wrap ((M : Int) + 1 - ((l : Int) + 1)) = ((M - l : Nat) : Int) := by rw [IntKind.wrap_u8']; omega
  have s3 : IntKind.i16.wrap (1 - biasN E) = 1 - biasN E := by rw [wrap_i16]; omega
  have s4 : IntKind.i16.wrap (M : Int) = (M : Int) := by rw [wrap_i16]; omega
  have s5 : IntKind.i16.wrap ((M - l : Nat) : Int) = ((M - l : Nat) : Int) := by rw [wrap_i16]; omega
  have s6 : IntKind.i16.wrap (1 - biasN E - (M : Int)) = 1 - biasN E - (M : Int) := by rw [wrap_i16]; omega
  have s7 : IntKind.i16.wrap (1 - biasN E - (M : Int) - ((M - l : Nat) : Int)) = 1 - biasN E - (M : Int) - ((M - l : Nat) : Int) := by rw [wrap_i16]; omega
  have s8 : IntKind.u64.wrap ((m : Int) * 2 ^ (M - l)) = ((m * 2 ^ (M - l) : Nat) : Int) := by
    have := (sub_bd M m (by omega) hm).2
    rw [← hle] at this
    have h53 : 2 ^ (M + 1) ≤ 2 ^ 53 := two_pow_le (by omega)
    rw [← cast_two_pow, ← Int.natCast_mul, wrap64_nat, Nat.mod_eq_of_lt (by omega)]
  generalize hq : m * 2 ^ (M - l) = q at s8 ⊢
  clear hm hmb hle hq hbi
  go_enter Oafg.func117, Oafg.ntmps117
  go_wp2
  go_region_held3 (fun w' => Below w.heap.size w w' ∧ w'.cell? ⟨w.heap.size, 0, none⟩ = some (.int .u8 E) ∧ w'.cell? ⟨w.heap.size, 1, none⟩ = some (.int .u8 M))
    (first | assumption | exact ⟨(((Below.refl _ _).alloc (Nat.le_refl _) _).alloc (by simp) _).drew, by simp, by simp⟩)
    ((go_at_call 177; refine (width_pos m hm64 h0 _).mono ?_; rintro e w2 ⟨rfl, rfl⟩; rw [← HL.out]))
  rename_i hH
  clear hH
  go_wp2
  obtain ⟨W, hW⟩ : ∃ W, W = ((w.alloc (.cells #[.int .u8 E, .int .u8 M] 27)).alloc (.cells #[.bool false, .int .i8 0, .int .i16 0, .int .u64 0] 94)).drew := ⟨_, rfl⟩
  have hR : w.heap.size + 1 < W.heap.size := by rw [hW]; simp
  have hw0 : w.heap.size ≤ w.heap.size + 1 := by omega
  have hS0 : HeldR w W (w.heap.size + 1) W.drew := heldR_start (by rw [hW]; exact (((Below.refl _ _).alloc (Nat.le_refl _) _).alloc (by simp) _).drew)
  subst hW
  go_region_held3 (fun w' => HeldR w ((w.alloc (.cells #[.int .u8 E, .int .u8 M] 27)).alloc (.cells #[.bool false, .int .i8 0, .int .i16 0, .int .u64 0] 94)).drew (w.heap.size + 1) w')
    (first | with_reducible exact hS0 | with_reducible exact heldR_call hR (by assumption) hb | with_reducible exact heldR_set hw0 (heldR_set hw0 (heldR_set hw0 (heldR_set hw0 (by assumption) _ _) _ _) _ _) _ _)
    ((go_at_call 118; refine (bias_yes h1 h2 h3 h4 _).mono ?_; rintro e w2 ⟨rfl, hb⟩))
  rename_i hH
  obtain ⟨hc, hf⟩ := bcell hb
  go_wp2
  exact bodyPost_ret (v := .agg #[.bool neg, .int .i8 1, .int .i16 (1 - biasN E - M - (M - l : Nat)), .int .u64 q]) (by simp [results, Oafg.results117, go_sem, hc]) rfl ⟨rfl, hH.1⟩

/-- what the fields come to, in the walk's spelling -/
theorem fields_spell {E M : Nat} (h1 : 2 ≤ E) (h2 : E ≤ 11) (h3 : 2 ≤ M) (h4 : M ≤ 52) (x : Nat) (hx : x < 18446744073709551616) :
    (bits .and .u64 (x : Int) (2 ^ (E + M)) != 0) = sF E M x ∧ bits .and .u64 ((x : Int) / 2 ^ M) ((2 ^ E - 1 : Nat) : Int) = (eF E M x : Int) ∧ bits .and .u64 (x : Int) ((2 ^ M - 1 : Nat) : Int) = (mF M x : Int) ∧
    (2 : Int) ^ E - 1 = ((2 ^ E - 1 : Nat) : Int) ∧ (2 : Int) ^ M - 1 = ((2 ^ M - 1 : Nat) : Int) := by
  have e1 : 2 ^ E ≤ 2 ^ 11 := two_pow_le h2
  have e2 : 2 ^ M ≤ 2 ^ 52 := two_pow_le h4
  have e3 : 2 ^ (E + M) ≤ 2 ^ 63 := two_pow_le (by omega)
  have p1 := Nat.two_pow_pos E
  have p2 := Nat.two_pow_pos M
  have hq : x / 2 ^ M ≤ x := Nat.div_le_self _ _
  refine ⟨?_, ?_, ?_, ?_, ?_⟩
  · rw [and64 x (2 ^ (E + M)) _ _ rfl (by simp) hx (by omega), nat_bit]
    unfold sF
    have hm : x / 2 ^ (E + M) % 2 < 2 := Nat.mod_lt _ (by decide)
    have p3 := Nat.two_pow_pos (E + M)
    generalize 2 ^ (E + M) = d at *
    generalize x / d % 2 = b at *
    have : b = 0 ∨ b = 1 := by omega
    rcases this with rfl | rfl
    · simp
    · simp; omega
  · rw [and64 (x / 2 ^ M) (2 ^ E - 1) _ _ (by simp) rfl (by omega) (by omega), Nat.and_two_pow_sub_one_eq_mod]; rfl
  · rw [and64 x (2 ^ M - 1) _ _ rfl rfl hx (by omega), Nat.and_two_pow_sub_one_eq_mod]; rfl
  · rw [← cast_two_pow]; omega
  · rw [← cast_two_pow]; omega

theorem top_spell {E : Nat} (h1 : E ≤ 52) : IntKind.u64.wrap ((2 : Int) ^ E - 1) = (2 : Int) ^ E - 1 := by
  have e1 : 2 ^ E ≤ 2 ^ 52 := two_pow_le h1
  have p1 := Nat.two_pow_pos E
  rw [← cast_two_pow, IntKind.wrap_u64]; omega

set_option maxHeartbeats 800000 in
theorem unpack_nan {E M : Nat} (h1 : 2 ≤ E) (h2 : E ≤ 11) (h3 : 2 ≤ M) (h4 : M ≤ 52) (x : Nat) (hx : x < 18446744073709551616) (he : eF E M x = 2 ^ E - 1) (hm : mF M x ≠ 0) (w : World) :
    Calls Oafg.prog 70 #[.agg #[.int .u8 E, .int .u8 M], .int .u64 x] w fun e w' =>
      e = .returned (.agg #[.bool false, .int .i8 4, .int .i16 0, .int .u64 0]) ∧ Below w.heap.size w w' := by
  obtain ⟨f1, f2, f3, f4, f5⟩ := fields_spell h1 h2 h3 h4 x hx
  have s1 : IntKind.u64.wrap (2 ^ E) = 2 ^ E := wrap64_pow E (by omega)
  have s2 : IntKind.u64.wrap (2 ^ M) = 2 ^ M := wrap64_pow M (by omega)
  have hmlt := mF_lt M x
  have helt := eF_lt E M x
  have hE11 : 2 ^ E ≤ 2 ^ 11 := two_pow_le h2
  have hM52 : 2 ^ M ≤ 2 ^ 52 := two_pow_le h4
  have hE0 := Nat.two_pow_pos E
  have s3 : 2 ^ E - 1 < 18446744073709551616 := by omega
  have s4 : 2 ^ M - 1 < 18446744073709551616 := by omega
  generalize hTe : 2 ^ E - 1 = T at *
  generalize hUe : 2 ^ M - 1 = U at *
  generalize sF E M x = sg at *
  generalize eF E M x = e at *
  generalize hme : mF M x = m at *
  have q1 : ((m : Int) != 0) = true := by rw [bne_iff_ne]; omega
  subst he
  clear hTe hUe hmlt helt hE11 hM52 hE0 hme
  go_enter Oafg.func70, Oafg.ntmps70
  go_wp2_with (first
    | (go_at_call 54; refine (ok_yes h1 h2 h3 h4 _).mono ?_; rintro e w1 ⟨rfl, hb1⟩; obtain ⟨hc1, hf1⟩ := bcell hb1)
    | (go_at_call 71; refine (signBit_yes h1 h2 h3 h4 _).mono ?_; rintro e w2 ⟨rfl, hb2'⟩; have hb2 := hb1.trans (hb2'.mono hb1.size); clear hc1 hf1 hb2'; obtain ⟨hc2, hf2⟩ := bcell hb2))
  exact bodyPost_ret (v := .agg #[.bool false, .int .i8 4, .int .i16 0, .int .u64 0]) (by simp [results, Oafg.results70, go_sem, hc2]) rfl ⟨rfl, by repeat (first | exact below2 hb2 | apply Below.setCell _ (by simp))⟩

set_option maxHeartbeats 800000 in
theorem unpack_inf {E M : Nat} (h1 : 2 ≤ E) (h2 : E ≤ 11) (h3 : 2 ≤ M) (h4 : M ≤ 52) (x : Nat) (hx : x < 18446744073709551616) (he : eF E M x = 2 ^ E - 1) (hm : mF M x = 0) (w : World) :
    Calls Oafg.prog 70 #[.agg #[.int .u8 E, .int .u8 M], .int .u64 x] w fun e w' =>
      e = .returned (.agg #[.bool (sF E M x), .int .i8 3, .int .i16 0, .int .u64 0]) ∧ Below w.heap.size w w' := by
  obtain ⟨f1, f2, f3, f4, f5⟩ := fields_spell h1 h2 h3 h4 x hx
  have s1 : IntKind.u64.wrap (2 ^ E) = 2 ^ E := wrap64_pow E (by omega)
  have s2 : IntKind.u64.wrap (2 ^ M) = 2 ^ M := wrap64_pow M (by omega)
  have hmlt := mF_lt M x
  have helt := eF_lt E M x
  have hE11 : 2 ^ E ≤ 2 ^ 11 := two_pow_le h2
  have hM52 : 2 ^ M ≤ 2 ^ 52 := two_pow_le h4
  have hE0 := Nat.two_pow_pos E
  have s3 : 2 ^ E - 1 < 18446744073709551616 := by omega
  have s4 : 2 ^ M - 1 < 18446744073709551616 := by omega
  generalize hTe : 2 ^ E - 1 = T at *
  generalize hUe : 2 ^ M - 1 = U at *
  generalize sF E M x = sg at *
  generalize eF E M x = e at *
  generalize hme : mF M x = m at *
  have q1 : ((m : Int) != 0) = false := by simp [hm]
  subst he
  clear hTe hUe hmlt helt hE11 hM52 hE0 hme hm
  go_enter Oafg.func70, Oafg.ntmps70
  go_wp2_with (first
    | (go_at_call 54; refine (ok_yes h1 h2 h3 h4 _).mono ?_; rintro e w1 ⟨rfl, hb1⟩; obtain ⟨hc1, hf1⟩ := bcell hb1)
    | (go_at_call 71; refine (signBit_yes h1 h2 h3 h4 _).mono ?_; rintro e w2 ⟨rfl, hb2'⟩; have hb2 := hb1.trans (hb2'.mono hb1.size); clear hc1 hf1 hb2'; obtain ⟨hc2, hf2⟩ := bcell hb2))
  exact bodyPost_ret (v := .agg #[.bool sg, .int .i8 3, .int .i16 0, .int .u64 0]) (by simp [results, Oafg.results70, go_sem, hc2]) rfl ⟨rfl, by repeat (first | exact below2 hb2 | apply Below.setCell _ (by simp))⟩

set_option maxHeartbeats 800000 in
theorem unpack_zero {E M : Nat} (h1 : 2 ≤ E) (h2 : E ≤ 11) (h3 : 2 ≤ M) (h4 : M ≤ 52) (x : Nat) (hx : x < 18446744073709551616) (he : eF E M x = 0) (hm : mF M x = 0) (w : World) :
    Calls Oafg.prog 70 #[.agg #[.int .u8 E, .int .u8 M], .int .u64 x] w fun e w' =>
      e = .returned (.agg #[.bool (sF E M x), .int .i8 0, .int .i16 0, .int .u64 0]) ∧ Below w.heap.size w w' := by
  obtain ⟨f1, f2, f3, f4, f5⟩ := fields_spell h1 h2 h3 h4 x hx
  have s1 : IntKind.u64.wrap (2 ^ E) = 2 ^ E := wrap64_pow E (by omega)
  have s2 : IntKind.u64.wrap (2 ^ M) = 2 ^ M := wrap64_pow M (by omega)
  have hmlt := mF_lt M x
  have helt := eF_lt E M x
  have hE11 : 2 ^ E ≤ 2 ^ 11 := two_pow_le h2
  have hM52 : 2 ^ M ≤ 2 ^ 52 := two_pow_le h4
  have hE0 := Nat.two_pow_pos E
  have s3 : 2 ^ E - 1 < 18446744073709551616 := by omega
  have s4 : 2 ^ M - 1 < 18446744073709551616 := by omega
  have h4E : 2 ^ 2 ≤ 2 ^ E := two_pow_le h1
  generalize hTe : 2 ^ E - 1 = T at *
  generalize hUe : 2 ^ M - 1 = U at *
  generalize sF E M x = sg at *
  generalize eF E M x = e at *
  generalize hme : mF M x = m at *
  have q1 : ((m : Int) != 0) = false := by simp [hm]
  have q2 : ((m : Int) == 0) = true := by simp [hm]
  have q3 : ((e : Int) == (T : Int)) = false := by rw [beq_eq_false_iff_ne]; omega
  have q4 : ((e : Int) == 0) = true := by simp [he]
  clear hTe hUe hmlt helt hE11 hM52 hE0 hme hm he h4E
  go_enter Oafg.func70, Oafg.ntmps70
  go_wp2_with (first
    | (go_at_call 54; refine (ok_yes h1 h2 h3 h4 _).mono ?_; rintro e w1 ⟨rfl, hb1⟩; obtain ⟨hc1, hf1⟩ := bcell hb1)
    | (go_at_call 71; refine (signBit_yes h1 h2 h3 h4 _).mono ?_; rintro e w2 ⟨rfl, hb2'⟩; have hb2 := hb1.trans (hb2'.mono hb1.size); clear hc1 hf1 hb2'; obtain ⟨hc2, hf2⟩ := bcell hb2))
  exact bodyPost_ret (v := .agg #[.bool sg, .int .i8 0, .int .i16 0, .int .u64 0]) (by simp [results, Oafg.results70, go_sem, hc2]) rfl ⟨rfl, by repeat (first | exact below2 hb2 | apply Below.setCell _ (by simp))⟩

set_option maxHeartbeats 800000 in
theorem unpack_sub {E M : Nat} (h1 : 2 ≤ E) (h2 : E ≤ 11) (h3 : 2 ≤ M) (h4 : M ≤ 52) (x : Nat) (hx : x < 18446744073709551616) (he : eF E M x = 0) (hm : mF M x ≠ 0) (w : World) :
    Calls Oafg.prog 70 #[.agg #[.int .u8 E, .int .u8 M], .int .u64 x] w fun e w' =>
      e = .returned (.agg #[.bool (sF E M x), .int .i8 1, .int .i16 (1 - biasN E - M - (M - (mF M x).log2 : Nat)), .int .u64 ((mF M x * 2 ^ (M - (mF M x).log2) : Nat) : Int)]) ∧ Below w.heap.size w w' := by
  obtain ⟨f1, f2, f3, f4, f5⟩ := fields_spell h1 h2 h3 h4 x hx
  have s1 : IntKind.u64.wrap (2 ^ E) = 2 ^ E := wrap64_pow E (by omega)
  have s2 : IntKind.u64.wrap (2 ^ M) = 2 ^ M := wrap64_pow M (by omega)
  have hmlt := mF_lt M x
  have helt := eF_lt E M x
  have hE11 : 2 ^ E ≤ 2 ^ 11 := two_pow_le h2
  have hM52 : 2 ^ M ≤ 2 ^ 52 := two_pow_le h4
  have hE0 := Nat.two_pow_pos E
  have s3 : 2 ^ E - 1 < 18446744073709551616 := by omega
  have s4 : 2 ^ M - 1 < 18446744073709551616 := by omega
  have h4E : 2 ^ 2 ≤ 2 ^ E := two_pow_le h1
  generalize hTe : 2 ^ E - 1 = T at *
  generalize hUe : 2 ^ M - 1 = U at *
  generalize sF E M x = sg at *
  generalize eF E M x = e at *
  generalize hme : mF M x = m at *
  have q1 : ((m : Int) != 0) = true := by rw [bne_iff_ne]; omega
  have q2 : ((m : Int) == 0) = false := by rw [beq_eq_false_iff_ne]; omega
  have q3 : ((e : Int) == (T : Int)) = false := by rw [beq_eq_false_iff_ne]; omega
  have q4 : ((e : Int) == 0) = true := by simp [he]
  have HM : Hid (m < 2 ^ M) := hmlt
  have hm0 : 0 < m := by omega
  clear hTe hUe hmlt helt hE11 hM52 hE0 hme he h4E hm
  go_enter Oafg.func70, Oafg.ntmps70
  go_wp2_with (first
    | (go_at_call 54; refine (ok_yes h1 h2 h3 h4 _).mono ?_; rintro e w1 ⟨rfl, hb1⟩; obtain ⟨hc1, hf1⟩ := bcell hb1)
    | (go_at_call 71; refine (signBit_yes h1 h2 h3 h4 _).mono ?_; rintro e w2 ⟨rfl, hb2'⟩; have hb2 := hb1.trans (hb2'.mono hb1.size); clear hc1 hf1 hb2'; obtain ⟨hc2, hf2⟩ := bcell hb2)
    | (go_at_call 117; refine (subnormal_yes h1 h2 h3 h4 sg m hm0 HM.out _).mono ?_; rintro e w3 ⟨rfl, hb3'⟩; have hb3 := hb2.trans (hb3'.mono hb2.size); clear hc2 hf2 hb3'; obtain ⟨hc3, hf3⟩ := bcell hb3))
  exact bodyPost_ret (v := .agg #[.bool sg, .int .i8 1, .int .i16 (1 - biasN E - M - (M - m.log2 : Nat)), .int .u64 ((m * 2 ^ (M - m.log2) : Nat) : Int)]) (by simp [results, Oafg.results70, go_sem, hc3]) rfl ⟨rfl, by repeat (first | exact below2 hb3 | apply Below.setCell _ (by simp))⟩

set_option maxHeartbeats 800000 in
theorem unpack_norm {E M : Nat} (h1 : 2 ≤ E) (h2 : E ≤ 11) (h3 : 2 ≤ M) (h4 : M ≤ 52) (x : Nat) (hx : x < 18446744073709551616) (he : eF E M x ≠ 0) (he2 : eF E M x ≠ 2 ^ E - 1) (w : World) :
    Calls Oafg.prog 70 #[.agg #[.int .u8 E, .int .u8 M], .int .u64 x] w fun e w' =>
      e = .returned (.agg #[.bool (sF E M x), .int .i8 2, .int .i16 ((eF E M x : Int) - biasN E - M), .int .u64 ((mF M x + 2 ^ M : Nat) : Int)]) ∧ Below w.heap.size w w' := by
  obtain ⟨f1, f2, f3, f4, f5⟩ := fields_spell h1 h2 h3 h4 x hx
  have s1 : IntKind.u64.wrap (2 ^ E) = 2 ^ E := wrap64_pow E (by omega)
  have s2 : IntKind.u64.wrap (2 ^ M) = 2 ^ M := wrap64_pow M (by omega)
  have hmlt := mF_lt M x
  have helt := eF_lt E M x
  have hE11 : 2 ^ E ≤ 2 ^ 11 := two_pow_le h2
  have hM52 : 2 ^ M ≤ 2 ^ 52 := two_pow_le h4
  have hE0 := Nat.two_pow_pos E
  have s3 : 2 ^ E - 1 < 18446744073709551616 := by omega
  have s4 : 2 ^ M - 1 < 18446744073709551616 := by omega
  have hor : bits .or .u64 (mF M x : Int) (2 ^ M) = ((mF M x + 2 ^ M : Nat) : Int) := by
    rw [or64 _ (2 ^ M) _ (by simp) (by omega) (by omega), or_add _ _ hmlt]
  have hbi := biasN_bd h1 h2
  generalize hTe : 2 ^ E - 1 = T at *
  generalize hUe : 2 ^ M - 1 = U at *
  generalize sF E M x = sg at *
  generalize eF E M x = e at *
  generalize hme : mF M x = m at *
  generalize hre : m + 2 ^ M = r at *
  have q3 : ((e : Int) == (T : Int)) = false := by rw [beq_eq_false_iff_ne]; omega
  have q4 : ((e : Int) == 0) = false := by rw [beq_eq_false_iff_ne]; omega
  have t1 : IntKind.i16.wrap (e : Int) = (e : Int) := by rw [wrap_i16]; omega
  have t2 : IntKind.i16.wrap ((e : Int) - biasN E) = (e : Int) - biasN E := by rw [wrap_i16]; omega
  have t3 : IntKind.i16.wrap (M : Int) = (M : Int) := by rw [wrap_i16]; omega
  have t4 : IntKind.i16.wrap ((e : Int) - biasN E - (M : Int)) = (e : Int) - biasN E - (M : Int) := by rw [wrap_i16]; omega
  clear hTe hUe hmlt helt hE11 hM52 hE0 hme he he2 hbi hre
  go_enter Oafg.func70, Oafg.ntmps70
  go_wp2_with (first
    | (go_at_call 54; refine (ok_yes h1 h2 h3 h4 _).mono ?_; rintro e w1 ⟨rfl, hb1⟩; obtain ⟨hc1, hf1⟩ := bcell hb1)
    | (go_at_call 71; refine (signBit_yes h1 h2 h3 h4 _).mono ?_; rintro e w2 ⟨rfl, hb2'⟩; have hb2 := hb1.trans (hb2'.mono hb1.size); clear hc1 hf1 hb2'; obtain ⟨hc2, hf2⟩ := bcell hb2))
  obtain ⟨W, hW⟩ : ∃ W, W = (w.alloc (.cells #[.int .u8 E, .int .u8 M] 27)).alloc (.cells #[.bool false, .int .i8 0, .int .i16 0, .int .u64 0] 94) := ⟨_, rfl⟩
  have hR : w.heap.size + 1 < W.heap.size := by rw [hW]; simp
  have hw0 : w.heap.size ≤ w.heap.size + 1 := by omega
  have hS0 : HeldR w W (w.heap.size + 1) w2.drew := heldR_from hR (by rw [hW]; exact self2) (by rw [hW]; exact hb2)
  subst hW
  go_region_held3 (fun w' => HeldR w ((w.alloc (.cells #[.int .u8 E, .int .u8 M] 27)).alloc (.cells #[.bool false, .int .i8 0, .int .i16 0, .int .u64 0] 94)) (w.heap.size + 1) w')
    (first | with_reducible exact hS0 | with_reducible exact heldR_call hR (by assumption) hb | with_reducible exact heldR_set hw0 (heldR_set hw0 (heldR_set hw0 (heldR_set hw0 (by assumption) _ _) _ _) _ _) _ _)
    ((go_at_call 118; refine (bias_yes h1 h2 h3 h4 _).mono ?_; rintro e w3 ⟨rfl, hb⟩))
  rename_i hH
  have hb3 := hb2.drew.trans (hb.mono hb2.size)
  obtain ⟨hc3, hf3⟩ := bcell hb3
  go_wp2
  exact bodyPost_ret (v := .agg #[.bool sg, .int .i8 2, .int .i16 (e - biasN E - M), .int .u64 r]) (by simp [results, Oafg.results70, go_sem, hc3]) rfl ⟨rfl, hH.1⟩

end Go.Proofs.Ygcoaf
