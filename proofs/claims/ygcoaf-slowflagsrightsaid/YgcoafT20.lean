/-
  dec.Make.
-/
import Derived.Test.YgcoafS2
namespace Go.Proofs.Ygcoaf
open Go.RowKit Go.Proofs.Ygcoaf.M

/-- what Make's loop holds: the span from the first digit that is not zero to behind the last -/
structure MK (s : ByteArray) (i f t : Nat) : Prop where
  le : i ≤ s.size
  dig : ∀ j, j < i → 48 ≤ byt s j ∧ byt s j ≤ 57
  span : (t = 0 ∧ f = s.size) ∨ (f < t ∧ t ≤ i ∧ byt s f ≠ 48 ∧ byt s (t - 1) ≠ 48)
theorem MK.start (s : ByteArray) : MK s 0 s.size 0 := ⟨Nat.zero_le _, fun j h => absurd h (by omega), Or.inl ⟨rfl, rfl⟩⟩
theorem MK.zero {s : ByteArray} {i f t : Nat} (m : MK s i f t) (hi : i < s.size) (hb : byt s i = 48) : MK s (i + 1) f t :=
  ⟨hi, fun j h => by
    by_cases e : j = i
    · subst e; omega
    · exact m.dig j (by omega), m.span.imp id fun ⟨a, b, c, d⟩ => ⟨a, by omega, c, d⟩⟩
theorem MK.one {s : ByteArray} {i f t f' : Nat} (m : MK s i f t) (hi : i < s.size) (h1 : 48 ≤ byt s i) (h2 : byt s i ≤ 57) (h3 : byt s i ≠ 48) (hf : f' = min f i) : MK s (i + 1) f' (i + 1) := by
  refine ⟨hi, fun j h => ?_, Or.inr ?_⟩
  · by_cases e : j = i
    · subst e; exact ⟨h1, h2⟩
    · exact m.dig j (by omega)
  · rcases m.span with ⟨a, b⟩ | ⟨a, b, c, d⟩
    · obtain rfl : f' = i := by omega
      exact ⟨by omega, Nat.le_refl _, h3, by simpa using h3⟩
    · obtain rfl : f' = f := by omega
      exact ⟨by omega, Nat.le_refl _, c, by simpa using h3⟩

theorem size_cut {s : ByteArray} {f t : Nat} (ht : t ≤ s.size) : (s.extract f t).size = t - f := by
  rw [ByteArray.size_extract, Nat.min_eq_left ht]
theorem byt_cut {s : ByteArray} {f t : Nat} (ht : t ≤ s.size) (j : Nat) (hj : j < t - f) : byt (s.extract f t) j = byt s (f + j) := by
  unfold byt
  rw [ByteArray.data_extract, Array.getD_eq_getD_getElem?, Array.getD_eq_getD_getElem?, Array.getElem?_extract_of_lt (by have : s.data.size = s.size := rfl; omega), Array.getElem?_eq_getElem (xs := s.data) (i := f + j) (by have : s.data.size = s.size := rfl; omega)]
theorem canon_cut {s : ByteArray} {f t : Nat} {y : Int} (ht : t ≤ s.size) (hft : f < t) (hd : ∀ j, j < s.size → 48 ≤ byt s j ∧ byt s j ≤ 57) (n1 : byt s f ≠ 48) (n2 : byt s (t - 1) ≠ 48) (h8 : t - f ≤ 800) (y1 : -2000 ≤ y) (y2 : y ≤ 2000) : Canon (s.extract f t) y := by
  have hz := size_cut (f := f) ht
  refine ⟨by omega, fun i hi => ?_, fun h => by omega, fun _ => ⟨?_, ?_⟩, y1, y2⟩
  · rw [byt_cut ht i (by omega)]; exact hd _ (by omega)
  · rw [byt_cut ht 0 (by omega)]; exact n1
  · rw [hz, byt_cut ht _ (by omega), show f + (t - f - 1) = t - 1 by omega]; exact n2

/-- Make's answer: canonical where it says so -/
structure MkP (neg : Bool) (e : Ending) : Prop where
  out : ∃ b s' x ok, e = .returned (.tuple #[.agg #[.bool b, .string s', .int .i16 x], .bool ok]) ∧ (ok = true → b = neg ∧ Canon s' x)

theorem canon0 : Canon ⟨#[]⟩ 0 := ⟨by decide, fun i h => absurd h (by simp [ByteArray.size]), fun _ => rfl, fun h => absurd rfl h, by decide⟩

set_option maxRecDepth 8000 in
set_option maxHeartbeats 1000000 in
/-- dec.Make -/
theorem make_any (neg : Bool) (s : ByteArray) (exp : Int) (hs : s.size ≤ 9223372036854775807) (w : World) :
    Calls Oafg.prog 53 #[.bool neg, .string s, .int .i64 exp] w fun e w' => MkP neg e ∧ Below w.heap.size w w' := by
  go_enter Oafg.func53, Oafg.ntmps53
  go_wp2
  go_loop [8, 9, 10] (fun f t i => ∃ f' t' i' : Nat, f = .int .i64 f' ∧ t = .int .i64 t' ∧ i = .int .i64 i' ∧ Hid (MK s i' f' t')) (fun _ _ i => s.size - (intOf i).toNat)
  case atStart => exact ⟨_, 0, 0, rfl, rfl, rfl, MK.start s⟩
  case round =>
    obtain ⟨f, t, i, rfl, rfl, rfl, hM⟩ := hrel
    have hil := hM.out.le
    by_cases c : i < s.size
    · have gi := byt_get s i c
      obtain ⟨b, hb⟩ : ∃ b, b = (s[i]'c).toNat := ⟨_, rfl⟩
      have hbb : byt s i = b := by rw [hb, gi]
      by_cases a1 : b < 48
      · have q1 : ((s[i]'c).toNat : Int) < 48 := by omega
        have q2 : (s[i]'c).toNat < 48 := by omega
        clear gi hb hbb
        go_wp2
        exact bodyPost_ret (v := .tuple #[.agg #[.bool false, .string ⟨#[]⟩, .int .i16 0], .bool false]) (by simp [results, Oafg.results53, go_sem]) rfl ⟨⟨_, _, _, _, rfl, fun h => absurd h (by decide)⟩, self1⟩
      by_cases a2 : 57 < b
      · have q1 : ¬ ((s[i]'c).toNat : Int) < 48 := by omega
        have q2 : ¬ (s[i]'c).toNat < 48 := by omega
        have q3 : (57 : Int) < ((s[i]'c).toNat : Int) := by omega
        have q4 : 57 < (s[i]'c).toNat := by omega
        clear gi hb hbb
        go_wp2
        exact bodyPost_ret (v := .tuple #[.agg #[.bool false, .string ⟨#[]⟩, .int .i16 0], .bool false]) (by simp [results, Oafg.results53, go_sem]) rfl ⟨⟨_, _, _, _, rfl, fun h => absurd h (by decide)⟩, self1⟩
      have q1 : ¬ ((s[i]'c).toNat : Int) < 48 := by omega
      have q2 : ¬ (s[i]'c).toNat < 48 := by omega
      have q3 : ¬ (57 : Int) < ((s[i]'c).toNat : Int) := by omega
      have q4 : ¬ 57 < (s[i]'c).toNat := by omega
      by_cases a3 : b = 48
      · have q5 : (((s[i]'c).toNat : Int) == 48) = true := by rw [beq_iff_eq]; omega
        have q6 : (s[i]'c).toNat = 48 := by omega
        have hM2 : Hid (MK s (i + 1) f t) := hM.out.zero c (by omega)
        clear gi hb hbb
        go_wp2
        go_round
        case rel => exact ⟨f, t, i + 1, rfl, rfl, by go_num, hM2⟩
        case measure => simp [intOf]; omega
      · have q5 : (((s[i]'c).toNat : Int) == 48) = false := by rw [beq_eq_false_iff_ne]; omega
        have q6 : ¬ (s[i]'c).toNat = 48 := by omega
        obtain ⟨f', hf'⟩ : ∃ f', f' = min f i := ⟨_, rfl⟩
        have hM2 : Hid (MK s (i + 1) f' (i + 1)) := hM.out.one c (by omega) (by omega) (by omega) hf'
        clear gi hb hbb
        go_wp2
        go_round
        case rel => exact ⟨f', i + 1, i + 1, by rw [hf']; congr 1; split <;> omega, by go_num, by go_num, hM2⟩
        case measure => simp [intOf]; omega
    · obtain rfl : i = s.size := by omega
      clear hil c
      have HD : Hid _ := hM.out.dig
      obtain ⟨t0, f0⟩ | ⟨hft, hts, n1, n2⟩ := hM.out.span
      · subst t0 f0
        clear hM
        go_wp2
        exact bodyPost_ret (v := .tuple #[.agg #[.bool neg, .string ⟨#[]⟩, .int .i16 0], .bool true]) (by simp [results, Oafg.results53, go_sem]) rfl ⟨⟨_, _, _, _, rfl, fun _ => ⟨rfl, canon0⟩⟩, self1⟩
      have t0 : ((t : Int) == 0) = false := by rw [beq_eq_false_iff_ne]; omega
      obtain ⟨z, hz⟩ : ∃ z, z = s.size - t := ⟨_, rfl⟩
      have hz1 : (s.size : Int) - (t : Int) = (z : Int) := by omega
      obtain ⟨y, hy⟩ : ∃ y, IntKind.i64.wrap (exp + (z : Int)) = y := ⟨_, rfl⟩
      obtain ⟨d, hd⟩ : ∃ d : Nat, (t : Int) - (f : Int) = (d : Int) := ⟨t - f, by omega⟩
      have hM' : Hid _ := hM
      clear hM hz
      by_cases g1 : (800 : Int) < (d : Int)
      · go_wp2
        exact bodyPost_ret (v := .tuple #[.agg #[.bool false, .string ⟨#[]⟩, .int .i16 0], .bool false]) (by simp [results, Oafg.results53, go_sem]) rfl ⟨⟨_, _, _, _, rfl, fun h => absurd h (by decide)⟩, self1⟩
      by_cases g2 : 2000 < exp
      · go_wp2
        exact bodyPost_ret (v := .tuple #[.agg #[.bool false, .string ⟨#[]⟩, .int .i16 0], .bool false]) (by simp [results, Oafg.results53, go_sem]) rfl ⟨⟨_, _, _, _, rfl, fun h => absurd h (by decide)⟩, self1⟩
      by_cases g3 : 2000 < y
      · go_wp2
        exact bodyPost_ret (v := .tuple #[.agg #[.bool false, .string ⟨#[]⟩, .int .i16 0], .bool false]) (by simp [results, Oafg.results53, go_sem]) rfl ⟨⟨_, _, _, _, rfl, fun h => absurd h (by decide)⟩, self1⟩
      by_cases g4 : y < -2000
      · go_wp2
        exact bodyPost_ret (v := .tuple #[.agg #[.bool false, .string ⟨#[]⟩, .int .i16 0], .bool false]) (by simp [results, Oafg.results53, go_sem]) rfl ⟨⟨_, _, _, _, rfl, fun h => absurd h (by decide)⟩, self1⟩
      have HC : Hid (Canon (s.extract f t) y) := canon_cut hts hft HD.out n1 n2 (by omega) (by omega) (by omega)
      clear HD n1 n2
      go_wp2
      exact bodyPost_ret (v := .tuple #[.agg #[.bool neg, .string (s.extract f t), .int .i16 y], .bool true]) (by simp [results, Oafg.results53, go_sem]) rfl ⟨⟨_, _, _, _, rfl, fun _ => ⟨rfl, HC.out⟩⟩, self1⟩
end Go.Proofs.Ygcoaf
