/-
  slow.Slow, parse.Flags, exact.RoundDec.
-/
import Derived.Test.YgcoafT18
namespace Go.Proofs.Ygcoaf
open Go.RowKit Go.Proofs.Ygcoaf.M

/-- the answer of the exact way to a canonical decimal -/
def decV (E M mode : Nat) (neg : Bool) (s : ByteArray) (x : Int) : Nat := rdV E M mode neg (dgv s s.size * 10 ^ x.toNat) (10 ^ (-x).toNat)
def decF (E M mode : Nat) (neg : Bool) (s : ByteArray) (x : Int) : Nat := rdF E M mode neg (dgv s s.size * 10 ^ x.toNat) (10 ^ (-x).toNat)

theorem slowFlags_any {s : ByteArray} {x : Int} (h : Canon s x) (E M mode : Nat) (hm : mode < 256) (neg : Bool) (w : World) :
    Calls Oafg.prog 57 #[.agg #[.int .u8 E, .int .u8 M], .int .u8 mode, .agg #[.bool neg, .string s, .int .i16 x]] w fun r w' =>
      r = .returned (.tuple #[.int .u64 (decV E M mode neg s x : Nat), .int .u8 (decF E M mode neg s x : Nat)]) ∧ Below w.heap.size w w' := by
  unfold decV decF rdV rdF
  by_cases c : fokB E M = true
  · obtain ⟨h1, h2, h3, h4⟩ := fok_bd c
    rw [if_pos c, if_pos c]
    exact slowFlags_yes h1 h2 h3 h4 h mode hm neg w
  · rw [if_neg c, if_neg c]
    exact slowFlags_no (by simpa using c) mode neg s x w

theorem slow_any {s : ByteArray} {x : Int} (h : Canon s x) (E M mode : Nat) (hm : mode < 256) (neg : Bool) (w : World) :
    Calls Oafg.prog 55 #[.agg #[.int .u8 E, .int .u8 M], .int .u8 mode, .agg #[.bool neg, .string s, .int .i16 x]] w fun r w' => r = .returned (.int .u64 (decV E M mode neg s x : Nat)) ∧ Below w.heap.size w w' := by
  have H : Hid _ := fun ww => slowFlags_any h E M mode hm neg ww
  generalize decV E M mode neg s x = V at *
  generalize decF E M mode neg s x = F at *
  clear h
  go_enter Oafg.func55, Oafg.ntmps55
  go_wp2_with (go_at_call 57; refine (H.out _).mono ?_; rintro e w1 ⟨rfl, hb1⟩)
  go_ret
  exact ⟨rfl, below2 hb1⟩

theorem flags_any {s : ByteArray} {x : Int} (h : Canon s x) (E M mode : Nat) (hm : mode < 256) (neg : Bool) (w : World) :
    Calls Oafg.prog 59 #[.agg #[.int .u8 E, .int .u8 M], .int .u8 mode, .agg #[.bool neg, .string s, .int .i16 x]] w fun r w' => r = .returned (.int .u8 (decF E M mode neg s x : Nat)) ∧ Below w.heap.size w w' := by
  have H : Hid _ := fun ww => slowFlags_any h E M mode hm neg ww
  generalize decV E M mode neg s x = V at *
  generalize decF E M mode neg s x = F at *
  clear h
  go_enter Oafg.func59, Oafg.ntmps59
  go_wp2_with (go_at_call 57; refine (H.out _).mono ?_; rintro e w1 ⟨rfl, hb1⟩)
  go_ret
  exact ⟨rfl, below2 hb1⟩

theorem roundDec_any {s : ByteArray} {x : Int} (h : Canon s x) (E M mode : Nat) (hm : mode < 256) (neg : Bool) (w : World) :
    Calls Oafg.prog 56 #[.agg #[.int .u8 E, .int .u8 M], .int .u8 mode, .agg #[.bool neg, .string s, .int .i16 x]] w fun r w' => r = .returned (.int .u64 (decV E M mode neg s x : Nat)) ∧ Below w.heap.size w w' := by
  have H : Hid (∀ ww, Calls Oafg.prog 58 #[.agg #[.int .u8 E, .int .u8 M], .int .u8 mode, .agg #[.bool neg, .string s, .int .i16 x]] ww fun r w' =>
      r = .returned (.tuple #[.int .u64 (decV E M mode neg s x : Nat), .int .u8 (decF E M mode neg s x : Nat)]) ∧ Below ww.heap.size ww w') := fun ww => roundDecFlags_any h E M mode hm neg ww
  generalize decV E M mode neg s x = V at *
  generalize decF E M mode neg s x = F at *
  clear h
  go_enter Oafg.func56, Oafg.ntmps56
  go_wp2_with (go_at_call 58; refine (H.out _).mono ?_; rintro e w1 ⟨rfl, hb1⟩)
  go_ret
  exact ⟨rfl, below2 hb1⟩
end Go.Proofs.Ygcoaf
