/-
  WALKS, the twelfth: the law NativeConv.
-/
import Derived.Test.YgcoafW11
namespace Go.Proofs.Ygcoaf
open Go.RowKit

theorem convV_lt (E M x : Nat) : convV E M 8 23 x < 4294967296 := by
  unfold convV
  have h1 : nanR 8 23 < 4294967296 := by decide
  have h2 := infR_lt 8 23
  have h3 : ∀ b, sgn 8 23 b ≤ 2147483648 := by intro b; cases b <;> decide
  split
  · exact h1
  · split
    · have := h3 (uNeg E M x); have : infR 8 23 < 2147483648 := h2; omega
    · obtain ⟨r, hr, e⟩ := nearest_rung 8 23 (uNeg E M x) (uMan E M x) (uExp E M x)
      rw [e]; have := h3 (uNeg E M x); have : infR 8 23 < 2147483648 := h2; omega
theorem near32_lt (s : Bool) (m : Nat) (i : Int) : (Ieee.Format.mk 8 23).nearest s m i < 4294967296 := by
  have h2 := infR_lt 8 23
  have h3 : ∀ b, sgn 8 23 b ≤ 2147483648 := by intro b; cases b <;> decide
  obtain ⟨r, hr, e⟩ := nearest_rung 8 23 s m i
  rw [e]; have := h3 s; have : infR 8 23 < 2147483648 := h2; omega

set_option maxHeartbeats 4000000 in
/-- THE LAW: Go's conversions are soft's. -/
theorem nConv_walk (a b : Nat) (i : Int) (u : Nat) (ha : a < 18446744073709551616) (hb : b < 4294967296) (hi : -9223372036854775808 ≤ i ∧ i ≤ 9223372036854775807) (hu : u < 18446744073709551616) (w : World) :
    Calls Oafg.prog 6 #[.int .u64 a, .int .u32 b, .int .i64 i, .int .u64 u] w fun e w' => e = .returned (.bool true) ∧ Below w.heap.size w w' := by
  have k1 := fun w => narrow_any a w
  have k2 := fun w => convert_ne (E := 11) (M := 52) (E' := 8) (M' := 23) (by decide) (by decide) (by decide) (by decide) (by decide) (by decide) (by decide) (by decide) a ha w
  have k3 := fun w => widen_any b w
  have k4 := fun w => convert_ne (E := 8) (M := 23) (E' := 11) (M' := 52) (by decide) (by decide) (by decide) (by decide) (by decide) (by decide) (by decide) (by decide) b (by omega) w
  have k5 := fun w => nFromInt64 i w
  have k6 := fun w => fromInt64_ne (E := 11) (M := 52) (by decide) (by decide) (by decide) (by decide) i hi.1 hi.2 w
  have k7 := fun w => nFromInt64To32 i w
  have k8 := fun w => fromInt64_ne (E := 8) (M := 23) (by decide) (by decide) (by decide) (by decide) i hi.1 hi.2 w
  have k9 := fun w => nFromUint64 u w
  have k10 := fun w => fromUint64_ne (E := 11) (M := 52) (by decide) (by decide) (by decide) (by decide) u hu w
  have k11 := fun w => nFromUint64To32 u w
  have k12 := fun w => fromUint64_ne (E := 8) (M := 23) (by decide) (by decide) (by decide) (by decide) u hu w
  have k13 := fun w => nTo64_any a w
  have k14 := fun w => toInt64_tz (E := 11) (M := 52) (by decide) (by decide) (by decide) (by decide) a ha w
  have k15 := fun w => nTo32_any b w
  have k16 := fun w => toInt64_tz (E := 8) (M := 23) (by decide) (by decide) (by decide) (by decide) b (by omega) w
  have l1 := convV_lt 11 52 a
  have l2 := near32_lt (decide (i < 0)) i.natAbs 0
  have l3 := near32_lt false u 0
  generalize convV 11 52 8 23 a = v1 at *
  generalize convV 8 23 11 52 b = v2 at *
  generalize (Ieee.Format.mk 11 52).nearest (decide (i < 0)) i.natAbs 0 = v3 at *
  generalize (Ieee.Format.mk 8 23).nearest (decide (i < 0)) i.natAbs 0 = v4 at *
  generalize (Ieee.Format.mk 11 52).nearest false u 0 = v5 at *
  generalize (Ieee.Format.mk 8 23).nearest false u 0 = v6 at *
  generalize (toIP 52 (uNeg 11 52 a) (uCls 11 52 a) (uExp 11 52 a) (uMan 11 52 a)).1 = v7 at *
  generalize (toIP 52 (uNeg 11 52 a) (uCls 11 52 a) (uExp 11 52 a) (uMan 11 52 a)).2 = v8 at *
  generalize (toIP 23 (uNeg 8 23 b) (uCls 8 23 b) (uExp 8 23 b) (uMan 8 23 b)).1 = v9 at *
  generalize (toIP 23 (uNeg 8 23 b) (uCls 8 23 b) (uExp 8 23 b) (uMan 8 23 b)).2 = v10 at *
  have s1 : IntKind.u64.wrap (v1 : Int) = (v1 : Int) := wrap64_lt _ (by omega) (by omega)
  have s2 : IntKind.u64.wrap (v4 : Int) = (v4 : Int) := wrap64_lt _ (by omega) (by omega)
  have s3 : IntKind.u64.wrap (v6 : Int) = (v6 : Int) := wrap64_lt _ (by omega) (by omega)
  have s4 : IntKind.u64.wrap (b : Int) = (b : Int) := wrap64_lt _ (by omega) (by omega)
  have K1 : Hid _ := k1
  have K2 : Hid _ := k2
  have K3 : Hid _ := k3
  have K4 : Hid _ := k4
  have K5 : Hid _ := k5
  have K6 : Hid _ := k6
  have K7 : Hid _ := k7
  have K8 : Hid _ := k8
  have K9 : Hid _ := k9
  have K10 : Hid _ := k10
  have K11 : Hid _ := k11
  have K12 : Hid _ := k12
  have K13 : Hid _ := k13
  have K14 : Hid _ := k14
  have K15 : Hid _ := k15
  have K16 : Hid _ := k16
  clear k1 k2 k3 k4 k5 k6 k7 k8 k9 k10 k11 k12 k13 k14 k15 k16 hi
  go_enter Oafg.func6, Oafg.ntmps6
  go_wp2_with (first
    | (go_at_call 20; refine (binary64_any _).mono ?_; rintro e w1 ⟨rfl, hb1⟩)
    | (go_at_call 17; refine (binary32_any _).mono ?_; rintro e w2 ⟨rfl, hb2⟩))
  have B0 := bt hb1 hb2
  obtain ⟨W, hW⟩ : ∃ W, W = (w2.alloc (.cells #[.int .u8 11, .int .u8 52] 27)).alloc (.cells #[.int .u8 8, .int .u8 23] 27) := ⟨_, rfl⟩
  rw [← hW]
  have c0 : W.cell? ⟨w2.heap.size, 0, none⟩ = some (.int .u8 11) := by rw [hW]; simp [go_sem]
  have c1 : W.cell? ⟨w2.heap.size, 1, none⟩ = some (.int .u8 52) := by rw [hW]; simp [go_sem]
  have c2 : W.cell? ⟨w2.heap.size + 1, 0, none⟩ = some (.int .u8 8) := by rw [hW]; simp [go_sem]
  have c3 : W.cell? ⟨w2.heap.size + 1, 1, none⟩ = some (.int .u8 23) := by rw [hW]; simp [go_sem]
  have z1 : w2.heap.size < W.heap.size := by rw [hW]; simp; omega
  have z2 : w2.heap.size + 1 < W.heap.size := by rw [hW]; simp
  have BW : Below w.heap.size w W := bt B0 (by rw [hW]; exact self2)
  clear hW B0 hb1 hb2
  have hS0 : HB W W := HB.start
  have hcl := HB.cells (W := W)
  go_region_held3 (fun w' => HB W w')
    (repeat' (first | with_reducible exact hSu | with_reducible exact hS0 | with_reducible apply HB.drew | with_reducible assumption))
    (first
      | (go_at_call 26; refine (K1.out _).mono ?_; rintro e w3 ⟨rfl, hbu⟩; have hSu := HB.call (by assumption) hbu)
      | (go_at_call_of 27 (Value.int .u64 (a : Int)); refine (K2.out _).mono ?_; rintro e w3 ⟨rfl, hbu⟩; have hSu := HB.call (by assumption) hbu)
      | (go_at_call 28; refine (K3.out _).mono ?_; rintro e w3 ⟨rfl, hbu⟩; have hSu := HB.call (by assumption) hbu)
      | (go_at_call_of 27 (Value.int .u64 (b : Int)); refine (K4.out _).mono ?_; rintro e w3 ⟨rfl, hbu⟩; have hSu := HB.call (by assumption) hbu)
      | (go_at_call 29; refine (K5.out _).mono ?_; rintro e w3 ⟨rfl, rfl⟩)
      | (go_at_call_of 30 (Value.agg #[Value.int .u8 11, Value.int .u8 52]); refine (K6.out _).mono ?_; rintro e w3 ⟨rfl, hbu⟩; have hSu := HB.call (by assumption) hbu)
      | (go_at_call 31; refine (K7.out _).mono ?_; rintro e w3 ⟨rfl, rfl⟩)
      | (go_at_call_of 30 (Value.agg #[Value.int .u8 8, Value.int .u8 23]); refine (K8.out _).mono ?_; rintro e w3 ⟨rfl, hbu⟩; have hSu := HB.call (by assumption) hbu)
      | (go_at_call 32; refine (K9.out _).mono ?_; rintro e w3 ⟨rfl, rfl⟩)
      | (go_at_call_of 33 (Value.agg #[Value.int .u8 11, Value.int .u8 52]); refine (K10.out _).mono ?_; rintro e w3 ⟨rfl, hbu⟩; have hSu := HB.call (by assumption) hbu)
      | (go_at_call 34; refine (K11.out _).mono ?_; rintro e w3 ⟨rfl, rfl⟩)
      | (go_at_call_of 33 (Value.agg #[Value.int .u8 8, Value.int .u8 23]); refine (K12.out _).mono ?_; rintro e w3 ⟨rfl, hbu⟩; have hSu := HB.call (by assumption) hbu))
  rename_i hH
  have B := hH.out
  clear hSu hH hS0 hcl K1 K2 K3 K4 K5 K6 K7 K8 K9 K10 K11 K12
  obtain ⟨hc, hf⟩ := bcell B
  go_wp2_with (first
    | (go_at_call 35; refine (K13.out _).mono ?_; rintro e w3 ⟨rfl, rfl⟩)
    | (go_at_call_of 36 (Value.agg #[Value.int .u8 11, Value.int .u8 52]); refine (K14.out _).mono ?_; rintro e w3 ⟨rfl, hbu⟩; have B := bt B hbu; clear hc hf hbu; obtain ⟨hc, hf⟩ := bcell B)
    | (go_at_call 37; refine (K15.out _).mono ?_; rintro e w3 ⟨rfl, rfl⟩)
    | (go_at_call_of 36 (Value.agg #[Value.int .u8 8, Value.int .u8 23]); refine (K16.out _).mono ?_; rintro e w3 ⟨rfl, hbu⟩; have B := bt B hbu; clear hc hf hbu; obtain ⟨hc, hf⟩ := bcell B))
  go_ret
  exact ⟨rfl, bt BW B⟩
end Go.Proofs.Ygcoaf
