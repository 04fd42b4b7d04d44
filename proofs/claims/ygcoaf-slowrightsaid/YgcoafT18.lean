/-
  slow.SlowFlags, the walk.
-/
import Derived.Test.YgcoafT16
import Derived.Test.YgcoafT17
namespace Go.Proofs.Ygcoaf
open Go.RowKit Go.Proofs.Ygcoaf.M

/-- the format's and the decimal's cells -/
structure DS (w : World) (R3 R5 E M : Nat) (neg : Bool) (s : ByteArray) (x : Int) (w' : World) : Prop where
  below : Below w.heap.size w w'
  cE : w'.cell? ⟨R3, 0, none⟩ = some (.int .u8 E)
  cM : w'.cell? ⟨R3, 1, none⟩ = some (.int .u8 M)
  cN : w'.cell? ⟨R5, 0, none⟩ = some (.bool neg)
  cS : w'.cell? ⟨R5, 1, none⟩ = some (.string s)
  cX : w'.cell? ⟨R5, 2, none⟩ = some (.int .i16 x)
theorem DS.call {w W w' : World} {R3 R5 E M : Nat} {neg : Bool} {s : ByteArray} {x : Int} (d : DS w R3 R5 E M neg s x W) (h : Below W.heap.size W w') : DS w R3 R5 E M neg s x w' := by
  have l3 : R3 < W.heap.size := World.block_lt_of_cell? _ _ d.cE
  have l5 : R5 < W.heap.size := World.block_lt_of_cell? _ _ d.cN
  obtain ⟨hc, hf⟩ := bcell h
  exact ⟨bt d.below h, by rw [hc _ _ l3]; exact d.cE, by rw [hc _ _ l3]; exact d.cM, by rw [hc _ _ l5]; exact d.cN, by rw [hc _ _ l5]; exact d.cS, by rw [hc _ _ l5]; exact d.cX⟩
theorem DS.start {w : World} {E M : Nat} {neg : Bool} {s : ByteArray} {x : Int} : DS w w.heap.size (w.heap.size + 1) E M neg s x ((w.alloc (.cells #[.int .u8 E, .int .u8 M] 27)).alloc (.cells #[.bool neg, .string s, .int .i16 x] 74)) := by
  refine ⟨self2, ?_, ?_, ?_, ?_, ?_⟩ <;> simp [go_sem]

/-- a new number's cells -/
abbrev zb : Array Value := #[.int .i64 0, .int .u64 0, .int .u64 0, .int .u64 0, .int .u64 0, .int .u64 0, .int .u64 0, .int .u64 0, .int .u64 0, .int .u64 0, .int .u64 0, .int .u64 0, .int .u64 0, .int .u64 0, .int .u64 0, .int .u64 0, .int .u64 0, .int .u64 0, .int .u64 0, .int .u64 0, .int .u64 0, .int .u64 0, .int .u64 0, .int .u64 0, .int .u64 0, .int .u64 0, .int .u64 0, .int .u64 0, .int .u64 0, .int .u64 0, .int .u64 0, .int .u64 0, .int .u64 0, .int .u64 0, .int .u64 0, .int .u64 0, .int .u64 0, .int .u64 0, .int .u64 0, .int .u64 0, .int .u64 0, .int .u64 0, .int .u64 0, .int .u64 0, .int .u64 0, .int .u64 0, .int .u64 0, .int .u64 0, .int .u64 0, .int .u64 0, .int .u64 0, .int .u64 0, .int .u64 0]
theorem zb_eq : zb = #[Value.int .i64 0] ++ Array.replicate 52 (Value.int .u64 0) := by rfl
theorem zb_limb (i : Nat) (h : i < 52) : zb[1 + i]? = some (.int .u64 0) := by
  rw [zb_eq, Array.getElem?_append_right (by simp), show 1 + i - #[Value.int .i64 0].size = i by simp, Array.getElem?_replicate, if_pos h]
theorem zero52 (i : Nat) : (List.replicate 52 0).getD i 0 = 0 := by
  rw [List.getD_eq_getElem?_getD, List.getElem?_replicate]; split <;> rfl
theorem lw_zero : ∀ k, lw (List.replicate k 0) = 0
  | 0 => rfl
  | k + 1 => by rw [List.replicate_succ, lw, lw_zero k]
theorem bigZero (w : World) (z : Array Value) (hz : z = zb) : BigV (w.alloc (.cells z 122)) w.heap.size 0 := by
  have h0 : z[0]? = some (.int .i64 0) := by rw [hz]; rfl
  have h1 : ∀ i, i < 52 → z[1 + i]? = some (.int .u64 0) := fun i hi => by rw [hz]; exact zb_limb i hi
  clear hz
  refine ⟨0, List.replicate 52 0, ⟨?_, ?_, ?_, by simp, fun i _ => by rw [zero52]; decide, by decide⟩, lw_zero 52, fun i _ => zero52 i, fun h => absurd rfl h⟩
  · simp [go_sem, h0]
  · intro i hi
    rw [zero52]
    simp [go_sem, h1 i hi]
  · intro i
    simp [go_sem]
theorem twoZero (w : World) (z : Array Value) (hz : z = zb) : QS w ((w.alloc (.cells z 122)).alloc (.cells z 122)) w.heap.size (w.heap.size + 1) 0 0 := by
  refine ⟨self2, (bigZero w z hz).call self1, ?_⟩
  have := bigZero (w.alloc (.cells z 122)) z hz
  rwa [show (w.alloc (.cells z 122)).heap.size = w.heap.size + 1 by simp] at this

theorem fitT {N T : Nat} (hT : T ≤ 3328) (h : N < 2 ^ T) : N < 18446744073709551616 ^ 52 := by
  have := fit52 (m := 0) h (by omega)
  rwa [Nat.pow_zero, Nat.mul_one] at this

theorem empty_of (s : ByteArray) : s.toList.isEmpty = decide (s.size = 0) := by
  rw [ByteArray.toList_eq, Bool.eq_iff_iff, decide_eq_true_iff, List.isEmpty_iff_length_eq_zero]
  exact Iff.rfl

set_option maxRecDepth 8000 in
/-- slow.SlowFlags in a format that is not Ok -/
theorem slowFlags_no {E M : Nat} (hno : fokB E M = false) (mode : Nat) (neg : Bool) (s : ByteArray) (x : Int) (w : World) :
    Calls Oafg.prog 57 #[.agg #[.int .u8 E, .int .u8 M], .int .u8 mode, .agg #[.bool neg, .string s, .int .i16 x]] w fun r w' => r = .returned (.tuple #[.int .u64 0, .int .u8 0]) ∧ Below w.heap.size w w' := by
  have HOK : Hid (∀ ww, Calls Oafg.prog 54 #[.agg #[.int .u8 E, .int .u8 M]] ww fun e w' => e = .returned (.bool false) ∧ Below ww.heap.size ww w') := fun ww => by rw [← hno]; exact ok_any _ _ ww
  clear hno
  go_enter Oafg.func57, Oafg.ntmps57
  go_wp2_with (go_at_call 54; refine (HOK.out _).mono ?_; rintro e w1 ⟨rfl, hb1⟩)
  go_ret2
  exact ⟨rfl, below2 hb1⟩

set_option maxRecDepth 8000 in
set_option maxHeartbeats 2000000 in
/-- slow.SlowFlags of a canonical decimal -/
theorem slowFlags_yes {E M : Nat} (h1 : 2 ≤ E) (h2 : E ≤ 11) (h3 : 2 ≤ M) (h4 : M ≤ 52) {s : ByteArray} {x : Int} (h : Canon s x) (mode : Nat) (hm : mode < 256) (neg : Bool) (w : World) :
    Calls Oafg.prog 57 #[.agg #[.int .u8 E, .int .u8 M], .int .u8 mode, .agg #[.bool neg, .string s, .int .i16 x]] w fun r w' =>
      r = .returned (.tuple #[.int .u64 (rfV E M mode neg (dgv s s.size * 10 ^ x.toNat) (10 ^ (-x).toNat) : Nat), .int .u8 (rfF E M mode neg (dgv s s.size * 10 ^ x.toNat) (10 ^ (-x).toNat) : Nat)]) ∧ Below w.heap.size w w' := by
  have hx := h.exp
  have hfew := h.few
  have HOK : Hid _ := fun ww => ok_yes h1 h2 h3 h4 ww
  have HDO : Hid _ := fun ww => decOk_yes h neg ww
  obtain ⟨V, hV⟩ : ∃ V, V = rfV E M mode neg (dgv s s.size * 10 ^ x.toNat) (10 ^ (-x).toNat) := ⟨_, rfl⟩
  obtain ⟨F, hF⟩ : ∃ F, F = rfF E M mode neg (dgv s s.size * 10 ^ x.toNat) (10 ^ (-x).toNat) := ⟨_, rfl⟩
  rw [← hV, ← hF]
  have HV : Hid _ := hV
  have HF : Hid _ := hF
  have HR : Hid (∀ (sig : Nat) (exp : Int), sig < 18446744073709551616 → -5000 ≤ exp → exp ≤ 3000 → ∀ ww, Calls Oafg.prog 94 #[.agg #[.int .u8 E, .int .u8 M], .int .u8 mode, .bool neg, .int .u64 sig, .int .i64 exp] ww fun r w' => r = .returned (.tuple #[.int .u64 (slV E M mode neg sig exp : Nat), .int .u8 (slF E M mode neg sig exp : Nat)]) ∧ Below ww.heap.size ww w') :=
    fun sig exp a b c ww => sround_any h1 h2 h3 h4 mode hm neg sig exp a b c ww
  have HC : Hid _ := h
  clear hV hF h
  have HD0 : Hid _ := DS.start (w := w) (E := E) (M := M) (neg := neg) (s := s) (x := x)
  go_enter Oafg.func57, Oafg.ntmps57
  go_upto_region 3 with (first
    | (go_at_call 54; refine (HOK.out _).mono ?_; rintro e w1 ⟨rfl, hb1⟩; have HD1 : Hid _ := HD0.out.call hb1; have c0 := HD1.out.cE; have c1 := HD1.out.cM; have c2 := HD1.out.cN; have c3 := HD1.out.cS; have c4 := HD1.out.cX; clear hb1)
    | (go_at_call 93; refine (HDO.out _).mono ?_; rintro e w2 ⟨rfl, hb2⟩; have HD2 : Hid _ := HD1.out.call hb2; have d0 := HD2.out.cE; have d1 := HD2.out.cM; have d2 := HD2.out.cN; have d3 := HD2.out.cS; have d4 := HD2.out.cX; clear hb2))
  clear HD0 HD1 c0 c1 c2 c3 c4 HOK HDO
  obtain ⟨R5, hR5⟩ : ∃ R5, R5 = w.heap.size + 1 := ⟨_, rfl⟩
  rw [← hR5] at d2 d3 d4 HD2
  simp only [← hR5]
  obtain ⟨R3, hR3⟩ : ∃ R3, R3 = w.heap.size := ⟨_, rfl⟩
  rw [← hR3] at d0 d1
  simp only [← hR3]
  have HD : Hid (DS w R3 R5 E M neg s x w2) := by rw [hR3]; exact HD2
  clear HD2 hR3 hR5
  obtain ⟨lead, hlead⟩ : ∃ lead, (s.size : Int) + x = lead := ⟨_, rfl⟩
  go_upto_if 28 with fail
  obtain ⟨eb, heb⟩ : ∃ eb, eb = s.toList.isEmpty := ⟨_, rfl⟩
  rw [← heb]
  rw [empty_of] at heb
  by_cases hz : s.size = 0
  · obtain rfl : eb = true := by rw [heb, decide_eq_true_iff]; exact hz
    have HR0 := HR.out 0 0 (by decide) (by decide) (by decide)
    have e1 : slV E M mode neg 0 0 = V := by
      rw [HV.out]; unfold slV rfV; rw [if_pos rfl, if_pos (by rw [hz]; simp [dgv])]
    have e2 : slF E M mode neg 0 0 = F := by
      rw [HF.out]; unfold slF rfF; rw [if_pos rfl, if_pos (by rw [hz]; simp [dgv])]
    rw [e1, e2] at HR0
    have HR1 : Hid _ := HR0
    clear HR HR0 e1 e2 HV HF heb
    go_wp2_with (go_at_call 94; refine (HR1.out _).mono ?_; rintro e w3 ⟨rfl, hb3⟩)
    go_ret2
    exact ⟨rfl, bt HD.out.below hb3⟩
  obtain rfl : eb = false := by rw [heb, decide_eq_false_iff_not]; exact hz
  have HS : Hid (Some1 s x) := ⟨HC.out, hz⟩
  have hB0 := ten_ne (-x).toNat
  have hA0 : dgv s s.size * 10 ^ x.toNat ≠ 0 := by
    have := Nat.mul_pos (Nat.pos_of_ne_zero HS.out.pos) (Nat.pow_pos (n := x.toNat) (show 0 < 10 by decide)); omega
  by_cases l1 : 310 < lead
  · obtain ⟨K, hK⟩ : ∃ K, K = 1025 := ⟨_, rfl⟩
    obtain ⟨e1, e2⟩ := slow_high h1 h2 h4 mode neg hA0 hB0 (by omega) (HS.out.high (by omega) hK)
    rw [← HV.out] at e1
    rw [← HF.out] at e2
    have HR0 := HR.out 9223372036854775808 2000 (by decide) (by decide) (by decide)
    rw [← e1, ← e2] at HR0
    have HR1 : Hid _ := HR0
    clear HR HR0 e1 e2 HV HF heb hA0 hB0 hK hlead
    go_wp2_with (go_at_call 94; refine (HR1.out _).mono ?_; rintro e w3 ⟨rfl, hb3⟩)
    go_ret2
    exact ⟨rfl, bt HD.out.below hb3⟩
  by_cases l2 : lead < -400
  · obtain ⟨K, hK⟩ : ∃ K, K = 1203 := ⟨_, rfl⟩
    obtain ⟨e1, e2⟩ := slow_low h1 h2 h3 h4 mode neg hA0 hB0 (by omega) (HS.out.low (by omega) hK)
    rw [← HV.out] at e1
    rw [← HF.out] at e2
    have HR0 := HR.out 9223372036854775808 (-2000) (by decide) (by decide) (by decide)
    rw [← e1, ← e2] at HR0
    have HR1 : Hid _ := HR0
    clear HR HR0 e1 e2 HV HF heb hA0 hB0 hK hlead
    go_wp2_with (go_at_call 94; refine (HR1.out _).mono ?_; rintro e w3 ⟨rfl, hb3⟩)
    go_ret2
    exact ⟨rfl, bt HD.out.below hb3⟩
  have Hlead : Hid _ := hlead
  clear hA0 hB0 hlead heb hz HC
  go_upto_region 11 with fail
  have HQ0 := twoZero w2 zb rfl
  generalize hW : (w2.alloc (.cells zb 122)).alloc (.cells zb 122) = W at HQ0 ⊢
  obtain ⟨R9, hR9⟩ : ∃ R9, R9 = w2.heap.size := ⟨_, rfl⟩
  obtain ⟨R10, hR10⟩ : ∃ R10, R10 = w2.heap.size + 1 := ⟨_, rfl⟩
  simp only [← hR10]
  rw [← hR10] at HQ0
  simp only [← hR9]
  rw [← hR9] at HQ0
  have HQ : Hid _ := HQ0
  have Hne : Hid (R9 ≠ R10) := by show R9 ≠ R10; omega
  have Hs9 : Hid (w2.heap.size ≤ R9) := by show _ ≤ _; omega
  have Hs10 : Hid (w2.heap.size ≤ R10) := by show _ ≤ _; omega
  have HDW : Hid _ := HD.out.call HQ.out.bel
  have c3 := HDW.out.cS
  have c4 := HDW.out.cX
  clear hW hR9 hR10 HQ0 d0 d1 d2 d3 d4 HDW
  obtain ⟨D, hD⟩ : ∃ D, D = dgv s s.size := ⟨_, rfl⟩
  have hl1 : -400 ≤ (s.size : Int) + x := by rw [Hlead.out]; omega
  have hl2 : (s.size : Int) + x ≤ 310 := by rw [Hlead.out]; omega
  have HRD : Hid (Unit → Calls Oafg.prog 95 #[.pointer (some ⟨R9, 0, none⟩), .string s] W fun e w' => (∃ v, e = .returned v) ∧ QS w2 w' R9 R10 D 0) := fun _ => by
    rw [hD]
    exact (read_V HQ.out.bx s HS.out.can.digs HS.out.can.few).mono fun e w' ⟨g1, g2, g3⟩ => ⟨g1, HQ.out.onX Hne.out Hs9.out g2 g3⟩
  have HMA : Hid (∀ ww, QS w2 ww R9 R10 D 0 → Calls Oafg.prog 96 #[.pointer (some ⟨R10, 0, none⟩), .int .u64 0, .int .u64 1] ww fun e w' => (∃ v, e = .returned v) ∧ QS w2 w' R9 R10 D 1) := fun ww hq =>
    (mulAdd_V hq.by' 0 1 (by decide) (by decide) (Or.inr rfl) (by decide)).mono fun e w' ⟨g1, g2, g3⟩ => ⟨g1, hq.onY Hne.out Hs10.out g2 g3⟩
  obtain ⟨L, hL⟩ : ∃ L, L = if x < 0 then 2720 else 1054 := ⟨_, rfl⟩
  have hX0 : D * 5 ^ x.toNat ≠ 0 := by
    have := Nat.mul_pos (Nat.pos_of_ne_zero HS.out.pos) (Nat.pow_pos (n := x.toNat) (show 0 < 5 by decide)); rw [← hD] at this; omega
  have hY0 : 5 ^ (-x).toNat ≠ 0 := by have := Nat.pow_pos (n := (-x).toNat) (show 0 < 5 by decide); omega
  have hk12 : (-x).toNat ≤ 1200 := by omega
  obtain ⟨T, hT⟩ : ∃ T, 2800 = T := ⟨_, rfl⟩
  have hXb : D * 5 ^ x.toNat < 2 ^ T := by rw [hD]; exact Nat.lt_of_lt_of_le (HS.out.num hl2 hL) (two_pow_le (by rw [hL]; split <;> omega))
  have hYb : 5 ^ (-x).toNat < 2 ^ T := five_two hk12 hT.symm
  have HQU : Hid (∀ ww, QS w2 ww R9 R10 (D * 5 ^ x.toNat) (5 ^ (-x).toNat) → Calls Oafg.prog 98 #[.pointer (some ⟨R9, 0, none⟩), .pointer (some ⟨R10, 0, none⟩)] ww fun e w' => ∃ sg a b q r : Nat, e = .returned (.tuple #[.int .u64 sg, .int .i64 ((b : Int) - (a : Int))]) ∧ Quo (dgv s s.size * 5 ^ x.toNat) (5 ^ (-x).toNat) a b q r sg ∧ Below w2.heap.size w2 w') := fun ww hq => by
    rw [← hD]; exact quotient_V hq Hne.out Hs9.out Hs10.out hX0 hY0 (by rw [hT]; exact hXb) (by rw [hT]; exact hYb)
  by_cases cx : x < 0
  · obtain ⟨k, hk⟩ : ∃ k : Nat, -x = (k : Int) := ⟨(-x).toNat, by omega⟩
    have HP5 : Hid (∀ ww, QS w2 ww R9 R10 D 1 → Calls Oafg.prog 97 #[.pointer (some ⟨R10, 0, none⟩), .int .i64 k] ww fun e w' => (∃ v, e = .returned v) ∧ QS w2 w' R9 R10 (D * 5 ^ x.toNat) (5 ^ (-x).toNat)) := fun ww hq => by
      have hk2 : (-x).toNat = k := by omega
      rw [hk2] at hYb ⊢
      rw [show x.toNat = 0 by omega, Nat.pow_zero, Nat.mul_one]
      refine (mulPow5_V hq.by' k (by omega) ?_).mono fun e w' ⟨g1, g2, g3⟩ => ⟨g1, hq.onY Hne.out Hs10.out (by rw [Nat.one_mul] at g2; exact g2) g3⟩
      rw [Nat.one_mul]; exact fitT (by omega) hYb
    clear hXb hYb hX0 hY0 hL hD HQ l1 l2 hT
    go_wp2_with (first
        | (go_at_call 94; have hb9 := HB6.out; refine (HR1.out _).mono ?_; rintro e w7 ⟨rfl, hb7⟩)
        | (go_at_call 98; refine (HQU.out _ HQ3.out).mono ?_; rintro e w6 ⟨sg, a, b, q, r, rfl, hquo, hb6⟩; have HB6 : Hid _ := hb6; obtain ⟨g1, g2, g3⟩ := HS.out.bd hl1 hl2 hquo; obtain ⟨e1, e2⟩ := HS.out.law h1 h4 mode neg hquo; rw [← HV.out] at e1; rw [← HF.out] at e2; obtain ⟨ex, hex⟩ : ∃ ex : Int, (b : Int) - (a : Int) = ex := ⟨_, rfl⟩; rw [hex] at e1 e2 g1 g2; obtain ⟨p, hp⟩ : ∃ p : Int, ex + x = p := ⟨_, rfl⟩; rw [hp] at e1 e2 g1 g2; have HR0 := HR.out sg p g3 g1 g2; rw [← e1, ← e2] at HR0; have HR1 : Hid _ := HR0; have HD6 : Hid _ := HD.out.call hb6; have m0 := HD6.out.cE; have m1 := HD6.out.cM; have m2 := HD6.out.cN; have m4 := HD6.out.cX; rw [hex]; clear e1 e2 HR0 hquo hb6 hex)
        | (go_at_call 97; refine (HP5.out _ HQ2.out).mono ?_; rintro e w5 ⟨⟨v5, rfl⟩, hq5⟩; have HQ3 : Hid _ := hq5; have HD5 : Hid _ := HD.out.call HQ3.out.bel; have k0 := HD5.out.cE; have k1 := HD5.out.cM; have k2 := HD5.out.cN; have k4 := HD5.out.cX; clear hq5)
        | (go_at_call 96; refine (HMA.out _ HQ1.out).mono ?_; rintro e w4 ⟨⟨v4, rfl⟩, hq4⟩; have HQ2 : Hid _ := hq4; have HD4 : Hid _ := HD.out.call HQ2.out.bel; have c4 := HD4.out.cX; clear hq4)
        | (go_at_call 95; refine (HRD.out ()).mono ?_; rintro e w3 ⟨⟨v3, rfl⟩, hq3⟩; have HQ1 : Hid _ := hq3; have HD3 : Hid _ := HD.out.call HQ1.out.bel; have c4 := HD3.out.cX; clear hq3))
    go_ret2
    exact ⟨rfl, bt HD6.out.below hb7⟩
  · obtain ⟨k, hk⟩ : ∃ k : Nat, x = (k : Int) := ⟨x.toNat, by omega⟩
    have HP5 : Hid (∀ ww, QS w2 ww R9 R10 D 1 → Calls Oafg.prog 97 #[.pointer (some ⟨R9, 0, none⟩), .int .i64 x] ww fun e w' => (∃ v, e = .returned v) ∧ QS w2 w' R9 R10 (D * 5 ^ x.toNat) (5 ^ (-x).toNat)) := fun ww hq => by
      have hk2 : x.toNat = k := by omega
      rw [show (-x).toNat = 0 by omega, Nat.pow_zero]
      rw [hk2] at hXb ⊢
      rw [hk]
      refine (mulPow5_V hq.bx k (by omega) ?_).mono fun e w' ⟨g1, g2, g3⟩ => ⟨g1, hq.onX Hne.out Hs9.out g2 g3⟩
      exact fitT (by omega) hXb
    clear hXb hYb hX0 hY0 hL hD HQ l1 l2 hT hk
    go_wp2_with (first
        | (go_at_call 94; have hb9 := HB6.out; refine (HR1.out _).mono ?_; rintro e w7 ⟨rfl, hb7⟩)
        | (go_at_call 98; refine (HQU.out _ HQ3.out).mono ?_; rintro e w6 ⟨sg, a, b, q, r, rfl, hquo, hb6⟩; have HB6 : Hid _ := hb6; obtain ⟨g1, g2, g3⟩ := HS.out.bd hl1 hl2 hquo; obtain ⟨e1, e2⟩ := HS.out.law h1 h4 mode neg hquo; rw [← HV.out] at e1; rw [← HF.out] at e2; obtain ⟨ex, hex⟩ : ∃ ex : Int, (b : Int) - (a : Int) = ex := ⟨_, rfl⟩; rw [hex] at e1 e2 g1 g2; obtain ⟨p, hp⟩ : ∃ p : Int, ex + x = p := ⟨_, rfl⟩; rw [hp] at e1 e2 g1 g2; have HR0 := HR.out sg p g3 g1 g2; rw [← e1, ← e2] at HR0; have HR1 : Hid _ := HR0; have HD6 : Hid _ := HD.out.call hb6; have m0 := HD6.out.cE; have m1 := HD6.out.cM; have m2 := HD6.out.cN; have m4 := HD6.out.cX; rw [hex]; clear e1 e2 HR0 hquo hb6 hex)
        | (go_at_call 97; refine (HP5.out _ HQ2.out).mono ?_; rintro e w5 ⟨⟨v5, rfl⟩, hq5⟩; have HQ3 : Hid _ := hq5; have HD5 : Hid _ := HD.out.call HQ3.out.bel; have k0 := HD5.out.cE; have k1 := HD5.out.cM; have k2 := HD5.out.cN; have k4 := HD5.out.cX; clear hq5)
        | (go_at_call 96; refine (HMA.out _ HQ1.out).mono ?_; rintro e w4 ⟨⟨v4, rfl⟩, hq4⟩; have HQ2 : Hid _ := hq4; have HD4 : Hid _ := HD.out.call HQ2.out.bel; have c4 := HD4.out.cX; clear hq4)
        | (go_at_call 95; refine (HRD.out ()).mono ?_; rintro e w3 ⟨⟨v3, rfl⟩, hq3⟩; have HQ1 : Hid _ := hq3; have HD3 : Hid _ := HD.out.call HQ1.out.bel; have c4 := HD3.out.cX; clear hq3))
    go_ret2
    exact ⟨rfl, bt HD6.out.below hb7⟩
end Go.Proofs.Ygcoaf
