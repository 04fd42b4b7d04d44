/-
  WALKS, the seventh: soft.zero, cut, raises, overflow and roundPack under NearestEven.
-/
import Derived.Test.YgcoafW6
import Derived.BigQuiet
namespace Go.Proofs.Ygcoaf
open Go.RowKit

theorem ret_bool {a b : Bool} (h : a = b) : Ending.returned (.bool a) = .returned (.bool b) := by rw [h]

theorem zero_yes {E M : Nat} (h1 : 2 ≤ E) (h2 : E ≤ 11) (h3 : 2 ≤ M) (h4 : M ≤ 52) (neg : Bool) (w : World) :
    Calls Oafg.prog 109 #[.agg #[.int .u8 E, .int .u8 M], .bool neg] w fun e w' => e = .returned (.int .u64 (sgn E M neg)) ∧ Below w.heap.size w w' := by
  cases neg
  · go_enter Oafg.func109, Oafg.ntmps109
    go_wp2
    go_ret
    exact ⟨rfl, self1⟩
  · go_enter Oafg.func109, Oafg.ntmps109
    go_wp2_with (go_at_call 71; refine (signBit_yes h1 h2 h3 h4 _).mono ?_; rintro e w' ⟨rfl, hb⟩)
    go_ret
    exact ⟨ret_int (by simp [sgn]), below1 hb⟩

/-- soft.cut, for k above zero -/
theorem cut_yes (s k : Nat) (hs : s < 18446744073709551616) (hs0 : 0 < s) (hk0 : 0 < k) (hk : k < 32768) (w : World) :
    Calls Oafg.prog 119 #[.int .u64 s, .int .i16 k] w fun e w' => e = .returned (.tuple #[.int .u64 ((s / 2 ^ k : Nat) : Int), .int .u64 (cutRest s k)]) ∧ Below w.heap.size w w' := by
  have q0 : ((k : Int) == 0) = false := by rw [beq_eq_false_iff_ne]; omega
  have q1 : ((s : Int) == 0) = false := by rw [beq_eq_false_iff_ne]; omega
  by_cases h : k ≤ 64
  · have e1 : IntKind.u64.wrap ((s : Int) * 2 ^ (64 - k)) = (cutRest s k : Int) := by
      unfold cutRest; rw [if_pos h, ← cast_two_pow, ← Int.natCast_mul, wrap64_nat]
    have e2 : (s : Int) / 2 ^ k = ((s / 2 ^ k : Nat) : Int) := by simp
    have e3 : IntKind.i16.wrap (64 - (k : Int)) = ((64 - k : Nat) : Int) := by rw [wrap_i16]; omega
    generalize cutRest s k = r at *
    generalize s / 2 ^ k = n at *
    go_enter Oafg.func119, Oafg.ntmps119
    go_wp2
    go_quiet (fail)
    go_wp2
    go_ret2
    exact ⟨rfl, below_drewN (Below.refl _ _) _⟩
  · have e1 : (s / 2 ^ k : Nat) = 0 := by
      apply Nat.div_eq_of_lt
      have : 2 ^ 64 ≤ 2 ^ k := two_pow_le (by omega)
      omega
    have e2 : cutRest s k = 1 := by unfold cutRest; rw [if_neg h, if_neg (by omega)]
    rw [e1, e2]
    clear e1 e2
    go_enter Oafg.func119, Oafg.ntmps119
    go_wp2
    go_ret2
    exact ⟨rfl, Below.refl _ _⟩

/-- soft.raises under NearestEven -/
theorem raises_ne (neg : Bool) (n r : Nat) (hn : n < 18446744073709551616) (hr : r < 18446744073709551616) (w : World) :
    Calls Oafg.prog 120 #[.int .u8 0, .bool neg, .int .u64 n, .int .u64 r] w fun e w' => e = .returned (.bool (decide (2 ^ 63 < r) || (decide (r = 2 ^ 63) && decide (n % 2 = 1)))) ∧ Below w.heap.size w w' := by
  have e1 : bits .and .u64 (n : Int) 1 = ((n % 2 : Nat) : Int) := by
    rw [and64 n 1 _ _ rfl (by simp) hn (by decide), Nat.and_one_is_mod]
  generalize hm : n % 2 = m at *
  clear hm
  go_enter Oafg.func120, Oafg.ntmps120
  go_wp2
  all_goals
    go_ret
    refine ⟨ret_bool ?_, Below.refl _ _⟩
    rw [Bool.eq_iff_iff]
    simp
    omega

theorem raises_tz (neg : Bool) (n r : Nat) (w : World) :
    Calls Oafg.prog 120 #[.int .u8 2, .bool neg, .int .u64 n, .int .u64 r] w fun e w' => e = .returned (.bool false) ∧ Below w.heap.size w w' := by
  go_enter Oafg.func120, Oafg.ntmps120
  go_wp2
  go_ret
  exact ⟨rfl, Below.refl _ _⟩

/-- soft.overflow under NearestEven -/
theorem overflow_ne {E M : Nat} (h1 : 2 ≤ E) (h2 : E ≤ 11) (h3 : 2 ≤ M) (h4 : M ≤ 52) (neg : Bool) (w : World) :
    Calls Oafg.prog 176 #[.agg #[.int .u8 E, .int .u8 M], .int .u8 0, .bool neg] w fun e w' => e = .returned (.tuple #[.int .u64 ((infR E M + sgn E M neg : Nat) : Int), .int .u8 20]) ∧ Below w.heap.size w w' := by
  go_enter Oafg.func176, Oafg.ntmps176
  go_wp2_with (go_at_call 112; refine (inf_yes h1 h2 h3 h4 neg _).mono ?_; rintro e w' ⟨rfl, hb⟩)
  go_ret2
  exact ⟨rfl, below1 hb⟩

theorem roundPack_zero {E M : Nat} (h1 : 2 ≤ E) (h2 : E ≤ 11) (h3 : 2 ≤ M) (h4 : M ≤ 52) (neg : Bool) (exp : Int) (w : World) :
    Calls Oafg.prog 116 #[.agg #[.int .u8 E, .int .u8 M], .int .u8 0, .bool neg, .int .i16 exp, .int .u64 0] w fun e w' => (∃ fl : Int, e = .returned (.tuple #[.int .u64 (sgn E M neg), .int .u8 fl])) ∧ Below w.heap.size w w' := by
  go_enter Oafg.func116, Oafg.ntmps116
  go_wp2_with (go_at_call 109; refine (zero_yes h1 h2 h3 h4 neg _).mono ?_; rintro e w1 ⟨rfl, hb1⟩)
  go_ret2
  exact ⟨⟨_, rfl⟩, below1 hb1⟩

set_option maxHeartbeats 1000000 in
/-- soft.roundPack under NearestEven, of a significand that is not zero: the model's nearest -/
theorem roundPack_pos {E M : Nat} (h1 : 2 ≤ E) (h2 : E ≤ 11) (h3 : 2 ≤ M) (h4 : M ≤ 52) (neg : Bool) (exp : Int) (sig : Nat) (h0 : 0 < sig) (hs : sig < 18446744073709551616) (hx1 : -20000 ≤ exp) (hx2 : exp ≤ 20000) (w : World) :
    Calls Oafg.prog 116 #[.agg #[.int .u8 E, .int .u8 M], .int .u8 0, .bool neg, .int .i16 exp, .int .u64 sig] w fun e w' => (∃ fl : Int, e = .returned (.tuple #[.int .u64 (((Ieee.Format.mk E M).nearest neg sig exp : Nat) : Int), .int .u8 fl])) ∧ Below w.heap.size w w' := by
  have hl : sig.log2 < 64 := (Nat.log2_lt (by omega)).2 hs
  have hbi := biasN_bd h1 h2
  have hnear := nearest_soft E M h4 neg exp sig (by omega) hs
  obtain ⟨t1, t2⟩ := top_bd sig (by omega) hs
  have kclz := fun w => clz_pos sig hs h0 w
  have hover := rungK_over (M := M) h1 h4 neg exp sig (by omega) hs
  have hin := rungK_bd (M := M) h1 h2 h4 exp sig (by omega) hs
  have hinf := infR_lt E M
  have hp63 : 2 ^ (E + M) ≤ 2 ^ 63 := two_pow_le (by omega)
  have hsg := sgn_lt E M neg (by omega)
  have hge := drop_ge E M exp sig
  have hreal0 : exp - ((63 - sig.log2 : Nat) : Int) + 63 = exp + sig.log2 := by omega
  have hkept : (if exp + (sig.log2 : Int) < 1 - biasN E then 1 - biasN E else exp + (sig.log2 : Int)) = keptE E exp sig := by
    unfold keptE lo; split <;> omega
  have hdk : (dropK E M exp sig : Int) = 63 - (M : Int) + keptE E exp sig - (exp + sig.log2) := by unfold dropK keptE; omega
  have hke1 : exp + (sig.log2 : Int) ≤ keptE E exp sig := by unfold keptE; omega
  have hke2 : 1 - biasN E ≤ keptE E exp sig := by unfold keptE lo; omega
  have hke3 : keptE E exp sig ≤ 21000 := by unfold keptE lo; omega
  unfold rungK at hnear hover
  have hups := raises_even neg (sig * 2 ^ (63 - sig.log2)) (dropK E M exp sig) t2
  have hcl := cutRest_lt (sig * 2 ^ (63 - sig.log2)) (dropK E M exp sig)
  have hcl1 := cutRest_lt (sig * 2 ^ (63 - sig.log2)) (63 - M)
  have hshl : IntKind.u64.wrap ((sig : Int) * 2 ^ (63 - sig.log2)) = ((sig * 2 ^ (63 - sig.log2) : Nat) : Int) := by
    rw [← cast_two_pow, ← Int.natCast_mul, wrap64_nat, Nat.mod_eq_of_lt t2]
  have hk32 : dropK E M exp sig < 32768 := by omega
  unfold Go.Proofs.Ygcoaf.M.rnd at hnear hover
  have hq : ((sig : Int) == 0) = false := by rw [beq_eq_false_iff_ne]; omega
  have kc1 := fun w => cut_yes (sig * 2 ^ (63 - sig.log2)) (63 - M) t2 (by omega) (by omega) (by omega) w
  have kc2 := fun w => cut_yes (sig * 2 ^ (63 - sig.log2)) (dropK E M exp sig) t2 (by omega) (by omega) hk32 w
  have hn1 : sig * 2 ^ (63 - sig.log2) / 2 ^ (63 - M) < 18446744073709551616 := Nat.lt_of_le_of_lt (Nat.div_le_self _ _) t2
  have hn2 : sig * 2 ^ (63 - sig.log2) / 2 ^ dropK E M exp sig < 18446744073709551616 := Nat.lt_of_le_of_lt (Nat.div_le_self _ _) t2
  have kr1 := fun w => raises_ne neg _ _ hn1 hcl1 w
  have kr2 := fun w => raises_ne neg _ _ hn2 hcl w
  rw [hups] at kr2
  have hd1 : (63 : Int) - (M : Int) = ((63 - M : Nat) : Int) := by omega
  have hsum : ((63 - M : Nat) : Int) + keptE E exp sig - (exp + (sig.log2 : Int)) = (dropK E M exp sig : Int) := by omega
  generalize (Ieee.Format.mk E M).nearest neg sig exp = N at *
  generalize Go.Proofs.Ygcoaf.M.ups 0 neg (sig * 2 ^ (63 - sig.log2)) (2 ^ dropK E M exp sig) = up at *
  generalize cutRest (sig * 2 ^ (63 - sig.log2)) (dropK E M exp sig) = r2 at *
  generalize cutRest (sig * 2 ^ (63 - sig.log2)) (63 - M) = r1 at *
  generalize sig * 2 ^ (63 - sig.log2) / 2 ^ dropK E M exp sig = n2 at *
  generalize sig * 2 ^ (63 - sig.log2) / 2 ^ (63 - M) = n1 at *
  generalize dropK E M exp sig = k at *
  have hwe : IntKind.u64.wrap (keptE E exp sig - (1 - biasN E)) = (((keptE E exp sig - lo E).toNat : Nat) : Int) := by
    rw [IntKind.wrap_u64]; unfold lo; omega
  have hX : ¬ biasN E < keptE E exp sig → IntKind.u64.wrap ((((keptE E exp sig - lo E).toNat : Nat) : Int) * 2 ^ M) = (((keptE E exp sig - lo E).toNat * 2 ^ M : Nat) : Int) := fun ho => by
    have := (hin ho).1
    rw [← cast_two_pow, ← Int.natCast_mul, wrap64_nat, Nat.mod_eq_of_lt (by omega)]
  generalize (keptE E exp sig - lo E).toNat * 2 ^ M = X0 at *
  generalize (keptE E exp sig - lo E).toNat = de at *
  generalize keptE E exp sig = ek at *
  generalize exp + (sig.log2 : Int) = real at *
  have KC : Hid _ := kclz
  have K1 : Hid _ := kc1
  have K2 : Hid _ := kc2
  have R1 : Hid _ := kr1
  have R2 : Hid _ := kr2
  have HN : Hid _ := hnear
  have i1 : ((infR E M + sgn E M false : Nat) : Int) = (infR E M : Int) := by simp [sgn]
  have i2 : ∀ x : Nat, x < infR E M → bits .or .u64 (x : Int) (sgn E M neg : Int) = ((x + sgn E M neg : Nat) : Int) := fun x hx => by
    rw [or64 _ _ _ rfl (by omega) (by omega)]
    cases neg
    · simp [sgn]
    · rw [show sgn E M true = 2 ^ (E + M) from rfl, or_add _ _ (by omega)]
  generalize sig * 2 ^ (63 - sig.log2) = s' at *
  have hl63 : 63 - sig.log2 ≤ 63 := by omega
  generalize 63 - sig.log2 = lead at *
  generalize hIR : infR E M = IR at *
  generalize hSG : sgn E M neg = SG at *
  clear kclz kc1 kc2 kr1 kr2 hnear hups hl hdk
  generalize 63 - M = d1 at *
  have B := Below.refl (w.alloc (.cells #[.int .u8 E, .int .u8 M] 27)).heap.size (w.alloc (.cells #[.int .u8 E, .int .u8 M] 27))
  obtain ⟨hc, hf⟩ := bcell B
  have KI := fun w => inf_yes h1 h2 h3 h4 false w
  have KO := fun w => overflow_ne h1 h2 h3 h4 neg w
  rw [hIR] at KI
  rw [i1] at KI
  rw [hIR, hSG] at KO
  have HI : Hid _ := KI
  have HO : Hid _ := KO
  have KZ := fun w => zero_yes h1 h2 h3 h4 neg w
  rw [hSG] at KZ
  have HZ : Hid _ := KZ
  clear KI KO KZ i1 hIR hSG
  by_cases hov : biasN E < ek
  · have hge' := hover hov
    have HV : Hid _ := HN.out.trans (by rw [Nat.min_eq_right hge'])
    clear hge' hover hin hX HN i2
    go_enter Oafg.func116, Oafg.ntmps116
    go_wp2_with (first
      | (go_at_call 172; refine (KC.out _).mono ?_; rintro e w1 ⟨rfl, rfl⟩)
      | (go_at_call 118; refine (bias_yes h1 h2 h3 h4 _).mono ?_; rintro e w1 ⟨rfl, hb1⟩; have B := bt B hb1; clear hc hf hb1; obtain ⟨hc, hf⟩ := bcell B)
      | (go_at_call 176; refine (HO.out _).mono ?_; rintro e w1 ⟨rfl, hb1⟩; have B := bt B hb1; clear hc hf hb1; obtain ⟨hc, hf⟩ := bcell B))
    go_ret2
    exact ⟨⟨_, by rw [HV.out]; rfl⟩, below1 B⟩
  · obtain ⟨hX0, hn53⟩ := hin hov
    have hX1 := hX hov
    clear hover hin hX
    generalize (decide (2 ^ 63 < r1) || (decide (r1 = 2 ^ 63) && decide (n1 % 2 = 1))) = up1 at R1
    generalize hy : n2 + up.toNat = y at HN
    have hy1 : y ≤ n2 + 1 := by rw [← hy]; cases up <;> simp
    have hyt : up = true → (n2 : Int) + 1 = (y : Int) := fun h => by rw [h] at hy; simp at hy; omega
    have hyf : up = false → n2 = y := fun h => by rw [h] at hy; simpa using hy
    have hz64 : X0 + y < 18446744073709551616 := by omega
    generalize hz : X0 + y = z at *
    have hzi : (X0 : Int) + (y : Int) = (z : Int) := by omega
    clear hz
    by_cases hin2 : z < IR
    · have i3 := i2 _ hin2
      have HV : Hid _ := HN.out.trans (by rw [Nat.min_eq_left (Nat.le_of_lt hin2)])
      clear i2 HN hy
      generalize hv : z + SG = v at *
      clear hv
      by_cases htiny : real = 1 - biasN E - 1
      · have hti : (real == 1 - biasN E - 1) = true := by simp [htiny]
        clear htiny
        cases up
        · have hyf0 := hyf rfl
          subst hyf0
          clear hyt hyf
          go_enter Oafg.func116, Oafg.ntmps116
          go_wp2_with (first
            | (go_at_call 172; refine (KC.out _).mono ?_; rintro e w1 ⟨rfl, rfl⟩)
            | (go_at_call 118; refine (bias_yes h1 h2 h3 h4 _).mono ?_; rintro e w1 ⟨rfl, hb1⟩; have B := bt B hb1; clear hc hf hb1; obtain ⟨hc, hf⟩ := bcell B)
            | (go_at_call_of 119 (Value.int .i16 (d1 : Int)); refine (K1.out _).mono ?_; rintro e w1 ⟨rfl, hb1⟩; have B := bt B hb1; clear hc hf hb1; obtain ⟨hc, hf⟩ := bcell B)
            | (go_at_call_of 119 (Value.int .i16 (k : Int)); refine (K2.out _).mono ?_; rintro e w1 ⟨rfl, hb1⟩; have B := bt B hb1; clear hc hf hb1; obtain ⟨hc, hf⟩ := bcell B)
            | (go_at_call_of 120 (Value.int .u64 (r1 : Int)); refine (R1.out _).mono ?_; rintro e w1 ⟨rfl, hb1⟩; have B := bt B hb1; clear hc hf hb1; obtain ⟨hc, hf⟩ := bcell B)
            | (go_at_call_of 120 (Value.int .u64 (r2 : Int)); refine (R2.out _).mono ?_; rintro e w1 ⟨rfl, hb1⟩; have B := bt B hb1; clear hc hf hb1; obtain ⟨hc, hf⟩ := bcell B)
            | (go_at_call 109; refine (HZ.out _).mono ?_; rintro e w1 ⟨rfl, hb1⟩; have B := bt B hb1; clear hc hf hb1; obtain ⟨hc, hf⟩ := bcell B)
            | (go_at_call 112; refine (HI.out _).mono ?_; rintro e w1 ⟨rfl, hb1⟩; have B := bt B hb1; clear hc hf hb1; obtain ⟨hc, hf⟩ := bcell B)
            | (go_at_call 176; refine (HO.out _).mono ?_; rintro e w1 ⟨rfl, hb1⟩; have B := bt B hb1; clear hc hf hb1; obtain ⟨hc, hf⟩ := bcell B))
          all_goals
            go_ret2
            exact ⟨⟨_, by rw [HV.out]; rfl⟩, below1 B⟩
        · have hyt0 := hyt rfl
          clear hyt hyf
          go_enter Oafg.func116, Oafg.ntmps116
          go_wp2_with (first
            | (go_at_call 172; refine (KC.out _).mono ?_; rintro e w1 ⟨rfl, rfl⟩)
            | (go_at_call 118; refine (bias_yes h1 h2 h3 h4 _).mono ?_; rintro e w1 ⟨rfl, hb1⟩; have B := bt B hb1; clear hc hf hb1; obtain ⟨hc, hf⟩ := bcell B)
            | (go_at_call_of 119 (Value.int .i16 (d1 : Int)); refine (K1.out _).mono ?_; rintro e w1 ⟨rfl, hb1⟩; have B := bt B hb1; clear hc hf hb1; obtain ⟨hc, hf⟩ := bcell B)
            | (go_at_call_of 119 (Value.int .i16 (k : Int)); refine (K2.out _).mono ?_; rintro e w1 ⟨rfl, hb1⟩; have B := bt B hb1; clear hc hf hb1; obtain ⟨hc, hf⟩ := bcell B)
            | (go_at_call_of 120 (Value.int .u64 (r1 : Int)); refine (R1.out _).mono ?_; rintro e w1 ⟨rfl, hb1⟩; have B := bt B hb1; clear hc hf hb1; obtain ⟨hc, hf⟩ := bcell B)
            | (go_at_call_of 120 (Value.int .u64 (r2 : Int)); refine (R2.out _).mono ?_; rintro e w1 ⟨rfl, hb1⟩; have B := bt B hb1; clear hc hf hb1; obtain ⟨hc, hf⟩ := bcell B)
            | (go_at_call 109; refine (HZ.out _).mono ?_; rintro e w1 ⟨rfl, hb1⟩; have B := bt B hb1; clear hc hf hb1; obtain ⟨hc, hf⟩ := bcell B)
            | (go_at_call 112; refine (HI.out _).mono ?_; rintro e w1 ⟨rfl, hb1⟩; have B := bt B hb1; clear hc hf hb1; obtain ⟨hc, hf⟩ := bcell B)
            | (go_at_call 176; refine (HO.out _).mono ?_; rintro e w1 ⟨rfl, hb1⟩; have B := bt B hb1; clear hc hf hb1; obtain ⟨hc, hf⟩ := bcell B))
          all_goals
            go_ret2
            exact ⟨⟨_, by rw [HV.out]; rfl⟩, below1 B⟩
      · have hti : (real == 1 - biasN E - 1) = false := by rw [beq_eq_false_iff_ne]; exact htiny
        clear htiny
        cases up
        · have hyf0 := hyf rfl
          subst hyf0
          clear hyt hyf
          go_enter Oafg.func116, Oafg.ntmps116
          go_wp2_with (first
            | (go_at_call 172; refine (KC.out _).mono ?_; rintro e w1 ⟨rfl, rfl⟩)
            | (go_at_call 118; refine (bias_yes h1 h2 h3 h4 _).mono ?_; rintro e w1 ⟨rfl, hb1⟩; have B := bt B hb1; clear hc hf hb1; obtain ⟨hc, hf⟩ := bcell B)
            | (go_at_call_of 119 (Value.int .i16 (d1 : Int)); refine (K1.out _).mono ?_; rintro e w1 ⟨rfl, hb1⟩; have B := bt B hb1; clear hc hf hb1; obtain ⟨hc, hf⟩ := bcell B)
            | (go_at_call_of 119 (Value.int .i16 (k : Int)); refine (K2.out _).mono ?_; rintro e w1 ⟨rfl, hb1⟩; have B := bt B hb1; clear hc hf hb1; obtain ⟨hc, hf⟩ := bcell B)
            | (go_at_call_of 120 (Value.int .u64 (r1 : Int)); refine (R1.out _).mono ?_; rintro e w1 ⟨rfl, hb1⟩; have B := bt B hb1; clear hc hf hb1; obtain ⟨hc, hf⟩ := bcell B)
            | (go_at_call_of 120 (Value.int .u64 (r2 : Int)); refine (R2.out _).mono ?_; rintro e w1 ⟨rfl, hb1⟩; have B := bt B hb1; clear hc hf hb1; obtain ⟨hc, hf⟩ := bcell B)
            | (go_at_call 109; refine (HZ.out _).mono ?_; rintro e w1 ⟨rfl, hb1⟩; have B := bt B hb1; clear hc hf hb1; obtain ⟨hc, hf⟩ := bcell B)
            | (go_at_call 112; refine (HI.out _).mono ?_; rintro e w1 ⟨rfl, hb1⟩; have B := bt B hb1; clear hc hf hb1; obtain ⟨hc, hf⟩ := bcell B)
            | (go_at_call 176; refine (HO.out _).mono ?_; rintro e w1 ⟨rfl, hb1⟩; have B := bt B hb1; clear hc hf hb1; obtain ⟨hc, hf⟩ := bcell B))
          all_goals
            go_ret2
            exact ⟨⟨_, by rw [HV.out]; rfl⟩, below1 B⟩
        · have hyt0 := hyt rfl
          clear hyt hyf
          go_enter Oafg.func116, Oafg.ntmps116
          go_wp2_with (first
            | (go_at_call 172; refine (KC.out _).mono ?_; rintro e w1 ⟨rfl, rfl⟩)
            | (go_at_call 118; refine (bias_yes h1 h2 h3 h4 _).mono ?_; rintro e w1 ⟨rfl, hb1⟩; have B := bt B hb1; clear hc hf hb1; obtain ⟨hc, hf⟩ := bcell B)
            | (go_at_call_of 119 (Value.int .i16 (d1 : Int)); refine (K1.out _).mono ?_; rintro e w1 ⟨rfl, hb1⟩; have B := bt B hb1; clear hc hf hb1; obtain ⟨hc, hf⟩ := bcell B)
            | (go_at_call_of 119 (Value.int .i16 (k : Int)); refine (K2.out _).mono ?_; rintro e w1 ⟨rfl, hb1⟩; have B := bt B hb1; clear hc hf hb1; obtain ⟨hc, hf⟩ := bcell B)
            | (go_at_call_of 120 (Value.int .u64 (r1 : Int)); refine (R1.out _).mono ?_; rintro e w1 ⟨rfl, hb1⟩; have B := bt B hb1; clear hc hf hb1; obtain ⟨hc, hf⟩ := bcell B)
            | (go_at_call_of 120 (Value.int .u64 (r2 : Int)); refine (R2.out _).mono ?_; rintro e w1 ⟨rfl, hb1⟩; have B := bt B hb1; clear hc hf hb1; obtain ⟨hc, hf⟩ := bcell B)
            | (go_at_call 109; refine (HZ.out _).mono ?_; rintro e w1 ⟨rfl, hb1⟩; have B := bt B hb1; clear hc hf hb1; obtain ⟨hc, hf⟩ := bcell B)
            | (go_at_call 112; refine (HI.out _).mono ?_; rintro e w1 ⟨rfl, hb1⟩; have B := bt B hb1; clear hc hf hb1; obtain ⟨hc, hf⟩ := bcell B)
            | (go_at_call 176; refine (HO.out _).mono ?_; rintro e w1 ⟨rfl, hb1⟩; have B := bt B hb1; clear hc hf hb1; obtain ⟨hc, hf⟩ := bcell B))
          all_goals
            go_ret2
            exact ⟨⟨_, by rw [HV.out]; rfl⟩, below1 B⟩
    · have HV : Hid _ := HN.out.trans (by rw [Nat.min_eq_right (by omega)])
      clear i2 HN hy
      by_cases htiny : real = 1 - biasN E - 1
      · have hti : (real == 1 - biasN E - 1) = true := by simp [htiny]
        clear htiny
        cases up
        · have hyf0 := hyf rfl
          subst hyf0
          clear hyt hyf
          go_enter Oafg.func116, Oafg.ntmps116
          go_wp2_with (first
            | (go_at_call 172; refine (KC.out _).mono ?_; rintro e w1 ⟨rfl, rfl⟩)
            | (go_at_call 118; refine (bias_yes h1 h2 h3 h4 _).mono ?_; rintro e w1 ⟨rfl, hb1⟩; have B := bt B hb1; clear hc hf hb1; obtain ⟨hc, hf⟩ := bcell B)
            | (go_at_call_of 119 (Value.int .i16 (d1 : Int)); refine (K1.out _).mono ?_; rintro e w1 ⟨rfl, hb1⟩; have B := bt B hb1; clear hc hf hb1; obtain ⟨hc, hf⟩ := bcell B)
            | (go_at_call_of 119 (Value.int .i16 (k : Int)); refine (K2.out _).mono ?_; rintro e w1 ⟨rfl, hb1⟩; have B := bt B hb1; clear hc hf hb1; obtain ⟨hc, hf⟩ := bcell B)
            | (go_at_call_of 120 (Value.int .u64 (r1 : Int)); refine (R1.out _).mono ?_; rintro e w1 ⟨rfl, hb1⟩; have B := bt B hb1; clear hc hf hb1; obtain ⟨hc, hf⟩ := bcell B)
            | (go_at_call_of 120 (Value.int .u64 (r2 : Int)); refine (R2.out _).mono ?_; rintro e w1 ⟨rfl, hb1⟩; have B := bt B hb1; clear hc hf hb1; obtain ⟨hc, hf⟩ := bcell B)
            | (go_at_call 109; refine (HZ.out _).mono ?_; rintro e w1 ⟨rfl, hb1⟩; have B := bt B hb1; clear hc hf hb1; obtain ⟨hc, hf⟩ := bcell B)
            | (go_at_call 112; refine (HI.out _).mono ?_; rintro e w1 ⟨rfl, hb1⟩; have B := bt B hb1; clear hc hf hb1; obtain ⟨hc, hf⟩ := bcell B)
            | (go_at_call 176; refine (HO.out _).mono ?_; rintro e w1 ⟨rfl, hb1⟩; have B := bt B hb1; clear hc hf hb1; obtain ⟨hc, hf⟩ := bcell B))
          all_goals
            go_ret2
            exact ⟨⟨_, by rw [HV.out]; rfl⟩, below1 B⟩
        · have hyt0 := hyt rfl
          clear hyt hyf
          go_enter Oafg.func116, Oafg.ntmps116
          go_wp2_with (first
            | (go_at_call 172; refine (KC.out _).mono ?_; rintro e w1 ⟨rfl, rfl⟩)
            | (go_at_call 118; refine (bias_yes h1 h2 h3 h4 _).mono ?_; rintro e w1 ⟨rfl, hb1⟩; have B := bt B hb1; clear hc hf hb1; obtain ⟨hc, hf⟩ := bcell B)
            | (go_at_call_of 119 (Value.int .i16 (d1 : Int)); refine (K1.out _).mono ?_; rintro e w1 ⟨rfl, hb1⟩; have B := bt B hb1; clear hc hf hb1; obtain ⟨hc, hf⟩ := bcell B)
            | (go_at_call_of 119 (Value.int .i16 (k : Int)); refine (K2.out _).mono ?_; rintro e w1 ⟨rfl, hb1⟩; have B := bt B hb1; clear hc hf hb1; obtain ⟨hc, hf⟩ := bcell B)
            | (go_at_call_of 120 (Value.int .u64 (r1 : Int)); refine (R1.out _).mono ?_; rintro e w1 ⟨rfl, hb1⟩; have B := bt B hb1; clear hc hf hb1; obtain ⟨hc, hf⟩ := bcell B)
            | (go_at_call_of 120 (Value.int .u64 (r2 : Int)); refine (R2.out _).mono ?_; rintro e w1 ⟨rfl, hb1⟩; have B := bt B hb1; clear hc hf hb1; obtain ⟨hc, hf⟩ := bcell B)
            | (go_at_call 109; refine (HZ.out _).mono ?_; rintro e w1 ⟨rfl, hb1⟩; have B := bt B hb1; clear hc hf hb1; obtain ⟨hc, hf⟩ := bcell B)
            | (go_at_call 112; refine (HI.out _).mono ?_; rintro e w1 ⟨rfl, hb1⟩; have B := bt B hb1; clear hc hf hb1; obtain ⟨hc, hf⟩ := bcell B)
            | (go_at_call 176; refine (HO.out _).mono ?_; rintro e w1 ⟨rfl, hb1⟩; have B := bt B hb1; clear hc hf hb1; obtain ⟨hc, hf⟩ := bcell B))
          all_goals
            go_ret2
            exact ⟨⟨_, by rw [HV.out]; rfl⟩, below1 B⟩
      · have hti : (real == 1 - biasN E - 1) = false := by rw [beq_eq_false_iff_ne]; exact htiny
        clear htiny
        cases up
        · have hyf0 := hyf rfl
          subst hyf0
          clear hyt hyf
          go_enter Oafg.func116, Oafg.ntmps116
          go_wp2_with (first
            | (go_at_call 172; refine (KC.out _).mono ?_; rintro e w1 ⟨rfl, rfl⟩)
            | (go_at_call 118; refine (bias_yes h1 h2 h3 h4 _).mono ?_; rintro e w1 ⟨rfl, hb1⟩; have B := bt B hb1; clear hc hf hb1; obtain ⟨hc, hf⟩ := bcell B)
            | (go_at_call_of 119 (Value.int .i16 (d1 : Int)); refine (K1.out _).mono ?_; rintro e w1 ⟨rfl, hb1⟩; have B := bt B hb1; clear hc hf hb1; obtain ⟨hc, hf⟩ := bcell B)
            | (go_at_call_of 119 (Value.int .i16 (k : Int)); refine (K2.out _).mono ?_; rintro e w1 ⟨rfl, hb1⟩; have B := bt B hb1; clear hc hf hb1; obtain ⟨hc, hf⟩ := bcell B)
            | (go_at_call_of 120 (Value.int .u64 (r1 : Int)); refine (R1.out _).mono ?_; rintro e w1 ⟨rfl, hb1⟩; have B := bt B hb1; clear hc hf hb1; obtain ⟨hc, hf⟩ := bcell B)
            | (go_at_call_of 120 (Value.int .u64 (r2 : Int)); refine (R2.out _).mono ?_; rintro e w1 ⟨rfl, hb1⟩; have B := bt B hb1; clear hc hf hb1; obtain ⟨hc, hf⟩ := bcell B)
            | (go_at_call 109; refine (HZ.out _).mono ?_; rintro e w1 ⟨rfl, hb1⟩; have B := bt B hb1; clear hc hf hb1; obtain ⟨hc, hf⟩ := bcell B)
            | (go_at_call 112; refine (HI.out _).mono ?_; rintro e w1 ⟨rfl, hb1⟩; have B := bt B hb1; clear hc hf hb1; obtain ⟨hc, hf⟩ := bcell B)
            | (go_at_call 176; refine (HO.out _).mono ?_; rintro e w1 ⟨rfl, hb1⟩; have B := bt B hb1; clear hc hf hb1; obtain ⟨hc, hf⟩ := bcell B))
          all_goals
            go_ret2
            exact ⟨⟨_, by rw [HV.out]; rfl⟩, below1 B⟩
        · have hyt0 := hyt rfl
          clear hyt hyf
          go_enter Oafg.func116, Oafg.ntmps116
          go_wp2_with (first
            | (go_at_call 172; refine (KC.out _).mono ?_; rintro e w1 ⟨rfl, rfl⟩)
            | (go_at_call 118; refine (bias_yes h1 h2 h3 h4 _).mono ?_; rintro e w1 ⟨rfl, hb1⟩; have B := bt B hb1; clear hc hf hb1; obtain ⟨hc, hf⟩ := bcell B)
            | (go_at_call_of 119 (Value.int .i16 (d1 : Int)); refine (K1.out _).mono ?_; rintro e w1 ⟨rfl, hb1⟩; have B := bt B hb1; clear hc hf hb1; obtain ⟨hc, hf⟩ := bcell B)
            | (go_at_call_of 119 (Value.int .i16 (k : Int)); refine (K2.out _).mono ?_; rintro e w1 ⟨rfl, hb1⟩; have B := bt B hb1; clear hc hf hb1; obtain ⟨hc, hf⟩ := bcell B)
            | (go_at_call_of 120 (Value.int .u64 (r1 : Int)); refine (R1.out _).mono ?_; rintro e w1 ⟨rfl, hb1⟩; have B := bt B hb1; clear hc hf hb1; obtain ⟨hc, hf⟩ := bcell B)
            | (go_at_call_of 120 (Value.int .u64 (r2 : Int)); refine (R2.out _).mono ?_; rintro e w1 ⟨rfl, hb1⟩; have B := bt B hb1; clear hc hf hb1; obtain ⟨hc, hf⟩ := bcell B)
            | (go_at_call 109; refine (HZ.out _).mono ?_; rintro e w1 ⟨rfl, hb1⟩; have B := bt B hb1; clear hc hf hb1; obtain ⟨hc, hf⟩ := bcell B)
            | (go_at_call 112; refine (HI.out _).mono ?_; rintro e w1 ⟨rfl, hb1⟩; have B := bt B hb1; clear hc hf hb1; obtain ⟨hc, hf⟩ := bcell B)
            | (go_at_call 176; refine (HO.out _).mono ?_; rintro e w1 ⟨rfl, hb1⟩; have B := bt B hb1; clear hc hf hb1; obtain ⟨hc, hf⟩ := bcell B))
          all_goals
            go_ret2
            exact ⟨⟨_, by rw [HV.out]; rfl⟩, below1 B⟩
end Go.Proofs.Ygcoaf
