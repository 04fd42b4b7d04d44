/-
  WALKS, the twenty-second: AddFlags.
-/
import Derived.Test.YgcoafW21
import Derived.Test.YgcoafW3
namespace Go.Proofs.Ygcoaf
open Go.RowKit Go.Proofs.Ygcoaf.M

/-- what lies in memory once both operands are unpacked -/
structure PS (w : World) (E M : Nat) (b7 b8 : Nat) (na : Bool) (ca : Nat) (ea : Int) (ma : Nat) (nb : Bool) (cb : Nat) (eb : Int) (mb : Nat) (w' : World) : Prop where
  hs : HS w w.heap.size E M w'
  x0 : w'.cell? ⟨b7, 0, none⟩ = some (.bool na)
  x1 : w'.cell? ⟨b7, 1, none⟩ = some (.int .i8 ca)
  x2 : w'.cell? ⟨b7, 2, none⟩ = some (.int .i16 ea)
  x3 : w'.cell? ⟨b7, 3, none⟩ = some (.int .u64 ma)
  y0 : w'.cell? ⟨b8, 0, none⟩ = some (.bool nb)
  y1 : w'.cell? ⟨b8, 1, none⟩ = some (.int .i8 cb)
  y2 : w'.cell? ⟨b8, 2, none⟩ = some (.int .i16 eb)
  y3 : w'.cell? ⟨b8, 3, none⟩ = some (.int .u64 mb)

/-- a + b on what the words stand for -/
def addC (E M : Nat) (na : Bool) (ca : Nat) (ea : Int) (ma : Nat) (nb : Bool) (cb : Nat) (eb : Int) (mb : Nat) : Nat :=
  if ca = 4 ∨ cb = 4 then nanR E M else if ca = 3 ∧ cb = 3 ∧ na ≠ nb then nanR E M else if ca = 3 then infR E M + sgn E M na else if cb = 3 then infR E M + sgn E M nb else finV E M na ca ea ma nb cb eb mb
def addU (E M a b : Nat) : Nat := addC E M (uNeg E M a) (uCls E M a) (uExp E M a) (uMan E M a) (uNeg E M b) (uCls E M b) (uExp E M b) (uMan E M b)

theorem uman_cls (E M x : Nat) (h : uCls E M x ≠ 0) (h3 : uCls E M x ≠ 3) (h4 : uCls E M x ≠ 4) : 2 ^ M ≤ uMan E M x ∧ uMan E M x < 2 ^ (M + 1) := by
  refine uMan_bd E M x ?_
  have : uCls E M x ≤ 4 := by
    unfold uCls
    split
    · split <;> decide
    · split
      · split <;> decide
      · decide
  omega

set_option maxRecDepth 8000 in
set_option maxHeartbeats 2000000 in
/-- soft.AddFlags under NearestEven -/
theorem addFlags_ne {E M : Nat} (h1 : 2 ≤ E) (h2 : E ≤ 11) (h3 : 2 ≤ M) (h4 : M ≤ 52) (a b : Nat) (ha : a < 18446744073709551616) (hb : b < 18446744073709551616) (w : World) :
    Calls Oafg.prog 102 #[.agg #[.int .u8 E, .int .u8 M], .int .u8 0, .int .u64 a, .int .u64 b] w fun e w' =>
      (∃ fl : Int, e = .returned (.tuple #[.int .u64 (addU E M a b : Nat), .int .u8 fl])) ∧ Below w.heap.size w w' := by
  have ua := fun w => unpack_yes h1 h2 h3 h4 a ha w
  have ub := fun w => unpack_yes h1 h2 h3 h4 b hb w
  have xa := uExp_bd h1 h2 M a h4
  have xb := uExp_bd h1 h2 M b h4
  have ma' := uMan_lt E M a h4
  have mb' := uMan_lt E M b h4
  have za := uman_cls E M a
  have zb := uman_cls E M b
  unfold addU
  generalize uNeg E M a = na at *
  generalize uNeg E M b = nb at *
  generalize uCls E M a = ca at *
  generalize uCls E M b = cb at *
  generalize uExp E M a = ea at *
  generalize uExp E M b = eb at *
  generalize uMan E M a = ma at *
  generalize uMan E M b = mb at *
  have Ua : Hid _ := ua
  have Ub : Hid _ := ub
  have FN : Hid (ca ≠ 3 → ca ≠ 4 → cb ≠ 3 → cb ≠ 4 → ∀ w, Calls Oafg.prog 167 #[.agg #[.int .u8 E, .int .u8 M], .int .u8 0, .agg #[.bool na, .int .i8 ca, .int .i16 ea, .int .u64 ma], .agg #[.bool nb, .int .i8 cb, .int .i16 eb, .int .u64 mb]] w fun e w' => (∃ fl : Int, e = .returned (.tuple #[.int .u64 (finV E M na ca ea ma nb cb eb mb : Nat), .int .u8 fl])) ∧ Below w.heap.size w w') := fun g1 g2 g3 g4 w => addFinite_ne h1 h2 h3 h4 na ca ea ma nb cb eb mb xa xb (fun h => za h g1 g2) (fun h => zb h g3 g4) ma' mb' w
  clear ua ub xa xb ma' mb' za zb
  obtain ⟨V, hV⟩ : ∃ V, V = addC E M na ca ea ma nb cb eb mb := ⟨_, rfl⟩
  rw [← hV]
  have HV : Hid _ := hV
  clear hV
  go_enter Oafg.func102, Oafg.ntmps102
  go_wp2_with (go_at_call 54; refine (ok_yes h1 h2 h3 h4 _).mono ?_; rintro e w1 ⟨rfl, hb1⟩; obtain ⟨hc1, hf1⟩ := bcell hb1)
  go_cut [10, 11] (fun t7 t8 w' => ∃ b7 b8, t7 = .pointer (some ⟨b7, 0, none⟩) ∧ t8 = .pointer (some ⟨b8, 0, none⟩) ∧ Hid (PS w E M b7 b8 na ca ea ma nb cb eb mb w'))
  case first =>
    have hS0 : HS w w.heap.size E M w1 := ⟨below1 hb1, Nat.le_refl _, by simp [hc1], by simp [hc1]⟩
    obtain ⟨hl0, hl1⟩ := HS.cells (w := w) (b := w.heap.size) (E := E) (M := M)
    have hsz : w.heap.size < w1.heap.size := hS0.lt
    clear hc1 hf1
    go_region_held3 (fun w' => HS w w.heap.size E M w')
      (repeat' (first | with_reducible exact hSu | with_reducible exact hS0 | with_reducible apply HS.alloc | with_reducible apply HS.set | with_reducible apply HS.drew | (simp; omega) | omega))
      (first
        | (go_at_call_of 70 (Value.int .u64 a); refine (Ua.out _).mono ?_; rintro e w2 ⟨rfl, hbu⟩; have hSu := HS.call (by assumption) hbu; have hltu := HS.lt hSu; obtain ⟨hcu, hfu⟩ := bcell hbu; have hzu := hbu.size; (try simp at hzu); (try have q1 : w1.heap.size < w2.heap.size := by omega); (try have q2 : w1.heap.size + 1 < w2.heap.size := by omega))
        | (go_at_call_of 70 (Value.int .u64 b); refine (Ub.out _).mono ?_; rintro e w3 ⟨rfl, hbu⟩; have hSu := HS.call (by assumption) hbu; have hltu := HS.lt hSu; obtain ⟨hcu, hfu⟩ := bcell hbu; have hzu := hbu.size; (try simp at hzu); (try have q3 : w1.heap.size < w3.heap.size := by omega); (try have q4 : w1.heap.size + 1 < w3.heap.size := by omega); (try have q5 : w2.heap.size < w3.heap.size := by omega); (try have q6 : w2.heap.size + 1 < w3.heap.size := by omega)))
    all_goals
      rename_i hH
      go_wp2
      go_meet
      case rel => exact ⟨_, _, rfl, rfl, hH, by simp (maxDischargeDepth := 8) [go_sem, *], by simp (maxDischargeDepth := 8) [go_sem, *], by simp (maxDischargeDepth := 8) [go_sem, *], by simp (maxDischargeDepth := 8) [go_sem, *], by simp (maxDischargeDepth := 8) [go_sem, *], by simp (maxDischargeDepth := 8) [go_sem, *], by simp (maxDischargeDepth := 8) [go_sem, *], by simp (maxDischargeDepth := 8) [go_sem, *]⟩
  case rest =>
    clear hc1 hf1 hb1 Ua Ub
    obtain ⟨b7, b8, rfl, rfl, P⟩ := hcut
    obtain ⟨⟨hBw, hle, z0, z1⟩, x0, x1, x2, x3, y0, y1, y2, y3⟩ := P.out
    clear P hle
    by_cases ha4 : ca = 4
    · have ba4 : ((ca : Int) == 4) = true := by rw [ha4]; rfl
      have hv : V = nanR E M := HV.out.trans (by unfold addC; rw [if_pos (Or.inl ha4)])
      clear HV
      subst hv
      clear ha4 FN
      have hS0 : HB wc wc := HB.start
      have hcl := HB.cells (W := wc)
      have hlt := World.block_lt_of_cell? _ _ z0
      simp only at hlt
      go_wp2
      go_region_held3 (fun w' => HB wc w')
        (repeat' (first | with_reducible exact hSu | with_reducible exact hS0 | with_reducible apply HB.drew))
        (first
          | (go_at_call 110; refine (theNaN_yes h1 h2 h3 h4 _).mono ?_; rintro e w2 ⟨rfl, hbu⟩; have hSu := HB.call (by assumption) hbu)
          | (go_at_call 111; refine (heard_yes h1 h2 h3 h4 a b ha hb _).mono ?_; rintro e w3 ⟨⟨fl, rfl⟩, hbu⟩; have hSu := HB.call (by assumption) hbu))
      rename_i hH
      go_wp2
      go_ret2
      exact ⟨⟨_, rfl⟩, bt hBw hH.out⟩
    have ba4 : ((ca : Int) == 4) = false := by rw [beq_eq_false_iff_ne]; omega
    by_cases hb4 : cb = 4
    · have bb4 : ((cb : Int) == 4) = true := by rw [hb4]; rfl
      have hv : V = nanR E M := HV.out.trans (by unfold addC; rw [if_pos (Or.inr hb4)])
      clear HV
      subst hv
      clear ha4 hb4 FN
      have hS0 : HB wc wc := HB.start
      have hcl := HB.cells (W := wc)
      have hlt := World.block_lt_of_cell? _ _ z0
      simp only at hlt
      go_wp2
      go_region_held3 (fun w' => HB wc w')
        (repeat' (first | with_reducible exact hSu | with_reducible exact hS0 | with_reducible apply HB.drew))
        (first
          | (go_at_call 110; refine (theNaN_yes h1 h2 h3 h4 _).mono ?_; rintro e w2 ⟨rfl, hbu⟩; have hSu := HB.call (by assumption) hbu)
          | (go_at_call 111; refine (heard_yes h1 h2 h3 h4 a b ha hb _).mono ?_; rintro e w3 ⟨⟨fl, rfl⟩, hbu⟩; have hSu := HB.call (by assumption) hbu))
      rename_i hH
      go_wp2
      go_ret2
      exact ⟨⟨_, rfl⟩, bt hBw hH.out⟩
    have bb4 : ((cb : Int) == 4) = false := by rw [beq_eq_false_iff_ne]; omega
    by_cases ha3 : ca = 3
    · have ba3 : ((ca : Int) == 3) = true := by rw [ha3]; rfl
      by_cases hb3 : cb = 3
      · have bb3 : ((cb : Int) == 3) = true := by rw [hb3]; rfl
        by_cases hn : na = nb
        · subst hn
          have hnb : (na != na) = false := by cases na <;> rfl
          have hv : V = infR E M + sgn E M na := HV.out.trans (by unfold addC; rw [if_neg (by omega), if_neg (by simp), if_pos ha3])
          clear HV
          subst hv
          clear ha4 hb4 ha3 hb3 FN
          go_wp2_with (go_at_call 112; refine (inf_yes h1 h2 h3 h4 na _).mono ?_; rintro e w2 ⟨rfl, hb2⟩)
          go_ret2
          exact ⟨⟨_, rfl⟩, bt hBw hb2⟩
        · have hnb : (na == nb) = false := by revert hn; cases na <;> cases nb <;> simp
          have hv : V = nanR E M := HV.out.trans (by unfold addC; rw [if_neg (by omega), if_pos ⟨ha3, hb3, hn⟩])
          clear HV
          subst hv
          clear ha4 hb4 ha3 hb3 hn FN
          go_wp2_with (go_at_call 110; refine (theNaN_yes h1 h2 h3 h4 _).mono ?_; rintro e w2 ⟨rfl, hb2⟩)
          go_ret2
          exact ⟨⟨_, rfl⟩, bt hBw hb2⟩
      · have bb3 : ((cb : Int) == 3) = false := by rw [beq_eq_false_iff_ne]; omega
        have hv : V = infR E M + sgn E M na := HV.out.trans (by unfold addC; rw [if_neg (by omega), if_neg (by omega), if_pos ha3])
        clear HV
        subst hv
        clear ha4 hb4 ha3 hb3 FN
        go_wp2_with (go_at_call 112; refine (inf_yes h1 h2 h3 h4 na _).mono ?_; rintro e w2 ⟨rfl, hb2⟩)
        go_ret2
        exact ⟨⟨_, rfl⟩, bt hBw hb2⟩
    have ba3 : ((ca : Int) == 3) = false := by rw [beq_eq_false_iff_ne]; omega
    by_cases hb3 : cb = 3
    · have bb3 : ((cb : Int) == 3) = true := by rw [hb3]; rfl
      have hv : V = infR E M + sgn E M nb := HV.out.trans (by unfold addC; rw [if_neg (by omega), if_neg (by omega), if_neg ha3, if_pos hb3])
      clear HV
      subst hv
      clear ha4 hb4 ha3 hb3 FN
      go_wp2_with (go_at_call 112; refine (inf_yes h1 h2 h3 h4 nb _).mono ?_; rintro e w2 ⟨rfl, hb2⟩)
      go_ret2
      exact ⟨⟨_, rfl⟩, bt hBw hb2⟩
    have bb3 : ((cb : Int) == 3) = false := by rw [beq_eq_false_iff_ne]; omega
    have FN' : Hid _ := FN.out ha3 ha4 hb3 hb4
    have hv : V = finV E M na ca ea ma nb cb eb mb := HV.out.trans (by unfold addC; rw [if_neg (by omega), if_neg (by omega), if_neg ha3, if_neg hb3])
    clear HV
    subst hv
    clear ha4 hb4 ha3 hb3 FN
    go_wp2_with (go_at_call 167; refine (FN'.out _).mono ?_; rintro e w2 ⟨⟨fl, rfl⟩, hb2⟩)
    go_ret2
    exact ⟨⟨_, rfl⟩, bt hBw hb2⟩
end Go.Proofs.Ygcoaf
