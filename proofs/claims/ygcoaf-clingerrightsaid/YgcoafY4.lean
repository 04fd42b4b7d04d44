/-
  law.clingerServes, ClingerRight.
-/
import Derived.Test.YgcoafY3
import Derived.Test.YgcoafX8
namespace Go.Proofs.Ygcoaf
open Go.RowKit Go.Proofs.Ygcoaf.M

set_option maxHeartbeats 4000000 in
/-- law.clingerServes -/
theorem serves_any (E M man : Nat) (q : Int) (hman : man < 18446744073709551616) (w : World) :
    Calls Oafg.prog 47 #[.agg #[.int .u8 E, .int .u8 M], .int .u64 man, .int .i16 q] w fun r w' => r = .returned (.bool (serv64 E M man q || serv32 E M man q)) ∧ Below w.heap.size w w' := by
  obtain ⟨b1, hb1⟩ : ∃ b1, b1 = serv64 E M man q := ⟨_, rfl⟩
  obtain ⟨b2, hb2⟩ : ∃ b2, b2 = serv32 E M man q := ⟨_, rfl⟩
  obtain ⟨bb, hbb⟩ : ∃ bb, bb = (b1 || b2) := ⟨_, rfl⟩
  rw [← hb1, ← hb2, ← hbb]
  unfold serv64 at hb1
  unfold serv32 at hb2
  have H1 : Hid _ := hb1
  have H2 : Hid _ := hb2
  have HBB : Hid _ := hbb
  have HBI64 : Hid _ := fun ww => binary64_any ww
  have HBI32 : Hid _ := fun ww => binary32_any ww
  clear hb1 hb2 hbb
  go_enter Oafg.func47, Oafg.ntmps47
  go_wp2
  have hPK : FC w w.heap.size E M (w.alloc (.cells #[.int .u8 E, .int .u8 M] 27)) := ⟨self1, by simp [go_sem], by simp [go_sem]⟩
  generalize hW : w.alloc (.cells #[.int .u8 E, .int .u8 M] 27) = W at hPK ⊢
  obtain ⟨R, hR⟩ : ∃ R, R = w.heap.size := ⟨_, rfl⟩
  simp only [← hR]
  have hPK' : FC w R E M W := by rw [hR]; exact hPK
  have HPK : Hid _ := hPK'
  have c0 := hPK'.cE
  have c1 := hPK'.cM
  have hlt := World.block_lt_of_cell? _ _ c0
  simp only at hlt
  clear hPK hPK' hW hR
  have hwne := HW.ne W
  have x0 : ∀ x : HW W, x.val.cell? ⟨R, 0, none⟩ = some (.int .u8 E) := fun x => by rw [HB.cells _ x.ok _ _ hlt]; exact c0
  have x1 : ∀ x : HW W, x.val.cell? ⟨R, 1, none⟩ = some (.int .u8 M) := fun x => by rw [HB.cells _ x.ok _ _ hlt]; exact c1
  by_cases e1 : E = 11
  · have tE : ((E : Int) == 11) = true := by rw [beq_iff_eq]; omega
    have tE8 : ((E : Int) == 8) = false := by rw [beq_eq_false_iff_ne]; omega
    by_cases e2 : M = 52
    · have tM : ((M : Int) == 52) = true := by rw [beq_iff_eq]; omega
      by_cases m1 : man ≤ 9007199254740992
      · have tm : ((man : Int) ≤ 9007199254740992) := by omega
        by_cases q1 : -22 ≤ q
        · by_cases q2 : q ≤ 22
          · obtain rfl : bb = true := by rw [HBB.out, H1.out, H2.out]; simp [e1, e2, m1, q1, q2]
            clear H1 H2 HBB e1 e2
            refine quiet_held (by kernel_rfl) (by kernel_rfl) ?_
            repeat (go_big_quiet_step ((first | (go_at_call 20; refine (HBI64.out _).mono ?_; rintro e w2 ⟨rfl, hbu⟩; exact ⟨rfl, ⟨w2, HB.call (HW.ok _) hbu⟩, rfl⟩) | (go_at_call 17; refine (HBI32.out _).mono ?_; rintro e w2 ⟨rfl, hbu⟩; exact ⟨rfl, ⟨w2, HB.call (HW.ok _) hbu⟩, rfl⟩))))
            refine wpQuiet_nil ?_
            rintro _ ⟨x, rfl⟩
            go_wp2
            go_ret
            exact ⟨rfl, bt HPK.out.below x.ok⟩
          · obtain rfl : bb = false := by rw [HBB.out, H1.out, H2.out]; simp [e1, q2]
            have tq : decide (q ≤ 22) = false := decide_eq_false q2
            clear H1 H2 HBB e1 e2 q2
            refine quiet_held (by kernel_rfl) (by kernel_rfl) ?_
            repeat (go_big_quiet_step ((first | (go_at_call 20; refine (HBI64.out _).mono ?_; rintro e w2 ⟨rfl, hbu⟩; exact ⟨rfl, ⟨w2, HB.call (HW.ok _) hbu⟩, rfl⟩) | (go_at_call 17; refine (HBI32.out _).mono ?_; rintro e w2 ⟨rfl, hbu⟩; exact ⟨rfl, ⟨w2, HB.call (HW.ok _) hbu⟩, rfl⟩))))
            refine wpQuiet_nil ?_
            rintro _ ⟨x, rfl⟩
            go_wp2
            go_ret
            exact ⟨rfl, bt HPK.out.below x.ok⟩
        · obtain rfl : bb = false := by rw [HBB.out, H1.out, H2.out]; simp [e1, q1]
          have tq : decide (-22 ≤ q) = false := decide_eq_false q1
          clear H1 H2 HBB e1 e2 q1
          refine quiet_held (by kernel_rfl) (by kernel_rfl) ?_
          repeat (go_big_quiet_step ((first | (go_at_call 20; refine (HBI64.out _).mono ?_; rintro e w2 ⟨rfl, hbu⟩; exact ⟨rfl, ⟨w2, HB.call (HW.ok _) hbu⟩, rfl⟩) | (go_at_call 17; refine (HBI32.out _).mono ?_; rintro e w2 ⟨rfl, hbu⟩; exact ⟨rfl, ⟨w2, HB.call (HW.ok _) hbu⟩, rfl⟩))))
          refine wpQuiet_nil ?_
          rintro _ ⟨x, rfl⟩
          go_wp2
          go_ret
          exact ⟨rfl, bt HPK.out.below x.ok⟩
      · obtain rfl : bb = false := by rw [HBB.out, H1.out, H2.out]; simp [e1, m1]
        have tm : decide ((man : Int) ≤ 9007199254740992) = false := decide_eq_false (by omega)
        clear H1 H2 HBB e1 e2 m1
        refine quiet_held (by kernel_rfl) (by kernel_rfl) ?_
        repeat (go_big_quiet_step ((first | (go_at_call 20; refine (HBI64.out _).mono ?_; rintro e w2 ⟨rfl, hbu⟩; exact ⟨rfl, ⟨w2, HB.call (HW.ok _) hbu⟩, rfl⟩) | (go_at_call 17; refine (HBI32.out _).mono ?_; rintro e w2 ⟨rfl, hbu⟩; exact ⟨rfl, ⟨w2, HB.call (HW.ok _) hbu⟩, rfl⟩))))
        refine wpQuiet_nil ?_
        rintro _ ⟨x, rfl⟩
        go_wp2
        go_ret
        exact ⟨rfl, bt HPK.out.below x.ok⟩
    · obtain rfl : bb = false := by rw [HBB.out, H1.out, H2.out]; simp [e1, e2]
      have tM : ((M : Int) == 52) = false := by rw [beq_eq_false_iff_ne]; omega
      clear H1 H2 HBB e1 e2
      refine quiet_held (by kernel_rfl) (by kernel_rfl) ?_
      repeat (go_big_quiet_step ((first | (go_at_call 20; refine (HBI64.out _).mono ?_; rintro e w2 ⟨rfl, hbu⟩; exact ⟨rfl, ⟨w2, HB.call (HW.ok _) hbu⟩, rfl⟩) | (go_at_call 17; refine (HBI32.out _).mono ?_; rintro e w2 ⟨rfl, hbu⟩; exact ⟨rfl, ⟨w2, HB.call (HW.ok _) hbu⟩, rfl⟩))))
      refine wpQuiet_nil ?_
      rintro _ ⟨x, rfl⟩
      go_wp2
      go_ret
      exact ⟨rfl, bt HPK.out.below x.ok⟩
  · have tE : ((E : Int) == 11) = false := by rw [beq_eq_false_iff_ne]; omega
    by_cases e3 : E = 8
    · have tE8 : ((E : Int) == 8) = true := by rw [beq_iff_eq]; omega
      by_cases e4 : M = 23
      · have tM : ((M : Int) == 23) = true := by rw [beq_iff_eq]; omega
        by_cases m1 : man ≤ 16777216
        · have tm : ((man : Int) ≤ 16777216) := by omega
          by_cases q1 : -10 ≤ q
          · by_cases q2 : q ≤ 10
            · obtain rfl : bb = true := by rw [HBB.out, H1.out, H2.out]; simp [e3, e4, m1, q1, q2]
              clear H1 H2 HBB e1 e3 e4
              refine quiet_held (by kernel_rfl) (by kernel_rfl) ?_
              repeat (go_big_quiet_step ((first | (go_at_call 20; refine (HBI64.out _).mono ?_; rintro e w2 ⟨rfl, hbu⟩; exact ⟨rfl, ⟨w2, HB.call (HW.ok _) hbu⟩, rfl⟩) | (go_at_call 17; refine (HBI32.out _).mono ?_; rintro e w2 ⟨rfl, hbu⟩; exact ⟨rfl, ⟨w2, HB.call (HW.ok _) hbu⟩, rfl⟩))))
              refine wpQuiet_nil ?_
              rintro _ ⟨x, rfl⟩
              go_wp2
              go_ret
              exact ⟨rfl, bt HPK.out.below x.ok⟩
            · obtain rfl : bb = false := by rw [HBB.out, H1.out, H2.out]; simp [e1, q2]
              have tq : decide (q ≤ 10) = false := decide_eq_false q2
              clear H1 H2 HBB e1 e3 e4 q2
              refine quiet_held (by kernel_rfl) (by kernel_rfl) ?_
              repeat (go_big_quiet_step ((first | (go_at_call 20; refine (HBI64.out _).mono ?_; rintro e w2 ⟨rfl, hbu⟩; exact ⟨rfl, ⟨w2, HB.call (HW.ok _) hbu⟩, rfl⟩) | (go_at_call 17; refine (HBI32.out _).mono ?_; rintro e w2 ⟨rfl, hbu⟩; exact ⟨rfl, ⟨w2, HB.call (HW.ok _) hbu⟩, rfl⟩))))
              refine wpQuiet_nil ?_
              rintro _ ⟨x, rfl⟩
              go_wp2
              go_ret
              exact ⟨rfl, bt HPK.out.below x.ok⟩
          · obtain rfl : bb = false := by rw [HBB.out, H1.out, H2.out]; simp [e1, q1]
            have tq : decide (-10 ≤ q) = false := decide_eq_false q1
            clear H1 H2 HBB e1 e3 e4 q1
            refine quiet_held (by kernel_rfl) (by kernel_rfl) ?_
            repeat (go_big_quiet_step ((first | (go_at_call 20; refine (HBI64.out _).mono ?_; rintro e w2 ⟨rfl, hbu⟩; exact ⟨rfl, ⟨w2, HB.call (HW.ok _) hbu⟩, rfl⟩) | (go_at_call 17; refine (HBI32.out _).mono ?_; rintro e w2 ⟨rfl, hbu⟩; exact ⟨rfl, ⟨w2, HB.call (HW.ok _) hbu⟩, rfl⟩))))
            refine wpQuiet_nil ?_
            rintro _ ⟨x, rfl⟩
            go_wp2
            go_ret
            exact ⟨rfl, bt HPK.out.below x.ok⟩
        · obtain rfl : bb = false := by rw [HBB.out, H1.out, H2.out]; simp [e1, m1]
          have tm : decide ((man : Int) ≤ 16777216) = false := decide_eq_false (by omega)
          clear H1 H2 HBB e1 e3 e4 m1
          refine quiet_held (by kernel_rfl) (by kernel_rfl) ?_
          repeat (go_big_quiet_step ((first | (go_at_call 20; refine (HBI64.out _).mono ?_; rintro e w2 ⟨rfl, hbu⟩; exact ⟨rfl, ⟨w2, HB.call (HW.ok _) hbu⟩, rfl⟩) | (go_at_call 17; refine (HBI32.out _).mono ?_; rintro e w2 ⟨rfl, hbu⟩; exact ⟨rfl, ⟨w2, HB.call (HW.ok _) hbu⟩, rfl⟩))))
          refine wpQuiet_nil ?_
          rintro _ ⟨x, rfl⟩
          go_wp2
          go_ret
          exact ⟨rfl, bt HPK.out.below x.ok⟩
      · obtain rfl : bb = false := by rw [HBB.out, H1.out, H2.out]; simp [e1, e4]
        have tM : ((M : Int) == 23) = false := by rw [beq_eq_false_iff_ne]; omega
        clear H1 H2 HBB e1 e3 e4
        refine quiet_held (by kernel_rfl) (by kernel_rfl) ?_
        repeat (go_big_quiet_step ((first | (go_at_call 20; refine (HBI64.out _).mono ?_; rintro e w2 ⟨rfl, hbu⟩; exact ⟨rfl, ⟨w2, HB.call (HW.ok _) hbu⟩, rfl⟩) | (go_at_call 17; refine (HBI32.out _).mono ?_; rintro e w2 ⟨rfl, hbu⟩; exact ⟨rfl, ⟨w2, HB.call (HW.ok _) hbu⟩, rfl⟩))))
        refine wpQuiet_nil ?_
        rintro _ ⟨x, rfl⟩
        go_wp2
        go_ret
        exact ⟨rfl, bt HPK.out.below x.ok⟩
    · obtain rfl : bb = false := by rw [HBB.out, H1.out, H2.out]; simp [e1, e3]
      have tE8 : ((E : Int) == 8) = false := by rw [beq_eq_false_iff_ne]; omega
      clear H1 H2 HBB e1 e3
      refine quiet_held (by kernel_rfl) (by kernel_rfl) ?_
      repeat (go_big_quiet_step ((first | (go_at_call 20; refine (HBI64.out _).mono ?_; rintro e w2 ⟨rfl, hbu⟩; exact ⟨rfl, ⟨w2, HB.call (HW.ok _) hbu⟩, rfl⟩) | (go_at_call 17; refine (HBI32.out _).mono ?_; rintro e w2 ⟨rfl, hbu⟩; exact ⟨rfl, ⟨w2, HB.call (HW.ok _) hbu⟩, rfl⟩))))
      refine wpQuiet_nil ?_
      rintro _ ⟨x, rfl⟩
      go_wp2
      go_ret
      exact ⟨rfl, bt HPK.out.below x.ok⟩
end Go.Proofs.Ygcoaf
