/-
  lemire.Lemire: what it computes; its first steps.
-/
import Derived.Test.YgcoafL11
import Derived.Test.YgcoafL3
import Derived.Test.YgcoafW14
namespace Go.Proofs.Ygcoaf
open Go.RowKit Go.Proofs.Ygcoaf.M

/-- the two formats -/
def servB (E M : Nat) : Bool := (decide (E = 11) && decide (M = 52)) || (decide (E = 8) && decide (M = 23))
theorem serv_bd {E M : Nat} (h : servB E M = true) : 2 ≤ E ∧ E ≤ 11 ∧ 2 ≤ M ∧ M ≤ 52 := by
  unfold servB at h
  simp at h
  omega
def ld (man : Nat) : Nat := 63 - man.log2
def wv (man : Nat) : Nat := man * 2 ^ ld man
def lex (man : Nat) (q : Int) : Int := entX q - (ld man : Int)
def slk (man : Nat) (q : Int) : Nat := if 0 ≤ q ∧ q ≤ 55 then 0 else wv man
def pA (E M man : Nat) (q : Int) : Nat := patV E M (wv man * entH q * 18446744073709551616) (lex man q)
def pB (E M man : Nat) (q : Int) : Nat := patV E M (wv man * (entH q + 1) * 18446744073709551616) (lex man q)
def pL (E M man : Nat) (q : Int) : Nat := patV E M (wv man * entT q) (lex man q)
def pU (E M man : Nat) (q : Int) : Nat := patV E M (wv man * entT q + slk man q) (lex man q)
def lemV (E M man : Nat) (q : Int) : Nat :=
  if servB E M = false then 0 else if man = 0 ∨ q < -348 then 0 else if 347 < q then infR E M else if pA E M man q = pB E M man q then pA E M man q else if pL E M man q = pU E M man q then pL E M man q else 0
def lemO (E M man : Nat) (q : Int) : Bool :=
  if servB E M = false then false else if man = 0 ∨ q < -348 then true else if 347 < q then true else if pA E M man q = pB E M man q then true else if pL E M man q = pU E M man q then true else false

theorem wv_bd {man : Nat} (h0 : man ≠ 0) (h : man < 18446744073709551616) : 9223372036854775808 ≤ wv man ∧ wv man < 18446744073709551616 ∧ man.log2 ≤ 63 := by
  have h1 := log2_le man h0
  have h2 := lt_log2 man
  have h3 : man.log2 ≤ 63 := by
    have : man.log2 < 64 := (Nat.log2_lt h0).2 h
    omega
  unfold wv ld
  refine ⟨?_, ?_, h3⟩
  · calc 9223372036854775808 = 2 ^ man.log2 * 2 ^ (63 - man.log2) := by rw [← Nat.pow_add, show man.log2 + (63 - man.log2) = 63 by omega]
      _ ≤ _ := Nat.mul_le_mul_right _ h1
  · calc man * 2 ^ (63 - man.log2) < 2 ^ (man.log2 + 1) * 2 ^ (63 - man.log2) := Nat.mul_lt_mul_of_pos_right h2 (Nat.two_pow_pos _)
      _ = 18446744073709551616 := by rw [← Nat.pow_add, show man.log2 + 1 + (63 - man.log2) = 64 by omega]

/-- a block of two cells -/
structure Bx (w : World) (R : Nat) (a b : Value) : Prop where
  c0 : w.cell? ⟨R, 0, none⟩ = some a
  c1 : w.cell? ⟨R, 1, none⟩ = some b
  f0 : w.frozen? ⟨R, 0, none⟩ = false
  f1 : w.frozen? ⟨R, 1, none⟩ = false
theorem Bx.in {w : World} {R : Nat} {a b : Value} (s : Bx w R a b) : R < w.heap.size := World.block_lt_of_cell? _ _ s.c0
theorem Bx.call {w w' : World} {R : Nat} {a b : Value} (s : Bx w R a b) (h : Below w.heap.size w w') : Bx w' R a b := by
  obtain ⟨hc, hf⟩ := bcell h
  have hl := s.in
  exact ⟨by rw [hc _ _ hl]; exact s.c0, by rw [hc _ _ hl]; exact s.c1, by rw [hf _ _ hl]; exact s.f0, by rw [hf _ _ hl]; exact s.f1⟩
theorem Bx.new (w : World) (a b : Value) (t : TypeId) : Bx (w.alloc (.cells #[a, b] t)) w.heap.size a b := by
  refine ⟨?_, ?_, ?_, ?_⟩ <;> simp [go_sem]
theorem Bx.far {w : World} {R : Nat} {a b : Value} (s : Bx w R a b) (P o : Nat) (v : Value) (h : P ≠ R) : Bx (w.setCell ⟨P, o, none⟩ v) R a b :=
  ⟨by rw [World.cell?_setCell_far _ _ _ _ h]; exact s.c0, by rw [World.cell?_setCell_far _ _ _ _ h]; exact s.c1, by rw [World.frozen?_setCell]; exact s.f0, by rw [World.frozen?_setCell]; exact s.f1⟩
theorem Bx.put {w : World} {R : Nat} {a b : Value} (s : Bx w R a b) (u v : Value) : Bx ((w.setCell ⟨R, 0, none⟩ u).setCell ⟨R, 1, none⟩ v) R u v := by
  obtain ⟨y0, y1⟩ := set2_cells (u0 := u) (u1 := v) s.c0 s.c1
  exact ⟨y0, y1, by rw [World.frozen?_setCell, World.frozen?_setCell]; exact s.f0, by rw [World.frozen?_setCell, World.frozen?_setCell]; exact s.f1⟩
theorem Bx.put1 {w : World} {R : Nat} {a b : Value} (s : Bx w R a b) (v : Value) : Bx (w.setCell ⟨R, 1, none⟩ v) R a v :=
  ⟨by rw [World.cell?_setCell_other _ _ _ _ (fun h => absurd (congrArg Addr.off h) (by show ¬ ((1 : Nat) = 0); decide))]; exact s.c0, World.cell?_setCell_same _ _ _ s.c1, by rw [World.frozen?_setCell]; exact s.f0, by rw [World.frozen?_setCell]; exact s.f1⟩

theorem three_two {a b c N : Nat} (h : two a b = N) : three a b c = N * 18446744073709551616 + c := by unfold three; unfold two at h; rw [h]
theorem two_hi {a b N : Nat} (h : two a b = N) (hb : b < 18446744073709551616) (hN : 85070591730234615865843651857942052864 ≤ N) : 4611686018427387904 ≤ a := by unfold two at h; omega
/-- the products' bounds -/
theorem mul_bds {w e : Nat} (h1 : 9223372036854775808 ≤ w) (h2 : w < 18446744073709551616) (h3 : 9223372036854775808 ≤ e) (h4 : e < 18446744073709551616) : 85070591730234615865843651857942052864 ≤ w * e ∧ w * e + w < 340282366920938463463374607431768211456 := by
  have a : 9223372036854775808 * 9223372036854775808 ≤ w * e := Nat.mul_le_mul h1 h3
  have b : w * (e + 1) ≤ 18446744073709551615 * 18446744073709551616 := Nat.mul_le_mul (by omega) (by omega)
  rw [Nat.mul_succ] at b
  omega
theorem sum_nl' (B : Nat) {N1 N2 k1 k0 : Nat} (h : k1 * B + k0 = N2) : (N1 + k1) * B + k0 = N1 * B + N2 := by
  rw [Nat.add_mul]; omega
theorem sum_nu' (B : Nat) {N1 N2 k1 k0 l1 l0 sl : Nat} (h : k1 * B + k0 = N2) (h2 : l1 * B + l0 = k0 + sl) : (N1 + k1 + l1) * B + l0 = N1 * B + N2 + sl := by
  rw [Nat.add_mul, Nat.add_mul]; omega
theorem sum_nl {N1 N2 k1 k0 : Nat} (h : k1 * 18446744073709551616 + k0 = N2) : (N1 + k1) * 18446744073709551616 + k0 = N1 * 18446744073709551616 + N2 := sum_nl' _ h
theorem sum_nu {N1 N2 k1 k0 l1 l0 sl : Nat} (h : k1 * 18446744073709551616 + k0 = N2) (h2 : l1 * 18446744073709551616 + l0 = k0 + sl) : (N1 + k1 + l1) * 18446744073709551616 + l0 = N1 * 18446744073709551616 + N2 + sl := sum_nu' _ h h2
theorem sum_low {l1 l0 k0 sl : Nat} (h : two l1 l0 = (two 0 k0 + two 0 sl) % 340282366920938463463374607431768211456) (h1 : k0 < 18446744073709551616) (h2 : sl < 18446744073709551616) : l1 * 18446744073709551616 + l0 = k0 + sl := by
  unfold two at h; omega
theorem sum_fit {N1 wn N2 k1 k0 l1 l0 sl : Nat} (hN : N1 + wn < 340282366920938463463374607431768211456) (hk : k1 < wn ∨ k1 = 0) (hw : wn < 18446744073709551616) (hw1 : 9223372036854775808 ≤ wn) (hk0 : k0 < 18446744073709551616) (hs : sl ≤ wn) (h : k1 * 18446744073709551616 + k0 = N2) (h2 : l1 * 18446744073709551616 + l0 = k0 + sl) : N1 + k1 + l1 < 340282366920938463463374607431768211456 := by omega
theorem mul_low {w l c1 c0 : Nat} (h2 : w < 18446744073709551616) (hl : l < 18446744073709551616) (h : two c1 c0 = w * l) : c1 < w ∨ c1 = 0 := by
  unfold two at h
  rcases Nat.eq_zero_or_pos w with z | z
  · subst z; rw [Nat.zero_mul] at h; omega
  · left
    have : w * l < w * 18446744073709551616 := Nat.mul_lt_mul_of_pos_left hl z
    rcases Nat.lt_or_ge c1 w with c | c
    · exact c
    · have := Nat.mul_le_mul_right 18446744073709551616 c
      omega

set_option maxRecDepth 8000 in
set_option maxHeartbeats 4000000 in
/-- lemire.Lemire -/
theorem lemire_any {w : World} {R : Nat} {H L : Nat → Nat} {X : Nat → Int} (t : TV w R H L X) (hRi : Right H L X) (E M man : Nat) (q : Int) (hman : man < 18446744073709551616) (hq : -32768 ≤ q ∧ q ≤ 32767) :
    Calls Oafg.prog 140 #[.pointer (some ⟨R, 0, none⟩), .agg #[.int .u8 E, .int .u8 M], .int .u64 man, .int .i16 q] w fun e w' => e = .returned (.tuple #[.int .u64 (lemV E M man q : Nat), .bool (lemO E M man q)]) ∧ Below w.heap.size w w' := by
  obtain ⟨V, hV⟩ : ∃ V, V = lemV E M man q := ⟨_, rfl⟩
  obtain ⟨O, hO⟩ : ∃ O, O = lemO E M man q := ⟨_, rfl⟩
  rw [← hV, ← hO]
  have HV : Hid _ := hV
  have HO : Hid _ := hO
  have HT : Hid _ := t
  have HRi : Hid _ := hRi
  have HBI64 : Hid _ := fun ww => binary64_any ww
  have HBI32 : Hid _ := fun ww => binary32_any ww
  obtain ⟨sv, hsv⟩ : ∃ sv, sv = servB E M := ⟨_, rfl⟩
  have Hsv : Hid _ := hsv
  clear hV hO t hRi hsv
  go_enter Oafg.func140, Oafg.ntmps140
  go_upto_region 1 with fail
  have hFS : FS w w.heap.size E M (w.alloc (.cells #[.int .u8 E, .int .u8 M] 27)) := FS.start
  generalize hW : w.alloc (.cells #[.int .u8 E, .int .u8 M] 27) = W at hFS ⊢
  obtain ⟨R5, hR5⟩ : ∃ R, R = w.heap.size := ⟨_, rfl⟩
  simp only [← hR5]
  have HFS : Hid (FS w R5 E M W) := by rw [hR5]; exact hFS
  clear hFS hW hR5
  go_cut [22] (fun t w' => t = .bool (!sv) ∧ Hid (FS w R5 E M w'))
  case first =>
    have hwne := HW.ne W
    have x0 : ∀ x : HW W, x.val.cell? ⟨R5, 0, none⟩ = some (.int .u8 E) := fun x => (HFS.out.call x.ok).cE
    have x1 : ∀ x : HW W, x.val.cell? ⟨R5, 1, none⟩ = some (.int .u8 M) := fun x => (HFS.out.call x.ok).cM
    have go1 : True := trivial
    by_cases e1 : E = 11
    · have tE : ((E : Int) == 11) = true := by rw [beq_iff_eq]; omega
      by_cases e2 : M = 52
      · have tM : ((M : Int) == 52) = true := by rw [beq_iff_eq]; omega
        obtain rfl : sv = true := by rw [Hsv.out]; simp [servB, e1, e2]
        clear e1 e2
        refine quiet_held (by kernel_rfl) (by kernel_rfl) ?_
        repeat (go_big_quiet_step ((go_at_call 20; refine (HBI64.out _).mono ?_; rintro e w2 ⟨rfl, hbu⟩; exact ⟨rfl, ⟨w2, HB.call (HW.ok _) hbu⟩, rfl⟩)))
        refine wpQuiet_nil ?_
        rintro _ ⟨x, rfl⟩
        go_wp2_with fail
        go_meet
        case rel => exact ⟨rfl, HFS.out.call x.ok⟩
      · have tM : ((M : Int) == 52) = false := by rw [beq_eq_false_iff_ne]; omega
        have t8 : ((E : Int) == 8) = false := by rw [beq_eq_false_iff_ne]; omega
        obtain rfl : sv = false := by rw [Hsv.out]; simp [servB, e1, e2]
        clear e1 e2
        refine quiet_held (by kernel_rfl) (by kernel_rfl) ?_
        repeat (go_big_quiet_step (first
          | (go_at_call 20; refine (HBI64.out _).mono ?_; rintro e w2 ⟨rfl, hbu⟩; exact ⟨rfl, ⟨w2, HB.call (HW.ok _) hbu⟩, rfl⟩)
          | (go_at_call 17; refine (HBI32.out _).mono ?_; rintro e w2 ⟨rfl, hbu⟩; exact ⟨rfl, ⟨w2, HB.call (HW.ok _) hbu⟩, rfl⟩)))
        refine wpQuiet_nil ?_
        rintro _ ⟨x, rfl⟩
        go_wp2_with fail
        go_meet
        case rel => exact ⟨rfl, HFS.out.call x.ok⟩
    · have tE : ((E : Int) == 11) = false := by rw [beq_eq_false_iff_ne]; omega
      by_cases e3 : E = 8
      · have t8 : ((E : Int) == 8) = true := by rw [beq_iff_eq]; omega
        by_cases e4 : M = 23
        · have tM : ((M : Int) == 23) = true := by rw [beq_iff_eq]; omega
          obtain rfl : sv = true := by rw [Hsv.out]; simp [servB, e3, e4]
          clear e1 e3 e4
          refine quiet_held (by kernel_rfl) (by kernel_rfl) ?_
          repeat (go_big_quiet_step (first
            | (go_at_call 20; refine (HBI64.out _).mono ?_; rintro e w2 ⟨rfl, hbu⟩; exact ⟨rfl, ⟨w2, HB.call (HW.ok _) hbu⟩, rfl⟩)
            | (go_at_call 17; refine (HBI32.out _).mono ?_; rintro e w2 ⟨rfl, hbu⟩; exact ⟨rfl, ⟨w2, HB.call (HW.ok _) hbu⟩, rfl⟩)))
          refine wpQuiet_nil ?_
          rintro _ ⟨x, rfl⟩
          go_wp2_with fail
          go_meet
          case rel => exact ⟨rfl, HFS.out.call x.ok⟩
        · have tM : ((M : Int) == 23) = false := by rw [beq_eq_false_iff_ne]; omega
          obtain rfl : sv = false := by rw [Hsv.out]; simp [servB, e3, e4]
          clear e1 e3 e4
          refine quiet_held (by kernel_rfl) (by kernel_rfl) ?_
          repeat (go_big_quiet_step (first
            | (go_at_call 20; refine (HBI64.out _).mono ?_; rintro e w2 ⟨rfl, hbu⟩; exact ⟨rfl, ⟨w2, HB.call (HW.ok _) hbu⟩, rfl⟩)
            | (go_at_call 17; refine (HBI32.out _).mono ?_; rintro e w2 ⟨rfl, hbu⟩; exact ⟨rfl, ⟨w2, HB.call (HW.ok _) hbu⟩, rfl⟩)))
          refine wpQuiet_nil ?_
          rintro _ ⟨x, rfl⟩
          go_wp2_with fail
          go_meet
          case rel => exact ⟨rfl, HFS.out.call x.ok⟩
      · have t8 : ((E : Int) == 8) = false := by rw [beq_eq_false_iff_ne]; omega
        obtain rfl : sv = false := by rw [Hsv.out]; simp [servB, e1, e3]
        clear e1 e3
        refine quiet_held (by kernel_rfl) (by kernel_rfl) ?_
        repeat (go_big_quiet_step (first
          | (go_at_call 20; refine (HBI64.out _).mono ?_; rintro e w2 ⟨rfl, hbu⟩; exact ⟨rfl, ⟨w2, HB.call (HW.ok _) hbu⟩, rfl⟩)
          | (go_at_call 17; refine (HBI32.out _).mono ?_; rintro e w2 ⟨rfl, hbu⟩; exact ⟨rfl, ⟨w2, HB.call (HW.ok _) hbu⟩, rfl⟩)))
        refine wpQuiet_nil ?_
        rintro _ ⟨x, rfl⟩
        go_wp2_with fail
        go_meet
        case rel => exact ⟨rfl, HFS.out.call x.ok⟩
  case rest =>
    obtain ⟨rfl, hK⟩ := hcut
    have hVV := HV.out
    have hOO := HO.out
    unfold lemV at hVV
    unfold lemO at hOO
    rw [← Hsv.out] at hVV hOO
    cases sv
    · rw [if_pos rfl] at hVV hOO
      subst hVV hOO
      clear HV HO
      go_wp2
      go_ret2
      exact ⟨rfl, hK.out.below⟩
    rw [if_neg (by decide)] at hVV hOO
    obtain ⟨h1, h2, h3, h4⟩ := serv_bd Hsv.out.symm
    by_cases m0 : man = 0
    · rw [if_pos (Or.inl m0)] at hVV hOO
      subst hVV hOO m0
      clear HV HO
      go_wp2
      go_ret2
      exact ⟨rfl, hK.out.below⟩
    have m1 : ((man : Int) == 0) = false := by rw [beq_eq_false_iff_ne]; omega
    by_cases q0 : q < -348
    · rw [if_pos (Or.inr q0)] at hVV hOO
      subst hVV hOO
      clear HV HO
      go_wp2
      go_ret2
      exact ⟨rfl, hK.out.below⟩
    rw [if_neg (by omega)] at hVV hOO
    have c0 := hK.out.cE
    have c1 := hK.out.cM
    by_cases q1 : 347 < q
    · rw [if_pos q1] at hVV hOO
      have HI : Hid _ := fun ww => inf_yes h1 h2 h3 h4 false ww
      have eI : infR E M + sgn E M false = infR E M := by simp [sgn]
      rw [eI, ← hVV] at HI
      subst hOO
      clear HV HO hVV eI
      go_wp2_with (go_at_call 112; refine (HI.out _).mono ?_; rintro e w2 ⟨rfl, hb2⟩)
      go_ret2
      exact ⟨rfl, bt hK.out.below hb2⟩
    rw [if_neg q1] at hVV hOO
    have HVV : Hid _ := hVV
    have HOO : Hid _ := hOO
    clear HV HO hVV hOO HFS
    obtain ⟨i, hi⟩ : ∃ i : Nat, q + 348 = (i : Int) := ⟨(q + 348).toNat, by omega⟩
    have hi6 : i < 696 := by omega
    have hqi : (i : Int) - 348 = q := by omega
    obtain ⟨f1, f2, f3, f4⟩ := HRi.out i hi6
    rw [hqi] at f2 f3 f4
    rw [f2, f3, f4] at f1
    have hAt := fun (ww : World) (hb : Below w.heap.size w ww) => tabAt_any (HT.out.call hb) q i hi hi6
    rw [f2, f3, f4] at hAt
    have hE := ent_hl (q := q) (by omega) (by omega)
    have hEn := ent_is q (by omega) (by omega)
    have HFit := fun ww => fits_any (entH q) (entL q) (entX q) hE.2.2.1 ww
    rw [f1] at HFit
    have hxb := hEn.xb
    obtain ⟨EH, hEH⟩ : ∃ EH, EH = entH q := ⟨_, rfl⟩
    obtain ⟨EL, hEL⟩ : ∃ EL, EL = entL q := ⟨_, rfl⟩
    obtain ⟨EX, hEX⟩ : ∃ EX, EX = entX q := ⟨_, rfl⟩
    rw [← hEH, ← hEL, ← hEX] at HFit hAt
    rw [← hEH, ← hEL] at hE
    rw [← hEX] at hxb
    have HAt : Hid _ := hAt
    have HFi : Hid _ := HFit
    obtain ⟨hE0, hE1, hE2, hE3⟩ := hE
    have HE0 : Hid _ := hE0
    have HEH : Hid _ := hEH
    have HEX : Hid _ := hEX
    obtain ⟨hw1, hw2, hw3⟩ := wv_bd m0 hman
    have HCl : Hid _ := fun ww => clz_pos man hman (by omega) ww
    obtain ⟨lz, hlz⟩ : ∃ lz, lz = 63 - man.log2 := ⟨_, rfl⟩
    rw [← hlz] at HCl
    have hld : ld man = lz := hlz.symm
    obtain ⟨wn, hwn⟩ : ∃ wn, wn = wv man := ⟨_, rfl⟩
    rw [← hwn] at hw1 hw2
    have g1 : (man : Int) * 2 ^ lz = (wn : Int) := by rw [hwn]; unfold wv; rw [hld]; simp
    obtain ⟨ex, hex⟩ : ∃ ex, EX - (lz : Int) = ex := ⟨_, rfl⟩
    have hlex : lex man q = ex := by unfold lex; rw [hld, ← hEX, hex]
    have hlz2 : lz ≤ 63 := by omega
    have hexb : -1700 ≤ ex ∧ ex ≤ 1400 := by omega
    have Hwn : Hid _ := hwn
    have Hlex : Hid _ := hlex
    clear hAt HFit f1 f2 f3 f4 hEn hEH hEL hEX hE0 hwn hlex hld hlz hqi HRi HT hi hi6 HBI64 HBI32
    go_upto_region 8 with (go_at_call 185; refine (HAt.out _ hK.out.below).mono ?_; rintro e w3 ⟨rfl, hb3⟩; have HK3 : Hid _ := hK.out.call hb3; clear hb3)
    have HB10 : Hid _ := Bx.new w3 (.int .u64 EH) (.int .u64 EL) 111
    have HK4 : Hid _ := HK3.out.call (self1 (o := .cells #[.int .u64 EH, .int .u64 EL] 111))
    generalize hW4 : w3.alloc (.cells #[.int .u64 EH, .int .u64 EL] 111) = W4 at *
    obtain ⟨R10, hR10⟩ : ∃ R, R = w3.heap.size := ⟨_, rfl⟩
    simp only [← hR10]
    rw [← hR10] at HB10
    have c0 := HB10.out.c0
    have c1 := HB10.out.c1
    clear HK3 hW4 hR10 hK HAt
    go_upto_region 13 with (first
      | (go_at_call 138; refine (HFi.out _).mono ?_; rintro e w5 ⟨rfl, hb5⟩; have HK5 : Hid _ := HK4.out.call hb5; have HB105 : Hid _ := HB10.out.call hb5; clear hb5)
      | (go_at_call 172; refine (HCl.out _).mono ?_; rintro e w6 ⟨rfl, hw⟩; subst hw))
    clear HK4 HB10 c0 c1 HFi HCl
    obtain ⟨sl, hsl⟩ : ∃ sl, sl = slk man q := ⟨_, rfl⟩
    have Hsl : Hid _ := hsl
    have hsl9 : sl = if 0 ≤ q ∧ q ≤ 55 then 0 else wn := by rw [hsl, Hwn.out]; rfl
    clear hsl
    go_upto_region 14 with fail
    have HB15 : Hid _ := Bx.new w5 (.int .u64 0) (.int .u64 wn) 111
    have HK6 : Hid _ := HK5.out.call (self1 (o := .cells #[.int .u64 0, .int .u64 wn] 111))
    have HB106 : Hid _ := HB105.out.call (self1 (o := .cells #[.int .u64 0, .int .u64 wn] 111))
    obtain ⟨R15, hR15⟩ : ∃ R, R = w5.heap.size := ⟨_, rfl⟩
    have Hn15 : Hid (R15 ≠ R10 ∧ R15 ≠ R5) := by
      show _ ∧ _
      have a := HB105.out.in
      have b := World.block_lt_of_cell? _ _ HK5.out.cE
      simp only at b
      omega
    have Ho15 : Hid (w.heap.size ≤ R15) := by show _ ≤ _; rw [hR15]; exact HK5.out.below.size
    generalize hW6 : w5.alloc (.cells #[.int .u64 0, .int .u64 wn] 111) = W6 at *
    simp only [← hR15]
    rw [← hR15] at HB15
    have c0 := HB15.out.c0
    have c1 := HB15.out.c1
    have c2 := HB15.out.f1
    clear HK5 HB105 hW6 hR15
    obtain ⟨bb, hbb⟩ : ∃ bb, bb = decide (0 ≤ q ∧ q ≤ 55) := ⟨_, rfl⟩
    have Hbb : Hid _ := hbb
    clear hbb
    go_cut [74] (fun t74 w' => t74 = .bool bb ∧ w' = W6)
    case first =>
      by_cases a0 : 0 ≤ q
      · by_cases a1 : q ≤ 55
        · have e9 : bb = true := by rw [Hbb.out]; simp [a0, a1]
          go_wp2_with fail
          go_meet
          case rel => exact ⟨by rw [e9], rfl⟩
        · have e9 : bb = false := by rw [Hbb.out]; simp [a1]
          go_wp2_with fail
          go_meet
          case rel => exact ⟨by rw [e9], rfl⟩
      · have e9 : bb = false := by rw [Hbb.out]; simp [a0]
        go_wp2_with fail
        go_meet
        case rel => exact ⟨by rw [e9], rfl⟩
    case rest =>
      obtain ⟨rfl, hw⟩ := hcut
      subst hw
      go_upto_if 74 with fail
      go_cut [75] (fun _ w' => Hid (FS w R5 E M w' ∧ Bx w' R10 (.int .u64 EH) (.int .u64 EL) ∧ Bx w' R15 (.int .u64 0) (.int .u64 sl)))
      case first =>
        cases bb
        · have e9 : sl = wn := by rw [hsl9, if_neg (by have := Hbb.out; simp at this; omega)]
          go_wp2_with fail
          go_meet
          case rel => exact ⟨HK6.out, HB106.out, by rw [e9]; exact HB15.out⟩
        · have e9 : sl = 0 := by rw [hsl9, if_pos (by have := Hbb.out; simp at this; omega)]
          have h15 := HB15.out.put1 (.int .u64 0)
          have h10 := HB106.out.far R15 1 (.int .u64 0) Hn15.out.1
          have hK7 : FS w R5 E M (wc.setCell ⟨R15, 1, none⟩ (.int .u64 0)) := by
            have k := HK6.out
            exact ⟨k.below.setCell (p := ⟨R15, 1, none⟩) Ho15.out _, by rw [World.cell?_setCell_far _ _ _ _ (by show R15 ≠ R5; exact Hn15.out.2)]; exact k.cE, by rw [World.cell?_setCell_far _ _ _ _ (by show R15 ≠ R5; exact Hn15.out.2)]; exact k.cM⟩
          have hh : Hid (FS w R5 E M (wc.setCell ⟨R15, 1, none⟩ (.int .u64 0)) ∧ Bx (wc.setCell ⟨R15, 1, none⟩ (.int .u64 0)) R10 (.int .u64 EH) (.int .u64 EL) ∧ Bx (wc.setCell ⟨R15, 1, none⟩ (.int .u64 0)) R15 (.int .u64 0) (.int .u64 sl)) := ⟨hK7, h10, by rw [e9]; exact h15⟩
          clear h15 h10 hK7 e9
          go_wp2_with fail
          go_meet
          case rel => exact hh
      case rest =>
        have HS := hcut
        clear hcut HB15 HK6 HB106 c0 c1 c2 Hbb Hn15 Ho15 hsl9
        obtain ⟨N1, hN1⟩ : ∃ N1, N1 = wn * EH := ⟨_, rfl⟩
        obtain ⟨N2, hN2⟩ : ∃ N2, N2 = wn * EL := ⟨_, rfl⟩
        obtain ⟨hNa, hNb⟩ := mul_bds hw1 hw2 hE1 hE2
        rw [← hN1] at hNa hNb
        have HM1 : Hid _ := fun ww => mul64_any wn EH hw2 hE2 ww
        have HM2 : Hid _ := fun ww => mul64_any wn EL hw2 hE3 ww
        rw [← hN1] at HM1
        rw [← hN2] at HM2
        have HN1 : Hid _ := hN1
        have HN2 : Hid _ := hN2
        have hsl2 : sl < 18446744073709551616 := by
          rw [Hsl.out]; unfold slk; split
          · decide
          · rw [← Hwn.out]; exact hw2
        have hsl3 : sl ≤ wn := by
          rw [Hsl.out]; unfold slk; split
          · omega
          · rw [← Hwn.out]; exact Nat.le_refl _
        have HPat : Hid (∀ a1 a0 low : Nat, 4611686018427387904 ≤ a1 → a1 < 18446744073709551616 → a0 < 18446744073709551616 → low < 18446744073709551616 → ∀ ww, Calls Oafg.prog 186 #[.agg #[.int .u8 E, .int .u8 M], .agg #[.int .u64 a1, .int .u64 a0], .int .u64 low, .int .i16 ex] ww fun r w' => r = .returned (.int .u64 (patV E M (three a1 a0 low) ex : Nat)) ∧ Below ww.heap.size ww w') :=
          fun a1 a0 low g1 g2 g3 g4 ww => patt_any h1 h2 h3 h4 a1 a0 low ex g1 g2 g3 g4 (by omega) (by omega) ww
        have c0 := HS.out.2.1.c0
        have c1 := HS.out.2.1.c1
        clear hN1 hN2
        go_upto_region 17 with (go_at_call 155; refine (HM1.out _).mono ?_; rintro e w7 ⟨⟨a1, a0, rfl, ha, ha1, ha0⟩, hb7⟩; have HB7 : Hid _ := hb7; clear hb7)
        have HK7 : Hid _ := (HS.out.1.call HB7.out).call (self1 (o := .cells #[.int .u64 a1, .int .u64 a0] 111))
        have HB10 : Hid _ := (HS.out.2.1.call HB7.out).call (self1 (o := .cells #[.int .u64 a1, .int .u64 a0] 111))
        have HB15 : Hid _ := (HS.out.2.2.call HB7.out).call (self1 (o := .cells #[.int .u64 a1, .int .u64 a0] 111))
        have HB16 : Hid _ := Bx.new w7 (.int .u64 a1) (.int .u64 a0) 111
        obtain ⟨R16, hR16⟩ : ∃ R, R = w7.heap.size := ⟨_, rfl⟩
        have Hn16 : Hid ((R16 ≠ R10 ∧ R16 ≠ R5 ∧ R16 ≠ R15) ∧ w.heap.size ≤ R16) := by
          show _ ∧ _
          have b := (HS.out.2.1.call HB7.out).in
          have c := (HS.out.2.2.call HB7.out).in
          have d := World.block_lt_of_cell? _ _ (HS.out.1.call HB7.out).cE
          simp only at d
          exact ⟨⟨by omega, by omega, by omega⟩, by rw [hR16]; exact (HS.out.1.call HB7.out).below.size⟩
        generalize hW7 : w7.alloc (.cells #[.int .u64 a1, .int .u64 a0] 111) = W7 at *
        simp only [← hR16]
        rw [← hR16] at HB16
        have d0 := HB16.out.c0
        have d1 := HB16.out.c1
        have Ha : Hid _ := ha
        clear hW7 hR16 HB7 HS c0 c1 HM1 ha
        have HAd1 : Hid _ := fun ww => wadd_any a1 a0 0 wn ha0 hw2 ww
        go_upto_region 18 with (go_at_call 156; refine (HAd1.out _).mono ?_; rintro e w8 ⟨⟨b1, b0, bb1, rfl, hb, hb1, hb0⟩, hb8⟩; have HB8 : Hid _ := hb8; clear hb8)
        have HK8 : Hid _ := (HK7.out.call HB8.out).call (self1 (o := .cells #[.int .u64 b1, .int .u64 b0] 111))
        have HB108 : Hid _ := (HB10.out.call HB8.out).call (self1 (o := .cells #[.int .u64 b1, .int .u64 b0] 111))
        have HB158 : Hid _ := (HB15.out.call HB8.out).call (self1 (o := .cells #[.int .u64 b1, .int .u64 b0] 111))
        have HB168 : Hid _ := (HB16.out.call HB8.out).call (self1 (o := .cells #[.int .u64 b1, .int .u64 b0] 111))
        have HB17 : Hid _ := Bx.new w8 (.int .u64 b1) (.int .u64 b0) 111
        obtain ⟨R17, hR17⟩ : ∃ R, R = w8.heap.size := ⟨_, rfl⟩
        have Hn17 : Hid ((R17 ≠ R16 ∧ R17 ≠ R10 ∧ R17 ≠ R5 ∧ R17 ≠ R15) ∧ w.heap.size ≤ R17) := by
          show _ ∧ _
          have a := (HB16.out.call HB8.out).in
          have b := (HB10.out.call HB8.out).in
          have c := (HB15.out.call HB8.out).in
          have d := World.block_lt_of_cell? _ _ (HK7.out.call HB8.out).cE
          simp only at d
          exact ⟨⟨by omega, by omega, by omega, by omega⟩, by rw [hR17]; exact (HK7.out.call HB8.out).below.size⟩
        generalize hW8 : w8.alloc (.cells #[.int .u64 b1, .int .u64 b0] 111) = W8 at *
        simp only [← hR17]
        rw [← hR17] at HB17
        have hbN : two b1 b0 = N1 + wn := by
          rw [hb, Ha.out]; unfold two; rw [Nat.zero_mul, Nat.zero_add]; exact Nat.mod_eq_of_lt hNb
        have g62 := two_hi Ha.out ha0 hNa
        have h62 := two_hi hbN hb0 (by omega)
        have HPa : Hid _ := fun ww => HPat.out a1 a0 0 g62 ha1 ha0 (by decide) ww
        have HPb : Hid _ := fun ww => HPat.out b1 b0 0 h62 hb1 hb0 (by decide) ww
        have ePA : patV E M (three a1 a0 0) ex = pA E M man q := by
          unfold pA; rw [three_two Ha.out, Hlex.out, ← Hwn.out, ← HEH.out, ← HN1.out, Nat.add_zero]
        have ePB : patV E M (three b1 b0 0) ex = pB E M man q := by
          unfold pB; rw [three_two hbN, Hlex.out, ← Hwn.out, ← HEH.out, show wn * (EH + 1) = wn * EH + wn from Nat.mul_succ _ _, ← HN1.out, Nat.add_zero]
        rw [ePA] at HPa
        rw [ePB] at HPb
        obtain ⟨PA, hPA⟩ : ∃ PA, PA = pA E M man q := ⟨_, rfl⟩
        obtain ⟨PB, hPB⟩ : ∃ PB, PB = pB E M man q := ⟨_, rfl⟩
        have hVV := HVV.out
        have hOO := HOO.out
        rw [← hPA, ← hPB] at hVV hOO
        rw [← hPA] at HPa
        rw [← hPB] at HPb
        have HVV2 : Hid _ := hVV
        have HOO2 : Hid _ := hOO
        have c0 := HK8.out.cE
        have c1 := HK8.out.cM
        have e0 := HB168.out.c0
        have e1 := HB168.out.c1
        clear hR17 HK7 HB10 HB15 HB16 hW8 HB8 HAd1 d0 d1 hb hbN ePA ePB hPA hPB hVV hOO HVV HOO g62 h62
        go_upto_region 19 with (go_at_call 186; refine (HPa.out _).mono ?_; rintro e w9 ⟨rfl, hb9⟩; have HK9 : Hid _ := HK8.out.call hb9; have HB109 : Hid _ := HB108.out.call hb9; have HB159 : Hid _ := HB158.out.call hb9; have HB169 : Hid _ := HB168.out.call hb9; have HB179 : Hid _ := HB17.out.call hb9; clear hb9)
        clear HK8 HB108 HB158 HB168 HB17 c0 c1 e0 e1 HPa
        have c0 := HK9.out.cE
        have c1 := HK9.out.cM
        have e0 := HB179.out.c0
        have e1 := HB179.out.c1
        by_cases pe : PA = PB
        · have hVV := HVV2.out
          have hOO := HOO2.out
          rw [if_pos pe] at hVV hOO
          have pe1 : ((PA : Int) == (PB : Int)) = true := by rw [beq_iff_eq]; omega
          subst hVV hOO
          clear HVV2 HOO2 pe
          go_wp2_with (go_at_call 186; refine (HPb.out _).mono ?_; rintro e wa ⟨rfl, hba⟩)
          go_ret2
          exact ⟨rfl, bt HK9.out.below hba⟩
        have hVV := HVV2.out
        have hOO := HOO2.out
        rw [if_neg pe] at hVV hOO
        have HVV : Hid _ := hVV
        have HOO : Hid _ := hOO
        have pe1 : ((PA : Int) == (PB : Int)) = false := by rw [beq_eq_false_iff_ne]; omega
        clear HVV2 HOO2 pe hVV hOO
        go_upto_region 21 with (go_at_call 186; refine (HPb.out _).mono ?_; rintro e wa ⟨rfl, hba⟩; have HKa : Hid _ := HK9.out.call hba; have HB10a : Hid _ := HB109.out.call hba; have HB15a : Hid _ := HB159.out.call hba; have HB16a : Hid _ := HB169.out.call hba; have HB17a : Hid _ := HB179.out.call hba; clear hba)
        clear HK9 HB109 HB159 HB169 HB179 c0 c1 e0 e1 HPb
        have c0 := HB10a.out.c0
        have c1 := HB10a.out.c1
        go_upto_region 22 with (go_at_call 155; refine (HM2.out _).mono ?_; rintro e wb ⟨⟨k1, k0, rfl, hk, hk1, hk0⟩, hbb⟩; have HBb : Hid _ := hbb; clear hbb)
        have HKb : Hid _ := (HKa.out.call HBb.out).call (self1 (o := .cells #[.int .u64 k1, .int .u64 k0] 111))
        have HB15b : Hid _ := (HB15a.out.call HBb.out).call (self1 (o := .cells #[.int .u64 k1, .int .u64 k0] 111))
        have HB16b : Hid _ := (HB16a.out.call HBb.out).call (self1 (o := .cells #[.int .u64 k1, .int .u64 k0] 111))
        have HB17b : Hid _ := (HB17a.out.call HBb.out).call (self1 (o := .cells #[.int .u64 k1, .int .u64 k0] 111))
        have HB19b : Hid _ := Bx.new wb (.int .u64 k1) (.int .u64 k0) 111
        obtain ⟨R19, hR19⟩ : ∃ R, R = wb.heap.size := ⟨_, rfl⟩
        have Hn19 : Hid (R16 ≠ R19 ∧ R17 ≠ R19) := by
          show _ ∧ _
          have a := (HB16a.out.call HBb.out).in
          have b := (HB17a.out.call HBb.out).in
          omega
        generalize hWb : wb.alloc (.cells #[.int .u64 k1, .int .u64 k0] 111) = Wb at *
        simp only [← hR19]
        rw [← hR19] at HB19b
        have Hkk : Hid _ := hk
        have hk9 := mul_low hw2 hE3 (by rw [hk, HN2.out])
        clear hR19 hWb HKa HB10a HB15a HB16a HB17a c0 c1 HM2 HBb hk
        have c0 := HB16b.out.c0
        have c1 := HB16b.out.c1
        have c2 := HB16b.out.f0
        have c3 := HB16b.out.f1
        have d0 := HB19b.out.c0
        have d1 := HB19b.out.c1
        have HAd2 : Hid _ := fun ww => wadd_any a1 a0 0 k1 ha0 hk1 ww
        go_upto_region 23 with (go_at_call 156; refine (HAd2.out _).mono ?_; rintro e wd ⟨⟨p1, p0, bp, rfl, hp, hp1, hp0⟩, hbd⟩; have HKc : Hid _ := HKb.out.call hbd; have HB15c : Hid _ := HB15b.out.call hbd; have HB16c : Hid _ := HB16b.out.call hbd; have HB17c : Hid _ := HB17b.out.call hbd; have HB19c : Hid _ := HB19b.out.call hbd; have y0 := HB16c.out.c0; have y1 := HB16c.out.c1; have y2 := HB16c.out.f0; have y3 := HB16c.out.f1; clear hbd)
        have hpN : two p1 p0 = N1 + k1 := by
          rw [hp, Ha.out]; unfold two; rw [Nat.zero_mul, Nat.zero_add]; exact Nat.mod_eq_of_lt (by omega)
        have HpN : Hid _ := hpN
        have HKd : Hid (FS w R5 E M ((wd.setCell ⟨R16, 0, none⟩ (.int .u64 p1)).setCell ⟨R16, 1, none⟩ (.int .u64 p0))) := by
          have k := HKc.out
          exact ⟨below_set2 _ _ k.below Hn16.out.2, by rw [World.cell?_setCell_far _ _ _ _ (by show R16 ≠ R5; exact Hn16.out.1.2.1), World.cell?_setCell_far _ _ _ _ (by show R16 ≠ R5; exact Hn16.out.1.2.1)]; exact k.cE, by rw [World.cell?_setCell_far _ _ _ _ (by show R16 ≠ R5; exact Hn16.out.1.2.1), World.cell?_setCell_far _ _ _ _ (by show R16 ≠ R5; exact Hn16.out.1.2.1)]; exact k.cM⟩
        have HB15d : Hid _ := (HB15c.out.far R16 0 (.int .u64 p1) Hn16.out.1.2.2).far R16 1 (.int .u64 p0) Hn16.out.1.2.2
        have HB16d : Hid _ := HB16c.out.put (.int .u64 p1) (.int .u64 p0)
        have HB17d : Hid _ := (HB17c.out.far R16 0 (.int .u64 p1) (fun h => Hn17.out.1.1 h.symm)).far R16 1 (.int .u64 p0) (fun h => Hn17.out.1.1 h.symm)
        have HB19d : Hid _ := (HB19c.out.far R16 0 (.int .u64 p1) Hn19.out.1).far R16 1 (.int .u64 p0) Hn19.out.1
        generalize hWd : (wd.setCell ⟨R16, 0, none⟩ (.int .u64 p1)).setCell ⟨R16, 1, none⟩ (.int .u64 p0) = Wd at *
        have hp62 := two_hi hpN hp0 (by omega)
        have HPl : Hid _ := fun ww => HPat.out p1 p0 k0 hp62 hp1 hp0 hk0 ww
        have hTN : wn * entT q = N1 * 18446744073709551616 + N2 := by
          rw [← HE0.out, Nat.mul_add, ← Nat.mul_assoc, ← HN1.out, ← HN2.out]
        have hkN : k1 * 18446744073709551616 + k0 = N2 := Hkk.out
        have eNL := sum_nl (N1 := N1) hkN
        have ePL : patV E M (three p1 p0 k0) ex = pL E M man q := by
          unfold pL; rw [three_two hpN, Hlex.out, ← Hwn.out, hTN, eNL]
        rw [ePL] at HPl
        obtain ⟨PL, hPL⟩ : ∃ PL, PL = pL E M man q := ⟨_, rfl⟩
        rw [← hPL] at HPl
        have HPL : Hid _ := hPL
        have HTN : Hid _ := hTN
        have HkN : Hid _ := hkN
        clear HKb HB15b HB16b HB17b HB19b HKc HB15c HB16c HB17c HB19c c0 c1 c2 c3 d0 d1 y0 y1 y2 y3 HAd2 hWd hp hpN ePL hPL hTN hkN hp62 eNL
        have c0 := HKd.out.cE
        have c1 := HKd.out.cM
        have d0 := HB16d.out.c0
        have d1 := HB16d.out.c1
        have y0 := HB19d.out.c0
        have y1 := HB19d.out.c1
        go_upto_region 24 with (go_at_call 186; refine (HPl.out _).mono ?_; rintro e we ⟨rfl, hbe⟩; have HKe : Hid _ := HKd.out.call hbe; have HB15e : Hid _ := HB15d.out.call hbe; have HB16e : Hid _ := HB16d.out.call hbe; have HB17e : Hid _ := HB17d.out.call hbe; have HB19e : Hid _ := HB19d.out.call hbe; clear hbe)
        clear HKd HB15d HB16d HB17d HB19d c0 c1 d0 d1 y0 y1 HPl
        have c0 := HB15e.out.c0
        have c1 := HB15e.out.c1
        have y0 := HB19e.out.c0
        have y1 := HB19e.out.c1
        have HAd3 : Hid _ := fun ww => wadd_any 0 k0 0 sl hk0 hsl2 ww
        go_upto_region 25 with (go_at_call 156; refine (HAd3.out _).mono ?_; rintro e wf ⟨⟨l1, l0, bl9, rfl, hl, hl1, hl0⟩, hbf⟩; have HBf : Hid _ := hbf; clear hbf)
        have HKf : Hid _ := (HKe.out.call HBf.out).call (self1 (o := .cells #[.int .u64 l1, .int .u64 l0] 111))
        have HB16f : Hid _ := (HB16e.out.call HBf.out).call (self1 (o := .cells #[.int .u64 l1, .int .u64 l0] 111))
        have HB17f : Hid _ := (HB17e.out.call HBf.out).call (self1 (o := .cells #[.int .u64 l1, .int .u64 l0] 111))
        have HB20f : Hid _ := Bx.new wf (.int .u64 l1) (.int .u64 l0) 111
        obtain ⟨R20, hR20⟩ : ∃ R, R = wf.heap.size := ⟨_, rfl⟩
        have Hn20 : Hid (R17 ≠ R20) := by
          show _ ≠ _
          have b := (HB17e.out.call HBf.out).in
          omega
        generalize hWf : wf.alloc (.cells #[.int .u64 l1, .int .u64 l0] 111) = Wf at *
        simp only [← hR20]
        rw [← hR20] at HB20f
        have hlN : l1 * 18446744073709551616 + l0 = k0 + sl := sum_low hl hk0 hsl2
        have HlN : Hid _ := hlN
        clear hR20 hWf HKe HB15e HB16e HB17e HB19e c0 c1 y0 y1 HAd3 HBf hl
        have c0 := HB16f.out.c0
        have c1 := HB16f.out.c1
        have y0 := HB20f.out.c0
        have y1 := HB20f.out.c1
        have HAd4 : Hid _ := fun ww => wadd_any p1 p0 0 l1 hp0 hl1 ww
        go_upto_region 26 with (go_at_call 156; refine (HAd4.out _).mono ?_; rintro e wg ⟨⟨u1, u0, bu, rfl, hu, hu1, hu0⟩, hbg⟩; have HKg : Hid _ := HKf.out.call hbg; have HB17g : Hid _ := HB17f.out.call hbg; have HB20g : Hid _ := HB20f.out.call hbg; have z0 := HB17g.out.c0; have z1 := HB17g.out.c1; have z2 := HB17g.out.f0; have z3 := HB17g.out.f1; clear hbg)
        have hsum : N1 + k1 + l1 < 340282366920938463463374607431768211456 := sum_fit hNb hk9 hw2 hw1 hk0 hsl3 HkN.out HlN.out
        have huN : two u1 u0 = N1 + k1 + l1 := by
          rw [hu, HpN.out]; unfold two; rw [Nat.zero_mul, Nat.zero_add]; exact Nat.mod_eq_of_lt hsum
        have HKh : Hid (FS w R5 E M ((wg.setCell ⟨R17, 0, none⟩ (.int .u64 u1)).setCell ⟨R17, 1, none⟩ (.int .u64 u0))) := by
          have k := HKg.out
          exact ⟨below_set2 _ _ k.below Hn17.out.2, by rw [World.cell?_setCell_far _ _ _ _ (by show R17 ≠ R5; exact Hn17.out.1.2.2.1), World.cell?_setCell_far _ _ _ _ (by show R17 ≠ R5; exact Hn17.out.1.2.2.1)]; exact k.cE, by rw [World.cell?_setCell_far _ _ _ _ (by show R17 ≠ R5; exact Hn17.out.1.2.2.1), World.cell?_setCell_far _ _ _ _ (by show R17 ≠ R5; exact Hn17.out.1.2.2.1)]; exact k.cM⟩
        have HB17h : Hid _ := HB17g.out.put (.int .u64 u1) (.int .u64 u0)
        have HB20h : Hid _ := (HB20g.out.far R17 0 (.int .u64 u1) Hn20.out).far R17 1 (.int .u64 u0) Hn20.out
        generalize hWh : (wg.setCell ⟨R17, 0, none⟩ (.int .u64 u1)).setCell ⟨R17, 1, none⟩ (.int .u64 u0) = Wh at *
        have hu62 := two_hi huN hu0 (by omega)
        have HPu : Hid _ := fun ww => HPat.out u1 u0 l0 hu62 hu1 hu0 hl0 ww
        have eNU := sum_nu (N1 := N1) HkN.out HlN.out
        have ePU : patV E M (three u1 u0 l0) ex = pU E M man q := by
          unfold pU; rw [three_two huN, Hlex.out, ← Hwn.out, HTN.out, ← Hsl.out, eNU]
        rw [ePU] at HPu
        obtain ⟨PU, hPU⟩ : ∃ PU, PU = pU E M man q := ⟨_, rfl⟩
        rw [← hPU] at HPu
        have hVV := HVV.out
        have hOO := HOO.out
        rw [← HPL.out, ← hPU] at hVV hOO
        clear HKf HB16f HB17f HB20f HKg HB17g HB20g c0 c1 y0 y1 z0 z1 z2 z3 HAd4 hWh hu huN ePU hPU eNU hu62 hsum HVV HOO hlN
        have c0 := HKh.out.cE
        have c1 := HKh.out.cM
        have d0 := HB17h.out.c0
        have d1 := HB17h.out.c1
        have y0 := HB20h.out.c0
        have y1 := HB20h.out.c1
        by_cases pe2 : PL = PU
        · rw [if_pos pe2] at hVV hOO
          have pe3 : ((PL : Int) == (PU : Int)) = true := by rw [beq_iff_eq]; omega
          subst hVV hOO
          clear pe2
          go_wp2_with (go_at_call 186; refine (HPu.out _).mono ?_; rintro e wi ⟨rfl, hbi⟩)
          go_ret2
          exact ⟨rfl, bt HKh.out.below hbi⟩
        · rw [if_neg pe2] at hVV hOO
          have pe3 : ((PL : Int) == (PU : Int)) = false := by rw [beq_eq_false_iff_ne]; omega
          subst hVV hOO
          clear pe2
          go_wp2_with (go_at_call 186; refine (HPu.out _).mono ?_; rintro e wi ⟨rfl, hbi⟩)
          go_ret2
          exact ⟨rfl, bt HKh.out.below hbi⟩
end Go.Proofs.Ygcoaf
