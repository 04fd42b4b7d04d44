/-
  Long division: the plain laws of one step.
-/
import Derived.Test.YgcoafN15
namespace Go.Proofs.Ygcoaf
open Go.RowKit

theorem drop_zero {us : List Nat} {m : Nat} (h : lv us < 4294967296 ^ m) (hm : m ≤ us.length) : lv (us.drop m) = 0 := by
  rw [lv_split us m hm] at h
  by_cases c : lv (us.drop m) = 0
  · exact c
  · exfalso
    have : 4294967296 ^ m * 1 ≤ 4294967296 ^ m * lv (us.drop m) := Nat.mul_le_mul_left _ (by omega)
    omega
theorem drop_lt {us vs : List Nat} {m : Nat} (h : lv us < 4294967296 ^ m) (hm : m ≤ us.length) (hl : vs.length = us.length) (hL : Lim vs) (hd : vs.drop m = us.drop m) : lv vs < 4294967296 ^ m := by
  rw [lv_split vs m (by omega), hd, drop_zero h hm, Nat.mul_zero, Nat.add_zero, limb_pow]
  exact lv_take_lt vs m hL (by omega)

/-- the guessed limb, whatever the walk -/
def gl (N3 D2 : Nat) : Nat := if 4294967296 ≤ N3 / D2 then 4294967295 else N3 / D2
theorem gl_guess {N3 D2 : Nat} (h : 0 < D2) : Guess N3 D2 (gl N3 D2) := by
  unfold gl
  by_cases c : 4294967296 ≤ N3 / D2
  · rw [if_pos c]
    refine ⟨by decide, ?_, .inl (by decide)⟩
    exact Nat.le_trans (Nat.mul_le_mul_right _ (by omega)) (Nat.div_mul_le_self N3 D2)
  · rw [if_neg c]
    refine ⟨by omega, Nat.div_mul_le_self N3 D2, .inr ?_⟩
    rw [Nat.mul_comm]; exact Nat.lt_mul_div_succ N3 h
theorem Guess.le {N3 D2 a b : Nat} (x : Guess N3 D2 a) (y : Guess N3 D2 b) : a ≤ b := by
  obtain h | h := y.most
  · have := x.lt; omega
  · have := Nat.lt_of_mul_lt_mul_right (Nat.lt_of_le_of_lt x.fits h); omega
theorem Guess.eq {N3 D2 a b : Nat} (x : Guess N3 D2 a) (y : Guess N3 D2 b) : a = b := Nat.le_antisymm (x.le y) (y.le x)

theorem guess_det (u2 u1 u0 d1 d0 G : Nat) (h2 : u2 ≤ d1) (h1 : u1 < 4294967296) (h0 : u0 < 4294967296) (hd1 : d1 < 4294967296) (hd : 2147483648 ≤ d1) (hd0 : d0 < 4294967296) (w : World)
    (hG : Guess ((u2 * 4294967296 + u1) * 4294967296 + u0) (d1 * 4294967296 + d0) G) :
    Calls Oafg.prog 198 #[.int .u32 u2, .int .u32 u1, .int .u32 u0, .int .u32 d1, .int .u32 d0] w fun e w' => e = .returned (.int .u32 G) ∧ ∃ m, w' = w.drewN m :=
  (guess_any u2 u1 u0 d1 d0 h2 h1 h0 hd1 hd hd0 w).mono fun e w' ⟨⟨g, h3, h4⟩, h5⟩ => ⟨by rw [h3, h4.eq hG], h5⟩

/-- what long division's loop holds -/
structure LongS (w wr : World) (R Q la lq D N k : Nat) (us qs : List Nat) : Prop where
  ru : Row wr R us
  lu : Lim us
  nu : us.length = la + 1
  rq : Row wr Q qs
  mq : Lim qs
  nq : qs.length = lq
  val : N = lv us + D * lv qs
  lt : lv us < D * 4294967296 ^ k
  zero : ∀ t, t < k → qs.getD t 0 = 0
  bel : Below w.heap.size w wr
  inR : R < wr.heap.size
  inQ : Q < wr.heap.size
structure LongI (w wr : World) (R Q la lq D N k : Nat) : Prop where
  out : ∃ us qs, LongS w wr R Q la lq D N k us qs

/-- the limbs that guess looks at -/
theorem long_tops {us ds : List Nat} {D j i2 : Nat} (hLu : Lim us) (hLd : Lim ds) (hD : lv ds = D) (hdl : ds.length = i2 + 2) (hul : j + i2 + 2 < us.length) (hlt : lv us < D * 4294967296 ^ (j + 1)) (hDlt : 2 ^ (32 * (i2 + 2) - 1) ≤ D) :
    ∃ u2 u1 u0 d1 d0, u2 = us.getD (j + i2 + 2) 0 ∧ u1 = us.getD (j + i2 + 1) 0 ∧ u0 = us.getD (j + i2) 0 ∧ d1 = ds.getD (i2 + 1) 0 ∧ d0 = ds.getD i2 0 ∧
      u2 ≤ d1 ∧ 2147483648 ≤ d1 ∧ ∀ G, Guess ((u2 * 4294967296 + u1) * 4294967296 + u0) (d1 * 4294967296 + d0) G → lv us / (D * 4294967296 ^ j) ≤ G ∧ G ≤ lv us / (D * 4294967296 ^ j) + 1 := by
  have hDub : D < 4294967296 ^ (i2 + 2) := by rw [← hD, ← hdl]; exact lv_lt ds hLd
  have hUm : lv us < 4294967296 ^ (j + i2 + 3) := by
    have : D * 4294967296 ^ (j + 1) ≤ 4294967296 ^ (i2 + 2) * 4294967296 ^ (j + 1) := Nat.mul_le_mul_right _ (by omega)
    rw [← Nat.pow_add, show i2 + 2 + (j + 1) = j + i2 + 3 from by omega] at this
    omega
  have hz := drop_zero hUm (by omega)
  have e1 := lv_split us (j + i2) (by omega)
  rw [lv_drop us (j + i2), lv_drop us (j + i2 + 1), lv_drop us (j + i2 + 1 + 1), show j + i2 + 1 + 1 + 1 = j + i2 + 3 from by omega, hz, Nat.mul_zero, Nat.add_zero, show j + i2 + 1 + 1 = j + i2 + 2 from by omega] at e1
  have hlow := lv_take_lt us (j + i2) hLu (by omega)
  rw [← limb_pow] at hlow
  have e2 := lv_split ds i2 (by omega)
  have hz2 : lv (ds.drop (i2 + 1 + 1)) = 0 := by rw [List.drop_eq_nil_of_le (by omega)]; rfl
  rw [lv_drop ds i2, lv_drop ds (i2 + 1), hz2, Nat.mul_zero, Nat.add_zero, hD] at e2
  have hdlow := lv_take_lt ds i2 hLd (by omega)
  rw [← limb_pow] at hdlow
  refine ⟨_, _, _, _, _, rfl, rfl, rfl, rfl, rfl, ?_⟩
  have hl1 := hLd (i2 + 1) (by omega)
  have hl0 := hLd i2 (by omega)
  generalize us.getD (j + i2 + 2) 0 = u2 at *
  generalize us.getD (j + i2 + 1) 0 = u1 at *
  generalize us.getD (j + i2) 0 = u0 at *
  generalize ds.getD (i2 + 1) 0 = d1 at *
  generalize ds.getD i2 0 = d0 at *
  have hU : lv us = lv (us.take (j + i2)) + 4294967296 ^ (j + i2) * ((u2 * 4294967296 + u1) * 4294967296 + u0) := by
    have k : u0 + 4294967296 * (u1 + 4294967296 * u2) = (u2 * 4294967296 + u1) * 4294967296 + u0 := by clear hlt hDlt hDub hUm e1 e2 hlow hdlow; omega
    rw [← k]; exact e1
  have hDD : D * 4294967296 ^ j = lv (ds.take i2) * 4294967296 ^ j + 4294967296 ^ (j + i2) * (d1 * 4294967296 + d0) := by
    have a : D = lv (ds.take i2) + 4294967296 ^ i2 * (d1 * 4294967296 + d0) := by
      have k : d0 + 4294967296 * d1 = d1 * 4294967296 + d0 := by clear hlt hDlt hDub hUm e1 e2 hlow hdlow hU; omega
      rw [← k]; exact e2
    rw [Nat.pow_add]
    have key : ∀ D X I J D2 : Nat, D = X + I * D2 → D * J = X * J + J * I * D2 := by intro D X I J D2 h; rw [h]; grind
    exact key _ _ _ _ _ a
  have hdl2 : lv (ds.take i2) * 4294967296 ^ j < 4294967296 ^ (j + i2) := by
    rw [Nat.pow_add, Nat.mul_comm (4294967296 ^ j)]
    exact Nat.mul_lt_mul_of_pos_right hdlow (Nat.pow_pos (by decide))
  have hlt2 : lv us < D * 4294967296 ^ j * 4294967296 := by rw [Nat.mul_assoc, ← Nat.pow_succ]; exact hlt
  have hd : 2147483648 ≤ d1 := by
    by_cases c : 2147483648 ≤ d1
    · exact c
    · exfalso
      have b1 : 4294967296 ^ i2 * (d0 + 4294967296 * d1) ≤ 4294967296 ^ i2 * (9223372036854775808 - 1) := Nat.mul_le_mul_left _ (by omega)
      have b2 : 2 ^ (32 * (i2 + 2) - 1) = 4294967296 ^ i2 * 9223372036854775808 := by
        rw [limb_pow, show 32 * (i2 + 2) - 1 = 32 * i2 + 63 from by omega, Nat.pow_add]
      rw [b2] at hDlt
      have b3 : 4294967296 ^ i2 * (9223372036854775808 - 1) + 4294967296 ^ i2 = 4294967296 ^ i2 * 9223372036854775808 := by
        rw [← Nat.mul_succ]
      omega
  refine ⟨guess_top hU hDD hdl2 hlt2 rfl rfl hl0, hd, fun G hG => guess_law hU hDD hlow hdl2 hlt2 (by omega) hG⟩

/-- one step, the limb right -/
theorem long_right {U U' D J G qv N : Nat} (hJ : 0 < J) (hD : 0 < D) (hN : N = U + D * qv) (h : U' + J * (G * D) = U) (hG : U / (D * J) ≤ G) : N = U' + D * (qv + J * G) ∧ U' < D * J := by
  have hDJ : 0 < D * J := Nat.mul_pos hD hJ
  have e : U = U' + D * J * G := by rw [← h]; grind
  have hd : U / (D * J) = U' / (D * J) + G := by rw [e, Nat.add_mul_div_left _ _ hDJ]
  have hz : U' / (D * J) = 0 := by
    generalize U' / (D * J) = x at *
    generalize U / (D * J) = y at *
    clear e h hN
    omega
  refine ⟨?_, ?_⟩
  · rw [hN, e]; grind
  · have := (Nat.div_eq_zero_iff).1 hz
    omega
/-- one step, the limb one too great -/
theorem long_over {U U1 U2 D J G qv N M cy : Nat} (hJ : 0 < J) (hD : 0 < D) (hN : N = U + D * qv) (h1 : U1 + J * (G * D) = U + M) (h2 : U2 + M * cy = U1 + J * D) (hU1 : U1 < M) (hU2 : U2 < M) (hM : D * J ≤ M) (hG : G ≤ U / (D * J) + 1) :
    ∃ g, G = g + 1 ∧ N = U2 + D * (qv + J * g) ∧ U2 < D * J := by
  have hDJ : 0 < D * J := Nat.mul_pos hD hJ
  obtain ⟨t, ht⟩ : ∃ t, t = U / (D * J) := ⟨_, rfl⟩
  have e := Nat.div_add_mod U (D * J)
  have hm := Nat.mod_lt U hDJ
  rw [← ht] at e hG
  generalize U % (D * J) = r at *
  have hlt : U < J * (G * D) := by omega
  have hGt : G = t + 1 := by
    by_cases c : G ≤ t
    · exfalso
      have a : D * J * G ≤ D * J * t := Nat.mul_le_mul_left _ c
      have b : J * (G * D) = D * J * G := by grind
      omega
    · omega
  refine ⟨t, hGt, ?_⟩
  have b : J * (G * D) = D * J * t + D * J := by rw [hGt]; grind
  have c : J * D = D * J := Nat.mul_comm _ _
  have key : U2 + M * cy = M + r := by omega
  have hcy : cy = 1 := by
    match cy, key with
    | 0, k => exfalso; rw [Nat.mul_zero] at k; omega
    | 1, _ => rfl
    | c + 2, k =>
      exfalso
      have : M * 2 ≤ M * (c + 2) := Nat.mul_le_mul_left _ (by omega)
      omega
  rw [hcy, Nat.mul_one] at key
  have hr : U2 = r := by omega
  refine ⟨?_, by omega⟩
  rw [hr, hN, ← e]; grind

/-- the quotient's limb is laid -/
theorem LongS.lay {w wr w3 : World} {R Q la lq D N j : Nat} {us qs vs : List Nat} (S : LongS w wr R Q la lq D N (j + 1) us qs) (hwR : w.heap.size ≤ R) (hRQ : R < Q) (hjq : j < lq) {nq g : Nat} (hg : g < 4294967296)
    (h1 : Row w3 R vs) (h2 : Lim vs) (h3 : vs.length = us.length) (ho : Only R (wr.drewN nq) w3) (hv : N = lv vs + D * (lv qs + 4294967296 ^ j * g)) (hl : lv vs < D * 4294967296 ^ j) :
    (w3.cell? ⟨Q, j, none⟩ = some (.int .u32 0) ∧ w3.frozen? ⟨Q, j, none⟩ = false) ∧ LongI w (w3.setCell ⟨Q, j, none⟩ (.int .u32 g)) R Q la lq D N j := by
  have hrq : Row w3 Q qs := Row.only (w := wr.drewN nq) ⟨S.rq.cell, S.rq.fz⟩ ho (by omega) S.inQ
  have hz := S.zero j (by omega)
  have hc := hrq.cell j (by have := S.nq; omega)
  rw [hz] at hc
  have hs := lv_set qs j g (by have := S.nq; omega)
  rw [hz, Nat.mul_zero, Nat.add_zero] at hs
  have hru : Row (w3.setCell ⟨Q, j, none⟩ (.int .u32 g)) R vs := ⟨fun i hi => by rw [World.cell?_setCell_far _ _ _ _ (by show Q ≠ R; omega)]; exact h1.cell i hi, fun i => by rw [World.frozen?_setCell]; exact h1.fz i⟩
  refine ⟨⟨hc, hrq.fz j⟩, vs, qs.set j g, ⟨hru, h2, h3.trans S.nu, hrq.set j g (by have := S.nq; omega), S.mq.set _ _ hg, by rw [List.length_set]; exact S.nq, by rw [hs]; exact hv, hl, fun t ht => ?_, ?_, ?_, ?_⟩⟩
  · rw [getD_set_ne _ _ _ _ (by omega)]; exact S.zero t (by omega)
  · exact (ho.below (below_dN S.bel nq) hwR).setCell (p := ⟨Q, j, none⟩) (by show w.heap.size ≤ Q; omega) _
  · have a : wr.heap.size ≤ w3.heap.size := ho.size
    have b := S.inR
    show R < (w3.setCell ⟨Q, j, none⟩ (.int .u32 g)).heap.size
    simp [World.setCell]; omega
  · have a : wr.heap.size ≤ w3.heap.size := ho.size
    have b := S.inQ
    show Q < (w3.setCell ⟨Q, j, none⟩ (.int .u32 g)).heap.size
    simp [World.setCell]; omega

theorem Only.trans {R : Nat} {a b c : World} (h : Only R a b) (k : Only R b c) : Only R a c :=
  ⟨k.os.trans h.os, k.tape.trans h.tape, k.output.trans h.output, Nat.le_trans h.size k.size, fun i hi hl => (k.block i hi (Nat.lt_of_lt_of_le hl h.size)).trans (h.block i hi hl)⟩

/-- what takeAway leaves -/
structure Taken (W w3 : World) (R j lb D G bw : Nat) (us vs : List Nat) : Prop where
  bw1 : bw ≤ 1
  row : Row w3 R vs
  lim : Lim vs
  len : vs.length = us.length
  drop : vs.drop (j + lb + 1) = us.drop (j + lb + 1)
  val : lv vs + 4294967296 ^ j * (G * D) = lv us + 4294967296 ^ (j + lb + 1) * bw
  only : Only R W w3

theorem LongS.right {w wr w3 : World} {R Q la lq lb D N j G nq bw : Nat} {us qs vs : List Nat} (S : LongS w wr R Q la lq D N (j + 1) us qs) (hwR : w.heap.size ≤ R) (hRQ : R < Q) (hjq : j < lq) (hD : 0 < D) (hG : G < 4294967296)
    (hg : lv us / (D * 4294967296 ^ j) ≤ G) (T : Taken (wr.drewN nq) w3 R j lb D G bw us vs) (hb : ¬ bw = 1) :
    (w3.cell? ⟨Q, j, none⟩ = some (.int .u32 0) ∧ w3.frozen? ⟨Q, j, none⟩ = false) ∧ LongI w (w3.setCell ⟨Q, j, none⟩ (.int .u32 G)) R Q la lq D N j := by
  have hbw : bw = 0 := by have := T.bw1; omega
  have hv := T.val
  rw [hbw, Nat.mul_zero, Nat.add_zero] at hv
  obtain ⟨e1, e2⟩ := long_right (Nat.pow_pos (by decide)) hD S.val hv hg
  exact S.lay hwR hRQ hjq hG T.row T.lim T.len T.only e1 e2

theorem LongS.least {w wr w3 : World} {R Q la lq lb D N j G nq : Nat} {us qs vs : List Nat} (S : LongS w wr R Q la lq D N (j + 1) us qs) (hDlt : D < 4294967296 ^ lb) (hfit : j + lb + 1 ≤ us.length) (T : Taken (wr.drewN nq) w3 R j lb D G 1 us vs) : 1 ≤ G := by
  have hM : D * 4294967296 ^ (j + 1) ≤ 4294967296 ^ (j + lb + 1) := by
    rw [show j + lb + 1 = lb + (j + 1) from by omega, Nat.pow_add 4294967296 lb]
    exact Nat.mul_le_mul_right _ (by omega)
  have hu : lv us < 4294967296 ^ (j + lb + 1) := Nat.lt_of_lt_of_le S.lt hM
  have hv1 := drop_lt hu hfit T.len T.lim T.drop
  have hval := T.val
  by_cases c : G = 0
  · exfalso; rw [c] at hval; simp at hval; omega
  · omega

/-- the end of long division -/
theorem long_end {A0 B0 D s U q : Nat} (hB : 0 < B0) (hD : D = B0 * 2 ^ s) (hN : A0 * 2 ^ s = U + D * q) (hU : U < D) : q = A0 / B0 ∧ U / 2 ^ s = A0 % B0 := by
  have hp := Nat.two_pow_pos s
  have hDp : 0 < D := by rw [hD]; exact Nat.mul_pos hB hp
  have e1 : A0 * 2 ^ s / D = q := by rw [hN, Nat.add_mul_div_left _ _ hDp, Nat.div_eq_of_lt hU, Nat.zero_add]
  have e2 : A0 * 2 ^ s % D = U := by rw [hN, Nat.add_mul_mod_self_left, Nat.mod_eq_of_lt hU]
  rw [hD] at e1 e2
  rw [Nat.mul_div_mul_right _ _ hp] at e1
  rw [Nat.mul_mod_mul_right] at e2
  exact ⟨e1.symm, by rw [← e2, Nat.mul_div_cancel _ hp]⟩

theorem LongS.over {w wr w3 w4 : World} {R Q la lq lb D N j G nq cy : Nat} {us qs vs xs : List Nat} (S : LongS w wr R Q la lq D N (j + 1) us qs) (hwR : w.heap.size ≤ R) (hRQ : R < Q) (hjq : j < lq) (hD : 0 < D) (hDlt : D < 4294967296 ^ lb) (hfit : j + lb + 1 ≤ us.length)
    (hG : G < 4294967296) (hg : G ≤ lv us / (D * 4294967296 ^ j) + 1) (T : Taken (wr.drewN nq) w3 R j lb D G 1 us vs)
    (h1 : Row w4 R xs) (h2 : Lim xs) (h3 : xs.length = vs.length) (h4 : xs.drop (j + lb + 1) = vs.drop (j + lb + 1)) (h5 : lv xs + 4294967296 ^ (j + lb + 1) * cy = lv vs + 4294967296 ^ j * D) (h6 : Only R w3 w4) :
    ∃ g, G = g + 1 ∧ (w4.cell? ⟨Q, j, none⟩ = some (.int .u32 0) ∧ w4.frozen? ⟨Q, j, none⟩ = false) ∧ LongI w (w4.setCell ⟨Q, j, none⟩ (.int .u32 g)) R Q la lq D N j := by
  have hM : D * 4294967296 ^ (j + 1) ≤ 4294967296 ^ (j + lb + 1) := by
    rw [show j + lb + 1 = lb + (j + 1) from by omega, Nat.pow_add 4294967296 lb]
    exact Nat.mul_le_mul_right _ (by omega)
  have hM0 : D * 4294967296 ^ j ≤ 4294967296 ^ (j + lb + 1) := by
    refine Nat.le_trans (Nat.mul_le_mul_left _ ?_) hM
    exact Nat.pow_le_pow_right (by decide) (by omega)
  have hu : lv us < 4294967296 ^ (j + lb + 1) := Nat.lt_of_lt_of_le S.lt hM
  have hv1 := drop_lt hu hfit T.len T.lim T.drop
  have hv2 := drop_lt hv1 (by have := T.len; omega) h3 h2 h4
  have hval := T.val
  rw [Nat.mul_one] at hval
  obtain ⟨g, e1, e2, e3⟩ := long_over (Nat.pow_pos (by decide)) hD S.val hval h5 hv1 hv2 hM0 hg
  exact ⟨g, e1, S.lay hwR hRQ hjq (by omega) h1 h2 (h3.trans T.len) (T.only.trans h6) e2 e3⟩
end Go.Proofs.Ygcoaf
