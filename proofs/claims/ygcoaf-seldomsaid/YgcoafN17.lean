/-
  nat.divLong.
-/
import Derived.Test.YgcoafN16
namespace Go.Proofs.Ygcoaf
open Go.RowKit

theorem bl_lo (n : Nat) (h : n ≠ 0) : 2 ^ (bl n - 1) ≤ n := by
  unfold bl; rw [if_neg h, Nat.add_sub_cancel]; exact Nat.log2_self_le h
theorem bl_hi (n : Nat) : n < 2 ^ bl n := by
  unfold bl
  by_cases h : n = 0
  · simp [h]
  · rw [if_neg h]; exact Nat.lt_log2_self
theorem bl_pos (n : Nat) (h : n ≠ 0) : 1 ≤ bl n := by unfold bl; rw [if_neg h]; omega
theorem bl_shl (n k : Nat) : bl (n * 2 ^ k) ≤ bl n + k := by
  refine bl_le _ _ ?_
  rw [Nat.pow_add]
  exact Nat.mul_lt_mul_of_pos_right (bl_hi n) (Nat.two_pow_pos k)

/-- the divisor's top limb moved up -/
theorem norm_bd {B0 i2 y low : Nat} (hB : B0 = low + 2 ^ (32 * (i2 + 1)) * y) (hlow : low < 2 ^ (32 * (i2 + 1))) (hy : y ≠ 0) (hy2 : y < 4294967296) :
    2 ^ (32 * (i2 + 2) - 1) ≤ B0 * 2 ^ (32 - bl y) ∧ B0 * 2 ^ (32 - bl y) < 2 ^ (32 * (i2 + 2)) ∧ 1 ≤ bl y ∧ bl y ≤ 32 := by
  have h1 := bl_pos y hy
  have h2 : bl y ≤ 32 := bl_le y 32 (by simpa using hy2)
  have hb : bl B0 = 32 * (i2 + 1) + bl y := by rw [hB]; exact bl_top y low _ hy hlow
  have hB0 : B0 ≠ 0 := by
    have := Nat.mul_pos (Nat.two_pow_pos (32 * (i2 + 1))) (Nat.pos_of_ne_zero hy)
    omega
  have a := bl_lo B0 hB0
  have b := bl_hi B0
  refine ⟨?_, ?_, h1, h2⟩
  · have := Nat.mul_le_mul_right (2 ^ (32 - bl y)) a
    rw [← Nat.pow_add, show bl B0 - 1 + (32 - bl y) = 32 * (i2 + 2) - 1 from by omega] at this
    exact this
  · have := Nat.mul_lt_mul_of_pos_right b (Nat.two_pow_pos (32 - bl y))
    rw [← Nat.pow_add, show bl B0 + (32 - bl y) = 32 * (i2 + 2) from by omega] at this
    exact this

theorem len_eq {D : Nat} {ds : List Nat} {n : Nat} (h1 : D < 4294967296 ^ ds.length) (h2 : ∀ j, j < ds.length → 4294967296 ^ j ≤ D) (h3 : D < 4294967296 ^ (n + 1)) (h4 : 4294967296 ^ n ≤ D) : ds.length = n + 1 := by
  by_cases c : ds.length < n + 1
  · exfalso
    have : 4294967296 ^ ds.length ≤ 4294967296 ^ n := Nat.pow_le_pow_right (by decide) (by omega)
    omega
  · by_cases d : n + 1 < ds.length
    · exfalso
      have := h2 (n + 1) d
      omega
    · omega

theorem wrap_i64' (n : Int) : IntKind.i64.wrap n = (n + 9223372036854775808) % 18446744073709551616 - 9223372036854775808 := by
  simp [IntKind.wrap, IntKind.bits, IntKind.signed]; split <;> omega
/-- make(Nat, n), and what it leaves as it was -/
theorem mkOwn2 (w w1 : World) (n : Nat) (h : n ≤ 1099511627776) (hb : Below w.heap.size w w1) : ∃ w', (Instr.makeSlice 64 (.int .i64 (n : Int)) (.int .i64 (n : Int))).run Oafg.prog w1 = .ok (.slice (some ⟨w1.heap.size, 0, none⟩) n n) w' ∧
    Own w w' w1.heap.size (List.replicate n 0) ∧ Below w1.heap.size w1 w' := by
  obtain ⟨w', h1, h2, h3, h4⟩ := mk32 w1 n h
  exact ⟨w', h1, ⟨h2, lim_zeros n, hb.size, h4, bt hb h3⟩, h3⟩

set_option maxRecDepth 8000 in
set_option maxHeartbeats 2000000 in
/-- nat.divLong -/
theorem divLong_nat {w : World} {va vb : Value} {A0 B0 : Nat} (s1 : NatV w va A0) (s2 : NatV w vb B0) (b1 : bl A0 ≤ 900000) (b2 : bl B0 ≤ 900000) (hbig : 4294967296 ≤ B0) (hge : B0 ≤ A0) :
    Calls Oafg.prog 189 #[va, vb] w fun e w' => (∃ v1 v2, e = .returned (.tuple #[v1, v2]) ∧ NatV w' v1 (A0 / B0) ∧ NatV w' v2 (A0 % B0)) ∧ Below w.heap.size w w' := by
  obtain ⟨ad1, cap1, xs, rfl, hs1, hl1, hlen1, up1, dn1⟩ := s1.size (by omega)
  obtain ⟨ad2, cap2, ys, rfl, hs2, hl2, hlen2, up2, dn2⟩ := s2.size (by omega)
  obtain ⟨la, hla⟩ : ∃ la, la = xs.length := ⟨_, rfl⟩
  obtain ⟨lb, hlb⟩ : ∃ lb, lb = ys.length := ⟨_, rfl⟩
  rw [← hla] at hlen1 up1 dn1
  rw [← hlb] at hlen2 up2 dn2
  have hlb2 : 2 ≤ lb := by
    by_cases c : 2 ≤ lb
    · exact c
    · exfalso
      have : 4294967296 ^ lb ≤ 4294967296 ^ 1 := Nat.pow_le_pow_right (by decide) (by omega)
      omega
  have hlab : lb ≤ la := by
    by_cases c : lb ≤ la
    · exact c
    · exfalso
      have := dn2 la (by omega)
      omega
  obtain ⟨i2, hi2⟩ : ∃ i2, lb = i2 + 2 := ⟨lb - 2, by omega⟩
  obtain ⟨b', off', rfl, hcy⟩ := hs2.cell (i2 + 1) (by omega)
  have htop := lv_top ys (i2 + 1) (by omega)
  have hlow := lv_take_lt ys (i2 + 1) hs2.lim (by omega)
  have hylim := hs2.lim (i2 + 1) (by omega)
  obtain ⟨y, hy⟩ : ∃ y, y = ys.getD (i2 + 1) 0 := ⟨_, rfl⟩
  rw [← hy] at hcy htop hylim
  rw [hl2] at htop
  have hy0 : y ≠ 0 := by
    intro e
    have := dn2 (i2 + 1) (by omega)
    rw [limb_pow] at this
    rw [e, Nat.mul_zero] at htop
    omega
  obtain ⟨hD1, hD2, hby1, hby2⟩ := norm_bd htop hlow hy0 hylim
  obtain ⟨s, hs⟩ : ∃ s, s = 32 - bl y := ⟨_, rfl⟩
  rw [← hs] at hD1 hD2
  obtain ⟨bt', hbt'⟩ : ∃ bt', bt' = bl y := ⟨_, rfl⟩
  have W0 := width32_any y hylim w
  rw [← hbt'] at W0 hby1 hby2 hs
  have HW : Hid _ := fun (_ : Unit) => W0
  have f1 : (32 : Int) - (bt' : Int) = (s : Int) := by omega
  have hs31 : s ≤ 31 := by omega
  have L1 := lift_nat s (by omega) s2 (by omega)
  obtain ⟨D, hD⟩ : ∃ D, D = B0 * 2 ^ s := ⟨_, rfl⟩
  rw [← hD] at hD1 hD2 L1
  have HL1 : Hid _ := fun (_ : Unit) => L1
  rw [← hlb] at HL1 ⊢
  have hfit2 := hs2.fits
  have f2 : (lb : Int) - 1 = ((i2 + 1 : Nat) : Int) := by omega
  have HS1 : Hid _ := s1
  have HB00 : Hid (0 < B0) := by show 0 < B0; omega
  have Hhi2 : Hid _ := hi2
  have Hy : Hid _ := hy
  have Hup1 : Hid _ := up1
  have Hdn : Hid _ := dn2
  have HD : Hid _ := hD
  have Hhs : Hid _ := hs
  have Htop : Hid (B0 = lv (ys.take (i2 + 1)) + 2 ^ (32 * (i2 + 1)) * y) := htop
  rw [← hla]
  rw [← hlb] at hfit2
  rw [← hla] at HS1
  have hi3 : i2 + 2 ≤ lb := by omega
  have hi4 : lb ≤ i2 + 2 := by omega
  clear hlow hy hs hbt' W0 L1 hi2 up1 dn1 up2 dn2 hD htop hl1 hl2 hs1 hs2 s1 s2 hla hlb hbig
  go_enter Oafg.func189, Oafg.ntmps189
  go_upto_region 4 with (first
    | (go_at_call 183; refine (HW.out ()).mono ?_; rintro e w1 ⟨rfl, hw⟩; have hw := hw.symm; subst hw)
    | (go_at_call 190; refine (HL1.out ()).mono ?_; rintro e w1 ⟨⟨vd, rfl, hNd⟩, hb1⟩))
  obtain ⟨ad3, cap3, ds, rfl, hsd, hld, hlend, upd, dnd⟩ := hNd.size (by rw [HD.out]; have := bl_shl B0 s; omega)
  have hdl : ds.length = i2 + 2 := len_eq upd dnd (by rw [limb_pow]; exact hD2) (by
    rw [limb_pow]
    exact Nat.le_trans (two_pow_le (by omega)) hD1)
  have hdslim := hsd.lim
  have hdsfit := hsd.fits
  obtain ⟨bd, od, rfl, hcd0⟩ := hsd.cell 0 (by omega)
  have hbd : bd < w1.heap.size := World.block_lt_of_cell? _ _ hcd0
  obtain ⟨w2, hmk, hownu⟩ := mkOwn w1 w1 (la + 1) (by omega) (Below.refl _ _)
  obtain ⟨lu, hlu0⟩ : ∃ lu, lu = la + 1 := ⟨_, rfl⟩
  have hmk' : (Instr.makeSlice 64 (.int .i64 ((la : Int) + 1)) (.int .i64 ((la : Int) + 1))).run Oafg.prog w1 = .ok (.slice (some ⟨w1.heap.size, 0, none⟩) lu lu) w2 := by rw [hlu0]; exact hmk
  have Hlu0 : Hid _ := hlu0
  have hlu1 : lu ≤ la + 1 := by omega
  have hlu2 : la + 1 ≤ lu := by omega
  clear hlu0
  obtain ⟨R, hR⟩ : ∃ R, R = w1.heap.size := ⟨_, rfl⟩
  rw [← hR] at hmk' hownu hbd
  have L2 := lift_nat s (by omega) (HS1.out.call (bt hb1 hownu.below)) (by omega)
  have HL2 : Hid _ := fun (_ : Unit) => L2
  have HSD : Hid _ := hsd
  have HNd : Hid _ := hNd
  have Hownu : Hid _ := hownu
  have HR : Hid _ := hR
  have HB1 : Hid _ := hb1
  have Hld : Hid _ := hld
  have Hdl : Hid _ := hdl
  rw [hdl, ← Hhi2.out]
  rw [hdl, ← Hhi2.out] at hdsfit
  clear L2 hsd hNd hownu hR hb1 hld hdl upd dnd hmk hcd0 hlend
  have Hshort : Hid (∀ ns : List Nat, (∀ j, j < ns.length → 4294967296 ^ j ≤ A0 * 2 ^ s) → ns.length ≤ la + 1) := fun ns dnn => by
    by_cases c : ns.length ≤ la + 1
    · exact c
    · exfalso
      have h1 := dnn (la + 1) (by omega)
      have h2 : A0 * 2 ^ s < 4294967296 ^ la * 4294967296 := Nat.mul_lt_mul_of_lt_of_le Hup1.out (by have : 2 ^ s ≤ 2 ^ 32 := two_pow_le (by omega); simpa using this) (by decide)
      rw [← Nat.pow_succ] at h2
      omega
  go_upto_region 6 with (go_at_call 190; refine (HL2.out ()).mono ?_; rintro e w3 ⟨⟨vn, rfl, hNn⟩, hb3⟩; obtain ⟨ad4, cap4, ns, rfl, hsn, hln, hlenn, upn, dnn⟩ := hNn.size (by have := bl_shl A0 s; omega); obtain ⟨w4, hcp, hown4⟩ := copyOwn (Hownu.out.call hb3) hsn (by rw [List.length_replicate]; exact Hshort.out ns dnn); rw [List.length_replicate, ← Hlu0.out] at hcp; have HOWN4 : Hid _ := hown4; have HB3 : Hid _ := hb3; have HLN : Hid _ := hln; have HSN : Hid _ := Hshort.out ns dnn; clear hsn hown4 hb3 hln hNn upn dnn)
  obtain ⟨lq1, hlq1⟩ : ∃ lq1, la = lb + lq1 := ⟨la - lb, by omega⟩
  obtain ⟨lq, hlq⟩ : ∃ lq, lq = lq1 + 1 := ⟨_, rfl⟩
  obtain ⟨w5, hmk5, hownq, hb45⟩ := mkOwn2 w1 w4 lq (by omega) HOWN4.out.below
  obtain ⟨Q, hQ⟩ : ∃ Q, Q = w4.heap.size := ⟨_, rfl⟩
  rw [← hQ] at hmk5 hownq
  have g1 : (la : Int) - (lb : Int) + 1 = (lq : Int) := by omega
  have hRQ : R < Q := by rw [hQ]; exact HOWN4.out.now
  have H0 : Hid (LongI w1 w5 R Q la lq D (A0 * 2 ^ s) lq) := by
    have hlen4 : (ns ++ (List.replicate (la + 1) 0).drop ns.length).length = la + 1 := by have := HSN.out; simp; omega
    have hval : lv (ns ++ (List.replicate (la + 1) 0).drop ns.length) = A0 * 2 ^ s := by
      rw [lv_append, List.drop_replicate, lv_zeros, Nat.mul_zero, Nat.add_zero]; exact HLN.out
    refine ⟨_, _, ⟨HOWN4.out.row.call HOWN4.out.now hb45, HOWN4.out.lim, hlen4, hownq.row, hownq.lim, List.length_replicate .., ?_, ?_, fun t _ => getD_zeros _ _, hownq.below, Nat.lt_of_lt_of_le HOWN4.out.now hb45.size, hownq.now⟩⟩
    · rw [hval, lv_zeros]; simp
    · rw [hval]
      have h1 : A0 * 2 ^ s < 2 ^ (32 * la) * 2 ^ s := Nat.mul_lt_mul_of_pos_right (by rw [← limb_pow]; exact Hup1.out) (Nat.two_pow_pos s)
      have h2 : 2 ^ (32 * (i2 + 2) - 1) * 4294967296 ^ lq ≤ D * 4294967296 ^ lq := Nat.mul_le_mul_right _ hD1
      rw [limb_pow lq, ← Nat.pow_add] at h2
      rw [← Nat.pow_add] at h1
      have h3 : 2 ^ (32 * la + s) ≤ 2 ^ (32 * (i2 + 2) - 1 + 32 * lq) := two_pow_le (by omega)
      rw [limb_pow lq]
      omega
  have HSDb : Hid (∀ wr, Below w1.heap.size w1 wr → SL wr (some ⟨bd, od, none⟩) cap3 ds) := fun wr h => HSD.out.call h
  have Hlq : Hid _ := hlq1
  have Hlq2 : Hid _ := hlq
  have hq1 : lb + lq ≤ la + 1 := by omega
  have hq2 : la + 1 ≤ lb + lq := by omega
  have Hlim : Hid _ := hdslim
  have hRbd : bd ≠ R := by omega
  obtain ⟨n1, hn1⟩ : ∃ n1, n1 = i2 + 1 := ⟨_, rfl⟩
  have f2' : (lb : Int) - 1 = (n1 : Int) := by omega
  have f3' : (lb : Int) - 2 = (i2 : Int) := by omega
  have Hn1 : Hid _ := hn1
  have hn1a : n1 < lb := by omega
  clear f2 hownq hb45 hQ hlq1 hlq hmk' hcp HOWN4 HB3 HSN hdslim hcy f1 hn1
  go_wp2
  go_loopw [11] (fun i wr => ∃ k : Nat, k ≤ lq ∧ i = .int .i64 ((k : Int) - 1) ∧ Hid (LongI w1 wr R Q la lq D (A0 * 2 ^ s) k)) (fun i _ => (intOf i + 1).toNat)
  case atStart => exact ⟨lq, Nat.le_refl _, rfl, H0⟩
  case round =>
    obtain ⟨k, hk, hi, hM⟩ := hrel
    clear hmk5
    by_cases c : k = 0
    · subst c
      rw [show ((0 : Nat) : Int) - 1 = -1 from by decide] at hi
      subst hi
      obtain ⟨us, qs, S⟩ := hM.out.out
      have hlt := S.lt
      rw [Nat.pow_zero, Nat.mul_one] at hlt
      obtain ⟨e1, e2⟩ := long_end HB00.out HD.out S.val hlt
      have hblu : bl (lv us) ≤ 1000000 := by
        refine Nat.le_trans (bl_le _ _ (Nat.lt_trans hlt (bl_hi D))) ?_
        rw [HD.out]; have := bl_shl B0 s; omega
      have hsl : SL wr (some ⟨R, 0, none⟩) lu us := ⟨S.lu, by rw [S.nu]; omega, fun i hi => ⟨R, 0, rfl, by rw [Nat.zero_add]; exact S.ru.cell i hi⟩⟩
      have T1 := trim_any _ lu us wr hsl (by omega)
      rw [S.nu, ← Hlu0.out] at T1
      have SH := shr_nat s (by omega) T1 hblu
      rw [e2] at SH
      have HSH : Hid _ := fun (_ : Unit) => SH
      have HT2 : Hid (∀ w6, Below wr.heap.size wr w6 → Calls Oafg.prog 136 #[.slice (some ⟨Q, 0, none⟩) lq lq] w6 fun e w' => (∃ v', e = .returned v' ∧ NatV w6 v' (A0 / B0)) ∧ w' = w6) := fun w6 h6 => by
        have hrq := S.rq.call S.inQ h6
        have hslq : SL w6 (some ⟨Q, 0, none⟩) lq qs := ⟨S.mq, by rw [S.nq]; omega, fun i hi => ⟨Q, 0, rfl, by rw [Nat.zero_add]; exact hrq.cell i hi⟩⟩
        have T2 := trim_any _ lq qs w6 hslq (by omega)
        rw [S.nq, e1] at T2
        exact T2
      have HBw : Hid _ := S.bel
      clear S hM T1 SH e1 e2 hsl hlt hblu
      go_wp2_with (first
        | (go_at_call 148; refine (HSH.out ()).mono ?_; rintro e w6 ⟨⟨v2, rfl, hN2⟩, hb6⟩; have HN2 : Hid _ := hN2; have HB6 : Hid _ := hb6; clear hN2 hb6)
        | (go_at_call 136; refine (HT2.out _ HB6.out).mono ?_; rintro e w7 ⟨⟨v1, rfl, hN1⟩, hw7⟩; have hw7 := hw7.symm; subst hw7; have HN1 : Hid _ := hN1; clear hN1))
      go_ret2
      exact ⟨⟨v1, v2, rfl, HN1.out, HN2.out⟩, bt HB1.out (bt HBw.out HB6.out)⟩
    · obtain ⟨j, rfl⟩ : ∃ j, k = j + 1 := ⟨k - 1, by omega⟩
      rw [show ((j + 1 : Nat) : Int) - 1 = (j : Int) from by omega] at hi
      subst hi
      obtain ⟨us, qs, S⟩ := hM.out.out
      have hru := S.ru
      have hLu := S.lu
      have hlu := S.nu
      have hlt := S.lt
      have hbw := S.bel
      obtain ⟨u2, u1, u0, d1, d0, hu2, hu1, hu0, hd1, hd0, htop2, htop31, hguess⟩ := long_tops hLu Hlim.out Hld.out Hdl.out (show j + i2 + 2 < us.length by omega) hlt hD1
      obtain ⟨p2, hp2⟩ : ∃ p2, p2 = j + i2 + 2 := ⟨_, rfl⟩
      obtain ⟨p1, hp1⟩ : ∃ p1, p1 = j + i2 + 1 := ⟨_, rfl⟩
      obtain ⟨p0, hp0⟩ : ∃ p0, p0 = j + i2 := ⟨_, rfl⟩
      have x1 : (j : Int) + (lb : Int) = (p2 : Int) := by omega
      have x2 : (p2 : Int) - 1 = (p1 : Int) := by omega
      have x3 : (p2 : Int) - 2 = (p0 : Int) := by omega
      have x1' : IntKind.i64.wrap ((j : Int) + (lb : Int)) = (p2 : Int) := by rw [x1, wrap_i64']; omega
      have x2' : IntKind.i64.wrap ((p2 : Int) - 1) = (p1 : Int) := by rw [x2, wrap_i64']; omega
      have x3' : IntKind.i64.wrap ((p2 : Int) - 2) = (p0 : Int) := by rw [x3, wrap_i64']; omega
      have x4' : IntKind.i64.wrap ((lb : Int) - 1) = (n1 : Int) := by rw [f2', wrap_i64']; omega
      have x5' : IntKind.i64.wrap ((lb : Int) - 2) = (i2 : Int) := by rw [f3', wrap_i64']; omega
      have hp2a : (p2 : Int) < (lu : Int) := by omega
      have hp1a : (p1 : Int) < (lu : Int) := by omega
      have hp0a : (p0 : Int) < (lu : Int) := by omega
      have hn1b : (n1 : Int) < (lb : Int) := by omega
      have hi2b : (i2 : Int) < (lb : Int) := by omega
      have hp2z : (0 : Int) ≤ (p2 : Int) := by omega
      have hp1z : (0 : Int) ≤ (p1 : Int) := by omega
      have hp0z : (0 : Int) ≤ (p0 : Int) := by omega
      have hn1z : (0 : Int) ≤ (n1 : Int) := by omega
      have hi2z : (0 : Int) ≤ (i2 : Int) := by omega
      have c2 : wr.cell? ⟨R, p2, none⟩ = some (.int .u32 u2) := by rw [hu2, hp2]; exact hru.cell _ (by omega)
      have c1 : wr.cell? ⟨R, p1, none⟩ = some (.int .u32 u1) := by rw [hu1, hp1]; exact hru.cell _ (by omega)
      have c0 : wr.cell? ⟨R, p0, none⟩ = some (.int .u32 u0) := by rw [hu0, hp0]; exact hru.cell _ (by omega)
      have hsdw := HSDb.out wr hbw
      have e1 : wr.cell? ⟨bd, od + n1, none⟩ = some (.int .u32 d1) := by
        obtain ⟨bb, oo, e, cc⟩ := hsdw.cell (i2 + 1) (by have := Hdl.out; omega)
        cases e; rw [hd1, Hn1.out]; exact cc
      have e0 : wr.cell? ⟨bd, od + i2, none⟩ = some (.int .u32 d0) := by
        obtain ⟨bb, oo, e, cc⟩ := hsdw.cell i2 (by have := Hdl.out; omega)
        cases e; rw [hd0]; exact cc
      have hu1b : u1 < 4294967296 := by rw [hu1]; exact hLu _ (by omega)
      have hu0b : u0 < 4294967296 := by rw [hu0]; exact hLu _ (by omega)
      have hd1b : d1 < 4294967296 := by rw [hd1]; exact Hlim.out _ (by have := Hdl.out; omega)
      have hd0b : d0 < 4294967296 := by rw [hd0]; exact Hlim.out _ (by have := Hdl.out; omega)
      obtain ⟨G, hG⟩ : ∃ G, G = gl ((u2 * 4294967296 + u1) * 4294967296 + u0) (d1 * 4294967296 + d0) := ⟨_, rfl⟩
      have hGG := gl_guess (N3 := (u2 * 4294967296 + u1) * 4294967296 + u0) (D2 := d1 * 4294967296 + d0) (by omega)
      rw [← hG] at hGG
      have HGc : Hid _ := fun ww => guess_det u2 u1 u0 d1 d0 G htop2 hu1b hu0b hd1b htop31 hd0b ww hGG
      have hGb := hGG.lt
      have HGl : Hid _ := hguess G hGG
      have HM : Hid _ := S
      have hbdw : bd < wr.heap.size := World.block_lt_of_cell? _ _ e0
      clear hM hG hGG hguess hru hLu hlu S hlt hbw hu2 hu1 hu0 hd1 hd0 hsdw hp2 hp1 hp0 htop31
      go_wp2
      go_quiet ((go_at_call 198; exact Calls.quiet_of (HGc.out _)))
      have x6 : (p2 : Int) + 1 = ((j + (lb + 1) : Nat) : Int) := by omega
      obtain ⟨p3, hp3⟩ : ∃ p3, p3 = j + (lb + 1) := ⟨_, rfl⟩
      rw [← hp3] at x6
      have hp3a : (p3 : Int) ≤ (lu : Int) := by omega
      have hp3b : (j : Int) ≤ (p3 : Int) := by omega
      have hp3c : p3 ≤ lu := by omega
      have hp3d : j ≤ p3 := by omega
      have hsubp : p3 - j = lb + 1 := by omega
      clear hp3
      have HTA : Hid (Unit → Calls Oafg.prog 199 #[.slice (some ⟨R, j, none⟩) (lb + 1 : Nat) (lu - j), .slice (some ⟨bd, od, none⟩) lb cap3, .int .u32 G] (wr.drewN nq) fun e w' => ∃ vs bw, e = .returned (.bool (decide (bw = 1))) ∧ Taken (wr.drewN nq) w' R j lb D G bw us vs) := fun _ => by
        have S := HM.out
        have hsl : SL (wr.drewN nq) (some ⟨bd, od, none⟩) cap3 ds := HSDb.out _ (below_dN S.bel nq)
        refine (takeAway_any (w := wr.drewN nq) (R := R) (off := j) (n := lb) (cap := lu - j) (digit := G) (cs := us) (ds := ds) ⟨S.ru.cell, S.ru.fz⟩ S.lu hsl (fun b o e => by cases e; exact hRbd) (by rw [Hdl.out, ← Hhi2.out]) (by rw [S.nu]; omega) hGb (by omega)).mono ?_
        rintro e w' ⟨vs, bw, k1, k2, k3, k4, k5, k6, k7, k8⟩
        rw [Hld.out] at k7
        exact ⟨vs, bw, k1, ⟨k2, k3, k4, k5, k6, k7, k8⟩⟩
      have HDp : Hid (0 < D) := Nat.lt_of_lt_of_le (Nat.two_pow_pos _) hD1
      have HDl : Hid (D < 4294967296 ^ lb) := by rw [Hhi2.out, limb_pow]; exact hD2
      clear HGc
      go_upto_if 89 with ((go_at_call 199; refine (HTA.out ()).mono ?_; rintro e w3 ⟨vs, bw, rfl, hT⟩; have HT : Hid _ := hT; clear hT))
      have HGl1 : Hid _ := HGl.out.1
      have HGl2 : Hid _ := HGl.out.2
      clear HTA HGl
      obtain ⟨bb, hbb⟩ : ∃ bb, bb = decide (bw = 1) := ⟨_, rfl⟩
      rw [← hbb]
      by_cases hb : bw = 1
      · obtain rfl : bb = true := by rw [hbb, hb]; rfl
        subst hb
        clear hbb
        have hG1 := LongS.least HM.out HDl.out (by rw [HM.out.nu]; omega) HT.out
        obtain ⟨g, hg⟩ : ∃ g, g = G - 1 := ⟨_, rfl⟩
        have y1 : IntKind.u32.wrap ((G : Int) - 1) = (g : Int) := by rw [IntKind.wrap_u32]; omega
        have HPB : Hid (Unit → Calls Oafg.prog 200 #[.slice (some ⟨R, j, none⟩) (lb + 1 : Nat) (lu - j), .slice (some ⟨bd, od, none⟩) lb cap3] w3 fun e w' => (∃ v, e = .returned v) ∧ (w'.cell? ⟨Q, j, none⟩ = some (.int .u32 0) ∧ w'.frozen? ⟨Q, j, none⟩ = false) ∧ Hid (LongI w1 (w'.setCell ⟨Q, j, none⟩ (.int .u32 g)) R Q la lq D (A0 * 2 ^ s) j)) := fun _ => by
          have S := HM.out
          have T := HT.out
          have hsl : SL w3 (some ⟨bd, od, none⟩) cap3 ds := (HSDb.out _ (below_dN S.bel nq)).only T.only (fun b o e => by cases e; exact hRbd)
          refine (putBack_any (w := w3) (R := R) (off := j) (n := lb) (cap := lu - j) (cs := vs) (ds := ds) T.row T.lim hsl (fun b o e => by cases e; exact hRbd) (by rw [Hdl.out, ← Hhi2.out]) (by rw [T.len, S.nu]; omega) (by omega)).mono ?_
          rintro e w' ⟨k0, xs', cy, k3, k4, k5, k6, k7, k8⟩
          rw [Hld.out] at k7
          obtain ⟨g', hg', hcq, hL⟩ := S.over (Nat.le_of_eq HR.out.symm) hRQ (by omega) HDp.out HDl.out (by rw [S.nu]; omega) hGb HGl2.out T k3 k4 k5 k6 k7 k8
          obtain rfl : g' = g := by omega
          exact ⟨k0, hcq, hL⟩
        clear hg HT HM
        go_upto_region 14 with ((go_at_call 200; refine (HPB.out ()).mono ?_; rintro e w4 ⟨⟨v, rfl⟩, ⟨hcq, hfq⟩, HL⟩))
        clear HPB
        go_wp2
        go_roundw
        case rel => exact ⟨j, by omega, rfl, HL⟩
        case measure => simp [intOf]
      · obtain ⟨⟨hcq, hfq⟩, hL⟩ := LongS.right HM.out (Nat.le_of_eq HR.out.symm) hRQ (by omega) HDp.out hGb HGl1.out HT.out hb
        have HL : Hid _ := hL
        obtain rfl : bb = false := by rw [hbb]; simp [hb]
        clear hL HT HM hbb
        go_wp2
        go_roundw
        case rel => exact ⟨j, by omega, rfl, HL⟩
        case measure => simp [intOf]
end Go.Proofs.Ygcoaf
