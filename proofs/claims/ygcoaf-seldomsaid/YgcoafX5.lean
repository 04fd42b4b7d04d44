/-
  PACKAGE exact, the fifth: pack, MakeRat.
-/
import Derived.Test.YgcoafX4
namespace Go.Proofs.Ygcoaf
open Go.RowKit Go.Proofs.Ygcoaf.M

def packV (E M mode : Nat) (neg : Bool) (x : Nat) : Nat := if infR E M ≤ x then ovf E M mode neg else x + sgn E M neg
def packF (E M : Nat) (sm tiny : Bool) (x : Nat) : Nat := if infR E M ≤ x then 20 else if sm = false then 0 else if tiny = true then 24 else 16

/-- the format's and the rest's cells -/
structure PK (w : World) (R R2 E M : Nat) (C : Int) (sm : Bool) (w' : World) : Prop where
  below : Below w.heap.size w w'
  cE : w'.cell? ⟨R, 0, none⟩ = some (.int .u8 E)
  cM : w'.cell? ⟨R, 1, none⟩ = some (.int .u8 M)
  cC : w'.cell? ⟨R2, 0, none⟩ = some (.int .i8 C)
  cS : w'.cell? ⟨R2, 1, none⟩ = some (.bool sm)
theorem PK.call {w W w' : World} {R R2 E M : Nat} {C : Int} {sm : Bool} (s : PK w R R2 E M C sm W) (h : Below W.heap.size W w') : PK w R R2 E M C sm w' := by
  have l9 : R < W.heap.size := World.block_lt_of_cell? _ _ s.cE
  have l11 : R2 < W.heap.size := World.block_lt_of_cell? _ _ s.cC
  obtain ⟨hc, hf⟩ := bcell h
  exact ⟨bt s.below h, by rw [hc _ _ l9]; exact s.cE, by rw [hc _ _ l9]; exact s.cM, by rw [hc _ _ l11]; exact s.cC, by rw [hc _ _ l11]; exact s.cS⟩

theorem or_sgn {E M : Nat} (h2 : E ≤ 11) (h4 : M ≤ 52) (neg : Bool) (x : Nat) (hx : x < infR E M) : bits .or .u64 (x : Int) ((sgn E M neg : Nat) : Int) = ((x + sgn E M neg : Nat) : Int) := by
  have a := infR_lt E M
  have b : 2 ^ (E + M) ≤ 2 ^ 63 := two_pow_le (by omega)
  have c := sgn_lt E M neg (by omega)
  rw [u64_or_nat _ _ (by omega) (by omega)]
  congr 1
  cases neg
  · simp [sgn]
  · have := or_add x (E + M) (by omega)
    simpa [sgn] using this

set_option maxHeartbeats 1000000 in
/-- exact.pack -/
theorem pack_yes {E M : Nat} (h1 : 2 ≤ E) (h2 : E ≤ 11) (h3 : 2 ≤ M) (h4 : M ≤ 52) (mode : Nat) (hm : mode < 256) (neg : Bool) (e : Int) (he1 : lo E ≤ e) (he2 : e ≤ biasN E) (n : Nat) (hn : n ≤ 2 ^ (M + 1)) (C : Int) (sm tiny : Bool) (w : World) :
    Calls Oafg.prog 133 #[.agg #[.int .u8 E, .int .u8 M], .int .u8 mode, .bool neg, .int .i64 e, .int .u64 n, .agg #[.int .i8 C, .bool sm], .bool tiny] w fun r w' =>
      r = .returned (.tuple #[.int .u64 (packV E M mode neg ((e - lo E).toNat * 2 ^ M + n) : Nat), .int .u8 (packF E M sm tiny ((e - lo E).toNat * 2 ^ M + n) : Nat)]) ∧ Below w.heap.size w w' := by
  have hbd := biasN_bd h1 h2
  have hbt := bias_two h1
  obtain ⟨d, hd⟩ : ∃ d, d = (e - lo E).toNat := ⟨_, rfl⟩
  have f1 : e - lo E = (d : Int) := by omega
  have hlo : lo E = 1 - biasN E := rfl
  have hE : 2 ^ E ≤ 2 ^ 11 := two_pow_le h2
  have hEc := cast_two_pow E
  have hd2 : d < 2 ^ E := by omega
  obtain ⟨p, hp⟩ : ∃ p, p = d * 2 ^ M := ⟨_, rfl⟩
  have hM52 : 2 ^ M ≤ 2 ^ 52 := two_pow_le h4
  have hp2 : p ≤ 2048 * 4503599627370496 := by rw [hp]; exact Nat.mul_le_mul (by omega) (by simpa using hM52)
  obtain ⟨x, hx⟩ : ∃ x, x = p + n := ⟨_, rfl⟩
  have hn2 : n ≤ 9007199254740992 := by
    have : 2 ^ (M + 1) ≤ 2 ^ 53 := two_pow_le (by omega)
    omega
  rw [← hd, ← hp, ← hx]
  have f2 : (d : Int) * 2 ^ M = (p : Int) := by rw [hp]; simp
  have f3 : (p : Int) + (n : Int) = (x : Int) := by omega
  have hx2 : x < 18446744073709551616 := by omega
  obtain ⟨em, hem⟩ : ∃ em, em = lo E := ⟨_, rfl⟩
  have hem1 : -2000 ≤ em ∧ em ≤ 0 := by omega
  have hee : -2000 ≤ e ∧ e ≤ 2000 := by omega
  have HEM : Hid _ := fun ww => emin_yes h1 h2 h3 h4 ww
  rw [← hem] at HEM f1
  have hd3 : d < 2048 := by omega
  obtain ⟨V, hV⟩ : ∃ V, V = packV E M mode neg x := ⟨_, rfl⟩
  obtain ⟨F, hF⟩ : ∃ F, F = packF E M sm tiny x := ⟨_, rfl⟩
  rw [← hV, ← hF]
  unfold packV at hV
  unfold packF at hF
  have HV : Hid _ := hV
  have HF : Hid _ := hF
  have f0' : IntKind.i64.wrap (d : Int) = (d : Int) := by rw [wrap_i64']; omega
  have f2' : IntKind.u64.wrap ((d : Int) * 2 ^ M) = (p : Int) := by rw [f2, IntKind.wrap_u64]; omega
  have f3' : IntKind.u64.wrap ((p : Int) + (n : Int)) = (x : Int) := by rw [f3, IntKind.wrap_u64]; omega
  have f4' : IntKind.u64.wrap (d : Int) = (d : Int) := by rw [IntKind.wrap_u64]; omega
  have hfin : Hid (IntKind.u64.wrap (IntKind.u64.wrap (IntKind.u64.wrap (IntKind.i64.wrap ↑d) * 2 ^ M) + ↑n) = ↑x) := by show _ = _; rw [f0', f4', f2', f3']
  clear f0' f2' f3' f4'
  clear hV hF hd hp hx hbt hE hEc hd2 hM52 hem hlo he1 he2 hbd hn
  go_enter Oafg.func133, Oafg.ntmps133
  go_upto_region 1 with fail
  have hPK : PK w w.heap.size (w.heap.size + 1) E M C sm ((w.alloc (.cells #[.int .u8 E, .int .u8 M] 27)).alloc (.cells #[.int .i8 C, .bool sm] 149)) := by
    refine ⟨self2, ?_, ?_, ?_, ?_⟩ <;> simp [go_sem]
  generalize hW : ((w.alloc (.cells #[.int .u8 E, .int .u8 M] 27)).alloc (.cells #[.int .i8 C, .bool sm] 149)) = W at hPK ⊢
  obtain ⟨R, hR⟩ : ∃ R, R = w.heap.size := ⟨_, rfl⟩
  obtain ⟨R2, hR2⟩ : ∃ R2, R2 = w.heap.size + 1 := ⟨_, rfl⟩
  simp only [← hR2]
  rw [← hR2] at hPK
  simp only [← hR]
  have hPK' : PK w R R2 E M C sm W := by rw [hR]; exact hPK
  have HPK : Hid _ := hPK'
  have c0 := hPK'.cE
  have c1 := hPK'.cM
  have hlt := World.block_lt_of_cell? _ _ c0
  simp only at hlt
  clear hPK hPK' hW hR hR2
  go_cut [16] (fun t w' => t = .int .u64 x ∧ Hid (PK w R R2 E M C sm w'))
  case first =>
    have hS0 : HB W W := HB.start
    have hcl := HB.cells (W := W)
    go_region_held3 (fun w' => HB W w')
      (repeat' (first | with_reducible exact hSu | with_reducible exact hS0 | with_reducible apply HB.drew))
      ((go_at_call 127; refine (HEM.out _).mono ?_; rintro e' w2 ⟨rfl, hbu⟩; have hSu := HB.call (by assumption) hbu))
    all_goals
      rename_i hH
      go_wp2_with fail
      go_meet
      case rel => exact ⟨by rw [hfin.out], HPK.out.call hH⟩
  case rest =>
    obtain ⟨rfl, hK⟩ := hcut
    have c0 := hK.out.cE
    have c1 := hK.out.cM
    clear HPK HEM f1 f2 f3 hfin
    have HI : Hid _ := fun ww => inf_yes h1 h2 h3 h4 false ww
    have eI : infR E M + sgn E M false = infR E M := by simp [sgn]
    rw [eI] at HI
    have HZ : Hid _ := fun ww => ezero_yes h1 h2 h3 h4 neg ww
    obtain ⟨I, hI⟩ : ∃ I, I = infR E M := ⟨_, rfl⟩
    rw [← hI] at HI HV HF
    by_cases cx : I ≤ x
    · have hV : V = ovf E M mode neg := by rw [HV.out, if_pos cx]
      have hF : F = 20 := by rw [HF.out, if_pos cx]
      have HO : Hid _ := fun ww => eover_yes h1 h2 h3 h4 mode hm neg ww
      rw [← hV] at HO
      subst hF
      clear hV HV HF hI eI
      have cx' : (I : Int) ≤ (x : Int) := by omega
      go_wp2_with (first
        | (go_at_call 112; refine (HI.out _).mono ?_; rintro e' w2 ⟨rfl, hb2⟩; have hK2 : Hid _ := hK.out.call hb2; have q0 := hK2.out.cE; have q1 := hK2.out.cM; clear hb2)
        | (go_at_call 129; refine (HO.out _).mono ?_; rintro e' w3 ⟨rfl, hb3⟩))
      go_ret2
      exact ⟨rfl, bt hK2.out.below hb3⟩
    · have hV : V = x + sgn E M neg := by rw [HV.out, if_neg cx]
      have hO := or_sgn h2 h4 neg x (by omega)
      rw [← hV] at hO
      have hF : F = if sm = false then 0 else if tiny = true then 24 else 16 := by rw [HF.out, if_neg cx]
      obtain ⟨sg, hsg⟩ : ∃ sg, sg = sgn E M neg := ⟨_, rfl⟩
      rw [← hsg] at hO HZ
      clear hV HV HF hI eI hsg
      cases sm
      · rw [if_pos rfl] at hF
        subst hF
        go_wp2_with (first
          | (go_at_call 112; refine (HI.out _).mono ?_; rintro e' w2 ⟨rfl, hb2⟩; have hK2 : Hid _ := hK.out.call hb2; have q0 := hK2.out.cE; have q1 := hK2.out.cM; have q2 := hK2.out.cC; have q3 := hK2.out.cS; clear hb2)
          | (go_at_call 125; refine (HZ.out _).mono ?_; rintro e' w3 ⟨rfl, hb3⟩))
        go_ret2
        exact ⟨rfl, bt hK2.out.below hb3⟩
      · rw [if_neg (by simp)] at hF
        cases tiny
        · rw [if_neg (by simp)] at hF
          subst hF
          go_wp2_with (first
            | (go_at_call 112; refine (HI.out _).mono ?_; rintro e' w2 ⟨rfl, hb2⟩; have hK2 : Hid _ := hK.out.call hb2; have q0 := hK2.out.cE; have q1 := hK2.out.cM; have q2 := hK2.out.cC; have q3 := hK2.out.cS; clear hb2)
            | (go_at_call 125; refine (HZ.out _).mono ?_; rintro e' w3 ⟨rfl, hb3⟩))
          go_ret2
          exact ⟨rfl, bt hK2.out.below hb3⟩
        · rw [if_pos rfl] at hF
          subst hF
          go_wp2_with (first
            | (go_at_call 112; refine (HI.out _).mono ?_; rintro e' w2 ⟨rfl, hb2⟩; have hK2 : Hid _ := hK.out.call hb2; have q0 := hK2.out.cE; have q1 := hK2.out.cM; have q2 := hK2.out.cC; have q3 := hK2.out.cS; clear hb2)
            | (go_at_call 125; refine (HZ.out _).mono ?_; rintro e' w3 ⟨rfl, hb3⟩))
          go_ret2
          exact ⟨rfl, bt hK2.out.below hb3⟩

theorem NatV.sl {w : World} {v : Value} {n : Nat} (s : NatV w v n) : ∃ (ad : Option Addr) (l c : Nat), v = .slice ad l c := by
  obtain ⟨rfl, rfl⟩ | ⟨b, off, cap, xs, h1, _⟩ := s.out
  · exact ⟨_, _, _, rfl⟩
  · exact ⟨_, _, _, h1⟩
theorem kept3 {w w3 : World} {u v x : Value} {t : TypeId} (h : Below (w.alloc (.cells #[u, v, x] t)).heap.size (w.alloc (.cells #[u, v, x] t)) w3) :
    (w3.cell? ⟨w.heap.size, 0, none⟩ = some u ∧ w3.cell? ⟨w.heap.size, 1, none⟩ = some v ∧ w3.cell? ⟨w.heap.size, 2, none⟩ = some x) ∧ w3.frozen? ⟨w.heap.size, 0, none⟩ = false ∧ w3.frozen? ⟨w.heap.size, 1, none⟩ = false ∧ w3.frozen? ⟨w.heap.size, 2, none⟩ = false := by
  obtain ⟨hc, hf⟩ := bcell h
  have hl : w.heap.size < (w.alloc (.cells #[u, v, x] t)).heap.size := by simp
  rw [hc _ _ hl, hc _ _ hl, hc _ _ hl, hf _ _ hl, hf _ _ hl, hf _ _ hl]
  simp [go_sem]
/-- three cells that hold no limb are written -/
theorem NatV.set3 {w : World} {v : Value} {n R : Nat} (s : NatV w v n) {c0 c1 c2 : Value} (u0 u1 u2 : Value) (h0 : w.cell? ⟨R, 0, none⟩ = some c0) (h1 : w.cell? ⟨R, 1, none⟩ = some c1) (h2 : w.cell? ⟨R, 2, none⟩ = some c2)
    (k0 : ∀ x, c0 ≠ .int .u32 x) (k1 : ∀ x, c1 ≠ .int .u32 x) (k2 : ∀ x, c2 ≠ .int .u32 x) :
    NatV (((w.setCell ⟨R, 0, none⟩ u0).setCell ⟨R, 1, none⟩ u1).setCell ⟨R, 2, none⟩ u2) v n := by
  refine (s.set2 u0 u1 h0 h1 k0 k1).setOther u2 (c := c2) ?_ k2
  rw [World.cell?_setCell_other (h := fun h => absurd (congrArg Addr.off h) (by show ¬ ((1 : Nat) = 2); decide)), World.cell?_setCell_other (h := fun h => absurd (congrArg Addr.off h) (by show ¬ ((0 : Nat) = 2); decide))]
  exact h2
theorem below_set3 {w w3 : World} {R : Nat} (u0 u1 u2 : Value) (h : Below w.heap.size w w3) (hR : w.heap.size ≤ R) : Below w.heap.size w (((w3.setCell ⟨R, 0, none⟩ u0).setCell ⟨R, 1, none⟩ u1).setCell ⟨R, 2, none⟩ u2) :=
  (below_set2 u0 u1 h hR).setCell (p := ⟨R, 2, none⟩) hR u2

/-- exact.MakeRat -/
theorem makeRat_nat {w : World} {va vb : Value} {A B : Nat} (neg : Bool) (s1 : NatV w va A) (s2 : NatV w vb B) (b1 : bl A ≤ 900000) (b2 : bl B ≤ 900000) (hB : B ≠ 0) :
    Calls Oafg.prog 124 #[.bool neg, va, vb] w fun e w' => (∃ v1 v2, e = .returned (.agg #[.bool neg, v1, v2]) ∧ NatV w' v1 A ∧ NatV w' v2 B) ∧ Below w.heap.size w w' := by
  have hbw : Below w.heap.size w (w.alloc (.cells #[.bool false, .slice none 0 0, .slice none 0 0] 66)) := self1
  have T2 : Hid _ := fun (_ : Unit) => take_nat (s2.call hbw) (by omega)
  have HS1 : Hid _ := s1.call hbw
  have qE := eqNil
  clear s1 s2 hbw
  go_enter Oafg.func124, Oafg.ntmps124
  go_upto_region 2 with (go_at_call 178; refine (T2.out ()).mono ?_; rintro e w1 ⟨⟨v2, rfl, hN2⟩, hb1⟩)
  obtain ⟨b0, off0, cap0, xs, rfl, _⟩ := hN2.pos hB
  have HN2 : Hid _ := hN2
  have HT1 : Hid _ := fun (_ : Unit) => take_nat (HS1.out.call hb1) (by omega)
  have HB1 : Hid _ := hb1
  clear hN2 hb1
  go_wp2_with (go_at_call 178; refine (HT1.out ()).mono ?_; rintro e w2 ⟨⟨v1, rfl, hN1⟩, hb2⟩; obtain ⟨ad1, l1, c1, rfl⟩ := hN1.sl; obtain ⟨⟨k0, k1, k2⟩, k3, k4, k5⟩ := kept3 (bt HB1.out hb2); have HN1 : Hid _ := hN1; have HB2 : Hid _ := hb2; clear hN1 hb2)
  refine bodyPost_ret (v := .agg #[.bool neg, .slice ad1 l1 c1, .slice (some ⟨b0, off0, none⟩) xs.length cap0]) (by simp [results, Oafg.results124, go_sem, k0, k1, k2]) rfl ⟨⟨_, _, rfl, ?_, ?_⟩, ?_⟩
  · exact HN1.out.set3 _ _ _ k0 k1 k2 (fun x => by simp) (fun x => by simp) (fun x => by simp)
  · exact (HN2.out.call HB2.out).set3 _ _ _ k0 k1 k2 (fun x => by simp) (fun x => by simp) (fun x => by simp)
  · exact below_set3 _ _ _ (bt (below1 HB1.out) HB2.out) (Nat.le_refl _)
end Go.Proofs.Ygcoaf
