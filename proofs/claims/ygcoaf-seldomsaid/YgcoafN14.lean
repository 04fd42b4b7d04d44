/-
  nat.takeAway, putBack: they write into a row of their caller's.
-/
import Derived.Test.YgcoafN13
namespace Go.Proofs.Ygcoaf
open Go.RowKit

/-- of what was there only block R has turned -/
structure Only (R : Nat) (w w' : World) : Prop where
  os : w'.os = w.os
  tape : w'.tape = w.tape
  output : w'.output = w.output
  size : w.heap.size ≤ w'.heap.size
  block : ∀ k, k ≠ R → k < w.heap.size → w'.heap[k]? = w.heap[k]?
theorem Only.refl (R : Nat) (w : World) : Only R w w := ⟨rfl, rfl, rfl, Nat.le_refl _, fun _ _ _ => rfl⟩
theorem Only.setCell {R : Nat} {w w1 : World} (h : Only R w w1) (i : Nat) (v : Value) : Only R w (w1.setCell ⟨R, i, none⟩ v) :=
  ⟨h.os, h.tape, h.output, by simpa [World.setCell] using h.size, fun k hk hl => by rw [Below.heap_setCell _ _ _ _ (by simpa using hk)]; exact h.block k hk hl⟩
theorem Only.cell {R : Nat} {w w1 : World} (h : Only R w w1) {b o : Nat} (hb : b ≠ R) (hl : b < w.heap.size) : w1.cell? ⟨b, o, none⟩ = w.cell? ⟨b, o, none⟩ := World.cell?_of_block (w := w) (h.block b hb hl)
theorem Only.frozen {R : Nat} {w w1 : World} (h : Only R w w1) {b o : Nat} (hb : b ≠ R) (hl : b < w.heap.size) : w1.frozen? ⟨b, o, none⟩ = w.frozen? ⟨b, o, none⟩ := World.frozen?_of_block (w := w) (h.block b hb hl)
theorem Only.below {R : Nat} {w w1 w2 : World} (h : Only R w1 w2) (hb : Below w.heap.size w w1) (hR : w.heap.size ≤ R) : Below w.heap.size w w2 :=
  hb.trans ⟨h.os, h.tape, h.output, h.size, fun k hk => h.block k (by omega) (Nat.lt_of_lt_of_le hk hb.size)⟩
theorem SL.only {R : Nat} {w w1 : World} {ad : Option Addr} {cap : Nat} {xs : List Nat} (s : SL w ad cap xs) (h : Only R w w1) (hne : ∀ b o, ad = some ⟨b, o, none⟩ → b ≠ R) : SL w1 ad cap xs :=
  ⟨s.lim, s.fits, fun i hi => by
    obtain ⟨b, off, e, c⟩ := s.cell i hi
    exact ⟨b, off, e, by rw [h.cell (hne b off e) (World.block_lt_of_cell? _ _ c)]; exact c⟩⟩
theorem Row.only {R Q : Nat} {w w1 : World} {xs : List Nat} (s : Row w Q xs) (h : Only R w w1) (hne : Q ≠ R) (hl : Q < w.heap.size) : Row w1 Q xs :=
  ⟨fun i hi => by rw [h.cell hne hl]; exact s.cell i hi, fun i => by rw [h.frozen hne hl]; exact s.fz i⟩

/-- what takeAway's loop holds -/
structure TakeI (w wr : World) (R off : Nat) (cs ds : List Nat) (digit i carry bw : Nat) : Prop where
  out : ∃ cs', Row wr R cs' ∧ Lim cs' ∧ cs'.length = cs.length ∧ cs'.drop (off + i) = cs.drop (off + i) ∧
    lv cs' + 4294967296 ^ off * (digit * lv (ds.take i)) = lv cs + 4294967296 ^ (off + i) * (carry + bw) ∧ Only R w wr

theorem lv_take_next (ds : List Nat) (i : Nat) : lv (ds.take (i + 1)) = lv (ds.take i) + 4294967296 ^ i * ds.getD i 0 := by
  by_cases h : i < ds.length
  · exact lv_take_succ ds i h
  · rw [List.take_of_length_le (by omega), List.take_of_length_le (by omega), List.getD_eq_getElem?_getD, List.getElem?_eq_none (by omega)]; simp

theorem TakeI.step {w wr : World} {R off : Nat} {cs ds : List Nat} {digit i carry bw : Nat} (o : TakeI w wr R off cs ds digit i carry bw) (hi : off + i < cs.length) :
    ∃ u : Nat, u < 4294967296 ∧ wr.cell? ⟨R, off + i, none⟩ = some (.int .u32 u) ∧ wr.frozen? ⟨R, off + i, none⟩ = false ∧
      ∀ T lo c' v bw', T = carry + digit * ds.getD i 0 → lo = T % 4294967296 → c' = T / 4294967296 → v < 4294967296 → u + 4294967296 * bw' = v + lo + bw →
        TakeI w (wr.setCell ⟨R, off + i, none⟩ (.int .u32 v)) R off cs ds digit (i + 1) c' bw' := by
  obtain ⟨cs', h1, h2, h3, h4, h5, h6⟩ := o.out
  refine ⟨cs'.getD (off + i) 0, h2 _ (by omega), h1.cell _ (by omega), h1.fz _, fun T lo c' v bw' hT hlo hc hv he => ⟨cs'.set (off + i) v, h1.set _ _ (by omega), h2.set _ _ hv, by rw [List.length_set]; exact h3, ?_, ?_, h6.setCell _ _⟩⟩
  · rw [show off + (i + 1) = off + i + 1 from by omega, drop_set_lt, ← List.drop_drop, h4, List.drop_drop]
  · have e1 := lv_set cs' (off + i) v (by omega)
    have e2 := lv_take_next ds i
    have e3 := Nat.div_add_mod T 4294967296
    rw [← hlo, ← hc] at e3
    rw [e2, show off + (i + 1) = off + i + 1 from by omega, Nat.pow_succ]
    rw [Nat.pow_add] at e1 h5 ⊢
    generalize lv (cs'.set (off + i) v) = L' at *
    generalize cs'.getD (off + i) 0 = u at *
    generalize lv cs' = L at *
    generalize lv cs = G at *
    generalize lv (ds.take i) = X at *
    generalize ds.getD i 0 = d at *
    generalize 4294967296 ^ off = P at *
    generalize 4294967296 ^ i = Q at *
    clear hlo hc h1 h2 h3 h4 h6 o hv e2
    grind

theorem borrow_parts (u lo bw : Nat) (hu : u < 4294967296) (hl : lo < 4294967296) (hb : bw ≤ 1) : ∃ X1 X v bw' : Nat, IntKind.u64.wrap ((u : Int) - (lo : Int)) = (X1 : Int) ∧ X1 < 18446744073709551616 ∧ IntKind.u64.wrap ((X1 : Int) - (bw : Int)) = (X : Int) ∧ X < 18446744073709551616 ∧
    IntKind.u32.wrap (X : Int) = (v : Int) ∧ (X : Int) / 9223372036854775808 = (bw' : Int) ∧ v < 4294967296 ∧ bw' ≤ 1 ∧ u + 4294967296 * bw' = v + lo + bw := by
  refine ⟨(u + 18446744073709551616 - lo) % 18446744073709551616, ((u + 18446744073709551616 - lo) % 18446744073709551616 + 18446744073709551616 - bw) % 18446744073709551616, (((u + 18446744073709551616 - lo) % 18446744073709551616 + 18446744073709551616 - bw) % 18446744073709551616) % 4294967296, (((u + 18446744073709551616 - lo) % 18446744073709551616 + 18446744073709551616 - bw) % 18446744073709551616) / 9223372036854775808, ?_, ?_, ?_, ?_, ?_, ?_, ?_, ?_, ?_⟩
  · rw [IntKind.wrap_u64]; omega
  · omega
  · rw [IntKind.wrap_u64]; omega
  · omega
  · rw [IntKind.wrap_u32]; omega
  · omega
  · omega
  · omega
  · omega

set_option maxRecDepth 8000 in
/-- nat.takeAway -/
theorem takeAway_any {w : World} {R off n cap capd digit : Nat} {ad : Option Addr} {cs ds : List Nat} (r : Row w R cs) (hL : Lim cs) (s : SL w ad capd ds) (hne : ∀ b o, ad = some ⟨b, o, none⟩ → b ≠ R) (hn : ds.length = n)
    (hfit : off + n + 1 ≤ cs.length) (hdig : digit < 4294967296) (hsm : n ≤ 100000) :
    Calls Oafg.prog 199 #[.slice (some ⟨R, off, none⟩) (n + 1 : Nat) cap, .slice ad n capd, .int .u32 digit] w fun e w' =>
      ∃ cs' bw, e = .returned (.bool (decide (bw = 1))) ∧ bw ≤ 1 ∧ Row w' R cs' ∧ Lim cs' ∧ cs'.length = cs.length ∧ cs'.drop (off + n + 1) = cs.drop (off + n + 1) ∧
        lv cs' + 4294967296 ^ off * (digit * lv ds) = lv cs + 4294967296 ^ (off + n + 1) * bw ∧ Only R w w' := by
  have H0 : Hid (TakeI w w R off cs ds digit 0 0 0) := ⟨cs, r, hL, rfl, rfl, by simp [lv], Only.refl _ _⟩
  have HS : Hid _ := s
  have Hne : Hid _ := hne
  have Hn : Hid _ := hn
  have Hfit : Hid _ := hfit
  clear r hL s hne hn hfit
  obtain ⟨len, hlen⟩ : ∃ len, len = n + 1 := ⟨_, rfl⟩
  rw [← hlen]
  have hl1 : len ≤ n + 1 := by omega
  have hl2 : n + 1 ≤ len := by omega
  have Hlen : Hid _ := hlen
  clear hlen
  go_enter Oafg.func199, Oafg.ntmps199
  go_wp2
  go_loopw [13, 7, 8] (fun j cy b wr => ∃ i carry bw : Nat, i ≤ len ∧ j = .int .i64 i ∧ cy = .int .u64 carry ∧ carry < 4294967296 ∧ b = .int .u64 bw ∧ bw ≤ 1 ∧ Hid (TakeI w wr R off cs ds digit i carry bw) ∧ Hid (n < i → carry = 0)) (fun j _ _ _ => len - (intOf j).toNat)
  case atStart => exact ⟨0, 0, 0, by omega, rfl, rfl, by decide, rfl, by decide, H0, fun _ => rfl⟩
  case round =>
    obtain ⟨i, carry, bw, hi, rfl, rfl, hcy, rfl, hbw, hM, hz⟩ := hrel
    by_cases c : i < len
    · obtain ⟨u, hu, hcell, hfz, hnext⟩ := hM.out.step (by have := Hfit.out; omega)
      by_cases c2 : i < n
      · have hids : i < ds.length := by have := Hn.out; omega
        obtain ⟨b1, o1, d, rfl, hd1, hd2, hcd⟩ : ∃ b1 o1 d, ad = some ⟨b1, o1, none⟩ ∧ d = ds.getD i 0 ∧ d < 4294967296 ∧ wr.cell? ⟨b1, o1 + i, none⟩ = some (.int .u32 d) := by
          obtain ⟨cs', _, _, _, _, _, h6⟩ := hM.out.out
          obtain ⟨b1, o1, e, cc⟩ := (HS.out.only h6 Hne.out).cell i hids
          exact ⟨b1, o1, _, e, rfl, HS.out.lim i hids, cc⟩
        rw [← hd1] at hnext
        obtain ⟨p, hp⟩ : ∃ p, p = digit * d := ⟨_, rfl⟩
        obtain ⟨T, hT⟩ : ∃ T, T = carry + p := ⟨_, rfl⟩
        obtain ⟨lo, hlo⟩ : ∃ lo, lo = T % 4294967296 := ⟨_, rfl⟩
        obtain ⟨c', hc'⟩ : ∃ c', c' = T / 4294967296 := ⟨_, rfl⟩
        have hp2 : p ≤ 18446744065119617025 := by
          have : digit * d ≤ 4294967295 * 4294967295 := Nat.mul_le_mul (by omega) (by omega)
          omega
        have hT2 : T < 18446744073709551616 := by omega
        have hlo2 : lo < 4294967296 := by omega
        have hc2 : c' < 4294967296 := by omega
        obtain ⟨X1, X, v, bw', y1, y2, y3, y4, y5, y6, y7, y8, y9⟩ := borrow_parts u lo bw hu hlo2 hbw
        have hN : Hid _ := hnext T lo c' v bw' (by rw [hT, hp]) hlo hc' y7 y9
        have g1 : (digit : Int) * (d : Int) = (p : Int) := by rw [hp]; simp
        have g2 : (carry : Int) + (p : Int) = (T : Int) := by omega
        have g3 : bits .and .u64 (T : Int) 4294967295 = (lo : Int) := by
          rw [and64 T 4294967295 _ _ rfl (by simp) hT2 (by decide), show (4294967295 : Nat) = 2 ^ 32 - 1 by decide, Nat.and_two_pow_sub_one_eq_mod, hlo]
        have g4 : (T : Int) / 4294967296 = (c' : Int) := by omega
        have hz' : Hid (n < i + 1 → c' = 0) := fun h => by omega
        clear hnext hd1 hp hT hlo hc' hM hz y9
        go_wp2
        go_roundw
        case rel => exact ⟨i + 1, c', bw', by omega, by go_num, rfl, hc2, rfl, y8, hN, hz'⟩
        case measure => simp [intOf]; omega
      · have hd0 : ds.getD i 0 = 0 := by
          have := Hn.out
          rw [List.getD_eq_getElem?_getD, List.getElem?_eq_none (by omega)]; rfl
        rw [hd0] at hnext
        obtain ⟨X1, X, v, bw', y1, y2, y3, y4, y5, y6, y7, y8, y9⟩ := borrow_parts u carry bw hu hcy hbw
        have hN : Hid _ := hnext carry carry 0 v bw' (by simp) (by omega) (by omega) y7 y9
        have g3 : bits .and .u64 (carry : Int) 4294967295 = (carry : Int) := by
          rw [and64 carry 4294967295 _ _ rfl (by simp) (by omega) (by decide), show (4294967295 : Nat) = 2 ^ 32 - 1 by decide, Nat.and_two_pow_sub_one_eq_mod, Nat.mod_eq_of_lt (by simpa using hcy)]
        have g4 : (carry : Int) / 4294967296 = 0 := by omega
        clear hnext hd0 hM hz y9
        go_wp2
        go_roundw
        case rel => exact ⟨i + 1, 0, bw', by omega, by go_num, rfl, by decide, rfl, y8, hN, fun _ => rfl⟩
        case measure => simp [intOf]; omega
    · obtain rfl : i = len := by omega
      have hz0 := hz.out (by omega)
      subst hz0
      obtain ⟨cs', h1, h2, h3, h4, h5, h6⟩ := hM.out.out
      have h7 : ds.take i = ds := List.take_of_length_le (by have := Hn.out; omega)
      rw [h7, Nat.zero_add] at h5
      rw [Hlen.out] at h4 h5
      have hE : ((bw : Int) == 1) = decide (bw = 1) := by rw [Bool.eq_iff_iff, beq_iff_eq, decide_eq_true_iff]; omega
      have HH : Hid (Row wr R cs' ∧ Lim cs' ∧ cs'.length = cs.length ∧ cs'.drop (off + n + 1) = cs.drop (off + n + 1) ∧
        lv cs' + 4294967296 ^ off * (digit * lv ds) = lv cs + 4294967296 ^ (off + n + 1) * bw ∧ Only R w wr) := ⟨h1, h2, h3, by rw [Nat.add_assoc]; exact h4, by rw [Nat.add_assoc]; exact h5, h6⟩
      clear h1 h2 h3 h4 h5 h6 h7 hM hz
      go_wp2
      go_ret
      exact ⟨cs', bw, by first | rfl | rw [← hE]; rfl, hbw, HH.out⟩
end Go.Proofs.Ygcoaf
