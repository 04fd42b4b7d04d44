/-
  nat.putBack.
-/
import Derived.Test.YgcoafN14
namespace Go.Proofs.Ygcoaf
open Go.RowKit

/-- what putBack's loop holds -/
structure PutI (w wr : World) (R off : Nat) (cs ds : List Nat) (i carry : Nat) : Prop where
  out : ∃ cs', Row wr R cs' ∧ Lim cs' ∧ cs'.length = cs.length ∧ cs'.drop (off + i) = cs.drop (off + i) ∧
    lv cs' + 4294967296 ^ (off + i) * carry = lv cs + 4294967296 ^ off * lv (ds.take i) ∧ Only R w wr

theorem PutI.step {w wr : World} {R off : Nat} {cs ds : List Nat} {i carry : Nat} (o : PutI w wr R off cs ds i carry) (hi : off + i < cs.length) :
    ∃ u : Nat, u < 4294967296 ∧ wr.cell? ⟨R, off + i, none⟩ = some (.int .u32 u) ∧ wr.frozen? ⟨R, off + i, none⟩ = false ∧
      ∀ T lo c', T = carry + u + ds.getD i 0 → lo = T % 4294967296 → c' = T / 4294967296 →
        PutI w (wr.setCell ⟨R, off + i, none⟩ (.int .u32 lo)) R off cs ds (i + 1) c' := by
  obtain ⟨cs', h1, h2, h3, h4, h5, h6⟩ := o.out
  refine ⟨cs'.getD (off + i) 0, h2 _ (by omega), h1.cell _ (by omega), h1.fz _, fun T lo c' hT hlo hc => ⟨cs'.set (off + i) lo, h1.set _ _ (by omega), h2.set _ _ (by omega), by rw [List.length_set]; exact h3, ?_, ?_, h6.setCell _ _⟩⟩
  · rw [show off + (i + 1) = off + i + 1 from by omega, drop_set_lt, ← List.drop_drop, h4, List.drop_drop]
  · have e1 := lv_set cs' (off + i) lo (by omega)
    have e2 := lv_take_next ds i
    have e3 := Nat.div_add_mod T 4294967296
    rw [← hlo, ← hc] at e3
    rw [e2, show off + (i + 1) = off + i + 1 from by omega, Nat.pow_succ]
    rw [Nat.pow_add] at e1 h5 ⊢
    generalize lv (cs'.set (off + i) lo) = L' at *
    generalize cs'.getD (off + i) 0 = u at *
    generalize lv cs' = L at *
    generalize lv cs = G at *
    generalize lv (ds.take i) = X at *
    generalize ds.getD i 0 = d at *
    generalize 4294967296 ^ off = P at *
    generalize 4294967296 ^ i = Q at *
    clear hlo hc h1 h2 h3 h4 h6 o e2
    grind

set_option maxRecDepth 8000 in
/-- nat.putBack -/
theorem putBack_any {w : World} {R off n cap capd : Nat} {ad : Option Addr} {cs ds : List Nat} (r : Row w R cs) (hL : Lim cs) (s : SL w ad capd ds) (hne : ∀ b o, ad = some ⟨b, o, none⟩ → b ≠ R) (hn : ds.length = n)
    (hfit : off + n + 1 ≤ cs.length) (hsm : n ≤ 100000) :
    Calls Oafg.prog 200 #[.slice (some ⟨R, off, none⟩) (n + 1 : Nat) cap, .slice ad n capd] w fun e w' =>
      (∃ v, e = .returned v) ∧ ∃ cs' cy, Row w' R cs' ∧ Lim cs' ∧ cs'.length = cs.length ∧ cs'.drop (off + n + 1) = cs.drop (off + n + 1) ∧
        lv cs' + 4294967296 ^ (off + n + 1) * cy = lv cs + 4294967296 ^ off * lv ds ∧ Only R w w' := by
  have H0 : Hid (PutI w w R off cs ds 0 0) := ⟨cs, r, hL, rfl, rfl, by simp [lv], Only.refl _ _⟩
  have HS : Hid _ := s
  have Hne : Hid _ := hne
  have Hn : Hid _ := hn
  have Hfit : Hid _ := hfit
  clear r hL s hne hn hfit
  obtain ⟨len, hlen⟩ : ∃ len, len = n + 1 := ⟨_, rfl⟩
  rw [← hlen]
  have hl1 : len ≤ n + 1 := by omega
  have hl2 : n + 1 ≤ len := by omega
  have Hlen : Hid _ := hlen
  clear hlen
  go_enter Oafg.func200, Oafg.ntmps200
  go_wp2
  go_loopw [8, 4] (fun j cy wr => ∃ i carry : Nat, i ≤ len ∧ j = .int .i64 i ∧ cy = .int .u64 carry ∧ carry < 4294967296 ∧ Hid (PutI w wr R off cs ds i carry)) (fun j _ _ => len - (intOf j).toNat)
  case atStart => exact ⟨0, 0, by omega, rfl, rfl, by decide, H0⟩
  case round =>
    obtain ⟨i, carry, hi, rfl, rfl, hcy, hM⟩ := hrel
    by_cases c : i < len
    · obtain ⟨u, hu, hcell, hfz, hnext⟩ := hM.out.step (by have := Hfit.out; omega)
      by_cases c2 : i < n
      · have hids : i < ds.length := by have := Hn.out; omega
        obtain ⟨b1, o1, d, rfl, hd1, hd2, hcd⟩ : ∃ b1 o1 d, ad = some ⟨b1, o1, none⟩ ∧ d = ds.getD i 0 ∧ d < 4294967296 ∧ wr.cell? ⟨b1, o1 + i, none⟩ = some (.int .u32 d) := by
          obtain ⟨cs', _, _, _, _, _, h6⟩ := hM.out.out
          obtain ⟨b1, o1, e, cc⟩ := (HS.out.only h6 Hne.out).cell i hids
          exact ⟨b1, o1, _, e, rfl, HS.out.lim i hids, cc⟩
        rw [← hd1] at hnext
        obtain ⟨T, hT⟩ : ∃ T, T = carry + u + d := ⟨_, rfl⟩
        obtain ⟨lo, hlo⟩ : ∃ lo, lo = T % 4294967296 := ⟨_, rfl⟩
        obtain ⟨c', hc'⟩ : ∃ c', c' = T / 4294967296 := ⟨_, rfl⟩
        have hT2 : T < 18446744073709551616 := by omega
        have hc2 : c' < 4294967296 := by omega
        have hN : Hid _ := hnext T lo c' hT hlo hc'
        have g2 : (carry : Int) + (u : Int) + (d : Int) = (T : Int) := by omega
        have g3 : IntKind.u32.wrap (T : Int) = (lo : Int) := by rw [IntKind.wrap_u32]; omega
        have g4 : (T : Int) / 4294967296 = (c' : Int) := by omega
        clear hnext hd1 hT hlo hc' hM
        go_wp2
        go_roundw
        case rel => exact ⟨i + 1, c', by omega, by go_num, rfl, hc2, hN⟩
        case measure => simp [intOf]; omega
      · have hd0 : ds.getD i 0 = 0 := by
          have := Hn.out
          rw [List.getD_eq_getElem?_getD, List.getElem?_eq_none (by omega)]; rfl
        rw [hd0] at hnext
        obtain ⟨T, hT⟩ : ∃ T, T = carry + u := ⟨_, rfl⟩
        obtain ⟨lo, hlo⟩ : ∃ lo, lo = T % 4294967296 := ⟨_, rfl⟩
        obtain ⟨c', hc'⟩ : ∃ c', c' = T / 4294967296 := ⟨_, rfl⟩
        have hT2 : T < 18446744073709551616 := by omega
        have hc2 : c' < 4294967296 := by omega
        have hN : Hid _ := hnext T lo c' hT hlo hc'
        have g2 : (carry : Int) + (u : Int) = (T : Int) := by omega
        have g3 : IntKind.u32.wrap (T : Int) = (lo : Int) := by rw [IntKind.wrap_u32]; omega
        have g4 : (T : Int) / 4294967296 = (c' : Int) := by omega
        clear hnext hT hlo hc' hM hd0
        go_wp2
        go_roundw
        case rel => exact ⟨i + 1, c', by omega, by go_num, rfl, hc2, hN⟩
        case measure => simp [intOf]; omega
    · obtain rfl : i = len := by omega
      obtain ⟨cs', h1, h2, h3, h4, h5, h6⟩ := hM.out.out
      have h7 : ds.take i = ds := List.take_of_length_le (by have := Hn.out; omega)
      rw [h7] at h5
      rw [Hlen.out] at h4 h5
      have HH : Hid (Row wr R cs' ∧ Lim cs' ∧ cs'.length = cs.length ∧ cs'.drop (off + n + 1) = cs.drop (off + n + 1) ∧
        lv cs' + 4294967296 ^ (off + n + 1) * carry = lv cs + 4294967296 ^ off * lv ds ∧ Only R w wr) := ⟨h1, h2, h3, by rw [Nat.add_assoc]; exact h4, by rw [Nat.add_assoc]; exact h5, h6⟩
      clear h1 h2 h3 h4 h5 h6 h7 hM
      go_wp2
      go_end0
      exact ⟨⟨_, rfl⟩, cs', carry, HH.out⟩
end Go.Proofs.Ygcoaf
