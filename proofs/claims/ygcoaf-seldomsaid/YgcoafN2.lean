/-
  BIG NUMBERS IN MEMORY; nat.trim.
-/
import Derived.Test.YgcoafN1
import Derived.Test.YgcoafH
import Derived.BigQuiet
namespace Go.Proofs.Ygcoaf
open Go.RowKit

/-- limbs in memory: a slice's address, its capacity, what it holds -/
structure SL (w : World) (ad : Option Addr) (cap : Nat) (xs : List Nat) : Prop where
  lim : Lim xs
  fits : xs.length ≤ cap
  cell : ∀ i, i < xs.length → ∃ b off, ad = some ⟨b, off, none⟩ ∧ w.cell? ⟨b, off + i, none⟩ = some (.int .u32 (xs.getD i 0))

/-- a slice that is a normal big number -/
structure NatV (w : World) (v : Value) (n : Nat) : Prop where
  out : (v = .slice none 0 0 ∧ n = 0) ∨ ∃ b off cap xs, v = .slice (some ⟨b, off, none⟩) xs.length cap ∧ SL w (some ⟨b, off, none⟩) cap xs ∧ lv xs = n ∧ xs ≠ [] ∧ xs.getD (xs.length - 1) 0 ≠ 0 ∧ cap ≤ 1099511627776

theorem SL.call {w w' : World} {ad : Option Addr} {cap : Nat} {xs : List Nat} (s : SL w ad cap xs) (hb : Below w.heap.size w w') : SL w' ad cap xs :=
  ⟨s.lim, s.fits, fun i hi => by
    obtain ⟨b, off, e, c⟩ := s.cell i hi
    exact ⟨b, off, e, by rw [hb.cell (World.block_lt_of_cell? _ _ c)]; exact c⟩⟩
theorem NatV.call {w w' : World} {v : Value} {n : Nat} (s : NatV w v n) (hb : Below w.heap.size w w') : NatV w' v n := by
  obtain h | ⟨b, off, cap, xs, h1, h2, h3⟩ := s.out
  · exact ⟨.inl h⟩
  · exact ⟨.inr ⟨b, off, cap, xs, h1, h2.call hb, h3⟩⟩

theorem natV_nil (w : World) : NatV w (.slice none 0 0) 0 := ⟨.inl ⟨rfl, rfl⟩⟩

theorem lv_pos (xs : List Nat) (k : Nat) (hk : k < xs.length) (h : xs.getD k 0 ≠ 0) : lv (xs.take (k + 1)) ≠ 0 := by
  rw [lv_take_succ xs k hk]
  have : 0 < 4294967296 ^ k * xs.getD k 0 := Nat.mul_pos (Nat.pow_pos (by decide)) (Nat.pos_of_ne_zero h)
  omega

theorem natV_take {w : World} {b off cap : Nat} {xs : List Nat} (s : SL w (some ⟨b, off, none⟩) cap xs) (hcap : cap ≤ 1099511627776) {j : Nat} (_ : j + 1 ≤ cap) (hj : j < xs.length) (h : xs.getD j 0 ≠ 0) :
    NatV w (.slice (some ⟨b, off, none⟩) (j + 1 : Nat) cap) (lv (xs.take (j + 1))) := by
  have hl : (xs.take (j + 1)).length = j + 1 := by simp; omega
  refine ⟨.inr ⟨b, off, cap, xs.take (j + 1), by rw [hl], ⟨fun i hi => ?_, ?_, fun i hi => ?_⟩, rfl, fun e => by rw [e] at hl; simp at hl, ?_, hcap⟩⟩
  · rw [hl] at hi
    have := s.lim i (by omega)
    simpa [List.getD_eq_getElem?_getD, hi] using this
  · rw [hl]; have := s.fits; omega
  · rw [hl] at hi
    obtain ⟨b', off', e, c⟩ := s.cell i (by omega)
    refine ⟨b', off', e, ?_⟩
    rw [c]; simp [List.getD_eq_getElem?_getD, hi]
  · rw [hl]
    simpa [List.getD_eq_getElem?_getD] using h

/-- nat.trim -/
theorem trim_any (ad : Option Addr) (cap : Nat) (xs : List Nat) (w : World) (s : SL w ad cap xs) (hcap : cap ≤ 1099511627776) :
    Calls Oafg.prog 136 #[.slice ad xs.length cap] w fun e w' => (∃ v, e = .returned v ∧ NatV w v (lv xs)) ∧ w' = w := by
  obtain ⟨len, hlen⟩ : ∃ len, len = xs.length := ⟨_, rfl⟩
  have hl2 : len ≤ 1099511627776 := by have := s.fits; omega
  rw [← hlen]
  have HS : Hid _ := s
  have HL : Hid _ := hlen
  clear s hlen
  go_enter Oafg.func136, Oafg.ntmps136
  go_wp2
  go_loop [3] (fun n => ∃ k : Nat, k ≤ len ∧ n = .int .i64 k ∧ Hid (lv (xs.take k) = lv xs)) (fun n => (intOf n).toNat)
  case atStart => exact ⟨len, Nat.le_refl _, rfl, by rw [HL.out]; simp [Hid]⟩
  case round =>
    obtain ⟨k, hk, rfl, hv⟩ := hrel
    by_cases c : k = 0
    · subst c
      go_wp2
      have e : lv xs = 0 := by have := hv.out; simp [lv] at this; omega
      exact bodyPost_ret (v := .slice none 0 0) (by simp [results, Oafg.results136, go_sem]) rfl ⟨⟨_, rfl, by rw [e]; exact natV_nil w⟩, rfl⟩
    · obtain ⟨j, rfl⟩ : ∃ j, k = j + 1 := ⟨k - 1, by omega⟩
      obtain ⟨b, off, rfl, hc⟩ := HS.out.cell j (by have := HL.out; omega)
      have hjl : j < xs.length := by have := HL.out; omega
      have hst := lv_take_succ xs j hjl
      have hx := HS.out.lim j hjl
      have hfit : len ≤ cap := by have := HS.out.fits; have := HL.out; omega
      obtain ⟨x, hxe⟩ : ∃ x, x = xs.getD j 0 := ⟨_, rfl⟩
      rw [← hxe] at hc hst hx
      by_cases hz : x = 0
      · have hv' : Hid (lv (xs.take j) = lv xs) := by rw [hz, Nat.mul_zero, Nat.add_zero] at hst; exact hst.symm.trans hv.out
        have hzb : ((x : Int) == 0) = true := by rw [hz]; rfl
        clear hz hst hxe hv
        go_wp2
        go_round
        case rel => exact ⟨j, by omega, by go_num, hv'⟩
        case measure => simp [intOf]
      · have hzb : ((x : Int) == 0) = false := by rw [beq_eq_false_iff_ne]; omega
        have hN : Hid (NatV w (.slice (some ⟨b, off, none⟩) (j + 1 : Nat) cap) (lv xs)) := by
          rw [← hv.out]
          exact natV_take HS.out hcap (by omega) hjl (by rw [← hxe]; exact hz)
        clear hz hst hxe hv
        go_wp2
        exact bodyPost_ret (v := .slice (some ⟨b, off, none⟩) (j + 1) cap) (by simp [results, Oafg.results136, go_sem]) rfl ⟨⟨_, rfl, hN.out⟩, rfl⟩

theorem NatV.pos {w : World} {v : Value} {n : Nat} (s : NatV w v n) (h : n ≠ 0) : ∃ b off cap xs, v = .slice (some ⟨b, off, none⟩) xs.length cap ∧ SL w (some ⟨b, off, none⟩) cap xs ∧ lv xs = n ∧ xs ≠ [] ∧ xs.getD (xs.length - 1) 0 ≠ 0 ∧ cap ≤ 1099511627776 := by
  obtain h' | h' := s.out
  · exact absurd h'.2 h
  · exact h'
theorem NatV.zero {w : World} {v : Value} (s : NatV w v 0) : v = .slice none 0 0 := by
  obtain h' | ⟨b, off, cap, xs, h1, h2, h3, h4, h5, h6⟩ := s.out
  · exact h'.1
  · exfalso
    have hl : 0 < xs.length := List.length_pos_iff.2 h4
    have := lv_pos xs (xs.length - 1) (by omega) h5
    rw [show xs.length - 1 + 1 = xs.length from by omega, List.take_length] at this
    exact this h3
/-- any normal number as limbs -/
theorem NatV.limbs {w : World} {v : Value} {n : Nat} (s : NatV w v n) : ∃ ad cap xs, v = .slice ad xs.length cap ∧ SL w ad cap xs ∧ lv xs = n ∧ cap ≤ 1099511627776 := by
  obtain ⟨rfl, rfl⟩ | ⟨b, off, cap, xs, h1, h2, h3, h4, h5, h6⟩ := s.out
  · exact ⟨none, 0, [], rfl, ⟨fun i hi => absurd hi (Nat.not_lt_zero _), Nat.le_refl _, fun i hi => absurd hi (Nat.not_lt_zero _)⟩, rfl, by decide⟩
  · exact ⟨_, cap, xs, h1, h2, h3, h6⟩

/-- nat.trim of a normal number -/
theorem trim_nat {w : World} {v : Value} {n : Nat} (s : NatV w v n) :
    Calls Oafg.prog 136 #[v] w fun e w' => (∃ v', e = .returned v' ∧ NatV w v' n) ∧ w' = w := by
  obtain ⟨ad, cap, xs, rfl, hs, rfl, hc⟩ := s.limbs
  exact trim_any ad cap xs w hs hc
end Go.Proofs.Ygcoaf
