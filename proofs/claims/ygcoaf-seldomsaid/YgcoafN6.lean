/-
  ROWS OF LIMBS: what the loops of package nat do to them.
-/
import Derived.Test.YgcoafN5
import Derived.Laws.IdiomCopy
namespace Go.Proofs.Ygcoaf
open Go.RowKit

theorem lv_set : ∀ (cs : List Nat) (k x : Nat), k < cs.length → lv (cs.set k x) + 4294967296 ^ k * cs.getD k 0 = lv cs + 4294967296 ^ k * x
  | [], _, _, h => absurd h (Nat.not_lt_zero _)
  | c :: cs, 0, x, _ => by simp [lv]; omega
  | c :: cs, k + 1, x, h => by
    have ih := lv_set cs k x (by simpa using h)
    simp only [List.set_cons_succ, lv, List.getD_cons_succ, Nat.pow_succ]
    generalize 4294967296 ^ k = P at *
    grind
theorem lv_zeros (n : Nat) : lv (List.replicate n 0) = 0 := by
  induction n with
  | zero => rfl
  | succ n ih => rw [List.replicate_succ, lv, ih]
theorem getD_zeros (n i : Nat) : (List.replicate n 0).getD i 0 = 0 := by
  rw [List.getD_eq_getElem?_getD, List.getElem?_replicate]
  by_cases c : i < n <;> simp [c]
theorem Lim.set {cs : List Nat} (h : Lim cs) (k x : Nat) (hx : x < 4294967296) : Lim (cs.set k x) := fun i hi => by
  rw [List.length_set] at hi
  have := h i hi
  rw [List.getD_eq_getElem?_getD, List.getElem?_set]
  by_cases e : k = i
  · rw [if_pos e]
    by_cases c : k < cs.length
    · simp [c, hx]
    · omega
  · rw [if_neg e, ← List.getD_eq_getElem?_getD]; exact this
theorem lim_zeros (n : Nat) : Lim (List.replicate n 0) := fun i _ => by rw [getD_zeros]; decide
theorem getD_set_ne (cs : List Nat) (k i x : Nat) (h : k ≠ i) : (cs.set k x).getD i 0 = cs.getD i 0 := by
  simp [List.getD_eq_getElem?_getD, h]
theorem getD_set_eq (cs : List Nat) (k x : Nat) (h : k < cs.length) : (cs.set k x).getD k 0 = x := by
  simp [List.getD_eq_getElem?_getD, h]

/-- a row of limbs that the call itself made: w the world of the call, wr the world now -/
structure Own (w wr : World) (R : Nat) (cs : List Nat) : Prop where
  row : Row wr R cs
  lim : Lim cs
  old : w.heap.size ≤ R
  now : R < wr.heap.size
  below : Below w.heap.size w wr

theorem Own.set {w wr : World} {R : Nat} {cs : List Nat} (o : Own w wr R cs) (k x : Nat) (hk : k < cs.length) (hx : x < 4294967296) : Own w (wr.setCell ⟨R, k, none⟩ (.int .u32 x)) R (cs.set k x) :=
  ⟨o.row.set k x hk, o.lim.set k x hx, o.old, by simpa [World.setCell] using o.now, o.below.setCell o.old _⟩
theorem Own.drew {w wr : World} {R : Nat} {cs : List Nat} (o : Own w wr R cs) : Own w wr.drew R cs :=
  ⟨⟨o.row.cell, o.row.fz⟩, o.lim, o.old, o.now, o.below.drew⟩
theorem below_dN {B : Nat} {a w : World} (h : Below B a w) (n : Nat) : Below B a (w.drewN n) := h.trans ⟨rfl, rfl, rfl, Nat.le_refl _, fun _ _ => rfl⟩
theorem Own.drewN {w wr : World} {R : Nat} {cs : List Nat} (o : Own w wr R cs) (n : Nat) : Own w (wr.drewN n) R cs :=
  ⟨⟨o.row.cell, o.row.fz⟩, o.lim, o.old, o.now, below_dN o.below n⟩
theorem Own.call {w wr w2 : World} {R : Nat} {cs : List Nat} (o : Own w wr R cs) (hb : Below wr.heap.size wr w2) : Own w w2 R cs :=
  ⟨o.row.call o.now hb, o.lim, o.old, Nat.lt_of_lt_of_le o.now hb.size, bt o.below hb⟩
theorem Own.cell {w wr : World} {R : Nat} {cs : List Nat} (o : Own w wr R cs) (k : Nat) (hk : k < cs.length) : ∃ c : Nat, c = cs.getD k 0 ∧ c < 4294967296 ∧ wr.cell? ⟨R, k, none⟩ = some (.int .u32 c) ∧ wr.frozen? ⟨R, k, none⟩ = false :=
  ⟨_, rfl, o.lim k hk, o.row.cell k hk, o.row.fz k⟩
theorem Own.sl {w wr : World} {R : Nat} {cs : List Nat} (o : Own w wr R cs) : SL wr (some ⟨R, 0, none⟩) cs.length cs :=
  ⟨o.lim, Nat.le_refl _, fun i hi => ⟨R, 0, rfl, by rw [Nat.zero_add]; exact o.row.cell i hi⟩⟩
/-- a slice that was there ahead of the call, read now -/
theorem SL.now {w wr : World} {ad : Option Addr} {cap : Nat} {xs : List Nat} (s : SL w ad cap xs) (hb : Below w.heap.size w wr) (i : Nat) (hi : i < xs.length) :
    ∃ b off x, ad = some ⟨b, off, none⟩ ∧ x = xs.getD i 0 ∧ x < 4294967296 ∧ wr.cell? ⟨b, off + i, none⟩ = some (.int .u32 x) := by
  obtain ⟨b, off, e, c⟩ := (s.call hb).cell i hi
  exact ⟨b, off, _, e, rfl, s.lim i hi, c⟩

/-- make(Nat, n) in a call that began in w -/
theorem mkOwn (w w1 : World) (n : Nat) (h : n ≤ 1099511627776) (hb : Below w.heap.size w w1) : ∃ w', (Instr.makeSlice 64 (.int .i64 (n : Int)) (.int .i64 (n : Int))).run Oafg.prog w1 = .ok (.slice (some ⟨w1.heap.size, 0, none⟩) n n) w' ∧
    Own w w' w1.heap.size (List.replicate n 0) := by
  obtain ⟨w', h1, h2, h3, h4⟩ := mk32 w1 n h
  exact ⟨w', h1, h2, lim_zeros n, hb.size, h4, bt hb h3⟩

/-- nat.trim of a row of one's own, as the last thing that a function does -/
theorem trim_own {w wr : World} {R : Nat} {cs : List Nat} (o : Own w wr R cs) (hl : cs.length ≤ 1099511627776) :
    Calls Oafg.prog 136 #[.slice (some ⟨R, 0, none⟩) cs.length cs.length] wr fun e w' => (∃ v, e = .returned v ∧ NatV w' v (lv cs)) ∧ Below w.heap.size w w' :=
  (trim_any _ _ cs wr o.sl hl).mono fun e w' ⟨⟨v, h1, h2⟩, h3⟩ => by subst h3; exact ⟨⟨v, h1, h2⟩, o.below⟩

/-- copy(c, a) into a row of one's own -/
theorem copyOwn {w wr : World} {R : Nat} {cs : List Nat} (o : Own w wr R cs) {ad : Option Addr} {cap : Nat} {xs : List Nat} (s : SL wr ad cap xs) (h : xs.length ≤ cs.length) :
    ∃ w', (∀ ty, (Builtin.copy_ #[64, 64] ty #[.slice (some ⟨R, 0, none⟩) cs.length cs.length, .slice ad xs.length cap]).run Oafg.prog wr = .ok (goInt xs.length) w') ∧ Own w w' R (xs ++ cs.drop xs.length) := by
  obtain ⟨i22, hi22, _, hz1, _⟩ := info_parts info22
  have hsz : (Oafg.prog.info? 22).map (·.size) = some 1 := by rw [hi22]; simp [show i22.size = 1 from hz1]
  by_cases e : xs = []
  · subst e
    refine ⟨wr, fun ty => run_copy_none wr 64 64 ty 22 _ ad cs.length cs.length 0 cap Oafg.underlying64 hsz (by show min 0 _ = 0; omega), ?_⟩
    simpa using o
  · have hl : 0 < xs.length := List.length_pos_iff.2 e
    obtain ⟨b, off, rfl, _⟩ := s.cell 0 hl
    have hcell : ∀ i, i < xs.length → wr.cell? ⟨b, off + i, none⟩ = some (.int .u32 (xs.getD i 0)) := fun i hi => by
      obtain ⟨b', off', e', c⟩ := s.cell i hi
      cases e'; exact c
    have hrun := fun ty => run_copy_cells (P := Oafg.prog) wr 64 64 ty 22 R 0 cs.length cs.length ⟨b, off, none⟩ xs.length cap (xs.map fun (x : Nat) => Value.int .u32 (x : Int)) Oafg.underlying64 hsz
      (by rw [List.length_map]; exact (Nat.min_eq_left h).symm)
      (fun j v hv => by
        rw [List.getElem?_map] at hv
        cases hx : xs[j]? with
        | none => rw [hx] at hv; simp at hv
        | some x =>
          rw [hx] at hv
          simp at hv
          have hj : j < xs.length := by
            by_cases c : j < xs.length
            · exact c
            · rw [List.getElem?_eq_none (by omega)] at hx; simp at hx
          have := hcell j hj
          rw [List.getD_eq_getElem?_getD, hx] at this
          rw [← hv]
          rw [show (⟨b, off, none⟩ : Addr).add j = ⟨b, off + j, none⟩ from by unfold Addr.add; split <;> simp_all]
          simpa using this)
      (fun j hj => by
        rw [List.length_map] at hj
        rw [Nat.zero_add, o.row.cell j (by omega)]; rfl)
      (fun j _ => o.row.fz _)
      (fun v hv => by
        rw [List.mem_map] at hv
        obtain ⟨x, _, rfl⟩ := hv
        rfl)
    rw [List.length_map] at hrun
    refine ⟨_, hrun, ⟨fun i hi => ?_, fun i => ?_⟩, ?_, o.old, ?_, ?_⟩
    · have hlen : (xs ++ cs.drop xs.length).length = cs.length := by simp; omega
      rw [hlen] at hi
      by_cases c : i < xs.length
      · have := World.cell?_setCells_in R (xs.map fun (x : Nat) => Value.int .u32 (x : Int)) 0 wr (fun j hj => by
          rw [List.length_map] at hj
          rw [Nat.zero_add, o.row.cell j (by omega)]; rfl) i (by rw [List.length_map]; exact c)
        rw [Nat.zero_add] at this
        rw [this]
        simp [List.getD_eq_getElem?_getD, List.getElem?_append_left c, c]
      · rw [World.cell?_setCells_out R _ 0 wr _ (fun _ _ => Or.inr (by rw [List.length_map]; show _ ≤ i; omega)), o.row.cell i hi]
        simp only [List.getD_eq_getElem?_getD, List.getElem?_append_right (show xs.length ≤ i by omega), List.getElem?_drop]
        rw [show xs.length + (i - xs.length) = i from by omega]
    · rw [World.frozen?_setCells]; exact o.row.fz i
    · intro i hi
      by_cases c : i < xs.length
      · have := s.lim i c
        simpa [List.getD_eq_getElem?_getD, List.getElem?_append_left c] using this
      · have hlen : (xs ++ cs.drop xs.length).length = cs.length := by simp; omega
        have := o.lim i (by omega)
        rw [List.getD_eq_getElem?_getD, List.getElem?_append_right (show xs.length ≤ i by omega), List.getElem?_drop, show xs.length + (i - xs.length) = i from by omega, ← List.getD_eq_getElem?_getD]
        exact this
    · have : ∀ (vs : List Value) (o' : Nat) (w0 : World), (w0.setCells R o' vs).heap.size = w0.heap.size := by
        intro vs
        induction vs with
        | nil => intros; rfl
        | cons v vs ih => intro o' w0; rw [World.setCells, ih]; simp [World.setCell]
      rw [this]; exact o.now
    · have : ∀ (vs : List Value) (o' : Nat) (w0 : World), Below w.heap.size w w0 → Below w.heap.size w (w0.setCells R o' vs) := by
        intro vs
        induction vs with
        | nil => intro _ _ h; exact h
        | cons v vs ih => intro o' w0 h; rw [World.setCells]; exact ih _ _ (h.setCell (p := ⟨R, o', none⟩) o.old v)
      exact this _ _ _ o.below

/-- a normal number's length by its bits -/
theorem NatV.few {w : World} {v : Value} {n : Nat} (s : NatV w v n) (h : bl n ≤ 1000000) : ∃ ad cap xs, v = .slice ad xs.length cap ∧ SL w ad cap xs ∧ lv xs = n ∧ xs.length ≤ 40000 := by
  obtain ⟨rfl, rfl⟩ | ⟨b, off, cap, xs, h1, h2, h3, h4, h5, h6⟩ := s.out
  · exact ⟨none, 0, [], rfl, ⟨fun i hi => absurd hi (Nat.not_lt_zero _), Nat.le_refl _, fun i hi => absurd hi (Nat.not_lt_zero _)⟩, rfl, by decide⟩
  · refine ⟨_, cap, xs, h1, h2, h3, ?_⟩
    obtain ⟨j, hj⟩ : ∃ j, xs.length = j + 1 := ⟨xs.length - 1, by have := List.length_pos_iff.2 h4; omega⟩
    rw [hj] at h5 ⊢
    simp only [Nat.add_sub_cancel] at h5
    have ht := lv_top xs j hj
    have hlt := lv_take_lt xs j h2.lim (by omega)
    have := bl_top (xs.getD j 0) _ _ h5 hlt
    rw [← ht, h3] at this
    omega
end Go.Proofs.Ygcoaf
