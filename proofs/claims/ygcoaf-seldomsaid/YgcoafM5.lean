/-
  THE ORDER OF PATTERNS: the model's order of two words is what their signs and rungs say.
-/
import Derived.Test.YgcoafM4
namespace Go.Proofs.Ygcoaf

/-- how two patterns that are no NaN stand to each other: signs, rungs -/
def ordR (na nb : Bool) (ra rb : Nat) : Int :=
  if (ra = 0 ∧ rb = 0) ∨ (na = nb ∧ ra = rb) then 0 else if (na ≠ nb ∧ na = true) ∨ (na = nb ∧ decide (ra < rb) ≠ na) then -1 else 1
def ordS (na nb : Bool) (ca cb ra rb : Nat) : Int := if ca = 4 ∨ cb = 4 then 2 else ordR na nb ra rb

def ordOf (o : Int) : Option Ordering := if o = 2 then none else if o = -1 then some .lt else if o = 0 then some .eq else some .gt

/-- the rung of infinity -/
def infR (E M : Nat) : Nat := (2 ^ E - 1) * 2 ^ M
theorem infR_lt (E M : Nat) : infR E M < 2 ^ (E + M) := by
  unfold infR; rw [Nat.pow_add]
  exact Nat.mul_lt_mul_of_pos_right (by have := Nat.two_pow_pos E; omega) (Nat.two_pow_pos M)

/-- a rung's size, in units of the least subnormal -/
def val (M r : Nat) : Nat := if r < 2 ^ M then r else (2 ^ M + r % 2 ^ M) * 2 ^ (r / 2 ^ M - 1)

theorem val_lt {M r s : Nat} (h : r < s) : val M r < val M s := by
  have hp := Nat.two_pow_pos M
  unfold val
  have hr := Nat.div_add_mod r (2 ^ M)
  have hs := Nat.div_add_mod s (2 ^ M)
  have hmr : r % 2 ^ M < 2 ^ M := Nat.mod_lt _ hp
  have hms : s % 2 ^ M < 2 ^ M := Nat.mod_lt _ hp
  have hq : r / 2 ^ M ≤ s / 2 ^ M := Nat.div_le_div_right (by omega)
  split
  · rename_i h1
    split
    · exact h
    · rename_i h2
      have : 1 ≤ 2 ^ (s / 2 ^ M - 1) := Nat.two_pow_pos _
      calc r < 2 ^ M + s % 2 ^ M := by omega
        _ = (2 ^ M + s % 2 ^ M) * 1 := by omega
        _ ≤ _ := Nat.mul_le_mul_left _ this
  · rename_i h1
    rw [if_neg (by omega)]
    have h1' : 1 ≤ r / 2 ^ M := (Nat.le_div_iff_mul_le hp).2 (by omega)
    by_cases e : r / 2 ^ M = s / 2 ^ M
    · rw [e] at hr ⊢
      exact Nat.mul_lt_mul_of_pos_right (by omega) (Nat.two_pow_pos _)
    · have hlt : r / 2 ^ M < s / 2 ^ M := by omega
      generalize r / 2 ^ M = q at *
      generalize s / 2 ^ M = t at *
      calc (2 ^ M + r % 2 ^ M) * 2 ^ (q - 1) < (2 ^ M * 2) * 2 ^ (q - 1) := Nat.mul_lt_mul_of_pos_right (by omega) (Nat.two_pow_pos _)
        _ = 2 ^ M * 2 ^ q := by rw [Nat.mul_assoc, ← Nat.pow_succ']; congr 2; omega
        _ ≤ 2 ^ M * 2 ^ (t - 1) := Nat.mul_le_mul_left _ (Nat.pow_le_pow_right (by decide) (by omega))
        _ ≤ (2 ^ M + s % 2 ^ M) * 2 ^ (t - 1) := Nat.mul_le_mul_right _ (by omega)

theorem val_zero (M : Nat) : val M 0 = 0 := by unfold val; rw [if_pos (Nat.two_pow_pos M)]
theorem val_le {M r s : Nat} (h : r ≤ s) : val M r ≤ val M s := by
  rcases Nat.eq_or_lt_of_le h with rfl | h
  · exact Nat.le_refl _
  · exact Nat.le_of_lt (val_lt h)

/-- the model's reading, in these words -/
theorem read_eq (E M x : Nat) : (Ieee.Format.mk E M).read x = if x % 2 ^ (E + M) < 2 ^ M then .number (sF E M x) (x % 2 ^ (E + M)) (Ieee.Format.mk E M).leastPlace
    else if x % 2 ^ (E + M) < infR E M then .number (sF E M x) (2 ^ M + x % 2 ^ (E + M) % 2 ^ M) ((Ieee.Format.mk E M).leastPlace + (x % 2 ^ (E + M) / 2 ^ M - 1 : Nat))
    else if x % 2 ^ (E + M) = infR E M then .infinity (sF E M x) else .nan (sF E M x) (x % 2 ^ (E + M) - infR E M) := rfl

theorem binade_le (E M : Nat) (hE : 2 ≤ E) : 2 ^ M ≤ infR E M := by
  unfold infR
  have : 2 ^ 2 ≤ 2 ^ E := Nat.pow_le_pow_right (by decide) hE
  exact Nat.le_mul_of_pos_left _ (by omega)

/-- a number of the format, read: its place lies above the least, and its size is val -/
theorem read_num (E M x : Nat) (h : x % 2 ^ (E + M) < infR E M) : ∃ m i, (Ieee.Format.mk E M).read x = .number (sF E M x) m i ∧
    ∃ j : Nat, i = (Ieee.Format.mk E M).leastPlace + j ∧ m * 2 ^ j = val M (x % 2 ^ (E + M)) := by
  rw [read_eq]
  unfold val
  by_cases h1 : x % 2 ^ (E + M) < 2 ^ M
  · rw [if_pos h1, if_pos h1]
    exact ⟨_, _, rfl, 0, by simp, by simp⟩
  · rw [if_neg h1, if_neg h1, if_pos h]
    exact ⟨_, _, rfl, _, rfl, rfl⟩

theorem read_inf (E M x : Nat) (h : x % 2 ^ (E + M) = infR E M) (hE : 2 ≤ E) : (Ieee.Format.mk E M).read x = .infinity (sF E M x) := by
  have := binade_le E M hE
  rw [read_eq, if_neg (by omega), if_neg (by omega), if_pos h]

theorem read_nan (E M x : Nat) (h : infR E M < x % 2 ^ (E + M)) (hE : 2 ≤ E) : ∃ s t, (Ieee.Format.mk E M).read x = .nan s t := by
  have := binade_le E M hE
  rw [read_eq, if_neg (by omega), if_neg (by omega), if_neg (by omega)]
  exact ⟨_, _, rfl⟩

/-- the fields of the rung -/
theorem rung_div (E M x : Nat) : x % 2 ^ (E + M) / 2 ^ M = eF E M x := by
  unfold eF
  rw [Nat.add_comm, Nat.pow_add, Nat.mod_mul_right_div_self]
theorem rung_mod (E M x : Nat) : x % 2 ^ (E + M) % 2 ^ M = mF M x := by
  unfold mF
  exact Nat.mod_mod_of_dvd _ (Nat.pow_dvd_pow 2 (by omega))

theorem cls_nan (E M x : Nat) : uCls E M x = 4 ↔ infR E M < x % 2 ^ (E + M) := by
  have h1 := rung_div E M x
  have h2 := rung_mod E M x
  have h3 := Nat.div_add_mod (x % 2 ^ (E + M)) (2 ^ M)
  have h4 := eF_lt E M x
  have h5 := mF_lt M x
  rw [h1, h2] at h3
  unfold uCls infR
  by_cases e : eF E M x = 2 ^ E - 1
  · rw [if_pos e, ← h3, e, Nat.mul_comm]
    split <;> omega
  · rw [if_neg e, ← h3]
    have : 2 ^ M * (eF E M x + 1) ≤ 2 ^ M * (2 ^ E - 1) := Nat.mul_le_mul_left _ (by omega)
    rw [Nat.mul_add, Nat.mul_one, Nat.mul_comm _ (2 ^ E - 1)] at this
    constructor
    · intro h; split at h
      · split at h <;> omega
      · omega
    · intro h; omega

theorem cls_inf (E M x : Nat) : uCls E M x = 3 ↔ x % 2 ^ (E + M) = infR E M := by
  have h1 := rung_div E M x
  have h2 := rung_mod E M x
  have h3 := Nat.div_add_mod (x % 2 ^ (E + M)) (2 ^ M)
  have h4 := eF_lt E M x
  have h5 := mF_lt M x
  rw [h1, h2] at h3
  unfold uCls infR
  by_cases e : eF E M x = 2 ^ E - 1
  · rw [if_pos e, ← h3, e, Nat.mul_comm]
    split <;> omega
  · rw [if_neg e, ← h3]
    have : 2 ^ M * (eF E M x + 1) ≤ 2 ^ M * (2 ^ E - 1) := Nat.mul_le_mul_left _ (by omega)
    rw [Nat.mul_add, Nat.mul_one, Nat.mul_comm _ (2 ^ E - 1)] at this
    constructor
    · intro h; split at h
      · split at h <;> omega
      · omega
    · intro h; omega

theorem cmp_int_scale (a b : Int) (c : Nat) (hc : 0 < c) : compare (a * c) (b * c) = compare a b := by
  have hc' : (0 : Int) < c := by omega
  rcases Int.lt_trichotomy a b with h | h | h
  · rw [Int.compare_eq_lt.2 h, Int.compare_eq_lt.2 (Int.mul_lt_mul_of_pos_right h hc')]
  · subst h; simp
  · rw [Int.compare_eq_gt.2 h, Int.compare_eq_gt.2 (Int.mul_lt_mul_of_pos_right h hc')]

/-- the size with its sign -/
def sv (s : Bool) (v : Nat) : Int := if s then -(v : Int) else v

theorem signed_eq (s : Bool) (m u : Nat) : Ieee.signed s m u = sv s (m * 2 ^ u) := by
  unfold Ieee.signed sv; rw [Nat.shiftLeft_eq]

theorem compare_vals (s t : Bool) (r q M : Nat) : compare (sv s (val M r)) (sv t (val M q)) = (if ordR s t r q = 0 then .eq else if ordR s t r q = -1 then .lt else .gt) := by
  have hr : r = 0 ∨ 0 < r := by omega
  have hq : q = 0 ∨ 0 < q := by omega
  have z := val_zero M
  have pr : 0 < r → 0 < val M r := fun h => by have := val_lt (M := M) h; omega
  have pq : 0 < q → 0 < val M q := fun h => by have := val_lt (M := M) h; omega
  have lt1 : r < q → val M r < val M q := val_lt
  have lt2 : q < r → val M q < val M r := val_lt
  have eq0 : r = q → val M r = val M q := fun h => by rw [h]
  have zr : r = 0 → val M r = 0 := fun h => by rw [h]; exact z
  have zq : q = 0 → val M q = 0 := fun h => by rw [h]; exact z
  generalize val M r = v at *
  generalize val M q = u at *
  unfold ordR sv
  have cc : ∀ a b : Int, compare a b = if a = b then .eq else if a < b then .lt else .gt := by
    intro a b
    rcases Int.lt_trichotomy a b with h | h | h
    · rw [Int.compare_eq_lt.2 h, if_neg (by omega), if_pos h]
    · subst h; simp
    · rw [Int.compare_eq_gt.2 h, if_neg (by omega), if_neg (by omega)]
  rw [cc]
  cases s <;> cases t <;> simp
  all_goals
    rcases Nat.lt_trichotomy r q with h | h | h
    all_goals (repeat' split) <;> first | rfl | (exfalso; omega) | (exfalso; simp_all; omega)

theorem order_number (s t : Bool) (m n i j : Nat) (L : Int) (M r q : Nat) (h1 : m * 2 ^ i = val M r) (h2 : n * 2 ^ j = val M q) :
    (Ieee.Datum.number s m (L + i)).order (.number t n (L + j)) = some (if ordR s t r q = 0 then .eq else if ordR s t r q = -1 then .lt else .gt) := by
  unfold Ieee.Datum.order
  simp only [signed_eq]
  rw [← compare_vals s t r q M]
  congr 1
  have hb : ∃ k : Nat, min (L + (i : Int)) (L + (j : Int)) = L + (k : Int) ∧ k ≤ i ∧ k ≤ j := ⟨min i j, by omega, by omega, by omega⟩
  obtain ⟨k, hk, ki, kj⟩ := hb
  rw [hk]
  have e1 : (L + (i : Int) - (L + k)).toNat = i - k := by omega
  have e2 : (L + (j : Int) - (L + k)).toNat = j - k := by omega
  rw [e1, e2, ← cmp_int_scale _ _ (2 ^ k) (Nat.two_pow_pos k)]
  have f : ∀ (b : Bool) (v c : Nat), sv b v * (c : Int) = sv b (v * c) := by
    intro b v c; unfold sv; split
    · rw [Int.neg_mul, Int.natCast_mul]
    · rw [Int.natCast_mul]
  rw [f, f, Nat.mul_assoc, Nat.mul_assoc, ← Nat.pow_add, ← Nat.pow_add, Nat.sub_add_cancel ki, Nat.sub_add_cancel kj, h1, h2]

/-- THE MODEL's ORDER, by signs and rungs -/
theorem order_eq (E M a b : Nat) (hE : 2 ≤ E) : (Ieee.Format.mk E M).order a b = ordOf (ordS (uNeg E M a) (uNeg E M b) (uCls E M a) (uCls E M b) (a % 2 ^ (E + M)) (b % 2 ^ (E + M))) := by
  have hi : 0 < infR E M := by
    unfold infR
    have : 2 ^ 2 ≤ 2 ^ E := Nat.pow_le_pow_right (by decide) hE
    exact Nat.mul_pos (by omega) (Nat.two_pow_pos _)
  unfold Ieee.Format.order
  by_cases na : infR E M < a % 2 ^ (E + M)
  · obtain ⟨s, t, h⟩ := read_nan E M a na hE
    rw [h, (cls_nan E M a).2 na]
    simp [Ieee.Datum.order, ordS, ordOf]
  have ca : uCls E M a ≠ 4 := fun h => na ((cls_nan E M a).1 h)
  by_cases nb : infR E M < b % 2 ^ (E + M)
  · obtain ⟨s, t, h⟩ := read_nan E M b nb hE
    rw [h, (cls_nan E M b).2 nb]
    simp only [ordS, ordOf]
    cases (Ieee.Format.mk E M).read a <;> simp [Ieee.Datum.order]
  have cb : uCls E M b ≠ 4 := fun h => nb ((cls_nan E M b).1 h)
  have ea : uNeg E M a = sF E M a := by unfold uNeg; rw [if_neg ca]
  have eb : uNeg E M b = sF E M b := by unfold uNeg; rw [if_neg cb]
  have e0 : ∀ s t r q, ordOf (ordR s t r q) = some (if ordR s t r q = 0 then .eq else if ordR s t r q = -1 then .lt else .gt) := by
    intro s t r q
    have : ordR s t r q = 0 ∨ ordR s t r q = -1 ∨ ordR s t r q = 1 := by
      unfold ordR; repeat' split
      all_goals simp
    unfold ordOf
    rcases this with h | h | h <;> rw [h] <;> decide
  have eS : ordS (uNeg E M a) (uNeg E M b) (uCls E M a) (uCls E M b) (a % 2 ^ (E + M)) (b % 2 ^ (E + M)) = ordR (sF E M a) (sF E M b) (a % 2 ^ (E + M)) (b % 2 ^ (E + M)) := by
    unfold ordS; rw [if_neg (by omega), ea, eb]
  rw [eS, e0]
  by_cases ia : a % 2 ^ (E + M) = infR E M
  · rw [read_inf E M a ia hE]
    by_cases ib : b % 2 ^ (E + M) = infR E M
    · rw [read_inf E M b ib hE, ia, ib]
      unfold ordR
      cases sF E M a <;> cases sF E M b <;> simp [Ieee.Datum.order, Nat.ne_of_gt hi] <;> rfl
    · obtain ⟨m, i, h, _⟩ := read_num E M b (by omega)
      rw [h, ia]
      generalize b % 2 ^ (E + M) = q at *
      have e1 : ¬ (infR E M = q) := fun e => ib e.symm
      have e2 : ¬ (infR E M < q) := by omega
      have e3 : ¬ (infR E M = 0) := by omega
      unfold ordR
      cases sF E M a <;> cases sF E M b <;> simp [Ieee.Datum.order, e1, e2, e3]
  · obtain ⟨m, i, h, j, hj, hv⟩ := read_num E M a (by omega)
    rw [h]
    by_cases ib : b % 2 ^ (E + M) = infR E M
    · rw [read_inf E M b ib hE, ib]
      generalize a % 2 ^ (E + M) = q at *
      have e1 : ¬ (q = infR E M) := ia
      have e2 : q < infR E M := by omega
      have e3 : ¬ (infR E M = 0) := by omega
      unfold ordR
      cases sF E M a <;> cases sF E M b <;> simp [Ieee.Datum.order, e1, e2, e3]
    · obtain ⟨m', i', h', j', hj', hv'⟩ := read_num E M b (by omega)
      rw [h', hj, hj', order_number _ _ _ _ _ _ _ M _ _ hv hv']
end Go.Proofs.Ygcoaf
