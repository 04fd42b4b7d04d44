/-
  THE LAW 'Seldom': the row, out of the walk.
-/
import Derived.Test.YgcoafPost
import Derived.Test.YgcoafFm
import Derived.Test.YgcoafQ11
namespace Go.Proofs.Ygcoaf
open Go.ChangeShapes Go.WideShapes Go.ChangeAt Go.RowKit

/-- true; each argument as it was -/
def seldom_provedFn (H : Type) : List (DataW H) → Left H
  | [d1, d2, d3] => { results := [.lit (.bool true)], args := [d1, d2, d3] }
  | _ => Rows.none

set_option maxRecDepth 100000 in
theorem seldom_proved_lifted (nm : String) (os : Os) (started : os.Started) (H : Type) (enc : TypeId × Value → H) :
    ReturnsInHanded {} Oafg.checked os 12 .any (({ name := nm, fn := seldom_provedFn } : ChangeSpec).pre6 enc Oafg.prog Oafg.f12 [] false) (({ name := nm, fn := seldom_provedFn } : ChangeSpec).post enc Oafg.prog Oafg.f12 false true false false) := by
  refine returnsInHanded_of_change (C := Oafg.checked) own started (by kernel_rfl) Oafg.func12
    (ChangeSpec.witness6 (enc := enc) (C := Oafg.checked) false ⟨#[], #[.bool false, .int .u64 0, .int .i16 0], []⟩ 8 (by kernel_rfl) (by kernel_rfl) (by kernel_rfl) (by kernel_rfl)) ?_
  intro W base args ds gs before hval0 hW hcnd _
  have hval : ∀ (j : Nat) t v, Oafg.f12.params[j]? = some t → args[j]? = some v → Value.okWide Oafg.prog W .any base t v := hval0
  have hW' := hW
  obtain ⟨p, q, hA0, hV, rfl, hfz, hnd⟩ := hW
  have hA : DataW.TrodAll enc Oafg.prog W 0 (fun _ => true) true Oafg.f12.params.toList args.toList ds p := hA0
  rw [Oafg.params12] at hA hval
  obtain ⟨v0, vs0, d0, ds0, p0, q0, hargs, rfl, rfl, h0, r0⟩ := trodAll_cons hA
  obtain ⟨v1, vs1, d1, ds1, p1, q1, rfl, rfl, rfl, h1, r1⟩ := trodAll_cons r0
  obtain ⟨v2, vs2, d2, ds2, p2, q2, rfl, rfl, rfl, h2, r2⟩ := trodAll_cons r1
  obtain ⟨rfl, rfl, rfl⟩ := trodAll_nil r2
  obtain rfl : args = #[v0, v1, v2] := by cases args; simp_all
  obtain ⟨rfl, rfl⟩ := trodVars_none hV
  obtain ⟨a0, rfl, rfl, rfl⟩ := open_bool Oafg.underlying4 (hval 0 4 v0 rfl rfl) h0
  obtain ⟨a1, rfl, rfl, rfl, w1⟩ := open_int Oafg.underlying23 (hval 1 23 v1 rfl rfl) h1
  obtain ⟨a2, rfl, rfl, rfl, w2⟩ := open_int Oafg.underlying58 (hval 2 58 v2 rfl rfl) h2
  clear hA0 hval0
  simp only [List.append_nil] at hW'
  obtain ⟨x1, rfl, b1⟩ := u64_of_wf w1
  have b2 := i16_of_wf w2
  refine (seldom_walk a0 x1 a2 b1 b2 W).mono fun e W' ⟨he, hg⟩ => ?_
  subst he
  exact ⟨_, rfl, post_below (pa := []) (pv := []) hW' (fun _ _ _ => (trodAll_cons_mk (shut_bool Oafg.underlying4 _) trodAll_mk0)) (fun sp _ => (trodAll_cons_mk (shut_bool Oafg.underlying4 _) (trodAll_cons_mk (shut_int Oafg.underlying23 w1) (trodAll_cons_mk (shut_int Oafg.underlying58 w2) trodAll_mk0)))) (fun _ _ => rfl) rfl hg⟩

/-- THE STATEMENT -/
theorem seldom_proved : Rows.SeldomSaid :=
  OpenClaim.holds_of_wide 12 Oafg.f12 rfl rfl rfl rfl rfl rfl rfl ⟨rfl, rfl, rfl, rfl, rfl⟩ rfl rfl rfl rfl rfl (by kernel_rfl) Oafg.func12 (by kernel_rfl)
    (of_decide_eq_true (by kernel_rfl)) (by unfold Func.isWrapper; first | (rw [if_pos (by decide +kernel)]; kernel_rfl) | (rw [if_neg (by decide +kernel)]; exact ⟨rfl, rfl⟩))
    (fun os started H enc _ => seldom_proved_lifted _ os started H enc)
end Go.Proofs.Ygcoaf
