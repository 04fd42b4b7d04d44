/-
  THE LAW 'NativeSign': the row, out of the walk.
-/
import Derived.Test.YgcoafPost
import Derived.Test.YgcoafW6
namespace Go.Proofs.Ygcoaf
open Go.ChangeShapes Go.WideShapes Go.ChangeAt Go.RowKit

/-- true; each argument as it was -/
def nSign_provedFn (H : Type) : List (DataW H) → Left H
  | [d1, d2] => { results := [.lit (.bool true)], args := [d1, d2] }
  | _ => Rows.none

set_option maxRecDepth 100000 in
theorem nSign_proved_lifted (nm : String) (os : Os) (started : os.Started) (H : Type) (enc : TypeId × Value → H) :
    ReturnsInHanded {} Oafg.checked os 7 .any (({ name := nm, fn := nSign_provedFn } : ChangeSpec).pre6 enc Oafg.prog Oafg.f7 [] false) (({ name := nm, fn := nSign_provedFn } : ChangeSpec).post enc Oafg.prog Oafg.f7 false true false false) := by
  refine returnsInHanded_of_change (C := Oafg.checked) own started (by kernel_rfl) Oafg.func7
    (ChangeSpec.witness6 (enc := enc) (C := Oafg.checked) false ⟨#[], #[.int .u64 0, .int .u32 0], []⟩ 8 (by kernel_rfl) (by kernel_rfl) (by kernel_rfl) (by kernel_rfl)) ?_
  intro W base args ds gs before hval0 hW hcnd _
  have hval : ∀ (j : Nat) t v, Oafg.f7.params[j]? = some t → args[j]? = some v → Value.okWide Oafg.prog W .any base t v := hval0
  have hW' := hW
  obtain ⟨p, q, hA0, hV, rfl, hfz, hnd⟩ := hW
  have hA : DataW.TrodAll enc Oafg.prog W 0 (fun _ => true) true Oafg.f7.params.toList args.toList ds p := hA0
  rw [Oafg.params7] at hA hval
  obtain ⟨v0, vs0, d0, ds0, p0, q0, hargs, rfl, rfl, h0, r0⟩ := trodAll_cons hA
  obtain ⟨v1, vs1, d1, ds1, p1, q1, rfl, rfl, rfl, h1, r1⟩ := trodAll_cons r0
  obtain ⟨rfl, rfl, rfl⟩ := trodAll_nil r1
  obtain rfl : args = #[v0, v1] := by cases args; simp_all
  obtain ⟨rfl, rfl⟩ := trodVars_none hV
  obtain ⟨a0, rfl, rfl, rfl, w0⟩ := open_int Oafg.underlying23 (hval 0 23 v0 rfl rfl) h0
  obtain ⟨a1, rfl, rfl, rfl, w1⟩ := open_int Oafg.underlying22 (hval 1 22 v1 rfl rfl) h1
  clear hA0 hval0
  simp only [List.append_nil] at hW'
  obtain ⟨x0, rfl, b0⟩ := u64_of_wf w0
  obtain ⟨x1, rfl, b1⟩ := u32_of_wf w1
  refine (nSign_walk x0 x1 b0 b1 W).mono fun e W' ⟨he, hg⟩ => ?_
  subst he
  exact ⟨_, rfl, post_below (pa := []) (pv := []) hW' (fun _ _ _ => (trodAll_cons_mk (shut_bool Oafg.underlying4 _) trodAll_mk0)) (fun sp _ => (trodAll_cons_mk (shut_int Oafg.underlying23 w0) (trodAll_cons_mk (shut_int Oafg.underlying22 w1) trodAll_mk0))) (fun _ _ => rfl) rfl hg⟩

/-- THE STATEMENT -/
theorem nSign_proved : Rows.NativeSignSaid :=
  OpenClaim.holds_of_wide 7 Oafg.f7 rfl rfl rfl rfl rfl rfl rfl ⟨rfl, rfl, rfl, rfl, rfl⟩ rfl rfl rfl rfl rfl (by kernel_rfl) Oafg.func7 (by kernel_rfl)
    (of_decide_eq_true (by kernel_rfl)) (by unfold Func.isWrapper; first | (rw [if_pos (by decide +kernel)]; kernel_rfl) | (rw [if_neg (by decide +kernel)]; exact ⟨rfl, rfl⟩))
    (fun os started H enc _ => nSign_proved_lifted _ os started H enc)
end Go.Proofs.Ygcoaf
