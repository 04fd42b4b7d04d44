/-
  A FORMAT HANDED IN: opened and shut.
-/
import Derived.Test.YgcoafPost
namespace Go.Proofs.Ygcoaf
open Go.ChangeShapes Go.WideShapes Go.ChangeAt Go.RowKit

set_option maxRecDepth 100000 in
theorem open_fmt {H : Type} {enc : TypeId × Value → H} {w : World} {base : Nat} {spare : Nat → Bool} {held : Bool} {r : Reach} {b0 : Nat} {v : Value} {d : DataW H} {ps : List MemPlace}
    (hval : Value.okWide Oafg.prog w r b0 27 v) (hd : DataW.Trod enc Oafg.prog w base spare held 27 v d ps) :
    ∃ m n, v = .agg #[.int .u8 m, .int .u8 n] ∧ d = .agg [.lit (.int .u8 m), .lit (.int .u8 n)] ∧ ps = [] ∧ (Lit.int .u8 m).wf = true ∧ (Lit.int .u8 n).wf = true := by
  have hc27 : Oafg.prog.cellsOf 27 = 2 := by kernel_rfl
  have hc5 : Oafg.prog.cellsOf 5 = 1 := by kernel_rfl
  obtain ⟨cs, rfl, hcs⟩ := okWide_struct Oafg.underlying27 hval
  rw [hc27] at hcs
  obtain ⟨fuel, hf⟩ := hd
  obtain ⟨xs, k, rfl, hx, hlen, hl, hfl⟩ := DataW.trod_struct Oafg.underlying27 hf
  match xs, hl with
  | [y0, y1], _ =>
    have h0 := hfl 0 _ rfl
    have h1 := hfl 1 _ rfl
    simp [hc5, Value.cells] at h0 h1
    obtain ⟨m, e0, rfl, w0⟩ := DataW.trod_int Oafg.underlying5 h0
    obtain ⟨n, e1, rfl, w1⟩ := DataW.trod_int Oafg.underlying5 h1
    simp only [Prod.mk.injEq] at hx
    obtain ⟨l⟩ := cs
    match l, hcs with
    | [a, b], _ =>
      simp at e0 e1
      subst e0 e1
      exact ⟨m, n, rfl, hx.1, hx.2, w0, w1⟩

set_option maxRecDepth 100000 in
theorem shut_fmt {H : Type} {enc : TypeId × Value → H} {w : World} {base : Nat} {spare : Nat → Bool} {held : Bool} {m n : Int} (w0 : (Lit.int .u8 m).wf = true) (w1 : (Lit.int .u8 n).wf = true) :
    DataW.Trod enc Oafg.prog w base spare held 27 (.agg #[.int .u8 m, .int .u8 n]) (.agg [.lit (.int .u8 m), .lit (.int .u8 n)]) [] := by
  have hc27 : Oafg.prog.cellsOf 27 = 2 := by kernel_rfl
  have hc5 : Oafg.prog.cellsOf 5 = 1 := by kernel_rfl
  have u5 := Oafg.underlying5
  refine ⟨2, ?_⟩
  unfold DataW.trod
  rw [Oafg.underlying27]
  simp [DataW.trod, Value.cells, hc27, hc5, u5, w0, w1]
end Go.Proofs.Ygcoaf
