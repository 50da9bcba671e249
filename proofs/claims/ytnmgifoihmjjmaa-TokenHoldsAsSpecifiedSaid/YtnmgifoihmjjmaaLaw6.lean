/- For every holder, right or not, every number and every grant, TokenHoldsAsSpecified returns true and leaves its arguments as they were. -/
import Derived.Test.YtnmgifoihmjjmaaPart3
import Derived.Test.YtnmgifoihmjjmaaPart5
import Derived.Test.YtnmgifoihmjjmaaRows

namespace Go.Proofs.Ytnmgifoihmjjmaa.law6
open Go Go.Eng
set_option maxRecDepth 100000

theorem own : ownKnob Try.prog.godebug = none := by kernel_rfl
theorem laid : laidOutB Try.prog = true := by kernel_rfl
def shapes : List Sh := [.ag [.i .i64, .i .i64, .i .i64, .ar 3 .b, .i .i64, .ar 3 (.i .i64), .i .i64], .i .i64, .ag [.i .i64, .ag [.i .i64, .i .i64, .i .i64, .i .i64, .i .i64], .b, .i .i64, .i .i64]]
theorem shapesOk : shAll Try.prog Try.f6.params.toList = some shapes := by kernel_rfl
theorem plain : plainTs Try.prog Try.f6.params.toList = true := by kernel_rfl
theorem three {α : Type} {l : List α} (h : l.length = 3) : ∃ a b c, l = [a, b, c] := by
  match l, h with
  | [a, b, c], _ => exact ⟨a, b, c, rfl⟩
theorem call (x : Tys shapes) (hx : wfTs shapes x) : CallA Try.prog 6 (argTs shapes x) Heap.nil fun v H' => v = .bool true ∧ H' = Heap.nil := by
  obtain ⟨⟨m, h, e, g, s, a, r, ⟨⟩⟩, n, ⟨w, ⟨k, pm, ph, pe, pu, ⟨⟩⟩, ag, ge, gu, ⟨⟩⟩, ⟨⟩⟩ := x
  simp only [shapes, wfTs, wfT] at hx
  obtain ⟨g0, g1, g2, rfl⟩ := three hx.1.2.2.2.1.2
  obtain ⟨a0, a1, a2, rfl⟩ := three hx.1.2.2.2.2.2.1.2
  exact c6 ⟨m, h, e, g0, g1, g2, s, a0, a1, a2, r⟩ n ⟨w, ⟨k, pm, ph, pe, pu⟩, ag, ge, gu⟩
theorem lifted (os : Os) (started : os.Started) (H : Type) (enc : TypeId × Value → H) :
    ReturnsInHanded {} Try.checked os 6 .any (Rows.tokenHoldsAsSpecifiedSpec.pre6 enc Try.prog Try.f6 Rows.tokenHoldsAsSpecifiedRow.domain false) (Rows.tokenHoldsAsSpecifiedSpec.post enc Try.prog Try.f6 false true false false) := by
  refine returnsInHanded_of_change (C := Try.checked) own started (by kernel_rfl) Try.func6
    (ChangeSpec.witness6 (enc := enc) (C := Try.checked) false ⟨#[], #[.agg #[.int .i64 0, .int .i64 0, .int .i64 0, .bool false, .bool false, .bool false, .int .i64 0, .int .i64 0, .int .i64 0, .int .i64 0, .int .i64 0], .int .i64 0, .agg #[.int .i64 0, .int .i64 0, .int .i64 0, .int .i64 0, .int .i64 0, .int .i64 0, .bool false, .int .i64 0, .int .i64 0]], []⟩ 8 (by kernel_rfl) (by kernel_rfl) (by kernel_rfl) (by kernel_rfl)) ?_
  intro W base args ds gs before hval hW _ _
  exact law_contract (tb := 4) shapesOk laid plain rfl (by kernel_rfl) Try.underlying4 (fun ds h => by
    have h : ds.length = 3 := h
    obtain ⟨a, b, c, rfl⟩ := three h; rfl) call W base args ds gs before hval hW
theorem holds : Rows.TokenHoldsAsSpecifiedSaid :=
  OpenClaim.holds_of_wide 6 Try.f6 rfl rfl rfl rfl rfl rfl rfl ⟨rfl, rfl, rfl, rfl, rfl⟩ rfl rfl rfl rfl rfl (by kernel_rfl) Try.func6 (by kernel_rfl)
    (of_decide_eq_true (by kernel_rfl)) (by unfold Func.isWrapper; first | (rw [if_pos (by decide +kernel)]; kernel_rfl) | (rw [if_neg (by decide +kernel)]; exact ⟨rfl, rfl⟩))
    (fun os started H enc _ => lifted os started H enc)
#print axioms holds
end Go.Proofs.Ytnmgifoihmjjmaa.law6

