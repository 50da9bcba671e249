/- For every valid witness with at most 70 machines, every other one too, and every list of pleas, TokenNeverGoesBack returns true and leaves its arguments as they were. -/
import Derived.Test.YtnmgifoihmjjmaaPart3
import Derived.Test.YtnmgifoihmjjmaaPart6
import Derived.Test.YtnmgifoihmjjmaaRows

set_option linter.all false
set_option linter.unusedSimpArgs false
set_option linter.unusedVariables false
namespace Go.Proofs.Ytnmgifoihmjjmaa.law5
open Go Go.Eng
set_option maxRecDepth 100000

theorem own : ownKnob Try.prog.godebug = none := by kernel_rfl
theorem laid : laidOutB Try.prog = true := by kernel_rfl
def shK : Sh := .ag [.i .i64, .i .i64, .i .i64, .i .i64]
def shP : Sh := .ag [.i .i64, .i .i64, .i .i64, .i .i64, .i .i64]
def shapes : List Sh := [.ag [.i .i64, .sl shK], .sl shP]
theorem shapesOk : shAll Try.prog Try.f5.params.toList = some shapes := by kernel_rfl
theorem plain : plainTs Try.prog Try.f5.params.toList = true := by kernel_rfl
theorem two {α : Type} {l : List α} (h : l.length = 2) : ∃ a b, l = [a, b] := by
  match l, h with
  | [a, b], _ => exact ⟨a, b, rfl⟩
def toKep (x : Ty shK) : Kep := ⟨x.1, x.2.1, x.2.2.1, x.2.2.2.1⟩
theorem cells_kep : ∀ l : List (Ty shK), List.flatMap (cellsT shK) l = kcells (l.map toKep)
  | [] => rfl
  | x :: r => by
    rw [List.flatMap_cons, cells_kep r, List.map_cons]
    rfl
def toPle (x : Ty shP) : Ple := ⟨x.1, x.2.1, x.2.2.1, x.2.2.2.1, x.2.2.2.2.1⟩
theorem cells_ple : ∀ l : List (Ty shP), List.flatMap (cellsT shP) l = pcells (l.map toPle)
  | [] => rfl
  | x :: r => by
    rw [List.flatMap_cons, cells_ple r, List.map_cons]
    rfl
theorem call (x : Tys shapes) (hx : wfTs shapes x) : CallA Try.prog 5 (argTs shapes x) Heap.nil fun v H' => v = .bool true ∧ H' = Heap.nil := by
  obtain ⟨⟨id, l, ⟨⟩⟩, ps, ⟨⟩⟩ := x
  simp only [shapes, wfTs, wfT] at hx
  have hlen := hx.1.2.1.2
  have hlen2 := hx.2.1.2
  have hlm : (List.map toKep l).length = List.length l := List.length_map toKep
  have hlm2 : (List.map toPle ps).length = List.length ps := List.length_map toPle
  have h := c5all id (List.map toKep l) (List.map toPle ps) (by rw [hlm]; simpa [maxLen] using hlen) (by rw [hlm2]; simpa [maxLen] using hlen2)
  have e : argTs shapes ⟨⟨id, l, ⟨⟩⟩, ps, ⟨⟩⟩ = [.agg (wav id (List.map toKep l) none), .dslice (pcells (List.map toPle ps)) (List.map toPle ps).length none] := by
    show [AV.agg [I id, .dslice (List.flatMap (cellsT shK) l) (List.length l) none], AV.dslice (List.flatMap (cellsT shP) ps) (List.length ps) none] = _
    rw [cells_kep l, cells_ple ps]
    simp only [wav, hlm, hlm2]
  rw [e]; exact h
theorem lifted (os : Os) (started : os.Started) (H : Type) (enc : TypeId × Value → H) :
    ReturnsInHanded {} Try.checked os 5 .any (Rows.tokenNeverGoesBackSpec.pre6 enc Try.prog Try.f5 Rows.tokenNeverGoesBackRow.domain false) (Rows.tokenNeverGoesBackSpec.post enc Try.prog Try.f5 false true false false) := by
  refine returnsInHanded_of_change (C := Try.checked) own started (by kernel_rfl) Try.func5
    (ChangeSpec.witness6 (enc := enc) (C := Try.checked) false ⟨#[], #[.agg #[.int .i64 0, .slice none 0 0], .slice none 0 0], []⟩ 8 (by kernel_rfl) (by kernel_rfl) (by kernel_rfl) (by kernel_rfl)) ?_
  intro W base args ds gs before hval hW _ _
  exact law_contract (tb := 4) shapesOk laid plain rfl (by kernel_rfl) Try.underlying4 (fun ds h => by
    have h : ds.length = 2 := h
    obtain ⟨a, b, rfl⟩ := two h; rfl) call W base args ds gs before hval hW
theorem holds : Rows.TokenNeverGoesBackSaid :=
  OpenClaim.holds_of_wide 5 Try.f5 rfl rfl rfl rfl rfl rfl rfl ⟨rfl, rfl, rfl, rfl, rfl⟩ rfl rfl rfl rfl rfl (by kernel_rfl) Try.func5 (by kernel_rfl)
    (of_decide_eq_true (by kernel_rfl)) (by unfold Func.isWrapper; first | (rw [if_pos (by decide +kernel)]; kernel_rfl) | (rw [if_neg (by decide +kernel)]; exact ⟨rfl, rfl⟩))
    (fun os started H enc _ => lifted os started H enc)
#print axioms holds
end Go.Proofs.Ytnmgifoihmjjmaa.law5

