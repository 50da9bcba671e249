/- For every list of events, the law OrderEdgesAreLeast returns true and leaves its argument as it was; no conditions. -/
import Derived.Test.YtnhjhmilijghkaaPart4
import Derived.Test.YtnhjhmilijghkaaPart8
import Derived.Test.YtnhjhmilijghkaaRows

set_option linter.all false
set_option linter.unusedSimpArgs false
set_option linter.unusedVariables false
namespace Go.Proofs.Ytnhjhmilijghkaa.law5
open Go Go.Eng Go.Proofs
set_option maxRecDepth 100000
theorem own : ownKnob Try.prog.godebug = none := by kernel_rfl
theorem laid : laidOutB Try.prog = true := by kernel_rfl
def shA : Sh := .ag [.i .i64, .i .i64, .b]
def shE : Sh := .ag [.i .i64, .b, .sl shA]
def shapes : List Sh := [.sl shE]
theorem shapesOk : shAll Try.prog Try.f5.params.toList = some shapes := by kernel_rfl
theorem plain : plainTs Try.prog Try.f5.params.toList = true := by kernel_rfl
def toAcc (x : Ty shA) : Acc := ⟨x.1, x.2.1, x.2.2.1⟩
def toEv (x : Ty shE) : Ev := ⟨x.1, x.2.1, (show List (Ty shA) from x.2.2.1).map toAcc, none⟩
theorem cells_acc : ∀ l : List (Ty shA), List.flatMap (cellsT shA) l = acs (l.map toAcc)
  | [] => rfl
  | x :: r => by
    rw [List.flatMap_cons, cells_acc r, List.map_cons]
    rfl
theorem cells_ev : ∀ l : List (Ty shE), List.flatMap (cellsT shE) l = evs (l.map toEv)
  | [] => rfl
  | x :: r => by
    rw [List.flatMap_cons, cells_ev r, List.map_cons]
    obtain ⟨c, b, as', ⟨⟩⟩ := x
    have h1 := cells_acc as'
    have h2 : (List.map toAcc as').length = List.length as' := List.length_map toAcc
    show [I c, .bool b, .dslice (List.flatMap (cellsT shA) as') (List.length as') none] ++ _ = I c :: .bool b :: .dslice (acs (List.map toAcc as')) (List.map toAcc as').length none :: _
    rw [h1, h2]; rfl
theorem call (x : Tys shapes) (hx : wfTs shapes x) : CallA Try.prog 5 (argTs shapes x) Heap.nil fun v H' => v = .bool true ∧ H' = Heap.nil := by
  obtain ⟨l, ⟨⟩⟩ := x
  have hlm : (List.map toEv l).length = List.length l := List.length_map toEv
  have := c5 (List.map toEv l) none
  have e2 : argTs shapes ⟨l, ⟨⟩⟩ = [.dslice (evs (List.map toEv l)) (List.map toEv l).length none] := by
    rw [← cells_ev l, hlm]; rfl
  rw [e2]; exact this
theorem gl {W : World} : GlobM (Mw W) := fun _ => trivial
theorem lens {α : Type} {l : List α} (h : l.length = 1) : ∃ a, l = [a] := by
  match l, h with
  | [a], _ => exact ⟨a, rfl⟩
theorem lifted (os : Os) (started : os.Started) (H : Type) (enc : TypeId × Value → H) :
    ReturnsInHanded {} Try.checked os 5 .any (Rows.orderEdgesAreLeastSpec.pre6 enc Try.prog Try.f5 Rows.orderEdgesAreLeastRow.domain false) (Rows.orderEdgesAreLeastSpec.post enc Try.prog Try.f5 false true false false) := by
  refine returnsInHanded_of_change (C := Try.checked) own started (by kernel_rfl) Try.func5
    (ChangeSpec.witness6 (enc := enc) (C := Try.checked) false ⟨#[], #[.slice none 0 0], []⟩ 8 (by kernel_rfl) (by kernel_rfl) (by kernel_rfl) (by kernel_rfl)) ?_
  intro W base args ds gs before hval hW _ _
  exact law_contract (tb := 4) shapesOk laid plain rfl (by kernel_rfl) Try.underlying4 (fun ds h => by
    have h : ds.length = 1 := h
    obtain ⟨a, rfl⟩ := lens h; rfl) call W base args ds gs before hval hW gl
theorem holds : Rows.OrderEdgesAreLeastSaid :=
  OpenClaim.holds_of_wide 5 Try.f5 rfl rfl rfl rfl rfl rfl rfl ⟨rfl, rfl, rfl, rfl, rfl⟩ rfl rfl rfl rfl rfl (by kernel_rfl) Try.func5 (by kernel_rfl)
    (of_decide_eq_true (by kernel_rfl)) (by unfold Func.isWrapper; first | (rw [if_pos (by decide +kernel)]; kernel_rfl) | (rw [if_neg (by decide +kernel)]; exact ⟨rfl, rfl⟩))
    (fun os started H enc _ => lifted os started H enc)
#print axioms holds
end Go.Proofs.Ytnhjhmilijghkaa.law5

