/- After at most 100 acts of three hosts and three witnesses, a host that seeks an epoch that is greater than all that were granted, and reaches two witnesses, holds the token, and releases what it offers; for every list of acts, and any three numbers of eight, eight and sixteen bits. -/
import Derived.Test.YtnmgifoihmjjmaaPart4
import Derived.Test.YtnmgifoihmjjmaaPart10
import Derived.Test.YtnmgifoihmjjmaaRows

set_option linter.all false
set_option linter.unusedSimpArgs false
set_option linter.unusedVariables false
namespace Go.Proofs.Ytnmgifoihmjjmaa.law4
open Go Go.Eng
set_option maxRecDepth 100000

theorem own : ownKnob Try.prog.godebug = none := by kernel_rfl
theorem laid : laidOutB Try.prog = true := by kernel_rfl
def shA : Sh := .ag [.i .u8, .i .u8, .i .u8, .i .u8]
def shapes : List Sh := [.sl shA, .i .u8, .i .u8, .i .u16]
theorem shapesOk : shAll Try.prog Try.f4.params.toList = some shapes := by kernel_rfl
theorem plain : plainTs Try.prog Try.f4.params.toList = true := by kernel_rfl
theorem three {α : Type} {l : List α} (h : l.length = 4) : ∃ a b c d, l = [a, b, c, d] := by
  match l, h with
  | [a, b, c, d], _ => exact ⟨a, b, c, d, rfl⟩
def toAct (x : Ty shA) : Act := ⟨x.1, x.2.1, x.2.2.1, x.2.2.2.1⟩
theorem cells_act : ∀ l : List (Ty shA), List.flatMap (cellsT shA) l = acells (l.map toAct)
  | [] => rfl
  | x :: r => by
    rw [List.flatMap_cons, cells_act r, List.map_cons]
    rfl
theorem u8 {n : Int} (h : IntKind.u8.min ≤ n ∧ n ≤ IntKind.u8.max) : 0 ≤ n ∧ n < 256 := by
  have h1 : IntKind.u8.min = 0 := rfl
  have h2 : IntKind.u8.max = 255 := rfl
  omega
theorem u16 {n : Int} (h : IntKind.u16.min ≤ n ∧ n ≤ IntKind.u16.max) : 0 ≤ n ∧ n < 65536 := by
  have h1 : IntKind.u16.min = 0 := rfl
  have h2 : IntKind.u16.max = 65535 := rfl
  omega
theorem call (x : Tys shapes) (hx : wfTs shapes x) : CallA Try.prog 4 (argTs shapes x) Heap.nil fun v H' => v = .bool true ∧ H' = Heap.nil := by
  obtain ⟨l, ho, fa, up, ⟨⟩⟩ := x
  simp only [shapes, wfTs, wfT] at hx
  have hlen := hx.1.2
  have hlm : (List.map toAct l).length = List.length l := List.length_map toAct
  have h := c4 (List.map toAct l) none ho fa up (by rw [hlm]; simpa [maxLen] using hlen) (fun a ha => by
    obtain ⟨y, hy, rfl⟩ := List.mem_map.1 ha
    have hw := hx.1.1 y hy
    simp only [shA, wfT, wfTs] at hw
    exact ⟨u8 hw.1, u8 hw.2.1, u8 hw.2.2.1, u8 hw.2.2.2.1⟩) (u8 hx.2.1) (u8 hx.2.2.1) (u16 hx.2.2.2.1)
  have e : argTs shapes ⟨l, ho, fa, up, ⟨⟩⟩ = [.dslice (acells (List.map toAct l)) (List.map toAct l).length none, .int .u8 ho, .int .u8 fa, .int .u16 up] := by
    show [AV.dslice (List.flatMap (cellsT shA) l) (List.length l) none, AV.int .u8 ho, AV.int .u8 fa, AV.int .u16 up] = _
    rw [cells_act l, hlm]
  rw [e]; exact h
theorem lifted (os : Os) (started : os.Started) (H : Type) (enc : TypeId × Value → H) :
    ReturnsInHanded {} Try.checked os 4 .any (Rows.tokenCanBeHadSpec.pre6 enc Try.prog Try.f4 Rows.tokenCanBeHadRow.domain false) (Rows.tokenCanBeHadSpec.post enc Try.prog Try.f4 false true false false) := by
  refine returnsInHanded_of_change (C := Try.checked) own started (by kernel_rfl) Try.func4
    (ChangeSpec.witness6 (enc := enc) (C := Try.checked) false ⟨#[], #[.slice none 0 0, .int .u8 0, .int .u8 0, .int .u16 0], []⟩ 8 (by kernel_rfl) (by kernel_rfl) (by kernel_rfl) (by kernel_rfl)) ?_
  intro W base args ds gs before hval hW _ _
  exact law_contract (tb := 4) shapesOk laid plain rfl (by kernel_rfl) Try.underlying4 (fun ds h => by
    have h : ds.length = 4 := h
    obtain ⟨a, b, c, d, rfl⟩ := three h; rfl) call W base args ds gs before hval hW
theorem holds : Rows.TokenCanBeHadSaid :=
  OpenClaim.holds_of_wide 4 Try.f4 rfl rfl rfl rfl rfl rfl rfl ⟨rfl, rfl, rfl, rfl, rfl⟩ rfl rfl rfl rfl rfl (by kernel_rfl) Try.func4 (by kernel_rfl)
    (of_decide_eq_true (by kernel_rfl)) (by unfold Func.isWrapper; first | (rw [if_pos (by decide +kernel)]; kernel_rfl) | (rw [if_neg (by decide +kernel)]; exact ⟨rfl, rfl⟩))
    (fun os started H enc _ => lifted os started H enc)
#print axioms holds
end Go.Proofs.Ytnmgifoihmjjmaa.law4

