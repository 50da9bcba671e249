/- For every places, a page, a slot and a choice the law BalloonMovesOnePage returns true and leaves its arguments as they were, where hash.constants begin as the text lays them. -/
import Derived.Test.YtligaclbjnccgaaDoorRPart4
import Derived.Test.YtligaclbjnccgaaDoorRPart7
import Derived.Test.YtligaclbjnccgaaDoorRCards
import Derived.Test.YtligaclbjnccgaaDoorRTie
import Derived.Deep.DeepHandedRow
import Derived.Lib.LaidTab

set_option linter.all false
set_option linter.unusedSimpArgs false
set_option linter.unusedVariables false
namespace Go.Proofs.YtligaclbjnccgaaDoorR.law4
open Go Go.Eng Go.Proofs
set_option maxRecDepth 100000
theorem own : ownKnob Tryd.prog.godebug = none := by kernel_rfl
theorem laid : laidOutB Tryd.prog = true := by kernel_rfl
def shapes : List Sh := [.ag [.sl (.ag [.i .i64, .i .i64])], .i .u8, .i .u16, .b]
theorem shapesOk : shAll Tryd.prog Tryd.f4.params.toList = some shapes := by kernel_rfl
theorem plain : plainTs Tryd.prog Tryd.f4.params.toList = true := by kernel_rfl
theorem gTab : Tryd.prog.globalNamed "simulacrum/hash.constants" = some 1 := by kernel_rfl
def zs : List Int := KS.map fun n : Nat => (n : Int)
theorem glob {W : World} (h : Lib.TabIs Tryd.prog W "simulacrum/hash.constants" .u32 zs) : GlobM (Mw W) := by
  intro n
  by_cases hn : n = 1
  · subst hn
    refine relM_of_get fun i c hi => ?_
    have hz : ks[i]? = some c := hi
    rw [ks_eq, List.getElem?_map] at hz
    obtain ⟨x, hx, rfl⟩ := Option.map_eq_some_iff.1 hz
    have hlt : i < zs.length := by
      have := (List.getElem?_eq_some_iff.1 hx).1
      simpa [zs] using this
    have := h.cell gTab i hlt
    refine ⟨_, by simpa [Mw] using this, ?_⟩
    simp [zs, List.getD_eq_getElem?_getD, hx, relV]
  · have : globOf n = [] := by
      show gfind [(1, ks)] n = []
      simp only [gfind]
      have : Nat.beq 1 n = false := by
        rw [Bool.eq_false_iff]; intro h; exact hn (Nat.eq_of_beq_eq_true h).symm
      rw [this]; rfl
    rw [this]; trivial
def shP : Sh := .ag [.i .i64, .i .i64]
def toPl (x : Ty shP) : Pl := ⟨x.1, x.2.1⟩
theorem cells_pl : ∀ l : List (Ty shP), List.flatMap (cellsT shP) l = pc (l.map toPl)
  | [] => rfl
  | x :: r => by
    rw [List.flatMap_cons, cells_pl r, List.map_cons]
    rfl
theorem cells_us : ∀ us : List (Ty .b), List.flatMap (cellsT .b) us = bcs us
  | [] => rfl
  | x :: r => by
    rw [List.flatMap_cons, cells_us r]
    rfl
theorem call (x : Tys shapes) (hx : wfTs shapes x) : CallA Tryd.prog 4 (argTs shapes x) Heap.nil fun v H' => v = .bool true ∧ H' = Heap.nil := by
  obtain ⟨⟨l, ⟨⟩⟩, page, slot, z, ⟨⟩⟩ := x
  have hlm : (List.map toPl l).length = List.length l := List.length_map toPl
  simp only [shapes, wfTs, wfT] at hx
  have h := c4 (List.map toPl l) none page slot z hx.2.1 hx.2.2.1
  have e : argTs shapes ⟨⟨l, ⟨⟩⟩, page, slot, z, ⟨⟩⟩ = [pgs (List.map toPl l) none, .int .u8 page, .int .u16 slot, .bool z] := by
    show [AV.agg [.dslice (List.flatMap (cellsT shP) l) (List.length l) none], .int .u8 page, .int .u16 slot, .bool z] = _
    rw [cells_pl l]
    simp only [pgs, hlm]
  rw [e]; exact h
open Go.ChangeShapes Go.WideShapes Go.ChangeAt Go.RowKit
theorem gTabType : (Tryd.prog.globals[1]?).map (·.type) = some 124 := by kernel_rfl
theorem cells124 : Tryd.prog.cellsOf 124 = 64 := by kernel_rfl
theorem cells106 : Tryd.prog.cellsOf 106 = 1 := by kernel_rfl
theorem table {W : World} (h : laidMetH Tryd.prog Rows.balloonMovesOnePageRow.laid W) : Lib.TabIs Tryd.prog W "simulacrum/hash.constants" .u32 zs :=
  Lib.tabIs_of_head (rest := []) gTab gTabType Tryd.underlying124 Tryd.underlying106 cells106 cells124 h
theorem some4 {α : Type} {l : List α} (h : l.length = 4) : ∃ a0 a1 a2 a3, l = [a0, a1, a2, a3] := by
  match l, h with
  | [a0, a1, a2, a3], _ => exact ⟨a0, a1, a2, a3, rfl⟩
theorem contract (H : Type) (enc : TypeId × Value → H) (W : World) (base : Nat) (args : Array Value) (ds gs : List (DataW H)) (before : List MemPlace)
    (hval : ∀ (j : Nat) t v, Tryd.f4.params[j]? = some t → args[j]? = some v → Value.okWide Tryd.prog W .any base t v)
    (hW : DataW.Whole enc Tryd.prog Tryd.f4.params.toList Rows.balloonMovesOnePageSpec.vars false W args.toList ds gs before) (hL : laidMetH Tryd.prog Rows.balloonMovesOnePageRow.laid W) :
    Calls Tryd.prog 4 args W fun e W' => ∃ v, e = .returned v ∧ Rows.balloonMovesOnePageSpec.post enc Tryd.prog Tryd.f4 false true false false W args v W' :=
  law_contract (tb := 4) shapesOk laid plain rfl (by kernel_rfl) Tryd.underlying4 (fun ds h => by
    have h : ds.length = 4 := h
    obtain ⟨a0, a1, a2, a3, rfl⟩ := some4 h; rfl) call W base args ds gs before hval hW (glob (table hL))
noncomputable def laidWorld (os : Os) : World :=
  { World.holding Tryd.prog os ⟨#[], #[], []⟩ with heap := (World.holding Tryd.prog os ⟨#[], #[], []⟩).heap.modify 1 fun
      | .cells _ t frozen => .cells (zs.map fun z => Value.int .u32 z).toArray t frozen
      | o => o }
def wargs : Array Value := #[.agg #[.slice none 0 0], .int .u8 0, .int .u16 0, .bool false]
theorem laid_met (os : Os) : laidMet Tryd.prog Rows.balloonMovesOnePageRow.laid ((laidWorld os).forCall (fun _ _ => 0) ⟨#[], wargs, []⟩).memory :=
  laidMet_of_run' 8 (by kernel_rfl) (by kernel_rfl)
theorem reads (os : Os) {H : Type} (enc : TypeId × Value → H) : ∃ places, DataW.whole enc Tryd.prog ((laidWorld os).forCall (fun _ _ => 0) ⟨#[], wargs, []⟩).memory Tryd.f4.params.toList Rows.balloonMovesOnePageSpec.vars false wargs.toList 8 = some ([.agg [.nil], .lit (.int .u8 0), .lit (.int .u16 0), .lit (.bool false)], [], places) := ⟨[], by kernel_rfl⟩
theorem lifted (os : Os) (started : os.Started) (H : Type) (enc : TypeId × Value → H) (F : Stop.Interp) :
    ReturnsInHanded {} Tryd.checked os 4 .any ((OpenSpec.ofChange Rows.balloonMovesOnePageSpec).preRow enc Tryd.prog Tryd.f4 Rows.balloonMovesOnePageRow.domain false Rows.balloonMovesOnePageRow.laid) (((OpenSpec.ofChange Rows.balloonMovesOnePageSpec).at F).post enc Tryd.prog Tryd.f4 false true false false) := by
  obtain ⟨places, hx⟩ := reads os enc
  refine returnsInHanded_of_row (C := Tryd.checked) (s := OpenSpec.ofChange Rows.balloonMovesOnePageSpec) own started (by kernel_rfl) Tryd.func4
    (witness_row_at (enc := enc) (C := Tryd.checked) false (laidWorld os) wargs rfl (by kernel_rfl) (by kernel_rfl) (by kernel_rfl)
      (OpenSpec.preRow_of_cond 8 hx (by kernel_rfl) (fun k hk => by cases hk) (by kernel_rfl) (laid_met os))) ?_
  intro W base args ds gs before hval hW _ _ _ hL _ _
  exact contract H enc W base args ds gs before hval hW hL
theorem said : Rows.BalloonMovesOnePageSaid :=
  OpenClaim.holds_of_cond 4 Tryd.f4 rfl rfl rfl rfl rfl rfl rfl ⟨rfl, rfl, rfl, rfl, rfl⟩ rfl rfl rfl rfl rfl (by kernel_rfl) Tryd.func4 (by kernel_rfl)
    (of_decide_eq_true (by kernel_rfl)) (by unfold Func.isWrapper; first | (rw [if_pos (by decide +kernel)]; kernel_rfl) | (rw [if_neg (by decide +kernel)]; exact ⟨rfl, rfl⟩))
    (fun os started H enc _ F => by rw [OpenClaim.pre_eq_preRow]; exact lifted os started H enc F)
theorem noStand : (Tryd.f4.params.toList.all fun t => !Tryd.prog.wantsStandIn t) = true := by kernel_rfl
theorem plainCard (f : FuncId) (fn : Func) (hf : Tryd.pinned.checked.prog.funcNamed "simulacrum/simulacrumlaw27.BalloonMovesOnePage" = some f) (hfn : Tryd.pinned.checked.prog.funcs[f]? = some fn) :
    false = Tryd.pinned.checked.prog.looks [] ∧ ∀ (j : Nat) t, fn.params[j]? = some t → Tryd.pinned.checked.prog.wantsStandIn t = false := by
  obtain rfl : f = 4 := Option.some.inj ((show Tryd.prog.funcNamed "simulacrum/simulacrumlaw27.BalloonMovesOnePage" = some 4 by kernel_rfl).symm.trans hf) |>.symm
  obtain rfl : fn = Tryd.f4 := (Option.some.inj (Tryd.func4.symm.trans hfn)).symm
  refine ⟨by kernel_rfl, fun j t ht => ?_⟩
  have := List.all_eq_true.1 noStand t (by have := Array.mem_of_getElem? ht; simpa using this)
  have e : Tryd.prog.wantsStandIn t = false := by simpa using this
  exact e
/-- The card. -/
theorem card : Rows.BalloonMovesOnePageCardSaid :=
  Claim7.holds_tied_plain_at .later [] _ _ _ _ said (fun _ h => by cases h) (by kernel_rfl) (fun _ h => by cases h) balloonMovesOnePage_row_tie rfl ⟨rfl, rfl⟩ (by kernel_rfl) rfl plainCard (by kernel_rfl)
#print axioms card
end Go.Proofs.YtligaclbjnccgaaDoorR.law4

