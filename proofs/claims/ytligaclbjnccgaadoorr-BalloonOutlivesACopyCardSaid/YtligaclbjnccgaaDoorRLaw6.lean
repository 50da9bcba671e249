/- For every page, slot, copy and harms the law BalloonOutlivesACopy returns true and leaves its arguments as they were, where hash.constants and simulacrumref02.constants begin as the text lays them. -/
import Derived.Test.YtligaclbjnccgaaDoorRPart4
import Derived.Test.YtligaclbjnccgaaDoorRPart8
import Derived.Test.YtligaclbjnccgaaDoorRCards
import Derived.Test.YtligaclbjnccgaaDoorRTie
import Derived.Deep.DeepHandedRow
import Derived.Lib.LaidTab

set_option linter.all false
set_option linter.unusedSimpArgs false
set_option linter.unusedVariables false
namespace Go.Proofs.YtligaclbjnccgaaDoorR.law6
open Go Go.Eng Go.Proofs
set_option maxRecDepth 100000
theorem own : ownKnob Tryd.prog.godebug = none := by kernel_rfl
theorem laid : laidOutB Tryd.prog = true := by kernel_rfl
def shapes : List Sh := [.ar 128 (.i .u8), .i .u8, .b, .sl (.ag [.i .u16, .i .u16, .b])]
theorem shapesOk : shAll Tryd.prog Tryd.f6.params.toList = some shapes := by kernel_rfl
theorem plain : plainTs Tryd.prog Tryd.f6.params.toList = true := by kernel_rfl
theorem gTab : Tryd.prog.globalNamed "simulacrum/hash.constants" = some 1 := by kernel_rfl
theorem gTab0 : Tryd.prog.globalNamed "simulacrum/simulacrumref02.constants" = some 0 := by kernel_rfl
def zs : List Int := KS.map fun n : Nat => (n : Int)
theorem cellOf {W : World} {name : String} {g : Nat} (h : Lib.TabIs Tryd.prog W name .u32 zs) (hg : Tryd.prog.globalNamed name = some g) : relM (Mw W) ks g 0 := by
  refine relM_of_get fun i c hi => ?_
  have hz : ks[i]? = some c := hi
  rw [ks_eq, List.getElem?_map] at hz
  obtain ⟨x, hx, rfl⟩ := Option.map_eq_some_iff.1 hz
  have hlt : i < zs.length := by
    have := (List.getElem?_eq_some_iff.1 hx).1
    simpa [zs] using this
  have := h.cell hg i hlt
  refine ⟨_, by simpa [Mw] using this, ?_⟩
  simp [zs, List.getD_eq_getElem?_getD, hx, relV]
theorem glob {W : World} (h : Lib.TabIs Tryd.prog W "simulacrum/hash.constants" .u32 zs) (h0 : Lib.TabIs Tryd.prog W "simulacrum/simulacrumref02.constants" .u32 zs) : GlobM (Mw W) := by
  intro n
  by_cases hn : n = 1
  · subst hn; exact cellOf h gTab
  · by_cases hn0 : n = 0
    · subst hn0; exact cellOf h0 gTab0
    · have : globOf n = [] := by
        show gfind [(1, ks), (0, ks)] n = []
        simp only [gfind]
        have h1 : Nat.beq 1 n = false := by
          rw [Bool.eq_false_iff]; intro h; exact hn (Nat.eq_of_beq_eq_true h).symm
        have h2 : Nat.beq 0 n = false := by
          rw [Bool.eq_false_iff]; intro h; exact hn0 (Nat.eq_of_beq_eq_true h).symm
        rw [h1, h2]; rfl
      rw [this]; trivial
def shH : Sh := .ag [.i .u16, .i .u16, .b]
def toHm (x : Ty shH) : Hm := ⟨x.1, x.2.1, x.2.2.1⟩
theorem cells_hm : ∀ l : List (Ty shH), List.flatMap (cellsT shH) l = hc (l.map toHm)
  | [] => rfl
  | x :: r => by
    rw [List.flatMap_cons, cells_hm r, List.map_cons]
    rfl
def toN (x : Ty (.i .u8)) : Nat := Int.toNat (x : Int)
theorem cells_pg : ∀ l : List (Ty (.i .u8)), (∀ x, List.Mem x l → wfT (.i .u8) x) → List.flatMap (cellsT (.i .u8)) l = (l.map toN).map B
  | [], _ => rfl
  | x :: r, h => by
    rw [List.flatMap_cons, cells_pg r fun y hy => h y (.tail _ hy), List.map_cons, List.map_cons]
    have hx := h x (.head _)
    have h0 : (0 : Int) ≤ (x : Int) := hx.1
    have e : ((toN x : Nat) : Int) = (x : Int) := Int.toNat_of_nonneg h0
    show AV.int .u8 x :: (List.map B (List.map toN r)) = AV.int .u8 ((toN x : Nat) : Int) :: _
    rw [e]
theorem pg_lt (l : List (Ty (.i .u8))) (h : ∀ x, List.Mem x l → wfT (.i .u8) x) : ∀ x ∈ l.map toN, x < 256 := by
  intro x hx
  obtain ⟨y, hy, rfl⟩ := List.mem_map.1 hx
  have hw := h y hy
  have key : ∀ z : Int, 0 ≤ z → z ≤ 255 → Int.toNat z < 256 := fun z h0 h1 => by omega
  exact key y hw.1 hw.2
theorem hm_ok (l : List (Ty shH)) (h : ∀ x, List.Mem x l → wfT shH x) : ∀ x ∈ l.map toHm, 0 ≤ x.s ∧ x.s ≤ 65535 ∧ 0 ≤ x.b ∧ x.b ≤ 65535 := by
  intro x hx
  obtain ⟨y, hy, rfl⟩ := List.mem_map.1 hx
  have hw := h y hy
  simp only [shH, wfT, wfTs] at hw
  exact ⟨hw.1.1, hw.1.2, hw.2.1.1, hw.2.1.2⟩
theorem call (x : Tys shapes) (hx : wfTs shapes x) : CallA Tryd.prog 6 (argTs shapes x) Heap.nil fun v H' => v = .bool true ∧ H' = Heap.nil := by
  obtain ⟨p, slot, z, l, ⟨⟩⟩ := x
  have hw : ((∀ x, List.Mem x p → wfT (.i .u8) x) ∧ List.length p = 128) ∧ wfT (.i .u8) slot ∧ True ∧ ((∀ x, List.Mem x l → wfT shH x) ∧ List.length l ≤ maxLen) ∧ True := hx
  have hpl : (List.map toN p).length = 128 := (List.length_map toN).trans hw.1.2
  have hml : (List.map toHm l).length = List.length l := List.length_map toHm
  have h := c6 (List.map toN p) slot z (List.map toHm l) none hpl (pg_lt p hw.1.1) hw.2.1 (hm_ok l hw.2.2.2.1.1)
  have e : argTs shapes ⟨p, slot, z, l, ⟨⟩⟩ = [.agg ((List.map toN p).map B), .int .u8 slot, .bool z, .dslice (hc (List.map toHm l)) (List.map toHm l).length none] := by
    show [AV.agg (List.flatMap (cellsT (.i .u8)) p), AV.int .u8 slot, AV.bool z, AV.dslice (List.flatMap (cellsT shH) l) (List.length l) none] = _
    rw [cells_hm l, cells_pg p hw.1.1, hml]
  rw [e]; exact h
open Go.ChangeShapes Go.WideShapes Go.ChangeAt Go.RowKit
theorem gTabType0 : (Tryd.prog.globals[0]?).map (·.type) = some 124 := by kernel_rfl
theorem gTabType : (Tryd.prog.globals[1]?).map (·.type) = some 124 := by kernel_rfl
theorem cells124 : Tryd.prog.cellsOf 124 = 64 := by kernel_rfl
theorem cells106 : Tryd.prog.cellsOf 106 = 1 := by kernel_rfl
theorem table {W : World} (h : laidMetH Tryd.prog Rows.balloonOutlivesACopyRow.laid W) : Lib.TabIs Tryd.prog W "simulacrum/hash.constants" .u32 zs := by
  have h2 := laidMetH.filter (fun x => x.1 == "simulacrum/hash.constants") h
  have e : Rows.balloonOutlivesACopyRow.laid.filter (fun x => x.1 == "simulacrum/hash.constants") = [("simulacrum/hash.constants", Lib.tabData .u32 zs)] := by kernel_rfl
  rw [e] at h2
  exact Lib.tabIs_of_head (rest := []) gTab gTabType Tryd.underlying124 Tryd.underlying106 cells106 cells124 h2
theorem table0 {W : World} (h : laidMetH Tryd.prog Rows.balloonOutlivesACopyRow.laid W) : Lib.TabIs Tryd.prog W "simulacrum/simulacrumref02.constants" .u32 zs := by
  have h2 := laidMetH.filter (fun x => x.1 == "simulacrum/simulacrumref02.constants") h
  have e : Rows.balloonOutlivesACopyRow.laid.filter (fun x => x.1 == "simulacrum/simulacrumref02.constants") = [("simulacrum/simulacrumref02.constants", Lib.tabData .u32 zs)] := by kernel_rfl
  rw [e] at h2
  exact Lib.tabIs_of_head (rest := []) gTab0 gTabType0 Tryd.underlying124 Tryd.underlying106 cells106 cells124 h2
theorem some4 {α : Type} {l : List α} (h : l.length = 4) : ∃ a b c d, l = [a, b, c, d] := by
  match l, h with
  | [a, b, c, d], _ => exact ⟨a, b, c, d, rfl⟩
theorem contract (H : Type) (enc : TypeId × Value → H) (W : World) (base : Nat) (args : Array Value) (ds gs : List (DataW H)) (before : List MemPlace)
    (hval : ∀ (j : Nat) t v, Tryd.f6.params[j]? = some t → args[j]? = some v → Value.okWide Tryd.prog W .any base t v)
    (hW : DataW.Whole enc Tryd.prog Tryd.f6.params.toList Rows.balloonOutlivesACopySpec.vars false W args.toList ds gs before) (hL : laidMetH Tryd.prog Rows.balloonOutlivesACopyRow.laid W) :
    Calls Tryd.prog 6 args W fun e W' => ∃ v, e = .returned v ∧ Rows.balloonOutlivesACopySpec.post enc Tryd.prog Tryd.f6 false true false false W args v W' :=
  law_contract (tb := 4) shapesOk laid plain rfl (by kernel_rfl) Tryd.underlying4 (fun ds h => by
    have h : ds.length = 4 := h
    obtain ⟨a, b, c, d, rfl⟩ := some4 h; rfl) call W base args ds gs before hval hW (glob (table hL) (table0 hL))
def layZ : Obj → Obj
  | .cells _ t frozen => .cells (zs.map fun z => Value.int .u32 z).toArray t frozen
  | o => o
noncomputable def laidWorld (os : Os) : World :=
  { World.holding Tryd.prog os ⟨#[], #[], []⟩ with heap := ((World.holding Tryd.prog os ⟨#[], #[], []⟩).heap.modify 0 layZ).modify 1 layZ }
def wargs : Array Value := #[.agg (Array.replicate 128 (.int .u8 0)), .int .u8 0, .bool false, .slice none 0 0]
theorem laid_met (os : Os) : laidMet Tryd.prog Rows.balloonOutlivesACopyRow.laid ((laidWorld os).forCall (fun _ _ => 0) ⟨#[], wargs, []⟩).memory :=
  laidMet_of_run' 8 (by kernel_rfl) (by kernel_rfl)
theorem reads (os : Os) {H : Type} (enc : TypeId × Value → H) : ∃ places, DataW.whole enc Tryd.prog ((laidWorld os).forCall (fun _ _ => 0) ⟨#[], wargs, []⟩).memory Tryd.f6.params.toList Rows.balloonOutlivesACopySpec.vars false wargs.toList 8 = some ([.agg (List.replicate 128 (.lit (.int .u8 0))), .lit (.int .u8 0), .lit (.bool false), .nil], [], places) := ⟨[], by kernel_rfl⟩
theorem lifted (os : Os) (started : os.Started) (H : Type) (enc : TypeId × Value → H) (F : Stop.Interp) :
    ReturnsInHanded {} Tryd.checked os 6 .any ((OpenSpec.ofChange Rows.balloonOutlivesACopySpec).preRow enc Tryd.prog Tryd.f6 Rows.balloonOutlivesACopyRow.domain false Rows.balloonOutlivesACopyRow.laid) (((OpenSpec.ofChange Rows.balloonOutlivesACopySpec).at F).post enc Tryd.prog Tryd.f6 false true false false) := by
  obtain ⟨places, hx⟩ := reads os enc
  refine returnsInHanded_of_row (C := Tryd.checked) (s := OpenSpec.ofChange Rows.balloonOutlivesACopySpec) own started (by kernel_rfl) Tryd.func6
    (witness_row_at (enc := enc) (C := Tryd.checked) false (laidWorld os) wargs rfl (by kernel_rfl) (by kernel_rfl) (by kernel_rfl)
      (OpenSpec.preRow_of_cond 8 hx (by kernel_rfl) (fun k hk => by cases hk) (by kernel_rfl) (laid_met os))) ?_
  intro W base args ds gs before hval hW _ _ _ hL _ _
  exact contract H enc W base args ds gs before hval hW hL
theorem said : Rows.BalloonOutlivesACopySaid :=
  OpenClaim.holds_of_cond 6 Tryd.f6 rfl rfl rfl rfl rfl rfl rfl ⟨rfl, rfl, rfl, rfl, rfl⟩ rfl rfl rfl rfl rfl (by kernel_rfl) Tryd.func6 (by kernel_rfl)
    (of_decide_eq_true (by kernel_rfl)) (by unfold Func.isWrapper; first | (rw [if_pos (by decide +kernel)]; kernel_rfl) | (rw [if_neg (by decide +kernel)]; exact ⟨rfl, rfl⟩))
    (fun os started H enc _ F => by rw [OpenClaim.pre_eq_preRow]; exact lifted os started H enc F)
theorem noStand : (Tryd.f6.params.toList.all fun t => !Tryd.prog.wantsStandIn t) = true := by kernel_rfl
theorem plainCard (f : FuncId) (fn : Func) (hf : Tryd.pinned.checked.prog.funcNamed "simulacrum/simulacrumlaw27.BalloonOutlivesACopy" = some f) (hfn : Tryd.pinned.checked.prog.funcs[f]? = some fn) :
    false = Tryd.pinned.checked.prog.looks [] ∧ ∀ (j : Nat) t, fn.params[j]? = some t → Tryd.pinned.checked.prog.wantsStandIn t = false := by
  obtain rfl : f = 6 := Option.some.inj ((show Tryd.prog.funcNamed "simulacrum/simulacrumlaw27.BalloonOutlivesACopy" = some 6 by kernel_rfl).symm.trans hf) |>.symm
  obtain rfl : fn = Tryd.f6 := (Option.some.inj (Tryd.func6.symm.trans hfn)).symm
  refine ⟨by kernel_rfl, fun j t ht => ?_⟩
  have := List.all_eq_true.1 noStand t (by have := Array.mem_of_getElem? ht; simpa using this)
  have e : Tryd.prog.wantsStandIn t = false := by simpa using this
  exact e
/-- The card. -/
theorem card : Rows.BalloonOutlivesACopyCardSaid :=
  Claim7.holds_tied_plain_at .later [] _ _ _ _ said (fun _ h => by cases h) (by kernel_rfl) (fun _ h => by cases h) balloonOutlivesACopy_row_tie rfl ⟨rfl, rfl⟩ (by kernel_rfl) rfl plainCard (by kernel_rfl)
#print axioms card
end Go.Proofs.YtligaclbjnccgaaDoorR.law6

