/- For every seed and any numbers, the sample of the program is that of the specification: numbers in ascending order, all different, as many as asked; no conditions. -/
import Derived.Test.YtngmlbaiboinnaaGreatDoorPart3
import Derived.Test.YtngmlbaiboinnaaGreatDoorPart6
import Derived.Test.YtngmlbaiboinnaaGreatDoorCards
import Derived.Test.YtngmlbaiboinnaaGreatDoorTie
import Derived.Deep.DeepHandedRow
import Derived.Lib.LaidTab

set_option linter.all false
set_option linter.unusedSimpArgs false
set_option linter.unusedVariables false
namespace Go.Proofs.YtngmlbaiboinnaaGreatDoor.law1
open Go Go.Eng Go.Proofs
set_option maxRecDepth 100000
set_option maxHeartbeats 0
theorem own : ownKnob Tryz.prog.godebug = none := by kernel_rfl
theorem laid : laidOutB Tryz.prog = true := by kernel_rfl
def shapes : List Sh := [.ar 16 (.i .u8), .i .i64, .i .i64]
theorem shapesOk : shAll Tryz.prog Tryz.f3.params.toList = some shapes := by kernel_rfl
theorem plain : plainTs Tryz.prog Tryz.f3.params.toList = true := by kernel_rfl
theorem gTab : Tryz.prog.globalNamed "simulacrum/hash.constants" = some 0 := by kernel_rfl
theorem gTab0 : Tryz.prog.globalNamed "simulacrum/simulacrumref02.constants" = some 1 := by kernel_rfl
def zs : List Int := KS.map fun n : Nat => (n : Int)
theorem cellOf {W : World} {name : String} {g : Nat} (h : Lib.TabIs Tryz.prog W name .u32 zs) (hg : Tryz.prog.globalNamed name = some g) : relM (Mw W) ks g 0 := by
 refine relM_of_get fun i c hi => ?_
 have hz : ks[i]? = some c := hi
 rw [ks_eq, List.getElem?_map] at hz
 obtain ⟨x, hx, rfl⟩ := Option.map_eq_some_iff.1 hz
 have hlt : i < zs.length := by
  have := (List.getElem?_eq_some_iff.1 hx).1
  simpa [zs] using this
 have := h.cell hg i hlt
 refine ⟨_, by simpa [Mw] using this, ?_⟩
 simp [zs, List.getD_eq_getElem?_getD, hx, relV]
theorem glob {W : World} (h : Lib.TabIs Tryz.prog W "simulacrum/hash.constants" .u32 zs) (h0 : Lib.TabIs Tryz.prog W "simulacrum/simulacrumref02.constants" .u32 zs) : GlobM (Mw W) := by
 intro n
 by_cases hn : n = 1
 · subst hn; exact cellOf h0 gTab0
 · by_cases hn0 : n = 0
   · subst hn0; exact cellOf h gTab
   · have : globOf n = [] := by
      show gfind [(0, ks), (1, ks)] n = []
      simp only [gfind]
      have h1 : Nat.beq 1 n = false := by
       rw [Bool.eq_false_iff]; intro h; exact hn (Nat.eq_of_beq_eq_true h).symm
      have h2 : Nat.beq 0 n = false := by
       rw [Bool.eq_false_iff]; intro h; exact hn0 (Nat.eq_of_beq_eq_true h).symm
      rw [h2, h1]; rfl
     rw [this]; trivial
def toN (x : Ty (.i .u8)) : Nat := Int.toNat (x : Int)
theorem cells_pg : ∀ l : List (Ty (.i .u8)), (∀ x, List.Mem x l → wfT (.i .u8) x) → List.flatMap (cellsT (.i .u8)) l = (l.map toN).map B
 | [], _ => rfl
 | x :: r, h => by
  rw [List.flatMap_cons, cells_pg r fun y hy => h y (.tail _ hy), List.map_cons, List.map_cons]
  have hx := h x (.head _)
  have h0 : (0 : Int) ≤ (x : Int) := hx.1
  have e : ((toN x : Nat) : Int) = (x : Int) := Int.toNat_of_nonneg h0
  show AV.int .u8 x :: (List.map B (List.map toN r)) = AV.int .u8 ((toN x : Nat) : Int) :: _
  rw [e]
theorem pg_lt (l : List (Ty (.i .u8))) (h : ∀ x, List.Mem x l → wfT (.i .u8) x) : ∀ x ∈ l.map toN, x < 256 := by
 intro x hx
 obtain ⟨y, hy, rfl⟩ := List.mem_map.1 hx
 have hw := h y hy
 have key : ∀ z : Int, 0 ≤ z → z ≤ 255 → Int.toNat z < 256 := fun z h0 h1 => by omega
 exact key y hw.1 hw.2
theorem call (x : Tys shapes) (hx : wfTs shapes x) : CallA Tryz.prog 3 (argTs shapes x) Heap.nil fun v H' => v = .bool true ∧ H' = Heap.nil := by
 obtain ⟨p, n, k, ⟨⟩⟩ := x
 have hw : ((∀ x, List.Mem x p → wfT (.i .u8) x) ∧ List.length p = 16) ∧ _ := hx
 have hpl : (List.map toN p).length = 16 := (List.length_map toN).trans hw.1.2
 have h := c3 (List.map toN p) n k hpl (pg_lt p hw.1.1)
 have e : argTs shapes ⟨p, n, k, ⟨⟩⟩ = [.agg ((List.map toN p).map B), I n, I k] := by
  show [AV.agg (List.flatMap (cellsT (.i .u8)) p), I n, I k] = _
  rw [cells_pg p hw.1.1]
 rw [e]; exact h
open Go.ChangeShapes Go.WideShapes Go.ChangeAt Go.RowKit
theorem gTabType0 : (Tryz.prog.globals[1]?).map (·.type) = some 209  := by kernel_rfl
theorem gTabType : (Tryz.prog.globals[0]?).map (·.type) = some 209 := by kernel_rfl
theorem cells209 : Tryz.prog.cellsOf 209 = 64 := by kernel_rfl
theorem cells79 : Tryz.prog.cellsOf 79 = 1 := by kernel_rfl
theorem table {W : World} (h : laidMetH Tryz.prog Rows.auditSamplesRow.laid W) : Lib.TabIs Tryz.prog W "simulacrum/hash.constants" .u32 zs := by
 have h2 := laidMetH.filter (fun x => x.1 == "simulacrum/hash.constants") h
 have e : Rows.auditSamplesRow.laid.filter (fun x => x.1 == "simulacrum/hash.constants") = [("simulacrum/hash.constants", Lib.tabData .u32 zs)] := by kernel_rfl
 rw [e] at h2
 exact Lib.tabIs_of_head (rest := []) gTab gTabType Tryz.underlying209 Tryz.underlying79 cells79 cells209 h2
theorem table0 {W : World} (h : laidMetH Tryz.prog Rows.auditSamplesRow.laid W) : Lib.TabIs Tryz.prog W "simulacrum/simulacrumref02.constants" .u32 zs := by
 have h2 := laidMetH.filter (fun x => x.1 == "simulacrum/simulacrumref02.constants") h
 have e : Rows.auditSamplesRow.laid.filter (fun x => x.1 == "simulacrum/simulacrumref02.constants") = [("simulacrum/simulacrumref02.constants", Lib.tabData .u32 zs)] := by kernel_rfl
 rw [e] at h2
 exact Lib.tabIs_of_head (rest := []) gTab0 gTabType0 Tryz.underlying209 Tryz.underlying79 cells79 cells209 h2
theorem three {α : Type} {l : List α} (h : l.length = 3) : ∃ a b c, l = [a, b, c] := by
 match l, h with
 | [a, b, c], _ => exact ⟨a, b, c, rfl⟩
theorem contract (H : Type) (enc : TypeId × Value → H) (W : World) (base : Nat) (args : Array Value) (ds gs : List (DataW H)) (before : List MemPlace)
 (hval : ∀ (j : Nat) t v, Tryz.f3.params[j]? = some t → args[j]? = some v → Value.okWide Tryz.prog W .any base t v)
 (hW : DataW.Whole enc Tryz.prog Tryz.f3.params.toList Rows.auditSamplesSpec.vars false W args.toList ds gs before) (hL : laidMetH Tryz.prog Rows.auditSamplesRow.laid W) :
 Calls Tryz.prog 3 args W fun e W' => ∃ v, e = .returned v ∧ Rows.auditSamplesSpec.post enc Tryz.prog Tryz.f3 false true false false W args v W' :=
 law_contract (tb := 4) shapesOk laid plain rfl (by kernel_rfl) Tryz.underlying4 (fun ds h => by
  have h : ds.length = 3 := h
  obtain ⟨a, b, c, rfl⟩ := three h; rfl) call W base args ds gs before hval hW (glob (table hL) (table0 hL))
def layZ : Obj → Obj
 | .cells _ t frozen => .cells (zs.map fun z => Value.int .u32 z).toArray t frozen
 | o => o
noncomputable def laidWorld (os : Os) : World :=
 { World.holding Tryz.prog os ⟨#[], #[], []⟩ with heap := ((World.holding Tryz.prog os ⟨#[], #[], []⟩).heap.modify 0 layZ).modify 1 layZ }
def wargs : Array Value := #[.agg (Array.replicate 16 (.int .u8 0)), .int .i64 0, .int .i64 0]
theorem laid_met (os : Os) : laidMet Tryz.prog Rows.auditSamplesRow.laid ((laidWorld os).forCall (fun _ _ => 0) ⟨#[], wargs, []⟩).memory :=
 laidMet_of_run' 8 (by kernel_rfl) (by kernel_rfl)
theorem reads (os : Os) {H : Type} (enc : TypeId × Value → H) : ∃ places, DataW.whole enc Tryz.prog ((laidWorld os).forCall (fun _ _ => 0) ⟨#[], wargs, []⟩).memory Tryz.f3.params.toList Rows.auditSamplesSpec.vars false wargs.toList 8 = some ([.agg (List.replicate 16 (.lit (.int .u8 0))), .lit (.int .i64 0), .lit (.int .i64 0)], [], places) := ⟨[], by kernel_rfl⟩
theorem lifted (os : Os) (started : os.Started) (H : Type) (enc : TypeId × Value → H) (F : Stop.Interp) :
 ReturnsInHanded {} Tryz.checked os 3 .any ((OpenSpec.ofChange Rows.auditSamplesSpec).preRow enc Tryz.prog Tryz.f3 Rows.auditSamplesRow.domain false Rows.auditSamplesRow.laid) (((OpenSpec.ofChange Rows.auditSamplesSpec).at F).post enc Tryz.prog Tryz.f3 false true false false) := by
 obtain ⟨places, hx⟩ := reads os enc
 refine returnsInHanded_of_row (C := Tryz.checked) (s := OpenSpec.ofChange Rows.auditSamplesSpec) own started (by kernel_rfl) Tryz.func3
  (witness_row_at (enc := enc) (C := Tryz.checked) false (laidWorld os) wargs rfl (by kernel_rfl) (by kernel_rfl) (by kernel_rfl)
    (OpenSpec.preRow_of_cond 8 hx (by kernel_rfl) (fun k hk => by cases hk) (by kernel_rfl) (laid_met os))) ?_
 intro W base args ds gs before hval hW _ _ _ hL _ _
 exact contract H enc W base args ds gs before hval hW hL
theorem closed : joinedFacts Tryz.prog 3 Tryz.f3 (OpenSpec.ofChange Rows.auditSamplesSpec).bare Rows.auditSamplesRow = true := by
 unfold joinedFacts
 simp only [Bool.and_eq_true]
 repeat' apply And.intro
 all_goals (as_aux_lemma => kernel_rfl)
theorem fnamed : Tryz.prog.funcNamed "simulacrum/simulacrumlaw44.AuditSamples" = some 3 := by kernel_rfl
theorem said : Rows.AuditSamplesSaid :=
 OpenClaim.holds_of_cond 3 Tryz.f3 rfl rfl rfl rfl rfl rfl rfl ⟨rfl, rfl, rfl, rfl, rfl⟩ rfl rfl rfl rfl rfl fnamed Tryz.func3 closed
  (of_decide_eq_true (by as_aux_lemma => kernel_rfl)) (by unfold Func.isWrapper; first | (rw [if_pos (by decide +kernel)]; as_aux_lemma => kernel_rfl) | (rw [if_neg (by decide +kernel)]; exact ⟨rfl, rfl⟩))
  (fun os started H enc _ F => by rw [OpenClaim.pre_eq_preRow]; exact lifted os started H enc F)
theorem noStand : (Tryz.f3.params.toList.all fun t => !Tryz.prog.wantsStandIn t) = true := by kernel_rfl
theorem looked : true = Tryz.pinned.checked.prog.looks [] := by kernel_rfl
theorem plainCard (f : FuncId) (fn : Func) (hf : Tryz.pinned.checked.prog.funcNamed "simulacrum/simulacrumlaw44.AuditSamples" = some f) (hfn : Tryz.pinned.checked.prog.funcs[f]? = some fn) :
 true = Tryz.pinned.checked.prog.looks [] ∧ ∀ (j : Nat) t, fn.params[j]? = some t → Tryz.pinned.checked.prog.wantsStandIn t = false := by
 obtain rfl : f = 3 := Option.some.inj (fnamed.symm.trans hf) |>.symm
 obtain rfl : fn = Tryz.f3 := (Option.some.inj (Tryz.func3.symm.trans hfn)).symm
 refine ⟨looked, fun j t ht => ?_⟩
 have := List.all_eq_true.1 noStand t (by have := Array.mem_of_getElem? ht; simpa using this)
 have e : Tryz.prog.wantsStandIn t = false := by simpa using this
 exact e
theorem card : Rows.AuditSamplesCardSaid :=
 Claim7.holds_tied_plain_at .later [] _ _ _ _ said (fun _ h => by cases h) (by as_aux_lemma => kernel_rfl) (fun _ h => by cases h) auditSamples_row_tie rfl ⟨rfl, rfl⟩ (by as_aux_lemma => kernel_rfl) rfl plainCard (by as_aux_lemma => kernel_rfl)
#print axioms card
end Go.Proofs.YtngmlbaiboinnaaGreatDoor.law1

