/- For every list of events, an effect of a step, and a number, the law OrderFindsAsSpecified returns true and leaves its arguments as they were; no conditions. -/
import Derived.Test.YtnhjhmilijghkaaPart4
import Derived.Test.YtnhjhmilijghkaaPart7
import Derived.Test.YtnhjhmilijghkaaRows

set_option linter.all false
set_option linter.unusedSimpArgs false
set_option linter.unusedVariables false
namespace Go.Proofs.Ytnhjhmilijghkaa.law3
open Go Go.Eng Go.Proofs
set_option maxRecDepth 100000
theorem own : ownKnob Try.prog.godebug = none := by kernel_rfl
theorem laid : laidOutB Try.prog = true := by kernel_rfl
def shA : Sh := .ag [.i .i64, .i .i64, .b]
def shE : Sh := .ag [.i .i64, .b, .sl shA]
def shR : Sh := .ag [.i .u32, .ar 16 (.i .u32), .ar 9 (.i .u32), .b, .b, .b, .i .i64]
def shW : Sh := .ag [.i .i64, .i .i64, .i .u32]
def preS : List Sh := [.b, shR, shR, .i .u32, .sl shW]
def postS : List Sh := [.ag [.b, .i .i64, .i .u32], .i .i64, .i .u32, .i .i64]
def shF : Sh := .ag [.b, shR, shR, .i .u32, .sl shW, .sl shA, .b, .ag [.b, .i .i64, .i .u32], .i .i64, .i .u32, .i .i64]
def shapes : List Sh := [.sl shE, shF, .i .i64]
theorem shapesOk : shAll Try.prog Try.f3.params.toList = some shapes := by kernel_rfl
theorem plain : plainTs Try.prog Try.f3.params.toList = true := by kernel_rfl
def toAcc (x : Ty shA) : Acc := ⟨x.1, x.2.1, x.2.2.1⟩
def toEv (x : Ty shE) : Ev := ⟨x.1, x.2.1, (show List (Ty shA) from x.2.2.1).map toAcc, none⟩
theorem cells_acc : ∀ l : List (Ty shA), List.flatMap (cellsT shA) l = acs (l.map toAcc)
  | [] => rfl
  | x :: r => by
    rw [List.flatMap_cons, cells_acc r, List.map_cons]
    rfl
theorem cells_ev : ∀ l : List (Ty shE), List.flatMap (cellsT shE) l = evs (l.map toEv)
  | [] => rfl
  | x :: r => by
    rw [List.flatMap_cons, cells_ev r, List.map_cons]
    obtain ⟨c, b, as', ⟨⟩⟩ := x
    have h1 := cells_acc as'
    have h2 : (List.map toAcc as').length = List.length as' := List.length_map toAcc
    show [I c, .bool b, .dslice (List.flatMap (cellsT shA) as') (List.length as') none] ++ _ = I c :: .bool b :: .dslice (acs (List.map toAcc as')) (List.map toAcc as').length none :: _
    rw [h1, h2]; rfl
mutual
theorem cellsT_noLoc : ∀ (s : Sh) (x : Ty s), ∀ c ∈ cellsT s x, noLoc c = true
  | .b, x, c, h => by simp only [cellsT, List.mem_singleton] at h; subst h; rfl
  | .i k, x, c, h => by simp only [cellsT, List.mem_singleton] at h; subst h; rfl
  | .str, x, c, h => by simp only [cellsT, List.mem_singleton] at h; subst h; rfl
  | .sl e, x, c, h => by simp only [cellsT, List.mem_singleton] at h; subst h; rfl
  | .ar n e, x, c, h => by
    simp only [cellsT] at h
    obtain ⟨y, _, hy⟩ := List.mem_flatMap.1 h
    exact cellsT_noLoc e y c hy
  | .ag l, x, c, h => by simp only [cellsT] at h; exact cellsTs_noLoc l x c h
theorem cellsTs_noLoc : ∀ (l : List Sh) (x : Tys l), ∀ c ∈ cellsTs l x, noLoc c = true
  | [], x, c, h => by simp [cellsTs] at h
  | s :: r, x, c, h => by
    simp only [cellsTs, List.mem_append] at h
    rcases h with h | h
    · exact cellsT_noLoc s x.1 c h
    · exact cellsTs_noLoc r x.2 c h
end
theorem noLocL_of : ∀ {l : List AV}, (∀ c ∈ l, noLoc c = true) → noLocL l = true
  | [], _ => by simp [noLocL]
  | c :: r, h => by simp only [noLocL, h c (List.mem_cons_self ..), noLocL_of (fun x hx => h x (List.mem_cons_of_mem _ hx)), Bool.and_self]
theorem cells_eff (a : Ty .b) (b c : Ty shR) (d : Ty (.i .u32)) (s : Ty (.sl shW)) (acc : List (Ty shA)) (asks : Bool) (g : Ty (.ag [.b, .i .i64, .i .u32])) (h : Ty (.i .i64)) (i : Ty (.i .u32)) (j : Ty (.i .i64)) :
    cellsT shF ⟨a, b, c, d, s, acc, asks, g, h, i, j, ⟨⟩⟩ = eff (cellsTs preS ⟨a, b, c, d, s, ⟨⟩⟩) (acc.map toAcc) none asks (cellsTs postS ⟨g, h, i, j, ⟨⟩⟩) := by
  have h2 : (List.map toAcc acc).length = List.length acc := List.length_map toAcc
  unfold eff
  rw [← cells_acc acc, h2]
  simp only [shF, preS, postS, cellsT, cellsTs, List.append_assoc, List.cons_append, List.nil_append, List.append_nil]
  done
theorem call (x : Tys shapes) (hx : wfTs shapes x) : CallA Try.prog 3 (argTs shapes x) Heap.nil fun v H' => v = .bool true ∧ H' = Heap.nil := by
  obtain ⟨l, ⟨a, b, c, d, s, acc, asks, g, h, i, j, ⟨⟩⟩, cpu, ⟨⟩⟩ := x
  simp only [shapes, wfTs] at hx
  obtain ⟨hl, hF, hc, _⟩ := hx
  have hF' : wfTs [.b, shR, shR, .i .u32, .sl shW, .sl shA, .b, .ag [.b, .i .i64, .i .u32], .i .i64, .i .u32, .i .i64] ⟨a, b, c, d, s, acc, asks, g, h, i, j, ⟨⟩⟩ := by simpa only [shF, wfT] using hF
  simp only [wfTs] at hF'
  obtain ⟨w1, w2, w3, w4, w5, w6, w7, w8, w9, w10, w11, _⟩ := hF'
  have e := cells_eff a b c d s acc asks g h i j
  have hp : (cellsTs preS ⟨a, b, c, d, s, ⟨⟩⟩).length = 63 := cellsTs_len preS _ (by simp only [preS, wfTs]; exact ⟨w1, w2, w3, w4, w5, trivial⟩)
  have hq : (cellsTs postS ⟨g, h, i, j, ⟨⟩⟩).length = 6 := cellsTs_len postS _ (by simp only [postS, wfTs]; exact ⟨w8, w9, w10, w11, trivial⟩)
  have hE : noLocL (cellsT shF ⟨a, b, c, d, s, acc, asks, g, h, i, j, ⟨⟩⟩) = true := noLocL_of (cellsT_noLoc shF _)
  rw [e] at hE
  have hlm : (List.map toEv l).length = List.length l := List.length_map toEv
  have := c3 (List.map toEv l) none _ _ none _ _ cpu hp hq hE
  have e2 : argTs shapes ⟨l, ⟨a, b, c, d, s, acc, asks, g, h, i, j, ⟨⟩⟩, cpu, ⟨⟩⟩ = [.dslice (evs (List.map toEv l)) (List.map toEv l).length none, .agg (cellsT shF ⟨a, b, c, d, s, acc, asks, g, h, i, j, ⟨⟩⟩), I cpu] := by
    rw [← cells_ev l, hlm]; rfl
  rw [e2, e]; exact this
theorem gl {W : World} : GlobM (Mw W) := fun _ => trivial
theorem three {α : Type} {l : List α} (h : l.length = 3) : ∃ a b c, l = [a, b, c] := by
  match l, h with
  | [a, b, c], _ => exact ⟨a, b, c, rfl⟩
theorem lifted (os : Os) (started : os.Started) (H : Type) (enc : TypeId × Value → H) :
    ReturnsInHanded {} Try.checked os 3 .any (Rows.orderFindsAsSpecifiedSpec.pre6 enc Try.prog Try.f3 Rows.orderFindsAsSpecifiedRow.domain false) (Rows.orderFindsAsSpecifiedSpec.post enc Try.prog Try.f3 false true false false) := by
  refine returnsInHanded_of_change (C := Try.checked) own started (by kernel_rfl) Try.func3
    (ChangeSpec.witness6 (enc := enc) (C := Try.checked) false ⟨#[], #[.slice none 0 0, .agg #[.bool false, .int .u32 0, .int .u32 0, .int .u32 0, .int .u32 0, .int .u32 0, .int .u32 0, .int .u32 0, .int .u32 0, .int .u32 0, .int .u32 0, .int .u32 0, .int .u32 0, .int .u32 0, .int .u32 0, .int .u32 0, .int .u32 0, .int .u32 0, .int .u32 0, .int .u32 0, .int .u32 0, .int .u32 0, .int .u32 0, .int .u32 0, .int .u32 0, .int .u32 0, .int .u32 0, .bool false, .bool false, .bool false, .int .i64 0, .int .u32 0, .int .u32 0, .int .u32 0, .int .u32 0, .int .u32 0, .int .u32 0, .int .u32 0, .int .u32 0, .int .u32 0, .int .u32 0, .int .u32 0, .int .u32 0, .int .u32 0, .int .u32 0, .int .u32 0, .int .u32 0, .int .u32 0, .int .u32 0, .int .u32 0, .int .u32 0, .int .u32 0, .int .u32 0, .int .u32 0, .int .u32 0, .int .u32 0, .int .u32 0, .bool false, .bool false, .bool false, .int .i64 0, .int .u32 0, .slice none 0 0, .slice none 0 0, .bool false, .bool false, .int .i64 0, .int .u32 0, .int .i64 0, .int .u32 0, .int .i64 0], .int .i64 0], []⟩ 8 (by kernel_rfl) (by kernel_rfl) (by kernel_rfl) (by kernel_rfl)) ?_
  intro W base args ds gs before hval hW _ _
  exact law_contract (tb := 4) shapesOk laid plain rfl (by kernel_rfl) Try.underlying4 (fun ds h => by
    have h : ds.length = 3 := h
    obtain ⟨a, b, c, rfl⟩ := three h; rfl) call W base args ds gs before hval hW gl
theorem holds : Rows.OrderFindsAsSpecifiedSaid :=
  OpenClaim.holds_of_wide 3 Try.f3 rfl rfl rfl rfl rfl rfl rfl ⟨rfl, rfl, rfl, rfl, rfl⟩ rfl rfl rfl rfl rfl (by kernel_rfl) Try.func3 (by kernel_rfl)
    (of_decide_eq_true (by kernel_rfl)) (by unfold Func.isWrapper; first | (rw [if_pos (by decide +kernel)]; kernel_rfl) | (rw [if_neg (by decide +kernel)]; exact ⟨rfl, rfl⟩))
    (fun os started H enc _ => lifted os started H enc)
#print axioms holds
end Go.Proofs.Ytnhjhmilijghkaa.law3

