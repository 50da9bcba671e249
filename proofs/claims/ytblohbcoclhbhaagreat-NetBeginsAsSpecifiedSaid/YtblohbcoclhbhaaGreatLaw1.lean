/- For images, numbers and wires: net.New returns what the specification returns. -/
import Derived.Test.YtblohbcoclhbhaaGreatPart3
import Derived.Test.YtblohbcoclhbhaaGreatPart6
import Derived.Test.YtblohbcoclhbhaaGreatRows

set_option linter.all false
set_option linter.unusedSimpArgs false
set_option linter.unusedVariables false
namespace Go.Proofs.YtblohbcoclhbhaaGreat.law1
open Go Go.Eng Go.Proofs
set_option maxRecDepth 100000
set_option maxHeartbeats 0
theorem own : ownKnob Tryz.prog.godebug = none := by kernel_rfl
theorem laid : laidOutB Tryz.prog = true := by kernel_rfl
def shS : Sh := .ag [.i .i64, .str]
def shP : Sh := .ar 128 (.i .u8)
def shI : Sh := .ag [.i .i64, .i .i64, .sl shS, .sl shP]
def shW : Sh := .ag [.i .i64, .i .i64]
def shapes : List Sh := [.sl shI, .sl (.i .i64), .sl shW]
theorem shapesOk : shAll Tryz.prog Tryz.f3.params.toList = some shapes := by kernel_rfl
theorem plain : plainTs Tryz.prog Tryz.f3.params.toList = true := by kernel_rfl
def toN (x : Ty (.i .u8)) : Nat := Int.toNat (x : Int)
theorem cells_pg : ∀ l : List (Ty (.i .u8)), (∀ x, List.Mem x l → wfT (.i .u8) x) → List.flatMap (cellsT (.i .u8)) l = (l.map toN).map B
 | [], _ => rfl
 | x :: r, h => by
  rw [List.flatMap_cons, cells_pg r fun y hy => h y (.tail _ hy), List.map_cons, List.map_cons]
  have hx := h x (.head _)
  have h0 : (0 : Int) ≤ (x : Int) := hx.1
  have e : ((toN x : Nat) : Int) = (x : Int) := Int.toNat_of_nonneg h0
  show AV.int .u8 x :: (List.map B (List.map toN r)) = AV.int .u8 ((toN x : Nat) : Int) :: _
  rw [e]
def toP (x : Ty shP) : List Nat := (show List (Ty (.i .u8)) from x).map toN
def toB (l : List (Ty shP)) : List Nat := (l.map toP).flatten
theorem cells_pgs : ∀ l : List (Ty shP), (∀ x, List.Mem x l → wfT shP x) → List.flatMap (cellsT shP) l = (toB l).map B
 | [], _ => rfl
 | x :: r, h => by
  have hx : (∀ y, List.Mem y (show List (Ty (.i .u8)) from x) → wfT (.i .u8) y) ∧ _ := h x (.head _)
  rw [List.flatMap_cons, cells_pgs r fun y hy => h y (.tail _ hy)]
  have e : toB (x :: r) = toP x ++ toB r := rfl
  rw [e, List.map_append]
  congr 1
  exact cells_pg x hx.1
theorem len_pgs : ∀ l : List (Ty shP), (∀ x, List.Mem x l → wfT shP x) → (toB l).length = 128 * l.length
 | [], _ => rfl
 | x :: r, h => by
  have hx : _ ∧ List.length (show List (Ty (.i .u8)) from x) = 128 := h x (.head _)
  have e : toB (x :: r) = toP x ++ toB r := rfl
  have e2 : (toP x).length = 128 := (List.length_map toN).trans hx.2
  rw [e, List.length_append, len_pgs r fun y hy => h y (.tail _ hy), e2, List.length_cons]; omega
def toSg (x : Ty shS) : Sg := ⟨x.1, x.2.1⟩
def toIm (x : Ty shI) : Im := ⟨x.1, x.2.1, (show List (Ty shS) from x.2.2.1).map toSg, (toB x.2.2.2.1).map B, List.length (show List (Ty shP) from x.2.2.2.1)⟩
def toWr (x : Ty shW) : Wr := ⟨x.1, x.2.1⟩
theorem cells_sg : ∀ l : List (Ty shS), List.flatMap (cellsT shS) l = sgc (l.map toSg)
 | [] => rfl
 | x :: r => by rw [List.flatMap_cons, cells_sg r, List.map_cons]; rfl
theorem cells_wr : ∀ l : List (Ty shW), List.flatMap (cellsT shW) l = wc (l.map toWr)
 | [] => rfl
 | x :: r => by rw [List.flatMap_cons, cells_wr r, List.map_cons]; rfl
theorem cells_nc : ∀ l : List (Ty (.i .i64)), List.flatMap (cellsT (.i .i64)) l = nc l
 | [] => rfl
 | x :: r => by rw [List.flatMap_cons, cells_nc r]; rfl
theorem cells_im : ∀ l : List (Ty shI), (∀ x, List.Mem x l → wfT shI x) → List.flatMap (cellsT shI) l = ic (l.map toIm)
 | [], _ => rfl
 | x :: r, h => by
  rw [List.flatMap_cons, cells_im r fun y hy => h y (.tail _ hy), List.map_cons]
  obtain ⟨e, p, sg, dk, ⟨⟩⟩ := x
  have hx := h _ (.head _)
  have hp := cells_pgs dk hx.2.2.2.1.1
  have hs := cells_sg sg
  have hl : (List.map toSg sg).length = List.length sg := List.length_map toSg
  show [I e, I p, .dslice (List.flatMap (cellsT shS) sg) (List.length sg) none, .dslice (List.flatMap (cellsT shP) dk) (List.length dk) none] ++ _ = I e :: I p :: .dslice (sgc (List.map toSg sg)) (List.map toSg sg).length none :: .dslice ((toB dk).map B) (List.length dk) none :: _
  rw [hp, hs, hl]; rfl
theorem i64r {n : Int} (h : wfT (.i .i64) n) : -9223372036854775808 ≤ n ∧ n ≤ 9223372036854775807 := by
 have e1 : IntKind.i64.min = -9223372036854775808 := rfl
 have e2 : IntKind.i64.max = 9223372036854775807 := rfl
 have h' : IntKind.i64.min ≤ n ∧ n ≤ IntKind.i64.max := h
 rw [e1, e2] at h'
 exact h'
theorem im_raw (x : Ty shI) (h : wfT shI x) : (toIm x).raw := by
 obtain ⟨e, p, sg, dk, ⟨⟩⟩ := x
 have h3 : (∀ x, List.Mem x sg → wfT shS x) ∧ List.length sg ≤ maxLen := h.2.2.1
 have h4 : (∀ x, List.Mem x dk → wfT shP x) ∧ List.length dk ≤ maxLen := h.2.2.2.1
 have hm : maxLen ≤ 9223372036854775807 := by decide
 refine ⟨i64r h.1, i64r h.2.1, ?_, ?_, ⟨?_, Nat.le_trans h4.2 hm⟩, ?_, ?_, ?_⟩
 · intro y hy
   obtain ⟨z, hz, rfl⟩ := List.mem_map.1 hy
   exact i64r (h3.1 z hz).1
 · intro y hy
   obtain ⟨z, hz, rfl⟩ := List.mem_map.1 hy
   have : ((toSg z).s).size ≤ maxLen := (h3.1 z hz).2.1
   exact Nat.le_trans this hm
 · have hl : (List.map toSg sg).length = List.length sg := List.length_map toSg
   show (List.map toSg sg).length ≤ _
   rw [hl]; exact Nat.le_trans h3.2 hm
 · show ((toB dk).map B).length = 128 * List.length dk
   rw [List.length_map, len_pgs dk h4.1]
 · exact scal_bs _
 · exact dat_bs _
theorem call (x : Tys shapes) (hx : wfTs shapes x) : CallA Tryz.prog 3 (argTs shapes x) Heap.nil fun v H' => v = .bool true ∧ H' = Heap.nil := by
 obtain ⟨l, ns, ws, ⟨⟩⟩ := x
 have h1 : (∀ x, List.Mem x l → wfT shI x) ∧ _ := hx.1
 have hlm : (List.map toIm l).length = List.length l := List.length_map toIm
 have hwm : (List.map toWr ws).length = List.length ws := List.length_map toWr
 have := c3 (List.map toIm l) ns (List.map toWr ws) (fun i hi => by
  obtain ⟨z, hz, rfl⟩ := List.mem_map.1 hi
  exact im_raw z (h1.1 z hz)) (fun i hi => by
  obtain ⟨z, hz, rfl⟩ := List.mem_map.1 hi
  exact ⟨_, rfl⟩)
 have e2 : argTs shapes ⟨l, ns, ws, ⟨⟩⟩ = a6 (List.map toIm l) ns (List.map toWr ws) := by
  unfold a6
  rw [← cells_im l h1.1, ← cells_wr ws, hlm, hwm, ← cells_nc ns]; rfl
 rw [e2]; exact this
theorem gl {W : World} : GlobM (Mw W) := fun _ => trivial
theorem lens {α : Type} {l : List α} (h : l.length = 3) : ∃ a b c, l = [a, b, c] := by
 match l, h with
 | [a, b, c], _ => exact ⟨a, b, c, rfl⟩
theorem lifted (os : Os) (started : os.Started) (H : Type) (enc : TypeId × Value → H) :
 ReturnsInHanded {} Tryz.checked os 3 .any (Rows.netBeginsAsSpecifiedSpec.pre6 enc Tryz.prog Tryz.f3 Rows.netBeginsAsSpecifiedRow.domain false) (Rows.netBeginsAsSpecifiedSpec.post enc Tryz.prog Tryz.f3 false true false false) := by
 refine returnsInHanded_of_change (C := Tryz.checked) own started (by kernel_rfl) Tryz.func3
  (ChangeSpec.witness6 (enc := enc) (C := Tryz.checked) false ⟨#[], #[.slice .none 0 0, .slice .none 0 0, .slice .none 0 0], []⟩ 8 (by kernel_rfl) (by kernel_rfl) (by kernel_rfl) (by kernel_rfl)) ?_
 intro W base args ds gs before hval hW _ _
 exact law_contract (tb := 4) shapesOk laid plain rfl (by kernel_rfl) Tryz.underlying4 (fun ds h => by
  have h : ds.length = 3 := h
  obtain ⟨a, b, c, rfl⟩ := lens h; rfl) call W base args ds gs before hval hW gl
theorem closed : joinedFacts Tryz.prog 3 Tryz.f3 Rows.netBeginsAsSpecifiedSpec Rows.netBeginsAsSpecifiedRow = true := by
 unfold joinedFacts
 simp only [Bool.and_eq_true]
 repeat' apply And.intro
 all_goals (as_aux_lemma => kernel_rfl)
theorem fnamed : Tryz.prog.funcNamed "simulacrum/simulacrumlaw39.NetBeginsAsSpecified" = some 3 := by kernel_rfl
theorem holds : Rows.NetBeginsAsSpecifiedSaid :=
 OpenClaim.holds_of_wide 3 Tryz.f3 rfl rfl rfl rfl rfl rfl rfl ⟨rfl, rfl, rfl, rfl, rfl⟩ rfl rfl rfl rfl rfl fnamed Tryz.func3 closed
  (of_decide_eq_true (by as_aux_lemma => kernel_rfl)) (by unfold Func.isWrapper; first | (rw [if_pos (by decide +kernel)]; as_aux_lemma => kernel_rfl) | (rw [if_neg (by decide +kernel)]; exact ⟨rfl, rfl⟩))
  (fun os started H enc _ => lifted os started H enc)
#print axioms holds
end Go.Proofs.YtblohbcoclhbhaaGreat.law1

