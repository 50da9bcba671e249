/- Part of a proof about the given program: lemmas that the other parts use. -/
import Derived.Test.YtnmgifoihmjjmaaPart5
import Derived.Test.YtnmgifoihmjjmaaPart3
import Derived.Test.YtnmgifoihmjjmaaPart4

set_option linter.all false
set_option linter.unusedSimpArgs false
set_option linter.unusedVariables false
namespace Go.Proofs
open Go Go.Eng
set_option maxRecDepth 100000
set_option maxHeartbeats 4000000
def plc (l : List Kep) (m : Int) : Int := match l[rank l m]? with
  | some k => if k.m = m then (rank l m : Int) else -1
  | none => -1
theorem plc_at {l : List Kep} {m : Int} (hl : Kept1 l) {i : Nat} (hi : i < l.length) (h : l[i].m = m) : plc l m = i := by
  have hf := found_rank l m hl
  have hr : rank l m = i := by
    rcases Nat.lt_trichotomy (rank l m) i with e | e | e
    · have h1 := hf.hi (rank l m) (Nat.le_refl _) (by omega)
      have h2 := hl.asc (rank l m) i (by omega) hi e
      omega
    · exact e
    · have := hf.lo i e hi; omega
  unfold plc
  rw [hr, List.getElem?_eq_getElem hi]
  simp [h]
theorem plc_none {l : List Kep} {m : Int} (h : ∀ j (hj : j < l.length), l[j].m ≠ m) : plc l m = -1 := by
  unfold plc
  split
  · rename_i k hk
    obtain ⟨hr, rfl⟩ := List.getElem?_eq_some_iff.1 hk
    rw [if_neg (h _ hr)]
  · rfl
def I39 (l : List Kep) (cap : Option Nat) (m : Int) (n : Nat) (fr : Fr) (H : Heap) : Prop := ∃ i : Nat, i ≤ l.length ∧ n = l.length - i ∧ (∀ j (hj : j < l.length), j < i → l[j].m ≠ m) ∧ fr = [(0, .dslice (kcells l) l.length cap), (1, I m), (5, I i)] ∧ H = Heap.nil
theorem c39 (l : List Kep) (cap : Option Nat) (m : Int) (hl : Kept1 l) : CallA Try.prog 39 [.dslice (kcells l) l.length cap, I m] Heap.nil fun v H' => v = I (plc l m) ∧ H' = Heap.nil := by
  refine callA_of ok39 (Nat.le_of_ble_eq_true rfl) ?_
  have e2 := hl.len
  repeat' ((conv => whnf); first
      | refine Branch.ofT rfl ?_
      | refine Branch.ofF rfl ?_
      | refine Branch.dec (fun h => ?_) (fun h => ?_)
      | refine Branch.negdec (fun h => ?_) (fun h => ?_)
      | refine Branch.neg (fun h => ?_) (fun h => ?_)
      | refine Branch.mk (fun h => ?_) (fun h => ?_)
      | (refine Side.mk ?_ ?_; · first | omega | decide)
      | (refine SideD.mk ?_ ?_; · first | omega | decide)
      | refine ⟨_, Nat.lt_succ_self _, To.refl (.inl ⟨rfl, ?_⟩)⟩
      | (refine Side.mk ?_ ?_; · (simp; done))
      | fail
      )
  all_goals (conv => whnf)
  refine ⟨I39 l cap m, l.length, To.gc [] [0, 1, 5] rfl trivial ⟨0, by omega, by omega, by omega, rfl, rfl⟩, ?_⟩
  rintro n fr H ⟨i, hi, rfl, hall, rfl, rfl⟩
  (conv => whnf)
  refine Branch.dec (fun h => ?_) (fun h => ?_)
  · have h' : i < l.length := by omega
    repeat' ((conv => whnf); first
        | refine Branch.ofT rfl ?_
        | refine Branch.ofF rfl ?_
        | refine SideD.at (by omega) (kcells_at h') ?_
        | refine Branch.dec (fun h => ?_) (fun h => ?_)
        | refine Branch.negdec (fun h => ?_) (fun h => ?_)
        | refine Branch.neg (fun h => ?_) (fun h => ?_)
        | refine Branch.mk (fun h => ?_) (fun h => ?_)
        | (refine Side.mk ?_ ?_; · first | omega | decide)
        | (refine SideD.mk ?_ ?_; · first | omega | decide)
        | refine ⟨_, Nat.lt_succ_self _, To.refl (.inl ⟨rfl, ?_⟩)⟩
        | (refine Side.mk ?_ ?_; · (simp; done))
        | fail
        )
    all_goals (conv => whnf)
    · refine RetA.data rfl ⟨?_, rfl⟩
      simp only [one]; congr 1; symm; exact plc_at hl h' (by assumption)
    · refine ⟨l.length - (i + 1), by omega, To.gc [] [0, 1, 5] rfl trivial ⟨i + 1, by omega, rfl, fun j hj hji => ?_, rfl, rfl⟩⟩
      rcases Nat.lt_or_eq_of_le (Nat.le_of_lt_succ hji) with e | e
      · exact hall j hj e
      · subst e; assumption
  · (conv => whnf)
    refine RetA.data rfl ⟨?_, rfl⟩
    simp only [one]; congr 1; symm; exact plc_none fun j hj => hall j hj (by omega)
def outL (l : List Kep) (k : Kep) (r i : Nat) : List Kep := if r < i then l.take r ++ k :: (l.drop r).take (i - r) else l.take i
theorem outL_len {l : List Kep} {k : Kep} {r i : Nat} (hr : r ≤ l.length) (hi : i ≤ l.length) : (outL l k r i).length = if r < i then i + 1 else i := by
  unfold outL; split <;> simp <;> omega
theorem outL_plain {l : List Kep} {k : Kep} {r i : Nat} (hi : i < l.length) (h : i < r) : outL l k r (i + 1) = outL l k r i ++ [l[i]] := by
  unfold outL
  rw [if_neg (by omega), if_neg (by omega), List.take_succ_eq_append_getElem hi]
theorem outL_here {l : List Kep} {k : Kep} {i : Nat} (hi : i < l.length) : outL l k i (i + 1) = outL l k i i ++ [k] ++ [l[i]] := by
  unfold outL
  rw [if_pos (by omega), if_neg (by omega), show i + 1 - i = 1 by omega]
  have : List.take 1 (List.drop i l) = [l[i]] := by rw [List.drop_eq_getElem_cons hi]; rfl
  rw [this]; simp
theorem outL_behind {l : List Kep} {k : Kep} {r i : Nat} (hi : i < l.length) (h : r < i) : outL l k r (i + 1) = outL l k r i ++ [l[i]] := by
  unfold outL
  rw [if_pos (by omega), if_pos h, show i + 1 - r = (i - r) + 1 by omega, List.take_succ_eq_append_getElem (by simp; omega)]
  simp [show r + (i - r) = i by omega]
theorem outL_end {l : List Kep} {k : Kep} {r : Nat} (hr : r ≤ l.length) : (if r < l.length then outL l k r l.length else outL l k r l.length ++ [k]) = l.take r ++ k :: l.drop r := by
  unfold outL
  split
  · rw [take_drop_all]
  · have : r = l.length := by omega
    subst this; simp
def kav (k : Kep) : List AV := [I k.m, I k.e, I k.h, I k.u]
def I40 (l : List Kep) (cap : Option Nat) (k : Kep) (r : Nat) (n : Nat) (fr : Fr) (H : Heap) : Prop := ∃ i : Nat, i ≤ l.length ∧ n = l.length - i ∧
  ((i = 0 ∧ fr = [(0, .dslice (kcells l) l.length cap), (3, .ptr 0 0), (5, .nils), (6, .bool false), (7, I 0)] ∧ H = ⟨1, [(0, .cells (kav k))]⟩) ∨
   (0 < i ∧ ∃ b : Bool, (b = true ↔ r < i) ∧ fr = [(0, .dslice (kcells l) l.length cap), (3, .ptr 0 0), (5, .slice 1 0 (outL l k r i).length none 4), (6, .bool b), (7, I i)] ∧ H = ⟨2, [(0, .cells (kav k)), (1, .cells (kcells (outL l k r i)))]⟩))
theorem kav_noLoc (k : Kep) : ∀ c ∈ kav k, noLoc c = true := by simp [kav, noLoc]
theorem c40 (l : List Kep) (cap : Option Nat) (k : Kep) (hl : Kept1 l) (hu : ∀ j (hj : j < l.length), l[j].m ≠ k.m) : CallA Try.prog 40 [.dslice (kcells l) l.length cap, .agg (kav k)] Heap.nil fun v H' => v = .dslice (kcells (l.take (rank l k.m) ++ k :: l.drop (rank l k.m))) (l.length + 1) none ∧ H' = Heap.nil := by
  refine callA_of ok40 (Nat.le_of_ble_eq_true rfl) ?_
  have e2 := hl.len
  have hf := found_rank l k.m hl
  generalize hrk : rank l k.m = r at hf
  have e1 := hf.le
  have cmp1 : ∀ i (h : i < l.length), r ≤ i → k.m < l[i].m := fun i h hi => by have := hf.hi i hi h; have := hu i h; omega
  have cmp2 : ∀ i (h : i < l.length), i < r → ¬ k.m < l[i].m := fun i h hi => by have := hf.lo i hi h; omega
  repeat' ((conv => whnf); first
      | refine Branch.ofT rfl ?_
      | refine Branch.ofF rfl ?_
      | refine Branch.dec (fun h => ?_) (fun h => ?_)
      | refine Branch.negdec (fun h => ?_) (fun h => ?_)
      | refine Branch.neg (fun h => ?_) (fun h => ?_)
      | refine Branch.mk (fun h => ?_) (fun h => ?_)
      | (refine Side.mk ?_ ?_; · first | omega | decide)
      | (refine SideD.mk ?_ ?_; · first | omega | decide)
      | refine ⟨_, Nat.lt_succ_self _, To.refl (.inl ⟨rfl, ?_⟩)⟩
      | (refine Side.mk ?_ ?_; · (simp; done))
      | fail
      )
  all_goals (conv => whnf)
  refine ⟨I40 l cap k r, l.length, To.gc [(0, true)] [0, 3, 5, 6, 7] rfl ⟨kav_noLoc k, trivial⟩ ⟨0, by omega, by omega, .inl ⟨rfl, rfl, rfl⟩⟩, ?_⟩
  have lst : ∀ (a b : List Kep), kcells a ++ kcells b = kcells (a ++ b) := fun a b => (kcells_append a b).symm
  rintro n fr H ⟨i, hi, rfl, ⟨rfl, rfl, rfl⟩ | ⟨hpos, b, hb, rfl, rfl⟩⟩
  · (conv => whnf)
    refine Branch.dec (fun h => ?_) (fun h => ?_)
    · have h' : 0 < l.length := by omega
      by_cases h0 : r ≤ 0
      · repeat' ((conv => whnf); first
            | refine Branch.ofT rfl ?_
            | refine Branch.ofF rfl ?_
            | refine SideD.at (by omega) (kcells_at h') ?_
            | refine Branch.ofT (decide_eq_true (cmp1 _ h' (by omega))) ?_
            | refine Branch.dec (fun h => ?_) (fun h => ?_)
            | refine Branch.negdec (fun h => ?_) (fun h => ?_)
            | refine Branch.neg (fun h => ?_) (fun h => ?_)
            | refine Branch.mk (fun h => ?_) (fun h => ?_)
            | (refine Side.mk ?_ ?_; · first | omega | decide)
            | (refine SideD.mk ?_ ?_; · first | omega | decide)
            | refine ⟨_, Nat.lt_succ_self _, To.refl (.inl ⟨rfl, ?_⟩)⟩
            | (refine Side.mk ?_ ?_; · ((repeat' apply And.intro) <;> first | omega | rfl | exact Nat.zero_le _ | (simp only [kcells_length]; done) | (simp only [fits]; omega) | (simp only [fits, List.length_append, List.length_take, List.length_drop, List.length_cons, List.length_nil, kcells_length, outL_len e1 hi]; split <;> omega) | (simp only [List.length_append, List.length_take, List.length_drop, List.length_cons, List.length_nil, kcells_length, rep]; omega) | (repeat' first | exact kcells_scal _ | exact scal_nil | apply scal_take | apply scal_drop | apply scal_int)))
            | (refine Side.mk ?_ ?_; · (simp; done))
            | fail
            )
        all_goals (conv => whnf)
        have hC : kcells (outL l k r (0 + 1)) = kcells [k] ++ kcells [l[0]] := by have : r = 0 := (by omega); subst this; rw [outL_here h', lst]; simp [outL]
        have hN : (outL l k r (0 + 1)).length = 1 + 1 := by rw [outL_len e1 (by omega), if_pos (by omega)]
        refine ⟨l.length - (0 + 1), by omega, To.gc [(0, true), (14, true)] [0, 3, 5, 6, 7] rfl ⟨kav_noLoc k, ?_, trivial⟩ ⟨0 + 1, by omega, rfl, .inr ⟨by omega, true, by simp <;> omega, ?_, ?_⟩⟩⟩
        · have := kcells_noLoc (outL l k r (0 + 1)); rw [hC] at this; exact this
        · rw [hN]; rfl
        · rw [hC]; rfl
      · repeat' ((conv => whnf); first
            | refine Branch.ofT rfl ?_
            | refine Branch.ofF rfl ?_
            | refine SideD.at (by omega) (kcells_at h') ?_
            | refine Branch.ofF (decide_eq_false (cmp2 _ h' (by omega))) ?_
            | refine Branch.dec (fun h => ?_) (fun h => ?_)
            | refine Branch.negdec (fun h => ?_) (fun h => ?_)
            | refine Branch.neg (fun h => ?_) (fun h => ?_)
            | refine Branch.mk (fun h => ?_) (fun h => ?_)
            | (refine Side.mk ?_ ?_; · first | omega | decide)
            | (refine SideD.mk ?_ ?_; · first | omega | decide)
            | refine ⟨_, Nat.lt_succ_self _, To.refl (.inl ⟨rfl, ?_⟩)⟩
            | (refine Side.mk ?_ ?_; · ((repeat' apply And.intro) <;> first | omega | rfl | exact Nat.zero_le _ | (simp only [kcells_length]; done) | (simp only [fits]; omega) | (simp only [fits, List.length_append, List.length_take, List.length_drop, List.length_cons, List.length_nil, kcells_length, outL_len e1 hi]; split <;> omega) | (simp only [List.length_append, List.length_take, List.length_drop, List.length_cons, List.length_nil, kcells_length, rep]; omega) | (repeat' first | exact kcells_scal _ | exact scal_nil | apply scal_take | apply scal_drop | apply scal_int)))
            | (refine Side.mk ?_ ?_; · (simp; done))
            | fail
            )
        all_goals (conv => whnf)
        have hC : kcells (outL l k r (0 + 1)) = kcells [l[0]] := by rw [outL_plain h' (by omega)]; simp [outL]
        have hN : (outL l k r (0 + 1)).length = 1 := by rw [outL_len e1 (by omega), if_neg (by omega)]
        refine ⟨l.length - (0 + 1), by omega, To.gc [(0, true), (13, true)] [0, 3, 5, 6, 7] rfl ⟨kav_noLoc k, ?_, trivial⟩ ⟨0 + 1, by omega, rfl, .inr ⟨by omega, false, by simp <;> omega, ?_, ?_⟩⟩⟩
        · have := kcells_noLoc (outL l k r (0 + 1)); rw [hC] at this; exact this
        · rw [hN]; rfl
        · rw [hC]; rfl
    · have h' : l.length = 0 := by omega
      repeat' ((conv => whnf); first
          | refine Branch.ofT rfl ?_
          | refine Branch.ofF rfl ?_
          | refine Branch.dec (fun h => ?_) (fun h => ?_)
          | refine Branch.negdec (fun h => ?_) (fun h => ?_)
          | refine Branch.neg (fun h => ?_) (fun h => ?_)
          | refine Branch.mk (fun h => ?_) (fun h => ?_)
          | (refine Side.mk ?_ ?_; · first | omega | decide)
          | (refine SideD.mk ?_ ?_; · first | omega | decide)
          | refine ⟨_, Nat.lt_succ_self _, To.refl (.inl ⟨rfl, ?_⟩)⟩
          | (refine Side.mk ?_ ?_; · ((repeat' apply And.intro) <;> first | omega | rfl | exact Nat.zero_le _ | (simp only [kcells_length]; done) | (simp only [fits]; omega) | (simp only [fits, List.length_append, List.length_take, List.length_drop, List.length_cons, List.length_nil, kcells_length, outL_len e1 hi]; split <;> omega) | (simp only [List.length_append, List.length_take, List.length_drop, List.length_cons, List.length_nil, kcells_length, rep]; omega) | (repeat' first | exact kcells_scal _ | exact scal_nil | apply scal_take | apply scal_drop | apply scal_int)))
          | (refine Side.mk ?_ ?_; · (simp; done))
          | fail
          )
      all_goals (conv => whnf)
      have hC : l.take r ++ k :: l.drop r = [k] := by
        have : l = [] := List.length_eq_zero_iff.1 h'
        subst this; simp
      refine RetA.pub 1 rfl (kcells_noLoc [k]) ?_
      refine RetA.data rfl ⟨?_, rfl⟩
      rw [hC, h']; rfl
  · (conv => whnf)
    refine Branch.dec (fun h => ?_) (fun h => ?_)
    · have h' : i < l.length := by omega
      cases b with
      | true =>
        have h0 := hb.1 rfl
        repeat' ((conv => whnf); first
            | refine Branch.ofT rfl ?_
            | refine Branch.ofF rfl ?_
            | refine SideD.at (by omega) (kcells_at h') ?_
            | refine Branch.dec (fun h => ?_) (fun h => ?_)
            | refine Branch.negdec (fun h => ?_) (fun h => ?_)
            | refine Branch.neg (fun h => ?_) (fun h => ?_)
            | refine Branch.mk (fun h => ?_) (fun h => ?_)
            | (refine Side.mk ?_ ?_; · first | omega | decide)
            | (refine SideD.mk ?_ ?_; · first | omega | decide)
            | refine ⟨_, Nat.lt_succ_self _, To.refl (.inl ⟨rfl, ?_⟩)⟩
            | (refine Side.mk ?_ ?_; · ((repeat' apply And.intro) <;> first | omega | rfl | exact Nat.zero_le _ | (simp only [kcells_length]; done) | (simp only [fits]; omega) | (simp only [fits, List.length_append, List.length_take, List.length_drop, List.length_cons, List.length_nil, kcells_length, outL_len e1 hi]; split <;> omega) | (simp only [List.length_append, List.length_take, List.length_drop, List.length_cons, List.length_nil, kcells_length, rep]; omega) | (repeat' first | exact kcells_scal _ | exact scal_nil | apply scal_take | apply scal_drop | apply scal_int)))
            | (refine Side.mk ?_ ?_; · (simp; done))
            | fail
            )
        all_goals (conv => whnf)
        have hC : kcells (outL l k r (i + 1)) = kcells (outL l k r i) ++ kcells [l[i]] := by rw [outL_behind h' h0, lst]
        have hN : (outL l k r (i + 1)).length = (outL l k r i).length + 1 := by rw [outL_behind h' h0]; simp
        refine ⟨l.length - (i + 1), by omega, To.gc [(0, true), (14, true)] [0, 3, 5, 6, 7] rfl ⟨kav_noLoc k, ?_, trivial⟩ ⟨i + 1, by omega, rfl, .inr ⟨by omega, true, by simp <;> omega, ?_, ?_⟩⟩⟩
        · have := kcells_noLoc (outL l k r (i + 1)); rw [hC] at this; exact this
        · rw [hN]; rfl
        · rw [hC]; rfl
      | false =>
        have h0 : ¬ r < i := fun h => by have := hb.2 h; cases this
        by_cases h1 : r ≤ i
        · repeat' ((conv => whnf); first
              | refine Branch.ofT rfl ?_
              | refine Branch.ofF rfl ?_
              | refine SideD.at (by omega) (kcells_at h') ?_
              | refine Branch.ofT (decide_eq_true (cmp1 _ h' (by omega))) ?_
              | refine Branch.dec (fun h => ?_) (fun h => ?_)
              | refine Branch.negdec (fun h => ?_) (fun h => ?_)
              | refine Branch.neg (fun h => ?_) (fun h => ?_)
              | refine Branch.mk (fun h => ?_) (fun h => ?_)
              | (refine Side.mk ?_ ?_; · first | omega | decide)
              | (refine SideD.mk ?_ ?_; · first | omega | decide)
              | refine ⟨_, Nat.lt_succ_self _, To.refl (.inl ⟨rfl, ?_⟩)⟩
              | (refine Side.mk ?_ ?_; · ((repeat' apply And.intro) <;> first | omega | rfl | exact Nat.zero_le _ | (simp only [kcells_length]; done) | (simp only [fits]; omega) | (simp only [fits, List.length_append, List.length_take, List.length_drop, List.length_cons, List.length_nil, kcells_length, outL_len e1 hi]; split <;> omega) | (simp only [List.length_append, List.length_take, List.length_drop, List.length_cons, List.length_nil, kcells_length, rep]; omega) | (repeat' first | exact kcells_scal _ | exact scal_nil | apply scal_take | apply scal_drop | apply scal_int)))
              | (refine Side.mk ?_ ?_; · (simp; done))
              | fail
              )
          all_goals (conv => whnf)
          have hC : kcells (outL l k r (i + 1)) = kcells (outL l k r i) ++ kcells [k] ++ kcells [l[i]] := by have : r = i := (by omega); subst this; rw [outL_here h', lst, lst]
          have hN : (outL l k r (i + 1)).length = (outL l k r i).length + 1 + 1 := by have : r = i := (by omega); subst this; rw [outL_here h']; simp
          refine ⟨l.length - (i + 1), by omega, To.gc [(0, true), (15, true)] [0, 3, 5, 6, 7] rfl ⟨kav_noLoc k, ?_, trivial⟩ ⟨i + 1, by omega, rfl, .inr ⟨by omega, true, by simp <;> omega, ?_, ?_⟩⟩⟩
          · have := kcells_noLoc (outL l k r (i + 1)); rw [hC] at this; exact this
          · rw [hN]; rfl
          · rw [hC]; rfl
        · repeat' ((conv => whnf); first
              | refine Branch.ofT rfl ?_
              | refine Branch.ofF rfl ?_
              | refine SideD.at (by omega) (kcells_at h') ?_
              | refine Branch.ofF (decide_eq_false (cmp2 _ h' (by omega))) ?_
              | refine Branch.dec (fun h => ?_) (fun h => ?_)
              | refine Branch.negdec (fun h => ?_) (fun h => ?_)
              | refine Branch.neg (fun h => ?_) (fun h => ?_)
              | refine Branch.mk (fun h => ?_) (fun h => ?_)
              | (refine Side.mk ?_ ?_; · first | omega | decide)
              | (refine SideD.mk ?_ ?_; · first | omega | decide)
              | refine ⟨_, Nat.lt_succ_self _, To.refl (.inl ⟨rfl, ?_⟩)⟩
              | (refine Side.mk ?_ ?_; · ((repeat' apply And.intro) <;> first | omega | rfl | exact Nat.zero_le _ | (simp only [kcells_length]; done) | (simp only [fits]; omega) | (simp only [fits, List.length_append, List.length_take, List.length_drop, List.length_cons, List.length_nil, kcells_length, outL_len e1 hi]; split <;> omega) | (simp only [List.length_append, List.length_take, List.length_drop, List.length_cons, List.length_nil, kcells_length, rep]; omega) | (repeat' first | exact kcells_scal _ | exact scal_nil | apply scal_take | apply scal_drop | apply scal_int)))
              | (refine Side.mk ?_ ?_; · (simp; done))
              | fail
              )
          all_goals (conv => whnf)
          have hC : kcells (outL l k r (i + 1)) = kcells (outL l k r i) ++ kcells [l[i]] := by rw [outL_plain h' (by omega), lst]
          have hN : (outL l k r (i + 1)).length = (outL l k r i).length + 1 := by rw [outL_plain h' (by omega)]; simp
          refine ⟨l.length - (i + 1), by omega, To.gc [(0, true), (14, true)] [0, 3, 5, 6, 7] rfl ⟨kav_noLoc k, ?_, trivial⟩ ⟨i + 1, by omega, rfl, .inr ⟨by omega, false, by simp <;> omega, ?_, ?_⟩⟩⟩
          · have := kcells_noLoc (outL l k r (i + 1)); rw [hC] at this; exact this
          · rw [hN]; rfl
          · rw [hC]; rfl
    · have h' : i = l.length := by omega
      cases b with
      | true =>
        repeat' ((conv => whnf); first
            | refine Branch.ofT rfl ?_
            | refine Branch.ofF rfl ?_
            | refine Branch.dec (fun h => ?_) (fun h => ?_)
            | refine Branch.negdec (fun h => ?_) (fun h => ?_)
            | refine Branch.neg (fun h => ?_) (fun h => ?_)
            | refine Branch.mk (fun h => ?_) (fun h => ?_)
            | (refine Side.mk ?_ ?_; · first | omega | decide)
            | (refine SideD.mk ?_ ?_; · first | omega | decide)
            | refine ⟨_, Nat.lt_succ_self _, To.refl (.inl ⟨rfl, ?_⟩)⟩
            | (refine Side.mk ?_ ?_; · ((repeat' apply And.intro) <;> first | omega | rfl | exact Nat.zero_le _ | (simp only [kcells_length]; done) | (simp only [fits]; omega) | (simp only [fits, List.length_append, List.length_take, List.length_drop, List.length_cons, List.length_nil, kcells_length, outL_len e1 hi]; split <;> omega) | (simp only [List.length_append, List.length_take, List.length_drop, List.length_cons, List.length_nil, kcells_length, rep]; omega) | (repeat' first | exact kcells_scal _ | exact scal_nil | apply scal_take | apply scal_drop | apply scal_int)))
            | (refine Side.mk ?_ ?_; · (simp; done))
            | fail
            )
        all_goals (conv => whnf)
        have h0 := hb.1 rfl
        have hX : outL l k r i = l.take r ++ k :: l.drop r := by rw [← outL_end e1, if_pos (by omega), h']
        refine RetA.pub 1 rfl (kcells_noLoc _) ?_
        refine RetA.data rfl ⟨?_, rfl⟩
        have hlen : (l.take r ++ k :: l.drop r).length = l.length + 1 := by simp; omega
        show AV.dslice (List.take ((outL l k r i).length * 4) (List.drop 0 (kcells (outL l k r i)))) (outL l k r i).length none = _
        rw [List.drop_zero, kcells_all, hX, hlen]
      | false =>
        repeat' ((conv => whnf); first
            | refine Branch.ofT rfl ?_
            | refine Branch.ofF rfl ?_
            | refine Branch.dec (fun h => ?_) (fun h => ?_)
            | refine Branch.negdec (fun h => ?_) (fun h => ?_)
            | refine Branch.neg (fun h => ?_) (fun h => ?_)
            | refine Branch.mk (fun h => ?_) (fun h => ?_)
            | (refine Side.mk ?_ ?_; · first | omega | decide)
            | (refine SideD.mk ?_ ?_; · first | omega | decide)
            | refine ⟨_, Nat.lt_succ_self _, To.refl (.inl ⟨rfl, ?_⟩)⟩
            | (refine Side.mk ?_ ?_; · ((repeat' apply And.intro) <;> first | omega | rfl | exact Nat.zero_le _ | (simp only [kcells_length]; done) | (simp only [fits]; omega) | (simp only [fits, List.length_append, List.length_take, List.length_drop, List.length_cons, List.length_nil, kcells_length, outL_len e1 hi]; split <;> omega) | (simp only [List.length_append, List.length_take, List.length_drop, List.length_cons, List.length_nil, kcells_length, rep]; omega) | (repeat' first | exact kcells_scal _ | exact scal_nil | apply scal_take | apply scal_drop | apply scal_int)))
            | (refine Side.mk ?_ ?_; · (simp; done))
            | fail
            )
        all_goals (conv => whnf)
        have h0 : ¬ r < i := fun h => by have := hb.2 h; cases this
        have hX : outL l k r i ++ [k] = l.take r ++ k :: l.drop r := by rw [← outL_end e1, if_neg (by omega), h']
        have hC : kcells (l.take r ++ k :: l.drop r) = kcells (outL l k r i) ++ kcells [k] := by rw [← hX, lst]
        have hlen : (outL l k r i).length + 1 = l.length + 1 := by
          have := congrArg List.length hX; simp at this; omega
        refine RetA.pub 2 rfl (by have := kcells_noLoc (l.take r ++ k :: l.drop r); rw [hC] at this; exact this) ?_
        refine RetA.data rfl ⟨?_, rfl⟩
        show AV.dslice (List.take (((outL l k r i).length + 1) * 4) (List.drop 0 (kcells (outL l k r i) ++ kcells [k]))) ((outL l k r i).length + 1) none = _
        rw [List.drop_zero, ← hC, hlen, List.take_of_length_le (by rw [kcells_length]; simp; omega)]
end Go.Proofs

namespace Go.Proofs
open Go Go.Eng
set_option maxRecDepth 100000
set_option maxHeartbeats 4000000
theorem ok_cases (p : Ple) (h : p.ok = true) : (p.k = 1 ∧ p.u = 0 ∨ p.k = 2) ∧ 1 ≤ p.e ∧ 0 ≤ p.u := by
  unfold Ple.ok at h
  have h1 : numB p.e = true := by simp at h; exact h.1.1.2
  have h2 : serB p.u = true := by simp at h; exact h.1.2
  unfold numB at h1; unfold serB at h2
  simp at h h1 h2
  omega
theorem plc_cases {l : List Kep} {m : Int} (hl : Kept1 l) : (∃ h : rank l m < l.length, l[rank l m].m = m ∧ plc l m = rank l m) ∨ ((∀ j (hj : j < l.length), l[j].m ≠ m) ∧ plc l m = -1) := by
  by_cases h : ∃ j, ∃ hj : j < l.length, l[j].m = m
  · obtain ⟨j, hj, hm⟩ := h
    have hp := plc_at hl hj hm
    have hf := found_rank l m hl
    have hr : rank l m = j := by
      have : (rank l m : Int) = j := by
        unfold plc at hp
        split at hp
        · rename_i k hk
          split at hp
          · exact hp
          · omega
        · omega
      omega
    refine .inl ⟨by omega, ?_, by rw [hp, hr]⟩
    simp only [hr]; exact hm
  · have : ∀ j (hj : j < l.length), l[j].m ≠ m := fun j hj e => h ⟨j, hj, e⟩
    exact .inr ⟨this, plc_none this⟩
theorem takeK_at4 {cs : List AV} {a b c d : AV} {r : List AV} {K : List AV → Prop} (e : cs = a :: b :: c :: d :: r) (h : fv a fun a => fv b fun b => fv c fun c => fv d fun d => K [a, b, c, d]) : takeK 4 cs K := by subst e; exact h
def heardC (id : Int) (x : Heard) : AV := .agg (wav id x.l x.cap ++ x.g.av ++ [I x.e])
theorem kat {l : List Kep} {r : Nat} (z : List AV) (h : r < l.length) : List.drop (0 + (r : Int).toNat * 4) (rep z 0 ++ List.take (l.length * 4) (kcells l)) = I l[r].m :: I l[r].e :: I l[r].h :: I l[r].u :: kcells (l.drop (r + 1)) := by
  rw [Nat.zero_add, kcells_all]; exact kcells_at h
theorem heard_eq {id n : Int} {L L' : List Kep} {len : Nat} {g : List AV} {g' : Gra} (hL : L = L') (hn : len = L'.length) (hg : g = g'.av) : AV.agg ([I id, .dslice (((kcells L).drop 0).take (len * 4)) len none] ++ g ++ [I n]) = heardC id ⟨L', none, g', n⟩ := by
  subst hL; subst hn; subst hg
  rw [List.drop_zero, kcells_all]; rfl
theorem set_mid {l : List Kep} {r : Nat} {x : Kep} (h : r < l.length) : (l.take r ++ x :: l.drop (r + 1)).length = l.length := by simp; omega
theorem c28 (id : Int) (l : List Kep) (cap : Option Nat) (p : Ple) (hl : Kept1 l) (hv : ∀ j (hj : j < l.length), 0 ≤ l[j].u) : CallA Try.prog 28 [.agg (wav id l cap), .agg p.av] Heap.nil fun v H' => v = heardC id (hearW id l cap p (rank l p.m)) ∧ H' = Heap.nil := by
  refine callA_of ok28b (Nat.le_of_ble_eq_true rfl) ?_
  have e2 := hl.len
  have h39 := c39 l cap p.m hl
  cases hok : p.ok with
  | false =>
    have h38 := c38 p
    rw [hok] at h38
    repeat' ((conv => whnf); first
        | refine Branch.ofT rfl ?_
        | refine Branch.ofF rfl ?_
        | refine Branch.dec (fun h => ?_) (fun h => ?_)
        | refine Branch.negdec (fun h => ?_) (fun h => ?_)
        | refine Branch.neg (fun h => ?_) (fun h => ?_)
        | refine Branch.mk (fun h => ?_) (fun h => ?_)
        | (refine Side.mk ?_ ?_; · first | omega | decide)
        | (refine SideD.mk ?_ ?_; · first | omega | decide)
        | refine ⟨_, Nat.lt_succ_self _, To.refl (.inl ⟨rfl, ?_⟩)⟩
        | refine CallA.pure h38 rfl rfl ?_
        | (refine Side.mk ?_ ?_; · (simp; done))
        | fail
        )
    all_goals (conv => whnf)
    refine RetA.data rfl ⟨?_, rfl⟩
    simp [hearW, hok, heardC, wav, Gra.av, Gra.zero, Ple.zero, one]
  | true =>
    have h38 := c38 p
    rw [hok] at h38
    obtain ⟨ok1, ok2, ok3⟩ := ok_cases p hok
    rcases plc_cases (m := p.m) hl with ⟨hlt, hm, hpl⟩ | ⟨hu, hpl⟩
    · rw [hpl] at h39
      generalize hrk : rank l p.m = r at *
      have hv0 := hv r hlt
      repeat' ((conv => whnf); first
          | refine Branch.ofT rfl ?_
          | refine Branch.ofF rfl ?_
          | refine Branch.ofF (decide_eq_false (by omega)) ?_
          | refine Branch.dec (fun h => ?_) (fun h => ?_)
          | refine Branch.negdec (fun h => ?_) (fun h => ?_)
          | refine Branch.neg (fun h => ?_) (fun h => ?_)
          | refine Branch.mk (fun h => ?_) (fun h => ?_)
          | (refine Side.mk ?_ ?_; · first | omega | decide)
          | (refine SideD.mk ?_ ?_; · first | omega | decide)
          | refine ⟨_, Nat.lt_succ_self _, To.refl (.inl ⟨rfl, ?_⟩)⟩
          | refine CallA.pure h38 rfl rfl ?_
          | refine CallA.pure h39 rfl rfl ?_
          | (refine Side.mk ?_ ?_; · ((repeat' apply And.intro) <;> first | omega | rfl | exact Nat.zero_le _ | (simp only [kcells_length]; done) | (simp only [fits]; omega) | (simp only [fits, List.length_append, List.length_take, List.length_drop, List.length_cons, List.length_nil, kcells_length]; omega) | (simp only [List.length_append, List.length_take, List.length_drop, List.length_cons, List.length_nil, kcells_length, rep]; omega) | (repeat' first | exact kcells_scal _ | exact scal_nil | apply scal_take | apply scal_drop | apply scal_int)))
          | refine takeK_at4 (kat _ hlt) ?_
          | (refine lputK_at (l := l) (i := r) (by rw [kn_rep, List.nil_append, kcells_all]) hlt (by omega) ?_)
          | (refine Side.mk ?_ ?_; · (simp; done))
          | fail
          )
      all_goals (conv => whnf)
      all_goals (refine RetA.pub 9 rfl (kcells_noLoc _) ?_)
      all_goals (refine RetA.data rfl ⟨?_, rfl⟩)
      all_goals rw [hearW_known hok hlt hm]
      all_goals (refine Eq.trans (b := AV.agg ([I id, .dslice (((kcells _).drop 0).take (_ * 4)) _ none] ++ [_, _, _, _, _, _, _, _, _] ++ [I 0])) (by exact rfl) (heard_eq ?_ ?_ ?_))
      all_goals (try (rw [set_mid hlt, Nat.zero_add]; done))
      all_goals (try (congr 2; apply kep_eq <;> (simp only [newK, uptK, hearK, agrK, mx]; grind)))
      all_goals (try (apply gra_eq <;> (simp only [newK, uptK, hearK, agrK, mx]; grind)))
    · rw [hpl] at h39
      have h40 := c40 l cap ⟨p.m, p.e, p.h, 0⟩ hl hu
      have hu' : unk l p (rank l p.m) := fun h => hu _ h
      have e1 := (found_rank l p.m hl).le
      generalize hrk : rank l p.m = r at *
      repeat' ((conv => whnf); first
          | refine Branch.ofT rfl ?_
          | refine Branch.ofF rfl ?_
          | refine Branch.ofT (decide_eq_true (by omega)) ?_
          | refine Branch.dec (fun h => ?_) (fun h => ?_)
          | refine Branch.negdec (fun h => ?_) (fun h => ?_)
          | refine Branch.neg (fun h => ?_) (fun h => ?_)
          | refine Branch.mk (fun h => ?_) (fun h => ?_)
          | (refine Side.mk ?_ ?_; · first | omega | decide)
          | (refine SideD.mk ?_ ?_; · first | omega | decide)
          | refine ⟨_, Nat.lt_succ_self _, To.refl (.inl ⟨rfl, ?_⟩)⟩
          | refine CallA.pure h38 rfl rfl ?_
          | refine CallA.pure h39 rfl rfl ?_
          | refine QCallA.of h40 rfl rfl ?_
          | (refine Side.mk ?_ ?_; · (simp; done))
          | fail
          )
      all_goals (conv => whnf)
      · refine RetA.data rfl ⟨?_, rfl⟩
        rw [hearW_limit hok hu' (by assumption)]; rfl
      · refine RetA.data rfl ⟨?_, rfl⟩
        rw [hearW_conf hok hu' (by assumption) (by assumption)]; rfl
      · refine RetA.data rfl ⟨?_, rfl⟩
        have hk1 : p.k = 1 := by omega
        have hpu : p.u = 0 := by omega
        have hnew : newK ⟨p.m, 0, 0, 0⟩ p = ⟨p.m, p.e, p.h, 0⟩ := by
          apply kep_eq <;> (simp only [newK, uptK, hearK, agrK, mx]; grind)
        have hgra : graK id ⟨p.m, 0, 0, 0⟩ p = ⟨id, p, true, p.e, 0⟩ := by
          unfold graK; rw [hnew]; simp only [Gra.mk.injEq]; simp only [hearK, agrK]; grind
        rw [hearW_new hok hu' (by assumption) (by assumption), hnew, hgra]
        have hlen : (l.take r ++ (⟨p.m, p.e, p.h, 0⟩ : Kep) :: l.drop r).length = l.length + 1 := by simp; omega
        simp only [heardC, wav, hlen]; rfl
end Go.Proofs

namespace Go.Eng
open Go

/-! ### A run of closed text, by computing -/
inductive BT (α : Type) where
  | nil
  | node (v : Option α) (l r : BT α)
namespace BT
variable {α : Type}
def get : BT α → Nat → Option α
  | nil, _ => none
  | node v l r, n => match n with
    | 0 => v
    | n + 1 => bif Nat.beq (Nat.mod n 2) 0 then l.get (Nat.div n 2) else r.get (Nat.div n 2)
def set (v : α) : Nat → BT α → Nat → Option (BT α)
  | 0, _, _ => none
  | d + 1, nil, n => match n with
    | 0 => some (node (some v) nil nil)
    | n + 1 => bif Nat.beq (Nat.mod n 2) 0 then (match set v d nil (Nat.div n 2) with
      | some l => some (node none l nil)
      | none => none) else (match set v d nil (Nat.div n 2) with
      | some r => some (node none nil r)
      | none => none)
  | d + 1, node u l r, n => match n with
    | 0 => some (node (some v) l r)
    | n + 1 => bif Nat.beq (Nat.mod n 2) 0 then (match set v d l (Nat.div n 2) with
      | some l => some (node u l r)
      | none => none) else (match set v d r (Nat.div n 2) with
      | some r => some (node u l r)
      | none => none)
theorem par {n m : Nat} (h : Nat.mod n 2 = Nat.mod m 2) (k : Nat.div n 2 = Nat.div m 2) : n = m := by
  have h : n % 2 = m % 2 := h
  have k : n / 2 = m / 2 := k
  omega
theorem get_set (v : α) : ∀ {d : Nat} {t t' : BT α} {n : Nat}, set v d t n = some t' → ∀ m, t'.get m = if n = m then some v else t.get m
  | 0, _, _, _, h, _ => by simp [set] at h
  | d + 1, nil, t', n, h, m => by
    cases n with
    | zero =>
      simp only [set, Option.some.injEq] at h; subst h
      cases m with
      | zero => simp [get]
      | succ m => simp [get]
    | succ n =>
      simp only [set] at h
      cases hb : Nat.beq (Nat.mod n 2) 0 <;> simp only [hb, cond_true, cond_false] at h
      all_goals
        split at h
        · rename_i s hs
          simp only [Option.some.injEq] at h; subst h
          have ih := get_set v hs
          cases m with
          | zero => simp [get]
          | succ m =>
            simp only [get, Nat.add_right_cancel_iff]
            have h2 : Nat.mod n 2 < 2 := Nat.mod_lt _ (by decide)
            have h3 : Nat.mod m 2 < 2 := Nat.mod_lt _ (by decide)
            cases hc : Nat.beq (Nat.mod m 2) 0 <;> simp only [cond_true, cond_false]
            all_goals first
              | (rw [ih]
                 by_cases e : Nat.div n 2 = Nat.div m 2
                 · rw [if_pos e, if_pos]
                   refine par ?_ e
                   cases hn : Nat.mod n 2 with
                   | zero => cases hm : Nat.mod m 2 with
                     | zero => rfl
                     | succ y => rw [hn] at hb; rw [hm] at hc; simp at hb hc
                   | succ x => cases hm : Nat.mod m 2 with
                     | zero => rw [hn] at hb; rw [hm] at hc; simp at hb hc
                     | succ y => omega
                 · rw [if_neg e, if_neg (fun h => e (by rw [h]))]; try rfl)
              | (rw [if_neg]; rintro rfl; rw [hb] at hc; cases hc)
              | (rw [if_neg]; · (try rfl)
                 rintro rfl; rw [hb] at hc; cases hc)
        · cases h
  | d + 1, node u l r, t', n, h, m => by
    cases n with
    | zero =>
      simp only [set, Option.some.injEq] at h; subst h
      cases m with
      | zero => simp [get]
      | succ m => simp [get]
    | succ n =>
      simp only [set] at h
      cases hb : Nat.beq (Nat.mod n 2) 0 <;> simp only [hb, cond_true, cond_false] at h
      all_goals
        split at h
        · rename_i s hs
          simp only [Option.some.injEq] at h; subst h
          have ih := get_set v hs
          cases m with
          | zero => simp [get]
          | succ m =>
            simp only [get, Nat.add_right_cancel_iff]
            have h2 : Nat.mod n 2 < 2 := Nat.mod_lt _ (by decide)
            have h3 : Nat.mod m 2 < 2 := Nat.mod_lt _ (by decide)
            cases hc : Nat.beq (Nat.mod m 2) 0 <;> simp only [cond_true, cond_false]
            all_goals first
              | (rw [ih]
                 by_cases e : Nat.div n 2 = Nat.div m 2
                 · rw [if_pos e, if_pos]
                   refine par ?_ e
                   cases hn : Nat.mod n 2 with
                   | zero => cases hm : Nat.mod m 2 with
                     | zero => rfl
                     | succ y => rw [hn] at hb; rw [hm] at hc; simp at hb hc
                   | succ x => cases hm : Nat.mod m 2 with
                     | zero => rw [hn] at hb; rw [hm] at hc; simp at hb hc
                     | succ y => omega
                 · rw [if_neg e, if_neg (fun h => e (by rw [h]))]; try rfl)
              | (rw [if_neg]; rintro rfl; rw [hb] at hc; cases hc)
              | (rw [if_neg]; · (try rfl)
                 rintro rfl; rw [hb] at hc; cases hc)
        · cases h
end BT

/-! #### Values, brought to literals -/
section
variable {β : Type}
def forceN (m : Nat) (K : Nat → Option β) : Option β := match m with
  | 0 => K 0
  | n + 1 => K (n + 1)
theorem forceN_eq (m : Nat) (K : Nat → Option β) : forceN m K = K m := by cases m <;> rfl
def forceI (n : Int) (K : Int → Option β) : Option β := match n with
  | .ofNat m => forceN m fun m => K (.ofNat m)
  | .negSucc m => forceN m fun m => K (.negSucc m)
theorem forceI_eq (m : Int) (K : Int → Option β) : forceI m K = K m := by cases m <;> simp [forceI, forceN_eq]
def forceB (b : Bool) (K : Bool → Option β) : Option β := match b with
  | true => K true
  | false => K false
theorem forceB_eq (m : Bool) (K : Bool → Option β) : forceB m K = K m := by cases m <;> rfl
def fvE (v : AV) (K : AV → Option β) : Option β := match v with
  | .bool b => forceB b fun b => K (.bool b)
  | .int k n => forceI n fun n => K (.int k n)
  | .ptr k o => forceN k fun k => forceN o fun o => K (.ptr k o)
  | .slice k o l c e => forceN k fun k => forceN o fun o => forceN l fun l => K (.slice k o l c e)
  | .dslice cs l c => forceN l fun l => K (.dslice cs l c)
  | v => K v
theorem fvE_eq (v : AV) (K : AV → Option β) : fvE v K = K v := by cases v <;> simp [fvE, forceN_eq, forceI_eq, forceB_eq]
end

/-! #### Operations -/
def binIE (op : BinOp) (a b : Int) : Option AV := match op with
  | .add => if (-9223372036854775808 ≤ a + b ∧ a + b ≤ 9223372036854775807) then some (.int .i64 (a + b)) else none
  | .sub => if (-9223372036854775808 ≤ a - b ∧ a - b ≤ 9223372036854775807) then some (.int .i64 (a - b)) else none
  | .mul => if (-9223372036854775808 ≤ a * b ∧ a * b ≤ 9223372036854775807) then some (.int .i64 (a * b)) else none
  | .quo => if (0 ≤ a ∧ a ≤ 9223372036854775807 ∧ 0 < b) then some (.int .i64 (a / b)) else none
  | .rem => if (0 ≤ a ∧ 0 < b) then some (.int .i64 (a % b)) else none
  | .lss => some (.bool (decide (a < b)))
  | .leq => some (.bool (decide (a ≤ b)))
  | .gtr => some (.bool (decide (b < a)))
  | .geq => some (.bool (decide (b ≤ a)))
  | .eql => some (.bool (decide (a = b)))
  | .neq => some (.bool (!decide (a = b)))
  | _ => none
theorem binIE_run {op : BinOp} {a b : Int} {v : AV} {K : AV → Prop} (h : binIE op a b = some v) (hk : K v) : binI op a b K := by
  unfold binIE at h; unfold binI
  cases op <;> simp only at h ⊢ <;> first
    | (cases h; done)
    | (split at h <;> first | (cases h; done) | (rename_i hp; cases h; exact ⟨hp, hk⟩))
    | (cases h; exact hk)
def binWE (op : BinOp) (k : IntKind) (a b : Int) : Option AV := match op with
  | .add => some (.int k (k.wrap (a + b)))
  | .sub => some (.int k (k.wrap (a - b)))
  | .mul => some (.int k (k.wrap (a * b)))
  | .quo => if b ≠ 0 then some (.int k (k.wrap (a.tdiv b))) else none
  | .rem => if b ≠ 0 then some (.int k (a.tmod b)) else none
  | .and => some (.int k (k.wrap (BitVec.ofInt k.bits a &&& BitVec.ofInt k.bits b).toNat))
  | .or => some (.int k (k.wrap (BitVec.ofInt k.bits a ||| BitVec.ofInt k.bits b).toNat))
  | .xor => some (.int k (k.wrap (BitVec.ofInt k.bits a ^^^ BitVec.ofInt k.bits b).toNat))
  | .andNot => some (.int k (k.wrap (BitVec.ofInt k.bits a &&& ~~~(BitVec.ofInt k.bits b)).toNat))
  | .lss => some (.bool (decide (a < b)))
  | .leq => some (.bool (decide (a ≤ b)))
  | .gtr => some (.bool (decide (b < a)))
  | .geq => some (.bool (decide (b ≤ a)))
  | .eql => some (.bool (decide (a = b)))
  | .neq => some (.bool (!decide (a = b)))
  | _ => none
theorem binWE_run {op : BinOp} {k : IntKind} {a b : Int} {v : AV} {K : AV → Prop} (h : binWE op k a b = some v) (hk : K v) : binW op k a b K := by
  unfold binWE at h; unfold binW
  cases op <;> simp only at h ⊢ <;> first
    | (cases h; done)
    | (split at h <;> first | (cases h; done) | (rename_i hp; cases h; exact ⟨hp, hk⟩))
    | (cases h; exact hk)

def mapE (f : AX → AV) : List AX → List AV
  | [] => []
  | x :: r => f x :: mapE f r
theorem mapE_eq (f : AX → AV) : ∀ l, mapE f l = l.map f
  | [] => rfl
  | _ :: r => by simp [mapE, mapE_eq f r]
def POp.e (ev : AX → AV) : POp → Option AV
  | .mov x => some (ev x)
  | .pick c a b => match ev c with
    | .bool t => match t with
      | true => some (ev a)
      | false => some (ev b)
    | _ => none
  | .bin op x y => match ev x, ev y with
    | .int .i64 a, .int .i64 b => binIE op a b
    | .str a, .str b => match op with
      | .eql => some (.bool (decide (a = b)))
      | .neq => some (.bool (!decide (a = b)))
      | _ => none
    | _, _ => none
  | .beq neg x y => match ev x, ev y with
    | .bool a, .bool b => some (.bool (if neg then !(a == b) else a == b))
    | _, _ => none
  | .binw op x y => match ev x, ev y with
    | .int k a, .int k' b => match op with
      | .shl => if 0 ≤ b then some (.int k (k.wrap (a * 2 ^ min b.toNat k.bits))) else none
      | .shr => if 0 ≤ b then some (.int k (a.fdiv (2 ^ min b.toNat k.bits))) else none
      | op => if k = k' then binWE op k a b else none
    | _, _ => none
  | .un op x => match op, ev x with
    | .not, .bool b => some (.bool (!b))
    | .neg, .int .i64 n => if (-9223372036854775807 ≤ n ∧ n ≤ 9223372036854775807) then some (.int .i64 (-n)) else none
    | .xor, .int k n => some (.int k (k.wrap (BitVec.ofInt k.bits (if k.signed then -1 else k.max) ^^^ BitVec.ofInt k.bits n).toNat))
    | _, _ => none
  | .conv k x => match ev x with
    | .int _ n => if (k.min ≤ n ∧ n ≤ k.max) then some (.int k n) else none
    | _ => none
  | .convw k x => match ev x with
    | .int _ n => some (.int k (k.wrap n))
    | _ => none
  | .fieldA off x => match ev x with
    | .dptr cs => some (.dptr (cs.drop off))
    | .ptr k o => some (.ptr k (o + off))
    | _ => none
  | .idxA e arr x i => match ev i with
    | .int _ i => match arr, ev x with
      | some n, .dptr cs => if (0 ≤ i ∧ i < n) then some (.dptr (cs.drop (i.toNat * e))) else none
      | some n, .ptr k o => if (0 ≤ i ∧ i < n) then some (.ptr k (o + i.toNat * e)) else none
      | none, .dslice cs n _ => if (0 ≤ i ∧ i < n) then some (.dptr (cs.drop (i.toNat * e))) else none
      | none, .slice k o n _ _ => if (0 ≤ i ∧ i < n) then some (.ptr k (o + i.toNat * e)) else none
      | _, _ => none
    | _ => none
  | .len str x => match str, ev x with
    | false, .dslice _ n _ => some (.int .i64 n)
    | false, .slice _ _ n _ _ => some (.int .i64 n)
    | false, .nils => some (.int .i64 0)
    | true, .str s => some (.int .i64 s.size)
    | _, _ => none
  | .extract i x => match ev x with
    | .tuple cs => cs[i]?
    | _ => none
  | .mkfn f caps => some (.func f (mapE ev caps))
  | .nilchk x => match ev x with
    | .ptr k o => some (.ptr k o)
    | .dptr cs => some (.dptr cs)
    | .func f cs => some (.func f cs)
    | _ => none
  | .mm mx x y => match ev x, ev y with
    | .int k a, .int _ b => some (.int k (if mx then (if b > a then b else a) else (if b < a then b else a)))
    | _, _ => none
  | .other => some .any
theorem POp.e_run {ev : AX → AV} {K : AV → Prop} {o : POp} {v : AV} (h : o.e ev = some v) (hk : K v) : o.run ev K := by
  cases o <;> simp only [POp.e, POp.run, fv_eq, fvs_eq] at h ⊢
  case mov x => cases h; exact hk
  case pick c a b =>
    generalize ev c = vc at h ⊢
    cases vc <;> simp only at h ⊢
    all_goals first | (cases h; done) | skip
    rename_i t
    cases t <;> simp only at h <;> cases h
    · exact Branch.ofF rfl hk
    · exact Branch.ofT rfl hk
  case bin op x y =>
    generalize ev x = vx at h ⊢
    generalize ev y = vy at h ⊢
    split at h
    · exact binIE_run h hk
    · cases op <;> simp only at h ⊢ <;> first | (cases h; exact hk) | cases h
    · cases h
  case beq neg x y =>
    generalize ev x = vx at h ⊢
    generalize ev y = vy at h ⊢
    split at h
    · cases h; exact hk
    · cases h
  case binw op x y =>
    generalize ev x = vx at h ⊢
    generalize ev y = vy at h ⊢
    split at h
    · cases op <;> simp only at h ⊢
      all_goals (split at h <;> first | (cases h; done) | skip)
      all_goals first | (refine ⟨‹_›, ?_⟩; exact binWE_run h hk) | (cases h; exact ⟨‹_›, hk⟩)
    · cases h
  case un op x =>
    generalize ev x = vx at h ⊢
    split at h
    · cases h; exact hk
    · split at h
      · cases h; exact ⟨‹_›, hk⟩
      · cases h
    · cases h; exact hk
    · cases h
  case conv k x =>
    generalize ev x = vx at h ⊢
    split at h
    · split at h
      · cases h; exact ⟨‹_›, hk⟩
      · cases h
    · cases h
  case convw k x =>
    generalize ev x = vx at h ⊢
    split at h
    · cases h; exact hk
    · cases h
  case fieldA off x =>
    generalize ev x = vx at h ⊢
    split at h
    · cases h; exact hk
    · cases h; exact hk
    · cases h
  case idxA e arr x i =>
    generalize ev x = vx at h ⊢
    generalize ev i = vi at h ⊢
    split at h
    · split at h
      · split at h
        · cases h; exact ⟨‹_›, hk⟩
        · cases h
      · split at h
        · cases h; exact ⟨‹_›, hk⟩
        · cases h
      · split at h
        · cases h; exact ⟨‹_›, hk⟩
        · cases h
      · split at h
        · cases h; exact ⟨‹_›, hk⟩
        · cases h
      · cases h
    · cases h
  case len str x =>
    generalize ev x = vx at h ⊢
    split at h <;> first | (cases h; exact hk) | cases h
  case extract i x =>
    generalize ev x = vx at h ⊢
    split at h
    · simp only [h]; exact hk
    · cases h
  case mkfn f caps => cases h; rw [mapE_eq] at hk; exact hk
  case nilchk x =>
    generalize ev x = vx at h ⊢
    split at h <;> first | (cases h; exact hk) | cases h
  case mm mx x y =>
    generalize ev x = vx at h ⊢
    generalize ev y = vy at h ⊢
    split at h <;> first | (cases h; exact hk) | cases h
  case other => cases h; exact hk

def takeE : Nat → List AV → Option (List AV)
  | 0, _ => some []
  | n + 1, c :: r => match takeE n r with
    | some l => some (c :: l)
    | none => none
  | _ + 1, [] => none
theorem takeE_run : ∀ {n : Nat} {cs l : List AV} {K : List AV → Prop}, takeE n cs = some l → K l → takeK n cs K
  | 0, _, _, _, h, hk => by simp only [takeE, Option.some.injEq] at h; subst h; exact hk
  | n + 1, c :: r, l, K, h, hk => by
    simp only [takeE] at h
    split at h
    · rename_i l' hl; cases h; simp only [takeK, fv_eq]; exact takeE_run hl hk
    · cases h
  | _ + 1, [], _, _, h, _ => by simp [takeE] at h
def loadE (agg : Bool) (n : Nat) (cs : List AV) : Option AV := match agg with
  | true => match takeE n cs with
    | some l => some (.agg l)
    | none => none
  | false => match cs with
    | c :: _ => some c
    | [] => none
theorem loadE_run {agg : Bool} {n : Nat} {cs : List AV} {v : AV} {K : AV → Prop} (h : loadE agg n cs = some v) (hk : K v) : loadK agg n cs K := by
  unfold loadE at h
  cases agg with
  | true =>
    simp only [loadK] at h ⊢
    split at h
    · rename_i l hl; cases h; exact takeE_run hl hk
    · cases h
  | false =>
    simp only [loadK_false] at h ⊢
    split at h
    · cases h; simp only [fv_eq]; exact hk
    · cases h
def lputE : List AV → Nat → List AV → Option (List AV)
  | cs, 0, [] => some cs
  | _ :: cs, 0, v :: l => bif scal v then (match lputE cs 0 l with
    | some r => some (v :: r)
    | none => none) else none
  | c :: cs, off + 1, l => match lputE cs off l with
    | some r => some (c :: r)
    | none => none
  | [], 0, _ :: _ => none
  | [], _ + 1, _ => none
theorem lputE_run : ∀ {cs : List AV} {off : Nat} {l r : List AV} {K : List AV → Prop}, lputE cs off l = some r → K r → lputK cs off l K
  | [], 0, [], r, K, h, hk => by simp only [lputE, Option.some.injEq] at h; subst h; simpa [lputK] using hk
  | _ :: _, 0, [], r, K, h, hk => by simp only [lputE, Option.some.injEq] at h; subst h; simpa [lputK] using hk
  | _ :: cs, 0, v :: l, r, K, h, hk => by
    simp only [lputE] at h; simp only [lputK]
    cases hv : scal v <;> simp only [hv, cond_true, cond_false] at h ⊢
    · cases h
    · split at h
      · rename_i r' hr; cases h; exact lputE_run hr hk
      · cases h
  | c :: cs, off + 1, l, r, K, h, hk => by
    simp only [lputE] at h; simp only [lputK]
    split at h
    · rename_i r' hr; cases h; exact lputE_run hr hk
    · cases h
  | [], 0, _ :: _, _, _, h, _ => by simp [lputE] at h
  | [], _ + 1, _, _, _, h, _ => by simp [lputE] at h

def eqCellsE : List Sc → List AV → List AV → Option Bool
  | [], [], [] => some true
  | k :: ks, c :: cs, d :: ds => match eqOne k c d with
    | some q => match eqCellsE ks cs ds with
      | some r => some (q && r)
      | none => none
    | none => none
  | _, _, _ => none
theorem eqCellsE_run : ∀ {ks : List Sc} {cs ds : List AV} {r : Bool} {K : Bool → Prop}, eqCellsE ks cs ds = some r → K r → eqCells ks cs ds K
  | [], [], [], r, K, h, hk => by simp only [eqCellsE, Option.some.injEq] at h; subst h; exact hk
  | k :: ks, c :: cs, d :: ds, r, K, h, hk => by
    simp only [eqCellsE] at h; simp only [eqCells]
    split at h
    · rename_i q hq
      split at h
      · rename_i r' hr; cases h; rw [hq]; exact eqCellsE_run hr hk
      · cases h
    · cases h
  | [], [], _ :: _, _, _, h, _ => by simp [eqCellsE] at h
  | [], _ :: _, _, _, _, h, _ => by simp [eqCellsE] at h
  | _ :: _, [], _, _, _, h, _ => by simp [eqCellsE] at h
  | _ :: _, _ :: _, [], _, _, h, _ => by simp [eqCellsE] at h
def buildE (ev : AX → AV) : List (Nat × Nat × AX) → List AV → Option (List AV)
  | [], cs => some cs
  | (off, sz, x) :: r, cs => match cellsOf (ev x) with
    | some l => bif Nat.beq l.length sz then (match lputE cs off l with
      | some cs => buildE ev r cs
      | none => none) else none
    | none => none
theorem buildE_run {ev : AX → AV} : ∀ {ps : List (Nat × Nat × AX)} {cs r : List AV} {K : List AV → Prop}, buildE ev ps cs = some r → K r → buildK ev ps cs K
  | [], _, _, _, h, hk => by simp only [buildE, Option.some.injEq] at h; subst h; exact hk
  | (off, sz, x) :: ps, cs, r, K, h, hk => by
    simp only [buildE] at h; simp only [buildK]
    split at h
    · rename_i l hl
      cases hb : Nat.beq l.length sz <;> simp only [hb, cond_true, cond_false] at h
      · cases h
      · split at h
        · rename_i cs' hcs; simp only [hl, hb, cond_true]; exact lputE_run hcs (buildE_run h hk)
        · cases h
    · cases h
def optE (ev : AX → AV) (d : Int) (x : Option AX) : Option Int := match x with
  | none => some d
  | some x => match ev x with
    | .int _ i => some i
    | _ => none
theorem optE_run {ev : AX → AV} {d i : Int} {x : Option AX} {K : Int → Prop} (h : optE ev d x = some i) (hk : K i) : optI ev d x K := by
  unfold optE at h; unfold optI
  split at h
  · cases h; exact hk
  · split at h
    · rename_i hx; cases h; simp only [hx]; exact hk
    · cases h

def VOp.e (ev : AX → AV) : VOp → Option AV
  | .field agg off n x => match ev x with
    | .agg cs => loadE agg n (cs.drop off)
    | _ => none
  | .idx agg e len x i => match ev x, ev i with
    | .agg cs, .int _ i => if (0 ≤ i ∧ i < len) then loadE agg e (cs.drop (i.toNat * e)) else none
    | _, _ => none
  | .sidx x i => match ev x, ev i with
    | .str s, .int _ i => if (0 ≤ i ∧ i < s.size) then some (.int .u8 ((s.data.getD i.toNat 0).toNat : Nat)) else none
    | _, _ => none
  | .build zero parts => match buildE ev parts zero with
    | some cs => some (.agg cs)
    | none => none
  | .eqa neg ks x y => match ev x, ev y with
    | .agg cs, .agg ds => match eqCellsE ks cs ds with
      | some r => some (.bool (if neg then !r else r))
      | none => none
    | _, _ => none
  | .isnil p neg x y => match p, ev x, ev y with
    | false, .nils, .nils => some (.bool (!neg))
    | false, .slice _ _ _ _ _, .nils => some (.bool neg)
    | true, .nilp, .nilp => some (.bool (!neg))
    | true, .ptr _ _, .nilp => some (.bool neg)
    | true, .dptr _, .nilp => some (.bool neg)
    | _, _, _ => none
  | .sub e x lo hi mx => match ev x with
    | .dslice cs len cap => match optE ev 0 lo, optE ev len hi with
      | some l, some h => match mx with
        | none => if (0 ≤ l ∧ l ≤ h ∧ h ≤ len) then some (.dslice ((cs.drop (l.toNat * e)).take ((h - l).toNat * e)) (h - l).toNat (cap.map (· - l.toNat))) else none
        | some mx => match ev mx with
          | .int _ m => if (0 ≤ l ∧ l ≤ h ∧ h ≤ m ∧ m ≤ len) then some (.dslice ((cs.drop (l.toNat * e)).take ((h - l).toNat * e)) (h - l).toNat (some (m - l).toNat)) else none
          | _ => none
      | _, _ => none
    | .nils => match optE ev 0 lo, optE ev 0 hi with
      | some l, some h => match mx with
        | none => if (l = 0 ∧ h = 0) then some .nils else none
        | some _ => none
      | _, _ => none
    | .slice k off len cap e' => match optE ev 0 lo, optE ev len hi with
      | some l, some h => match mx with
        | none => if e = e' then (if (0 ≤ l ∧ l < h ∧ h ≤ len) then some (.slice k (off + l.toNat * e) (h - l).toNat (cap.map (· - l.toNat)) e) else if (0 ≤ l ∧ l = h ∧ h ≤ len) then some (.dslice [] 0 none) else none) else none
        | some _ => none
      | _, _ => none
    | _ => none
  | .ssub x lo hi => match ev x with
    | .str s => match optE ev 0 lo, optE ev s.size hi with
      | some l, some h => if (0 ≤ l ∧ l ≤ h ∧ h ≤ s.size) then some (.str (s.extract l.toNat h.toNat)) else none
      | _, _ => none
    | _ => none
theorem VOp.e_run {ev : AX → AV} {K : AV → Prop} {o : VOp} {v : AV} (h : o.e ev = some v) (hk : K v) : o.run ev K := by
  cases o <;> simp only [VOp.e, VOp.run] at h ⊢
  case field agg off n x =>
    generalize hevx : ev x = vx at h ⊢
    split at h
    · exact loadE_run h hk
    · cases h
  case idx agg e len x i =>
    generalize hevx : ev x = vx at h ⊢
    generalize hevi : ev i = vi at h ⊢
    split at h
    · split at h
      · exact ⟨‹_›, loadE_run h hk⟩
      · cases h
    · cases h
  case sidx x i =>
    generalize hevx : ev x = vx at h ⊢
    generalize hevi : ev i = vi at h ⊢
    split at h
    · split at h
      · cases h; exact ⟨‹_›, hk⟩
      · cases h
    · cases h
  case build zero parts =>
    split at h
    · rename_i cs hcs; cases h; exact buildE_run hcs hk
    · cases h
  case eqa neg ks x y =>
    generalize hevx : ev x = vx at h ⊢
    generalize hevy : ev y = vy at h ⊢
    split at h
    · split at h
      · rename_i r hr; cases h; exact eqCellsE_run hr hk
      · cases h
    · cases h
  case isnil p neg x y =>
    generalize hevx : ev x = vx at h ⊢
    generalize hevy : ev y = vy at h ⊢
    split at h <;> first | (cases h; exact hk) | cases h
  case sub e x lo hi mx =>
    generalize hevx : ev x = vx at h ⊢
    split at h
    · split at h
      · rename_i l hh h1 h2
        refine optE_run h1 (optE_run h2 ?_)
        split at h
        · split at h
          · cases h; exact ⟨‹_›, hk⟩
          · cases h
        · split at h
          · rename_i hm
            split at h
            · cases h; simp only [hm]; exact ⟨‹_›, hk⟩
            · cases h
          · cases h
      · cases h
    · split at h
      · rename_i l hh h1 h2
        refine optE_run h1 (optE_run h2 ?_)
        split at h
        · split at h
          · cases h; exact ⟨‹_›, hk⟩
          · cases h
        · cases h
      · cases h
    · split at h
      · rename_i l hh h1 h2
        refine optE_run h1 (optE_run h2 ?_)
        split at h
        · split at h
          · rename_i he
            refine ⟨he, ?_⟩
            split at h
            · cases h; exact .inl ⟨‹_›, hk⟩
            · split at h
              · cases h; exact .inr ⟨‹_›, hk⟩
              · cases h
          · cases h
        · cases h
      · cases h
    · cases h
  case ssub x lo hi =>
    generalize hevx : ev x = vx at h ⊢
    split at h
    · split at h
      · rename_i l hh h1 h2
        refine optE_run h1 (optE_run h2 ?_)
        split at h
        · cases h; exact ⟨‹_›, hk⟩
        · cases h
      · cases h
    · cases h
end Go.Eng

namespace Go.Eng
open Go

/-! #### The heap and the frame of a run -/
structure EH where
  nx : Nat
  bs : BT AB
def EH.get (T : EH) (k : Nat) : AB := match T.bs.get k with
  | some b => b
  | none => .dead
def EH.nil : EH := ⟨0, .nil⟩
def EH.put (T : EH) (k : Nat) (b : AB) : Option EH := bif b.isIt then none else (match BT.set b 40 T.bs k with
  | some bs => some ⟨T.nx, bs⟩
  | none => none)
def EH.push (T : EH) (b : AB) : Option EH := bif b.isIt then none else (match BT.set b 40 T.bs T.nx with
  | some bs => forceN (T.nx + 1) fun n => some ⟨n, bs⟩
  | none => none)
def AB.noit : AB → Prop
  | .iter _ _ _ => False
  | _ => True
theorem isIt_of {b : AB} (h : b.noit) : b.isIt = false := by cases b <;> first | rfl | exact h.elim
theorem noit_of {b : AB} (h : b.isIt = false) : b.noit := by cases b <;> first | trivial | cases h
structure RepH (T : EH) (H : Heap) : Prop where
  nx : H.nx = T.nx
  get : H.get = T.get
  noit : ∀ j, (H.get j).noit
theorem RepH.free {T : EH} {H : Heap} (R : RepH T H) (p n : Nat) : noIter T.get p n = true := noIter_of (fun j k l c e => by have := R.noit j; rw [R.get, e] at this; exact this) n
theorem RepH.nil : RepH EH.nil Heap.nil := ⟨rfl, rfl, fun _ => trivial⟩
theorem RepH.put {T T' : EH} {H : Heap} {k : Nat} {b : AB} (h : T.put k b = some T') (R : RepH T H) : RepH T' (H.set k b) := by
  unfold EH.put at h
  cases hb : b.isIt <;> simp only [hb, cond_true, cond_false, reduceCtorEq] at h
  split at h
  · rename_i bs hbs
    cases h
    refine ⟨R.nx, funext fun j => ?_, fun j => by rw [Heap.get_set]; split; exact noit_of hb; exact R.noit j⟩
    rw [Heap.get_set, R.get]
    simp only [EH.get, BT.get_set b hbs j]
    by_cases e : k = j <;> simp [e]
  · cases h
theorem RepH.push {T T' : EH} {H : Heap} {b : AB} (h : T.push b = some T') (R : RepH T H) : RepH T' (H.push b) := by
  unfold EH.push at h
  cases hb : b.isIt <;> simp only [hb, cond_true, cond_false, reduceCtorEq] at h
  split at h
  · rename_i bs hbs
    rw [forceN_eq] at h; cases h
    refine ⟨by simp [Heap.push, R.nx], funext fun j => ?_, fun j => by rw [Heap.get_push]; split; exact noit_of hb; exact R.noit j⟩
    rw [Heap.get_push, R.get, R.nx]
    simp only [EH.get, BT.get_set b hbs j]
    by_cases e : T.nx = j <;> simp [e]
  · cases h
structure RepF (F : BT AV) (fr : Fr) : Prop where
  get : ∀ t, look fr t = (F.get t).getD .any
def AX.eF (F : BT AV) : AX → AV
  | .t n => match F.get n with
    | some v => v
    | none => .any
  | .c v => v
theorem RepF.ev {F : BT AV} {fr : Fr} (R : RepF F fr) : AX.ev fr = AX.eF F := by
  funext x
  cases x with
  | t n => simp only [AX.ev, AX.eF, R.get]; cases F.get n <;> rfl
  | c v => rfl
def putE (F : BT AV) (d : Option Nat) (v : AV) : Option (BT AV) := match d with
  | none => some F
  | some t => fvE v fun v => BT.set v 24 F t
theorem RepF.put {F F' : BT AV} {fr : Fr} {d : Option Nat} {v : AV} (h : putE F d v = some F') (R : RepF F fr) : RepF F' (put fr d v) := by
  cases d with
  | none => simp only [putE, Option.some.injEq] at h; subst h; exact R
  | some t =>
    simp only [putE, fvE_eq] at h
    refine ⟨fun u => ?_⟩
    rw [BT.get_set v h u]
    simp only [Eng.put, look]
    by_cases e : t = u
    · subst e; simp
    · rw [beq_false e, if_neg e]; exact R.get u
theorem RepF.know {F : BT AV} {fr : Fr} {s : Nat} {b : Bool} (R : RepF F fr) (h : look fr s = .bool b) : RepF F ((s, .bool b) :: fr) :=
  ⟨fun u => by
    simp only [look]
    by_cases e : s = u
    · subst e; rw [← R.get, h]; simp
    · rw [beq_false e]; exact R.get u⟩

/-! #### Operations on the heap -/
def HOp.e (ev : AX → AV) (T : EH) : HOp → Option (AV × EH)
  | .load agg n x => match ev x with
    | .dptr cs => match loadE agg n cs with
      | some v => some (v, T)
      | none => none
    | .ptr k off => match T.get k with
      | .cells cs => match loadE agg n (cs.drop off) with
        | some v => some (v, T)
        | none => none
      | _ => none
    | _ => none
  | .alloc zero => match T.push (.cells zero) with
    | some T' => some (.ptr T.nx 0, T')
    | none => none
  | .box x => match cellsOf (ev x) with
    | some l => match T.push (.cells l) with
      | some T' => some (.ptr T.nx 0, T')
      | none => none
    | none => none
  | .store n p x => match ev p with
    | .ptr k off => match T.get k with
      | .cells cs => match cellsOf (ev x) with
        | some l => bif Nat.beq l.length n then (match lputE cs off l with
          | some cs' => match T.put k (.cells cs') with
            | some T' => some (.any, T')
            | none => none
          | none => none) else none
        | none => none
      | _ => none
    | _ => none
theorem HOp.e_run {ev : AX → AV} {T T' : EH} {H : Heap} {o : HOp} {v : AV} (h : o.e ev T = some (v, T')) (R : RepH T H) : ∃ H', RepH T' H' ∧ ∀ K : AV → Heap → Prop, K v H' → o.run ev H K := by
  cases o <;> simp only [HOp.e, HOp.run, R.get, pushK_eq, setK_eq] at h ⊢
  case load agg n x =>
    generalize ev x = vx at h ⊢
    split at h
    · split at h
      · rename_i u hu; cases h; exact ⟨H, R, fun K hk => loadE_run hu hk⟩
      · cases h
    · split at h
      · rename_i cs hcs
        split at h
        · rename_i u hu; cases h; refine ⟨H, R, fun K hk => ?_⟩
          simp only [hcs]; exact loadE_run hu hk
        · cases h
      · cases h
    · cases h
  case alloc zero =>
    split at h
    · rename_i T2 hT; cases h
      exact ⟨_, R.push hT, fun K hk => by rw [R.nx]; exact hk⟩
    · cases h
  case box x =>
    split at h
    · rename_i l hl
      split at h
      · rename_i T2 hT; cases h
        exact ⟨_, R.push hT, fun K hk => by simp only [hl]; rw [R.nx]; exact hk⟩
      · cases h
    · cases h
  case store n p x =>
    generalize ev p = vp at h ⊢
    split at h
    · split at h
      · rename_i cs hcs
        split at h
        · rename_i l hl
          cases hb : Nat.beq l.length n <;> simp only [hb, cond_true, cond_false] at h
          · cases h
          · split at h
            · rename_i cs' hp
              split at h
              · rename_i T2 hT; cases h
                exact ⟨_, R.put hT, fun K hk => by simp only [hcs, hl, hb, cond_true]; exact lputE_run hp hk⟩
              · cases h
            · cases h
        · cases h
      · cases h
    · cases h

def mapE0 (η : Nat → AB) (m : AV) : Option (Option Nat × List (AV × AV)) := match m with
  | .nilm => some (none, [])
  | .map p => match η p with
    | .map es => some (some p, es)
    | _ => none
  | _ => none
theorem mapE0_run {η : Nat → AB} {m : AV} {p : Option Nat} {es : List (AV × AV)} {K : Option Nat → List (AV × AV) → Prop} (h : mapE0 η m = some (p, es)) (hk : K p es) : mapN η m K := by
  unfold mapE0 at h; unfold mapN
  split at h
  · cases h; exact hk
  · split at h
    · rename_i hes; cases h; simp only [hes]; exact hk
    · cases h
  · cases h
def MOp.e (ev : AX → AV) (T : EH) : MOp → Option (AV × EH)
  | .mk => match T.push (.map []) with
    | some T' => some (.map T.nx, T')
    | none => none
  | .get ok kk zero m k => match mapE0 T.get (ev m) with
    | some (_, es) => bif keyOk kk (ev k) then (match mfind kk (ev k) es with
      | some r => some (mval ok zero r, T)
      | none => none) else none
    | none => none
  | .set kk m k v => match mapE0 T.get (ev m) with
    | some (some p, es) => bif keyOk kk (ev k) && noLoc (ev v) then (fvE (ev v) fun v => match mput kk (ev k) v es with
      | some es' => match T.put p (.map es') with
        | some T' => some (.any, T')
        | none => none
      | none => none) else none
    | _ => none
  | .del kk m k => match mapE0 T.get (ev m) with
    | some (some p, es) => bif keyOk kk (ev k) then (match mdel kk (ev k) es with
      | some es' => match T.put p (.map es') with
        | some T' => some (.tuple [], T')
        | none => none
      | none => none) else none
    | _ => none
  | .len m => match mapE0 T.get (ev m) with
    | some (_, es) => some (.int .i64 es.length, T)
    | none => none
  | .range _ => none
  | .next _ => none
  | .entry _ => none
theorem MOp.e_run {ev : AX → AV} {T T' : EH} {H : Heap} {o : MOp} {v : AV} (h : o.e ev T = some (v, T')) (R : RepH T H) : ∃ H', RepH T' H' ∧ ∀ K : AV → Heap → Prop, K v H' → o.run ev H K := by
  cases o <;> simp only [MOp.e, MOp.run, mkMapK_eq, mapK, setK_eq, R.get, fvE_eq, R.free, Bool.and_true] at h ⊢
  case mk =>
    split at h
    · rename_i T2 hT; cases h
      exact ⟨_, R.push hT, fun K hk => by rw [R.nx]; exact hk⟩
    · cases h
  case get ok kk zero m k =>
    split at h
    · rename_i p es hm
      cases hb : keyOk kk (ev k) <;> simp only [hb, cond_true, cond_false] at h
      · cases h
      · split at h
        · rename_i r hr; cases h
          exact ⟨H, R, fun K hk => mapE0_run hm (by simp only [cond_true]; exact ⟨r, hr, hk⟩)⟩
        · cases h
    · cases h
  case set kk m k x =>
    split at h
    · rename_i p es hm
      cases hb : (keyOk kk (ev k) && noLoc (ev x)) <;> simp only [hb, cond_true, cond_false] at h
      · cases h
      · split at h
        · rename_i es' hr
          split at h
          · rename_i T2 hT; cases h
            exact ⟨_, R.put hT, fun K hk => mapE0_run hm (by simp only [cond_true]; exact ⟨es', hr, hk⟩)⟩
          · cases h
        · cases h
    · cases h
  case del kk m k =>
    split at h
    · rename_i p es hm
      cases hb : keyOk kk (ev k) <;> simp only [hb, cond_true, cond_false] at h
      · cases h
      · split at h
        · rename_i es' hr
          split at h
          · rename_i T2 hT; cases h
            exact ⟨_, R.put hT, fun K hk => mapE0_run hm (by simp only [cond_true]; exact ⟨es', hr, hk⟩)⟩
          · cases h
        · cases h
    · cases h
  case range m => cases h
  case next m => cases h
  case entry m => cases h
  case len m =>
    split at h
    · rename_i p es hm; cases h
      exact ⟨H, R, fun K hk => mapE0_run hm hk⟩
    · cases h

def srcE (η : Nat → AB) (e : Nat) (x : AV) : Option (List AV × Nat) := match x with
  | .dslice cs n _ => if n * e ≤ cs.length then some (cs.take (n * e), n) else none
  | .nils => some ([], 0)
  | .slice k off n _ _ => match η k with
    | .cells cs => if off + n * e ≤ cs.length then some ((cs.drop off).take (n * e), n) else none
    | _ => none
  | _ => none
theorem srcE_run {η : Nat → AB} {e n : Nat} {x : AV} {l : List AV} {K : List AV → Nat → Prop} (h : srcE η e x = some (l, n)) (hk : K l n) : srcK η e x K := by
  unfold srcE at h; unfold srcK
  split at h
  · split at h
    · cases h; exact ⟨‹_›, hk⟩
    · cases h
  · cases h; exact hk
  · split at h
    · split at h
      · rename_i hcs _; cases h; simp only [hcs]; exact ⟨‹_›, hk⟩
      · cases h
    · cases h
  · cases h
instance (n bytes : Nat) : Decidable (fits n bytes) := by unfold fits; infer_instance
theorem all_scal {l : List AV} (h : l.all scal = true) : ∀ c ∈ l, scal c = true := by simpa using h
def DOp.e (ev : AX → AV) (η : Nat → AB) : DOp → Option AV
  | .bslice e len zero parts => match buildE ev (parts.map fun x => (x.1, e, x.2)) (rep zero len) with
    | some cs => bif noLocB cs then some (.dslice cs len (some len)) else none
    | none => none
  | .append e bytes s x => match ev s, ev x with
    | .dslice cs len cap, .dslice ds n _ => if cap = some len ∧ len * e ≤ cs.length ∧ n * e ≤ ds.length ∧ fits (len + n) bytes ∧ (ds.take (n * e)).all scal = true then some (.dslice (cs.take (len * e) ++ ds.take (n * e)) (len + n) none) else none
    | .dslice cs len cap, .nils => if cap = some len then some (.dslice cs len none) else none
    | .nils, .dslice ds n _ => if n * e ≤ ds.length ∧ fits n bytes ∧ (ds.take (n * e)).all scal = true then some (.dslice (ds.take (n * e)) n none) else none
    | _, _ => none
  | .asub e n x lo hi => match ev x with
    | .ptr k off => match η k with
      | .cells cs => match optE ev 0 lo, optE ev n hi with
        | some l, some h => if 0 ≤ l ∧ l < n ∧ l ≤ h ∧ h ≤ n ∧ off + n * e ≤ cs.length then some (.slice k (off + l.toNat * e) (h - l).toNat (some (n - l.toNat)) e) else none
        | _, _ => none
      | _ => none
    | .dptr cs => match optE ev 0 lo, optE ev n hi with
      | some l, some h => if 0 ≤ l ∧ l ≤ h ∧ h ≤ n then some (.dslice ((cs.drop (l.toNat * e)).take ((h - l).toNat * e)) (h - l).toNat (some (n - l.toNat))) else none
      | _, _ => none
    | _ => none
theorem DOp.e_run {ev : AX → AV} {η : Nat → AB} {o : DOp} {v : AV} {K : AV → Prop} (h : o.e ev η = some v) (hk : K v) : o.run ev η K := by
  cases o <;> simp only [DOp.e, DOp.run] at h ⊢
  case bslice e len zero parts =>
    split at h
    · rename_i cs hcs
      cases hb : noLocB cs <;> simp only [hb, cond_true, cond_false] at h
      · cases h
      · cases h; exact buildE_run hcs (by simp only [hb, cond_true]; exact hk)
    · cases h
  case append e bytes s x =>
    generalize ev s = vs at h ⊢
    generalize ev x = vx at h ⊢
    split at h
    · split at h
      · rename_i hp; cases h; exact ⟨⟨hp.1, hp.2.1, hp.2.2.1, hp.2.2.2.1, all_scal hp.2.2.2.2⟩, hk⟩
      · cases h
    · split at h
      · cases h; exact ⟨‹_›, hk⟩
      · cases h
    · split at h
      · rename_i hp; cases h; exact ⟨⟨hp.1, hp.2.1, all_scal hp.2.2⟩, hk⟩
      · cases h
    · cases h
  case asub e n x lo hi =>
    generalize hev : ev x = vx at h ⊢
    split at h
    · split at h
      · rename_i cs hcs
        split at h
        · rename_i l hh h1 h2
          split at h
          · cases h; simp only [hcs]; exact optE_run h1 (optE_run h2 ⟨‹_›, hk⟩)
          · cases h
        · cases h
      · cases h
    · split at h
      · rename_i l hh h1 h2
        split at h
        · cases h; exact optE_run h1 (optE_run h2 ⟨‹_›, hk⟩)
        · cases h
      · cases h
    · cases h

def LOp.e (ev : AX → AV) (cur : Nat → AB) (p : Nat) : LOp → Option (AV × AB × Option Nat)
  | .bslice e len zero parts => match buildE ev (parts.map fun x => (x.1, e, x.2)) (rep zero len) with
    | some cs => some (.slice p 0 len (some len) e, .cells cs, none)
    | none => none
  | .append e bytes s x => match srcE cur e (ev x) with
    | some (ds, n) => match ev s with
      | .slice k off len _ e' => match cur k with
        | .cells cs => if e' = e ∧ off = 0 ∧ cs.length = len * e ∧ fits (len + n) bytes ∧ ds.all scal = true then some (.slice p 0 (len + n) none e, .cells (cs ++ ds), some k) else none
        | _ => none
      | .dslice cs len cap => bif Nat.beq n 0 then some (.dslice cs len cap, .dead, none) else if cap = some len ∧ len * e ≤ cs.length ∧ fits (len + n) bytes ∧ ds.all scal = true then some (.slice p 0 (len + n) none e, .cells (cs.take (len * e) ++ ds), none) else none
      | .nils => bif Nat.beq n 0 then some (.nils, .dead, none) else if fits n bytes ∧ ds.all scal = true then some (.slice p 0 n none e, .cells ds, none) else none
      | _ => none
    | none => none
theorem LOp.e_run {ev : AX → AV} {cur : Nat → AB} {p : Nat} {o : LOp} {v : AV} {ab : AB} {kl : Option Nat} {K : AV → AB → Option Nat → Prop} (h : o.e ev cur p = some (v, ab, kl)) (hk : K v ab kl) : o.run ev cur cur p K := by
  cases o <;> simp only [LOp.e, LOp.run] at h ⊢
  case bslice e len zero parts =>
    split at h
    · rename_i cs hcs; cases h; exact buildE_run hcs hk
    · cases h
  case append e bytes s x =>
    split at h
    · rename_i ds n hsrc
      generalize ev s = vs at h ⊢
      unfold appN
      split at h
      · split at h
        · rename_i cs hcs
          split at h
          · rename_i hp; cases h
            simp only [appK, hcs]
            exact srcE_run hsrc ⟨⟨hp.1, hp.2.1, hp.2.2.1, hp.2.2.2.1, all_scal hp.2.2.2.2⟩, hk⟩
          · cases h
        · cases h
      · cases hb : Nat.beq n 0 <;> simp only [hb, cond_true, cond_false] at h
        · split at h
          · rename_i hp; cases h
            exact srcE_run hsrc (Branch.ofF (decide_eq_false (fun e => by subst e; cases hb)) ⟨⟨hp.1, hp.2.1, hp.2.2.1, all_scal hp.2.2.2⟩, hk⟩)
          · cases h
        · cases h
          exact srcE_run hsrc (Branch.ofT (decide_eq_true (Nat.eq_of_beq_eq_true hb)) hk)
      · cases hb : Nat.beq n 0 <;> simp only [hb, cond_true, cond_false] at h
        · split at h
          · rename_i hp; cases h
            exact srcE_run hsrc (Branch.ofF (decide_eq_false (fun e => by subst e; cases hb)) ⟨⟨hp.1, all_scal hp.2⟩, hk⟩)
          · cases h
        · cases h
          exact srcE_run hsrc (Branch.ofT (decide_eq_true (Nat.eq_of_beq_eq_true hb)) hk)
      · cases h
    · cases h
end Go.Eng

namespace Go.Eng
open Go

/-! #### Calls, guards, regions, code -/
abbrev CallE := FuncId → List AV → EH → Option (AV × EH)
structure CallOK (P : Program) (call : CallE) : Prop where
  ok : ∀ f vs T r T', call f vs T = some (r, T') → ∀ H, RepH T H → ∃ H', RepH T' H' ∧ ∀ K : AV → Heap → Prop, K r H' → CallA P f vs H K
def callD (call : CallE) (f : FuncId) (vs : List AV) : Option AV := match call f vs EH.nil with
  | some (r, T) => match pubE T.get 8 r with
    | some r' => bif noLocL vs && noLoc r' then some r' else none
    | none => none
  | none => none
theorem callD_run {P : Program} {call : CallE} (hc : CallOK P call) {f : FuncId} {vs : List AV} {r : AV} (h : callD call f vs = some r) {K : AV → Prop} (hk : K r) : QCallA P f vs K := by
  unfold callD at h
  split at h
  · rename_i r' T' hcall
    split at h
    · rename_i r2 hp
      cases hb : (noLocL vs && noLoc r2) <;> simp only [hb, cond_true, cond_false] at h
      · cases h
      · cases h
        simp only [Bool.and_eq_true] at hb
        obtain ⟨H', R', hK⟩ := hc.ok _ _ _ _ _ hcall _ RepH.nil
        refine QCallA.of (CallA.out 8 (hK (fun v H => v = r' ∧ H = H') ⟨rfl, rfl⟩) ?_) hb.1 hb.2 hk
        rintro v H ⟨rfl, rfl⟩
        exact ⟨_, by rw [R'.get]; exact hp, rfl, rfl⟩
    · cases h
  · cases h

section
variable (call : CallE)
def AOp.e (F : BT AV) (T : EH) : AOp → Option (AV × EH)
  | .m o => o.e (AX.eF F) T
  | .p o => match o.e (AX.eF F) with
    | some u => some (u, T)
    | none => none
  | .v o => match o.e (AX.eF F) with
    | some u => some (u, T)
    | none => none
  | .h o => o.e (AX.eF F) T
  | .d o => match o.e (AX.eF F) T.get with
    | some u => some (u, T)
    | none => none
  | .l o => match o.e (AX.eF F) T.get T.nx with
    | some (u, ab, kl) => forceN (T.nx + 1) fun n => match kl with
      | none => match EH.put ⟨n, T.bs⟩ T.nx ab with
        | some T' => some (u, T')
        | none => none
      | some k => match EH.put ⟨n, T.bs⟩ k .dead with
        | some T1 => match T1.put T.nx ab with
          | some T' => some (u, T')
          | none => none
        | none => none
    | none => none
  | .call f args => call f (mapE (AX.eF F) args) T
  | .callv x args => match x.eF F with
    | .func f caps => call f (mapE (AX.eF F) args ++ caps) T
    | _ => none
def AO.e (o : AO) (F : BT AV) (T : EH) : Option (BT AV × EH) := match o.guard with
  | none => match o.op.e call F T with
    | some (v, T') => match putE F o.dst v with
      | some F' => some (F', T')
      | none => none
    | none => none
  | some (s, want) => match AX.eF F (.t s) with
    | .bool b => bif b == want then (match o.op.e call F T with
      | some (v, T') => match putE F o.dst v with
        | some F' => some (F', T')
        | none => none
      | none => none) else (match putE F o.dst (.tuple []) with
      | some F' => some (F', T)
      | none => none)
    | .tuple [] => match putE F o.dst (.tuple []) with
      | some F' => some (F', T)
      | none => none
    | _ => none
def opsE : List AO → BT AV → EH → Option (BT AV × EH)
  | [], F, T => some (F, T)
  | o :: r, F, T => match o.e call F T with
    | some (F', T') => opsE r F' T'
    | none => none

def HOp.qe (ev : AX → AV) (η : Nat → AB) (p : Nat) : HOp → Option (AV × Ef)
  | .load agg n x => match ev x with
    | .dptr cs => match loadE agg n cs with
      | some v => some (v, [])
      | none => none
    | .ptr k off => match η k with
      | .cells cs => match loadE agg n (cs.drop off) with
        | some v => some (v, [])
        | none => none
      | _ => none
    | _ => none
  | .alloc zero => some (.ptr p 0, [(p, .cells zero)])
  | .box x => match cellsOf (ev x) with
    | some cs => some (.ptr p 0, [(p, .cells cs)])
    | none => none
  | .store n q x => match ev q with
    | .ptr k off => match η k with
      | .cells cs => match cellsOf (ev x) with
        | some vs => bif Nat.beq vs.length n then (match lputE cs off vs with
          | some cs' => some (.any, [(k, .cells cs')])
          | none => none) else none
        | none => none
      | _ => none
    | _ => none
def MOp.qe (ev : AX → AV) (η : Nat → AB) : MOp → Option (AV × Ef)
  | .mk => none
  | .get ok kk zero m k => match mapE0 η (ev m) with
    | some (_, es) => bif keyOk kk (ev k) then (match mfind kk (ev k) es with
      | some r => some (mval ok zero r, [])
      | none => none) else none
    | none => none
  | .set kk m k v => match mapE0 η (ev m) with
    | some (some p, es) => bif keyOk kk (ev k) && noLoc (ev v) then (match mput kk (ev k) (ev v) es with
      | some es' => some (.any, [(p, .map es')])
      | none => none) else none
    | _ => none
  | .del kk m k => match mapE0 η (ev m) with
    | some (some p, es) => bif keyOk kk (ev k) then (match mdel kk (ev k) es with
      | some es' => some (.tuple [], [(p, .map es')])
      | none => none) else none
    | _ => none
  | .range _ => none
  | .next _ => none
  | .entry _ => none
  | .len m => match mapE0 η (ev m) with
    | some (_, es) => some (.int .i64 es.length, [])
    | none => none
def AOp.qe (ev : AX → AV) (η : Nat → AB) (p : Nat) : AOp → Option (AV × Ef)
  | .m o => o.qe ev η
  | .p o => match o.e ev with
    | some u => some (u, [])
    | none => none
  | .v o => match o.e ev with
    | some u => some (u, [])
    | none => none
  | .h o => o.qe ev η p
  | .d o => match o.e ev η with
    | some u => some (u, [])
    | none => none
  | .l o => match o.e ev η p with
    | some (u, cs, kl) => some (u, efL p cs kl)
    | none => none
  | .call f args => match callD call f (mapE ev args) with
    | some r => some (r, [])
    | none => none
  | .callv x args => match ev x with
    | .func f caps => match callD call f (mapE ev args ++ caps) with
      | some r => some (r, [])
      | none => none
    | _ => none
def layE (T : EH) : Ef → Option EH
  | [] => some T
  | (k, x) :: r => match T.put k x with
    | some T' => layE T' r
    | none => none
def logE (dep : List (Nat × Nat)) (i : Nat) (F W : List Nat) (L : List En) : Option (List En) := match F, W with
  | [], [] => some L
  | F, W => bif okLog dep ⟨i, F, W⟩ L then some (⟨i, F, W⟩ :: L) else none
def qwalkE (dep : List (Nat × Nat)) : List AO → Nat → Nat → List En → BT AV → EH → Option (BT AV × EH)
  | [], _, _, _, F, T => some (F, T)
  | q :: r, i, p, L, F, T => match (match q.guard with
      | none => some true
      | some (s, want) => match AX.eF F (.t s) with
        | .bool b => some (b == want)
        | .tuple [] => some false
        | _ => none) with
    | some true => match q.op.qe call (AX.eF F) T.get p with
      | some (v, b) => match logE dep i (q.op.foot (AX.eF F)) (keys b) L with
        | some L' => match putE F q.dst v with
          | some F' => match layE T b with
            | some T' => forceN (i + 1) fun i' => forceN (p + 1) fun p' => qwalkE dep r i' p' L' F' T'
            | none => none
          | none => none
        | none => none
      | none => none
    | some false => match putE F q.dst (.tuple []) with
      | some F' => forceN (i + 1) fun i' => forceN (p + 1) fun p' => qwalkE dep r i' p' L F' T
      | none => none
    | none => none

def loopE (step : BT AV → EH → Option (XA × BT AV × EH)) : Nat → BT AV → EH → Option (XA × BT AV × EH)
  | 0, _, _ => none
  | k + 1, F, T => match step F T with
    | some (.normal, F', T') => loopE step k F' T'
    | r => r
def AC.e (lf : Nat) : AC → BT AV → EH → Option (XA × BT AV × EH)
  | .skip, F, T => some (.normal, F, T)
  | .ret, F, T => some (.ret, F, T)
  | .exit id, F, T => some (.exit id, F, T)
  | .reg ops, F, T => match opsE call ops F T with
    | some (F', T') => some (.normal, F', T')
    | none => none
  | .draw m dep ops, F, T => forceN (T.nx + m) fun n => match qwalkE call dep (ops.take m) 0 T.nx [] F ⟨n, T.bs⟩ with
    | some (F', T') => match opsE call (ops.drop m) F' T' with
      | some (F'', T'') => some (.normal, F'', T'')
      | none => none
    | none => none
  | .seq a b, F, T => match a.e lf F T with
    | some (.normal, F', T') => b.e lf F' T'
    | r => r
  | .cond c a b, F, T => match c.eF F with
    | .bool t => match t with
      | true => a.e lf F T
      | false => b.e lf F T
    | _ => none
  | .block id a, F, T => match a.e lf F T with
    | some (.exit j, F', T') => bif Nat.beq j id then some (.normal, F', T') else some (.exit j, F', T')
    | r => r
  | .loop a, F, T => loopE (fun F T => a.e lf F T) lf F T
  | .ghost a, F, T => a.e lf F T
def resE (F : BT AV) (T : EH) : List AR → Option (List AV)
  | [] => some []
  | .tmp t :: r => match resE F T r with
    | some vs => some (AX.eF F (.t t) :: vs)
    | none => none
  | .cell t agg n :: r => match AX.eF F (.t t) with
    | .ptr k off => match T.get k with
      | .cells cs => match loadE agg n (cs.drop off) with
        | some v => match resE F T r with
          | some vs => some (v :: vs)
          | none => none
        | none => none
      | _ => none
    | _ => none
def frameE : Nat → List AV → Option (BT AV)
  | _, [] => some .nil
  | i, v :: r => match frameE (i + 1) r with
    | some F => putE F (some i) v
    | none => none
end

/-- A function's text, by number. -/
structure FE where
  f : FuncId
  N : Nat
  ac : AC
  rs : List AR
def findE : List FE → FuncId → Option FE
  | [], _ => none
  | e :: r, f => bif Nat.beq e.f f then some e else findE r f
def runE (tbl : List FE) (lf : Nat) : Nat → CallE
  | 0, _, _, _ => none
  | n + 1, f, vs, T => match findE tbl f with
    | some e => bif Nat.ble vs.length e.N then (match frameE 0 vs with
      | some F => match e.ac.e (runE tbl lf n) lf F T with
        | some (.exit _, _, _) => none
        | some (_, F', T') => match resE F' T' e.rs with
          | some rs => some (one rs, T')
          | none => none
        | none => none
      | none => none) else none
    | none => none

/-! #### Soundness -/
section
variable {P : Program} {call : CallE}
theorem AOp.e_run (hc : CallOK P call) {F : BT AV} {fr : Fr} {T T' : EH} {H : Heap} {o : AOp} {v : AV} (h : o.e call F T = some (v, T')) (RF : RepF F fr) (R : RepH T H) : ∃ H', RepH T' H' ∧ ∀ K : AV → Heap → Prop, K v H' → o.run P fr H K := by
  cases o <;> simp only [AOp.e, AOp.run, newK0_eq, RF.ev, fvs_eq, mapE_eq] at h ⊢
  case m o => exact MOp.e_run h R
  case p o =>
    split at h
    · rename_i u hu; cases h; exact ⟨H, R, fun K hk => o.e_run hu hk⟩
    · cases h
  case v o =>
    split at h
    · rename_i u hu; cases h; exact ⟨H, R, fun K hk => o.e_run hu hk⟩
    · cases h
  case h o => exact HOp.e_run h R
  case d o =>
    split at h
    · rename_i u hu; cases h; exact ⟨H, R, fun K hk => by rw [R.get]; exact o.e_run hu hk⟩
    · cases h
  case l o =>
    split at h
    · rename_i u ab kl hu
      rw [forceN_eq] at h
      have R1 : RepH ⟨T.nx + 1, T.bs⟩ ⟨H.nx + 1, H.bs⟩ := ⟨by simp [R.nx], R.get, R.noit⟩
      split at h
      · split at h
        · rename_i T2 hp; cases h
          refine ⟨_, R1.put hp, fun K hk => ?_⟩
          rw [R.get, R.nx]
          refine LOp.e_run hu ?_
          rw [← R.nx] at hk ⊢; exact hk
        · cases h
      · split at h
        · rename_i T1 h1
          split at h
          · rename_i T2 h2; cases h
            refine ⟨_, (R1.put h1).put h2, fun K hk => ?_⟩
            rw [R.get, R.nx]
            refine LOp.e_run hu ?_
            rw [← R.nx] at hk ⊢; exact hk
          · cases h
        · cases h
    · cases h
  case call f args =>
    obtain ⟨H', R', hK⟩ := hc.ok _ _ _ _ _ h H R
    exact ⟨H', R', hK⟩
  case callv x args =>
    rw [← RF.ev] at h
    rw [← RF.ev]
    generalize AX.ev fr x = vx at h ⊢
    split at h
    · obtain ⟨H', R', hK⟩ := hc.ok _ _ _ _ _ h H R
      exact ⟨H', R', hK⟩
    · cases h
theorem AX.eF_look {F : BT AV} {fr : Fr} (RF : RepF F fr) (s : Nat) : AX.eF F (.t s) = look fr s := by
  have := congrFun RF.ev (.t s); exact this.symm
theorem AO.e_run (hc : CallOK P call) {F F' : BT AV} {fr : Fr} {T T' : EH} {H : Heap} {o : AO} (h : o.e call F T = some (F', T')) (RF : RepF F fr) (R : RepH T H) :
    ∃ fr' H', RepF F' fr' ∧ RepH T' H' ∧ ∀ K : Fr → Heap → Prop, K fr' H' → o.run P fr H K := by
  unfold AO.e at h; unfold AO.run
  simp only [putK_eq]
  split at h
  · rename_i hg
    split at h
    · rename_i v T1 hv
      split at h
      · rename_i F1 hF; cases h
        obtain ⟨H', R', hK⟩ := AOp.e_run hc hv RF R
        exact ⟨_, H', RF.put hF, R', fun K hk => by simp only [hg]; exact hK _ hk⟩
      · cases h
    · cases h
  · rename_i s want hg
    rw [AX.eF_look RF] at h
    split at h
    · rename_i b hb
      cases hw : b == want <;> simp only [hw, cond_true, cond_false] at h
      · split at h
        · rename_i F1 hF; cases h
          refine ⟨_, H, (RF.know hb).put hF, R, fun K hk => ?_⟩
          simp only [hg, hb]
          cases b <;> cases want <;> first | (cases hw; done) | exact Branch.ofT rfl hk | exact Branch.ofF rfl hk
        · cases h
      · split at h
        · rename_i v T1 hv
          split at h
          · rename_i F1 hF; cases h
            obtain ⟨H', R', hK⟩ := AOp.e_run hc hv (RF.know hb) R
            refine ⟨_, H', (RF.know hb).put hF, R', fun K hk => ?_⟩
            simp only [hg, hb]
            cases b <;> cases want <;> first | (cases hw; done) | exact Branch.ofT rfl (hK _ hk) | exact Branch.ofF rfl (hK _ hk)
          · cases h
        · cases h
    · rename_i hb
      split at h
      · rename_i F1 hF; cases h
        exact ⟨_, H, RF.put hF, R, fun K hk => by simp only [hg, hb]; exact hk⟩
      · cases h
    · cases h
theorem opsE_run (hc : CallOK P call) : ∀ {l : List AO} {F F' : BT AV} {fr : Fr} {T T' : EH} {H : Heap}, opsE call l F T = some (F', T') → RepF F fr → RepH T H →
    ∃ fr' H', RepF F' fr' ∧ RepH T' H' ∧ ∀ K : Fr → Heap → Prop, K fr' H' → runOps P K l fr H
  | [], F, F', fr, T, T', H, h, RF, R => by
    simp only [opsE] at h; cases h; exact ⟨fr, H, RF, R, fun K hk => hk⟩
  | o :: r, F, F', fr, T, T', H, h, RF, R => by
    simp only [opsE] at h
    split at h
    · rename_i F1 T1 h1
      obtain ⟨fr1, H1, RF1, R1, hK1⟩ := AO.e_run hc h1 RF R
      obtain ⟨fr2, H2, RF2, R2, hK2⟩ := opsE_run hc h RF1 R1
      exact ⟨fr2, H2, RF2, R2, fun K hk => hK1 _ (hK2 K hk)⟩
    · cases h
theorem HOp.qe_run {ev : AX → AV} {η : Nat → AB} {p : Nat} {o : HOp} {v : AV} {b : Ef} (h : o.qe ev η p = some (v, b)) {K : AV → Ef → Prop} (hk : K v b) : o.q ev η p K := by
  cases o <;> simp only [HOp.qe, HOp.q] at h ⊢
  case load agg n x =>
    generalize ev x = vx at h ⊢
    split at h
    · split at h
      · rename_i u hu; cases h; exact loadE_run hu hk
      · cases h
    · split at h
      · rename_i cs hcs
        split at h
        · rename_i u hu; cases h
          simp only [hcs]; exact loadE_run hu hk
        · cases h
      · cases h
    · cases h
  case alloc zero => cases h; exact hk
  case box x =>
    split at h
    · rename_i l hl; cases h; simp only [hl]; exact hk
    · cases h
  case store n q x =>
    generalize ev q = vp at h ⊢
    split at h
    · split at h
      · rename_i cs hcs
        split at h
        · rename_i l hl
          cases hb : Nat.beq l.length n <;> simp only [hb, cond_true, cond_false] at h
          · cases h
          · split at h
            · rename_i cs' hp; cases h
              simp only [hcs, hl, hb, cond_true]; exact lputE_run hp hk
            · cases h
        · cases h
      · cases h
    · cases h
theorem MOp.qe_run {ev : AX → AV} {η : Nat → AB} {o : MOp} {v : AV} {b : Ef} (h : o.qe ev η = some (v, b)) {K : AV → Ef → Prop} (hk : K v b) : o.q ev η K := by
  cases o <;> simp only [MOp.qe, MOp.q] at h ⊢
  case mk => cases h
  case get ok kk zero m k =>
    split at h
    · rename_i p es hm
      cases hb : keyOk kk (ev k) <;> simp only [hb, cond_true, cond_false] at h
      · cases h
      · split at h
        · rename_i r hr; cases h
          exact mapE0_run hm (by simp only [cond_true]; exact ⟨r, hr, hk⟩)
        · cases h
    · cases h
  case set kk m k x =>
    split at h
    · rename_i p es hm
      cases hb : (keyOk kk (ev k) && noLoc (ev x)) <;> simp only [hb, cond_true, cond_false] at h
      · cases h
      · split at h
        · rename_i es' hr; cases h
          exact mapE0_run hm (by simp only [cond_true]; exact ⟨es', hr, hk⟩)
        · cases h
    · cases h
  case del kk m k =>
    split at h
    · rename_i p es hm
      cases hb : keyOk kk (ev k) <;> simp only [hb, cond_true, cond_false] at h
      · cases h
      · split at h
        · rename_i es' hr; cases h
          exact mapE0_run hm (by simp only [cond_true]; exact ⟨es', hr, hk⟩)
        · cases h
    · cases h
  case range m => cases h
  case next m => cases h
  case entry m => cases h
  case len m =>
    split at h
    · rename_i p es hm; cases h
      exact mapE0_run hm hk
    · cases h
theorem AOp.qe_run (hc : CallOK P call) {ev : AX → AV} {η : Nat → AB} {p : Nat} {o : AOp} {v : AV} {b : Ef} (h : o.qe call ev η p = some (v, b)) {K : AV → Ef → Prop} (hk : K v b) : o.q P ev η p K := by
  cases o <;> simp only [AOp.qe, AOp.q, fvs_eq, mapE_eq] at h ⊢
  case m o => exact MOp.qe_run h hk
  case p o =>
    split at h
    · rename_i u hu; cases h; exact o.e_run hu hk
    · cases h
  case v o =>
    split at h
    · rename_i u hu; cases h; exact o.e_run hu hk
    · cases h
  case h o => exact HOp.qe_run h hk
  case d o =>
    split at h
    · rename_i u hu; cases h; exact o.e_run hu hk
    · cases h
  case l o =>
    split at h
    · rename_i u cs kl hu; cases h; exact LOp.e_run hu hk
    · cases h
  case call f args =>
    split at h
    · rename_i r hr; cases h; exact callD_run hc hr hk
    · cases h
  case callv x args =>
    generalize ev x = vx at h ⊢
    split at h
    · split at h
      · rename_i r hr; cases h; exact callD_run hc hr hk
      · cases h
    · cases h
theorem layE_run : ∀ {b : Ef} {T T' : EH} {H : Heap}, layE T b = some T' → RepH T H → RepH T' (layH H b)
  | [], T, T', H, h, R => by simp only [layE] at h; cases h; exact R
  | (k, x) :: r, T, T', H, h, R => by
    simp only [layE] at h
    split at h
    · rename_i T1 h1; exact layE_run (H := H.set k x) h (R.put h1)
    · cases h
theorem logE_run {dep : List (Nat × Nat)} {i : Nat} {F W : List Nat} {L L' : List En} (h : logE dep i F W L = some L') {K : List En → Prop} (hk : K L') : logK dep i F W L K := by
  unfold logE at h; unfold logK
  split at h
  · cases h; exact hk
  · split
    · rename_i hn; exact absurd rfl (hn rfl)
    · cases hb : okLog dep ⟨i, F, W⟩ L <;> simp only [hb, cond_true, cond_false] at h ⊢
      · cases h
      · cases h; exact hk
theorem qwalkE_run (hc : CallOK P call) {dep : List (Nat × Nat)} : ∀ {l : List AO} {i p : Nat} {L : List En} {F F' : BT AV} {fr : Fr} {T T' : EH} {H : Heap}, qwalkE call dep l i p L F T = some (F', T') → RepF F fr → RepH T H →
    ∃ fr' H', RepF F' fr' ∧ RepH T' H' ∧ ∀ K : Fr → Heap → Prop, K fr' H' → qwalk P dep K l i p L fr H
  | [], i, p, L, F, F', fr, T, T', H, h, RF, R => by
    simp only [qwalkE] at h; cases h; exact ⟨fr, H, RF, R, fun K hk => hk⟩
  | q :: r, i, p, L, F, F', fr, T, T', H, h, RF, R => by
    simp only [qwalkE, AX.eF_look RF] at h
    -- an operation that is done
    have go : ∀ fr0, RepF F fr0 → (match q.op.qe call (AX.eF F) T.get p with
      | some (v, b) => match logE dep i (q.op.foot (AX.eF F)) (keys b) L with
        | some L' => match putE F q.dst v with
          | some F' => match layE T b with
            | some T' => forceN (i + 1) fun i' => forceN (p + 1) fun p' => qwalkE call dep r i' p' L' F' T'
            | none => none
          | none => none
        | none => none
      | none => none) = some (F', T') → ∃ fr' H', RepF F' fr' ∧ RepH T' H' ∧ ∀ K : Fr → Heap → Prop, K fr' H' →
        q.op.q P (AX.ev fr0) H.get p fun v b => logK dep i (q.op.foot (AX.ev fr0)) (keys b) L fun L => qwalk P dep K r (i + 1) (p + 1) L (put fr0 q.dst v) (layH H b) := by
      intro fr0 RF0 h
      split at h
      · rename_i v b hv
        split at h
        · rename_i L1 hL
          split at h
          · rename_i F1 hF
            split at h
            · rename_i T1 hT
              simp only [forceN_eq] at h
              obtain ⟨fr2, H2, RF2, R2, hK⟩ := qwalkE_run hc h (RF0.put hF) (layE_run hT R)
              refine ⟨fr2, H2, RF2, R2, fun K hk => ?_⟩
              rw [RF0.ev, R.get]
              exact AOp.qe_run hc hv (logE_run hL (hK K hk))
            · cases h
          · cases h
        · cases h
      · cases h
    have skip : ∀ fr0, RepF F fr0 → (match putE F q.dst (.tuple []) with
      | some F' => forceN (i + 1) fun i' => forceN (p + 1) fun p' => qwalkE call dep r i' p' L F' T
      | none => none) = some (F', T') → ∃ fr' H', RepF F' fr' ∧ RepH T' H' ∧ ∀ K : Fr → Heap → Prop, K fr' H' →
        qwalk P dep K r (i + 1) (p + 1) L (put fr0 q.dst (.tuple [])) H := by
      intro fr0 RF0 h
      split at h
      · rename_i F1 hF
        simp only [forceN_eq] at h
        exact qwalkE_run hc h (RF0.put hF) R
      · cases h
    simp only [qwalk_cons, qstep, layK_eq, putK_eq]
    cases hg : q.guard with
    | none =>
      simp only [hg] at h
      obtain ⟨fr', H', a, b, hK⟩ := go fr RF h
      exact ⟨fr', H', a, b, hK⟩
    | some sw =>
      obtain ⟨s, want⟩ := sw
      simp only [hg] at h
      cases hb : look fr s <;> simp only [hb] at h ⊢ <;> try (cases h; done)
      case bool b =>
        cases b <;> cases want <;> simp only [show (false == false) = true from rfl, show (true == true) = true from rfl, show (false == true) = false from rfl, show (true == false) = false from rfl] at h
        · obtain ⟨fr', H', a, b, hK⟩ := go _ (RF.know hb) h
          exact ⟨fr', H', a, b, fun K hk => Branch.ofF rfl (hK K hk)⟩
        · obtain ⟨fr', H', a, b, hK⟩ := skip _ (RF.know hb) h
          exact ⟨fr', H', a, b, fun K hk => Branch.ofF rfl (hK K hk)⟩
        · obtain ⟨fr', H', a, b, hK⟩ := skip _ (RF.know hb) h
          exact ⟨fr', H', a, b, fun K hk => Branch.ofT rfl (hK K hk)⟩
        · obtain ⟨fr', H', a, b, hK⟩ := go _ (RF.know hb) h
          exact ⟨fr', H', a, b, fun K hk => Branch.ofT rfl (hK K hk)⟩
      case tuple cs =>
        cases cs with
        | nil =>
          simp only at h ⊢
          obtain ⟨fr', H', a, b, hK⟩ := skip _ RF h
          exact ⟨fr', H', a, b, hK⟩
        | cons c cs => simp only at h; cases h
theorem loopE_run {n : Nat} {body : (XA → Fr → Heap → Prop) → Fr → Heap → Prop} {step : BT AV → EH → Option (XA × BT AV × EH)}
    (hs : ∀ F T x F' T', step F T = some (x, F', T') → ∀ fr H, RepF F fr → RepH T H → ∃ fr' H', RepF F' fr' ∧ RepH T' H' ∧ ∀ Q : XA → Fr → Heap → Prop, Q x fr' H' → body Q fr H) :
    ∀ (k : Nat) {F F' : BT AV} {fr : Fr} {T T' : EH} {H : Heap} {x : XA}, loopE step k F T = some (x, F', T') → RepF F fr → RepH T H →
      ∃ j fr' H', k = j + 1 ∧ RepF F' fr' ∧ RepH T' H' ∧ ∀ Q : XA → Fr → Heap → Prop, Q x fr' H' → body (lpost n Q j (LoopI n body Q j)) fr H
  | 0, _, _, _, _, _, _, _, h, _, _ => by simp [loopE] at h
  | k + 1, F, F', fr, T, T', H, x, h, RF, R => by
    simp only [loopE] at h
    split at h
    · rename_i F1 T1 h1
      obtain ⟨fr1, H1, RF1, R1, hK1⟩ := hs _ _ _ _ _ h1 fr H RF R
      obtain ⟨j, fr2, H2, rfl, RF2, R2, hK2⟩ := loopE_run (n := n) hs k h RF1 R1
      refine ⟨j + 1, fr2, H2, rfl, RF2, R2, fun Q hq => hK1 _ ?_⟩
      exact ⟨j, Nat.lt_succ_self _, To.refl (.inl ⟨rfl, hK2 Q hq⟩)⟩
    · rename_i hne
      obtain ⟨fr1, H1, RF1, R1, hK1⟩ := hs _ _ _ _ _ h fr H RF R
      refine ⟨k, fr1, H1, rfl, RF1, R1, fun Q hq => hK1 _ ?_⟩
      cases x with
      | normal => exact absurd h (hne _ _)
      | exit id => exact hq
      | ret => exact hq
theorem AC.e_run (hc : CallOK P call) {n lf : Nat} : ∀ (ac : AC) {F F' : BT AV} {fr : Fr} {T T' : EH} {H : Heap} {x : XA}, ac.e call lf F T = some (x, F', T') → RepF F fr → RepH T H →
    ∃ fr' H', RepF F' fr' ∧ RepH T' H' ∧ ∀ Q : XA → Fr → Heap → Prop, Q x fr' H' → ac.run P n Q fr H
  | .skip, _, _, fr, _, _, H, _, h, RF, R => by simp only [AC.e] at h; cases h; exact ⟨fr, H, RF, R, fun Q hq => hq⟩
  | .ret, _, _, fr, _, _, H, _, h, RF, R => by simp only [AC.e] at h; cases h; exact ⟨fr, H, RF, R, fun Q hq => hq⟩
  | .exit id, _, _, fr, _, _, H, _, h, RF, R => by simp only [AC.e] at h; cases h; exact ⟨fr, H, RF, R, fun Q hq => hq⟩
  | .reg ops, _, _, fr, _, _, H, _, h, RF, R => by
    simp only [AC.e] at h
    split at h
    · rename_i F1 T1 h1; cases h
      obtain ⟨fr1, H1, RF1, R1, hK⟩ := opsE_run hc h1 RF R
      exact ⟨fr1, H1, RF1, R1, fun Q hq => hK (Q .normal) hq⟩
    · cases h
  | .draw m dep ops, _, _, fr, T, _, H, _, h, RF, R => by
    simp only [AC.e, forceN_eq] at h
    split at h
    · rename_i F1 T1 h1
      split at h
      · rename_i F2 T2 h2; cases h
        obtain ⟨fr1, H1, RF1, R1, hK1⟩ := qwalkE_run hc h1 RF (H := ⟨H.nx + m, H.bs⟩) ⟨by simp [R.nx], R.get, R.noit⟩
        obtain ⟨fr2, H2, RF2, R2, hK2⟩ := opsE_run hc h2 RF1 R1
        refine ⟨fr2, H2, RF2, R2, fun Q hq => ?_⟩
        have := hK1 (fun fr H => runOps P (Q .normal) (ops.drop m) fr H) (hK2 _ hq)
        rw [← R.nx] at this
        have hsf : setFree (ops.take m) H.get H.nx = true := by
          rw [setFree, noIts_of (fun j => isIt_of (R.noit j))]; simp
        show (bif setFree (ops.take m) H.get H.nx then _ else False)
        rw [hsf]
        exact this
      · cases h
    · cases h
  | .seq a b, _, _, fr, _, _, H, x, h, RF, R => by
    simp only [AC.e] at h
    split at h
    · rename_i F1 T1 h1
      obtain ⟨fr1, H1, RF1, R1, hK1⟩ := AC.e_run hc a h1 RF R
      obtain ⟨fr2, H2, RF2, R2, hK2⟩ := AC.e_run hc b h RF1 R1
      exact ⟨fr2, H2, RF2, R2, fun Q hq => hK1 _ (hK2 Q hq)⟩
    · rename_i hne
      obtain ⟨fr1, H1, RF1, R1, hK1⟩ := AC.e_run hc a h RF R
      refine ⟨fr1, H1, RF1, R1, fun Q hq => hK1 _ ?_⟩
      cases x with
      | normal => exact absurd h (hne _ _)
      | exit id => exact hq
      | ret => exact hq
  | .cond c a b, F, _, fr, _, _, H, _, h, RF, R => by
    simp only [AC.e] at h
    simp only [AC.run_cond, RF.ev]
    generalize AX.eF F c = vc at h ⊢
    cases vc <;> simp only at h ⊢ <;> try (cases h; done)
    rename_i t
    cases t <;> simp only at h
    · obtain ⟨fr1, H1, RF1, R1, hK1⟩ := AC.e_run hc b h RF R
      exact ⟨fr1, H1, RF1, R1, fun Q hq => Branch.ofF rfl (hK1 Q hq)⟩
    · obtain ⟨fr1, H1, RF1, R1, hK1⟩ := AC.e_run hc a h RF R
      exact ⟨fr1, H1, RF1, R1, fun Q hq => Branch.ofT rfl (hK1 Q hq)⟩
  | .block id a, _, _, fr, _, _, H, x, h, RF, R => by
    simp only [AC.e] at h
    split at h
    · rename_i j F1 T1 h1
      obtain ⟨fr1, H1, RF1, R1, hK1⟩ := AC.e_run hc a h1 RF R
      cases hb : Nat.beq j id <;> simp only [hb, cond_true, cond_false] at h <;> cases h
      · exact ⟨fr1, H1, RF1, R1, fun Q hq => hK1 (blockK id Q) (by simp only [blockK, hb, cond_false]; exact hq)⟩
      · exact ⟨fr1, H1, RF1, R1, fun Q hq => hK1 (blockK id Q) (by simp only [blockK, hb, cond_true]; exact hq)⟩
    · rename_i hne
      obtain ⟨fr1, H1, RF1, R1, hK1⟩ := AC.e_run hc a h RF R
      refine ⟨fr1, H1, RF1, R1, fun Q hq => hK1 _ ?_⟩
      cases x with
      | normal => exact hq
      | exit id => exact absurd h (hne _ _ _)
      | ret => exact hq
  | .loop a, _, _, fr, _, _, H, _, h, RF, R => by
    simp only [AC.e] at h
    obtain ⟨j, fr1, H1, _, RF1, R1, hK⟩ := loopE_run (n := n) (body := a.run P n) (fun F T x F' T' hs fr H RF R => AC.e_run hc a hs RF R) lf h RF R
    exact ⟨fr1, H1, RF1, R1, fun Q hq => LoopA.unroll n (a.run P n) Q j (hK Q hq)⟩
  | .ghost a, _, _, fr, _, _, H, _, h, RF, R => by
    simp only [AC.e] at h
    obtain ⟨fr1, H1, RF1, R1, hK1⟩ := AC.e_run hc a h RF R
    exact ⟨fr1, H1, RF1, R1, fun Q hq => To.refl (hK1 Q hq)⟩
theorem resE_run {F : BT AV} {fr : Fr} {T : EH} {H : Heap} (RF : RepF F fr) (R : RepH T H) : ∀ {rs : List AR} {vs : List AV}, resE F T rs = some vs → ∀ {K : List AV → Prop}, K vs → resK fr H rs K
  | [], _, h, K, hk => by simp only [resE] at h; cases h; exact hk
  | .tmp t :: r, _, h, K, hk => by
    simp only [resE, AX.eF_look RF] at h
    split at h
    · rename_i vs hv; cases h
      simp only [resK, fv_eq]
      exact resE_run RF R hv hk
    · cases h
  | .cell t agg n :: r, _, h, K, hk => by
    simp only [resE, AX.eF_look RF] at h
    simp only [resK]
    generalize look fr t = vt at h ⊢
    cases vt <;> simp only at h ⊢ <;> try (cases h; done)
    rw [← R.get] at h
    rename_i k off
    generalize H.get k = b at h ⊢
    cases b <;> simp only at h ⊢ <;> try (cases h; done)
    split at h
    · rename_i v hv
      split at h
      · rename_i vs hvs; cases h
        exact loadE_run hv (resE_run RF R hvs hk)
      · cases h
    · cases h
theorem frameE_rep : ∀ {vs : List AV} {i : Nat} {F : BT AV}, frameE i vs = some F → RepF F (frame0 i vs)
  | [], _, _, h => by simp only [frameE] at h; cases h; exact ⟨fun _ => rfl⟩
  | v :: r, i, F, h => by
    simp only [frameE] at h
    split at h
    · rename_i F1 h1; exact (frameE_rep h1).put h
    · cases h
theorem findE_spec : ∀ {tbl : List FE} {f : FuncId} {e : FE}, findE tbl f = some e → e ∈ tbl ∧ e.f = f
  | [], _, _, h => by simp [findE] at h
  | e :: r, f, e', h => by
    simp only [findE] at h
    cases hb : Nat.beq e.f f <;> simp only [hb, cond_true, cond_false] at h
    · have := findE_spec h; exact ⟨List.mem_cons_of_mem _ this.1, this.2⟩
    · cases h; exact ⟨List.mem_cons_self .., Nat.eq_of_beq_eq_true hb⟩
/-- **A RUN BY COMPUTING STANDS FOR A CALL.** -/
theorem runE_ok {tbl : List FE} (htbl : ∀ e ∈ tbl, okF P e.f e.N e.ac e.rs = true) (lf : Nat) : ∀ n, CallOK P (runE tbl lf n)
  | 0 => ⟨fun f vs T r T' h => by simp [runE] at h⟩
  | n + 1 => ⟨fun f vs T r T' h H R => by
    simp only [runE] at h
    split at h
    · rename_i e he
      obtain ⟨hm, rfl⟩ := findE_spec he
      cases hb : Nat.ble vs.length e.N <;> simp only [hb, cond_true, cond_false] at h
      · cases h
      · split at h
        · rename_i F hF
          have hc := runE_ok htbl lf n
          split at h
          · cases h
          · rename_i x F' T1 hne hx
            split at h
            · rename_i rs hrs; cases h
              obtain ⟨fr1, H1, RF1, R1, hK⟩ := AC.e_run hc (n := H.nx) e.ac hx (frameE_rep hF) R
              refine ⟨H1, R1, fun K hk => callA_of (htbl e hm) (Nat.le_of_ble_eq_true hb) (hK _ ?_)⟩
              cases x with
              | normal => exact resE_run RF1 R1 hrs (RetA.same hk)
              | exit id => exact (hne _ rfl).elim
              | ret => exact resE_run RF1 R1 hrs (RetA.same hk)
            · cases h
          · cases h
        · cases h
    · cases h⟩
def okAll (P : Program) : List FE → Prop
  | [] => True
  | e :: r => okF P e.f e.N e.ac e.rs = true ∧ okAll P r
theorem okAll_spec : ∀ {tbl : List FE}, okAll P tbl → ∀ e ∈ tbl, okF P e.f e.N e.ac e.rs = true
  | [], _, e, he => by cases he
  | e :: r, h, e', he => by
    rcases List.mem_cons.1 he with rfl | he
    · exact h.1
    · exact okAll_spec h.2 e' he
/-- A run's result, of data alone. -/
def resultE (tbl : List FE) (lf n : Nat) (f : FuncId) (vs : List AV) : Option AV := match runE tbl lf n f vs EH.nil with
  | some (r, T) => pubE T.get 8 r
  | none => none
theorem CallA.computed {tbl : List FE} (htbl : okAll P tbl) (lf n : Nat) {f : FuncId} {vs : List AV} {r : AV} (h : resultE tbl lf n f vs = some r) :
    CallA P f vs Heap.nil fun v H' => v = r ∧ H' = Heap.nil := by
  unfold resultE at h
  split at h
  · rename_i r' T' hrun
    obtain ⟨H', R', hK⟩ := (runE_ok (okAll_spec htbl) lf n).ok _ _ _ _ _ hrun _ RepH.nil
    refine CallA.out 8 (hK (fun v H => v = r' ∧ H = H') ⟨rfl, rfl⟩) ?_
    rintro v H ⟨rfl, rfl⟩
    exact ⟨_, by rw [R'.get]; exact h, rfl, rfl⟩
  · cases h
end
end Go.Eng

set_option maxRecDepth 100000
set_option maxHeartbeats 0
namespace Go.Proofs
open Go Go.Eng
def tkTbl : List FE := [⟨8, 164, ac8, rs8⟩, ⟨11, 37, ac11, rs11⟩, ⟨12, 55, ac12, rs12⟩, ⟨13, 17, ac13, rs13⟩, ⟨14, 25, ac14, rs14⟩, ⟨15, 13, ac15, rs15⟩, ⟨17, 147, ac17, rs17⟩, ⟨23, 113, ac23, rs23⟩, ⟨30, 18, ac30, rs30⟩, ⟨31, 18, ac31, rs31⟩, ⟨32, 4, ac32, rs32⟩, ⟨35, 35, ac35, rs35⟩, ⟨36, 26, ac36, rs36⟩, ⟨37, 14, ac37, rs37⟩, ⟨41, 11, ac41, rs41⟩, ⟨42, 134, ac42, rs42⟩, ⟨43, 8, ac43, rs43⟩, ⟨44, 49, ac44, rs44⟩, ⟨50, 17, ac50, rs50⟩, ⟨54, 25, ac54, rs54⟩, ⟨60, 6, ac60, rs60⟩]
theorem tkOk : okAll Try.prog tkTbl := ⟨ok8, ok11, ok12, ok13, ok14, ok15, ok17, ok23, ok30, ok31, ok32, ok35, ok36, ok37, ok41, ok42, ok43, ok44, ok50, ok54, ok60, trivial⟩
theorem san : CallA Try.prog 8 [] Heap.nil fun v H' => v = .bool true ∧ H' = Heap.nil := CallA.computed tkOk 1000000 100 (by kernel_rfl)
end Go.Proofs

namespace Go.Proofs
open Go Go.Eng
set_option maxRecDepth 100000
set_option maxHeartbeats 4000000
def I16 (id : Int) (l : List Kep) (cap : Option Nat) (m : Nat) (fr : Fr) (H : Heap) : Prop := ∃ i : Nat, i ≤ l.length ∧ m = l.length - i ∧ (∀ j (hj : j < l.length), j < i → okK l j l[j] = true) ∧ fr = [(1, .ptr 0 0), (3, I i)] ∧ H = ⟨1, [(0, .cells (wav id l cap))]⟩
theorem c16 (id : Int) (l : List Kep) (cap : Option Nat) (hb : l.length ≤ 1000000) : CallA Try.prog 16 [.agg (wav id l cap)] Heap.nil fun v H' => v = .bool (validB id l) ∧ H' = Heap.nil := by
  refine callA_of ok16 (Nat.le_of_ble_eq_true rfl) ?_
  repeat' ((conv => whnf); first
      | refine Branch.ofT rfl ?_
      | refine Branch.ofF rfl ?_
      | refine Branch.dec (fun h => ?_) (fun h => ?_)
      | refine Branch.negdec (fun h => ?_) (fun h => ?_)
      | refine Branch.neg (fun h => ?_) (fun h => ?_)
      | refine Branch.mk (fun h => ?_) (fun h => ?_)
      | (refine Side.mk ?_ ?_; · first | omega | decide)
      | (refine SideD.mk ?_ ?_; · first | omega | decide)
      | refine ⟨_, Nat.lt_succ_self _, To.refl (.inl ⟨rfl, ?_⟩)⟩
      | (refine Side.mk ?_ ?_; · (simp; done))
      | fail
      )
  all_goals (conv => whnf)
  · refine RetA.data rfl ⟨?_, rfl⟩
    simp [one, validB]; omega
  · refine RetA.data rfl ⟨?_, rfl⟩
    simp [one, validB]; omega
  · refine RetA.data rfl ⟨?_, rfl⟩
    simp [one, validB]; omega
  refine ⟨I16 id l cap, l.length, To.gc [(0, true)] [1, 3] rfl ⟨wav_noLoc id l cap, trivial⟩ ⟨0, by omega, by omega, by omega, rfl, rfl⟩, ?_⟩
  rintro m fr H ⟨i, hi, rfl, hall, rfl, rfl⟩
  (conv => whnf)
  refine Branch.dec (fun h => ?_) (fun h => ?_)
  · have h' : i < l.length := by omega
    have fin : ∀ b : Bool, okK l i l[i] = b → (b = true → ∀ j (hj : j < l.length), j < i + 1 → okK l j l[j] = true) := by
      intro b hb hbt j hj hji
      rcases Nat.lt_or_eq_of_le (Nat.le_of_lt_succ hji) with e | e
      · exact hall j hj e
      · subst e; rw [hb, hbt]
    by_cases h0 : i = 0
    · subst h0
      repeat' ((conv => whnf); first
          | refine Branch.ofT rfl ?_
          | refine Branch.ofF rfl ?_
          | refine SideD.at (by omega) (kcells_at h') ?_
          | refine Branch.ofF (decide_eq_false (by omega)) ?_
          | refine Branch.dec (fun h => ?_) (fun h => ?_)
          | refine Branch.negdec (fun h => ?_) (fun h => ?_)
          | refine Branch.neg (fun h => ?_) (fun h => ?_)
          | refine Branch.mk (fun h => ?_) (fun h => ?_)
          | (refine Side.mk ?_ ?_; · first | omega | decide)
          | (refine SideD.mk ?_ ?_; · first | omega | decide)
          | refine ⟨_, Nat.lt_succ_self _, To.refl (.inl ⟨rfl, ?_⟩)⟩
          | refine QCallA.of (c33 _) rfl rfl ?_
          | refine QCallA.of (c34 _) rfl rfl ?_
          | (refine Side.mk ?_ ?_; · (simp; done))
          | fail
          )
      all_goals (conv => whnf)
      all_goals first
        | (refine ⟨l.length - (0 + 1), by omega, To.gc [(0, true)] [1, 3] rfl ⟨wav_noLoc id l cap, trivial⟩ ⟨0 + 1, by omega, rfl, fin true (by simp_all [okK]) rfl, rfl, rfl⟩⟩)
        | (refine RetA.data rfl ⟨?_, rfl⟩; simp only [one]; congr 1; symm; apply valid_no h'; simp_all [okK])
    · obtain ⟨hp, hpm⟩ := prev_at h' (by omega)
      repeat' ((conv => whnf); first
          | refine Branch.ofT rfl ?_
          | refine Branch.ofF rfl ?_
          | refine SideD.at (by omega) (kcells_at h') ?_
          | refine SideD.at (by omega) (kcells_at1 hp (by omega)) ?_
          | refine Branch.ofT (decide_eq_true (by omega)) ?_
          | refine Branch.dec (fun h => ?_) (fun h => ?_)
          | refine Branch.negdec (fun h => ?_) (fun h => ?_)
          | refine Branch.neg (fun h => ?_) (fun h => ?_)
          | refine Branch.mk (fun h => ?_) (fun h => ?_)
          | (refine Side.mk ?_ ?_; · first | omega | decide)
          | (refine SideD.mk ?_ ?_; · first | omega | decide)
          | refine ⟨_, Nat.lt_succ_self _, To.refl (.inl ⟨rfl, ?_⟩)⟩
          | refine QCallA.of (c33 _) rfl rfl ?_
          | refine QCallA.of (c34 _) rfl rfl ?_
          | (refine Side.mk ?_ ?_; · (simp; done))
          | fail
          )
      all_goals (conv => whnf)
      all_goals first
        | (refine ⟨l.length - (i + 1), by omega, To.gc [(0, true)] [1, 3] rfl ⟨wav_noLoc id l cap, trivial⟩ ⟨i + 1, by omega, rfl, fin true (by simp_all [okK]) rfl, rfl, rfl⟩⟩)
        | (refine RetA.data rfl ⟨?_, rfl⟩; simp only [one]; congr 1; symm; apply valid_no h'; simp_all [okK])
  · (conv => whnf)
    refine RetA.data rfl ⟨?_, rfl⟩
    simp only [one]; congr 1; symm
    exact valid_yes (by omega) (by omega) (by omega) fun j hj => hall j hj (by omega)

/-! ### What valid witnesses are, and stay -/
def fK (k : Kep) : Prop := numB k.m = true ∧ numB k.e = true ∧ numB k.h = true ∧ serB k.u = true
structure ValidP (id : Int) (l : List Kep) : Prop where
  lo : 0 ≤ id
  hi : id < 3
  len : l.length ≤ 64
  each : ∀ k ∈ l, fK k
  asc : (l.map Kep.m).Pairwise (· < ·)
theorem valid_get {id : Int} {l : List Kep} (h : validB id l = true) : 0 ≤ id ∧ id < 3 ∧ l.length ≤ 64 ∧ ∀ j (hj : j < l.length), okK l j l[j] = true := by
  simp only [validB, Bool.and_eq_true, decide_eq_true_eq, List.all_eq_true, List.mem_range] at h
  exact ⟨h.1.1.1, h.1.1.2, h.1.2, fun j hj => by rw [← okAt_get hj]; exact h.2 j hj⟩
theorem okK_f {l : List Kep} {j : Nat} {k : Kep} (h : okK l j k = true) : fK k ∧ (j = 0 ∨ prevM l j < k.m) := by
  simp only [okK, Bool.and_eq_true, Bool.or_eq_true, decide_eq_true_eq] at h
  exact ⟨⟨h.1.1.1.1, h.1.1.1.2, h.1.1.2, h.1.2⟩, h.2⟩
theorem validP_of {id : Int} {l : List Kep} (h : validB id l = true) : ValidP id l := by
  obtain ⟨h1, h2, h3, h4⟩ := valid_get h
  refine ⟨h1, h2, h3, fun k hk => ?_, ?_⟩
  · obtain ⟨j, hj, rfl⟩ := List.getElem_of_mem hk
    exact (okK_f (h4 j hj)).1
  · have step : ∀ j (hj : j + 1 < l.length), l[j].m < l[j + 1].m := fun j hj => by
      have := (okK_f (h4 (j + 1) hj)).2
      simp only [prevM, Nat.add_sub_cancel, List.getElem?_eq_getElem (show j < l.length by omega), Option.getD_some] at this
      omega
    have all : ∀ d i (hi : i < l.length) (hj : i + d + 1 < l.length), l[i].m < l[i + d + 1].m := by
      intro d
      induction d with
      | zero => exact fun i _ hj => step i hj
      | succ d ih =>
        intro i hi hj
        have h1 := ih i hi (by omega)
        have h2 := step (i + d + 1) (by omega)
        exact Int.lt_trans h1 h2
    rw [List.pairwise_iff_getElem]
    intro i j hi hj hij
    simp only [List.length_map] at hi hj
    simp only [List.getElem_map]
    have := all (j - i - 1) i hi (by omega)
    simp only [show i + (j - i - 1) + 1 = j by omega] at this
    exact this
theorem valid_of {id : Int} {l : List Kep} (h : ValidP id l) : validB id l = true := by
  refine valid_yes h.lo h.hi h.len fun j hj => ?_
  obtain ⟨f1, f2, f3, f4⟩ := h.each l[j] (List.getElem_mem hj)
  simp only [okK, f1, f2, f3, f4, Bool.and_self, Bool.true_and, Bool.or_eq_true, decide_eq_true_eq]
  by_cases h0 : j = 0
  · exact .inl h0
  · refine .inr ?_
    have := List.pairwise_iff_getElem.1 h.asc (j - 1) j (by simp; omega) (by simpa using hj) (by omega)
    simp only [List.getElem_map] at this
    simpa [prevM, List.getElem?_eq_getElem (show j - 1 < l.length by omega)] using this
theorem kept_of {id : Int} {l : List Kep} (h : ValidP id l) : Kept1 l := by
  refine ⟨h.len, fun i j hi hj hij => ?_⟩
  have := List.pairwise_iff_getElem.1 h.asc i j (by simpa using hi) (by simpa using hj) hij
  simpa using this
theorem upto_of {id : Int} {l : List Kep} (h : ValidP id l) : ∀ j (hj : j < l.length), 0 ≤ l[j].u := fun j hj => by
  have := (h.each l[j] (List.getElem_mem hj)).2.2.2
  unfold serB at this; simp at this; exact this.1
theorem numB_mk {n : Int} (h : 1 ≤ n ∧ n ≤ 1073741824) : numB n = true := by unfold numB; simp [h]
theorem serB_mk {n : Int} (h : 0 ≤ n ∧ n ≤ 1099511627776) : serB n = true := by unfold serB; simp [h]
theorem serB_get {n : Int} (h : serB n = true) : 0 ≤ n ∧ n ≤ 1099511627776 := by unfold serB at h; simpa using h
theorem ok_fields (p : Ple) (h : p.ok = true) : numB p.m = true ∧ numB p.h = true ∧ numB p.e = true ∧ serB p.u = true := by
  unfold Ple.ok at h; simp at h; exact ⟨h.1.1.1.1.2, h.1.1.1.2, h.1.1.2, h.1.2⟩
theorem mx_ser {a b : Int} (ha : serB a = true) (hb : serB b = true) : serB (mx a b) = true := by unfold mx; split <;> assumption
theorem newK_m (k : Kep) (p : Ple) : (newK k p).m = k.m := by
  simp only [newK, uptK, hearK]; split <;> split <;> rfl
theorem newK_f {k : Kep} {p : Ple} (hp : p.ok = true) (hk : fK k) : fK (newK k p) := by
  obtain ⟨p1, p2, p3, p4⟩ := ok_fields p hp
  obtain ⟨k1, k2, k3, k4⟩ := hk
  refine ⟨by rw [newK_m]; exact k1, ?_, ?_, ?_⟩
  · simp only [newK, uptK, hearK]; split <;> split <;> assumption
  · simp only [newK, uptK, hearK]; split <;> split <;> assumption
  · simp only [newK, uptK, hearK]; split <;> split <;> first | exact mx_ser k4 p4 | assumption
theorem newK_fresh {p : Ple} (hp : p.ok = true) (h1 : p.k = 1) : fK (newK ⟨p.m, 0, 0, 0⟩ p) := by
  obtain ⟨p1, p2, p3, p4⟩ := ok_fields p hp
  obtain ⟨_, q2, _⟩ := ok_cases p hp
  have : newK ⟨p.m, 0, 0, 0⟩ p = ⟨p.m, p.e, p.h, mx 0 p.u⟩ := by
    apply kep_eq <;> (simp only [newK, uptK, hearK, agrK, mx]; grind)
  rw [this]
  exact ⟨p1, p3, p2, mx_ser (serB_mk (by omega)) p4⟩
theorem valid_hear {id : Int} {l : List Kep} {cap : Option Nat} {p : Ple} (h : ValidP id l) : ValidP id (hearW id l cap p (rank l p.m)).l := by
  have hl := kept_of h
  cases hok : p.ok with
  | false => simpa [hearW, hok] using h
  | true =>
    have hf := found_rank l p.m hl
    rcases plc_cases (m := p.m) hl with ⟨hlt, hm, _⟩ | ⟨hu, _⟩
    · rw [hearW_known hok hlt hm]
      have hsame : (l.take (rank l p.m) ++ newK l[rank l p.m] p :: l.drop (rank l p.m + 1)).map Kep.m = l.map Kep.m := by
        have e : l = l.take (rank l p.m) ++ l[rank l p.m] :: l.drop (rank l p.m + 1) := by
          rw [← List.drop_eq_getElem_cons hlt, List.take_append_drop]
        have e' := congrArg (List.map Kep.m) e
        rw [e']
        simp only [List.map_append, List.map_cons, newK_m]
      refine ⟨h.lo, h.hi, by have := congrArg List.length hsame; simp at this ⊢; have := h.len; omega, fun k hk => ?_, by rw [hsame]; exact h.asc⟩
      simp only [List.mem_append, List.mem_cons] at hk
      rcases hk with hk | rfl | hk
      · exact h.each k (List.mem_of_mem_take hk)
      · exact newK_f hok (h.each _ (List.getElem_mem hlt))
      · exact h.each k (List.mem_of_mem_drop hk)
    · have hu' : unk l p (rank l p.m) := fun h => hu _ h
      by_cases h64 : (64 : Int) ≤ (l.length : Int)
      · rw [hearW_limit hok hu' h64]; exact h
      · by_cases h2 : p.k = 2
        · rw [hearW_conf hok hu' h64 h2]; exact h
        · rw [hearW_new hok hu' h64 h2]
          obtain ⟨q1, _, _⟩ := ok_cases p hok
          refine ⟨h.lo, h.hi, by have := hf.le; simp; omega, fun k hk => ?_, ?_⟩
          · simp only [List.mem_append, List.mem_cons] at hk
            rcases hk with hk | rfl | hk
            · exact h.each k (List.mem_of_mem_take hk)
            · exact newK_fresh hok (by omega)
            · exact h.each k (List.mem_of_mem_drop hk)
          · have hs : (l.map Kep.m).Pairwise (· < ·) := h.asc
            have hsplit : l.map Kep.m = (l.take (rank l p.m)).map Kep.m ++ (l.drop (rank l p.m)).map Kep.m := by rw [← List.map_append, List.take_append_drop]
            rw [hsplit, List.pairwise_append] at hs
            simp only [List.map_append, List.map_cons, newK_m]
            rw [List.pairwise_append]
            have hlow : ∀ x ∈ (l.take (rank l p.m)).map Kep.m, x < p.m := by
              intro x hx
              obtain ⟨k, hk, rfl⟩ := List.mem_map.1 hx
              obtain ⟨i, hi, rfl⟩ := List.getElem_of_mem hk
              simp only [List.length_take] at hi
              simp only [List.getElem_take]
              exact hf.lo i (by omega) (by omega)
            have hhigh : ∀ x ∈ (l.drop (rank l p.m)).map Kep.m, p.m < x := by
              intro x hx
              obtain ⟨k, hk, rfl⟩ := List.mem_map.1 hx
              obtain ⟨i, hi, rfl⟩ := List.getElem_of_mem hk
              simp only [List.length_drop] at hi
              simp only [List.getElem_drop]
              have h1 := hf.hi (rank l p.m + i) (by omega) (by omega)
              have h2 := hu (rank l p.m + i) (by omega)
              omega
            refine ⟨hs.1, List.pairwise_cons.2 ⟨hhigh, hs.2.1⟩, fun a ha b hb => ?_⟩
            rcases List.mem_cons.1 hb with rfl | hb
            · exact hlow a ha
            · exact hs.2.2 a ha b hb
theorem c7g (id : Int) (l : List Kep) (p : Ple) (l' : List Kep) (cap' : Option Nat) (g : Gra) (e : Int) (hlen : l.length ≤ 64) (hlen' : l'.length ≤ 64)
    (h27 : CallA Try.prog 27 [.agg (wav id l none)] Heap.nil fun v H' => v = .bool true ∧ H' = Heap.nil) (h16 : CallA Try.prog 16 [.agg (wav id l none)] Heap.nil fun v H' => v = .bool true ∧ H' = Heap.nil)
    (h17 : CallA Try.prog 17 [.agg (wav id l none), .agg p.av] Heap.nil fun v H' => v = .tuple [.agg (wav id l' cap'), .agg g.av, I e] ∧ H' = Heap.nil)
    (h28 : CallA Try.prog 28 [.agg (wav id l none), .agg p.av] Heap.nil fun v H' => v = .agg (wav id l' cap' ++ g.av ++ [I e]) ∧ H' = Heap.nil)
    (h27' : CallA Try.prog 27 [.agg (wav id l' cap')] Heap.nil fun v H' => v = .bool true ∧ H' = Heap.nil) :
    CallA Try.prog 7 [.agg (wav id l none), .agg p.av] Heap.nil fun v H' => v = .bool true ∧ H' = Heap.nil := by
  refine callA_of ok7 (Nat.le_of_ble_eq_true rfl) ?_
  have h18 := c18 id l' cap' cap' (by omega)
  repeat' ((conv => whnf); first
      | refine Branch.ofT rfl ?_
      | refine Branch.ofF rfl ?_
      | refine Branch.ofF (decide_eq_false (by omega)) ?_
      | refine Branch.ofT (by simp; done) ?_
      | refine Branch.dec (fun h => ?_) (fun h => ?_)
      | refine Branch.negdec (fun h => ?_) (fun h => ?_)
      | refine Branch.neg (fun h => ?_) (fun h => ?_)
      | refine Branch.mk (fun h => ?_) (fun h => ?_)
      | (refine Side.mk ?_ ?_; · first | omega | decide)
      | (refine SideD.mk ?_ ?_; · first | omega | decide)
      | refine ⟨_, Nat.lt_succ_self _, To.refl (.inl ⟨rfl, ?_⟩)⟩
      | refine QCallA.of h27 rfl rfl ?_
      | refine QCallA.of h16 rfl rfl ?_
      | refine CallA.pure h16 rfl rfl ?_
      | refine CallA.pure h17 rfl rfl ?_
      | refine CallA.pure h28 rfl rfl ?_
      | refine CallA.pure san rfl rfl ?_
      | refine CallA.pure h18 rfl rfl ?_
      | refine CallA.pure h27' rfl rfl ?_
      | (refine Side.mk ?_ ?_; · (simp; done))
      | fail
      )
  all_goals (conv => whnf)
  all_goals exact RetA.data rfl ⟨rfl, rfl⟩
theorem c7 (id : Int) (l : List Kep) (p : Ple) (hb : l.length ≤ 9223372036854775807) : CallA Try.prog 7 [.agg (wav id l none), .agg p.av] Heap.nil fun v H' => v = .bool true ∧ H' = Heap.nil := by
  by_cases h70 : (70 : Int) < l.length
  · refine callA_of ok7 (Nat.le_of_ble_eq_true rfl) ?_
    repeat' ((conv => whnf); first
        | refine Branch.ofT rfl ?_
        | refine Branch.ofF rfl ?_
        | refine Branch.ofT (decide_eq_true (by omega)) ?_
        | refine Branch.dec (fun h => ?_) (fun h => ?_)
        | refine Branch.negdec (fun h => ?_) (fun h => ?_)
        | refine Branch.neg (fun h => ?_) (fun h => ?_)
        | refine Branch.mk (fun h => ?_) (fun h => ?_)
        | (refine Side.mk ?_ ?_; · first | omega | decide)
        | (refine SideD.mk ?_ ?_; · first | omega | decide)
        | refine ⟨_, Nat.lt_succ_self _, To.refl (.inl ⟨rfl, ?_⟩)⟩
        | refine CallA.pure san rfl rfl ?_
        | (refine Side.mk ?_ ?_; · (simp; done))
        | fail
        )
    all_goals (conv => whnf)
    all_goals exact RetA.data rfl ⟨rfl, rfl⟩
  · have h27 := c27 id l none (by omega)
    have h16 := c16 id l none (by omega)
    cases hval : validB id l with
    | false =>
      rw [hval] at h27 h16
      refine callA_of ok7 (Nat.le_of_ble_eq_true rfl) ?_
      repeat' ((conv => whnf); first
          | refine Branch.ofT rfl ?_
          | refine Branch.ofF rfl ?_
          | refine Branch.ofF (decide_eq_false (by omega)) ?_
          | refine Branch.dec (fun h => ?_) (fun h => ?_)
          | refine Branch.negdec (fun h => ?_) (fun h => ?_)
          | refine Branch.neg (fun h => ?_) (fun h => ?_)
          | refine Branch.mk (fun h => ?_) (fun h => ?_)
          | (refine Side.mk ?_ ?_; · first | omega | decide)
          | (refine SideD.mk ?_ ?_; · first | omega | decide)
          | refine ⟨_, Nat.lt_succ_self _, To.refl (.inl ⟨rfl, ?_⟩)⟩
          | refine QCallA.of h27 rfl rfl ?_
          | refine QCallA.of h16 rfl rfl ?_
          | refine CallA.pure h16 rfl rfl ?_
          | refine CallA.pure san rfl rfl ?_
          | (refine Side.mk ?_ ?_; · (simp; done))
          | fail
          )
      all_goals (conv => whnf)
      all_goals exact RetA.data rfl ⟨rfl, rfl⟩
    | true =>
      rw [hval] at h27 h16
      have hv := validP_of hval
      have hl := kept_of hv
      have h17 := c17 id l none p hl
      have h28 := c28 id l none p hl (upto_of hv)
      have hv' := valid_hear (cap := none) (p := p) hv
      have h27' := c27 id (hearW id l none p (rank l p.m)).l (hearW id l none p (rank l p.m)).cap (by have := hv'.len; omega)
      rw [valid_of hv'] at h27'
      exact c7g id l p _ _ (hearW id l none p (rank l p.m)).g _ hv.len hv'.len h27 h16 h17 h28 h27'
end Go.Proofs

