/- Part of a proof about the given program: lemmas that the other parts use. -/
import Derived.Test.YtligaclbjnccgaaDoorRPart6

set_option linter.all false
set_option linter.unusedSimpArgs false
set_option linter.unusedVariables false
namespace Go.Proofs
open Go Go.Eng
set_option maxRecDepth 100000
set_option maxHeartbeats 4000000
def newBad (n st : Int) : Prop := n < 1 ∨ 64 < n ∨ st = 3 ∨ st < 1 ∨ 4 < st
theorem c9_bad (n st : Int) (h : newBad n st) : CallA Tryd.prog 9 [I n, I st] Heap.nil fun v H' => v = .tuple [.agg [.nils], I 1] ∧ H' = Heap.nil := by
  unfold newBad at h
  refine callA_of ok9 (Nat.le_of_ble_eq_true rfl) ?_
  repeat' ((conv => whnf); first
      | refine Branch.ofT rfl ?_
      | refine Branch.ofF rfl ?_
      | refine Branch.dec (fun h => ?_) (fun h => ?_)
      | refine Branch.negdec (fun h => ?_) (fun h => ?_)
      | refine Branch.neg (fun h => ?_) (fun h => ?_)
      | refine Branch.mk (fun h => ?_) (fun h => ?_)
      | (refine Side.mk ?_ ?_; · first | omega | decide)
      | (refine SideD.mk ?_ ?_; · first | omega | decide)
      | refine ⟨_, Nat.lt_succ_self _, To.refl (.inl ⟨rfl, ?_⟩)⟩
      | (refine Side.mk ?_ ?_; · (simp; done))
      | fail
      )
  all_goals (conv => whnf)
  all_goals first
    | exact RetA.data rfl ⟨rfl, rfl⟩
    | (exfalso; omega)
theorem c9_ok (n : Nat) (st : Int) (h : ¬ newBad n st) : CallA Tryd.prog 9 [I n, I st] Heap.nil fun v H' => v = .tuple [pgs (List.replicate n ⟨st, 0⟩) (some n), I 0] ∧ H' = Heap.nil := by
  have hb := h
  unfold newBad at hb
  have h31 := c31 st n (by omega) (by omega)
  refine callA_of ok9 (Nat.le_of_ble_eq_true rfl) ?_
  repeat' ((conv => whnf); first
      | refine Branch.ofT rfl ?_
      | refine Branch.ofF rfl ?_
      | refine Branch.ofF (decide_eq_false (by omega)) ?_
      | refine Branch.dec (fun h => ?_) (fun h => ?_)
      | refine Branch.negdec (fun h => ?_) (fun h => ?_)
      | refine Branch.neg (fun h => ?_) (fun h => ?_)
      | refine Branch.mk (fun h => ?_) (fun h => ?_)
      | (refine Side.mk ?_ ?_; · first | omega | decide)
      | (refine SideD.mk ?_ ?_; · first | omega | decide)
      | refine ⟨_, Nat.lt_succ_self _, To.refl (.inl ⟨rfl, ?_⟩)⟩
      | refine CallA.pure h31 rfl rfl ?_
      | (refine Side.mk ?_ ?_; · (simp; done))
      | fail
      )
  all_goals (conv => whnf)
  refine RetA.data rfl ⟨?_, rfl⟩
  unfold pgs
  rw [List.length_replicate]; rfl
theorem c10_bad (n st : Int) (h : newBad n st) : CallA Tryd.prog 10 [I n, I st] Heap.nil fun v H' => v = .agg [.nils, I 0, I 0, I 1] ∧ H' = Heap.nil := by
  unfold newBad at h
  refine callA_of ok10 (Nat.le_of_ble_eq_true rfl) ?_
  repeat' ((conv => whnf); first
      | refine Branch.ofT rfl ?_
      | refine Branch.ofF rfl ?_
      | refine Branch.dec (fun h => ?_) (fun h => ?_)
      | refine Branch.negdec (fun h => ?_) (fun h => ?_)
      | refine Branch.neg (fun h => ?_) (fun h => ?_)
      | refine Branch.mk (fun h => ?_) (fun h => ?_)
      | (refine Side.mk ?_ ?_; · first | omega | decide)
      | (refine SideD.mk ?_ ?_; · first | omega | decide)
      | refine ⟨_, Nat.lt_succ_self _, To.refl (.inl ⟨rfl, ?_⟩)⟩
      | (refine Side.mk ?_ ?_; · (simp; done))
      | fail
      )
  all_goals (conv => whnf)
  all_goals first
    | exact RetA.data rfl ⟨rfl, rfl⟩
    | (exfalso; omega)
def L10 (n : Nat) (st : Int) (m : Nat) (fr : Fr) (H : Heap) : Prop := ∃ f : Nat, f ≤ n ∧ m = n - f ∧ fr = [(0, I n), (1, I st), (4, .ptr 0 0), (5, .ptr 1 0), (6, I f)] ∧
  ((f = 0 ∧ H = ⟨2, [(0, .cells [.nils, I 0, I 0, I 0]), (1, .cells [.nils])]⟩) ∨ (0 < f ∧ H = ⟨3, [(0, .cells [.nils, I 0, I 0, I 0]), (1, .cells [.slice 2 0 f none 2]), (2, .cells (pc (List.replicate f ⟨st, 0⟩)))]⟩))
theorem app0 {a b : Int} : fits 1 16 ∧ ∀ c ∈ ([I a, I b] : List AV).take (1 * 2), scal c = true := ⟨by unfold fits; omega, by simp [scal]⟩
theorem app1 {f : Nat} {x : Pl} {a b : Int} (h : f ≤ 64) : 2 = 2 ∧ 0 = 0 ∧ (pc (List.replicate f x)).length = f * 2 ∧ fits (f + 1) 16 ∧ ∀ c ∈ ([I a, I b] : List AV).take (1 * 2), scal c = true :=
  ⟨rfl, rfl, by rw [pc_len]; simp, by unfold fits; omega, by simp [scal]⟩
theorem c10_1 (n : Nat) (h0 : 0 < n) (h64 : n ≤ 64) : CallA Tryd.prog 10 [I n, I 1] Heap.nil fun v H' => v = .agg [.dslice (pc (List.replicate n ⟨1, 0⟩)) n none, I 0, I 0, I 0] ∧ H' = Heap.nil := by
  refine callA_of ok10 (Nat.le_of_ble_eq_true rfl) ?_
  repeat' ((conv => whnf); first
      | refine Branch.ofT rfl ?_
      | refine Branch.ofF rfl ?_
      | refine Branch.ofF (decide_eq_false (by omega)) ?_
      | refine Branch.dec (fun h => ?_) (fun h => ?_)
      | refine Branch.negdec (fun h => ?_) (fun h => ?_)
      | refine Branch.neg (fun h => ?_) (fun h => ?_)
      | refine Branch.mk (fun h => ?_) (fun h => ?_)
      | (refine Side.mk ?_ ?_; · first | omega | decide)
      | (refine SideD.mk ?_ ?_; · first | omega | decide)
      | refine ⟨_, Nat.lt_succ_self _, To.refl (.inl ⟨rfl, ?_⟩)⟩
      | (refine Side.mk ?_ ?_; · (simp; done))
      | fail
      )
  all_goals (conv => whnf)
  refine ⟨L10 n 1, n, To.gc [(0, true), (1, true)] [0, 1, 4, 5, 6] rfl ⟨dat rfl, dat rfl, trivial⟩ ⟨0, by omega, by omega, rfl, .inl ⟨rfl, rfl⟩⟩, ?_⟩
  rintro m fr H ⟨f, hf, rfl, rfl, hH⟩
  by_cases hfn : f < n
  · rcases hH with ⟨rfl, rfl⟩ | ⟨hf0, rfl⟩
    · repeat' ((conv => whnf); first
          | refine Branch.ofT rfl ?_
          | refine Branch.ofF rfl ?_
          | refine Branch.ofT (decide_eq_true (by omega)) ?_
          | refine Branch.dec (fun h => ?_) (fun h => ?_)
          | refine Branch.negdec (fun h => ?_) (fun h => ?_)
          | refine Branch.neg (fun h => ?_) (fun h => ?_)
          | refine Branch.mk (fun h => ?_) (fun h => ?_)
          | (refine Side.mk ?_ ?_; · first | omega | decide)
          | (refine SideD.mk ?_ ?_; · first | omega | decide)
          | refine ⟨_, Nat.lt_succ_self _, To.refl (.inl ⟨rfl, ?_⟩)⟩
          | refine Side.mk app0 ?_
          | (refine Side.mk ?_ ?_; · (simp; done))
          | fail
          )
      all_goals (conv => whnf)
      exact ⟨n - 1, by omega, To.gc [(0, true), (1, false), (2, true)] [0, 1, 4, 5, 6] rfl ⟨dat rfl, dat rfl, trivial⟩ ⟨1, by omega, rfl, rfl, .inr ⟨by omega, rfl⟩⟩⟩
    · have e : pc (List.replicate (f + 1) ⟨1, 0⟩) = pc (List.replicate f ⟨1, 0⟩) ++ [I 1, I 0] := by rw [List.replicate_succ', pc_app]; rfl
      have hd : ∀ c ∈ pc (List.replicate f ⟨1, 0⟩) ++ [I 1, I 0], noLoc c = true := by rw [← e]; exact pc_noLoc _
      repeat' ((conv => whnf); first
          | refine Branch.ofT rfl ?_
          | refine Branch.ofF rfl ?_
          | refine Branch.ofT (decide_eq_true (by omega)) ?_
          | refine Branch.dec (fun h => ?_) (fun h => ?_)
          | refine Branch.negdec (fun h => ?_) (fun h => ?_)
          | refine Branch.neg (fun h => ?_) (fun h => ?_)
          | refine Branch.mk (fun h => ?_) (fun h => ?_)
          | (refine Side.mk ?_ ?_; · first | omega | decide)
          | (refine SideD.mk ?_ ?_; · first | omega | decide)
          | refine ⟨_, Nat.lt_succ_self _, To.refl (.inl ⟨rfl, ?_⟩)⟩
          | refine Side.mk (app1 (by omega)) ?_
          | (refine Side.mk ?_ ?_; · (simp; done))
          | fail
          )
      all_goals (conv => whnf)
      exact ⟨n - (f + 1), by omega, To.gc [(0, true), (1, false), (3, true)] [0, 1, 4, 5, 6] rfl ⟨dat rfl, hd, trivial⟩ ⟨f + 1, by omega, rfl, rfl, .inr ⟨by omega, by rw [e]; rfl⟩⟩⟩
  · have : f = n := by omega
    subst this
    rcases hH with ⟨h, _⟩ | ⟨_, rfl⟩
    · omega
    · repeat' ((conv => whnf); first
          | refine Branch.ofT rfl ?_
          | refine Branch.ofF rfl ?_
          | refine Branch.ofF (decide_eq_false (by omega)) ?_
          | refine Branch.dec (fun h => ?_) (fun h => ?_)
          | refine Branch.negdec (fun h => ?_) (fun h => ?_)
          | refine Branch.neg (fun h => ?_) (fun h => ?_)
          | refine Branch.mk (fun h => ?_) (fun h => ?_)
          | (refine Side.mk ?_ ?_; · first | omega | decide)
          | (refine SideD.mk ?_ ?_; · first | omega | decide)
          | refine ⟨_, Nat.lt_succ_self _, To.refl (.inl ⟨rfl, ?_⟩)⟩
          | (refine Side.mk ?_ ?_; · (simp; done))
          | fail
          )
      all_goals (conv => whnf)
      refine RetA.pub 2 rfl (pc_noLoc _) ?_
      refine RetA.data rfl ⟨?_, rfl⟩
      show AV.agg [.dslice (((pc (List.replicate f ⟨1, 0⟩)).drop 0).take (f * 2)) f none, I 0, I 0, I 0] = _
      rw [List.drop_zero, pc_takeN, List.take_replicate, Nat.min_self]
theorem c10_2 (n : Nat) (h0 : 0 < n) (h64 : n ≤ 64) : CallA Tryd.prog 10 [I n, I 2] Heap.nil fun v H' => v = .agg [.dslice (pc (List.replicate n ⟨2, 0⟩)) n none, I 0, I 0, I 0] ∧ H' = Heap.nil := by
  refine callA_of ok10 (Nat.le_of_ble_eq_true rfl) ?_
  repeat' ((conv => whnf); first
      | refine Branch.ofT rfl ?_
      | refine Branch.ofF rfl ?_
      | refine Branch.ofF (decide_eq_false (by omega)) ?_
      | refine Branch.dec (fun h => ?_) (fun h => ?_)
      | refine Branch.negdec (fun h => ?_) (fun h => ?_)
      | refine Branch.neg (fun h => ?_) (fun h => ?_)
      | refine Branch.mk (fun h => ?_) (fun h => ?_)
      | (refine Side.mk ?_ ?_; · first | omega | decide)
      | (refine SideD.mk ?_ ?_; · first | omega | decide)
      | refine ⟨_, Nat.lt_succ_self _, To.refl (.inl ⟨rfl, ?_⟩)⟩
      | (refine Side.mk ?_ ?_; · (simp; done))
      | fail
      )
  all_goals (conv => whnf)
  refine ⟨L10 n 2, n, To.gc [(0, true), (1, true)] [0, 1, 4, 5, 6] rfl ⟨dat rfl, dat rfl, trivial⟩ ⟨0, by omega, by omega, rfl, .inl ⟨rfl, rfl⟩⟩, ?_⟩
  rintro m fr H ⟨f, hf, rfl, rfl, hH⟩
  by_cases hfn : f < n
  · rcases hH with ⟨rfl, rfl⟩ | ⟨hf0, rfl⟩
    · repeat' ((conv => whnf); first
          | refine Branch.ofT rfl ?_
          | refine Branch.ofF rfl ?_
          | refine Branch.ofT (decide_eq_true (by omega)) ?_
          | refine Branch.dec (fun h => ?_) (fun h => ?_)
          | refine Branch.negdec (fun h => ?_) (fun h => ?_)
          | refine Branch.neg (fun h => ?_) (fun h => ?_)
          | refine Branch.mk (fun h => ?_) (fun h => ?_)
          | (refine Side.mk ?_ ?_; · first | omega | decide)
          | (refine SideD.mk ?_ ?_; · first | omega | decide)
          | refine ⟨_, Nat.lt_succ_self _, To.refl (.inl ⟨rfl, ?_⟩)⟩
          | refine Side.mk app0 ?_
          | (refine Side.mk ?_ ?_; · (simp; done))
          | fail
          )
      all_goals (conv => whnf)
      exact ⟨n - 1, by omega, To.gc [(0, true), (1, false), (2, true)] [0, 1, 4, 5, 6] rfl ⟨dat rfl, dat rfl, trivial⟩ ⟨1, by omega, rfl, rfl, .inr ⟨by omega, rfl⟩⟩⟩
    · have e : pc (List.replicate (f + 1) ⟨2, 0⟩) = pc (List.replicate f ⟨2, 0⟩) ++ [I 2, I 0] := by rw [List.replicate_succ', pc_app]; rfl
      have hd : ∀ c ∈ pc (List.replicate f ⟨2, 0⟩) ++ [I 2, I 0], noLoc c = true := by rw [← e]; exact pc_noLoc _
      repeat' ((conv => whnf); first
          | refine Branch.ofT rfl ?_
          | refine Branch.ofF rfl ?_
          | refine Branch.ofT (decide_eq_true (by omega)) ?_
          | refine Branch.dec (fun h => ?_) (fun h => ?_)
          | refine Branch.negdec (fun h => ?_) (fun h => ?_)
          | refine Branch.neg (fun h => ?_) (fun h => ?_)
          | refine Branch.mk (fun h => ?_) (fun h => ?_)
          | (refine Side.mk ?_ ?_; · first | omega | decide)
          | (refine SideD.mk ?_ ?_; · first | omega | decide)
          | refine ⟨_, Nat.lt_succ_self _, To.refl (.inl ⟨rfl, ?_⟩)⟩
          | refine Side.mk (app1 (by omega)) ?_
          | (refine Side.mk ?_ ?_; · (simp; done))
          | fail
          )
      all_goals (conv => whnf)
      exact ⟨n - (f + 1), by omega, To.gc [(0, true), (1, false), (3, true)] [0, 1, 4, 5, 6] rfl ⟨dat rfl, hd, trivial⟩ ⟨f + 1, by omega, rfl, rfl, .inr ⟨by omega, by rw [e]; rfl⟩⟩⟩
  · have : f = n := by omega
    subst this
    rcases hH with ⟨h, _⟩ | ⟨_, rfl⟩
    · omega
    · repeat' ((conv => whnf); first
          | refine Branch.ofT rfl ?_
          | refine Branch.ofF rfl ?_
          | refine Branch.ofF (decide_eq_false (by omega)) ?_
          | refine Branch.dec (fun h => ?_) (fun h => ?_)
          | refine Branch.negdec (fun h => ?_) (fun h => ?_)
          | refine Branch.neg (fun h => ?_) (fun h => ?_)
          | refine Branch.mk (fun h => ?_) (fun h => ?_)
          | (refine Side.mk ?_ ?_; · first | omega | decide)
          | (refine SideD.mk ?_ ?_; · first | omega | decide)
          | refine ⟨_, Nat.lt_succ_self _, To.refl (.inl ⟨rfl, ?_⟩)⟩
          | (refine Side.mk ?_ ?_; · (simp; done))
          | fail
          )
      all_goals (conv => whnf)
      refine RetA.pub 2 rfl (pc_noLoc _) ?_
      refine RetA.data rfl ⟨?_, rfl⟩
      show AV.agg [.dslice (((pc (List.replicate f ⟨2, 0⟩)).drop 0).take (f * 2)) f none, I 0, I 0, I 0] = _
      rw [List.drop_zero, pc_takeN, List.take_replicate, Nat.min_self]
theorem c10_4 (n : Nat) (h0 : 0 < n) (h64 : n ≤ 64) : CallA Tryd.prog 10 [I n, I 4] Heap.nil fun v H' => v = .agg [.dslice (pc (List.replicate n ⟨4, 0⟩)) n none, I 0, I 0, I 0] ∧ H' = Heap.nil := by
  refine callA_of ok10 (Nat.le_of_ble_eq_true rfl) ?_
  repeat' ((conv => whnf); first
      | refine Branch.ofT rfl ?_
      | refine Branch.ofF rfl ?_
      | refine Branch.ofF (decide_eq_false (by omega)) ?_
      | refine Branch.dec (fun h => ?_) (fun h => ?_)
      | refine Branch.negdec (fun h => ?_) (fun h => ?_)
      | refine Branch.neg (fun h => ?_) (fun h => ?_)
      | refine Branch.mk (fun h => ?_) (fun h => ?_)
      | (refine Side.mk ?_ ?_; · first | omega | decide)
      | (refine SideD.mk ?_ ?_; · first | omega | decide)
      | refine ⟨_, Nat.lt_succ_self _, To.refl (.inl ⟨rfl, ?_⟩)⟩
      | (refine Side.mk ?_ ?_; · (simp; done))
      | fail
      )
  all_goals (conv => whnf)
  refine ⟨L10 n 4, n, To.gc [(0, true), (1, true)] [0, 1, 4, 5, 6] rfl ⟨dat rfl, dat rfl, trivial⟩ ⟨0, by omega, by omega, rfl, .inl ⟨rfl, rfl⟩⟩, ?_⟩
  rintro m fr H ⟨f, hf, rfl, rfl, hH⟩
  by_cases hfn : f < n
  · rcases hH with ⟨rfl, rfl⟩ | ⟨hf0, rfl⟩
    · repeat' ((conv => whnf); first
          | refine Branch.ofT rfl ?_
          | refine Branch.ofF rfl ?_
          | refine Branch.ofT (decide_eq_true (by omega)) ?_
          | refine Branch.dec (fun h => ?_) (fun h => ?_)
          | refine Branch.negdec (fun h => ?_) (fun h => ?_)
          | refine Branch.neg (fun h => ?_) (fun h => ?_)
          | refine Branch.mk (fun h => ?_) (fun h => ?_)
          | (refine Side.mk ?_ ?_; · first | omega | decide)
          | (refine SideD.mk ?_ ?_; · first | omega | decide)
          | refine ⟨_, Nat.lt_succ_self _, To.refl (.inl ⟨rfl, ?_⟩)⟩
          | refine Side.mk app0 ?_
          | (refine Side.mk ?_ ?_; · (simp; done))
          | fail
          )
      all_goals (conv => whnf)
      exact ⟨n - 1, by omega, To.gc [(0, true), (1, false), (2, true)] [0, 1, 4, 5, 6] rfl ⟨dat rfl, dat rfl, trivial⟩ ⟨1, by omega, rfl, rfl, .inr ⟨by omega, rfl⟩⟩⟩
    · have e : pc (List.replicate (f + 1) ⟨4, 0⟩) = pc (List.replicate f ⟨4, 0⟩) ++ [I 4, I 0] := by rw [List.replicate_succ', pc_app]; rfl
      have hd : ∀ c ∈ pc (List.replicate f ⟨4, 0⟩) ++ [I 4, I 0], noLoc c = true := by rw [← e]; exact pc_noLoc _
      repeat' ((conv => whnf); first
          | refine Branch.ofT rfl ?_
          | refine Branch.ofF rfl ?_
          | refine Branch.ofT (decide_eq_true (by omega)) ?_
          | refine Branch.dec (fun h => ?_) (fun h => ?_)
          | refine Branch.negdec (fun h => ?_) (fun h => ?_)
          | refine Branch.neg (fun h => ?_) (fun h => ?_)
          | refine Branch.mk (fun h => ?_) (fun h => ?_)
          | (refine Side.mk ?_ ?_; · first | omega | decide)
          | (refine SideD.mk ?_ ?_; · first | omega | decide)
          | refine ⟨_, Nat.lt_succ_self _, To.refl (.inl ⟨rfl, ?_⟩)⟩
          | refine Side.mk (app1 (by omega)) ?_
          | (refine Side.mk ?_ ?_; · (simp; done))
          | fail
          )
      all_goals (conv => whnf)
      exact ⟨n - (f + 1), by omega, To.gc [(0, true), (1, false), (3, true)] [0, 1, 4, 5, 6] rfl ⟨dat rfl, hd, trivial⟩ ⟨f + 1, by omega, rfl, rfl, .inr ⟨by omega, by rw [e]; rfl⟩⟩⟩
  · have : f = n := by omega
    subst this
    rcases hH with ⟨h, _⟩ | ⟨_, rfl⟩
    · omega
    · repeat' ((conv => whnf); first
          | refine Branch.ofT rfl ?_
          | refine Branch.ofF rfl ?_
          | refine Branch.ofF (decide_eq_false (by omega)) ?_
          | refine Branch.dec (fun h => ?_) (fun h => ?_)
          | refine Branch.negdec (fun h => ?_) (fun h => ?_)
          | refine Branch.neg (fun h => ?_) (fun h => ?_)
          | refine Branch.mk (fun h => ?_) (fun h => ?_)
          | (refine Side.mk ?_ ?_; · first | omega | decide)
          | (refine SideD.mk ?_ ?_; · first | omega | decide)
          | refine ⟨_, Nat.lt_succ_self _, To.refl (.inl ⟨rfl, ?_⟩)⟩
          | (refine Side.mk ?_ ?_; · (simp; done))
          | fail
          )
      all_goals (conv => whnf)
      refine RetA.pub 2 rfl (pc_noLoc _) ?_
      refine RetA.data rfl ⟨?_, rfl⟩
      show AV.agg [.dslice (((pc (List.replicate f ⟨4, 0⟩)).drop 0).take (f * 2)) f none, I 0, I 0, I 0] = _
      rw [List.drop_zero, pc_takeN, List.take_replicate, Nat.min_self]
theorem c10_ok (n : Nat) (st : Int) (h : ¬ newBad n st) : CallA Tryd.prog 10 [I n, I st] Heap.nil fun v H' => v = .agg [.dslice (pc (List.replicate n ⟨st, 0⟩)) n none, I 0, I 0, I 0] ∧ H' = Heap.nil := by
  unfold newBad at h
  have hst : st = 1 ∨ st = 2 ∨ st = 4 := by omega
  rcases hst with rfl | rfl | rfl
  · exact c10_1 n (by omega) (by omega)
  · exact c10_2 n (by omega) (by omega)
  · exact c10_4 n (by omega) (by omega)
end Go.Proofs

namespace Go.Proofs
open Go Go.Eng
set_option maxRecDepth 100000
set_option maxHeartbeats 4000000
/-! ### The law: places are as specified -/
theorem _root_.Go.Eng.CallA.res {P : Program} {f : FuncId} {args : List AV} {H X : Heap} {V V' : AV} (h : CallA P f args H fun v H' => v = V ∧ H' = X) (hw : ∀ M μ u, relV M V μ u → relV M V' μ u) : CallA P f args H fun v H' => v = V' ∧ H' = X := by
  refine ⟨h.ok, fun M μ w vs R hv => (h.run M μ w vs R hv).mono ?_⟩
  rintro e w' ⟨v, M', μ', H', c, rfl, R', hv', G, rfl, rfl⟩
  exact ⟨v, _, _, _, _, rfl, R', hw _ _ _ hv', G, rfl, rfl⟩
theorem nils_w {M : Mem} {μ : Pos} {u : Value} (h : relV M .nils μ u) : relV M (.dslice [] 0 none) μ u := Weak.nil.rel h
theorem c11s (l : List Pl) (cap cap' : Option Nat) (hl : l.length ≤ 1000) : CallA Tryd.prog 11 [pgs l cap, .agg [.dslice (pc l) l.length cap']] Heap.nil fun v H' => v = .bool true ∧ H' = Heap.nil := by
  have := c11 l l cap cap' hl hl
  rw [sameB_t rfl] at this
  exact this
theorem cNew (pages st : Int) : ∃ (nl : List Pl) (c1 c2 : Option Nat) (e : Int), nl.length ≤ 1000 ∧
    (CallA Tryd.prog 9 [I pages, I st] Heap.nil fun v H' => v = .tuple [pgs nl c1, I e] ∧ H' = Heap.nil) ∧
    (CallA Tryd.prog 10 [I pages, I st] Heap.nil fun v H' => v = .agg [.dslice (pc nl) nl.length c2, I 0, I 0, I e] ∧ H' = Heap.nil) := by
  by_cases hb : newBad pages st
  · refine ⟨[], none, none, 1, by simp, (c9_bad pages st hb).res ?_, (c10_bad pages st hb).res ?_⟩
    · rintro M μ u h
      simp only [relV, relL, pgs, pc] at h ⊢
      obtain ⟨vs, rfl, w, r, h1, ⟨ws, rfl, x, y, h2, h3, h4⟩, h5⟩ := h
      exact ⟨vs, rfl, _, r, h1, ⟨ws, rfl, x, y, h2, .inr (.inl ⟨h3, rfl, trivial, by simp⟩), h4⟩, h5⟩
    · rintro M μ u h
      simp only [relV, relL, pc] at h ⊢
      obtain ⟨vs, rfl, v, r, h1, h2, h3⟩ := h
      exact ⟨vs, rfl, v, r, h1, .inr (.inl ⟨h2, rfl, trivial, by simp⟩), h3⟩
  · have hp : pages = (pages.toNat : Nat) := by unfold newBad at hb; omega
    rw [hp] at hb ⊢
    have h64 : pages.toNat ≤ 64 := by unfold newBad at hb; omega
    refine ⟨List.replicate pages.toNat ⟨st, 0⟩, some pages.toNat, none, 0, by rw [List.length_replicate]; omega, c9_ok _ _ hb, ?_⟩
    have := c10_ok _ _ hb
    rw [List.length_replicate]; exact this
theorem c3 (l : List Pl) (cap cu : Option Nat) (pages st pg slot hand : Int) (us : List Bool) : CallA Tryd.prog 3 [pgs l cap, I pages, I st, I pg, I slot, I hand, .dslice (bcs us) us.length cu] Heap.nil fun v H' => v = .bool true ∧ H' = Heap.nil := by
  refine callA_of ok3 (Nat.le_of_ble_eq_true rfl) ?_
  by_cases hs : 80 < l.length ∨ 80 < us.length
  · repeat' ((conv => whnf); first
        | refine Branch.ofT rfl ?_
        | refine Branch.ofF rfl ?_
        | refine Branch.ofT (decide_eq_true (by omega)) ?_
        | refine Branch.ofF (decide_eq_false (by omega)) ?_
        | refine Branch.dec (fun h => ?_) (fun h => ?_)
        | refine Branch.negdec (fun h => ?_) (fun h => ?_)
        | refine Branch.neg (fun h => ?_) (fun h => ?_)
        | refine Branch.mk (fun h => ?_) (fun h => ?_)
        | (refine Side.mk ?_ ?_; · first | omega | decide)
        | (refine SideD.mk ?_ ?_; · first | omega | decide)
        | refine ⟨_, Nat.lt_succ_self _, To.refl (.inl ⟨rfl, ?_⟩)⟩
        | refine CallA.pure c8 rfl rfl ?_
        | (refine Side.mk ?_ ?_; · (simp; done))
        | fail
        )
    all_goals (conv => whnf)
    all_goals exact RetA.data rfl ⟨rfl, rfl⟩
  · obtain ⟨nl, k1, k2, e, hnl, h9, h10⟩ := cNew pages st
    have h11 := c11s nl k1 k2 hnl
    have h12 := c12 l cap (by omega)
    have h13 := c13 l cap
    by_cases hv : RV l
    · rw [rvB_t hv] at h12 h13
      have h0 : 0 < l.length := hv.one
      have h14 := c14 l cap cu hand us h0 (by omega) (by omega)
      have h17 := c17 l cap cu hand us h0 (by omega) (by omega)
      have h15 := c15 l cap pg slot (by omega)
      have h18 := c18 l cap pg slot (by omega)
      have h16 := c16 l cap pg (by omega)
      have h19 := c19 l cap pg (by omega)
      have h20 := c20 l cap st (by omega)
      have h21 := c21 l cap st (by omega)
      obtain ⟨v, b, hv1, hv2⟩ : ∃ (v : Int) (b : Bool), victV (vict l hand us) = .tuple [I v, .bool b] ∧ victR (vict l hand us) = .agg [I v, .bool b] := by
        cases vict l hand us with
        | none => exact ⟨0, false, rfl, rfl⟩
        | some i => exact ⟨i, true, rfl, rfl⟩
      rw [hv1] at h14
      rw [hv2] at h17
      have hgl : (giveP l pg slot).length = l.length := by unfold giveP; split <;> simp
      have htl : (takeP l pg).length = l.length := by unfold takeP; split <;> simp
      have hg := c11s (giveP l pg slot) (giveC l cap pg slot) (giveC l cap pg slot) (by omega)
      have ht := c11s (takeP l pg) (takeC l cap pg) (takeC l cap pg) (by omega)
      generalize giveP l pg slot = gp at *
      generalize giveC l cap pg slot = gc at *
      generalize giveE l pg slot = ge at *
      generalize takeP l pg = tp at *
      generalize takeC l cap pg = tc at *
      generalize takeE l pg = te at *
      generalize takeW l pg = tw at *
      obtain ⟨ws, wn⟩ := tw
      generalize cnt l st = n at *
      repeat' ((conv => whnf); first
          | refine Branch.ofT rfl ?_
          | refine Branch.ofF rfl ?_
          | refine Branch.ofT (decide_eq_true (by omega)) ?_
          | refine Branch.ofF (decide_eq_false (by omega)) ?_
          | refine Branch.negdec (fun hn => absurd rfl hn) (fun _ => ?_)
          | refine Branch.dec (fun h => ?_) (fun h => ?_)
          | refine Branch.negdec (fun h => ?_) (fun h => ?_)
          | refine Branch.neg (fun h => ?_) (fun h => ?_)
          | refine Branch.mk (fun h => ?_) (fun h => ?_)
          | (refine Side.mk ?_ ?_; · first | omega | decide)
          | (refine SideD.mk ?_ ?_; · first | omega | decide)
          | refine ⟨_, Nat.lt_succ_self _, To.refl (.inl ⟨rfl, ?_⟩)⟩
          | refine CallA.pure h9 rfl rfl ?_
          | refine CallA.pure h10 rfl rfl ?_
          | refine QCallA.of h11 rfl rfl ?_
          | refine QCallA.of h12 rfl rfl ?_
          | refine QCallA.of h13 rfl rfl ?_
          | refine CallA.pure h13 rfl rfl ?_
          | refine CallA.pure h14 rfl rfl ?_
          | refine CallA.pure h15 rfl rfl ?_
          | refine CallA.pure h16 rfl rfl ?_
          | refine CallA.pure h17 rfl rfl ?_
          | refine CallA.pure h18 rfl rfl ?_
          | refine CallA.pure h19 rfl rfl ?_
          | refine CallA.pure hg rfl rfl ?_
          | refine CallA.pure ht rfl rfl ?_
          | refine QCallA.of c8 rfl rfl ?_
          | refine QCallA.of h20 rfl rfl ?_
          | refine QCallA.of h21 rfl rfl ?_
          | (refine Side.mk ?_ ?_; · (simp; done))
          | fail
          )
      all_goals (conv => whnf)
      all_goals first | (refine RetA.data rfl ⟨?_, rfl⟩; show AV.bool (decide (_ = _)) = _; rw [decide_eq_true rfl]; done) | (exfalso; simp_all; done)
    · rw [rvB_f hv] at h12 h13
      repeat' ((conv => whnf); first
          | refine Branch.ofT rfl ?_
          | refine Branch.ofF rfl ?_
          | refine Branch.ofT (decide_eq_true (by omega)) ?_
          | refine Branch.ofF (decide_eq_false (by omega)) ?_
          | refine Branch.negdec (fun hn => absurd rfl hn) (fun _ => ?_)
          | refine Branch.dec (fun h => ?_) (fun h => ?_)
          | refine Branch.negdec (fun h => ?_) (fun h => ?_)
          | refine Branch.neg (fun h => ?_) (fun h => ?_)
          | refine Branch.mk (fun h => ?_) (fun h => ?_)
          | (refine Side.mk ?_ ?_; · first | omega | decide)
          | (refine SideD.mk ?_ ?_; · first | omega | decide)
          | refine ⟨_, Nat.lt_succ_self _, To.refl (.inl ⟨rfl, ?_⟩)⟩
          | refine CallA.pure h9 rfl rfl ?_
          | refine CallA.pure h10 rfl rfl ?_
          | refine QCallA.of h11 rfl rfl ?_
          | refine QCallA.of h12 rfl rfl ?_
          | refine QCallA.of h13 rfl rfl ?_
          | refine CallA.pure h13 rfl rfl ?_
          | refine CallA.pure c8 rfl rfl ?_
          | (refine Side.mk ?_ ?_; · (simp; done))
          | fail
          )
      all_goals (conv => whnf)
      all_goals exact RetA.data rfl ⟨rfl, rfl⟩
end Go.Proofs

namespace Go.Proofs
open Go Go.Eng
set_option maxRecDepth 100000
set_option maxHeartbeats 4000000
/-! ### The law: one page moves -/
structure Free (l : List Pl) (t : Int) (i : Nat) : Prop where
  no : ∀ j (h : j < l.length), j < i → ¬ (l[j].s = 3 ∧ l[j].n = t)
theorem hold_no : ∀ (l : List Pl) (t : Int) (a : Nat), (∀ j (h : j < l.length), ¬ (l[j].s = 3 ∧ l[j].n = t)) → hold l t a = -1
  | [], _, _, _ => rfl
  | x :: r, t, a, h => by
    rw [hold, if_neg (show ¬ (x.s = 3 ∧ x.n = t) from h 0 (by simp))]
    exact hold_no r t (a + 1) fun j hj => h (j + 1) (by simpa using hj)
theorem RV_set {l : List Pl} {k : Nat} {x : Pl} (hv : RV l) (hk : k < l.length) (hx : x.ok) (hf : x.s = 3 → Free l x.n l.length) : RV (l.set k x) := by
  refine ⟨by rw [List.length_set]; exact hv.one, by rw [List.length_set]; exact hv.many, fun i hi => ?_⟩
  rw [List.length_set] at hi
  by_cases hik : k = i
  · subst hik
    rw [List.getElem_set_self]
    refine ⟨hx, fun h3 => ?_⟩
    have := hold_first (l.set k x) x.n 0 k (by rw [List.length_set]; exact hk) (by rw [List.getElem_set_self]; exact h3) (by rw [List.getElem_set_self]) fun j hj hjk => by
      rw [List.getElem_set_ne (by omega)]
      rw [List.length_set] at hj
      exact (hf h3).no j hj hj
    rw [this]; omega
  · have e : (l.set k x)[i]'(by rw [List.length_set]; exact hi) = l[i] := List.getElem_set_ne hik _
    rw [e]
    obtain ⟨h1, h2⟩ := hv.all i hi
    refine ⟨h1, fun h3 => ?_⟩
    have := hold_first (l.set k x) l[i].n 0 i (by rw [List.length_set]; exact hi) (by rw [e]; exact h3) (by rw [e]) fun j hj hji => by
      rw [List.length_set] at hj
      by_cases hjk : k = j
      · subst hjk
        rw [List.getElem_set_self]
        rintro ⟨h4, h5⟩
        exact (hf h4).no i hi hi ⟨h3, h5.symm⟩
      · rw [List.getElem_set_ne hjk]
        rintro ⟨h4, h5⟩
        obtain ⟨m, hm1, hm2⟩ := hold_before l l[i].n 0 j hj h4 h5
        have := h2 h3
        omega
    rw [this]; omega
theorem i64r {n : Int} (h : -1000000 ≤ n) (k : n ≤ 1000000) : IntKind.i64.min ≤ n ∧ n ≤ IntKind.i64.max := by
  have e1 : IntKind.i64.min = -9223372036854775808 := rfl
  have e2 : IntKind.i64.max = 9223372036854775807 := rfl
  omega
def L4a (l : List Pl) (cap : Option Nat) (k : Nat) (t : Int) (z : Bool) (m : Nat) (fr : Fr) (H : Heap) : Prop := ∃ i : Nat, i ≤ l.length ∧ m = l.length - i ∧ Free l t i ∧ fr = [(3, .bool z), (4, .ptr 0 0), (9, I k), (10, I t), (11, I i)] ∧ H = HP l cap
def H4b (l b : List Pl) (cap : Option Nat) (w : Pl) : Heap := ⟨4, [(0, .cells [.dslice (pc l) l.length cap]), (1, .cells [.dslice (pc l) l.length cap]), (2, .cells [.dslice (pc b) b.length none]), (3, .cells [I w.s, I w.n])]⟩
def L4b (l b : List Pl) (cap : Option Nat) (k : Nat) (w : Pl) (m : Nat) (fr : Fr) (H : Heap) : Prop := ∃ i : Nat, i ≤ l.length ∧ m = l.length - i ∧ fr = [(4, .ptr 0 0), (9, I k), (13, .ptr 1 0), (14, I 4), (15, .ptr 2 0), (16, .ptr 3 0), (17, I 0), (18, I i)] ∧ H = H4b l b cap w
def H4c (l b : List Pl) (cap : Option Nat) (s n : Int) : Heap := ⟨3, [(0, .cells [.dslice (pc l) l.length cap]), (1, .cells [I s, I n]), (2, .cells [.dslice (pc b) b.length none])]⟩
def L4c (l b : List Pl) (cap : Option Nat) (k : Nat) (s n : Int) (m : Nat) (fr : Fr) (H : Heap) : Prop := ∃ i : Nat, i ≤ l.length ∧ m = l.length - i ∧ fr = [(4, .ptr 0 0), (9, I k), (12, .ptr 1 0), (13, .ptr 2 0), (19, I i)] ∧ H = H4c l b cap s n
theorem c4 (l : List Pl) (cap : Option Nat) (page slot : Int) (z : Bool) (hp : 0 ≤ page ∧ page ≤ 255) (hs : 0 ≤ slot ∧ slot ≤ 65535) : CallA Tryd.prog 4 [pgs l cap, .int .u8 page, .int .u16 slot, .bool z] Heap.nil fun v H' => v = .bool true ∧ H' = Heap.nil := by
  refine callA_of ok4 (Nat.le_of_ble_eq_true rfl) ?_
  have h13 := c13 l cap
  by_cases hv : RV l
  · rw [rvB_t hv] at h13
    have h0 : 0 < l.length := hv.one
    have hl : l.length ≤ 64 := hv.many
    obtain ⟨k, hk, hkl⟩ : ∃ k : Nat, page % (l.length : Int) = k ∧ k < l.length := by
      have := Int.emod_nonneg page (show (l.length : Int) ≠ 0 by omega)
      have := Int.emod_lt_of_pos page (show (0 : Int) < l.length by omega)
      exact ⟨(page % (l.length : Int)).toNat, by omega, by omega⟩
    repeat' ((conv => whnf); first
        | refine Branch.ofT rfl ?_
        | refine Branch.ofF rfl ?_
        | refine Branch.ofF (decide_eq_false (by omega)) ?_
        | refine Branch.dec (fun h => ?_) (fun h => ?_)
        | refine Branch.negdec (fun h => ?_) (fun h => ?_)
        | refine Branch.neg (fun h => ?_) (fun h => ?_)
        | refine Branch.mk (fun h => ?_) (fun h => ?_)
        | (refine Side.mk ?_ ?_; · first | omega | decide)
        | (refine SideD.mk ?_ ?_; · first | omega | decide)
        | refine ⟨_, Nat.lt_succ_self _, To.refl (.inl ⟨rfl, ?_⟩)⟩
        | refine CallA.pure h13 rfl rfl ?_
        | refine Side.mk (i64r (by omega) (by omega)) ?_
        | (refine Side.mk ?_ ?_; · (simp; done))
        | fail
        )
    all_goals (conv => whnf)
    refine ⟨L4a l cap k slot z, l.length, To.gc [(0, true)] [3, 4, 9, 10, 11] rfl ⟨dat rfl, trivial⟩ ⟨0, by omega, by omega, ⟨fun j h hj => by omega⟩, by rw [← hk]; rfl, rfl⟩, ?_⟩
    rintro m fr H ⟨i, hi, rfl, hF, rfl, rfl⟩
    by_cases hil : i < l.length
    · have hat := pc_at i l hil
      have next : ∀ (h : ¬ (l[i].s = 3 ∧ l[i].n = slot)), Free l slot (i + 1) := fun h => ⟨fun j hj hji => by
        rcases Nat.lt_succ_iff_lt_or_eq.1 hji with q | rfl
        · exact hF.no j hj q
        · exact h⟩
      repeat' ((conv => whnf); first
          | refine Branch.ofT rfl ?_
          | refine Branch.ofF rfl ?_
          | refine Branch.ofT (decide_eq_true (by omega)) ?_
          | refine Branch.dec (fun h => ?_) (fun h => ?_)
          | refine Branch.negdec (fun h => ?_) (fun h => ?_)
          | refine Branch.neg (fun h => ?_) (fun h => ?_)
          | refine Branch.mk (fun h => ?_) (fun h => ?_)
          | (refine Side.mk ?_ ?_; · first | omega | decide)
          | (refine SideD.mk ?_ ?_; · first | omega | decide)
          | refine ⟨_, Nat.lt_succ_self _, To.refl (.inl ⟨rfl, ?_⟩)⟩
          | refine nthA hat ?_
          | refine nthB hat ?_
          | refine CallA.pure c8 rfl rfl ?_
          | (refine Side.mk ?_ ?_; · (simp; done))
          | fail
          )
      all_goals (conv => whnf)
      · exact RetA.data rfl ⟨rfl, rfl⟩
      · exact ⟨l.length - (i + 1), by omega, To.gc [(0, true)] [3, 4, 9, 10, 11] rfl ⟨dat rfl, trivial⟩ ⟨i + 1, by omega, rfl, next (fun e => h e.2), rfl, rfl⟩⟩
      · exact ⟨l.length - (i + 1), by omega, To.gc [(0, true)] [3, 4, 9, 10, 11] rfl ⟨dat rfl, trivial⟩ ⟨i + 1, by omega, rfl, next (fun e => h e.1), rfl, rfl⟩⟩
    · have : i = l.length := by omega
      subst this
      have hat := pc_at k l hkl
      have hgd := getD_at hkl
      obtain ⟨t, ht⟩ : ∃ t : Int, t = if z then -1 else slot := ⟨_, rfl⟩
      have hh : hold l slot 0 = -1 := hold_no l slot 0 fun j hj => hF.no j hj hj
      have hw : to t = if z then ⟨2, 0⟩ else ⟨3, slot⟩ := by
        subst ht; unfold to; cases z
        · simp only [Bool.false_eq_true, if_false]; rw [if_neg (by omega)]
        · simp
      have h15 := c15 l cap k t (by omega)
      have h16 := c16 l cap k (by omega)
      have hgE : giveE l k t = if l[k].s = 1 then 0 else 4 := by
        unfold giveE
        rw [if_neg (by omega), if_neg (by
          subst ht
          cases z
          · simp only [Bool.false_eq_true, if_false, hh]; omega
          · simp), Int.toNat_natCast, hgd]
        by_cases hs1 : l[k].s = 1
        · rw [if_pos hs1, if_neg (by simpa using hs1)]
        · rw [if_neg hs1, if_pos hs1]
      have htE : takeE l k = if l[k].s = 1 then 4 else 0 := by
        unfold takeE
        rw [if_neg (by omega), Int.toNat_natCast, hgd]
      by_cases hs1 : l[k].s = 1
      · rw [if_pos hs1] at hgE htE
        rw [(give_ok (cap := cap) hgE).1, (give_ok (cap := cap) hgE).2, hgE, Int.toNat_natCast] at h15
        obtain ⟨t1, t2, t3⟩ := take_err (cap := cap) htE (by decide)
        rw [t1, t2, t3, htE] at h16
        generalize to t = w at hw h15
        obtain ⟨b, hb⟩ : ∃ b, b = l.set k w := ⟨_, rfl⟩
        have hbl : b.length = l.length := by rw [hb, List.length_set]
        have hbk : b[k] = w := by subst hb; exact List.getElem_set_self _
        have hbv : RV b := by
          rw [hb]
          refine RV_set hv hkl ?_ ?_
          · cases z <;> simp only [Bool.false_eq_true, if_false, if_true] at hw <;> subst hw
            · exact ⟨by show ¬ (3 : Int) < 1; decide, by show ¬ (3 : Int) > 4; decide, by show ¬ slot < 0; omega, fun h => absurd rfl h⟩
            · exact ⟨by decide, by decide, by decide, fun _ => rfl⟩
          · intro h3
            cases z <;> simp only [Bool.false_eq_true, if_false, if_true] at hw <;> subst hw
            · exact hF
            · exact absurd h3 (by decide)
        have hws : w.s ≠ 1 := by cases z <;> simp only [Bool.false_eq_true, if_false, if_true] at hw <;> subst hw <;> simp
        have h12 := c12 b none (by omega)
        rw [rvB_t hbv] at h12
        rw [← hb] at h15
        have hlk : l[k] = ⟨1, 0⟩ := Pl.ext hs1 ((hv.all k hkl).1.2.2.2 (by rw [hs1]; decide))
        have hbs : b.set k ⟨1, 0⟩ = l := by
          rw [hb, List.set_set, ← hlk, List.set_getElem_self]
        have htE2 : takeE b k = 0 := by
          unfold takeE
          rw [if_neg (by omega), Int.toNat_natCast, getD_at (by omega), hbk, if_neg hws]
        obtain ⟨t4, t5, t6⟩ := take_ok (cap := none) htE2
        have h16b := c16 b none k (by omega)
        rw [t4, t5, t6, htE2, Int.toNat_natCast, hbs, getD_at (by omega), hbk] at h16b
        have h11 := c11s l none cap (by omega)
        cases z <;> simp only [Bool.false_eq_true, if_false, if_true] at ht hw <;> subst ht <;> subst hw
        all_goals
          repeat' ((conv => whnf); first
              | refine Branch.ofT rfl ?_
              | refine Branch.ofF rfl ?_
              | refine Branch.ofF (decide_eq_false (by omega)) ?_
              | refine Branch.negdec (fun hn => absurd hs1 hn) (fun _ => ?_)
              | refine Branch.negdec (fun hn => absurd (by omega) hn) (fun _ => ?_)
              | refine Branch.dec (fun h => ?_) (fun h => ?_)
              | refine Branch.negdec (fun h => ?_) (fun h => ?_)
              | refine Branch.neg (fun h => ?_) (fun h => ?_)
              | refine Branch.mk (fun h => ?_) (fun h => ?_)
              | (refine Side.mk ?_ ?_; · first | omega | decide)
              | (refine SideD.mk ?_ ?_; · first | omega | decide)
              | refine ⟨_, Nat.lt_succ_self _, To.refl (.inl ⟨rfl, ?_⟩)⟩
              | refine CallA.pure h15 rfl rfl ?_
              | refine CallA.pure h16 rfl rfl ?_
              | refine CallA.pure h12 rfl rfl ?_
              | refine nthA hat ?_
              | (refine Side.mk ?_ ?_; · (simp; done))
              | fail
              )
          all_goals (conv => whnf)
        all_goals
          refine ⟨L4c l b cap k _ _, l.length, To.gc [(0, true), (1, true), (2, true)] [4, 9, 12, 13, 19] rfl ⟨dat rfl, dat rfl, dat rfl, trivial⟩ ⟨0, by omega, by omega, rfl, rfl⟩, ?_⟩
          rintro m fr H ⟨i, hi, rfl, rfl, rfl⟩
          by_cases hil : i < l.length
          · have hli := pc_at i l hil
            have hbi := pc_at i b (by omega)
            by_cases hik : i = k
            · subst hik
              rw [hbk] at hbi
              repeat' ((conv => whnf); first
                  | refine Branch.ofT rfl ?_
                  | refine Branch.ofF rfl ?_
                  | refine Branch.ofT (decide_eq_true (by omega)) ?_
                  | refine Branch.negdec (fun hn => absurd (by omega) hn) (fun _ => ?_)
                  | refine Branch.dec (fun h => ?_) (fun h => ?_)
                  | refine Branch.negdec (fun h => ?_) (fun h => ?_)
                  | refine Branch.neg (fun h => ?_) (fun h => ?_)
                  | refine Branch.mk (fun h => ?_) (fun h => ?_)
                  | (refine Side.mk ?_ ?_; · first | omega | decide)
                  | (refine SideD.mk ?_ ?_; · first | omega | decide)
                  | refine ⟨_, Nat.lt_succ_self _, To.refl (.inl ⟨rfl, ?_⟩)⟩
                  | refine tk2 hli ?_
                  | refine tk2 hbi ?_
                  | refine nthA hbi ?_
                  | (refine Side.mk ?_ ?_; · (simp; done))
                  | fail
                  )
              all_goals (conv => whnf)
              all_goals first
                | exact ⟨l.length - (i + 1), by omega, To.gc [(0, true), (1, true), (2, true)] [4, 9, 12, 13, 19] rfl ⟨dat rfl, dat rfl, dat rfl, trivial⟩ ⟨i + 1, by omega, rfl, rfl, rfl⟩⟩
                | (exfalso; simp at h; done)
            · have e : b[i] = l[i] := by subst hb; exact List.getElem_set_ne (fun h => hik h.symm) _
              rw [e] at hbi
              repeat' ((conv => whnf); first
                  | refine Branch.ofT rfl ?_
                  | refine Branch.ofF rfl ?_
                  | refine Branch.ofT (decide_eq_true (by omega)) ?_
                  | refine Branch.ofF (decide_eq_false (by omega)) ?_
                  | refine Branch.negdec (fun _ => ?_) (fun hn => absurd hn (by omega))
                  | refine Branch.negdec (fun hn => absurd (by omega) hn) (fun _ => ?_)
                  | refine Branch.dec (fun h => ?_) (fun h => ?_)
                  | refine Branch.negdec (fun h => ?_) (fun h => ?_)
                  | refine Branch.neg (fun h => ?_) (fun h => ?_)
                  | refine Branch.mk (fun h => ?_) (fun h => ?_)
                  | (refine Side.mk ?_ ?_; · first | omega | decide)
                  | (refine SideD.mk ?_ ?_; · first | omega | decide)
                  | refine ⟨_, Nat.lt_succ_self _, To.refl (.inl ⟨rfl, ?_⟩)⟩
                  | refine tk2 hli ?_
                  | refine tk2 hbi ?_
                  | refine nthA hbi ?_
                  | (refine Side.mk ?_ ?_; · (simp; done))
                  | fail
                  )
              all_goals (conv => whnf)
              all_goals first
                | exact ⟨l.length - (i + 1), by omega, To.gc [(0, true), (1, true), (2, true)] [4, 9, 12, 13, 19] rfl ⟨dat rfl, dat rfl, dat rfl, trivial⟩ ⟨i + 1, by omega, rfl, rfl, rfl⟩⟩
                | (exfalso; simp at h; done)
          · have : i = l.length := by omega
            subst this
            repeat' ((conv => whnf); first
                | refine Branch.ofT rfl ?_
                | refine Branch.ofF rfl ?_
                | refine Branch.ofF (decide_eq_false (by omega)) ?_
                | refine Branch.dec (fun h => ?_) (fun h => ?_)
                | refine Branch.negdec (fun h => ?_) (fun h => ?_)
                | refine Branch.neg (fun h => ?_) (fun h => ?_)
                | refine Branch.mk (fun h => ?_) (fun h => ?_)
                | (refine Side.mk ?_ ?_; · first | omega | decide)
                | (refine SideD.mk ?_ ?_; · first | omega | decide)
                | refine ⟨_, Nat.lt_succ_self _, To.refl (.inl ⟨rfl, ?_⟩)⟩
                | refine CallA.pure c8 rfl rfl ?_
                | refine CallA.pure h11 rfl rfl ?_
                | refine CallA.pure h16b rfl rfl ?_
                | refine tk2 hat ?_
                | (refine Side.mk ?_ ?_; · (simp; done))
                | fail
                )
            all_goals (conv => whnf)
            all_goals first | exact RetA.data rfl ⟨rfl, rfl⟩ | (exfalso; simp at h; done)
      · rw [if_neg hs1] at hgE htE
        rw [(give_err (cap := cap) hgE (by decide)).1, (give_err (cap := cap) hgE (by decide)).2, hgE] at h15
        obtain ⟨t1, t2, t3⟩ := take_ok (cap := cap) htE
        rw [t1, t2, t3, htE, Int.toNat_natCast, hgd] at h16
        obtain ⟨b, hb⟩ : ∃ b, b = l.set k ⟨1, 0⟩ := ⟨_, rfl⟩
        have hbl : b.length = l.length := by rw [hb, List.length_set]
        have hbv : RV b := by rw [hb]; exact RV_set hv hkl ⟨by decide, by decide, by decide, fun _ => rfl⟩ (fun h => absurd h (by decide))
        have h12 := c12 b none (by omega)
        rw [rvB_t hbv] at h12
        have h11 := c11s l cap cap (by omega)
        rw [← hb] at h16
        obtain ⟨w, hw⟩ : ∃ w, w = l[k] := ⟨_, rfl⟩
        rw [← hw] at h16 hat hs1
        cases z <;> simp only [Bool.false_eq_true, if_false, if_true] at ht <;> subst ht
        all_goals
          repeat' ((conv => whnf); first
              | refine Branch.ofT rfl ?_
              | refine Branch.ofF rfl ?_
              | refine Branch.ofF (decide_eq_false (by omega)) ?_
              | refine Branch.negdec (fun _ => ?_) (fun hn => absurd hn hs1)
              | refine Branch.dec (fun h => ?_) (fun h => ?_)
              | refine Branch.negdec (fun h => ?_) (fun h => ?_)
              | refine Branch.neg (fun h => ?_) (fun h => ?_)
              | refine Branch.mk (fun h => ?_) (fun h => ?_)
              | (refine Side.mk ?_ ?_; · first | omega | decide)
              | (refine SideD.mk ?_ ?_; · first | omega | decide)
              | refine ⟨_, Nat.lt_succ_self _, To.refl (.inl ⟨rfl, ?_⟩)⟩
              | refine CallA.pure h15 rfl rfl ?_
              | refine CallA.pure h16 rfl rfl ?_
              | refine nthA hat ?_
              | (refine Side.mk ?_ ?_; · (simp; done))
              | fail
              )
          all_goals (conv => whnf)
        all_goals
          refine ⟨L4b l b cap k w, l.length, To.gc [(0, true), (2, true), (3, true), (4, true)] [4, 9, 13, 14, 15, 16, 17, 18] rfl ⟨dat rfl, dat rfl, dat rfl, dat rfl, trivial⟩ ⟨0, by omega, by omega, rfl, rfl⟩, ?_⟩
          rintro m fr H ⟨i, hi, rfl, rfl, rfl⟩
          by_cases hil : i < l.length
          · have hli := pc_at i l hil
            have hbi := pc_at i b (by omega)
            by_cases hik : i = k
            · subst hik
              have e : b[i] = ⟨1, 0⟩ := by subst hb; exact List.getElem_set_self _
              rw [e] at hbi
              repeat' ((conv => whnf); first
                  | refine Branch.ofT rfl ?_
                  | refine Branch.ofF rfl ?_
                  | refine Branch.ofT (decide_eq_true (by omega)) ?_
                  | refine Branch.negdec (fun hn => absurd (by omega) hn) (fun _ => ?_)
                  | refine Branch.dec (fun h => ?_) (fun h => ?_)
                  | refine Branch.negdec (fun h => ?_) (fun h => ?_)
                  | refine Branch.neg (fun h => ?_) (fun h => ?_)
                  | refine Branch.mk (fun h => ?_) (fun h => ?_)
                  | (refine Side.mk ?_ ?_; · first | omega | decide)
                  | (refine SideD.mk ?_ ?_; · first | omega | decide)
                  | refine ⟨_, Nat.lt_succ_self _, To.refl (.inl ⟨rfl, ?_⟩)⟩
                  | refine tk2 hli ?_
                  | refine tk2 hbi ?_
                  | refine nthA hbi ?_
                  | (refine Side.mk ?_ ?_; · (simp; done))
                  | fail
                  )
              all_goals (conv => whnf)
              all_goals first
                | exact ⟨l.length - (i + 1), by omega, To.gc [(0, true), (1, true), (2, true), (3, true)] [4, 9, 13, 14, 15, 16, 17, 18] rfl ⟨dat rfl, dat rfl, dat rfl, dat rfl, trivial⟩ ⟨i + 1, by omega, rfl, rfl, rfl⟩⟩
            · have e : b[i] = l[i] := by subst hb; exact List.getElem_set_ne (fun h => hik h.symm) _
              rw [e] at hbi
              repeat' ((conv => whnf); first
                  | refine Branch.ofT rfl ?_
                  | refine Branch.ofF rfl ?_
                  | refine Branch.ofT (decide_eq_true (by omega)) ?_
                  | refine Branch.ofF (decide_eq_false (by omega)) ?_
                  | refine Branch.negdec (fun _ => ?_) (fun hn => absurd hn (by omega))
                  | refine Branch.negdec (fun hn => absurd (by omega) hn) (fun _ => ?_)
                  | refine Branch.dec (fun h => ?_) (fun h => ?_)
                  | refine Branch.negdec (fun h => ?_) (fun h => ?_)
                  | refine Branch.neg (fun h => ?_) (fun h => ?_)
                  | refine Branch.mk (fun h => ?_) (fun h => ?_)
                  | (refine Side.mk ?_ ?_; · first | omega | decide)
                  | (refine SideD.mk ?_ ?_; · first | omega | decide)
                  | refine ⟨_, Nat.lt_succ_self _, To.refl (.inl ⟨rfl, ?_⟩)⟩
                  | refine tk2 hli ?_
                  | refine tk2 hbi ?_
                  | refine nthA hbi ?_
                  | (refine Side.mk ?_ ?_; · (simp; done))
                  | fail
                  )
              all_goals (conv => whnf)
              all_goals first
                | exact ⟨l.length - (i + 1), by omega, To.gc [(0, true), (1, true), (2, true), (3, true)] [4, 9, 13, 14, 15, 16, 17, 18] rfl ⟨dat rfl, dat rfl, dat rfl, dat rfl, trivial⟩ ⟨i + 1, by omega, rfl, rfl, rfl⟩⟩
                | (exfalso; simp at h; done)
          · have : i = l.length := by omega
            subst this
            repeat' ((conv => whnf); first
                | refine Branch.ofT rfl ?_
                | refine Branch.ofF rfl ?_
                | refine Branch.ofF (decide_eq_false (by omega)) ?_
                | refine Branch.dec (fun h => ?_) (fun h => ?_)
                | refine Branch.negdec (fun h => ?_) (fun h => ?_)
                | refine Branch.neg (fun h => ?_) (fun h => ?_)
                | refine Branch.mk (fun h => ?_) (fun h => ?_)
                | (refine Side.mk ?_ ?_; · first | omega | decide)
                | (refine SideD.mk ?_ ?_; · first | omega | decide)
                | refine ⟨_, Nat.lt_succ_self _, To.refl (.inl ⟨rfl, ?_⟩)⟩
                | refine QCallA.of c8 rfl rfl ?_
                | refine QCallA.of h11 rfl rfl ?_
                | refine QCallA.of h12 rfl rfl ?_
                | refine tk2 hat ?_
                | (refine Side.mk ?_ ?_; · (simp; done))
                | fail
                )
            all_goals (conv => whnf)
            all_goals first | exact RetA.data rfl ⟨rfl, rfl⟩ | (exfalso; simp at h; done)
  · rw [rvB_f hv] at h13
    repeat' ((conv => whnf); first
        | refine Branch.ofT rfl ?_
        | refine Branch.ofF rfl ?_
        | refine Branch.dec (fun h => ?_) (fun h => ?_)
        | refine Branch.negdec (fun h => ?_) (fun h => ?_)
        | refine Branch.neg (fun h => ?_) (fun h => ?_)
        | refine Branch.mk (fun h => ?_) (fun h => ?_)
        | (refine Side.mk ?_ ?_; · first | omega | decide)
        | (refine SideD.mk ?_ ?_; · first | omega | decide)
        | refine ⟨_, Nat.lt_succ_self _, To.refl (.inl ⟨rfl, ?_⟩)⟩
        | refine CallA.pure h13 rfl rfl ?_
        | refine CallA.pure c8 rfl rfl ?_
        | (refine Side.mk ?_ ?_; · (simp; done))
        | fail
        )
    all_goals (conv => whnf)
    exact RetA.data rfl ⟨rfl, rfl⟩
end Go.Proofs

