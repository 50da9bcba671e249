/- Part of a proof about the given program: lemmas that the other parts use. -/
import Derived.Test.YtligaclbjnccgaaDoorRPart6

set_option linter.all false
set_option linter.unusedSimpArgs false
set_option linter.unusedVariables false
namespace Go.Proofs
open Go Go.Eng
set_option maxRecDepth 100000
set_option maxHeartbeats 4000000
def newBad (n st : Int) : Prop := n < 1 ∨ 64 < n ∨ st = 3 ∨ st < 1 ∨ 4 < st
theorem c9_bad (n st : Int) (h : newBad n st) : CallA Tryd.prog 9 [I n, I st] Heap.nil fun v H' => v = .tuple [.agg [.nils], I 1] ∧ H' = Heap.nil := by
  unfold newBad at h
  refine callA_of ok9 (Nat.le_of_ble_eq_true rfl) ?_
  repeat' ((conv => whnf); first
      | refine Branch.ofT rfl ?_
      | refine Branch.ofF rfl ?_
      | refine Branch.dec (fun h => ?_) (fun h => ?_)
      | refine Branch.negdec (fun h => ?_) (fun h => ?_)
      | refine Branch.neg (fun h => ?_) (fun h => ?_)
      | refine Branch.mk (fun h => ?_) (fun h => ?_)
      | (refine Side.mk ?_ ?_; · first | omega | decide)
      | (refine SideD.mk ?_ ?_; · first | omega | decide)
      | refine ⟨_, Nat.lt_succ_self _, To.refl (.inl ⟨rfl, ?_⟩)⟩
      | (refine Side.mk ?_ ?_; · (simp; done))
      | fail
      )
  all_goals (conv => whnf)
  all_goals first
    | exact RetA.data rfl ⟨rfl, rfl⟩
    | (exfalso; omega)
theorem c9_ok (n : Nat) (st : Int) (h : ¬ newBad n st) : CallA Tryd.prog 9 [I n, I st] Heap.nil fun v H' => v = .tuple [pgs (List.replicate n ⟨st, 0⟩) (some n), I 0] ∧ H' = Heap.nil := by
  have hb := h
  unfold newBad at hb
  have h31 := c31 st n (by omega) (by omega)
  refine callA_of ok9 (Nat.le_of_ble_eq_true rfl) ?_
  repeat' ((conv => whnf); first
      | refine Branch.ofT rfl ?_
      | refine Branch.ofF rfl ?_
      | refine Branch.ofF (decide_eq_false (by omega)) ?_
      | refine Branch.dec (fun h => ?_) (fun h => ?_)
      | refine Branch.negdec (fun h => ?_) (fun h => ?_)
      | refine Branch.neg (fun h => ?_) (fun h => ?_)
      | refine Branch.mk (fun h => ?_) (fun h => ?_)
      | (refine Side.mk ?_ ?_; · first | omega | decide)
      | (refine SideD.mk ?_ ?_; · first | omega | decide)
      | refine ⟨_, Nat.lt_succ_self _, To.refl (.inl ⟨rfl, ?_⟩)⟩
      | refine CallA.pure h31 rfl rfl ?_
      | (refine Side.mk ?_ ?_; · (simp; done))
      | fail
      )
  all_goals (conv => whnf)
  refine RetA.data rfl ⟨?_, rfl⟩
  unfold pgs
  rw [List.length_replicate]; rfl
theorem c10_bad (n st : Int) (h : newBad n st) : CallA Tryd.prog 10 [I n, I st] Heap.nil fun v H' => v = .agg [.nils, I 0, I 0, I 1] ∧ H' = Heap.nil := by
  unfold newBad at h
  refine callA_of ok10 (Nat.le_of_ble_eq_true rfl) ?_
  repeat' ((conv => whnf); first
      | refine Branch.ofT rfl ?_
      | refine Branch.ofF rfl ?_
      | refine Branch.dec (fun h => ?_) (fun h => ?_)
      | refine Branch.negdec (fun h => ?_) (fun h => ?_)
      | refine Branch.neg (fun h => ?_) (fun h => ?_)
      | refine Branch.mk (fun h => ?_) (fun h => ?_)
      | (refine Side.mk ?_ ?_; · first | omega | decide)
      | (refine SideD.mk ?_ ?_; · first | omega | decide)
      | refine ⟨_, Nat.lt_succ_self _, To.refl (.inl ⟨rfl, ?_⟩)⟩
      | (refine Side.mk ?_ ?_; · (simp; done))
      | fail
      )
  all_goals (conv => whnf)
  all_goals first
    | exact RetA.data rfl ⟨rfl, rfl⟩
    | (exfalso; omega)
def L10 (n : Nat) (st : Int) (m : Nat) (fr : Fr) (H : Heap) : Prop := ∃ f : Nat, f ≤ n ∧ m = n - f ∧ fr = [(0, I n), (1, I st), (4, .ptr 0 0), (5, .ptr 1 0), (6, I f)] ∧
  ((f = 0 ∧ H = ⟨2, [(0, .cells [.nils, I 0, I 0, I 0]), (1, .cells [.nils])]⟩) ∨ (0 < f ∧ H = ⟨3, [(0, .cells [.nils, I 0, I 0, I 0]), (1, .cells [.slice 2 0 f none 2]), (2, .cells (pc (List.replicate f ⟨st, 0⟩)))]⟩))
theorem app0 {a b : Int} : fits 1 16 ∧ ∀ c ∈ ([I a, I b] : List AV).take (1 * 2), scal c = true := ⟨by unfold fits; omega, by simp [scal]⟩
theorem app1 {f : Nat} {x : Pl} {a b : Int} (h : f ≤ 64) : 2 = 2 ∧ 0 = 0 ∧ (pc (List.replicate f x)).length = f * 2 ∧ fits (f + 1) 16 ∧ ∀ c ∈ ([I a, I b] : List AV).take (1 * 2), scal c = true :=
  ⟨rfl, rfl, by rw [pc_len]; simp, by unfold fits; omega, by simp [scal]⟩
theorem c10_1 (n : Nat) (h0 : 0 < n) (h64 : n ≤ 64) : CallA Tryd.prog 10 [I n, I 1] Heap.nil fun v H' => v = .agg [.dslice (pc (List.replicate n ⟨1, 0⟩)) n none, I 0, I 0, I 0] ∧ H' = Heap.nil := by
  refine callA_of ok10 (Nat.le_of_ble_eq_true rfl) ?_
  repeat' ((conv => whnf); first
      | refine Branch.ofT rfl ?_
      | refine Branch.ofF rfl ?_
      | refine Branch.ofF (decide_eq_false (by omega)) ?_
      | refine Branch.dec (fun h => ?_) (fun h => ?_)
      | refine Branch.negdec (fun h => ?_) (fun h => ?_)
      | refine Branch.neg (fun h => ?_) (fun h => ?_)
      | refine Branch.mk (fun h => ?_) (fun h => ?_)
      | (refine Side.mk ?_ ?_; · first | omega | decide)
      | (refine SideD.mk ?_ ?_; · first | omega | decide)
      | refine ⟨_, Nat.lt_succ_self _, To.refl (.inl ⟨rfl, ?_⟩)⟩
      | (refine Side.mk ?_ ?_; · (simp; done))
      | fail
      )
  all_goals (conv => whnf)
  refine ⟨L10 n 1, n, To.gc [(0, true), (1, true)] [0, 1, 4, 5, 6] rfl ⟨dat rfl, dat rfl, trivial⟩ ⟨0, by omega, by omega, rfl, .inl ⟨rfl, rfl⟩⟩, ?_⟩
  rintro m fr H ⟨f, hf, rfl, rfl, hH⟩
  by_cases hfn : f < n
  · rcases hH with ⟨rfl, rfl⟩ | ⟨hf0, rfl⟩
    · repeat' ((conv => whnf); first
          | refine Branch.ofT rfl ?_
          | refine Branch.ofF rfl ?_
          | refine Branch.ofT (decide_eq_true (by omega)) ?_
          | refine Branch.dec (fun h => ?_) (fun h => ?_)
          | refine Branch.negdec (fun h => ?_) (fun h => ?_)
          | refine Branch.neg (fun h => ?_) (fun h => ?_)
          | refine Branch.mk (fun h => ?_) (fun h => ?_)
          | (refine Side.mk ?_ ?_; · first | omega | decide)
          | (refine SideD.mk ?_ ?_; · first | omega | decide)
          | refine ⟨_, Nat.lt_succ_self _, To.refl (.inl ⟨rfl, ?_⟩)⟩
          | refine Side.mk app0 ?_
          | (refine Side.mk ?_ ?_; · (simp; done))
          | fail
          )
      all_goals (conv => whnf)
      exact ⟨n - 1, by omega, To.gc [(0, true), (1, false), (2, true)] [0, 1, 4, 5, 6] rfl ⟨dat rfl, dat rfl, trivial⟩ ⟨1, by omega, rfl, rfl, .inr ⟨by omega, rfl⟩⟩⟩
    · have e : pc (List.replicate (f + 1) ⟨1, 0⟩) = pc (List.replicate f ⟨1, 0⟩) ++ [I 1, I 0] := by rw [List.replicate_succ', pc_app]; rfl
      have hd : ∀ c ∈ pc (List.replicate f ⟨1, 0⟩) ++ [I 1, I 0], noLoc c = true := by rw [← e]; exact pc_noLoc _
      repeat' ((conv => whnf); first
          | refine Branch.ofT rfl ?_
          | refine Branch.ofF rfl ?_
          | refine Branch.ofT (decide_eq_true (by omega)) ?_
          | refine Branch.dec (fun h => ?_) (fun h => ?_)
          | refine Branch.negdec (fun h => ?_) (fun h => ?_)
          | refine Branch.neg (fun h => ?_) (fun h => ?_)
          | refine Branch.mk (fun h => ?_) (fun h => ?_)
          | (refine Side.mk ?_ ?_; · first | omega | decide)
          | (refine SideD.mk ?_ ?_; · first | omega | decide)
          | refine ⟨_, Nat.lt_succ_self _, To.refl (.inl ⟨rfl, ?_⟩)⟩
          | refine Side.mk (app1 (by omega)) ?_
          | (refine Side.mk ?_ ?_; · (simp; done))
          | fail
          )
      all_goals (conv => whnf)
      exact ⟨n - (f + 1), by omega, To.gc [(0, true), (1, false), (3, true)] [0, 1, 4, 5, 6] rfl ⟨dat rfl, hd, trivial⟩ ⟨f + 1, by omega, rfl, rfl, .inr ⟨by omega, by rw [e]; rfl⟩⟩⟩
  · have : f = n := by omega
    subst this
    rcases hH with ⟨h, _⟩ | ⟨_, rfl⟩
    · omega
    · repeat' ((conv => whnf); first
          | refine Branch.ofT rfl ?_
          | refine Branch.ofF rfl ?_
          | refine Branch.ofF (decide_eq_false (by omega)) ?_
          | refine Branch.dec (fun h => ?_) (fun h => ?_)
          | refine Branch.negdec (fun h => ?_) (fun h => ?_)
          | refine Branch.neg (fun h => ?_) (fun h => ?_)
          | refine Branch.mk (fun h => ?_) (fun h => ?_)
          | (refine Side.mk ?_ ?_; · first | omega | decide)
          | (refine SideD.mk ?_ ?_; · first | omega | decide)
          | refine ⟨_, Nat.lt_succ_self _, To.refl (.inl ⟨rfl, ?_⟩)⟩
          | (refine Side.mk ?_ ?_; · (simp; done))
          | fail
          )
      all_goals (conv => whnf)
      refine RetA.pub 2 rfl (pc_noLoc _) ?_
      refine RetA.data rfl ⟨?_, rfl⟩
      show AV.agg [.dslice (((pc (List.replicate f ⟨1, 0⟩)).drop 0).take (f * 2)) f none, I 0, I 0, I 0] = _
      rw [List.drop_zero, pc_takeN, List.take_replicate, Nat.min_self]
theorem c10_2 (n : Nat) (h0 : 0 < n) (h64 : n ≤ 64) : CallA Tryd.prog 10 [I n, I 2] Heap.nil fun v H' => v = .agg [.dslice (pc (List.replicate n ⟨2, 0⟩)) n none, I 0, I 0, I 0] ∧ H' = Heap.nil := by
  refine callA_of ok10 (Nat.le_of_ble_eq_true rfl) ?_
  repeat' ((conv => whnf); first
      | refine Branch.ofT rfl ?_
      | refine Branch.ofF rfl ?_
      | refine Branch.ofF (decide_eq_false (by omega)) ?_
      | refine Branch.dec (fun h => ?_) (fun h => ?_)
      | refine Branch.negdec (fun h => ?_) (fun h => ?_)
      | refine Branch.neg (fun h => ?_) (fun h => ?_)
      | refine Branch.mk (fun h => ?_) (fun h => ?_)
      | (refine Side.mk ?_ ?_; · first | omega | decide)
      | (refine SideD.mk ?_ ?_; · first | omega | decide)
      | refine ⟨_, Nat.lt_succ_self _, To.refl (.inl ⟨rfl, ?_⟩)⟩
      | (refine Side.mk ?_ ?_; · (simp; done))
      | fail
      )
  all_goals (conv => whnf)
  refine ⟨L10 n 2, n, To.gc [(0, true), (1, true)] [0, 1, 4, 5, 6] rfl ⟨dat rfl, dat rfl, trivial⟩ ⟨0, by omega, by omega, rfl, .inl ⟨rfl, rfl⟩⟩, ?_⟩
  rintro m fr H ⟨f, hf, rfl, rfl, hH⟩
  by_cases hfn : f < n
  · rcases hH with ⟨rfl, rfl⟩ | ⟨hf0, rfl⟩
    · repeat' ((conv => whnf); first
          | refine Branch.ofT rfl ?_
          | refine Branch.ofF rfl ?_
          | refine Branch.ofT (decide_eq_true (by omega)) ?_
          | refine Branch.dec (fun h => ?_) (fun h => ?_)
          | refine Branch.negdec (fun h => ?_) (fun h => ?_)
          | refine Branch.neg (fun h => ?_) (fun h => ?_)
          | refine Branch.mk (fun h => ?_) (fun h => ?_)
          | (refine Side.mk ?_ ?_; · first | omega | decide)
          | (refine SideD.mk ?_ ?_; · first | omega | decide)
          | refine ⟨_, Nat.lt_succ_self _, To.refl (.inl ⟨rfl, ?_⟩)⟩
          | refine Side.mk app0 ?_
          | (refine Side.mk ?_ ?_; · (simp; done))
          | fail
          )
      all_goals (conv => whnf)
      exact ⟨n - 1, by omega, To.gc [(0, true), (1, false), (2, true)] [0, 1, 4, 5, 6] rfl ⟨dat rfl, dat rfl, trivial⟩ ⟨1, by omega, rfl, rfl, .inr ⟨by omega, rfl⟩⟩⟩
    · have e : pc (List.replicate (f + 1) ⟨2, 0⟩) = pc (List.replicate f ⟨2, 0⟩) ++ [I 2, I 0] := by rw [List.replicate_succ', pc_app]; rfl
      have hd : ∀ c ∈ pc (List.replicate f ⟨2, 0⟩) ++ [I 2, I 0], noLoc c = true := by rw [← e]; exact pc_noLoc _
      repeat' ((conv => whnf); first
          | refine Branch.ofT rfl ?_
          | refine Branch.ofF rfl ?_
          | refine Branch.ofT (decide_eq_true (by omega)) ?_
          | refine Branch.dec (fun h => ?_) (fun h => ?_)
          | refine Branch.negdec (fun h => ?_) (fun h => ?_)
          | refine Branch.neg (fun h => ?_) (fun h => ?_)
          | refine Branch.mk (fun h => ?_) (fun h => ?_)
          | (refine Side.mk ?_ ?_; · first | omega | decide)
          | (refine SideD.mk ?_ ?_; · first | omega | decide)
          | refine ⟨_, Nat.lt_succ_self _, To.refl (.inl ⟨rfl, ?_⟩)⟩
          | refine Side.mk (app1 (by omega)) ?_
          | (refine Side.mk ?_ ?_; · (simp; done))
          | fail
          )
      all_goals (conv => whnf)
      exact ⟨n - (f + 1), by omega, To.gc [(0, true), (1, false), (3, true)] [0, 1, 4, 5, 6] rfl ⟨dat rfl, hd, trivial⟩ ⟨f + 1, by omega, rfl, rfl, .inr ⟨by omega, by rw [e]; rfl⟩⟩⟩
  · have : f = n := by omega
    subst this
    rcases hH with ⟨h, _⟩ | ⟨_, rfl⟩
    · omega
    · repeat' ((conv => whnf); first
          | refine Branch.ofT rfl ?_
          | refine Branch.ofF rfl ?_
          | refine Branch.ofF (decide_eq_false (by omega)) ?_
          | refine Branch.dec (fun h => ?_) (fun h => ?_)
          | refine Branch.negdec (fun h => ?_) (fun h => ?_)
          | refine Branch.neg (fun h => ?_) (fun h => ?_)
          | refine Branch.mk (fun h => ?_) (fun h => ?_)
          | (refine Side.mk ?_ ?_; · first | omega | decide)
          | (refine SideD.mk ?_ ?_; · first | omega | decide)
          | refine ⟨_, Nat.lt_succ_self _, To.refl (.inl ⟨rfl, ?_⟩)⟩
          | (refine Side.mk ?_ ?_; · (simp; done))
          | fail
          )
      all_goals (conv => whnf)
      refine RetA.pub 2 rfl (pc_noLoc _) ?_
      refine RetA.data rfl ⟨?_, rfl⟩
      show AV.agg [.dslice (((pc (List.replicate f ⟨2, 0⟩)).drop 0).take (f * 2)) f none, I 0, I 0, I 0] = _
      rw [List.drop_zero, pc_takeN, List.take_replicate, Nat.min_self]
theorem c10_4 (n : Nat) (h0 : 0 < n) (h64 : n ≤ 64) : CallA Tryd.prog 10 [I n, I 4] Heap.nil fun v H' => v = .agg [.dslice (pc (List.replicate n ⟨4, 0⟩)) n none, I 0, I 0, I 0] ∧ H' = Heap.nil := by
  refine callA_of ok10 (Nat.le_of_ble_eq_true rfl) ?_
  repeat' ((conv => whnf); first
      | refine Branch.ofT rfl ?_
      | refine Branch.ofF rfl ?_
      | refine Branch.ofF (decide_eq_false (by omega)) ?_
      | refine Branch.dec (fun h => ?_) (fun h => ?_)
      | refine Branch.negdec (fun h => ?_) (fun h => ?_)
      | refine Branch.neg (fun h => ?_) (fun h => ?_)
      | refine Branch.mk (fun h => ?_) (fun h => ?_)
      | (refine Side.mk ?_ ?_; · first | omega | decide)
      | (refine SideD.mk ?_ ?_; · first | omega | decide)
      | refine ⟨_, Nat.lt_succ_self _, To.refl (.inl ⟨rfl, ?_⟩)⟩
      | (refine Side.mk ?_ ?_; · (simp; done))
      | fail
      )
  all_goals (conv => whnf)
  refine ⟨L10 n 4, n, To.gc [(0, true), (1, true)] [0, 1, 4, 5, 6] rfl ⟨dat rfl, dat rfl, trivial⟩ ⟨0, by omega, by omega, rfl, .inl ⟨rfl, rfl⟩⟩, ?_⟩
  rintro m fr H ⟨f, hf, rfl, rfl, hH⟩
  by_cases hfn : f < n
  · rcases hH with ⟨rfl, rfl⟩ | ⟨hf0, rfl⟩
    · repeat' ((conv => whnf); first
          | refine Branch.ofT rfl ?_
          | refine Branch.ofF rfl ?_
          | refine Branch.ofT (decide_eq_true (by omega)) ?_
          | refine Branch.dec (fun h => ?_) (fun h => ?_)
          | refine Branch.negdec (fun h => ?_) (fun h => ?_)
          | refine Branch.neg (fun h => ?_) (fun h => ?_)
          | refine Branch.mk (fun h => ?_) (fun h => ?_)
          | (refine Side.mk ?_ ?_; · first | omega | decide)
          | (refine SideD.mk ?_ ?_; · first | omega | decide)
          | refine ⟨_, Nat.lt_succ_self _, To.refl (.inl ⟨rfl, ?_⟩)⟩
          | refine Side.mk app0 ?_
          | (refine Side.mk ?_ ?_; · (simp; done))
          | fail
          )
      all_goals (conv => whnf)
      exact ⟨n - 1, by omega, To.gc [(0, true), (1, false), (2, true)] [0, 1, 4, 5, 6] rfl ⟨dat rfl, dat rfl, trivial⟩ ⟨1, by omega, rfl, rfl, .inr ⟨by omega, rfl⟩⟩⟩
    · have e : pc (List.replicate (f + 1) ⟨4, 0⟩) = pc (List.replicate f ⟨4, 0⟩) ++ [I 4, I 0] := by rw [List.replicate_succ', pc_app]; rfl
      have hd : ∀ c ∈ pc (List.replicate f ⟨4, 0⟩) ++ [I 4, I 0], noLoc c = true := by rw [← e]; exact pc_noLoc _
      repeat' ((conv => whnf); first
          | refine Branch.ofT rfl ?_
          | refine Branch.ofF rfl ?_
          | refine Branch.ofT (decide_eq_true (by omega)) ?_
          | refine Branch.dec (fun h => ?_) (fun h => ?_)
          | refine Branch.negdec (fun h => ?_) (fun h => ?_)
          | refine Branch.neg (fun h => ?_) (fun h => ?_)
          | refine Branch.mk (fun h => ?_) (fun h => ?_)
          | (refine Side.mk ?_ ?_; · first | omega | decide)
          | (refine SideD.mk ?_ ?_; · first | omega | decide)
          | refine ⟨_, Nat.lt_succ_self _, To.refl (.inl ⟨rfl, ?_⟩)⟩
          | refine Side.mk (app1 (by omega)) ?_
          | (refine Side.mk ?_ ?_; · (simp; done))
          | fail
          )
      all_goals (conv => whnf)
      exact ⟨n - (f + 1), by omega, To.gc [(0, true), (1, false), (3, true)] [0, 1, 4, 5, 6] rfl ⟨dat rfl, hd, trivial⟩ ⟨f + 1, by omega, rfl, rfl, .inr ⟨by omega, by rw [e]; rfl⟩⟩⟩
  · have : f = n := by omega
    subst this
    rcases hH with ⟨h, _⟩ | ⟨_, rfl⟩
    · omega
    · repeat' ((conv => whnf); first
          | refine Branch.ofT rfl ?_
          | refine Branch.ofF rfl ?_
          | refine Branch.ofF (decide_eq_false (by omega)) ?_
          | refine Branch.dec (fun h => ?_) (fun h => ?_)
          | refine Branch.negdec (fun h => ?_) (fun h => ?_)
          | refine Branch.neg (fun h => ?_) (fun h => ?_)
          | refine Branch.mk (fun h => ?_) (fun h => ?_)
          | (refine Side.mk ?_ ?_; · first | omega | decide)
          | (refine SideD.mk ?_ ?_; · first | omega | decide)
          | refine ⟨_, Nat.lt_succ_self _, To.refl (.inl ⟨rfl, ?_⟩)⟩
          | (refine Side.mk ?_ ?_; · (simp; done))
          | fail
          )
      all_goals (conv => whnf)
      refine RetA.pub 2 rfl (pc_noLoc _) ?_
      refine RetA.data rfl ⟨?_, rfl⟩
      show AV.agg [.dslice (((pc (List.replicate f ⟨4, 0⟩)).drop 0).take (f * 2)) f none, I 0, I 0, I 0] = _
      rw [List.drop_zero, pc_takeN, List.take_replicate, Nat.min_self]
theorem c10_ok (n : Nat) (st : Int) (h : ¬ newBad n st) : CallA Tryd.prog 10 [I n, I st] Heap.nil fun v H' => v = .agg [.dslice (pc (List.replicate n ⟨st, 0⟩)) n none, I 0, I 0, I 0] ∧ H' = Heap.nil := by
  unfold newBad at h
  have hst : st = 1 ∨ st = 2 ∨ st = 4 := by omega
  rcases hst with rfl | rfl | rfl
  · exact c10_1 n (by omega) (by omega)
  · exact c10_2 n (by omega) (by omega)
  · exact c10_4 n (by omega) (by omega)
end Go.Proofs

namespace Go.Proofs
open Go Go.Eng
set_option maxRecDepth 100000
set_option maxHeartbeats 4000000
/-! ### The law: a victim is present -/
def idle (l : List Pl) (us : List Bool) (i : Nat) : Nat := ((List.range i).filter fun j => presB l j && !usB us j).length
def victN (o : Option Nat) : Int := match o with
  | some i => i
  | none => 0
theorem idle_succ (l : List Pl) (us : List Bool) (i : Nat) : idle l us (i + 1) = idle l us i + if presB l i && !usB us i then 1 else 0 := by
  unfold idle
  rw [List.range_succ, List.filter_append, List.length_append]
  cases h : presB l i && !usB us i <;> simp [h]
theorem idle_le (l : List Pl) (us : List Bool) (i : Nat) : idle l us i ≤ i := by
  have := List.length_filter_le (fun j => presB l j && !usB us j) (List.range i)
  rw [List.length_range] at this; exact this
theorem idle_zero {l : List Pl} {us : List Bool} {i : Nat} : idle l us i = 0 ↔ ∀ j, j < i → (presB l j && !usB us j) = false := by
  unfold idle
  rw [List.length_eq_zero_iff, List.filter_eq_nil_iff]
  simp
theorem scan_none {fr n : Nat} {P : Nat → Bool} : ∀ (m k : Nat), scan fr n P k m = none → ∀ j, k ≤ j → j < k + m → P ((fr + j) % n) = false
  | 0, k, _, j, h1, h2 => by omega
  | m + 1, k, h, j, h1, h2 => by
    rw [scan] at h
    cases hp : P ((fr + k) % n) with
    | true => rw [hp] at h; cases h
    | false =>
      rw [hp] at h
      rcases Nat.lt_or_eq_of_le h1 with q | rfl
      · exact scan_none m (k + 1) h j q (by omega)
      · exact hp
theorem scan_some {fr n i : Nat} {P : Nat → Bool} (hn : 0 < n) : ∀ (m k : Nat), scan fr n P k m = some i → P i = true ∧ i < n
  | 0, k, h => by cases h
  | m + 1, k, h => by
    rw [scan] at h
    cases hp : P ((fr + k) % n) with
    | true => rw [hp] at h; cases h; exact ⟨hp, Nat.mod_lt _ hn⟩
    | false => rw [hp] at h; exact scan_some hn m (k + 1) h
theorem rot {fr n i : Nat} (h : fr < n) (hi : i < n) : ∃ j, j < n ∧ (fr + j) % n = i := by
  by_cases hc : fr ≤ i
  · exact ⟨i - fr, by omega, by rw [show fr + (i - fr) = i by omega]; exact Nat.mod_eq_of_lt hi⟩
  · exact ⟨n + i - fr, by omega, by rw [show fr + (n + i - fr) = i + n by omega, Nat.add_mod_right]; exact Nat.mod_eq_of_lt hi⟩
theorem scan_no {fr n : Nat} {P : Nat → Bool} (h : fr < n) (hs : scan fr n P 0 n = none) : ∀ i, i < n → P i = false := fun i hi => by
  obtain ⟨j, h1, h2⟩ := rot h hi
  have := scan_none n 0 hs j (by omega) (by omega)
  rwa [h2] at this
/-- What a victim is. -/
theorem vict_law {l : List Pl} {hand : Int} {us : List Bool} {i : Nat} (h0 : 0 < l.length) (h : vict l hand us = some i) : i < l.length ∧ presB l i = true ∧ (usB us i = true ↔ idle l us l.length = 0) := by
  have hf := frm_lt l hand h0
  unfold vict at h
  split at h
  · rename_i i' hs
    cases h
    obtain ⟨h1, h2⟩ := scan_some h0 _ _ hs
    simp only [Bool.and_eq_true, Bool.not_eq_true'] at h1
    refine ⟨h2, h1.1, ?_⟩
    rw [idle_zero]
    constructor
    · intro hu; rw [h1.2] at hu; cases hu
    · intro ha; have := ha i h2; rw [h1.1, h1.2] at this; cases this
  · rename_i hs
    obtain ⟨h1, h2⟩ := scan_some h0 _ _ h
    have hn := scan_no hf hs
    refine ⟨h2, h1, ?_⟩
    rw [idle_zero]
    have := hn i h2
    rw [h1] at this
    simp only [Bool.true_and, Bool.not_eq_false'] at this
    exact ⟨fun _ => hn, fun _ => this⟩
theorem vict_no {l : List Pl} {hand : Int} {us : List Bool} (h0 : 0 < l.length) (h : vict l hand us = none) : ∀ i, i < l.length → presB l i = false := by
  unfold vict at h
  split at h
  · cases h
  · exact scan_no (frm_lt l hand h0) h
theorem cnt_pos {l : List Pl} : 0 < cnt l 1 ↔ ∃ i, i < l.length ∧ presB l i = true := by
  unfold cnt
  rw [List.length_pos_iff_exists_mem]
  constructor
  · rintro ⟨x, hx⟩
    obtain ⟨h1, h2⟩ := List.mem_filter.1 hx
    obtain ⟨i, hi, rfl⟩ := List.getElem_of_mem h1
    exact ⟨i, hi, by rw [presB_at hi]; exact h2⟩
  · rintro ⟨i, hi, h⟩
    rw [presB_at hi] at h
    exact ⟨l[i], List.mem_filter.2 ⟨List.getElem_mem hi, h⟩⟩
def L5 (l : List Pl) (cap cu : Option Nat) (us : List Bool) (v : Int) (b : Bool) (m : Nat) (fr : Fr) (H : Heap) : Prop := ∃ i : Nat, i ≤ l.length ∧ m = l.length - i ∧ fr = [(2, .dslice (bcs us) us.length cu), (3, .ptr 0 0), (7, I v), (8, .bool b), (9, I (idle l us i)), (10, I i)] ∧ H = HP l cap
theorem c5 (l : List Pl) (cap cu : Option Nat) (hand : Int) (us : List Bool) : CallA Tryd.prog 5 [pgs l cap, I hand, .dslice (bcs us) us.length cu] Heap.nil fun v H' => v = .bool true ∧ H' = Heap.nil := by
  refine callA_of ok5 (Nat.le_of_ble_eq_true rfl) ?_
  have h13 := c13 l cap
  by_cases hv : RV l ∧ us.length ≤ 80
  · obtain ⟨hv, hu⟩ := hv
    rw [rvB_t hv] at h13
    have h0 : 0 < l.length := hv.one
    have hl : l.length ≤ 64 := hv.many
    have h14 := c14 l cap cu hand us h0 (by omega) (by omega)
    have h20 := c20 l cap 1 (by omega)
    obtain ⟨v, b, hvb, hlaw⟩ : ∃ (v : Int) (b : Bool), victV (vict l hand us) = .tuple [I v, .bool b] ∧ ((b = false ∧ v = 0 ∧ cnt l 1 = 0) ∨ (b = true ∧ ∃ i : Nat, v = i ∧ 0 < cnt l 1 ∧ i < l.length ∧ presB l i = true ∧ (usB us i = true ↔ idle l us l.length = 0))) := by
      cases hvic : vict l hand us with
      | none =>
        refine ⟨0, false, rfl, .inl ⟨rfl, rfl, ?_⟩⟩
        have hn := vict_no h0 hvic
        rcases Nat.eq_zero_or_pos (cnt l 1) with h | h
        · exact h
        · obtain ⟨i, h1, h2⟩ := cnt_pos.1 h; rw [hn i h1] at h2; cases h2
      | some i =>
        obtain ⟨h1, h2, h3⟩ := vict_law h0 hvic
        exact ⟨i, true, rfl, .inr ⟨rfl, i, rfl, cnt_pos.2 ⟨i, h1, h2⟩, h1, h2, h3⟩⟩
    rw [hvb] at h14
    repeat' ((conv => whnf); first
        | refine Branch.ofT rfl ?_
        | refine Branch.ofF rfl ?_
        | refine Branch.ofF (decide_eq_false (by omega)) ?_
        | refine Branch.dec (fun h => ?_) (fun h => ?_)
        | refine Branch.negdec (fun h => ?_) (fun h => ?_)
        | refine Branch.neg (fun h => ?_) (fun h => ?_)
        | refine Branch.mk (fun h => ?_) (fun h => ?_)
        | (refine Side.mk ?_ ?_; · first | omega | decide)
        | (refine SideD.mk ?_ ?_; · first | omega | decide)
        | refine ⟨_, Nat.lt_succ_self _, To.refl (.inl ⟨rfl, ?_⟩)⟩
        | refine CallA.pure h13 rfl rfl ?_
        | refine CallA.pure h14 rfl rfl ?_
        | (refine Side.mk ?_ ?_; · (simp; done))
        | fail
        )
    all_goals (conv => whnf)
    refine ⟨L5 l cap cu us v b, l.length, To.gc [(0, true)] [2, 3, 7, 8, 9, 10] rfl ⟨dat rfl, trivial⟩ ⟨0, by omega, by omega, rfl, rfl⟩, ?_⟩
    rintro m fr H ⟨i, hi, rfl, rfl, rfl⟩
    have hle := idle_le l us i
    by_cases hil : i < l.length
    · have hat := pc_at i l hil
      have hp := presB_at hil
      have hs := idle_succ l us i
      have hov : us.length ≤ i → usB us i = false := usB_over
      repeat' ((conv => whnf); first
          | refine Branch.ofT rfl ?_
          | refine Branch.ofF rfl ?_
          | refine Branch.ofT (decide_eq_true (by omega)) ?_
          | refine Branch.dec (fun h => ?_) (fun h => ?_)
          | refine Branch.negdec (fun h => ?_) (fun h => ?_)
          | refine Branch.neg (fun h => ?_) (fun h => ?_)
          | refine Branch.mk (fun h => ?_) (fun h => ?_)
          | (refine Side.mk ?_ ?_; · first | omega | decide)
          | (refine SideD.mk ?_ ?_; · first | omega | decide)
          | refine ⟨_, Nat.lt_succ_self _, To.refl (.inl ⟨rfl, ?_⟩)⟩
          | refine nthA hat ?_
          | refine nthU (i := i) (by omega) ?_
          | (refine Side.mk ?_ ?_; · (simp; done))
          | fail
          )
      all_goals (conv => whnf)
      · have pt : presB l i = true := by rw [hp]; simpa using ‹l[i].s = 1›
        exact ⟨l.length - (i + 1), by omega, To.gc [(0, true)] [2, 3, 7, 8, 9, 10] rfl ⟨dat rfl, trivial⟩ ⟨i + 1, by omega, rfl, by rw [hs, if_pos (by simp [pt, hov (by omega)])]; rfl, rfl⟩⟩
      · have pt : presB l i = true := by rw [hp]; simpa using ‹l[i].s = 1›
        exact ⟨l.length - (i + 1), by omega, To.gc [(0, true)] [2, 3, 7, 8, 9, 10] rfl ⟨dat rfl, trivial⟩ ⟨i + 1, by omega, rfl, by rw [hs, if_pos (by simp [pt, h])]; rfl, rfl⟩⟩
      · exact ⟨l.length - (i + 1), by omega, To.gc [(0, true)] [2, 3, 7, 8, 9, 10] rfl ⟨dat rfl, trivial⟩ ⟨i + 1, by omega, rfl, by rw [hs, if_neg (by simp [h])]; rfl, rfl⟩⟩
      · have pf : presB l i = false := by rw [hp]; simpa using h
        exact ⟨l.length - (i + 1), by omega, To.gc [(0, true)] [2, 3, 7, 8, 9, 10] rfl ⟨dat rfl, trivial⟩ ⟨i + 1, by omega, rfl, by rw [hs, if_neg (by simp [pf])]; rfl, rfl⟩⟩
    · have : i = l.length := by omega
      subst this
      rcases hlaw with ⟨rfl, rfl, hc⟩ | ⟨rfl, i, rfl, hc, hil, hpi, hui⟩
      · rw [hc] at h20
        repeat' ((conv => whnf); first
            | refine Branch.ofT rfl ?_
            | refine Branch.ofF rfl ?_
            | refine Branch.ofF (decide_eq_false (by omega)) ?_
            | refine Branch.dec (fun h => ?_) (fun h => ?_)
            | refine Branch.negdec (fun h => ?_) (fun h => ?_)
            | refine Branch.neg (fun h => ?_) (fun h => ?_)
            | refine Branch.mk (fun h => ?_) (fun h => ?_)
            | (refine Side.mk ?_ ?_; · first | omega | decide)
            | (refine SideD.mk ?_ ?_; · first | omega | decide)
            | refine ⟨_, Nat.lt_succ_self _, To.refl (.inl ⟨rfl, ?_⟩)⟩
            | refine CallA.pure h20 rfl rfl ?_
            | refine CallA.pure c8 rfl rfl ?_
            | refine nthU (i := 0) (by omega) ?_
            | (refine Side.mk ?_ ?_; · (simp; done))
            | fail
            )
        all_goals (conv => whnf)
        all_goals exact RetA.data rfl ⟨rfl, rfl⟩
      · have hat := pc_at i l hil
        have hp := presB_at hil
        rw [hpi] at hp
        have hp : l[i].s = 1 := by simpa using hp.symm
        have hov : us.length ≤ i → usB us i = false := usB_over
        repeat' ((conv => whnf); first
            | refine Branch.ofT rfl ?_
            | refine Branch.ofF rfl ?_
            | refine Branch.ofF (decide_eq_false (by omega)) ?_
            | refine Branch.dec (fun h => ?_) (fun h => ?_)
            | refine Branch.negdec (fun h => ?_) (fun h => ?_)
            | refine Branch.neg (fun h => ?_) (fun h => ?_)
            | refine Branch.mk (fun h => ?_) (fun h => ?_)
            | (refine Side.mk ?_ ?_; · first | omega | decide)
            | (refine SideD.mk ?_ ?_; · first | omega | decide)
            | refine ⟨_, Nat.lt_succ_self _, To.refl (.inl ⟨rfl, ?_⟩)⟩
            | refine CallA.pure h20 rfl rfl ?_
            | refine CallA.pure c8 rfl rfl ?_
            | refine nthU (i := i) (by omega) ?_
            | refine nthA hat ?_
            | (refine Side.mk ?_ ?_; · (simp; done))
            | fail
            )
        all_goals (conv => whnf)
        · exact absurd (decide_eq_true (show (0 : Int) < cnt l 1 by omega)).symm h
        · have e : (usB us i == decide ((idle l us l.length : Int) = 0)) = true := by
            cases hu2 : usB us i with
            | true => rw [decide_eq_true (by have := hui.1 hu2; omega)]; rfl
            | false => rw [decide_eq_false (fun h0 => by have := hui.2 (by omega); rw [hu2] at this; cases this)]; rfl
          refine RetA.data rfl ⟨?_, rfl⟩
          show AV.bool (if false = true then !usB us i == decide ((idle l us l.length : Int) = 0) else usB us i == decide ((idle l us l.length : Int) = 0)) = _
          rw [if_neg (by decide), e]
        · exact absurd hp h
        · have hu2 : usB us i = false := hov (by omega)
          have e : (false == decide ((idle l us l.length : Int) = 0)) = true := by
            rw [decide_eq_false (fun h0 => by have := hui.2 (by omega); rw [hu2] at this; cases this)]; rfl
          refine RetA.data rfl ⟨?_, rfl⟩
          show AV.bool (if false = true then !false == decide ((idle l us l.length : Int) = 0) else false == decide ((idle l us l.length : Int) = 0)) = _
          rw [if_neg (by decide), e]
        · exact absurd hp h
  · by_cases hr : RV l
    · rw [rvB_t hr] at h13
      have hu : 80 < us.length := by
        rcases Nat.lt_or_ge 80 us.length with h | h
        · exact h
        · exact absurd ⟨hr, h⟩ hv
      repeat' ((conv => whnf); first
          | refine Branch.ofT rfl ?_
          | refine Branch.ofF rfl ?_
          | refine Branch.ofT (decide_eq_true (by omega)) ?_
          | refine Branch.dec (fun h => ?_) (fun h => ?_)
          | refine Branch.negdec (fun h => ?_) (fun h => ?_)
          | refine Branch.neg (fun h => ?_) (fun h => ?_)
          | refine Branch.mk (fun h => ?_) (fun h => ?_)
          | (refine Side.mk ?_ ?_; · first | omega | decide)
          | (refine SideD.mk ?_ ?_; · first | omega | decide)
          | refine ⟨_, Nat.lt_succ_self _, To.refl (.inl ⟨rfl, ?_⟩)⟩
          | refine CallA.pure h13 rfl rfl ?_
          | refine CallA.pure c8 rfl rfl ?_
          | (refine Side.mk ?_ ?_; · (simp; done))
          | fail
          )
      all_goals (conv => whnf)
      exact RetA.data rfl ⟨rfl, rfl⟩
    · rw [rvB_f hr] at h13
      repeat' ((conv => whnf); first
          | refine Branch.ofT rfl ?_
          | refine Branch.ofF rfl ?_
          | refine Branch.dec (fun h => ?_) (fun h => ?_)
          | refine Branch.negdec (fun h => ?_) (fun h => ?_)
          | refine Branch.neg (fun h => ?_) (fun h => ?_)
          | refine Branch.mk (fun h => ?_) (fun h => ?_)
          | (refine Side.mk ?_ ?_; · first | omega | decide)
          | (refine SideD.mk ?_ ?_; · first | omega | decide)
          | refine ⟨_, Nat.lt_succ_self _, To.refl (.inl ⟨rfl, ?_⟩)⟩
          | refine CallA.pure h13 rfl rfl ?_
          | refine CallA.pure c8 rfl rfl ?_
          | (refine Side.mk ?_ ?_; · (simp; done))
          | fail
          )
      all_goals (conv => whnf)
      exact RetA.data rfl ⟨rfl, rfl⟩
end Go.Proofs

