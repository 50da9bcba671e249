/- Part of a proof about the given program: lemmas that the other parts use. -/
import Derived.Test.YtnmgifoihmjjmaaPart4

namespace Go.Proofs
open Go Go.Eng
set_option maxRecDepth 100000
attribute [local irreducible] Hol.holds

def Ple.zero : Ple := ⟨0, 0, 0, 0, 0⟩
def Hol.seek (x : Hol) (n : Int) : Hol × Ple × Int := if numB n then (if n ≤ x.e then (x, .zero, 9) else (⟨x.m, x.h, n, false, false, false, 0, 0, 0, 0, x.r⟩, ⟨1, x.m, x.h, n, 0⟩, 0)) else (x, .zero, 1)
theorem c11 (x : Hol) (n : Int) : CallA Try.prog 11 [.agg x.av, I n] Heap.nil fun v H' => v = .tuple [.agg (x.seek n).1.av, .agg (x.seek n).2.1.av, I (x.seek n).2.2] ∧ H' = Heap.nil := by
  refine callA_of ok11 (Nat.le_of_ble_eq_true rfl) ?_
  repeat' ((conv => whnf); first
      | refine Branch.ofT rfl ?_
      | refine Branch.ofF rfl ?_
      | refine Branch.dec (fun h => ?_) (fun h => ?_)
      | refine Branch.negdec (fun h => ?_) (fun h => ?_)
      | refine Branch.neg (fun h => ?_) (fun h => ?_)
      | refine Branch.mk (fun h => ?_) (fun h => ?_)
      | (refine Side.mk ?_ ?_; · first | omega | decide)
      | refine ⟨_, Nat.lt_succ_self _, To.refl (.inl ⟨rfl, ?_⟩)⟩
      | refine CallA.pure (c30_1 _ _) rfl rfl ?_
      | (refine Side.mk ?_ ?_; · (simp; done))
      | fail
      )
  all_goals (conv => whnf)
  all_goals refine RetA.data rfl ⟨?_, rfl⟩
  all_goals (simp only [one, Hol.seek, *, reduceIte, Bool.false_eq_true]; rfl)
theorem c21 (x : Hol) (n : Int) : CallA Try.prog 21 [.agg x.av, I n] Heap.nil fun v H' => v = .agg ((x.seek n).1.av ++ (x.seek n).2.1.av ++ [I (x.seek n).2.2]) ∧ H' = Heap.nil := by
  refine callA_of ok21 (Nat.le_of_ble_eq_true rfl) ?_
  repeat' ((conv => whnf); first
      | refine Branch.ofT rfl ?_
      | refine Branch.ofF rfl ?_
      | refine Branch.dec (fun h => ?_) (fun h => ?_)
      | refine Branch.negdec (fun h => ?_) (fun h => ?_)
      | refine Branch.neg (fun h => ?_) (fun h => ?_)
      | refine Branch.mk (fun h => ?_) (fun h => ?_)
      | (refine Side.mk ?_ ?_; · first | omega | decide)
      | refine ⟨_, Nat.lt_succ_self _, To.refl (.inl ⟨rfl, ?_⟩)⟩
      | refine CallA.pure (c33 _) rfl rfl ?_
      | (refine Side.mk ?_ ?_; · (simp; done))
      | fail
      )
  all_goals (conv => whnf)
  all_goals refine RetA.data rfl ⟨?_, rfl⟩
  all_goals (simp only [one, Hol.seek, *, reduceIte, Bool.false_eq_true]; rfl)
def Hol.offer (x : Hol) (n : Int) : Ple × Int := if x.holds then (if serB n then (⟨2, x.m, x.h, x.e, n⟩, 0) else (.zero, 1)) else (.zero, 4)
def Hol.zero : Hol := ⟨0, 0, 0, false, false, false, 0, 0, 0, 0, 0⟩
theorem c14 (x : Hol) (n : Int) : CallA Try.prog 14 [.agg x.av, I n] Heap.nil fun v H' => v = .tuple [.agg (x.offer n).1.av, I (x.offer n).2] ∧ H' = Heap.nil := by
  refine callA_of ok14 (Nat.le_of_ble_eq_true rfl) ?_
  repeat' ((conv => whnf); first
      | refine Branch.ofT rfl ?_
      | refine Branch.ofF rfl ?_
      | refine Branch.dec (fun h => ?_) (fun h => ?_)
      | refine Branch.negdec (fun h => ?_) (fun h => ?_)
      | refine Branch.neg (fun h => ?_) (fun h => ?_)
      | refine Branch.mk (fun h => ?_) (fun h => ?_)
      | (refine Side.mk ?_ ?_; · first | omega | decide)
      | refine ⟨_, Nat.lt_succ_self _, To.refl (.inl ⟨rfl, ?_⟩)⟩
      | refine CallA.pure (c13 x) rfl rfl ?_
      | refine CallA.pure (c31_1 _ _) rfl rfl ?_
      | (refine Side.mk ?_ ?_; · (simp; done))
      | fail
      )
  all_goals (conv => whnf)
  all_goals refine RetA.data rfl ⟨?_, rfl⟩
  all_goals (simp only [one, Hol.offer, *, reduceIte, Bool.false_eq_true]; rfl)
theorem c22 (x : Hol) (n : Int) : CallA Try.prog 22 [.agg x.av, I n] Heap.nil fun v H' => v = .agg (Hol.zero.av ++ (x.offer n).1.av ++ [I (x.offer n).2]) ∧ H' = Heap.nil := by
  refine callA_of ok22 (Nat.le_of_ble_eq_true rfl) ?_
  repeat' ((conv => whnf); first
      | refine Branch.ofT rfl ?_
      | refine Branch.ofF rfl ?_
      | refine Branch.dec (fun h => ?_) (fun h => ?_)
      | refine Branch.negdec (fun h => ?_) (fun h => ?_)
      | refine Branch.neg (fun h => ?_) (fun h => ?_)
      | refine Branch.mk (fun h => ?_) (fun h => ?_)
      | (refine Side.mk ?_ ?_; · first | omega | decide)
      | refine ⟨_, Nat.lt_succ_self _, To.refl (.inl ⟨rfl, ?_⟩)⟩
      | refine CallA.pure (c25 x) rfl rfl ?_
      | refine CallA.pure (c34 _) rfl rfl ?_
      | (refine Side.mk ?_ ?_; · (simp; done))
      | fail
      )
  all_goals (conv => whnf)
  all_goals refine RetA.data rfl ⟨?_, rfl⟩
  all_goals (simp only [one, Hol.offer, *, reduceIte, Bool.false_eq_true]; rfl)
def mx (a b : Int) : Int := if b > a then b else a
def Gra.own (x : Hol) (g : Gra) : Bool := g.ag && decide (0 ≤ g.w) && decide (g.w < 3) && g.p.ok && decide (g.p.m = x.m) && decide (g.p.h = x.h) && decide (g.p.e = x.e) && decide (0 ≤ g.e) && decide (g.e ≤ 1073741824) && serB g.u
def Hol.hear (x : Hol) (g : Gra) : Hol := if g.p.m = x.m ∧ numB g.e = true then { x with r := mx x.r g.e } else x
def Hol.ack (x : Hol) (i : Int) (n : Int) : Hol := if i = 0 then { x with a0 := mx x.a0 n } else if i = 1 then { x with a1 := mx x.a1 n } else { x with a2 := mx x.a2 n }
def Hol.gr (x : Hol) (i : Int) : Bool := if i = 0 then x.g0 else if i = 1 then x.g1 else x.g2
def Hol.grant (x : Hol) (i : Int) : Hol := if i = 0 then { x with g0 := true } else if i = 1 then { x with g1 := true } else { x with g2 := true }
def Hol.take (x : Hol) (g : Gra) : Hol := if g.own x then (if g.p.k = 2 then (x.hear g).ack g.w g.p.u else if x.gr g.w then x.hear g else { (x.hear g).grant g.w with s := mx x.s g.u }) else x.hear g
end Go.Proofs

namespace Go.Proofs
open Go Go.Eng
set_option maxRecDepth 100000
set_option maxHeartbeats 4000000
attribute [local irreducible] Hol.holds
theorem c24 (x : Hol) (g : Gra) : CallA Try.prog 24 [.agg x.av, .agg g.av] Heap.nil fun v H' => v = .agg (x.take g).av ∧ H' = Heap.nil := by
  obtain ⟨w, p, ag, e, u⟩ := g
  refine callA_of ok24 (Nat.le_of_ble_eq_true rfl) ?_
  have hw : w = 0 ∨ w = 1 ∨ w = 2 ∨ (w < 0 ∨ 3 ≤ w) := by omega
  rcases hw with rfl | rfl | rfl | hw
  · repeat' ((conv => whnf); first
        | refine Branch.ofT rfl ?_
        | refine Branch.ofF rfl ?_
        | refine Branch.dec (fun h => ?_) (fun h => ?_)
        | refine Branch.negdec (fun h => ?_) (fun h => ?_)
        | refine Branch.neg (fun h => ?_) (fun h => ?_)
        | refine Branch.mk (fun h => ?_) (fun h => ?_)
        | (refine Side.mk ?_ ?_; · first | omega | decide)
        | refine ⟨_, Nat.lt_succ_self _, To.refl (.inl ⟨rfl, ?_⟩)⟩
        | refine CallA.pure (c33 _) rfl rfl ?_
        | refine CallA.pure (c34 _) rfl rfl ?_
        | refine CallA.pure (c38 p) rfl rfl ?_
        | (refine Side.mk ?_ ?_; · (simp; done))
        | fail
        )
    all_goals (conv => whnf)
    all_goals refine RetA.data rfl ⟨?_, rfl⟩
    all_goals (try dsimp only at *)
    all_goals (cases hown : Gra.own x ⟨0, p, ag, e, u⟩ <;> first | (simp only [one, Hol.take, hown]; simp_all [Hol.hear, Hol.ack, Hol.gr, Hol.grant, Hol.av, mx]; done) | (exfalso; simp only [Gra.own] at hown; grind) | (exfalso; simp only [Gra.own] at hown; grind [numB]))
  · repeat' ((conv => whnf); first
        | refine Branch.ofT rfl ?_
        | refine Branch.ofF rfl ?_
        | refine Branch.dec (fun h => ?_) (fun h => ?_)
        | refine Branch.negdec (fun h => ?_) (fun h => ?_)
        | refine Branch.neg (fun h => ?_) (fun h => ?_)
        | refine Branch.mk (fun h => ?_) (fun h => ?_)
        | (refine Side.mk ?_ ?_; · first | omega | decide)
        | refine ⟨_, Nat.lt_succ_self _, To.refl (.inl ⟨rfl, ?_⟩)⟩
        | refine CallA.pure (c33 _) rfl rfl ?_
        | refine CallA.pure (c34 _) rfl rfl ?_
        | refine CallA.pure (c38 p) rfl rfl ?_
        | (refine Side.mk ?_ ?_; · (simp; done))
        | fail
        )
    all_goals (conv => whnf)
    all_goals refine RetA.data rfl ⟨?_, rfl⟩
    all_goals (try dsimp only at *)
    all_goals (cases hown : Gra.own x ⟨1, p, ag, e, u⟩ <;> first | (simp only [one, Hol.take, hown]; simp_all [Hol.hear, Hol.ack, Hol.gr, Hol.grant, Hol.av, mx]; done) | (exfalso; simp only [Gra.own] at hown; grind) | (exfalso; simp only [Gra.own] at hown; grind [numB]))
  · repeat' ((conv => whnf); first
        | refine Branch.ofT rfl ?_
        | refine Branch.ofF rfl ?_
        | refine Branch.dec (fun h => ?_) (fun h => ?_)
        | refine Branch.negdec (fun h => ?_) (fun h => ?_)
        | refine Branch.neg (fun h => ?_) (fun h => ?_)
        | refine Branch.mk (fun h => ?_) (fun h => ?_)
        | (refine Side.mk ?_ ?_; · first | omega | decide)
        | refine ⟨_, Nat.lt_succ_self _, To.refl (.inl ⟨rfl, ?_⟩)⟩
        | refine CallA.pure (c33 _) rfl rfl ?_
        | refine CallA.pure (c34 _) rfl rfl ?_
        | refine CallA.pure (c38 p) rfl rfl ?_
        | (refine Side.mk ?_ ?_; · (simp; done))
        | fail
        )
    all_goals (conv => whnf)
    all_goals refine RetA.data rfl ⟨?_, rfl⟩
    all_goals (try dsimp only at *)
    all_goals (cases hown : Gra.own x ⟨2, p, ag, e, u⟩ <;> first | (simp only [one, Hol.take, hown]; simp_all [Hol.hear, Hol.ack, Hol.gr, Hol.grant, Hol.av, mx]; done) | (exfalso; simp only [Gra.own] at hown; grind) | (exfalso; simp only [Gra.own] at hown; grind [numB]))
  · repeat' ((conv => whnf); first
        | refine Branch.ofT rfl ?_
        | refine Branch.ofF rfl ?_
        | refine Branch.dec (fun h => ?_) (fun h => ?_)
        | refine Branch.negdec (fun h => ?_) (fun h => ?_)
        | refine Branch.neg (fun h => ?_) (fun h => ?_)
        | refine Branch.mk (fun h => ?_) (fun h => ?_)
        | (refine Side.mk ?_ ?_; · first | omega | decide)
        | refine ⟨_, Nat.lt_succ_self _, To.refl (.inl ⟨rfl, ?_⟩)⟩
        | refine CallA.pure (c33 _) rfl rfl ?_
        | refine CallA.pure (c34 _) rfl rfl ?_
        | refine CallA.pure (c38 p) rfl rfl ?_
        | (exfalso; simp only [] at *; omega)
        | (refine Side.mk ?_ ?_; · (simp; done))
        | fail
        )
    all_goals (conv => whnf)
    all_goals refine RetA.data rfl ⟨?_, rfl⟩
    all_goals (try dsimp only at *)
    all_goals (cases hown : Gra.own x ⟨w, p, ag, e, u⟩ <;> first | (simp only [one, Hol.take, hown]; simp_all [Hol.hear, Hol.ack, Hol.gr, Hol.grant, Hol.av, mx]; done) | (exfalso; simp only [Gra.own] at hown; grind) | (exfalso; simp only [Gra.own] at hown; grind [numB]))
end Go.Proofs

namespace Go.Proofs
open Go Go.Eng
set_option maxRecDepth 100000
set_option maxHeartbeats 4000000
attribute [local irreducible] Hol.holds
theorem c23 (x : Hol) (g : Gra) : CallA Try.prog 23 [.agg x.av, .agg g.av] Heap.nil fun v H' => v = .agg (x.take g).av ∧ H' = Heap.nil := by
  obtain ⟨w, p, ag, e, u⟩ := g
  refine callA_of ok23 (Nat.le_of_ble_eq_true rfl) ?_
  have hw : w = 0 ∨ w = 1 ∨ w = 2 ∨ (w < 0 ∨ 3 ≤ w) := by omega
  rcases hw with rfl | rfl | rfl | hw
  · repeat' ((conv => whnf); first
        | refine Branch.ofT rfl ?_
        | refine Branch.ofF rfl ?_
        | refine Branch.dec (fun h => ?_) (fun h => ?_)
        | refine Branch.negdec (fun h => ?_) (fun h => ?_)
        | refine Branch.neg (fun h => ?_) (fun h => ?_)
        | refine Branch.mk (fun h => ?_) (fun h => ?_)
        | (refine Side.mk ?_ ?_; · first | omega | decide)
        | refine ⟨_, Nat.lt_succ_self _, To.refl (.inl ⟨rfl, ?_⟩)⟩
        | refine CallA.pure (c30_1 _ _) rfl rfl ?_
        | refine CallA.pure (c31_1 _ _) rfl rfl ?_
        | refine CallA.pure (c35 p) rfl rfl ?_
        | (refine Side.mk ?_ ?_; · (simp; done))
        | fail
        )
    all_goals (conv => whnf)
    all_goals refine RetA.data rfl ⟨?_, rfl⟩
    all_goals (try dsimp only at *)
    all_goals (cases hown : Gra.own x ⟨0, p, ag, e, u⟩ <;> first | (simp only [one, Hol.take, hown]; simp_all [Hol.hear, Hol.ack, Hol.gr, Hol.grant, Hol.av, mx]; done) | (exfalso; simp only [Gra.own] at hown; grind) | (exfalso; simp only [Gra.own] at hown; grind [numB]))
  · repeat' ((conv => whnf); first
        | refine Branch.ofT rfl ?_
        | refine Branch.ofF rfl ?_
        | refine Branch.dec (fun h => ?_) (fun h => ?_)
        | refine Branch.negdec (fun h => ?_) (fun h => ?_)
        | refine Branch.neg (fun h => ?_) (fun h => ?_)
        | refine Branch.mk (fun h => ?_) (fun h => ?_)
        | (refine Side.mk ?_ ?_; · first | omega | decide)
        | refine ⟨_, Nat.lt_succ_self _, To.refl (.inl ⟨rfl, ?_⟩)⟩
        | refine CallA.pure (c30_1 _ _) rfl rfl ?_
        | refine CallA.pure (c31_1 _ _) rfl rfl ?_
        | refine CallA.pure (c35 p) rfl rfl ?_
        | (refine Side.mk ?_ ?_; · (simp; done))
        | fail
        )
    all_goals (conv => whnf)
    all_goals refine RetA.data rfl ⟨?_, rfl⟩
    all_goals (try dsimp only at *)
    all_goals (cases hown : Gra.own x ⟨1, p, ag, e, u⟩ <;> first | (simp only [one, Hol.take, hown]; simp_all [Hol.hear, Hol.ack, Hol.gr, Hol.grant, Hol.av, mx]; done) | (exfalso; simp only [Gra.own] at hown; grind) | (exfalso; simp only [Gra.own] at hown; grind [numB]))
  · repeat' ((conv => whnf); first
        | refine Branch.ofT rfl ?_
        | refine Branch.ofF rfl ?_
        | refine Branch.dec (fun h => ?_) (fun h => ?_)
        | refine Branch.negdec (fun h => ?_) (fun h => ?_)
        | refine Branch.neg (fun h => ?_) (fun h => ?_)
        | refine Branch.mk (fun h => ?_) (fun h => ?_)
        | (refine Side.mk ?_ ?_; · first | omega | decide)
        | refine ⟨_, Nat.lt_succ_self _, To.refl (.inl ⟨rfl, ?_⟩)⟩
        | refine CallA.pure (c30_1 _ _) rfl rfl ?_
        | refine CallA.pure (c31_1 _ _) rfl rfl ?_
        | refine CallA.pure (c35 p) rfl rfl ?_
        | (refine Side.mk ?_ ?_; · (simp; done))
        | fail
        )
    all_goals (conv => whnf)
    all_goals refine RetA.data rfl ⟨?_, rfl⟩
    all_goals (try dsimp only at *)
    all_goals (cases hown : Gra.own x ⟨2, p, ag, e, u⟩ <;> first | (simp only [one, Hol.take, hown]; simp_all [Hol.hear, Hol.ack, Hol.gr, Hol.grant, Hol.av, mx]; done) | (exfalso; simp only [Gra.own] at hown; grind) | (exfalso; simp only [Gra.own] at hown; grind [numB]))
  · repeat' ((conv => whnf); first
        | refine Branch.ofT rfl ?_
        | refine Branch.ofF rfl ?_
        | refine Branch.dec (fun h => ?_) (fun h => ?_)
        | refine Branch.negdec (fun h => ?_) (fun h => ?_)
        | refine Branch.neg (fun h => ?_) (fun h => ?_)
        | refine Branch.mk (fun h => ?_) (fun h => ?_)
        | (refine Side.mk ?_ ?_; · first | omega | decide)
        | refine ⟨_, Nat.lt_succ_self _, To.refl (.inl ⟨rfl, ?_⟩)⟩
        | refine CallA.pure (c30_1 _ _) rfl rfl ?_
        | refine CallA.pure (c31_1 _ _) rfl rfl ?_
        | refine CallA.pure (c35 p) rfl rfl ?_
        | (exfalso; simp only [] at *; omega)
        | (refine Side.mk ?_ ?_; · (simp; done))
        | fail
        )
    all_goals (conv => whnf)
    all_goals refine RetA.data rfl ⟨?_, rfl⟩
    all_goals (try dsimp only at *)
    all_goals (cases hown : Gra.own x ⟨w, p, ag, e, u⟩ <;> first | (simp only [one, Hol.take, hown]; simp_all [Hol.hear, Hol.ack, Hol.gr, Hol.grant, Hol.av, mx]; done) | (exfalso; simp only [Gra.own] at hown; grind) | (exfalso; simp only [Gra.own] at hown; grind [numB]))
end Go.Proofs

namespace Go.Proofs
open Go Go.Eng
set_option maxRecDepth 100000
set_option maxHeartbeats 4000000
theorem c60 (a : Int) : CallA Try.prog 60 [I a] Heap.nil fun v H' => v = .bool false ∧ H' = Heap.nil := by
  refine callA_of ok60 (Nat.le_of_ble_eq_true rfl) ?_
  repeat' ((conv => whnf); first
      | refine Branch.ofT rfl ?_
      | refine Branch.ofF rfl ?_
      | refine Branch.dec (fun h => ?_) (fun h => ?_)
      | refine Branch.negdec (fun h => ?_) (fun h => ?_)
      | refine Branch.neg (fun h => ?_) (fun h => ?_)
      | refine Branch.mk (fun h => ?_) (fun h => ?_)
      | (refine Side.mk ?_ ?_; · first | omega | decide)
      | refine ⟨_, Nat.lt_succ_self _, To.refl (.inl ⟨rfl, ?_⟩)⟩
      | (refine Side.mk ?_ ?_; · (simp; done))
      | fail
      )
  all_goals (conv => whnf)
  all_goals refine RetA.data rfl ⟨?_, rfl⟩
  all_goals simp [one]
theorem c50 (a b : Int) : CallA Try.prog 50 [I a, I b] Heap.nil fun v H' => v = .bool (decide (a < b)) ∧ H' = Heap.nil := by
  refine callA_of ok50 (Nat.le_of_ble_eq_true rfl) ?_
  repeat' ((conv => whnf); first
      | refine Branch.ofT rfl ?_
      | refine Branch.ofF rfl ?_
      | refine Branch.dec (fun h => ?_) (fun h => ?_)
      | refine Branch.negdec (fun h => ?_) (fun h => ?_)
      | refine Branch.neg (fun h => ?_) (fun h => ?_)
      | refine Branch.mk (fun h => ?_) (fun h => ?_)
      | (refine Side.mk ?_ ?_; · first | omega | decide)
      | refine ⟨_, Nat.lt_succ_self _, To.refl (.inl ⟨rfl, ?_⟩)⟩
      | refine CallA.pure (c60 _) rfl rfl ?_
      | (refine Side.mk ?_ ?_; · (simp; done))
      | fail
      )
  all_goals (conv => whnf)
  all_goals refine RetA.data rfl ⟨?_, rfl⟩
  all_goals simp [one]
def s3 (a b c : Int) : List AV := if b < a then (if c < a then (if c < b then [I c, I b, I a] else [I b, I c, I a]) else [I b, I a, I c]) else (if c < b then (if c < a then [I c, I a, I b] else [I a, I c, I b]) else [I a, I b, I c])
theorem c44_3 (a b c : Int) : CallA Try.prog 44 [.slice 0 0 3 (some 3) 1, I 0, I 3] ⟨1, [(0, .cells [I a, I b, I c])]⟩ fun v H' => v = .tuple [] ∧ H' = ⟨1, [(0, .cells (s3 a b c))]⟩ := by
  refine callA_of ok44 (Nat.le_of_ble_eq_true rfl) ?_
  repeat' ((conv => whnf); first
      | refine Branch.ofT rfl ?_
      | refine Branch.ofF rfl ?_
      | refine Branch.dec (fun h => ?_) (fun h => ?_)
      | refine Branch.negdec (fun h => ?_) (fun h => ?_)
      | refine Branch.neg (fun h => ?_) (fun h => ?_)
      | refine Branch.mk (fun h => ?_) (fun h => ?_)
      | (refine Side.mk ?_ ?_; · first | omega | decide)
      | refine ⟨_, Nat.lt_succ_self _, To.refl (.inl ⟨rfl, ?_⟩)⟩
      | refine LoopA.unroll _ _ _ 3 ?_
      | refine QCallA.of (c50 _ _) rfl rfl ?_
      | (refine Side.mk ?_ ?_; · (simp; done))
      | fail
      )
  all_goals (conv => whnf)
  all_goals refine RetA.gc [(0, false)] rfl trivial ⟨rfl, ?_⟩
  all_goals (simp only [s3, *, if_true, if_false]; rfl)
theorem c54_3 : CallA Try.prog 54 [.int .u64 3] Heap.nil fun v H' => v = I 2 ∧ H' = Heap.nil := by
  refine callA_of ok54 (Nat.le_of_ble_eq_true rfl) ?_
  repeat' ((conv => whnf); first
      | refine Branch.ofT rfl ?_
      | refine Branch.ofF rfl ?_
      | refine Branch.dec (fun h => ?_) (fun h => ?_)
      | refine Branch.negdec (fun h => ?_) (fun h => ?_)
      | refine Branch.neg (fun h => ?_) (fun h => ?_)
      | refine Branch.mk (fun h => ?_) (fun h => ?_)
      | (refine Side.mk ?_ ?_; · first | omega | decide)
      | refine ⟨_, Nat.lt_succ_self _, To.refl (.inl ⟨rfl, ?_⟩)⟩
      | (refine Side.mk ?_ ?_; · (simp; done))
      | fail
      )
  all_goals (conv => whnf)
  all_goals refine RetA.data rfl ⟨?_, rfl⟩
  all_goals rfl
theorem c43_3 : CallA Try.prog 43 [.int .u64 3] Heap.nil fun v H' => v = I 2 ∧ H' = Heap.nil := by
  refine callA_of ok43 (Nat.le_of_ble_eq_true rfl) ?_
  repeat' ((conv => whnf); first
      | refine Branch.ofT rfl ?_
      | refine Branch.ofF rfl ?_
      | refine Branch.dec (fun h => ?_) (fun h => ?_)
      | refine Branch.negdec (fun h => ?_) (fun h => ?_)
      | refine Branch.neg (fun h => ?_) (fun h => ?_)
      | refine Branch.mk (fun h => ?_) (fun h => ?_)
      | (refine Side.mk ?_ ?_; · first | omega | decide)
      | refine ⟨_, Nat.lt_succ_self _, To.refl (.inl ⟨rfl, ?_⟩)⟩
      | refine CallA.pure c54_3 rfl rfl ?_
      | (refine Side.mk ?_ ?_; · (simp; done))
      | fail
      )
  all_goals (conv => whnf)
  all_goals refine RetA.data rfl ⟨?_, rfl⟩
  all_goals rfl
theorem c42_3 (a b c lim : Int) : CallA Try.prog 42 [.slice 0 0 3 (some 3) 1, I 0, I 3, I lim] ⟨1, [(0, .cells [I a, I b, I c])]⟩ fun v H' => v = .tuple [] ∧ H' = ⟨1, [(0, .cells (s3 a b c))]⟩ := by
  refine callA_of ok42 (Nat.le_of_ble_eq_true rfl) ?_
  repeat' ((conv => whnf); first
      | refine Branch.ofT rfl ?_
      | refine Branch.ofF rfl ?_
      | refine Branch.dec (fun h => ?_) (fun h => ?_)
      | refine Branch.negdec (fun h => ?_) (fun h => ?_)
      | refine Branch.neg (fun h => ?_) (fun h => ?_)
      | refine Branch.mk (fun h => ?_) (fun h => ?_)
      | (refine Side.mk ?_ ?_; · first | omega | decide)
      | refine ⟨_, Nat.lt_succ_self _, To.refl (.inl ⟨rfl, ?_⟩)⟩
      | refine LoopA.unroll _ _ _ 1 ?_
      | refine CallA.mono (c44_3 a b c) ?_
      | (refine Side.mk ?_ ?_; · (simp; done))
      | fail
      )
  all_goals (conv => whnf)
  rintro v H ⟨rfl, rfl⟩
  (conv => whnf)
  exact RetA.gc [(0, true)] rfl ⟨by intro q hq; simp only [s3] at hq; grind [noLoc], trivial⟩ ⟨rfl, rfl⟩
theorem c41_3 (a b c : Int) : CallA Try.prog 41 [.slice 0 0 3 (some 3) 1] ⟨1, [(0, .cells [I a, I b, I c])]⟩ fun v H' => v = .tuple [] ∧ H' = ⟨1, [(0, .cells (s3 a b c))]⟩ := by
  refine callA_of ok41 (Nat.le_of_ble_eq_true rfl) ?_
  repeat' ((conv => whnf); first
      | refine Branch.ofT rfl ?_
      | refine Branch.ofF rfl ?_
      | refine Branch.dec (fun h => ?_) (fun h => ?_)
      | refine Branch.negdec (fun h => ?_) (fun h => ?_)
      | refine Branch.neg (fun h => ?_) (fun h => ?_)
      | refine Branch.mk (fun h => ?_) (fun h => ?_)
      | (refine Side.mk ?_ ?_; · first | omega | decide)
      | refine ⟨_, Nat.lt_succ_self _, To.refl (.inl ⟨rfl, ?_⟩)⟩
      | refine CallA.pure c43_3 rfl rfl ?_
      | refine CallA.mono (c42_3 a b c _) ?_
      | (refine Side.mk ?_ ?_; · (simp; done))
      | fail
      )
  all_goals (conv => whnf)
  rintro v H ⟨rfl, rfl⟩
  (conv => whnf)
  exact RetA.gc [(0, true)] rfl ⟨by intro q hq; simp only [s3] at hq; grind [noLoc], trivial⟩ ⟨rfl, rfl⟩
theorem c32_3 (a b c : Int) : CallA Try.prog 32 [.slice 0 0 3 (some 3) 1] ⟨1, [(0, .cells [I a, I b, I c])]⟩ fun v H' => v = .tuple [] ∧ H' = ⟨1, [(0, .cells (s3 a b c))]⟩ := by
  refine callA_of ok32 (Nat.le_of_ble_eq_true rfl) ?_
  repeat' ((conv => whnf); first
      | refine Branch.ofT rfl ?_
      | refine Branch.ofF rfl ?_
      | refine Branch.dec (fun h => ?_) (fun h => ?_)
      | refine Branch.negdec (fun h => ?_) (fun h => ?_)
      | refine Branch.neg (fun h => ?_) (fun h => ?_)
      | refine Branch.mk (fun h => ?_) (fun h => ?_)
      | (refine Side.mk ?_ ?_; · first | omega | decide)
      | refine ⟨_, Nat.lt_succ_self _, To.refl (.inl ⟨rfl, ?_⟩)⟩
      | refine CallA.mono (c41_3 a b c) ?_
      | (refine Side.mk ?_ ?_; · (simp; done))
      | fail
      )
  all_goals (conv => whnf)
  rintro v H ⟨rfl, rfl⟩
  (conv => whnf)
  exact RetA.gc [(0, true)] rfl ⟨by intro q hq; simp only [s3] at hq; grind [noLoc], trivial⟩ ⟨rfl, rfl⟩
end Go.Proofs

namespace Go.Proofs
open Go Go.Eng
set_option maxRecDepth 100000
set_option maxHeartbeats 4000000
attribute [local irreducible] Hol.holds
def med (a b c : Int) : Int := if b < a then (if c < a then (if c < b then b else c) else a) else (if c < b then (if c < a then a else c) else b)
theorem s3_med (a b c : Int) : ∃ p r, s3 a b c = [I p, I (med a b c), I r] := by
  unfold s3 med
  repeat' split
  all_goals exact ⟨_, _, rfl⟩
def Hol.rel (x : Hol) : Int := if x.holds then med x.a0 x.a1 x.a2 else 0
theorem c15 (x : Hol) : CallA Try.prog 15 [.agg x.av] Heap.nil fun v H' => v = I x.rel ∧ H' = Heap.nil := by
  refine callA_of ok15 (Nat.le_of_ble_eq_true rfl) ?_
  obtain ⟨p, r, hs⟩ := s3_med x.a0 x.a1 x.a2
  have h32 := c32_3 x.a0 x.a1 x.a2
  rw [hs] at h32
  repeat' ((conv => whnf); first
      | refine Branch.ofT rfl ?_
      | refine Branch.ofF rfl ?_
      | refine Branch.dec (fun h => ?_) (fun h => ?_)
      | refine Branch.negdec (fun h => ?_) (fun h => ?_)
      | refine Branch.neg (fun h => ?_) (fun h => ?_)
      | refine Branch.mk (fun h => ?_) (fun h => ?_)
      | (refine Side.mk ?_ ?_; · first | omega | decide)
      | refine ⟨_, Nat.lt_succ_self _, To.refl (.inl ⟨rfl, ?_⟩)⟩
      | refine CallA.pure (c13 x) rfl rfl ?_
      | (refine Side.mk ?_ ?_; · (simp; done))
      | fail
      )
  all_goals (conv => whnf)
  · refine RetA.data rfl ⟨?_, rfl⟩
    simp only [one, Hol.rel, *, reduceIte, Bool.false_eq_true]
  · refine CallA.lend [(1, false)] h32 rfl trivial rfl ?_
    rintro v H ⟨rfl, rfl⟩
    refine ⟨trivial, ?_⟩
    repeat' ((conv => whnf); first
        | refine Branch.ofT rfl ?_
        | refine Branch.ofF rfl ?_
        | refine Branch.dec (fun h => ?_) (fun h => ?_)
        | refine Branch.negdec (fun h => ?_) (fun h => ?_)
        | refine Branch.neg (fun h => ?_) (fun h => ?_)
        | refine Branch.mk (fun h => ?_) (fun h => ?_)
        | (refine Side.mk ?_ ?_; · first | omega | decide)
        | refine ⟨_, Nat.lt_succ_self _, To.refl (.inl ⟨rfl, ?_⟩)⟩
        | (refine Side.mk ?_ ?_; · (simp; done))
        | fail
        )
    all_goals (conv => whnf)
    refine RetA.data rfl ⟨?_, rfl⟩
    simp only [one, Hol.rel, *, reduceIte, Bool.false_eq_true]
theorem c26 (x : Hol) (h0 : 0 ≤ x.a0) (h1 : 0 ≤ x.a1) (h2 : 0 ≤ x.a2) : CallA Try.prog 26 [.agg x.av] Heap.nil fun v H' => v = I x.rel ∧ H' = Heap.nil := by
  refine callA_of ok26 (Nat.le_of_ble_eq_true rfl) ?_
  rcases Int.lt_or_le x.a1 x.a0 with p | p <;> rcases Int.lt_or_le x.a2 x.a0 with q | q <;> rcases Int.lt_or_le x.a2 x.a1 with r | r
  all_goals (
    repeat' ((conv => whnf); first
        | refine Branch.ofT rfl ?_
        | refine Branch.ofF rfl ?_
        | refine Branch.ofT (decide_eq_true (by omega)) ?_
        | refine Branch.ofF (decide_eq_false (by omega)) ?_
        | refine Branch.dec (fun h => ?_) (fun h => ?_)
        | refine Branch.negdec (fun h => ?_) (fun h => ?_)
        | refine Branch.neg (fun h => ?_) (fun h => ?_)
        | refine Branch.mk (fun h => ?_) (fun h => ?_)
        | (refine Side.mk ?_ ?_; · first | omega | decide)
        | refine ⟨_, Nat.lt_succ_self _, To.refl (.inl ⟨rfl, ?_⟩)⟩
        | refine CallA.pure (c25 x) rfl rfl ?_
        | refine LoopA.unroll _ _ _ 3 ?_
        | (refine Side.mk ?_ ?_; · (simp; done))
        | fail
        )
    all_goals (conv => whnf)
    all_goals (refine RetA.data rfl ⟨?_, rfl⟩)
    all_goals (simp only [one, Hol.rel, med, *, reduceIte, Bool.false_eq_true])
    all_goals (congr 1; grind))
end Go.Proofs

namespace Go.Proofs
open Go Go.Eng
set_option maxRecDepth 100000
set_option maxHeartbeats 4000000
theorem serB_iff (n : Int) : serB n = true ↔ 0 ≤ n ∧ n ≤ 1099511627776 := by unfold serB; simp
theorem numB_iff (n : Int) : numB n = true ↔ 1 ≤ n ∧ n ≤ 1073741824 := by unfold numB; simp
theorem right_iff (x : Hol) : x.right = true ↔ ((((((((numB x.m = true ∧ numB x.h = true) ∧ 0 ≤ x.e) ∧ x.e ≤ 1073741824) ∧ 0 ≤ x.r) ∧ x.r ≤ 1073741824) ∧ serB x.s = true) ∧ serB x.a0 = true) ∧ serB x.a1 = true) ∧ serB x.a2 = true := by
  unfold Hol.right; simp only [Bool.and_eq_true, decide_eq_true_eq]
theorem seek_right (x : Hol) (n : Int) (h : x.right = true) : (x.seek n).1.right = true := by
  rw [right_iff] at h ⊢
  unfold Hol.seek
  split
  · split
    · exact h
    · rename_i hn _
      simp only [numB_iff, serB_iff] at *
      omega
  · exact h
theorem ok_ser (p : Ple) (h : p.ok = true) : serB p.u = true := by
  unfold Ple.ok at h; simp at h; exact h.1.2
theorem take_right (x : Hol) (g : Gra) (h : x.right = true) : (x.take g).right = true := by
  have hh : (x.hear g).right = true := by
    rw [right_iff] at h ⊢
    unfold Hol.hear mx
    split
    · rename_i hc
      simp only [numB_iff, serB_iff] at *
      split <;> (try simp only) <;> omega
    · exact h
  unfold Hol.take
  split
  · rename_i ho
    have hu : serB g.u = true := by unfold Gra.own at ho; simp at ho; exact ho.2
    have hp : serB g.p.u = true := by unfold Gra.own at ho; simp at ho; exact ok_ser _ (by simp [ho])
    rw [right_iff] at h hh
    split
    · unfold Hol.ack mx
      simp only [numB_iff, serB_iff] at *
      repeat' split
      all_goals (rw [right_iff]; simp only [numB_iff, serB_iff]; omega)
    · split
      · rw [right_iff]; exact hh
      · unfold Hol.grant mx
        simp only [numB_iff, serB_iff] at *
        repeat' split
        all_goals (rw [right_iff]; simp only [numB_iff, serB_iff]; omega)
  · exact hh
theorem right_acks (x : Hol) (h : x.right = true) : 0 ≤ x.a0 ∧ 0 ≤ x.a1 ∧ 0 ≤ x.a2 := by
  rw [right_iff] at h; simp only [numB_iff, serB_iff] at h; omega
/-- The law's walk, over whatever its callees return. -/
theorem c6g (x : Hol) (n : Int) (g : Gra) (sk : Hol × Ple × Int) (of : Ple × Int) (tk : Hol) (hb : Bool) (rl : Int)
    (h19 : CallA Try.prog 19 [.agg x.av] Heap.nil fun v H' => v = .bool true ∧ H' = Heap.nil) (h20 : CallA Try.prog 20 [.agg x.av] Heap.nil fun v H' => v = .bool true ∧ H' = Heap.nil)
    (h11 : CallA Try.prog 11 [.agg x.av, I n] Heap.nil fun v H' => v = .tuple [.agg sk.1.av, .agg sk.2.1.av, I sk.2.2] ∧ H' = Heap.nil)
    (h21 : CallA Try.prog 21 [.agg x.av, I n] Heap.nil fun v H' => v = .agg (sk.1.av ++ sk.2.1.av ++ [I sk.2.2]) ∧ H' = Heap.nil)
    (h14 : CallA Try.prog 14 [.agg x.av, I n] Heap.nil fun v H' => v = .tuple [.agg of.1.av, I of.2] ∧ H' = Heap.nil)
    (h22 : CallA Try.prog 22 [.agg x.av, I n] Heap.nil fun v H' => v = .agg (Hol.zero.av ++ of.1.av ++ [I of.2]) ∧ H' = Heap.nil)
    (h23 : CallA Try.prog 23 [.agg x.av, .agg g.av] Heap.nil fun v H' => v = .agg tk.av ∧ H' = Heap.nil) (h24 : CallA Try.prog 24 [.agg x.av, .agg g.av] Heap.nil fun v H' => v = .agg tk.av ∧ H' = Heap.nil)
    (h13 : CallA Try.prog 13 [.agg x.av] Heap.nil fun v H' => v = .bool hb ∧ H' = Heap.nil) (h25 : CallA Try.prog 25 [.agg x.av] Heap.nil fun v H' => v = .bool hb ∧ H' = Heap.nil)
    (h15 : CallA Try.prog 15 [.agg x.av] Heap.nil fun v H' => v = I rl ∧ H' = Heap.nil) (h26 : CallA Try.prog 26 [.agg x.av] Heap.nil fun v H' => v = I rl ∧ H' = Heap.nil)
    (hs : CallA Try.prog 19 [.agg sk.1.av] Heap.nil fun v H' => v = .bool true ∧ H' = Heap.nil) (ht : CallA Try.prog 19 [.agg tk.av] Heap.nil fun v H' => v = .bool true ∧ H' = Heap.nil) :
    CallA Try.prog 6 [.agg x.av, I n, .agg g.av] Heap.nil fun v H' => v = .bool true ∧ H' = Heap.nil := by
  refine callA_of ok6 (Nat.le_of_ble_eq_true rfl) ?_
  obtain ⟨⟨s0, s1, s2, s3, s4, s5, s6, s7, s8, s9, s10⟩, ⟨p0, p1, p2, p3, p4⟩, se⟩ := sk
  obtain ⟨⟨o0, o1, o2, o3, o4⟩, oe⟩ := of
  obtain ⟨t0, t1, t2, t3, t4, t5, t6, t7, t8, t9, t10⟩ := tk
  repeat' ((conv => whnf); first
      | refine Branch.ofT rfl ?_
      | refine Branch.ofF rfl ?_
      | refine Branch.ofT (by simp; done) ?_
      | refine Branch.dec (fun h => ?_) (fun h => ?_)
      | refine Branch.negdec (fun h => ?_) (fun h => ?_)
      | refine Branch.neg (fun h => ?_) (fun h => ?_)
      | refine Branch.mk (fun h => ?_) (fun h => ?_)
      | (refine Side.mk ?_ ?_; · first | omega | decide)
      | refine ⟨_, Nat.lt_succ_self _, To.refl (.inl ⟨rfl, ?_⟩)⟩
      | refine QCallA.of h19 rfl rfl ?_
      | refine QCallA.of h20 rfl rfl ?_
      | refine CallA.pure h20 rfl rfl ?_
      | refine CallA.pure h11 rfl rfl ?_
      | refine CallA.pure h14 rfl rfl ?_
      | refine QCallA.of h21 rfl rfl ?_
      | refine QCallA.of h22 rfl rfl ?_
      | refine CallA.pure h23 rfl rfl ?_
      | refine QCallA.of san rfl rfl ?_
      | refine QCallA.of h24 rfl rfl ?_
      | refine QCallA.of h13 rfl rfl ?_
      | refine QCallA.of h25 rfl rfl ?_
      | refine QCallA.of h15 rfl rfl ?_
      | refine QCallA.of h26 rfl rfl ?_
      | refine QCallA.of hs rfl rfl ?_
      | refine QCallA.of ht rfl rfl ?_
      | (refine Side.mk ?_ ?_; · (simp; done))
      | fail
      )
  all_goals (conv => whnf)
  all_goals exact RetA.data rfl ⟨rfl, rfl⟩
theorem c6 (x : Hol) (n : Int) (g : Gra) : CallA Try.prog 6 [.agg x.av, I n, .agg g.av] Heap.nil fun v H' => v = .bool true ∧ H' = Heap.nil := by
  cases hr : x.right with
  | false =>
    have h19 := c19 x
    have h20 := c20 x
    rw [hr] at h19 h20
    refine callA_of ok6 (Nat.le_of_ble_eq_true rfl) ?_
    repeat' ((conv => whnf); first
        | refine Branch.ofT rfl ?_
        | refine Branch.ofF rfl ?_
        | refine Branch.dec (fun h => ?_) (fun h => ?_)
        | refine Branch.negdec (fun h => ?_) (fun h => ?_)
        | refine Branch.neg (fun h => ?_) (fun h => ?_)
        | refine Branch.mk (fun h => ?_) (fun h => ?_)
        | (refine Side.mk ?_ ?_; · first | omega | decide)
        | refine ⟨_, Nat.lt_succ_self _, To.refl (.inl ⟨rfl, ?_⟩)⟩
        | refine QCallA.of h19 rfl rfl ?_
        | refine QCallA.of h20 rfl rfl ?_
        | refine CallA.pure h20 rfl rfl ?_
        | refine CallA.pure san rfl rfl ?_
        | (refine Side.mk ?_ ?_; · (simp; done))
        | fail
        )
    all_goals (conv => whnf)
    all_goals exact RetA.data rfl ⟨rfl, rfl⟩
  | true =>
    have ha := right_acks x hr
    have hs := seek_right x n hr
    have ht := take_right x g hr
    refine c6g x n g (x.seek n) (x.offer n) (x.take g) x.holds x.rel (by rw [← hr]; exact c19 x) (by rw [← hr]; exact c20 x) (c11 x n) (c21 x n) (c14 x n) (c22 x n) (c23 x g) (c24 x g) (c13 x) (c25 x) (c15 x) (c26 x ha.1 ha.2.1 ha.2.2) ?_ ?_
    · rw [← hs]; exact c19 _
    · rw [← ht]; exact c19 _
end Go.Proofs

