/- Part of a proof about the given program: lemmas that the other parts use. -/
import Derived.Test.YtnmgifoihmjjmaaPart5
import Derived.Test.YtnmgifoihmjjmaaPart6

set_option linter.all false
set_option linter.unusedSimpArgs false
set_option linter.unusedVariables false
namespace Go.Proofs
open Go Go.Eng
set_option maxRecDepth 100000
set_option maxHeartbeats 4000000
attribute [local irreducible] Hol.holds Hol.rel
def pS (b : Bool) (n : Nat) : AV := match b with
  | true => .slice 4 0 n none 5
  | false => .nils
def gS (b : Bool) (n : Nat) : AV := match b with
  | true => .slice 5 0 n none 9
  | false => .nils
def sB (b : Bool) (cs : List AV) : AB := match b with
  | true => .cells cs
  | false => .dead
def Xw (l0 l1 l2 : List Kep) (p g : AV) (f : Int) : List AV := I 0 :: .dslice (kcells l0) l0.length none :: I 1 :: .dslice (kcells l1) l1.length none :: I 2 :: .dslice (kcells l2) l2.length none :: p :: g :: I f :: .map 1 :: .map 2 :: .map 3 :: []
def Ww (a b c : Hol) (X : List AV) : List AV := a.av ++ (b.av ++ (c.av ++ X))
def KH (a b c : Hol) (X : List AV) (P G : AB) (B : Nat → Bk) (m : Nat) (fr : Fr) (H : Heap) : Prop := ∃ i : Nat, i ≤ 3 ∧ m = 3 - i ∧ fr = [(0, .ptr 0 0), (2, .bool false), (15, .agg (a.av ++ (b.av ++ c.av))), (16, I i)] ∧ H = ⟨6, [(0, .cells (Ww a b c X)), (1, .map (imap (B i).rel)), (2, .map (imap (B i).held)), (3, .map (imap (B i).start)), (4, P), (5, G)]⟩
def K1 (W : List AV) (P G : AB) (rel held start : List (Int × Int)) (m : Nat) (fr : Fr) (H : Heap) : Prop := ∃ left cur, m = left.length ∧ Sub held left ∧ fr = [(0, .ptr 0 0), (2, .bool false), (91, .ptr 6 0)] ∧ H = ⟨7, [(0, .cells W), (1, .map (imap rel)), (2, .map (imap held)), (3, .map (imap start)), (4, P), (5, G), (6, .iter 2 left cur)]⟩
def K2 (W : List AV) (P G : AB) (rel held start : List (Int × Int)) (left : List (AV × AV)) (cur : Option (AV × AV)) (e : Int) (m : Nat) (fr : Fr) (H : Heap) : Prop := ∃ left2 cur2, m = left2.length ∧ Sub rel left2 ∧ fr = [(0, .ptr 0 0), (2, .bool false), (9, I e), (91, .ptr 6 0), (100, .ptr 7 0)] ∧ H = ⟨8, [(0, .cells W), (1, .map (imap rel)), (2, .map (imap held)), (3, .map (imap start)), (4, P), (5, G), (6, .iter 2 left cur), (7, .iter 1 left2 cur2)]⟩
theorem c29_f_f (a b c : Hol) (u0 u1 u2 : List Kep) (f : Int) (np ng : Nat) (pc gc : List AV) (hpc : ∀ x ∈ pc, noLoc x = true) (hgc : ∀ x ∈ gc, noLoc x = true) (B : Bk) (fa : fine a B) (fb : fine b (note a B)) (fc : fine c (note b (note a B)))
  (hg : ∀ e h, (e, h) ∈ (Bs a b c B 3).held → ∃ s, mfind (.c (.i .i64)) (I e) (imap (Bs a b c B 3).start) = some (some (I s)) ∧ ∀ e' n, (e', n) ∈ (Bs a b c B 3).rel → e' < e → n ≤ s) :
  CallA Try.prog 29 [.ptr 0 0] ⟨6, [(0, .cells (Ww a b c (Xw u0 u1 u2 (pS false np) (gS false ng) f))), (1, .map (imap B.rel)), (2, .map (imap B.held)), (3, .map (imap B.start)), (4, sB false pc), (5, sB false gc)]⟩ fun v H' => v = .bool true ∧ H' = ⟨6, [(0, .cells (Ww a b c (Xw u0 u1 u2 (pS false np) (gS false ng) f))), (1, .map (imap (Bs a b c B 3).rel)), (2, .map (imap (Bs a b c B 3).held)), (3, .map (imap (Bs a b c B 3).start)), (4, sB false pc), (5, sB false gc)]⟩ := by
  have hp : dataB (sB false pc) := by first | exact hpc | trivial
  have hq : dataB (sB false gc) := by first | exact hgc | trivial
  refine callA_of ok29 (Nat.le_of_ble_eq_true rfl) ?_
  (conv => whnf)
  refine ⟨KH a b c (Xw u0 u1 u2 (pS false np) (gS false ng) f) (sB false pc) (sB false gc) (Bs a b c B), 3, To.gc [(0, false), (1, true), (2, true), (3, true), (4, true), (5, true)] [0, 2, 15, 16] rfl ⟨trivial, trivial, trivial, hp, hq, trivial⟩ ⟨0, by omega, rfl, rfl, rfl⟩, ?_⟩
  rintro m fr H ⟨i, hi, rfl, rfl, rfl⟩
  rcases (show i = 0 ∨ i = 1 ∨ i = 2 ∨ i = 3 by omega) with rfl | rfl | rfl | rfl
  · have h13 := c13 a
    have h15 := c15 a
    have hn : Bs a b c B 1 = note a (Bs a b c B 0) := rfl
    have fx : fine a (Bs a b c B 0) := fa
    generalize Bs a b c B 0 = C at hn fx
    (conv => whnf)
    cases hh : a.holds with
    | false =>
      rw [hh] at h13
      rw [show a.rel = 0 by simp [Hol.rel, hh]] at h15
      repeat' ((conv => whnf); first
          | refine Branch.ofT rfl ?_
          | refine Branch.ofF rfl ?_
          | refine Branch.dec (fun h => ?_) (fun h => ?_)
          | refine Branch.negdec (fun h => ?_) (fun h => ?_)
          | refine Branch.neg (fun h => ?_) (fun h => ?_)
          | refine Branch.mk (fun h => ?_) (fun h => ?_)
          | (refine Side.mk ?_ ?_; · first | omega | decide)
          | (refine SideD.mk ?_ ?_; · first | omega | decide)
          | refine ⟨_, Nat.lt_succ_self _, To.refl (.inl ⟨rfl, ?_⟩)⟩
          | refine CallA.pure h13 rfl rfl ?_
          | refine CallA.pure h15 rfl rfl ?_
          | (refine Side.mk ?_ ?_; · (simp; done))
          | fail
          )
      all_goals (conv => whnf)
      refine ⟨3 - 1, by omega, To.gc [(0, false), (1, true), (2, true), (3, true), (4, true), (5, true)] [0, 2, 15, 16] rfl ⟨trivial, trivial, trivial, hp, hq, trivial⟩ ⟨1, by omega, rfl, rfl, by rw [hn, show note a C = C by simp [note, hh]]; rfl⟩⟩
    | true =>
      rw [hh] at h13
      have hgh := mget_i a.e C.held
      have hgs := mget_i a.e C.start
      have hgr := mget_i a.e C.rel
      have who : iget a.e C.held = none ∨ iget a.e C.held = some a.h := by
        cases e1 : iget a.e C.held with
        | none => exact .inl rfl
        | some q => exact .inr (by rw [fx hh q e1])
      rcases who with e1 | e1 <;> rcases e2 : iget a.e C.start with _ | q2 <;> rcases e3 : iget a.e C.rel with _ | q3 <;> rw [e1] at hgh <;> rw [e2] at hgs <;> rw [e3] at hgr
      · repeat' ((conv => whnf); first
            | refine Branch.ofT rfl ?_
            | refine Branch.ofF rfl ?_
            | refine Branch.ofF (by simp; done) ?_
            | refine Branch.dec (fun h => ?_) (fun h => ?_)
            | refine Branch.negdec (fun h => ?_) (fun h => ?_)
            | refine Branch.neg (fun h => ?_) (fun h => ?_)
            | refine Branch.mk (fun h => ?_) (fun h => ?_)
            | (refine Side.mk ?_ ?_; · first | omega | decide)
            | (refine SideD.mk ?_ ?_; · first | omega | decide)
            | refine ⟨_, Nat.lt_succ_self _, To.refl (.inl ⟨rfl, ?_⟩)⟩
            | refine CallA.pure h13 rfl rfl ?_
            | refine QCallA.of h15 rfl rfl ?_
            | refine ⟨_, hgh, ?_⟩
            | refine ⟨_, hgs, ?_⟩
            | refine ⟨_, hgr, ?_⟩
            | refine ⟨_, mset_i _ _ _, ?_⟩
            | (refine Side.mk ?_ ?_; · (simp; done))
            | fail
            )
        all_goals (conv => whnf)
        refine ⟨3 - 1, by omega, To.gc [(0, false), (1, true), (2, true), (3, true), (4, true), (5, true)] [0, 2, 15, 16] rfl ⟨trivial, trivial, trivial, hp, hq, trivial⟩ ⟨1, by omega, rfl, rfl, by rw [hn, show note a C = ⟨iput a.e (mx 0 a.rel) C.rel, iput a.e a.h C.held, iput a.e a.s C.start⟩ by simp [note, hh, e2, e3]]; rfl⟩⟩
      · repeat' ((conv => whnf); first
            | refine Branch.ofT rfl ?_
            | refine Branch.ofF rfl ?_
            | refine Branch.ofF (by simp; done) ?_
            | refine Branch.dec (fun h => ?_) (fun h => ?_)
            | refine Branch.negdec (fun h => ?_) (fun h => ?_)
            | refine Branch.neg (fun h => ?_) (fun h => ?_)
            | refine Branch.mk (fun h => ?_) (fun h => ?_)
            | (refine Side.mk ?_ ?_; · first | omega | decide)
            | (refine SideD.mk ?_ ?_; · first | omega | decide)
            | refine ⟨_, Nat.lt_succ_self _, To.refl (.inl ⟨rfl, ?_⟩)⟩
            | refine CallA.pure h13 rfl rfl ?_
            | refine QCallA.of h15 rfl rfl ?_
            | refine ⟨_, hgh, ?_⟩
            | refine ⟨_, hgs, ?_⟩
            | refine ⟨_, hgr, ?_⟩
            | refine ⟨_, mset_i _ _ _, ?_⟩
            | (refine Side.mk ?_ ?_; · (simp; done))
            | fail
            )
        all_goals (conv => whnf)
        refine ⟨3 - 1, by omega, To.gc [(0, false), (1, true), (2, true), (3, true), (4, true), (5, true)] [0, 2, 15, 16] rfl ⟨trivial, trivial, trivial, hp, hq, trivial⟩ ⟨1, by omega, rfl, rfl, by rw [hn, show note a C = ⟨iput a.e (mx q3 a.rel) C.rel, iput a.e a.h C.held, iput a.e a.s C.start⟩ by simp [note, hh, e2, e3]]; rfl⟩⟩
      · repeat' ((conv => whnf); first
            | refine Branch.ofT rfl ?_
            | refine Branch.ofF rfl ?_
            | refine Branch.ofF (by simp; done) ?_
            | refine Branch.dec (fun h => ?_) (fun h => ?_)
            | refine Branch.negdec (fun h => ?_) (fun h => ?_)
            | refine Branch.neg (fun h => ?_) (fun h => ?_)
            | refine Branch.mk (fun h => ?_) (fun h => ?_)
            | (refine Side.mk ?_ ?_; · first | omega | decide)
            | (refine SideD.mk ?_ ?_; · first | omega | decide)
            | refine ⟨_, Nat.lt_succ_self _, To.refl (.inl ⟨rfl, ?_⟩)⟩
            | refine CallA.pure h13 rfl rfl ?_
            | refine QCallA.of h15 rfl rfl ?_
            | refine ⟨_, hgh, ?_⟩
            | refine ⟨_, hgs, ?_⟩
            | refine ⟨_, hgr, ?_⟩
            | refine ⟨_, mset_i _ _ _, ?_⟩
            | (refine Side.mk ?_ ?_; · (simp; done))
            | fail
            )
        all_goals (conv => whnf)
        refine ⟨3 - 1, by omega, To.gc [(0, false), (1, true), (2, true), (3, true), (4, true), (5, true)] [0, 2, 15, 16] rfl ⟨trivial, trivial, trivial, hp, hq, trivial⟩ ⟨1, by omega, rfl, rfl, by rw [hn, show note a C = ⟨iput a.e (mx 0 a.rel) C.rel, iput a.e a.h C.held, C.start⟩ by simp [note, hh, e2, e3]]; rfl⟩⟩
      · repeat' ((conv => whnf); first
            | refine Branch.ofT rfl ?_
            | refine Branch.ofF rfl ?_
            | refine Branch.ofF (by simp; done) ?_
            | refine Branch.dec (fun h => ?_) (fun h => ?_)
            | refine Branch.negdec (fun h => ?_) (fun h => ?_)
            | refine Branch.neg (fun h => ?_) (fun h => ?_)
            | refine Branch.mk (fun h => ?_) (fun h => ?_)
            | (refine Side.mk ?_ ?_; · first | omega | decide)
            | (refine SideD.mk ?_ ?_; · first | omega | decide)
            | refine ⟨_, Nat.lt_succ_self _, To.refl (.inl ⟨rfl, ?_⟩)⟩
            | refine CallA.pure h13 rfl rfl ?_
            | refine QCallA.of h15 rfl rfl ?_
            | refine ⟨_, hgh, ?_⟩
            | refine ⟨_, hgs, ?_⟩
            | refine ⟨_, hgr, ?_⟩
            | refine ⟨_, mset_i _ _ _, ?_⟩
            | (refine Side.mk ?_ ?_; · (simp; done))
            | fail
            )
        all_goals (conv => whnf)
        refine ⟨3 - 1, by omega, To.gc [(0, false), (1, true), (2, true), (3, true), (4, true), (5, true)] [0, 2, 15, 16] rfl ⟨trivial, trivial, trivial, hp, hq, trivial⟩ ⟨1, by omega, rfl, rfl, by rw [hn, show note a C = ⟨iput a.e (mx q3 a.rel) C.rel, iput a.e a.h C.held, C.start⟩ by simp [note, hh, e2, e3]]; rfl⟩⟩
      · repeat' ((conv => whnf); first
            | refine Branch.ofT rfl ?_
            | refine Branch.ofF rfl ?_
            | refine Branch.ofF (by simp; done) ?_
            | refine Branch.dec (fun h => ?_) (fun h => ?_)
            | refine Branch.negdec (fun h => ?_) (fun h => ?_)
            | refine Branch.neg (fun h => ?_) (fun h => ?_)
            | refine Branch.mk (fun h => ?_) (fun h => ?_)
            | (refine Side.mk ?_ ?_; · first | omega | decide)
            | (refine SideD.mk ?_ ?_; · first | omega | decide)
            | refine ⟨_, Nat.lt_succ_self _, To.refl (.inl ⟨rfl, ?_⟩)⟩
            | refine CallA.pure h13 rfl rfl ?_
            | refine QCallA.of h15 rfl rfl ?_
            | refine ⟨_, hgh, ?_⟩
            | refine ⟨_, hgs, ?_⟩
            | refine ⟨_, hgr, ?_⟩
            | refine ⟨_, mset_i _ _ _, ?_⟩
            | (refine Side.mk ?_ ?_; · (simp; done))
            | fail
            )
        all_goals (conv => whnf)
        refine ⟨3 - 1, by omega, To.gc [(0, false), (1, true), (2, true), (3, true), (4, true), (5, true)] [0, 2, 15, 16] rfl ⟨trivial, trivial, trivial, hp, hq, trivial⟩ ⟨1, by omega, rfl, rfl, by rw [hn, show note a C = ⟨iput a.e (mx 0 a.rel) C.rel, iput a.e a.h C.held, iput a.e a.s C.start⟩ by simp [note, hh, e2, e3]]; rfl⟩⟩
      · repeat' ((conv => whnf); first
            | refine Branch.ofT rfl ?_
            | refine Branch.ofF rfl ?_
            | refine Branch.ofF (by simp; done) ?_
            | refine Branch.dec (fun h => ?_) (fun h => ?_)
            | refine Branch.negdec (fun h => ?_) (fun h => ?_)
            | refine Branch.neg (fun h => ?_) (fun h => ?_)
            | refine Branch.mk (fun h => ?_) (fun h => ?_)
            | (refine Side.mk ?_ ?_; · first | omega | decide)
            | (refine SideD.mk ?_ ?_; · first | omega | decide)
            | refine ⟨_, Nat.lt_succ_self _, To.refl (.inl ⟨rfl, ?_⟩)⟩
            | refine CallA.pure h13 rfl rfl ?_
            | refine QCallA.of h15 rfl rfl ?_
            | refine ⟨_, hgh, ?_⟩
            | refine ⟨_, hgs, ?_⟩
            | refine ⟨_, hgr, ?_⟩
            | refine ⟨_, mset_i _ _ _, ?_⟩
            | (refine Side.mk ?_ ?_; · (simp; done))
            | fail
            )
        all_goals (conv => whnf)
        refine ⟨3 - 1, by omega, To.gc [(0, false), (1, true), (2, true), (3, true), (4, true), (5, true)] [0, 2, 15, 16] rfl ⟨trivial, trivial, trivial, hp, hq, trivial⟩ ⟨1, by omega, rfl, rfl, by rw [hn, show note a C = ⟨iput a.e (mx q3 a.rel) C.rel, iput a.e a.h C.held, iput a.e a.s C.start⟩ by simp [note, hh, e2, e3]]; rfl⟩⟩
      · repeat' ((conv => whnf); first
            | refine Branch.ofT rfl ?_
            | refine Branch.ofF rfl ?_
            | refine Branch.ofF (by simp; done) ?_
            | refine Branch.dec (fun h => ?_) (fun h => ?_)
            | refine Branch.negdec (fun h => ?_) (fun h => ?_)
            | refine Branch.neg (fun h => ?_) (fun h => ?_)
            | refine Branch.mk (fun h => ?_) (fun h => ?_)
            | (refine Side.mk ?_ ?_; · first | omega | decide)
            | (refine SideD.mk ?_ ?_; · first | omega | decide)
            | refine ⟨_, Nat.lt_succ_self _, To.refl (.inl ⟨rfl, ?_⟩)⟩
            | refine CallA.pure h13 rfl rfl ?_
            | refine QCallA.of h15 rfl rfl ?_
            | refine ⟨_, hgh, ?_⟩
            | refine ⟨_, hgs, ?_⟩
            | refine ⟨_, hgr, ?_⟩
            | refine ⟨_, mset_i _ _ _, ?_⟩
            | (refine Side.mk ?_ ?_; · (simp; done))
            | fail
            )
        all_goals (conv => whnf)
        refine ⟨3 - 1, by omega, To.gc [(0, false), (1, true), (2, true), (3, true), (4, true), (5, true)] [0, 2, 15, 16] rfl ⟨trivial, trivial, trivial, hp, hq, trivial⟩ ⟨1, by omega, rfl, rfl, by rw [hn, show note a C = ⟨iput a.e (mx 0 a.rel) C.rel, iput a.e a.h C.held, C.start⟩ by simp [note, hh, e2, e3]]; rfl⟩⟩
      · repeat' ((conv => whnf); first
            | refine Branch.ofT rfl ?_
            | refine Branch.ofF rfl ?_
            | refine Branch.ofF (by simp; done) ?_
            | refine Branch.dec (fun h => ?_) (fun h => ?_)
            | refine Branch.negdec (fun h => ?_) (fun h => ?_)
            | refine Branch.neg (fun h => ?_) (fun h => ?_)
            | refine Branch.mk (fun h => ?_) (fun h => ?_)
            | (refine Side.mk ?_ ?_; · first | omega | decide)
            | (refine SideD.mk ?_ ?_; · first | omega | decide)
            | refine ⟨_, Nat.lt_succ_self _, To.refl (.inl ⟨rfl, ?_⟩)⟩
            | refine CallA.pure h13 rfl rfl ?_
            | refine QCallA.of h15 rfl rfl ?_
            | refine ⟨_, hgh, ?_⟩
            | refine ⟨_, hgs, ?_⟩
            | refine ⟨_, hgr, ?_⟩
            | refine ⟨_, mset_i _ _ _, ?_⟩
            | (refine Side.mk ?_ ?_; · (simp; done))
            | fail
            )
        all_goals (conv => whnf)
        refine ⟨3 - 1, by omega, To.gc [(0, false), (1, true), (2, true), (3, true), (4, true), (5, true)] [0, 2, 15, 16] rfl ⟨trivial, trivial, trivial, hp, hq, trivial⟩ ⟨1, by omega, rfl, rfl, by rw [hn, show note a C = ⟨iput a.e (mx q3 a.rel) C.rel, iput a.e a.h C.held, C.start⟩ by simp [note, hh, e2, e3]]; rfl⟩⟩
  · have h13 := c13 b
    have h15 := c15 b
    have hn : Bs a b c B 2 = note b (Bs a b c B 1) := rfl
    have fx : fine b (Bs a b c B 1) := fb
    generalize Bs a b c B 1 = C at hn fx
    (conv => whnf)
    cases hh : b.holds with
    | false =>
      rw [hh] at h13
      rw [show b.rel = 0 by simp [Hol.rel, hh]] at h15
      repeat' ((conv => whnf); first
          | refine Branch.ofT rfl ?_
          | refine Branch.ofF rfl ?_
          | refine Branch.dec (fun h => ?_) (fun h => ?_)
          | refine Branch.negdec (fun h => ?_) (fun h => ?_)
          | refine Branch.neg (fun h => ?_) (fun h => ?_)
          | refine Branch.mk (fun h => ?_) (fun h => ?_)
          | (refine Side.mk ?_ ?_; · first | omega | decide)
          | (refine SideD.mk ?_ ?_; · first | omega | decide)
          | refine ⟨_, Nat.lt_succ_self _, To.refl (.inl ⟨rfl, ?_⟩)⟩
          | refine CallA.pure h13 rfl rfl ?_
          | refine CallA.pure h15 rfl rfl ?_
          | (refine Side.mk ?_ ?_; · (simp; done))
          | fail
          )
      all_goals (conv => whnf)
      refine ⟨3 - 2, by omega, To.gc [(0, false), (1, true), (2, true), (3, true), (4, true), (5, true)] [0, 2, 15, 16] rfl ⟨trivial, trivial, trivial, hp, hq, trivial⟩ ⟨2, by omega, rfl, rfl, by rw [hn, show note b C = C by simp [note, hh]]; rfl⟩⟩
    | true =>
      rw [hh] at h13
      have hgh := mget_i b.e C.held
      have hgs := mget_i b.e C.start
      have hgr := mget_i b.e C.rel
      have who : iget b.e C.held = none ∨ iget b.e C.held = some b.h := by
        cases e1 : iget b.e C.held with
        | none => exact .inl rfl
        | some q => exact .inr (by rw [fx hh q e1])
      rcases who with e1 | e1 <;> rcases e2 : iget b.e C.start with _ | q2 <;> rcases e3 : iget b.e C.rel with _ | q3 <;> rw [e1] at hgh <;> rw [e2] at hgs <;> rw [e3] at hgr
      · repeat' ((conv => whnf); first
            | refine Branch.ofT rfl ?_
            | refine Branch.ofF rfl ?_
            | refine Branch.ofF (by simp; done) ?_
            | refine Branch.dec (fun h => ?_) (fun h => ?_)
            | refine Branch.negdec (fun h => ?_) (fun h => ?_)
            | refine Branch.neg (fun h => ?_) (fun h => ?_)
            | refine Branch.mk (fun h => ?_) (fun h => ?_)
            | (refine Side.mk ?_ ?_; · first | omega | decide)
            | (refine SideD.mk ?_ ?_; · first | omega | decide)
            | refine ⟨_, Nat.lt_succ_self _, To.refl (.inl ⟨rfl, ?_⟩)⟩
            | refine CallA.pure h13 rfl rfl ?_
            | refine QCallA.of h15 rfl rfl ?_
            | refine ⟨_, hgh, ?_⟩
            | refine ⟨_, hgs, ?_⟩
            | refine ⟨_, hgr, ?_⟩
            | refine ⟨_, mset_i _ _ _, ?_⟩
            | (refine Side.mk ?_ ?_; · (simp; done))
            | fail
            )
        all_goals (conv => whnf)
        refine ⟨3 - 2, by omega, To.gc [(0, false), (1, true), (2, true), (3, true), (4, true), (5, true)] [0, 2, 15, 16] rfl ⟨trivial, trivial, trivial, hp, hq, trivial⟩ ⟨2, by omega, rfl, rfl, by rw [hn, show note b C = ⟨iput b.e (mx 0 b.rel) C.rel, iput b.e b.h C.held, iput b.e b.s C.start⟩ by simp [note, hh, e2, e3]]; rfl⟩⟩
      · repeat' ((conv => whnf); first
            | refine Branch.ofT rfl ?_
            | refine Branch.ofF rfl ?_
            | refine Branch.ofF (by simp; done) ?_
            | refine Branch.dec (fun h => ?_) (fun h => ?_)
            | refine Branch.negdec (fun h => ?_) (fun h => ?_)
            | refine Branch.neg (fun h => ?_) (fun h => ?_)
            | refine Branch.mk (fun h => ?_) (fun h => ?_)
            | (refine Side.mk ?_ ?_; · first | omega | decide)
            | (refine SideD.mk ?_ ?_; · first | omega | decide)
            | refine ⟨_, Nat.lt_succ_self _, To.refl (.inl ⟨rfl, ?_⟩)⟩
            | refine CallA.pure h13 rfl rfl ?_
            | refine QCallA.of h15 rfl rfl ?_
            | refine ⟨_, hgh, ?_⟩
            | refine ⟨_, hgs, ?_⟩
            | refine ⟨_, hgr, ?_⟩
            | refine ⟨_, mset_i _ _ _, ?_⟩
            | (refine Side.mk ?_ ?_; · (simp; done))
            | fail
            )
        all_goals (conv => whnf)
        refine ⟨3 - 2, by omega, To.gc [(0, false), (1, true), (2, true), (3, true), (4, true), (5, true)] [0, 2, 15, 16] rfl ⟨trivial, trivial, trivial, hp, hq, trivial⟩ ⟨2, by omega, rfl, rfl, by rw [hn, show note b C = ⟨iput b.e (mx q3 b.rel) C.rel, iput b.e b.h C.held, iput b.e b.s C.start⟩ by simp [note, hh, e2, e3]]; rfl⟩⟩
      · repeat' ((conv => whnf); first
            | refine Branch.ofT rfl ?_
            | refine Branch.ofF rfl ?_
            | refine Branch.ofF (by simp; done) ?_
            | refine Branch.dec (fun h => ?_) (fun h => ?_)
            | refine Branch.negdec (fun h => ?_) (fun h => ?_)
            | refine Branch.neg (fun h => ?_) (fun h => ?_)
            | refine Branch.mk (fun h => ?_) (fun h => ?_)
            | (refine Side.mk ?_ ?_; · first | omega | decide)
            | (refine SideD.mk ?_ ?_; · first | omega | decide)
            | refine ⟨_, Nat.lt_succ_self _, To.refl (.inl ⟨rfl, ?_⟩)⟩
            | refine CallA.pure h13 rfl rfl ?_
            | refine QCallA.of h15 rfl rfl ?_
            | refine ⟨_, hgh, ?_⟩
            | refine ⟨_, hgs, ?_⟩
            | refine ⟨_, hgr, ?_⟩
            | refine ⟨_, mset_i _ _ _, ?_⟩
            | (refine Side.mk ?_ ?_; · (simp; done))
            | fail
            )
        all_goals (conv => whnf)
        refine ⟨3 - 2, by omega, To.gc [(0, false), (1, true), (2, true), (3, true), (4, true), (5, true)] [0, 2, 15, 16] rfl ⟨trivial, trivial, trivial, hp, hq, trivial⟩ ⟨2, by omega, rfl, rfl, by rw [hn, show note b C = ⟨iput b.e (mx 0 b.rel) C.rel, iput b.e b.h C.held, C.start⟩ by simp [note, hh, e2, e3]]; rfl⟩⟩
      · repeat' ((conv => whnf); first
            | refine Branch.ofT rfl ?_
            | refine Branch.ofF rfl ?_
            | refine Branch.ofF (by simp; done) ?_
            | refine Branch.dec (fun h => ?_) (fun h => ?_)
            | refine Branch.negdec (fun h => ?_) (fun h => ?_)
            | refine Branch.neg (fun h => ?_) (fun h => ?_)
            | refine Branch.mk (fun h => ?_) (fun h => ?_)
            | (refine Side.mk ?_ ?_; · first | omega | decide)
            | (refine SideD.mk ?_ ?_; · first | omega | decide)
            | refine ⟨_, Nat.lt_succ_self _, To.refl (.inl ⟨rfl, ?_⟩)⟩
            | refine CallA.pure h13 rfl rfl ?_
            | refine QCallA.of h15 rfl rfl ?_
            | refine ⟨_, hgh, ?_⟩
            | refine ⟨_, hgs, ?_⟩
            | refine ⟨_, hgr, ?_⟩
            | refine ⟨_, mset_i _ _ _, ?_⟩
            | (refine Side.mk ?_ ?_; · (simp; done))
            | fail
            )
        all_goals (conv => whnf)
        refine ⟨3 - 2, by omega, To.gc [(0, false), (1, true), (2, true), (3, true), (4, true), (5, true)] [0, 2, 15, 16] rfl ⟨trivial, trivial, trivial, hp, hq, trivial⟩ ⟨2, by omega, rfl, rfl, by rw [hn, show note b C = ⟨iput b.e (mx q3 b.rel) C.rel, iput b.e b.h C.held, C.start⟩ by simp [note, hh, e2, e3]]; rfl⟩⟩
      · repeat' ((conv => whnf); first
            | refine Branch.ofT rfl ?_
            | refine Branch.ofF rfl ?_
            | refine Branch.ofF (by simp; done) ?_
            | refine Branch.dec (fun h => ?_) (fun h => ?_)
            | refine Branch.negdec (fun h => ?_) (fun h => ?_)
            | refine Branch.neg (fun h => ?_) (fun h => ?_)
            | refine Branch.mk (fun h => ?_) (fun h => ?_)
            | (refine Side.mk ?_ ?_; · first | omega | decide)
            | (refine SideD.mk ?_ ?_; · first | omega | decide)
            | refine ⟨_, Nat.lt_succ_self _, To.refl (.inl ⟨rfl, ?_⟩)⟩
            | refine CallA.pure h13 rfl rfl ?_
            | refine QCallA.of h15 rfl rfl ?_
            | refine ⟨_, hgh, ?_⟩
            | refine ⟨_, hgs, ?_⟩
            | refine ⟨_, hgr, ?_⟩
            | refine ⟨_, mset_i _ _ _, ?_⟩
            | (refine Side.mk ?_ ?_; · (simp; done))
            | fail
            )
        all_goals (conv => whnf)
        refine ⟨3 - 2, by omega, To.gc [(0, false), (1, true), (2, true), (3, true), (4, true), (5, true)] [0, 2, 15, 16] rfl ⟨trivial, trivial, trivial, hp, hq, trivial⟩ ⟨2, by omega, rfl, rfl, by rw [hn, show note b C = ⟨iput b.e (mx 0 b.rel) C.rel, iput b.e b.h C.held, iput b.e b.s C.start⟩ by simp [note, hh, e2, e3]]; rfl⟩⟩
      · repeat' ((conv => whnf); first
            | refine Branch.ofT rfl ?_
            | refine Branch.ofF rfl ?_
            | refine Branch.ofF (by simp; done) ?_
            | refine Branch.dec (fun h => ?_) (fun h => ?_)
            | refine Branch.negdec (fun h => ?_) (fun h => ?_)
            | refine Branch.neg (fun h => ?_) (fun h => ?_)
            | refine Branch.mk (fun h => ?_) (fun h => ?_)
            | (refine Side.mk ?_ ?_; · first | omega | decide)
            | (refine SideD.mk ?_ ?_; · first | omega | decide)
            | refine ⟨_, Nat.lt_succ_self _, To.refl (.inl ⟨rfl, ?_⟩)⟩
            | refine CallA.pure h13 rfl rfl ?_
            | refine QCallA.of h15 rfl rfl ?_
            | refine ⟨_, hgh, ?_⟩
            | refine ⟨_, hgs, ?_⟩
            | refine ⟨_, hgr, ?_⟩
            | refine ⟨_, mset_i _ _ _, ?_⟩
            | (refine Side.mk ?_ ?_; · (simp; done))
            | fail
            )
        all_goals (conv => whnf)
        refine ⟨3 - 2, by omega, To.gc [(0, false), (1, true), (2, true), (3, true), (4, true), (5, true)] [0, 2, 15, 16] rfl ⟨trivial, trivial, trivial, hp, hq, trivial⟩ ⟨2, by omega, rfl, rfl, by rw [hn, show note b C = ⟨iput b.e (mx q3 b.rel) C.rel, iput b.e b.h C.held, iput b.e b.s C.start⟩ by simp [note, hh, e2, e3]]; rfl⟩⟩
      · repeat' ((conv => whnf); first
            | refine Branch.ofT rfl ?_
            | refine Branch.ofF rfl ?_
            | refine Branch.ofF (by simp; done) ?_
            | refine Branch.dec (fun h => ?_) (fun h => ?_)
            | refine Branch.negdec (fun h => ?_) (fun h => ?_)
            | refine Branch.neg (fun h => ?_) (fun h => ?_)
            | refine Branch.mk (fun h => ?_) (fun h => ?_)
            | (refine Side.mk ?_ ?_; · first | omega | decide)
            | (refine SideD.mk ?_ ?_; · first | omega | decide)
            | refine ⟨_, Nat.lt_succ_self _, To.refl (.inl ⟨rfl, ?_⟩)⟩
            | refine CallA.pure h13 rfl rfl ?_
            | refine QCallA.of h15 rfl rfl ?_
            | refine ⟨_, hgh, ?_⟩
            | refine ⟨_, hgs, ?_⟩
            | refine ⟨_, hgr, ?_⟩
            | refine ⟨_, mset_i _ _ _, ?_⟩
            | (refine Side.mk ?_ ?_; · (simp; done))
            | fail
            )
        all_goals (conv => whnf)
        refine ⟨3 - 2, by omega, To.gc [(0, false), (1, true), (2, true), (3, true), (4, true), (5, true)] [0, 2, 15, 16] rfl ⟨trivial, trivial, trivial, hp, hq, trivial⟩ ⟨2, by omega, rfl, rfl, by rw [hn, show note b C = ⟨iput b.e (mx 0 b.rel) C.rel, iput b.e b.h C.held, C.start⟩ by simp [note, hh, e2, e3]]; rfl⟩⟩
      · repeat' ((conv => whnf); first
            | refine Branch.ofT rfl ?_
            | refine Branch.ofF rfl ?_
            | refine Branch.ofF (by simp; done) ?_
            | refine Branch.dec (fun h => ?_) (fun h => ?_)
            | refine Branch.negdec (fun h => ?_) (fun h => ?_)
            | refine Branch.neg (fun h => ?_) (fun h => ?_)
            | refine Branch.mk (fun h => ?_) (fun h => ?_)
            | (refine Side.mk ?_ ?_; · first | omega | decide)
            | (refine SideD.mk ?_ ?_; · first | omega | decide)
            | refine ⟨_, Nat.lt_succ_self _, To.refl (.inl ⟨rfl, ?_⟩)⟩
            | refine CallA.pure h13 rfl rfl ?_
            | refine QCallA.of h15 rfl rfl ?_
            | refine ⟨_, hgh, ?_⟩
            | refine ⟨_, hgs, ?_⟩
            | refine ⟨_, hgr, ?_⟩
            | refine ⟨_, mset_i _ _ _, ?_⟩
            | (refine Side.mk ?_ ?_; · (simp; done))
            | fail
            )
        all_goals (conv => whnf)
        refine ⟨3 - 2, by omega, To.gc [(0, false), (1, true), (2, true), (3, true), (4, true), (5, true)] [0, 2, 15, 16] rfl ⟨trivial, trivial, trivial, hp, hq, trivial⟩ ⟨2, by omega, rfl, rfl, by rw [hn, show note b C = ⟨iput b.e (mx q3 b.rel) C.rel, iput b.e b.h C.held, C.start⟩ by simp [note, hh, e2, e3]]; rfl⟩⟩
  · have h13 := c13 c
    have h15 := c15 c
    have hn : Bs a b c B 3 = note c (Bs a b c B 2) := rfl
    have fx : fine c (Bs a b c B 2) := fc
    generalize Bs a b c B 2 = C at hn fx
    (conv => whnf)
    cases hh : c.holds with
    | false =>
      rw [hh] at h13
      rw [show c.rel = 0 by simp [Hol.rel, hh]] at h15
      repeat' ((conv => whnf); first
          | refine Branch.ofT rfl ?_
          | refine Branch.ofF rfl ?_
          | refine Branch.dec (fun h => ?_) (fun h => ?_)
          | refine Branch.negdec (fun h => ?_) (fun h => ?_)
          | refine Branch.neg (fun h => ?_) (fun h => ?_)
          | refine Branch.mk (fun h => ?_) (fun h => ?_)
          | (refine Side.mk ?_ ?_; · first | omega | decide)
          | (refine SideD.mk ?_ ?_; · first | omega | decide)
          | refine ⟨_, Nat.lt_succ_self _, To.refl (.inl ⟨rfl, ?_⟩)⟩
          | refine CallA.pure h13 rfl rfl ?_
          | refine CallA.pure h15 rfl rfl ?_
          | (refine Side.mk ?_ ?_; · (simp; done))
          | fail
          )
      all_goals (conv => whnf)
      refine ⟨3 - 3, by omega, To.gc [(0, false), (1, true), (2, true), (3, true), (4, true), (5, true)] [0, 2, 15, 16] rfl ⟨trivial, trivial, trivial, hp, hq, trivial⟩ ⟨3, by omega, rfl, rfl, by rw [hn, show note c C = C by simp [note, hh]]; rfl⟩⟩
    | true =>
      rw [hh] at h13
      have hgh := mget_i c.e C.held
      have hgs := mget_i c.e C.start
      have hgr := mget_i c.e C.rel
      have who : iget c.e C.held = none ∨ iget c.e C.held = some c.h := by
        cases e1 : iget c.e C.held with
        | none => exact .inl rfl
        | some q => exact .inr (by rw [fx hh q e1])
      rcases who with e1 | e1 <;> rcases e2 : iget c.e C.start with _ | q2 <;> rcases e3 : iget c.e C.rel with _ | q3 <;> rw [e1] at hgh <;> rw [e2] at hgs <;> rw [e3] at hgr
      · repeat' ((conv => whnf); first
            | refine Branch.ofT rfl ?_
            | refine Branch.ofF rfl ?_
            | refine Branch.ofF (by simp; done) ?_
            | refine Branch.dec (fun h => ?_) (fun h => ?_)
            | refine Branch.negdec (fun h => ?_) (fun h => ?_)
            | refine Branch.neg (fun h => ?_) (fun h => ?_)
            | refine Branch.mk (fun h => ?_) (fun h => ?_)
            | (refine Side.mk ?_ ?_; · first | omega | decide)
            | (refine SideD.mk ?_ ?_; · first | omega | decide)
            | refine ⟨_, Nat.lt_succ_self _, To.refl (.inl ⟨rfl, ?_⟩)⟩
            | refine CallA.pure h13 rfl rfl ?_
            | refine QCallA.of h15 rfl rfl ?_
            | refine ⟨_, hgh, ?_⟩
            | refine ⟨_, hgs, ?_⟩
            | refine ⟨_, hgr, ?_⟩
            | refine ⟨_, mset_i _ _ _, ?_⟩
            | (refine Side.mk ?_ ?_; · (simp; done))
            | fail
            )
        all_goals (conv => whnf)
        refine ⟨3 - 3, by omega, To.gc [(0, false), (1, true), (2, true), (3, true), (4, true), (5, true)] [0, 2, 15, 16] rfl ⟨trivial, trivial, trivial, hp, hq, trivial⟩ ⟨3, by omega, rfl, rfl, by rw [hn, show note c C = ⟨iput c.e (mx 0 c.rel) C.rel, iput c.e c.h C.held, iput c.e c.s C.start⟩ by simp [note, hh, e2, e3]]; rfl⟩⟩
      · repeat' ((conv => whnf); first
            | refine Branch.ofT rfl ?_
            | refine Branch.ofF rfl ?_
            | refine Branch.ofF (by simp; done) ?_
            | refine Branch.dec (fun h => ?_) (fun h => ?_)
            | refine Branch.negdec (fun h => ?_) (fun h => ?_)
            | refine Branch.neg (fun h => ?_) (fun h => ?_)
            | refine Branch.mk (fun h => ?_) (fun h => ?_)
            | (refine Side.mk ?_ ?_; · first | omega | decide)
            | (refine SideD.mk ?_ ?_; · first | omega | decide)
            | refine ⟨_, Nat.lt_succ_self _, To.refl (.inl ⟨rfl, ?_⟩)⟩
            | refine CallA.pure h13 rfl rfl ?_
            | refine QCallA.of h15 rfl rfl ?_
            | refine ⟨_, hgh, ?_⟩
            | refine ⟨_, hgs, ?_⟩
            | refine ⟨_, hgr, ?_⟩
            | refine ⟨_, mset_i _ _ _, ?_⟩
            | (refine Side.mk ?_ ?_; · (simp; done))
            | fail
            )
        all_goals (conv => whnf)
        refine ⟨3 - 3, by omega, To.gc [(0, false), (1, true), (2, true), (3, true), (4, true), (5, true)] [0, 2, 15, 16] rfl ⟨trivial, trivial, trivial, hp, hq, trivial⟩ ⟨3, by omega, rfl, rfl, by rw [hn, show note c C = ⟨iput c.e (mx q3 c.rel) C.rel, iput c.e c.h C.held, iput c.e c.s C.start⟩ by simp [note, hh, e2, e3]]; rfl⟩⟩
      · repeat' ((conv => whnf); first
            | refine Branch.ofT rfl ?_
            | refine Branch.ofF rfl ?_
            | refine Branch.ofF (by simp; done) ?_
            | refine Branch.dec (fun h => ?_) (fun h => ?_)
            | refine Branch.negdec (fun h => ?_) (fun h => ?_)
            | refine Branch.neg (fun h => ?_) (fun h => ?_)
            | refine Branch.mk (fun h => ?_) (fun h => ?_)
            | (refine Side.mk ?_ ?_; · first | omega | decide)
            | (refine SideD.mk ?_ ?_; · first | omega | decide)
            | refine ⟨_, Nat.lt_succ_self _, To.refl (.inl ⟨rfl, ?_⟩)⟩
            | refine CallA.pure h13 rfl rfl ?_
            | refine QCallA.of h15 rfl rfl ?_
            | refine ⟨_, hgh, ?_⟩
            | refine ⟨_, hgs, ?_⟩
            | refine ⟨_, hgr, ?_⟩
            | refine ⟨_, mset_i _ _ _, ?_⟩
            | (refine Side.mk ?_ ?_; · (simp; done))
            | fail
            )
        all_goals (conv => whnf)
        refine ⟨3 - 3, by omega, To.gc [(0, false), (1, true), (2, true), (3, true), (4, true), (5, true)] [0, 2, 15, 16] rfl ⟨trivial, trivial, trivial, hp, hq, trivial⟩ ⟨3, by omega, rfl, rfl, by rw [hn, show note c C = ⟨iput c.e (mx 0 c.rel) C.rel, iput c.e c.h C.held, C.start⟩ by simp [note, hh, e2, e3]]; rfl⟩⟩
      · repeat' ((conv => whnf); first
            | refine Branch.ofT rfl ?_
            | refine Branch.ofF rfl ?_
            | refine Branch.ofF (by simp; done) ?_
            | refine Branch.dec (fun h => ?_) (fun h => ?_)
            | refine Branch.negdec (fun h => ?_) (fun h => ?_)
            | refine Branch.neg (fun h => ?_) (fun h => ?_)
            | refine Branch.mk (fun h => ?_) (fun h => ?_)
            | (refine Side.mk ?_ ?_; · first | omega | decide)
            | (refine SideD.mk ?_ ?_; · first | omega | decide)
            | refine ⟨_, Nat.lt_succ_self _, To.refl (.inl ⟨rfl, ?_⟩)⟩
            | refine CallA.pure h13 rfl rfl ?_
            | refine QCallA.of h15 rfl rfl ?_
            | refine ⟨_, hgh, ?_⟩
            | refine ⟨_, hgs, ?_⟩
            | refine ⟨_, hgr, ?_⟩
            | refine ⟨_, mset_i _ _ _, ?_⟩
            | (refine Side.mk ?_ ?_; · (simp; done))
            | fail
            )
        all_goals (conv => whnf)
        refine ⟨3 - 3, by omega, To.gc [(0, false), (1, true), (2, true), (3, true), (4, true), (5, true)] [0, 2, 15, 16] rfl ⟨trivial, trivial, trivial, hp, hq, trivial⟩ ⟨3, by omega, rfl, rfl, by rw [hn, show note c C = ⟨iput c.e (mx q3 c.rel) C.rel, iput c.e c.h C.held, C.start⟩ by simp [note, hh, e2, e3]]; rfl⟩⟩
      · repeat' ((conv => whnf); first
            | refine Branch.ofT rfl ?_
            | refine Branch.ofF rfl ?_
            | refine Branch.ofF (by simp; done) ?_
            | refine Branch.dec (fun h => ?_) (fun h => ?_)
            | refine Branch.negdec (fun h => ?_) (fun h => ?_)
            | refine Branch.neg (fun h => ?_) (fun h => ?_)
            | refine Branch.mk (fun h => ?_) (fun h => ?_)
            | (refine Side.mk ?_ ?_; · first | omega | decide)
            | (refine SideD.mk ?_ ?_; · first | omega | decide)
            | refine ⟨_, Nat.lt_succ_self _, To.refl (.inl ⟨rfl, ?_⟩)⟩
            | refine CallA.pure h13 rfl rfl ?_
            | refine QCallA.of h15 rfl rfl ?_
            | refine ⟨_, hgh, ?_⟩
            | refine ⟨_, hgs, ?_⟩
            | refine ⟨_, hgr, ?_⟩
            | refine ⟨_, mset_i _ _ _, ?_⟩
            | (refine Side.mk ?_ ?_; · (simp; done))
            | fail
            )
        all_goals (conv => whnf)
        refine ⟨3 - 3, by omega, To.gc [(0, false), (1, true), (2, true), (3, true), (4, true), (5, true)] [0, 2, 15, 16] rfl ⟨trivial, trivial, trivial, hp, hq, trivial⟩ ⟨3, by omega, rfl, rfl, by rw [hn, show note c C = ⟨iput c.e (mx 0 c.rel) C.rel, iput c.e c.h C.held, iput c.e c.s C.start⟩ by simp [note, hh, e2, e3]]; rfl⟩⟩
      · repeat' ((conv => whnf); first
            | refine Branch.ofT rfl ?_
            | refine Branch.ofF rfl ?_
            | refine Branch.ofF (by simp; done) ?_
            | refine Branch.dec (fun h => ?_) (fun h => ?_)
            | refine Branch.negdec (fun h => ?_) (fun h => ?_)
            | refine Branch.neg (fun h => ?_) (fun h => ?_)
            | refine Branch.mk (fun h => ?_) (fun h => ?_)
            | (refine Side.mk ?_ ?_; · first | omega | decide)
            | (refine SideD.mk ?_ ?_; · first | omega | decide)
            | refine ⟨_, Nat.lt_succ_self _, To.refl (.inl ⟨rfl, ?_⟩)⟩
            | refine CallA.pure h13 rfl rfl ?_
            | refine QCallA.of h15 rfl rfl ?_
            | refine ⟨_, hgh, ?_⟩
            | refine ⟨_, hgs, ?_⟩
            | refine ⟨_, hgr, ?_⟩
            | refine ⟨_, mset_i _ _ _, ?_⟩
            | (refine Side.mk ?_ ?_; · (simp; done))
            | fail
            )
        all_goals (conv => whnf)
        refine ⟨3 - 3, by omega, To.gc [(0, false), (1, true), (2, true), (3, true), (4, true), (5, true)] [0, 2, 15, 16] rfl ⟨trivial, trivial, trivial, hp, hq, trivial⟩ ⟨3, by omega, rfl, rfl, by rw [hn, show note c C = ⟨iput c.e (mx q3 c.rel) C.rel, iput c.e c.h C.held, iput c.e c.s C.start⟩ by simp [note, hh, e2, e3]]; rfl⟩⟩
      · repeat' ((conv => whnf); first
            | refine Branch.ofT rfl ?_
            | refine Branch.ofF rfl ?_
            | refine Branch.ofF (by simp; done) ?_
            | refine Branch.dec (fun h => ?_) (fun h => ?_)
            | refine Branch.negdec (fun h => ?_) (fun h => ?_)
            | refine Branch.neg (fun h => ?_) (fun h => ?_)
            | refine Branch.mk (fun h => ?_) (fun h => ?_)
            | (refine Side.mk ?_ ?_; · first | omega | decide)
            | (refine SideD.mk ?_ ?_; · first | omega | decide)
            | refine ⟨_, Nat.lt_succ_self _, To.refl (.inl ⟨rfl, ?_⟩)⟩
            | refine CallA.pure h13 rfl rfl ?_
            | refine QCallA.of h15 rfl rfl ?_
            | refine ⟨_, hgh, ?_⟩
            | refine ⟨_, hgs, ?_⟩
            | refine ⟨_, hgr, ?_⟩
            | refine ⟨_, mset_i _ _ _, ?_⟩
            | (refine Side.mk ?_ ?_; · (simp; done))
            | fail
            )
        all_goals (conv => whnf)
        refine ⟨3 - 3, by omega, To.gc [(0, false), (1, true), (2, true), (3, true), (4, true), (5, true)] [0, 2, 15, 16] rfl ⟨trivial, trivial, trivial, hp, hq, trivial⟩ ⟨3, by omega, rfl, rfl, by rw [hn, show note c C = ⟨iput c.e (mx 0 c.rel) C.rel, iput c.e c.h C.held, C.start⟩ by simp [note, hh, e2, e3]]; rfl⟩⟩
      · repeat' ((conv => whnf); first
            | refine Branch.ofT rfl ?_
            | refine Branch.ofF rfl ?_
            | refine Branch.ofF (by simp; done) ?_
            | refine Branch.dec (fun h => ?_) (fun h => ?_)
            | refine Branch.negdec (fun h => ?_) (fun h => ?_)
            | refine Branch.neg (fun h => ?_) (fun h => ?_)
            | refine Branch.mk (fun h => ?_) (fun h => ?_)
            | (refine Side.mk ?_ ?_; · first | omega | decide)
            | (refine SideD.mk ?_ ?_; · first | omega | decide)
            | refine ⟨_, Nat.lt_succ_self _, To.refl (.inl ⟨rfl, ?_⟩)⟩
            | refine CallA.pure h13 rfl rfl ?_
            | refine QCallA.of h15 rfl rfl ?_
            | refine ⟨_, hgh, ?_⟩
            | refine ⟨_, hgs, ?_⟩
            | refine ⟨_, hgr, ?_⟩
            | refine ⟨_, mset_i _ _ _, ?_⟩
            | (refine Side.mk ?_ ?_; · (simp; done))
            | fail
            )
        all_goals (conv => whnf)
        refine ⟨3 - 3, by omega, To.gc [(0, false), (1, true), (2, true), (3, true), (4, true), (5, true)] [0, 2, 15, 16] rfl ⟨trivial, trivial, trivial, hp, hq, trivial⟩ ⟨3, by omega, rfl, rfl, by rw [hn, show note c C = ⟨iput c.e (mx q3 c.rel) C.rel, iput c.e c.h C.held, C.start⟩ by simp [note, hh, e2, e3]]; rfl⟩⟩
  · generalize Bs a b c B 3 = C at hg ⊢
    repeat' ((conv => whnf); first
        | refine Branch.ofT rfl ?_
        | refine Branch.ofF rfl ?_
        | refine Branch.dec (fun h => ?_) (fun h => ?_)
        | refine Branch.negdec (fun h => ?_) (fun h => ?_)
        | refine Branch.neg (fun h => ?_) (fun h => ?_)
        | refine Branch.mk (fun h => ?_) (fun h => ?_)
        | (refine Side.mk ?_ ?_; · first | omega | decide)
        | (refine SideD.mk ?_ ?_; · first | omega | decide)
        | refine ⟨_, Nat.lt_succ_self _, To.refl (.inl ⟨rfl, ?_⟩)⟩
        | (refine Side.mk ?_ ?_; · (simp; done))
        | fail
        )
    all_goals (conv => whnf)
    refine ⟨K1 (Ww a b c (Xw u0 u1 u2 (pS false np) (gS false ng) f)) (sB false pc) (sB false gc) C.rel C.held C.start, (imap C.held).length, To.gc [(0, false), (1, true), (2, true), (3, true), (4, true), (5, true), (6, false)] [0, 2, 91] rfl ⟨trivial, trivial, trivial, hp, hq, trivial⟩ ⟨_, none, rfl, ⟨C.held, rfl, fun _ h => h⟩, rfl, rfl⟩, ?_⟩
    rintro m fr H ⟨left, cur, rfl, hsub, rfl, rfl⟩
    (conv => whnf)
    refine ⟨fun h => ?_, fun l1 x y l2 h => ?_⟩
    · repeat' ((conv => whnf); first
          | refine Branch.ofT rfl ?_
          | refine Branch.ofF rfl ?_
          | refine Branch.dec (fun h => ?_) (fun h => ?_)
          | refine Branch.negdec (fun h => ?_) (fun h => ?_)
          | refine Branch.neg (fun h => ?_) (fun h => ?_)
          | refine Branch.mk (fun h => ?_) (fun h => ?_)
          | (refine Side.mk ?_ ?_; · first | omega | decide)
          | (refine SideD.mk ?_ ?_; · first | omega | decide)
          | refine ⟨_, Nat.lt_succ_self _, To.refl (.inl ⟨rfl, ?_⟩)⟩
          | (refine Side.mk ?_ ?_; · (simp; done))
          | fail
          )
      all_goals (conv => whnf)
      exact RetA.gc [(0, false), (1, true), (2, true), (3, true), (4, true), (5, true)] rfl ⟨trivial, trivial, trivial, hp, hq, trivial⟩ ⟨rfl, rfl⟩
    · subst h
      obtain ⟨e, n, rfl, rfl, hmem, hsub'⟩ := hsub.step
      obtain ⟨s, hget, hle⟩ := hg e n hmem
      repeat' ((conv => whnf); first
          | refine Branch.ofT rfl ?_
          | refine Branch.ofF rfl ?_
          | refine Branch.dec (fun h => ?_) (fun h => ?_)
          | refine Branch.negdec (fun h => ?_) (fun h => ?_)
          | refine Branch.neg (fun h => ?_) (fun h => ?_)
          | refine Branch.mk (fun h => ?_) (fun h => ?_)
          | (refine Side.mk ?_ ?_; · first | omega | decide)
          | (refine SideD.mk ?_ ?_; · first | omega | decide)
          | refine ⟨_, Nat.lt_succ_self _, To.refl (.inl ⟨rfl, ?_⟩)⟩
          | (refine Side.mk ?_ ?_; · (simp; done))
          | fail
          )
      all_goals (conv => whnf)
      refine ⟨K2 (Ww a b c (Xw u0 u1 u2 (pS false np) (gS false ng) f)) (sB false pc) (sB false gc) C.rel C.held C.start (l1 ++ l2) (some (I e, I n)) e, (imap C.rel).length, To.gc [(0, false), (1, true), (2, true), (3, true), (4, true), (5, true), (6, false), (7, false)] [0, 2, 9, 91, 100] rfl ⟨trivial, trivial, trivial, hp, hq, trivial⟩ ⟨_, none, rfl, ⟨C.rel, rfl, fun _ h => h⟩, rfl, rfl⟩, ?_⟩
      rintro m fr H ⟨left2, cur2, rfl, hsub2, rfl, rfl⟩
      (conv => whnf)
      refine ⟨fun h2 => ?_, fun k1 x2 y2 k2 h2 => ?_⟩
      · repeat' ((conv => whnf); first
            | refine Branch.ofT rfl ?_
            | refine Branch.ofF rfl ?_
            | refine Branch.dec (fun h => ?_) (fun h => ?_)
            | refine Branch.negdec (fun h => ?_) (fun h => ?_)
            | refine Branch.neg (fun h => ?_) (fun h => ?_)
            | refine Branch.mk (fun h => ?_) (fun h => ?_)
            | (refine Side.mk ?_ ?_; · first | omega | decide)
            | (refine SideD.mk ?_ ?_; · first | omega | decide)
            | refine ⟨_, Nat.lt_succ_self _, To.refl (.inl ⟨rfl, ?_⟩)⟩
            | (refine Side.mk ?_ ?_; · (simp; done))
            | fail
            )
        all_goals (conv => whnf)
        refine ⟨(l1 ++ l2).length, by simp, To.gc [(0, false), (1, true), (2, true), (3, true), (4, true), (5, true), (6, false)] [0, 2, 91] rfl ⟨trivial, trivial, trivial, hp, hq, trivial⟩ ⟨_, _, rfl, hsub', rfl, rfl⟩⟩
      · subst h2
        obtain ⟨e2, n2, rfl, rfl, hmem2, hsub2'⟩ := hsub2.step
        have hle2 := hle e2 n2 hmem2
        repeat' ((conv => whnf); first
            | refine Branch.ofT rfl ?_
            | refine Branch.ofF rfl ?_
            | refine Branch.ofF (decide_eq_false (by have := hle2 (by assumption); omega)) ?_
            | refine Branch.dec (fun h => ?_) (fun h => ?_)
            | refine Branch.negdec (fun h => ?_) (fun h => ?_)
            | refine Branch.neg (fun h => ?_) (fun h => ?_)
            | refine Branch.mk (fun h => ?_) (fun h => ?_)
            | (refine Side.mk ?_ ?_; · first | omega | decide)
            | (refine SideD.mk ?_ ?_; · first | omega | decide)
            | refine ⟨_, Nat.lt_succ_self _, To.refl (.inl ⟨rfl, ?_⟩)⟩
            | refine ⟨_, hget, ?_⟩
            | (refine Side.mk ?_ ?_; · (simp; done))
            | fail
            )
        all_goals (conv => whnf)
        all_goals (refine ⟨(k1 ++ k2).length, by simp, To.gc [(0, false), (1, true), (2, true), (3, true), (4, true), (5, true), (6, false), (7, false)] [0, 2, 9, 91, 100] rfl ⟨trivial, trivial, trivial, hp, hq, trivial⟩ ⟨_, _, rfl, hsub2', rfl, rfl⟩⟩)
theorem c29_f_t (a b c : Hol) (u0 u1 u2 : List Kep) (f : Int) (np ng : Nat) (pc gc : List AV) (hpc : ∀ x ∈ pc, noLoc x = true) (hgc : ∀ x ∈ gc, noLoc x = true) (B : Bk) (fa : fine a B) (fb : fine b (note a B)) (fc : fine c (note b (note a B)))
  (hg : ∀ e h, (e, h) ∈ (Bs a b c B 3).held → ∃ s, mfind (.c (.i .i64)) (I e) (imap (Bs a b c B 3).start) = some (some (I s)) ∧ ∀ e' n, (e', n) ∈ (Bs a b c B 3).rel → e' < e → n ≤ s) :
  CallA Try.prog 29 [.ptr 0 0] ⟨6, [(0, .cells (Ww a b c (Xw u0 u1 u2 (pS false np) (gS true ng) f))), (1, .map (imap B.rel)), (2, .map (imap B.held)), (3, .map (imap B.start)), (4, sB false pc), (5, sB true gc)]⟩ fun v H' => v = .bool true ∧ H' = ⟨6, [(0, .cells (Ww a b c (Xw u0 u1 u2 (pS false np) (gS true ng) f))), (1, .map (imap (Bs a b c B 3).rel)), (2, .map (imap (Bs a b c B 3).held)), (3, .map (imap (Bs a b c B 3).start)), (4, sB false pc), (5, sB true gc)]⟩ := by
  have hp : dataB (sB false pc) := by first | exact hpc | trivial
  have hq : dataB (sB true gc) := by first | exact hgc | trivial
  refine callA_of ok29 (Nat.le_of_ble_eq_true rfl) ?_
  (conv => whnf)
  refine ⟨KH a b c (Xw u0 u1 u2 (pS false np) (gS true ng) f) (sB false pc) (sB true gc) (Bs a b c B), 3, To.gc [(0, false), (1, true), (2, true), (3, true), (4, true), (5, true)] [0, 2, 15, 16] rfl ⟨trivial, trivial, trivial, hp, hq, trivial⟩ ⟨0, by omega, rfl, rfl, rfl⟩, ?_⟩
  rintro m fr H ⟨i, hi, rfl, rfl, rfl⟩
  rcases (show i = 0 ∨ i = 1 ∨ i = 2 ∨ i = 3 by omega) with rfl | rfl | rfl | rfl
  · have h13 := c13 a
    have h15 := c15 a
    have hn : Bs a b c B 1 = note a (Bs a b c B 0) := rfl
    have fx : fine a (Bs a b c B 0) := fa
    generalize Bs a b c B 0 = C at hn fx
    (conv => whnf)
    cases hh : a.holds with
    | false =>
      rw [hh] at h13
      rw [show a.rel = 0 by simp [Hol.rel, hh]] at h15
      repeat' ((conv => whnf); first
          | refine Branch.ofT rfl ?_
          | refine Branch.ofF rfl ?_
          | refine Branch.dec (fun h => ?_) (fun h => ?_)
          | refine Branch.negdec (fun h => ?_) (fun h => ?_)
          | refine Branch.neg (fun h => ?_) (fun h => ?_)
          | refine Branch.mk (fun h => ?_) (fun h => ?_)
          | (refine Side.mk ?_ ?_; · first | omega | decide)
          | (refine SideD.mk ?_ ?_; · first | omega | decide)
          | refine ⟨_, Nat.lt_succ_self _, To.refl (.inl ⟨rfl, ?_⟩)⟩
          | refine CallA.pure h13 rfl rfl ?_
          | refine CallA.pure h15 rfl rfl ?_
          | (refine Side.mk ?_ ?_; · (simp; done))
          | fail
          )
      all_goals (conv => whnf)
      refine ⟨3 - 1, by omega, To.gc [(0, false), (1, true), (2, true), (3, true), (4, true), (5, true)] [0, 2, 15, 16] rfl ⟨trivial, trivial, trivial, hp, hq, trivial⟩ ⟨1, by omega, rfl, rfl, by rw [hn, show note a C = C by simp [note, hh]]; rfl⟩⟩
    | true =>
      rw [hh] at h13
      have hgh := mget_i a.e C.held
      have hgs := mget_i a.e C.start
      have hgr := mget_i a.e C.rel
      have who : iget a.e C.held = none ∨ iget a.e C.held = some a.h := by
        cases e1 : iget a.e C.held with
        | none => exact .inl rfl
        | some q => exact .inr (by rw [fx hh q e1])
      rcases who with e1 | e1 <;> rcases e2 : iget a.e C.start with _ | q2 <;> rcases e3 : iget a.e C.rel with _ | q3 <;> rw [e1] at hgh <;> rw [e2] at hgs <;> rw [e3] at hgr
      · repeat' ((conv => whnf); first
            | refine Branch.ofT rfl ?_
            | refine Branch.ofF rfl ?_
            | refine Branch.ofF (by simp; done) ?_
            | refine Branch.dec (fun h => ?_) (fun h => ?_)
            | refine Branch.negdec (fun h => ?_) (fun h => ?_)
            | refine Branch.neg (fun h => ?_) (fun h => ?_)
            | refine Branch.mk (fun h => ?_) (fun h => ?_)
            | (refine Side.mk ?_ ?_; · first | omega | decide)
            | (refine SideD.mk ?_ ?_; · first | omega | decide)
            | refine ⟨_, Nat.lt_succ_self _, To.refl (.inl ⟨rfl, ?_⟩)⟩
            | refine CallA.pure h13 rfl rfl ?_
            | refine QCallA.of h15 rfl rfl ?_
            | refine ⟨_, hgh, ?_⟩
            | refine ⟨_, hgs, ?_⟩
            | refine ⟨_, hgr, ?_⟩
            | refine ⟨_, mset_i _ _ _, ?_⟩
            | (refine Side.mk ?_ ?_; · (simp; done))
            | fail
            )
        all_goals (conv => whnf)
        refine ⟨3 - 1, by omega, To.gc [(0, false), (1, true), (2, true), (3, true), (4, true), (5, true)] [0, 2, 15, 16] rfl ⟨trivial, trivial, trivial, hp, hq, trivial⟩ ⟨1, by omega, rfl, rfl, by rw [hn, show note a C = ⟨iput a.e (mx 0 a.rel) C.rel, iput a.e a.h C.held, iput a.e a.s C.start⟩ by simp [note, hh, e2, e3]]; rfl⟩⟩
      · repeat' ((conv => whnf); first
            | refine Branch.ofT rfl ?_
            | refine Branch.ofF rfl ?_
            | refine Branch.ofF (by simp; done) ?_
            | refine Branch.dec (fun h => ?_) (fun h => ?_)
            | refine Branch.negdec (fun h => ?_) (fun h => ?_)
            | refine Branch.neg (fun h => ?_) (fun h => ?_)
            | refine Branch.mk (fun h => ?_) (fun h => ?_)
            | (refine Side.mk ?_ ?_; · first | omega | decide)
            | (refine SideD.mk ?_ ?_; · first | omega | decide)
            | refine ⟨_, Nat.lt_succ_self _, To.refl (.inl ⟨rfl, ?_⟩)⟩
            | refine CallA.pure h13 rfl rfl ?_
            | refine QCallA.of h15 rfl rfl ?_
            | refine ⟨_, hgh, ?_⟩
            | refine ⟨_, hgs, ?_⟩
            | refine ⟨_, hgr, ?_⟩
            | refine ⟨_, mset_i _ _ _, ?_⟩
            | (refine Side.mk ?_ ?_; · (simp; done))
            | fail
            )
        all_goals (conv => whnf)
        refine ⟨3 - 1, by omega, To.gc [(0, false), (1, true), (2, true), (3, true), (4, true), (5, true)] [0, 2, 15, 16] rfl ⟨trivial, trivial, trivial, hp, hq, trivial⟩ ⟨1, by omega, rfl, rfl, by rw [hn, show note a C = ⟨iput a.e (mx q3 a.rel) C.rel, iput a.e a.h C.held, iput a.e a.s C.start⟩ by simp [note, hh, e2, e3]]; rfl⟩⟩
      · repeat' ((conv => whnf); first
            | refine Branch.ofT rfl ?_
            | refine Branch.ofF rfl ?_
            | refine Branch.ofF (by simp; done) ?_
            | refine Branch.dec (fun h => ?_) (fun h => ?_)
            | refine Branch.negdec (fun h => ?_) (fun h => ?_)
            | refine Branch.neg (fun h => ?_) (fun h => ?_)
            | refine Branch.mk (fun h => ?_) (fun h => ?_)
            | (refine Side.mk ?_ ?_; · first | omega | decide)
            | (refine SideD.mk ?_ ?_; · first | omega | decide)
            | refine ⟨_, Nat.lt_succ_self _, To.refl (.inl ⟨rfl, ?_⟩)⟩
            | refine CallA.pure h13 rfl rfl ?_
            | refine QCallA.of h15 rfl rfl ?_
            | refine ⟨_, hgh, ?_⟩
            | refine ⟨_, hgs, ?_⟩
            | refine ⟨_, hgr, ?_⟩
            | refine ⟨_, mset_i _ _ _, ?_⟩
            | (refine Side.mk ?_ ?_; · (simp; done))
            | fail
            )
        all_goals (conv => whnf)
        refine ⟨3 - 1, by omega, To.gc [(0, false), (1, true), (2, true), (3, true), (4, true), (5, true)] [0, 2, 15, 16] rfl ⟨trivial, trivial, trivial, hp, hq, trivial⟩ ⟨1, by omega, rfl, rfl, by rw [hn, show note a C = ⟨iput a.e (mx 0 a.rel) C.rel, iput a.e a.h C.held, C.start⟩ by simp [note, hh, e2, e3]]; rfl⟩⟩
      · repeat' ((conv => whnf); first
            | refine Branch.ofT rfl ?_
            | refine Branch.ofF rfl ?_
            | refine Branch.ofF (by simp; done) ?_
            | refine Branch.dec (fun h => ?_) (fun h => ?_)
            | refine Branch.negdec (fun h => ?_) (fun h => ?_)
            | refine Branch.neg (fun h => ?_) (fun h => ?_)
            | refine Branch.mk (fun h => ?_) (fun h => ?_)
            | (refine Side.mk ?_ ?_; · first | omega | decide)
            | (refine SideD.mk ?_ ?_; · first | omega | decide)
            | refine ⟨_, Nat.lt_succ_self _, To.refl (.inl ⟨rfl, ?_⟩)⟩
            | refine CallA.pure h13 rfl rfl ?_
            | refine QCallA.of h15 rfl rfl ?_
            | refine ⟨_, hgh, ?_⟩
            | refine ⟨_, hgs, ?_⟩
            | refine ⟨_, hgr, ?_⟩
            | refine ⟨_, mset_i _ _ _, ?_⟩
            | (refine Side.mk ?_ ?_; · (simp; done))
            | fail
            )
        all_goals (conv => whnf)
        refine ⟨3 - 1, by omega, To.gc [(0, false), (1, true), (2, true), (3, true), (4, true), (5, true)] [0, 2, 15, 16] rfl ⟨trivial, trivial, trivial, hp, hq, trivial⟩ ⟨1, by omega, rfl, rfl, by rw [hn, show note a C = ⟨iput a.e (mx q3 a.rel) C.rel, iput a.e a.h C.held, C.start⟩ by simp [note, hh, e2, e3]]; rfl⟩⟩
      · repeat' ((conv => whnf); first
            | refine Branch.ofT rfl ?_
            | refine Branch.ofF rfl ?_
            | refine Branch.ofF (by simp; done) ?_
            | refine Branch.dec (fun h => ?_) (fun h => ?_)
            | refine Branch.negdec (fun h => ?_) (fun h => ?_)
            | refine Branch.neg (fun h => ?_) (fun h => ?_)
            | refine Branch.mk (fun h => ?_) (fun h => ?_)
            | (refine Side.mk ?_ ?_; · first | omega | decide)
            | (refine SideD.mk ?_ ?_; · first | omega | decide)
            | refine ⟨_, Nat.lt_succ_self _, To.refl (.inl ⟨rfl, ?_⟩)⟩
            | refine CallA.pure h13 rfl rfl ?_
            | refine QCallA.of h15 rfl rfl ?_
            | refine ⟨_, hgh, ?_⟩
            | refine ⟨_, hgs, ?_⟩
            | refine ⟨_, hgr, ?_⟩
            | refine ⟨_, mset_i _ _ _, ?_⟩
            | (refine Side.mk ?_ ?_; · (simp; done))
            | fail
            )
        all_goals (conv => whnf)
        refine ⟨3 - 1, by omega, To.gc [(0, false), (1, true), (2, true), (3, true), (4, true), (5, true)] [0, 2, 15, 16] rfl ⟨trivial, trivial, trivial, hp, hq, trivial⟩ ⟨1, by omega, rfl, rfl, by rw [hn, show note a C = ⟨iput a.e (mx 0 a.rel) C.rel, iput a.e a.h C.held, iput a.e a.s C.start⟩ by simp [note, hh, e2, e3]]; rfl⟩⟩
      · repeat' ((conv => whnf); first
            | refine Branch.ofT rfl ?_
            | refine Branch.ofF rfl ?_
            | refine Branch.ofF (by simp; done) ?_
            | refine Branch.dec (fun h => ?_) (fun h => ?_)
            | refine Branch.negdec (fun h => ?_) (fun h => ?_)
            | refine Branch.neg (fun h => ?_) (fun h => ?_)
            | refine Branch.mk (fun h => ?_) (fun h => ?_)
            | (refine Side.mk ?_ ?_; · first | omega | decide)
            | (refine SideD.mk ?_ ?_; · first | omega | decide)
            | refine ⟨_, Nat.lt_succ_self _, To.refl (.inl ⟨rfl, ?_⟩)⟩
            | refine CallA.pure h13 rfl rfl ?_
            | refine QCallA.of h15 rfl rfl ?_
            | refine ⟨_, hgh, ?_⟩
            | refine ⟨_, hgs, ?_⟩
            | refine ⟨_, hgr, ?_⟩
            | refine ⟨_, mset_i _ _ _, ?_⟩
            | (refine Side.mk ?_ ?_; · (simp; done))
            | fail
            )
        all_goals (conv => whnf)
        refine ⟨3 - 1, by omega, To.gc [(0, false), (1, true), (2, true), (3, true), (4, true), (5, true)] [0, 2, 15, 16] rfl ⟨trivial, trivial, trivial, hp, hq, trivial⟩ ⟨1, by omega, rfl, rfl, by rw [hn, show note a C = ⟨iput a.e (mx q3 a.rel) C.rel, iput a.e a.h C.held, iput a.e a.s C.start⟩ by simp [note, hh, e2, e3]]; rfl⟩⟩
      · repeat' ((conv => whnf); first
            | refine Branch.ofT rfl ?_
            | refine Branch.ofF rfl ?_
            | refine Branch.ofF (by simp; done) ?_
            | refine Branch.dec (fun h => ?_) (fun h => ?_)
            | refine Branch.negdec (fun h => ?_) (fun h => ?_)
            | refine Branch.neg (fun h => ?_) (fun h => ?_)
            | refine Branch.mk (fun h => ?_) (fun h => ?_)
            | (refine Side.mk ?_ ?_; · first | omega | decide)
            | (refine SideD.mk ?_ ?_; · first | omega | decide)
            | refine ⟨_, Nat.lt_succ_self _, To.refl (.inl ⟨rfl, ?_⟩)⟩
            | refine CallA.pure h13 rfl rfl ?_
            | refine QCallA.of h15 rfl rfl ?_
            | refine ⟨_, hgh, ?_⟩
            | refine ⟨_, hgs, ?_⟩
            | refine ⟨_, hgr, ?_⟩
            | refine ⟨_, mset_i _ _ _, ?_⟩
            | (refine Side.mk ?_ ?_; · (simp; done))
            | fail
            )
        all_goals (conv => whnf)
        refine ⟨3 - 1, by omega, To.gc [(0, false), (1, true), (2, true), (3, true), (4, true), (5, true)] [0, 2, 15, 16] rfl ⟨trivial, trivial, trivial, hp, hq, trivial⟩ ⟨1, by omega, rfl, rfl, by rw [hn, show note a C = ⟨iput a.e (mx 0 a.rel) C.rel, iput a.e a.h C.held, C.start⟩ by simp [note, hh, e2, e3]]; rfl⟩⟩
      · repeat' ((conv => whnf); first
            | refine Branch.ofT rfl ?_
            | refine Branch.ofF rfl ?_
            | refine Branch.ofF (by simp; done) ?_
            | refine Branch.dec (fun h => ?_) (fun h => ?_)
            | refine Branch.negdec (fun h => ?_) (fun h => ?_)
            | refine Branch.neg (fun h => ?_) (fun h => ?_)
            | refine Branch.mk (fun h => ?_) (fun h => ?_)
            | (refine Side.mk ?_ ?_; · first | omega | decide)
            | (refine SideD.mk ?_ ?_; · first | omega | decide)
            | refine ⟨_, Nat.lt_succ_self _, To.refl (.inl ⟨rfl, ?_⟩)⟩
            | refine CallA.pure h13 rfl rfl ?_
            | refine QCallA.of h15 rfl rfl ?_
            | refine ⟨_, hgh, ?_⟩
            | refine ⟨_, hgs, ?_⟩
            | refine ⟨_, hgr, ?_⟩
            | refine ⟨_, mset_i _ _ _, ?_⟩
            | (refine Side.mk ?_ ?_; · (simp; done))
            | fail
            )
        all_goals (conv => whnf)
        refine ⟨3 - 1, by omega, To.gc [(0, false), (1, true), (2, true), (3, true), (4, true), (5, true)] [0, 2, 15, 16] rfl ⟨trivial, trivial, trivial, hp, hq, trivial⟩ ⟨1, by omega, rfl, rfl, by rw [hn, show note a C = ⟨iput a.e (mx q3 a.rel) C.rel, iput a.e a.h C.held, C.start⟩ by simp [note, hh, e2, e3]]; rfl⟩⟩
  · have h13 := c13 b
    have h15 := c15 b
    have hn : Bs a b c B 2 = note b (Bs a b c B 1) := rfl
    have fx : fine b (Bs a b c B 1) := fb
    generalize Bs a b c B 1 = C at hn fx
    (conv => whnf)
    cases hh : b.holds with
    | false =>
      rw [hh] at h13
      rw [show b.rel = 0 by simp [Hol.rel, hh]] at h15
      repeat' ((conv => whnf); first
          | refine Branch.ofT rfl ?_
          | refine Branch.ofF rfl ?_
          | refine Branch.dec (fun h => ?_) (fun h => ?_)
          | refine Branch.negdec (fun h => ?_) (fun h => ?_)
          | refine Branch.neg (fun h => ?_) (fun h => ?_)
          | refine Branch.mk (fun h => ?_) (fun h => ?_)
          | (refine Side.mk ?_ ?_; · first | omega | decide)
          | (refine SideD.mk ?_ ?_; · first | omega | decide)
          | refine ⟨_, Nat.lt_succ_self _, To.refl (.inl ⟨rfl, ?_⟩)⟩
          | refine CallA.pure h13 rfl rfl ?_
          | refine CallA.pure h15 rfl rfl ?_
          | (refine Side.mk ?_ ?_; · (simp; done))
          | fail
          )
      all_goals (conv => whnf)
      refine ⟨3 - 2, by omega, To.gc [(0, false), (1, true), (2, true), (3, true), (4, true), (5, true)] [0, 2, 15, 16] rfl ⟨trivial, trivial, trivial, hp, hq, trivial⟩ ⟨2, by omega, rfl, rfl, by rw [hn, show note b C = C by simp [note, hh]]; rfl⟩⟩
    | true =>
      rw [hh] at h13
      have hgh := mget_i b.e C.held
      have hgs := mget_i b.e C.start
      have hgr := mget_i b.e C.rel
      have who : iget b.e C.held = none ∨ iget b.e C.held = some b.h := by
        cases e1 : iget b.e C.held with
        | none => exact .inl rfl
        | some q => exact .inr (by rw [fx hh q e1])
      rcases who with e1 | e1 <;> rcases e2 : iget b.e C.start with _ | q2 <;> rcases e3 : iget b.e C.rel with _ | q3 <;> rw [e1] at hgh <;> rw [e2] at hgs <;> rw [e3] at hgr
      · repeat' ((conv => whnf); first
            | refine Branch.ofT rfl ?_
            | refine Branch.ofF rfl ?_
            | refine Branch.ofF (by simp; done) ?_
            | refine Branch.dec (fun h => ?_) (fun h => ?_)
            | refine Branch.negdec (fun h => ?_) (fun h => ?_)
            | refine Branch.neg (fun h => ?_) (fun h => ?_)
            | refine Branch.mk (fun h => ?_) (fun h => ?_)
            | (refine Side.mk ?_ ?_; · first | omega | decide)
            | (refine SideD.mk ?_ ?_; · first | omega | decide)
            | refine ⟨_, Nat.lt_succ_self _, To.refl (.inl ⟨rfl, ?_⟩)⟩
            | refine CallA.pure h13 rfl rfl ?_
            | refine QCallA.of h15 rfl rfl ?_
            | refine ⟨_, hgh, ?_⟩
            | refine ⟨_, hgs, ?_⟩
            | refine ⟨_, hgr, ?_⟩
            | refine ⟨_, mset_i _ _ _, ?_⟩
            | (refine Side.mk ?_ ?_; · (simp; done))
            | fail
            )
        all_goals (conv => whnf)
        refine ⟨3 - 2, by omega, To.gc [(0, false), (1, true), (2, true), (3, true), (4, true), (5, true)] [0, 2, 15, 16] rfl ⟨trivial, trivial, trivial, hp, hq, trivial⟩ ⟨2, by omega, rfl, rfl, by rw [hn, show note b C = ⟨iput b.e (mx 0 b.rel) C.rel, iput b.e b.h C.held, iput b.e b.s C.start⟩ by simp [note, hh, e2, e3]]; rfl⟩⟩
      · repeat' ((conv => whnf); first
            | refine Branch.ofT rfl ?_
            | refine Branch.ofF rfl ?_
            | refine Branch.ofF (by simp; done) ?_
            | refine Branch.dec (fun h => ?_) (fun h => ?_)
            | refine Branch.negdec (fun h => ?_) (fun h => ?_)
            | refine Branch.neg (fun h => ?_) (fun h => ?_)
            | refine Branch.mk (fun h => ?_) (fun h => ?_)
            | (refine Side.mk ?_ ?_; · first | omega | decide)
            | (refine SideD.mk ?_ ?_; · first | omega | decide)
            | refine ⟨_, Nat.lt_succ_self _, To.refl (.inl ⟨rfl, ?_⟩)⟩
            | refine CallA.pure h13 rfl rfl ?_
            | refine QCallA.of h15 rfl rfl ?_
            | refine ⟨_, hgh, ?_⟩
            | refine ⟨_, hgs, ?_⟩
            | refine ⟨_, hgr, ?_⟩
            | refine ⟨_, mset_i _ _ _, ?_⟩
            | (refine Side.mk ?_ ?_; · (simp; done))
            | fail
            )
        all_goals (conv => whnf)
        refine ⟨3 - 2, by omega, To.gc [(0, false), (1, true), (2, true), (3, true), (4, true), (5, true)] [0, 2, 15, 16] rfl ⟨trivial, trivial, trivial, hp, hq, trivial⟩ ⟨2, by omega, rfl, rfl, by rw [hn, show note b C = ⟨iput b.e (mx q3 b.rel) C.rel, iput b.e b.h C.held, iput b.e b.s C.start⟩ by simp [note, hh, e2, e3]]; rfl⟩⟩
      · repeat' ((conv => whnf); first
            | refine Branch.ofT rfl ?_
            | refine Branch.ofF rfl ?_
            | refine Branch.ofF (by simp; done) ?_
            | refine Branch.dec (fun h => ?_) (fun h => ?_)
            | refine Branch.negdec (fun h => ?_) (fun h => ?_)
            | refine Branch.neg (fun h => ?_) (fun h => ?_)
            | refine Branch.mk (fun h => ?_) (fun h => ?_)
            | (refine Side.mk ?_ ?_; · first | omega | decide)
            | (refine SideD.mk ?_ ?_; · first | omega | decide)
            | refine ⟨_, Nat.lt_succ_self _, To.refl (.inl ⟨rfl, ?_⟩)⟩
            | refine CallA.pure h13 rfl rfl ?_
            | refine QCallA.of h15 rfl rfl ?_
            | refine ⟨_, hgh, ?_⟩
            | refine ⟨_, hgs, ?_⟩
            | refine ⟨_, hgr, ?_⟩
            | refine ⟨_, mset_i _ _ _, ?_⟩
            | (refine Side.mk ?_ ?_; · (simp; done))
            | fail
            )
        all_goals (conv => whnf)
        refine ⟨3 - 2, by omega, To.gc [(0, false), (1, true), (2, true), (3, true), (4, true), (5, true)] [0, 2, 15, 16] rfl ⟨trivial, trivial, trivial, hp, hq, trivial⟩ ⟨2, by omega, rfl, rfl, by rw [hn, show note b C = ⟨iput b.e (mx 0 b.rel) C.rel, iput b.e b.h C.held, C.start⟩ by simp [note, hh, e2, e3]]; rfl⟩⟩
      · repeat' ((conv => whnf); first
            | refine Branch.ofT rfl ?_
            | refine Branch.ofF rfl ?_
            | refine Branch.ofF (by simp; done) ?_
            | refine Branch.dec (fun h => ?_) (fun h => ?_)
            | refine Branch.negdec (fun h => ?_) (fun h => ?_)
            | refine Branch.neg (fun h => ?_) (fun h => ?_)
            | refine Branch.mk (fun h => ?_) (fun h => ?_)
            | (refine Side.mk ?_ ?_; · first | omega | decide)
            | (refine SideD.mk ?_ ?_; · first | omega | decide)
            | refine ⟨_, Nat.lt_succ_self _, To.refl (.inl ⟨rfl, ?_⟩)⟩
            | refine CallA.pure h13 rfl rfl ?_
            | refine QCallA.of h15 rfl rfl ?_
            | refine ⟨_, hgh, ?_⟩
            | refine ⟨_, hgs, ?_⟩
            | refine ⟨_, hgr, ?_⟩
            | refine ⟨_, mset_i _ _ _, ?_⟩
            | (refine Side.mk ?_ ?_; · (simp; done))
            | fail
            )
        all_goals (conv => whnf)
        refine ⟨3 - 2, by omega, To.gc [(0, false), (1, true), (2, true), (3, true), (4, true), (5, true)] [0, 2, 15, 16] rfl ⟨trivial, trivial, trivial, hp, hq, trivial⟩ ⟨2, by omega, rfl, rfl, by rw [hn, show note b C = ⟨iput b.e (mx q3 b.rel) C.rel, iput b.e b.h C.held, C.start⟩ by simp [note, hh, e2, e3]]; rfl⟩⟩
      · repeat' ((conv => whnf); first
            | refine Branch.ofT rfl ?_
            | refine Branch.ofF rfl ?_
            | refine Branch.ofF (by simp; done) ?_
            | refine Branch.dec (fun h => ?_) (fun h => ?_)
            | refine Branch.negdec (fun h => ?_) (fun h => ?_)
            | refine Branch.neg (fun h => ?_) (fun h => ?_)
            | refine Branch.mk (fun h => ?_) (fun h => ?_)
            | (refine Side.mk ?_ ?_; · first | omega | decide)
            | (refine SideD.mk ?_ ?_; · first | omega | decide)
            | refine ⟨_, Nat.lt_succ_self _, To.refl (.inl ⟨rfl, ?_⟩)⟩
            | refine CallA.pure h13 rfl rfl ?_
            | refine QCallA.of h15 rfl rfl ?_
            | refine ⟨_, hgh, ?_⟩
            | refine ⟨_, hgs, ?_⟩
            | refine ⟨_, hgr, ?_⟩
            | refine ⟨_, mset_i _ _ _, ?_⟩
            | (refine Side.mk ?_ ?_; · (simp; done))
            | fail
            )
        all_goals (conv => whnf)
        refine ⟨3 - 2, by omega, To.gc [(0, false), (1, true), (2, true), (3, true), (4, true), (5, true)] [0, 2, 15, 16] rfl ⟨trivial, trivial, trivial, hp, hq, trivial⟩ ⟨2, by omega, rfl, rfl, by rw [hn, show note b C = ⟨iput b.e (mx 0 b.rel) C.rel, iput b.e b.h C.held, iput b.e b.s C.start⟩ by simp [note, hh, e2, e3]]; rfl⟩⟩
      · repeat' ((conv => whnf); first
            | refine Branch.ofT rfl ?_
            | refine Branch.ofF rfl ?_
            | refine Branch.ofF (by simp; done) ?_
            | refine Branch.dec (fun h => ?_) (fun h => ?_)
            | refine Branch.negdec (fun h => ?_) (fun h => ?_)
            | refine Branch.neg (fun h => ?_) (fun h => ?_)
            | refine Branch.mk (fun h => ?_) (fun h => ?_)
            | (refine Side.mk ?_ ?_; · first | omega | decide)
            | (refine SideD.mk ?_ ?_; · first | omega | decide)
            | refine ⟨_, Nat.lt_succ_self _, To.refl (.inl ⟨rfl, ?_⟩)⟩
            | refine CallA.pure h13 rfl rfl ?_
            | refine QCallA.of h15 rfl rfl ?_
            | refine ⟨_, hgh, ?_⟩
            | refine ⟨_, hgs, ?_⟩
            | refine ⟨_, hgr, ?_⟩
            | refine ⟨_, mset_i _ _ _, ?_⟩
            | (refine Side.mk ?_ ?_; · (simp; done))
            | fail
            )
        all_goals (conv => whnf)
        refine ⟨3 - 2, by omega, To.gc [(0, false), (1, true), (2, true), (3, true), (4, true), (5, true)] [0, 2, 15, 16] rfl ⟨trivial, trivial, trivial, hp, hq, trivial⟩ ⟨2, by omega, rfl, rfl, by rw [hn, show note b C = ⟨iput b.e (mx q3 b.rel) C.rel, iput b.e b.h C.held, iput b.e b.s C.start⟩ by simp [note, hh, e2, e3]]; rfl⟩⟩
      · repeat' ((conv => whnf); first
            | refine Branch.ofT rfl ?_
            | refine Branch.ofF rfl ?_
            | refine Branch.ofF (by simp; done) ?_
            | refine Branch.dec (fun h => ?_) (fun h => ?_)
            | refine Branch.negdec (fun h => ?_) (fun h => ?_)
            | refine Branch.neg (fun h => ?_) (fun h => ?_)
            | refine Branch.mk (fun h => ?_) (fun h => ?_)
            | (refine Side.mk ?_ ?_; · first | omega | decide)
            | (refine SideD.mk ?_ ?_; · first | omega | decide)
            | refine ⟨_, Nat.lt_succ_self _, To.refl (.inl ⟨rfl, ?_⟩)⟩
            | refine CallA.pure h13 rfl rfl ?_
            | refine QCallA.of h15 rfl rfl ?_
            | refine ⟨_, hgh, ?_⟩
            | refine ⟨_, hgs, ?_⟩
            | refine ⟨_, hgr, ?_⟩
            | refine ⟨_, mset_i _ _ _, ?_⟩
            | (refine Side.mk ?_ ?_; · (simp; done))
            | fail
            )
        all_goals (conv => whnf)
        refine ⟨3 - 2, by omega, To.gc [(0, false), (1, true), (2, true), (3, true), (4, true), (5, true)] [0, 2, 15, 16] rfl ⟨trivial, trivial, trivial, hp, hq, trivial⟩ ⟨2, by omega, rfl, rfl, by rw [hn, show note b C = ⟨iput b.e (mx 0 b.rel) C.rel, iput b.e b.h C.held, C.start⟩ by simp [note, hh, e2, e3]]; rfl⟩⟩
      · repeat' ((conv => whnf); first
            | refine Branch.ofT rfl ?_
            | refine Branch.ofF rfl ?_
            | refine Branch.ofF (by simp; done) ?_
            | refine Branch.dec (fun h => ?_) (fun h => ?_)
            | refine Branch.negdec (fun h => ?_) (fun h => ?_)
            | refine Branch.neg (fun h => ?_) (fun h => ?_)
            | refine Branch.mk (fun h => ?_) (fun h => ?_)
            | (refine Side.mk ?_ ?_; · first | omega | decide)
            | (refine SideD.mk ?_ ?_; · first | omega | decide)
            | refine ⟨_, Nat.lt_succ_self _, To.refl (.inl ⟨rfl, ?_⟩)⟩
            | refine CallA.pure h13 rfl rfl ?_
            | refine QCallA.of h15 rfl rfl ?_
            | refine ⟨_, hgh, ?_⟩
            | refine ⟨_, hgs, ?_⟩
            | refine ⟨_, hgr, ?_⟩
            | refine ⟨_, mset_i _ _ _, ?_⟩
            | (refine Side.mk ?_ ?_; · (simp; done))
            | fail
            )
        all_goals (conv => whnf)
        refine ⟨3 - 2, by omega, To.gc [(0, false), (1, true), (2, true), (3, true), (4, true), (5, true)] [0, 2, 15, 16] rfl ⟨trivial, trivial, trivial, hp, hq, trivial⟩ ⟨2, by omega, rfl, rfl, by rw [hn, show note b C = ⟨iput b.e (mx q3 b.rel) C.rel, iput b.e b.h C.held, C.start⟩ by simp [note, hh, e2, e3]]; rfl⟩⟩
  · have h13 := c13 c
    have h15 := c15 c
    have hn : Bs a b c B 3 = note c (Bs a b c B 2) := rfl
    have fx : fine c (Bs a b c B 2) := fc
    generalize Bs a b c B 2 = C at hn fx
    (conv => whnf)
    cases hh : c.holds with
    | false =>
      rw [hh] at h13
      rw [show c.rel = 0 by simp [Hol.rel, hh]] at h15
      repeat' ((conv => whnf); first
          | refine Branch.ofT rfl ?_
          | refine Branch.ofF rfl ?_
          | refine Branch.dec (fun h => ?_) (fun h => ?_)
          | refine Branch.negdec (fun h => ?_) (fun h => ?_)
          | refine Branch.neg (fun h => ?_) (fun h => ?_)
          | refine Branch.mk (fun h => ?_) (fun h => ?_)
          | (refine Side.mk ?_ ?_; · first | omega | decide)
          | (refine SideD.mk ?_ ?_; · first | omega | decide)
          | refine ⟨_, Nat.lt_succ_self _, To.refl (.inl ⟨rfl, ?_⟩)⟩
          | refine CallA.pure h13 rfl rfl ?_
          | refine CallA.pure h15 rfl rfl ?_
          | (refine Side.mk ?_ ?_; · (simp; done))
          | fail
          )
      all_goals (conv => whnf)
      refine ⟨3 - 3, by omega, To.gc [(0, false), (1, true), (2, true), (3, true), (4, true), (5, true)] [0, 2, 15, 16] rfl ⟨trivial, trivial, trivial, hp, hq, trivial⟩ ⟨3, by omega, rfl, rfl, by rw [hn, show note c C = C by simp [note, hh]]; rfl⟩⟩
    | true =>
      rw [hh] at h13
      have hgh := mget_i c.e C.held
      have hgs := mget_i c.e C.start
      have hgr := mget_i c.e C.rel
      have who : iget c.e C.held = none ∨ iget c.e C.held = some c.h := by
        cases e1 : iget c.e C.held with
        | none => exact .inl rfl
        | some q => exact .inr (by rw [fx hh q e1])
      rcases who with e1 | e1 <;> rcases e2 : iget c.e C.start with _ | q2 <;> rcases e3 : iget c.e C.rel with _ | q3 <;> rw [e1] at hgh <;> rw [e2] at hgs <;> rw [e3] at hgr
      · repeat' ((conv => whnf); first
            | refine Branch.ofT rfl ?_
            | refine Branch.ofF rfl ?_
            | refine Branch.ofF (by simp; done) ?_
            | refine Branch.dec (fun h => ?_) (fun h => ?_)
            | refine Branch.negdec (fun h => ?_) (fun h => ?_)
            | refine Branch.neg (fun h => ?_) (fun h => ?_)
            | refine Branch.mk (fun h => ?_) (fun h => ?_)
            | (refine Side.mk ?_ ?_; · first | omega | decide)
            | (refine SideD.mk ?_ ?_; · first | omega | decide)
            | refine ⟨_, Nat.lt_succ_self _, To.refl (.inl ⟨rfl, ?_⟩)⟩
            | refine CallA.pure h13 rfl rfl ?_
            | refine QCallA.of h15 rfl rfl ?_
            | refine ⟨_, hgh, ?_⟩
            | refine ⟨_, hgs, ?_⟩
            | refine ⟨_, hgr, ?_⟩
            | refine ⟨_, mset_i _ _ _, ?_⟩
            | (refine Side.mk ?_ ?_; · (simp; done))
            | fail
            )
        all_goals (conv => whnf)
        refine ⟨3 - 3, by omega, To.gc [(0, false), (1, true), (2, true), (3, true), (4, true), (5, true)] [0, 2, 15, 16] rfl ⟨trivial, trivial, trivial, hp, hq, trivial⟩ ⟨3, by omega, rfl, rfl, by rw [hn, show note c C = ⟨iput c.e (mx 0 c.rel) C.rel, iput c.e c.h C.held, iput c.e c.s C.start⟩ by simp [note, hh, e2, e3]]; rfl⟩⟩
      · repeat' ((conv => whnf); first
            | refine Branch.ofT rfl ?_
            | refine Branch.ofF rfl ?_
            | refine Branch.ofF (by simp; done) ?_
            | refine Branch.dec (fun h => ?_) (fun h => ?_)
            | refine Branch.negdec (fun h => ?_) (fun h => ?_)
            | refine Branch.neg (fun h => ?_) (fun h => ?_)
            | refine Branch.mk (fun h => ?_) (fun h => ?_)
            | (refine Side.mk ?_ ?_; · first | omega | decide)
            | (refine SideD.mk ?_ ?_; · first | omega | decide)
            | refine ⟨_, Nat.lt_succ_self _, To.refl (.inl ⟨rfl, ?_⟩)⟩
            | refine CallA.pure h13 rfl rfl ?_
            | refine QCallA.of h15 rfl rfl ?_
            | refine ⟨_, hgh, ?_⟩
            | refine ⟨_, hgs, ?_⟩
            | refine ⟨_, hgr, ?_⟩
            | refine ⟨_, mset_i _ _ _, ?_⟩
            | (refine Side.mk ?_ ?_; · (simp; done))
            | fail
            )
        all_goals (conv => whnf)
        refine ⟨3 - 3, by omega, To.gc [(0, false), (1, true), (2, true), (3, true), (4, true), (5, true)] [0, 2, 15, 16] rfl ⟨trivial, trivial, trivial, hp, hq, trivial⟩ ⟨3, by omega, rfl, rfl, by rw [hn, show note c C = ⟨iput c.e (mx q3 c.rel) C.rel, iput c.e c.h C.held, iput c.e c.s C.start⟩ by simp [note, hh, e2, e3]]; rfl⟩⟩
      · repeat' ((conv => whnf); first
            | refine Branch.ofT rfl ?_
            | refine Branch.ofF rfl ?_
            | refine Branch.ofF (by simp; done) ?_
            | refine Branch.dec (fun h => ?_) (fun h => ?_)
            | refine Branch.negdec (fun h => ?_) (fun h => ?_)
            | refine Branch.neg (fun h => ?_) (fun h => ?_)
            | refine Branch.mk (fun h => ?_) (fun h => ?_)
            | (refine Side.mk ?_ ?_; · first | omega | decide)
            | (refine SideD.mk ?_ ?_; · first | omega | decide)
            | refine ⟨_, Nat.lt_succ_self _, To.refl (.inl ⟨rfl, ?_⟩)⟩
            | refine CallA.pure h13 rfl rfl ?_
            | refine QCallA.of h15 rfl rfl ?_
            | refine ⟨_, hgh, ?_⟩
            | refine ⟨_, hgs, ?_⟩
            | refine ⟨_, hgr, ?_⟩
            | refine ⟨_, mset_i _ _ _, ?_⟩
            | (refine Side.mk ?_ ?_; · (simp; done))
            | fail
            )
        all_goals (conv => whnf)
        refine ⟨3 - 3, by omega, To.gc [(0, false), (1, true), (2, true), (3, true), (4, true), (5, true)] [0, 2, 15, 16] rfl ⟨trivial, trivial, trivial, hp, hq, trivial⟩ ⟨3, by omega, rfl, rfl, by rw [hn, show note c C = ⟨iput c.e (mx 0 c.rel) C.rel, iput c.e c.h C.held, C.start⟩ by simp [note, hh, e2, e3]]; rfl⟩⟩
      · repeat' ((conv => whnf); first
            | refine Branch.ofT rfl ?_
            | refine Branch.ofF rfl ?_
            | refine Branch.ofF (by simp; done) ?_
            | refine Branch.dec (fun h => ?_) (fun h => ?_)
            | refine Branch.negdec (fun h => ?_) (fun h => ?_)
            | refine Branch.neg (fun h => ?_) (fun h => ?_)
            | refine Branch.mk (fun h => ?_) (fun h => ?_)
            | (refine Side.mk ?_ ?_; · first | omega | decide)
            | (refine SideD.mk ?_ ?_; · first | omega | decide)
            | refine ⟨_, Nat.lt_succ_self _, To.refl (.inl ⟨rfl, ?_⟩)⟩
            | refine CallA.pure h13 rfl rfl ?_
            | refine QCallA.of h15 rfl rfl ?_
            | refine ⟨_, hgh, ?_⟩
            | refine ⟨_, hgs, ?_⟩
            | refine ⟨_, hgr, ?_⟩
            | refine ⟨_, mset_i _ _ _, ?_⟩
            | (refine Side.mk ?_ ?_; · (simp; done))
            | fail
            )
        all_goals (conv => whnf)
        refine ⟨3 - 3, by omega, To.gc [(0, false), (1, true), (2, true), (3, true), (4, true), (5, true)] [0, 2, 15, 16] rfl ⟨trivial, trivial, trivial, hp, hq, trivial⟩ ⟨3, by omega, rfl, rfl, by rw [hn, show note c C = ⟨iput c.e (mx q3 c.rel) C.rel, iput c.e c.h C.held, C.start⟩ by simp [note, hh, e2, e3]]; rfl⟩⟩
      · repeat' ((conv => whnf); first
            | refine Branch.ofT rfl ?_
            | refine Branch.ofF rfl ?_
            | refine Branch.ofF (by simp; done) ?_
            | refine Branch.dec (fun h => ?_) (fun h => ?_)
            | refine Branch.negdec (fun h => ?_) (fun h => ?_)
            | refine Branch.neg (fun h => ?_) (fun h => ?_)
            | refine Branch.mk (fun h => ?_) (fun h => ?_)
            | (refine Side.mk ?_ ?_; · first | omega | decide)
            | (refine SideD.mk ?_ ?_; · first | omega | decide)
            | refine ⟨_, Nat.lt_succ_self _, To.refl (.inl ⟨rfl, ?_⟩)⟩
            | refine CallA.pure h13 rfl rfl ?_
            | refine QCallA.of h15 rfl rfl ?_
            | refine ⟨_, hgh, ?_⟩
            | refine ⟨_, hgs, ?_⟩
            | refine ⟨_, hgr, ?_⟩
            | refine ⟨_, mset_i _ _ _, ?_⟩
            | (refine Side.mk ?_ ?_; · (simp; done))
            | fail
            )
        all_goals (conv => whnf)
        refine ⟨3 - 3, by omega, To.gc [(0, false), (1, true), (2, true), (3, true), (4, true), (5, true)] [0, 2, 15, 16] rfl ⟨trivial, trivial, trivial, hp, hq, trivial⟩ ⟨3, by omega, rfl, rfl, by rw [hn, show note c C = ⟨iput c.e (mx 0 c.rel) C.rel, iput c.e c.h C.held, iput c.e c.s C.start⟩ by simp [note, hh, e2, e3]]; rfl⟩⟩
      · repeat' ((conv => whnf); first
            | refine Branch.ofT rfl ?_
            | refine Branch.ofF rfl ?_
            | refine Branch.ofF (by simp; done) ?_
            | refine Branch.dec (fun h => ?_) (fun h => ?_)
            | refine Branch.negdec (fun h => ?_) (fun h => ?_)
            | refine Branch.neg (fun h => ?_) (fun h => ?_)
            | refine Branch.mk (fun h => ?_) (fun h => ?_)
            | (refine Side.mk ?_ ?_; · first | omega | decide)
            | (refine SideD.mk ?_ ?_; · first | omega | decide)
            | refine ⟨_, Nat.lt_succ_self _, To.refl (.inl ⟨rfl, ?_⟩)⟩
            | refine CallA.pure h13 rfl rfl ?_
            | refine QCallA.of h15 rfl rfl ?_
            | refine ⟨_, hgh, ?_⟩
            | refine ⟨_, hgs, ?_⟩
            | refine ⟨_, hgr, ?_⟩
            | refine ⟨_, mset_i _ _ _, ?_⟩
            | (refine Side.mk ?_ ?_; · (simp; done))
            | fail
            )
        all_goals (conv => whnf)
        refine ⟨3 - 3, by omega, To.gc [(0, false), (1, true), (2, true), (3, true), (4, true), (5, true)] [0, 2, 15, 16] rfl ⟨trivial, trivial, trivial, hp, hq, trivial⟩ ⟨3, by omega, rfl, rfl, by rw [hn, show note c C = ⟨iput c.e (mx q3 c.rel) C.rel, iput c.e c.h C.held, iput c.e c.s C.start⟩ by simp [note, hh, e2, e3]]; rfl⟩⟩
      · repeat' ((conv => whnf); first
            | refine Branch.ofT rfl ?_
            | refine Branch.ofF rfl ?_
            | refine Branch.ofF (by simp; done) ?_
            | refine Branch.dec (fun h => ?_) (fun h => ?_)
            | refine Branch.negdec (fun h => ?_) (fun h => ?_)
            | refine Branch.neg (fun h => ?_) (fun h => ?_)
            | refine Branch.mk (fun h => ?_) (fun h => ?_)
            | (refine Side.mk ?_ ?_; · first | omega | decide)
            | (refine SideD.mk ?_ ?_; · first | omega | decide)
            | refine ⟨_, Nat.lt_succ_self _, To.refl (.inl ⟨rfl, ?_⟩)⟩
            | refine CallA.pure h13 rfl rfl ?_
            | refine QCallA.of h15 rfl rfl ?_
            | refine ⟨_, hgh, ?_⟩
            | refine ⟨_, hgs, ?_⟩
            | refine ⟨_, hgr, ?_⟩
            | refine ⟨_, mset_i _ _ _, ?_⟩
            | (refine Side.mk ?_ ?_; · (simp; done))
            | fail
            )
        all_goals (conv => whnf)
        refine ⟨3 - 3, by omega, To.gc [(0, false), (1, true), (2, true), (3, true), (4, true), (5, true)] [0, 2, 15, 16] rfl ⟨trivial, trivial, trivial, hp, hq, trivial⟩ ⟨3, by omega, rfl, rfl, by rw [hn, show note c C = ⟨iput c.e (mx 0 c.rel) C.rel, iput c.e c.h C.held, C.start⟩ by simp [note, hh, e2, e3]]; rfl⟩⟩
      · repeat' ((conv => whnf); first
            | refine Branch.ofT rfl ?_
            | refine Branch.ofF rfl ?_
            | refine Branch.ofF (by simp; done) ?_
            | refine Branch.dec (fun h => ?_) (fun h => ?_)
            | refine Branch.negdec (fun h => ?_) (fun h => ?_)
            | refine Branch.neg (fun h => ?_) (fun h => ?_)
            | refine Branch.mk (fun h => ?_) (fun h => ?_)
            | (refine Side.mk ?_ ?_; · first | omega | decide)
            | (refine SideD.mk ?_ ?_; · first | omega | decide)
            | refine ⟨_, Nat.lt_succ_self _, To.refl (.inl ⟨rfl, ?_⟩)⟩
            | refine CallA.pure h13 rfl rfl ?_
            | refine QCallA.of h15 rfl rfl ?_
            | refine ⟨_, hgh, ?_⟩
            | refine ⟨_, hgs, ?_⟩
            | refine ⟨_, hgr, ?_⟩
            | refine ⟨_, mset_i _ _ _, ?_⟩
            | (refine Side.mk ?_ ?_; · (simp; done))
            | fail
            )
        all_goals (conv => whnf)
        refine ⟨3 - 3, by omega, To.gc [(0, false), (1, true), (2, true), (3, true), (4, true), (5, true)] [0, 2, 15, 16] rfl ⟨trivial, trivial, trivial, hp, hq, trivial⟩ ⟨3, by omega, rfl, rfl, by rw [hn, show note c C = ⟨iput c.e (mx q3 c.rel) C.rel, iput c.e c.h C.held, C.start⟩ by simp [note, hh, e2, e3]]; rfl⟩⟩
  · generalize Bs a b c B 3 = C at hg ⊢
    repeat' ((conv => whnf); first
        | refine Branch.ofT rfl ?_
        | refine Branch.ofF rfl ?_
        | refine Branch.dec (fun h => ?_) (fun h => ?_)
        | refine Branch.negdec (fun h => ?_) (fun h => ?_)
        | refine Branch.neg (fun h => ?_) (fun h => ?_)
        | refine Branch.mk (fun h => ?_) (fun h => ?_)
        | (refine Side.mk ?_ ?_; · first | omega | decide)
        | (refine SideD.mk ?_ ?_; · first | omega | decide)
        | refine ⟨_, Nat.lt_succ_self _, To.refl (.inl ⟨rfl, ?_⟩)⟩
        | (refine Side.mk ?_ ?_; · (simp; done))
        | fail
        )
    all_goals (conv => whnf)
    refine ⟨K1 (Ww a b c (Xw u0 u1 u2 (pS false np) (gS true ng) f)) (sB false pc) (sB true gc) C.rel C.held C.start, (imap C.held).length, To.gc [(0, false), (1, true), (2, true), (3, true), (4, true), (5, true), (6, false)] [0, 2, 91] rfl ⟨trivial, trivial, trivial, hp, hq, trivial⟩ ⟨_, none, rfl, ⟨C.held, rfl, fun _ h => h⟩, rfl, rfl⟩, ?_⟩
    rintro m fr H ⟨left, cur, rfl, hsub, rfl, rfl⟩
    (conv => whnf)
    refine ⟨fun h => ?_, fun l1 x y l2 h => ?_⟩
    · repeat' ((conv => whnf); first
          | refine Branch.ofT rfl ?_
          | refine Branch.ofF rfl ?_
          | refine Branch.dec (fun h => ?_) (fun h => ?_)
          | refine Branch.negdec (fun h => ?_) (fun h => ?_)
          | refine Branch.neg (fun h => ?_) (fun h => ?_)
          | refine Branch.mk (fun h => ?_) (fun h => ?_)
          | (refine Side.mk ?_ ?_; · first | omega | decide)
          | (refine SideD.mk ?_ ?_; · first | omega | decide)
          | refine ⟨_, Nat.lt_succ_self _, To.refl (.inl ⟨rfl, ?_⟩)⟩
          | (refine Side.mk ?_ ?_; · (simp; done))
          | fail
          )
      all_goals (conv => whnf)
      exact RetA.gc [(0, false), (1, true), (2, true), (3, true), (4, true), (5, true)] rfl ⟨trivial, trivial, trivial, hp, hq, trivial⟩ ⟨rfl, rfl⟩
    · subst h
      obtain ⟨e, n, rfl, rfl, hmem, hsub'⟩ := hsub.step
      obtain ⟨s, hget, hle⟩ := hg e n hmem
      repeat' ((conv => whnf); first
          | refine Branch.ofT rfl ?_
          | refine Branch.ofF rfl ?_
          | refine Branch.dec (fun h => ?_) (fun h => ?_)
          | refine Branch.negdec (fun h => ?_) (fun h => ?_)
          | refine Branch.neg (fun h => ?_) (fun h => ?_)
          | refine Branch.mk (fun h => ?_) (fun h => ?_)
          | (refine Side.mk ?_ ?_; · first | omega | decide)
          | (refine SideD.mk ?_ ?_; · first | omega | decide)
          | refine ⟨_, Nat.lt_succ_self _, To.refl (.inl ⟨rfl, ?_⟩)⟩
          | (refine Side.mk ?_ ?_; · (simp; done))
          | fail
          )
      all_goals (conv => whnf)
      refine ⟨K2 (Ww a b c (Xw u0 u1 u2 (pS false np) (gS true ng) f)) (sB false pc) (sB true gc) C.rel C.held C.start (l1 ++ l2) (some (I e, I n)) e, (imap C.rel).length, To.gc [(0, false), (1, true), (2, true), (3, true), (4, true), (5, true), (6, false), (7, false)] [0, 2, 9, 91, 100] rfl ⟨trivial, trivial, trivial, hp, hq, trivial⟩ ⟨_, none, rfl, ⟨C.rel, rfl, fun _ h => h⟩, rfl, rfl⟩, ?_⟩
      rintro m fr H ⟨left2, cur2, rfl, hsub2, rfl, rfl⟩
      (conv => whnf)
      refine ⟨fun h2 => ?_, fun k1 x2 y2 k2 h2 => ?_⟩
      · repeat' ((conv => whnf); first
            | refine Branch.ofT rfl ?_
            | refine Branch.ofF rfl ?_
            | refine Branch.dec (fun h => ?_) (fun h => ?_)
            | refine Branch.negdec (fun h => ?_) (fun h => ?_)
            | refine Branch.neg (fun h => ?_) (fun h => ?_)
            | refine Branch.mk (fun h => ?_) (fun h => ?_)
            | (refine Side.mk ?_ ?_; · first | omega | decide)
            | (refine SideD.mk ?_ ?_; · first | omega | decide)
            | refine ⟨_, Nat.lt_succ_self _, To.refl (.inl ⟨rfl, ?_⟩)⟩
            | (refine Side.mk ?_ ?_; · (simp; done))
            | fail
            )
        all_goals (conv => whnf)
        refine ⟨(l1 ++ l2).length, by simp, To.gc [(0, false), (1, true), (2, true), (3, true), (4, true), (5, true), (6, false)] [0, 2, 91] rfl ⟨trivial, trivial, trivial, hp, hq, trivial⟩ ⟨_, _, rfl, hsub', rfl, rfl⟩⟩
      · subst h2
        obtain ⟨e2, n2, rfl, rfl, hmem2, hsub2'⟩ := hsub2.step
        have hle2 := hle e2 n2 hmem2
        repeat' ((conv => whnf); first
            | refine Branch.ofT rfl ?_
            | refine Branch.ofF rfl ?_
            | refine Branch.ofF (decide_eq_false (by have := hle2 (by assumption); omega)) ?_
            | refine Branch.dec (fun h => ?_) (fun h => ?_)
            | refine Branch.negdec (fun h => ?_) (fun h => ?_)
            | refine Branch.neg (fun h => ?_) (fun h => ?_)
            | refine Branch.mk (fun h => ?_) (fun h => ?_)
            | (refine Side.mk ?_ ?_; · first | omega | decide)
            | (refine SideD.mk ?_ ?_; · first | omega | decide)
            | refine ⟨_, Nat.lt_succ_self _, To.refl (.inl ⟨rfl, ?_⟩)⟩
            | refine ⟨_, hget, ?_⟩
            | (refine Side.mk ?_ ?_; · (simp; done))
            | fail
            )
        all_goals (conv => whnf)
        all_goals (refine ⟨(k1 ++ k2).length, by simp, To.gc [(0, false), (1, true), (2, true), (3, true), (4, true), (5, true), (6, false), (7, false)] [0, 2, 9, 91, 100] rfl ⟨trivial, trivial, trivial, hp, hq, trivial⟩ ⟨_, _, rfl, hsub2', rfl, rfl⟩⟩)
theorem c29_t_f (a b c : Hol) (u0 u1 u2 : List Kep) (f : Int) (np ng : Nat) (pc gc : List AV) (hpc : ∀ x ∈ pc, noLoc x = true) (hgc : ∀ x ∈ gc, noLoc x = true) (B : Bk) (fa : fine a B) (fb : fine b (note a B)) (fc : fine c (note b (note a B)))
  (hg : ∀ e h, (e, h) ∈ (Bs a b c B 3).held → ∃ s, mfind (.c (.i .i64)) (I e) (imap (Bs a b c B 3).start) = some (some (I s)) ∧ ∀ e' n, (e', n) ∈ (Bs a b c B 3).rel → e' < e → n ≤ s) :
  CallA Try.prog 29 [.ptr 0 0] ⟨6, [(0, .cells (Ww a b c (Xw u0 u1 u2 (pS true np) (gS false ng) f))), (1, .map (imap B.rel)), (2, .map (imap B.held)), (3, .map (imap B.start)), (4, sB true pc), (5, sB false gc)]⟩ fun v H' => v = .bool true ∧ H' = ⟨6, [(0, .cells (Ww a b c (Xw u0 u1 u2 (pS true np) (gS false ng) f))), (1, .map (imap (Bs a b c B 3).rel)), (2, .map (imap (Bs a b c B 3).held)), (3, .map (imap (Bs a b c B 3).start)), (4, sB true pc), (5, sB false gc)]⟩ := by
  have hp : dataB (sB true pc) := by first | exact hpc | trivial
  have hq : dataB (sB false gc) := by first | exact hgc | trivial
  refine callA_of ok29 (Nat.le_of_ble_eq_true rfl) ?_
  (conv => whnf)
  refine ⟨KH a b c (Xw u0 u1 u2 (pS true np) (gS false ng) f) (sB true pc) (sB false gc) (Bs a b c B), 3, To.gc [(0, false), (1, true), (2, true), (3, true), (4, true), (5, true)] [0, 2, 15, 16] rfl ⟨trivial, trivial, trivial, hp, hq, trivial⟩ ⟨0, by omega, rfl, rfl, rfl⟩, ?_⟩
  rintro m fr H ⟨i, hi, rfl, rfl, rfl⟩
  rcases (show i = 0 ∨ i = 1 ∨ i = 2 ∨ i = 3 by omega) with rfl | rfl | rfl | rfl
  · have h13 := c13 a
    have h15 := c15 a
    have hn : Bs a b c B 1 = note a (Bs a b c B 0) := rfl
    have fx : fine a (Bs a b c B 0) := fa
    generalize Bs a b c B 0 = C at hn fx
    (conv => whnf)
    cases hh : a.holds with
    | false =>
      rw [hh] at h13
      rw [show a.rel = 0 by simp [Hol.rel, hh]] at h15
      repeat' ((conv => whnf); first
          | refine Branch.ofT rfl ?_
          | refine Branch.ofF rfl ?_
          | refine Branch.dec (fun h => ?_) (fun h => ?_)
          | refine Branch.negdec (fun h => ?_) (fun h => ?_)
          | refine Branch.neg (fun h => ?_) (fun h => ?_)
          | refine Branch.mk (fun h => ?_) (fun h => ?_)
          | (refine Side.mk ?_ ?_; · first | omega | decide)
          | (refine SideD.mk ?_ ?_; · first | omega | decide)
          | refine ⟨_, Nat.lt_succ_self _, To.refl (.inl ⟨rfl, ?_⟩)⟩
          | refine CallA.pure h13 rfl rfl ?_
          | refine CallA.pure h15 rfl rfl ?_
          | (refine Side.mk ?_ ?_; · (simp; done))
          | fail
          )
      all_goals (conv => whnf)
      refine ⟨3 - 1, by omega, To.gc [(0, false), (1, true), (2, true), (3, true), (4, true), (5, true)] [0, 2, 15, 16] rfl ⟨trivial, trivial, trivial, hp, hq, trivial⟩ ⟨1, by omega, rfl, rfl, by rw [hn, show note a C = C by simp [note, hh]]; rfl⟩⟩
    | true =>
      rw [hh] at h13
      have hgh := mget_i a.e C.held
      have hgs := mget_i a.e C.start
      have hgr := mget_i a.e C.rel
      have who : iget a.e C.held = none ∨ iget a.e C.held = some a.h := by
        cases e1 : iget a.e C.held with
        | none => exact .inl rfl
        | some q => exact .inr (by rw [fx hh q e1])
      rcases who with e1 | e1 <;> rcases e2 : iget a.e C.start with _ | q2 <;> rcases e3 : iget a.e C.rel with _ | q3 <;> rw [e1] at hgh <;> rw [e2] at hgs <;> rw [e3] at hgr
      · repeat' ((conv => whnf); first
            | refine Branch.ofT rfl ?_
            | refine Branch.ofF rfl ?_
            | refine Branch.ofF (by simp; done) ?_
            | refine Branch.dec (fun h => ?_) (fun h => ?_)
            | refine Branch.negdec (fun h => ?_) (fun h => ?_)
            | refine Branch.neg (fun h => ?_) (fun h => ?_)
            | refine Branch.mk (fun h => ?_) (fun h => ?_)
            | (refine Side.mk ?_ ?_; · first | omega | decide)
            | (refine SideD.mk ?_ ?_; · first | omega | decide)
            | refine ⟨_, Nat.lt_succ_self _, To.refl (.inl ⟨rfl, ?_⟩)⟩
            | refine CallA.pure h13 rfl rfl ?_
            | refine QCallA.of h15 rfl rfl ?_
            | refine ⟨_, hgh, ?_⟩
            | refine ⟨_, hgs, ?_⟩
            | refine ⟨_, hgr, ?_⟩
            | refine ⟨_, mset_i _ _ _, ?_⟩
            | (refine Side.mk ?_ ?_; · (simp; done))
            | fail
            )
        all_goals (conv => whnf)
        refine ⟨3 - 1, by omega, To.gc [(0, false), (1, true), (2, true), (3, true), (4, true), (5, true)] [0, 2, 15, 16] rfl ⟨trivial, trivial, trivial, hp, hq, trivial⟩ ⟨1, by omega, rfl, rfl, by rw [hn, show note a C = ⟨iput a.e (mx 0 a.rel) C.rel, iput a.e a.h C.held, iput a.e a.s C.start⟩ by simp [note, hh, e2, e3]]; rfl⟩⟩
      · repeat' ((conv => whnf); first
            | refine Branch.ofT rfl ?_
            | refine Branch.ofF rfl ?_
            | refine Branch.ofF (by simp; done) ?_
            | refine Branch.dec (fun h => ?_) (fun h => ?_)
            | refine Branch.negdec (fun h => ?_) (fun h => ?_)
            | refine Branch.neg (fun h => ?_) (fun h => ?_)
            | refine Branch.mk (fun h => ?_) (fun h => ?_)
            | (refine Side.mk ?_ ?_; · first | omega | decide)
            | (refine SideD.mk ?_ ?_; · first | omega | decide)
            | refine ⟨_, Nat.lt_succ_self _, To.refl (.inl ⟨rfl, ?_⟩)⟩
            | refine CallA.pure h13 rfl rfl ?_
            | refine QCallA.of h15 rfl rfl ?_
            | refine ⟨_, hgh, ?_⟩
            | refine ⟨_, hgs, ?_⟩
            | refine ⟨_, hgr, ?_⟩
            | refine ⟨_, mset_i _ _ _, ?_⟩
            | (refine Side.mk ?_ ?_; · (simp; done))
            | fail
            )
        all_goals (conv => whnf)
        refine ⟨3 - 1, by omega, To.gc [(0, false), (1, true), (2, true), (3, true), (4, true), (5, true)] [0, 2, 15, 16] rfl ⟨trivial, trivial, trivial, hp, hq, trivial⟩ ⟨1, by omega, rfl, rfl, by rw [hn, show note a C = ⟨iput a.e (mx q3 a.rel) C.rel, iput a.e a.h C.held, iput a.e a.s C.start⟩ by simp [note, hh, e2, e3]]; rfl⟩⟩
      · repeat' ((conv => whnf); first
            | refine Branch.ofT rfl ?_
            | refine Branch.ofF rfl ?_
            | refine Branch.ofF (by simp; done) ?_
            | refine Branch.dec (fun h => ?_) (fun h => ?_)
            | refine Branch.negdec (fun h => ?_) (fun h => ?_)
            | refine Branch.neg (fun h => ?_) (fun h => ?_)
            | refine Branch.mk (fun h => ?_) (fun h => ?_)
            | (refine Side.mk ?_ ?_; · first | omega | decide)
            | (refine SideD.mk ?_ ?_; · first | omega | decide)
            | refine ⟨_, Nat.lt_succ_self _, To.refl (.inl ⟨rfl, ?_⟩)⟩
            | refine CallA.pure h13 rfl rfl ?_
            | refine QCallA.of h15 rfl rfl ?_
            | refine ⟨_, hgh, ?_⟩
            | refine ⟨_, hgs, ?_⟩
            | refine ⟨_, hgr, ?_⟩
            | refine ⟨_, mset_i _ _ _, ?_⟩
            | (refine Side.mk ?_ ?_; · (simp; done))
            | fail
            )
        all_goals (conv => whnf)
        refine ⟨3 - 1, by omega, To.gc [(0, false), (1, true), (2, true), (3, true), (4, true), (5, true)] [0, 2, 15, 16] rfl ⟨trivial, trivial, trivial, hp, hq, trivial⟩ ⟨1, by omega, rfl, rfl, by rw [hn, show note a C = ⟨iput a.e (mx 0 a.rel) C.rel, iput a.e a.h C.held, C.start⟩ by simp [note, hh, e2, e3]]; rfl⟩⟩
      · repeat' ((conv => whnf); first
            | refine Branch.ofT rfl ?_
            | refine Branch.ofF rfl ?_
            | refine Branch.ofF (by simp; done) ?_
            | refine Branch.dec (fun h => ?_) (fun h => ?_)
            | refine Branch.negdec (fun h => ?_) (fun h => ?_)
            | refine Branch.neg (fun h => ?_) (fun h => ?_)
            | refine Branch.mk (fun h => ?_) (fun h => ?_)
            | (refine Side.mk ?_ ?_; · first | omega | decide)
            | (refine SideD.mk ?_ ?_; · first | omega | decide)
            | refine ⟨_, Nat.lt_succ_self _, To.refl (.inl ⟨rfl, ?_⟩)⟩
            | refine CallA.pure h13 rfl rfl ?_
            | refine QCallA.of h15 rfl rfl ?_
            | refine ⟨_, hgh, ?_⟩
            | refine ⟨_, hgs, ?_⟩
            | refine ⟨_, hgr, ?_⟩
            | refine ⟨_, mset_i _ _ _, ?_⟩
            | (refine Side.mk ?_ ?_; · (simp; done))
            | fail
            )
        all_goals (conv => whnf)
        refine ⟨3 - 1, by omega, To.gc [(0, false), (1, true), (2, true), (3, true), (4, true), (5, true)] [0, 2, 15, 16] rfl ⟨trivial, trivial, trivial, hp, hq, trivial⟩ ⟨1, by omega, rfl, rfl, by rw [hn, show note a C = ⟨iput a.e (mx q3 a.rel) C.rel, iput a.e a.h C.held, C.start⟩ by simp [note, hh, e2, e3]]; rfl⟩⟩
      · repeat' ((conv => whnf); first
            | refine Branch.ofT rfl ?_
            | refine Branch.ofF rfl ?_
            | refine Branch.ofF (by simp; done) ?_
            | refine Branch.dec (fun h => ?_) (fun h => ?_)
            | refine Branch.negdec (fun h => ?_) (fun h => ?_)
            | refine Branch.neg (fun h => ?_) (fun h => ?_)
            | refine Branch.mk (fun h => ?_) (fun h => ?_)
            | (refine Side.mk ?_ ?_; · first | omega | decide)
            | (refine SideD.mk ?_ ?_; · first | omega | decide)
            | refine ⟨_, Nat.lt_succ_self _, To.refl (.inl ⟨rfl, ?_⟩)⟩
            | refine CallA.pure h13 rfl rfl ?_
            | refine QCallA.of h15 rfl rfl ?_
            | refine ⟨_, hgh, ?_⟩
            | refine ⟨_, hgs, ?_⟩
            | refine ⟨_, hgr, ?_⟩
            | refine ⟨_, mset_i _ _ _, ?_⟩
            | (refine Side.mk ?_ ?_; · (simp; done))
            | fail
            )
        all_goals (conv => whnf)
        refine ⟨3 - 1, by omega, To.gc [(0, false), (1, true), (2, true), (3, true), (4, true), (5, true)] [0, 2, 15, 16] rfl ⟨trivial, trivial, trivial, hp, hq, trivial⟩ ⟨1, by omega, rfl, rfl, by rw [hn, show note a C = ⟨iput a.e (mx 0 a.rel) C.rel, iput a.e a.h C.held, iput a.e a.s C.start⟩ by simp [note, hh, e2, e3]]; rfl⟩⟩
      · repeat' ((conv => whnf); first
            | refine Branch.ofT rfl ?_
            | refine Branch.ofF rfl ?_
            | refine Branch.ofF (by simp; done) ?_
            | refine Branch.dec (fun h => ?_) (fun h => ?_)
            | refine Branch.negdec (fun h => ?_) (fun h => ?_)
            | refine Branch.neg (fun h => ?_) (fun h => ?_)
            | refine Branch.mk (fun h => ?_) (fun h => ?_)
            | (refine Side.mk ?_ ?_; · first | omega | decide)
            | (refine SideD.mk ?_ ?_; · first | omega | decide)
            | refine ⟨_, Nat.lt_succ_self _, To.refl (.inl ⟨rfl, ?_⟩)⟩
            | refine CallA.pure h13 rfl rfl ?_
            | refine QCallA.of h15 rfl rfl ?_
            | refine ⟨_, hgh, ?_⟩
            | refine ⟨_, hgs, ?_⟩
            | refine ⟨_, hgr, ?_⟩
            | refine ⟨_, mset_i _ _ _, ?_⟩
            | (refine Side.mk ?_ ?_; · (simp; done))
            | fail
            )
        all_goals (conv => whnf)
        refine ⟨3 - 1, by omega, To.gc [(0, false), (1, true), (2, true), (3, true), (4, true), (5, true)] [0, 2, 15, 16] rfl ⟨trivial, trivial, trivial, hp, hq, trivial⟩ ⟨1, by omega, rfl, rfl, by rw [hn, show note a C = ⟨iput a.e (mx q3 a.rel) C.rel, iput a.e a.h C.held, iput a.e a.s C.start⟩ by simp [note, hh, e2, e3]]; rfl⟩⟩
      · repeat' ((conv => whnf); first
            | refine Branch.ofT rfl ?_
            | refine Branch.ofF rfl ?_
            | refine Branch.ofF (by simp; done) ?_
            | refine Branch.dec (fun h => ?_) (fun h => ?_)
            | refine Branch.negdec (fun h => ?_) (fun h => ?_)
            | refine Branch.neg (fun h => ?_) (fun h => ?_)
            | refine Branch.mk (fun h => ?_) (fun h => ?_)
            | (refine Side.mk ?_ ?_; · first | omega | decide)
            | (refine SideD.mk ?_ ?_; · first | omega | decide)
            | refine ⟨_, Nat.lt_succ_self _, To.refl (.inl ⟨rfl, ?_⟩)⟩
            | refine CallA.pure h13 rfl rfl ?_
            | refine QCallA.of h15 rfl rfl ?_
            | refine ⟨_, hgh, ?_⟩
            | refine ⟨_, hgs, ?_⟩
            | refine ⟨_, hgr, ?_⟩
            | refine ⟨_, mset_i _ _ _, ?_⟩
            | (refine Side.mk ?_ ?_; · (simp; done))
            | fail
            )
        all_goals (conv => whnf)
        refine ⟨3 - 1, by omega, To.gc [(0, false), (1, true), (2, true), (3, true), (4, true), (5, true)] [0, 2, 15, 16] rfl ⟨trivial, trivial, trivial, hp, hq, trivial⟩ ⟨1, by omega, rfl, rfl, by rw [hn, show note a C = ⟨iput a.e (mx 0 a.rel) C.rel, iput a.e a.h C.held, C.start⟩ by simp [note, hh, e2, e3]]; rfl⟩⟩
      · repeat' ((conv => whnf); first
            | refine Branch.ofT rfl ?_
            | refine Branch.ofF rfl ?_
            | refine Branch.ofF (by simp; done) ?_
            | refine Branch.dec (fun h => ?_) (fun h => ?_)
            | refine Branch.negdec (fun h => ?_) (fun h => ?_)
            | refine Branch.neg (fun h => ?_) (fun h => ?_)
            | refine Branch.mk (fun h => ?_) (fun h => ?_)
            | (refine Side.mk ?_ ?_; · first | omega | decide)
            | (refine SideD.mk ?_ ?_; · first | omega | decide)
            | refine ⟨_, Nat.lt_succ_self _, To.refl (.inl ⟨rfl, ?_⟩)⟩
            | refine CallA.pure h13 rfl rfl ?_
            | refine QCallA.of h15 rfl rfl ?_
            | refine ⟨_, hgh, ?_⟩
            | refine ⟨_, hgs, ?_⟩
            | refine ⟨_, hgr, ?_⟩
            | refine ⟨_, mset_i _ _ _, ?_⟩
            | (refine Side.mk ?_ ?_; · (simp; done))
            | fail
            )
        all_goals (conv => whnf)
        refine ⟨3 - 1, by omega, To.gc [(0, false), (1, true), (2, true), (3, true), (4, true), (5, true)] [0, 2, 15, 16] rfl ⟨trivial, trivial, trivial, hp, hq, trivial⟩ ⟨1, by omega, rfl, rfl, by rw [hn, show note a C = ⟨iput a.e (mx q3 a.rel) C.rel, iput a.e a.h C.held, C.start⟩ by simp [note, hh, e2, e3]]; rfl⟩⟩
  · have h13 := c13 b
    have h15 := c15 b
    have hn : Bs a b c B 2 = note b (Bs a b c B 1) := rfl
    have fx : fine b (Bs a b c B 1) := fb
    generalize Bs a b c B 1 = C at hn fx
    (conv => whnf)
    cases hh : b.holds with
    | false =>
      rw [hh] at h13
      rw [show b.rel = 0 by simp [Hol.rel, hh]] at h15
      repeat' ((conv => whnf); first
          | refine Branch.ofT rfl ?_
          | refine Branch.ofF rfl ?_
          | refine Branch.dec (fun h => ?_) (fun h => ?_)
          | refine Branch.negdec (fun h => ?_) (fun h => ?_)
          | refine Branch.neg (fun h => ?_) (fun h => ?_)
          | refine Branch.mk (fun h => ?_) (fun h => ?_)
          | (refine Side.mk ?_ ?_; · first | omega | decide)
          | (refine SideD.mk ?_ ?_; · first | omega | decide)
          | refine ⟨_, Nat.lt_succ_self _, To.refl (.inl ⟨rfl, ?_⟩)⟩
          | refine CallA.pure h13 rfl rfl ?_
          | refine CallA.pure h15 rfl rfl ?_
          | (refine Side.mk ?_ ?_; · (simp; done))
          | fail
          )
      all_goals (conv => whnf)
      refine ⟨3 - 2, by omega, To.gc [(0, false), (1, true), (2, true), (3, true), (4, true), (5, true)] [0, 2, 15, 16] rfl ⟨trivial, trivial, trivial, hp, hq, trivial⟩ ⟨2, by omega, rfl, rfl, by rw [hn, show note b C = C by simp [note, hh]]; rfl⟩⟩
    | true =>
      rw [hh] at h13
      have hgh := mget_i b.e C.held
      have hgs := mget_i b.e C.start
      have hgr := mget_i b.e C.rel
      have who : iget b.e C.held = none ∨ iget b.e C.held = some b.h := by
        cases e1 : iget b.e C.held with
        | none => exact .inl rfl
        | some q => exact .inr (by rw [fx hh q e1])
      rcases who with e1 | e1 <;> rcases e2 : iget b.e C.start with _ | q2 <;> rcases e3 : iget b.e C.rel with _ | q3 <;> rw [e1] at hgh <;> rw [e2] at hgs <;> rw [e3] at hgr
      · repeat' ((conv => whnf); first
            | refine Branch.ofT rfl ?_
            | refine Branch.ofF rfl ?_
            | refine Branch.ofF (by simp; done) ?_
            | refine Branch.dec (fun h => ?_) (fun h => ?_)
            | refine Branch.negdec (fun h => ?_) (fun h => ?_)
            | refine Branch.neg (fun h => ?_) (fun h => ?_)
            | refine Branch.mk (fun h => ?_) (fun h => ?_)
            | (refine Side.mk ?_ ?_; · first | omega | decide)
            | (refine SideD.mk ?_ ?_; · first | omega | decide)
            | refine ⟨_, Nat.lt_succ_self _, To.refl (.inl ⟨rfl, ?_⟩)⟩
            | refine CallA.pure h13 rfl rfl ?_
            | refine QCallA.of h15 rfl rfl ?_
            | refine ⟨_, hgh, ?_⟩
            | refine ⟨_, hgs, ?_⟩
            | refine ⟨_, hgr, ?_⟩
            | refine ⟨_, mset_i _ _ _, ?_⟩
            | (refine Side.mk ?_ ?_; · (simp; done))
            | fail
            )
        all_goals (conv => whnf)
        refine ⟨3 - 2, by omega, To.gc [(0, false), (1, true), (2, true), (3, true), (4, true), (5, true)] [0, 2, 15, 16] rfl ⟨trivial, trivial, trivial, hp, hq, trivial⟩ ⟨2, by omega, rfl, rfl, by rw [hn, show note b C = ⟨iput b.e (mx 0 b.rel) C.rel, iput b.e b.h C.held, iput b.e b.s C.start⟩ by simp [note, hh, e2, e3]]; rfl⟩⟩
      · repeat' ((conv => whnf); first
            | refine Branch.ofT rfl ?_
            | refine Branch.ofF rfl ?_
            | refine Branch.ofF (by simp; done) ?_
            | refine Branch.dec (fun h => ?_) (fun h => ?_)
            | refine Branch.negdec (fun h => ?_) (fun h => ?_)
            | refine Branch.neg (fun h => ?_) (fun h => ?_)
            | refine Branch.mk (fun h => ?_) (fun h => ?_)
            | (refine Side.mk ?_ ?_; · first | omega | decide)
            | (refine SideD.mk ?_ ?_; · first | omega | decide)
            | refine ⟨_, Nat.lt_succ_self _, To.refl (.inl ⟨rfl, ?_⟩)⟩
            | refine CallA.pure h13 rfl rfl ?_
            | refine QCallA.of h15 rfl rfl ?_
            | refine ⟨_, hgh, ?_⟩
            | refine ⟨_, hgs, ?_⟩
            | refine ⟨_, hgr, ?_⟩
            | refine ⟨_, mset_i _ _ _, ?_⟩
            | (refine Side.mk ?_ ?_; · (simp; done))
            | fail
            )
        all_goals (conv => whnf)
        refine ⟨3 - 2, by omega, To.gc [(0, false), (1, true), (2, true), (3, true), (4, true), (5, true)] [0, 2, 15, 16] rfl ⟨trivial, trivial, trivial, hp, hq, trivial⟩ ⟨2, by omega, rfl, rfl, by rw [hn, show note b C = ⟨iput b.e (mx q3 b.rel) C.rel, iput b.e b.h C.held, iput b.e b.s C.start⟩ by simp [note, hh, e2, e3]]; rfl⟩⟩
      · repeat' ((conv => whnf); first
            | refine Branch.ofT rfl ?_
            | refine Branch.ofF rfl ?_
            | refine Branch.ofF (by simp; done) ?_
            | refine Branch.dec (fun h => ?_) (fun h => ?_)
            | refine Branch.negdec (fun h => ?_) (fun h => ?_)
            | refine Branch.neg (fun h => ?_) (fun h => ?_)
            | refine Branch.mk (fun h => ?_) (fun h => ?_)
            | (refine Side.mk ?_ ?_; · first | omega | decide)
            | (refine SideD.mk ?_ ?_; · first | omega | decide)
            | refine ⟨_, Nat.lt_succ_self _, To.refl (.inl ⟨rfl, ?_⟩)⟩
            | refine CallA.pure h13 rfl rfl ?_
            | refine QCallA.of h15 rfl rfl ?_
            | refine ⟨_, hgh, ?_⟩
            | refine ⟨_, hgs, ?_⟩
            | refine ⟨_, hgr, ?_⟩
            | refine ⟨_, mset_i _ _ _, ?_⟩
            | (refine Side.mk ?_ ?_; · (simp; done))
            | fail
            )
        all_goals (conv => whnf)
        refine ⟨3 - 2, by omega, To.gc [(0, false), (1, true), (2, true), (3, true), (4, true), (5, true)] [0, 2, 15, 16] rfl ⟨trivial, trivial, trivial, hp, hq, trivial⟩ ⟨2, by omega, rfl, rfl, by rw [hn, show note b C = ⟨iput b.e (mx 0 b.rel) C.rel, iput b.e b.h C.held, C.start⟩ by simp [note, hh, e2, e3]]; rfl⟩⟩
      · repeat' ((conv => whnf); first
            | refine Branch.ofT rfl ?_
            | refine Branch.ofF rfl ?_
            | refine Branch.ofF (by simp; done) ?_
            | refine Branch.dec (fun h => ?_) (fun h => ?_)
            | refine Branch.negdec (fun h => ?_) (fun h => ?_)
            | refine Branch.neg (fun h => ?_) (fun h => ?_)
            | refine Branch.mk (fun h => ?_) (fun h => ?_)
            | (refine Side.mk ?_ ?_; · first | omega | decide)
            | (refine SideD.mk ?_ ?_; · first | omega | decide)
            | refine ⟨_, Nat.lt_succ_self _, To.refl (.inl ⟨rfl, ?_⟩)⟩
            | refine CallA.pure h13 rfl rfl ?_
            | refine QCallA.of h15 rfl rfl ?_
            | refine ⟨_, hgh, ?_⟩
            | refine ⟨_, hgs, ?_⟩
            | refine ⟨_, hgr, ?_⟩
            | refine ⟨_, mset_i _ _ _, ?_⟩
            | (refine Side.mk ?_ ?_; · (simp; done))
            | fail
            )
        all_goals (conv => whnf)
        refine ⟨3 - 2, by omega, To.gc [(0, false), (1, true), (2, true), (3, true), (4, true), (5, true)] [0, 2, 15, 16] rfl ⟨trivial, trivial, trivial, hp, hq, trivial⟩ ⟨2, by omega, rfl, rfl, by rw [hn, show note b C = ⟨iput b.e (mx q3 b.rel) C.rel, iput b.e b.h C.held, C.start⟩ by simp [note, hh, e2, e3]]; rfl⟩⟩
      · repeat' ((conv => whnf); first
            | refine Branch.ofT rfl ?_
            | refine Branch.ofF rfl ?_
            | refine Branch.ofF (by simp; done) ?_
            | refine Branch.dec (fun h => ?_) (fun h => ?_)
            | refine Branch.negdec (fun h => ?_) (fun h => ?_)
            | refine Branch.neg (fun h => ?_) (fun h => ?_)
            | refine Branch.mk (fun h => ?_) (fun h => ?_)
            | (refine Side.mk ?_ ?_; · first | omega | decide)
            | (refine SideD.mk ?_ ?_; · first | omega | decide)
            | refine ⟨_, Nat.lt_succ_self _, To.refl (.inl ⟨rfl, ?_⟩)⟩
            | refine CallA.pure h13 rfl rfl ?_
            | refine QCallA.of h15 rfl rfl ?_
            | refine ⟨_, hgh, ?_⟩
            | refine ⟨_, hgs, ?_⟩
            | refine ⟨_, hgr, ?_⟩
            | refine ⟨_, mset_i _ _ _, ?_⟩
            | (refine Side.mk ?_ ?_; · (simp; done))
            | fail
            )
        all_goals (conv => whnf)
        refine ⟨3 - 2, by omega, To.gc [(0, false), (1, true), (2, true), (3, true), (4, true), (5, true)] [0, 2, 15, 16] rfl ⟨trivial, trivial, trivial, hp, hq, trivial⟩ ⟨2, by omega, rfl, rfl, by rw [hn, show note b C = ⟨iput b.e (mx 0 b.rel) C.rel, iput b.e b.h C.held, iput b.e b.s C.start⟩ by simp [note, hh, e2, e3]]; rfl⟩⟩
      · repeat' ((conv => whnf); first
            | refine Branch.ofT rfl ?_
            | refine Branch.ofF rfl ?_
            | refine Branch.ofF (by simp; done) ?_
            | refine Branch.dec (fun h => ?_) (fun h => ?_)
            | refine Branch.negdec (fun h => ?_) (fun h => ?_)
            | refine Branch.neg (fun h => ?_) (fun h => ?_)
            | refine Branch.mk (fun h => ?_) (fun h => ?_)
            | (refine Side.mk ?_ ?_; · first | omega | decide)
            | (refine SideD.mk ?_ ?_; · first | omega | decide)
            | refine ⟨_, Nat.lt_succ_self _, To.refl (.inl ⟨rfl, ?_⟩)⟩
            | refine CallA.pure h13 rfl rfl ?_
            | refine QCallA.of h15 rfl rfl ?_
            | refine ⟨_, hgh, ?_⟩
            | refine ⟨_, hgs, ?_⟩
            | refine ⟨_, hgr, ?_⟩
            | refine ⟨_, mset_i _ _ _, ?_⟩
            | (refine Side.mk ?_ ?_; · (simp; done))
            | fail
            )
        all_goals (conv => whnf)
        refine ⟨3 - 2, by omega, To.gc [(0, false), (1, true), (2, true), (3, true), (4, true), (5, true)] [0, 2, 15, 16] rfl ⟨trivial, trivial, trivial, hp, hq, trivial⟩ ⟨2, by omega, rfl, rfl, by rw [hn, show note b C = ⟨iput b.e (mx q3 b.rel) C.rel, iput b.e b.h C.held, iput b.e b.s C.start⟩ by simp [note, hh, e2, e3]]; rfl⟩⟩
      · repeat' ((conv => whnf); first
            | refine Branch.ofT rfl ?_
            | refine Branch.ofF rfl ?_
            | refine Branch.ofF (by simp; done) ?_
            | refine Branch.dec (fun h => ?_) (fun h => ?_)
            | refine Branch.negdec (fun h => ?_) (fun h => ?_)
            | refine Branch.neg (fun h => ?_) (fun h => ?_)
            | refine Branch.mk (fun h => ?_) (fun h => ?_)
            | (refine Side.mk ?_ ?_; · first | omega | decide)
            | (refine SideD.mk ?_ ?_; · first | omega | decide)
            | refine ⟨_, Nat.lt_succ_self _, To.refl (.inl ⟨rfl, ?_⟩)⟩
            | refine CallA.pure h13 rfl rfl ?_
            | refine QCallA.of h15 rfl rfl ?_
            | refine ⟨_, hgh, ?_⟩
            | refine ⟨_, hgs, ?_⟩
            | refine ⟨_, hgr, ?_⟩
            | refine ⟨_, mset_i _ _ _, ?_⟩
            | (refine Side.mk ?_ ?_; · (simp; done))
            | fail
            )
        all_goals (conv => whnf)
        refine ⟨3 - 2, by omega, To.gc [(0, false), (1, true), (2, true), (3, true), (4, true), (5, true)] [0, 2, 15, 16] rfl ⟨trivial, trivial, trivial, hp, hq, trivial⟩ ⟨2, by omega, rfl, rfl, by rw [hn, show note b C = ⟨iput b.e (mx 0 b.rel) C.rel, iput b.e b.h C.held, C.start⟩ by simp [note, hh, e2, e3]]; rfl⟩⟩
      · repeat' ((conv => whnf); first
            | refine Branch.ofT rfl ?_
            | refine Branch.ofF rfl ?_
            | refine Branch.ofF (by simp; done) ?_
            | refine Branch.dec (fun h => ?_) (fun h => ?_)
            | refine Branch.negdec (fun h => ?_) (fun h => ?_)
            | refine Branch.neg (fun h => ?_) (fun h => ?_)
            | refine Branch.mk (fun h => ?_) (fun h => ?_)
            | (refine Side.mk ?_ ?_; · first | omega | decide)
            | (refine SideD.mk ?_ ?_; · first | omega | decide)
            | refine ⟨_, Nat.lt_succ_self _, To.refl (.inl ⟨rfl, ?_⟩)⟩
            | refine CallA.pure h13 rfl rfl ?_
            | refine QCallA.of h15 rfl rfl ?_
            | refine ⟨_, hgh, ?_⟩
            | refine ⟨_, hgs, ?_⟩
            | refine ⟨_, hgr, ?_⟩
            | refine ⟨_, mset_i _ _ _, ?_⟩
            | (refine Side.mk ?_ ?_; · (simp; done))
            | fail
            )
        all_goals (conv => whnf)
        refine ⟨3 - 2, by omega, To.gc [(0, false), (1, true), (2, true), (3, true), (4, true), (5, true)] [0, 2, 15, 16] rfl ⟨trivial, trivial, trivial, hp, hq, trivial⟩ ⟨2, by omega, rfl, rfl, by rw [hn, show note b C = ⟨iput b.e (mx q3 b.rel) C.rel, iput b.e b.h C.held, C.start⟩ by simp [note, hh, e2, e3]]; rfl⟩⟩
  · have h13 := c13 c
    have h15 := c15 c
    have hn : Bs a b c B 3 = note c (Bs a b c B 2) := rfl
    have fx : fine c (Bs a b c B 2) := fc
    generalize Bs a b c B 2 = C at hn fx
    (conv => whnf)
    cases hh : c.holds with
    | false =>
      rw [hh] at h13
      rw [show c.rel = 0 by simp [Hol.rel, hh]] at h15
      repeat' ((conv => whnf); first
          | refine Branch.ofT rfl ?_
          | refine Branch.ofF rfl ?_
          | refine Branch.dec (fun h => ?_) (fun h => ?_)
          | refine Branch.negdec (fun h => ?_) (fun h => ?_)
          | refine Branch.neg (fun h => ?_) (fun h => ?_)
          | refine Branch.mk (fun h => ?_) (fun h => ?_)
          | (refine Side.mk ?_ ?_; · first | omega | decide)
          | (refine SideD.mk ?_ ?_; · first | omega | decide)
          | refine ⟨_, Nat.lt_succ_self _, To.refl (.inl ⟨rfl, ?_⟩)⟩
          | refine CallA.pure h13 rfl rfl ?_
          | refine CallA.pure h15 rfl rfl ?_
          | (refine Side.mk ?_ ?_; · (simp; done))
          | fail
          )
      all_goals (conv => whnf)
      refine ⟨3 - 3, by omega, To.gc [(0, false), (1, true), (2, true), (3, true), (4, true), (5, true)] [0, 2, 15, 16] rfl ⟨trivial, trivial, trivial, hp, hq, trivial⟩ ⟨3, by omega, rfl, rfl, by rw [hn, show note c C = C by simp [note, hh]]; rfl⟩⟩
    | true =>
      rw [hh] at h13
      have hgh := mget_i c.e C.held
      have hgs := mget_i c.e C.start
      have hgr := mget_i c.e C.rel
      have who : iget c.e C.held = none ∨ iget c.e C.held = some c.h := by
        cases e1 : iget c.e C.held with
        | none => exact .inl rfl
        | some q => exact .inr (by rw [fx hh q e1])
      rcases who with e1 | e1 <;> rcases e2 : iget c.e C.start with _ | q2 <;> rcases e3 : iget c.e C.rel with _ | q3 <;> rw [e1] at hgh <;> rw [e2] at hgs <;> rw [e3] at hgr
      · repeat' ((conv => whnf); first
            | refine Branch.ofT rfl ?_
            | refine Branch.ofF rfl ?_
            | refine Branch.ofF (by simp; done) ?_
            | refine Branch.dec (fun h => ?_) (fun h => ?_)
            | refine Branch.negdec (fun h => ?_) (fun h => ?_)
            | refine Branch.neg (fun h => ?_) (fun h => ?_)
            | refine Branch.mk (fun h => ?_) (fun h => ?_)
            | (refine Side.mk ?_ ?_; · first | omega | decide)
            | (refine SideD.mk ?_ ?_; · first | omega | decide)
            | refine ⟨_, Nat.lt_succ_self _, To.refl (.inl ⟨rfl, ?_⟩)⟩
            | refine CallA.pure h13 rfl rfl ?_
            | refine QCallA.of h15 rfl rfl ?_
            | refine ⟨_, hgh, ?_⟩
            | refine ⟨_, hgs, ?_⟩
            | refine ⟨_, hgr, ?_⟩
            | refine ⟨_, mset_i _ _ _, ?_⟩
            | (refine Side.mk ?_ ?_; · (simp; done))
            | fail
            )
        all_goals (conv => whnf)
        refine ⟨3 - 3, by omega, To.gc [(0, false), (1, true), (2, true), (3, true), (4, true), (5, true)] [0, 2, 15, 16] rfl ⟨trivial, trivial, trivial, hp, hq, trivial⟩ ⟨3, by omega, rfl, rfl, by rw [hn, show note c C = ⟨iput c.e (mx 0 c.rel) C.rel, iput c.e c.h C.held, iput c.e c.s C.start⟩ by simp [note, hh, e2, e3]]; rfl⟩⟩
      · repeat' ((conv => whnf); first
            | refine Branch.ofT rfl ?_
            | refine Branch.ofF rfl ?_
            | refine Branch.ofF (by simp; done) ?_
            | refine Branch.dec (fun h => ?_) (fun h => ?_)
            | refine Branch.negdec (fun h => ?_) (fun h => ?_)
            | refine Branch.neg (fun h => ?_) (fun h => ?_)
            | refine Branch.mk (fun h => ?_) (fun h => ?_)
            | (refine Side.mk ?_ ?_; · first | omega | decide)
            | (refine SideD.mk ?_ ?_; · first | omega | decide)
            | refine ⟨_, Nat.lt_succ_self _, To.refl (.inl ⟨rfl, ?_⟩)⟩
            | refine CallA.pure h13 rfl rfl ?_
            | refine QCallA.of h15 rfl rfl ?_
            | refine ⟨_, hgh, ?_⟩
            | refine ⟨_, hgs, ?_⟩
            | refine ⟨_, hgr, ?_⟩
            | refine ⟨_, mset_i _ _ _, ?_⟩
            | (refine Side.mk ?_ ?_; · (simp; done))
            | fail
            )
        all_goals (conv => whnf)
        refine ⟨3 - 3, by omega, To.gc [(0, false), (1, true), (2, true), (3, true), (4, true), (5, true)] [0, 2, 15, 16] rfl ⟨trivial, trivial, trivial, hp, hq, trivial⟩ ⟨3, by omega, rfl, rfl, by rw [hn, show note c C = ⟨iput c.e (mx q3 c.rel) C.rel, iput c.e c.h C.held, iput c.e c.s C.start⟩ by simp [note, hh, e2, e3]]; rfl⟩⟩
      · repeat' ((conv => whnf); first
            | refine Branch.ofT rfl ?_
            | refine Branch.ofF rfl ?_
            | refine Branch.ofF (by simp; done) ?_
            | refine Branch.dec (fun h => ?_) (fun h => ?_)
            | refine Branch.negdec (fun h => ?_) (fun h => ?_)
            | refine Branch.neg (fun h => ?_) (fun h => ?_)
            | refine Branch.mk (fun h => ?_) (fun h => ?_)
            | (refine Side.mk ?_ ?_; · first | omega | decide)
            | (refine SideD.mk ?_ ?_; · first | omega | decide)
            | refine ⟨_, Nat.lt_succ_self _, To.refl (.inl ⟨rfl, ?_⟩)⟩
            | refine CallA.pure h13 rfl rfl ?_
            | refine QCallA.of h15 rfl rfl ?_
            | refine ⟨_, hgh, ?_⟩
            | refine ⟨_, hgs, ?_⟩
            | refine ⟨_, hgr, ?_⟩
            | refine ⟨_, mset_i _ _ _, ?_⟩
            | (refine Side.mk ?_ ?_; · (simp; done))
            | fail
            )
        all_goals (conv => whnf)
        refine ⟨3 - 3, by omega, To.gc [(0, false), (1, true), (2, true), (3, true), (4, true), (5, true)] [0, 2, 15, 16] rfl ⟨trivial, trivial, trivial, hp, hq, trivial⟩ ⟨3, by omega, rfl, rfl, by rw [hn, show note c C = ⟨iput c.e (mx 0 c.rel) C.rel, iput c.e c.h C.held, C.start⟩ by simp [note, hh, e2, e3]]; rfl⟩⟩
      · repeat' ((conv => whnf); first
            | refine Branch.ofT rfl ?_
            | refine Branch.ofF rfl ?_
            | refine Branch.ofF (by simp; done) ?_
            | refine Branch.dec (fun h => ?_) (fun h => ?_)
            | refine Branch.negdec (fun h => ?_) (fun h => ?_)
            | refine Branch.neg (fun h => ?_) (fun h => ?_)
            | refine Branch.mk (fun h => ?_) (fun h => ?_)
            | (refine Side.mk ?_ ?_; · first | omega | decide)
            | (refine SideD.mk ?_ ?_; · first | omega | decide)
            | refine ⟨_, Nat.lt_succ_self _, To.refl (.inl ⟨rfl, ?_⟩)⟩
            | refine CallA.pure h13 rfl rfl ?_
            | refine QCallA.of h15 rfl rfl ?_
            | refine ⟨_, hgh, ?_⟩
            | refine ⟨_, hgs, ?_⟩
            | refine ⟨_, hgr, ?_⟩
            | refine ⟨_, mset_i _ _ _, ?_⟩
            | (refine Side.mk ?_ ?_; · (simp; done))
            | fail
            )
        all_goals (conv => whnf)
        refine ⟨3 - 3, by omega, To.gc [(0, false), (1, true), (2, true), (3, true), (4, true), (5, true)] [0, 2, 15, 16] rfl ⟨trivial, trivial, trivial, hp, hq, trivial⟩ ⟨3, by omega, rfl, rfl, by rw [hn, show note c C = ⟨iput c.e (mx q3 c.rel) C.rel, iput c.e c.h C.held, C.start⟩ by simp [note, hh, e2, e3]]; rfl⟩⟩
      · repeat' ((conv => whnf); first
            | refine Branch.ofT rfl ?_
            | refine Branch.ofF rfl ?_
            | refine Branch.ofF (by simp; done) ?_
            | refine Branch.dec (fun h => ?_) (fun h => ?_)
            | refine Branch.negdec (fun h => ?_) (fun h => ?_)
            | refine Branch.neg (fun h => ?_) (fun h => ?_)
            | refine Branch.mk (fun h => ?_) (fun h => ?_)
            | (refine Side.mk ?_ ?_; · first | omega | decide)
            | (refine SideD.mk ?_ ?_; · first | omega | decide)
            | refine ⟨_, Nat.lt_succ_self _, To.refl (.inl ⟨rfl, ?_⟩)⟩
            | refine CallA.pure h13 rfl rfl ?_
            | refine QCallA.of h15 rfl rfl ?_
            | refine ⟨_, hgh, ?_⟩
            | refine ⟨_, hgs, ?_⟩
            | refine ⟨_, hgr, ?_⟩
            | refine ⟨_, mset_i _ _ _, ?_⟩
            | (refine Side.mk ?_ ?_; · (simp; done))
            | fail
            )
        all_goals (conv => whnf)
        refine ⟨3 - 3, by omega, To.gc [(0, false), (1, true), (2, true), (3, true), (4, true), (5, true)] [0, 2, 15, 16] rfl ⟨trivial, trivial, trivial, hp, hq, trivial⟩ ⟨3, by omega, rfl, rfl, by rw [hn, show note c C = ⟨iput c.e (mx 0 c.rel) C.rel, iput c.e c.h C.held, iput c.e c.s C.start⟩ by simp [note, hh, e2, e3]]; rfl⟩⟩
      · repeat' ((conv => whnf); first
            | refine Branch.ofT rfl ?_
            | refine Branch.ofF rfl ?_
            | refine Branch.ofF (by simp; done) ?_
            | refine Branch.dec (fun h => ?_) (fun h => ?_)
            | refine Branch.negdec (fun h => ?_) (fun h => ?_)
            | refine Branch.neg (fun h => ?_) (fun h => ?_)
            | refine Branch.mk (fun h => ?_) (fun h => ?_)
            | (refine Side.mk ?_ ?_; · first | omega | decide)
            | (refine SideD.mk ?_ ?_; · first | omega | decide)
            | refine ⟨_, Nat.lt_succ_self _, To.refl (.inl ⟨rfl, ?_⟩)⟩
            | refine CallA.pure h13 rfl rfl ?_
            | refine QCallA.of h15 rfl rfl ?_
            | refine ⟨_, hgh, ?_⟩
            | refine ⟨_, hgs, ?_⟩
            | refine ⟨_, hgr, ?_⟩
            | refine ⟨_, mset_i _ _ _, ?_⟩
            | (refine Side.mk ?_ ?_; · (simp; done))
            | fail
            )
        all_goals (conv => whnf)
        refine ⟨3 - 3, by omega, To.gc [(0, false), (1, true), (2, true), (3, true), (4, true), (5, true)] [0, 2, 15, 16] rfl ⟨trivial, trivial, trivial, hp, hq, trivial⟩ ⟨3, by omega, rfl, rfl, by rw [hn, show note c C = ⟨iput c.e (mx q3 c.rel) C.rel, iput c.e c.h C.held, iput c.e c.s C.start⟩ by simp [note, hh, e2, e3]]; rfl⟩⟩
      · repeat' ((conv => whnf); first
            | refine Branch.ofT rfl ?_
            | refine Branch.ofF rfl ?_
            | refine Branch.ofF (by simp; done) ?_
            | refine Branch.dec (fun h => ?_) (fun h => ?_)
            | refine Branch.negdec (fun h => ?_) (fun h => ?_)
            | refine Branch.neg (fun h => ?_) (fun h => ?_)
            | refine Branch.mk (fun h => ?_) (fun h => ?_)
            | (refine Side.mk ?_ ?_; · first | omega | decide)
            | (refine SideD.mk ?_ ?_; · first | omega | decide)
            | refine ⟨_, Nat.lt_succ_self _, To.refl (.inl ⟨rfl, ?_⟩)⟩
            | refine CallA.pure h13 rfl rfl ?_
            | refine QCallA.of h15 rfl rfl ?_
            | refine ⟨_, hgh, ?_⟩
            | refine ⟨_, hgs, ?_⟩
            | refine ⟨_, hgr, ?_⟩
            | refine ⟨_, mset_i _ _ _, ?_⟩
            | (refine Side.mk ?_ ?_; · (simp; done))
            | fail
            )
        all_goals (conv => whnf)
        refine ⟨3 - 3, by omega, To.gc [(0, false), (1, true), (2, true), (3, true), (4, true), (5, true)] [0, 2, 15, 16] rfl ⟨trivial, trivial, trivial, hp, hq, trivial⟩ ⟨3, by omega, rfl, rfl, by rw [hn, show note c C = ⟨iput c.e (mx 0 c.rel) C.rel, iput c.e c.h C.held, C.start⟩ by simp [note, hh, e2, e3]]; rfl⟩⟩
      · repeat' ((conv => whnf); first
            | refine Branch.ofT rfl ?_
            | refine Branch.ofF rfl ?_
            | refine Branch.ofF (by simp; done) ?_
            | refine Branch.dec (fun h => ?_) (fun h => ?_)
            | refine Branch.negdec (fun h => ?_) (fun h => ?_)
            | refine Branch.neg (fun h => ?_) (fun h => ?_)
            | refine Branch.mk (fun h => ?_) (fun h => ?_)
            | (refine Side.mk ?_ ?_; · first | omega | decide)
            | (refine SideD.mk ?_ ?_; · first | omega | decide)
            | refine ⟨_, Nat.lt_succ_self _, To.refl (.inl ⟨rfl, ?_⟩)⟩
            | refine CallA.pure h13 rfl rfl ?_
            | refine QCallA.of h15 rfl rfl ?_
            | refine ⟨_, hgh, ?_⟩
            | refine ⟨_, hgs, ?_⟩
            | refine ⟨_, hgr, ?_⟩
            | refine ⟨_, mset_i _ _ _, ?_⟩
            | (refine Side.mk ?_ ?_; · (simp; done))
            | fail
            )
        all_goals (conv => whnf)
        refine ⟨3 - 3, by omega, To.gc [(0, false), (1, true), (2, true), (3, true), (4, true), (5, true)] [0, 2, 15, 16] rfl ⟨trivial, trivial, trivial, hp, hq, trivial⟩ ⟨3, by omega, rfl, rfl, by rw [hn, show note c C = ⟨iput c.e (mx q3 c.rel) C.rel, iput c.e c.h C.held, C.start⟩ by simp [note, hh, e2, e3]]; rfl⟩⟩
  · generalize Bs a b c B 3 = C at hg ⊢
    repeat' ((conv => whnf); first
        | refine Branch.ofT rfl ?_
        | refine Branch.ofF rfl ?_
        | refine Branch.dec (fun h => ?_) (fun h => ?_)
        | refine Branch.negdec (fun h => ?_) (fun h => ?_)
        | refine Branch.neg (fun h => ?_) (fun h => ?_)
        | refine Branch.mk (fun h => ?_) (fun h => ?_)
        | (refine Side.mk ?_ ?_; · first | omega | decide)
        | (refine SideD.mk ?_ ?_; · first | omega | decide)
        | refine ⟨_, Nat.lt_succ_self _, To.refl (.inl ⟨rfl, ?_⟩)⟩
        | (refine Side.mk ?_ ?_; · (simp; done))
        | fail
        )
    all_goals (conv => whnf)
    refine ⟨K1 (Ww a b c (Xw u0 u1 u2 (pS true np) (gS false ng) f)) (sB true pc) (sB false gc) C.rel C.held C.start, (imap C.held).length, To.gc [(0, false), (1, true), (2, true), (3, true), (4, true), (5, true), (6, false)] [0, 2, 91] rfl ⟨trivial, trivial, trivial, hp, hq, trivial⟩ ⟨_, none, rfl, ⟨C.held, rfl, fun _ h => h⟩, rfl, rfl⟩, ?_⟩
    rintro m fr H ⟨left, cur, rfl, hsub, rfl, rfl⟩
    (conv => whnf)
    refine ⟨fun h => ?_, fun l1 x y l2 h => ?_⟩
    · repeat' ((conv => whnf); first
          | refine Branch.ofT rfl ?_
          | refine Branch.ofF rfl ?_
          | refine Branch.dec (fun h => ?_) (fun h => ?_)
          | refine Branch.negdec (fun h => ?_) (fun h => ?_)
          | refine Branch.neg (fun h => ?_) (fun h => ?_)
          | refine Branch.mk (fun h => ?_) (fun h => ?_)
          | (refine Side.mk ?_ ?_; · first | omega | decide)
          | (refine SideD.mk ?_ ?_; · first | omega | decide)
          | refine ⟨_, Nat.lt_succ_self _, To.refl (.inl ⟨rfl, ?_⟩)⟩
          | (refine Side.mk ?_ ?_; · (simp; done))
          | fail
          )
      all_goals (conv => whnf)
      exact RetA.gc [(0, false), (1, true), (2, true), (3, true), (4, true), (5, true)] rfl ⟨trivial, trivial, trivial, hp, hq, trivial⟩ ⟨rfl, rfl⟩
    · subst h
      obtain ⟨e, n, rfl, rfl, hmem, hsub'⟩ := hsub.step
      obtain ⟨s, hget, hle⟩ := hg e n hmem
      repeat' ((conv => whnf); first
          | refine Branch.ofT rfl ?_
          | refine Branch.ofF rfl ?_
          | refine Branch.dec (fun h => ?_) (fun h => ?_)
          | refine Branch.negdec (fun h => ?_) (fun h => ?_)
          | refine Branch.neg (fun h => ?_) (fun h => ?_)
          | refine Branch.mk (fun h => ?_) (fun h => ?_)
          | (refine Side.mk ?_ ?_; · first | omega | decide)
          | (refine SideD.mk ?_ ?_; · first | omega | decide)
          | refine ⟨_, Nat.lt_succ_self _, To.refl (.inl ⟨rfl, ?_⟩)⟩
          | (refine Side.mk ?_ ?_; · (simp; done))
          | fail
          )
      all_goals (conv => whnf)
      refine ⟨K2 (Ww a b c (Xw u0 u1 u2 (pS true np) (gS false ng) f)) (sB true pc) (sB false gc) C.rel C.held C.start (l1 ++ l2) (some (I e, I n)) e, (imap C.rel).length, To.gc [(0, false), (1, true), (2, true), (3, true), (4, true), (5, true), (6, false), (7, false)] [0, 2, 9, 91, 100] rfl ⟨trivial, trivial, trivial, hp, hq, trivial⟩ ⟨_, none, rfl, ⟨C.rel, rfl, fun _ h => h⟩, rfl, rfl⟩, ?_⟩
      rintro m fr H ⟨left2, cur2, rfl, hsub2, rfl, rfl⟩
      (conv => whnf)
      refine ⟨fun h2 => ?_, fun k1 x2 y2 k2 h2 => ?_⟩
      · repeat' ((conv => whnf); first
            | refine Branch.ofT rfl ?_
            | refine Branch.ofF rfl ?_
            | refine Branch.dec (fun h => ?_) (fun h => ?_)
            | refine Branch.negdec (fun h => ?_) (fun h => ?_)
            | refine Branch.neg (fun h => ?_) (fun h => ?_)
            | refine Branch.mk (fun h => ?_) (fun h => ?_)
            | (refine Side.mk ?_ ?_; · first | omega | decide)
            | (refine SideD.mk ?_ ?_; · first | omega | decide)
            | refine ⟨_, Nat.lt_succ_self _, To.refl (.inl ⟨rfl, ?_⟩)⟩
            | (refine Side.mk ?_ ?_; · (simp; done))
            | fail
            )
        all_goals (conv => whnf)
        refine ⟨(l1 ++ l2).length, by simp, To.gc [(0, false), (1, true), (2, true), (3, true), (4, true), (5, true), (6, false)] [0, 2, 91] rfl ⟨trivial, trivial, trivial, hp, hq, trivial⟩ ⟨_, _, rfl, hsub', rfl, rfl⟩⟩
      · subst h2
        obtain ⟨e2, n2, rfl, rfl, hmem2, hsub2'⟩ := hsub2.step
        have hle2 := hle e2 n2 hmem2
        repeat' ((conv => whnf); first
            | refine Branch.ofT rfl ?_
            | refine Branch.ofF rfl ?_
            | refine Branch.ofF (decide_eq_false (by have := hle2 (by assumption); omega)) ?_
            | refine Branch.dec (fun h => ?_) (fun h => ?_)
            | refine Branch.negdec (fun h => ?_) (fun h => ?_)
            | refine Branch.neg (fun h => ?_) (fun h => ?_)
            | refine Branch.mk (fun h => ?_) (fun h => ?_)
            | (refine Side.mk ?_ ?_; · first | omega | decide)
            | (refine SideD.mk ?_ ?_; · first | omega | decide)
            | refine ⟨_, Nat.lt_succ_self _, To.refl (.inl ⟨rfl, ?_⟩)⟩
            | refine ⟨_, hget, ?_⟩
            | (refine Side.mk ?_ ?_; · (simp; done))
            | fail
            )
        all_goals (conv => whnf)
        all_goals (refine ⟨(k1 ++ k2).length, by simp, To.gc [(0, false), (1, true), (2, true), (3, true), (4, true), (5, true), (6, false), (7, false)] [0, 2, 9, 91, 100] rfl ⟨trivial, trivial, trivial, hp, hq, trivial⟩ ⟨_, _, rfl, hsub2', rfl, rfl⟩⟩)
theorem c29_t_t (a b c : Hol) (u0 u1 u2 : List Kep) (f : Int) (np ng : Nat) (pc gc : List AV) (hpc : ∀ x ∈ pc, noLoc x = true) (hgc : ∀ x ∈ gc, noLoc x = true) (B : Bk) (fa : fine a B) (fb : fine b (note a B)) (fc : fine c (note b (note a B)))
  (hg : ∀ e h, (e, h) ∈ (Bs a b c B 3).held → ∃ s, mfind (.c (.i .i64)) (I e) (imap (Bs a b c B 3).start) = some (some (I s)) ∧ ∀ e' n, (e', n) ∈ (Bs a b c B 3).rel → e' < e → n ≤ s) :
  CallA Try.prog 29 [.ptr 0 0] ⟨6, [(0, .cells (Ww a b c (Xw u0 u1 u2 (pS true np) (gS true ng) f))), (1, .map (imap B.rel)), (2, .map (imap B.held)), (3, .map (imap B.start)), (4, sB true pc), (5, sB true gc)]⟩ fun v H' => v = .bool true ∧ H' = ⟨6, [(0, .cells (Ww a b c (Xw u0 u1 u2 (pS true np) (gS true ng) f))), (1, .map (imap (Bs a b c B 3).rel)), (2, .map (imap (Bs a b c B 3).held)), (3, .map (imap (Bs a b c B 3).start)), (4, sB true pc), (5, sB true gc)]⟩ := by
  have hp : dataB (sB true pc) := by first | exact hpc | trivial
  have hq : dataB (sB true gc) := by first | exact hgc | trivial
  refine callA_of ok29 (Nat.le_of_ble_eq_true rfl) ?_
  (conv => whnf)
  refine ⟨KH a b c (Xw u0 u1 u2 (pS true np) (gS true ng) f) (sB true pc) (sB true gc) (Bs a b c B), 3, To.gc [(0, false), (1, true), (2, true), (3, true), (4, true), (5, true)] [0, 2, 15, 16] rfl ⟨trivial, trivial, trivial, hp, hq, trivial⟩ ⟨0, by omega, rfl, rfl, rfl⟩, ?_⟩
  rintro m fr H ⟨i, hi, rfl, rfl, rfl⟩
  rcases (show i = 0 ∨ i = 1 ∨ i = 2 ∨ i = 3 by omega) with rfl | rfl | rfl | rfl
  · have h13 := c13 a
    have h15 := c15 a
    have hn : Bs a b c B 1 = note a (Bs a b c B 0) := rfl
    have fx : fine a (Bs a b c B 0) := fa
    generalize Bs a b c B 0 = C at hn fx
    (conv => whnf)
    cases hh : a.holds with
    | false =>
      rw [hh] at h13
      rw [show a.rel = 0 by simp [Hol.rel, hh]] at h15
      repeat' ((conv => whnf); first
          | refine Branch.ofT rfl ?_
          | refine Branch.ofF rfl ?_
          | refine Branch.dec (fun h => ?_) (fun h => ?_)
          | refine Branch.negdec (fun h => ?_) (fun h => ?_)
          | refine Branch.neg (fun h => ?_) (fun h => ?_)
          | refine Branch.mk (fun h => ?_) (fun h => ?_)
          | (refine Side.mk ?_ ?_; · first | omega | decide)
          | (refine SideD.mk ?_ ?_; · first | omega | decide)
          | refine ⟨_, Nat.lt_succ_self _, To.refl (.inl ⟨rfl, ?_⟩)⟩
          | refine CallA.pure h13 rfl rfl ?_
          | refine CallA.pure h15 rfl rfl ?_
          | (refine Side.mk ?_ ?_; · (simp; done))
          | fail
          )
      all_goals (conv => whnf)
      refine ⟨3 - 1, by omega, To.gc [(0, false), (1, true), (2, true), (3, true), (4, true), (5, true)] [0, 2, 15, 16] rfl ⟨trivial, trivial, trivial, hp, hq, trivial⟩ ⟨1, by omega, rfl, rfl, by rw [hn, show note a C = C by simp [note, hh]]; rfl⟩⟩
    | true =>
      rw [hh] at h13
      have hgh := mget_i a.e C.held
      have hgs := mget_i a.e C.start
      have hgr := mget_i a.e C.rel
      have who : iget a.e C.held = none ∨ iget a.e C.held = some a.h := by
        cases e1 : iget a.e C.held with
        | none => exact .inl rfl
        | some q => exact .inr (by rw [fx hh q e1])
      rcases who with e1 | e1 <;> rcases e2 : iget a.e C.start with _ | q2 <;> rcases e3 : iget a.e C.rel with _ | q3 <;> rw [e1] at hgh <;> rw [e2] at hgs <;> rw [e3] at hgr
      · repeat' ((conv => whnf); first
            | refine Branch.ofT rfl ?_
            | refine Branch.ofF rfl ?_
            | refine Branch.ofF (by simp; done) ?_
            | refine Branch.dec (fun h => ?_) (fun h => ?_)
            | refine Branch.negdec (fun h => ?_) (fun h => ?_)
            | refine Branch.neg (fun h => ?_) (fun h => ?_)
            | refine Branch.mk (fun h => ?_) (fun h => ?_)
            | (refine Side.mk ?_ ?_; · first | omega | decide)
            | (refine SideD.mk ?_ ?_; · first | omega | decide)
            | refine ⟨_, Nat.lt_succ_self _, To.refl (.inl ⟨rfl, ?_⟩)⟩
            | refine CallA.pure h13 rfl rfl ?_
            | refine QCallA.of h15 rfl rfl ?_
            | refine ⟨_, hgh, ?_⟩
            | refine ⟨_, hgs, ?_⟩
            | refine ⟨_, hgr, ?_⟩
            | refine ⟨_, mset_i _ _ _, ?_⟩
            | (refine Side.mk ?_ ?_; · (simp; done))
            | fail
            )
        all_goals (conv => whnf)
        refine ⟨3 - 1, by omega, To.gc [(0, false), (1, true), (2, true), (3, true), (4, true), (5, true)] [0, 2, 15, 16] rfl ⟨trivial, trivial, trivial, hp, hq, trivial⟩ ⟨1, by omega, rfl, rfl, by rw [hn, show note a C = ⟨iput a.e (mx 0 a.rel) C.rel, iput a.e a.h C.held, iput a.e a.s C.start⟩ by simp [note, hh, e2, e3]]; rfl⟩⟩
      · repeat' ((conv => whnf); first
            | refine Branch.ofT rfl ?_
            | refine Branch.ofF rfl ?_
            | refine Branch.ofF (by simp; done) ?_
            | refine Branch.dec (fun h => ?_) (fun h => ?_)
            | refine Branch.negdec (fun h => ?_) (fun h => ?_)
            | refine Branch.neg (fun h => ?_) (fun h => ?_)
            | refine Branch.mk (fun h => ?_) (fun h => ?_)
            | (refine Side.mk ?_ ?_; · first | omega | decide)
            | (refine SideD.mk ?_ ?_; · first | omega | decide)
            | refine ⟨_, Nat.lt_succ_self _, To.refl (.inl ⟨rfl, ?_⟩)⟩
            | refine CallA.pure h13 rfl rfl ?_
            | refine QCallA.of h15 rfl rfl ?_
            | refine ⟨_, hgh, ?_⟩
            | refine ⟨_, hgs, ?_⟩
            | refine ⟨_, hgr, ?_⟩
            | refine ⟨_, mset_i _ _ _, ?_⟩
            | (refine Side.mk ?_ ?_; · (simp; done))
            | fail
            )
        all_goals (conv => whnf)
        refine ⟨3 - 1, by omega, To.gc [(0, false), (1, true), (2, true), (3, true), (4, true), (5, true)] [0, 2, 15, 16] rfl ⟨trivial, trivial, trivial, hp, hq, trivial⟩ ⟨1, by omega, rfl, rfl, by rw [hn, show note a C = ⟨iput a.e (mx q3 a.rel) C.rel, iput a.e a.h C.held, iput a.e a.s C.start⟩ by simp [note, hh, e2, e3]]; rfl⟩⟩
      · repeat' ((conv => whnf); first
            | refine Branch.ofT rfl ?_
            | refine Branch.ofF rfl ?_
            | refine Branch.ofF (by simp; done) ?_
            | refine Branch.dec (fun h => ?_) (fun h => ?_)
            | refine Branch.negdec (fun h => ?_) (fun h => ?_)
            | refine Branch.neg (fun h => ?_) (fun h => ?_)
            | refine Branch.mk (fun h => ?_) (fun h => ?_)
            | (refine Side.mk ?_ ?_; · first | omega | decide)
            | (refine SideD.mk ?_ ?_; · first | omega | decide)
            | refine ⟨_, Nat.lt_succ_self _, To.refl (.inl ⟨rfl, ?_⟩)⟩
            | refine CallA.pure h13 rfl rfl ?_
            | refine QCallA.of h15 rfl rfl ?_
            | refine ⟨_, hgh, ?_⟩
            | refine ⟨_, hgs, ?_⟩
            | refine ⟨_, hgr, ?_⟩
            | refine ⟨_, mset_i _ _ _, ?_⟩
            | (refine Side.mk ?_ ?_; · (simp; done))
            | fail
            )
        all_goals (conv => whnf)
        refine ⟨3 - 1, by omega, To.gc [(0, false), (1, true), (2, true), (3, true), (4, true), (5, true)] [0, 2, 15, 16] rfl ⟨trivial, trivial, trivial, hp, hq, trivial⟩ ⟨1, by omega, rfl, rfl, by rw [hn, show note a C = ⟨iput a.e (mx 0 a.rel) C.rel, iput a.e a.h C.held, C.start⟩ by simp [note, hh, e2, e3]]; rfl⟩⟩
      · repeat' ((conv => whnf); first
            | refine Branch.ofT rfl ?_
            | refine Branch.ofF rfl ?_
            | refine Branch.ofF (by simp; done) ?_
            | refine Branch.dec (fun h => ?_) (fun h => ?_)
            | refine Branch.negdec (fun h => ?_) (fun h => ?_)
            | refine Branch.neg (fun h => ?_) (fun h => ?_)
            | refine Branch.mk (fun h => ?_) (fun h => ?_)
            | (refine Side.mk ?_ ?_; · first | omega | decide)
            | (refine SideD.mk ?_ ?_; · first | omega | decide)
            | refine ⟨_, Nat.lt_succ_self _, To.refl (.inl ⟨rfl, ?_⟩)⟩
            | refine CallA.pure h13 rfl rfl ?_
            | refine QCallA.of h15 rfl rfl ?_
            | refine ⟨_, hgh, ?_⟩
            | refine ⟨_, hgs, ?_⟩
            | refine ⟨_, hgr, ?_⟩
            | refine ⟨_, mset_i _ _ _, ?_⟩
            | (refine Side.mk ?_ ?_; · (simp; done))
            | fail
            )
        all_goals (conv => whnf)
        refine ⟨3 - 1, by omega, To.gc [(0, false), (1, true), (2, true), (3, true), (4, true), (5, true)] [0, 2, 15, 16] rfl ⟨trivial, trivial, trivial, hp, hq, trivial⟩ ⟨1, by omega, rfl, rfl, by rw [hn, show note a C = ⟨iput a.e (mx q3 a.rel) C.rel, iput a.e a.h C.held, C.start⟩ by simp [note, hh, e2, e3]]; rfl⟩⟩
      · repeat' ((conv => whnf); first
            | refine Branch.ofT rfl ?_
            | refine Branch.ofF rfl ?_
            | refine Branch.ofF (by simp; done) ?_
            | refine Branch.dec (fun h => ?_) (fun h => ?_)
            | refine Branch.negdec (fun h => ?_) (fun h => ?_)
            | refine Branch.neg (fun h => ?_) (fun h => ?_)
            | refine Branch.mk (fun h => ?_) (fun h => ?_)
            | (refine Side.mk ?_ ?_; · first | omega | decide)
            | (refine SideD.mk ?_ ?_; · first | omega | decide)
            | refine ⟨_, Nat.lt_succ_self _, To.refl (.inl ⟨rfl, ?_⟩)⟩
            | refine CallA.pure h13 rfl rfl ?_
            | refine QCallA.of h15 rfl rfl ?_
            | refine ⟨_, hgh, ?_⟩
            | refine ⟨_, hgs, ?_⟩
            | refine ⟨_, hgr, ?_⟩
            | refine ⟨_, mset_i _ _ _, ?_⟩
            | (refine Side.mk ?_ ?_; · (simp; done))
            | fail
            )
        all_goals (conv => whnf)
        refine ⟨3 - 1, by omega, To.gc [(0, false), (1, true), (2, true), (3, true), (4, true), (5, true)] [0, 2, 15, 16] rfl ⟨trivial, trivial, trivial, hp, hq, trivial⟩ ⟨1, by omega, rfl, rfl, by rw [hn, show note a C = ⟨iput a.e (mx 0 a.rel) C.rel, iput a.e a.h C.held, iput a.e a.s C.start⟩ by simp [note, hh, e2, e3]]; rfl⟩⟩
      · repeat' ((conv => whnf); first
            | refine Branch.ofT rfl ?_
            | refine Branch.ofF rfl ?_
            | refine Branch.ofF (by simp; done) ?_
            | refine Branch.dec (fun h => ?_) (fun h => ?_)
            | refine Branch.negdec (fun h => ?_) (fun h => ?_)
            | refine Branch.neg (fun h => ?_) (fun h => ?_)
            | refine Branch.mk (fun h => ?_) (fun h => ?_)
            | (refine Side.mk ?_ ?_; · first | omega | decide)
            | (refine SideD.mk ?_ ?_; · first | omega | decide)
            | refine ⟨_, Nat.lt_succ_self _, To.refl (.inl ⟨rfl, ?_⟩)⟩
            | refine CallA.pure h13 rfl rfl ?_
            | refine QCallA.of h15 rfl rfl ?_
            | refine ⟨_, hgh, ?_⟩
            | refine ⟨_, hgs, ?_⟩
            | refine ⟨_, hgr, ?_⟩
            | refine ⟨_, mset_i _ _ _, ?_⟩
            | (refine Side.mk ?_ ?_; · (simp; done))
            | fail
            )
        all_goals (conv => whnf)
        refine ⟨3 - 1, by omega, To.gc [(0, false), (1, true), (2, true), (3, true), (4, true), (5, true)] [0, 2, 15, 16] rfl ⟨trivial, trivial, trivial, hp, hq, trivial⟩ ⟨1, by omega, rfl, rfl, by rw [hn, show note a C = ⟨iput a.e (mx q3 a.rel) C.rel, iput a.e a.h C.held, iput a.e a.s C.start⟩ by simp [note, hh, e2, e3]]; rfl⟩⟩
      · repeat' ((conv => whnf); first
            | refine Branch.ofT rfl ?_
            | refine Branch.ofF rfl ?_
            | refine Branch.ofF (by simp; done) ?_
            | refine Branch.dec (fun h => ?_) (fun h => ?_)
            | refine Branch.negdec (fun h => ?_) (fun h => ?_)
            | refine Branch.neg (fun h => ?_) (fun h => ?_)
            | refine Branch.mk (fun h => ?_) (fun h => ?_)
            | (refine Side.mk ?_ ?_; · first | omega | decide)
            | (refine SideD.mk ?_ ?_; · first | omega | decide)
            | refine ⟨_, Nat.lt_succ_self _, To.refl (.inl ⟨rfl, ?_⟩)⟩
            | refine CallA.pure h13 rfl rfl ?_
            | refine QCallA.of h15 rfl rfl ?_
            | refine ⟨_, hgh, ?_⟩
            | refine ⟨_, hgs, ?_⟩
            | refine ⟨_, hgr, ?_⟩
            | refine ⟨_, mset_i _ _ _, ?_⟩
            | (refine Side.mk ?_ ?_; · (simp; done))
            | fail
            )
        all_goals (conv => whnf)
        refine ⟨3 - 1, by omega, To.gc [(0, false), (1, true), (2, true), (3, true), (4, true), (5, true)] [0, 2, 15, 16] rfl ⟨trivial, trivial, trivial, hp, hq, trivial⟩ ⟨1, by omega, rfl, rfl, by rw [hn, show note a C = ⟨iput a.e (mx 0 a.rel) C.rel, iput a.e a.h C.held, C.start⟩ by simp [note, hh, e2, e3]]; rfl⟩⟩
      · repeat' ((conv => whnf); first
            | refine Branch.ofT rfl ?_
            | refine Branch.ofF rfl ?_
            | refine Branch.ofF (by simp; done) ?_
            | refine Branch.dec (fun h => ?_) (fun h => ?_)
            | refine Branch.negdec (fun h => ?_) (fun h => ?_)
            | refine Branch.neg (fun h => ?_) (fun h => ?_)
            | refine Branch.mk (fun h => ?_) (fun h => ?_)
            | (refine Side.mk ?_ ?_; · first | omega | decide)
            | (refine SideD.mk ?_ ?_; · first | omega | decide)
            | refine ⟨_, Nat.lt_succ_self _, To.refl (.inl ⟨rfl, ?_⟩)⟩
            | refine CallA.pure h13 rfl rfl ?_
            | refine QCallA.of h15 rfl rfl ?_
            | refine ⟨_, hgh, ?_⟩
            | refine ⟨_, hgs, ?_⟩
            | refine ⟨_, hgr, ?_⟩
            | refine ⟨_, mset_i _ _ _, ?_⟩
            | (refine Side.mk ?_ ?_; · (simp; done))
            | fail
            )
        all_goals (conv => whnf)
        refine ⟨3 - 1, by omega, To.gc [(0, false), (1, true), (2, true), (3, true), (4, true), (5, true)] [0, 2, 15, 16] rfl ⟨trivial, trivial, trivial, hp, hq, trivial⟩ ⟨1, by omega, rfl, rfl, by rw [hn, show note a C = ⟨iput a.e (mx q3 a.rel) C.rel, iput a.e a.h C.held, C.start⟩ by simp [note, hh, e2, e3]]; rfl⟩⟩
  · have h13 := c13 b
    have h15 := c15 b
    have hn : Bs a b c B 2 = note b (Bs a b c B 1) := rfl
    have fx : fine b (Bs a b c B 1) := fb
    generalize Bs a b c B 1 = C at hn fx
    (conv => whnf)
    cases hh : b.holds with
    | false =>
      rw [hh] at h13
      rw [show b.rel = 0 by simp [Hol.rel, hh]] at h15
      repeat' ((conv => whnf); first
          | refine Branch.ofT rfl ?_
          | refine Branch.ofF rfl ?_
          | refine Branch.dec (fun h => ?_) (fun h => ?_)
          | refine Branch.negdec (fun h => ?_) (fun h => ?_)
          | refine Branch.neg (fun h => ?_) (fun h => ?_)
          | refine Branch.mk (fun h => ?_) (fun h => ?_)
          | (refine Side.mk ?_ ?_; · first | omega | decide)
          | (refine SideD.mk ?_ ?_; · first | omega | decide)
          | refine ⟨_, Nat.lt_succ_self _, To.refl (.inl ⟨rfl, ?_⟩)⟩
          | refine CallA.pure h13 rfl rfl ?_
          | refine CallA.pure h15 rfl rfl ?_
          | (refine Side.mk ?_ ?_; · (simp; done))
          | fail
          )
      all_goals (conv => whnf)
      refine ⟨3 - 2, by omega, To.gc [(0, false), (1, true), (2, true), (3, true), (4, true), (5, true)] [0, 2, 15, 16] rfl ⟨trivial, trivial, trivial, hp, hq, trivial⟩ ⟨2, by omega, rfl, rfl, by rw [hn, show note b C = C by simp [note, hh]]; rfl⟩⟩
    | true =>
      rw [hh] at h13
      have hgh := mget_i b.e C.held
      have hgs := mget_i b.e C.start
      have hgr := mget_i b.e C.rel
      have who : iget b.e C.held = none ∨ iget b.e C.held = some b.h := by
        cases e1 : iget b.e C.held with
        | none => exact .inl rfl
        | some q => exact .inr (by rw [fx hh q e1])
      rcases who with e1 | e1 <;> rcases e2 : iget b.e C.start with _ | q2 <;> rcases e3 : iget b.e C.rel with _ | q3 <;> rw [e1] at hgh <;> rw [e2] at hgs <;> rw [e3] at hgr
      · repeat' ((conv => whnf); first
            | refine Branch.ofT rfl ?_
            | refine Branch.ofF rfl ?_
            | refine Branch.ofF (by simp; done) ?_
            | refine Branch.dec (fun h => ?_) (fun h => ?_)
            | refine Branch.negdec (fun h => ?_) (fun h => ?_)
            | refine Branch.neg (fun h => ?_) (fun h => ?_)
            | refine Branch.mk (fun h => ?_) (fun h => ?_)
            | (refine Side.mk ?_ ?_; · first | omega | decide)
            | (refine SideD.mk ?_ ?_; · first | omega | decide)
            | refine ⟨_, Nat.lt_succ_self _, To.refl (.inl ⟨rfl, ?_⟩)⟩
            | refine CallA.pure h13 rfl rfl ?_
            | refine QCallA.of h15 rfl rfl ?_
            | refine ⟨_, hgh, ?_⟩
            | refine ⟨_, hgs, ?_⟩
            | refine ⟨_, hgr, ?_⟩
            | refine ⟨_, mset_i _ _ _, ?_⟩
            | (refine Side.mk ?_ ?_; · (simp; done))
            | fail
            )
        all_goals (conv => whnf)
        refine ⟨3 - 2, by omega, To.gc [(0, false), (1, true), (2, true), (3, true), (4, true), (5, true)] [0, 2, 15, 16] rfl ⟨trivial, trivial, trivial, hp, hq, trivial⟩ ⟨2, by omega, rfl, rfl, by rw [hn, show note b C = ⟨iput b.e (mx 0 b.rel) C.rel, iput b.e b.h C.held, iput b.e b.s C.start⟩ by simp [note, hh, e2, e3]]; rfl⟩⟩
      · repeat' ((conv => whnf); first
            | refine Branch.ofT rfl ?_
            | refine Branch.ofF rfl ?_
            | refine Branch.ofF (by simp; done) ?_
            | refine Branch.dec (fun h => ?_) (fun h => ?_)
            | refine Branch.negdec (fun h => ?_) (fun h => ?_)
            | refine Branch.neg (fun h => ?_) (fun h => ?_)
            | refine Branch.mk (fun h => ?_) (fun h => ?_)
            | (refine Side.mk ?_ ?_; · first | omega | decide)
            | (refine SideD.mk ?_ ?_; · first | omega | decide)
            | refine ⟨_, Nat.lt_succ_self _, To.refl (.inl ⟨rfl, ?_⟩)⟩
            | refine CallA.pure h13 rfl rfl ?_
            | refine QCallA.of h15 rfl rfl ?_
            | refine ⟨_, hgh, ?_⟩
            | refine ⟨_, hgs, ?_⟩
            | refine ⟨_, hgr, ?_⟩
            | refine ⟨_, mset_i _ _ _, ?_⟩
            | (refine Side.mk ?_ ?_; · (simp; done))
            | fail
            )
        all_goals (conv => whnf)
        refine ⟨3 - 2, by omega, To.gc [(0, false), (1, true), (2, true), (3, true), (4, true), (5, true)] [0, 2, 15, 16] rfl ⟨trivial, trivial, trivial, hp, hq, trivial⟩ ⟨2, by omega, rfl, rfl, by rw [hn, show note b C = ⟨iput b.e (mx q3 b.rel) C.rel, iput b.e b.h C.held, iput b.e b.s C.start⟩ by simp [note, hh, e2, e3]]; rfl⟩⟩
      · repeat' ((conv => whnf); first
            | refine Branch.ofT rfl ?_
            | refine Branch.ofF rfl ?_
            | refine Branch.ofF (by simp; done) ?_
            | refine Branch.dec (fun h => ?_) (fun h => ?_)
            | refine Branch.negdec (fun h => ?_) (fun h => ?_)
            | refine Branch.neg (fun h => ?_) (fun h => ?_)
            | refine Branch.mk (fun h => ?_) (fun h => ?_)
            | (refine Side.mk ?_ ?_; · first | omega | decide)
            | (refine SideD.mk ?_ ?_; · first | omega | decide)
            | refine ⟨_, Nat.lt_succ_self _, To.refl (.inl ⟨rfl, ?_⟩)⟩
            | refine CallA.pure h13 rfl rfl ?_
            | refine QCallA.of h15 rfl rfl ?_
            | refine ⟨_, hgh, ?_⟩
            | refine ⟨_, hgs, ?_⟩
            | refine ⟨_, hgr, ?_⟩
            | refine ⟨_, mset_i _ _ _, ?_⟩
            | (refine Side.mk ?_ ?_; · (simp; done))
            | fail
            )
        all_goals (conv => whnf)
        refine ⟨3 - 2, by omega, To.gc [(0, false), (1, true), (2, true), (3, true), (4, true), (5, true)] [0, 2, 15, 16] rfl ⟨trivial, trivial, trivial, hp, hq, trivial⟩ ⟨2, by omega, rfl, rfl, by rw [hn, show note b C = ⟨iput b.e (mx 0 b.rel) C.rel, iput b.e b.h C.held, C.start⟩ by simp [note, hh, e2, e3]]; rfl⟩⟩
      · repeat' ((conv => whnf); first
            | refine Branch.ofT rfl ?_
            | refine Branch.ofF rfl ?_
            | refine Branch.ofF (by simp; done) ?_
            | refine Branch.dec (fun h => ?_) (fun h => ?_)
            | refine Branch.negdec (fun h => ?_) (fun h => ?_)
            | refine Branch.neg (fun h => ?_) (fun h => ?_)
            | refine Branch.mk (fun h => ?_) (fun h => ?_)
            | (refine Side.mk ?_ ?_; · first | omega | decide)
            | (refine SideD.mk ?_ ?_; · first | omega | decide)
            | refine ⟨_, Nat.lt_succ_self _, To.refl (.inl ⟨rfl, ?_⟩)⟩
            | refine CallA.pure h13 rfl rfl ?_
            | refine QCallA.of h15 rfl rfl ?_
            | refine ⟨_, hgh, ?_⟩
            | refine ⟨_, hgs, ?_⟩
            | refine ⟨_, hgr, ?_⟩
            | refine ⟨_, mset_i _ _ _, ?_⟩
            | (refine Side.mk ?_ ?_; · (simp; done))
            | fail
            )
        all_goals (conv => whnf)
        refine ⟨3 - 2, by omega, To.gc [(0, false), (1, true), (2, true), (3, true), (4, true), (5, true)] [0, 2, 15, 16] rfl ⟨trivial, trivial, trivial, hp, hq, trivial⟩ ⟨2, by omega, rfl, rfl, by rw [hn, show note b C = ⟨iput b.e (mx q3 b.rel) C.rel, iput b.e b.h C.held, C.start⟩ by simp [note, hh, e2, e3]]; rfl⟩⟩
      · repeat' ((conv => whnf); first
            | refine Branch.ofT rfl ?_
            | refine Branch.ofF rfl ?_
            | refine Branch.ofF (by simp; done) ?_
            | refine Branch.dec (fun h => ?_) (fun h => ?_)
            | refine Branch.negdec (fun h => ?_) (fun h => ?_)
            | refine Branch.neg (fun h => ?_) (fun h => ?_)
            | refine Branch.mk (fun h => ?_) (fun h => ?_)
            | (refine Side.mk ?_ ?_; · first | omega | decide)
            | (refine SideD.mk ?_ ?_; · first | omega | decide)
            | refine ⟨_, Nat.lt_succ_self _, To.refl (.inl ⟨rfl, ?_⟩)⟩
            | refine CallA.pure h13 rfl rfl ?_
            | refine QCallA.of h15 rfl rfl ?_
            | refine ⟨_, hgh, ?_⟩
            | refine ⟨_, hgs, ?_⟩
            | refine ⟨_, hgr, ?_⟩
            | refine ⟨_, mset_i _ _ _, ?_⟩
            | (refine Side.mk ?_ ?_; · (simp; done))
            | fail
            )
        all_goals (conv => whnf)
        refine ⟨3 - 2, by omega, To.gc [(0, false), (1, true), (2, true), (3, true), (4, true), (5, true)] [0, 2, 15, 16] rfl ⟨trivial, trivial, trivial, hp, hq, trivial⟩ ⟨2, by omega, rfl, rfl, by rw [hn, show note b C = ⟨iput b.e (mx 0 b.rel) C.rel, iput b.e b.h C.held, iput b.e b.s C.start⟩ by simp [note, hh, e2, e3]]; rfl⟩⟩
      · repeat' ((conv => whnf); first
            | refine Branch.ofT rfl ?_
            | refine Branch.ofF rfl ?_
            | refine Branch.ofF (by simp; done) ?_
            | refine Branch.dec (fun h => ?_) (fun h => ?_)
            | refine Branch.negdec (fun h => ?_) (fun h => ?_)
            | refine Branch.neg (fun h => ?_) (fun h => ?_)
            | refine Branch.mk (fun h => ?_) (fun h => ?_)
            | (refine Side.mk ?_ ?_; · first | omega | decide)
            | (refine SideD.mk ?_ ?_; · first | omega | decide)
            | refine ⟨_, Nat.lt_succ_self _, To.refl (.inl ⟨rfl, ?_⟩)⟩
            | refine CallA.pure h13 rfl rfl ?_
            | refine QCallA.of h15 rfl rfl ?_
            | refine ⟨_, hgh, ?_⟩
            | refine ⟨_, hgs, ?_⟩
            | refine ⟨_, hgr, ?_⟩
            | refine ⟨_, mset_i _ _ _, ?_⟩
            | (refine Side.mk ?_ ?_; · (simp; done))
            | fail
            )
        all_goals (conv => whnf)
        refine ⟨3 - 2, by omega, To.gc [(0, false), (1, true), (2, true), (3, true), (4, true), (5, true)] [0, 2, 15, 16] rfl ⟨trivial, trivial, trivial, hp, hq, trivial⟩ ⟨2, by omega, rfl, rfl, by rw [hn, show note b C = ⟨iput b.e (mx q3 b.rel) C.rel, iput b.e b.h C.held, iput b.e b.s C.start⟩ by simp [note, hh, e2, e3]]; rfl⟩⟩
      · repeat' ((conv => whnf); first
            | refine Branch.ofT rfl ?_
            | refine Branch.ofF rfl ?_
            | refine Branch.ofF (by simp; done) ?_
            | refine Branch.dec (fun h => ?_) (fun h => ?_)
            | refine Branch.negdec (fun h => ?_) (fun h => ?_)
            | refine Branch.neg (fun h => ?_) (fun h => ?_)
            | refine Branch.mk (fun h => ?_) (fun h => ?_)
            | (refine Side.mk ?_ ?_; · first | omega | decide)
            | (refine SideD.mk ?_ ?_; · first | omega | decide)
            | refine ⟨_, Nat.lt_succ_self _, To.refl (.inl ⟨rfl, ?_⟩)⟩
            | refine CallA.pure h13 rfl rfl ?_
            | refine QCallA.of h15 rfl rfl ?_
            | refine ⟨_, hgh, ?_⟩
            | refine ⟨_, hgs, ?_⟩
            | refine ⟨_, hgr, ?_⟩
            | refine ⟨_, mset_i _ _ _, ?_⟩
            | (refine Side.mk ?_ ?_; · (simp; done))
            | fail
            )
        all_goals (conv => whnf)
        refine ⟨3 - 2, by omega, To.gc [(0, false), (1, true), (2, true), (3, true), (4, true), (5, true)] [0, 2, 15, 16] rfl ⟨trivial, trivial, trivial, hp, hq, trivial⟩ ⟨2, by omega, rfl, rfl, by rw [hn, show note b C = ⟨iput b.e (mx 0 b.rel) C.rel, iput b.e b.h C.held, C.start⟩ by simp [note, hh, e2, e3]]; rfl⟩⟩
      · repeat' ((conv => whnf); first
            | refine Branch.ofT rfl ?_
            | refine Branch.ofF rfl ?_
            | refine Branch.ofF (by simp; done) ?_
            | refine Branch.dec (fun h => ?_) (fun h => ?_)
            | refine Branch.negdec (fun h => ?_) (fun h => ?_)
            | refine Branch.neg (fun h => ?_) (fun h => ?_)
            | refine Branch.mk (fun h => ?_) (fun h => ?_)
            | (refine Side.mk ?_ ?_; · first | omega | decide)
            | (refine SideD.mk ?_ ?_; · first | omega | decide)
            | refine ⟨_, Nat.lt_succ_self _, To.refl (.inl ⟨rfl, ?_⟩)⟩
            | refine CallA.pure h13 rfl rfl ?_
            | refine QCallA.of h15 rfl rfl ?_
            | refine ⟨_, hgh, ?_⟩
            | refine ⟨_, hgs, ?_⟩
            | refine ⟨_, hgr, ?_⟩
            | refine ⟨_, mset_i _ _ _, ?_⟩
            | (refine Side.mk ?_ ?_; · (simp; done))
            | fail
            )
        all_goals (conv => whnf)
        refine ⟨3 - 2, by omega, To.gc [(0, false), (1, true), (2, true), (3, true), (4, true), (5, true)] [0, 2, 15, 16] rfl ⟨trivial, trivial, trivial, hp, hq, trivial⟩ ⟨2, by omega, rfl, rfl, by rw [hn, show note b C = ⟨iput b.e (mx q3 b.rel) C.rel, iput b.e b.h C.held, C.start⟩ by simp [note, hh, e2, e3]]; rfl⟩⟩
  · have h13 := c13 c
    have h15 := c15 c
    have hn : Bs a b c B 3 = note c (Bs a b c B 2) := rfl
    have fx : fine c (Bs a b c B 2) := fc
    generalize Bs a b c B 2 = C at hn fx
    (conv => whnf)
    cases hh : c.holds with
    | false =>
      rw [hh] at h13
      rw [show c.rel = 0 by simp [Hol.rel, hh]] at h15
      repeat' ((conv => whnf); first
          | refine Branch.ofT rfl ?_
          | refine Branch.ofF rfl ?_
          | refine Branch.dec (fun h => ?_) (fun h => ?_)
          | refine Branch.negdec (fun h => ?_) (fun h => ?_)
          | refine Branch.neg (fun h => ?_) (fun h => ?_)
          | refine Branch.mk (fun h => ?_) (fun h => ?_)
          | (refine Side.mk ?_ ?_; · first | omega | decide)
          | (refine SideD.mk ?_ ?_; · first | omega | decide)
          | refine ⟨_, Nat.lt_succ_self _, To.refl (.inl ⟨rfl, ?_⟩)⟩
          | refine CallA.pure h13 rfl rfl ?_
          | refine CallA.pure h15 rfl rfl ?_
          | (refine Side.mk ?_ ?_; · (simp; done))
          | fail
          )
      all_goals (conv => whnf)
      refine ⟨3 - 3, by omega, To.gc [(0, false), (1, true), (2, true), (3, true), (4, true), (5, true)] [0, 2, 15, 16] rfl ⟨trivial, trivial, trivial, hp, hq, trivial⟩ ⟨3, by omega, rfl, rfl, by rw [hn, show note c C = C by simp [note, hh]]; rfl⟩⟩
    | true =>
      rw [hh] at h13
      have hgh := mget_i c.e C.held
      have hgs := mget_i c.e C.start
      have hgr := mget_i c.e C.rel
      have who : iget c.e C.held = none ∨ iget c.e C.held = some c.h := by
        cases e1 : iget c.e C.held with
        | none => exact .inl rfl
        | some q => exact .inr (by rw [fx hh q e1])
      rcases who with e1 | e1 <;> rcases e2 : iget c.e C.start with _ | q2 <;> rcases e3 : iget c.e C.rel with _ | q3 <;> rw [e1] at hgh <;> rw [e2] at hgs <;> rw [e3] at hgr
      · repeat' ((conv => whnf); first
            | refine Branch.ofT rfl ?_
            | refine Branch.ofF rfl ?_
            | refine Branch.ofF (by simp; done) ?_
            | refine Branch.dec (fun h => ?_) (fun h => ?_)
            | refine Branch.negdec (fun h => ?_) (fun h => ?_)
            | refine Branch.neg (fun h => ?_) (fun h => ?_)
            | refine Branch.mk (fun h => ?_) (fun h => ?_)
            | (refine Side.mk ?_ ?_; · first | omega | decide)
            | (refine SideD.mk ?_ ?_; · first | omega | decide)
            | refine ⟨_, Nat.lt_succ_self _, To.refl (.inl ⟨rfl, ?_⟩)⟩
            | refine CallA.pure h13 rfl rfl ?_
            | refine QCallA.of h15 rfl rfl ?_
            | refine ⟨_, hgh, ?_⟩
            | refine ⟨_, hgs, ?_⟩
            | refine ⟨_, hgr, ?_⟩
            | refine ⟨_, mset_i _ _ _, ?_⟩
            | (refine Side.mk ?_ ?_; · (simp; done))
            | fail
            )
        all_goals (conv => whnf)
        refine ⟨3 - 3, by omega, To.gc [(0, false), (1, true), (2, true), (3, true), (4, true), (5, true)] [0, 2, 15, 16] rfl ⟨trivial, trivial, trivial, hp, hq, trivial⟩ ⟨3, by omega, rfl, rfl, by rw [hn, show note c C = ⟨iput c.e (mx 0 c.rel) C.rel, iput c.e c.h C.held, iput c.e c.s C.start⟩ by simp [note, hh, e2, e3]]; rfl⟩⟩
      · repeat' ((conv => whnf); first
            | refine Branch.ofT rfl ?_
            | refine Branch.ofF rfl ?_
            | refine Branch.ofF (by simp; done) ?_
            | refine Branch.dec (fun h => ?_) (fun h => ?_)
            | refine Branch.negdec (fun h => ?_) (fun h => ?_)
            | refine Branch.neg (fun h => ?_) (fun h => ?_)
            | refine Branch.mk (fun h => ?_) (fun h => ?_)
            | (refine Side.mk ?_ ?_; · first | omega | decide)
            | (refine SideD.mk ?_ ?_; · first | omega | decide)
            | refine ⟨_, Nat.lt_succ_self _, To.refl (.inl ⟨rfl, ?_⟩)⟩
            | refine CallA.pure h13 rfl rfl ?_
            | refine QCallA.of h15 rfl rfl ?_
            | refine ⟨_, hgh, ?_⟩
            | refine ⟨_, hgs, ?_⟩
            | refine ⟨_, hgr, ?_⟩
            | refine ⟨_, mset_i _ _ _, ?_⟩
            | (refine Side.mk ?_ ?_; · (simp; done))
            | fail
            )
        all_goals (conv => whnf)
        refine ⟨3 - 3, by omega, To.gc [(0, false), (1, true), (2, true), (3, true), (4, true), (5, true)] [0, 2, 15, 16] rfl ⟨trivial, trivial, trivial, hp, hq, trivial⟩ ⟨3, by omega, rfl, rfl, by rw [hn, show note c C = ⟨iput c.e (mx q3 c.rel) C.rel, iput c.e c.h C.held, iput c.e c.s C.start⟩ by simp [note, hh, e2, e3]]; rfl⟩⟩
      · repeat' ((conv => whnf); first
            | refine Branch.ofT rfl ?_
            | refine Branch.ofF rfl ?_
            | refine Branch.ofF (by simp; done) ?_
            | refine Branch.dec (fun h => ?_) (fun h => ?_)
            | refine Branch.negdec (fun h => ?_) (fun h => ?_)
            | refine Branch.neg (fun h => ?_) (fun h => ?_)
            | refine Branch.mk (fun h => ?_) (fun h => ?_)
            | (refine Side.mk ?_ ?_; · first | omega | decide)
            | (refine SideD.mk ?_ ?_; · first | omega | decide)
            | refine ⟨_, Nat.lt_succ_self _, To.refl (.inl ⟨rfl, ?_⟩)⟩
            | refine CallA.pure h13 rfl rfl ?_
            | refine QCallA.of h15 rfl rfl ?_
            | refine ⟨_, hgh, ?_⟩
            | refine ⟨_, hgs, ?_⟩
            | refine ⟨_, hgr, ?_⟩
            | refine ⟨_, mset_i _ _ _, ?_⟩
            | (refine Side.mk ?_ ?_; · (simp; done))
            | fail
            )
        all_goals (conv => whnf)
        refine ⟨3 - 3, by omega, To.gc [(0, false), (1, true), (2, true), (3, true), (4, true), (5, true)] [0, 2, 15, 16] rfl ⟨trivial, trivial, trivial, hp, hq, trivial⟩ ⟨3, by omega, rfl, rfl, by rw [hn, show note c C = ⟨iput c.e (mx 0 c.rel) C.rel, iput c.e c.h C.held, C.start⟩ by simp [note, hh, e2, e3]]; rfl⟩⟩
      · repeat' ((conv => whnf); first
            | refine Branch.ofT rfl ?_
            | refine Branch.ofF rfl ?_
            | refine Branch.ofF (by simp; done) ?_
            | refine Branch.dec (fun h => ?_) (fun h => ?_)
            | refine Branch.negdec (fun h => ?_) (fun h => ?_)
            | refine Branch.neg (fun h => ?_) (fun h => ?_)
            | refine Branch.mk (fun h => ?_) (fun h => ?_)
            | (refine Side.mk ?_ ?_; · first | omega | decide)
            | (refine SideD.mk ?_ ?_; · first | omega | decide)
            | refine ⟨_, Nat.lt_succ_self _, To.refl (.inl ⟨rfl, ?_⟩)⟩
            | refine CallA.pure h13 rfl rfl ?_
            | refine QCallA.of h15 rfl rfl ?_
            | refine ⟨_, hgh, ?_⟩
            | refine ⟨_, hgs, ?_⟩
            | refine ⟨_, hgr, ?_⟩
            | refine ⟨_, mset_i _ _ _, ?_⟩
            | (refine Side.mk ?_ ?_; · (simp; done))
            | fail
            )
        all_goals (conv => whnf)
        refine ⟨3 - 3, by omega, To.gc [(0, false), (1, true), (2, true), (3, true), (4, true), (5, true)] [0, 2, 15, 16] rfl ⟨trivial, trivial, trivial, hp, hq, trivial⟩ ⟨3, by omega, rfl, rfl, by rw [hn, show note c C = ⟨iput c.e (mx q3 c.rel) C.rel, iput c.e c.h C.held, C.start⟩ by simp [note, hh, e2, e3]]; rfl⟩⟩
      · repeat' ((conv => whnf); first
            | refine Branch.ofT rfl ?_
            | refine Branch.ofF rfl ?_
            | refine Branch.ofF (by simp; done) ?_
            | refine Branch.dec (fun h => ?_) (fun h => ?_)
            | refine Branch.negdec (fun h => ?_) (fun h => ?_)
            | refine Branch.neg (fun h => ?_) (fun h => ?_)
            | refine Branch.mk (fun h => ?_) (fun h => ?_)
            | (refine Side.mk ?_ ?_; · first | omega | decide)
            | (refine SideD.mk ?_ ?_; · first | omega | decide)
            | refine ⟨_, Nat.lt_succ_self _, To.refl (.inl ⟨rfl, ?_⟩)⟩
            | refine CallA.pure h13 rfl rfl ?_
            | refine QCallA.of h15 rfl rfl ?_
            | refine ⟨_, hgh, ?_⟩
            | refine ⟨_, hgs, ?_⟩
            | refine ⟨_, hgr, ?_⟩
            | refine ⟨_, mset_i _ _ _, ?_⟩
            | (refine Side.mk ?_ ?_; · (simp; done))
            | fail
            )
        all_goals (conv => whnf)
        refine ⟨3 - 3, by omega, To.gc [(0, false), (1, true), (2, true), (3, true), (4, true), (5, true)] [0, 2, 15, 16] rfl ⟨trivial, trivial, trivial, hp, hq, trivial⟩ ⟨3, by omega, rfl, rfl, by rw [hn, show note c C = ⟨iput c.e (mx 0 c.rel) C.rel, iput c.e c.h C.held, iput c.e c.s C.start⟩ by simp [note, hh, e2, e3]]; rfl⟩⟩
      · repeat' ((conv => whnf); first
            | refine Branch.ofT rfl ?_
            | refine Branch.ofF rfl ?_
            | refine Branch.ofF (by simp; done) ?_
            | refine Branch.dec (fun h => ?_) (fun h => ?_)
            | refine Branch.negdec (fun h => ?_) (fun h => ?_)
            | refine Branch.neg (fun h => ?_) (fun h => ?_)
            | refine Branch.mk (fun h => ?_) (fun h => ?_)
            | (refine Side.mk ?_ ?_; · first | omega | decide)
            | (refine SideD.mk ?_ ?_; · first | omega | decide)
            | refine ⟨_, Nat.lt_succ_self _, To.refl (.inl ⟨rfl, ?_⟩)⟩
            | refine CallA.pure h13 rfl rfl ?_
            | refine QCallA.of h15 rfl rfl ?_
            | refine ⟨_, hgh, ?_⟩
            | refine ⟨_, hgs, ?_⟩
            | refine ⟨_, hgr, ?_⟩
            | refine ⟨_, mset_i _ _ _, ?_⟩
            | (refine Side.mk ?_ ?_; · (simp; done))
            | fail
            )
        all_goals (conv => whnf)
        refine ⟨3 - 3, by omega, To.gc [(0, false), (1, true), (2, true), (3, true), (4, true), (5, true)] [0, 2, 15, 16] rfl ⟨trivial, trivial, trivial, hp, hq, trivial⟩ ⟨3, by omega, rfl, rfl, by rw [hn, show note c C = ⟨iput c.e (mx q3 c.rel) C.rel, iput c.e c.h C.held, iput c.e c.s C.start⟩ by simp [note, hh, e2, e3]]; rfl⟩⟩
      · repeat' ((conv => whnf); first
            | refine Branch.ofT rfl ?_
            | refine Branch.ofF rfl ?_
            | refine Branch.ofF (by simp; done) ?_
            | refine Branch.dec (fun h => ?_) (fun h => ?_)
            | refine Branch.negdec (fun h => ?_) (fun h => ?_)
            | refine Branch.neg (fun h => ?_) (fun h => ?_)
            | refine Branch.mk (fun h => ?_) (fun h => ?_)
            | (refine Side.mk ?_ ?_; · first | omega | decide)
            | (refine SideD.mk ?_ ?_; · first | omega | decide)
            | refine ⟨_, Nat.lt_succ_self _, To.refl (.inl ⟨rfl, ?_⟩)⟩
            | refine CallA.pure h13 rfl rfl ?_
            | refine QCallA.of h15 rfl rfl ?_
            | refine ⟨_, hgh, ?_⟩
            | refine ⟨_, hgs, ?_⟩
            | refine ⟨_, hgr, ?_⟩
            | refine ⟨_, mset_i _ _ _, ?_⟩
            | (refine Side.mk ?_ ?_; · (simp; done))
            | fail
            )
        all_goals (conv => whnf)
        refine ⟨3 - 3, by omega, To.gc [(0, false), (1, true), (2, true), (3, true), (4, true), (5, true)] [0, 2, 15, 16] rfl ⟨trivial, trivial, trivial, hp, hq, trivial⟩ ⟨3, by omega, rfl, rfl, by rw [hn, show note c C = ⟨iput c.e (mx 0 c.rel) C.rel, iput c.e c.h C.held, C.start⟩ by simp [note, hh, e2, e3]]; rfl⟩⟩
      · repeat' ((conv => whnf); first
            | refine Branch.ofT rfl ?_
            | refine Branch.ofF rfl ?_
            | refine Branch.ofF (by simp; done) ?_
            | refine Branch.dec (fun h => ?_) (fun h => ?_)
            | refine Branch.negdec (fun h => ?_) (fun h => ?_)
            | refine Branch.neg (fun h => ?_) (fun h => ?_)
            | refine Branch.mk (fun h => ?_) (fun h => ?_)
            | (refine Side.mk ?_ ?_; · first | omega | decide)
            | (refine SideD.mk ?_ ?_; · first | omega | decide)
            | refine ⟨_, Nat.lt_succ_self _, To.refl (.inl ⟨rfl, ?_⟩)⟩
            | refine CallA.pure h13 rfl rfl ?_
            | refine QCallA.of h15 rfl rfl ?_
            | refine ⟨_, hgh, ?_⟩
            | refine ⟨_, hgs, ?_⟩
            | refine ⟨_, hgr, ?_⟩
            | refine ⟨_, mset_i _ _ _, ?_⟩
            | (refine Side.mk ?_ ?_; · (simp; done))
            | fail
            )
        all_goals (conv => whnf)
        refine ⟨3 - 3, by omega, To.gc [(0, false), (1, true), (2, true), (3, true), (4, true), (5, true)] [0, 2, 15, 16] rfl ⟨trivial, trivial, trivial, hp, hq, trivial⟩ ⟨3, by omega, rfl, rfl, by rw [hn, show note c C = ⟨iput c.e (mx q3 c.rel) C.rel, iput c.e c.h C.held, C.start⟩ by simp [note, hh, e2, e3]]; rfl⟩⟩
  · generalize Bs a b c B 3 = C at hg ⊢
    repeat' ((conv => whnf); first
        | refine Branch.ofT rfl ?_
        | refine Branch.ofF rfl ?_
        | refine Branch.dec (fun h => ?_) (fun h => ?_)
        | refine Branch.negdec (fun h => ?_) (fun h => ?_)
        | refine Branch.neg (fun h => ?_) (fun h => ?_)
        | refine Branch.mk (fun h => ?_) (fun h => ?_)
        | (refine Side.mk ?_ ?_; · first | omega | decide)
        | (refine SideD.mk ?_ ?_; · first | omega | decide)
        | refine ⟨_, Nat.lt_succ_self _, To.refl (.inl ⟨rfl, ?_⟩)⟩
        | (refine Side.mk ?_ ?_; · (simp; done))
        | fail
        )
    all_goals (conv => whnf)
    refine ⟨K1 (Ww a b c (Xw u0 u1 u2 (pS true np) (gS true ng) f)) (sB true pc) (sB true gc) C.rel C.held C.start, (imap C.held).length, To.gc [(0, false), (1, true), (2, true), (3, true), (4, true), (5, true), (6, false)] [0, 2, 91] rfl ⟨trivial, trivial, trivial, hp, hq, trivial⟩ ⟨_, none, rfl, ⟨C.held, rfl, fun _ h => h⟩, rfl, rfl⟩, ?_⟩
    rintro m fr H ⟨left, cur, rfl, hsub, rfl, rfl⟩
    (conv => whnf)
    refine ⟨fun h => ?_, fun l1 x y l2 h => ?_⟩
    · repeat' ((conv => whnf); first
          | refine Branch.ofT rfl ?_
          | refine Branch.ofF rfl ?_
          | refine Branch.dec (fun h => ?_) (fun h => ?_)
          | refine Branch.negdec (fun h => ?_) (fun h => ?_)
          | refine Branch.neg (fun h => ?_) (fun h => ?_)
          | refine Branch.mk (fun h => ?_) (fun h => ?_)
          | (refine Side.mk ?_ ?_; · first | omega | decide)
          | (refine SideD.mk ?_ ?_; · first | omega | decide)
          | refine ⟨_, Nat.lt_succ_self _, To.refl (.inl ⟨rfl, ?_⟩)⟩
          | (refine Side.mk ?_ ?_; · (simp; done))
          | fail
          )
      all_goals (conv => whnf)
      exact RetA.gc [(0, false), (1, true), (2, true), (3, true), (4, true), (5, true)] rfl ⟨trivial, trivial, trivial, hp, hq, trivial⟩ ⟨rfl, rfl⟩
    · subst h
      obtain ⟨e, n, rfl, rfl, hmem, hsub'⟩ := hsub.step
      obtain ⟨s, hget, hle⟩ := hg e n hmem
      repeat' ((conv => whnf); first
          | refine Branch.ofT rfl ?_
          | refine Branch.ofF rfl ?_
          | refine Branch.dec (fun h => ?_) (fun h => ?_)
          | refine Branch.negdec (fun h => ?_) (fun h => ?_)
          | refine Branch.neg (fun h => ?_) (fun h => ?_)
          | refine Branch.mk (fun h => ?_) (fun h => ?_)
          | (refine Side.mk ?_ ?_; · first | omega | decide)
          | (refine SideD.mk ?_ ?_; · first | omega | decide)
          | refine ⟨_, Nat.lt_succ_self _, To.refl (.inl ⟨rfl, ?_⟩)⟩
          | (refine Side.mk ?_ ?_; · (simp; done))
          | fail
          )
      all_goals (conv => whnf)
      refine ⟨K2 (Ww a b c (Xw u0 u1 u2 (pS true np) (gS true ng) f)) (sB true pc) (sB true gc) C.rel C.held C.start (l1 ++ l2) (some (I e, I n)) e, (imap C.rel).length, To.gc [(0, false), (1, true), (2, true), (3, true), (4, true), (5, true), (6, false), (7, false)] [0, 2, 9, 91, 100] rfl ⟨trivial, trivial, trivial, hp, hq, trivial⟩ ⟨_, none, rfl, ⟨C.rel, rfl, fun _ h => h⟩, rfl, rfl⟩, ?_⟩
      rintro m fr H ⟨left2, cur2, rfl, hsub2, rfl, rfl⟩
      (conv => whnf)
      refine ⟨fun h2 => ?_, fun k1 x2 y2 k2 h2 => ?_⟩
      · repeat' ((conv => whnf); first
            | refine Branch.ofT rfl ?_
            | refine Branch.ofF rfl ?_
            | refine Branch.dec (fun h => ?_) (fun h => ?_)
            | refine Branch.negdec (fun h => ?_) (fun h => ?_)
            | refine Branch.neg (fun h => ?_) (fun h => ?_)
            | refine Branch.mk (fun h => ?_) (fun h => ?_)
            | (refine Side.mk ?_ ?_; · first | omega | decide)
            | (refine SideD.mk ?_ ?_; · first | omega | decide)
            | refine ⟨_, Nat.lt_succ_self _, To.refl (.inl ⟨rfl, ?_⟩)⟩
            | (refine Side.mk ?_ ?_; · (simp; done))
            | fail
            )
        all_goals (conv => whnf)
        refine ⟨(l1 ++ l2).length, by simp, To.gc [(0, false), (1, true), (2, true), (3, true), (4, true), (5, true), (6, false)] [0, 2, 91] rfl ⟨trivial, trivial, trivial, hp, hq, trivial⟩ ⟨_, _, rfl, hsub', rfl, rfl⟩⟩
      · subst h2
        obtain ⟨e2, n2, rfl, rfl, hmem2, hsub2'⟩ := hsub2.step
        have hle2 := hle e2 n2 hmem2
        repeat' ((conv => whnf); first
            | refine Branch.ofT rfl ?_
            | refine Branch.ofF rfl ?_
            | refine Branch.ofF (decide_eq_false (by have := hle2 (by assumption); omega)) ?_
            | refine Branch.dec (fun h => ?_) (fun h => ?_)
            | refine Branch.negdec (fun h => ?_) (fun h => ?_)
            | refine Branch.neg (fun h => ?_) (fun h => ?_)
            | refine Branch.mk (fun h => ?_) (fun h => ?_)
            | (refine Side.mk ?_ ?_; · first | omega | decide)
            | (refine SideD.mk ?_ ?_; · first | omega | decide)
            | refine ⟨_, Nat.lt_succ_self _, To.refl (.inl ⟨rfl, ?_⟩)⟩
            | refine ⟨_, hget, ?_⟩
            | (refine Side.mk ?_ ?_; · (simp; done))
            | fail
            )
        all_goals (conv => whnf)
        all_goals (refine ⟨(k1 ++ k2).length, by simp, To.gc [(0, false), (1, true), (2, true), (3, true), (4, true), (5, true), (6, false), (7, false)] [0, 2, 9, 91, 100] rfl ⟨trivial, trivial, trivial, hp, hq, trivial⟩ ⟨_, _, rfl, hsub2', rfl, rfl⟩⟩)
end Go.Proofs

