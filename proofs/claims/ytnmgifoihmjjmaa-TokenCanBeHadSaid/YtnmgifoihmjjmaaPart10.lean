/- Part of a proof about the given program: lemmas that the other parts use. -/
import Derived.Test.YtnmgifoihmjjmaaPart9
import Derived.Test.YtnmgifoihmjjmaaPart6

set_option linter.all false
set_option linter.unusedSimpArgs false
set_option linter.unusedVariables false
namespace Go.Proofs
open Go Go.Eng
set_option maxRecDepth 100000
set_option maxHeartbeats 4000000
def h0 (i : Int) : Hol := ⟨7, i, 0, false, false, false, 0, 0, 0, 0, 0⟩
def s0 : St := ⟨h0 1, h0 2, h0 3, [], [], [], [], [], ⟨[], [], []⟩⟩
theorem hol0 (i : Int) : HolOk (0 : Nat) [] i (h0 i) :=
  ⟨rfl, rfl, Int.le_refl 0, Int.le_refl 0, Int.le_refl 0, Int.le_refl 0, fun h => (by cases h), fun h => (by cases h), fun h => (by cases h), .inl (Int.le_refl 0), .inl (Int.le_refl 0), .inl (Int.le_refl 0), Int.le_refl 0, Int.le_refl 0, Int.le_refl 0⟩
theorem wit0 (w : Int) : WitOk (0 : Nat) [] w [] :=
  ⟨.inl rfl, Int.le_refl 0, Int.le_refl 0, Int.le_refl 0, (by decide), fun g h => (by cases h), fun g h => (by cases h), fun g h => (by cases h), fun g h => (by cases h)⟩
theorem inv0 : Inv 0 s0 :=
  ⟨hol0 1, hol0 2, hol0 3, wit0 0, wit0 1, wit0 2, fun p h => (by cases h), fun p h => (by cases h), ⟨fun e h he => (by cases he), fun e h he => (by cases he), fun e h he => (by cases he), fun e h he => (by cases he)⟩, Nat.le_refl 0, Nat.le_refl 0⟩
structure Act where
  (k h w n : Int)
def Act.ok (a : Act) : Prop := (0 ≤ a.k ∧ a.k < 256) ∧ (0 ≤ a.h ∧ a.h < 256) ∧ (0 ≤ a.w ∧ a.w < 256) ∧ (0 ≤ a.n ∧ a.n < 256)
def Act.av (a : Act) : List AV := [.int .u8 a.k, .int .u8 a.h, .int .u8 a.w, .int .u8 a.n]
def acells : List Act → List AV
  | [] => []
  | a :: r => a.av ++ acells r
theorem acells_at : ∀ (i : Nat) (l : List Act) (h : i < l.length), (acells l).drop (i * 4) = l[i].av ++ acells (l.drop (i + 1))
  | 0, p :: r, _ => by simp [acells]
  | i + 1, p :: r, h => by
    have e : (i + 1) * 4 = p.av.length + i * 4 := by simp [Act.av]; omega
    rw [acells, e, List.drop_append, List.drop_eq_nil_of_le (by omega), Nat.add_sub_cancel_left, acells_at i r (by simpa using h)]
    rfl
theorem takeK_atA {cs : List AV} {p : Act} {R : List AV} {K : List AV → Prop} (e : cs = p.av ++ R) (h : K p.av) : takeK 4 cs K := by subst e; exact h
theorem noLocL_of {l : List AV} (h : ∀ c ∈ l, noLoc c = true) : noLocL l = true := by
  induction l with
  | nil => rfl
  | cons c r ih => simp [noLocL, h c (by simp), ih fun c hc => h c (by simp [hc])]
theorem ren_p (f : Nat → Option Nat) (l : List Ple) : renL f (pcells l) = pcells l := renL_data f _ (noLocL_of (pcells_noLoc l))
theorem ren_g (f : Nat → Option Nat) (l : List Gra) : renL f (gcells l) = gcells l := renL_data f _ (noLocL_of (gcells_noLoc l))
def L3 (l : List Act) (cap : Option Nat) (fa wn : Int) (m : Nat) (fr : Fr) (H : Heap) : Prop := ∃ (i : Nat) (s : St) (f : Int), i ≤ l.length ∧ m = l.length - i ∧ Inv i s ∧ fr = [(1, .int .u8 fa), (2, .int .u8 wn), (6, .bool false), (7, .ptr 0 0), (15, .dslice (acells l) l.length cap), (16, I l.length), (17, I i)] ∧ H = wH s f
theorem c3 (l : List Act) (cap : Option Nat) (fa wn : Int) (hl : l.length ≤ 9223372036854775807) (hok : ∀ a ∈ l, a.ok) (hfa : 0 ≤ fa ∧ fa < 256) (hwn : 0 ≤ wn ∧ wn < 256) :
  CallA Try.prog 3 [.dslice (acells l) l.length cap, .int .u8 fa, .int .u8 wn] Heap.nil fun v H' => v = .bool true ∧ H' = Heap.nil := by
  refine callA_of ok3 (Nat.le_of_ble_eq_true rfl) ?_
  have hmin : IntKind.i64.min = -9223372036854775808 := rfl
  have hmax : IntKind.i64.max = 9223372036854775807 := rfl
  have h8 := san
  have hfm : fa.tmod 3 = fa % 3 := tm3 hfa.1 rfl
  repeat' ((conv => whnf); first
      | refine Branch.ofT rfl ?_
      | refine Branch.ofF rfl ?_
      | refine Branch.dec (fun h => ?_) (fun h => ?_)
      | refine Branch.negdec (fun h => ?_) (fun h => ?_)
      | refine Branch.neg (fun h => ?_) (fun h => ?_)
      | refine Branch.mk (fun h => ?_) (fun h => ?_)
      | (refine Side.mk ?_ ?_; · first | omega | decide)
      | (refine SideD.mk ?_ ?_; · first | omega | decide)
      | refine ⟨_, Nat.lt_succ_self _, To.refl (.inl ⟨rfl, ?_⟩)⟩
      | refine CallA.pure h8 rfl rfl ?_
      | refine CallA.ext c9 ?_
      | (rintro v H' ⟨rfl, rfl⟩; refine ⟨_, rfl, rfl, ?_⟩)
      | (refine Side.mk ?_ ?_; · (simp; done))
      | fail
      )
  all_goals (conv => whnf)
  · exact RetA.data rfl ⟨rfl, rfl⟩
  have lw : WeakL (hb 1 ++ (hb 2 ++ (hb 3 ++ (I 0 :: .nils :: I 1 :: .nils :: I 2 :: .nils :: .nils :: .nils :: I (-1) :: .map 0 :: .map 1 :: .map 2 :: [])))) (hb 1 ++ (hb 2 ++ (hb 3 ++ (I 0 :: .dslice [] 0 none :: I 1 :: .dslice [] 0 none :: I 2 :: .dslice [] 0 none :: .nils :: .nils :: I (-1) :: .map 0 :: .map 1 :: .map 2 :: [])))) := by
    repeat' first | exact .nil | (refine .cons (.same _) ?_) | (refine .cons .nil ?_)
  refine ⟨L3 l cap fa wn, l.length, To.weak 3 rfl lw (To.gc [(3, false), (0, true), (1, true), (2, true), (100, true), (101, true)] [1, 2, 6, 7, 15, 16, 17] rfl ⟨trivial, trivial, trivial, trivial, trivial, trivial⟩ ⟨0, s0, -1, by omega, by omega, inv0, rfl, rfl⟩), ?_⟩
  rintro m fr H ⟨i, s, f, hi, rfl, hI, rfl, rfl⟩
  have hhat := acells_at i l
  by_cases hil : i < l.length
  · have hit : i < 150 := by omega
    have hact := hok _ (List.getElem_mem hil)
    have hat := hhat hil
    generalize l[i] = a at hact hat
    obtain ⟨ak, ah, aw, an⟩ := a
    have h10 := fun g => c10 i hit s g hI ak ah aw an hact.1 hact.2.1 hact.2.2.1 hact.2.2.2
    have dp := data_p s.ps
    have dg := data_g s.gs
    have kc : ∀ (a : Hol) (b c : Hol) (x0 x1 x2 : List Kep) (p g : AV) (f f' : Int), (Ww a b c (Xw x0 x1 x2 p g f)).length = 45 := fun a b c x0 x1 x2 p g f f' => rfl
    have P : s.ps = [] ∨ bn s.ps = true := by cases s.ps <;> simp [bn]
    have G : s.gs = [] ∨ bn s.gs = true := by cases s.gs <;> simp [bn]
    unfold wH at h10 ⊢
    rcases P with P | P <;> rcases G with G | G <;> rw [P, G] at h10 ⊢ <;> rw [P] at dp <;> rw [G] at dg
    · repeat' ((conv => whnf); first
          | refine Branch.ofT rfl ?_
          | refine Branch.ofF rfl ?_
          | refine Branch.ofT (decide_eq_true (by omega)) ?_
          | (rw [hfm, hmin, hmax]; refine Side.mk ?_ ?_; · omega)
          | refine Branch.dec (fun h => ?_) (fun h => ?_)
          | refine Branch.negdec (fun h => ?_) (fun h => ?_)
          | refine Branch.neg (fun h => ?_) (fun h => ?_)
          | refine Branch.mk (fun h => ?_) (fun h => ?_)
          | (refine Side.mk ?_ ?_; · first | omega | decide)
          | (refine SideD.mk ?_ ?_; · first | omega | decide)
          | refine ⟨_, Nat.lt_succ_self _, To.refl (.inl ⟨rfl, ?_⟩)⟩
          | refine takeK_atA hat ?_
          | (refine CallA.lend [(0, false), (1, true), (2, true), (3, true), (4, true), (5, true)] (h10 _) rfl ⟨trivial, trivial, trivial, dp, dg, trivial⟩ rfl ?_; rintro c H' ⟨rfl, s', hI', hH⟩; have dp' := data_p s'.ps; have dg' := data_g s'.gs; unfold wH wHp wHg HWp HWg at hH; generalize hbp : bn s'.ps = bp at hH dp'; generalize hbg : bn s'.gs = bg at hH dg'; cases bp <;> cases bg <;> rcases hH with rfl | ⟨hb, O, hO, rfl⟩ | ⟨hb, O, hO, rfl⟩ <;> first | (cases hb; done) | (refine ⟨⟨trivial, trivial, trivial, dp', dg', trivial⟩, ?_⟩) | (refine ⟨⟨trivial, trivial, trivial, hO, dg', trivial⟩, ?_⟩) | (refine ⟨⟨trivial, trivial, trivial, dp', hO, trivial⟩, ?_⟩))
          | (refine Side.mk ?_ ?_; · (simp; done))
          | fail
          )
      all_goals (conv => whnf)
      all_goals first
        | exact ⟨l.length - (i + 1), by omega, To.gc [(0, false), (1, true), (2, true), (3, true), (4, true), (5, true)] [1, 2, 6, 7, 15, 16, 17] rfl ⟨trivial, trivial, trivial, dp', dg', trivial⟩ ⟨i + 1, s', _, by omega, rfl, hI', rfl, by unfold wH; rw [hbp, hbg]; rfl⟩⟩
        | (have nl : ∀ f, ∀ c ∈ renL f (pcells s'.ps), noLoc c = true := (fun f => by rw [ren_p]; exact pcells_noLoc s'.ps)
           exact ⟨l.length - (i + 1), by omega, To.gc [(0, false), (1, true), (2, true), (3, true), (7, true), (5, true)] [1, 2, 6, 7, 15, 16, 17] rfl ⟨trivial, trivial, trivial, nl _, dg', trivial⟩ ⟨i + 1, s', _, by omega, rfl, hI', rfl, by unfold wH; rw [hbp, hbg]; show (⟨6, [(0, _), (1, _), (2, _), (3, _), (4, .cells (renL _ (pcells s'.ps))), (5, _)]⟩ : Heap) = _; rw [ren_p]; rfl⟩⟩)
        | (have nl : ∀ f, ∀ c ∈ renL f (gcells s'.gs), noLoc c = true := (fun f => by rw [ren_g]; exact gcells_noLoc s'.gs)
           exact ⟨l.length - (i + 1), by omega, To.gc [(0, false), (1, true), (2, true), (3, true), (4, true), (7, true)] [1, 2, 6, 7, 15, 16, 17] rfl ⟨trivial, trivial, trivial, dp', nl _, trivial⟩ ⟨i + 1, s', _, by omega, rfl, hI', rfl, by unfold wH; rw [hbp, hbg]; show (⟨6, [(0, _), (1, _), (2, _), (3, _), (4, _), (5, .cells (renL _ (gcells s'.gs)))]⟩ : Heap) = _; rw [ren_g]; rfl⟩⟩)
    · repeat' ((conv => whnf); first
          | refine Branch.ofT rfl ?_
          | refine Branch.ofF rfl ?_
          | refine Branch.ofT (decide_eq_true (by omega)) ?_
          | (rw [hfm, hmin, hmax]; refine Side.mk ?_ ?_; · omega)
          | refine Branch.dec (fun h => ?_) (fun h => ?_)
          | refine Branch.negdec (fun h => ?_) (fun h => ?_)
          | refine Branch.neg (fun h => ?_) (fun h => ?_)
          | refine Branch.mk (fun h => ?_) (fun h => ?_)
          | (refine Side.mk ?_ ?_; · first | omega | decide)
          | (refine SideD.mk ?_ ?_; · first | omega | decide)
          | refine ⟨_, Nat.lt_succ_self _, To.refl (.inl ⟨rfl, ?_⟩)⟩
          | refine takeK_atA hat ?_
          | (refine CallA.lend [(0, false), (1, true), (2, true), (3, true), (4, true), (5, true)] (h10 _) rfl ⟨trivial, trivial, trivial, dp, dg, trivial⟩ rfl ?_; rintro c H' ⟨rfl, s', hI', hH⟩; have dp' := data_p s'.ps; have dg' := data_g s'.gs; unfold wH wHp wHg HWp HWg at hH; generalize hbp : bn s'.ps = bp at hH dp'; generalize hbg : bn s'.gs = bg at hH dg'; cases bp <;> cases bg <;> rcases hH with rfl | ⟨hb, O, hO, rfl⟩ | ⟨hb, O, hO, rfl⟩ <;> first | (cases hb; done) | (refine ⟨⟨trivial, trivial, trivial, dp', dg', trivial⟩, ?_⟩) | (refine ⟨⟨trivial, trivial, trivial, hO, dg', trivial⟩, ?_⟩) | (refine ⟨⟨trivial, trivial, trivial, dp', hO, trivial⟩, ?_⟩))
          | (refine Side.mk ?_ ?_; · (simp; done))
          | fail
          )
      all_goals (conv => whnf)
      all_goals first
        | exact ⟨l.length - (i + 1), by omega, To.gc [(0, false), (1, true), (2, true), (3, true), (4, true), (5, true)] [1, 2, 6, 7, 15, 16, 17] rfl ⟨trivial, trivial, trivial, dp', dg', trivial⟩ ⟨i + 1, s', _, by omega, rfl, hI', rfl, by unfold wH; rw [hbp, hbg]; rfl⟩⟩
        | (have nl : ∀ f, ∀ c ∈ renL f (pcells s'.ps), noLoc c = true := (fun f => by rw [ren_p]; exact pcells_noLoc s'.ps)
           exact ⟨l.length - (i + 1), by omega, To.gc [(0, false), (1, true), (2, true), (3, true), (7, true), (5, true)] [1, 2, 6, 7, 15, 16, 17] rfl ⟨trivial, trivial, trivial, nl _, dg', trivial⟩ ⟨i + 1, s', _, by omega, rfl, hI', rfl, by unfold wH; rw [hbp, hbg]; show (⟨6, [(0, _), (1, _), (2, _), (3, _), (4, .cells (renL _ (pcells s'.ps))), (5, _)]⟩ : Heap) = _; rw [ren_p]; rfl⟩⟩)
        | (have nl : ∀ f, ∀ c ∈ renL f (gcells s'.gs), noLoc c = true := (fun f => by rw [ren_g]; exact gcells_noLoc s'.gs)
           exact ⟨l.length - (i + 1), by omega, To.gc [(0, false), (1, true), (2, true), (3, true), (4, true), (7, true)] [1, 2, 6, 7, 15, 16, 17] rfl ⟨trivial, trivial, trivial, dp', nl _, trivial⟩ ⟨i + 1, s', _, by omega, rfl, hI', rfl, by unfold wH; rw [hbp, hbg]; show (⟨6, [(0, _), (1, _), (2, _), (3, _), (4, _), (5, .cells (renL _ (gcells s'.gs)))]⟩ : Heap) = _; rw [ren_g]; rfl⟩⟩)
    · repeat' ((conv => whnf); first
          | refine Branch.ofT rfl ?_
          | refine Branch.ofF rfl ?_
          | refine Branch.ofT (decide_eq_true (by omega)) ?_
          | (rw [hfm, hmin, hmax]; refine Side.mk ?_ ?_; · omega)
          | refine Branch.dec (fun h => ?_) (fun h => ?_)
          | refine Branch.negdec (fun h => ?_) (fun h => ?_)
          | refine Branch.neg (fun h => ?_) (fun h => ?_)
          | refine Branch.mk (fun h => ?_) (fun h => ?_)
          | (refine Side.mk ?_ ?_; · first | omega | decide)
          | (refine SideD.mk ?_ ?_; · first | omega | decide)
          | refine ⟨_, Nat.lt_succ_self _, To.refl (.inl ⟨rfl, ?_⟩)⟩
          | refine takeK_atA hat ?_
          | (refine CallA.lend [(0, false), (1, true), (2, true), (3, true), (4, true), (5, true)] (h10 _) rfl ⟨trivial, trivial, trivial, dp, dg, trivial⟩ rfl ?_; rintro c H' ⟨rfl, s', hI', hH⟩; have dp' := data_p s'.ps; have dg' := data_g s'.gs; unfold wH wHp wHg HWp HWg at hH; generalize hbp : bn s'.ps = bp at hH dp'; generalize hbg : bn s'.gs = bg at hH dg'; cases bp <;> cases bg <;> rcases hH with rfl | ⟨hb, O, hO, rfl⟩ | ⟨hb, O, hO, rfl⟩ <;> first | (cases hb; done) | (refine ⟨⟨trivial, trivial, trivial, dp', dg', trivial⟩, ?_⟩) | (refine ⟨⟨trivial, trivial, trivial, hO, dg', trivial⟩, ?_⟩) | (refine ⟨⟨trivial, trivial, trivial, dp', hO, trivial⟩, ?_⟩))
          | (refine Side.mk ?_ ?_; · (simp; done))
          | fail
          )
      all_goals (conv => whnf)
      all_goals first
        | exact ⟨l.length - (i + 1), by omega, To.gc [(0, false), (1, true), (2, true), (3, true), (4, true), (5, true)] [1, 2, 6, 7, 15, 16, 17] rfl ⟨trivial, trivial, trivial, dp', dg', trivial⟩ ⟨i + 1, s', _, by omega, rfl, hI', rfl, by unfold wH; rw [hbp, hbg]; rfl⟩⟩
        | (have nl : ∀ f, ∀ c ∈ renL f (pcells s'.ps), noLoc c = true := (fun f => by rw [ren_p]; exact pcells_noLoc s'.ps)
           exact ⟨l.length - (i + 1), by omega, To.gc [(0, false), (1, true), (2, true), (3, true), (7, true), (5, true)] [1, 2, 6, 7, 15, 16, 17] rfl ⟨trivial, trivial, trivial, nl _, dg', trivial⟩ ⟨i + 1, s', _, by omega, rfl, hI', rfl, by unfold wH; rw [hbp, hbg]; show (⟨6, [(0, _), (1, _), (2, _), (3, _), (4, .cells (renL _ (pcells s'.ps))), (5, _)]⟩ : Heap) = _; rw [ren_p]; rfl⟩⟩)
        | (have nl : ∀ f, ∀ c ∈ renL f (gcells s'.gs), noLoc c = true := (fun f => by rw [ren_g]; exact gcells_noLoc s'.gs)
           exact ⟨l.length - (i + 1), by omega, To.gc [(0, false), (1, true), (2, true), (3, true), (4, true), (7, true)] [1, 2, 6, 7, 15, 16, 17] rfl ⟨trivial, trivial, trivial, dp', nl _, trivial⟩ ⟨i + 1, s', _, by omega, rfl, hI', rfl, by unfold wH; rw [hbp, hbg]; show (⟨6, [(0, _), (1, _), (2, _), (3, _), (4, _), (5, .cells (renL _ (gcells s'.gs)))]⟩ : Heap) = _; rw [ren_g]; rfl⟩⟩)
    · repeat' ((conv => whnf); first
          | refine Branch.ofT rfl ?_
          | refine Branch.ofF rfl ?_
          | refine Branch.ofT (decide_eq_true (by omega)) ?_
          | (rw [hfm, hmin, hmax]; refine Side.mk ?_ ?_; · omega)
          | refine Branch.dec (fun h => ?_) (fun h => ?_)
          | refine Branch.negdec (fun h => ?_) (fun h => ?_)
          | refine Branch.neg (fun h => ?_) (fun h => ?_)
          | refine Branch.mk (fun h => ?_) (fun h => ?_)
          | (refine Side.mk ?_ ?_; · first | omega | decide)
          | (refine SideD.mk ?_ ?_; · first | omega | decide)
          | refine ⟨_, Nat.lt_succ_self _, To.refl (.inl ⟨rfl, ?_⟩)⟩
          | refine takeK_atA hat ?_
          | (refine CallA.lend [(0, false), (1, true), (2, true), (3, true), (4, true), (5, true)] (h10 _) rfl ⟨trivial, trivial, trivial, dp, dg, trivial⟩ rfl ?_; rintro c H' ⟨rfl, s', hI', hH⟩; have dp' := data_p s'.ps; have dg' := data_g s'.gs; unfold wH wHp wHg HWp HWg at hH; generalize hbp : bn s'.ps = bp at hH dp'; generalize hbg : bn s'.gs = bg at hH dg'; cases bp <;> cases bg <;> rcases hH with rfl | ⟨hb, O, hO, rfl⟩ | ⟨hb, O, hO, rfl⟩ <;> first | (cases hb; done) | (refine ⟨⟨trivial, trivial, trivial, dp', dg', trivial⟩, ?_⟩) | (refine ⟨⟨trivial, trivial, trivial, hO, dg', trivial⟩, ?_⟩) | (refine ⟨⟨trivial, trivial, trivial, dp', hO, trivial⟩, ?_⟩))
          | (refine Side.mk ?_ ?_; · (simp; done))
          | fail
          )
      all_goals (conv => whnf)
      all_goals first
        | exact ⟨l.length - (i + 1), by omega, To.gc [(0, false), (1, true), (2, true), (3, true), (4, true), (5, true)] [1, 2, 6, 7, 15, 16, 17] rfl ⟨trivial, trivial, trivial, dp', dg', trivial⟩ ⟨i + 1, s', _, by omega, rfl, hI', rfl, by unfold wH; rw [hbp, hbg]; rfl⟩⟩
        | (have nl : ∀ f, ∀ c ∈ renL f (pcells s'.ps), noLoc c = true := (fun f => by rw [ren_p]; exact pcells_noLoc s'.ps)
           exact ⟨l.length - (i + 1), by omega, To.gc [(0, false), (1, true), (2, true), (3, true), (7, true), (5, true)] [1, 2, 6, 7, 15, 16, 17] rfl ⟨trivial, trivial, trivial, nl _, dg', trivial⟩ ⟨i + 1, s', _, by omega, rfl, hI', rfl, by unfold wH; rw [hbp, hbg]; show (⟨6, [(0, _), (1, _), (2, _), (3, _), (4, .cells (renL _ (pcells s'.ps))), (5, _)]⟩ : Heap) = _; rw [ren_p]; rfl⟩⟩)
        | (have nl : ∀ f, ∀ c ∈ renL f (gcells s'.gs), noLoc c = true := (fun f => by rw [ren_g]; exact gcells_noLoc s'.gs)
           exact ⟨l.length - (i + 1), by omega, To.gc [(0, false), (1, true), (2, true), (3, true), (4, true), (7, true)] [1, 2, 6, 7, 15, 16, 17] rfl ⟨trivial, trivial, trivial, dp', nl _, trivial⟩ ⟨i + 1, s', _, by omega, rfl, hI', rfl, by unfold wH; rw [hbp, hbg]; show (⟨6, [(0, _), (1, _), (2, _), (3, _), (4, _), (5, .cells (renL _ (gcells s'.gs)))]⟩ : Heap) = _; rw [ren_g]; rfl⟩⟩)
  · have hie : i = l.length := by omega
    repeat' ((conv => whnf); first
        | refine Branch.ofT rfl ?_
        | refine Branch.ofF rfl ?_
        | refine Branch.ofF (decide_eq_false (by omega)) ?_
        | refine Branch.dec (fun h => ?_) (fun h => ?_)
        | refine Branch.negdec (fun h => ?_) (fun h => ?_)
        | refine Branch.neg (fun h => ?_) (fun h => ?_)
        | refine Branch.mk (fun h => ?_) (fun h => ?_)
        | (refine Side.mk ?_ ?_; · first | omega | decide)
        | (refine SideD.mk ?_ ?_; · first | omega | decide)
        | refine ⟨_, Nat.lt_succ_self _, To.refl (.inl ⟨rfl, ?_⟩)⟩
        | refine CallA.pure h8 rfl rfl ?_
        | (refine Side.mk ?_ ?_; · (simp; done))
        | fail
        )
    all_goals (conv => whnf)
    exact RetA.data rfl ⟨rfl, rfl⟩
end Go.Proofs

namespace Go.Proofs
open Go Go.Eng
set_option maxRecDepth 100000
set_option maxHeartbeats 4000000
attribute [local irreducible] Hol.holds Hol.rel
structure Box (T : Prop) : Prop where
  out : T
theorem later {T : Prop} {A : Prop} (f : Box A → T) (a : A) : Box T := ⟨f ⟨a⟩⟩
theorem hol_noLoc (x : Hol) : ∀ c ∈ x.av, noLoc c = true := by simp [Hol.av, noLoc]
theorem mx_max {a b c : Int} (h : a ≤ c) (h' : b ≤ c) : mx a b ≤ c := by unfold mx; split <;> omega
def L4 (l : List Act) (cap : Option Nat) (ho fa up : Int) (m : Nat) (fr : Fr) (H : Heap) : Prop := ∃ (i : Nat) (s : St) (f : Int), i ≤ l.length ∧ m = l.length - i ∧ Inv i s ∧ fr = [(1, .int .u8 ho), (2, .int .u8 fa), (3, .int .u16 up), (8, .bool false), (9, .ptr 0 0), (29, .dslice (acells l) l.length cap), (30, I l.length), (31, I i)] ∧ H = wH s f
def M4 (t : Int) (s : St) (f fa up : Int) (m : Nat) (fr : Fr) (H : Heap) : Prop := ∃ (idx : Nat) (e : Int) (x : Hol) (j : Int), idx ≤ 3 ∧ m = 3 - idx ∧ HolOk t s.gs j x ∧ (1 ≤ j ∧ j ≤ 3) ∧ x.e ≤ e ∧ e ≤ 2 * t ∧ (0 < idx → (kp s.l0).e ≤ e) ∧ (1 < idx → (kp s.l1).e ≤ e) ∧ (2 < idx → (kp s.l2).e ≤ e) ∧
  fr = [(2, .int .u8 fa), (3, .int .u16 up), (8, .bool false), (9, .ptr 0 0), (12, .ptr 1 0), (13, I e), (50, .agg (I 0 :: D s.l0 :: I 1 :: D s.l1 :: I 2 :: D s.l2 :: [])), (51, I idx)] ∧ H = ⟨2, [(0, .cells (Ww s.a s.b s.c (I 0 :: D s.l0 :: I 1 :: D s.l1 :: I 2 :: D s.l2 :: R6))), (1, .cells x.av)]⟩
theorem weak_w (a b c : Hol) (l0 l1 l2 : List Kep) (p g : AV) (f : Int) : WeakL (Ww a b c (Xw l0 l1 l2 p g f)) (Ww a b c (I 0 :: D l0 :: I 1 :: D l1 :: I 2 :: D l2 :: R6)) := by
  show WeakL (Ww a b c (I 0 :: D l0 :: I 1 :: D l1 :: I 2 :: D l2 :: p :: g :: I f :: .map 1 :: .map 2 :: .map 3 :: [])) _
  unfold Ww Hol.av R6
  repeat' first | exact .nil | (refine .cons (.same _) ?_) | (refine .cons (.any _) ?_)
theorem c4 (l : List Act) (cap : Option Nat) (ho fa up : Int) (hl : l.length ≤ 9223372036854775807) (hok : ∀ a ∈ l, a.ok) (hho : 0 ≤ ho ∧ ho < 256) (hfa : 0 ≤ fa ∧ fa < 256) (hup : 0 ≤ up ∧ up < 65536) :
  CallA Try.prog 4 [.dslice (acells l) l.length cap, .int .u8 ho, .int .u8 fa, .int .u16 up] Heap.nil fun v H' => v = .bool true ∧ H' = Heap.nil := by
  refine callA_of ok4 (Nat.le_of_ble_eq_true rfl) ?_
  have hmin : IntKind.i64.min = -9223372036854775808 := rfl
  have hmax : IntKind.i64.max = 9223372036854775807 := rfl
  have h8 := san
  repeat' ((conv => whnf); first
      | refine Branch.ofT rfl ?_
      | refine Branch.ofF rfl ?_
      | refine Branch.dec (fun h => ?_) (fun h => ?_)
      | refine Branch.negdec (fun h => ?_) (fun h => ?_)
      | refine Branch.neg (fun h => ?_) (fun h => ?_)
      | refine Branch.mk (fun h => ?_) (fun h => ?_)
      | (refine Side.mk ?_ ?_; · first | omega | decide)
      | (refine SideD.mk ?_ ?_; · first | omega | decide)
      | refine ⟨_, Nat.lt_succ_self _, To.refl (.inl ⟨rfl, ?_⟩)⟩
      | refine CallA.pure h8 rfl rfl ?_
      | refine CallA.ext c9 ?_
      | (rintro v H' ⟨rfl, rfl⟩; refine ⟨_, rfl, rfl, ?_⟩)
      | (refine Side.mk ?_ ?_; · (simp; done))
      | fail
      )
  all_goals (conv => whnf)
  · exact RetA.data rfl ⟨rfl, rfl⟩
  have lw : WeakL (hb 1 ++ (hb 2 ++ (hb 3 ++ (I 0 :: .nils :: I 1 :: .nils :: I 2 :: .nils :: .nils :: .nils :: I (-1) :: .map 0 :: .map 1 :: .map 2 :: [])))) (hb 1 ++ (hb 2 ++ (hb 3 ++ (I 0 :: .dslice [] 0 none :: I 1 :: .dslice [] 0 none :: I 2 :: .dslice [] 0 none :: .nils :: .nils :: I (-1) :: .map 0 :: .map 1 :: .map 2 :: [])))) := by
    repeat' first | exact .nil | (refine .cons (.same _) ?_) | (refine .cons .nil ?_)
  refine ⟨L4 l cap ho fa up, l.length, To.weak 3 rfl lw (To.gc [(3, false), (0, true), (1, true), (2, true), (100, true), (101, true)] [1, 2, 3, 8, 9, 29, 30, 31] rfl ⟨trivial, trivial, trivial, trivial, trivial, trivial⟩ ⟨0, s0, -1, by omega, by omega, inv0, rfl, rfl⟩), ?_⟩
  rintro m fr H ⟨i, s, f, hi, rfl, hI, rfl, rfl⟩
  have hhat := acells_at i l
  by_cases hil : i < l.length
  · have hit : i < 150 := by omega
    have hact := hok _ (List.getElem_mem hil)
    have hat := hhat hil
    generalize l[i] = a at hact hat
    obtain ⟨ak, ah, aw, an⟩ := a
    have h10 := fun g => c10 i hit s g hI ak ah aw an hact.1 hact.2.1 hact.2.2.1 hact.2.2.2
    have dp := data_p s.ps
    have dg := data_g s.gs
    have P : s.ps = [] ∨ bn s.ps = true := by cases s.ps <;> simp [bn]
    have G : s.gs = [] ∨ bn s.gs = true := by cases s.gs <;> simp [bn]
    unfold wH at h10 ⊢
    rcases P with P | P <;> rcases G with G | G <;> rw [P, G] at h10 ⊢ <;> rw [P] at dp <;> rw [G] at dg
    · repeat' ((conv => whnf); first
          | refine Branch.ofT rfl ?_
          | refine Branch.ofF rfl ?_
          | refine Branch.ofT (decide_eq_true (by omega)) ?_
          | refine Branch.dec (fun h => ?_) (fun h => ?_)
          | refine Branch.negdec (fun h => ?_) (fun h => ?_)
          | refine Branch.neg (fun h => ?_) (fun h => ?_)
          | refine Branch.mk (fun h => ?_) (fun h => ?_)
          | (refine Side.mk ?_ ?_; · first | omega | decide)
          | (refine SideD.mk ?_ ?_; · first | omega | decide)
          | refine ⟨_, Nat.lt_succ_self _, To.refl (.inl ⟨rfl, ?_⟩)⟩
          | refine takeK_atA hat ?_
          | (refine CallA.lend [(0, false), (1, true), (2, true), (3, true), (4, true), (5, true)] (h10 _) rfl ⟨trivial, trivial, trivial, dp, dg, trivial⟩ rfl ?_; rintro c H' ⟨rfl, s', hI', hH⟩; have dp' := data_p s'.ps; have dg' := data_g s'.gs; unfold wH wHp wHg HWp HWg at hH; generalize hbp : bn s'.ps = bp at hH dp'; generalize hbg : bn s'.gs = bg at hH dg'; cases bp <;> cases bg <;> rcases hH with rfl | ⟨hb, O, hO, rfl⟩ | ⟨hb, O, hO, rfl⟩ <;> first | (cases hb; done) | (refine ⟨⟨trivial, trivial, trivial, dp', dg', trivial⟩, ?_⟩) | (refine ⟨⟨trivial, trivial, trivial, hO, dg', trivial⟩, ?_⟩) | (refine ⟨⟨trivial, trivial, trivial, dp', hO, trivial⟩, ?_⟩))
          | (refine Side.mk ?_ ?_; · (simp; done))
          | fail
          )
      all_goals (conv => whnf)
      all_goals first
        | exact ⟨l.length - (i + 1), by omega, To.gc [(0, false), (1, true), (2, true), (3, true), (4, true), (5, true)] [1, 2, 3, 8, 9, 29, 30, 31] rfl ⟨trivial, trivial, trivial, dp', dg', trivial⟩ ⟨i + 1, s', _, by omega, rfl, hI', rfl, by unfold wH; rw [hbp, hbg]; rfl⟩⟩
        | (have nl : ∀ f, ∀ c ∈ renL f (pcells s'.ps), noLoc c = true := (fun f => by rw [ren_p]; exact pcells_noLoc s'.ps)
           exact ⟨l.length - (i + 1), by omega, To.gc [(0, false), (1, true), (2, true), (3, true), (7, true), (5, true)] [1, 2, 3, 8, 9, 29, 30, 31] rfl ⟨trivial, trivial, trivial, nl _, dg', trivial⟩ ⟨i + 1, s', _, by omega, rfl, hI', rfl, by unfold wH; rw [hbp, hbg]; show (⟨6, [(0, _), (1, _), (2, _), (3, _), (4, .cells (renL _ (pcells s'.ps))), (5, _)]⟩ : Heap) = _; rw [ren_p]; rfl⟩⟩)
        | (have nl : ∀ f, ∀ c ∈ renL f (gcells s'.gs), noLoc c = true := (fun f => by rw [ren_g]; exact gcells_noLoc s'.gs)
           exact ⟨l.length - (i + 1), by omega, To.gc [(0, false), (1, true), (2, true), (3, true), (4, true), (7, true)] [1, 2, 3, 8, 9, 29, 30, 31] rfl ⟨trivial, trivial, trivial, dp', nl _, trivial⟩ ⟨i + 1, s', _, by omega, rfl, hI', rfl, by unfold wH; rw [hbp, hbg]; show (⟨6, [(0, _), (1, _), (2, _), (3, _), (4, _), (5, .cells (renL _ (gcells s'.gs)))]⟩ : Heap) = _; rw [ren_g]; rfl⟩⟩)
    · repeat' ((conv => whnf); first
          | refine Branch.ofT rfl ?_
          | refine Branch.ofF rfl ?_
          | refine Branch.ofT (decide_eq_true (by omega)) ?_
          | refine Branch.dec (fun h => ?_) (fun h => ?_)
          | refine Branch.negdec (fun h => ?_) (fun h => ?_)
          | refine Branch.neg (fun h => ?_) (fun h => ?_)
          | refine Branch.mk (fun h => ?_) (fun h => ?_)
          | (refine Side.mk ?_ ?_; · first | omega | decide)
          | (refine SideD.mk ?_ ?_; · first | omega | decide)
          | refine ⟨_, Nat.lt_succ_self _, To.refl (.inl ⟨rfl, ?_⟩)⟩
          | refine takeK_atA hat ?_
          | (refine CallA.lend [(0, false), (1, true), (2, true), (3, true), (4, true), (5, true)] (h10 _) rfl ⟨trivial, trivial, trivial, dp, dg, trivial⟩ rfl ?_; rintro c H' ⟨rfl, s', hI', hH⟩; have dp' := data_p s'.ps; have dg' := data_g s'.gs; unfold wH wHp wHg HWp HWg at hH; generalize hbp : bn s'.ps = bp at hH dp'; generalize hbg : bn s'.gs = bg at hH dg'; cases bp <;> cases bg <;> rcases hH with rfl | ⟨hb, O, hO, rfl⟩ | ⟨hb, O, hO, rfl⟩ <;> first | (cases hb; done) | (refine ⟨⟨trivial, trivial, trivial, dp', dg', trivial⟩, ?_⟩) | (refine ⟨⟨trivial, trivial, trivial, hO, dg', trivial⟩, ?_⟩) | (refine ⟨⟨trivial, trivial, trivial, dp', hO, trivial⟩, ?_⟩))
          | (refine Side.mk ?_ ?_; · (simp; done))
          | fail
          )
      all_goals (conv => whnf)
      all_goals first
        | exact ⟨l.length - (i + 1), by omega, To.gc [(0, false), (1, true), (2, true), (3, true), (4, true), (5, true)] [1, 2, 3, 8, 9, 29, 30, 31] rfl ⟨trivial, trivial, trivial, dp', dg', trivial⟩ ⟨i + 1, s', _, by omega, rfl, hI', rfl, by unfold wH; rw [hbp, hbg]; rfl⟩⟩
        | (have nl : ∀ f, ∀ c ∈ renL f (pcells s'.ps), noLoc c = true := (fun f => by rw [ren_p]; exact pcells_noLoc s'.ps)
           exact ⟨l.length - (i + 1), by omega, To.gc [(0, false), (1, true), (2, true), (3, true), (7, true), (5, true)] [1, 2, 3, 8, 9, 29, 30, 31] rfl ⟨trivial, trivial, trivial, nl _, dg', trivial⟩ ⟨i + 1, s', _, by omega, rfl, hI', rfl, by unfold wH; rw [hbp, hbg]; show (⟨6, [(0, _), (1, _), (2, _), (3, _), (4, .cells (renL _ (pcells s'.ps))), (5, _)]⟩ : Heap) = _; rw [ren_p]; rfl⟩⟩)
        | (have nl : ∀ f, ∀ c ∈ renL f (gcells s'.gs), noLoc c = true := (fun f => by rw [ren_g]; exact gcells_noLoc s'.gs)
           exact ⟨l.length - (i + 1), by omega, To.gc [(0, false), (1, true), (2, true), (3, true), (4, true), (7, true)] [1, 2, 3, 8, 9, 29, 30, 31] rfl ⟨trivial, trivial, trivial, dp', nl _, trivial⟩ ⟨i + 1, s', _, by omega, rfl, hI', rfl, by unfold wH; rw [hbp, hbg]; show (⟨6, [(0, _), (1, _), (2, _), (3, _), (4, _), (5, .cells (renL _ (gcells s'.gs)))]⟩ : Heap) = _; rw [ren_g]; rfl⟩⟩)
    · repeat' ((conv => whnf); first
          | refine Branch.ofT rfl ?_
          | refine Branch.ofF rfl ?_
          | refine Branch.ofT (decide_eq_true (by omega)) ?_
          | refine Branch.dec (fun h => ?_) (fun h => ?_)
          | refine Branch.negdec (fun h => ?_) (fun h => ?_)
          | refine Branch.neg (fun h => ?_) (fun h => ?_)
          | refine Branch.mk (fun h => ?_) (fun h => ?_)
          | (refine Side.mk ?_ ?_; · first | omega | decide)
          | (refine SideD.mk ?_ ?_; · first | omega | decide)
          | refine ⟨_, Nat.lt_succ_self _, To.refl (.inl ⟨rfl, ?_⟩)⟩
          | refine takeK_atA hat ?_
          | (refine CallA.lend [(0, false), (1, true), (2, true), (3, true), (4, true), (5, true)] (h10 _) rfl ⟨trivial, trivial, trivial, dp, dg, trivial⟩ rfl ?_; rintro c H' ⟨rfl, s', hI', hH⟩; have dp' := data_p s'.ps; have dg' := data_g s'.gs; unfold wH wHp wHg HWp HWg at hH; generalize hbp : bn s'.ps = bp at hH dp'; generalize hbg : bn s'.gs = bg at hH dg'; cases bp <;> cases bg <;> rcases hH with rfl | ⟨hb, O, hO, rfl⟩ | ⟨hb, O, hO, rfl⟩ <;> first | (cases hb; done) | (refine ⟨⟨trivial, trivial, trivial, dp', dg', trivial⟩, ?_⟩) | (refine ⟨⟨trivial, trivial, trivial, hO, dg', trivial⟩, ?_⟩) | (refine ⟨⟨trivial, trivial, trivial, dp', hO, trivial⟩, ?_⟩))
          | (refine Side.mk ?_ ?_; · (simp; done))
          | fail
          )
      all_goals (conv => whnf)
      all_goals first
        | exact ⟨l.length - (i + 1), by omega, To.gc [(0, false), (1, true), (2, true), (3, true), (4, true), (5, true)] [1, 2, 3, 8, 9, 29, 30, 31] rfl ⟨trivial, trivial, trivial, dp', dg', trivial⟩ ⟨i + 1, s', _, by omega, rfl, hI', rfl, by unfold wH; rw [hbp, hbg]; rfl⟩⟩
        | (have nl : ∀ f, ∀ c ∈ renL f (pcells s'.ps), noLoc c = true := (fun f => by rw [ren_p]; exact pcells_noLoc s'.ps)
           exact ⟨l.length - (i + 1), by omega, To.gc [(0, false), (1, true), (2, true), (3, true), (7, true), (5, true)] [1, 2, 3, 8, 9, 29, 30, 31] rfl ⟨trivial, trivial, trivial, nl _, dg', trivial⟩ ⟨i + 1, s', _, by omega, rfl, hI', rfl, by unfold wH; rw [hbp, hbg]; show (⟨6, [(0, _), (1, _), (2, _), (3, _), (4, .cells (renL _ (pcells s'.ps))), (5, _)]⟩ : Heap) = _; rw [ren_p]; rfl⟩⟩)
        | (have nl : ∀ f, ∀ c ∈ renL f (gcells s'.gs), noLoc c = true := (fun f => by rw [ren_g]; exact gcells_noLoc s'.gs)
           exact ⟨l.length - (i + 1), by omega, To.gc [(0, false), (1, true), (2, true), (3, true), (4, true), (7, true)] [1, 2, 3, 8, 9, 29, 30, 31] rfl ⟨trivial, trivial, trivial, dp', nl _, trivial⟩ ⟨i + 1, s', _, by omega, rfl, hI', rfl, by unfold wH; rw [hbp, hbg]; show (⟨6, [(0, _), (1, _), (2, _), (3, _), (4, _), (5, .cells (renL _ (gcells s'.gs)))]⟩ : Heap) = _; rw [ren_g]; rfl⟩⟩)
    · repeat' ((conv => whnf); first
          | refine Branch.ofT rfl ?_
          | refine Branch.ofF rfl ?_
          | refine Branch.ofT (decide_eq_true (by omega)) ?_
          | refine Branch.dec (fun h => ?_) (fun h => ?_)
          | refine Branch.negdec (fun h => ?_) (fun h => ?_)
          | refine Branch.neg (fun h => ?_) (fun h => ?_)
          | refine Branch.mk (fun h => ?_) (fun h => ?_)
          | (refine Side.mk ?_ ?_; · first | omega | decide)
          | (refine SideD.mk ?_ ?_; · first | omega | decide)
          | refine ⟨_, Nat.lt_succ_self _, To.refl (.inl ⟨rfl, ?_⟩)⟩
          | refine takeK_atA hat ?_
          | (refine CallA.lend [(0, false), (1, true), (2, true), (3, true), (4, true), (5, true)] (h10 _) rfl ⟨trivial, trivial, trivial, dp, dg, trivial⟩ rfl ?_; rintro c H' ⟨rfl, s', hI', hH⟩; have dp' := data_p s'.ps; have dg' := data_g s'.gs; unfold wH wHp wHg HWp HWg at hH; generalize hbp : bn s'.ps = bp at hH dp'; generalize hbg : bn s'.gs = bg at hH dg'; cases bp <;> cases bg <;> rcases hH with rfl | ⟨hb, O, hO, rfl⟩ | ⟨hb, O, hO, rfl⟩ <;> first | (cases hb; done) | (refine ⟨⟨trivial, trivial, trivial, dp', dg', trivial⟩, ?_⟩) | (refine ⟨⟨trivial, trivial, trivial, hO, dg', trivial⟩, ?_⟩) | (refine ⟨⟨trivial, trivial, trivial, dp', hO, trivial⟩, ?_⟩))
          | (refine Side.mk ?_ ?_; · (simp; done))
          | fail
          )
      all_goals (conv => whnf)
      all_goals first
        | exact ⟨l.length - (i + 1), by omega, To.gc [(0, false), (1, true), (2, true), (3, true), (4, true), (5, true)] [1, 2, 3, 8, 9, 29, 30, 31] rfl ⟨trivial, trivial, trivial, dp', dg', trivial⟩ ⟨i + 1, s', _, by omega, rfl, hI', rfl, by unfold wH; rw [hbp, hbg]; rfl⟩⟩
        | (have nl : ∀ f, ∀ c ∈ renL f (pcells s'.ps), noLoc c = true := (fun f => by rw [ren_p]; exact pcells_noLoc s'.ps)
           exact ⟨l.length - (i + 1), by omega, To.gc [(0, false), (1, true), (2, true), (3, true), (7, true), (5, true)] [1, 2, 3, 8, 9, 29, 30, 31] rfl ⟨trivial, trivial, trivial, nl _, dg', trivial⟩ ⟨i + 1, s', _, by omega, rfl, hI', rfl, by unfold wH; rw [hbp, hbg]; show (⟨6, [(0, _), (1, _), (2, _), (3, _), (4, .cells (renL _ (pcells s'.ps))), (5, _)]⟩ : Heap) = _; rw [ren_p]; rfl⟩⟩)
        | (have nl : ∀ f, ∀ c ∈ renL f (gcells s'.gs), noLoc c = true := (fun f => by rw [ren_g]; exact gcells_noLoc s'.gs)
           exact ⟨l.length - (i + 1), by omega, To.gc [(0, false), (1, true), (2, true), (3, true), (4, true), (7, true)] [1, 2, 3, 8, 9, 29, 30, 31] rfl ⟨trivial, trivial, trivial, dp', nl _, trivial⟩ ⟨i + 1, s', _, by omega, rfl, hI', rfl, by unfold wH; rw [hbp, hbg]; show (⟨6, [(0, _), (1, _), (2, _), (3, _), (4, _), (5, .cells (renL _ (gcells s'.gs)))]⟩ : Heap) = _; rw [ren_g]; rfl⟩⟩)
  · have hie : i = l.length := by omega
    have ho3 : ho % 3 = 0 ∨ ho % 3 = 1 ∨ ho % 3 = 2 := by omega
    have dp := data_p s.ps
    have dg := data_g s.gs
    clear hhat
    unfold wH
    refine Box.out ?_
    apply later
    · intro loop4
      rcases ho3 with e | e | e
      all_goals (have t3 : ho.tmod 3 = _ := tm3 hho.1 e)
      · have hx := hI.a
        repeat' ((conv => whnf); first
            | refine Branch.ofT rfl ?_
            | refine Branch.ofF rfl ?_
            | refine Branch.ofF (decide_eq_false (by omega)) ?_
            | (rw [t3]; refine Side.mk ?_ ?_; · omega)
            | (rw [hmin, hmax]; refine Side.mk ?_ ?_; · omega)
            | refine Branch.dec (fun h => ?_) (fun h => ?_)
            | refine Branch.negdec (fun h => ?_) (fun h => ?_)
            | refine Branch.neg (fun h => ?_) (fun h => ?_)
            | refine Branch.mk (fun h => ?_) (fun h => ?_)
            | (refine Side.mk ?_ ?_; · first | omega | decide)
            | (refine SideD.mk ?_ ?_; · first | omega | decide)
            | refine ⟨_, Nat.lt_succ_self _, To.refl (.inl ⟨rfl, ?_⟩)⟩
            | (refine Side.mk ?_ ?_; · (simp; done))
            | fail
            )
        all_goals (conv => whnf)
        refine ⟨M4 i s f fa up, 3, To.weak 0 rfl (weak_w s.a s.b s.c s.l0 s.l1 s.l2 _ _ f) (To.gc [(0, false), (6, true)] [2, 3, 8, 9, 12, 13, 50, 51] rfl ⟨hol_noLoc _, trivial⟩ ⟨0, mx s.a.e s.a.r, s.a, 1, by omega, by omega, hx, by omega, (le_mx _ _).1, mx_max hx.e1 hx.r1, (fun h => by omega), (fun h => by omega), (fun h => by omega), rfl, rfl⟩), ?_⟩
        exact loop4.out
      · have hx := hI.b
        repeat' ((conv => whnf); first
            | refine Branch.ofT rfl ?_
            | refine Branch.ofF rfl ?_
            | refine Branch.ofF (decide_eq_false (by omega)) ?_
            | (rw [t3]; refine Side.mk ?_ ?_; · omega)
            | (rw [hmin, hmax]; refine Side.mk ?_ ?_; · omega)
            | refine Branch.dec (fun h => ?_) (fun h => ?_)
            | refine Branch.negdec (fun h => ?_) (fun h => ?_)
            | refine Branch.neg (fun h => ?_) (fun h => ?_)
            | refine Branch.mk (fun h => ?_) (fun h => ?_)
            | (refine Side.mk ?_ ?_; · first | omega | decide)
            | (refine SideD.mk ?_ ?_; · first | omega | decide)
            | refine ⟨_, Nat.lt_succ_self _, To.refl (.inl ⟨rfl, ?_⟩)⟩
            | (refine Side.mk ?_ ?_; · (simp; done))
            | fail
            )
        all_goals (conv => whnf)
        refine ⟨M4 i s f fa up, 3, To.weak 0 rfl (weak_w s.a s.b s.c s.l0 s.l1 s.l2 _ _ f) (To.gc [(0, false), (6, true)] [2, 3, 8, 9, 12, 13, 50, 51] rfl ⟨hol_noLoc _, trivial⟩ ⟨0, mx s.b.e s.b.r, s.b, 2, by omega, by omega, hx, by omega, (le_mx _ _).1, mx_max hx.e1 hx.r1, (fun h => by omega), (fun h => by omega), (fun h => by omega), rfl, rfl⟩), ?_⟩
        exact loop4.out
      · have hx := hI.c
        repeat' ((conv => whnf); first
            | refine Branch.ofT rfl ?_
            | refine Branch.ofF rfl ?_
            | refine Branch.ofF (decide_eq_false (by omega)) ?_
            | (rw [t3]; refine Side.mk ?_ ?_; · omega)
            | (rw [hmin, hmax]; refine Side.mk ?_ ?_; · omega)
            | refine Branch.dec (fun h => ?_) (fun h => ?_)
            | refine Branch.negdec (fun h => ?_) (fun h => ?_)
            | refine Branch.neg (fun h => ?_) (fun h => ?_)
            | refine Branch.mk (fun h => ?_) (fun h => ?_)
            | (refine Side.mk ?_ ?_; · first | omega | decide)
            | (refine SideD.mk ?_ ?_; · first | omega | decide)
            | refine ⟨_, Nat.lt_succ_self _, To.refl (.inl ⟨rfl, ?_⟩)⟩
            | (refine Side.mk ?_ ?_; · (simp; done))
            | fail
            )
        all_goals (conv => whnf)
        refine ⟨M4 i s f fa up, 3, To.weak 0 rfl (weak_w s.a s.b s.c s.l0 s.l1 s.l2 _ _ f) (To.gc [(0, false), (6, true)] [2, 3, 8, 9, 12, 13, 50, 51] rfl ⟨hol_noLoc _, trivial⟩ ⟨0, mx s.c.e s.c.r, s.c, 3, by omega, by omega, hx, by omega, (le_mx _ _).1, mx_max hx.e1 hx.r1, (fun h => by omega), (fun h => by omega), (fun h => by omega), rfl, rfl⟩), ?_⟩
        exact loop4.out
    · rintro m fr H ⟨idx, e0, x, j, hidx, rfl, hx, hj, he1, he2, hk0, hk1, hk2, rfl, rfl⟩
      have hx0 := hx.e0
      rcases (show idx = 0 ∨ idx = 1 ∨ idx = 2 ∨ idx = 3 by omega) with rfl | rfl | rfl | rfl
      · rcases hI.l0.shape with hs | ⟨k, hs, hkm⟩
        · have hD : D s.l0 = .dslice [] 0 none := by rw [hs]; rfl
          have hz : (kp s.l0).e ≤ e0 := by rw [hs]; show (0 : Int) ≤ e0; omega
          rw [hD]
          repeat' ((conv => whnf); first
              | refine Branch.ofT rfl ?_
              | refine Branch.ofF rfl ?_
              | refine Branch.ofF (decide_eq_false (by omega)) ?_
              | refine Branch.dec (fun h => ?_) (fun h => ?_)
              | refine Branch.negdec (fun h => ?_) (fun h => ?_)
              | refine Branch.neg (fun h => ?_) (fun h => ?_)
              | refine Branch.mk (fun h => ?_) (fun h => ?_)
              | (refine Side.mk ?_ ?_; · first | omega | decide)
              | (refine SideD.mk ?_ ?_; · first | omega | decide)
              | refine ⟨_, Nat.lt_succ_self _, To.refl (.inl ⟨rfl, ?_⟩)⟩
              | refine LoopA.unroll _ _ _ 3 ?_
              | (refine Side.mk ?_ ?_; · (simp; done))
              | fail
              )
          all_goals (conv => whnf)
          refine ⟨3 - 1, by omega, To.gc [(0, false), (1, true)] [2, 3, 8, 9, 12, 13, 50, 51] rfl ⟨hol_noLoc _, trivial⟩ ⟨1, e0, x, j, by omega, by omega, hx, hj, he1, he2, (fun h => hz), (fun h => (by omega)), (fun h => (by omega)), by rw [hD]; rfl, by rw [hD]; rfl⟩⟩
        · have hD : D s.l0 = .dslice [I k.m, I k.e, I k.h, I k.u] 1 none := by rw [hs]; rfl
          have hkp : kp s.l0 = k := by rw [hs]; rfl
          have hke : k.e ≤ 2 * (i : Int) := by have := hI.l0.e1; rw [hkp] at this; exact this
          rw [hD]
          repeat' ((conv => whnf); first
              | refine Branch.ofT rfl ?_
              | refine Branch.ofF rfl ?_
              | refine Branch.ofF (decide_eq_false (by omega)) ?_
              | refine Branch.dec (fun h => ?_) (fun h => ?_)
              | refine Branch.negdec (fun h => ?_) (fun h => ?_)
              | refine Branch.neg (fun h => ?_) (fun h => ?_)
              | refine Branch.mk (fun h => ?_) (fun h => ?_)
              | (refine Side.mk ?_ ?_; · first | omega | decide)
              | (refine SideD.mk ?_ ?_; · first | omega | decide)
              | refine ⟨_, Nat.lt_succ_self _, To.refl (.inl ⟨rfl, ?_⟩)⟩
              | refine LoopA.unroll _ _ _ 3 ?_
              | (refine Side.mk ?_ ?_; · (simp; done))
              | fail
              )
          all_goals (conv => whnf)
          refine ⟨3 - 1, by omega, To.gc [(0, false), (1, true)] [2, 3, 8, 9, 12, 13, 50, 51] rfl ⟨hol_noLoc _, trivial⟩ ⟨1, mx e0 k.e, x, j, by omega, by omega, hx, hj, Int.le_trans he1 (le_mx _ _).1, mx_max he2 hke, (fun h => by rw [hkp]; exact (le_mx _ _).2.1), (fun h => (by omega)), (fun h => (by omega)), by rw [hD]; rfl, by rw [hD]; rfl⟩⟩
      · rcases hI.l1.shape with hs | ⟨k, hs, hkm⟩
        · have hD : D s.l1 = .dslice [] 0 none := by rw [hs]; rfl
          have hz : (kp s.l1).e ≤ e0 := by rw [hs]; show (0 : Int) ≤ e0; omega
          rw [hD]
          repeat' ((conv => whnf); first
              | refine Branch.ofT rfl ?_
              | refine Branch.ofF rfl ?_
              | refine Branch.ofF (decide_eq_false (by omega)) ?_
              | refine Branch.dec (fun h => ?_) (fun h => ?_)
              | refine Branch.negdec (fun h => ?_) (fun h => ?_)
              | refine Branch.neg (fun h => ?_) (fun h => ?_)
              | refine Branch.mk (fun h => ?_) (fun h => ?_)
              | (refine Side.mk ?_ ?_; · first | omega | decide)
              | (refine SideD.mk ?_ ?_; · first | omega | decide)
              | refine ⟨_, Nat.lt_succ_self _, To.refl (.inl ⟨rfl, ?_⟩)⟩
              | refine LoopA.unroll _ _ _ 3 ?_
              | (refine Side.mk ?_ ?_; · (simp; done))
              | fail
              )
          all_goals (conv => whnf)
          refine ⟨3 - 2, by omega, To.gc [(0, false), (1, true)] [2, 3, 8, 9, 12, 13, 50, 51] rfl ⟨hol_noLoc _, trivial⟩ ⟨2, e0, x, j, by omega, by omega, hx, hj, he1, he2, (fun h => hk0 (by omega)), (fun h => hz), (fun h => (by omega)), by rw [hD]; rfl, by rw [hD]; rfl⟩⟩
        · have hD : D s.l1 = .dslice [I k.m, I k.e, I k.h, I k.u] 1 none := by rw [hs]; rfl
          have hkp : kp s.l1 = k := by rw [hs]; rfl
          have hke : k.e ≤ 2 * (i : Int) := by have := hI.l1.e1; rw [hkp] at this; exact this
          rw [hD]
          repeat' ((conv => whnf); first
              | refine Branch.ofT rfl ?_
              | refine Branch.ofF rfl ?_
              | refine Branch.ofF (decide_eq_false (by omega)) ?_
              | refine Branch.dec (fun h => ?_) (fun h => ?_)
              | refine Branch.negdec (fun h => ?_) (fun h => ?_)
              | refine Branch.neg (fun h => ?_) (fun h => ?_)
              | refine Branch.mk (fun h => ?_) (fun h => ?_)
              | (refine Side.mk ?_ ?_; · first | omega | decide)
              | (refine SideD.mk ?_ ?_; · first | omega | decide)
              | refine ⟨_, Nat.lt_succ_self _, To.refl (.inl ⟨rfl, ?_⟩)⟩
              | refine LoopA.unroll _ _ _ 3 ?_
              | (refine Side.mk ?_ ?_; · (simp; done))
              | fail
              )
          all_goals (conv => whnf)
          refine ⟨3 - 2, by omega, To.gc [(0, false), (1, true)] [2, 3, 8, 9, 12, 13, 50, 51] rfl ⟨hol_noLoc _, trivial⟩ ⟨2, mx e0 k.e, x, j, by omega, by omega, hx, hj, Int.le_trans he1 (le_mx _ _).1, mx_max he2 hke, (fun h => Int.le_trans (hk0 (by omega)) (le_mx _ _).1), (fun h => by rw [hkp]; exact (le_mx _ _).2.1), (fun h => (by omega)), by rw [hD]; rfl, by rw [hD]; rfl⟩⟩
      · rcases hI.l2.shape with hs | ⟨k, hs, hkm⟩
        · have hD : D s.l2 = .dslice [] 0 none := by rw [hs]; rfl
          have hz : (kp s.l2).e ≤ e0 := by rw [hs]; show (0 : Int) ≤ e0; omega
          rw [hD]
          repeat' ((conv => whnf); first
              | refine Branch.ofT rfl ?_
              | refine Branch.ofF rfl ?_
              | refine Branch.ofF (decide_eq_false (by omega)) ?_
              | refine Branch.dec (fun h => ?_) (fun h => ?_)
              | refine Branch.negdec (fun h => ?_) (fun h => ?_)
              | refine Branch.neg (fun h => ?_) (fun h => ?_)
              | refine Branch.mk (fun h => ?_) (fun h => ?_)
              | (refine Side.mk ?_ ?_; · first | omega | decide)
              | (refine SideD.mk ?_ ?_; · first | omega | decide)
              | refine ⟨_, Nat.lt_succ_self _, To.refl (.inl ⟨rfl, ?_⟩)⟩
              | refine LoopA.unroll _ _ _ 3 ?_
              | (refine Side.mk ?_ ?_; · (simp; done))
              | fail
              )
          all_goals (conv => whnf)
          refine ⟨3 - 3, by omega, To.gc [(0, false), (1, true)] [2, 3, 8, 9, 12, 13, 50, 51] rfl ⟨hol_noLoc _, trivial⟩ ⟨3, e0, x, j, by omega, by omega, hx, hj, he1, he2, (fun h => hk0 (by omega)), (fun h => hk1 (by omega)), (fun h => hz), by rw [hD]; rfl, by rw [hD]; rfl⟩⟩
        · have hD : D s.l2 = .dslice [I k.m, I k.e, I k.h, I k.u] 1 none := by rw [hs]; rfl
          have hkp : kp s.l2 = k := by rw [hs]; rfl
          have hke : k.e ≤ 2 * (i : Int) := by have := hI.l2.e1; rw [hkp] at this; exact this
          rw [hD]
          repeat' ((conv => whnf); first
              | refine Branch.ofT rfl ?_
              | refine Branch.ofF rfl ?_
              | refine Branch.ofF (decide_eq_false (by omega)) ?_
              | refine Branch.dec (fun h => ?_) (fun h => ?_)
              | refine Branch.negdec (fun h => ?_) (fun h => ?_)
              | refine Branch.neg (fun h => ?_) (fun h => ?_)
              | refine Branch.mk (fun h => ?_) (fun h => ?_)
              | (refine Side.mk ?_ ?_; · first | omega | decide)
              | (refine SideD.mk ?_ ?_; · first | omega | decide)
              | refine ⟨_, Nat.lt_succ_self _, To.refl (.inl ⟨rfl, ?_⟩)⟩
              | refine LoopA.unroll _ _ _ 3 ?_
              | (refine Side.mk ?_ ?_; · (simp; done))
              | fail
              )
          all_goals (conv => whnf)
          refine ⟨3 - 3, by omega, To.gc [(0, false), (1, true)] [2, 3, 8, 9, 12, 13, 50, 51] rfl ⟨hol_noLoc _, trivial⟩ ⟨3, mx e0 k.e, x, j, by omega, by omega, hx, hj, Int.le_trans he1 (le_mx _ _).1, mx_max he2 hke, (fun h => Int.le_trans (hk0 (by omega)) (le_mx _ _).1), (fun h => Int.le_trans (hk1 (by omega)) (le_mx _ _).1), (fun h => by rw [hkp]; exact (le_mx _ _).2.1), by rw [hD]; rfl, by rw [hD]; rfl⟩⟩
      · have kk0 := hk0 (by omega)
        have kk1 := hk1 (by omega)
        have kk2 := hk2 (by omega)
        have hE : 1 ≤ e0 + 1 ∧ e0 + 1 ≤ 1073741824 := by omega
        have h11 : CallA Try.prog 11 [.agg x.av, I (e0 + 1)] Heap.nil fun v H' => v = .tuple [.agg (Hol.mk 7 j (e0 + 1) false false false 0 0 0 0 x.r).av, .agg (Ple.mk 1 7 j (e0 + 1) 0).av, I 0] ∧ H' = Heap.nil := by
          have := c11 x (e0 + 1)
          rw [seek_val hx.m hx.h (by omega) hE] at this
          exact this
        have hU : 0 ≤ up ∧ up ≤ 1099511627776 := by omega
        rcases (show fa % 3 = 0 ∨ fa % 3 = 1 ∨ fa % 3 = 2 by omega) with e3 | e3 | e3
        · have q1 : (fa + 1) % 3 = 1 := by omega
          have q2 : (fa + 2) % 3 = 2 := by omega
          obtain ⟨la', ua, Ea, Ka, ua0, ua1⟩ := grant1 (i := 1) hI.l1 hj hE (by omega)
          obtain ⟨lb', ub, Eb, Kb, ub0, ub1⟩ := grant1 (i := 2) hI.l2 hj hE (by omega)
          obtain ⟨y, hy, hyh, hy3, g1, g2, k1, k2⟩ := can_grant (i := 1) (i' := 2) (r := x.r) (by omega) (by omega) (by omega) hj hE ⟨ua0, ua1⟩ ⟨ub0, ub1⟩
          obtain ⟨la'', va, Fa, va0, va1⟩ := confirm1 (i := 1) Ka hj hE hU
          obtain ⟨lb'', vb, Fb, vb0, vb1⟩ := confirm1 (i := 2) Kb hj hE hU
          have hz := can_confirm (i := 1) (i' := 2) (by omega) (by omega) (by omega) hj hE ⟨va0, va1⟩ ⟨vb0, vb1⟩ hU hy3 g1 g2 k1 k2
          have h12 := c12_12 s.a s.b s.c (Hol.mk 7 j (e0 + 1) false false false 0 0 0 0 x.r) ⟨1, 7, j, e0 + 1, 0⟩ s.l0 s.l1 s.l2  _ _ _ _ _ _ (kept1_of hI.l1.shape) (kept1_of hI.l2.shape) Ea Eb
          rw [hy] at h12
          have h13 := c13 y
          rw [hyh] at h13
          have h14 : CallA Try.prog 14 [.agg y.av, I up] Heap.nil fun v H' => v = .tuple [.agg (Ple.mk 2 7 j (e0 + 1) up).av, I 0] ∧ H' = Heap.nil := by
            have := c14 y up
            rw [offer_val hy3.1 hy3.2.1 hy3.2.2 hyh hU] at this
            exact this
          have h12' := c12_12 s.a s.b s.c y ⟨2, 7, j, e0 + 1, up⟩ s.l0 la' lb' _ _ _ _ _ _ (kept1_of Ka.shape) (kept1_of Kb.shape) Fa Fb
          generalize (y.take _).take _ = z at h12' hz
          have h15 := c15 z
          rw [hz] at h15
          clear hy hz Ea Eb Fa Fb
          generalize Hol.mk 7 j (e0 + 1) false false false 0 0 0 0 x.r = X at h11 h12
          generalize Ple.mk 1 7 j (e0 + 1) 0 = P at h11 h12
          generalize Ple.mk 2 7 j (e0 + 1) up = P2 at h14 h12'
          repeat' ((conv => whnf); first
              | refine Branch.ofT rfl ?_
              | refine Branch.ofF rfl ?_
              | refine Branch.ofF (decide_eq_false (by omega)) ?_
              | refine Branch.dec (fun h => ?_) (fun h => ?_)
              | refine Branch.negdec (fun h => ?_) (fun h => ?_)
              | refine Branch.neg (fun h => ?_) (fun h => ?_)
              | refine Branch.mk (fun h => ?_) (fun h => ?_)
              | (refine Side.mk ?_ ?_; · first | omega | decide)
              | (refine SideD.mk ?_ ?_; · first | omega | decide)
              | refine ⟨_, Nat.lt_succ_self _, To.refl (.inl ⟨rfl, ?_⟩)⟩
              | refine CallA.pure h11 rfl rfl ?_
              | ((try rw [q1, q2]); refine CallA.lend [(0, false)] h12 rfl trivial rfl ?_; rintro c H' ⟨rfl, rfl⟩; refine ⟨trivial, ?_⟩)
              | (refine CallA.lend [(0, false)] h12' rfl trivial rfl ?_; rintro c H' ⟨rfl, rfl⟩; refine ⟨trivial, ?_⟩)
              | refine CallA.pure h13 rfl rfl ?_
              | refine CallA.pure h14 rfl rfl ?_
              | refine CallA.pure h15 rfl rfl ?_
              | refine CallA.pure h8 rfl rfl ?_
              | (refine Side.mk ?_ ?_; · (simp; done))
              | fail
              )
          all_goals (conv => whnf)
          exact RetA.data rfl ⟨by simp [one], rfl⟩
        · have q1 : (fa + 1) % 3 = 2 := by omega
          have q2 : (fa + 2) % 3 = 0 := by omega
          obtain ⟨la', ua, Ea, Ka, ua0, ua1⟩ := grant1 (i := 2) hI.l2 hj hE (by omega)
          obtain ⟨lb', ub, Eb, Kb, ub0, ub1⟩ := grant1 (i := 0) hI.l0 hj hE (by omega)
          obtain ⟨y, hy, hyh, hy3, g1, g2, k1, k2⟩ := can_grant (i := 2) (i' := 0) (r := x.r) (by omega) (by omega) (by omega) hj hE ⟨ua0, ua1⟩ ⟨ub0, ub1⟩
          obtain ⟨la'', va, Fa, va0, va1⟩ := confirm1 (i := 2) Ka hj hE hU
          obtain ⟨lb'', vb, Fb, vb0, vb1⟩ := confirm1 (i := 0) Kb hj hE hU
          have hz := can_confirm (i := 2) (i' := 0) (by omega) (by omega) (by omega) hj hE ⟨va0, va1⟩ ⟨vb0, vb1⟩ hU hy3 g1 g2 k1 k2
          have h12 := c12_20 s.a s.b s.c (Hol.mk 7 j (e0 + 1) false false false 0 0 0 0 x.r) ⟨1, 7, j, e0 + 1, 0⟩ s.l0 s.l1 s.l2  _ _ _ _ _ _ (kept1_of hI.l2.shape) (kept1_of hI.l0.shape) Ea Eb
          rw [hy] at h12
          have h13 := c13 y
          rw [hyh] at h13
          have h14 : CallA Try.prog 14 [.agg y.av, I up] Heap.nil fun v H' => v = .tuple [.agg (Ple.mk 2 7 j (e0 + 1) up).av, I 0] ∧ H' = Heap.nil := by
            have := c14 y up
            rw [offer_val hy3.1 hy3.2.1 hy3.2.2 hyh hU] at this
            exact this
          have h12' := c12_20 s.a s.b s.c y ⟨2, 7, j, e0 + 1, up⟩ lb' s.l1 la' _ _ _ _ _ _ (kept1_of Ka.shape) (kept1_of Kb.shape) Fa Fb
          generalize (y.take _).take _ = z at h12' hz
          have h15 := c15 z
          rw [hz] at h15
          clear hy hz Ea Eb Fa Fb
          generalize Hol.mk 7 j (e0 + 1) false false false 0 0 0 0 x.r = X at h11 h12
          generalize Ple.mk 1 7 j (e0 + 1) 0 = P at h11 h12
          generalize Ple.mk 2 7 j (e0 + 1) up = P2 at h14 h12'
          repeat' ((conv => whnf); first
              | refine Branch.ofT rfl ?_
              | refine Branch.ofF rfl ?_
              | refine Branch.ofF (decide_eq_false (by omega)) ?_
              | refine Branch.dec (fun h => ?_) (fun h => ?_)
              | refine Branch.negdec (fun h => ?_) (fun h => ?_)
              | refine Branch.neg (fun h => ?_) (fun h => ?_)
              | refine Branch.mk (fun h => ?_) (fun h => ?_)
              | (refine Side.mk ?_ ?_; · first | omega | decide)
              | (refine SideD.mk ?_ ?_; · first | omega | decide)
              | refine ⟨_, Nat.lt_succ_self _, To.refl (.inl ⟨rfl, ?_⟩)⟩
              | refine CallA.pure h11 rfl rfl ?_
              | ((try rw [q1, q2]); refine CallA.lend [(0, false)] h12 rfl trivial rfl ?_; rintro c H' ⟨rfl, rfl⟩; refine ⟨trivial, ?_⟩)
              | (refine CallA.lend [(0, false)] h12' rfl trivial rfl ?_; rintro c H' ⟨rfl, rfl⟩; refine ⟨trivial, ?_⟩)
              | refine CallA.pure h13 rfl rfl ?_
              | refine CallA.pure h14 rfl rfl ?_
              | refine CallA.pure h15 rfl rfl ?_
              | refine CallA.pure h8 rfl rfl ?_
              | (refine Side.mk ?_ ?_; · (simp; done))
              | fail
              )
          all_goals (conv => whnf)
          exact RetA.data rfl ⟨by simp [one], rfl⟩
        · have q1 : (fa + 1) % 3 = 0 := by omega
          have q2 : (fa + 2) % 3 = 1 := by omega
          obtain ⟨la', ua, Ea, Ka, ua0, ua1⟩ := grant1 (i := 0) hI.l0 hj hE (by omega)
          obtain ⟨lb', ub, Eb, Kb, ub0, ub1⟩ := grant1 (i := 1) hI.l1 hj hE (by omega)
          obtain ⟨y, hy, hyh, hy3, g1, g2, k1, k2⟩ := can_grant (i := 0) (i' := 1) (r := x.r) (by omega) (by omega) (by omega) hj hE ⟨ua0, ua1⟩ ⟨ub0, ub1⟩
          obtain ⟨la'', va, Fa, va0, va1⟩ := confirm1 (i := 0) Ka hj hE hU
          obtain ⟨lb'', vb, Fb, vb0, vb1⟩ := confirm1 (i := 1) Kb hj hE hU
          have hz := can_confirm (i := 0) (i' := 1) (by omega) (by omega) (by omega) hj hE ⟨va0, va1⟩ ⟨vb0, vb1⟩ hU hy3 g1 g2 k1 k2
          have h12 := c12_01 s.a s.b s.c (Hol.mk 7 j (e0 + 1) false false false 0 0 0 0 x.r) ⟨1, 7, j, e0 + 1, 0⟩ s.l0 s.l1 s.l2  _ _ _ _ _ _ (kept1_of hI.l0.shape) (kept1_of hI.l1.shape) Ea Eb
          rw [hy] at h12
          have h13 := c13 y
          rw [hyh] at h13
          have h14 : CallA Try.prog 14 [.agg y.av, I up] Heap.nil fun v H' => v = .tuple [.agg (Ple.mk 2 7 j (e0 + 1) up).av, I 0] ∧ H' = Heap.nil := by
            have := c14 y up
            rw [offer_val hy3.1 hy3.2.1 hy3.2.2 hyh hU] at this
            exact this
          have h12' := c12_01 s.a s.b s.c y ⟨2, 7, j, e0 + 1, up⟩ la' lb' s.l2 _ _ _ _ _ _ (kept1_of Ka.shape) (kept1_of Kb.shape) Fa Fb
          generalize (y.take _).take _ = z at h12' hz
          have h15 := c15 z
          rw [hz] at h15
          clear hy hz Ea Eb Fa Fb
          generalize Hol.mk 7 j (e0 + 1) false false false 0 0 0 0 x.r = X at h11 h12
          generalize Ple.mk 1 7 j (e0 + 1) 0 = P at h11 h12
          generalize Ple.mk 2 7 j (e0 + 1) up = P2 at h14 h12'
          repeat' ((conv => whnf); first
              | refine Branch.ofT rfl ?_
              | refine Branch.ofF rfl ?_
              | refine Branch.ofF (decide_eq_false (by omega)) ?_
              | refine Branch.dec (fun h => ?_) (fun h => ?_)
              | refine Branch.negdec (fun h => ?_) (fun h => ?_)
              | refine Branch.neg (fun h => ?_) (fun h => ?_)
              | refine Branch.mk (fun h => ?_) (fun h => ?_)
              | (refine Side.mk ?_ ?_; · first | omega | decide)
              | (refine SideD.mk ?_ ?_; · first | omega | decide)
              | refine ⟨_, Nat.lt_succ_self _, To.refl (.inl ⟨rfl, ?_⟩)⟩
              | refine CallA.pure h11 rfl rfl ?_
              | ((try rw [q1, q2]); refine CallA.lend [(0, false)] h12 rfl trivial rfl ?_; rintro c H' ⟨rfl, rfl⟩; refine ⟨trivial, ?_⟩)
              | (refine CallA.lend [(0, false)] h12' rfl trivial rfl ?_; rintro c H' ⟨rfl, rfl⟩; refine ⟨trivial, ?_⟩)
              | refine CallA.pure h13 rfl rfl ?_
              | refine CallA.pure h14 rfl rfl ?_
              | refine CallA.pure h15 rfl rfl ?_
              | refine CallA.pure h8 rfl rfl ?_
              | (refine Side.mk ?_ ?_; · (simp; done))
              | fail
              )
          all_goals (conv => whnf)
          exact RetA.data rfl ⟨by simp [one], rfl⟩
end Go.Proofs

