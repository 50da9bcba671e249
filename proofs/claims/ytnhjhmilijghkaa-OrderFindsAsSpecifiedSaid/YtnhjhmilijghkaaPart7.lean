/- Part of a proof about the given program: lemmas that the other parts use. -/
import Derived.Test.YtnhjhmilijghkaaPart6
import Derived.Test.YtnhjhmilijghkaaPart5
import Derived.Test.YtnhjhmilijghkaaPart4
import Derived.Test.YtnhjhmilijghkaaProg
import Derived.KernelRfl

set_option linter.all false
set_option linter.unusedSimpArgs false
set_option linter.unusedVariables false
namespace Go.Proofs
open Go Go.Eng
set_option maxRecDepth 100000
set_option maxHeartbeats 8000000
/-- Rows of bits. -/
def rws : List Nat → Nat → List AV
  | [], _ => []
  | s :: r, i => .dslice (bb s i) i (some i) :: rws r (i + 1)
theorem rws_at : ∀ (i b : Nat) (W : List Nat) (h : i < W.length), (rws W b).drop i = .dslice (bb W[i] (b + i)) (b + i) (some (b + i)) :: rws (W.drop (i + 1)) (b + i + 1)
  | 0, b, s :: r, _ => rfl
  | i + 1, b, s :: r, h => by
    show (rws r (b + 1)).drop i = _
    rw [rws_at i (b + 1) r (by simpa using h)]
    have : b + 1 + i = b + (i + 1) := by omega
    rw [this]; rfl
theorem rws_len : ∀ (W : List Nat) (b : Nat), (rws W b).length = W.length
  | [], _ => rfl
  | s :: r, b => by simp only [rws, List.length_cons, rws_len r]
theorem rws_app : ∀ (A B : List Nat) (b : Nat), rws (A ++ B) b = rws A b ++ rws B (b + A.length)
  | [], B, b => rfl
  | s :: A, B, b => by
    simp only [List.cons_append, rws, rws_app A B (b + 1), List.length_cons]
    rw [show b + 1 + A.length = b + (A.length + 1) by omega]
theorem rws_noLoc : ∀ (W : List Nat) (b : Nat), ∀ c ∈ rws W b, noLoc c = true
  | [], _, c, h => by cases h
  | s :: r, b, c, h => by
    simp only [rws, List.mem_cons] at h
    rcases h with rfl | h
    · rfl
    · exact rws_noLoc r (b + 1) c h
theorem nth_rw {W : List Nat} {i off : Nat} (h : i < W.length) (ho : off = i) {K : AV → Prop} (hk : K (.dslice (bb W[i] i) i (some i))) : nthK 0 ((rws W 0).drop off) K := by
  subst ho
  have e := rws_at off 0 W h
  rw [Nat.zero_add] at e
  exact nthK_at e (by rw [fv_eq]; exact hk)
theorem wset_bit (W : List Nat) (l : List Ev) (k : Nat) (hW : ∀ j, j < W.length → W[j]! < 2 ^ j) : ∀ i, i ≤ k → i ≤ W.length → wset W l k i < 2 ^ k
  | 0, _, _ => Nat.two_pow_pos k
  | i + 1, h, h2 => by
    have ih := wset_bit W l k hW i (by omega) (by omega)
    simp only [wset]
    split
    · refine Nat.or_lt_two_pow (Nat.or_lt_two_pow ih (Nat.pow_lt_pow_right (by decide) (by omega))) ?_
      exact Nat.lt_of_lt_of_le (hW i (by omega)) (Nat.pow_le_pow_right (by decide) (by omega))
    · exact ih
theorem ws_old (l : List Ev) (k j : Nat) (h : j < k) : (ws l (k + 1))[j]! = (ws l k)[j]! := by
  have hl : j < (ws l k).length := by rw [ws_len]; exact h
  simp only [ws]
  rw [getElem!_pos (ws l k) j hl, getElem!_pos (ws l k ++ _) j (by rw [List.length_append]; omega), List.getElem_append_left hl]
theorem ws_new (l : List Ev) (k : Nat) : (ws l (k + 1))[k]! = wset (ws l k) l k k := by
  have hl : k < (ws l k ++ [wset (ws l k) l k k]).length := by rw [List.length_append, ws_len]; exact Nat.lt_succ_self k
  simp only [ws]
  rw [getElem!_pos (ws l k ++ _) k hl, List.getElem_append_right (by rw [ws_len]; exact Nat.le_refl _)]
  simp only [ws_len, Nat.sub_self, List.getElem_singleton]
theorem ws_bit (l : List Ev) : ∀ k j, j < k → (ws l k)[j]! < 2 ^ j
  | k + 1, j, h => by
    have ih := ws_bit l k
    by_cases hj : j < k
    · rw [ws_old l k j hj]; exact ih j hj
    · have : j = k := by omega
      subst this
      rw [ws_new]
      exact wset_bit _ l j (fun q hq => ih q (by rw [ws_len] at hq; exact hq)) j (Nat.le_refl _) (by rw [ws_len]; exact Nat.le_refl _)
def rV : List Nat → AV
  | [] => .nils
  | _ :: r => .slice 0 0 (r.length + 1) none 1
def HR : List Nat → Heap
  | [] => Heap.nil
  | s :: r => ⟨1, [(0, .cells (rws (s :: r) 0))]⟩
def L33 (l : List Ev) (cap : Option Nat) (m : Nat) (fr : Fr) (H : Heap) : Prop := ∃ k : Nat, k ≤ l.length ∧ m = l.length - k ∧ fr = [(0, .dslice (evs l) l.length cap), (3, rV (ws l k)), (4, I k)] ∧ H = HR (ws l k)
def L33b (l : List Ev) (cap : Option Nat) (s : Nat) (r : List Nat) (k : Nat) (m : Nat) (fr : Fr) (H : Heap) : Prop := ∃ S : Nat, m ≤ k ∧ S ||| wset (s :: r) l k m = wset (s :: r) l k k ∧
  ((∃ i : Nat, m = i + 1 ∧ fr = [(0, .dslice (evs l) l.length cap), (3, rV (s :: r)), (4, I k), (5, .slice 1 0 k (some k) 1), (6, I i)] ∧ H = ⟨2, [(0, .cells (rws (s :: r) 0)), (1, .cells (bb S k))]⟩) ∨
   (m = 0 ∧ fr = [(0, .dslice (evs l) l.length cap), (3, rV (s :: r)), (4, I k), (5, .dslice (bb S k) k (some k)), (6, I (-1))] ∧ H = HR (s :: r)))
def L33c (l : List Ev) (cap : Option Nat) (s : Nat) (r : List Nat) (k i S T : Nat) (m : Nat) (fr : Fr) (H : Heap) : Prop := ∃ x : Nat, x ≤ i ∧ m = i - x ∧ fr = [(0, .dslice (evs l) l.length cap), (3, rV (s :: r)), (4, I k), (5, .slice 1 0 k (some k) 1), (6, I i), (7, I x)] ∧ H = ⟨2, [(0, .cells (rws (s :: r) 0)), (1, .cells (bb (join S T x) k))]⟩
theorem bb_take (S k : Nat) : (List.drop 0 (bb S k)).take (k * 1) = bb S k := by
  rw [List.drop_zero, Nat.mul_one, List.take_of_length_le (by rw [bb_len]; exact Nat.le_refl _)]
theorem mk1 {k : Nat} (h : k ≤ 1000) : 0 ≤ (k : Int) ∧ ((1 : Nat) : Int) * (k : Int) ≤ 281474976710656 ∧ (k : Int) ≤ 9223372036854775807 := by omega
theorem nth_bbb {S n i off : Nat} {b : Bool} (h : i < n) (ho : off = i) (hb : S.testBit i = b) {K : AV → Prop} (hk : K (.bool b)) : nthK 0 ((bb S n).drop off) K := by
  subst hb; exact nth_bb h ho hk
theorem join_step (S T x : Nat) {b : Bool} (hb : ((join S T x).testBit x || T.testBit x) = b) : ∀ j, (join S T (x + 1)).testBit j = if x = j then b else (join S T x).testBit j := by
  intro j
  simp only [join]
  by_cases ht : T.testBit x = true
  · rw [if_pos ht, set_bit]
    by_cases hj : x = j
    · rw [if_pos hj, if_pos hj, ← hb, ht]; simp
    · rw [if_neg hj, if_neg hj]
  · rw [if_neg ht]
    by_cases hj : x = j
    · subst hj; rw [if_pos rfl, ← hb]; simp at ht; simp [ht]
    · rw [if_neg hj]
theorem appN (S k : Nat) : fits 1 24 ∧ ∀ (c : AV), c ∈ List.take (1 * 1) (AV.dslice (bb S k) k (some k) :: ([] : List AV).append (rep [AV.nils] 0)) → scal c = true := by
  refine ⟨by unfold fits; omega, fun c hc => ?_⟩
  have : c = AV.dslice (bb S k) k (some k) := by simpa [rep] using hc
  subst this; rfl
theorem appR (W : List Nat) (S k : Nat) (h : W.length ≤ 1000) : 1 = 1 ∧ 0 = 0 ∧ (rws W 0).length = W.length * 1 ∧ fits (W.length + 1) 24 ∧ ∀ (c : AV), c ∈ List.take (1 * 1) (AV.dslice (bb S k) k (some k) :: ([] : List AV).append (rep [AV.nils] 0)) → scal c = true :=
  ⟨rfl, rfl, by rw [rws_len, Nat.mul_one], by unfold fits; omega, (appN S k).2⟩
theorem datR (W : List Nat) (S k : Nat) : dataB (.cells (rws W 0 ++ List.take (1 * 1) (AV.dslice (bb S k) k (some k) :: ([] : List AV).append (rep [AV.nils] 0)))) := by
  intro c hc
  rcases List.mem_append.1 hc with h | h
  · exact rws_noLoc W 0 c h
  · have : c = AV.dslice (bb S k) k (some k) := by simpa [rep] using h
    subst this; rfl
theorem HR_app (s : Nat) (r : List Nat) (x : Nat) : HR (s :: r ++ [x]) = ⟨1, [(0, .cells (rws (s :: r) 0 ++ [.dslice (bb x (s :: r).length) (s :: r).length (some (s :: r).length)]))]⟩ := by
  have := rws_app (s :: r) [x] 0
  rw [Nat.zero_add] at this
  show (⟨1, [(0, .cells (rws (s :: r ++ [x]) 0))]⟩ : Heap) = _
  rw [this]; rfl
theorem c33 (l : List Ev) (cap : Option Nat) (hl : l.length ≤ 60) (hok : ∀ i (h : i < l.length), l[i].ok) : CallA Try.prog 33 [.dslice (evs l) l.length cap] Heap.nil fun v H' => v = rV (ws l l.length) ∧ H' = HR (ws l l.length) := by
  have dB : ∀ S n, dataB (.cells (bb S n)) := fun S n c hc => bb_noLoc S n c hc
  have dP : ∀ (W : List Nat) (d : List AV), dataB (.cells (pubL 1 d (rws W 0))) := fun W d => by rw [pubL_data (rws_noLoc W 0)]; exact fun c hc => rws_noLoc W 0 c hc
  have dR : ∀ W, dataB (.cells (rws W 0)) := fun W c hc => rws_noLoc W 0 c hc
  refine callA_of ok33 (Nat.le_of_ble_eq_true rfl) ?_
  repeat' ((conv => whnf); first
      | refine Branch.ofT rfl ?_
      | refine Branch.ofF rfl ?_
      | refine Branch.dec (fun h => ?_) (fun h => ?_)
      | refine Branch.negdec (fun h => ?_) (fun h => ?_)
      | refine Branch.neg (fun h => ?_) (fun h => ?_)
      | refine Branch.mk (fun h => ?_) (fun h => ?_)
      | (refine Side.mk ?_ ?_; · first | omega | decide)
      | (refine SideD.mk ?_ ?_; · first | omega | decide)
      | refine ⟨_, Nat.lt_succ_self _, To.refl (.inl ⟨rfl, ?_⟩)⟩
      | (refine Side.mk ?_ ?_; · (simp; done))
      | fail
      )
  all_goals (conv => whnf)
  refine ⟨L33 l cap, l.length, To.gc [] [0, 3, 4] rfl trivial ⟨0, by omega, by omega, rfl, rfl⟩, ?_⟩
  rintro m fr H ⟨k, hk, rfl, rfl, rfl⟩
  by_cases hkl : k < l.length
  · have hkt := evs_at k l hkl
    have lW := ws_len l k
    have hWb := ws_bit l k
    have hws : ws l (k + 1) = ws l k ++ [wset (ws l k) l k k] := rfl
    generalize ws l k = W at *
    cases W with
    | nil =>
      have : k = 0 := by simpa using lW.symm
      subst this
      repeat' ((conv => whnf); first
          | refine Branch.ofT rfl ?_
          | refine Branch.ofF rfl ?_
          | refine Branch.ofT (decide_eq_true (by omega)) ?_
          | refine Branch.dec (fun h => ?_) (fun h => ?_)
          | refine Branch.negdec (fun h => ?_) (fun h => ?_)
          | refine Branch.neg (fun h => ?_) (fun h => ?_)
          | refine Branch.mk (fun h => ?_) (fun h => ?_)
          | (refine Side.mk ?_ ?_; · first | omega | decide)
          | (refine SideD.mk ?_ ?_; · first | omega | decide)
          | refine ⟨_, Nat.lt_succ_self _, To.refl (.inl ⟨rfl, ?_⟩)⟩
          | refine Side.mk (mk1 (by omega)) ?_
          | (refine Side.mk ?_ ?_; · (simp; done))
          | fail
          )
      all_goals (conv => whnf)
      refine ⟨fun m fr H => m = 0 ∧ fr = [(0, .dslice (evs l) l.length cap), (3, .nils), (4, I 0), (5, .dslice [] 0 (some 0)), (6, I (-1))] ∧ H = Heap.nil, 0, To.pub 0 [0, 3, 4, 5, 6] rfl (fun c hc => by cases hc) (To.gc [] [0, 3, 4, 5, 6] rfl trivial ⟨rfl, rfl, rfl⟩), ?_⟩
      rintro m fr H ⟨rfl, rfl, rfl⟩
      repeat' ((conv => whnf); first
          | refine Branch.ofT rfl ?_
          | refine Branch.ofF rfl ?_
          | refine Branch.dec (fun h => ?_) (fun h => ?_)
          | refine Branch.negdec (fun h => ?_) (fun h => ?_)
          | refine Branch.neg (fun h => ?_) (fun h => ?_)
          | refine Branch.mk (fun h => ?_) (fun h => ?_)
          | (refine Side.mk ?_ ?_; · first | omega | decide)
          | (refine SideD.mk ?_ ?_; · first | omega | decide)
          | refine ⟨_, Nat.lt_succ_self _, To.refl (.inl ⟨rfl, ?_⟩)⟩
          | refine Side.mk (appN 0 0) ?_
          | (refine Side.mk ?_ ?_; · (simp; done))
          | fail
          )
      all_goals (conv => whnf)
      exact ⟨l.length - (0 + 1), by omega, To.gc [(0, true)] [0, 3, 4] rfl ⟨dR [0], trivial⟩ ⟨0 + 1, by omega, rfl, by rw [hws]; rfl, by rw [hws]; rfl⟩⟩
    | cons s r =>
      repeat' ((conv => whnf); first
          | refine Branch.ofT rfl ?_
          | refine Branch.ofF rfl ?_
          | refine Branch.ofT (decide_eq_true (by omega)) ?_
          | refine Branch.dec (fun h => ?_) (fun h => ?_)
          | refine Branch.negdec (fun h => ?_) (fun h => ?_)
          | refine Branch.neg (fun h => ?_) (fun h => ?_)
          | refine Branch.mk (fun h => ?_) (fun h => ?_)
          | (refine Side.mk ?_ ?_; · first | omega | decide)
          | (refine SideD.mk ?_ ?_; · first | omega | decide)
          | refine ⟨_, Nat.lt_succ_self _, To.refl (.inl ⟨rfl, ?_⟩)⟩
          | refine Side.mk (mk1 (by omega)) ?_
          | (refine Side.mk ?_ ?_; · (simp; done))
          | fail
          )
      all_goals (conv => whnf)
      rw [show rep [AV.bool false] (k : Int).toNat = bb 0 k from rep_bb k]
      have hk0 : 0 < k := by rw [← lW]; simp
      refine ⟨L33b l cap s r k, k, To.gc [(0, true), (1, true)] [0, 3, 4, 5, 6] rfl ⟨dR _, dB _ _, trivial⟩ ⟨0, Nat.le_refl _, by rw [Nat.zero_or], .inl ⟨k - 1, by omega, by rw [show ((k - 1 : Nat) : Int) = (k : Int) - 1 by omega]; rfl, rfl⟩⟩, ?_⟩
      rintro c fr H ⟨S, hc, hS, h⟩
      rcases h with ⟨i, rfl, rfl, rfl⟩ | ⟨rfl, rfl, rfl⟩
      · have hil : i < l.length := by omega
        have hit := evs_at i l hil
        have h12 := c12 l[i] l[k] (hok i hil) (hok k hkl)
        have gi : l[i]! = l[i] := getElem!_pos l i hil
        have gk : l[k]! = l[k] := getElem!_pos l k hkl
        repeat' ((conv => whnf); first
            | refine Branch.ofT rfl ?_
            | refine Branch.ofF rfl ?_
            | refine Branch.ofT (decide_eq_true (by omega)) ?_
            | refine Branch.dec (fun h => ?_) (fun h => ?_)
            | refine Branch.negdec (fun h => ?_) (fun h => ?_)
            | refine Branch.neg (fun h => ?_) (fun h => ?_)
            | refine Branch.mk (fun h => ?_) (fun h => ?_)
            | (refine Side.mk ?_ ?_; · first | omega | decide)
            | (refine SideD.mk ?_ ?_; · first | omega | decide)
            | refine ⟨_, Nat.lt_succ_self _, To.refl (.inl ⟨rfl, ?_⟩)⟩
            | refine tk3 hit ?_
            | refine tk3 hkt ?_
            | refine QCallA.of h12 rfl rfl ?_
            | (refine Side.mk ?_ ?_; · (simp; done))
            | fail
            )
        all_goals (conv => whnf)
        · -- no conflict
          have hS2 : S ||| wset (s :: r) l k i = wset (s :: r) l k k := by rw [← hS, wset, gi, gk, if_neg (by rw [h]; simp)]
          by_cases hi0 : i = 0
          · subst hi0
            refine ⟨0, by omega, To.pub 1 [0, 3, 4, 5, 6] rfl (bb_noLoc S k) (To.gc [(0, true)] [0, 3, 4, 5, 6] rfl ⟨dP _ _, trivial⟩ ⟨S, by omega, hS2, .inr ⟨rfl, ?_, ?_⟩⟩)⟩
            · show [(0, AV.dslice (evs l) l.length cap), (3, rV (s :: r)), (4, I k), (5, AV.dslice ((List.drop 0 (bb S k)).take (k * 1)) k (some k)), (6, I (-1))] = _
              rw [bb_take]
            · show (⟨1, [(0, .cells (pubL 1 (bb S k) (rws (s :: r) 0)))]⟩ : Heap) = _
              rw [pubL_data (rws_noLoc (s :: r) 0)]
              rfl
          · exact ⟨i, by omega, To.gc [(0, true), (1, true)] [0, 3, 4, 5, 6] rfl ⟨dR _, dB _ _, trivial⟩ ⟨S, by omega, hS2, .inl ⟨i - 1, by omega, by rw [show ((i - 1 : Nat) : Int) = (i : Int) - 1 by omega]; rfl, rfl⟩⟩⟩
        · have lW' : r.length + 1 = k := by simpa using lW
          have hiW : i < (s :: r).length := by rw [lW]; omega
          have gT : (s :: r)[i]! = (s :: r)[i] := getElem!_pos (s :: r) i hiW
          have hT := hWb i (by omega)
          have hS0 : S ||| ((wset (s :: r) l k i ||| 2 ^ i) ||| (s :: r)[i]!) = wset (s :: r) l k k := by rw [← hS, wset, gi, gk, if_pos h]
          rw [gT] at hT hS0
          repeat' ((conv => whnf); first
              | refine Branch.ofT rfl ?_
              | refine Branch.ofF rfl ?_
              | refine Branch.dec (fun h => ?_) (fun h => ?_)
              | refine Branch.negdec (fun h => ?_) (fun h => ?_)
              | refine Branch.neg (fun h => ?_) (fun h => ?_)
              | refine Branch.mk (fun h => ?_) (fun h => ?_)
              | (refine Side.mk ?_ ?_; · first | omega | decide)
              | (refine SideD.mk ?_ ?_; · first | omega | decide)
              | refine ⟨_, Nat.lt_succ_self _, To.refl (.inl ⟨rfl, ?_⟩)⟩
              | refine lput_bb (n := k) (by omega) (by omega) (set_bit S i) ?_
              | (refine Side.mk ?_ ?_; · (simp; done))
              | fail
              )
          all_goals (conv => whnf)
          refine ⟨L33c l cap s r k i (S ||| 2 ^ i) (s :: r)[i], i, To.gc [(0, true), (1, true)] [0, 3, 4, 5, 6, 7] rfl ⟨dR _, dB _ _, trivial⟩ ⟨0, by omega, by omega, rfl, rfl⟩, ?_⟩
          rintro m fr H ⟨x, hx, rfl, rfl, rfl⟩
          by_cases hxi : x < i
          · obtain ⟨b1, hb1⟩ : ∃ b, (join (S ||| 2 ^ i) (s :: r)[i] x).testBit x = b := ⟨_, rfl⟩
            obtain ⟨b2, hb2⟩ : ∃ b, ((s :: r)[i]).testBit x = b := ⟨_, rfl⟩
            have hst : ((join (S ||| 2 ^ i) (s :: r)[i] x).testBit x || ((s :: r)[i]).testBit x) = (b1 || b2) := by rw [hb1, hb2]
            cases b1
            all_goals
              repeat' ((conv => whnf); first
                  | refine Branch.ofT rfl ?_
                  | refine Branch.ofF rfl ?_
                  | refine Branch.ofT (decide_eq_true (by omega)) ?_
                  | refine Branch.dec (fun h => ?_) (fun h => ?_)
                  | refine Branch.negdec (fun h => ?_) (fun h => ?_)
                  | refine Branch.neg (fun h => ?_) (fun h => ?_)
                  | refine Branch.mk (fun h => ?_) (fun h => ?_)
                  | (refine Side.mk ?_ ?_; · first | omega | decide)
                  | (refine SideD.mk ?_ ?_; · first | omega | decide)
                  | refine ⟨_, Nat.lt_succ_self _, To.refl (.inl ⟨rfl, ?_⟩)⟩
                  | refine nth_bbb (n := k) (by omega) (by omega) hb1 ?_
                  | refine nth_rw hiW (by omega) ?_
                  | refine nth_bbb (n := i) (by omega) (by omega) hb2 ?_
                  | refine lput_bb (n := k) (by omega) (by omega) (join_step _ _ x hst) ?_
                  | (refine Side.mk ?_ ?_; · (simp; done))
                  | fail
                  )
              all_goals (conv => whnf)
            all_goals exact ⟨i - (x + 1), by omega, To.gc [(0, true), (1, true)] [0, 3, 4, 5, 6, 7] rfl ⟨dR _, dB _ _, trivial⟩ ⟨x + 1, by omega, rfl, rfl, rfl⟩⟩
          · have : x = i := by omega
            subst this
            rw [join_all hT]
            repeat' ((conv => whnf); first
                | refine Branch.ofT rfl ?_
                | refine Branch.ofF rfl ?_
                | refine Branch.ofF (decide_eq_false (by omega)) ?_
                | refine Branch.dec (fun h => ?_) (fun h => ?_)
                | refine Branch.negdec (fun h => ?_) (fun h => ?_)
                | refine Branch.neg (fun h => ?_) (fun h => ?_)
                | refine Branch.mk (fun h => ?_) (fun h => ?_)
                | (refine Side.mk ?_ ?_; · first | omega | decide)
                | (refine SideD.mk ?_ ?_; · first | omega | decide)
                | refine ⟨_, Nat.lt_succ_self _, To.refl (.inl ⟨rfl, ?_⟩)⟩
                | (refine Side.mk ?_ ?_; · (simp; done))
                | fail
                )
            all_goals (conv => whnf)
            have hS2 : (S ||| 2 ^ x) ||| (s :: r)[x] ||| wset (s :: r) l k x = wset (s :: r) l k k := by
              rw [← hS0]
              simp only [Nat.or_assoc]
              congr 1
              rw [Nat.or_comm (wset (s :: r) l k x), Nat.or_assoc]
            generalize (S ||| 2 ^ x) ||| (s :: r)[x] = S at *
            have i0 := x
            by_cases hi0 : x = 0
            · subst hi0
              refine ⟨0, by omega, To.pub 1 [0, 3, 4, 5, 6] rfl (bb_noLoc S k) (To.gc [(0, true)] [0, 3, 4, 5, 6] rfl ⟨dP _ _, trivial⟩ ⟨S, by omega, hS2, .inr ⟨rfl, ?_, ?_⟩⟩)⟩
              · show [(0, AV.dslice (evs l) l.length cap), (3, rV (s :: r)), (4, I k), (5, AV.dslice ((List.drop 0 (bb S k)).take (k * 1)) k (some k)), (6, I (-1))] = _
                rw [bb_take]
              · show (⟨1, [(0, .cells (pubL 1 (bb S k) (rws (s :: r) 0)))]⟩ : Heap) = _
                rw [pubL_data (rws_noLoc (s :: r) 0)]
                rfl
            · exact ⟨x, by omega, To.gc [(0, true), (1, true)] [0, 3, 4, 5, 6] rfl ⟨dR _, dB _ _, trivial⟩ ⟨S, by omega, hS2, .inl ⟨x - 1, by omega, by rw [show ((x - 1 : Nat) : Int) = (x : Int) - 1 by omega]; rfl, rfl⟩⟩⟩
      · have hS' : S = wset (s :: r) l k k := by rw [← hS]; simp [wset]
        repeat' ((conv => whnf); first
            | refine Branch.ofT rfl ?_
            | refine Branch.ofF rfl ?_
            | refine Branch.dec (fun h => ?_) (fun h => ?_)
            | refine Branch.negdec (fun h => ?_) (fun h => ?_)
            | refine Branch.neg (fun h => ?_) (fun h => ?_)
            | refine Branch.mk (fun h => ?_) (fun h => ?_)
            | (refine Side.mk ?_ ?_; · first | omega | decide)
            | (refine SideD.mk ?_ ?_; · first | omega | decide)
            | refine ⟨_, Nat.lt_succ_self _, To.refl (.inl ⟨rfl, ?_⟩)⟩
            | refine Side.mk (appR (s :: r) S k (by omega)) ?_
            | (refine Side.mk ?_ ?_; · (simp; done))
            | fail
            )
        all_goals (conv => whnf)
        exact ⟨l.length - (k + 1), by omega, To.gc [(1, true)] [0, 3, 4] rfl ⟨datR (s :: r) S k, trivial⟩ ⟨k + 1, by omega, rfl, by rw [hws]; simp [rV]; rfl, by rw [hws, ← hS', HR_app, lW]; rfl⟩⟩
  · have : k = l.length := by omega
    subst this
    generalize ws l l.length = W at *
    cases W with
    | nil =>
      repeat' ((conv => whnf); first
          | refine Branch.ofT rfl ?_
          | refine Branch.ofF rfl ?_
          | refine Branch.ofF (decide_eq_false (by omega)) ?_
          | refine Branch.dec (fun h => ?_) (fun h => ?_)
          | refine Branch.negdec (fun h => ?_) (fun h => ?_)
          | refine Branch.neg (fun h => ?_) (fun h => ?_)
          | refine Branch.mk (fun h => ?_) (fun h => ?_)
          | (refine Side.mk ?_ ?_; · first | omega | decide)
          | (refine SideD.mk ?_ ?_; · first | omega | decide)
          | refine ⟨_, Nat.lt_succ_self _, To.refl (.inl ⟨rfl, ?_⟩)⟩
          | (refine Side.mk ?_ ?_; · (simp; done))
          | fail
          )
      all_goals (conv => whnf)
      exact RetA.gc [] rfl trivial ⟨rfl, rfl⟩
    | cons s r =>
      repeat' ((conv => whnf); first
          | refine Branch.ofT rfl ?_
          | refine Branch.ofF rfl ?_
          | refine Branch.ofF (decide_eq_false (by omega)) ?_
          | refine Branch.dec (fun h => ?_) (fun h => ?_)
          | refine Branch.negdec (fun h => ?_) (fun h => ?_)
          | refine Branch.neg (fun h => ?_) (fun h => ?_)
          | refine Branch.mk (fun h => ?_) (fun h => ?_)
          | (refine Side.mk ?_ ?_; · first | omega | decide)
          | (refine SideD.mk ?_ ?_; · first | omega | decide)
          | refine ⟨_, Nat.lt_succ_self _, To.refl (.inl ⟨rfl, ?_⟩)⟩
          | (refine Side.mk ?_ ?_; · (simp; done))
          | fail
          )
      all_goals (conv => whnf)
      exact RetA.gc [(0, true)] rfl ⟨dR _, trivial⟩ ⟨rfl, rfl⟩
end Go.Proofs

namespace Go.Proofs
open Go Go.Eng
set_option maxRecDepth 100000
set_option maxHeartbeats 4000000
/-- The specification: a longer way, over the first n places behind i. -/
def lg (W : List Nat) (k i : Nat) : Nat → Bool
  | 0 => false
  | n + 1 => lg W k i n || (W[i + 1 + n]!.testBit i && W[k]!.testBit (i + 1 + n))
def ek2 (l : List Ev) (W : List Nat) (k : Nat) : Nat → List (Int × Int)
  | 0 => []
  | i + 1 => if (decide (l[i]!.cpu = l[k]!.cpu) = false ∧ con l[i]! l[k]! = true) ∧ lg W k i (k - 1 - i) = false then ek2 l W k i ++ [((i : Int), (k : Int))] else ek2 l W k i
def es2 (l : List Ev) (W : List Nat) : Nat → List (Int × Int)
  | 0 => []
  | k + 1 => es2 l W k ++ ek2 l W k k
/-! ### The plain law -/
theorem dset_bit (l : List Ev) (k : Nat) : ∀ i j, (dset l k i).testBit j = (decide (j < i) && con l[j]! l[k]!)
  | 0, j => by simp [dset]
  | i + 1, j => by
    have ih := dset_bit l k i j
    simp only [dset]
    by_cases hc : con l[i]! l[k]! = true
    · rw [if_pos hc, set_bit, ih]
      by_cases hj : i = j
      · subst hj; rw [if_pos rfl, hc, decide_eq_true (Nat.lt_succ_self i)]; rfl
      · have : decide (j < i + 1) = decide (j < i) := by
          by_cases q : j < i
          · rw [decide_eq_true q, decide_eq_true (by omega)]
          · rw [decide_eq_false q, decide_eq_false (by omega)]
        rw [if_neg hj, this]
    · rw [if_neg hc, ih]
      by_cases hj : i = j
      · subst hj; rw [Bool.eq_false_iff.2 hc, Bool.and_false, Bool.and_false]
      · have : decide (j < i + 1) = decide (j < i) := by
          by_cases q : j < i
          · rw [decide_eq_true q, decide_eq_true (by omega)]
          · rw [decide_eq_false q, decide_eq_false (by omega)]
        rw [this]
theorem lngr_bit (D : Nat) (W : List Nat) : ∀ i j, (lngr D W i).testBit j = true ↔ ∃ x, x < i ∧ D.testBit x = true ∧ W[x]!.testBit j = true
  | 0, j => by simp [lngr]
  | i + 1, j => by
    have ih := lngr_bit D W i j
    simp only [lngr]
    by_cases hd : D.testBit i = true
    · rw [if_pos hd, Nat.testBit_or, Bool.or_eq_true, ih]
      constructor
      · rintro (⟨x, h1, h2⟩ | h)
        · exact ⟨x, by omega, h2⟩
        · exact ⟨i, by omega, hd, h⟩
      · rintro ⟨x, h1, h2, h3⟩
        rcases Nat.lt_succ_iff_lt_or_eq.1 h1 with q | rfl
        · exact .inl ⟨x, q, h2, h3⟩
        · exact .inr h3
    · rw [if_neg hd, ih]
      constructor
      · rintro ⟨x, h1, h2⟩; exact ⟨x, by omega, h2⟩
      · rintro ⟨x, h1, h2, h3⟩
        rcases Nat.lt_succ_iff_lt_or_eq.1 h1 with q | rfl
        · exact ⟨x, q, h2, h3⟩
        · exact absurd h2 hd
theorem lg_iff (W : List Nat) (k i : Nat) : ∀ n, lg W k i n = true ↔ ∃ x, i < x ∧ x < i + 1 + n ∧ W[x]!.testBit i = true ∧ W[k]!.testBit x = true
  | 0 => by
    simp only [lg, Bool.false_eq_true, false_iff]
    rintro ⟨x, h1, h2, _⟩; omega
  | n + 1 => by
    simp only [lg, Bool.or_eq_true, lg_iff W k i n, Bool.and_eq_true]
    constructor
    · rintro (⟨x, h1, h2, h3⟩ | h)
      · exact ⟨x, h1, by omega, h3⟩
      · exact ⟨i + 1 + n, by omega, by omega, h⟩
    · rintro ⟨x, h1, h2, h3⟩
      rcases Nat.lt_or_ge x (i + 1 + n) with q | q
      · exact .inl ⟨x, h1, q, h3⟩
      · have : x = i + 1 + n := by omega
        subst this
        exact .inr h3
end Go.Proofs

namespace Go.Proofs
open Go Go.Eng
set_option maxRecDepth 100000
set_option maxHeartbeats 4000000
theorem wset_iff (W : List Nat) (l : List Ev) (k : Nat) : ∀ i j, (wset W l k i).testBit j = true ↔ ∃ x, x < i ∧ con l[x]! l[k]! = true ∧ (x = j ∨ W[x]!.testBit j = true)
  | 0, j => by simp [wset]
  | i + 1, j => by
    have ih := wset_iff W l k i j
    simp only [wset]
    by_cases hc : con l[i]! l[k]! = true
    · rw [if_pos hc, Nat.testBit_or, Nat.testBit_or, Bool.or_eq_true, Bool.or_eq_true, ih, Nat.testBit_two_pow]
      constructor
      · rintro ((⟨x, h1, h2⟩ | h) | h)
        · exact ⟨x, by omega, h2⟩
        · exact ⟨i, by omega, hc, .inl (by simpa using h)⟩
        · exact ⟨i, by omega, hc, .inr h⟩
      · rintro ⟨x, h1, h2, h3⟩
        rcases Nat.lt_succ_iff_lt_or_eq.1 h1 with q | rfl
        · exact .inl (.inl ⟨x, q, h2, h3⟩)
        · rcases h3 with rfl | h3
          · exact .inl (.inr (by simp))
          · exact .inr h3
    · rw [if_neg hc, ih]
      constructor
      · rintro ⟨x, h1, h2⟩; exact ⟨x, by omega, h2⟩
      · rintro ⟨x, h1, h2, h3⟩
        rcases Nat.lt_succ_iff_lt_or_eq.1 h1 with q | rfl
        · exact ⟨x, q, h2, h3⟩
        · exact absurd h2 hc
theorem ws_pre (l : List Ev) : ∀ n x, x < n → ∀ j, j < x → (ws l n)[j]! = (ws l x)[j]!
  | n + 1, x, h, j, hj => by
    by_cases hx : x < n
    · rw [ws_old l n j (by omega), ws_pre l n x hx j hj]
    · have : x = n := by omega
      subst this
      rw [ws_old l x j hj]
theorem ws_at (l : List Ev) : ∀ n x, x < n → (ws l n)[x]! = wset (ws l x) l x x
  | n + 1, x, h => by
    by_cases hx : x < n
    · rw [ws_old l n x hx, ws_at l n x hx]
    · have : x = n := by omega
      subst this
      exact ws_new l x
theorem ws_iff (l : List Ev) (n k j : Nat) (h : k < n) : (ws l n)[k]!.testBit j = true ↔ ∃ x, x < k ∧ con l[x]! l[k]! = true ∧ (x = j ∨ (ws l n)[x]!.testBit j = true) := by
  rw [ws_at l n k h, wset_iff]
  constructor
  · rintro ⟨x, h1, h2, h3⟩
    exact ⟨x, h1, h2, h3.imp id fun q => by rw [ws_pre l n k h x h1]; exact q⟩
  · rintro ⟨x, h1, h2, h3⟩
    exact ⟨x, h1, h2, h3.imp id fun q => by rw [ws_pre l n k h x h1] at q; exact q⟩
theorem ws_trans (l : List Ev) (n : Nat) : ∀ y, y < n → ∀ x i, (ws l n)[y]!.testBit x = true → (ws l n)[x]!.testBit i = true → (ws l n)[y]!.testBit i = true := by
  intro y
  induction y using Nat.strongRecOn with
  | _ y ih =>
    intro hy x i h1 h2
    obtain ⟨z, g1, g2, g3⟩ := (ws_iff l n y x hy).1 h1
    refine (ws_iff l n y i hy).2 ⟨z, g1, g2, .inr ?_⟩
    rcases g3 with rfl | g3
    · exact h2
    · exact ih z g1 (by omega) x i g3 h2
end Go.Proofs

namespace Go.Proofs
open Go Go.Eng
set_option maxRecDepth 100000
set_option maxHeartbeats 4000000
theorem ds_old (l : List Ev) (k j : Nat) (h : j < k) : (ds l (k + 1))[j]! = (ds l k)[j]! := by
  have hl : j < (ds l k).length := by rw [ds_len]; exact h
  simp only [ds]
  rw [getElem!_pos (ds l k) j hl, getElem!_pos (ds l k ++ _) j (by rw [List.length_append]; omega), List.getElem_append_left hl]
theorem ds_new (l : List Ev) (k : Nat) : (ds l (k + 1))[k]! = dset l k k := by
  have hl : k < (ds l k ++ [dset l k k]).length := by rw [List.length_append, ds_len]; exact Nat.lt_succ_self k
  simp only [ds]
  rw [getElem!_pos (ds l k ++ _) k hl, List.getElem_append_right (by rw [ds_len]; exact Nat.le_refl _)]
  simp only [ds_len, Nat.sub_self, List.getElem_singleton]
theorem ds_at (l : List Ev) : ∀ n x, x < n → (ds l n)[x]! = dset l x x
  | n + 1, x, h => by
    by_cases hx : x < n
    · rw [ds_old l n x hx, ds_at l n x hx]
    · have : x = n := by omega
      subst this
      exact ds_new l x
theorem long_iff (l : List Ev) (n k i : Nat) (hk : k < n) (hi : i < k) : (lngr (ds l n)[k]! (ws l n) k).testBit i = lg (ws l n) k i (k - 1 - i) := by
  rw [Bool.eq_iff_iff, lngr_bit, lg_iff, ds_at l n k hk]
  constructor
  · rintro ⟨x, h1, h2, h3⟩
    rw [dset_bit] at h2
    simp only [Bool.and_eq_true, decide_eq_true_eq] at h2
    have hix : i < x := by
      rcases Nat.lt_or_ge i x with q | q
      · exact q
      · have := Nat.testBit_lt_two_pow (x := (ws l n)[x]!) (i := i) (Nat.lt_of_lt_of_le (ws_bit l n x (by omega)) (Nat.pow_le_pow_right (by decide) q))
        rw [this] at h3; cases h3
    exact ⟨x, hix, by omega, h3, (ws_iff l n k x hk).2 ⟨x, h1, h2.2, .inl rfl⟩⟩
  · rintro ⟨x, h1, h2, h3, h4⟩
    obtain ⟨z, g1, g2, g3⟩ := (ws_iff l n k x hk).1 h4
    have hd : (dset l k k).testBit z = true := by rw [dset_bit, g2, decide_eq_true g1]; rfl
    rcases g3 with rfl | g3
    · exact ⟨z, g1, hd, h3⟩
    · exact ⟨z, g1, hd, ws_trans l n z (by omega) x i g3 h3⟩
theorem ek_eq (l : List Ev) (n k : Nat) (hk : k < n) : ∀ i, i ≤ k → ek l k (ds l n)[k]! (lngr (ds l n)[k]! (ws l n) k) i = ek2 l (ws l n) k i
  | 0, _ => rfl
  | i + 1, h => by
    have ih := ek_eq l n k hk i (by omega)
    have h1 : ((ds l n)[k]!).testBit i = con l[i]! l[k]! := by rw [ds_at l n k hk, dset_bit, decide_eq_true (by omega)]; rfl
    have h2 := long_iff l n k i hk (by omega)
    rw [ek, ek2, ih, h1, h2]
theorem es_eq (l : List Ev) (n : Nat) : ∀ k, k ≤ n → es l (ds l n) (ws l n) k = es2 l (ws l n) k
  | 0, _ => rfl
  | k + 1, h => by rw [es, es2, es_eq l n k (by omega), ek_eq l n k (by omega) k (Nat.le_refl _)]
end Go.Proofs

namespace Go.Proofs
open Go Go.Eng
set_option maxRecDepth 100000
set_option maxHeartbeats 8000000
theorem ek2_len (l : List Ev) (W : List Nat) (k : Nat) : ∀ i, (ek2 l W k i).length ≤ i
  | 0 => Nat.le_refl _
  | i + 1 => by
    have := ek2_len l W k i
    simp only [ek2]
    split
    · simp; omega
    · omega
theorem es2_len (l : List Ev) (W : List Nat) : ∀ k, k ≤ 60 → (es2 l W k).length ≤ k * 60
  | 0, _ => Nat.le_refl _
  | k + 1, h => by
    have h1 := es2_len l W k (by omega)
    have h2 := ek2_len l W k k
    simp only [es2, List.length_append]
    omega
def HR2 (W : List Nat) : List (Int × Int) → Heap
  | [] => ⟨1, [(0, .cells (rws W 0))]⟩
  | e :: r => ⟨2, [(0, .cells (rws W 0)), (1, .cells (ecs (e :: r)))]⟩
def sl15 (l : List Ev) (cap : Option Nat) (E : List (Int × Int)) (k : Nat) : Fr := [(0, .dslice (evs l) l.length cap), (3, .slice 0 0 l.length none 1), (4, oV 1 E), (5, I k)]
def L15 (l : List Ev) (cap : Option Nat) (W : List Nat) (m : Nat) (fr : Fr) (H : Heap) : Prop := ∃ k : Nat, k ≤ l.length ∧ m = l.length - k ∧ fr = [(0, .dslice (evs l) l.length cap), (3, .slice 0 0 l.length none 1), (4, oV 1 (es2 l W k)), (5, I k)] ∧ H = HR2 W (es2 l W k)
def L15a (l : List Ev) (cap : Option Nat) (W : List Nat) (k : Nat) (E : List (Int × Int)) (m : Nat) (fr : Fr) (H : Heap) : Prop := ∃ i : Nat, i ≤ k ∧ m = k - i ∧ fr = [(0, .dslice (evs l) l.length cap), (3, .slice 0 0 l.length none 1), (4, oV 1 (E ++ ek2 l W k i)), (5, I k), (6, I i)] ∧ H = HR2 W (E ++ ek2 l W k i)
def L15x (l : List Ev) (cap : Option Nat) (W : List Nat) (k i : Nat) (F : List (Int × Int)) (m : Nat) (fr : Fr) (H : Heap) : Prop := ∃ n : Nat, n ≤ k - 1 - i ∧ m = k - 1 - i - n ∧ fr = [(0, .dslice (evs l) l.length cap), (3, .slice 0 0 l.length none 1), (4, oV 1 F), (5, I k), (6, I i), (7, .bool (lg W k i n)), (8, I (i + 1 + n : Nat))] ∧ H = HR2 W F
theorem oV_app1 (f z : Int × Int) (q : List (Int × Int)) : AV.slice 1 0 (q.length + 1 + 1) none 2 = oV 1 (f :: (q ++ [z])) := by simp [oV]
theorem HR2_app (W : List Nat) (f z : Int × Int) (q : List (Int × Int)) : (⟨2, [(0, .cells (rws W 0)), (1, .cells (ecs (f :: q) ++ [I z.1, I z.2]))]⟩ : Heap) = HR2 W (f :: (q ++ [z])) := by
  have : ecs (f :: q) ++ [I z.1, I z.2] = ecs (f :: (q ++ [z])) := by
    rw [show f :: (q ++ [z]) = (f :: q) ++ [z] from rfl, ecs_app]; rfl
  rw [this]; rfl
def H1 : List (Int × Int) → Heap
  | [] => Heap.nil
  | e :: r => ⟨1, [(0, .cells (ecs (e :: r)))]⟩
theorem nth_rwW {W : List Nat} {i off : Nat} (h : i < W.length) (ho : off = i) {K : AV → Prop} (hk : K (.dslice (bb W[i]! i) i (some i))) : nthK 0 ((rws W 0).drop off) K := by
  rw [getElem!_pos W i h] at hk; exact nth_rw h ho hk
theorem c15 (l : List Ev) (cap : Option Nat) (hl : l.length ≤ 60) (hok : ∀ i (h : i < l.length), l[i].ok) :
    CallA Try.prog 15 [.dslice (evs l) l.length cap] Heap.nil fun v H' => v = oV 0 (es2 l (ws l l.length) l.length) ∧ H' = H1 (es2 l (ws l l.length) l.length) := by
  have h33 := c33 l cap hl hok
  have lW := ws_len l l.length
  have hWb := ws_bit l l.length
  generalize ws l l.length = W at *
  have dR : dataB (.cells (rws W 0)) := fun c hc => rws_noLoc W 0 c hc
  have dE : ∀ l, dataB (.cells (ecs l)) := fun l c hc => ecs_noLoc l c hc
  refine callA_of ok15 (Nat.le_of_ble_eq_true rfl) ?_
  repeat' ((conv => whnf); first
      | refine Branch.ofT rfl ?_
      | refine Branch.ofF rfl ?_
      | refine Branch.dec (fun h => ?_) (fun h => ?_)
      | refine Branch.negdec (fun h => ?_) (fun h => ?_)
      | refine Branch.neg (fun h => ?_) (fun h => ?_)
      | refine Branch.mk (fun h => ?_) (fun h => ?_)
      | (refine Side.mk ?_ ?_; · first | omega | decide)
      | (refine SideD.mk ?_ ?_; · first | omega | decide)
      | refine ⟨_, Nat.lt_succ_self _, To.refl (.inl ⟨rfl, ?_⟩)⟩
      | (refine CallA.mono h33 ?_; rintro _ _ ⟨rfl, rfl⟩)
      | (refine Side.mk ?_ ?_; · (simp; done))
      | fail
      )
  all_goals (conv => whnf)
  by_cases hl0 : l.length = 0
  · have : W = [] := List.length_eq_zero_iff.1 (by omega)
    subst this
    have e0 : es2 l [] l.length = [] := by rw [hl0]; rfl
    rw [e0]
    refine LoopA.unroll _ _ _ 1 ?_
    repeat' ((conv => whnf); first
        | refine Branch.ofT rfl ?_
        | refine Branch.ofF rfl ?_
        | refine Branch.ofF (decide_eq_false (by omega)) ?_
        | refine Branch.dec (fun h => ?_) (fun h => ?_)
        | refine Branch.negdec (fun h => ?_) (fun h => ?_)
        | refine Branch.neg (fun h => ?_) (fun h => ?_)
        | refine Branch.mk (fun h => ?_) (fun h => ?_)
        | (refine Side.mk ?_ ?_; · first | omega | decide)
        | (refine SideD.mk ?_ ?_; · first | omega | decide)
        | refine ⟨_, Nat.lt_succ_self _, To.refl (.inl ⟨rfl, ?_⟩)⟩
        | (refine Side.mk ?_ ?_; · (simp; done))
        | fail
        )
    all_goals (conv => whnf)
    exact RetA.gc [] rfl trivial ⟨rfl, rfl⟩
  have hrV : rV W = .slice 0 0 l.length none 1 := by
    cases W with
    | nil => exact absurd lW.symm hl0
    | cons s r => rw [← lW]; rfl
  have hHR : HR W = ⟨1, [(0, .cells (rws W 0))]⟩ := by
    cases W with
    | nil => exact absurd lW.symm hl0
    | cons s r => rfl
  rw [hrV, hHR]
  refine ⟨L15 l cap W, l.length, To.gc [(0, true)] [0, 3, 4, 5] rfl ⟨dR, trivial⟩ ⟨0, by omega, by omega, rfl, rfl⟩, ?_⟩
  rintro m fr H ⟨k, hk, rfl, rfl, rfl⟩
  by_cases hkl : k < l.length
  · have hkt := evs_at k l hkl
    have gk : l[k]! = l[k] := getElem!_pos l k hkl
    have hes : es2 l W (k + 1) = es2 l W k ++ ek2 l W k k := rfl
    have hEl := es2_len l W k (by omega)
    have hEl : (es2 l W k).length ≤ 3600 := by omega
    generalize es2 l W k = E at *
    repeat' ((conv => whnf); first
        | refine Branch.ofT rfl ?_
        | refine Branch.ofF rfl ?_
        | refine Branch.ofT (decide_eq_true (by omega)) ?_
        | refine Branch.dec (fun h => ?_) (fun h => ?_)
        | refine Branch.negdec (fun h => ?_) (fun h => ?_)
        | refine Branch.neg (fun h => ?_) (fun h => ?_)
        | refine Branch.mk (fun h => ?_) (fun h => ?_)
        | (refine Side.mk ?_ ?_; · first | omega | decide)
        | (refine SideD.mk ?_ ?_; · first | omega | decide)
        | refine ⟨_, Nat.lt_succ_self _, To.refl (.inl ⟨rfl, ?_⟩)⟩
        | (refine Side.mk ?_ ?_; · (simp; done))
        | fail
        )
    all_goals (conv => whnf)
    refine ⟨L15a l cap W k E, k, ?_, ?_⟩
    · cases E with
      | nil => exact To.gc [(0, true)] [0, 3, 4, 5, 6] rfl ⟨dR, trivial⟩ ⟨0, by omega, by omega, rfl, rfl⟩
      | cons e r => exact To.gc [(0, true), (1, true)] [0, 3, 4, 5, 6] rfl ⟨dR, dE (e :: r), trivial⟩ ⟨0, by omega, by omega, by rw [ek2, List.append_nil]; rfl, by rw [ek2, List.append_nil]; rfl⟩
    rintro m fr H ⟨i, hi, rfl, rfl, rfl⟩
    by_cases hik : i < k
    · have hit := evs_at i l (by omega)
      have gi : l[i]! = l[i] := getElem!_pos l i (by omega)
      have h12 := c12 l[i] l[k] (hok i (by omega)) (hok k hkl)
      have hst : E ++ ek2 l W k (i + 1) = if (decide (l[i].cpu = l[k].cpu) = false ∧ con l[i] l[k] = true) ∧ lg W k i (k - 1 - i) = false then (E ++ ek2 l W k i) ++ [((i : Int), (k : Int))] else E ++ ek2 l W k i := by
        rw [ek2, gi, gk]; split
        · rw [List.append_assoc]
        · rfl
      have hGl : (E ++ ek2 l W k i).length ≤ 5000 := by
        have := ek2_len l W k i
        rw [List.length_append]; omega
      generalize E ++ ek2 l W k i = G at *
      obtain ⟨bc, hbc⟩ : ∃ b, con l[i] l[k] = b := ⟨_, rfl⟩
      rw [hbc] at h12 hst
      cases G with
      | nil =>
        repeat' ((conv => whnf); first
            | refine Branch.ofT rfl ?_
            | refine Branch.ofF rfl ?_
            | refine Branch.ofT (decide_eq_true (by omega)) ?_
            | refine Branch.dec (fun h => ?_) (fun h => ?_)
            | refine Branch.negdec (fun h => ?_) (fun h => ?_)
            | refine Branch.neg (fun h => ?_) (fun h => ?_)
            | refine Branch.mk (fun h => ?_) (fun h => ?_)
            | (refine Side.mk ?_ ?_; · first | omega | decide)
            | (refine SideD.mk ?_ ?_; · first | omega | decide)
            | refine ⟨_, Nat.lt_succ_self _, To.refl (.inl ⟨rfl, ?_⟩)⟩
            | refine nt0 hit ?_
            | refine nt0 hkt ?_
            | refine tk3 hit ?_
            | refine tk3 hkt ?_
            | refine QCallA.of h12 rfl rfl ?_
            | (refine Side.mk ?_ ?_; · (simp; done))
            | fail
            )
        all_goals (conv => whnf)
        all_goals first
          | (have hn : E ++ ek2 l W k (i + 1) = [] := by
              rw [hst, if_neg (fun q => by obtain ⟨⟨q1, q2⟩, q3⟩ := q; simp_all)]
             exact ⟨k - (i + 1), by omega, To.gc [(0, true)] [0, 3, 4, 5, 6] rfl ⟨dR, trivial⟩ ⟨i + 1, by omega, rfl, by rw [hn]; rfl, by rw [hn]; rfl⟩⟩)
          | skip
        refine ⟨L15x l cap W k i [], k - 1 - i, To.gc [(0, true)] [0, 3, 4, 5, 6, 7, 8] rfl ⟨dR, trivial⟩ ⟨0, by omega, by omega, rfl, rfl⟩, ?_⟩
        rintro m fr H ⟨n, hn, rfl, rfl, rfl⟩
        by_cases hnk : n < k - 1 - i
        · have hs : lg W k i (n + 1) = (lg W k i n || (W[i + 1 + n]!.testBit i && W[k]!.testBit (i + 1 + n))) := rfl
          obtain ⟨b0, hb0⟩ : ∃ b, lg W k i n = b := ⟨_, rfl⟩
          obtain ⟨b1, hb1⟩ : ∃ b, W[i + 1 + n]!.testBit i = b := ⟨_, rfl⟩
          obtain ⟨b2, hb2⟩ : ∃ b, W[k]!.testBit (i + 1 + n) = b := ⟨_, rfl⟩
          rw [hb0, hb1, hb2] at hs
          rw [hb0]
          cases b0 <;> cases b1
          all_goals
            repeat' ((conv => whnf); first
                | refine Branch.ofT rfl ?_
                | refine Branch.ofF rfl ?_
                | refine Branch.ofT (decide_eq_true (by omega)) ?_
                | refine Branch.dec (fun h => ?_) (fun h => ?_)
                | refine Branch.negdec (fun h => ?_) (fun h => ?_)
                | refine Branch.neg (fun h => ?_) (fun h => ?_)
                | refine Branch.mk (fun h => ?_) (fun h => ?_)
                | (refine Side.mk ?_ ?_; · first | omega | decide)
                | (refine SideD.mk ?_ ?_; · first | omega | decide)
                | refine ⟨_, Nat.lt_succ_self _, To.refl (.inl ⟨rfl, ?_⟩)⟩
                | refine nth_rwW (i := i + 1 + n) (by omega) (by omega) ?_
                | refine nth_rwW (i := k) (by omega) (by omega) ?_
                | refine nth_bbb (n := i + 1 + n) (by omega) (by omega) hb1 ?_
                | refine nth_bbb (n := k) (by omega) (by omega) hb2 ?_
                | (refine Side.mk ?_ ?_; · (simp; done))
                | fail
                )
            all_goals (conv => whnf)
          all_goals exact ⟨k - 1 - i - (n + 1), by omega, To.gc [(0, true)] [0, 3, 4, 5, 6, 7, 8] rfl ⟨dR, trivial⟩ ⟨n + 1, by omega, rfl, by rw [hs]; rfl, rfl⟩⟩
        · have : n = k - 1 - i := by omega
          subst this
          obtain ⟨b, hb⟩ : ∃ b, lg W k i (k - 1 - i) = b := ⟨_, rfl⟩
          rw [hb]
          rw [hb] at hst
          cases b
          · repeat' ((conv => whnf); first
                | refine Branch.ofT rfl ?_
                | refine Branch.ofF rfl ?_
                | refine Branch.ofF (decide_eq_false (by omega)) ?_
                | refine Branch.dec (fun h => ?_) (fun h => ?_)
                | refine Branch.negdec (fun h => ?_) (fun h => ?_)
                | refine Branch.neg (fun h => ?_) (fun h => ?_)
                | refine Branch.mk (fun h => ?_) (fun h => ?_)
                | (refine Side.mk ?_ ?_; · first | omega | decide)
                | (refine SideD.mk ?_ ?_; · first | omega | decide)
                | refine ⟨_, Nat.lt_succ_self _, To.refl (.inl ⟨rfl, ?_⟩)⟩
                | refine Side.mk (app1 _ _) ?_
                | (refine Side.mk ?_ ?_; · (simp; done))
                | fail
                )
            all_goals (conv => whnf)
            have hn : E ++ ek2 l W k (i + 1) = [((i : Int), (k : Int))] := by rw [hst, if_pos ⟨⟨decide_eq_false ‹¬ l[i].cpu = l[k].cpu›, ‹bc = true›⟩, rfl⟩]; rfl
            exact ⟨k - (i + 1), by omega, To.gc [(0, true), (1, true)] [0, 3, 4, 5, 6] rfl ⟨dR, datE rfl, trivial⟩ ⟨i + 1, by omega, rfl, by rw [hn]; rfl, by rw [hn]; rfl⟩⟩
          · repeat' ((conv => whnf); first
                | refine Branch.ofT rfl ?_
                | refine Branch.ofF rfl ?_
                | refine Branch.ofF (decide_eq_false (by omega)) ?_
                | refine Branch.dec (fun h => ?_) (fun h => ?_)
                | refine Branch.negdec (fun h => ?_) (fun h => ?_)
                | refine Branch.neg (fun h => ?_) (fun h => ?_)
                | refine Branch.mk (fun h => ?_) (fun h => ?_)
                | (refine Side.mk ?_ ?_; · first | omega | decide)
                | (refine SideD.mk ?_ ?_; · first | omega | decide)
                | refine ⟨_, Nat.lt_succ_self _, To.refl (.inl ⟨rfl, ?_⟩)⟩
                | (refine Side.mk ?_ ?_; · (simp; done))
                | fail
                )
            all_goals (conv => whnf)
            have hn : E ++ ek2 l W k (i + 1) = [] := by
              rw [hst, if_neg (fun q => by obtain ⟨⟨q1, q2⟩, q3⟩ := q; simp_all)]
            exact ⟨k - (i + 1), by omega, To.gc [(0, true)] [0, 3, 4, 5, 6] rfl ⟨dR, trivial⟩ ⟨i + 1, by omega, rfl, by rw [hn]; rfl, by rw [hn]; rfl⟩⟩
      | cons g q =>
        repeat' ((conv => whnf); first
            | refine Branch.ofT rfl ?_
            | refine Branch.ofF rfl ?_
            | refine Branch.ofT (decide_eq_true (by omega)) ?_
            | refine Branch.dec (fun h => ?_) (fun h => ?_)
            | refine Branch.negdec (fun h => ?_) (fun h => ?_)
            | refine Branch.neg (fun h => ?_) (fun h => ?_)
            | refine Branch.mk (fun h => ?_) (fun h => ?_)
            | (refine Side.mk ?_ ?_; · first | omega | decide)
            | (refine SideD.mk ?_ ?_; · first | omega | decide)
            | refine ⟨_, Nat.lt_succ_self _, To.refl (.inl ⟨rfl, ?_⟩)⟩
            | refine nt0 hit ?_
            | refine nt0 hkt ?_
            | refine tk3 hit ?_
            | refine tk3 hkt ?_
            | refine QCallA.of h12 rfl rfl ?_
            | (refine Side.mk ?_ ?_; · (simp; done))
            | fail
            )
        all_goals (conv => whnf)
        all_goals first
          | (have hn : E ++ ek2 l W k (i + 1) = (g :: q) := by
              rw [hst, if_neg (fun q => by obtain ⟨⟨q1, q2⟩, q3⟩ := q; simp_all)]
             exact ⟨k - (i + 1), by omega, To.gc [(0, true), (1, true)] [0, 3, 4, 5, 6] rfl ⟨dR, dE (g :: q), trivial⟩ ⟨i + 1, by omega, rfl, by rw [hn]; rfl, by rw [hn]; rfl⟩⟩)
          | skip
        refine ⟨L15x l cap W k i (g :: q), k - 1 - i, To.gc [(0, true), (1, true)] [0, 3, 4, 5, 6, 7, 8] rfl ⟨dR, dE (g :: q), trivial⟩ ⟨0, by omega, by omega, rfl, rfl⟩, ?_⟩
        rintro m fr H ⟨n, hn, rfl, rfl, rfl⟩
        by_cases hnk : n < k - 1 - i
        · have hs : lg W k i (n + 1) = (lg W k i n || (W[i + 1 + n]!.testBit i && W[k]!.testBit (i + 1 + n))) := rfl
          obtain ⟨b0, hb0⟩ : ∃ b, lg W k i n = b := ⟨_, rfl⟩
          obtain ⟨b1, hb1⟩ : ∃ b, W[i + 1 + n]!.testBit i = b := ⟨_, rfl⟩
          obtain ⟨b2, hb2⟩ : ∃ b, W[k]!.testBit (i + 1 + n) = b := ⟨_, rfl⟩
          rw [hb0, hb1, hb2] at hs
          rw [hb0]
          cases b0 <;> cases b1
          all_goals
            repeat' ((conv => whnf); first
                | refine Branch.ofT rfl ?_
                | refine Branch.ofF rfl ?_
                | refine Branch.ofT (decide_eq_true (by omega)) ?_
                | refine Branch.dec (fun h => ?_) (fun h => ?_)
                | refine Branch.negdec (fun h => ?_) (fun h => ?_)
                | refine Branch.neg (fun h => ?_) (fun h => ?_)
                | refine Branch.mk (fun h => ?_) (fun h => ?_)
                | (refine Side.mk ?_ ?_; · first | omega | decide)
                | (refine SideD.mk ?_ ?_; · first | omega | decide)
                | refine ⟨_, Nat.lt_succ_self _, To.refl (.inl ⟨rfl, ?_⟩)⟩
                | refine nth_rwW (i := i + 1 + n) (by omega) (by omega) ?_
                | refine nth_rwW (i := k) (by omega) (by omega) ?_
                | refine nth_bbb (n := i + 1 + n) (by omega) (by omega) hb1 ?_
                | refine nth_bbb (n := k) (by omega) (by omega) hb2 ?_
                | (refine Side.mk ?_ ?_; · (simp; done))
                | fail
                )
            all_goals (conv => whnf)
          all_goals exact ⟨k - 1 - i - (n + 1), by omega, To.gc [(0, true), (1, true)] [0, 3, 4, 5, 6, 7, 8] rfl ⟨dR, dE (g :: q), trivial⟩ ⟨n + 1, by omega, rfl, by rw [hs]; rfl, rfl⟩⟩
        · have : n = k - 1 - i := by omega
          subst this
          obtain ⟨b, hb⟩ : ∃ b, lg W k i (k - 1 - i) = b := ⟨_, rfl⟩
          rw [hb]
          rw [hb] at hst
          cases b
          · repeat' ((conv => whnf); first
                | refine Branch.ofT rfl ?_
                | refine Branch.ofF rfl ?_
                | refine Branch.ofF (decide_eq_false (by omega)) ?_
                | refine Branch.dec (fun h => ?_) (fun h => ?_)
                | refine Branch.negdec (fun h => ?_) (fun h => ?_)
                | refine Branch.neg (fun h => ?_) (fun h => ?_)
                | refine Branch.mk (fun h => ?_) (fun h => ?_)
                | (refine Side.mk ?_ ?_; · first | omega | decide)
                | (refine SideD.mk ?_ ?_; · first | omega | decide)
                | refine ⟨_, Nat.lt_succ_self _, To.refl (.inl ⟨rfl, ?_⟩)⟩
                | refine Side.mk (app2 (g :: q) _ _ hGl) ?_
                | (refine Side.mk ?_ ?_; · (simp; done))
                | fail
                )
            all_goals (conv => whnf)
            have hn : E ++ ek2 l W k (i + 1) = g :: (q ++ [((i : Int), (k : Int))]) := by rw [hst, if_pos ⟨⟨decide_eq_false ‹¬ l[i].cpu = l[k].cpu›, ‹bc = true›⟩, rfl⟩]; rfl
            exact ⟨k - (i + 1), by omega, To.gc [(0, true), (2, true)] [0, 3, 4, 5, 6] rfl ⟨dR, datA (g :: q) _ _, trivial⟩ ⟨i + 1, by omega, rfl, by rw [hn, ← oV_app1]; rfl, by rw [hn, ← HR2_app]; rfl⟩⟩
          · repeat' ((conv => whnf); first
                | refine Branch.ofT rfl ?_
                | refine Branch.ofF rfl ?_
                | refine Branch.ofF (decide_eq_false (by omega)) ?_
                | refine Branch.dec (fun h => ?_) (fun h => ?_)
                | refine Branch.negdec (fun h => ?_) (fun h => ?_)
                | refine Branch.neg (fun h => ?_) (fun h => ?_)
                | refine Branch.mk (fun h => ?_) (fun h => ?_)
                | (refine Side.mk ?_ ?_; · first | omega | decide)
                | (refine SideD.mk ?_ ?_; · first | omega | decide)
                | refine ⟨_, Nat.lt_succ_self _, To.refl (.inl ⟨rfl, ?_⟩)⟩
                | (refine Side.mk ?_ ?_; · (simp; done))
                | fail
                )
            all_goals (conv => whnf)
            have hn : E ++ ek2 l W k (i + 1) = (g :: q) := by
              rw [hst, if_neg (fun q => by obtain ⟨⟨q1, q2⟩, q3⟩ := q; simp_all)]
            exact ⟨k - (i + 1), by omega, To.gc [(0, true), (1, true)] [0, 3, 4, 5, 6] rfl ⟨dR, dE (g :: q), trivial⟩ ⟨i + 1, by omega, rfl, by rw [hn]; rfl, by rw [hn]; rfl⟩⟩
    · have : i = k := by omega
      subst this
      rw [← hes]
      generalize hG : es2 l W (i + 1) = G at *
      cases G with
      | nil =>
        repeat' ((conv => whnf); first
            | refine Branch.ofT rfl ?_
            | refine Branch.ofF rfl ?_
            | refine Branch.ofF (decide_eq_false (by omega)) ?_
            | refine Branch.dec (fun h => ?_) (fun h => ?_)
            | refine Branch.negdec (fun h => ?_) (fun h => ?_)
            | refine Branch.neg (fun h => ?_) (fun h => ?_)
            | refine Branch.mk (fun h => ?_) (fun h => ?_)
            | (refine Side.mk ?_ ?_; · first | omega | decide)
            | (refine SideD.mk ?_ ?_; · first | omega | decide)
            | refine ⟨_, Nat.lt_succ_self _, To.refl (.inl ⟨rfl, ?_⟩)⟩
            | (refine Side.mk ?_ ?_; · (simp; done))
            | fail
            )
        all_goals (conv => whnf)
        exact ⟨l.length - (i + 1), by omega, To.gc [(0, true)] [0, 3, 4, 5] rfl ⟨dR, trivial⟩ ⟨i + 1, by omega, rfl, by rw [hG]; rfl, by rw [hG]; rfl⟩⟩
      | cons g q =>
        repeat' ((conv => whnf); first
            | refine Branch.ofT rfl ?_
            | refine Branch.ofF rfl ?_
            | refine Branch.ofF (decide_eq_false (by omega)) ?_
            | refine Branch.dec (fun h => ?_) (fun h => ?_)
            | refine Branch.negdec (fun h => ?_) (fun h => ?_)
            | refine Branch.neg (fun h => ?_) (fun h => ?_)
            | refine Branch.mk (fun h => ?_) (fun h => ?_)
            | (refine Side.mk ?_ ?_; · first | omega | decide)
            | (refine SideD.mk ?_ ?_; · first | omega | decide)
            | refine ⟨_, Nat.lt_succ_self _, To.refl (.inl ⟨rfl, ?_⟩)⟩
            | (refine Side.mk ?_ ?_; · (simp; done))
            | fail
            )
        all_goals (conv => whnf)
        exact ⟨l.length - (i + 1), by omega, To.gc [(0, true), (1, true)] [0, 3, 4, 5] rfl ⟨dR, dE (g :: q), trivial⟩ ⟨i + 1, by omega, rfl, by rw [hG]; rfl, by rw [hG]; rfl⟩⟩
  · have : k = l.length := by omega
    subst this
    generalize es2 l W l.length = E at *
    cases E with
    | nil =>
      repeat' ((conv => whnf); first
          | refine Branch.ofT rfl ?_
          | refine Branch.ofF rfl ?_
          | refine Branch.ofF (decide_eq_false (by omega)) ?_
          | refine Branch.dec (fun h => ?_) (fun h => ?_)
          | refine Branch.negdec (fun h => ?_) (fun h => ?_)
          | refine Branch.neg (fun h => ?_) (fun h => ?_)
          | refine Branch.mk (fun h => ?_) (fun h => ?_)
          | (refine Side.mk ?_ ?_; · first | omega | decide)
          | (refine SideD.mk ?_ ?_; · first | omega | decide)
          | refine ⟨_, Nat.lt_succ_self _, To.refl (.inl ⟨rfl, ?_⟩)⟩
          | (refine Side.mk ?_ ?_; · (simp; done))
          | fail
          )
      all_goals (conv => whnf)
      exact RetA.gc [] rfl trivial ⟨rfl, rfl⟩
    | cons e r =>
      repeat' ((conv => whnf); first
          | refine Branch.ofT rfl ?_
          | refine Branch.ofF rfl ?_
          | refine Branch.ofF (decide_eq_false (by omega)) ?_
          | refine Branch.dec (fun h => ?_) (fun h => ?_)
          | refine Branch.negdec (fun h => ?_) (fun h => ?_)
          | refine Branch.neg (fun h => ?_) (fun h => ?_)
          | refine Branch.mk (fun h => ?_) (fun h => ?_)
          | (refine Side.mk ?_ ?_; · first | omega | decide)
          | (refine SideD.mk ?_ ?_; · first | omega | decide)
          | refine ⟨_, Nat.lt_succ_self _, To.refl (.inl ⟨rfl, ?_⟩)⟩
          | (refine Side.mk ?_ ?_; · (simp; done))
          | fail
          )
      all_goals (conv => whnf)
      exact RetA.gc [(1, true)] rfl ⟨dE (e :: r), trivial⟩ ⟨rfl, rfl⟩
end Go.Proofs

namespace Go.Proofs
open Go Go.Eng
set_option maxRecDepth 100000
set_option maxHeartbeats 4000000
theorem _root_.Go.Eng.RetA.weakV {n : Nat} {K : AV → Heap → Prop} {v r : AV} {H : Heap} (hw : ∀ M μ u, relV M v μ u → relV M r μ u) (h : RetA n K r H) : RetA n K v H := by
  obtain ⟨r', H', h1, h2⟩ := h
  refine ⟨r', H', fun N M μ w tmps R F hn => h1 N M μ w tmps R ⟨F.glob, F.size, fun t => ?_⟩ hn, h2⟩
  have := F.slot t
  unfold Go.Eng.look at this ⊢
  by_cases e : 0 = t
  · subst e
    simp only [Nat.beq_refl, cond_true] at this ⊢
    exact hw _ _ _ this
  · rw [beq_false e] at this ⊢; exact this
theorem acs_nil {A : List Acc} (h : A.length = 0) : acs A = [] := by
  cases A with
  | nil => rfl
  | cons x r => cases h
theorem c24 (A : List Acc) (cap : Option Nat) (hl : A.length ≤ 1000) : CallA Try.prog 24 [.dslice (acs A) A.length cap] Heap.nil fun v H' => v = .dslice (acs A) A.length none ∧ H' = Heap.nil := by
  have ht : (acs A).take (A.length * 3) = acs A := by rw [← acs_len, List.take_length]
  have hln : A.length * 3 ≤ (acs A).length := by rw [acs_len]; exact Nat.le_refl _
  refine callA_of ok24 (Nat.le_of_ble_eq_true rfl) ?_
  repeat' ((conv => whnf); first
      | refine Branch.ofT rfl ?_
      | refine Branch.ofF rfl ?_
      | refine Branch.dec (fun h => ?_) (fun h => ?_)
      | refine Branch.negdec (fun h => ?_) (fun h => ?_)
      | refine Branch.neg (fun h => ?_) (fun h => ?_)
      | refine Branch.mk (fun h => ?_) (fun h => ?_)
      | (refine Side.mk ?_ ?_; · first | omega | decide)
      | (refine SideD.mk ?_ ?_; · first | omega | decide)
      | refine ⟨_, Nat.lt_succ_self _, To.refl (.inl ⟨rfl, ?_⟩)⟩
      | refine Unk.mk (fun h => ?_) ?_
      | refine Side.mk hln ?_
      | refine Side.mk ⟨rfl, rfl, rfl, by unfold fits; omega, fun c hc => acs_scal A c (List.mem_of_mem_take hc)⟩ ?_
      | (refine Side.mk ?_ ?_; · (simp; done))
      | fail
      )
  all_goals (conv => whnf)
  · refine RetA.weakV (r := .dslice [] 0 none) (fun M μ u hu => ?_) (RetA.data rfl ⟨?_, rfl⟩)
    · simp only [one, relV] at hu
      simp [relV, hu]
    · rw [acs_nil h, h]
  · refine RetA.pub 1 rfl (fun c hc => ?_) (RetA.data rfl ⟨?_, rfl⟩)
    · rw [ht] at hc; exact acs_noLoc A c hc
    · show AV.dslice (List.take ((0 + A.length) * 3) (List.drop 0 (List.take (A.length * 3) (acs A)))) (0 + A.length) none = _
      rw [Nat.zero_add, List.drop_zero, ht, ht]
end Go.Proofs

namespace Go.Proofs
open Go Go.Eng
set_option maxRecDepth 100000
set_option maxHeartbeats 4000000
/-- An effect: its accesses and whether it asks; nothing else is looked at. -/
def eff (pre : List AV) (A : List Acc) (cap : Option Nat) (b : Bool) (post : List AV) : List AV := pre ++ .dslice (acs A) A.length cap :: .bool b :: post
theorem eff_63 {pre : List AV} {A : List Acc} {cap : Option Nat} {b : Bool} {post : List AV} (h : pre.length = 63) : (eff pre A cap b post).drop 63 = .dslice (acs A) A.length cap :: .bool b :: post := by
  unfold eff; rw [← h, List.drop_left]
theorem eff_64 {pre : List AV} {A : List Acc} {cap : Option Nat} {b : Bool} {post : List AV} (h : pre.length = 63) : (eff pre A cap b post).drop 64 = .bool b :: post := by
  rw [show 64 = 63 + 1 from rfl, ← List.drop_drop, eff_63 h]; rfl
theorem eff_len {pre : List AV} {A : List Acc} {cap : Option Nat} {b : Bool} {post : List AV} (h : pre.length = 63) (hp : post.length = 6) : (eff pre A cap b post).length = 71 := by
  unfold eff; simp [h, hp]
theorem c9 (pre : List AV) (A : List Acc) (cap : Option Nat) (b : Bool) (post : List AV) (cpu : Int) (h : pre.length = 63) (hl : A.length ≤ 1000) : CallA Try.prog 9 [.agg (eff pre A cap b post), I cpu] Heap.nil fun v H' => v = evv ⟨cpu, b, A, none⟩ ∧ H' = Heap.nil := by
  have h24 := c24 A cap hl
  have e63 := eff_63 (A := A) (cap := cap) (b := b) (post := post) h
  have e64 := eff_64 (A := A) (cap := cap) (b := b) (post := post) h
  generalize eff pre A cap b post = E at *
  refine callA_of ok9 (Nat.le_of_ble_eq_true rfl) ?_
  repeat' ((conv => whnf); first
      | refine Branch.ofT rfl ?_
      | refine Branch.ofF rfl ?_
      | refine Branch.dec (fun h => ?_) (fun h => ?_)
      | refine Branch.negdec (fun h => ?_) (fun h => ?_)
      | refine Branch.neg (fun h => ?_) (fun h => ?_)
      | refine Branch.mk (fun h => ?_) (fun h => ?_)
      | (refine Side.mk ?_ ?_; · first | omega | decide)
      | (refine SideD.mk ?_ ?_; · first | omega | decide)
      | refine ⟨_, Nat.lt_succ_self _, To.refl (.inl ⟨rfl, ?_⟩)⟩
      | refine nthK_at e64 ?_
      | refine nthK_at e63 ?_
      | refine QCallA.of h24 rfl rfl ?_
      | (refine Side.mk ?_ ?_; · (simp; done))
      | fail
      )
  all_goals (conv => whnf)
  exact RetA.data rfl ⟨rfl, rfl⟩
theorem c10 (pre : List AV) (A : List Acc) (cap : Option Nat) (b : Bool) (post : List AV) (cpu : Int) (h : pre.length = 63) (hl : A.length ≤ 1000) : CallA Try.prog 10 [.agg (eff pre A cap b post), I cpu] Heap.nil fun v H' => v = evv ⟨cpu, b, A, none⟩ ∧ H' = Heap.nil := by
  have e63 := eff_63 (A := A) (cap := cap) (b := b) (post := post) h
  have e64 := eff_64 (A := A) (cap := cap) (b := b) (post := post) h
  have ht : (acs A).take (A.length * 3) = acs A := by rw [← acs_len, List.take_length]
  have hln : A.length * 3 ≤ (acs A).length := by rw [acs_len]; exact Nat.le_refl _
  generalize eff pre A cap b post = E at *
  refine callA_of ok10 (Nat.le_of_ble_eq_true rfl) ?_
  repeat' ((conv => whnf); first
      | refine Branch.ofT rfl ?_
      | refine Branch.ofF rfl ?_
      | refine Branch.dec (fun h => ?_) (fun h => ?_)
      | refine Branch.negdec (fun h => ?_) (fun h => ?_)
      | refine Branch.neg (fun h => ?_) (fun h => ?_)
      | refine Branch.mk (fun h => ?_) (fun h => ?_)
      | (refine Side.mk ?_ ?_; · first | omega | decide)
      | (refine SideD.mk ?_ ?_; · first | omega | decide)
      | refine ⟨_, Nat.lt_succ_self _, To.refl (.inl ⟨rfl, ?_⟩)⟩
      | refine nthK_at e64 ?_
      | refine nthK_at e63 ?_
      | refine Side.mk hln ?_
      | refine Side.mk ⟨rfl, rfl, rfl, by unfold fits; omega, fun c hc => acs_scal A c (List.mem_of_mem_take hc)⟩ ?_
      | (refine Side.mk ?_ ?_; · (simp; done))
      | fail
      )
  all_goals (conv => whnf)
  refine RetA.pub 8 rfl (fun c hc => ?_) (RetA.data rfl ⟨?_, rfl⟩)
  · rw [ht] at hc; exact acs_noLoc A c hc
  · show AV.agg [I cpu, .bool b, AV.dslice (List.take ((0 + A.length) * 3) (List.drop 0 (List.take (A.length * 3) (acs A)))) (0 + A.length) none] = _
    rw [Nat.zero_add, List.drop_zero, ht, ht]; rfl
def L8 (a : Ev) (m : Nat) (fr : Fr) (H : Heap) : Prop := ∃ i : Nat, i ≤ a.l.length ∧ m = a.l.length - i ∧ fr = [(2, .ptr 0 0), (3, .ptr 1 0), (5, I i)] ∧ H = ⟨2, [(0, .cells [I a.cpu, .bool a.bd, .dslice (acs a.l) a.l.length a.cap]), (1, .cells [I a.cpu, .bool a.bd, .dslice (acs a.l) a.l.length a.cap])]⟩
theorem c8 (a : Ev) (hl : a.l.length ≤ 1000) : CallA Try.prog 8 [evv a, evv a] Heap.nil fun v H' => v = .bool true ∧ H' = Heap.nil := by
  refine callA_of ok8 (Nat.le_of_ble_eq_true rfl) ?_
  repeat' ((conv => whnf); first
      | refine Branch.ofT rfl ?_
      | refine Branch.ofF rfl ?_
      | refine Branch.ofF (by simp) ?_
      | refine Branch.dec (fun h => ?_) (fun h => ?_)
      | refine Branch.negdec (fun h => ?_) (fun h => ?_)
      | refine Branch.neg (fun h => ?_) (fun h => ?_)
      | refine Branch.mk (fun h => ?_) (fun h => ?_)
      | (refine Side.mk ?_ ?_; · first | omega | decide)
      | (refine SideD.mk ?_ ?_; · first | omega | decide)
      | refine ⟨_, Nat.lt_succ_self _, To.refl (.inl ⟨rfl, ?_⟩)⟩
      | (refine Side.mk ?_ ?_; · (simp; done))
      | fail
      )
  all_goals (conv => whnf)
  refine ⟨L8 a, a.l.length, To.gc [(0, true), (1, true)] [2, 3, 5] rfl ⟨datE rfl, datE rfl, trivial⟩ ⟨0, by omega, by omega, rfl, rfl⟩, ?_⟩
  rintro m fr H ⟨i, hi, rfl, rfl, rfl⟩
  by_cases hil : i < a.l.length
  · have hat := acs_at i a.l hil
    repeat' ((conv => whnf); first
        | refine Branch.ofT rfl ?_
        | refine Branch.ofF rfl ?_
        | refine Branch.ofT (decide_eq_true (by omega)) ?_
        | refine Branch.ofF (by simp) ?_
        | refine Branch.dec (fun h => ?_) (fun h => ?_)
        | refine Branch.negdec (fun h => ?_) (fun h => ?_)
        | refine Branch.neg (fun h => ?_) (fun h => ?_)
        | refine Branch.mk (fun h => ?_) (fun h => ?_)
        | (refine Side.mk ?_ ?_; · first | omega | decide)
        | (refine SideD.mk ?_ ?_; · first | omega | decide)
        | refine ⟨_, Nat.lt_succ_self _, To.refl (.inl ⟨rfl, ?_⟩)⟩
        | refine tk3 hat ?_
        | (refine Side.mk ?_ ?_; · (simp; done))
        | fail
        )
    all_goals (conv => whnf)
    exact ⟨a.l.length - (i + 1), by omega, To.gc [(0, true), (1, true)] [2, 3, 5] rfl ⟨datE rfl, datE rfl, trivial⟩ ⟨i + 1, by omega, rfl, rfl, rfl⟩⟩
  · have : i = a.l.length := by omega
    subst this
    repeat' ((conv => whnf); first
        | refine Branch.ofT rfl ?_
        | refine Branch.ofF rfl ?_
        | refine Branch.ofF (decide_eq_false (by omega)) ?_
        | refine Branch.dec (fun h => ?_) (fun h => ?_)
        | refine Branch.negdec (fun h => ?_) (fun h => ?_)
        | refine Branch.neg (fun h => ?_) (fun h => ?_)
        | refine Branch.mk (fun h => ?_) (fun h => ?_)
        | (refine Side.mk ?_ ?_; · first | omega | decide)
        | (refine SideD.mk ?_ ?_; · first | omega | decide)
        | refine ⟨_, Nat.lt_succ_self _, To.refl (.inl ⟨rfl, ?_⟩)⟩
        | (refine Side.mk ?_ ?_; · (simp; done))
        | fail
        )
    all_goals (conv => whnf)
    exact RetA.data rfl ⟨rfl, rfl⟩
end Go.Proofs

namespace Go.Proofs
open Go Go.Eng
set_option maxRecDepth 100000
set_option maxHeartbeats 4000000
theorem _root_.Go.Eng.pubAll_data {η : Nat → AB} : ∀ {cs : List AV}, (∀ c ∈ cs, noLoc c = true) → pubAll (pubE η 0) cs = some cs
  | [], _ => rfl
  | c :: r, h => by
    have h1 := h c (List.mem_cons_self ..)
    have h2 := pubAll_data (η := η) (cs := r) fun x hx => h x (List.mem_cons_of_mem _ hx)
    have h3 : pubE η 0 c = some c := by simp only [pubE, h1, cond_true]
    simp only [pubAll, h3, h2]
/-- Edges, as data. -/
def dV : List (Int × Int) → AV
  | [] => .nils
  | e :: r => .dslice (ecs (e :: r)) (r.length + 1) none
theorem dV_noLoc (E : List (Int × Int)) : noLoc (dV E) = true := by cases E <;> rfl
theorem ecs_take (E : List (Int × Int)) : (ecs E).take (E.length * 2) = ecs E := by rw [← ecs_len, List.take_length]
theorem pub_oV {η : Nat → AB} {p : Nat} {E : List (Int × Int)} (h : E ≠ [] → η p = .cells (ecs E)) : pubE η 1 (oV p E) = some (dV E) := by
  cases E with
  | nil => rfl
  | cons e r =>
    have := h (by simp)
    show (match η p with
      | .cells cs => match pubAll (pubE η 0) ((cs.drop 0).take ((r.length + 1) * 2)) with
        | some l => some (AV.dslice l (r.length + 1) none)
        | none => none
      | _ => none) = _
    rw [this]
    have ht := ecs_take (e :: r)
    simp only [List.length_cons] at ht
    simp only [List.drop_zero, ht, pubAll_data (ecs_noLoc (e :: r))]
    rfl
theorem c14d (l : List Ev) (cap : Option Nat) (hl : l.length ≤ 60) (hok : ∀ i (h : i < l.length), l[i].ok) :
    CallA Try.prog 14 [.dslice (evs l) l.length cap] Heap.nil fun v H' => v = dV (es2 l (ws l l.length) l.length) ∧ H' = Heap.nil := by
  refine CallA.out 1 (c14 l cap hl hok) ?_
  rintro v H' ⟨rfl, rfl⟩
  refine ⟨_, pub_oV fun hne => ?_, ?_, rfl⟩
  · cases he : es l (ds l l.length) (ws l l.length) l.length with
    | nil => exact absurd he hne
    | cons e r => rfl
  · rw [es_eq l l.length l.length (Nat.le_refl _)]
theorem c15d (l : List Ev) (cap : Option Nat) (hl : l.length ≤ 60) (hok : ∀ i (h : i < l.length), l[i].ok) :
    CallA Try.prog 15 [.dslice (evs l) l.length cap] Heap.nil fun v H' => v = dV (es2 l (ws l l.length) l.length) ∧ H' = Heap.nil := by
  refine CallA.out 1 (c15 l cap hl hok) ?_
  rintro v H' ⟨rfl, rfl⟩
  refine ⟨_, pub_oV fun hne => ?_, rfl, rfl⟩
  cases he : es2 l (ws l l.length) l.length with
  | nil => exact absurd he hne
  | cons e r => rfl
def L13d (es : List (Int × Int)) (m : Nat) (fr : Fr) (H : Heap) : Prop := ∃ i : Nat, i ≤ es.length ∧ m = es.length - i ∧ fr = [(0, .dslice (ecs es) es.length none), (1, .dslice (ecs es) es.length none), (5, I i)] ∧ H = Heap.nil
theorem c13d (es : List (Int × Int)) (hl : es.length ≤ 10000) : CallA Try.prog 13 [dV es, dV es] Heap.nil fun v H' => v = .bool true ∧ H' = Heap.nil := by
  cases es with
  | nil => exact c13n
  | cons e r =>
    show CallA Try.prog 13 [.dslice (ecs (e :: r)) (e :: r).length none, .dslice (ecs (e :: r)) (e :: r).length none] _ _
    generalize e :: r = es at *
    refine callA_of ok13 (Nat.le_of_ble_eq_true rfl) ?_
    repeat' ((conv => whnf); first
        | refine Branch.ofT rfl ?_
        | refine Branch.ofF rfl ?_
        | refine Branch.ofF (by simp) ?_
        | refine Branch.dec (fun h => ?_) (fun h => ?_)
        | refine Branch.negdec (fun h => ?_) (fun h => ?_)
        | refine Branch.neg (fun h => ?_) (fun h => ?_)
        | refine Branch.mk (fun h => ?_) (fun h => ?_)
        | (refine Side.mk ?_ ?_; · first | omega | decide)
        | (refine SideD.mk ?_ ?_; · first | omega | decide)
        | refine ⟨_, Nat.lt_succ_self _, To.refl (.inl ⟨rfl, ?_⟩)⟩
        | (refine Side.mk ?_ ?_; · (simp; done))
        | fail
        )
    all_goals (conv => whnf)
    refine ⟨L13d es, es.length, To.gc [] [0, 1, 5] rfl trivial ⟨0, by omega, by omega, rfl, rfl⟩, ?_⟩
    rintro m fr H ⟨i, hi, rfl, rfl, rfl⟩
    by_cases hil : i < es.length
    · repeat' ((conv => whnf); first
          | refine Branch.ofT rfl ?_
          | refine Branch.ofF rfl ?_
          | refine Branch.ofT (decide_eq_true (by omega)) ?_
          | refine Branch.ofF (by simp) ?_
          | refine Branch.dec (fun h => ?_) (fun h => ?_)
          | refine Branch.negdec (fun h => ?_) (fun h => ?_)
          | refine Branch.neg (fun h => ?_) (fun h => ?_)
          | refine Branch.mk (fun h => ?_) (fun h => ?_)
          | (refine Side.mk ?_ ?_; · first | omega | decide)
          | (refine SideD.mk ?_ ?_; · first | omega | decide)
          | refine ⟨_, Nat.lt_succ_self _, To.refl (.inl ⟨rfl, ?_⟩)⟩
          | refine tke hil (by omega) ?_
          | (refine Side.mk ?_ ?_; · (simp; done))
          | fail
          )
      all_goals (conv => whnf)
      exact ⟨es.length - (i + 1), by omega, To.gc [] [0, 1, 5] rfl trivial ⟨i + 1, by omega, rfl, rfl, rfl⟩⟩
    · have : i = es.length := by omega
      subst this
      repeat' ((conv => whnf); first
          | refine Branch.ofT rfl ?_
          | refine Branch.ofF rfl ?_
          | refine Branch.ofF (decide_eq_false (by omega)) ?_
          | refine Branch.dec (fun h => ?_) (fun h => ?_)
          | refine Branch.negdec (fun h => ?_) (fun h => ?_)
          | refine Branch.neg (fun h => ?_) (fun h => ?_)
          | refine Branch.mk (fun h => ?_) (fun h => ?_)
          | (refine Side.mk ?_ ?_; · first | omega | decide)
          | (refine SideD.mk ?_ ?_; · first | omega | decide)
          | refine ⟨_, Nat.lt_succ_self _, To.refl (.inl ⟨rfl, ?_⟩)⟩
          | (refine Side.mk ?_ ?_; · (simp; done))
          | fail
          )
      all_goals (conv => whnf)
      exact RetA.data rfl ⟨rfl, rfl⟩
end Go.Proofs

set_option maxRecDepth 100000
namespace Go.Proofs
open Go Go.Eng
/-- simulacrum/simulacrumlaw21.OrderFindsAsSpecified -/
def ac3 : AC := (.seq (.reg [⟨some 4, .h (.box (.t 1)), none⟩,
    ⟨some 6, .p (.mov (.c (.bool false))), none⟩])
  (.seq (.seq (.reg [⟨some 9, .p (.mov (.t 0)), none⟩,
    ⟨some 10, .call 6 [(.t 9), (.c (.int .i64 60))], none⟩,
    ⟨some 11, .p (.un .not (.t 10)), none⟩,
    ⟨some 12, .p (.mov (.t 11)), none⟩,
    ⟨some 13, .p (.fieldA 63 (.t 4)), (some (12, false))⟩,
    ⟨some 14, .h (.load false 1 (.t 13)), (some (12, false))⟩,
    ⟨some 15, .p (.len false (.t 14)), (some (12, false))⟩,
    ⟨some 16, .p (.bin .gtr (.t 15) (.c (.int .i64 20))), (some (12, false))⟩,
    ⟨some 17, .p (.pick (.t 12) (.c (.bool true)) (.t 16)), none⟩])
  (.cond (.t 17) (.seq (.reg [⟨some 18, .call 7 [], none⟩,
    ⟨some 6, .p (.mov (.t 18)), none⟩])
  .ret) .skip))
  (.seq (.seq (.draw 8 [] [⟨some 19, .h (.load true 71 (.t 4)), none⟩,
    ⟨some 20, .p (.mov (.t 2)), none⟩,
    ⟨some 21, .call 9 [(.t 19), (.t 20)], none⟩,
    ⟨some 22, .h (.load true 71 (.t 4)), none⟩,
    ⟨some 23, .p (.mov (.t 2)), none⟩,
    ⟨some 24, .call 10 [(.t 22), (.t 23)], none⟩,
    ⟨some 25, .call 8 [(.t 21), (.t 24)], none⟩,
    ⟨some 26, .p (.un .not (.t 25)), none⟩])
  (.cond (.t 26) (.seq (.reg [⟨some 6, .p (.mov (.c (.bool false))), none⟩])
  .ret) .skip))
  (.seq (.seq (.reg [⟨some 7, .p (.mov (.c (.int .i64 0))), none⟩])
  (.block 0 (.loop (.seq (.seq (.reg [⟨some 27, .p (.mov (.t 7)), none⟩,
    ⟨some 28, .p (.mov (.t 0)), none⟩,
    ⟨some 29, .p (.len false (.t 28)), none⟩,
    ⟨some 30, .p (.bin .lss (.t 27) (.t 29)), none⟩])
  (.cond (.t 30) .skip (.exit 0)))
  (.seq (.block 1 (.seq (.reg [⟨some 8, .p (.mov (.c (.int .i64 0))), none⟩])
  (.block 2 (.loop (.seq (.seq (.reg [⟨some 33, .p (.mov (.t 8)), none⟩,
    ⟨some 34, .p (.mov (.t 7)), none⟩,
    ⟨some 35, .p (.bin .lss (.t 33) (.t 34)), none⟩])
  (.cond (.t 35) .skip (.exit 2)))
  (.seq (.block 3 (.seq (.draw 40 [] [⟨some 38, .p (.mov (.t 0)), none⟩,
    ⟨some 39, .p (.mov (.t 8)), none⟩,
    ⟨some 40, .p (.idxA 3 none (.t 38) (.t 39)), none⟩,
    ⟨some 41, .h (.load true 3 (.t 40)), none⟩,
    ⟨some 42, .p (.mov (.t 0)), none⟩,
    ⟨some 43, .p (.mov (.t 7)), none⟩,
    ⟨some 44, .p (.idxA 3 none (.t 42) (.t 43)), none⟩,
    ⟨some 45, .h (.load true 3 (.t 44)), none⟩,
    ⟨some 46, .call 11 [(.t 41), (.t 45)], none⟩,
    ⟨some 47, .p (.mov (.t 0)), none⟩,
    ⟨some 48, .p (.mov (.t 8)), none⟩,
    ⟨some 49, .p (.idxA 3 none (.t 47) (.t 48)), none⟩,
    ⟨some 50, .h (.load true 3 (.t 49)), none⟩,
    ⟨some 51, .p (.mov (.t 0)), none⟩,
    ⟨some 52, .p (.mov (.t 7)), none⟩,
    ⟨some 53, .p (.idxA 3 none (.t 51) (.t 52)), none⟩,
    ⟨some 54, .h (.load true 3 (.t 53)), none⟩,
    ⟨some 55, .call 12 [(.t 50), (.t 54)], none⟩,
    ⟨some 56, .p (.beq true (.t 46) (.t 55)), none⟩,
    ⟨some 57, .p (.mov (.t 56)), none⟩,
    ⟨some 58, .p (.mov (.t 0)), (some (57, false))⟩,
    ⟨some 59, .p (.mov (.t 7)), (some (57, false))⟩,
    ⟨some 60, .p (.idxA 3 none (.t 58) (.t 59)), (some (57, false))⟩,
    ⟨some 61, .h (.load true 3 (.t 60)), (some (57, false))⟩,
    ⟨some 62, .p (.mov (.t 0)), (some (57, false))⟩,
    ⟨some 63, .p (.mov (.t 8)), (some (57, false))⟩,
    ⟨some 64, .p (.idxA 3 none (.t 62) (.t 63)), (some (57, false))⟩,
    ⟨some 65, .h (.load true 3 (.t 64)), (some (57, false))⟩,
    ⟨some 66, .call 11 [(.t 61), (.t 65)], (some (57, false))⟩,
    ⟨some 67, .p (.mov (.t 0)), (some (57, false))⟩,
    ⟨some 68, .p (.mov (.t 8)), (some (57, false))⟩,
    ⟨some 69, .p (.idxA 3 none (.t 67) (.t 68)), (some (57, false))⟩,
    ⟨some 70, .h (.load true 3 (.t 69)), (some (57, false))⟩,
    ⟨some 71, .p (.mov (.t 0)), (some (57, false))⟩,
    ⟨some 72, .p (.mov (.t 7)), (some (57, false))⟩,
    ⟨some 73, .p (.idxA 3 none (.t 71) (.t 72)), (some (57, false))⟩,
    ⟨some 74, .h (.load true 3 (.t 73)), (some (57, false))⟩,
    ⟨some 75, .call 12 [(.t 70), (.t 74)], (some (57, false))⟩,
    ⟨some 76, .p (.beq true (.t 66) (.t 75)), (some (57, false))⟩,
    ⟨some 77, .p (.pick (.t 57) (.c (.bool true)) (.t 76)), none⟩])
  (.cond (.t 77) (.seq (.reg [⟨some 6, .p (.mov (.c (.bool false))), none⟩])
  .ret) .skip)))
  (.reg [⟨some 36, .p (.mov (.t 8)), none⟩,
    ⟨some 37, .p (.bin .add (.t 36) (.c (.int .i64 1))), none⟩,
    ⟨some 8, .p (.mov (.t 37)), none⟩])))))))
  (.reg [⟨some 31, .p (.mov (.t 7)), none⟩,
    ⟨some 32, .p (.bin .add (.t 31) (.c (.int .i64 1))), none⟩,
    ⟨some 7, .p (.mov (.t 32)), none⟩]))))))
  (.seq (.reg [⟨some 78, .call 7 [], none⟩,
    ⟨some 79, .p (.mov (.t 78)), none⟩,
    ⟨some 80, .p (.mov (.t 0)), (some (79, true))⟩,
    ⟨some 81, .call 14 [(.t 80)], (some (79, true))⟩,
    ⟨some 82, .p (.mov (.t 0)), (some (79, true))⟩,
    ⟨some 83, .call 15 [(.t 82)], (some (79, true))⟩,
    ⟨some 84, .call 13 [(.t 81), (.t 83)], (some (79, true))⟩,
    ⟨some 85, .p (.pick (.t 79) (.t 84) (.c (.bool false))), none⟩,
    ⟨some 6, .p (.mov (.t 85)), none⟩])
  .ret)))))
def rs3 : List AR := [.tmp 6]
theorem ok3 : okF Try.prog 3 86 ac3 rs3 = true := by kernel_rfl
/-- simulacrum/simulacrumlaw21.OrderEdgesSuffice -/
def ac4 : AC := (.seq (.reg [⟨some 4, .p (.mov (.c (.bool false))), none⟩])
  (.seq (.seq (.reg [⟨some 7, .p (.mov (.t 0)), none⟩,
    ⟨some 8, .call 6 [(.t 7), (.c (.int .i64 60))], none⟩,
    ⟨some 9, .p (.un .not (.t 8)), none⟩,
    ⟨some 10, .p (.mov (.t 9)), none⟩,
    ⟨some 11, .p (.mov (.t 1)), (some (10, false))⟩,
    ⟨some 12, .p (.mov (.t 0)), (some (10, false))⟩,
    ⟨some 13, .p (.len false (.t 12)), (some (10, false))⟩,
    ⟨some 14, .call 16 [(.t 11), (.t 13)], (some (10, false))⟩,
    ⟨some 15, .p (.un .not (.t 14)), (some (10, false))⟩,
    ⟨some 16, .p (.pick (.t 10) (.c (.bool true)) (.t 15)), none⟩])
  (.cond (.t 16) (.seq (.reg [⟨some 17, .call 7 [], none⟩,
    ⟨some 4, .p (.mov (.t 17)), none⟩])
  .ret) .skip))
  (.seq (.reg [⟨some 5, .p (.mov (.c .nils)), none⟩])
  (.seq (.seq (.reg [⟨some 6, .p (.mov (.c (.int .i64 0))), none⟩])
  (.block 0 (.loop (.seq (.seq (.reg [⟨some 18, .p (.mov (.t 6)), none⟩,
    ⟨some 19, .p (.mov (.t 0)), none⟩,
    ⟨some 20, .p (.len false (.t 19)), none⟩,
    ⟨some 21, .p (.bin .lss (.t 18) (.t 20)), none⟩])
  (.cond (.t 21) .skip (.exit 0)))
  (.seq (.block 1 (.reg [⟨some 24, .p (.mov (.t 5)), none⟩,
    ⟨some 25, .p (.mov (.t 6)), none⟩,
    ⟨some 26, .d (.bslice 1 1 [(.int .i64 0)] [(0, (.t 25))]), none⟩,
    ⟨some 27, .l (.append 1 8 (.t 24) (.t 26)), none⟩,
    ⟨some 5, .p (.mov (.t 27)), none⟩]))
  (.reg [⟨some 22, .p (.mov (.t 6)), none⟩,
    ⟨some 23, .p (.bin .add (.t 22) (.c (.int .i64 1))), none⟩,
    ⟨some 6, .p (.mov (.t 23)), none⟩]))))))
  (.seq (.reg [⟨some 28, .call 7 [], none⟩,
    ⟨some 29, .p (.mov (.t 28)), none⟩,
    ⟨some 30, .p (.mov (.t 0)), (some (29, true))⟩,
    ⟨some 31, .p (.mov (.t 1)), (some (29, true))⟩,
    ⟨some 32, .call 17 [(.t 30), (.t 31)], (some (29, true))⟩,
    ⟨some 33, .p (.mov (.t 0)), (some (29, true))⟩,
    ⟨some 34, .p (.mov (.t 1)), (some (29, true))⟩,
    ⟨some 35, .p (.mov (.t 0)), (some (29, true))⟩,
    ⟨some 36, .call 14 [(.t 35)], (some (29, true))⟩,
    ⟨some 37, .call 18 [(.t 33), (.t 34), (.t 36), (.c (.int .i64 (-1)))], (some (29, true))⟩,
    ⟨some 38, .p (.beq false (.t 32) (.t 37)), (some (29, true))⟩,
    ⟨some 39, .p (.pick (.t 29) (.t 38) (.c (.bool false))), none⟩,
    ⟨some 40, .p (.mov (.t 39)), none⟩,
    ⟨some 41, .p (.mov (.t 0)), (some (40, true))⟩,
    ⟨some 42, .p (.mov (.t 5)), (some (40, true))⟩,
    ⟨some 43, .call 17 [(.t 41), (.t 42)], (some (40, true))⟩,
    ⟨some 44, .p (.pick (.t 40) (.t 43) (.c (.bool false))), none⟩,
    ⟨some 4, .p (.mov (.t 44)), none⟩])
  .ret)))))
def rs4 : List AR := [.tmp 4]
theorem ok4 : okF Try.prog 4 45 ac4 rs4 = true := by kernel_rfl
/-- simulacrum/simulacrumlaw21.OrderEdgesAreLeast -/
def ac5 : AC := (.seq (.reg [⟨some 2, .p (.mov (.c (.bool false))), none⟩])
  (.seq (.seq (.reg [⟨some 6, .p (.mov (.t 0)), none⟩,
    ⟨some 7, .call 6 [(.t 6), (.c (.int .i64 60))], none⟩,
    ⟨some 8, .p (.un .not (.t 7)), none⟩])
  (.cond (.t 8) (.seq (.reg [⟨some 9, .call 7 [], none⟩,
    ⟨some 2, .p (.mov (.t 9)), none⟩])
  .ret) .skip))
  (.seq (.reg [⟨some 10, .p (.mov (.t 0)), none⟩,
    ⟨some 11, .call 14 [(.t 10)], none⟩,
    ⟨some 3, .p (.mov (.t 11)), none⟩])
  (.seq (.seq (.reg [⟨some 4, .p (.mov (.c (.int .i64 0))), none⟩])
  (.block 0 (.loop (.seq (.seq (.reg [⟨some 12, .p (.mov (.t 4)), none⟩,
    ⟨some 13, .p (.mov (.t 3)), none⟩,
    ⟨some 14, .p (.len false (.t 13)), none⟩,
    ⟨some 15, .p (.bin .lss (.t 12) (.t 14)), none⟩])
  (.cond (.t 15) .skip (.exit 0)))
  (.seq (.block 1 (.seq (.seq (.draw 29 [] [⟨some 18, .p (.mov (.t 3)), none⟩,
    ⟨some 19, .p (.mov (.t 4)), none⟩,
    ⟨some 20, .p (.idxA 2 none (.t 18) (.t 19)), none⟩,
    ⟨some 21, .p (.fieldA 0 (.t 20)), none⟩,
    ⟨some 22, .h (.load false 1 (.t 21)), none⟩,
    ⟨some 23, .p (.bin .lss (.t 22) (.c (.int .i64 0))), none⟩,
    ⟨some 24, .p (.mov (.t 23)), none⟩,
    ⟨some 25, .p (.mov (.t 3)), (some (24, false))⟩,
    ⟨some 26, .p (.mov (.t 4)), (some (24, false))⟩,
    ⟨some 27, .p (.idxA 2 none (.t 25) (.t 26)), (some (24, false))⟩,
    ⟨some 28, .p (.fieldA 0 (.t 27)), (some (24, false))⟩,
    ⟨some 29, .h (.load false 1 (.t 28)), (some (24, false))⟩,
    ⟨some 30, .p (.mov (.t 3)), (some (24, false))⟩,
    ⟨some 31, .p (.mov (.t 4)), (some (24, false))⟩,
    ⟨some 32, .p (.idxA 2 none (.t 30) (.t 31)), (some (24, false))⟩,
    ⟨some 33, .p (.fieldA 1 (.t 32)), (some (24, false))⟩,
    ⟨some 34, .h (.load false 1 (.t 33)), (some (24, false))⟩,
    ⟨some 35, .p (.bin .geq (.t 29) (.t 34)), (some (24, false))⟩,
    ⟨some 36, .p (.pick (.t 24) (.c (.bool true)) (.t 35)), none⟩,
    ⟨some 37, .p (.mov (.t 36)), none⟩,
    ⟨some 38, .p (.mov (.t 3)), (some (37, false))⟩,
    ⟨some 39, .p (.mov (.t 4)), (some (37, false))⟩,
    ⟨some 40, .p (.idxA 2 none (.t 38) (.t 39)), (some (37, false))⟩,
    ⟨some 41, .p (.fieldA 1 (.t 40)), (some (37, false))⟩,
    ⟨some 42, .h (.load false 1 (.t 41)), (some (37, false))⟩,
    ⟨some 43, .p (.mov (.t 0)), (some (37, false))⟩,
    ⟨some 44, .p (.len false (.t 43)), (some (37, false))⟩,
    ⟨some 45, .p (.bin .geq (.t 42) (.t 44)), (some (37, false))⟩,
    ⟨some 46, .p (.pick (.t 37) (.c (.bool true)) (.t 45)), none⟩])
  (.cond (.t 46) (.seq (.reg [⟨some 2, .p (.mov (.c (.bool false))), none⟩])
  .ret) .skip))
  (.seq (.reg [⟨some 47, .p (.mov (.t 0)), none⟩,
    ⟨some 48, .p (.mov (.t 3)), none⟩,
    ⟨some 49, .p (.mov (.t 4)), none⟩,
    ⟨some 50, .p (.idxA 2 none (.t 48) (.t 49)), none⟩,
    ⟨some 51, .h (.load true 2 (.t 50)), none⟩,
    ⟨some 52, .call 19 [(.t 47), (.t 51)], none⟩,
    ⟨some 5, .p (.mov (.t 52)), none⟩])
  (.seq (.reg [⟨some 53, .p (.mov (.t 5)), none⟩,
    ⟨some 54, .p (.mov (.t 0)), none⟩,
    ⟨some 55, .p (.len false (.t 54)), none⟩,
    ⟨some 56, .call 16 [(.t 53), (.t 55)], none⟩,
    ⟨some 57, .p (.un .not (.t 56)), none⟩,
    ⟨some 58, .p (.mov (.t 57)), none⟩,
    ⟨some 59, .p (.mov (.t 0)), (some (58, false))⟩,
    ⟨some 60, .p (.mov (.t 5)), (some (58, false))⟩,
    ⟨some 61, .p (.mov (.t 3)), (some (58, false))⟩,
    ⟨some 62, .p (.mov (.t 4)), (some (58, false))⟩,
    ⟨some 63, .call 18 [(.t 59), (.t 60), (.t 61), (.t 62)], (some (58, false))⟩,
    ⟨some 64, .p (.un .not (.t 63)), (some (58, false))⟩,
    ⟨some 65, .p (.pick (.t 58) (.c (.bool true)) (.t 64)), none⟩,
    ⟨some 66, .p (.mov (.t 65)), none⟩,
    ⟨some 67, .p (.mov (.t 0)), (some (66, false))⟩,
    ⟨some 68, .p (.mov (.t 5)), (some (66, false))⟩,
    ⟨some 69, .call 17 [(.t 67), (.t 68)], (some (66, false))⟩,
    ⟨some 70, .p (.pick (.t 66) (.c (.bool true)) (.t 69)), none⟩])
  (.cond (.t 70) (.seq (.reg [⟨some 2, .p (.mov (.c (.bool false))), none⟩])
  .ret) .skip)))))
  (.reg [⟨some 16, .p (.mov (.t 4)), none⟩,
    ⟨some 17, .p (.bin .add (.t 16) (.c (.int .i64 1))), none⟩,
    ⟨some 4, .p (.mov (.t 17)), none⟩]))))))
  (.seq (.reg [⟨some 71, .call 7 [], none⟩,
    ⟨some 2, .p (.mov (.t 71)), none⟩])
  .ret)))))
def rs5 : List AR := [.tmp 2]
theorem ok5 : okF Try.prog 5 72 ac5 rs5 = true := by kernel_rfl
end Go.Proofs

namespace Go.Proofs
open Go Go.Eng
set_option maxRecDepth 100000
set_option maxHeartbeats 4000000
theorem ovl_symm (x y : Acc) : ovl x y = ovl y x := by
  unfold ovl; rw [Bool.or_comm, Bool.and_comm (decide _)]
theorem conA_symm (a b : Ev) : conA a b = conA b a := by
  rw [Bool.eq_iff_iff]
  simp only [conA, List.any_eq_true]
  constructor
  · rintro ⟨x, hx, y, hy, h⟩; exact ⟨y, hy, x, hx, by rw [ovl_symm]; exact h⟩
  · rintro ⟨x, hx, y, hy, h⟩; exact ⟨y, hy, x, hx, by rw [ovl_symm]; exact h⟩
theorem con_symm (a b : Ev) : con a b = con b a := by
  unfold con
  have : decide (a.cpu = b.cpu) = decide (b.cpu = a.cpu) := decide_eq_decide.2 eq_comm
  rw [conA_symm a b, this]
  cases a.bd <;> cases b.bd <;> simp
theorem _root_.Go.Eng.fv_mk {v : AV} {K : AV → Prop} (h : K v) : fv v K := by rw [fv_eq]; exact h
def L3 (l : List Ev) (cap : Option Nat) (m : Nat) (fr : Fr) (H : Heap) : Prop := ∃ i : Nat, i ≤ l.length ∧ m = l.length - i ∧ fr = [(0, .dslice (evs l) l.length cap), (7, I i)] ∧ H = Heap.nil
def L3b (l : List Ev) (cap : Option Nat) (i : Nat) (m : Nat) (fr : Fr) (H : Heap) : Prop := ∃ k : Nat, k ≤ i ∧ m = i - k ∧ fr = [(0, .dslice (evs l) l.length cap), (7, I i), (8, I k)] ∧ H = Heap.nil
theorem c3 (l : List Ev) (cap : Option Nat) (pre : List AV) (A : List Acc) (acap : Option Nat) (b : Bool) (post : List AV) (cpu : Int) (hp : pre.length = 63) (hq : post.length = 6) (hE : noLocL (eff pre A acap b post) = true) :
    CallA Try.prog 3 [.dslice (evs l) l.length cap, .agg (eff pre A acap b post), I cpu] Heap.nil fun v H' => v = .bool true ∧ H' = Heap.nil := by
  have h6 := c6 l cap 60 (by decide)
  have e63 := eff_63 (A := A) (cap := acap) (b := b) (post := post) hp
  have eL := eff_len (A := A) (cap := acap) (b := b) hp hq
  have h9 := fun h => c9 pre A acap b post cpu hp h
  have h10 := fun h => c10 pre A acap b post cpu hp h
  generalize eff pre A acap b post = E at *
  have t71 : ∀ {K : List AV → Prop}, K E → takeK 71 (List.drop 0 E) K := fun hk => by
    rw [List.drop_zero, takeK_eq _ _ _ (by omega), ← eL, List.take_length]; exact hk
  have hNL : noLocL [AV.agg E, I cpu] = true := by simp only [noLocL, noLoc, hE, Bool.and_self]
  refine callA_of ok3 (Nat.le_of_ble_eq_true rfl) ?_
  have h7 := san
  by_cases hf : FewP l 60
  · rw [fewB_t hf] at h6
    obtain ⟨hl, hok⟩ := hf
    by_cases hA : A.length ≤ 20
    · have h8 := c8 ⟨cpu, b, A, none⟩ (Nat.le_trans hA (by decide))
      have h9 := h9 (by omega)
      have h10 := h10 (by omega)
      repeat' ((conv => whnf); first
          | refine Branch.ofT rfl ?_
          | refine Branch.ofF rfl ?_
          | refine Branch.ofF (decide_eq_false (by omega)) ?_
          | refine Branch.dec (fun h => ?_) (fun h => ?_)
          | refine Branch.negdec (fun h => ?_) (fun h => ?_)
          | refine Branch.neg (fun h => ?_) (fun h => ?_)
          | refine Branch.mk (fun h => ?_) (fun h => ?_)
          | (refine Side.mk ?_ ?_; · first | omega | decide)
          | (refine SideD.mk ?_ ?_; · first | omega | decide)
          | refine ⟨_, Nat.lt_succ_self _, To.refl (.inl ⟨rfl, ?_⟩)⟩
          | refine CallA.pure h6 rfl rfl ?_
          | refine nthK_at e63 ?_
          | refine t71 ?_
          | refine QCallA.of h9 hNL rfl ?_
          | refine QCallA.of h10 hNL rfl ?_
          | refine QCallA.of h8 rfl rfl ?_
          | (refine Side.mk ?_ ?_; · (simp; done))
          | fail
          )
      all_goals (conv => whnf)
      have hEl := es2_len l (ws l l.length) l.length (by omega)
      have h13 := c13d (es2 l (ws l l.length) l.length) (by omega)
      have h14 := c14d l cap (by omega) hok
      have h15 := c15d l cap (by omega) hok
      generalize es2 l (ws l l.length) l.length = ES at *
      refine ⟨L3 l cap, l.length, To.gc [] [0, 7] rfl trivial ⟨0, by omega, by omega, rfl, rfl⟩, ?_⟩
      rintro m fr H ⟨i, hi, rfl, rfl, rfl⟩
      by_cases hil : i < l.length
      · have hit := evs_at i l hil
        repeat' ((conv => whnf); first
            | refine Branch.ofT rfl ?_
            | refine Branch.ofF rfl ?_
            | refine Branch.ofT (decide_eq_true (by omega)) ?_
            | refine Branch.dec (fun h => ?_) (fun h => ?_)
            | refine Branch.negdec (fun h => ?_) (fun h => ?_)
            | refine Branch.neg (fun h => ?_) (fun h => ?_)
            | refine Branch.mk (fun h => ?_) (fun h => ?_)
            | (refine Side.mk ?_ ?_; · first | omega | decide)
            | (refine SideD.mk ?_ ?_; · first | omega | decide)
            | refine ⟨_, Nat.lt_succ_self _, To.refl (.inl ⟨rfl, ?_⟩)⟩
            | (refine Side.mk ?_ ?_; · (simp; done))
            | fail
            )
        all_goals (conv => whnf)
        refine ⟨L3b l cap i, i, To.gc [] [0, 7, 8] rfl trivial ⟨0, by omega, by omega, rfl, rfl⟩, ?_⟩
        rintro m fr H ⟨k, hk, rfl, rfl, rfl⟩
        by_cases hki : k < i
        · have hkt := evs_at k l (by omega)
          have a1 := c11 l[k] l[i] (hok k (by omega)) (hok i hil)
          have a2 := c12 l[k] l[i] (hok k (by omega)) (hok i hil)
          have a3 := c11 l[i] l[k] (hok i hil) (hok k (by omega))
          rw [con_symm l[i] l[k]] at a3
          generalize con l[k] l[i] = bc at *
          repeat' ((conv => whnf); first
              | refine Branch.ofT rfl ?_
              | refine Branch.ofF rfl ?_
              | refine Branch.ofT (decide_eq_true (by omega)) ?_
              | refine Branch.ofF (by simp) ?_
              | refine Branch.dec (fun h => ?_) (fun h => ?_)
              | refine Branch.negdec (fun h => ?_) (fun h => ?_)
              | refine Branch.neg (fun h => ?_) (fun h => ?_)
              | refine Branch.mk (fun h => ?_) (fun h => ?_)
              | (refine Side.mk ?_ ?_; · first | omega | decide)
              | (refine SideD.mk ?_ ?_; · first | omega | decide)
              | refine ⟨_, Nat.lt_succ_self _, To.refl (.inl ⟨rfl, ?_⟩)⟩
              | refine tk3 hkt ?_
              | refine tk3 hit ?_
              | refine QCallA.of a1 rfl rfl ?_
              | refine QCallA.of a2 rfl rfl ?_
              | refine QCallA.of a3 rfl rfl ?_
              | (refine Side.mk ?_ ?_; · (simp; done))
              | fail
              )
          all_goals (conv => whnf)
          exact ⟨i - (k + 1), by omega, To.gc [] [0, 7, 8] rfl trivial ⟨k + 1, by omega, rfl, rfl, rfl⟩⟩
        · have : k = i := by omega
          subst this
          repeat' ((conv => whnf); first
              | refine Branch.ofT rfl ?_
              | refine Branch.ofF rfl ?_
              | refine Branch.ofF (decide_eq_false (by omega)) ?_
              | refine Branch.dec (fun h => ?_) (fun h => ?_)
              | refine Branch.negdec (fun h => ?_) (fun h => ?_)
              | refine Branch.neg (fun h => ?_) (fun h => ?_)
              | refine Branch.mk (fun h => ?_) (fun h => ?_)
              | (refine Side.mk ?_ ?_; · first | omega | decide)
              | (refine SideD.mk ?_ ?_; · first | omega | decide)
              | refine ⟨_, Nat.lt_succ_self _, To.refl (.inl ⟨rfl, ?_⟩)⟩
              | (refine Side.mk ?_ ?_; · (simp; done))
              | fail
              )
          all_goals (conv => whnf)
          exact ⟨l.length - (k + 1), by omega, To.gc [] [0, 7] rfl trivial ⟨k + 1, by omega, rfl, rfl, rfl⟩⟩
      · have : i = l.length := by omega
        subst this
        cases ES with
        | nil =>
          repeat' ((conv => whnf); first
              | refine Branch.ofT rfl ?_
              | refine Branch.ofF rfl ?_
              | refine Branch.ofF (decide_eq_false (by omega)) ?_
              | refine Branch.dec (fun h => ?_) (fun h => ?_)
              | refine Branch.negdec (fun h => ?_) (fun h => ?_)
              | refine Branch.neg (fun h => ?_) (fun h => ?_)
              | refine Branch.mk (fun h => ?_) (fun h => ?_)
              | (refine Side.mk ?_ ?_; · first | omega | decide)
              | (refine SideD.mk ?_ ?_; · first | omega | decide)
              | refine ⟨_, Nat.lt_succ_self _, To.refl (.inl ⟨rfl, ?_⟩)⟩
              | refine CallA.pure h7 rfl rfl ?_
              | refine CallA.pure h14 rfl rfl ?_
              | refine CallA.pure h15 rfl rfl ?_
              | refine CallA.pure h13 rfl rfl ?_
              | (refine Side.mk ?_ ?_; · (simp; done))
              | fail
              )
          all_goals (conv => whnf)
          exact RetA.data rfl ⟨rfl, rfl⟩
        | cons e r =>
          repeat' ((conv => whnf); first
              | refine Branch.ofT rfl ?_
              | refine Branch.ofF rfl ?_
              | refine Branch.ofF (decide_eq_false (by omega)) ?_
              | refine Branch.dec (fun h => ?_) (fun h => ?_)
              | refine Branch.negdec (fun h => ?_) (fun h => ?_)
              | refine Branch.neg (fun h => ?_) (fun h => ?_)
              | refine Branch.mk (fun h => ?_) (fun h => ?_)
              | (refine Side.mk ?_ ?_; · first | omega | decide)
              | (refine SideD.mk ?_ ?_; · first | omega | decide)
              | refine ⟨_, Nat.lt_succ_self _, To.refl (.inl ⟨rfl, ?_⟩)⟩
              | refine CallA.pure h7 rfl rfl ?_
              | refine CallA.pure h14 rfl rfl ?_
              | refine CallA.pure h15 rfl rfl ?_
              | refine CallA.pure h13 rfl rfl ?_
              | (refine Side.mk ?_ ?_; · (simp; done))
              | fail
              )
          all_goals (conv => whnf)
          exact RetA.data rfl ⟨rfl, rfl⟩
    · repeat' ((conv => whnf); first
          | refine Branch.ofT rfl ?_
          | refine Branch.ofF rfl ?_
          | refine Branch.ofT (decide_eq_true (by omega)) ?_
          | refine Branch.dec (fun h => ?_) (fun h => ?_)
          | refine Branch.negdec (fun h => ?_) (fun h => ?_)
          | refine Branch.neg (fun h => ?_) (fun h => ?_)
          | refine Branch.mk (fun h => ?_) (fun h => ?_)
          | (refine Side.mk ?_ ?_; · first | omega | decide)
          | (refine SideD.mk ?_ ?_; · first | omega | decide)
          | refine ⟨_, Nat.lt_succ_self _, To.refl (.inl ⟨rfl, ?_⟩)⟩
          | refine CallA.pure h6 rfl rfl ?_
          | refine nthK_at e63 ?_
          | refine CallA.pure h7 rfl rfl ?_
          | (refine Side.mk ?_ ?_; · (simp; done))
          | fail
          )
      all_goals (conv => whnf)
      exact RetA.data rfl ⟨rfl, rfl⟩
  · rw [fewB_f hf] at h6
    repeat' ((conv => whnf); first
        | refine Branch.ofT rfl ?_
        | refine Branch.ofF rfl ?_
        | refine Branch.dec (fun h => ?_) (fun h => ?_)
        | refine Branch.negdec (fun h => ?_) (fun h => ?_)
        | refine Branch.neg (fun h => ?_) (fun h => ?_)
        | refine Branch.mk (fun h => ?_) (fun h => ?_)
        | (refine Side.mk ?_ ?_; · first | omega | decide)
        | (refine SideD.mk ?_ ?_; · first | omega | decide)
        | refine ⟨_, Nat.lt_succ_self _, To.refl (.inl ⟨rfl, ?_⟩)⟩
        | refine CallA.pure h6 rfl rfl ?_
        | refine CallA.pure h7 rfl rfl ?_
        | (refine Side.mk ?_ ?_; · (simp; done))
        | fail
        )
    all_goals (conv => whnf)
    exact RetA.data rfl ⟨rfl, rfl⟩
end Go.Proofs

