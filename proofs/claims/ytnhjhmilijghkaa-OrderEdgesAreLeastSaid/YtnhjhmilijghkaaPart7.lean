/- Part of a proof about the given program: lemmas that the other parts use. -/
import Derived.Test.YtnhjhmilijghkaaPart6
import Derived.Test.YtnhjhmilijghkaaPart5
import Derived.Test.YtnhjhmilijghkaaPart4
import Derived.Test.YtnhjhmilijghkaaProg
import Derived.KernelRfl
import Derived.Shelf.Sort.Plain

set_option linter.all false
set_option linter.unusedSimpArgs false
set_option linter.unusedVariables false
namespace Go.Proofs
open Go Go.Eng
set_option maxRecDepth 100000
set_option maxHeartbeats 8000000
/-- Rows of bits. -/
def rws : List Nat → Nat → List AV
  | [], _ => []
  | s :: r, i => .dslice (bb s i) i (some i) :: rws r (i + 1)
theorem rws_at : ∀ (i b : Nat) (W : List Nat) (h : i < W.length), (rws W b).drop i = .dslice (bb W[i] (b + i)) (b + i) (some (b + i)) :: rws (W.drop (i + 1)) (b + i + 1)
  | 0, b, s :: r, _ => rfl
  | i + 1, b, s :: r, h => by
    show (rws r (b + 1)).drop i = _
    rw [rws_at i (b + 1) r (by simpa using h)]
    have : b + 1 + i = b + (i + 1) := by omega
    rw [this]; rfl
theorem rws_len : ∀ (W : List Nat) (b : Nat), (rws W b).length = W.length
  | [], _ => rfl
  | s :: r, b => by simp only [rws, List.length_cons, rws_len r]
theorem rws_app : ∀ (A B : List Nat) (b : Nat), rws (A ++ B) b = rws A b ++ rws B (b + A.length)
  | [], B, b => rfl
  | s :: A, B, b => by
    simp only [List.cons_append, rws, rws_app A B (b + 1), List.length_cons]
    rw [show b + 1 + A.length = b + (A.length + 1) by omega]
theorem rws_noLoc : ∀ (W : List Nat) (b : Nat), ∀ c ∈ rws W b, noLoc c = true
  | [], _, c, h => by cases h
  | s :: r, b, c, h => by
    simp only [rws, List.mem_cons] at h
    rcases h with rfl | h
    · rfl
    · exact rws_noLoc r (b + 1) c h
theorem nth_rw {W : List Nat} {i off : Nat} (h : i < W.length) (ho : off = i) {K : AV → Prop} (hk : K (.dslice (bb W[i] i) i (some i))) : nthK 0 ((rws W 0).drop off) K := by
  subst ho
  have e := rws_at off 0 W h
  rw [Nat.zero_add] at e
  exact nthK_at e (by rw [fv_eq]; exact hk)
theorem wset_bit (W : List Nat) (l : List Ev) (k : Nat) (hW : ∀ j, j < W.length → W[j]! < 2 ^ j) : ∀ i, i ≤ k → i ≤ W.length → wset W l k i < 2 ^ k
  | 0, _, _ => Nat.two_pow_pos k
  | i + 1, h, h2 => by
    have ih := wset_bit W l k hW i (by omega) (by omega)
    simp only [wset]
    split
    · refine Nat.or_lt_two_pow (Nat.or_lt_two_pow ih (Nat.pow_lt_pow_right (by decide) (by omega))) ?_
      exact Nat.lt_of_lt_of_le (hW i (by omega)) (Nat.pow_le_pow_right (by decide) (by omega))
    · exact ih
theorem ws_old (l : List Ev) (k j : Nat) (h : j < k) : (ws l (k + 1))[j]! = (ws l k)[j]! := by
  have hl : j < (ws l k).length := by rw [ws_len]; exact h
  simp only [ws]
  rw [getElem!_pos (ws l k) j hl, getElem!_pos (ws l k ++ _) j (by rw [List.length_append]; omega), List.getElem_append_left hl]
theorem ws_new (l : List Ev) (k : Nat) : (ws l (k + 1))[k]! = wset (ws l k) l k k := by
  have hl : k < (ws l k ++ [wset (ws l k) l k k]).length := by rw [List.length_append, ws_len]; exact Nat.lt_succ_self k
  simp only [ws]
  rw [getElem!_pos (ws l k ++ _) k hl, List.getElem_append_right (by rw [ws_len]; exact Nat.le_refl _)]
  simp only [ws_len, Nat.sub_self, List.getElem_singleton]
theorem ws_bit (l : List Ev) : ∀ k j, j < k → (ws l k)[j]! < 2 ^ j
  | k + 1, j, h => by
    have ih := ws_bit l k
    by_cases hj : j < k
    · rw [ws_old l k j hj]; exact ih j hj
    · have : j = k := by omega
      subst this
      rw [ws_new]
      exact wset_bit _ l j (fun q hq => ih q (by rw [ws_len] at hq; exact hq)) j (Nat.le_refl _) (by rw [ws_len]; exact Nat.le_refl _)
def rV : List Nat → AV
  | [] => .nils
  | _ :: r => .slice 0 0 (r.length + 1) none 1
def HR : List Nat → Heap
  | [] => Heap.nil
  | s :: r => ⟨1, [(0, .cells (rws (s :: r) 0))]⟩
def L33 (l : List Ev) (cap : Option Nat) (m : Nat) (fr : Fr) (H : Heap) : Prop := ∃ k : Nat, k ≤ l.length ∧ m = l.length - k ∧ fr = [(0, .dslice (evs l) l.length cap), (3, rV (ws l k)), (4, I k)] ∧ H = HR (ws l k)
def L33b (l : List Ev) (cap : Option Nat) (s : Nat) (r : List Nat) (k : Nat) (m : Nat) (fr : Fr) (H : Heap) : Prop := ∃ S : Nat, m ≤ k ∧ S ||| wset (s :: r) l k m = wset (s :: r) l k k ∧
  ((∃ i : Nat, m = i + 1 ∧ fr = [(0, .dslice (evs l) l.length cap), (3, rV (s :: r)), (4, I k), (5, .slice 1 0 k (some k) 1), (6, I i)] ∧ H = ⟨2, [(0, .cells (rws (s :: r) 0)), (1, .cells (bb S k))]⟩) ∨
   (m = 0 ∧ fr = [(0, .dslice (evs l) l.length cap), (3, rV (s :: r)), (4, I k), (5, .dslice (bb S k) k (some k)), (6, I (-1))] ∧ H = HR (s :: r)))
def L33c (l : List Ev) (cap : Option Nat) (s : Nat) (r : List Nat) (k i S T : Nat) (m : Nat) (fr : Fr) (H : Heap) : Prop := ∃ x : Nat, x ≤ i ∧ m = i - x ∧ fr = [(0, .dslice (evs l) l.length cap), (3, rV (s :: r)), (4, I k), (5, .slice 1 0 k (some k) 1), (6, I i), (7, I x)] ∧ H = ⟨2, [(0, .cells (rws (s :: r) 0)), (1, .cells (bb (join S T x) k))]⟩
theorem bb_take (S k : Nat) : (List.drop 0 (bb S k)).take (k * 1) = bb S k := by
  rw [List.drop_zero, Nat.mul_one, List.take_of_length_le (by rw [bb_len]; exact Nat.le_refl _)]
theorem mk1 {k : Nat} (h : k ≤ 1000) : 0 ≤ (k : Int) ∧ ((1 : Nat) : Int) * (k : Int) ≤ 281474976710656 ∧ (k : Int) ≤ 9223372036854775807 := by omega
theorem nth_bbb {S n i off : Nat} {b : Bool} (h : i < n) (ho : off = i) (hb : S.testBit i = b) {K : AV → Prop} (hk : K (.bool b)) : nthK 0 ((bb S n).drop off) K := by
  subst hb; exact nth_bb h ho hk
theorem join_step (S T x : Nat) {b : Bool} (hb : ((join S T x).testBit x || T.testBit x) = b) : ∀ j, (join S T (x + 1)).testBit j = if x = j then b else (join S T x).testBit j := by
  intro j
  simp only [join]
  by_cases ht : T.testBit x = true
  · rw [if_pos ht, set_bit]
    by_cases hj : x = j
    · rw [if_pos hj, if_pos hj, ← hb, ht]; simp
    · rw [if_neg hj, if_neg hj]
  · rw [if_neg ht]
    by_cases hj : x = j
    · subst hj; rw [if_pos rfl, ← hb]; simp at ht; simp [ht]
    · rw [if_neg hj]
theorem appN (S k : Nat) : fits 1 24 ∧ ∀ (c : AV), c ∈ List.take (1 * 1) (AV.dslice (bb S k) k (some k) :: ([] : List AV).append (rep [AV.nils] 0)) → scal c = true := by
  refine ⟨by unfold fits; omega, fun c hc => ?_⟩
  have : c = AV.dslice (bb S k) k (some k) := by simpa [rep] using hc
  subst this; rfl
theorem appR (W : List Nat) (S k : Nat) (h : W.length ≤ 1000) : 1 = 1 ∧ 0 = 0 ∧ (rws W 0).length = W.length * 1 ∧ fits (W.length + 1) 24 ∧ ∀ (c : AV), c ∈ List.take (1 * 1) (AV.dslice (bb S k) k (some k) :: ([] : List AV).append (rep [AV.nils] 0)) → scal c = true :=
  ⟨rfl, rfl, by rw [rws_len, Nat.mul_one], by unfold fits; omega, (appN S k).2⟩
theorem datR (W : List Nat) (S k : Nat) : dataB (.cells (rws W 0 ++ List.take (1 * 1) (AV.dslice (bb S k) k (some k) :: ([] : List AV).append (rep [AV.nils] 0)))) := by
  intro c hc
  rcases List.mem_append.1 hc with h | h
  · exact rws_noLoc W 0 c h
  · have : c = AV.dslice (bb S k) k (some k) := by simpa [rep] using h
    subst this; rfl
theorem HR_app (s : Nat) (r : List Nat) (x : Nat) : HR (s :: r ++ [x]) = ⟨1, [(0, .cells (rws (s :: r) 0 ++ [.dslice (bb x (s :: r).length) (s :: r).length (some (s :: r).length)]))]⟩ := by
  have := rws_app (s :: r) [x] 0
  rw [Nat.zero_add] at this
  show (⟨1, [(0, .cells (rws (s :: r ++ [x]) 0))]⟩ : Heap) = _
  rw [this]; rfl
theorem c33 (l : List Ev) (cap : Option Nat) (hl : l.length ≤ 60) (hok : ∀ i (h : i < l.length), l[i].ok) : CallA Try.prog 33 [.dslice (evs l) l.length cap] Heap.nil fun v H' => v = rV (ws l l.length) ∧ H' = HR (ws l l.length) := by
  have dB : ∀ S n, dataB (.cells (bb S n)) := fun S n c hc => bb_noLoc S n c hc
  have dP : ∀ (W : List Nat) (d : List AV), dataB (.cells (pubL 1 d (rws W 0))) := fun W d => by rw [pubL_data (rws_noLoc W 0)]; exact fun c hc => rws_noLoc W 0 c hc
  have dR : ∀ W, dataB (.cells (rws W 0)) := fun W c hc => rws_noLoc W 0 c hc
  refine callA_of ok33 (Nat.le_of_ble_eq_true rfl) ?_
  repeat' ((conv => whnf); first
      | refine Branch.ofT rfl ?_
      | refine Branch.ofF rfl ?_
      | refine Branch.dec (fun h => ?_) (fun h => ?_)
      | refine Branch.negdec (fun h => ?_) (fun h => ?_)
      | refine Branch.neg (fun h => ?_) (fun h => ?_)
      | refine Branch.mk (fun h => ?_) (fun h => ?_)
      | (refine Side.mk ?_ ?_; · first | omega | decide)
      | (refine SideD.mk ?_ ?_; · first | omega | decide)
      | refine ⟨_, Nat.lt_succ_self _, To.refl (.inl ⟨rfl, ?_⟩)⟩
      | (refine Side.mk ?_ ?_; · (simp; done))
      | fail
      )
  all_goals (conv => whnf)
  refine ⟨L33 l cap, l.length, To.gc [] [0, 3, 4] rfl trivial ⟨0, by omega, by omega, rfl, rfl⟩, ?_⟩
  rintro m fr H ⟨k, hk, rfl, rfl, rfl⟩
  by_cases hkl : k < l.length
  · have hkt := evs_at k l hkl
    have lW := ws_len l k
    have hWb := ws_bit l k
    have hws : ws l (k + 1) = ws l k ++ [wset (ws l k) l k k] := rfl
    generalize ws l k = W at *
    cases W with
    | nil =>
      have : k = 0 := by simpa using lW.symm
      subst this
      repeat' ((conv => whnf); first
          | refine Branch.ofT rfl ?_
          | refine Branch.ofF rfl ?_
          | refine Branch.ofT (decide_eq_true (by omega)) ?_
          | refine Branch.dec (fun h => ?_) (fun h => ?_)
          | refine Branch.negdec (fun h => ?_) (fun h => ?_)
          | refine Branch.neg (fun h => ?_) (fun h => ?_)
          | refine Branch.mk (fun h => ?_) (fun h => ?_)
          | (refine Side.mk ?_ ?_; · first | omega | decide)
          | (refine SideD.mk ?_ ?_; · first | omega | decide)
          | refine ⟨_, Nat.lt_succ_self _, To.refl (.inl ⟨rfl, ?_⟩)⟩
          | refine Side.mk (mk1 (by omega)) ?_
          | (refine Side.mk ?_ ?_; · (simp; done))
          | fail
          )
      all_goals (conv => whnf)
      refine ⟨fun m fr H => m = 0 ∧ fr = [(0, .dslice (evs l) l.length cap), (3, .nils), (4, I 0), (5, .dslice [] 0 (some 0)), (6, I (-1))] ∧ H = Heap.nil, 0, To.pub 0 [0, 3, 4, 5, 6] rfl (fun c hc => by cases hc) (To.gc [] [0, 3, 4, 5, 6] rfl trivial ⟨rfl, rfl, rfl⟩), ?_⟩
      rintro m fr H ⟨rfl, rfl, rfl⟩
      repeat' ((conv => whnf); first
          | refine Branch.ofT rfl ?_
          | refine Branch.ofF rfl ?_
          | refine Branch.dec (fun h => ?_) (fun h => ?_)
          | refine Branch.negdec (fun h => ?_) (fun h => ?_)
          | refine Branch.neg (fun h => ?_) (fun h => ?_)
          | refine Branch.mk (fun h => ?_) (fun h => ?_)
          | (refine Side.mk ?_ ?_; · first | omega | decide)
          | (refine SideD.mk ?_ ?_; · first | omega | decide)
          | refine ⟨_, Nat.lt_succ_self _, To.refl (.inl ⟨rfl, ?_⟩)⟩
          | refine Side.mk (appN 0 0) ?_
          | (refine Side.mk ?_ ?_; · (simp; done))
          | fail
          )
      all_goals (conv => whnf)
      exact ⟨l.length - (0 + 1), by omega, To.gc [(0, true)] [0, 3, 4] rfl ⟨dR [0], trivial⟩ ⟨0 + 1, by omega, rfl, by rw [hws]; rfl, by rw [hws]; rfl⟩⟩
    | cons s r =>
      repeat' ((conv => whnf); first
          | refine Branch.ofT rfl ?_
          | refine Branch.ofF rfl ?_
          | refine Branch.ofT (decide_eq_true (by omega)) ?_
          | refine Branch.dec (fun h => ?_) (fun h => ?_)
          | refine Branch.negdec (fun h => ?_) (fun h => ?_)
          | refine Branch.neg (fun h => ?_) (fun h => ?_)
          | refine Branch.mk (fun h => ?_) (fun h => ?_)
          | (refine Side.mk ?_ ?_; · first | omega | decide)
          | (refine SideD.mk ?_ ?_; · first | omega | decide)
          | refine ⟨_, Nat.lt_succ_self _, To.refl (.inl ⟨rfl, ?_⟩)⟩
          | refine Side.mk (mk1 (by omega)) ?_
          | (refine Side.mk ?_ ?_; · (simp; done))
          | fail
          )
      all_goals (conv => whnf)
      rw [show rep [AV.bool false] (k : Int).toNat = bb 0 k from rep_bb k]
      have hk0 : 0 < k := by rw [← lW]; simp
      refine ⟨L33b l cap s r k, k, To.gc [(0, true), (1, true)] [0, 3, 4, 5, 6] rfl ⟨dR _, dB _ _, trivial⟩ ⟨0, Nat.le_refl _, by rw [Nat.zero_or], .inl ⟨k - 1, by omega, by rw [show ((k - 1 : Nat) : Int) = (k : Int) - 1 by omega]; rfl, rfl⟩⟩, ?_⟩
      rintro c fr H ⟨S, hc, hS, h⟩
      rcases h with ⟨i, rfl, rfl, rfl⟩ | ⟨rfl, rfl, rfl⟩
      · have hil : i < l.length := by omega
        have hit := evs_at i l hil
        have h12 := c12 l[i] l[k] (hok i hil) (hok k hkl)
        have gi : l[i]! = l[i] := getElem!_pos l i hil
        have gk : l[k]! = l[k] := getElem!_pos l k hkl
        repeat' ((conv => whnf); first
            | refine Branch.ofT rfl ?_
            | refine Branch.ofF rfl ?_
            | refine Branch.ofT (decide_eq_true (by omega)) ?_
            | refine Branch.dec (fun h => ?_) (fun h => ?_)
            | refine Branch.negdec (fun h => ?_) (fun h => ?_)
            | refine Branch.neg (fun h => ?_) (fun h => ?_)
            | refine Branch.mk (fun h => ?_) (fun h => ?_)
            | (refine Side.mk ?_ ?_; · first | omega | decide)
            | (refine SideD.mk ?_ ?_; · first | omega | decide)
            | refine ⟨_, Nat.lt_succ_self _, To.refl (.inl ⟨rfl, ?_⟩)⟩
            | refine tk3 hit ?_
            | refine tk3 hkt ?_
            | refine QCallA.of h12 rfl rfl ?_
            | (refine Side.mk ?_ ?_; · (simp; done))
            | fail
            )
        all_goals (conv => whnf)
        · -- no conflict
          have hS2 : S ||| wset (s :: r) l k i = wset (s :: r) l k k := by rw [← hS, wset, gi, gk, if_neg (by rw [h]; simp)]
          by_cases hi0 : i = 0
          · subst hi0
            refine ⟨0, by omega, To.pub 1 [0, 3, 4, 5, 6] rfl (bb_noLoc S k) (To.gc [(0, true)] [0, 3, 4, 5, 6] rfl ⟨dP _ _, trivial⟩ ⟨S, by omega, hS2, .inr ⟨rfl, ?_, ?_⟩⟩)⟩
            · show [(0, AV.dslice (evs l) l.length cap), (3, rV (s :: r)), (4, I k), (5, AV.dslice ((List.drop 0 (bb S k)).take (k * 1)) k (some k)), (6, I (-1))] = _
              rw [bb_take]
            · show (⟨1, [(0, .cells (pubL 1 (bb S k) (rws (s :: r) 0)))]⟩ : Heap) = _
              rw [pubL_data (rws_noLoc (s :: r) 0)]
              rfl
          · exact ⟨i, by omega, To.gc [(0, true), (1, true)] [0, 3, 4, 5, 6] rfl ⟨dR _, dB _ _, trivial⟩ ⟨S, by omega, hS2, .inl ⟨i - 1, by omega, by rw [show ((i - 1 : Nat) : Int) = (i : Int) - 1 by omega]; rfl, rfl⟩⟩⟩
        · have lW' : r.length + 1 = k := by simpa using lW
          have hiW : i < (s :: r).length := by rw [lW]; omega
          have gT : (s :: r)[i]! = (s :: r)[i] := getElem!_pos (s :: r) i hiW
          have hT := hWb i (by omega)
          have hS0 : S ||| ((wset (s :: r) l k i ||| 2 ^ i) ||| (s :: r)[i]!) = wset (s :: r) l k k := by rw [← hS, wset, gi, gk, if_pos h]
          rw [gT] at hT hS0
          repeat' ((conv => whnf); first
              | refine Branch.ofT rfl ?_
              | refine Branch.ofF rfl ?_
              | refine Branch.dec (fun h => ?_) (fun h => ?_)
              | refine Branch.negdec (fun h => ?_) (fun h => ?_)
              | refine Branch.neg (fun h => ?_) (fun h => ?_)
              | refine Branch.mk (fun h => ?_) (fun h => ?_)
              | (refine Side.mk ?_ ?_; · first | omega | decide)
              | (refine SideD.mk ?_ ?_; · first | omega | decide)
              | refine ⟨_, Nat.lt_succ_self _, To.refl (.inl ⟨rfl, ?_⟩)⟩
              | refine lput_bb (n := k) (by omega) (by omega) (set_bit S i) ?_
              | (refine Side.mk ?_ ?_; · (simp; done))
              | fail
              )
          all_goals (conv => whnf)
          refine ⟨L33c l cap s r k i (S ||| 2 ^ i) (s :: r)[i], i, To.gc [(0, true), (1, true)] [0, 3, 4, 5, 6, 7] rfl ⟨dR _, dB _ _, trivial⟩ ⟨0, by omega, by omega, rfl, rfl⟩, ?_⟩
          rintro m fr H ⟨x, hx, rfl, rfl, rfl⟩
          by_cases hxi : x < i
          · obtain ⟨b1, hb1⟩ : ∃ b, (join (S ||| 2 ^ i) (s :: r)[i] x).testBit x = b := ⟨_, rfl⟩
            obtain ⟨b2, hb2⟩ : ∃ b, ((s :: r)[i]).testBit x = b := ⟨_, rfl⟩
            have hst : ((join (S ||| 2 ^ i) (s :: r)[i] x).testBit x || ((s :: r)[i]).testBit x) = (b1 || b2) := by rw [hb1, hb2]
            cases b1
            all_goals
              repeat' ((conv => whnf); first
                  | refine Branch.ofT rfl ?_
                  | refine Branch.ofF rfl ?_
                  | refine Branch.ofT (decide_eq_true (by omega)) ?_
                  | refine Branch.dec (fun h => ?_) (fun h => ?_)
                  | refine Branch.negdec (fun h => ?_) (fun h => ?_)
                  | refine Branch.neg (fun h => ?_) (fun h => ?_)
                  | refine Branch.mk (fun h => ?_) (fun h => ?_)
                  | (refine Side.mk ?_ ?_; · first | omega | decide)
                  | (refine SideD.mk ?_ ?_; · first | omega | decide)
                  | refine ⟨_, Nat.lt_succ_self _, To.refl (.inl ⟨rfl, ?_⟩)⟩
                  | refine nth_bbb (n := k) (by omega) (by omega) hb1 ?_
                  | refine nth_rw hiW (by omega) ?_
                  | refine nth_bbb (n := i) (by omega) (by omega) hb2 ?_
                  | refine lput_bb (n := k) (by omega) (by omega) (join_step _ _ x hst) ?_
                  | (refine Side.mk ?_ ?_; · (simp; done))
                  | fail
                  )
              all_goals (conv => whnf)
            all_goals exact ⟨i - (x + 1), by omega, To.gc [(0, true), (1, true)] [0, 3, 4, 5, 6, 7] rfl ⟨dR _, dB _ _, trivial⟩ ⟨x + 1, by omega, rfl, rfl, rfl⟩⟩
          · have : x = i := by omega
            subst this
            rw [join_all hT]
            repeat' ((conv => whnf); first
                | refine Branch.ofT rfl ?_
                | refine Branch.ofF rfl ?_
                | refine Branch.ofF (decide_eq_false (by omega)) ?_
                | refine Branch.dec (fun h => ?_) (fun h => ?_)
                | refine Branch.negdec (fun h => ?_) (fun h => ?_)
                | refine Branch.neg (fun h => ?_) (fun h => ?_)
                | refine Branch.mk (fun h => ?_) (fun h => ?_)
                | (refine Side.mk ?_ ?_; · first | omega | decide)
                | (refine SideD.mk ?_ ?_; · first | omega | decide)
                | refine ⟨_, Nat.lt_succ_self _, To.refl (.inl ⟨rfl, ?_⟩)⟩
                | (refine Side.mk ?_ ?_; · (simp; done))
                | fail
                )
            all_goals (conv => whnf)
            have hS2 : (S ||| 2 ^ x) ||| (s :: r)[x] ||| wset (s :: r) l k x = wset (s :: r) l k k := by
              rw [← hS0]
              simp only [Nat.or_assoc]
              congr 1
              rw [Nat.or_comm (wset (s :: r) l k x), Nat.or_assoc]
            generalize (S ||| 2 ^ x) ||| (s :: r)[x] = S at *
            have i0 := x
            by_cases hi0 : x = 0
            · subst hi0
              refine ⟨0, by omega, To.pub 1 [0, 3, 4, 5, 6] rfl (bb_noLoc S k) (To.gc [(0, true)] [0, 3, 4, 5, 6] rfl ⟨dP _ _, trivial⟩ ⟨S, by omega, hS2, .inr ⟨rfl, ?_, ?_⟩⟩)⟩
              · show [(0, AV.dslice (evs l) l.length cap), (3, rV (s :: r)), (4, I k), (5, AV.dslice ((List.drop 0 (bb S k)).take (k * 1)) k (some k)), (6, I (-1))] = _
                rw [bb_take]
              · show (⟨1, [(0, .cells (pubL 1 (bb S k) (rws (s :: r) 0)))]⟩ : Heap) = _
                rw [pubL_data (rws_noLoc (s :: r) 0)]
                rfl
            · exact ⟨x, by omega, To.gc [(0, true), (1, true)] [0, 3, 4, 5, 6] rfl ⟨dR _, dB _ _, trivial⟩ ⟨S, by omega, hS2, .inl ⟨x - 1, by omega, by rw [show ((x - 1 : Nat) : Int) = (x : Int) - 1 by omega]; rfl, rfl⟩⟩⟩
      · have hS' : S = wset (s :: r) l k k := by rw [← hS]; simp [wset]
        repeat' ((conv => whnf); first
            | refine Branch.ofT rfl ?_
            | refine Branch.ofF rfl ?_
            | refine Branch.dec (fun h => ?_) (fun h => ?_)
            | refine Branch.negdec (fun h => ?_) (fun h => ?_)
            | refine Branch.neg (fun h => ?_) (fun h => ?_)
            | refine Branch.mk (fun h => ?_) (fun h => ?_)
            | (refine Side.mk ?_ ?_; · first | omega | decide)
            | (refine SideD.mk ?_ ?_; · first | omega | decide)
            | refine ⟨_, Nat.lt_succ_self _, To.refl (.inl ⟨rfl, ?_⟩)⟩
            | refine Side.mk (appR (s :: r) S k (by omega)) ?_
            | (refine Side.mk ?_ ?_; · (simp; done))
            | fail
            )
        all_goals (conv => whnf)
        exact ⟨l.length - (k + 1), by omega, To.gc [(1, true)] [0, 3, 4] rfl ⟨datR (s :: r) S k, trivial⟩ ⟨k + 1, by omega, rfl, by rw [hws]; simp [rV]; rfl, by rw [hws, ← hS', HR_app, lW]; rfl⟩⟩
  · have : k = l.length := by omega
    subst this
    generalize ws l l.length = W at *
    cases W with
    | nil =>
      repeat' ((conv => whnf); first
          | refine Branch.ofT rfl ?_
          | refine Branch.ofF rfl ?_
          | refine Branch.ofF (decide_eq_false (by omega)) ?_
          | refine Branch.dec (fun h => ?_) (fun h => ?_)
          | refine Branch.negdec (fun h => ?_) (fun h => ?_)
          | refine Branch.neg (fun h => ?_) (fun h => ?_)
          | refine Branch.mk (fun h => ?_) (fun h => ?_)
          | (refine Side.mk ?_ ?_; · first | omega | decide)
          | (refine SideD.mk ?_ ?_; · first | omega | decide)
          | refine ⟨_, Nat.lt_succ_self _, To.refl (.inl ⟨rfl, ?_⟩)⟩
          | (refine Side.mk ?_ ?_; · (simp; done))
          | fail
          )
      all_goals (conv => whnf)
      exact RetA.gc [] rfl trivial ⟨rfl, rfl⟩
    | cons s r =>
      repeat' ((conv => whnf); first
          | refine Branch.ofT rfl ?_
          | refine Branch.ofF rfl ?_
          | refine Branch.ofF (decide_eq_false (by omega)) ?_
          | refine Branch.dec (fun h => ?_) (fun h => ?_)
          | refine Branch.negdec (fun h => ?_) (fun h => ?_)
          | refine Branch.neg (fun h => ?_) (fun h => ?_)
          | refine Branch.mk (fun h => ?_) (fun h => ?_)
          | (refine Side.mk ?_ ?_; · first | omega | decide)
          | (refine SideD.mk ?_ ?_; · first | omega | decide)
          | refine ⟨_, Nat.lt_succ_self _, To.refl (.inl ⟨rfl, ?_⟩)⟩
          | (refine Side.mk ?_ ?_; · (simp; done))
          | fail
          )
      all_goals (conv => whnf)
      exact RetA.gc [(0, true)] rfl ⟨dR _, trivial⟩ ⟨rfl, rfl⟩
end Go.Proofs

namespace Go.Proofs
open Go Go.Eng
set_option maxRecDepth 100000
set_option maxHeartbeats 4000000
/-- The specification: a longer way, over the first n places behind i. -/
def lg (W : List Nat) (k i : Nat) : Nat → Bool
  | 0 => false
  | n + 1 => lg W k i n || (W[i + 1 + n]!.testBit i && W[k]!.testBit (i + 1 + n))
def ek2 (l : List Ev) (W : List Nat) (k : Nat) : Nat → List (Int × Int)
  | 0 => []
  | i + 1 => if (decide (l[i]!.cpu = l[k]!.cpu) = false ∧ con l[i]! l[k]! = true) ∧ lg W k i (k - 1 - i) = false then ek2 l W k i ++ [((i : Int), (k : Int))] else ek2 l W k i
def es2 (l : List Ev) (W : List Nat) : Nat → List (Int × Int)
  | 0 => []
  | k + 1 => es2 l W k ++ ek2 l W k k
/-! ### The plain law -/
theorem dset_bit (l : List Ev) (k : Nat) : ∀ i j, (dset l k i).testBit j = (decide (j < i) && con l[j]! l[k]!)
  | 0, j => by simp [dset]
  | i + 1, j => by
    have ih := dset_bit l k i j
    simp only [dset]
    by_cases hc : con l[i]! l[k]! = true
    · rw [if_pos hc, set_bit, ih]
      by_cases hj : i = j
      · subst hj; rw [if_pos rfl, hc, decide_eq_true (Nat.lt_succ_self i)]; rfl
      · have : decide (j < i + 1) = decide (j < i) := by
          by_cases q : j < i
          · rw [decide_eq_true q, decide_eq_true (by omega)]
          · rw [decide_eq_false q, decide_eq_false (by omega)]
        rw [if_neg hj, this]
    · rw [if_neg hc, ih]
      by_cases hj : i = j
      · subst hj; rw [Bool.eq_false_iff.2 hc, Bool.and_false, Bool.and_false]
      · have : decide (j < i + 1) = decide (j < i) := by
          by_cases q : j < i
          · rw [decide_eq_true q, decide_eq_true (by omega)]
          · rw [decide_eq_false q, decide_eq_false (by omega)]
        rw [this]
theorem lngr_bit (D : Nat) (W : List Nat) : ∀ i j, (lngr D W i).testBit j = true ↔ ∃ x, x < i ∧ D.testBit x = true ∧ W[x]!.testBit j = true
  | 0, j => by simp [lngr]
  | i + 1, j => by
    have ih := lngr_bit D W i j
    simp only [lngr]
    by_cases hd : D.testBit i = true
    · rw [if_pos hd, Nat.testBit_or, Bool.or_eq_true, ih]
      constructor
      · rintro (⟨x, h1, h2⟩ | h)
        · exact ⟨x, by omega, h2⟩
        · exact ⟨i, by omega, hd, h⟩
      · rintro ⟨x, h1, h2, h3⟩
        rcases Nat.lt_succ_iff_lt_or_eq.1 h1 with q | rfl
        · exact .inl ⟨x, q, h2, h3⟩
        · exact .inr h3
    · rw [if_neg hd, ih]
      constructor
      · rintro ⟨x, h1, h2⟩; exact ⟨x, by omega, h2⟩
      · rintro ⟨x, h1, h2, h3⟩
        rcases Nat.lt_succ_iff_lt_or_eq.1 h1 with q | rfl
        · exact ⟨x, q, h2, h3⟩
        · exact absurd h2 hd
theorem lg_iff (W : List Nat) (k i : Nat) : ∀ n, lg W k i n = true ↔ ∃ x, i < x ∧ x < i + 1 + n ∧ W[x]!.testBit i = true ∧ W[k]!.testBit x = true
  | 0 => by
    simp only [lg, Bool.false_eq_true, false_iff]
    rintro ⟨x, h1, h2, _⟩; omega
  | n + 1 => by
    simp only [lg, Bool.or_eq_true, lg_iff W k i n, Bool.and_eq_true]
    constructor
    · rintro (⟨x, h1, h2, h3⟩ | h)
      · exact ⟨x, h1, by omega, h3⟩
      · exact ⟨i + 1 + n, by omega, by omega, h⟩
    · rintro ⟨x, h1, h2, h3⟩
      rcases Nat.lt_or_ge x (i + 1 + n) with q | q
      · exact .inl ⟨x, h1, q, h3⟩
      · have : x = i + 1 + n := by omega
        subst this
        exact .inr h3
end Go.Proofs

namespace Go.Proofs
open Go Go.Eng
set_option maxRecDepth 100000
set_option maxHeartbeats 4000000
theorem wset_iff (W : List Nat) (l : List Ev) (k : Nat) : ∀ i j, (wset W l k i).testBit j = true ↔ ∃ x, x < i ∧ con l[x]! l[k]! = true ∧ (x = j ∨ W[x]!.testBit j = true)
  | 0, j => by simp [wset]
  | i + 1, j => by
    have ih := wset_iff W l k i j
    simp only [wset]
    by_cases hc : con l[i]! l[k]! = true
    · rw [if_pos hc, Nat.testBit_or, Nat.testBit_or, Bool.or_eq_true, Bool.or_eq_true, ih, Nat.testBit_two_pow]
      constructor
      · rintro ((⟨x, h1, h2⟩ | h) | h)
        · exact ⟨x, by omega, h2⟩
        · exact ⟨i, by omega, hc, .inl (by simpa using h)⟩
        · exact ⟨i, by omega, hc, .inr h⟩
      · rintro ⟨x, h1, h2, h3⟩
        rcases Nat.lt_succ_iff_lt_or_eq.1 h1 with q | rfl
        · exact .inl (.inl ⟨x, q, h2, h3⟩)
        · rcases h3 with rfl | h3
          · exact .inl (.inr (by simp))
          · exact .inr h3
    · rw [if_neg hc, ih]
      constructor
      · rintro ⟨x, h1, h2⟩; exact ⟨x, by omega, h2⟩
      · rintro ⟨x, h1, h2, h3⟩
        rcases Nat.lt_succ_iff_lt_or_eq.1 h1 with q | rfl
        · exact ⟨x, q, h2, h3⟩
        · exact absurd h2 hc
theorem ws_pre (l : List Ev) : ∀ n x, x < n → ∀ j, j < x → (ws l n)[j]! = (ws l x)[j]!
  | n + 1, x, h, j, hj => by
    by_cases hx : x < n
    · rw [ws_old l n j (by omega), ws_pre l n x hx j hj]
    · have : x = n := by omega
      subst this
      rw [ws_old l x j hj]
theorem ws_at (l : List Ev) : ∀ n x, x < n → (ws l n)[x]! = wset (ws l x) l x x
  | n + 1, x, h => by
    by_cases hx : x < n
    · rw [ws_old l n x hx, ws_at l n x hx]
    · have : x = n := by omega
      subst this
      exact ws_new l x
theorem ws_iff (l : List Ev) (n k j : Nat) (h : k < n) : (ws l n)[k]!.testBit j = true ↔ ∃ x, x < k ∧ con l[x]! l[k]! = true ∧ (x = j ∨ (ws l n)[x]!.testBit j = true) := by
  rw [ws_at l n k h, wset_iff]
  constructor
  · rintro ⟨x, h1, h2, h3⟩
    exact ⟨x, h1, h2, h3.imp id fun q => by rw [ws_pre l n k h x h1]; exact q⟩
  · rintro ⟨x, h1, h2, h3⟩
    exact ⟨x, h1, h2, h3.imp id fun q => by rw [ws_pre l n k h x h1] at q; exact q⟩
theorem ws_trans (l : List Ev) (n : Nat) : ∀ y, y < n → ∀ x i, (ws l n)[y]!.testBit x = true → (ws l n)[x]!.testBit i = true → (ws l n)[y]!.testBit i = true := by
  intro y
  induction y using Nat.strongRecOn with
  | _ y ih =>
    intro hy x i h1 h2
    obtain ⟨z, g1, g2, g3⟩ := (ws_iff l n y x hy).1 h1
    refine (ws_iff l n y i hy).2 ⟨z, g1, g2, .inr ?_⟩
    rcases g3 with rfl | g3
    · exact h2
    · exact ih z g1 (by omega) x i g3 h2
end Go.Proofs

namespace Go.Proofs
open Go Go.Eng
set_option maxRecDepth 100000
set_option maxHeartbeats 4000000
theorem ds_old (l : List Ev) (k j : Nat) (h : j < k) : (ds l (k + 1))[j]! = (ds l k)[j]! := by
  have hl : j < (ds l k).length := by rw [ds_len]; exact h
  simp only [ds]
  rw [getElem!_pos (ds l k) j hl, getElem!_pos (ds l k ++ _) j (by rw [List.length_append]; omega), List.getElem_append_left hl]
theorem ds_new (l : List Ev) (k : Nat) : (ds l (k + 1))[k]! = dset l k k := by
  have hl : k < (ds l k ++ [dset l k k]).length := by rw [List.length_append, ds_len]; exact Nat.lt_succ_self k
  simp only [ds]
  rw [getElem!_pos (ds l k ++ _) k hl, List.getElem_append_right (by rw [ds_len]; exact Nat.le_refl _)]
  simp only [ds_len, Nat.sub_self, List.getElem_singleton]
theorem ds_at (l : List Ev) : ∀ n x, x < n → (ds l n)[x]! = dset l x x
  | n + 1, x, h => by
    by_cases hx : x < n
    · rw [ds_old l n x hx, ds_at l n x hx]
    · have : x = n := by omega
      subst this
      exact ds_new l x
theorem long_iff (l : List Ev) (n k i : Nat) (hk : k < n) (hi : i < k) : (lngr (ds l n)[k]! (ws l n) k).testBit i = lg (ws l n) k i (k - 1 - i) := by
  rw [Bool.eq_iff_iff, lngr_bit, lg_iff, ds_at l n k hk]
  constructor
  · rintro ⟨x, h1, h2, h3⟩
    rw [dset_bit] at h2
    simp only [Bool.and_eq_true, decide_eq_true_eq] at h2
    have hix : i < x := by
      rcases Nat.lt_or_ge i x with q | q
      · exact q
      · have := Nat.testBit_lt_two_pow (x := (ws l n)[x]!) (i := i) (Nat.lt_of_lt_of_le (ws_bit l n x (by omega)) (Nat.pow_le_pow_right (by decide) q))
        rw [this] at h3; cases h3
    exact ⟨x, hix, by omega, h3, (ws_iff l n k x hk).2 ⟨x, h1, h2.2, .inl rfl⟩⟩
  · rintro ⟨x, h1, h2, h3, h4⟩
    obtain ⟨z, g1, g2, g3⟩ := (ws_iff l n k x hk).1 h4
    have hd : (dset l k k).testBit z = true := by rw [dset_bit, g2, decide_eq_true g1]; rfl
    rcases g3 with rfl | g3
    · exact ⟨z, g1, hd, h3⟩
    · exact ⟨z, g1, hd, ws_trans l n z (by omega) x i g3 h3⟩
theorem ek_eq (l : List Ev) (n k : Nat) (hk : k < n) : ∀ i, i ≤ k → ek l k (ds l n)[k]! (lngr (ds l n)[k]! (ws l n) k) i = ek2 l (ws l n) k i
  | 0, _ => rfl
  | i + 1, h => by
    have ih := ek_eq l n k hk i (by omega)
    have h1 : ((ds l n)[k]!).testBit i = con l[i]! l[k]! := by rw [ds_at l n k hk, dset_bit, decide_eq_true (by omega)]; rfl
    have h2 := long_iff l n k i hk (by omega)
    rw [ek, ek2, ih, h1, h2]
theorem es_eq (l : List Ev) (n : Nat) : ∀ k, k ≤ n → es l (ds l n) (ws l n) k = es2 l (ws l n) k
  | 0, _ => rfl
  | k + 1, h => by rw [es, es2, es_eq l n k (by omega), ek_eq l n k (by omega) k (Nat.le_refl _)]
end Go.Proofs

namespace Go.Proofs
open Go Go.Eng
set_option maxRecDepth 100000
set_option maxHeartbeats 8000000
theorem ek2_len (l : List Ev) (W : List Nat) (k : Nat) : ∀ i, (ek2 l W k i).length ≤ i
  | 0 => Nat.le_refl _
  | i + 1 => by
    have := ek2_len l W k i
    simp only [ek2]
    split
    · simp; omega
    · omega
theorem es2_len (l : List Ev) (W : List Nat) : ∀ k, k ≤ 60 → (es2 l W k).length ≤ k * 60
  | 0, _ => Nat.le_refl _
  | k + 1, h => by
    have h1 := es2_len l W k (by omega)
    have h2 := ek2_len l W k k
    simp only [es2, List.length_append]
    omega
def HR2 (W : List Nat) : List (Int × Int) → Heap
  | [] => ⟨1, [(0, .cells (rws W 0))]⟩
  | e :: r => ⟨2, [(0, .cells (rws W 0)), (1, .cells (ecs (e :: r)))]⟩
def sl15 (l : List Ev) (cap : Option Nat) (E : List (Int × Int)) (k : Nat) : Fr := [(0, .dslice (evs l) l.length cap), (3, .slice 0 0 l.length none 1), (4, oV 1 E), (5, I k)]
def L15 (l : List Ev) (cap : Option Nat) (W : List Nat) (m : Nat) (fr : Fr) (H : Heap) : Prop := ∃ k : Nat, k ≤ l.length ∧ m = l.length - k ∧ fr = [(0, .dslice (evs l) l.length cap), (3, .slice 0 0 l.length none 1), (4, oV 1 (es2 l W k)), (5, I k)] ∧ H = HR2 W (es2 l W k)
def L15a (l : List Ev) (cap : Option Nat) (W : List Nat) (k : Nat) (E : List (Int × Int)) (m : Nat) (fr : Fr) (H : Heap) : Prop := ∃ i : Nat, i ≤ k ∧ m = k - i ∧ fr = [(0, .dslice (evs l) l.length cap), (3, .slice 0 0 l.length none 1), (4, oV 1 (E ++ ek2 l W k i)), (5, I k), (6, I i)] ∧ H = HR2 W (E ++ ek2 l W k i)
def L15x (l : List Ev) (cap : Option Nat) (W : List Nat) (k i : Nat) (F : List (Int × Int)) (m : Nat) (fr : Fr) (H : Heap) : Prop := ∃ n : Nat, n ≤ k - 1 - i ∧ m = k - 1 - i - n ∧ fr = [(0, .dslice (evs l) l.length cap), (3, .slice 0 0 l.length none 1), (4, oV 1 F), (5, I k), (6, I i), (7, .bool (lg W k i n)), (8, I (i + 1 + n : Nat))] ∧ H = HR2 W F
theorem oV_app1 (f z : Int × Int) (q : List (Int × Int)) : AV.slice 1 0 (q.length + 1 + 1) none 2 = oV 1 (f :: (q ++ [z])) := by simp [oV]
theorem HR2_app (W : List Nat) (f z : Int × Int) (q : List (Int × Int)) : (⟨2, [(0, .cells (rws W 0)), (1, .cells (ecs (f :: q) ++ [I z.1, I z.2]))]⟩ : Heap) = HR2 W (f :: (q ++ [z])) := by
  have : ecs (f :: q) ++ [I z.1, I z.2] = ecs (f :: (q ++ [z])) := by
    rw [show f :: (q ++ [z]) = (f :: q) ++ [z] from rfl, ecs_app]; rfl
  rw [this]; rfl
def H1 : List (Int × Int) → Heap
  | [] => Heap.nil
  | e :: r => ⟨1, [(0, .cells (ecs (e :: r)))]⟩
theorem nth_rwW {W : List Nat} {i off : Nat} (h : i < W.length) (ho : off = i) {K : AV → Prop} (hk : K (.dslice (bb W[i]! i) i (some i))) : nthK 0 ((rws W 0).drop off) K := by
  rw [getElem!_pos W i h] at hk; exact nth_rw h ho hk
theorem c15 (l : List Ev) (cap : Option Nat) (hl : l.length ≤ 60) (hok : ∀ i (h : i < l.length), l[i].ok) :
    CallA Try.prog 15 [.dslice (evs l) l.length cap] Heap.nil fun v H' => v = oV 0 (es2 l (ws l l.length) l.length) ∧ H' = H1 (es2 l (ws l l.length) l.length) := by
  have h33 := c33 l cap hl hok
  have lW := ws_len l l.length
  have hWb := ws_bit l l.length
  generalize ws l l.length = W at *
  have dR : dataB (.cells (rws W 0)) := fun c hc => rws_noLoc W 0 c hc
  have dE : ∀ l, dataB (.cells (ecs l)) := fun l c hc => ecs_noLoc l c hc
  refine callA_of ok15 (Nat.le_of_ble_eq_true rfl) ?_
  repeat' ((conv => whnf); first
      | refine Branch.ofT rfl ?_
      | refine Branch.ofF rfl ?_
      | refine Branch.dec (fun h => ?_) (fun h => ?_)
      | refine Branch.negdec (fun h => ?_) (fun h => ?_)
      | refine Branch.neg (fun h => ?_) (fun h => ?_)
      | refine Branch.mk (fun h => ?_) (fun h => ?_)
      | (refine Side.mk ?_ ?_; · first | omega | decide)
      | (refine SideD.mk ?_ ?_; · first | omega | decide)
      | refine ⟨_, Nat.lt_succ_self _, To.refl (.inl ⟨rfl, ?_⟩)⟩
      | (refine CallA.mono h33 ?_; rintro _ _ ⟨rfl, rfl⟩)
      | (refine Side.mk ?_ ?_; · (simp; done))
      | fail
      )
  all_goals (conv => whnf)
  by_cases hl0 : l.length = 0
  · have : W = [] := List.length_eq_zero_iff.1 (by omega)
    subst this
    have e0 : es2 l [] l.length = [] := by rw [hl0]; rfl
    rw [e0]
    refine LoopA.unroll _ _ _ 1 ?_
    repeat' ((conv => whnf); first
        | refine Branch.ofT rfl ?_
        | refine Branch.ofF rfl ?_
        | refine Branch.ofF (decide_eq_false (by omega)) ?_
        | refine Branch.dec (fun h => ?_) (fun h => ?_)
        | refine Branch.negdec (fun h => ?_) (fun h => ?_)
        | refine Branch.neg (fun h => ?_) (fun h => ?_)
        | refine Branch.mk (fun h => ?_) (fun h => ?_)
        | (refine Side.mk ?_ ?_; · first | omega | decide)
        | (refine SideD.mk ?_ ?_; · first | omega | decide)
        | refine ⟨_, Nat.lt_succ_self _, To.refl (.inl ⟨rfl, ?_⟩)⟩
        | (refine Side.mk ?_ ?_; · (simp; done))
        | fail
        )
    all_goals (conv => whnf)
    exact RetA.gc [] rfl trivial ⟨rfl, rfl⟩
  have hrV : rV W = .slice 0 0 l.length none 1 := by
    cases W with
    | nil => exact absurd lW.symm hl0
    | cons s r => rw [← lW]; rfl
  have hHR : HR W = ⟨1, [(0, .cells (rws W 0))]⟩ := by
    cases W with
    | nil => exact absurd lW.symm hl0
    | cons s r => rfl
  rw [hrV, hHR]
  refine ⟨L15 l cap W, l.length, To.gc [(0, true)] [0, 3, 4, 5] rfl ⟨dR, trivial⟩ ⟨0, by omega, by omega, rfl, rfl⟩, ?_⟩
  rintro m fr H ⟨k, hk, rfl, rfl, rfl⟩
  by_cases hkl : k < l.length
  · have hkt := evs_at k l hkl
    have gk : l[k]! = l[k] := getElem!_pos l k hkl
    have hes : es2 l W (k + 1) = es2 l W k ++ ek2 l W k k := rfl
    have hEl := es2_len l W k (by omega)
    have hEl : (es2 l W k).length ≤ 3600 := by omega
    generalize es2 l W k = E at *
    repeat' ((conv => whnf); first
        | refine Branch.ofT rfl ?_
        | refine Branch.ofF rfl ?_
        | refine Branch.ofT (decide_eq_true (by omega)) ?_
        | refine Branch.dec (fun h => ?_) (fun h => ?_)
        | refine Branch.negdec (fun h => ?_) (fun h => ?_)
        | refine Branch.neg (fun h => ?_) (fun h => ?_)
        | refine Branch.mk (fun h => ?_) (fun h => ?_)
        | (refine Side.mk ?_ ?_; · first | omega | decide)
        | (refine SideD.mk ?_ ?_; · first | omega | decide)
        | refine ⟨_, Nat.lt_succ_self _, To.refl (.inl ⟨rfl, ?_⟩)⟩
        | (refine Side.mk ?_ ?_; · (simp; done))
        | fail
        )
    all_goals (conv => whnf)
    refine ⟨L15a l cap W k E, k, ?_, ?_⟩
    · cases E with
      | nil => exact To.gc [(0, true)] [0, 3, 4, 5, 6] rfl ⟨dR, trivial⟩ ⟨0, by omega, by omega, rfl, rfl⟩
      | cons e r => exact To.gc [(0, true), (1, true)] [0, 3, 4, 5, 6] rfl ⟨dR, dE (e :: r), trivial⟩ ⟨0, by omega, by omega, by rw [ek2, List.append_nil]; rfl, by rw [ek2, List.append_nil]; rfl⟩
    rintro m fr H ⟨i, hi, rfl, rfl, rfl⟩
    by_cases hik : i < k
    · have hit := evs_at i l (by omega)
      have gi : l[i]! = l[i] := getElem!_pos l i (by omega)
      have h12 := c12 l[i] l[k] (hok i (by omega)) (hok k hkl)
      have hst : E ++ ek2 l W k (i + 1) = if (decide (l[i].cpu = l[k].cpu) = false ∧ con l[i] l[k] = true) ∧ lg W k i (k - 1 - i) = false then (E ++ ek2 l W k i) ++ [((i : Int), (k : Int))] else E ++ ek2 l W k i := by
        rw [ek2, gi, gk]; split
        · rw [List.append_assoc]
        · rfl
      have hGl : (E ++ ek2 l W k i).length ≤ 5000 := by
        have := ek2_len l W k i
        rw [List.length_append]; omega
      generalize E ++ ek2 l W k i = G at *
      obtain ⟨bc, hbc⟩ : ∃ b, con l[i] l[k] = b := ⟨_, rfl⟩
      rw [hbc] at h12 hst
      cases G with
      | nil =>
        repeat' ((conv => whnf); first
            | refine Branch.ofT rfl ?_
            | refine Branch.ofF rfl ?_
            | refine Branch.ofT (decide_eq_true (by omega)) ?_
            | refine Branch.dec (fun h => ?_) (fun h => ?_)
            | refine Branch.negdec (fun h => ?_) (fun h => ?_)
            | refine Branch.neg (fun h => ?_) (fun h => ?_)
            | refine Branch.mk (fun h => ?_) (fun h => ?_)
            | (refine Side.mk ?_ ?_; · first | omega | decide)
            | (refine SideD.mk ?_ ?_; · first | omega | decide)
            | refine ⟨_, Nat.lt_succ_self _, To.refl (.inl ⟨rfl, ?_⟩)⟩
            | refine nt0 hit ?_
            | refine nt0 hkt ?_
            | refine tk3 hit ?_
            | refine tk3 hkt ?_
            | refine QCallA.of h12 rfl rfl ?_
            | (refine Side.mk ?_ ?_; · (simp; done))
            | fail
            )
        all_goals (conv => whnf)
        all_goals first
          | (have hn : E ++ ek2 l W k (i + 1) = [] := by
              rw [hst, if_neg (fun q => by obtain ⟨⟨q1, q2⟩, q3⟩ := q; simp_all)]
             exact ⟨k - (i + 1), by omega, To.gc [(0, true)] [0, 3, 4, 5, 6] rfl ⟨dR, trivial⟩ ⟨i + 1, by omega, rfl, by rw [hn]; rfl, by rw [hn]; rfl⟩⟩)
          | skip
        refine ⟨L15x l cap W k i [], k - 1 - i, To.gc [(0, true)] [0, 3, 4, 5, 6, 7, 8] rfl ⟨dR, trivial⟩ ⟨0, by omega, by omega, rfl, rfl⟩, ?_⟩
        rintro m fr H ⟨n, hn, rfl, rfl, rfl⟩
        by_cases hnk : n < k - 1 - i
        · have hs : lg W k i (n + 1) = (lg W k i n || (W[i + 1 + n]!.testBit i && W[k]!.testBit (i + 1 + n))) := rfl
          obtain ⟨b0, hb0⟩ : ∃ b, lg W k i n = b := ⟨_, rfl⟩
          obtain ⟨b1, hb1⟩ : ∃ b, W[i + 1 + n]!.testBit i = b := ⟨_, rfl⟩
          obtain ⟨b2, hb2⟩ : ∃ b, W[k]!.testBit (i + 1 + n) = b := ⟨_, rfl⟩
          rw [hb0, hb1, hb2] at hs
          rw [hb0]
          cases b0 <;> cases b1
          all_goals
            repeat' ((conv => whnf); first
                | refine Branch.ofT rfl ?_
                | refine Branch.ofF rfl ?_
                | refine Branch.ofT (decide_eq_true (by omega)) ?_
                | refine Branch.dec (fun h => ?_) (fun h => ?_)
                | refine Branch.negdec (fun h => ?_) (fun h => ?_)
                | refine Branch.neg (fun h => ?_) (fun h => ?_)
                | refine Branch.mk (fun h => ?_) (fun h => ?_)
                | (refine Side.mk ?_ ?_; · first | omega | decide)
                | (refine SideD.mk ?_ ?_; · first | omega | decide)
                | refine ⟨_, Nat.lt_succ_self _, To.refl (.inl ⟨rfl, ?_⟩)⟩
                | refine nth_rwW (i := i + 1 + n) (by omega) (by omega) ?_
                | refine nth_rwW (i := k) (by omega) (by omega) ?_
                | refine nth_bbb (n := i + 1 + n) (by omega) (by omega) hb1 ?_
                | refine nth_bbb (n := k) (by omega) (by omega) hb2 ?_
                | (refine Side.mk ?_ ?_; · (simp; done))
                | fail
                )
            all_goals (conv => whnf)
          all_goals exact ⟨k - 1 - i - (n + 1), by omega, To.gc [(0, true)] [0, 3, 4, 5, 6, 7, 8] rfl ⟨dR, trivial⟩ ⟨n + 1, by omega, rfl, by rw [hs]; rfl, rfl⟩⟩
        · have : n = k - 1 - i := by omega
          subst this
          obtain ⟨b, hb⟩ : ∃ b, lg W k i (k - 1 - i) = b := ⟨_, rfl⟩
          rw [hb]
          rw [hb] at hst
          cases b
          · repeat' ((conv => whnf); first
                | refine Branch.ofT rfl ?_
                | refine Branch.ofF rfl ?_
                | refine Branch.ofF (decide_eq_false (by omega)) ?_
                | refine Branch.dec (fun h => ?_) (fun h => ?_)
                | refine Branch.negdec (fun h => ?_) (fun h => ?_)
                | refine Branch.neg (fun h => ?_) (fun h => ?_)
                | refine Branch.mk (fun h => ?_) (fun h => ?_)
                | (refine Side.mk ?_ ?_; · first | omega | decide)
                | (refine SideD.mk ?_ ?_; · first | omega | decide)
                | refine ⟨_, Nat.lt_succ_self _, To.refl (.inl ⟨rfl, ?_⟩)⟩
                | refine Side.mk (app1 _ _) ?_
                | (refine Side.mk ?_ ?_; · (simp; done))
                | fail
                )
            all_goals (conv => whnf)
            have hn : E ++ ek2 l W k (i + 1) = [((i : Int), (k : Int))] := by rw [hst, if_pos ⟨⟨decide_eq_false ‹¬ l[i].cpu = l[k].cpu›, ‹bc = true›⟩, rfl⟩]; rfl
            exact ⟨k - (i + 1), by omega, To.gc [(0, true), (1, true)] [0, 3, 4, 5, 6] rfl ⟨dR, datE rfl, trivial⟩ ⟨i + 1, by omega, rfl, by rw [hn]; rfl, by rw [hn]; rfl⟩⟩
          · repeat' ((conv => whnf); first
                | refine Branch.ofT rfl ?_
                | refine Branch.ofF rfl ?_
                | refine Branch.ofF (decide_eq_false (by omega)) ?_
                | refine Branch.dec (fun h => ?_) (fun h => ?_)
                | refine Branch.negdec (fun h => ?_) (fun h => ?_)
                | refine Branch.neg (fun h => ?_) (fun h => ?_)
                | refine Branch.mk (fun h => ?_) (fun h => ?_)
                | (refine Side.mk ?_ ?_; · first | omega | decide)
                | (refine SideD.mk ?_ ?_; · first | omega | decide)
                | refine ⟨_, Nat.lt_succ_self _, To.refl (.inl ⟨rfl, ?_⟩)⟩
                | (refine Side.mk ?_ ?_; · (simp; done))
                | fail
                )
            all_goals (conv => whnf)
            have hn : E ++ ek2 l W k (i + 1) = [] := by
              rw [hst, if_neg (fun q => by obtain ⟨⟨q1, q2⟩, q3⟩ := q; simp_all)]
            exact ⟨k - (i + 1), by omega, To.gc [(0, true)] [0, 3, 4, 5, 6] rfl ⟨dR, trivial⟩ ⟨i + 1, by omega, rfl, by rw [hn]; rfl, by rw [hn]; rfl⟩⟩
      | cons g q =>
        repeat' ((conv => whnf); first
            | refine Branch.ofT rfl ?_
            | refine Branch.ofF rfl ?_
            | refine Branch.ofT (decide_eq_true (by omega)) ?_
            | refine Branch.dec (fun h => ?_) (fun h => ?_)
            | refine Branch.negdec (fun h => ?_) (fun h => ?_)
            | refine Branch.neg (fun h => ?_) (fun h => ?_)
            | refine Branch.mk (fun h => ?_) (fun h => ?_)
            | (refine Side.mk ?_ ?_; · first | omega | decide)
            | (refine SideD.mk ?_ ?_; · first | omega | decide)
            | refine ⟨_, Nat.lt_succ_self _, To.refl (.inl ⟨rfl, ?_⟩)⟩
            | refine nt0 hit ?_
            | refine nt0 hkt ?_
            | refine tk3 hit ?_
            | refine tk3 hkt ?_
            | refine QCallA.of h12 rfl rfl ?_
            | (refine Side.mk ?_ ?_; · (simp; done))
            | fail
            )
        all_goals (conv => whnf)
        all_goals first
          | (have hn : E ++ ek2 l W k (i + 1) = (g :: q) := by
              rw [hst, if_neg (fun q => by obtain ⟨⟨q1, q2⟩, q3⟩ := q; simp_all)]
             exact ⟨k - (i + 1), by omega, To.gc [(0, true), (1, true)] [0, 3, 4, 5, 6] rfl ⟨dR, dE (g :: q), trivial⟩ ⟨i + 1, by omega, rfl, by rw [hn]; rfl, by rw [hn]; rfl⟩⟩)
          | skip
        refine ⟨L15x l cap W k i (g :: q), k - 1 - i, To.gc [(0, true), (1, true)] [0, 3, 4, 5, 6, 7, 8] rfl ⟨dR, dE (g :: q), trivial⟩ ⟨0, by omega, by omega, rfl, rfl⟩, ?_⟩
        rintro m fr H ⟨n, hn, rfl, rfl, rfl⟩
        by_cases hnk : n < k - 1 - i
        · have hs : lg W k i (n + 1) = (lg W k i n || (W[i + 1 + n]!.testBit i && W[k]!.testBit (i + 1 + n))) := rfl
          obtain ⟨b0, hb0⟩ : ∃ b, lg W k i n = b := ⟨_, rfl⟩
          obtain ⟨b1, hb1⟩ : ∃ b, W[i + 1 + n]!.testBit i = b := ⟨_, rfl⟩
          obtain ⟨b2, hb2⟩ : ∃ b, W[k]!.testBit (i + 1 + n) = b := ⟨_, rfl⟩
          rw [hb0, hb1, hb2] at hs
          rw [hb0]
          cases b0 <;> cases b1
          all_goals
            repeat' ((conv => whnf); first
                | refine Branch.ofT rfl ?_
                | refine Branch.ofF rfl ?_
                | refine Branch.ofT (decide_eq_true (by omega)) ?_
                | refine Branch.dec (fun h => ?_) (fun h => ?_)
                | refine Branch.negdec (fun h => ?_) (fun h => ?_)
                | refine Branch.neg (fun h => ?_) (fun h => ?_)
                | refine Branch.mk (fun h => ?_) (fun h => ?_)
                | (refine Side.mk ?_ ?_; · first | omega | decide)
                | (refine SideD.mk ?_ ?_; · first | omega | decide)
                | refine ⟨_, Nat.lt_succ_self _, To.refl (.inl ⟨rfl, ?_⟩)⟩
                | refine nth_rwW (i := i + 1 + n) (by omega) (by omega) ?_
                | refine nth_rwW (i := k) (by omega) (by omega) ?_
                | refine nth_bbb (n := i + 1 + n) (by omega) (by omega) hb1 ?_
                | refine nth_bbb (n := k) (by omega) (by omega) hb2 ?_
                | (refine Side.mk ?_ ?_; · (simp; done))
                | fail
                )
            all_goals (conv => whnf)
          all_goals exact ⟨k - 1 - i - (n + 1), by omega, To.gc [(0, true), (1, true)] [0, 3, 4, 5, 6, 7, 8] rfl ⟨dR, dE (g :: q), trivial⟩ ⟨n + 1, by omega, rfl, by rw [hs]; rfl, rfl⟩⟩
        · have : n = k - 1 - i := by omega
          subst this
          obtain ⟨b, hb⟩ : ∃ b, lg W k i (k - 1 - i) = b := ⟨_, rfl⟩
          rw [hb]
          rw [hb] at hst
          cases b
          · repeat' ((conv => whnf); first
                | refine Branch.ofT rfl ?_
                | refine Branch.ofF rfl ?_
                | refine Branch.ofF (decide_eq_false (by omega)) ?_
                | refine Branch.dec (fun h => ?_) (fun h => ?_)
                | refine Branch.negdec (fun h => ?_) (fun h => ?_)
                | refine Branch.neg (fun h => ?_) (fun h => ?_)
                | refine Branch.mk (fun h => ?_) (fun h => ?_)
                | (refine Side.mk ?_ ?_; · first | omega | decide)
                | (refine SideD.mk ?_ ?_; · first | omega | decide)
                | refine ⟨_, Nat.lt_succ_self _, To.refl (.inl ⟨rfl, ?_⟩)⟩
                | refine Side.mk (app2 (g :: q) _ _ hGl) ?_
                | (refine Side.mk ?_ ?_; · (simp; done))
                | fail
                )
            all_goals (conv => whnf)
            have hn : E ++ ek2 l W k (i + 1) = g :: (q ++ [((i : Int), (k : Int))]) := by rw [hst, if_pos ⟨⟨decide_eq_false ‹¬ l[i].cpu = l[k].cpu›, ‹bc = true›⟩, rfl⟩]; rfl
            exact ⟨k - (i + 1), by omega, To.gc [(0, true), (2, true)] [0, 3, 4, 5, 6] rfl ⟨dR, datA (g :: q) _ _, trivial⟩ ⟨i + 1, by omega, rfl, by rw [hn, ← oV_app1]; rfl, by rw [hn, ← HR2_app]; rfl⟩⟩
          · repeat' ((conv => whnf); first
                | refine Branch.ofT rfl ?_
                | refine Branch.ofF rfl ?_
                | refine Branch.ofF (decide_eq_false (by omega)) ?_
                | refine Branch.dec (fun h => ?_) (fun h => ?_)
                | refine Branch.negdec (fun h => ?_) (fun h => ?_)
                | refine Branch.neg (fun h => ?_) (fun h => ?_)
                | refine Branch.mk (fun h => ?_) (fun h => ?_)
                | (refine Side.mk ?_ ?_; · first | omega | decide)
                | (refine SideD.mk ?_ ?_; · first | omega | decide)
                | refine ⟨_, Nat.lt_succ_self _, To.refl (.inl ⟨rfl, ?_⟩)⟩
                | (refine Side.mk ?_ ?_; · (simp; done))
                | fail
                )
            all_goals (conv => whnf)
            have hn : E ++ ek2 l W k (i + 1) = (g :: q) := by
              rw [hst, if_neg (fun q => by obtain ⟨⟨q1, q2⟩, q3⟩ := q; simp_all)]
            exact ⟨k - (i + 1), by omega, To.gc [(0, true), (1, true)] [0, 3, 4, 5, 6] rfl ⟨dR, dE (g :: q), trivial⟩ ⟨i + 1, by omega, rfl, by rw [hn]; rfl, by rw [hn]; rfl⟩⟩
    · have : i = k := by omega
      subst this
      rw [← hes]
      generalize hG : es2 l W (i + 1) = G at *
      cases G with
      | nil =>
        repeat' ((conv => whnf); first
            | refine Branch.ofT rfl ?_
            | refine Branch.ofF rfl ?_
            | refine Branch.ofF (decide_eq_false (by omega)) ?_
            | refine Branch.dec (fun h => ?_) (fun h => ?_)
            | refine Branch.negdec (fun h => ?_) (fun h => ?_)
            | refine Branch.neg (fun h => ?_) (fun h => ?_)
            | refine Branch.mk (fun h => ?_) (fun h => ?_)
            | (refine Side.mk ?_ ?_; · first | omega | decide)
            | (refine SideD.mk ?_ ?_; · first | omega | decide)
            | refine ⟨_, Nat.lt_succ_self _, To.refl (.inl ⟨rfl, ?_⟩)⟩
            | (refine Side.mk ?_ ?_; · (simp; done))
            | fail
            )
        all_goals (conv => whnf)
        exact ⟨l.length - (i + 1), by omega, To.gc [(0, true)] [0, 3, 4, 5] rfl ⟨dR, trivial⟩ ⟨i + 1, by omega, rfl, by rw [hG]; rfl, by rw [hG]; rfl⟩⟩
      | cons g q =>
        repeat' ((conv => whnf); first
            | refine Branch.ofT rfl ?_
            | refine Branch.ofF rfl ?_
            | refine Branch.ofF (decide_eq_false (by omega)) ?_
            | refine Branch.dec (fun h => ?_) (fun h => ?_)
            | refine Branch.negdec (fun h => ?_) (fun h => ?_)
            | refine Branch.neg (fun h => ?_) (fun h => ?_)
            | refine Branch.mk (fun h => ?_) (fun h => ?_)
            | (refine Side.mk ?_ ?_; · first | omega | decide)
            | (refine SideD.mk ?_ ?_; · first | omega | decide)
            | refine ⟨_, Nat.lt_succ_self _, To.refl (.inl ⟨rfl, ?_⟩)⟩
            | (refine Side.mk ?_ ?_; · (simp; done))
            | fail
            )
        all_goals (conv => whnf)
        exact ⟨l.length - (i + 1), by omega, To.gc [(0, true), (1, true)] [0, 3, 4, 5] rfl ⟨dR, dE (g :: q), trivial⟩ ⟨i + 1, by omega, rfl, by rw [hG]; rfl, by rw [hG]; rfl⟩⟩
  · have : k = l.length := by omega
    subst this
    generalize es2 l W l.length = E at *
    cases E with
    | nil =>
      repeat' ((conv => whnf); first
          | refine Branch.ofT rfl ?_
          | refine Branch.ofF rfl ?_
          | refine Branch.ofF (decide_eq_false (by omega)) ?_
          | refine Branch.dec (fun h => ?_) (fun h => ?_)
          | refine Branch.negdec (fun h => ?_) (fun h => ?_)
          | refine Branch.neg (fun h => ?_) (fun h => ?_)
          | refine Branch.mk (fun h => ?_) (fun h => ?_)
          | (refine Side.mk ?_ ?_; · first | omega | decide)
          | (refine SideD.mk ?_ ?_; · first | omega | decide)
          | refine ⟨_, Nat.lt_succ_self _, To.refl (.inl ⟨rfl, ?_⟩)⟩
          | (refine Side.mk ?_ ?_; · (simp; done))
          | fail
          )
      all_goals (conv => whnf)
      exact RetA.gc [] rfl trivial ⟨rfl, rfl⟩
    | cons e r =>
      repeat' ((conv => whnf); first
          | refine Branch.ofT rfl ?_
          | refine Branch.ofF rfl ?_
          | refine Branch.ofF (decide_eq_false (by omega)) ?_
          | refine Branch.dec (fun h => ?_) (fun h => ?_)
          | refine Branch.negdec (fun h => ?_) (fun h => ?_)
          | refine Branch.neg (fun h => ?_) (fun h => ?_)
          | refine Branch.mk (fun h => ?_) (fun h => ?_)
          | (refine Side.mk ?_ ?_; · first | omega | decide)
          | (refine SideD.mk ?_ ?_; · first | omega | decide)
          | refine ⟨_, Nat.lt_succ_self _, To.refl (.inl ⟨rfl, ?_⟩)⟩
          | (refine Side.mk ?_ ?_; · (simp; done))
          | fail
          )
      all_goals (conv => whnf)
      exact RetA.gc [(1, true)] rfl ⟨dE (e :: r), trivial⟩ ⟨rfl, rfl⟩
end Go.Proofs

namespace Go.Proofs
open Go Go.Eng
set_option maxRecDepth 100000
set_option maxHeartbeats 4000000
theorem _root_.Go.Eng.RetA.weakV {n : Nat} {K : AV → Heap → Prop} {v r : AV} {H : Heap} (hw : ∀ M μ u, relV M v μ u → relV M r μ u) (h : RetA n K r H) : RetA n K v H := by
  obtain ⟨r', H', h1, h2⟩ := h
  refine ⟨r', H', fun N M μ w tmps R F hn => h1 N M μ w tmps R ⟨F.glob, F.size, fun t => ?_⟩ hn, h2⟩
  have := F.slot t
  unfold Go.Eng.look at this ⊢
  by_cases e : 0 = t
  · subst e
    simp only [Nat.beq_refl, cond_true] at this ⊢
    exact hw _ _ _ this
  · rw [beq_false e] at this ⊢; exact this
theorem acs_nil {A : List Acc} (h : A.length = 0) : acs A = [] := by
  cases A with
  | nil => rfl
  | cons x r => cases h
theorem c24 (A : List Acc) (cap : Option Nat) (hl : A.length ≤ 1000) : CallA Try.prog 24 [.dslice (acs A) A.length cap] Heap.nil fun v H' => v = .dslice (acs A) A.length none ∧ H' = Heap.nil := by
  have ht : (acs A).take (A.length * 3) = acs A := by rw [← acs_len, List.take_length]
  have hln : A.length * 3 ≤ (acs A).length := by rw [acs_len]; exact Nat.le_refl _
  refine callA_of ok24 (Nat.le_of_ble_eq_true rfl) ?_
  repeat' ((conv => whnf); first
      | refine Branch.ofT rfl ?_
      | refine Branch.ofF rfl ?_
      | refine Branch.dec (fun h => ?_) (fun h => ?_)
      | refine Branch.negdec (fun h => ?_) (fun h => ?_)
      | refine Branch.neg (fun h => ?_) (fun h => ?_)
      | refine Branch.mk (fun h => ?_) (fun h => ?_)
      | (refine Side.mk ?_ ?_; · first | omega | decide)
      | (refine SideD.mk ?_ ?_; · first | omega | decide)
      | refine ⟨_, Nat.lt_succ_self _, To.refl (.inl ⟨rfl, ?_⟩)⟩
      | refine Unk.mk (fun h => ?_) ?_
      | refine Side.mk hln ?_
      | refine Side.mk ⟨rfl, rfl, rfl, by unfold fits; omega, fun c hc => acs_scal A c (List.mem_of_mem_take hc)⟩ ?_
      | (refine Side.mk ?_ ?_; · (simp; done))
      | fail
      )
  all_goals (conv => whnf)
  · refine RetA.weakV (r := .dslice [] 0 none) (fun M μ u hu => ?_) (RetA.data rfl ⟨?_, rfl⟩)
    · have hu : relV M .nils μ u := hu
      simp only [relV] at hu
      simp [relV, hu]
    · rw [acs_nil h, h]
  · refine RetA.pub 1 rfl (fun c hc => ?_) (RetA.data rfl ⟨?_, rfl⟩)
    · rw [ht] at hc; exact acs_noLoc A c hc
    · show AV.dslice (List.take ((0 + A.length) * 3) (List.drop 0 (List.take (A.length * 3) (acs A)))) (0 + A.length) none = _
      rw [Nat.zero_add, List.drop_zero, ht, ht]
end Go.Proofs

namespace Go.Proofs
open Go Go.Eng
set_option maxRecDepth 100000
set_option maxHeartbeats 4000000
/-- An effect: its accesses and whether it asks; nothing else is looked at. -/
def eff (pre : List AV) (A : List Acc) (cap : Option Nat) (b : Bool) (post : List AV) : List AV := pre ++ .dslice (acs A) A.length cap :: .bool b :: post
theorem eff_63 {pre : List AV} {A : List Acc} {cap : Option Nat} {b : Bool} {post : List AV} (h : pre.length = 63) : (eff pre A cap b post).drop 63 = .dslice (acs A) A.length cap :: .bool b :: post := by
  unfold eff; rw [← h, List.drop_left]
theorem eff_64 {pre : List AV} {A : List Acc} {cap : Option Nat} {b : Bool} {post : List AV} (h : pre.length = 63) : (eff pre A cap b post).drop 64 = .bool b :: post := by
  rw [show 64 = 63 + 1 from rfl, ← List.drop_drop, eff_63 h]; rfl
theorem eff_len {pre : List AV} {A : List Acc} {cap : Option Nat} {b : Bool} {post : List AV} (h : pre.length = 63) (hp : post.length = 6) : (eff pre A cap b post).length = 71 := by
  unfold eff; simp [h, hp]
theorem c9 (pre : List AV) (A : List Acc) (cap : Option Nat) (b : Bool) (post : List AV) (cpu : Int) (h : pre.length = 63) (hl : A.length ≤ 1000) : CallA Try.prog 9 [.agg (eff pre A cap b post), I cpu] Heap.nil fun v H' => v = evv ⟨cpu, b, A, none⟩ ∧ H' = Heap.nil := by
  have h24 := c24 A cap hl
  have e63 := eff_63 (A := A) (cap := cap) (b := b) (post := post) h
  have e64 := eff_64 (A := A) (cap := cap) (b := b) (post := post) h
  generalize eff pre A cap b post = E at *
  refine callA_of ok9 (Nat.le_of_ble_eq_true rfl) ?_
  repeat' ((conv => whnf); first
      | refine Branch.ofT rfl ?_
      | refine Branch.ofF rfl ?_
      | refine Branch.dec (fun h => ?_) (fun h => ?_)
      | refine Branch.negdec (fun h => ?_) (fun h => ?_)
      | refine Branch.neg (fun h => ?_) (fun h => ?_)
      | refine Branch.mk (fun h => ?_) (fun h => ?_)
      | (refine Side.mk ?_ ?_; · first | omega | decide)
      | (refine SideD.mk ?_ ?_; · first | omega | decide)
      | refine ⟨_, Nat.lt_succ_self _, To.refl (.inl ⟨rfl, ?_⟩)⟩
      | refine nthK_at e64 ?_
      | refine nthK_at e63 ?_
      | refine QCallA.of h24 rfl rfl ?_
      | (refine Side.mk ?_ ?_; · (simp; done))
      | fail
      )
  all_goals (conv => whnf)
  exact RetA.data rfl ⟨rfl, rfl⟩
theorem c10 (pre : List AV) (A : List Acc) (cap : Option Nat) (b : Bool) (post : List AV) (cpu : Int) (h : pre.length = 63) (hl : A.length ≤ 1000) : CallA Try.prog 10 [.agg (eff pre A cap b post), I cpu] Heap.nil fun v H' => v = evv ⟨cpu, b, A, none⟩ ∧ H' = Heap.nil := by
  have e63 := eff_63 (A := A) (cap := cap) (b := b) (post := post) h
  have e64 := eff_64 (A := A) (cap := cap) (b := b) (post := post) h
  have ht : (acs A).take (A.length * 3) = acs A := by rw [← acs_len, List.take_length]
  have hln : A.length * 3 ≤ (acs A).length := by rw [acs_len]; exact Nat.le_refl _
  generalize eff pre A cap b post = E at *
  refine callA_of ok10 (Nat.le_of_ble_eq_true rfl) ?_
  repeat' ((conv => whnf); first
      | refine Branch.ofT rfl ?_
      | refine Branch.ofF rfl ?_
      | refine Branch.dec (fun h => ?_) (fun h => ?_)
      | refine Branch.negdec (fun h => ?_) (fun h => ?_)
      | refine Branch.neg (fun h => ?_) (fun h => ?_)
      | refine Branch.mk (fun h => ?_) (fun h => ?_)
      | (refine Side.mk ?_ ?_; · first | omega | decide)
      | (refine SideD.mk ?_ ?_; · first | omega | decide)
      | refine ⟨_, Nat.lt_succ_self _, To.refl (.inl ⟨rfl, ?_⟩)⟩
      | refine nthK_at e64 ?_
      | refine nthK_at e63 ?_
      | refine Side.mk hln ?_
      | refine Side.mk ⟨rfl, rfl, rfl, by unfold fits; omega, fun c hc => acs_scal A c (List.mem_of_mem_take hc)⟩ ?_
      | (refine Side.mk ?_ ?_; · (simp; done))
      | fail
      )
  all_goals (conv => whnf)
  refine RetA.pub 8 rfl (fun c hc => ?_) (RetA.data rfl ⟨?_, rfl⟩)
  · rw [ht] at hc; exact acs_noLoc A c hc
  · show AV.agg [I cpu, .bool b, AV.dslice (List.take ((0 + A.length) * 3) (List.drop 0 (List.take (A.length * 3) (acs A)))) (0 + A.length) none] = _
    rw [Nat.zero_add, List.drop_zero, ht, ht]; rfl
def L8 (a : Ev) (m : Nat) (fr : Fr) (H : Heap) : Prop := ∃ i : Nat, i ≤ a.l.length ∧ m = a.l.length - i ∧ fr = [(2, .ptr 0 0), (3, .ptr 1 0), (5, I i)] ∧ H = ⟨2, [(0, .cells [I a.cpu, .bool a.bd, .dslice (acs a.l) a.l.length a.cap]), (1, .cells [I a.cpu, .bool a.bd, .dslice (acs a.l) a.l.length a.cap])]⟩
theorem c8 (a : Ev) (hl : a.l.length ≤ 1000) : CallA Try.prog 8 [evv a, evv a] Heap.nil fun v H' => v = .bool true ∧ H' = Heap.nil := by
  refine callA_of ok8 (Nat.le_of_ble_eq_true rfl) ?_
  repeat' ((conv => whnf); first
      | refine Branch.ofT rfl ?_
      | refine Branch.ofF rfl ?_
      | refine Branch.ofF (by simp) ?_
      | refine Branch.dec (fun h => ?_) (fun h => ?_)
      | refine Branch.negdec (fun h => ?_) (fun h => ?_)
      | refine Branch.neg (fun h => ?_) (fun h => ?_)
      | refine Branch.mk (fun h => ?_) (fun h => ?_)
      | (refine Side.mk ?_ ?_; · first | omega | decide)
      | (refine SideD.mk ?_ ?_; · first | omega | decide)
      | refine ⟨_, Nat.lt_succ_self _, To.refl (.inl ⟨rfl, ?_⟩)⟩
      | (refine Side.mk ?_ ?_; · (simp; done))
      | fail
      )
  all_goals (conv => whnf)
  refine ⟨L8 a, a.l.length, To.gc [(0, true), (1, true)] [2, 3, 5] rfl ⟨datE rfl, datE rfl, trivial⟩ ⟨0, by omega, by omega, rfl, rfl⟩, ?_⟩
  rintro m fr H ⟨i, hi, rfl, rfl, rfl⟩
  by_cases hil : i < a.l.length
  · have hat := acs_at i a.l hil
    repeat' ((conv => whnf); first
        | refine Branch.ofT rfl ?_
        | refine Branch.ofF rfl ?_
        | refine Branch.ofT (decide_eq_true (by omega)) ?_
        | refine Branch.ofF (by simp) ?_
        | refine Branch.dec (fun h => ?_) (fun h => ?_)
        | refine Branch.negdec (fun h => ?_) (fun h => ?_)
        | refine Branch.neg (fun h => ?_) (fun h => ?_)
        | refine Branch.mk (fun h => ?_) (fun h => ?_)
        | (refine Side.mk ?_ ?_; · first | omega | decide)
        | (refine SideD.mk ?_ ?_; · first | omega | decide)
        | refine ⟨_, Nat.lt_succ_self _, To.refl (.inl ⟨rfl, ?_⟩)⟩
        | refine tk3 hat ?_
        | (refine Side.mk ?_ ?_; · (simp; done))
        | fail
        )
    all_goals (conv => whnf)
    exact ⟨a.l.length - (i + 1), by omega, To.gc [(0, true), (1, true)] [2, 3, 5] rfl ⟨datE rfl, datE rfl, trivial⟩ ⟨i + 1, by omega, rfl, rfl, rfl⟩⟩
  · have : i = a.l.length := by omega
    subst this
    repeat' ((conv => whnf); first
        | refine Branch.ofT rfl ?_
        | refine Branch.ofF rfl ?_
        | refine Branch.ofF (decide_eq_false (by omega)) ?_
        | refine Branch.dec (fun h => ?_) (fun h => ?_)
        | refine Branch.negdec (fun h => ?_) (fun h => ?_)
        | refine Branch.neg (fun h => ?_) (fun h => ?_)
        | refine Branch.mk (fun h => ?_) (fun h => ?_)
        | (refine Side.mk ?_ ?_; · first | omega | decide)
        | (refine SideD.mk ?_ ?_; · first | omega | decide)
        | refine ⟨_, Nat.lt_succ_self _, To.refl (.inl ⟨rfl, ?_⟩)⟩
        | (refine Side.mk ?_ ?_; · (simp; done))
        | fail
        )
    all_goals (conv => whnf)
    exact RetA.data rfl ⟨rfl, rfl⟩
end Go.Proofs

namespace Go.Proofs
open Go Go.Eng
set_option maxRecDepth 100000
set_option maxHeartbeats 4000000
theorem _root_.Go.Eng.pubAll_data {η : Nat → AB} : ∀ {cs : List AV}, (∀ c ∈ cs, noLoc c = true) → pubAll (pubE η 0) cs = some cs
  | [], _ => rfl
  | c :: r, h => by
    have h1 := h c (List.mem_cons_self ..)
    have h2 := pubAll_data (η := η) (cs := r) fun x hx => h x (List.mem_cons_of_mem _ hx)
    have h3 : pubE η 0 c = some c := by simp only [pubE, h1, cond_true]
    simp only [pubAll, h3, h2]
/-- Edges, as data. -/
def dV : List (Int × Int) → AV
  | [] => .nils
  | e :: r => .dslice (ecs (e :: r)) (r.length + 1) none
theorem dV_noLoc (E : List (Int × Int)) : noLoc (dV E) = true := by cases E <;> rfl
theorem ecs_take (E : List (Int × Int)) : (ecs E).take (E.length * 2) = ecs E := by rw [← ecs_len, List.take_length]
theorem pub_oV {η : Nat → AB} {p : Nat} {E : List (Int × Int)} (h : E ≠ [] → η p = .cells (ecs E)) : pubE η 1 (oV p E) = some (dV E) := by
  cases E with
  | nil => rfl
  | cons e r =>
    have := h (by simp)
    show (match η p with
      | .cells cs => match pubAll (pubE η 0) ((cs.drop 0).take ((r.length + 1) * 2)) with
        | some l => some (AV.dslice l (r.length + 1) none)
        | none => none
      | _ => none) = _
    rw [this]
    have ht := ecs_take (e :: r)
    simp only [List.length_cons] at ht
    simp only [List.drop_zero, ht, pubAll_data (ecs_noLoc (e :: r))]
    rfl
theorem c14d (l : List Ev) (cap : Option Nat) (hl : l.length ≤ 60) (hok : ∀ i (h : i < l.length), l[i].ok) :
    CallA Try.prog 14 [.dslice (evs l) l.length cap] Heap.nil fun v H' => v = dV (es2 l (ws l l.length) l.length) ∧ H' = Heap.nil := by
  refine CallA.out 1 (c14 l cap hl hok) ?_
  rintro v H' ⟨rfl, rfl⟩
  refine ⟨_, pub_oV fun hne => ?_, ?_, rfl⟩
  · cases he : es l (ds l l.length) (ws l l.length) l.length with
    | nil => exact absurd he hne
    | cons e r => rfl
  · rw [es_eq l l.length l.length (Nat.le_refl _)]
theorem c15d (l : List Ev) (cap : Option Nat) (hl : l.length ≤ 60) (hok : ∀ i (h : i < l.length), l[i].ok) :
    CallA Try.prog 15 [.dslice (evs l) l.length cap] Heap.nil fun v H' => v = dV (es2 l (ws l l.length) l.length) ∧ H' = Heap.nil := by
  refine CallA.out 1 (c15 l cap hl hok) ?_
  rintro v H' ⟨rfl, rfl⟩
  refine ⟨_, pub_oV fun hne => ?_, rfl, rfl⟩
  cases he : es2 l (ws l l.length) l.length with
  | nil => exact absurd he hne
  | cons e r => rfl
def L13d (es : List (Int × Int)) (m : Nat) (fr : Fr) (H : Heap) : Prop := ∃ i : Nat, i ≤ es.length ∧ m = es.length - i ∧ fr = [(0, .dslice (ecs es) es.length none), (1, .dslice (ecs es) es.length none), (5, I i)] ∧ H = Heap.nil
theorem c13d (es : List (Int × Int)) (hl : es.length ≤ 10000) : CallA Try.prog 13 [dV es, dV es] Heap.nil fun v H' => v = .bool true ∧ H' = Heap.nil := by
  cases es with
  | nil => exact c13n
  | cons e r =>
    show CallA Try.prog 13 [.dslice (ecs (e :: r)) (e :: r).length none, .dslice (ecs (e :: r)) (e :: r).length none] _ _
    generalize e :: r = es at *
    refine callA_of ok13 (Nat.le_of_ble_eq_true rfl) ?_
    repeat' ((conv => whnf); first
        | refine Branch.ofT rfl ?_
        | refine Branch.ofF rfl ?_
        | refine Branch.ofF (by simp) ?_
        | refine Branch.dec (fun h => ?_) (fun h => ?_)
        | refine Branch.negdec (fun h => ?_) (fun h => ?_)
        | refine Branch.neg (fun h => ?_) (fun h => ?_)
        | refine Branch.mk (fun h => ?_) (fun h => ?_)
        | (refine Side.mk ?_ ?_; · first | omega | decide)
        | (refine SideD.mk ?_ ?_; · first | omega | decide)
        | refine ⟨_, Nat.lt_succ_self _, To.refl (.inl ⟨rfl, ?_⟩)⟩
        | (refine Side.mk ?_ ?_; · (simp; done))
        | fail
        )
    all_goals (conv => whnf)
    refine ⟨L13d es, es.length, To.gc [] [0, 1, 5] rfl trivial ⟨0, by omega, by omega, rfl, rfl⟩, ?_⟩
    rintro m fr H ⟨i, hi, rfl, rfl, rfl⟩
    by_cases hil : i < es.length
    · repeat' ((conv => whnf); first
          | refine Branch.ofT rfl ?_
          | refine Branch.ofF rfl ?_
          | refine Branch.ofT (decide_eq_true (by omega)) ?_
          | refine Branch.ofF (by simp) ?_
          | refine Branch.dec (fun h => ?_) (fun h => ?_)
          | refine Branch.negdec (fun h => ?_) (fun h => ?_)
          | refine Branch.neg (fun h => ?_) (fun h => ?_)
          | refine Branch.mk (fun h => ?_) (fun h => ?_)
          | (refine Side.mk ?_ ?_; · first | omega | decide)
          | (refine SideD.mk ?_ ?_; · first | omega | decide)
          | refine ⟨_, Nat.lt_succ_self _, To.refl (.inl ⟨rfl, ?_⟩)⟩
          | refine tke hil (by omega) ?_
          | (refine Side.mk ?_ ?_; · (simp; done))
          | fail
          )
      all_goals (conv => whnf)
      exact ⟨es.length - (i + 1), by omega, To.gc [] [0, 1, 5] rfl trivial ⟨i + 1, by omega, rfl, rfl, rfl⟩⟩
    · have : i = es.length := by omega
      subst this
      repeat' ((conv => whnf); first
          | refine Branch.ofT rfl ?_
          | refine Branch.ofF rfl ?_
          | refine Branch.ofF (decide_eq_false (by omega)) ?_
          | refine Branch.dec (fun h => ?_) (fun h => ?_)
          | refine Branch.negdec (fun h => ?_) (fun h => ?_)
          | refine Branch.neg (fun h => ?_) (fun h => ?_)
          | refine Branch.mk (fun h => ?_) (fun h => ?_)
          | (refine Side.mk ?_ ?_; · first | omega | decide)
          | (refine SideD.mk ?_ ?_; · first | omega | decide)
          | refine ⟨_, Nat.lt_succ_self _, To.refl (.inl ⟨rfl, ?_⟩)⟩
          | (refine Side.mk ?_ ?_; · (simp; done))
          | fail
          )
      all_goals (conv => whnf)
      exact RetA.data rfl ⟨rfl, rfl⟩
end Go.Proofs

set_option maxRecDepth 100000
namespace Go.Proofs
open Go Go.Eng
/-- simulacrum/simulacrumlaw21.OrderFindsAsSpecified -/
def ac3 : AC := (.seq (.reg [⟨some 4, .h (.box (.t 1)), none⟩,
    ⟨some 6, .p (.mov (.c (.bool false))), none⟩])
  (.seq (.seq (.reg [⟨some 9, .p (.mov (.t 0)), none⟩,
    ⟨some 10, .call 6 [(.t 9), (.c (.int .i64 60))], none⟩,
    ⟨some 11, .p (.un .not (.t 10)), none⟩,
    ⟨some 12, .p (.mov (.t 11)), none⟩,
    ⟨some 13, .p (.fieldA 63 (.t 4)), (some (12, false))⟩,
    ⟨some 14, .h (.load false 1 (.t 13)), (some (12, false))⟩,
    ⟨some 15, .p (.len false (.t 14)), (some (12, false))⟩,
    ⟨some 16, .p (.bin .gtr (.t 15) (.c (.int .i64 20))), (some (12, false))⟩,
    ⟨some 17, .p (.pick (.t 12) (.c (.bool true)) (.t 16)), none⟩])
  (.cond (.t 17) (.seq (.reg [⟨some 18, .call 7 [], none⟩,
    ⟨some 6, .p (.mov (.t 18)), none⟩])
  .ret) .skip))
  (.seq (.seq (.draw 8 [] [⟨some 19, .h (.load true 71 (.t 4)), none⟩,
    ⟨some 20, .p (.mov (.t 2)), none⟩,
    ⟨some 21, .call 9 [(.t 19), (.t 20)], none⟩,
    ⟨some 22, .h (.load true 71 (.t 4)), none⟩,
    ⟨some 23, .p (.mov (.t 2)), none⟩,
    ⟨some 24, .call 10 [(.t 22), (.t 23)], none⟩,
    ⟨some 25, .call 8 [(.t 21), (.t 24)], none⟩,
    ⟨some 26, .p (.un .not (.t 25)), none⟩])
  (.cond (.t 26) (.seq (.reg [⟨some 6, .p (.mov (.c (.bool false))), none⟩])
  .ret) .skip))
  (.seq (.seq (.reg [⟨some 7, .p (.mov (.c (.int .i64 0))), none⟩])
  (.block 0 (.loop (.seq (.seq (.reg [⟨some 27, .p (.mov (.t 7)), none⟩,
    ⟨some 28, .p (.mov (.t 0)), none⟩,
    ⟨some 29, .p (.len false (.t 28)), none⟩,
    ⟨some 30, .p (.bin .lss (.t 27) (.t 29)), none⟩])
  (.cond (.t 30) .skip (.exit 0)))
  (.seq (.block 1 (.seq (.reg [⟨some 8, .p (.mov (.c (.int .i64 0))), none⟩])
  (.block 2 (.loop (.seq (.seq (.reg [⟨some 33, .p (.mov (.t 8)), none⟩,
    ⟨some 34, .p (.mov (.t 7)), none⟩,
    ⟨some 35, .p (.bin .lss (.t 33) (.t 34)), none⟩])
  (.cond (.t 35) .skip (.exit 2)))
  (.seq (.block 3 (.seq (.draw 40 [] [⟨some 38, .p (.mov (.t 0)), none⟩,
    ⟨some 39, .p (.mov (.t 8)), none⟩,
    ⟨some 40, .p (.idxA 3 none (.t 38) (.t 39)), none⟩,
    ⟨some 41, .h (.load true 3 (.t 40)), none⟩,
    ⟨some 42, .p (.mov (.t 0)), none⟩,
    ⟨some 43, .p (.mov (.t 7)), none⟩,
    ⟨some 44, .p (.idxA 3 none (.t 42) (.t 43)), none⟩,
    ⟨some 45, .h (.load true 3 (.t 44)), none⟩,
    ⟨some 46, .call 11 [(.t 41), (.t 45)], none⟩,
    ⟨some 47, .p (.mov (.t 0)), none⟩,
    ⟨some 48, .p (.mov (.t 8)), none⟩,
    ⟨some 49, .p (.idxA 3 none (.t 47) (.t 48)), none⟩,
    ⟨some 50, .h (.load true 3 (.t 49)), none⟩,
    ⟨some 51, .p (.mov (.t 0)), none⟩,
    ⟨some 52, .p (.mov (.t 7)), none⟩,
    ⟨some 53, .p (.idxA 3 none (.t 51) (.t 52)), none⟩,
    ⟨some 54, .h (.load true 3 (.t 53)), none⟩,
    ⟨some 55, .call 12 [(.t 50), (.t 54)], none⟩,
    ⟨some 56, .p (.beq true (.t 46) (.t 55)), none⟩,
    ⟨some 57, .p (.mov (.t 56)), none⟩,
    ⟨some 58, .p (.mov (.t 0)), (some (57, false))⟩,
    ⟨some 59, .p (.mov (.t 7)), (some (57, false))⟩,
    ⟨some 60, .p (.idxA 3 none (.t 58) (.t 59)), (some (57, false))⟩,
    ⟨some 61, .h (.load true 3 (.t 60)), (some (57, false))⟩,
    ⟨some 62, .p (.mov (.t 0)), (some (57, false))⟩,
    ⟨some 63, .p (.mov (.t 8)), (some (57, false))⟩,
    ⟨some 64, .p (.idxA 3 none (.t 62) (.t 63)), (some (57, false))⟩,
    ⟨some 65, .h (.load true 3 (.t 64)), (some (57, false))⟩,
    ⟨some 66, .call 11 [(.t 61), (.t 65)], (some (57, false))⟩,
    ⟨some 67, .p (.mov (.t 0)), (some (57, false))⟩,
    ⟨some 68, .p (.mov (.t 8)), (some (57, false))⟩,
    ⟨some 69, .p (.idxA 3 none (.t 67) (.t 68)), (some (57, false))⟩,
    ⟨some 70, .h (.load true 3 (.t 69)), (some (57, false))⟩,
    ⟨some 71, .p (.mov (.t 0)), (some (57, false))⟩,
    ⟨some 72, .p (.mov (.t 7)), (some (57, false))⟩,
    ⟨some 73, .p (.idxA 3 none (.t 71) (.t 72)), (some (57, false))⟩,
    ⟨some 74, .h (.load true 3 (.t 73)), (some (57, false))⟩,
    ⟨some 75, .call 12 [(.t 70), (.t 74)], (some (57, false))⟩,
    ⟨some 76, .p (.beq true (.t 66) (.t 75)), (some (57, false))⟩,
    ⟨some 77, .p (.pick (.t 57) (.c (.bool true)) (.t 76)), none⟩])
  (.cond (.t 77) (.seq (.reg [⟨some 6, .p (.mov (.c (.bool false))), none⟩])
  .ret) .skip)))
  (.reg [⟨some 36, .p (.mov (.t 8)), none⟩,
    ⟨some 37, .p (.bin .add (.t 36) (.c (.int .i64 1))), none⟩,
    ⟨some 8, .p (.mov (.t 37)), none⟩])))))))
  (.reg [⟨some 31, .p (.mov (.t 7)), none⟩,
    ⟨some 32, .p (.bin .add (.t 31) (.c (.int .i64 1))), none⟩,
    ⟨some 7, .p (.mov (.t 32)), none⟩]))))))
  (.seq (.reg [⟨some 78, .call 7 [], none⟩,
    ⟨some 79, .p (.mov (.t 78)), none⟩,
    ⟨some 80, .p (.mov (.t 0)), (some (79, true))⟩,
    ⟨some 81, .call 14 [(.t 80)], (some (79, true))⟩,
    ⟨some 82, .p (.mov (.t 0)), (some (79, true))⟩,
    ⟨some 83, .call 15 [(.t 82)], (some (79, true))⟩,
    ⟨some 84, .call 13 [(.t 81), (.t 83)], (some (79, true))⟩,
    ⟨some 85, .p (.pick (.t 79) (.t 84) (.c (.bool false))), none⟩,
    ⟨some 6, .p (.mov (.t 85)), none⟩])
  .ret)))))
def rs3 : List AR := [.tmp 6]
theorem ok3 : okF Try.prog 3 86 ac3 rs3 = true := by kernel_rfl
/-- simulacrum/simulacrumlaw21.OrderEdgesSuffice -/
def ac4 : AC := (.seq (.reg [⟨some 4, .p (.mov (.c (.bool false))), none⟩])
  (.seq (.seq (.reg [⟨some 7, .p (.mov (.t 0)), none⟩,
    ⟨some 8, .call 6 [(.t 7), (.c (.int .i64 60))], none⟩,
    ⟨some 9, .p (.un .not (.t 8)), none⟩,
    ⟨some 10, .p (.mov (.t 9)), none⟩,
    ⟨some 11, .p (.mov (.t 1)), (some (10, false))⟩,
    ⟨some 12, .p (.mov (.t 0)), (some (10, false))⟩,
    ⟨some 13, .p (.len false (.t 12)), (some (10, false))⟩,
    ⟨some 14, .call 16 [(.t 11), (.t 13)], (some (10, false))⟩,
    ⟨some 15, .p (.un .not (.t 14)), (some (10, false))⟩,
    ⟨some 16, .p (.pick (.t 10) (.c (.bool true)) (.t 15)), none⟩])
  (.cond (.t 16) (.seq (.reg [⟨some 17, .call 7 [], none⟩,
    ⟨some 4, .p (.mov (.t 17)), none⟩])
  .ret) .skip))
  (.seq (.reg [⟨some 5, .p (.mov (.c .nils)), none⟩])
  (.seq (.seq (.reg [⟨some 6, .p (.mov (.c (.int .i64 0))), none⟩])
  (.block 0 (.loop (.seq (.seq (.reg [⟨some 18, .p (.mov (.t 6)), none⟩,
    ⟨some 19, .p (.mov (.t 0)), none⟩,
    ⟨some 20, .p (.len false (.t 19)), none⟩,
    ⟨some 21, .p (.bin .lss (.t 18) (.t 20)), none⟩])
  (.cond (.t 21) .skip (.exit 0)))
  (.seq (.block 1 (.reg [⟨some 24, .p (.mov (.t 5)), none⟩,
    ⟨some 25, .p (.mov (.t 6)), none⟩,
    ⟨some 26, .d (.bslice 1 1 [(.int .i64 0)] [(0, (.t 25))]), none⟩,
    ⟨some 27, .l (.append 1 8 (.t 24) (.t 26)), none⟩,
    ⟨some 5, .p (.mov (.t 27)), none⟩]))
  (.reg [⟨some 22, .p (.mov (.t 6)), none⟩,
    ⟨some 23, .p (.bin .add (.t 22) (.c (.int .i64 1))), none⟩,
    ⟨some 6, .p (.mov (.t 23)), none⟩]))))))
  (.seq (.reg [⟨some 28, .call 7 [], none⟩,
    ⟨some 29, .p (.mov (.t 28)), none⟩,
    ⟨some 30, .p (.mov (.t 0)), (some (29, true))⟩,
    ⟨some 31, .p (.mov (.t 1)), (some (29, true))⟩,
    ⟨some 32, .call 17 [(.t 30), (.t 31)], (some (29, true))⟩,
    ⟨some 33, .p (.mov (.t 0)), (some (29, true))⟩,
    ⟨some 34, .p (.mov (.t 1)), (some (29, true))⟩,
    ⟨some 35, .p (.mov (.t 0)), (some (29, true))⟩,
    ⟨some 36, .call 14 [(.t 35)], (some (29, true))⟩,
    ⟨some 37, .call 18 [(.t 33), (.t 34), (.t 36), (.c (.int .i64 (-1)))], (some (29, true))⟩,
    ⟨some 38, .p (.beq false (.t 32) (.t 37)), (some (29, true))⟩,
    ⟨some 39, .p (.pick (.t 29) (.t 38) (.c (.bool false))), none⟩,
    ⟨some 40, .p (.mov (.t 39)), none⟩,
    ⟨some 41, .p (.mov (.t 0)), (some (40, true))⟩,
    ⟨some 42, .p (.mov (.t 5)), (some (40, true))⟩,
    ⟨some 43, .call 17 [(.t 41), (.t 42)], (some (40, true))⟩,
    ⟨some 44, .p (.pick (.t 40) (.t 43) (.c (.bool false))), none⟩,
    ⟨some 4, .p (.mov (.t 44)), none⟩])
  .ret)))))
def rs4 : List AR := [.tmp 4]
theorem ok4 : okF Try.prog 4 45 ac4 rs4 = true := by kernel_rfl
/-- simulacrum/simulacrumlaw21.OrderEdgesAreLeast -/
def ac5 : AC := (.seq (.reg [⟨some 2, .p (.mov (.c (.bool false))), none⟩])
  (.seq (.seq (.reg [⟨some 6, .p (.mov (.t 0)), none⟩,
    ⟨some 7, .call 6 [(.t 6), (.c (.int .i64 60))], none⟩,
    ⟨some 8, .p (.un .not (.t 7)), none⟩])
  (.cond (.t 8) (.seq (.reg [⟨some 9, .call 7 [], none⟩,
    ⟨some 2, .p (.mov (.t 9)), none⟩])
  .ret) .skip))
  (.seq (.reg [⟨some 10, .p (.mov (.t 0)), none⟩,
    ⟨some 11, .call 14 [(.t 10)], none⟩,
    ⟨some 3, .p (.mov (.t 11)), none⟩])
  (.seq (.seq (.reg [⟨some 4, .p (.mov (.c (.int .i64 0))), none⟩])
  (.block 0 (.loop (.seq (.seq (.reg [⟨some 12, .p (.mov (.t 4)), none⟩,
    ⟨some 13, .p (.mov (.t 3)), none⟩,
    ⟨some 14, .p (.len false (.t 13)), none⟩,
    ⟨some 15, .p (.bin .lss (.t 12) (.t 14)), none⟩])
  (.cond (.t 15) .skip (.exit 0)))
  (.seq (.block 1 (.seq (.seq (.draw 29 [] [⟨some 18, .p (.mov (.t 3)), none⟩,
    ⟨some 19, .p (.mov (.t 4)), none⟩,
    ⟨some 20, .p (.idxA 2 none (.t 18) (.t 19)), none⟩,
    ⟨some 21, .p (.fieldA 0 (.t 20)), none⟩,
    ⟨some 22, .h (.load false 1 (.t 21)), none⟩,
    ⟨some 23, .p (.bin .lss (.t 22) (.c (.int .i64 0))), none⟩,
    ⟨some 24, .p (.mov (.t 23)), none⟩,
    ⟨some 25, .p (.mov (.t 3)), (some (24, false))⟩,
    ⟨some 26, .p (.mov (.t 4)), (some (24, false))⟩,
    ⟨some 27, .p (.idxA 2 none (.t 25) (.t 26)), (some (24, false))⟩,
    ⟨some 28, .p (.fieldA 0 (.t 27)), (some (24, false))⟩,
    ⟨some 29, .h (.load false 1 (.t 28)), (some (24, false))⟩,
    ⟨some 30, .p (.mov (.t 3)), (some (24, false))⟩,
    ⟨some 31, .p (.mov (.t 4)), (some (24, false))⟩,
    ⟨some 32, .p (.idxA 2 none (.t 30) (.t 31)), (some (24, false))⟩,
    ⟨some 33, .p (.fieldA 1 (.t 32)), (some (24, false))⟩,
    ⟨some 34, .h (.load false 1 (.t 33)), (some (24, false))⟩,
    ⟨some 35, .p (.bin .geq (.t 29) (.t 34)), (some (24, false))⟩,
    ⟨some 36, .p (.pick (.t 24) (.c (.bool true)) (.t 35)), none⟩,
    ⟨some 37, .p (.mov (.t 36)), none⟩,
    ⟨some 38, .p (.mov (.t 3)), (some (37, false))⟩,
    ⟨some 39, .p (.mov (.t 4)), (some (37, false))⟩,
    ⟨some 40, .p (.idxA 2 none (.t 38) (.t 39)), (some (37, false))⟩,
    ⟨some 41, .p (.fieldA 1 (.t 40)), (some (37, false))⟩,
    ⟨some 42, .h (.load false 1 (.t 41)), (some (37, false))⟩,
    ⟨some 43, .p (.mov (.t 0)), (some (37, false))⟩,
    ⟨some 44, .p (.len false (.t 43)), (some (37, false))⟩,
    ⟨some 45, .p (.bin .geq (.t 42) (.t 44)), (some (37, false))⟩,
    ⟨some 46, .p (.pick (.t 37) (.c (.bool true)) (.t 45)), none⟩])
  (.cond (.t 46) (.seq (.reg [⟨some 2, .p (.mov (.c (.bool false))), none⟩])
  .ret) .skip))
  (.seq (.reg [⟨some 47, .p (.mov (.t 0)), none⟩,
    ⟨some 48, .p (.mov (.t 3)), none⟩,
    ⟨some 49, .p (.mov (.t 4)), none⟩,
    ⟨some 50, .p (.idxA 2 none (.t 48) (.t 49)), none⟩,
    ⟨some 51, .h (.load true 2 (.t 50)), none⟩,
    ⟨some 52, .call 19 [(.t 47), (.t 51)], none⟩,
    ⟨some 5, .p (.mov (.t 52)), none⟩])
  (.seq (.reg [⟨some 53, .p (.mov (.t 5)), none⟩,
    ⟨some 54, .p (.mov (.t 0)), none⟩,
    ⟨some 55, .p (.len false (.t 54)), none⟩,
    ⟨some 56, .call 16 [(.t 53), (.t 55)], none⟩,
    ⟨some 57, .p (.un .not (.t 56)), none⟩,
    ⟨some 58, .p (.mov (.t 57)), none⟩,
    ⟨some 59, .p (.mov (.t 0)), (some (58, false))⟩,
    ⟨some 60, .p (.mov (.t 5)), (some (58, false))⟩,
    ⟨some 61, .p (.mov (.t 3)), (some (58, false))⟩,
    ⟨some 62, .p (.mov (.t 4)), (some (58, false))⟩,
    ⟨some 63, .call 18 [(.t 59), (.t 60), (.t 61), (.t 62)], (some (58, false))⟩,
    ⟨some 64, .p (.un .not (.t 63)), (some (58, false))⟩,
    ⟨some 65, .p (.pick (.t 58) (.c (.bool true)) (.t 64)), none⟩,
    ⟨some 66, .p (.mov (.t 65)), none⟩,
    ⟨some 67, .p (.mov (.t 0)), (some (66, false))⟩,
    ⟨some 68, .p (.mov (.t 5)), (some (66, false))⟩,
    ⟨some 69, .call 17 [(.t 67), (.t 68)], (some (66, false))⟩,
    ⟨some 70, .p (.pick (.t 66) (.c (.bool true)) (.t 69)), none⟩])
  (.cond (.t 70) (.seq (.reg [⟨some 2, .p (.mov (.c (.bool false))), none⟩])
  .ret) .skip)))))
  (.reg [⟨some 16, .p (.mov (.t 4)), none⟩,
    ⟨some 17, .p (.bin .add (.t 16) (.c (.int .i64 1))), none⟩,
    ⟨some 4, .p (.mov (.t 17)), none⟩]))))))
  (.seq (.reg [⟨some 71, .call 7 [], none⟩,
    ⟨some 2, .p (.mov (.t 71)), none⟩])
  .ret)))))
def rs5 : List AR := [.tmp 2]
theorem ok5 : okF Try.prog 5 72 ac5 rs5 = true := by kernel_rfl
end Go.Proofs

namespace Go.Proofs
open Go Go.Eng
set_option maxRecDepth 100000
set_option maxHeartbeats 4000000
theorem ovl_symm (x y : Acc) : ovl x y = ovl y x := by
  unfold ovl; rw [Bool.or_comm, Bool.and_comm (decide _)]
theorem conA_symm (a b : Ev) : conA a b = conA b a := by
  rw [Bool.eq_iff_iff]
  simp only [conA, List.any_eq_true]
  constructor
  · rintro ⟨x, hx, y, hy, h⟩; exact ⟨y, hy, x, hx, by rw [ovl_symm]; exact h⟩
  · rintro ⟨x, hx, y, hy, h⟩; exact ⟨y, hy, x, hx, by rw [ovl_symm]; exact h⟩
theorem con_symm (a b : Ev) : con a b = con b a := by
  unfold con
  have : decide (a.cpu = b.cpu) = decide (b.cpu = a.cpu) := decide_eq_decide.2 eq_comm
  rw [conA_symm a b, this]
  cases a.bd <;> cases b.bd <;> simp
theorem _root_.Go.Eng.fv_mk {v : AV} {K : AV → Prop} (h : K v) : fv v K := by rw [fv_eq]; exact h
def L3 (l : List Ev) (cap : Option Nat) (m : Nat) (fr : Fr) (H : Heap) : Prop := ∃ i : Nat, i ≤ l.length ∧ m = l.length - i ∧ fr = [(0, .dslice (evs l) l.length cap), (7, I i)] ∧ H = Heap.nil
def L3b (l : List Ev) (cap : Option Nat) (i : Nat) (m : Nat) (fr : Fr) (H : Heap) : Prop := ∃ k : Nat, k ≤ i ∧ m = i - k ∧ fr = [(0, .dslice (evs l) l.length cap), (7, I i), (8, I k)] ∧ H = Heap.nil
theorem c3 (l : List Ev) (cap : Option Nat) (pre : List AV) (A : List Acc) (acap : Option Nat) (b : Bool) (post : List AV) (cpu : Int) (hp : pre.length = 63) (hq : post.length = 6) (hE : noLocL (eff pre A acap b post) = true) :
    CallA Try.prog 3 [.dslice (evs l) l.length cap, .agg (eff pre A acap b post), I cpu] Heap.nil fun v H' => v = .bool true ∧ H' = Heap.nil := by
  have h6 := c6 l cap 60 (by decide)
  have e63 := eff_63 (A := A) (cap := acap) (b := b) (post := post) hp
  have eL := eff_len (A := A) (cap := acap) (b := b) hp hq
  have h9 := fun h => c9 pre A acap b post cpu hp h
  have h10 := fun h => c10 pre A acap b post cpu hp h
  generalize eff pre A acap b post = E at *
  have t71 : ∀ {K : List AV → Prop}, K E → takeK 71 (List.drop 0 E) K := fun hk => by
    rw [List.drop_zero, takeK_eq _ _ _ (by omega), ← eL, List.take_length]; exact hk
  have hNL : noLocL [AV.agg E, I cpu] = true := by simp only [noLocL, noLoc, hE, Bool.and_self]
  refine callA_of ok3 (Nat.le_of_ble_eq_true rfl) ?_
  have h7 := san
  by_cases hf : FewP l 60
  · rw [fewB_t hf] at h6
    obtain ⟨hl, hok⟩ := hf
    by_cases hA : A.length ≤ 20
    · have h8 := c8 ⟨cpu, b, A, none⟩ (Nat.le_trans hA (by decide))
      have h9 := h9 (by omega)
      have h10 := h10 (by omega)
      repeat' ((conv => whnf); first
          | refine Branch.ofT rfl ?_
          | refine Branch.ofF rfl ?_
          | refine Branch.ofF (decide_eq_false (by omega)) ?_
          | refine Branch.dec (fun h => ?_) (fun h => ?_)
          | refine Branch.negdec (fun h => ?_) (fun h => ?_)
          | refine Branch.neg (fun h => ?_) (fun h => ?_)
          | refine Branch.mk (fun h => ?_) (fun h => ?_)
          | (refine Side.mk ?_ ?_; · first | omega | decide)
          | (refine SideD.mk ?_ ?_; · first | omega | decide)
          | refine ⟨_, Nat.lt_succ_self _, To.refl (.inl ⟨rfl, ?_⟩)⟩
          | refine CallA.pure h6 rfl rfl ?_
          | refine nthK_at e63 ?_
          | refine t71 ?_
          | refine QCallA.of h9 hNL rfl ?_
          | refine QCallA.of h10 hNL rfl ?_
          | refine QCallA.of h8 rfl rfl ?_
          | (refine Side.mk ?_ ?_; · (simp; done))
          | fail
          )
      all_goals (conv => whnf)
      have hEl := es2_len l (ws l l.length) l.length (by omega)
      have h13 := c13d (es2 l (ws l l.length) l.length) (by omega)
      have h14 := c14d l cap (by omega) hok
      have h15 := c15d l cap (by omega) hok
      generalize es2 l (ws l l.length) l.length = ES at *
      refine ⟨L3 l cap, l.length, To.gc [] [0, 7] rfl trivial ⟨0, by omega, by omega, rfl, rfl⟩, ?_⟩
      rintro m fr H ⟨i, hi, rfl, rfl, rfl⟩
      by_cases hil : i < l.length
      · have hit := evs_at i l hil
        repeat' ((conv => whnf); first
            | refine Branch.ofT rfl ?_
            | refine Branch.ofF rfl ?_
            | refine Branch.ofT (decide_eq_true (by omega)) ?_
            | refine Branch.dec (fun h => ?_) (fun h => ?_)
            | refine Branch.negdec (fun h => ?_) (fun h => ?_)
            | refine Branch.neg (fun h => ?_) (fun h => ?_)
            | refine Branch.mk (fun h => ?_) (fun h => ?_)
            | (refine Side.mk ?_ ?_; · first | omega | decide)
            | (refine SideD.mk ?_ ?_; · first | omega | decide)
            | refine ⟨_, Nat.lt_succ_self _, To.refl (.inl ⟨rfl, ?_⟩)⟩
            | (refine Side.mk ?_ ?_; · (simp; done))
            | fail
            )
        all_goals (conv => whnf)
        refine ⟨L3b l cap i, i, To.gc [] [0, 7, 8] rfl trivial ⟨0, by omega, by omega, rfl, rfl⟩, ?_⟩
        rintro m fr H ⟨k, hk, rfl, rfl, rfl⟩
        by_cases hki : k < i
        · have hkt := evs_at k l (by omega)
          have a1 := c11 l[k] l[i] (hok k (by omega)) (hok i hil)
          have a2 := c12 l[k] l[i] (hok k (by omega)) (hok i hil)
          have a3 := c11 l[i] l[k] (hok i hil) (hok k (by omega))
          rw [con_symm l[i] l[k]] at a3
          generalize con l[k] l[i] = bc at *
          repeat' ((conv => whnf); first
              | refine Branch.ofT rfl ?_
              | refine Branch.ofF rfl ?_
              | refine Branch.ofT (decide_eq_true (by omega)) ?_
              | refine Branch.ofF (by simp) ?_
              | refine Branch.dec (fun h => ?_) (fun h => ?_)
              | refine Branch.negdec (fun h => ?_) (fun h => ?_)
              | refine Branch.neg (fun h => ?_) (fun h => ?_)
              | refine Branch.mk (fun h => ?_) (fun h => ?_)
              | (refine Side.mk ?_ ?_; · first | omega | decide)
              | (refine SideD.mk ?_ ?_; · first | omega | decide)
              | refine ⟨_, Nat.lt_succ_self _, To.refl (.inl ⟨rfl, ?_⟩)⟩
              | refine tk3 hkt ?_
              | refine tk3 hit ?_
              | refine QCallA.of a1 rfl rfl ?_
              | refine QCallA.of a2 rfl rfl ?_
              | refine QCallA.of a3 rfl rfl ?_
              | (refine Side.mk ?_ ?_; · (simp; done))
              | fail
              )
          all_goals (conv => whnf)
          exact ⟨i - (k + 1), by omega, To.gc [] [0, 7, 8] rfl trivial ⟨k + 1, by omega, rfl, rfl, rfl⟩⟩
        · have : k = i := by omega
          subst this
          repeat' ((conv => whnf); first
              | refine Branch.ofT rfl ?_
              | refine Branch.ofF rfl ?_
              | refine Branch.ofF (decide_eq_false (by omega)) ?_
              | refine Branch.dec (fun h => ?_) (fun h => ?_)
              | refine Branch.negdec (fun h => ?_) (fun h => ?_)
              | refine Branch.neg (fun h => ?_) (fun h => ?_)
              | refine Branch.mk (fun h => ?_) (fun h => ?_)
              | (refine Side.mk ?_ ?_; · first | omega | decide)
              | (refine SideD.mk ?_ ?_; · first | omega | decide)
              | refine ⟨_, Nat.lt_succ_self _, To.refl (.inl ⟨rfl, ?_⟩)⟩
              | (refine Side.mk ?_ ?_; · (simp; done))
              | fail
              )
          all_goals (conv => whnf)
          exact ⟨l.length - (k + 1), by omega, To.gc [] [0, 7] rfl trivial ⟨k + 1, by omega, rfl, rfl, rfl⟩⟩
      · have : i = l.length := by omega
        subst this
        cases ES with
        | nil =>
          repeat' ((conv => whnf); first
              | refine Branch.ofT rfl ?_
              | refine Branch.ofF rfl ?_
              | refine Branch.ofF (decide_eq_false (by omega)) ?_
              | refine Branch.dec (fun h => ?_) (fun h => ?_)
              | refine Branch.negdec (fun h => ?_) (fun h => ?_)
              | refine Branch.neg (fun h => ?_) (fun h => ?_)
              | refine Branch.mk (fun h => ?_) (fun h => ?_)
              | (refine Side.mk ?_ ?_; · first | omega | decide)
              | (refine SideD.mk ?_ ?_; · first | omega | decide)
              | refine ⟨_, Nat.lt_succ_self _, To.refl (.inl ⟨rfl, ?_⟩)⟩
              | refine CallA.pure h7 rfl rfl ?_
              | refine CallA.pure h14 rfl rfl ?_
              | refine CallA.pure h15 rfl rfl ?_
              | refine CallA.pure h13 rfl rfl ?_
              | (refine Side.mk ?_ ?_; · (simp; done))
              | fail
              )
          all_goals (conv => whnf)
          exact RetA.data rfl ⟨rfl, rfl⟩
        | cons e r =>
          repeat' ((conv => whnf); first
              | refine Branch.ofT rfl ?_
              | refine Branch.ofF rfl ?_
              | refine Branch.ofF (decide_eq_false (by omega)) ?_
              | refine Branch.dec (fun h => ?_) (fun h => ?_)
              | refine Branch.negdec (fun h => ?_) (fun h => ?_)
              | refine Branch.neg (fun h => ?_) (fun h => ?_)
              | refine Branch.mk (fun h => ?_) (fun h => ?_)
              | (refine Side.mk ?_ ?_; · first | omega | decide)
              | (refine SideD.mk ?_ ?_; · first | omega | decide)
              | refine ⟨_, Nat.lt_succ_self _, To.refl (.inl ⟨rfl, ?_⟩)⟩
              | refine CallA.pure h7 rfl rfl ?_
              | refine CallA.pure h14 rfl rfl ?_
              | refine CallA.pure h15 rfl rfl ?_
              | refine CallA.pure h13 rfl rfl ?_
              | (refine Side.mk ?_ ?_; · (simp; done))
              | fail
              )
          all_goals (conv => whnf)
          exact RetA.data rfl ⟨rfl, rfl⟩
    · repeat' ((conv => whnf); first
          | refine Branch.ofT rfl ?_
          | refine Branch.ofF rfl ?_
          | refine Branch.ofT (decide_eq_true (by omega)) ?_
          | refine Branch.dec (fun h => ?_) (fun h => ?_)
          | refine Branch.negdec (fun h => ?_) (fun h => ?_)
          | refine Branch.neg (fun h => ?_) (fun h => ?_)
          | refine Branch.mk (fun h => ?_) (fun h => ?_)
          | (refine Side.mk ?_ ?_; · first | omega | decide)
          | (refine SideD.mk ?_ ?_; · first | omega | decide)
          | refine ⟨_, Nat.lt_succ_self _, To.refl (.inl ⟨rfl, ?_⟩)⟩
          | refine CallA.pure h6 rfl rfl ?_
          | refine nthK_at e63 ?_
          | refine CallA.pure h7 rfl rfl ?_
          | (refine Side.mk ?_ ?_; · (simp; done))
          | fail
          )
      all_goals (conv => whnf)
      exact RetA.data rfl ⟨rfl, rfl⟩
  · rw [fewB_f hf] at h6
    repeat' ((conv => whnf); first
        | refine Branch.ofT rfl ?_
        | refine Branch.ofF rfl ?_
        | refine Branch.dec (fun h => ?_) (fun h => ?_)
        | refine Branch.negdec (fun h => ?_) (fun h => ?_)
        | refine Branch.neg (fun h => ?_) (fun h => ?_)
        | refine Branch.mk (fun h => ?_) (fun h => ?_)
        | (refine Side.mk ?_ ?_; · first | omega | decide)
        | (refine SideD.mk ?_ ?_; · first | omega | decide)
        | refine ⟨_, Nat.lt_succ_self _, To.refl (.inl ⟨rfl, ?_⟩)⟩
        | refine CallA.pure h6 rfl rfl ?_
        | refine CallA.pure h7 rfl rfl ?_
        | (refine Side.mk ?_ ?_; · (simp; done))
        | fail
        )
    all_goals (conv => whnf)
    exact RetA.data rfl ⟨rfl, rfl⟩
end Go.Proofs

namespace Go.Proofs
open Go Go.Eng
set_option maxRecDepth 100000
set_option maxHeartbeats 4000000
/-! ### Lists of numbers -/
def ints (o : List Int) : List AV := o.map I
theorem ints_len (o : List Int) : (ints o).length = o.length := by simp [ints]
theorem ints_at : ∀ (i : Nat) (o : List Int) (h : i < o.length), (ints o).drop i = I o[i] :: ints (o.drop (i + 1))
  | 0, x :: r, _ => rfl
  | i + 1, x :: r, h => by
    show (ints r).drop i = _
    rw [ints_at i r (by simpa using h)]; rfl
theorem ints_noLoc (o : List Int) : ∀ c ∈ ints o, noLoc c = true := by
  intro c hc
  simp only [ints, List.mem_map] at hc
  obtain ⟨i, _, rfl⟩ := hc
  rfl
theorem ints_scal (o : List Int) : ∀ c ∈ ints o, scal c = true := by
  intro c hc
  simp only [ints, List.mem_map] at hc
  obtain ⟨i, _, rfl⟩ := hc
  rfl
theorem ints_app (a b : List Int) : ints (a ++ b) = ints a ++ ints b := by simp [ints]
theorem nth_in {o : List Int} {i off : Nat} (h : i < o.length) (ho : off = i) {K : AV → Prop} (hk : K (I o[i])) : nthK 0 ((ints o).drop off) K := by
  subst ho
  exact nthK_at (ints_at off o h) hk
theorem lput_in {o : List Int} {i off : Nat} {x : Int} (h : i < o.length) (ho : off = i) {K : List AV → Prop} (hk : K (ints (o.set i x))) : lputK (ints o) off [I x] K := by
  subst ho
  refine lputK_eq ?_ rfl ?_
  · rw [ints_len]; simp; omega
  · have : (ints o).take off ++ [I x] ++ (ints o).drop (off + [I x].length) = ints (o.set off x) := by
      rw [List.set_eq_take_append_cons_drop, if_pos h, ints_app]
      simp [ints]
    rw [this]; exact hk
theorem rep_in : ∀ n, rep [I 0] n = ints (List.replicate n 0)
  | 0 => rfl
  | n + 1 => by
    show I 0 :: rep [I 0] n = _
    rw [rep_in n]; rfl
/-- A permutation of the numbers below n. -/
def PermP (o : List Int) (n : Nat) : Prop := o.length = n ∧ (∀ i (h : i < o.length), 0 ≤ o[i] ∧ o[i] < n) ∧ ∀ i j (hi : i < o.length) (hj : j < o.length), i < j → o[i] ≠ o[j]
open Classical in
noncomputable def permB (o : List Int) (n : Nat) : Bool := decide (PermP o n)
theorem permB_t {o : List Int} {n : Nat} (h : PermP o n) : permB o n = true := by unfold permB; simpa using h
theorem permB_f {o : List Int} {n : Nat} (h : ¬ PermP o n) : permB o n = false := by unfold permB; simpa using h
def L16 (o : List Int) (cap : Option Nat) (m : Nat) (fr : Fr) (H : Heap) : Prop := ∃ i S : Nat, i ≤ o.length ∧ m = o.length - i ∧ (∀ j (h : j < o.length), j < i → 0 ≤ o[j] ∧ o[j] < o.length) ∧ (∀ j k (hj : j < o.length) (hk : k < o.length), j < k → k < i → o[j] ≠ o[k]) ∧
  (∀ b, S.testBit b = true ↔ ∃ (j : Nat) (h : j < o.length), j < i ∧ o[j] = (b : Int)) ∧ fr = [(0, .dslice (ints o) o.length cap), (1, I o.length), (5, .slice 0 0 o.length (some o.length) 1), (6, I i)] ∧ H = ⟨1, [(0, .cells (bb S o.length))]⟩
theorem c16 (o : List Int) (cap : Option Nat) (n : Nat) (hn : n ≤ 1000) : CallA Try.prog 16 [.dslice (ints o) o.length cap, I n] Heap.nil fun v H' => v = .bool (permB o n) ∧ H' = Heap.nil := by
  have dB : ∀ S n, dataB (.cells (bb S n)) := fun S n c hc => bb_noLoc S n c hc
  refine callA_of ok16 (Nat.le_of_ble_eq_true rfl) ?_
  by_cases hl : o.length = n
  · subst hl
    repeat' ((conv => whnf); first
        | refine Branch.ofT rfl ?_
        | refine Branch.ofF rfl ?_
        | refine Branch.ofF (by simp) ?_
        | refine Branch.dec (fun h => ?_) (fun h => ?_)
        | refine Branch.negdec (fun h => ?_) (fun h => ?_)
        | refine Branch.neg (fun h => ?_) (fun h => ?_)
        | refine Branch.mk (fun h => ?_) (fun h => ?_)
        | (refine Side.mk ?_ ?_; · first | omega | decide)
        | (refine SideD.mk ?_ ?_; · first | omega | decide)
        | refine ⟨_, Nat.lt_succ_self _, To.refl (.inl ⟨rfl, ?_⟩)⟩
        | refine Side.mk (mk1 (by omega)) ?_
        | (refine Side.mk ?_ ?_; · (simp; done))
        | fail
        )
    all_goals (conv => whnf)
    rw [show rep [AV.bool false] (o.length : Int).toNat = bb 0 o.length from rep_bb o.length]
    refine ⟨L16 o cap, o.length, To.gc [(0, true)] [0, 1, 5, 6] rfl ⟨dB _ _, trivial⟩ ⟨0, 0, by omega, by omega, fun j h hj => absurd hj (by omega), fun j k _ _ _ hk => absurd hk (by omega), fun b => ⟨fun h => by simp at h, fun ⟨j, _, hj, _⟩ => absurd hj (by omega)⟩, rfl, rfl⟩, ?_⟩
    rintro m fr H ⟨i, S, hi, rfl, hb, hd, hS, rfl, rfl⟩
    by_cases hil : i < o.length
    · by_cases h0 : o[i] < 0
      · repeat' ((conv => whnf); first
            | refine Branch.ofT rfl ?_
            | refine Branch.ofF rfl ?_
            | refine Branch.ofT (decide_eq_true (by omega)) ?_
            | refine Branch.dec (fun h => ?_) (fun h => ?_)
            | refine Branch.negdec (fun h => ?_) (fun h => ?_)
            | refine Branch.neg (fun h => ?_) (fun h => ?_)
            | refine Branch.mk (fun h => ?_) (fun h => ?_)
            | (refine Side.mk ?_ ?_; · first | omega | decide)
            | (refine SideD.mk ?_ ?_; · first | omega | decide)
            | refine ⟨_, Nat.lt_succ_self _, To.refl (.inl ⟨rfl, ?_⟩)⟩
            | refine nth_in hil (by omega) ?_
            | (refine Side.mk ?_ ?_; · (simp; done))
            | fail
            )
        all_goals (conv => whnf)
        refine RetA.data rfl ⟨?_, rfl⟩
        rw [permB_f (fun q => by have := (q.2.1 i hil).1; omega)]; rfl
      · by_cases h1 : o[i] < o.length
        · obtain ⟨b, hbit⟩ : ∃ b, S.testBit o[i].toNat = b := ⟨_, rfl⟩
          have hz : ((o[i].toNat : Nat) : Int) = o[i] := by omega
          cases b
          · repeat' ((conv => whnf); first
                | refine Branch.ofT rfl ?_
                | refine Branch.ofF rfl ?_
                | refine Branch.ofF (decide_eq_false (by omega)) ?_
                | refine Branch.ofT (decide_eq_true (by omega)) ?_
                | refine Branch.dec (fun h => ?_) (fun h => ?_)
                | refine Branch.negdec (fun h => ?_) (fun h => ?_)
                | refine Branch.neg (fun h => ?_) (fun h => ?_)
                | refine Branch.mk (fun h => ?_) (fun h => ?_)
                | (refine Side.mk ?_ ?_; · first | omega | decide)
                | (refine SideD.mk ?_ ?_; · first | omega | decide)
                | refine ⟨_, Nat.lt_succ_self _, To.refl (.inl ⟨rfl, ?_⟩)⟩
                | refine nth_in hil (by omega) ?_
                | refine nth_bbb (n := o.length) (i := o[i].toNat) (by omega) (by omega) hbit ?_
                | refine lput_bb (n := o.length) (i := o[i].toNat) (by omega) (by omega) (set_bit S o[i].toNat) ?_
                | (refine Side.mk ?_ ?_; · (simp; done))
                | fail
                )
            all_goals (conv => whnf)
            refine ⟨o.length - (i + 1), by omega, To.gc [(0, true)] [0, 1, 5, 6] rfl ⟨dB _ _, trivial⟩ ⟨i + 1, S ||| 2 ^ o[i].toNat, by omega, by omega, fun j h hj => ?_, fun j k hj hk hjk hki => ?_, fun b => ?_, rfl, rfl⟩⟩
            · by_cases hji : j < i
              · exact hb j h hji
              · have : j = i := by omega
                subst this; exact ⟨by omega, h1⟩
            · by_cases hki' : k < i
              · exact hd j k hj hk hjk hki'
              · have : k = i := by omega
                subst this
                intro e
                have := (hS o[k].toNat).2 ⟨j, hj, hjk, by rw [hz]; exact e⟩
                rw [this] at hbit; cases hbit
            · rw [set_bit]
              constructor
              · intro h
                by_cases e : o[i].toNat = b
                · exact ⟨i, hil, by omega, by omega⟩
                · rw [if_neg e] at h
                  obtain ⟨j, q1, q2, q3⟩ := (hS b).1 h
                  exact ⟨j, q1, by omega, q3⟩
              · rintro ⟨j, q1, q2, q3⟩
                by_cases e : o[i].toNat = b
                · rw [if_pos e]
                · rw [if_neg e]
                  refine (hS b).2 ⟨j, q1, ?_, q3⟩
                  have : j ≠ i := fun e' => by subst e'; omega
                  omega
          · repeat' ((conv => whnf); first
                | refine Branch.ofT rfl ?_
                | refine Branch.ofF rfl ?_
                | refine Branch.ofF (decide_eq_false (by omega)) ?_
                | refine Branch.ofT (decide_eq_true (by omega)) ?_
                | refine Branch.dec (fun h => ?_) (fun h => ?_)
                | refine Branch.negdec (fun h => ?_) (fun h => ?_)
                | refine Branch.neg (fun h => ?_) (fun h => ?_)
                | refine Branch.mk (fun h => ?_) (fun h => ?_)
                | (refine Side.mk ?_ ?_; · first | omega | decide)
                | (refine SideD.mk ?_ ?_; · first | omega | decide)
                | refine ⟨_, Nat.lt_succ_self _, To.refl (.inl ⟨rfl, ?_⟩)⟩
                | refine nth_in hil (by omega) ?_
                | refine nth_bbb (n := o.length) (i := o[i].toNat) (by omega) (by omega) hbit ?_
                | (refine Side.mk ?_ ?_; · (simp; done))
                | fail
                )
            all_goals (conv => whnf)
            refine RetA.data rfl ⟨?_, rfl⟩
            obtain ⟨j, q1, q2, q3⟩ := (hS _).1 hbit
            rw [permB_f (fun q => q.2.2 j i q1 hil q2 (by omega))]; rfl
        · repeat' ((conv => whnf); first
              | refine Branch.ofT rfl ?_
              | refine Branch.ofF rfl ?_
              | refine Branch.ofF (decide_eq_false (by omega)) ?_
              | refine Branch.ofT (decide_eq_true (by omega)) ?_
              | refine Branch.dec (fun h => ?_) (fun h => ?_)
              | refine Branch.negdec (fun h => ?_) (fun h => ?_)
              | refine Branch.neg (fun h => ?_) (fun h => ?_)
              | refine Branch.mk (fun h => ?_) (fun h => ?_)
              | (refine Side.mk ?_ ?_; · first | omega | decide)
              | (refine SideD.mk ?_ ?_; · first | omega | decide)
              | refine ⟨_, Nat.lt_succ_self _, To.refl (.inl ⟨rfl, ?_⟩)⟩
              | refine nth_in hil (by omega) ?_
              | (refine Side.mk ?_ ?_; · (simp; done))
              | fail
              )
          all_goals (conv => whnf)
          refine RetA.data rfl ⟨?_, rfl⟩
          rw [permB_f (fun q => by have := (q.2.1 i hil).2; omega)]; rfl
    · have : i = o.length := by omega
      subst this
      repeat' ((conv => whnf); first
          | refine Branch.ofT rfl ?_
          | refine Branch.ofF rfl ?_
          | refine Branch.ofF (decide_eq_false (by omega)) ?_
          | refine Branch.dec (fun h => ?_) (fun h => ?_)
          | refine Branch.negdec (fun h => ?_) (fun h => ?_)
          | refine Branch.neg (fun h => ?_) (fun h => ?_)
          | refine Branch.mk (fun h => ?_) (fun h => ?_)
          | (refine Side.mk ?_ ?_; · first | omega | decide)
          | (refine SideD.mk ?_ ?_; · first | omega | decide)
          | refine ⟨_, Nat.lt_succ_self _, To.refl (.inl ⟨rfl, ?_⟩)⟩
          | (refine Side.mk ?_ ?_; · (simp; done))
          | fail
          )
      all_goals (conv => whnf)
      refine RetA.data rfl ⟨?_, rfl⟩
      rw [permB_t ⟨rfl, fun i h => hb i h h, fun i j hi hj hij => hd i j hi hj hij hj⟩]; rfl
  · repeat' ((conv => whnf); first
        | refine Branch.ofT rfl ?_
        | refine Branch.ofF rfl ?_
        | refine Branch.ofT (by simp; omega) ?_
        | refine Branch.dec (fun h => ?_) (fun h => ?_)
        | refine Branch.negdec (fun h => ?_) (fun h => ?_)
        | refine Branch.neg (fun h => ?_) (fun h => ?_)
        | refine Branch.mk (fun h => ?_) (fun h => ?_)
        | (refine Side.mk ?_ ?_; · first | omega | decide)
        | (refine SideD.mk ?_ ?_; · first | omega | decide)
        | refine ⟨_, Nat.lt_succ_self _, To.refl (.inl ⟨rfl, ?_⟩)⟩
        | (refine Side.mk ?_ ?_; · (simp; done))
        | fail
        )
    all_goals (conv => whnf)
    refine RetA.data rfl ⟨?_, rfl⟩
    rw [permB_f (fun q => hl q.1)]; rfl
end Go.Proofs

namespace Go.Eng
open Go Go.Sort Go.Proofs
variable [Globs]
theorem relP_ints {M : Mem} {μ : Pos} : ∀ {zs : List Int} {vs : List Value}, (∀ j (h : j < zs.length), vs[j]? = some (.int .i64 zs[j])) → relP M μ (ints zs) vs
  | [], _, _ => trivial
  | z :: zs, vs, h => by
    have h0 := h 0 (by simp)
    cases vs with
    | nil => simp at h0
    | cons v vs =>
      refine ⟨v, vs, rfl, ?_, relP_ints fun j hj => ?_⟩
      · simp only [relV]; simpa using h0
      · have := h (j + 1) (by simpa using hj)
        simpa using this
theorem ints_relP {M : Mem} {μ : Pos} {zs : List Int} {vs : List Value} (h : relP M μ (ints zs) vs) (j : Nat) (hj : j < zs.length) : vs[j]? = some (.int .i64 zs[j]) := by
  obtain ⟨v, hv, hr⟩ := relP_get (i := j) (c := I zs[j]) h (by simp [ints, hj])
  simp only [relV] at hr
  rw [hv, hr]
theorem sorted_heap {w : World} {b n : Nat} {os : Array Obj} {d : Array Int} {c : Array Value} {el : TypeId} {fz : Nat × Nat} (hb : w.heap[b]? = some (.cells c el fz)) (x : Nat) (hx : x < w.heap.size) :
    (grow (putRow (Value.int .i64) (Sort.ahead w n) b 0 d) os).heap[x]? = if x = b then some (.cells (putCells (Value.int .i64) 0 d c) el fz) else w.heap[x]? := by
  have hbs : b < w.heap.size := (Array.getElem?_eq_some_iff.1 hb).1
  simp only [grow, putRow, mapBlock, Sort.ahead]
  rw [Array.getElem?_append_left (by simpa using hx), Array.getElem?_modify]
  by_cases e : x = b
  · subst e; rw [if_pos rfl, if_pos rfl, hb]; rfl
  · rw [if_neg (Ne.symm e), if_neg e]
/-- What the library's sort is known to do gives a contract of ours. -/
theorem sortA {P : Program} {f : FuncId} (hok : callable P f = true) (hS : ∀ (blk off cap : Nat) (zs : List Int) (w : World), Holds (Value.int .i64) w blk off zs.toArray → blk < w.heap.size → zs.length < 4611686018427387904 →
      Calls P f #[.slice (some ⟨blk, off, none⟩) zs.length cap] w fun e w' => e = .returned (.tuple #[]) ∧ ∃ n os, w' = grow (putRow (Value.int .i64) (Sort.ahead w n) blk off (zs.mergeSort fun x y => decide (x ≤ y)).toArray) os)
    (zs : List Int) (hz : zs.length ≤ 1000) (cap : Option Nat) : CallA P f [.slice 0 0 zs.length cap 1] ⟨1, [(0, .cells (ints zs))]⟩ fun v H' => v = .tuple [] ∧ H' = ⟨1, [(0, .cells (ints (zs.mergeSort fun x y => decide (x ≤ y))))]⟩ := by
  refine ⟨hok, fun M μ w vs R hv => ?_⟩
  simp only [relL, relV] at hv
  obtain ⟨v, r, hvs, ⟨b, sz, cp, hμ, rfl, h1, h2, _⟩, rfl⟩ := hv
  obtain ⟨b', sz', c, el, fz, hμ', hb, hcs, hfz, hP⟩ := R.cells 0 (ints zs) rfl
  rw [hμ] at hμ'
  cases hμ'
  have hvs' : vs = #[.slice (some ⟨b, 0, none⟩) zs.length cp] := by
    apply Array.ext'; simpa using hvs
  subst hvs'
  have hbs : b < w.heap.size := (Array.getElem?_eq_some_iff.1 hb).1
  have hlen : (zs.mergeSort fun x y => decide (x ≤ y)).length = zs.length := List.length_mergeSort zs
  have hH : Holds (Value.int .i64) w b 0 zs.toArray := by
    intro j hj
    have hj' : j < zs.length := by simpa using hj
    refine ⟨?_, ?_⟩
    · have := ints_relP hP j hj'
      simp only [World.cell?, hb, Nat.zero_add, Option.isSome_none, Bool.false_eq_true, if_false]
      rw [← Array.getElem?_toList, this]
      simp [hj']
    · simp only [World.frozen?, hb, Nat.zero_add]
      rcases hfz with rfl | hfz
      · simp
      · have : ¬ fz.1 ≤ j := by omega
        simp [this]
  refine (hS b 0 cp zs w hH hbs (by omega)).mono ?_
  rintro e w' ⟨rfl, n, os, rfl⟩
  generalize hd : (zs.mergeSort fun x y => decide (x ≤ y)) = ds at *
  have heap := fun x hx => sorted_heap (n := n) (os := os) (d := ds.toArray) hb x hx
  generalize hw' : grow (putRow (Value.int .i64) (Sort.ahead w n) b 0 ds.toArray) os = w' at *
  have hsz : w.heap.size ≤ w'.heap.size := by rw [← hw']; simp [grow, putRow, mapBlock, Sort.ahead]
  have hc' : (putCells (Value.int .i64) 0 ds.toArray c).size = sz := by simp [putCells, hcs]
  have hP' : relP M μ (ints ds) (putCells (Value.int .i64) 0 ds.toArray c).toList := relP_ints fun j hj => by
    have hjc : j < c.size := by omega
    rw [Array.getElem?_toList]
    simp [putCells, hj, hjc]
  obtain ⟨R1, G1⟩ := R.write (cs' := ints ds) rfl hμ hb hfz hc' hP'
  have hset : ∀ x, x < w.heap.size → w'.heap[x]? = (w.setRow b (putCells (Value.int .i64) 0 ds.toArray c)).heap[x]? := by
    intro x hx
    rw [heap x hx]
    by_cases e : x = b
    · subst e; rw [if_pos rfl, setRow_heap w x c _ el fz hb]
    · rw [if_neg e, setRow_other w b x _ e]
  have hss : (w.setRow b (putCells (Value.int .i64) 0 ds.toArray c)).heap.size = w.heap.size := by simp [World.setRow]
  have R2 : Rel M μ (Heap.set ⟨1, [(0, .cells (ints zs))]⟩ 0 (.cells (ints ds))) w' := R1.off (fun x hx => hset x (by have := R1.own_lt hx; omega)) (fun x o v hv => hset x (R.cell_lt hv))
  have hget : (Heap.set ⟨1, [(0, .cells (ints zs))]⟩ 0 (.cells (ints ds))).get = Heap.get ⟨1, [(0, .cells (ints ds))]⟩ := by
    funext j
    rw [Heap.get_set]
    by_cases e : 0 = j
    · subst e; rfl
    · rw [if_neg e]; simp [Heap.get, bget, beq_false e]
  have G2 : Grow 1 M μ ⟨1, [(0, .cells (ints zs))]⟩ w M μ (Heap.set ⟨1, [(0, .cells (ints zs))]⟩ 0 (.cells (ints ds))) w' :=
    ⟨G1.grow.mem, G1.grow.pin, ⟨by rw [← hw']; rfl, by rw [← hw']; rfl, by rw [← hw']; rfl, hsz, fun x hx hn => by rw [hset x hx]; exact G1.grow.keep.block x hx hn⟩, G1.grow.own, G1.grow.fresh⟩
  exact ⟨_, M, μ, ⟨1, [(0, .cells (ints ds))]⟩, .tuple [], rfl, R2.ext hget rfl, by simp [relV, relL], ⟨Pos.le_refl _, G2.ext hget, Nat.le_refl _⟩, rfl, rfl⟩
end Go.Eng

namespace Go.Proofs
open Go Go.Eng
set_option maxRecDepth 100000
set_option maxHeartbeats 4000000
/-- A list of numbers that grows at place p: none yet is nil. -/
def nV (p : Nat) : Nat → AV
  | 0 => .nils
  | n + 1 => .slice p 0 (n + 1) none 1
theorem c35 (o : List Int) (cap : Option Nat) : CallA Try.prog 35 [.dslice (ints o) o.length cap] Heap.nil fun v H' => v = .func 46 [.dptr [.dslice (ints o) o.length cap]] ∧ H' = Heap.nil := by
  refine callA_of ok35 (Nat.le_of_ble_eq_true rfl) ?_
  repeat' ((conv => whnf); first
      | refine Branch.ofT rfl ?_
      | refine Branch.ofF rfl ?_
      | refine Branch.dec (fun h => ?_) (fun h => ?_)
      | refine Branch.negdec (fun h => ?_) (fun h => ?_)
      | refine Branch.neg (fun h => ?_) (fun h => ?_)
      | refine Branch.mk (fun h => ?_) (fun h => ?_)
      | (refine Side.mk ?_ ?_; · first | omega | decide)
      | (refine SideD.mk ?_ ?_; · first | omega | decide)
      | refine ⟨_, Nat.lt_succ_self _, To.refl (.inl ⟨rfl, ?_⟩)⟩
      | (refine Side.mk ?_ ?_; · (simp; done))
      | fail
      )
  all_goals (conv => whnf)
  exact RetA.out 2 rfl ⟨rfl, rfl⟩
def H46 (o : List Int) : Nat → Heap
  | 0 => ⟨2, [(0, .cells [.nils]), (1, .loop .ready 480 [(2, .ptr 0 0)])]⟩
  | i + 1 => ⟨3, [(0, .cells [.slice 2 0 (i + 1) none 1]), (1, .loop .ready 480 [(2, .ptr 0 0)]), (2, .cells (ints (o.take (i + 1))))]⟩
def L46 (o : List Int) (cap : Option Nat) (m : Nat) (fr : Fr) (H : Heap) : Prop := ∃ i : Nat, i ≤ o.length ∧ m = o.length - i ∧ fr = [(0, .yld 1), (5, .dslice (ints o) o.length cap), (6, I o.length), (7, I i)] ∧ H = H46 o i
theorem take_snoc (o : List Int) (i : Nat) (h : i < o.length) : o.take (i + 1) = o.take i ++ [o[i]] := by
  rw [List.take_succ, List.getElem?_eq_getElem h]; rfl
theorem take_i_len (o : List Int) (i : Nat) (h : i ≤ o.length) : (o.take i).length = i := by rw [List.length_take]; omega
theorem appI (a : Int) : fits 1 8 ∧ ∀ (c : AV), c ∈ List.take (1 * 1) (I a :: ([] : List AV).append (rep [I 0] 0)) → scal c = true := by
  refine ⟨by unfold fits; omega, fun c hc => ?_⟩
  have : c = I a := by simpa [rep] using hc
  subst this; rfl
theorem appIs (o : List Int) (n : Nat) (a : Int) (hl : o.length = n) (h : n ≤ 1000) : 1 = 1 ∧ 0 = 0 ∧ (ints o).length = n * 1 ∧ fits (n + 1) 8 ∧ ∀ (c : AV), c ∈ List.take (1 * 1) (I a :: ([] : List AV).append (rep [I 0] 0)) → scal c = true :=
  ⟨rfl, rfl, by rw [ints_len, hl, Nat.mul_one], by unfold fits; omega, (appI a).2⟩
theorem c48 (o : List Int) (cap : Option Nat) (hl : o.length ≤ 100) : CallA Try.prog 48 [.nils, .func 46 [.dptr [.dslice (ints o) o.length cap]]] Heap.nil fun v H' => (o = [] ∧ v = .nils ∧ H' = Heap.nil) ∨ (o ≠ [] ∧ v = .slice 0 0 o.length none 1 ∧ H' = ⟨1, [(0, .cells (ints o))]⟩) := by
  have dI : ∀ o, dataB (.cells (ints o)) := fun o c hc => ints_noLoc o c hc
  refine callA_of ok48 (Nat.le_of_ble_eq_true rfl) ?_
  repeat' ((conv => whnf); first
      | refine Branch.ofT rfl ?_
      | refine Branch.ofF rfl ?_
      | refine Branch.dec (fun h => ?_) (fun h => ?_)
      | refine Branch.negdec (fun h => ?_) (fun h => ?_)
      | refine Branch.neg (fun h => ?_) (fun h => ?_)
      | refine Branch.mk (fun h => ?_) (fun h => ?_)
      | (refine Side.mk ?_ ?_; · first | omega | decide)
      | (refine SideD.mk ?_ ?_; · first | omega | decide)
      | refine ⟨_, Nat.lt_succ_self _, To.refl (.inl ⟨rfl, ?_⟩)⟩
      | refine Side.mk ⟨at480, rfl, rfl⟩ ?_
      | (refine Side.mk ?_ ?_; · (simp; done))
      | fail
      )
  all_goals (conv => whnf)
  refine callA_of ok46 (Nat.le_of_ble_eq_true rfl) ?_
  repeat' ((conv => whnf); first
      | refine Branch.ofT rfl ?_
      | refine Branch.ofF rfl ?_
      | refine Branch.dec (fun h => ?_) (fun h => ?_)
      | refine Branch.negdec (fun h => ?_) (fun h => ?_)
      | refine Branch.neg (fun h => ?_) (fun h => ?_)
      | refine Branch.mk (fun h => ?_) (fun h => ?_)
      | (refine Side.mk ?_ ?_; · first | omega | decide)
      | (refine SideD.mk ?_ ?_; · first | omega | decide)
      | refine ⟨_, Nat.lt_succ_self _, To.refl (.inl ⟨rfl, ?_⟩)⟩
      | (refine Side.mk ?_ ?_; · (simp; done))
      | fail
      )
  all_goals (conv => whnf)
  refine ⟨L46 o cap, o.length, To.gc [(0, false), (1, false)] [0, 5, 6, 7] rfl trivial ⟨0, by omega, by omega, rfl, rfl⟩, ?_⟩
  rintro m fr H ⟨i, hi, rfl, rfl, rfl⟩
  by_cases hil : i < o.length
  · have ht := take_snoc o i hil
    have hti := take_i_len o i (by omega)
    cases i with
    | zero =>
      repeat' ((conv => whnf); first
          | refine Branch.ofT rfl ?_
          | refine Branch.ofF rfl ?_
          | refine Branch.ofT (decide_eq_true (by omega)) ?_
          | refine Branch.dec (fun h => ?_) (fun h => ?_)
          | refine Branch.negdec (fun h => ?_) (fun h => ?_)
          | refine Branch.neg (fun h => ?_) (fun h => ?_)
          | refine Branch.mk (fun h => ?_) (fun h => ?_)
          | (refine Side.mk ?_ ?_; · first | omega | decide)
          | (refine SideD.mk ?_ ?_; · first | omega | decide)
          | refine ⟨_, Nat.lt_succ_self _, To.refl (.inl ⟨rfl, ?_⟩)⟩
          | refine nth_in hil (by omega) ?_
          | refine YieldA.of rfl at480 rfl ?_
          | refine Side.mk (appI _) ?_
          | (refine Side.mk ?_ ?_; · (simp; done))
          | fail
          )
      all_goals (conv => whnf)
      refine RetA.gc [(0, false), (1, false), (2, true)] rfl ⟨dI [o[0]], trivial⟩ ?_
      repeat' ((conv => whnf); first
          | refine Branch.ofT rfl ?_
          | refine Branch.ofF rfl ?_
          | refine Branch.ofF rfl ?_
          | refine Branch.dec (fun h => ?_) (fun h => ?_)
          | refine Branch.negdec (fun h => ?_) (fun h => ?_)
          | refine Branch.neg (fun h => ?_) (fun h => ?_)
          | refine Branch.mk (fun h => ?_) (fun h => ?_)
          | (refine Side.mk ?_ ?_; · first | omega | decide)
          | (refine SideD.mk ?_ ?_; · first | omega | decide)
          | refine ⟨_, Nat.lt_succ_self _, To.refl (.inl ⟨rfl, ?_⟩)⟩
          | (refine Side.mk ?_ ?_; · (simp; done))
          | fail
          )
      all_goals (conv => whnf)
      refine ⟨o.length - (0 + 1), by omega, To.gc [(0, false), (1, false), (2, true)] [0, 5, 6, 7] rfl ⟨dI [o[0]], trivial⟩ ⟨0 + 1, by omega, rfl, rfl, ?_⟩⟩
      show _ = (⟨3, [(0, .cells [.slice 2 0 (0 + 1) none 1]), (1, .loop .ready 480 [(2, .ptr 0 0)]), (2, .cells (ints (o.take (0 + 1))))]⟩ : Heap)
      rw [ht]; rfl
    | succ i =>
      repeat' ((conv => whnf); first
          | refine Branch.ofT rfl ?_
          | refine Branch.ofF rfl ?_
          | refine Branch.ofT (decide_eq_true (by omega)) ?_
          | refine Branch.dec (fun h => ?_) (fun h => ?_)
          | refine Branch.negdec (fun h => ?_) (fun h => ?_)
          | refine Branch.neg (fun h => ?_) (fun h => ?_)
          | refine Branch.mk (fun h => ?_) (fun h => ?_)
          | (refine Side.mk ?_ ?_; · first | omega | decide)
          | (refine SideD.mk ?_ ?_; · first | omega | decide)
          | refine ⟨_, Nat.lt_succ_self _, To.refl (.inl ⟨rfl, ?_⟩)⟩
          | refine nth_in hil (by omega) ?_
          | refine YieldA.of rfl at480 rfl ?_
          | refine Side.mk (appIs _ _ _ hti (by omega)) ?_
          | (refine Side.mk ?_ ?_; · (simp; done))
          | fail
          )
      all_goals (conv => whnf)
      have hd : dataB (.cells (ints (o.take (i + 1)) ++ [I o[i + 1]])) := by
        have := dI (o.take (i + 1) ++ [o[i + 1]])
        rwa [ints_app] at this
      refine RetA.gc [(0, false), (1, false), (2, false), (3, true)] rfl ⟨hd, trivial⟩ ?_
      repeat' ((conv => whnf); first
          | refine Branch.ofT rfl ?_
          | refine Branch.ofF rfl ?_
          | refine Branch.ofF rfl ?_
          | refine Branch.dec (fun h => ?_) (fun h => ?_)
          | refine Branch.negdec (fun h => ?_) (fun h => ?_)
          | refine Branch.neg (fun h => ?_) (fun h => ?_)
          | refine Branch.mk (fun h => ?_) (fun h => ?_)
          | (refine Side.mk ?_ ?_; · first | omega | decide)
          | (refine SideD.mk ?_ ?_; · first | omega | decide)
          | refine ⟨_, Nat.lt_succ_self _, To.refl (.inl ⟨rfl, ?_⟩)⟩
          | (refine Side.mk ?_ ?_; · (simp; done))
          | fail
          )
      all_goals (conv => whnf)
      refine ⟨o.length - (i + 1 + 1), by omega, To.gc [(0, false), (1, false), (3, true)] [0, 5, 6, 7] rfl ⟨hd, trivial⟩ ⟨i + 1 + 1, by omega, rfl, rfl, ?_⟩⟩
      show _ = (⟨3, [(0, .cells [.slice 2 0 (i + 1 + 1) none 1]), (1, .loop .ready 480 [(2, .ptr 0 0)]), (2, .cells (ints (o.take (i + 1 + 1))))]⟩ : Heap)
      rw [ht, ints_app]; rfl
  · have : i = o.length := by omega
    subst this
    cases o with
    | nil =>
      repeat' ((conv => whnf); first
          | refine Branch.ofT rfl ?_
          | refine Branch.ofF rfl ?_
          | refine Branch.ofF (decide_eq_false (by simp)) ?_
          | refine Branch.dec (fun h => ?_) (fun h => ?_)
          | refine Branch.negdec (fun h => ?_) (fun h => ?_)
          | refine Branch.neg (fun h => ?_) (fun h => ?_)
          | refine Branch.mk (fun h => ?_) (fun h => ?_)
          | (refine Side.mk ?_ ?_; · first | omega | decide)
          | (refine SideD.mk ?_ ?_; · first | omega | decide)
          | refine ⟨_, Nat.lt_succ_self _, To.refl (.inl ⟨rfl, ?_⟩)⟩
          | (refine Side.mk ?_ ?_; · (simp; done))
          | fail
          )
      all_goals (conv => whnf)
      refine RetA.gc [(0, false), (1, false)] rfl trivial ?_
      repeat' ((conv => whnf); first
          | refine Branch.ofT rfl ?_
          | refine Branch.ofF rfl ?_
          | refine Branch.dec (fun h => ?_) (fun h => ?_)
          | refine Branch.negdec (fun h => ?_) (fun h => ?_)
          | refine Branch.neg (fun h => ?_) (fun h => ?_)
          | refine Branch.mk (fun h => ?_) (fun h => ?_)
          | (refine Side.mk ?_ ?_; · first | omega | decide)
          | (refine SideD.mk ?_ ?_; · first | omega | decide)
          | refine ⟨_, Nat.lt_succ_self _, To.refl (.inl ⟨rfl, ?_⟩)⟩
          | (refine Side.mk ?_ ?_; · (simp; done))
          | fail
          )
      all_goals (conv => whnf)
      exact RetA.gc [] rfl trivial (.inl ⟨rfl, rfl, rfl⟩)
    | cons x r =>
      have htk : (x :: r).take (r.length + 1) = x :: r := by rw [show r.length + 1 = (x :: r).length from rfl, List.take_length]
      repeat' ((conv => whnf); first
          | refine Branch.ofT rfl ?_
          | refine Branch.ofF rfl ?_
          | refine Branch.ofF (decide_eq_false (by omega)) ?_
          | refine Branch.dec (fun h => ?_) (fun h => ?_)
          | refine Branch.negdec (fun h => ?_) (fun h => ?_)
          | refine Branch.neg (fun h => ?_) (fun h => ?_)
          | refine Branch.mk (fun h => ?_) (fun h => ?_)
          | (refine Side.mk ?_ ?_; · first | omega | decide)
          | (refine SideD.mk ?_ ?_; · first | omega | decide)
          | refine ⟨_, Nat.lt_succ_self _, To.refl (.inl ⟨rfl, ?_⟩)⟩
          | (refine Side.mk ?_ ?_; · (simp; done))
          | fail
          )
      all_goals (conv => whnf)
      refine RetA.gc [(0, false), (1, false), (2, true)] rfl ⟨dI _, trivial⟩ ?_
      repeat' ((conv => whnf); first
          | refine Branch.ofT rfl ?_
          | refine Branch.ofF rfl ?_
          | refine Branch.dec (fun h => ?_) (fun h => ?_)
          | refine Branch.negdec (fun h => ?_) (fun h => ?_)
          | refine Branch.neg (fun h => ?_) (fun h => ?_)
          | refine Branch.mk (fun h => ?_) (fun h => ?_)
          | (refine Side.mk ?_ ?_; · first | omega | decide)
          | (refine SideD.mk ?_ ?_; · first | omega | decide)
          | refine ⟨_, Nat.lt_succ_self _, To.refl (.inl ⟨rfl, ?_⟩)⟩
          | (refine Side.mk ?_ ?_; · (simp; done))
          | fail
          )
      all_goals (conv => whnf)
      refine RetA.gc [(2, true)] rfl ⟨dI _, trivial⟩ (.inr ⟨by simp, rfl, ?_⟩)
      show (⟨1, [(0, .cells (ints ((x :: r).take (r.length + 1))))]⟩ : Heap) = _
      rw [htk]
end Go.Proofs

namespace Go.Proofs
open Go Go.Eng
set_option maxRecDepth 100000
set_option maxHeartbeats 4000000
def rng (n : Nat) : List Int := (List.range n).map fun i : Nat => (i : Int)
theorem rng_len (n : Nat) : (rng n).length = n := by simp [rng]
theorem rng_get (n i : Nat) (h : i < (rng n).length) : (rng n)[i] = (i : Int) := by simp [rng]
theorem rng_mem (n : Nat) (a : Int) : a ∈ rng n ↔ 0 ≤ a ∧ a < n := by
  simp only [rng, List.mem_map, List.mem_range]
  constructor
  · rintro ⟨i, h, rfl⟩; omega
  · rintro ⟨h1, h2⟩; exact ⟨a.toNat, by omega, by omega⟩
theorem rng_nodup (n : Nat) : (rng n).Nodup := by
  unfold rng
  refine List.Pairwise.map _ (fun a b h => ?_) (List.nodup_range (n := n))
  intro e; exact h (by omega)
theorem perm_nodup {o : List Int} {n : Nat} (h : PermP o n) : o.Nodup := by
  refine List.pairwise_iff_getElem.2 fun i j hi hj hij => h.2.2 i j hi hj hij
theorem perm_rng {o : List Int} {n : Nat} (h : PermP o n) : o.Perm (rng n) := by
  refine (List.perm_ext_iff_of_nodup (perm_nodup h) (rng_nodup n)).2 fun a => ?_
  constructor
  · intro ha
    obtain ⟨i, hi, rfl⟩ := List.getElem_of_mem ha
    exact (rng_mem n _).2 (h.2.1 i hi)
  · intro ha
    refine Classical.byContradiction fun hn => ?_
    have hnd : (a :: o).Nodup := List.nodup_cons.2 ⟨hn, perm_nodup h⟩
    have := hnd.length_le_of_subset (l₂ := rng n) fun x hx => by
      rcases List.mem_cons.1 hx with rfl | hx
      · exact ha
      · obtain ⟨i, hi, rfl⟩ := List.getElem_of_mem hx
        exact (rng_mem n _).2 (h.2.1 i hi)
    rw [rng_len, List.length_cons, h.1] at this
    omega
theorem perm_all {o : List Int} {n : Nat} (h : PermP o n) (x : Nat) (hx : x < n) : ∃ (p : Nat) (hp : p < o.length), o[p] = (x : Int) := by
  have : (x : Int) ∈ o := (perm_rng h).mem_iff.2 ((rng_mem n _).2 (by omega))
  obtain ⟨p, hp, e⟩ := List.getElem_of_mem this
  exact ⟨p, hp, e⟩
def srt (o : List Int) : List Int := o.mergeSort fun x y => decide (x ≤ y)
theorem srt_rng {o : List Int} {n : Nat} (h : PermP o n) : srt o = rng n := by
  refine List.Perm.eq_of_pairwise (le := fun a b : Int => a ≤ b) (fun a b _ _ h1 h2 => by omega) ?_ ?_ ((List.mergeSort_perm o _).trans (perm_rng h))
  · have := List.pairwise_mergeSort (le := fun x y : Int => decide (x ≤ y)) (fun a b c h1 h2 => by simp at *; omega) (fun a b => by simp; omega) o
    exact this.imp fun h => by simpa using h
  · refine List.pairwise_iff_getElem.2 fun i j hi hj hij => ?_
    rw [rng_get, rng_get]; omega
/-! ### Sets, one less another -/
theorem uandn_bit {a b : Nat} (ha : a < 18446744073709551616) (hb : b < 18446744073709551616) : IntKind.u64.wrap (BitVec.ofInt IntKind.u64.bits (a : Int) &&& ~~~(BitVec.ofInt IntKind.u64.bits (b : Int))).toNat = 0 ↔ ∀ j, a.testBit j = true → b.testBit j = true := by
  show IntKind.u64.wrap ((BitVec.ofInt 64 (a : Int) &&& ~~~(BitVec.ofInt 64 (b : Int))).toNat : Nat) = 0 ↔ _
  rw [w64, ofInt64, ofInt64]
  generalize hv : BitVec.ofNat 64 a &&& ~~~(BitVec.ofNat 64 b) = v
  have hlt : v.toNat < 18446744073709551616 := v.isLt
  have hz : ((v.toNat : Nat) : Int) % 18446744073709551616 = 0 ↔ v = 0#64 := by
    rw [show v = 0#64 ↔ v.toNat = 0 from ⟨fun h => by rw [h]; rfl, fun h => BitVec.eq_of_toNat_eq (by simpa using h)⟩]
    omega
  rw [hz]
  have hbit : ∀ {x : Nat}, x < 18446744073709551616 → ∀ j, 64 ≤ j → x.testBit j = false := fun hx j hj => Nat.testBit_lt_two_pow (Nat.lt_of_lt_of_le hx (Nat.pow_le_pow_right (n := 2) (by decide) hj))
  constructor
  · intro h j hj
    have hj64 : j < 64 := by
      refine Classical.byContradiction fun q => ?_
      rw [hbit ha j (by omega)] at hj; cases hj
    have : v.getLsbD j = false := by rw [h]; simp
    rw [← hv] at this
    simp only [BitVec.getLsbD_and, BitVec.getLsbD_not, BitVec.getLsbD_ofNat, hj64, decide_true, Bool.true_and, hj] at this
    simpa using this
  · intro h
    refine BitVec.eq_of_getLsbD_eq fun j hj => ?_
    rw [← hv]
    simp only [BitVec.getLsbD_and, BitVec.getLsbD_not, BitVec.getLsbD_ofNat, hj, decide_true, Bool.true_and]
    cases hb : a.testBit j
    · simp
    · rw [h j hb]; simp
/-- The places that are done. -/
def dn (o : List Int) : Nat → Nat
  | 0 => 0
  | k + 1 => dn o k ||| 2 ^ o[k]!.toNat
theorem dn_bit (o : List Int) : ∀ k j, (dn o k).testBit j = true ↔ ∃ q, q < k ∧ o[q]!.toNat = j
  | 0, j => by simp [dn]
  | k + 1, j => by
    have ih := dn_bit o k j
    rw [dn, set_bit]
    by_cases e : o[k]!.toNat = j
    · rw [if_pos e]; exact ⟨fun _ => ⟨k, by omega, e⟩, fun _ => rfl⟩
    · rw [if_neg e, ih]
      constructor
      · rintro ⟨q, h1, h2⟩; exact ⟨q, by omega, h2⟩
      · rintro ⟨q, h1, h2⟩
        refine ⟨q, ?_, h2⟩
        have : q ≠ k := fun e' => e (by subst e'; exact h2)
        omega
theorem dn_lt {o : List Int} {n : Nat} (h : PermP o n) (hn : n ≤ 60) : ∀ k, k ≤ n → dn o k < 18446744073709551616
  | 0, _ => show 0 < 18446744073709551616 by decide
  | k + 1, hk => by
    have hk' : k < o.length := by rw [h.1]; omega
    have := h.2.1 k hk'
    refine or64 (dn_lt h hn k (by omega)) (pow64 ?_)
    rw [getElem!_pos o k hk']; omega
/-- Legal: what is before each one conflicts with is done. -/
def legP (D : List Nat) (o : List Int) : Prop := ∀ p, p < o.length → ∀ j, (D[o[p]!.toNat]!).testBit j = true → (dn o p).testBit j = true
open Classical in
noncomputable def legB (D : List Nat) (o : List Int) : Bool := decide (legP D o)
theorem legB_t {D : List Nat} {o : List Int} (h : legP D o) : legB D o = true := by unfold legB; simpa using h
theorem legB_f {D : List Nat} {o : List Int} (h : ¬ legP D o) : legB D o = false := by unfold legB; simpa using h
end Go.Proofs

namespace Go.Proofs
open Go Go.Eng Go.Sort Go.Shelf
set_option maxRecDepth 100000
set_option maxHeartbeats 4000000
def Try.lays189_ren : Go.Shelf.Ren := ⟨fun | 125 => 50 | 128 => 61 | 129 => 62 | 189 => 45 | 215 => 68 | 216 => 58 | 257 => 49 | 294 => 52 | 295 => 53 | 296 => 54 | 297 => 55 | 298 => 56 | 299 => 57 | 300 => 59 | 301 => 60 | 328 => 63 | 329 => 64 | 330 => 65 | 331 => 66 | 332 => 67 | 343 => 69 | n => n, fun | 0 => 0 | 3 => 3 | 4 => 4 | 5 => 5 | 9 => 9 | 28 => 44 | 46 => 90 | 51 => 23 | 53 => 65 | 131 => 98 | 182 => 92 | 183 => 93 | 218 => 102 | 222 => 106 | 228 => 108 | 229 => 109 | n => n, fun | n => n⟩
theorem Try.lays189 : Lays.n189 Try.prog Try.lays189_ren := {
  mixed := by kernel_rfl,
  f125 := Try.func50.trans (congrArg some (by kernel_rfl)),
  f128 := Try.func61.trans (congrArg some (by kernel_rfl)),
  f129 := Try.func62.trans (congrArg some (by kernel_rfl)),
  f189 := Try.func45.trans (congrArg some (by kernel_rfl)),
  f215 := Try.func68.trans (congrArg some (by kernel_rfl)),
  f216 := Try.func58.trans (congrArg some (by kernel_rfl)),
  f257 := Try.func49.trans (congrArg some (by kernel_rfl)),
  f294 := Try.func52.trans (congrArg some (by kernel_rfl)),
  f295 := Try.func53.trans (congrArg some (by kernel_rfl)),
  f296 := Try.func54.trans (congrArg some (by kernel_rfl)),
  f297 := Try.func55.trans (congrArg some (by kernel_rfl)),
  f298 := Try.func56.trans (congrArg some (by kernel_rfl)),
  f299 := Try.func57.trans (congrArg some (by kernel_rfl)),
  f300 := Try.func59.trans (congrArg some (by kernel_rfl)),
  f301 := Try.func60.trans (congrArg some (by kernel_rfl)),
  f328 := Try.func63.trans (congrArg some (by kernel_rfl)),
  f329 := Try.func64.trans (congrArg some (by kernel_rfl)),
  f330 := Try.func65.trans (congrArg some (by kernel_rfl)),
  f331 := Try.func66.trans (congrArg some (by kernel_rfl)),
  f332 := Try.func67.trans (congrArg some (by kernel_rfl)),
  f343 := Try.func69.trans (congrArg some (by kernel_rfl)),
  t0 := Try.underlying0,
  a0 := Try.isAgg0,
  z0 := Try.sizeOf0,
  v0 := Try.zeroValue0,
  t3 := Try.underlying3,
  a3 := Try.isAgg3,
  z3 := Try.sizeOf3,
  v3 := Try.zeroValue3,
  t4 := Try.underlying4,
  a4 := Try.isAgg4,
  z4 := Try.sizeOf4,
  v4 := Try.zeroValue4,
  t5 := Try.underlying5,
  a5 := Try.isAgg5,
  z5 := Try.sizeOf5,
  v5 := Try.zeroValue5,
  t9 := Try.underlying9,
  a9 := Try.isAgg9,
  z9 := Try.sizeOf9,
  v9 := Try.zeroValue9,
  t28 := Try.underlying44,
  a28 := Try.isAgg44,
  z28 := Try.sizeOf44,
  v28 := Try.zeroValue44,
  t46 := Try.underlying90,
  a46 := Try.isAgg90,
  z46 := Try.sizeOf90,
  v46 := Try.zeroValue90,
  t51 := Try.underlying23,
  a51 := Try.isAgg23,
  z51 := Try.sizeOf23,
  v51 := Try.zeroValue23,
  t53 := Try.underlying65,
  a53 := Try.isAgg65,
  z53 := Try.sizeOf65,
  v53 := Try.zeroValue65,
  t131 := Try.underlying98,
  a131 := Try.isAgg98,
  z131 := Try.sizeOf98,
  v131 := Try.zeroValue98,
  t182 := Try.underlying92,
  a182 := Try.isAgg92,
  z182 := Try.sizeOf92,
  v182 := Try.zeroValue92,
  t183 := Try.underlying93,
  a183 := Try.isAgg93,
  z183 := Try.sizeOf93,
  v183 := Try.zeroValue93,
  t218 := Try.underlying102,
  a218 := Try.isAgg102,
  z218 := Try.sizeOf102,
  v218 := Try.zeroValue102,
  t222 := Try.underlying106,
  a222 := Try.isAgg106,
  z222 := Try.sizeOf106,
  v222 := Try.zeroValue106,
  t228 := Try.underlying108,
  a228 := Try.isAgg108,
  z228 := Try.sizeOf108,
  v228 := Try.zeroValue108,
  t229 := Try.underlying109,
  a229 := Try.isAgg109,
  z229 := Try.sizeOf109,
  v229 := Try.zeroValue109 }
theorem c45 (zs : List Int) (hz : zs.length ≤ 1000) (cap : Option Nat) : CallA Try.prog 45 [.slice 0 0 zs.length cap 1] ⟨1, [(0, .cells (ints zs))]⟩ fun v H' => v = .tuple [] ∧ H' = ⟨1, [(0, .cells (ints (srt zs)))]⟩ :=
  sortA (by kernel_rfl) (fun blk off cap zs w h1 h2 h3 => Any.slices_Sort_int Try.lays189 blk off cap zs w h1 h2 h3) zs hz cap
theorem c45n_run : resultR noOv orTbl orRt 1000 60 45 [.nils] = some (.tuple []) := by kernel_rfl
theorem c45n : CallA Try.prog 45 [.nils] Heap.nil fun v H' => v = .tuple [] ∧ H' = Heap.nil := CallA.computedR noOv_ok orOk orRf orRt_ok 1000 60 c45n_run
theorem c44 (o : List Int) (cap : Option Nat) (hl : o.length ≤ 100) : CallA Try.prog 44 [.func 46 [.dptr [.dslice (ints o) o.length cap]]] Heap.nil fun v H' => (o = [] ∧ v = .nils ∧ H' = Heap.nil) ∨ (o ≠ [] ∧ v = .slice 0 0 o.length none 1 ∧ H' = ⟨1, [(0, .cells (ints o))]⟩) := by
  have dI : ∀ o, dataB (.cells (ints o)) := fun o c hc => ints_noLoc o c hc
  refine callA_of ok44 (Nat.le_of_ble_eq_true rfl) ?_
  repeat' ((conv => whnf); first
      | refine Branch.ofT rfl ?_
      | refine Branch.ofF rfl ?_
      | refine Branch.dec (fun h => ?_) (fun h => ?_)
      | refine Branch.negdec (fun h => ?_) (fun h => ?_)
      | refine Branch.neg (fun h => ?_) (fun h => ?_)
      | refine Branch.mk (fun h => ?_) (fun h => ?_)
      | (refine Side.mk ?_ ?_; · first | omega | decide)
      | (refine SideD.mk ?_ ?_; · first | omega | decide)
      | refine ⟨_, Nat.lt_succ_self _, To.refl (.inl ⟨rfl, ?_⟩)⟩
      | (refine CallA.mono (c48 o cap hl) ?_; rintro _ _ (⟨h, rfl, rfl⟩ | ⟨h, rfl, rfl⟩))
      | (refine Side.mk ?_ ?_; · (simp; done))
      | fail
      )
  all_goals (conv => whnf)
  · exact RetA.gc [] rfl trivial (.inl ⟨h, rfl, rfl⟩)
  · exact RetA.gc [(0, true)] rfl ⟨dI _, trivial⟩ (.inr ⟨h, rfl, rfl⟩)
theorem srt_len (o : List Int) : (srt o).length = o.length := List.length_mergeSort o
theorem ints_take (o : List Int) : (ints o).take (o.length * 1) = ints o := by rw [Nat.mul_one, ← ints_len, List.take_length]
theorem c34 (o : List Int) (cap : Option Nat) (hl : o.length ≤ 100) : CallA Try.prog 34 [.func 46 [.dptr [.dslice (ints o) o.length cap]]] Heap.nil fun v H' => v = .dslice (ints (srt o)) (srt o).length none ∧ H' = Heap.nil := by
  have dI : ∀ o, dataB (.cells (ints o)) := fun o c hc => ints_noLoc o c hc
  have hS := c45 o (by omega) none
  refine callA_of ok34 (Nat.le_of_ble_eq_true rfl) ?_
  repeat' ((conv => whnf); first
      | refine Branch.ofT rfl ?_
      | refine Branch.ofF rfl ?_
      | refine Branch.dec (fun h => ?_) (fun h => ?_)
      | refine Branch.negdec (fun h => ?_) (fun h => ?_)
      | refine Branch.neg (fun h => ?_) (fun h => ?_)
      | refine Branch.mk (fun h => ?_) (fun h => ?_)
      | (refine Side.mk ?_ ?_; · first | omega | decide)
      | (refine SideD.mk ?_ ?_; · first | omega | decide)
      | refine ⟨_, Nat.lt_succ_self _, To.refl (.inl ⟨rfl, ?_⟩)⟩
      | (refine CallA.mono (c44 o cap hl) ?_; rintro _ _ (⟨h, rfl, rfl⟩ | ⟨h, rfl, rfl⟩))
      | (refine Side.mk ?_ ?_; · (simp; done))
      | fail
      )
  all_goals (conv => whnf)
  · repeat' ((conv => whnf); first
        | refine Branch.ofT rfl ?_
        | refine Branch.ofF rfl ?_
        | refine Branch.dec (fun h => ?_) (fun h => ?_)
        | refine Branch.negdec (fun h => ?_) (fun h => ?_)
        | refine Branch.neg (fun h => ?_) (fun h => ?_)
        | refine Branch.mk (fun h => ?_) (fun h => ?_)
        | (refine Side.mk ?_ ?_; · first | omega | decide)
        | (refine SideD.mk ?_ ?_; · first | omega | decide)
        | refine ⟨_, Nat.lt_succ_self _, To.refl (.inl ⟨rfl, ?_⟩)⟩
        | (refine CallA.pure c45n rfl rfl ?_)
        | (refine Side.mk ?_ ?_; · (simp; done))
        | fail
        )
    all_goals (conv => whnf)
    refine RetA.weakV (r := .dslice [] 0 none) (fun M μ u hu => ?_) (RetA.data rfl ⟨?_, rfl⟩)
    · have hu : relV M .nils μ u := hu
      simp only [relV] at hu
      simp [relV, hu]
    · subst h
      have : srt [] = [] := by simp [srt]
      rw [this]; rfl
  · repeat' ((conv => whnf); first
        | refine Branch.ofT rfl ?_
        | refine Branch.ofF rfl ?_
        | refine Branch.dec (fun h => ?_) (fun h => ?_)
        | refine Branch.negdec (fun h => ?_) (fun h => ?_)
        | refine Branch.neg (fun h => ?_) (fun h => ?_)
        | refine Branch.mk (fun h => ?_) (fun h => ?_)
        | (refine Side.mk ?_ ?_; · first | omega | decide)
        | (refine SideD.mk ?_ ?_; · first | omega | decide)
        | refine ⟨_, Nat.lt_succ_self _, To.refl (.inl ⟨rfl, ?_⟩)⟩
        | (refine CallA.mono hS ?_; rintro _ _ ⟨rfl, rfl⟩)
        | (refine Side.mk ?_ ?_; · (simp; done))
        | fail
        )
    all_goals (conv => whnf)
    refine RetA.pub 0 rfl (ints_noLoc _) (RetA.data rfl ⟨?_, rfl⟩)
    show AV.dslice (List.take (o.length * 1) (List.drop 0 (ints (srt o)))) o.length none = _
    have := ints_take (srt o)
    rw [srt_len] at this
    rw [List.drop_zero, this, srt_len]
end Go.Proofs

namespace Go.Proofs
open Go Go.Eng
set_option maxRecDepth 100000
set_option maxHeartbeats 8000000
def L17a (l : List Ev) (lc : Option Nat) (o : List Int) (oc : Option Nat) (m : Nat) (fr : Fr) (H : Heap) : Prop := ∃ i : Nat, i ≤ l.length ∧ m = l.length - i ∧ fr = [(0, .dslice (evs l) l.length lc), (1, .dslice (ints o) o.length oc), (5, .dslice (ints (rng l.length)) l.length none), (17, .dslice (ints (rng l.length)) l.length none), (18, I l.length), (19, I i)] ∧ H = Heap.nil
def L17 (n : Nat) (o : List Int) (oc : Option Nat) (D : List Nat) (m : Nat) (fr : Fr) (H : Heap) : Prop := ∃ k : Nat, k ≤ o.length ∧ m = o.length - k ∧ (∀ p, p < k → ∀ j, (D[o[p]!.toNat]!).testBit j = true → (dn o p).testBit j = true) ∧
  fr = [(8, slc 0 n), (10, .ptr 1 0), (38, .dslice (ints o) o.length oc), (39, I o.length), (40, I k)] ∧ H = ⟨2, [(0, .cells (sets D)), (1, .cells (sets [dn o k]))]⟩
def L17w (n : Nat) (o : List Int) (oc : Option Nat) (D : List Nat) (k : Nat) (m : Nat) (fr : Fr) (H : Heap) : Prop := ∃ i : Nat, i ≤ 7 ∧ m = 7 - i ∧ (0 < i → ∀ j, (D[o[k]!.toNat]!).testBit j = true → (dn o k).testBit j = true) ∧
  fr = [(8, slc 0 n), (10, .ptr 1 0), (12, I o[k]!), (38, .dslice (ints o) o.length oc), (39, I o.length), (40, I k), (44, I i)] ∧ H = ⟨2, [(0, .cells (sets D)), (1, .cells (sets [dn o k]))]⟩
theorem c17 (l : List Ev) (lc : Option Nat) (o : List Int) (oc : Option Nat) (hl : l.length ≤ 60) (hok : ∀ i (h : i < l.length), l[i].ok) (hP : PermP o l.length) :
    CallA Try.prog 17 [.dslice (evs l) l.length lc, .dslice (ints o) o.length oc] Heap.nil fun v H' => v = .bool (legB (ds l l.length) o) ∧ H' = Heap.nil := by
  have dS : ∀ l, dataB (.cells (sets l)) := fun l c hc => sets_noLoc l c hc
  have hoL : o.length = l.length := hP.1
  have h35 := c35 o oc
  have h34 := c34 o oc (by rw [hP.1]; omega)
  rw [srt_rng hP] at h34
  rw [rng_len] at h34
  have h30 := c30 l lc hl hok
  have hD := ds_lt l l.length (by omega)
  have lD := ds_len l l.length
  have hdn := fun k hk => dn_lt hP hl k hk
  generalize ds l l.length = D at *
  generalize ws l l.length = W at *
  refine callA_of ok17 (Nat.le_of_ble_eq_true rfl) ?_
  repeat' ((conv => whnf); first
      | refine Branch.ofT rfl ?_
      | refine Branch.ofF rfl ?_
      | refine Branch.dec (fun h => ?_) (fun h => ?_)
      | refine Branch.negdec (fun h => ?_) (fun h => ?_)
      | refine Branch.neg (fun h => ?_) (fun h => ?_)
      | refine Branch.mk (fun h => ?_) (fun h => ?_)
      | (refine Side.mk ?_ ?_; · first | omega | decide)
      | (refine SideD.mk ?_ ?_; · first | omega | decide)
      | refine ⟨_, Nat.lt_succ_self _, To.refl (.inl ⟨rfl, ?_⟩)⟩
      | refine CallA.pure h35 rfl rfl ?_
      | refine CallA.pure h34 rfl rfl ?_
      | (refine Side.mk ?_ ?_; · (simp; done))
      | fail
      )
  all_goals (conv => whnf)
  refine ⟨L17a l lc o oc, l.length, To.gc [] [0, 1, 5, 17, 18, 19] rfl trivial ⟨0, by omega, by omega, rfl, rfl⟩, ?_⟩
  rintro m fr H ⟨i, hi, rfl, rfl, rfl⟩
  by_cases hil : i < l.length
  · have hin : i < (rng l.length).length := by rw [rng_len]; exact hil
    have hg := rng_get l.length i hin
    repeat' ((conv => whnf); first
        | refine Branch.ofT rfl ?_
        | refine Branch.ofF rfl ?_
        | refine Branch.ofT (decide_eq_true (by omega)) ?_
        | refine Branch.ofF (by simp [hg]) ?_
        | refine Branch.dec (fun h => ?_) (fun h => ?_)
        | refine Branch.negdec (fun h => ?_) (fun h => ?_)
        | refine Branch.neg (fun h => ?_) (fun h => ?_)
        | refine Branch.mk (fun h => ?_) (fun h => ?_)
        | (refine Side.mk ?_ ?_; · first | omega | decide)
        | (refine SideD.mk ?_ ?_; · first | omega | decide)
        | refine ⟨_, Nat.lt_succ_self _, To.refl (.inl ⟨rfl, ?_⟩)⟩
        | refine nth_in hin (by omega) ?_
        | (refine Side.mk ?_ ?_; · (simp; done))
        | fail
        )
    all_goals (conv => whnf)
    exact ⟨l.length - (i + 1), by omega, To.gc [] [0, 1, 5, 17, 18, 19] rfl trivial ⟨i + 1, by omega, rfl, rfl, rfl⟩⟩
  · have : i = l.length := by omega
    subst this
    repeat' ((conv => whnf); first
        | refine Branch.ofT rfl ?_
        | refine Branch.ofF rfl ?_
        | refine Branch.ofF (decide_eq_false (by omega)) ?_
        | refine Branch.ofF (by simp) ?_
        | refine Branch.dec (fun h => ?_) (fun h => ?_)
        | refine Branch.negdec (fun h => ?_) (fun h => ?_)
        | refine Branch.neg (fun h => ?_) (fun h => ?_)
        | refine Branch.mk (fun h => ?_) (fun h => ?_)
        | (refine Side.mk ?_ ?_; · first | omega | decide)
        | (refine SideD.mk ?_ ?_; · first | omega | decide)
        | refine ⟨_, Nat.lt_succ_self _, To.refl (.inl ⟨rfl, ?_⟩)⟩
        | (refine CallA.mono h30 ?_; rintro _ _ ⟨rfl, rfl⟩)
        | (refine Side.mk ?_ ?_; · (simp; done))
        | fail
        )
    all_goals (conv => whnf)
    refine ⟨L17 l.length o oc D, o.length, To.gc [(0, true), (2, true)] [8, 10, 38, 39, 40] rfl ⟨dS _, dS [0], trivial⟩ ⟨0, by omega, by omega, fun p hp => absurd hp (by omega), rfl, rfl⟩, ?_⟩
    rintro m fr H ⟨k, hk, rfl, hI, rfl, rfl⟩
    by_cases hkl : k < o.length
    · have hob := hP.2.1 k hkl
      have go : o[k]! = o[k] := getElem!_pos o k hkl
      have hx : o[k].toNat < D.length := by omega
      have hz : ((o[k].toNat : Nat) : Int) = o[k] := by omega
      have hdk := hdn k (by rw [← hP.1]; omega)
      repeat' ((conv => whnf); first
          | refine Branch.ofT rfl ?_
          | refine Branch.ofF rfl ?_
          | refine Branch.ofT (decide_eq_true (by omega)) ?_
          | refine Branch.dec (fun h => ?_) (fun h => ?_)
          | refine Branch.negdec (fun h => ?_) (fun h => ?_)
          | refine Branch.neg (fun h => ?_) (fun h => ?_)
          | refine Branch.mk (fun h => ?_) (fun h => ?_)
          | (refine Side.mk ?_ ?_; · first | omega | decide)
          | (refine SideD.mk ?_ ?_; · first | omega | decide)
          | refine ⟨_, Nat.lt_succ_self _, To.refl (.inl ⟨rfl, ?_⟩)⟩
          | refine nth_in hkl (by omega) ?_
          | (refine Side.mk ?_ ?_; · (simp; done))
          | fail
          )
      all_goals (conv => whnf)
      refine ⟨L17w l.length o oc D k, 7, To.gc [(0, true), (1, true)] [8, 10, 12, 38, 39, 40, 44] rfl ⟨dS _, dS [_], trivial⟩ ⟨0, by omega, rfl, fun h => absurd h (by omega), by rw [go]; rfl, rfl⟩, ?_⟩
      rintro m fr H ⟨i, hi, rfl, hW, rfl, rfl⟩
      have gD : D[o[k]!.toNat]! = D[o[k].toNat] := by rw [go, getElem!_pos D o[k].toNat hx]
      have bD := hD _ (List.getElem_mem hx)
      have hbit := uandn_bit bD hdk
      rw [gD] at hW
      rw [go]
      by_cases hi7 : i < 7
      · by_cases h0 : i = 0
        · subst h0
          by_cases hs : ∀ j, (D[o[k].toNat]).testBit j = true → (dn o k).testBit j = true
          · have e0 := hbit.2 hs
            repeat' ((conv => whnf); first
                | refine Branch.ofT rfl ?_
                | refine Branch.ofF rfl ?_
                | refine Branch.ofT (decide_eq_true (by omega)) ?_
                | (refine Branch.ofF (by rw [decide_eq_true e0]; rfl) ?_)
                | refine Branch.dec (fun h => ?_) (fun h => ?_)
                | refine Branch.negdec (fun h => ?_) (fun h => ?_)
                | refine Branch.neg (fun h => ?_) (fun h => ?_)
                | refine Branch.mk (fun h => ?_) (fun h => ?_)
                | (refine Side.mk ?_ ?_; · first | omega | decide)
                | (refine SideD.mk ?_ ?_; · first | omega | decide)
                | refine ⟨_, Nat.lt_succ_self _, To.refl (.inl ⟨rfl, ?_⟩)⟩
                | refine nth_set hx (by omega) ?_
                | refine nth_set (l := [dn o k]) (k := 0) (by simp) (by omega) ?_
                | (refine Side.mk ?_ ?_; · (simp; done))
                | fail
                )
            all_goals (conv => whnf)
            exact ⟨6, by omega, To.gc [(0, true), (1, true)] [8, 10, 12, 38, 39, 40, 44] rfl ⟨dS _, dS [_], trivial⟩ ⟨1, by omega, rfl, fun _ => by rw [gD]; exact hs, by rw [go]; rfl, rfl⟩⟩
          · have e0 : ¬ _ := fun q => hs (hbit.1 q)
            repeat' ((conv => whnf); first
                | refine Branch.ofT rfl ?_
                | refine Branch.ofF rfl ?_
                | refine Branch.ofT (decide_eq_true (by omega)) ?_
                | (refine Branch.ofT (by rw [decide_eq_false e0]; rfl) ?_)
                | refine Branch.dec (fun h => ?_) (fun h => ?_)
                | refine Branch.negdec (fun h => ?_) (fun h => ?_)
                | refine Branch.neg (fun h => ?_) (fun h => ?_)
                | refine Branch.mk (fun h => ?_) (fun h => ?_)
                | (refine Side.mk ?_ ?_; · first | omega | decide)
                | (refine SideD.mk ?_ ?_; · first | omega | decide)
                | refine ⟨_, Nat.lt_succ_self _, To.refl (.inl ⟨rfl, ?_⟩)⟩
                | refine nth_set hx (by omega) ?_
                | refine nth_set (l := [dn o k]) (k := 0) (by simp) (by omega) ?_
                | (refine Side.mk ?_ ?_; · (simp; done))
                | fail
                )
            all_goals (conv => whnf)
            refine RetA.data rfl ⟨?_, rfl⟩
            rw [legB_f (fun q => hs (by have := q k hkl; rw [gD] at this; exact this))]; rfl
        · have e0 := (uandn_bit (a := 0) (b := 0) (by decide) (by decide)).2 (fun j hj => hj)
          repeat' ((conv => whnf); first
              | refine Branch.ofT rfl ?_
              | refine Branch.ofF rfl ?_
              | refine Branch.ofT (decide_eq_true (by omega)) ?_
              | (refine Branch.ofF (by rw [decide_eq_true e0]; rfl) ?_)
              | refine Branch.dec (fun h => ?_) (fun h => ?_)
              | refine Branch.negdec (fun h => ?_) (fun h => ?_)
              | refine Branch.neg (fun h => ?_) (fun h => ?_)
              | refine Branch.mk (fun h => ?_) (fun h => ?_)
              | (refine Side.mk ?_ ?_; · first | omega | decide)
              | (refine SideD.mk ?_ ?_; · first | omega | decide)
              | refine ⟨_, Nat.lt_succ_self _, To.refl (.inl ⟨rfl, ?_⟩)⟩
              | refine nth_zero hx (i := i) (by omega) hi7 (by omega) ?_
              | refine nth_zero (l := [dn o k]) (k := 0) (i := i) (by simp) (by omega) hi7 (by omega) ?_
              | (refine Side.mk ?_ ?_; · (simp; done))
              | fail
              )
          all_goals (conv => whnf)
          exact ⟨7 - (i + 1), by omega, To.gc [(0, true), (1, true)] [8, 10, 12, 38, 39, 40, 44] rfl ⟨dS _, dS [_], trivial⟩ ⟨i + 1, by omega, rfl, fun _ => by rw [gD]; exact hW (by omega), by rw [go]; rfl, rfl⟩⟩
      · have : i = 7 := by omega
        subst this
        have h36 := c36 [dn o k] 0 o[k].toNat (by simp) (by simp) hdk (by omega)
        rw [hz] at h36
        repeat' ((conv => whnf); first
            | refine Branch.ofT rfl ?_
            | refine Branch.ofF rfl ?_
            | refine Branch.ofF (decide_eq_false (by omega)) ?_
            | refine Branch.dec (fun h => ?_) (fun h => ?_)
            | refine Branch.negdec (fun h => ?_) (fun h => ?_)
            | refine Branch.neg (fun h => ?_) (fun h => ?_)
            | refine Branch.mk (fun h => ?_) (fun h => ?_)
            | (refine Side.mk ?_ ?_; · first | omega | decide)
            | (refine SideD.mk ?_ ?_; · first | omega | decide)
            | refine ⟨_, Nat.lt_succ_self _, To.refl (.inl ⟨rfl, ?_⟩)⟩
            | (refine CallA.lend [(1, true)] h36 rfl ⟨dS [_], trivial⟩ rfl ?_; rintro c H' ⟨rfl, rfl⟩; refine ⟨⟨dS _, trivial⟩, ?_⟩)
            | (refine Side.mk ?_ ?_; · (simp; done))
            | fail
            )
        all_goals (conv => whnf)
        refine ⟨o.length - (k + 1), by omega, To.gc [(0, true), (1, true)] [8, 10, 38, 39, 40] rfl ⟨dS _, dS _, trivial⟩ ⟨k + 1, by omega, rfl, fun p hp => ?_, rfl, ?_⟩⟩
        · by_cases hpk : p < k
          · exact hI p hpk
          · have : p = k := by omega
            subst this
            rw [gD]; exact hW (by omega)
        · rw [dn, go]; rfl
    · have : k = o.length := by omega
      subst this
      repeat' ((conv => whnf); first
          | refine Branch.ofT rfl ?_
          | refine Branch.ofF rfl ?_
          | refine Branch.ofF (decide_eq_false (by omega)) ?_
          | refine Branch.dec (fun h => ?_) (fun h => ?_)
          | refine Branch.negdec (fun h => ?_) (fun h => ?_)
          | refine Branch.neg (fun h => ?_) (fun h => ?_)
          | refine Branch.mk (fun h => ?_) (fun h => ?_)
          | (refine Side.mk ?_ ?_; · first | omega | decide)
          | (refine SideD.mk ?_ ?_; · first | omega | decide)
          | refine ⟨_, Nat.lt_succ_self _, To.refl (.inl ⟨rfl, ?_⟩)⟩
          | (refine Side.mk ?_ ?_; · (simp; done))
          | fail
          )
      all_goals (conv => whnf)
      refine RetA.data rfl ⟨?_, rfl⟩
      rw [legB_t hI]; rfl
end Go.Proofs

namespace Go.Proofs
open Go Go.Eng
set_option maxRecDepth 100000
set_option maxHeartbeats 8000000
/-- The places of the first k of an order. -/
def plc (o : List Int) (n : Nat) : Nat → List Int
  | 0 => List.replicate n 0
  | k + 1 => (plc o n k).set o[k]!.toNat (k : Int)
theorem plc_len (o : List Int) (n : Nat) : ∀ k, (plc o n k).length = n
  | 0 => by simp [plc]
  | k + 1 => by simp [plc, plc_len o n k]
def kp1 (l : List Ev) (P : List Int) (i k : Nat) : Prop := l[i]!.cpu = l[k]!.cpu → P[k]! ≤ P[i]!
def kp2 (P : List Int) (E : List (Int × Int)) (but : Int) (j : Nat) : Prop := (j : Int) ≠ but → P[E[j]!.1.toNat]! ≤ P[E[j]!.2.toNat]!
def kpP (l : List Ev) (P : List Int) (E : List (Int × Int)) (but : Int) : Prop := (∀ i, i < l.length → ∀ k, k < i → kp1 l P i k) ∧ ∀ j, j < E.length → kp2 P E but j
open Classical in
noncomputable def kpB (l : List Ev) (P : List Int) (E : List (Int × Int)) (but : Int) : Bool := decide (kpP l P E but)
theorem kpB_t {l : List Ev} {P : List Int} {E : List (Int × Int)} {but : Int} (h : kpP l P E but) : kpB l P E but = true := by unfold kpB; simpa using h
theorem kpB_f {l : List Ev} {P : List Int} {E : List (Int × Int)} {but : Int} (h : ¬ kpP l P E but) : kpB l P E but = false := by unfold kpB; simpa using h
def edOk (E : List (Int × Int)) (n : Nat) : Prop := ∀ j (h : j < E.length), 0 ≤ E[j].1 ∧ E[j].1 < E[j].2 ∧ E[j].2 < n
theorem mk8 {k : Nat} (h : k ≤ 1000) : 0 ≤ (k : Int) ∧ ((8 : Nat) : Int) * (k : Int) ≤ 281474976710656 ∧ (k : Int) ≤ 9223372036854775807 := by omega
def L18a (l : List Ev) (lc : Option Nat) (o : List Int) (oc : Option Nat) (E : List (Int × Int)) (but : Int) (m : Nat) (fr : Fr) (H : Heap) : Prop := ∃ i : Nat, i ≤ o.length ∧ m = o.length - i ∧ fr = [(0, .dslice (evs l) l.length lc), (1, .dslice (ints o) o.length oc), (2, dV E), (3, I but), (9, .slice 0 0 l.length (some l.length) 1), (10, I i)] ∧ H = ⟨1, [(0, .cells (ints (plc o l.length i)))]⟩
def L18b (l : List Ev) (lc : Option Nat) (P : List Int) (E : List (Int × Int)) (but : Int) (m : Nat) (fr : Fr) (H : Heap) : Prop := ∃ i : Nat, i ≤ l.length ∧ m = l.length - i ∧ (∀ i', i' < i → ∀ k, k < i' → kp1 l P i' k) ∧ fr = [(0, .dslice (evs l) l.length lc), (2, dV E), (3, I but), (9, .slice 0 0 l.length (some l.length) 1), (11, I i)] ∧ H = ⟨1, [(0, .cells (ints P))]⟩
def L18c (l : List Ev) (lc : Option Nat) (P : List Int) (E : List (Int × Int)) (but : Int) (i : Nat) (m : Nat) (fr : Fr) (H : Heap) : Prop := ∃ k : Nat, k ≤ i ∧ m = i - k ∧ (∀ k', k' < k → kp1 l P i k') ∧ fr = [(0, .dslice (evs l) l.length lc), (2, dV E), (3, I but), (9, .slice 0 0 l.length (some l.length) 1), (11, I i), (12, I k)] ∧ H = ⟨1, [(0, .cells (ints P))]⟩
def L18d (l : List Ev) (lc : Option Nat) (P : List Int) (E : List (Int × Int)) (but : Int) (m : Nat) (fr : Fr) (H : Heap) : Prop := ∃ j : Nat, j ≤ E.length ∧ m = E.length - j ∧ (∀ j', j' < j → kp2 P E but j') ∧ fr = [(0, .dslice (evs l) l.length lc), (2, dV E), (3, I but), (9, .slice 0 0 l.length (some l.length) 1), (13, I j)] ∧ H = ⟨1, [(0, .cells (ints P))]⟩
theorem c18 (l : List Ev) (lc : Option Nat) (o : List Int) (oc : Option Nat) (E : List (Int × Int)) (but : Int) (hl : l.length ≤ 60) (hP : PermP o l.length) (hE : edOk E l.length) (hEl : E.length ≤ 5000) :
    CallA Try.prog 18 [.dslice (evs l) l.length lc, .dslice (ints o) o.length oc, dV E, I but] Heap.nil fun v H' => v = .bool (kpB l (plc o l.length l.length) E but) ∧ H' = Heap.nil := by
  have dI : ∀ o, dataB (.cells (ints o)) := fun o c hc => ints_noLoc o c hc
  have hoL : o.length = l.length := hP.1
  have hpl := plc_len o l.length
  refine callA_of ok18 (Nat.le_of_ble_eq_true rfl) ?_
  repeat' ((conv => whnf); first
      | refine Branch.ofT rfl ?_
      | refine Branch.ofF rfl ?_
      | refine Branch.dec (fun h => ?_) (fun h => ?_)
      | refine Branch.negdec (fun h => ?_) (fun h => ?_)
      | refine Branch.neg (fun h => ?_) (fun h => ?_)
      | refine Branch.mk (fun h => ?_) (fun h => ?_)
      | (refine Side.mk ?_ ?_; · first | omega | decide)
      | (refine SideD.mk ?_ ?_; · first | omega | decide)
      | refine ⟨_, Nat.lt_succ_self _, To.refl (.inl ⟨rfl, ?_⟩)⟩
      | refine Side.mk (mk8 (by omega)) ?_
      | (refine Side.mk ?_ ?_; · (simp; done))
      | fail
      )
  all_goals (conv => whnf)
  rw [show rep [AV.int .i64 0] (l.length : Int).toNat = ints (plc o l.length 0) from rep_in l.length]
  refine ⟨L18a l lc o oc E but, o.length, To.gc [(0, true)] [0, 1, 2, 3, 9, 10] rfl ⟨dI _, trivial⟩ ⟨0, by omega, by omega, ?_, rfl⟩, ?_⟩
  · cases E <;> rfl
  rintro m fr H ⟨i, hi, rfl, rfl, rfl⟩
  by_cases hil : i < o.length
  · have hob := hP.2.1 i hil
    have go : o[i]! = o[i] := getElem!_pos o i hil
    have hpi := hpl i
    have hs : plc o l.length (i + 1) = (plc o l.length i).set o[i].toNat (i : Int) := by rw [plc, go]
    generalize plc o l.length i = P at *
    repeat' ((conv => whnf); first
        | refine Branch.ofT rfl ?_
        | refine Branch.ofF rfl ?_
        | refine Branch.ofT (decide_eq_true (by omega)) ?_
        | refine Branch.dec (fun h => ?_) (fun h => ?_)
        | refine Branch.negdec (fun h => ?_) (fun h => ?_)
        | refine Branch.neg (fun h => ?_) (fun h => ?_)
        | refine Branch.mk (fun h => ?_) (fun h => ?_)
        | (refine Side.mk ?_ ?_; · first | omega | decide)
        | (refine SideD.mk ?_ ?_; · first | omega | decide)
        | refine ⟨_, Nat.lt_succ_self _, To.refl (.inl ⟨rfl, ?_⟩)⟩
        | refine nth_in hil (by omega) ?_
        | refine lput_in (o := P) (i := o[i].toNat) (by omega) (by omega) ?_
        | (refine Side.mk ?_ ?_; · (simp; done))
        | fail
        )
    all_goals (conv => whnf)
    refine ⟨o.length - (i + 1), by omega, To.gc [(0, true)] [0, 1, 2, 3, 9, 10] rfl ⟨dI _, trivial⟩ ⟨i + 1, by omega, rfl, ?_, by rw [hs]; rfl⟩⟩
    cases E <;> rfl
  · have : i = l.length := by omega
    subst this
    have hPl := hpl l.length
    generalize plc o l.length l.length = P at *
    repeat' ((conv => whnf); first
        | refine Branch.ofT rfl ?_
        | refine Branch.ofF rfl ?_
        | refine Branch.ofF (decide_eq_false (by omega)) ?_
        | refine Branch.dec (fun h => ?_) (fun h => ?_)
        | refine Branch.negdec (fun h => ?_) (fun h => ?_)
        | refine Branch.neg (fun h => ?_) (fun h => ?_)
        | refine Branch.mk (fun h => ?_) (fun h => ?_)
        | (refine Side.mk ?_ ?_; · first | omega | decide)
        | (refine SideD.mk ?_ ?_; · first | omega | decide)
        | refine ⟨_, Nat.lt_succ_self _, To.refl (.inl ⟨rfl, ?_⟩)⟩
        | (refine Side.mk ?_ ?_; · (simp; done))
        | fail
        )
    all_goals (conv => whnf)
    refine ⟨L18b l lc P E but, l.length, To.gc [(0, true)] [0, 2, 3, 9, 11] rfl ⟨dI _, trivial⟩ ⟨0, by omega, by omega, fun i' hi' => absurd hi' (by omega), ?_, rfl⟩, ?_⟩
    · cases E <;> rfl
    rintro m fr H ⟨i, hi, rfl, hI, rfl, rfl⟩
    by_cases hil2 : i < l.length
    · have hit := evs_at i l hil2
      have gi : l[i]! = l[i] := getElem!_pos l i hil2
      repeat' ((conv => whnf); first
          | refine Branch.ofT rfl ?_
          | refine Branch.ofF rfl ?_
          | refine Branch.ofT (decide_eq_true (by omega)) ?_
          | refine Branch.dec (fun h => ?_) (fun h => ?_)
          | refine Branch.negdec (fun h => ?_) (fun h => ?_)
          | refine Branch.neg (fun h => ?_) (fun h => ?_)
          | refine Branch.mk (fun h => ?_) (fun h => ?_)
          | (refine Side.mk ?_ ?_; · first | omega | decide)
          | (refine SideD.mk ?_ ?_; · first | omega | decide)
          | refine ⟨_, Nat.lt_succ_self _, To.refl (.inl ⟨rfl, ?_⟩)⟩
          | (refine Side.mk ?_ ?_; · (simp; done))
          | fail
          )
      all_goals (conv => whnf)
      refine ⟨L18c l lc P E but i, i, To.gc [(0, true)] [0, 2, 3, 9, 11, 12] rfl ⟨dI _, trivial⟩ ⟨0, by omega, by omega, fun k' hk' => absurd hk' (by omega), ?_, rfl⟩, ?_⟩
      · cases E <;> rfl
      rintro m fr H ⟨k, hk, rfl, hJ, rfl, rfl⟩
      by_cases hki : k < i
      · have hkt := evs_at k l (by omega)
        have gk : l[k]! = l[k] := getElem!_pos l k (by omega)
        have gPi : P[i]! = P[i]'(by omega) := getElem!_pos P i (by omega)
        have gPk : P[k]! = P[k]'(by omega) := getElem!_pos P k (by omega)
        by_cases hc : l[i].cpu = l[k].cpu
        · by_cases hp : P[k]'(by omega) ≤ P[i]'(by omega)
          · repeat' ((conv => whnf); first
                | refine Branch.ofT rfl ?_
                | refine Branch.ofF rfl ?_
                | refine Branch.ofT (decide_eq_true (by omega)) ?_
                | refine Branch.ofT (decide_eq_true hc) ?_
                | refine Branch.ofF (decide_eq_false (by omega)) ?_
                | refine Branch.dec (fun h => ?_) (fun h => ?_)
                | refine Branch.negdec (fun h => ?_) (fun h => ?_)
                | refine Branch.neg (fun h => ?_) (fun h => ?_)
                | refine Branch.mk (fun h => ?_) (fun h => ?_)
                | (refine Side.mk ?_ ?_; · first | omega | decide)
                | (refine SideD.mk ?_ ?_; · first | omega | decide)
                | refine ⟨_, Nat.lt_succ_self _, To.refl (.inl ⟨rfl, ?_⟩)⟩
                | refine nt0 hit ?_
                | refine nt0 hkt ?_
                | refine nth_in (o := P) (i := k) (by omega) (by omega) ?_
                | refine nth_in (o := P) (i := i) (by omega) (by omega) ?_
                | (refine Side.mk ?_ ?_; · (simp; done))
                | fail
                )
            all_goals (conv => whnf)
            refine ⟨i - (k + 1), by omega, To.gc [(0, true)] [0, 2, 3, 9, 11, 12] rfl ⟨dI _, trivial⟩ ⟨k + 1, by omega, rfl, fun k' hk' => ?_, ?_, rfl⟩⟩
            · by_cases e : k' < k
              · exact hJ k' e
              · have : k' = k := by omega
                subst this
                intro _; rw [gPi, gPk]; exact hp
            · cases E <;> rfl
          · repeat' ((conv => whnf); first
                | refine Branch.ofT rfl ?_
                | refine Branch.ofF rfl ?_
                | refine Branch.ofT (decide_eq_true hc) ?_
                | refine Branch.ofT (decide_eq_true (by omega)) ?_
                | refine Branch.dec (fun h => ?_) (fun h => ?_)
                | refine Branch.negdec (fun h => ?_) (fun h => ?_)
                | refine Branch.neg (fun h => ?_) (fun h => ?_)
                | refine Branch.mk (fun h => ?_) (fun h => ?_)
                | (refine Side.mk ?_ ?_; · first | omega | decide)
                | (refine SideD.mk ?_ ?_; · first | omega | decide)
                | refine ⟨_, Nat.lt_succ_self _, To.refl (.inl ⟨rfl, ?_⟩)⟩
                | refine nt0 hit ?_
                | refine nt0 hkt ?_
                | refine nth_in (o := P) (i := k) (by omega) (by omega) ?_
                | refine nth_in (o := P) (i := i) (by omega) (by omega) ?_
                | (refine Side.mk ?_ ?_; · (simp; done))
                | fail
                )
            all_goals (conv => whnf)
            refine RetA.data rfl ⟨?_, rfl⟩
            rw [kpB_f (fun q => hp (by have := q.1 i hil2 k hki (by rw [gi, gk]; exact hc); rw [gPi, gPk] at this; exact this))]; rfl
        · repeat' ((conv => whnf); first
              | refine Branch.ofT rfl ?_
              | refine Branch.ofF rfl ?_
              | refine Branch.ofT (decide_eq_true (by omega)) ?_
              | refine Branch.ofF (decide_eq_false hc) ?_
              | refine Branch.dec (fun h => ?_) (fun h => ?_)
              | refine Branch.negdec (fun h => ?_) (fun h => ?_)
              | refine Branch.neg (fun h => ?_) (fun h => ?_)
              | refine Branch.mk (fun h => ?_) (fun h => ?_)
              | (refine Side.mk ?_ ?_; · first | omega | decide)
              | (refine SideD.mk ?_ ?_; · first | omega | decide)
              | refine ⟨_, Nat.lt_succ_self _, To.refl (.inl ⟨rfl, ?_⟩)⟩
              | refine nt0 hit ?_
              | refine nt0 hkt ?_
              | (refine Side.mk ?_ ?_; · (simp; done))
              | fail
              )
          all_goals (conv => whnf)
          refine ⟨i - (k + 1), by omega, To.gc [(0, true)] [0, 2, 3, 9, 11, 12] rfl ⟨dI _, trivial⟩ ⟨k + 1, by omega, rfl, fun k' hk' => ?_, ?_, rfl⟩⟩
          · by_cases e : k' < k
            · exact hJ k' e
            · have : k' = k := by omega
              subst this
              intro e; rw [gi, gk] at e; exact absurd e hc
          · cases E <;> rfl
      · have : k = i := by omega
        subst this
        repeat' ((conv => whnf); first
            | refine Branch.ofT rfl ?_
            | refine Branch.ofF rfl ?_
            | refine Branch.ofF (decide_eq_false (by omega)) ?_
            | refine Branch.dec (fun h => ?_) (fun h => ?_)
            | refine Branch.negdec (fun h => ?_) (fun h => ?_)
            | refine Branch.neg (fun h => ?_) (fun h => ?_)
            | refine Branch.mk (fun h => ?_) (fun h => ?_)
            | (refine Side.mk ?_ ?_; · first | omega | decide)
            | (refine SideD.mk ?_ ?_; · first | omega | decide)
            | refine ⟨_, Nat.lt_succ_self _, To.refl (.inl ⟨rfl, ?_⟩)⟩
            | (refine Side.mk ?_ ?_; · (simp; done))
            | fail
            )
        all_goals (conv => whnf)
        refine ⟨l.length - (k + 1), by omega, To.gc [(0, true)] [0, 2, 3, 9, 11] rfl ⟨dI _, trivial⟩ ⟨k + 1, by omega, rfl, fun i' hi' => ?_, ?_, rfl⟩⟩
        · by_cases e : i' < k
          · exact hI i' e
          · have : i' = k := by omega
            subst this; exact hJ
        · cases E <;> rfl
    · have : i = l.length := by omega
      subst this
      repeat' ((conv => whnf); first
          | refine Branch.ofT rfl ?_
          | refine Branch.ofF rfl ?_
          | refine Branch.ofF (decide_eq_false (by omega)) ?_
          | refine Branch.dec (fun h => ?_) (fun h => ?_)
          | refine Branch.negdec (fun h => ?_) (fun h => ?_)
          | refine Branch.neg (fun h => ?_) (fun h => ?_)
          | refine Branch.mk (fun h => ?_) (fun h => ?_)
          | (refine Side.mk ?_ ?_; · first | omega | decide)
          | (refine SideD.mk ?_ ?_; · first | omega | decide)
          | refine ⟨_, Nat.lt_succ_self _, To.refl (.inl ⟨rfl, ?_⟩)⟩
          | (refine Side.mk ?_ ?_; · (simp; done))
          | fail
          )
      all_goals (conv => whnf)
      refine ⟨L18d l lc P E but, E.length, To.gc [(0, true)] [0, 2, 3, 9, 13] rfl ⟨dI _, trivial⟩ ⟨0, by omega, by omega, fun j' hj' => absurd hj' (by omega), ?_, rfl⟩, ?_⟩
      · cases E <;> rfl
      rintro m fr H ⟨j, hj, rfl, hJ, rfl, rfl⟩
      cases E with
      | nil =>
        have : j = 0 := by simpa using hj
        subst this
        repeat' ((conv => whnf); first
            | refine Branch.ofT rfl ?_
            | refine Branch.ofF rfl ?_
            | refine Branch.ofF (decide_eq_false (by simp)) ?_
            | refine Branch.dec (fun h => ?_) (fun h => ?_)
            | refine Branch.negdec (fun h => ?_) (fun h => ?_)
            | refine Branch.neg (fun h => ?_) (fun h => ?_)
            | refine Branch.mk (fun h => ?_) (fun h => ?_)
            | (refine Side.mk ?_ ?_; · first | omega | decide)
            | (refine SideD.mk ?_ ?_; · first | omega | decide)
            | refine ⟨_, Nat.lt_succ_self _, To.refl (.inl ⟨rfl, ?_⟩)⟩
            | (refine Side.mk ?_ ?_; · (simp; done))
            | fail
            )
        all_goals (conv => whnf)
        refine RetA.data rfl ⟨?_, rfl⟩
        rw [kpB_t (E := []) ⟨hI, hJ⟩]; rfl
      | cons e r =>
        have hdv : dV (e :: r) = .dslice (ecs (e :: r)) (e :: r).length none := rfl
        generalize e :: r = E at *
        rw [hdv]
        by_cases hjl : j < E.length
        · have he := hE j hjl
          have ge : E[j]! = E[j] := getElem!_pos E j hjl
          have ga : P[E[j]!.1.toNat]! = P[E[j].1.toNat]'(by omega) := by rw [ge]; exact getElem!_pos P _ (by omega)
          have gb : P[E[j]!.2.toNat]! = P[E[j].2.toNat]'(by omega) := by rw [ge]; exact getElem!_pos P _ (by omega)
          by_cases hb : (j : Int) = but
          · repeat' ((conv => whnf); first
                | refine Branch.ofT rfl ?_
                | refine Branch.ofF rfl ?_
                | refine Branch.ofT (decide_eq_true (by omega)) ?_
                | refine Branch.ofF (decide_eq_false (by omega)) ?_
                | refine Branch.ofF (by rw [decide_eq_true hb]; rfl) ?_
                | refine Branch.dec (fun h => ?_) (fun h => ?_)
                | refine Branch.negdec (fun h => ?_) (fun h => ?_)
                | refine Branch.neg (fun h => ?_) (fun h => ?_)
                | refine Branch.mk (fun h => ?_) (fun h => ?_)
                | (refine Side.mk ?_ ?_; · first | omega | decide)
                | (refine SideD.mk ?_ ?_; · first | omega | decide)
                | refine ⟨_, Nat.lt_succ_self _, To.refl (.inl ⟨rfl, ?_⟩)⟩
                | refine tke hjl (by omega) ?_
                | (refine Side.mk ?_ ?_; · (simp; done))
                | fail
                )
            all_goals (conv => whnf)
            refine ⟨E.length - (j + 1), by omega, To.gc [(0, true)] [0, 2, 3, 9, 13] rfl ⟨dI _, trivial⟩ ⟨j + 1, by omega, rfl, fun j' hj' => ?_, by rw [hdv]; rfl, rfl⟩⟩
            by_cases e : j' < j
            · exact hJ j' e
            · have : j' = j := by omega
              subst this; intro q; exact absurd hb q
          · by_cases hp : P[E[j].1.toNat]'(by omega) ≤ P[E[j].2.toNat]'(by omega)
            · repeat' ((conv => whnf); first
                  | refine Branch.ofT rfl ?_
                  | refine Branch.ofF rfl ?_
                  | refine Branch.ofT (decide_eq_true (by omega)) ?_
                  | refine Branch.ofT (by rw [decide_eq_false hb]; rfl) ?_
                  | refine Branch.ofF (decide_eq_false (by omega)) ?_
                  | refine Branch.dec (fun h => ?_) (fun h => ?_)
                  | refine Branch.negdec (fun h => ?_) (fun h => ?_)
                  | refine Branch.neg (fun h => ?_) (fun h => ?_)
                  | refine Branch.mk (fun h => ?_) (fun h => ?_)
                  | (refine Side.mk ?_ ?_; · first | omega | decide)
                  | (refine SideD.mk ?_ ?_; · first | omega | decide)
                  | refine ⟨_, Nat.lt_succ_self _, To.refl (.inl ⟨rfl, ?_⟩)⟩
                  | refine tke hjl (by omega) ?_
                  | refine nth_in (o := P) (i := E[j].1.toNat) (by omega) (by omega) ?_
                  | refine nth_in (o := P) (i := E[j].2.toNat) (by omega) (by omega) ?_
                  | (refine Side.mk ?_ ?_; · (simp; done))
                  | fail
                  )
              all_goals (conv => whnf)
              refine ⟨E.length - (j + 1), by omega, To.gc [(0, true)] [0, 2, 3, 9, 13] rfl ⟨dI _, trivial⟩ ⟨j + 1, by omega, rfl, fun j' hj' => ?_, by rw [hdv]; rfl, rfl⟩⟩
              by_cases e : j' < j
              · exact hJ j' e
              · have : j' = j := by omega
                subst this; intro _; rw [ga, gb]; exact hp
            · repeat' ((conv => whnf); first
                  | refine Branch.ofT rfl ?_
                  | refine Branch.ofF rfl ?_
                  | refine Branch.ofT (decide_eq_true (by omega)) ?_
                  | refine Branch.ofT (by rw [decide_eq_false hb]; rfl) ?_
                  | refine Branch.ofF (decide_eq_false (by omega)) ?_
                  | refine Branch.dec (fun h => ?_) (fun h => ?_)
                  | refine Branch.negdec (fun h => ?_) (fun h => ?_)
                  | refine Branch.neg (fun h => ?_) (fun h => ?_)
                  | refine Branch.mk (fun h => ?_) (fun h => ?_)
                  | (refine Side.mk ?_ ?_; · first | omega | decide)
                  | (refine SideD.mk ?_ ?_; · first | omega | decide)
                  | refine ⟨_, Nat.lt_succ_self _, To.refl (.inl ⟨rfl, ?_⟩)⟩
                  | refine tke hjl (by omega) ?_
                  | refine nth_in (o := P) (i := E[j].1.toNat) (by omega) (by omega) ?_
                  | refine nth_in (o := P) (i := E[j].2.toNat) (by omega) (by omega) ?_
                  | (refine Side.mk ?_ ?_; · (simp; done))
                  | fail
                  )
              all_goals (conv => whnf)
              refine RetA.data rfl ⟨?_, rfl⟩
              rw [kpB_f (fun q => hp (by have := q.2 j hjl hb; rw [ga, gb] at this; exact this))]; rfl
        · have : j = E.length := by omega
          subst this
          repeat' ((conv => whnf); first
              | refine Branch.ofT rfl ?_
              | refine Branch.ofF rfl ?_
              | refine Branch.ofF (decide_eq_false (by omega)) ?_
              | refine Branch.dec (fun h => ?_) (fun h => ?_)
              | refine Branch.negdec (fun h => ?_) (fun h => ?_)
              | refine Branch.neg (fun h => ?_) (fun h => ?_)
              | refine Branch.mk (fun h => ?_) (fun h => ?_)
              | (refine Side.mk ?_ ?_; · first | omega | decide)
              | (refine SideD.mk ?_ ?_; · first | omega | decide)
              | refine ⟨_, Nat.lt_succ_self _, To.refl (.inl ⟨rfl, ?_⟩)⟩
              | (refine Side.mk ?_ ?_; · (simp; done))
              | fail
              )
          all_goals (conv => whnf)
          refine RetA.data rfl ⟨?_, rfl⟩
          rw [kpB_t ⟨hI, hJ⟩]; rfl
end Go.Proofs

