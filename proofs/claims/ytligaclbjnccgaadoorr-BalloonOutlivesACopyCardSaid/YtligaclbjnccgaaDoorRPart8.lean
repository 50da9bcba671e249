/- Part of a proof about the given program: lemmas that the other parts use. -/
import Derived.Test.YtligaclbjnccgaaDoorRPart7

set_option linter.all false
set_option linter.unusedSimpArgs false
set_option linter.unusedVariables false
namespace Go.Proofs
open Go Go.Eng
set_option maxRecDepth 100000
set_option maxHeartbeats 4000000
/-! ### Get -/
abbrev Sec := List Nat × Bool
def secA (x : Sec) : List AV := x.1.map B ++ [.bool x.2]
structure OkX (S : List Sec) (n : Nat) : Prop where
  len : S.length = n
  sz : ∀ x ∈ S, x.1.length = 64 ∧ ∀ y ∈ x.1, y < 256
def chS (S : List Sec) : List (List AV) := S.map secA
theorem secA_len {x : Sec} (h : x.1.length = 64) : (secA x).length = 65 := by simp [secA, h]
theorem OkX.c {S : List Sec} {n : Nat} (h : OkX S n) : OkC n (chS S) := by
  refine ⟨by simp [chS, h.len], fun c hc => ?_⟩
  obtain ⟨x, hx, rfl⟩ := List.mem_map.1 hc
  refine ⟨secA_len (h.sz x hx).1, fun d hd => ?_⟩
  rcases List.mem_append.1 hd with hd | hd
  · exact dat_bs _ d hd
  · rw [List.mem_singleton.1 hd]; rfl
theorem flat_drop : ∀ {S : List Sec} {i : Nat} (h : i < S.length), (∀ x ∈ S, x.1.length = 64) → (chS S).flatten.drop (i * 65) = secA S[i] ++ (chS (S.drop (i + 1))).flatten
  | [], i, h, _ => by simp at h
  | x :: r, 0, _, _ => by simp [chS]
  | x :: r, i + 1, h, hl => by
    have h1 := secA_len (hl x (by simp))
    have e : (chS (x :: r)).flatten = secA x ++ (chS r).flatten := rfl
    rw [e, List.drop_append, List.drop_eq_nil_of_le (by omega), List.nil_append, h1, show (i + 1) * 65 - 65 = i * 65 by omega, flat_drop (by simpa using h) fun y hy => hl y (by simp [hy])]
    rfl
theorem ldBad {S : List Sec} {i off : Nat} {K : AV → Prop} (h : i < S.length) (hl : ∀ x ∈ S, x.1.length = 64) (e : off = i * 65 + 64) (hk : K (.bool S[i].2)) : nthK 0 ((chS S).flatten.drop off) K := by
  subst e
  rw [← List.drop_drop, flat_drop h hl]
  have h1 := hl S[i] (List.getElem_mem h)
  rw [List.drop_append_of_le_length (by rw [secA_len h1]; omega), secA, List.drop_append, List.drop_eq_nil_of_le (by simp [h1]), List.nil_append, List.length_map, h1]
  exact hk
theorem ldSec {S : List Sec} {i off : Nat} {K : List AV → Prop} (h : i < S.length) (hl : ∀ x ∈ S, x.1.length = 64) (e : off = i * 65) (hk : K (S[i].1.map B)) : takeK 64 ((chS S).flatten.drop off) K := by
  subst e
  have h1 := hl S[i] (List.getElem_mem h)
  rw [flat_drop h hl, takeK_eq _ _ _ (by simp [secA, h1]), List.take_append_of_le_length (by simp [secA, h1]), secA, List.take_append_of_le_length (by simp [h1]), List.take_of_length_le (by simp [h1])]
  exact hk
theorem eqB : ∀ {n : Nat} {ks : List Sc} {x y : List Nat} {K : Bool → Prop}, ks = List.replicate n (.i .u8) → x.length = n → y.length = n → K (decide (x = y)) → eqCells ks (x.map B) (y.map B) K
  | 0, ks, x, y, K, hk, hx, hy, h => by
    have := List.eq_nil_of_length_eq_zero hx
    have := List.eq_nil_of_length_eq_zero hy
    subst_vars
    exact h
  | n + 1, ks, [], y, K, hk, hx, hy, h => by simp at hx
  | n + 1, ks, a :: x, [], K, hk, hx, hy, h => by simp at hy
  | n + 1, ks, a :: x, b :: y, K, hk, hx, hy, h => by
    subst hk
    rw [List.replicate_succ]
    show eqCells (List.replicate n (.i .u8)) (x.map B) (y.map B) fun r => K (decide ((a : Int) = b) && r)
    refine eqB rfl (by simpa using hx) (by simpa using hy) ?_
    have : (decide ((a : Int) = b) && decide (x = y)) = decide (a :: x = b :: y) := by
      rw [← Bool.decide_and]
      refine decide_eq_decide.2 ?_
      rw [List.cons.injEq]
      exact ⟨fun h => ⟨by have := h.1; omega, h.2⟩, fun h => ⟨by have := h.1; omega, h.2⟩⟩
    rw [this]; exact h
def byt (S : List Sec) (i : Nat) : List Nat := (S.getD i ([], true)).1
def bad (S : List Sec) (i : Nat) : Bool := (S.getD i ([], true)).2
def pg (S : List Sec) (a : Nat) : List Nat := byt S a ++ byt S (a + 1)
def hitB (sl : List Nat → List Nat) (S : List Sec) (a : Nat) : Bool := !bad S a && !bad S (a + 1) && !bad S (a + 2) && decide (sl (pg S a) = byt S (a + 2))
def z128 : List Nat := List.replicate 128 0
def getP (sl : List Nat → List Nat) (S : List Sec) (k : Nat) : List Nat := if hitB sl S (6 * k) = true then pg S (6 * k) else if hitB sl S (6 * k + 3) = true then pg S (6 * k + 3) else z128
def getE (sl : List Nat → List Nat) (S : List Sec) (k : Nat) : Int := if hitB sl S (6 * k) = true then 0 else if hitB sl S (6 * k + 3) = true then 0 else 271
def L27 (D : List AV) (n st : Nat) (S : List Sec) (s k : Nat) (sl : List Nat → List Nat) (m : Nat) (fr : Fr) (H : Heap) : Prop := ∃ c : Nat, c ≤ 2 ∧ m = 2 - c ∧ (∀ j, j < c → hitB sl S (6 * k + 3 * j) = false) ∧ fr = [(0, .ptr 4 0), (1, I k), (4, .ptr 6 0), (20, I c)] ∧ H = ⟨7, bsl D n st (chS S) [] s ++ [(6, .cells (z128.map B))]⟩
theorem tk128 {cs : List AV} {q : List Nat} {off : Nat} {K : List AV → Prop} (e : cs = q.map B) (h : q.length = 128) (ho : off = 0) (hk : K (q.map B)) : takeK 128 (cs.drop off) K := by
  subst e; exact tkP h ho hk
theorem c27a (D : List AV) (n st : Nat) (S : List Sec) (s k : Nat) (sl : List Nat → List Nat) (hD : ∀ c ∈ D, noLoc c = true) (hn : n ≤ 1000) (hks : k < s) (hs : 6 * k + 6 ≤ n) (hS : OkX S n) (hsl : ∀ q, (sl q).length = 64)
    (h36 : ∀ q : List Nat, q.length = 128 → (∀ x ∈ q, x < 256) → CallA Tryd.prog 36 [I k, .agg (q.map B)] Heap.nil fun v H' => v = .agg ((sl q).map B) ∧ H' = Heap.nil) :
    CallA Tryd.prog 27 [.ptr 4 0, I k] (hL D n st (chS S) [] s) fun v H' => v = .tuple [.agg ((getP sl S k).map B), I (getE sl S k)] ∧ H' = hL D n st (chS S) [] s := by
  refine callA_of ok27 (Nat.le_of_ble_eq_true rfl) ?_
  have hl : ∀ x ∈ S, x.1.length = 64 := fun x hx => (hS.sz x hx).1
  have hcd : ∀ c ∈ (chS S).flatten, noLoc c = true := fun c hc => by
    obtain ⟨d, hd, hc⟩ := List.mem_flatten.1 hc
    exact (hS.c.sz d hd).2 c hc
  repeat' ((conv => whnf); first
      | refine Branch.ofT rfl ?_
      | refine Branch.ofF rfl ?_
      | refine Branch.dec (fun h => ?_) (fun h => ?_)
      | refine Branch.negdec (fun h => ?_) (fun h => ?_)
      | refine Branch.neg (fun h => ?_) (fun h => ?_)
      | refine Branch.mk (fun h => ?_) (fun h => ?_)
      | (refine Side.mk ?_ ?_; · first | omega | decide)
      | (refine SideD.mk ?_ ?_; · first | omega | decide)
      | refine ⟨_, Nat.lt_succ_self _, To.refl (.inl ⟨rfl, ?_⟩)⟩
      | refine MRes.mk ⟨_, mfind_um k s, ?_⟩
      | (rw [if_pos hks])
      | (refine Side.mk ?_ ?_; · (simp; done))
      | fail
      )
  all_goals (conv => whnf)
  refine ⟨L27 D n st S s k sl, 2, To.gc [(0, true), (1, false), (2, true), (3, true), (4, false), (5, true), (6, true)] [0, 1, 4, 20] rfl ⟨hD, hcd, trivial, trivial, dat rfl, trivial⟩ ⟨0, by omega, by omega, fun j hj => by omega, rfl, rfl⟩, ?_⟩
  rintro m fr H ⟨c, hc, rfl, hh, rfl, rfl⟩
  by_cases hc2 : c < 2
  · obtain ⟨a, ha⟩ : ∃ a, a = 6 * k + 3 * c := ⟨_, rfl⟩
    have hl0 : a < S.length := by rw [hS.len]; omega
    have hl1 : a + 1 < S.length := by rw [hS.len]; omega
    have hl2 : a + 2 < S.length := by rw [hS.len]; omega
    have b0 : bad S a = S[a].2 := by unfold bad; rw [List.getD_eq_getElem?_getD, List.getElem?_eq_getElem hl0]; rfl
    have b1 : bad S (a + 1) = S[a + 1].2 := by unfold bad; rw [List.getD_eq_getElem?_getD, List.getElem?_eq_getElem hl1]; rfl
    have b2 : bad S (a + 2) = S[a + 2].2 := by unfold bad; rw [List.getD_eq_getElem?_getD, List.getElem?_eq_getElem hl2]; rfl
    have y0 : byt S a = S[a].1 := by unfold byt; rw [List.getD_eq_getElem?_getD, List.getElem?_eq_getElem hl0]; rfl
    have y1 : byt S (a + 1) = S[a + 1].1 := by unfold byt; rw [List.getD_eq_getElem?_getD, List.getElem?_eq_getElem hl1]; rfl
    have y2 : byt S (a + 2) = S[a + 2].1 := by unfold byt; rw [List.getD_eq_getElem?_getD, List.getElem?_eq_getElem hl2]; rfl
    have q0 : S[a].1.length = 64 := hl _ (List.getElem_mem _)
    have q1 : S[a + 1].1.length = 64 := hl _ (List.getElem_mem _)
    have q2 : S[a + 2].1.length = 64 := hl _ (List.getElem_mem _)
    have hz3 : ∀ y ∈ [zb, zb, zb], y.length = 64 := by simp [zb]
    have hz3a : ∀ y ∈ [zb, zb, zb].set 0 S[a].1, y.length = 64 := by simp [zb, q0]
    have hz3b : ∀ y ∈ ([zb, zb, zb].set 0 S[a].1).set 1 S[a + 1].1, y.length = 64 := by simp [zb, q0, q1]
    have hz3c : ∀ y ∈ (([zb, zb, zb].set 0 S[a].1).set 1 S[a + 1].1).set 2 S[a + 2].1, y.length = 64 := by simp [q0, q1, q2]
    have hfl : (fl ((([zb, zb, zb].set 0 S[a].1).set 1 S[a + 1].1).set 2 S[a + 2].1)).length = 192 := by rw [fl_len hz3c]; rfl
    have hcat : List.take 64 (List.drop 0 (fl ((([zb, zb, zb].set 0 S[a].1).set 1 S[a + 1].1).set 2 S[a + 2].1))) ++ List.take 64 (List.drop 64 (fl ((([zb, zb, zb].set 0 S[a].1).set 1 S[a + 1].1).set 2 S[a + 2].1))) = (S[a].1 ++ S[a + 1].1).map B := by
      have e : fl ((([zb, zb, zb].set 0 S[a].1).set 1 S[a + 1].1).set 2 S[a + 2].1) = S[a].1.map B ++ (S[a + 1].1.map B ++ (S[a + 2].1.map B ++ [])) := rfl
      rw [e, List.drop_zero, List.take_append_of_le_length (by simp [q0]), List.take_of_length_le (by simp [q0]), List.drop_append, List.drop_eq_nil_of_le (by simp [q0]), List.nil_append, List.length_map, q0, Nat.sub_self, List.drop_zero, List.take_append_of_le_length (by simp [q1]), List.take_of_length_le (by simp [q1]), List.map_append]
    have qq : (S[a].1 ++ S[a + 1].1).length = 128 := by simp [q0, q1]
    have qqb : ∀ x ∈ S[a].1 ++ S[a + 1].1, x < 256 := by
      intro x hx
      rcases List.mem_append.1 hx with h | h
      · exact (hS.sz _ (List.getElem_mem _)).2 x h
      · exact (hS.sz _ (List.getElem_mem _)).2 x h
    have nx : hitB sl S a = false → ∀ j, j < c + 1 → hitB sl S (6 * k + 3 * j) = false := fun h j hj => by
      rcases Nat.lt_succ_iff_lt_or_eq.1 hj with q | rfl
      · exact hh j q
      · rw [← ha]; exact h
    have n1 : S[a].2 = true → hitB sl S a = false := fun h => by unfold hitB; rw [b0, h]; rfl
    have n2 : S[a + 1].2 = true → hitB sl S a = false := fun h => by unfold hitB; rw [b1, h]; simp only [Bool.not_true, Bool.and_false, Bool.false_and]
    have n3 : S[a + 2].2 = true → hitB sl S a = false := fun h => by unfold hitB; rw [b2, h]; simp only [Bool.not_true, Bool.and_false, Bool.false_and]
    have n4 : ¬ sl (S[a].1 ++ S[a + 1].1) = S[a + 2].1 → hitB sl S a = false := fun h => by unfold hitB pg; rw [y0, y1, y2, decide_eq_false h, Bool.and_false]
    have n5 : S[a].2 = false → S[a + 1].2 = false → S[a + 2].2 = false → sl (S[a].1 ++ S[a + 1].1) = S[a + 2].1 → hitB sl S a = true := fun h1 h2 h3 h => by unfold hitB pg; rw [b0, b1, b2, h1, h2, h3, y0, y1, y2, decide_eq_true h]; rfl
    have hpg : pg S a = S[a].1 ++ S[a + 1].1 := by unfold pg; rw [y0, y1]
    have hgp : hitB sl S a = true → getP sl S k = pg S a ∧ getE sl S k = 0 := fun h => by
      have : c = 0 ∨ c = 1 := by omega
      rcases this with rfl | rfl
      · have e : a = 6 * k := by omega
        subst e
        unfold getP getE; rw [if_pos h, if_pos h]; exact ⟨rfl, rfl⟩
      · have e : a = 6 * k + 3 := by omega
        subst e
        have h0 := hh 0 (by omega)
        rw [Nat.mul_zero, Nat.add_zero] at h0
        have hf : ¬ hitB sl S (6 * k) = true := by rw [h0]; exact Bool.false_ne_true
        exact ⟨by unfold getP; rw [if_neg hf, if_pos h], by unfold getE; rw [if_neg hf, if_pos h]⟩
    have hna : noLocL [I k, .agg ((S[a].1 ++ S[a + 1].1).map B)] = true := by simp only [noLocL, noLoc, noLocL_bs, Bool.and_self]
    repeat' ((conv => whnf); first
        | refine Branch.ofT rfl ?_
        | refine Branch.ofF rfl ?_
        | refine Branch.ofT (decide_eq_true (by omega)) ?_
        | refine Branch.ofF (decide_eq_false (by omega)) ?_
        | refine Branch.dec (fun h => ?_) (fun h => ?_)
        | refine Branch.negdec (fun h => ?_) (fun h => ?_)
        | refine Branch.neg (fun h => ?_) (fun h => ?_)
        | refine Branch.mk (fun h => ?_) (fun h => ?_)
        | (refine Side.mk ?_ ?_; · first | omega | decide)
        | (refine SideD.mk ?_ ?_; · first | omega | decide)
        | refine ⟨_, Nat.lt_succ_self _, To.refl (.inl ⟨rfl, ?_⟩)⟩
        | refine LoopA.unroll _ _ _ 4 ?_
        | refine callA_of ok40 (Nat.le_of_ble_eq_true rfl) ?_
        | refine callA_of ok39 (Nat.le_of_ble_eq_true rfl) ?_
        | refine RetA.gc [(0, true), (1, false), (2, true), (3, true), (4, false), (5, true)] rfl ⟨hD, hcd, trivial, trivial, trivial⟩ ⟨?_, rfl⟩
        | refine RetA.same ?_
        | refine MRes.mk ⟨_, rfl, ?_⟩
        | refine ldBad hl0 hl (by omega) ?_
        | refine ldBad hl1 hl (by omega) ?_
        | refine ldBad hl2 hl (by omega) ?_
        | refine ldSec hl0 hl (by omega) ?_
        | refine ldSec hl1 hl (by omega) ?_
        | refine ldSec hl2 hl (by omega) ?_
        | refine condT (by rw [List.length_map, q0]; rfl) ?_
        | refine condT (by rw [List.length_map, q1]; rfl) ?_
        | refine condT (by rw [List.length_map, q2]; rfl) ?_
        | refine lputA (by rw [List.length_map, q0]; rfl) (List.all_eq_true.2 (scal_bs _)) ?_
        | refine lputA (by rw [List.length_map, q1]; rfl) (List.all_eq_true.2 (scal_bs _)) ?_
        | refine lputA (by rw [List.length_map, q2]; rfl) (List.all_eq_true.2 (scal_bs _)) ?_
        | refine tkBn q0 ?_
        | refine tkBn q1 ?_
        | refine tkBn q2 ?_
        | refine lputF0 (xs := [zb, zb, zb]) (i := 0) (by rfl) hz3 q0 (by rfl) (by simp) ?_
        | refine lputF (i := 1) hz3a q1 (by rfl) (by simp) ?_
        | refine lputF (i := 2) hz3b q2 (by rfl) (by simp) ?_
        | refine Side.mk (by rw [hfl]; decide) ?_
        | refine Side.mk ⟨by rfl, by rfl, by decide, by rw [hfl]; decide, by unfold fits; decide, fun c hc => scal_fl _ c (List.mem_of_mem_drop (List.mem_of_mem_take hc))⟩ ?_
        | refine tk128 (q := S[a].1 ++ S[a + 1].1) hcat qq (by rfl) ?_
        | refine condT (by rw [List.length_map, qq]; rfl) ?_
        | refine lputA (by rw [List.length_map, qq]; rfl) (List.all_eq_true.2 (scal_bs _)) ?_
        | refine tkP qq (by rfl) ?_
        | refine QCallA.of (h36 _ qq qqb) hna (noLocL_bs _) ?_
        | refine tkF (i := 2) (by simp) hz3c (by rfl) ?_
        | refine eqB (n := 64) (by rfl) (hsl _) q2 ?_
        | (refine Side.mk ?_ ?_; · (simp; done))
        | fail
        )
    all_goals (conv => whnf)
    all_goals (try exact ⟨2 - (c + 1), by omega, To.gc [(0, true), (1, false), (2, true), (3, true), (4, false), (5, true), (6, true)] [0, 1, 4, 20] rfl ⟨hD, hcd, trivial, trivial, dat rfl, trivial⟩ ⟨c + 1, by omega, rfl, nx (n1 (by assumption)), rfl, rfl⟩⟩)
    · exact ⟨2 - (c + 1), by omega, To.gc [(0, true), (1, false), (2, true), (3, true), (4, false), (5, true), (6, true)] [0, 1, 4, 20] rfl ⟨hD, hcd, trivial, trivial, dat rfl, trivial⟩ ⟨c + 1, by omega, rfl, nx (n2 (by assumption)), rfl, rfl⟩⟩
    all_goals first
      | exact ⟨2 - (c + 1), by omega, To.gc [(0, true), (1, false), (2, true), (3, true), (4, false), (5, true), (6, true)] [0, 1, 4, 20] rfl ⟨hD, hcd, trivial, trivial, dat rfl, trivial⟩ ⟨c + 1, by omega, rfl, nx (by first | exact n1 (by assumption) | exact n2 (by assumption) | exact n3 (by assumption) | exact n4 h), rfl, rfl⟩⟩
      | (obtain ⟨g1, g2⟩ := hgp (n5 (by assumption) (by assumption) (by assumption) h)
         rw [g1, g2, hpg]
         exact ren_data _ (.tuple [.agg ((S[a].1 ++ S[a + 1].1).map B), I 0]) (by simp only [noLoc, noLocL, noLocL_bs, Bool.and_self]))
  · have : c = 2 := by omega
    subst this
    have h0 := hh 0 (by omega)
    have h1 := hh 1 (by omega)
    rw [Nat.mul_zero, Nat.add_zero] at h0
    rw [Nat.mul_one] at h1
    have g1 : getP sl S k = z128 := by unfold getP; rw [if_neg (by rw [h0]; exact Bool.false_ne_true), if_neg (by rw [h1]; exact Bool.false_ne_true)]
    have g2 : getE sl S k = 271 := by unfold getE; rw [if_neg (by rw [h0]; exact Bool.false_ne_true), if_neg (by rw [h1]; exact Bool.false_ne_true)]
    rw [g1, g2]
    repeat' ((conv => whnf); first
        | refine Branch.ofT rfl ?_
        | refine Branch.ofF rfl ?_
        | refine Branch.ofF (decide_eq_false (by omega)) ?_
        | refine Branch.dec (fun h => ?_) (fun h => ?_)
        | refine Branch.negdec (fun h => ?_) (fun h => ?_)
        | refine Branch.neg (fun h => ?_) (fun h => ?_)
        | refine Branch.mk (fun h => ?_) (fun h => ?_)
        | (refine Side.mk ?_ ?_; · first | omega | decide)
        | (refine SideD.mk ?_ ?_; · first | omega | decide)
        | refine ⟨_, Nat.lt_succ_self _, To.refl (.inl ⟨rfl, ?_⟩)⟩
        | refine RetA.gc [(0, true), (1, false), (2, true), (3, true), (4, false), (5, true)] rfl ⟨hD, hcd, trivial, trivial, trivial⟩ ⟨?_, rfl⟩
        | (refine Side.mk ?_ ?_; · (simp; done))
        | fail
        )
    all_goals (conv => whnf)
    all_goals rfl
theorem sealN_len (k : Nat) (q : List Nat) : (sealN k q).length = 64 := by simp [sealN, dig_len]
theorem c27 (D : List AV) (n st : Nat) (S : List Sec) (s k : Nat) (hD : ∀ c ∈ D, noLoc c = true) (hn : n ≤ 1000) (hks : k < s) (hk : k < 256) (hs : 6 * k + 6 ≤ n) (hS : OkX S n) :
    CallA Tryd.prog 27 [.ptr 4 0, I k] (hL D n st (chS S) [] s) fun v H' => v = .tuple [.agg ((getP (sealN k) S k).map B), I (getE (sealN k) S k)] ∧ H' = hL D n st (chS S) [] s :=
  c27a D n st S s k (sealN k) hD hn hks hs hS (sealN_len k) fun q h1 h2 => c36 k q hk h1 h2
end Go.Proofs

namespace Go.Proofs
open Go Go.Eng
set_option maxRecDepth 100000
set_option maxHeartbeats 4000000
/-! ### In how many bits two digests differ -/
def bitsN (z : Nat) : Nat → Nat
  | 0 => 0
  | k + 1 => bitsN z k + z / 2 ^ k % 2
def apN (a b : List Nat) : Nat → Nat
  | 0 => 0
  | i + 1 => apN a b i + bitsN (a.getD i 0 ^^^ b.getD i 0) 8
theorem bitsN_le (z : Nat) : ∀ k, bitsN z k ≤ k
  | 0 => Nat.le_refl _
  | k + 1 => by have := bitsN_le z k; rw [bitsN]; omega
theorem apN_le (a b : List Nat) : ∀ i, apN a b i ≤ 8 * i
  | 0 => Nat.le_refl _
  | i + 1 => by have := apN_le a b i; have := bitsN_le (a.getD i 0 ^^^ b.getD i 0) 8; rw [apN]; omega
theorem b8 (n : Nat) (h : n < 256) : (BitVec.ofInt 8 (n : Int)).toNat = n := by
  rw [BitVec.toNat_ofInt]
  omega
theorem bxor {a b : Nat} (ha : a < 256) (hb : b < 256) : IntKind.u8.wrap (BitVec.ofInt IntKind.u8.bits (a : Int) ^^^ BitVec.ofInt IntKind.u8.bits (b : Int)).toNat = ((a ^^^ b : Nat) : Int) := by
  show IntKind.u8.wrap (BitVec.ofInt 8 (a : Int) ^^^ BitVec.ofInt 8 (b : Int)).toNat = _
  rw [wu8, BitVec.toNat_xor, b8 a ha, b8 b hb]
  have := Nat.xor_lt_two_pow (n := 8) ha hb
  omega
theorem band1 {a : Nat} (ha : a < 256) : IntKind.u8.wrap (BitVec.ofInt IntKind.u8.bits (a : Int) &&& BitVec.ofInt IntKind.u8.bits 1).toNat = ((a % 2 : Nat) : Int) := by
  show IntKind.u8.wrap (BitVec.ofInt 8 (a : Int) &&& BitVec.ofInt 8 ((1 : Nat) : Int)).toNat = _
  rw [wu8, BitVec.toNat_and, b8 a ha, b8 1 (by omega), Nat.and_one_is_mod]
  omega
theorem bitX {a b k : Nat} (ha : a < 256) (hb : b < 256) (hk : k < 8) :
    IntKind.u8.wrap (BitVec.ofInt IntKind.u8.bits ((IntKind.u8.wrap (BitVec.ofInt IntKind.u8.bits (a : Int) ^^^ BitVec.ofInt IntKind.u8.bits (b : Int)).toNat).fdiv (2 ^ min (k : Int).toNat IntKind.u8.bits)) &&& BitVec.ofInt IntKind.u8.bits 1).toNat = (((a ^^^ b) / 2 ^ k % 2 : Nat) : Int) := by
  have e : min (k : Int).toNat IntKind.u8.bits = k := by
    have : IntKind.u8.bits = 8 := rfl
    rw [this]; omega
  have hx := Nat.xor_lt_two_pow (n := 8) ha hb
  rw [e, bxor ha hb, wshr, band1 (Nat.lt_of_le_of_lt (Nat.div_le_self _ _) hx)]
def L28a (a b : List Nat) (m : Nat) (fr : Fr) (H : Heap) : Prop := ∃ i : Nat, i ≤ 16 ∧ m = 16 - i ∧ fr = [(2, .ptr 0 0), (3, .ptr 1 0), (5, I (apN a b i)), (6, I i)] ∧ H = ⟨2, [(0, .cells (a.map B)), (1, .cells (b.map B))]⟩
def L28b (a b : List Nat) (i : Nat) (m : Nat) (fr : Fr) (H : Heap) : Prop := ∃ k : Nat, k ≤ 8 ∧ m = 8 - k ∧ fr = [(2, .ptr 0 0), (3, .ptr 1 0), (5, I (apN a b i + bitsN (a.getD i 0 ^^^ b.getD i 0) k : Nat)), (6, I i), (7, I k)] ∧ H = ⟨2, [(0, .cells (a.map B)), (1, .cells (b.map B))]⟩
theorem c28 (a b : List Nat) (ha : a.length = 16) (hb : b.length = 16) (ha2 : ∀ x ∈ a, x < 256) (hb2 : ∀ x ∈ b, x < 256) : CallA Tryd.prog 28 [.agg (a.map B), .agg (b.map B)] Heap.nil fun v H' => v = I (apN a b 16) ∧ H' = Heap.nil := by
  refine callA_of ok28 (Nat.le_of_ble_eq_true rfl) ?_
  repeat' ((conv => whnf); first
      | refine Branch.ofT rfl ?_
      | refine Branch.ofF rfl ?_
      | refine Branch.dec (fun h => ?_) (fun h => ?_)
      | refine Branch.negdec (fun h => ?_) (fun h => ?_)
      | refine Branch.neg (fun h => ?_) (fun h => ?_)
      | refine Branch.mk (fun h => ?_) (fun h => ?_)
      | (refine Side.mk ?_ ?_; · first | omega | decide)
      | (refine SideD.mk ?_ ?_; · first | omega | decide)
      | refine ⟨_, Nat.lt_succ_self _, To.refl (.inl ⟨rfl, ?_⟩)⟩
      | (refine Side.mk ?_ ?_; · (simp; done))
      | fail
      )
  all_goals (conv => whnf)
  refine ⟨L28a a b, 16, To.gc [(0, true), (1, true)] [2, 3, 5, 6] rfl ⟨dat_bs a, dat_bs b, trivial⟩ ⟨0, by omega, rfl, rfl, rfl⟩, ?_⟩
  rintro m fr H ⟨i, hi, rfl, rfl, rfl⟩
  have hle := apN_le a b i
  by_cases hi16 : i < 16
  · repeat' ((conv => whnf); first
        | refine Branch.ofT rfl ?_
        | refine Branch.ofF rfl ?_
        | refine Branch.ofT (decide_eq_true (by omega)) ?_
        | refine Branch.dec (fun h => ?_) (fun h => ?_)
        | refine Branch.negdec (fun h => ?_) (fun h => ?_)
        | refine Branch.neg (fun h => ?_) (fun h => ?_)
        | refine Branch.mk (fun h => ?_) (fun h => ?_)
        | (refine Side.mk ?_ ?_; · first | omega | decide)
        | (refine SideD.mk ?_ ?_; · first | omega | decide)
        | refine ⟨_, Nat.lt_succ_self _, To.refl (.inl ⟨rfl, ?_⟩)⟩
        | (refine Side.mk ?_ ?_; · (simp; done))
        | fail
        )
    all_goals (conv => whnf)
    refine ⟨L28b a b i, 8, To.gc [(0, true), (1, true)] [2, 3, 5, 6, 7] rfl ⟨dat_bs a, dat_bs b, trivial⟩ ⟨0, by omega, rfl, rfl, rfl⟩, ?_⟩
    rintro m fr H ⟨k, hk, rfl, rfl, rfl⟩
    have hle2 := bitsN_le (a.getD i 0 ^^^ b.getD i 0) k
    by_cases hk8 : k < 8
    · have hX := bitX (getD_lt ha2 (by omega) i) (getD_lt hb2 (by omega) i) hk8
      have hs : bitsN (a.getD i 0 ^^^ b.getD i 0) (k + 1) = bitsN (a.getD i 0 ^^^ b.getD i 0) k + (a.getD i 0 ^^^ b.getD i 0) / 2 ^ k % 2 := rfl
      repeat' ((conv => whnf); first
          | refine Branch.ofT rfl ?_
          | refine Branch.ofF rfl ?_
          | refine Branch.ofT (decide_eq_true (by omega)) ?_
          | refine Branch.dec (fun h => ?_) (fun h => ?_)
          | refine Branch.negdec (fun h => ?_) (fun h => ?_)
          | refine Branch.neg (fun h => ?_) (fun h => ?_)
          | refine Branch.mk (fun h => ?_) (fun h => ?_)
          | (refine Side.mk ?_ ?_; · first | omega | decide)
          | (refine SideD.mk ?_ ?_; · first | omega | decide)
          | refine ⟨_, Nat.lt_succ_self _, To.refl (.inl ⟨rfl, ?_⟩)⟩
          | refine ldC (i := i) (by omega) (by omega) ?_
          | (refine Side.mk ?_ ?_; · (simp; done))
          | fail
          )
      all_goals (conv => whnf)
      · have h1 : (((a.getD i 0 ^^^ b.getD i 0) / 2 ^ k % 2 : Nat) : Int) = 1 := hX.symm.trans h
        exact ⟨8 - (k + 1), by omega, To.gc [(0, true), (1, true)] [2, 3, 5, 6, 7] rfl ⟨dat_bs a, dat_bs b, trivial⟩ ⟨k + 1, by omega, rfl, by rw [hs, show (a.getD i 0 ^^^ b.getD i 0) / 2 ^ k % 2 = 1 by omega]; rfl, rfl⟩⟩
      · have h1 : ¬ (((a.getD i 0 ^^^ b.getD i 0) / 2 ^ k % 2 : Nat) : Int) = 1 := fun e => h (hX.trans e)
        exact ⟨8 - (k + 1), by omega, To.gc [(0, true), (1, true)] [2, 3, 5, 6, 7] rfl ⟨dat_bs a, dat_bs b, trivial⟩ ⟨k + 1, by omega, rfl, by rw [hs, show (a.getD i 0 ^^^ b.getD i 0) / 2 ^ k % 2 = 0 by omega]; rfl, rfl⟩⟩
    · have : k = 8 := by omega
      subst this
      repeat' ((conv => whnf); first
          | refine Branch.ofT rfl ?_
          | refine Branch.ofF rfl ?_
          | refine Branch.ofF (decide_eq_false (by omega)) ?_
          | refine Branch.dec (fun h => ?_) (fun h => ?_)
          | refine Branch.negdec (fun h => ?_) (fun h => ?_)
          | refine Branch.neg (fun h => ?_) (fun h => ?_)
          | refine Branch.mk (fun h => ?_) (fun h => ?_)
          | (refine Side.mk ?_ ?_; · first | omega | decide)
          | (refine SideD.mk ?_ ?_; · first | omega | decide)
          | refine ⟨_, Nat.lt_succ_self _, To.refl (.inl ⟨rfl, ?_⟩)⟩
          | (refine Side.mk ?_ ?_; · (simp; done))
          | fail
          )
      all_goals (conv => whnf)
      exact ⟨16 - (i + 1), by omega, To.gc [(0, true), (1, true)] [2, 3, 5, 6] rfl ⟨dat_bs a, dat_bs b, trivial⟩ ⟨i + 1, by omega, rfl, rfl, rfl⟩⟩
  · have : i = 16 := by omega
    subst this
    repeat' ((conv => whnf); first
        | refine Branch.ofT rfl ?_
        | refine Branch.ofF rfl ?_
        | refine Branch.ofF (decide_eq_false (by omega)) ?_
        | refine Branch.dec (fun h => ?_) (fun h => ?_)
        | refine Branch.negdec (fun h => ?_) (fun h => ?_)
        | refine Branch.neg (fun h => ?_) (fun h => ?_)
        | refine Branch.mk (fun h => ?_) (fun h => ?_)
        | (refine Side.mk ?_ ?_; · first | omega | decide)
        | (refine SideD.mk ?_ ?_; · first | omega | decide)
        | refine ⟨_, Nat.lt_succ_self _, To.refl (.inl ⟨rfl, ?_⟩)⟩
        | (refine Side.mk ?_ ?_; · (simp; done))
        | fail
        )
    all_goals (conv => whnf)
    exact RetA.data rfl ⟨rfl, rfl⟩
end Go.Proofs

namespace Go.Proofs
open Go Go.Eng
set_option maxRecDepth 100000
set_option maxHeartbeats 4000000
/-! ### Harms -/
def flipB (b : List Nat) (t : Nat) : List Nat := b.set (t / 8) (b.getD (t / 8) 0 ^^^ 2 ^ (t % 8))
def rotS (S : List Sec) (j : Nat) : List Sec := S.set j (zb, true)
def flipS (S : List Sec) (j t : Nat) : List Sec := if byt S j = zb ∧ bad S j = true then S else S.set j (flipB (byt S j) t, bad S j)
theorem byt_at {S : List Sec} {j : Nat} (h : j < S.length) : byt S j = S[j].1 := by unfold byt; rw [List.getD_eq_getElem?_getD, List.getElem?_eq_getElem h]; rfl
theorem bad_at {S : List Sec} {j : Nat} (h : j < S.length) : bad S j = S[j].2 := by unfold bad; rw [List.getD_eq_getElem?_getD, List.getElem?_eq_getElem h]; rfl
theorem pow8 {k : Nat} (h : k < 8) : 2 ^ k < 256 := by
  have : ∀ k, k < 8 → 2 ^ k < 256 := by decide
  exact this k h
theorem OkX.set {S : List Sec} {n : Nat} (h : OkX S n) {j : Nat} {b : List Nat} {f : Bool} (hb : b.length = 64) (h2 : ∀ y ∈ b, y < 256) : OkX (S.set j (b, f)) n := by
  refine ⟨by rw [List.length_set]; exact h.len, fun x hx => ?_⟩
  rcases List.mem_or_eq_of_mem_set hx with hx | rfl
  · exact h.sz x hx
  · exact ⟨hb, h2⟩
theorem flipB_lt {b : List Nat} (h : ∀ y ∈ b, y < 256) (t : Nat) : ∀ y ∈ flipB b t, y < 256 := by
  intro y hy
  rcases List.mem_or_eq_of_mem_set hy with hy | rfl
  · exact h y hy
  · exact Nat.xor_lt_two_pow (n := 8) (getD_lt h (by omega) _) (pow8 (Nat.mod_lt _ (by omega)))
theorem byt_ok {S : List Sec} {n j : Nat} (h : OkX S n) (hj : j < n) : (byt S j).length = 64 ∧ ∀ y ∈ byt S j, y < 256 := by
  have hj' : j < S.length := by rw [h.len]; exact hj
  rw [byt_at hj']; exact h.sz _ (List.getElem_mem _)
theorem OkX.rot {S : List Sec} {n : Nat} (h : OkX S n) (j : Nat) : OkX (rotS S j) n := h.set rfl (by decide)
theorem OkX.flip {S : List Sec} {n : Nat} (h : OkX S n) {j : Nat} (hj : j < n) (t : Nat) : OkX (flipS S j t) n := by
  unfold flipS
  split
  · exact h
  · have := byt_ok h hj
    exact h.set (by simp [flipB, this.1]) (flipB_lt this.2 t)
/-! #### Cells -/
theorem flat_set : ∀ {S : List Sec} {j o : Nat} {v : AV} {x : Sec}, (∀ x ∈ S, x.1.length = 64) → (h : j < S.length) → o < 65 → secA x = (secA S[j]).set o v → (chS S).flatten.set (j * 65 + o) v = (chS (S.set j x)).flatten
  | [], j, _, _, _, _, h, _, _ => by simp at h
  | y :: r, 0, o, v, x, hl, _, ho, e => by
    have h1 := secA_len (hl y (by simp))
    have e1 : (chS (y :: r)).flatten = secA y ++ (chS r).flatten := rfl
    have e2 : (chS ((y :: r).set 0 x)).flatten = secA x ++ (chS r).flatten := rfl
    rw [e1, e2, Nat.zero_mul, Nat.zero_add, List.set_append_left _ _ (by omega)]
    rw [show secA x = (secA y).set o v from e]
  | y :: r, j + 1, o, v, x, hl, h, ho, e => by
    have h1 := secA_len (hl y (by simp))
    have e1 : (chS (y :: r)).flatten = secA y ++ (chS r).flatten := rfl
    have e2 : (chS ((y :: r).set (j + 1) x)).flatten = secA y ++ (chS (r.set j x)).flatten := rfl
    rw [e1, e2, List.set_append_right _ _ (by omega), h1, show (j + 1) * 65 + o - 65 = j * 65 + o by omega, flat_set (S := r) (fun z hz => hl z (by simp [hz])) (by simpa using h) ho e]
theorem lputS : ∀ {cs : List AV} {off : Nat} {v : AV} {K : List AV → Prop}, off < cs.length → scal v = true → K (cs.set off v) → lputK cs off [v] K
  | cs, off, v, K, h, hs, hk => by
    refine lputK_eq (by simp; omega) (by simpa using hs) ?_
    have : cs.take off ++ [v] ++ cs.drop (off + [v].length) = cs.set off v := by
      rw [List.set_eq_take_append_cons_drop, if_pos h]; simp
    rw [this]; exact hk
theorem chS_len {S : List Sec} (hl : ∀ x ∈ S, x.1.length = 64) : (chS S).flatten.length = S.length * 65 := by
  induction S with
  | nil => rfl
  | cons y r ih =>
    have e1 : (chS (y :: r)).flatten = secA y ++ (chS r).flatten := rfl
    rw [e1, List.length_append, secA_len (hl y (by simp)), ih fun z hz => hl z (by simp [hz])]; simp; omega
theorem ldC' {bs : List Nat} {i : Nat} {r : List AV} {K : AV → Prop} (h : i < bs.length) (hk : K (B (bs.getD i 0))) : nthK 0 ((bs.map B ++ r).drop i) K := by
  rw [List.drop_append_of_le_length (by simp; omega), List.drop_eq_getElem_cons (by simpa using h)]
  simp only [List.cons_append, nthK, fv_eq, List.getElem_map]
  simpa [List.getD_eq_getElem?_getD, List.getElem?_eq_getElem h] using hk
theorem ldByte {S : List Sec} {j o off : Nat} {K : AV → Prop} (h : j < S.length) (hl : ∀ x ∈ S, x.1.length = 64) (ho : o < 64) (e : off = j * 65 + o) (hk : K (B (S[j].1.getD o 0))) : nthK 0 ((chS S).flatten.drop off) K := by
  subst e
  rw [← List.drop_drop, flat_drop h hl]
  have h1 := hl S[j] (List.getElem_mem h)
  rw [secA, List.append_assoc]
  exact ldC' (by rw [h1]; exact ho) hk
theorem stByte {S : List Sec} {j t off : Nat} {z : Int} {K : List AV → Prop} (h : j < S.length) (hl : ∀ x ∈ S, x.1.length = 64) (ht : t < 512) (e : off = j * 65 + t / 8) (hz : z = ((S[j].1.getD (t / 8) 0 ^^^ 2 ^ (t % 8) : Nat) : Int)) (hk : K (chS (S.set j (flipB S[j].1 t, S[j].2))).flatten) : lputK (chS S).flatten off [.int .u8 z] K := by
  subst e hz
  have h1 := hl S[j] (List.getElem_mem h)
  refine lputS (by rw [chS_len hl]; omega) rfl ?_
  rw [flat_set hl h (by omega) (x := (flipB S[j].1 t, S[j].2)) ?_]
  · exact hk
  · simp only [secA, flipB]
    rw [List.set_append_left _ _ (by simp [h1]; omega), List.map_set]
theorem eqB65 {ks : List Sc} {ds : List AV} {b : List Nat} {f : Bool} {K : Bool → Prop} (hk : ks = List.replicate 64 (.i .u8) ++ [.b]) (hd : ds = zb.map B ++ [.bool true]) (hb : b.length = 64) (h : K (decide (b = zb) && f)) : eqCells ks (b.map B ++ [.bool f]) ds K := by
  subst hk hd
  have gen : ∀ (n : Nat) (x y : List Nat) (K : Bool → Prop), x.length = n → y.length = n → K (decide (x = y) && f) → eqCells (List.replicate n (.i .u8) ++ [.b]) (x.map B ++ [.bool f]) (y.map B ++ [.bool true]) K := by
    intro n
    induction n with
    | zero =>
      intro x y K hx hy h
      have := List.eq_nil_of_length_eq_zero hx
      have := List.eq_nil_of_length_eq_zero hy
      subst_vars
      show K ((f == true) && true)
      simpa using h
    | succ n ih =>
      intro x y K hx hy h
      match x, y, hx, hy with
      | a :: x, c :: y, hx, hy =>
        show eqCells (List.replicate n (.i .u8) ++ [.b]) (x.map B ++ [.bool f]) (y.map B ++ [.bool true]) fun r => K (decide ((a : Int) = c) && r)
        refine ih x y _ (by simpa using hx) (by simpa using hy) ?_
        have : (decide ((a : Int) = c) && (decide (x = y) && f)) = (decide (a :: x = c :: y) && f) := by
          rw [← Bool.and_assoc, ← Bool.decide_and]
          congr 1
          refine decide_eq_decide.2 ?_
          rw [List.cons.injEq]
          exact ⟨fun h => ⟨by have := h.1; omega, h.2⟩, fun h => ⟨by have := h.1; omega, h.2⟩⟩
        rw [this]; exact h
  exact gen 64 b zb K hb rfl h
theorem rflip {x t : Nat} (hx : x < 256) (ht : t < 8) : IntKind.u8.wrap (BitVec.ofInt IntKind.u8.bits (x : Int) ^^^ BitVec.ofInt IntKind.u8.bits (IntKind.u8.wrap (1 * 2 ^ min (t : Int).toNat IntKind.u8.bits))).toNat = ((x ^^^ 2 ^ t : Nat) : Int) := by
  have e : min (t : Int).toNat IntKind.u8.bits = t := by
    have : IntKind.u8.bits = 8 := rfl
    rw [this]; omega
  have e2 : IntKind.u8.wrap (1 * 2 ^ t) = ((2 ^ t : Nat) : Int) := by
    have := pow8 ht
    rw [wu8, Int.one_mul]
    have e3 : (2 : Int) ^ t = ((2 ^ t : Nat) : Int) := by simp
    rw [e3]; generalize 2 ^ t = q at this ⊢; omega
  rw [e, e2, bxor hx (pow8 ht)]
end Go.Proofs

namespace Go.Proofs
open Go Go.Eng
set_option maxRecDepth 100000
set_option maxHeartbeats 4000000
/-! ### What harms do to what is read -/
theorem bits_zero : ∀ k, bitsN 0 k = 0
  | 0 => rfl
  | k + 1 => by rw [bitsN, bits_zero k, Nat.zero_div]
theorem apN_self (a : List Nat) : ∀ n, apN a a n = 0
  | 0 => rfl
  | n + 1 => by rw [apN, apN_self a n, Nat.xor_self, bits_zero]
theorem apN_comm (a b : List Nat) : ∀ n, apN a b n = apN b a n
  | 0 => rfl
  | n + 1 => by rw [apN, apN, apN_comm a b n, Nat.xor_comm]
theorem apN_mono (a b : List Nat) : ∀ {n m : Nat}, n ≤ m → apN a b n ≤ apN a b m
  | n, 0, h => by have : n = 0 := by omega
                  subst this; exact Nat.le_refl _
  | n, m + 1, h => by
    rcases Nat.lt_or_eq_of_le h with q | rfl
    · have := apN_mono a b (n := n) (m := m) (by omega)
      rw [apN]; omega
    · exact Nat.le_refl _
theorem apN_pre {a b a' b' : List Nat} : ∀ {n : Nat}, (∀ i, i < n → a.getD i 0 = a'.getD i 0) → (∀ i, i < n → b.getD i 0 = b'.getD i 0) → apN a b n = apN a' b' n
  | 0, _, _ => rfl
  | n + 1, h, k => by
    rw [apN, apN, apN_pre (fun i hi => h i (by omega)) (fun i hi => k i (by omega)), h n (by omega), k n (by omega)]
theorem bits_flip : ∀ z, z < 256 → ∀ t, t < 8 → bitsN (z ^^^ 2 ^ t) 8 ≤ bitsN z 8 + 1 := by decide +kernel
theorem apN_flip {b y : List Nat} {t : Nat} (hb : ∀ x ∈ b, x < 256) (hy : ∀ x ∈ y, x < 256) : ∀ n, apN (flipB b t) y n ≤ apN b y n + if t / 8 < n then 1 else 0
  | 0 => by simp [apN]
  | n + 1 => by
    have ih := apN_flip (t := t) hb hy n
    rw [apN, apN]
    by_cases h : t / 8 = n
    · subst h
      rw [if_neg (by omega)] at ih
      rw [if_pos (by omega)]
      have hz : b.getD (t / 8) 0 ^^^ y.getD (t / 8) 0 < 256 := Nat.xor_lt_two_pow (n := 8) (getD_lt hb (by omega) _) (getD_lt hy (by omega) _)
      have := bits_flip _ hz (t % 8) (Nat.mod_lt _ (by omega))
      have e : bitsN ((flipB b t).getD (t / 8) 0 ^^^ y.getD (t / 8) 0) 8 ≤ bitsN (b.getD (t / 8) 0 ^^^ y.getD (t / 8) 0) 8 + 1 := by
        by_cases hl : t / 8 < b.length
        · have : (flipB b t).getD (t / 8) 0 = b.getD (t / 8) 0 ^^^ 2 ^ (t % 8) := by
            unfold flipB
            rw [List.getD_eq_getElem?_getD, List.getElem?_set_self hl]; rfl
          rw [this, Nat.xor_assoc, Nat.xor_comm (2 ^ (t % 8)), ← Nat.xor_assoc]
          assumption
        · have : flipB b t = b := List.set_eq_of_length_le (by omega)
          rw [this]; omega
      omega
    · have e : (flipB b t).getD n 0 = b.getD n 0 := by
        unfold flipB
        rw [List.getD_eq_getElem?_getD, List.getElem?_set_ne h, ← List.getD_eq_getElem?_getD]
      rw [e]
      by_cases h2 : t / 8 < n
      · rw [if_pos h2] at ih; rw [if_pos (by omega)]; omega
      · rw [if_neg h2] at ih; rw [if_neg (by omega)]; omega
theorem byt_set {S : List Sec} {j i : Nat} {x : Sec} (h : j < S.length) : byt (S.set j x) i = if j = i then x.1 else byt S i := by
  unfold byt
  rw [List.getD_eq_getElem?_getD, List.getElem?_set]
  by_cases hij : j = i
  · subst hij; simp [h]
  · simp [hij, List.getD_eq_getElem?_getD]
theorem bad_set {S : List Sec} {j i : Nat} {x : Sec} (h : j < S.length) : bad (S.set j x) i = if j = i then x.2 else bad S i := by
  unfold bad
  rw [List.getD_eq_getElem?_getD, List.getElem?_set]
  by_cases hij : j = i
  · subst hij; simp [h]
  · simp [hij, List.getD_eq_getElem?_getD]
def og (k : Nat) (p : List Nat) (j : Nat) : List Nat := [p.take 64, p.drop 64, sealN k p, p.take 64, p.drop 64, sealN k p].getD j []
structure Inv (k : Nat) (p : List Nat) (S : List Sec) (F i0 i1 : Nat) : Prop where
  near : ∀ j, j < 6 → (bad S (6 * k + j) = true ∧ byt S (6 * k + j) = zb) ∨ (bad S (6 * k + j) = false ∧ apN (byt S (6 * k + j)) (og k p j) 64 ≤ F)
  one : i0 = 0 → ∀ j, j < 3 → bad S (6 * k + j) = false ∧ byt S (6 * k + j) = og k p j
  two : i1 = 0 → ∀ j, 3 ≤ j → j < 6 → bad S (6 * k + j) = false ∧ byt S (6 * k + j) = og k p j
theorem inv0 {k : Nat} {p : List Nat} {S : List Sec} (h : ∀ j, j < 6 → bad S (6 * k + j) = false ∧ byt S (6 * k + j) = og k p j) : Inv k p S 0 0 0 :=
  ⟨fun j hj => .inr ⟨(h j hj).1, by rw [(h j hj).2, apN_self]; exact Nat.le_refl _⟩, fun _ j hj => h j (by omega), fun _ j _ hj => h j hj⟩
theorem inv_rot {k n j F i0 i1 : Nat} {p : List Nat} {S : List Sec} (h : Inv k p S F i0 i1) (hS : OkX S n) (hn : 6 * k + 6 ≤ n) (hj : j < 6) : Inv k p (rotS S (6 * k + j)) F (if j < 3 then i0 + 1 else i0) (if j < 3 then i1 else i1 + 1) := by
  have hl : 6 * k + j < S.length := by rw [hS.len]; omega
  refine ⟨fun i hi => ?_, fun h0 i hi => ?_, fun h0 i hi hi2 => ?_⟩
  · unfold rotS
    rw [bad_set hl, byt_set hl]
    by_cases e : j = i
    · subst e; simp
    · rw [if_neg (by omega), if_neg (by omega)]; exact h.near i hi
  · have hj3 : ¬ j < 3 := fun q => by rw [if_pos q] at h0; omega
    rw [if_neg hj3] at h0
    unfold rotS
    rw [bad_set hl, byt_set hl, if_neg (by omega), if_neg (by omega)]
    exact h.one h0 i hi
  · have hj3 : j < 3 := by
      rcases Nat.lt_or_ge j 3 with q | q
      · exact q
      · rw [if_neg (by omega)] at h0; omega
    rw [if_pos hj3] at h0
    unfold rotS
    rw [bad_set hl, byt_set hl, if_neg (by omega), if_neg (by omega)]
    exact h.two h0 i hi hi2
theorem sealN_lt {k : Nat} {p : List Nat} : ∀ x ∈ sealN k p, x < 256 := by
  intro x hx
  rcases List.mem_append.1 hx with hx | hx
  · have hx := List.mem_of_mem_take hx
    simp only [outN, out4, List.mem_append, List.mem_cons, List.not_mem_nil, or_false] at hx
    have : ∀ y : Nat, y % 256 < 256 := fun y => Nat.mod_lt _ (by omega)
    rcases hx with ((((((h | h) | h) | h) | h) | h) | h) | h <;> (rcases h with rfl | rfl | rfl | rfl <;> exact this _)
  · rw [(List.mem_replicate.1 hx).2]; omega
theorem og_lt {k : Nat} {p : List Nat} (hp : ∀ x ∈ p, x < 256) (j : Nat) : ∀ x ∈ og k p j, x < 256 := by
  intro x hx
  match j with
  | 0 => exact hp x (List.mem_of_mem_take hx)
  | 1 => exact hp x (List.mem_of_mem_drop hx)
  | 2 => exact sealN_lt x hx
  | 3 => exact hp x (List.mem_of_mem_take hx)
  | 4 => exact hp x (List.mem_of_mem_drop hx)
  | 5 => exact sealN_lt x hx
  | j + 6 => simp [og] at hx
theorem inv_flip {k n j t F i0 i1 : Nat} {p : List Nat} {S : List Sec} (h : Inv k p S F i0 i1) (hS : OkX S n) (hn : 6 * k + 6 ≤ n) (hj : j < 6) (hp : ∀ x ∈ p, x < 256) : Inv k p (flipS S (6 * k + j) t) (F + 1) (if j < 3 then i0 + 1 else i0) (if j < 3 then i1 else i1 + 1) := by
  have hl : 6 * k + j < S.length := by rw [hS.len]; omega
  have out : ∀ i, i < 6 → j ≠ i → bad (flipS S (6 * k + j) t) (6 * k + i) = bad S (6 * k + i) ∧ byt (flipS S (6 * k + j) t) (6 * k + i) = byt S (6 * k + i) := fun i hi hij => by
    unfold flipS
    split
    · exact ⟨rfl, rfl⟩
    · rw [bad_set hl, byt_set hl, if_neg (by omega), if_neg (by omega)]; exact ⟨rfl, rfl⟩
  refine ⟨fun i hi => ?_, fun h0 i hi => ?_, fun h0 i hi hi2 => ?_⟩
  · by_cases e : j = i
    · subst e
      have hb := byt_ok hS (j := 6 * k + j) (by omega)
      rcases h.near j hj with ⟨h1, h2⟩ | ⟨h1, h2⟩
      · left
        unfold flipS; rw [if_pos ⟨h2, h1⟩]; exact ⟨h1, h2⟩
      · right
        unfold flipS
        rw [if_neg (fun e => by rw [h1] at e; exact Bool.false_ne_true e.2), bad_set hl, byt_set hl, if_pos rfl, if_pos rfl]
        refine ⟨h1, ?_⟩
        have := apN_flip (t := t) hb.2 (og_lt (k := k) hp j) 64
        show apN (flipB (byt S (6 * k + j)) t) (og k p j) 64 ≤ F + 1
        split at this <;> omega
    · obtain ⟨e1, e2⟩ := out i hi e
      rw [e1, e2]
      rcases h.near i hi with q | ⟨q1, q2⟩
      · exact .inl q
      · exact .inr ⟨q1, by omega⟩
  · have hj3 : ¬ j < 3 := fun q => by rw [if_pos q] at h0; omega
    rw [if_neg hj3] at h0
    obtain ⟨e1, e2⟩ := out i (by omega) (by omega)
    rw [e1, e2]; exact h.one h0 i hi
  · have hj3 : j < 3 := by
      rcases Nat.lt_or_ge j 3 with q | q
      · exact q
      · rw [if_neg (by omega)] at h0; omega
    rw [if_pos hj3] at h0
    obtain ⟨e1, e2⟩ := out i (by omega) (by omega)
    rw [e1, e2]; exact h.two h0 i hi hi2
theorem hit_intact {k a : Nat} {p : List Nat} {S : List Sec} (h0 : bad S a = false ∧ byt S a = p.take 64) (h1 : bad S (a + 1) = false ∧ byt S (a + 1) = p.drop 64) (h2 : bad S (a + 2) = false ∧ byt S (a + 2) = sealN k p) : hitB (sealN k) S a = true ∧ pg S a = p := by
  have e : pg S a = p := by unfold pg; rw [h0.2, h1.2, List.take_append_drop]
  exact ⟨by unfold hitB; rw [h0.1, h1.1, h2.1, e, h2.2, decide_eq_true rfl]; rfl, e⟩
theorem hit0 {k F i0 i1 : Nat} {p : List Nat} {S : List Sec} (h : Inv k p S F i0 i1) (h0 : i0 = 0) : hitB (sealN k) S (6 * k) = true ∧ pg S (6 * k) = p :=
  hit_intact (h.one h0 0 (by omega)) (h.one h0 1 (by omega)) (h.one h0 2 (by omega))
theorem hit1 {k F i0 i1 : Nat} {p : List Nat} {S : List Sec} (h : Inv k p S F i0 i1) (h0 : i1 = 0) : hitB (sealN k) S (6 * k + 3) = true ∧ pg S (6 * k + 3) = p :=
  hit_intact (h.two h0 3 (by omega) (by omega)) (h.two h0 4 (by omega) (by omega)) (h.two h0 5 (by omega) (by omega))
def digP (k : Nat) (p : List Nat) : List Nat := dig (msg (nbs k) p)
theorem near_dig {k F a : Nat} {p : List Nat} {S : List Sec} (hh : hitB (sealN k) S a = true) (hn : apN (byt S (a + 2)) (sealN k p) 64 ≤ F) : apN (digP k p) (digP k (pg S a)) 16 ≤ F := by
  unfold hitB at hh
  simp only [Bool.and_eq_true, decide_eq_true_eq] at hh
  rw [← hh.2, apN_comm] at hn
  have hd : ∀ q, ∀ i, i < 16 → (digP k q).getD i 0 = (sealN k q).getD i 0 := fun q i hi => by
    unfold sealN digP
    rw [List.getD_eq_getElem?_getD, List.getD_eq_getElem?_getD, List.getElem?_append_left (by rw [dig_len]; exact hi)]
  rw [apN_pre (hd p) (hd _)]
  exact Nat.le_trans (apN_mono _ _ (by omega)) hn
theorem hit_bad {k F i0 i1 j : Nat} {p : List Nat} {S : List Sec} (h : Inv k p S F i0 i1) (hj : j < 6) (hb : bad S (6 * k + j) = false) : apN (byt S (6 * k + j)) (og k p j) 64 ≤ F := by
  rcases h.near j hj with ⟨q, _⟩ | ⟨_, q⟩
  · rw [hb] at q; cases q
  · exact q
theorem get_law {k F i0 i1 : Nat} {p : List Nat} {S : List Sec} (h : Inv k p S F i0 i1) :
    (getE (sealN k) S k = 271 ∧ 0 < i0 ∧ 0 < i1) ∨ (getE (sealN k) S k = 0 ∧ apN (digP k p) (digP k (getP (sealN k) S k)) 16 ≤ F ∧ (i0 = 0 → getP (sealN k) S k = p)) := by
  have bad2 : ∀ a, hitB (sealN k) S a = true → bad S (a + 2) = false := fun a hh => by
    unfold hitB at hh
    simp only [Bool.and_eq_true, Bool.not_eq_true'] at hh
    exact hh.1.2
  by_cases h0 : hitB (sealN k) S (6 * k) = true
  · right
    refine ⟨by unfold getE; rw [if_pos h0], ?_, fun e => ?_⟩
    · unfold getP; rw [if_pos h0]
      exact near_dig h0 (hit_bad h (j := 2) (by omega) (bad2 _ h0))
    · unfold getP; rw [if_pos h0]; exact (hit0 h e).2
  · by_cases h1 : hitB (sealN k) S (6 * k + 3) = true
    · right
      refine ⟨by unfold getE; rw [if_neg h0, if_pos h1], ?_, fun e => absurd (hit0 h e).1 h0⟩
      unfold getP; rw [if_neg h0, if_pos h1]
      exact near_dig h1 (hit_bad h (j := 5) (by omega) (bad2 _ h1))
    · left
      refine ⟨by unfold getE; rw [if_neg h0, if_neg h1], ?_, ?_⟩
      · rcases Nat.eq_zero_or_pos i0 with e | e
        · exact absurd (hit0 h e).1 h0
        · exact e
      · rcases Nat.eq_zero_or_pos i1 with e | e
        · exact absurd (hit1 h e).1 h1
        · exact e
end Go.Proofs

namespace Go.Proofs
open Go Go.Eng
set_option maxRecDepth 100000
set_option maxHeartbeats 4000000
theorem _root_.Go.Eng.CallA.lend' {P : Program} {f : FuncId} {args args' : List AV} {H : Heap} {K Kc : AV → Heap → Prop} (keep : List (Nat × Bool)) (ha : renL (posOf keep) args = args') (h : CallA P f args' (gcH keep H) Kc) (hdis : Go.Eng.distinct keep = true) (hdata : allData H keep)
    (hlt : keep.all (fun x => Nat.blt x.1 H.nx) = true) (hK : ∀ c H', Kc c H' → backOk H' keep 0 ∧ K (ren (fun j => some (backK keep H.nx j)) c) (lendH keep H H')) (hit : lentOk keep H.get H.nx = true := by rfl) : CallA P f args H K :=
  CallA.lend keep (by rw [ha]; exact h) hdis hdata hlt hK hit
/-! ### The law: harm is told -/
structure Hm where
  (s b : Int) (r : Bool)
def hc : List Hm → List AV
  | [] => []
  | x :: r => .int .u16 x.s :: .int .u16 x.b :: .bool x.r :: hc r
theorem hc_at : ∀ (i : Nat) (l : List Hm) (h : i < l.length), (hc l).drop (i * 3) = .int .u16 l[i].s :: .int .u16 l[i].b :: .bool l[i].r :: hc (l.drop (i + 1))
  | i, [], h => by simp at h
  | 0, x :: r, _ => rfl
  | i + 1, x :: r, h => by
    have e : (i + 1) * 3 = (i * 3) + 1 + 1 + 1 := by omega
    rw [e]
    exact hc_at i r (by simpa using h)
theorem nt0 {cs : List AV} {a b c : AV} {r : List AV} {K : AV → Prop} (e : cs = a :: b :: c :: r) (h : fv a K) : nthK 0 (cs.drop 0) K := by subst e; exact h
theorem nt1 {cs : List AV} {a b c : AV} {r : List AV} {K : AV → Prop} (e : cs = a :: b :: c :: r) (h : fv b K) : nthK 0 (cs.drop (0 + 1)) K := by subst e; exact h
theorem nt2 {cs : List AV} {a b c : AV} {r : List AV} {K : AV → Prop} (e : cs = a :: b :: c :: r) (h : fv c K) : nthK 0 (cs.drop (0 + 1 + 1)) K := by subst e; exact h
theorem i64w {n : Int} (h : -1000000 ≤ n) (k : n ≤ 1000000) : IntKind.i64.min ≤ n ∧ n ≤ IntKind.i64.max := by
  have e1 : IntKind.i64.min = -9223372036854775808 := rfl
  have e2 : IntKind.i64.max = 9223372036854775807 := rfl
  omega
def S0 (n : Nat) : List Sec := List.replicate n (zb, false)
theorem S0_ok (n : Nat) : OkX (S0 n) n := by
  refine ⟨by simp [S0], fun x hx => ?_⟩
  rw [(List.mem_replicate.1 hx).2]
  exact ⟨rfl, by decide⟩
theorem rep_flat : ∀ n, rep (secA (zb, false)) n = (chS (S0 n)).flatten
  | 0 => rfl
  | n + 1 => by
    rw [rep, rep_flat n]; rfl
def putS : List Sec → Nat → List (List Nat) → List Sec
  | S, _, [] => S
  | S, a, x :: r => putS (S.set a (x, false)) (a + 1) r
theorem fin_put : ∀ (xs : List (List Nat)) (S : List Sec) (a : Nat), fin (chS S) (ents a xs) = chS (putS S a xs)
  | [], _, _ => rfl
  | x :: r, S, a => by
    show fin ((chS S).set a (x.map B ++ [.bool false])) (ents (a + 1) r) = chS (putS (S.set a (x, false)) (a + 1) r)
    rw [← fin_put r, chS, chS, List.map_set]; rfl
theorem put_len : ∀ (xs : List (List Nat)) (S : List Sec) (a : Nat), (putS S a xs).length = S.length
  | [], _, _ => rfl
  | x :: r, S, a => by rw [putS, put_len r, List.length_set]
theorem put_before : ∀ (xs : List (List Nat)) (S : List Sec) (a i : Nat), i < a → a + xs.length ≤ S.length → byt (putS S a xs) i = byt S i ∧ bad (putS S a xs) i = bad S i
  | [], _, _, _, _, _ => ⟨rfl, rfl⟩
  | x :: r, S, a, i, h, hl => by
    simp only [List.length_cons] at hl
    obtain ⟨h1, h2⟩ := put_before r (S.set a (x, false)) (a + 1) i (by omega) (by rw [List.length_set]; omega)
    rw [putS, h1, h2, byt_set (by omega), bad_set (by omega), if_neg (by omega), if_neg (by omega)]
    exact ⟨rfl, rfl⟩
theorem put_at : ∀ (xs : List (List Nat)) (S : List Sec) (a j : Nat), j < xs.length → a + xs.length ≤ S.length → byt (putS S a xs) (a + j) = xs.getD j [] ∧ bad (putS S a xs) (a + j) = false
  | [], _, _, _, h, _ => by simp at h
  | x :: r, S, a, 0, h, hl => by
    simp only [List.length_cons] at hl
    obtain ⟨h1, h2⟩ := put_before r (S.set a (x, false)) (a + 1) (a + 0) (by omega) (by rw [List.length_set]; omega)
    rw [putS, h1, h2, byt_set (by omega), bad_set (by omega), if_pos (by omega), if_pos (by omega)]
    exact ⟨rfl, rfl⟩
  | x :: r, S, a, j + 1, h, hl => by
    simp only [List.length_cons] at hl h
    obtain ⟨h1, h2⟩ := put_at r (S.set a (x, false)) (a + 1) j (by omega) (by rw [List.length_set]; omega)
    rw [putS, show a + (j + 1) = a + 1 + j by omega, h1, h2]
    exact ⟨rfl, rfl⟩
theorem put_ok : ∀ {xs : List (List Nat)} {S : List Sec} {a n : Nat}, OkX S n → (∀ x ∈ xs, x.length = 64 ∧ ∀ y ∈ x, y < 256) → OkX (putS S a xs) n
  | [], _, _, _, h, _ => h
  | x :: r, S, a, n, h, hx => put_ok (xs := r) (h.set (hx x (by simp)).1 (hx x (by simp)).2) fun y hy => hx y (by simp [hy])
def six (k : Nat) (p : List Nat) : List (List Nat) := [p.take 64, p.drop 64, sealN k p, p.take 64, p.drop 64, sealN k p]
theorem six_ok {k : Nat} {p : List Nat} (hp : p.length = 128) (hpb : ∀ x ∈ p, x < 256) : ∀ x ∈ six k p, x.length = 64 ∧ ∀ y ∈ x, y < 256 := by
  have h1 : (p.take 64).length = 64 ∧ ∀ y ∈ p.take 64, y < 256 := ⟨by simp [hp], fun y hy => hpb y (List.mem_of_mem_take hy)⟩
  have h2 : (p.drop 64).length = 64 ∧ ∀ y ∈ p.drop 64, y < 256 := ⟨by simp [hp], fun y hy => hpb y (List.mem_of_mem_drop hy)⟩
  have h3 : (sealN k p).length = 64 ∧ ∀ y ∈ sealN k p, y < 256 := ⟨sealN_len k p, sealN_lt⟩
  intro x hx
  simp only [six, List.mem_cons, List.not_mem_nil, or_false] at hx
  rcases hx with rfl | rfl | rfl | rfl | rfl | rfl
  · exact h1
  · exact h2
  · exact h3
  · exact h1
  · exact h2
  · exact h3
theorem put_inv {k n : Nat} {p : List Nat} {S : List Sec} (hS : S.length = n) (hn : 6 * k + 6 ≤ n) : Inv k p (putS S (6 * k) (six k p)) 0 0 0 :=
  inv0 fun j hj => by
    obtain ⟨h1, h2⟩ := put_at (six k p) S (6 * k) j (by simpa [six] using hj) (by simp [six]; omega)
    exact ⟨h2, h1⟩
theorem rflip' {x k : Nat} {w : Int} (hx : x < 256) (hk : k < 8) (hw : w = (k : Int)) : IntKind.u8.wrap (BitVec.ofInt IntKind.u8.bits (x : Int) ^^^ BitVec.ofInt IntKind.u8.bits (IntKind.u8.wrap (1 * 2 ^ min w.toNat IntKind.u8.bits))).toNat = ((x ^^^ 2 ^ k : Nat) : Int) := by
  subst hw; exact rflip hx hk
theorem tk65S {S : List Sec} {i off : Nat} {K : List AV → Prop} (h : i < S.length) (hl : ∀ x ∈ S, x.1.length = 64) (e : off = i * 65) (hk : K (secA S[i])) : takeK 65 ((chS S).flatten.drop off) K := by
  subst e
  have h1 := secA_len (hl S[i] (List.getElem_mem h))
  rw [flat_drop h hl, takeK_eq _ _ _ (by simp [h1]), List.take_append_of_le_length (by omega), List.take_of_length_le (by omega)]
  exact hk
theorem tk65x {x : Sec} {K : List AV → Prop} (h : x.1.length = 64) (hk : K (secA x)) : takeK 65 ((secA x).drop 0) K := by
  have h1 := secA_len h
  rw [List.drop_zero, takeK_eq _ _ _ (by omega), List.take_of_length_le (by omega)]
  exact hk
theorem scal_sec (x : Sec) : ∀ c ∈ secA x, scal c = true := by
  intro c hc
  rcases List.mem_append.1 hc with h | h
  · exact scal_bs _ c h
  · rw [List.mem_singleton.1 h]; rfl
theorem chS_set (S : List Sec) (j : Nat) (x : Sec) : (chS S).set j (secA x) = chS (S.set j x) := by rw [chS, chS, List.map_set]
theorem getP_ok {sl : List Nat → List Nat} {S : List Sec} {n k : Nat} (hS : OkX S n) (hk : 6 * k + 6 ≤ n) : (getP sl S k).length = 128 ∧ ∀ y ∈ getP sl S k, y < 256 := by
  have pgo : ∀ a, a + 1 < n → (pg S a).length = 128 ∧ ∀ y ∈ pg S a, y < 256 := fun a ha => by
    have h1 := byt_ok hS (j := a) (by omega)
    have h2 := byt_ok hS (j := a + 1) ha
    refine ⟨by simp [pg, h1.1, h2.1], fun y hy => ?_⟩
    rcases List.mem_append.1 hy with h | h
    · exact h1.2 y h
    · exact h2.2 y h
  unfold getP
  split
  · exact pgo _ (by omega)
  · split
    · exact pgo _ (by omega)
    · exact ⟨rfl, by decide⟩
theorem dig_lt (m : List Nat) : ∀ x ∈ dig m, x < 256 := by
  intro x hx
  have hx := List.mem_of_mem_take hx
  simp only [outN, out4, List.mem_append, List.mem_cons, List.not_mem_nil, or_false] at hx
  have : ∀ y : Nat, y % 256 < 256 := fun y => Nat.mod_lt _ (by omega)
  rcases hx with ((((((h | h) | h) | h) | h) | h) | h) | h <;> (rcases h with rfl | rfl | rfl | rfl <;> exact this _)
def LH (p : List Nat) (l : List Hm) (cap : Option Nat) (m : Nat) (fr : Fr) (H : Heap) : Prop := ∃ (i : Nat) (S : List Sec) (F i0 i1 : Nat), i ≤ l.length ∧ m = l.length - i ∧ OkX S 6 ∧ Inv 0 p S F i0 i1 ∧ i0 + i1 = i ∧ F ≤ i ∧ fr = [(1, .dslice (hc l) l.length cap), (2, .ptr 0 0), (5, .ptr 1 0), (6, .ptr 4 0), (9, I F), (10, I i)] ∧ H = hL (p.map B) 6 7 (chS S) [] 1
theorem c7 (p : List Nat) (l : List Hm) (cap : Option Nat) (hp : p.length = 128) (hpb : ∀ x ∈ p, x < 256) (hl : ∀ x ∈ l, 0 ≤ x.s ∧ x.s ≤ 65535 ∧ 0 ≤ x.b ∧ x.b ≤ 65535) : CallA Tryd.prog 7 [.agg (p.map B), .dslice (hc l) l.length cap] Heap.nil fun v H' => v = .bool true ∧ H' = Heap.nil := by
  refine callA_of ok7 (Nat.le_of_ble_eq_true rfl) ?_
  by_cases h60 : l.length ≤ 60
  · have h24 : CallA Tryd.prog 24 [.ptr 4 0, .agg (p.map B)] ⟨6, [(0, .cells (p.map B)), (1, .cells [.slice 2 0 6 (some 6) 65, .map 3, I 0, I (-1), .bool false]), (2, .cells (rep (secA (zb, false)) 6)), (3, .map []), (4, .cells [.ptr 1 0, .map 5]), (5, .map [])]⟩ fun v H' => v = .tuple [I 0, I 0] ∧ H' = hL (p.map B) 6 7 (chS (putS (S0 6) 0 (six 0 p))) [] 1 := by
      have h := c24 (p.map B) 6 0 (chS (S0 6)) 0 p (dat_bs p) (by omega) (by omega) (by omega) (by omega) (S0_ok 6).c hp hpb
      rw [← fin_put, rep_flat]
      exact h
    have hS1 : OkX (putS (S0 6) 0 (six 0 p)) 6 := put_ok (S0_ok 6) (six_ok hp hpb)
    have hI1 : Inv 0 p (putS (S0 6) 0 (six 0 p)) 0 0 0 := put_inv (n := 6) (by simp [S0]) (by omega)
    generalize putS (S0 6) 0 (six 0 p) = S1 at h24 hS1 hI1
    have hcd : ∀ c ∈ (chS S1).flatten, noLoc c = true := fun c hc => by
      obtain ⟨d, hd, hc⟩ := List.mem_flatten.1 hc
      exact (hS1.c.sz d hd).2 c hc
    have hra : renL (posOf [(0, true), (3, false), (1, true), (2, true), (5, false), (4, true)]) [.ptr 5 0, .agg (p.map B)] = [.ptr 4 0, .agg (p.map B)] := by
      show [AV.ptr 4 0, .agg (renL _ (p.map B))] = _
      rw [renL_data _ _ (noLocL_bs p)]
    repeat' ((conv => whnf); first
        | refine Branch.ofT rfl ?_
        | refine Branch.ofF rfl ?_
        | refine Branch.ofF (decide_eq_false (by omega)) ?_
        | refine Branch.dec (fun h => ?_) (fun h => ?_)
        | refine Branch.negdec (fun h => ?_) (fun h => ?_)
        | refine Branch.neg (fun h => ?_) (fun h => ?_)
        | refine Branch.mk (fun h => ?_) (fun h => ?_)
        | (refine Side.mk ?_ ?_; · first | omega | decide)
        | (refine SideD.mk ?_ ?_; · first | omega | decide)
        | refine ⟨_, Nat.lt_succ_self _, To.refl (.inl ⟨rfl, ?_⟩)⟩
        | refine callA_of ok22 (Nat.le_of_ble_eq_true rfl) ?_
        | refine callA_of ok23 (Nat.le_of_ble_eq_true rfl) ?_
        | refine RetA.same ?_
        | refine tkP hp (by rfl) ?_
        | (refine CallA.lend' [(0, true), (3, false), (1, true), (2, true), (5, false), (4, true)] hra h24 rfl ⟨dat_bs p, dat rfl, trivial, trivial, trivial⟩ rfl ?_; rintro c H' ⟨rfl, rfl⟩; refine ⟨⟨dat_bs p, hcd, trivial, trivial, trivial⟩, ?_⟩)
        | (refine Side.mk ?_ ?_; · (simp; done))
        | fail
        )
    all_goals (conv => whnf)
    refine ⟨LH p l cap, l.length, To.gc [(0, true), (3, false), (1, true), (2, true), (5, false), (4, true)] [1, 2, 5, 6, 9, 10] rfl ⟨dat_bs p, hcd, trivial, trivial, trivial⟩ ⟨0, S1, 0, 0, 0, by omega, by omega, hS1, hI1, rfl, by omega, rfl, rfl⟩, ?_⟩
    clear hcd
    rintro m fr H ⟨i, S, F, i0, i1, hi, rfl, hS, hI, hi01, hF, rfl, rfl⟩
    have hcd : ∀ c ∈ (chS S).flatten, noLoc c = true := fun c hc => by
      obtain ⟨d, hd, hc⟩ := List.mem_flatten.1 hc
      exact (hS.c.sz d hd).2 c hc
    by_cases hil : i < l.length
    · have hat := hc_at i l hil
      have hlx := hl _ (List.getElem_mem hil)
      obtain ⟨j, hj⟩ : ∃ j : Nat, l[i].s % 6 = j := ⟨(l[i].s % 6).toNat, by omega⟩
      obtain ⟨t, ht⟩ : ∃ t : Nat, l[i].b % 512 = t := ⟨(l[i].b % 512).toNat, by omega⟩
      have hj6 : j < 6 := by omega
      have ht5 : t < 512 := by omega
      have hSl : ∀ x ∈ S, x.1.length = 64 := fun x hx => (hS.sz x hx).1
      have hjl : j < S.length := by rw [hS.len]; exact hj6
      have q0 := hSl _ (List.getElem_mem hjl)
      have qb := (hS.sz _ (List.getElem_mem hjl)).2
      have hch : ∀ c ∈ chS S, c.length = 65 := fun c hc => (hS.c.sz c hc).1
      have iR := inv_rot (k := 0) (j := j) hI hS (by omega) hj6
      have iF := inv_flip (k := 0) (j := j) (t := t) hI hS (by omega) hj6 hpb
      have oF := hS.flip (j := j) hj6 t
      rw [show 6 * 0 + j = j by omega] at iR iF
      have dO : ∀ T, OkX T 6 → ∀ c ∈ (chS T).flatten, noLoc c = true := fun T hT c hc => by
        obtain ⟨d, hd, hc⟩ := List.mem_flatten.1 hc
        exact (hT.c.sz d hd).2 c hc
      have dR : ∀ c ∈ ((chS S).set j (secA (zb, true))).flatten, noLoc c = true := by rw [chS_set]; exact dO _ (hS.rot j)
      have hf1 : (decide (S[j].1 = zb) && S[j].2) = false → flipS S j t = S.set j (flipB S[j].1 t, S[j].2) := fun h => by
        unfold flipS
        rw [byt_at hjl, bad_at hjl, if_neg (fun e => by rw [e.1, e.2] at h; simp at h)]
      have hf2 : (decide (S[j].1 = zb) && S[j].2) = true → flipS S j t = S := fun h => by
        simp only [Bool.and_eq_true, decide_eq_true_eq] at h
        unfold flipS
        rw [byt_at hjl, bad_at hjl, if_pos h]
      repeat' ((conv => whnf); first
          | refine Branch.ofT rfl ?_
          | refine Branch.ofF rfl ?_
          | refine Branch.ofT (decide_eq_true (by omega)) ?_
          | refine Branch.ofF (decide_eq_false (by omega)) ?_
          | refine Branch.dec (fun h => ?_) (fun h => ?_)
          | refine Branch.negdec (fun h => ?_) (fun h => ?_)
          | refine Branch.neg (fun h => ?_) (fun h => ?_)
          | refine Branch.mk (fun h => ?_) (fun h => ?_)
          | (refine Side.mk ?_ ?_; · first | omega | decide)
          | (refine SideD.mk ?_ ?_; · first | omega | decide)
          | refine ⟨_, Nat.lt_succ_self _, To.refl (.inl ⟨rfl, ?_⟩)⟩
          | refine nt0 hat ?_
          | refine nt1 hat ?_
          | refine nt2 hat ?_
          | refine Side.mk (i64w (by omega) (by omega)) ?_
          | refine callA_of ok25 (Nat.le_of_ble_eq_true rfl) ?_
          | refine callA_of ok26 (Nat.le_of_ble_eq_true rfl) ?_
          | refine callA_of ok39 (Nat.le_of_ble_eq_true rfl) ?_
          | refine RetA.same ?_
          | refine stCh (i := j) (by omega) (by simpa [chS] using hjl) hch (by rfl) (by rfl) ?_
          | refine tk65S hjl hSl (by omega) ?_
          | refine condT (by rw [secA_len q0]; rfl) ?_
          | refine lputA (by rw [secA_len q0]; rfl) (List.all_eq_true.2 (scal_sec _)) ?_
          | refine tk65x q0 ?_
          | refine eqB65 (by rfl) (by rfl) q0 ?_
          | refine ldByte (o := t / 8) hjl hSl (by omega) (by omega) ?_
          | refine stByte (t := t) hjl hSl ht5 (by omega) (rflip' (getD_lt qb (by omega) _) (Nat.mod_lt _ (by omega)) (by omega)) ?_
          | (refine Side.mk ?_ ?_; · (simp; done))
          | fail
          )
      all_goals (conv => whnf)
      · exact ⟨l.length - (i + 1), by omega, To.gc [(0, true), (1, false), (2, true), (3, true), (4, false), (5, true)] [1, 2, 5, 6, 9, 10] rfl ⟨dat_bs p, dR, trivial, trivial, trivial⟩ ⟨i + 1, rotS S j, F, _, _, by omega, rfl, hS.rot j, iR, by split <;> omega, by omega, rfl, by rw [rotS, ← chS_set]; rfl⟩⟩
      · rw [hf1 h] at iF oF
        exact ⟨l.length - (i + 1), by omega, To.gc [(0, true), (1, false), (2, true), (3, true), (4, false), (5, true)] [1, 2, 5, 6, 9, 10] rfl ⟨dat_bs p, dO _ oF, trivial, trivial, trivial⟩ ⟨i + 1, _, F + 1, _, _, by omega, rfl, oF, iF, by split <;> omega, by omega, rfl, rfl⟩⟩
      · rw [hf2 h] at iF oF
        exact ⟨l.length - (i + 1), by omega, To.gc [(0, true), (1, false), (2, true), (3, true), (4, false), (5, true)] [1, 2, 5, 6, 9, 10] rfl ⟨dat_bs p, hcd, trivial, trivial, trivial⟩ ⟨i + 1, _, F + 1, _, _, by omega, rfl, oF, iF, by split <;> omega, by omega, rfl, rfl⟩⟩
    · have : i = l.length := by omega
      subst this
      have h27 := c27 (p.map B) 6 7 S 1 0 (dat_bs p) (by omega) (by omega) (by omega) (by omega) hS
      have hlaw := get_law hI
      have hPl : (getP (sealN 0) S 0).length = 128 ∧ ∀ y ∈ getP (sealN 0) S 0, y < 256 := getP_ok hS (by omega)
      generalize getP (sealN 0) S 0 = q at h27 hlaw hPl
      generalize getE (sealN 0) S 0 = e at h27 hlaw
      have h29p : CallA Tryd.prog 29 [I (0 : Nat), .agg (p.map B)] Heap.nil fun v H' => v = .agg ((digP 0 p).map B) ∧ H' = Heap.nil := c29 0 p (by omega) hp hpb
      have h29q : CallA Tryd.prog 29 [I (0 : Nat), .agg (q.map B)] Heap.nil fun v H' => v = .agg ((digP 0 q).map B) ∧ H' = Heap.nil := c29 0 q (by omega) hPl.1 hPl.2
      have h28 := c28 (digP 0 p) (digP 0 q) (dig_len _) (dig_len _) (dig_lt _) (dig_lt _)
      have hnp : noLocL [I (0 : Nat), .agg (p.map B)] = true := by simp only [noLocL, noLoc, noLocL_bs, Bool.and_self]
      have hnq : noLocL [I (0 : Nat), .agg (q.map B)] = true := by simp only [noLocL, noLoc, noLocL_bs, Bool.and_self]
      have hnd : noLocL [.agg ((digP 0 p).map B), .agg ((digP 0 q).map B)] = true := by simp only [noLocL, noLoc, noLocL_bs, Bool.and_self]
      rcases hlaw with ⟨rfl, h0, h1⟩ | ⟨rfl, hap, _⟩
      · repeat' ((conv => whnf); first
            | refine Branch.ofT rfl ?_
            | refine Branch.ofF rfl ?_
            | refine Branch.ofT (decide_eq_true (by omega)) ?_
            | refine Branch.ofF (decide_eq_false (by omega)) ?_
            | refine Branch.dec (fun h => ?_) (fun h => ?_)
            | refine Branch.negdec (fun h => ?_) (fun h => ?_)
            | refine Branch.neg (fun h => ?_) (fun h => ?_)
            | refine Branch.mk (fun h => ?_) (fun h => ?_)
            | (refine Side.mk ?_ ?_; · first | omega | decide)
            | (refine SideD.mk ?_ ?_; · first | omega | decide)
            | refine ⟨_, Nat.lt_succ_self _, To.refl (.inl ⟨rfl, ?_⟩)⟩
            | refine CallA.ext h27 (fun v H' hv => ⟨_, rfl, rfl, ?_⟩)
            | (obtain ⟨rfl, rfl⟩ := hv)
            | refine condT (by rw [List.length_map, hPl.1]; rfl) ?_
            | refine lputA (by rw [List.length_map, hPl.1]; rfl) (List.all_eq_true.2 (scal_bs _)) ?_
            | refine CallA.pure c8 rfl rfl ?_
            | refine QCallA.of c8 rfl rfl ?_
            | refine tkP hPl.1 (by rfl) ?_
            | refine tkP hp (by rfl) ?_
            | refine eqB (n := 128) (by rfl) hPl.1 hp ?_
            | refine QCallA.of h29p hnp (noLocL_bs _) ?_
            | refine QCallA.of h29q hnq (noLocL_bs _) ?_
            | refine QCallA.of h28 hnd rfl ?_
            | refine RetA.data rfl ⟨?_, rfl⟩
            | (refine Side.mk ?_ ?_; · (simp; done))
            | fail
            )
        all_goals (conv => whnf)
        show AV.bool (decide ((2 : Int) ≤ (l.length : Int))) = _
        rw [decide_eq_true (by omega)]
      · repeat' ((conv => whnf); first
            | refine Branch.ofT rfl ?_
            | refine Branch.ofF rfl ?_
            | refine Branch.ofT (decide_eq_true (by omega)) ?_
            | refine Branch.ofF (decide_eq_false (by omega)) ?_
            | refine Branch.dec (fun h => ?_) (fun h => ?_)
            | refine Branch.negdec (fun h => ?_) (fun h => ?_)
            | refine Branch.neg (fun h => ?_) (fun h => ?_)
            | refine Branch.mk (fun h => ?_) (fun h => ?_)
            | (refine Side.mk ?_ ?_; · first | omega | decide)
            | (refine SideD.mk ?_ ?_; · first | omega | decide)
            | refine ⟨_, Nat.lt_succ_self _, To.refl (.inl ⟨rfl, ?_⟩)⟩
            | refine CallA.ext h27 (fun v H' hv => ⟨_, rfl, rfl, ?_⟩)
            | (obtain ⟨rfl, rfl⟩ := hv)
            | refine condT (by rw [List.length_map, hPl.1]; rfl) ?_
            | refine lputA (by rw [List.length_map, hPl.1]; rfl) (List.all_eq_true.2 (scal_bs _)) ?_
            | refine CallA.pure c8 rfl rfl ?_
            | refine QCallA.of c8 rfl rfl ?_
            | refine tkP hPl.1 (by rfl) ?_
            | refine tkP hp (by rfl) ?_
            | refine eqB (n := 128) (by rfl) hPl.1 hp ?_
            | refine QCallA.of h29p hnp (noLocL_bs _) ?_
            | refine QCallA.of h29q hnq (noLocL_bs _) ?_
            | refine QCallA.of h28 hnd rfl ?_
            | refine RetA.data rfl ⟨?_, rfl⟩
            | (refine Side.mk ?_ ?_; · (simp; done))
            | fail
            )
        all_goals (conv => whnf)
        · rfl
        · show AV.bool (decide ((apN (digP 0 p) (digP 0 q) 16 : Int) ≤ (F : Int))) = _
          rw [decide_eq_true (by omega)]
  · repeat' ((conv => whnf); first
        | refine Branch.ofT rfl ?_
        | refine Branch.ofF rfl ?_
        | refine Branch.ofT (decide_eq_true (by omega)) ?_
        | refine Branch.dec (fun h => ?_) (fun h => ?_)
        | refine Branch.negdec (fun h => ?_) (fun h => ?_)
        | refine Branch.neg (fun h => ?_) (fun h => ?_)
        | refine Branch.mk (fun h => ?_) (fun h => ?_)
        | (refine Side.mk ?_ ?_; · first | omega | decide)
        | (refine SideD.mk ?_ ?_; · first | omega | decide)
        | refine ⟨_, Nat.lt_succ_self _, To.refl (.inl ⟨rfl, ?_⟩)⟩
        | refine callA_of ok22 (Nat.le_of_ble_eq_true rfl) ?_
        | refine CallA.pure c8 rfl rfl ?_
        | refine RetA.data rfl ⟨rfl, rfl⟩
        | refine RetA.same ?_
        | (refine Side.mk ?_ ?_; · (simp; done))
        | fail
        )
    all_goals (conv => whnf)
    all_goals rfl
end Go.Proofs

namespace Go.Proofs
open Go Go.Eng
set_option maxRecDepth 100000
set_option maxHeartbeats 4000000
/-! ### The law: a page outlives harm to one of its copies -/
def LP6 (p : List Nat) (n : Nat) (z : Bool) (l : List Hm) (cap : Option Nat) (m : Nat) (fr : Fr) (H : Heap) : Prop := ∃ (i : Nat) (S : List Sec), i ≤ n + 1 ∧ m = n + 1 - i ∧ OkX S 48 ∧ (i = n + 1 → Inv n p S 0 0 0) ∧ fr = [(2, .bool z), (3, .dslice (hc l) l.length cap), (4, .ptr 0 0), (9, .ptr 1 0), (10, .ptr 4 0), (11, I n), (12, I i)] ∧ H = hL (p.map B) 48 (7 * i) (chS S) [] i
def LH6 (p : List Nat) (n off : Nat) (z : Bool) (l : List Hm) (cap : Option Nat) (m : Nat) (fr : Fr) (H : Heap) : Prop := ∃ (i : Nat) (S : List Sec) (F i0 i1 : Nat), i ≤ l.length ∧ m = l.length - i ∧ OkX S 48 ∧ Inv n p S F i0 i1 ∧ (off = 3 → i0 = 0) ∧ (off = 0 → i1 = 0) ∧ F ≤ i ∧ fr = [(2, .bool z), (3, .dslice (hc l) l.length cap), (4, .ptr 0 0), (9, .ptr 1 0), (10, .ptr 4 0), (11, I n), (15, I (6 * n + off : Nat)), (16, I F), (17, I i)] ∧ H = hL (p.map B) 48 (7 * (n + 1)) (chS S) [] (n + 1)
theorem c6 (p : List Nat) (slot : Int) (z : Bool) (l : List Hm) (cap : Option Nat) (hp : p.length = 128) (hpb : ∀ x ∈ p, x < 256) (hsl : 0 ≤ slot ∧ slot ≤ 255) (hl : ∀ x ∈ l, 0 ≤ x.s ∧ x.s ≤ 65535 ∧ 0 ≤ x.b ∧ x.b ≤ 65535) : CallA Tryd.prog 6 [.agg (p.map B), .int .u8 slot, .bool z, .dslice (hc l) l.length cap] Heap.nil fun v H' => v = .bool true ∧ H' = Heap.nil := by
  refine callA_of ok6 (Nat.le_of_ble_eq_true rfl) ?_
  have dO : ∀ T, OkX T 48 → ∀ c ∈ (chS T).flatten, noLoc c = true := fun T hT c hc => by
    obtain ⟨d, hd, hc⟩ := List.mem_flatten.1 hc
    exact (hT.c.sz d hd).2 c hc
  have hd48 : ∀ c ∈ rep (secA (zb, false)) 48, noLoc c = true := by rw [rep_flat]; exact dO _ (S0_ok 48)
  obtain ⟨n, hn⟩ : ∃ n : Nat, slot % 8 = n := ⟨(slot % 8).toNat, by omega⟩
  have hn8 : n < 8 := by omega
  by_cases h40 : l.length ≤ 40
  · repeat' ((conv => whnf); first
        | refine Branch.ofT rfl ?_
        | refine Branch.ofF rfl ?_
        | refine Branch.ofF (decide_eq_false (by omega)) ?_
        | refine Branch.dec (fun h => ?_) (fun h => ?_)
        | refine Branch.negdec (fun h => ?_) (fun h => ?_)
        | refine Branch.neg (fun h => ?_) (fun h => ?_)
        | refine Branch.mk (fun h => ?_) (fun h => ?_)
        | (refine Side.mk ?_ ?_; · first | omega | decide)
        | (refine SideD.mk ?_ ?_; · first | omega | decide)
        | refine ⟨_, Nat.lt_succ_self _, To.refl (.inl ⟨rfl, ?_⟩)⟩
        | refine callA_of ok22 (Nat.le_of_ble_eq_true rfl) ?_
        | refine callA_of ok23 (Nat.le_of_ble_eq_true rfl) ?_
        | refine RetA.same ?_
        | refine Side.mk (i64w (by omega) (by omega)) ?_
        | (refine Side.mk ?_ ?_; · (simp; done))
        | fail
        )
    all_goals (conv => whnf)
    refine ⟨LP6 p n z l cap, n + 1, To.gc [(0, true), (3, false), (1, true), (2, true), (5, false), (4, true)] [2, 3, 4, 9, 10, 11, 12] rfl ⟨dat_bs p, hd48, trivial, trivial, trivial⟩ ⟨0, S0 48, by omega, by omega, S0_ok 48, fun h => by omega, by rw [← hn]; rfl, by unfold hL; rw [← rep_flat]; rfl⟩, ?_⟩
    rintro m fr H ⟨i, S, hi, rfl, hS, hI, rfl, rfl⟩
    by_cases hin : i ≤ n
    · have h24 := c24 (p.map B) 48 (7 * i) (chS S) i p (dat_bs p) (by omega) (by omega) (by omega) (by omega) hS.c hp hpb
      have hS1 : OkX (putS S (6 * i) (six i p)) 48 := put_ok hS (six_ok hp hpb)
      have hI1 : Inv i p (putS S (6 * i) (six i p)) 0 0 0 := put_inv (n := 48) hS.len (by omega)
      have ef : fin (chS S) (ents (6 * i) [p.take 64, p.drop 64, sealN i p, p.take 64, p.drop 64, sealN i p]) = chS (putS S (6 * i) (six i p)) := fin_put _ S (6 * i)
      rw [ef] at h24
      generalize putS S (6 * i) (six i p) = S1 at h24 hS1 hI1
      have hI2 : i + 1 = n + 1 → Inv n p S1 0 0 0 := fun h => by
        have e : i = n := by omega
        rw [← e]; exact hI1
      have hna : noLocL [.agg (p.map B)] = true := by simp only [noLocL, noLoc, noLocL_bs, Bool.and_self]
      repeat' ((conv => whnf); first
          | refine Branch.ofT rfl ?_
          | refine Branch.ofF rfl ?_
          | refine Branch.ofT (decide_eq_true (by omega)) ?_
          | refine Branch.negdec (fun hn => absurd rfl hn) (fun _ => ?_)
          | refine Branch.dec (fun h => ?_) (fun h => ?_)
          | refine Branch.negdec (fun h => ?_) (fun h => ?_)
          | refine Branch.neg (fun h => ?_) (fun h => ?_)
          | refine Branch.mk (fun h => ?_) (fun h => ?_)
          | (refine Side.mk ?_ ?_; · first | omega | decide)
          | (refine SideD.mk ?_ ?_; · first | omega | decide)
          | refine ⟨_, Nat.lt_succ_self _, To.refl (.inl ⟨rfl, ?_⟩)⟩
          | refine tkP hp (by rfl) ?_
          | refine CallA.ext h24 (fun v H' hv => ⟨_, rfl, rfl, ?_⟩)
          | (obtain ⟨rfl, rfl⟩ := hv)
          | (refine Side.mk ?_ ?_; · (simp; done))
          | fail
          )
      all_goals (conv => whnf)
      exact ⟨n + 1 - (i + 1), by omega, To.gc [(0, true), (1, false), (2, true), (3, true), (4, false), (5, true)] [2, 3, 4, 9, 10, 11, 12] rfl ⟨dat_bs p, dO _ hS1, trivial, trivial, trivial⟩ ⟨i + 1, S1, by omega, rfl, hS1, hI2, rfl, rfl⟩⟩
    · have : i = n + 1 := by omega
      subst this
      have hI := hI rfl
      have hT : ∃ off : Nat, (z = true → off = 3) ∧ (z = false → off = 0) := by
        cases z
        · exact ⟨0, by simp, by simp⟩
        · exact ⟨3, by simp, by simp⟩
      obtain ⟨off, ho1, ho2⟩ := hT
      have hoff3 : off = 0 ∨ off = 3 := by cases z <;> simp at ho1 ho2 <;> omega
      have e15 : off = 3 → ((6 * n + off : Nat) : Int) = 6 * (n : Int) + 3 := fun h => by omega
      have e16 : off = 0 → ((6 * n + off : Nat) : Int) = 6 * (n : Int) := fun h => by omega
      repeat' ((conv => whnf); first
          | refine Branch.ofT rfl ?_
          | refine Branch.ofF rfl ?_
          | refine Branch.ofF (decide_eq_false (by omega)) ?_
          | refine Branch.dec (fun h => ?_) (fun h => ?_)
          | refine Branch.negdec (fun h => ?_) (fun h => ?_)
          | refine Branch.neg (fun h => ?_) (fun h => ?_)
          | refine Branch.mk (fun h => ?_) (fun h => ?_)
          | (refine Side.mk ?_ ?_; · first | omega | decide)
          | (refine SideD.mk ?_ ?_; · first | omega | decide)
          | refine ⟨_, Nat.lt_succ_self _, To.refl (.inl ⟨rfl, ?_⟩)⟩
          | (refine Side.mk ?_ ?_; · (simp; done))
          | fail
          )
      all_goals (conv => whnf)
      · have hz : z = true := h
        have ho := ho1 h
        refine ⟨LH6 p n off z l cap, l.length, To.gc [(0, true), (1, false), (2, true), (3, true), (4, false), (5, true)] [2, 3, 4, 9, 10, 11, 15, 16, 17] rfl ⟨dat_bs p, dO _ hS, trivial, trivial, trivial⟩ ⟨0, S, 0, 0, 0, by omega, by omega, hS, hI, fun _ => rfl, fun _ => rfl, by omega, by rw [e15 ho]; rfl, rfl⟩, ?_⟩
        rintro m fr H ⟨i, S, F, i0, i1, hi, rfl, hS, hI, h0, h1, hF, rfl, rfl⟩
        have hcd := dO S hS
        by_cases hil : i < l.length
        · have hat := hc_at i l hil
          have hlx := hl _ (List.getElem_mem hil)
          obtain ⟨j, hj⟩ : ∃ j : Nat, l[i].s % 3 = j := ⟨(l[i].s % 3).toNat, by omega⟩
          obtain ⟨t, ht⟩ : ∃ t : Nat, l[i].b % 512 = t := ⟨(l[i].b % 512).toNat, by omega⟩
          have hj6 : off + j < 6 := by omega
          have ht5 : t < 512 := by omega
          have hSl : ∀ x ∈ S, x.1.length = 64 := fun x hx => (hS.sz x hx).1
          have hjl : 6 * n + (off + j) < S.length := by rw [hS.len]; omega
          have q0 := hSl _ (List.getElem_mem hjl)
          have qb := (hS.sz _ (List.getElem_mem hjl)).2
          have hch : ∀ c ∈ chS S, c.length = 65 := fun c hc => (hS.c.sz c hc).1
          have iR := inv_rot (k := n) (j := off + j) hI hS (by omega) hj6
          have iF := inv_flip (k := n) (j := off + j) (t := t) hI hS (by omega) hj6 hpb
          have oF := hS.flip (j := 6 * n + (off + j)) (by omega) t
          have dR : ∀ c ∈ ((chS S).set (6 * n + (off + j)) (secA (zb, true))).flatten, noLoc c = true := by rw [chS_set]; exact dO _ (hS.rot (6 * n + (off + j)))
          have hz1 : off = 3 → (if off + j < 3 then i0 + 1 else i0) = 0 := fun h => by rw [if_neg (by omega)]; exact h0 h
          have hz2 : off = 0 → (if off + j < 3 then i1 else i1 + 1) = 0 := fun h => by rw [if_pos (by omega)]; exact h1 h
          have hf1 : (decide (S[6 * n + (off + j)].1 = zb) && S[6 * n + (off + j)].2) = false → flipS S (6 * n + (off + j)) t = S.set (6 * n + (off + j)) (flipB S[6 * n + (off + j)].1 t, S[6 * n + (off + j)].2) := fun h => by
            unfold flipS
            rw [byt_at hjl, bad_at hjl, if_neg (fun e => by rw [e.1, e.2] at h; simp at h)]
          have hf2 : (decide (S[6 * n + (off + j)].1 = zb) && S[6 * n + (off + j)].2) = true → flipS S (6 * n + (off + j)) t = S := fun h => by
            simp only [Bool.and_eq_true, decide_eq_true_eq] at h
            unfold flipS
            rw [byt_at hjl, bad_at hjl, if_pos h]
          repeat' ((conv => whnf); first
              | refine Branch.ofT rfl ?_
              | refine Branch.ofF rfl ?_
              | refine Branch.ofT (decide_eq_true (by omega)) ?_
              | refine Branch.ofF (decide_eq_false (by omega)) ?_
              | refine Branch.dec (fun h => ?_) (fun h => ?_)
              | refine Branch.negdec (fun h => ?_) (fun h => ?_)
              | refine Branch.neg (fun h => ?_) (fun h => ?_)
              | refine Branch.mk (fun h => ?_) (fun h => ?_)
              | (refine Side.mk ?_ ?_; · first | omega | decide)
              | (refine SideD.mk ?_ ?_; · first | omega | decide)
              | refine ⟨_, Nat.lt_succ_self _, To.refl (.inl ⟨rfl, ?_⟩)⟩
              | refine nt0 hat ?_
              | refine nt1 hat ?_
              | refine nt2 hat ?_
              | refine Side.mk (i64w (by omega) (by omega)) ?_
              | refine callA_of ok25 (Nat.le_of_ble_eq_true rfl) ?_
              | refine callA_of ok26 (Nat.le_of_ble_eq_true rfl) ?_
              | refine callA_of ok39 (Nat.le_of_ble_eq_true rfl) ?_
              | refine RetA.same ?_
              | refine stCh (i := 6 * n + (off + j)) (by omega) (by simpa [chS] using hjl) hch (by rfl) (by rfl) ?_
              | refine tk65S hjl hSl (by omega) ?_
              | refine condT (by rw [secA_len q0]; rfl) ?_
              | refine lputA (by rw [secA_len q0]; rfl) (List.all_eq_true.2 (scal_sec _)) ?_
              | refine tk65x q0 ?_
              | refine eqB65 (by rfl) (by rfl) q0 ?_
              | refine ldByte (o := t / 8) hjl hSl (by omega) (by omega) ?_
              | refine stByte (t := t) hjl hSl ht5 (by omega) (rflip' (getD_lt qb (by omega) _) (Nat.mod_lt _ (by omega)) (by omega)) ?_
              | (refine Side.mk ?_ ?_; · (simp; done))
              | fail
              )
          all_goals (conv => whnf)
          · exact ⟨l.length - (i + 1), by omega, To.gc [(0, true), (1, false), (2, true), (3, true), (4, false), (5, true)] [2, 3, 4, 9, 10, 11, 15, 16, 17] rfl ⟨dat_bs p, dR, trivial, trivial, trivial⟩ ⟨i + 1, rotS S (6 * n + (off + j)), F, _, _, by omega, rfl, hS.rot (6 * n + (off + j)), iR, hz1, hz2, by omega, rfl, by rw [rotS, ← chS_set]; rfl⟩⟩
          · rw [hf1 h] at iF oF
            exact ⟨l.length - (i + 1), by omega, To.gc [(0, true), (1, false), (2, true), (3, true), (4, false), (5, true)] [2, 3, 4, 9, 10, 11, 15, 16, 17] rfl ⟨dat_bs p, dO _ oF, trivial, trivial, trivial⟩ ⟨i + 1, _, F + 1, _, _, by omega, rfl, oF, iF, hz1, hz2, by omega, rfl, rfl⟩⟩
          · rw [hf2 h] at iF oF
            exact ⟨l.length - (i + 1), by omega, To.gc [(0, true), (1, false), (2, true), (3, true), (4, false), (5, true)] [2, 3, 4, 9, 10, 11, 15, 16, 17] rfl ⟨dat_bs p, hcd, trivial, trivial, trivial⟩ ⟨i + 1, _, F + 1, _, _, by omega, rfl, oF, iF, hz1, hz2, by omega, rfl, rfl⟩⟩
        · have : i = l.length := by omega
          subst this
          have h27 := c27 (p.map B) 48 (7 * (n + 1)) S (n + 1) n (dat_bs p) (by omega) (by omega) (by omega) (by omega) hS
          have hlaw := get_law hI
          have hPl : (getP (sealN n) S n).length = 128 ∧ ∀ y ∈ getP (sealN n) S n, y < 256 := getP_ok hS (by omega)
          have hnot : ¬ (0 < i0 ∧ 0 < i1) := fun h => by
            rcases hoff3 with e | e
            · have := h1 e; omega
            · have := h0 e; omega
          generalize getP (sealN n) S n = q at h27 hlaw hPl
          generalize getE (sealN n) S n = e at h27 hlaw
          have h29p : CallA Tryd.prog 29 [I (n : Nat), .agg (p.map B)] Heap.nil fun v H' => v = .agg ((digP n p).map B) ∧ H' = Heap.nil := c29 n p (by omega) hp hpb
          have h29q : CallA Tryd.prog 29 [I (n : Nat), .agg (q.map B)] Heap.nil fun v H' => v = .agg ((digP n q).map B) ∧ H' = Heap.nil := c29 n q (by omega) hPl.1 hPl.2
          have h28 := c28 (digP n p) (digP n q) (dig_len _) (dig_len _) (dig_lt _) (dig_lt _)
          have hnp : noLocL [I (n : Nat), .agg (p.map B)] = true := by simp only [noLocL, noLoc, noLocL_bs, Bool.and_self]
          have hnq : noLocL [I (n : Nat), .agg (q.map B)] = true := by simp only [noLocL, noLoc, noLocL_bs, Bool.and_self]
          have hnd : noLocL [.agg ((digP n p).map B), .agg ((digP n q).map B)] = true := by simp only [noLocL, noLoc, noLocL_bs, Bool.and_self]
          rcases hlaw with ⟨_, hh⟩ | ⟨rfl, hap, hq⟩
          · exact absurd hh hnot
          · repeat' ((conv => whnf); first
                | refine Branch.ofT rfl ?_
                | refine Branch.ofF rfl ?_
                | refine Branch.ofT (decide_eq_true (by omega)) ?_
                | refine Branch.ofF (decide_eq_false (by omega)) ?_
                | refine Branch.dec (fun h => ?_) (fun h => ?_)
                | refine Branch.negdec (fun h => ?_) (fun h => ?_)
                | refine Branch.neg (fun h => ?_) (fun h => ?_)
                | refine Branch.mk (fun h => ?_) (fun h => ?_)
                | (refine Side.mk ?_ ?_; · first | omega | decide)
                | (refine SideD.mk ?_ ?_; · first | omega | decide)
                | refine ⟨_, Nat.lt_succ_self _, To.refl (.inl ⟨rfl, ?_⟩)⟩
                | refine CallA.ext h27 (fun v H' hv => ⟨_, rfl, rfl, ?_⟩)
                | (obtain ⟨rfl, rfl⟩ := hv)
                | refine condT (by rw [List.length_map, hPl.1]; rfl) ?_
                | refine lputA (by rw [List.length_map, hPl.1]; rfl) (List.all_eq_true.2 (scal_bs _)) ?_
                | refine QCallA.of c8 rfl rfl ?_
                | refine tkP hPl.1 (by rfl) ?_
                | refine tkP hp (by rfl) ?_
                | refine eqB (n := 128) (by rfl) hPl.1 hp ?_
                | refine QCallA.of h29p hnp (noLocL_bs _) ?_
                | refine QCallA.of h29q hnq (noLocL_bs _) ?_
                | refine QCallA.of h28 hnd rfl ?_
                | refine RetA.data rfl ⟨?_, rfl⟩
                | (refine Side.mk ?_ ?_; · (simp; done))
                | fail
                )
            all_goals (conv => whnf)
            all_goals first
              | rfl
              | (show AV.bool (decide ((apN (digP n p) (digP n q) 16 : Int) ≤ (F : Int))) = _
                 rw [decide_eq_true (by omega)]
                 done)
              | exact absurd (hq (h0 ho)) (by assumption)
              | (exfalso; have hz2 : z = true := by assumption
                 rw [hz] at hz2; cases hz2)
      · have hz : z = false := h
        have ho := ho2 h
        refine ⟨LH6 p n off z l cap, l.length, To.gc [(0, true), (1, false), (2, true), (3, true), (4, false), (5, true)] [2, 3, 4, 9, 10, 11, 15, 16, 17] rfl ⟨dat_bs p, dO _ hS, trivial, trivial, trivial⟩ ⟨0, S, 0, 0, 0, by omega, by omega, hS, hI, fun _ => rfl, fun _ => rfl, by omega, by rw [e16 ho]; rfl, rfl⟩, ?_⟩
        rintro m fr H ⟨i, S, F, i0, i1, hi, rfl, hS, hI, h0, h1, hF, rfl, rfl⟩
        have hcd := dO S hS
        by_cases hil : i < l.length
        · have hat := hc_at i l hil
          have hlx := hl _ (List.getElem_mem hil)
          obtain ⟨j, hj⟩ : ∃ j : Nat, l[i].s % 3 = j := ⟨(l[i].s % 3).toNat, by omega⟩
          obtain ⟨t, ht⟩ : ∃ t : Nat, l[i].b % 512 = t := ⟨(l[i].b % 512).toNat, by omega⟩
          have hj6 : off + j < 6 := by omega
          have ht5 : t < 512 := by omega
          have hSl : ∀ x ∈ S, x.1.length = 64 := fun x hx => (hS.sz x hx).1
          have hjl : 6 * n + (off + j) < S.length := by rw [hS.len]; omega
          have q0 := hSl _ (List.getElem_mem hjl)
          have qb := (hS.sz _ (List.getElem_mem hjl)).2
          have hch : ∀ c ∈ chS S, c.length = 65 := fun c hc => (hS.c.sz c hc).1
          have iR := inv_rot (k := n) (j := off + j) hI hS (by omega) hj6
          have iF := inv_flip (k := n) (j := off + j) (t := t) hI hS (by omega) hj6 hpb
          have oF := hS.flip (j := 6 * n + (off + j)) (by omega) t
          have dR : ∀ c ∈ ((chS S).set (6 * n + (off + j)) (secA (zb, true))).flatten, noLoc c = true := by rw [chS_set]; exact dO _ (hS.rot (6 * n + (off + j)))
          have hz1 : off = 3 → (if off + j < 3 then i0 + 1 else i0) = 0 := fun h => by rw [if_neg (by omega)]; exact h0 h
          have hz2 : off = 0 → (if off + j < 3 then i1 else i1 + 1) = 0 := fun h => by rw [if_pos (by omega)]; exact h1 h
          have hf1 : (decide (S[6 * n + (off + j)].1 = zb) && S[6 * n + (off + j)].2) = false → flipS S (6 * n + (off + j)) t = S.set (6 * n + (off + j)) (flipB S[6 * n + (off + j)].1 t, S[6 * n + (off + j)].2) := fun h => by
            unfold flipS
            rw [byt_at hjl, bad_at hjl, if_neg (fun e => by rw [e.1, e.2] at h; simp at h)]
          have hf2 : (decide (S[6 * n + (off + j)].1 = zb) && S[6 * n + (off + j)].2) = true → flipS S (6 * n + (off + j)) t = S := fun h => by
            simp only [Bool.and_eq_true, decide_eq_true_eq] at h
            unfold flipS
            rw [byt_at hjl, bad_at hjl, if_pos h]
          repeat' ((conv => whnf); first
              | refine Branch.ofT rfl ?_
              | refine Branch.ofF rfl ?_
              | refine Branch.ofT (decide_eq_true (by omega)) ?_
              | refine Branch.ofF (decide_eq_false (by omega)) ?_
              | refine Branch.dec (fun h => ?_) (fun h => ?_)
              | refine Branch.negdec (fun h => ?_) (fun h => ?_)
              | refine Branch.neg (fun h => ?_) (fun h => ?_)
              | refine Branch.mk (fun h => ?_) (fun h => ?_)
              | (refine Side.mk ?_ ?_; · first | omega | decide)
              | (refine SideD.mk ?_ ?_; · first | omega | decide)
              | refine ⟨_, Nat.lt_succ_self _, To.refl (.inl ⟨rfl, ?_⟩)⟩
              | refine nt0 hat ?_
              | refine nt1 hat ?_
              | refine nt2 hat ?_
              | refine Side.mk (i64w (by omega) (by omega)) ?_
              | refine callA_of ok25 (Nat.le_of_ble_eq_true rfl) ?_
              | refine callA_of ok26 (Nat.le_of_ble_eq_true rfl) ?_
              | refine callA_of ok39 (Nat.le_of_ble_eq_true rfl) ?_
              | refine RetA.same ?_
              | refine stCh (i := 6 * n + (off + j)) (by omega) (by simpa [chS] using hjl) hch (by rfl) (by rfl) ?_
              | refine tk65S hjl hSl (by omega) ?_
              | refine condT (by rw [secA_len q0]; rfl) ?_
              | refine lputA (by rw [secA_len q0]; rfl) (List.all_eq_true.2 (scal_sec _)) ?_
              | refine tk65x q0 ?_
              | refine eqB65 (by rfl) (by rfl) q0 ?_
              | refine ldByte (o := t / 8) hjl hSl (by omega) (by omega) ?_
              | refine stByte (t := t) hjl hSl ht5 (by omega) (rflip' (getD_lt qb (by omega) _) (Nat.mod_lt _ (by omega)) (by omega)) ?_
              | (refine Side.mk ?_ ?_; · (simp; done))
              | fail
              )
          all_goals (conv => whnf)
          · exact ⟨l.length - (i + 1), by omega, To.gc [(0, true), (1, false), (2, true), (3, true), (4, false), (5, true)] [2, 3, 4, 9, 10, 11, 15, 16, 17] rfl ⟨dat_bs p, dR, trivial, trivial, trivial⟩ ⟨i + 1, rotS S (6 * n + (off + j)), F, _, _, by omega, rfl, hS.rot (6 * n + (off + j)), iR, hz1, hz2, by omega, rfl, by rw [rotS, ← chS_set]; rfl⟩⟩
          · rw [hf1 h] at iF oF
            exact ⟨l.length - (i + 1), by omega, To.gc [(0, true), (1, false), (2, true), (3, true), (4, false), (5, true)] [2, 3, 4, 9, 10, 11, 15, 16, 17] rfl ⟨dat_bs p, dO _ oF, trivial, trivial, trivial⟩ ⟨i + 1, _, F + 1, _, _, by omega, rfl, oF, iF, hz1, hz2, by omega, rfl, rfl⟩⟩
          · rw [hf2 h] at iF oF
            exact ⟨l.length - (i + 1), by omega, To.gc [(0, true), (1, false), (2, true), (3, true), (4, false), (5, true)] [2, 3, 4, 9, 10, 11, 15, 16, 17] rfl ⟨dat_bs p, hcd, trivial, trivial, trivial⟩ ⟨i + 1, _, F + 1, _, _, by omega, rfl, oF, iF, hz1, hz2, by omega, rfl, rfl⟩⟩
        · have : i = l.length := by omega
          subst this
          have h27 := c27 (p.map B) 48 (7 * (n + 1)) S (n + 1) n (dat_bs p) (by omega) (by omega) (by omega) (by omega) hS
          have hlaw := get_law hI
          have hPl : (getP (sealN n) S n).length = 128 ∧ ∀ y ∈ getP (sealN n) S n, y < 256 := getP_ok hS (by omega)
          have hnot : ¬ (0 < i0 ∧ 0 < i1) := fun h => by
            rcases hoff3 with e | e
            · have := h1 e; omega
            · have := h0 e; omega
          generalize getP (sealN n) S n = q at h27 hlaw hPl
          generalize getE (sealN n) S n = e at h27 hlaw
          have h29p : CallA Tryd.prog 29 [I (n : Nat), .agg (p.map B)] Heap.nil fun v H' => v = .agg ((digP n p).map B) ∧ H' = Heap.nil := c29 n p (by omega) hp hpb
          have h29q : CallA Tryd.prog 29 [I (n : Nat), .agg (q.map B)] Heap.nil fun v H' => v = .agg ((digP n q).map B) ∧ H' = Heap.nil := c29 n q (by omega) hPl.1 hPl.2
          have h28 := c28 (digP n p) (digP n q) (dig_len _) (dig_len _) (dig_lt _) (dig_lt _)
          have hnp : noLocL [I (n : Nat), .agg (p.map B)] = true := by simp only [noLocL, noLoc, noLocL_bs, Bool.and_self]
          have hnq : noLocL [I (n : Nat), .agg (q.map B)] = true := by simp only [noLocL, noLoc, noLocL_bs, Bool.and_self]
          have hnd : noLocL [.agg ((digP n p).map B), .agg ((digP n q).map B)] = true := by simp only [noLocL, noLoc, noLocL_bs, Bool.and_self]
          rcases hlaw with ⟨_, hh⟩ | ⟨rfl, hap, hq⟩
          · exact absurd hh hnot
          · repeat' ((conv => whnf); first
                | refine Branch.ofT rfl ?_
                | refine Branch.ofF rfl ?_
                | refine Branch.ofT (decide_eq_true (by omega)) ?_
                | refine Branch.ofF (decide_eq_false (by omega)) ?_
                | refine Branch.dec (fun h => ?_) (fun h => ?_)
                | refine Branch.negdec (fun h => ?_) (fun h => ?_)
                | refine Branch.neg (fun h => ?_) (fun h => ?_)
                | refine Branch.mk (fun h => ?_) (fun h => ?_)
                | (refine Side.mk ?_ ?_; · first | omega | decide)
                | (refine SideD.mk ?_ ?_; · first | omega | decide)
                | refine ⟨_, Nat.lt_succ_self _, To.refl (.inl ⟨rfl, ?_⟩)⟩
                | refine CallA.ext h27 (fun v H' hv => ⟨_, rfl, rfl, ?_⟩)
                | (obtain ⟨rfl, rfl⟩ := hv)
                | refine condT (by rw [List.length_map, hPl.1]; rfl) ?_
                | refine lputA (by rw [List.length_map, hPl.1]; rfl) (List.all_eq_true.2 (scal_bs _)) ?_
                | refine QCallA.of c8 rfl rfl ?_
                | refine tkP hPl.1 (by rfl) ?_
                | refine tkP hp (by rfl) ?_
                | refine eqB (n := 128) (by rfl) hPl.1 hp ?_
                | refine QCallA.of h29p hnp (noLocL_bs _) ?_
                | refine QCallA.of h29q hnq (noLocL_bs _) ?_
                | refine QCallA.of h28 hnd rfl ?_
                | refine RetA.data rfl ⟨?_, rfl⟩
                | (refine Side.mk ?_ ?_; · (simp; done))
                | fail
                )
            all_goals (conv => whnf)
            all_goals first
              | rfl
              | (show AV.bool (decide ((apN (digP n p) (digP n q) 16 : Int) ≤ (F : Int))) = _
                 rw [decide_eq_true (by omega)]
                 done)
              | exact absurd (hq (h0 ho)) (by assumption)
              | (exfalso; have hz2 : z = true := by assumption
                 rw [hz] at hz2; cases hz2)
  · repeat' ((conv => whnf); first
        | refine Branch.ofT rfl ?_
        | refine Branch.ofF rfl ?_
        | refine Branch.ofT (decide_eq_true (by omega)) ?_
        | refine Branch.dec (fun h => ?_) (fun h => ?_)
        | refine Branch.negdec (fun h => ?_) (fun h => ?_)
        | refine Branch.neg (fun h => ?_) (fun h => ?_)
        | refine Branch.mk (fun h => ?_) (fun h => ?_)
        | (refine Side.mk ?_ ?_; · first | omega | decide)
        | (refine SideD.mk ?_ ?_; · first | omega | decide)
        | refine ⟨_, Nat.lt_succ_self _, To.refl (.inl ⟨rfl, ?_⟩)⟩
        | refine callA_of ok22 (Nat.le_of_ble_eq_true rfl) ?_
        | refine CallA.pure c8 rfl rfl ?_
        | refine RetA.data rfl ⟨rfl, rfl⟩
        | refine RetA.same ?_
        | (refine Side.mk ?_ ?_; · (simp; done))
        | fail
        )
    all_goals (conv => whnf)
    all_goals rfl
end Go.Proofs

