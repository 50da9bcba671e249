/- Part of a proof about the given program: lemmas that the other parts use. -/
import Derived.Test.YtnhjhmilijghkaaPart7

set_option linter.all false
set_option linter.unusedSimpArgs false
set_option linter.unusedVariables false
namespace Go.Proofs
open Go Go.Eng
set_option maxRecDepth 100000
set_option maxHeartbeats 4000000
/-! ### The plain law: an order is legal exactly if it keeps processors' orders and the edges -/
theorem plc_at {o : List Int} {n : Nat} (h : PermP o n) : ∀ k, k ≤ n → ∀ q, q < k → (plc o n k)[o[q]!.toNat]! = (q : Int)
  | 0, _, q, hq => absurd hq (by omega)
  | k + 1, hk, q, hq => by
    have hoL : o.length = n := h.1
    have hkl : k < o.length := by omega
    have hql : q < o.length := by omega
    have gk : o[k]! = o[k] := getElem!_pos o k hkl
    have gq : o[q]! = o[q] := getElem!_pos o q hql
    have bk := h.2.1 k hkl
    have bq := h.2.1 q hql
    have hl := plc_len o n k
    have hl1 := plc_len o n (k + 1)
    have hx : o[q]!.toNat < (plc o n (k + 1)).length := by rw [hl1, gq]; omega
    rw [getElem!_pos (plc o n (k + 1)) o[q]!.toNat hx]
    simp only [plc]
    rw [List.getElem_set]
    by_cases e : q = k
    · subst e; rw [if_pos rfl]
    · have hd : o[q] ≠ o[k] := h.2.2 q k hql hkl (by omega)
      rw [if_neg (by rw [gk, gq]; omega)]
      have := plc_at h k (by omega) q (by omega)
      rw [getElem!_pos _ _ (by rw [hl, gq]; omega)] at this
      exact this
/-- The place of x. -/
theorem pl_spec {o : List Int} {n : Nat} (h : PermP o n) (x : Nat) (hx : x < n) : ∃ p, p < n ∧ o[p]!.toNat = x ∧ (plc o n n)[x]! = (p : Int) := by
  obtain ⟨p, hp, e⟩ := perm_all h x hx
  have hoL : o.length = n := h.1
  have hpn : p < n := by omega
  have g : o[p]! = o[p] := getElem!_pos o p hp
  have := plc_at h n (Nat.le_refl _) p hpn
  have e2 : o[p]!.toNat = x := by rw [g, e]; omega
  rw [e2] at this
  exact ⟨p, hpn, e2, this⟩
theorem pl_inj {o : List Int} {n : Nat} (h : PermP o n) {x y : Nat} (hx : x < n) (hy : y < n) (e : (plc o n n)[x]! = (plc o n n)[y]!) : x = y := by
  obtain ⟨p, h1, h2, h3⟩ := pl_spec h x hx
  obtain ⟨q, g1, g2, g3⟩ := pl_spec h y hy
  have : p = q := by omega
  subst this; omega
def LG (l : List Ev) (P : List Int) (n : Nat) : Prop := ∀ x, x < n → ∀ j, j < x → con l[j]! l[x]! = true → P[j]! < P[x]!
theorem leg_iff {l : List Ev} {o : List Int} (h : PermP o l.length) : legP (ds l l.length) o ↔ LG l (plc o l.length l.length) l.length := by
  have hoL : o.length = l.length := h.1
  constructor
  · intro hl x hx j hj hc
    obtain ⟨p, h1, h2, h3⟩ := pl_spec h x hx
    obtain ⟨q, g1, g2, g3⟩ := pl_spec h j (by omega)
    have := hl p (by omega) j (by rw [h2, ds_at l l.length x hx, dset_bit, hc, decide_eq_true hj]; rfl)
    obtain ⟨r, r1, r2⟩ := (dn_bit o p j).1 this
    have : r = q := by
      have a := plc_at h l.length (Nat.le_refl _) r (by omega)
      rw [r2, g3] at a; omega
    subst this; omega
  · intro hl p hp j hj
    have hb := h.2.1 p hp
    have g : o[p]! = o[p] := getElem!_pos o p hp
    have hx : o[p]!.toNat < l.length := by rw [g]; omega
    rw [ds_at l l.length _ hx, dset_bit] at hj
    simp only [Bool.and_eq_true, decide_eq_true_eq] at hj
    have := hl _ hx j hj.1 hj.2
    have a := plc_at h l.length (Nat.le_refl _) p (by omega)
    obtain ⟨q, g1, g2, g3⟩ := pl_spec h j (by omega)
    exact (dn_bit o p j).2 ⟨q, by omega, g2⟩
theorem ek2_mem (l : List Ev) (W : List Nat) (k : Nat) : ∀ i (e : Int × Int), e ∈ ek2 l W k i ↔ ∃ x, x < i ∧ e = ((x : Int), (k : Int)) ∧ l[x]!.cpu ≠ l[k]!.cpu ∧ con l[x]! l[k]! = true ∧ lg W k x (k - 1 - x) = false
  | 0, e => by simp [ek2]
  | i + 1, e => by
    have ih := ek2_mem l W k i e
    simp only [ek2]
    split
    · rename_i h
      obtain ⟨⟨h1, h2⟩, h3⟩ := h
      rw [List.mem_append, ih, List.mem_singleton]
      constructor
      · rintro (⟨x, a, b⟩ | rfl)
        · exact ⟨x, by omega, b⟩
        · exact ⟨i, by omega, rfl, by simpa using h1, h2, h3⟩
      · rintro ⟨x, a, b, c⟩
        by_cases hx : x < i
        · exact .inl ⟨x, hx, b, c⟩
        · have : x = i := by omega
          subst this; exact .inr b
    · rename_i h
      rw [ih]
      constructor
      · rintro ⟨x, a, b⟩; exact ⟨x, by omega, b⟩
      · rintro ⟨x, a, b, c, d, e'⟩
        by_cases hx : x < i
        · exact ⟨x, hx, b, c, d, e'⟩
        · have : x = i := by omega
          subst this
          exact absurd ⟨⟨decide_eq_false c, d⟩, e'⟩ h
theorem es2_mem (l : List Ev) (W : List Nat) : ∀ n (e : Int × Int), e ∈ es2 l W n ↔ ∃ k x, k < n ∧ x < k ∧ e = ((x : Int), (k : Int)) ∧ l[x]!.cpu ≠ l[k]!.cpu ∧ con l[x]! l[k]! = true ∧ lg W k x (k - 1 - x) = false
  | 0, e => by simp [es2]
  | n + 1, e => by
    have ih := es2_mem l W n e
    rw [es2, List.mem_append, ih, ek2_mem]
    constructor
    · rintro (⟨k, x, a, b⟩ | ⟨x, a, b⟩)
      · exact ⟨k, x, by omega, b⟩
      · exact ⟨n, x, by omega, a, b⟩
    · rintro ⟨k, x, a, b, c⟩
      by_cases hk : k < n
      · exact .inl ⟨k, x, hk, b, c⟩
      · have : k = n := by omega
        subst this; exact .inr ⟨x, b, c⟩
theorem es2_ok (l : List Ev) (W : List Nat) (n : Nat) : edOk (es2 l W n) n := by
  intro j hj
  obtain ⟨k, x, h1, h2, h3, _⟩ := (es2_mem l W n _).1 (List.getElem_mem hj)
  rw [h3]; simp only; omega
theorem bit_lt {l : List Ev} {n y j : Nat} (hy : y < n) (h : (ws l n)[y]!.testBit j = true) : j < y := by
  refine Classical.byContradiction fun q => ?_
  have := Nat.testBit_lt_two_pow (x := (ws l n)[y]!) (i := j) (Nat.lt_of_lt_of_le (ws_bit l n y hy) (Nat.pow_le_pow_right (by decide) (by omega)))
  rw [this] at h; cases h
/-- If processors' orders and the edges are kept, all conflicts are. -/
theorem keep_con {l : List Ev} {P : List Int} (h1 : ∀ i, i < l.length → ∀ k, k < i → l[i]!.cpu = l[k]!.cpu → P[k]! < P[i]!) (h2 : ∀ e, e ∈ es2 l (ws l l.length) l.length → P[e.1.toNat]! < P[e.2.toNat]!) :
    ∀ d k i, k - i = d → k < l.length → i < k → (con l[i]! l[k]! = true → P[i]! < P[k]!) ∧ ((ws l l.length)[k]!.testBit i = true → P[i]! < P[k]!) := by
  intro d
  induction d using Nat.strongRecOn with
  | _ d ih =>
    intro k i hd hk hi
    have hA : con l[i]! l[k]! = true → P[i]! < P[k]! := by
      intro hc
      by_cases hcpu : l[i]!.cpu = l[k]!.cpu
      · exact h1 k hk i hi hcpu.symm
      · cases hlg : lg (ws l l.length) k i (k - 1 - i) with
        | false =>
          have := h2 ((i : Int), (k : Int)) ((es2_mem _ _ _ _).2 ⟨k, i, hk, hi, rfl, hcpu, hc, hlg⟩)
          simpa using this
        | true =>
          obtain ⟨x, a1, a2, a3, a4⟩ := (lg_iff _ k i _).1 hlg
          have b1 := (ih (x - i) (by omega) x i rfl (by omega) a1).2 a3
          have b2 := (ih (k - x) (by omega) k x rfl hk (by omega)).2 a4
          omega
    refine ⟨hA, fun hw => ?_⟩
    obtain ⟨z, z1, z2, z3⟩ := (ws_iff l l.length k i hk).1 hw
    rcases z3 with rfl | z3
    · exact hA z2
    · have hiz := bit_lt (by omega) z3
      have b1 := (ih (z - i) (by omega) z i rfl (by omega) hiz).2 z3
      have b2 := (ih (k - z) (by omega) k z rfl hk z1).1 z2
      omega
theorem suff {l : List Ev} {o : List Int} (h : PermP o l.length) : legB (ds l l.length) o = kpB l (plc o l.length l.length) (es2 l (ws l l.length) l.length) (-1) := by
  have key : legP (ds l l.length) o ↔ kpP l (plc o l.length l.length) (es2 l (ws l l.length) l.length) (-1) := by
    rw [leg_iff h]
    constructor
    · intro hl
      refine ⟨fun i hi k hk hc => ?_, fun j hj _ => ?_⟩
      · have := hl i hi k hk (by unfold con; rw [decide_eq_true hc.symm]; rfl)
        omega
      · have hm : (es2 l (ws l l.length) l.length)[j]! ∈ es2 l (ws l l.length) l.length := by rw [getElem!_pos _ j hj]; exact List.getElem_mem hj
        obtain ⟨k, x, a1, a2, a3, a4, a5, a6⟩ := (es2_mem _ _ _ _).1 hm
        rw [a3]
        have := hl k a1 x a2 a5
        simp only [Int.toNat_natCast]
        omega
    · rintro ⟨k1, k2⟩ x hx j hj hc
      refine (keep_con (fun i hi k hk e => ?_) (fun e he => ?_) (x - j) x j rfl hx hj).1 hc
      · have := k1 i hi k hk e
        have hne : (plc o l.length l.length)[k]! ≠ (plc o l.length l.length)[i]! := fun q => by have := pl_inj h (by omega) hi q; omega
        omega
      · obtain ⟨j, hj, rfl⟩ := List.getElem_of_mem he
        have := k2 j hj (by omega)
        rw [getElem!_pos (es2 l (ws l l.length) l.length) j hj] at this
        have ho := es2_ok l (ws l l.length) l.length j hj
        have hne : (plc o l.length l.length)[(es2 l (ws l l.length) l.length)[j].1.toNat]! ≠ (plc o l.length l.length)[(es2 l (ws l l.length) l.length)[j].2.toNat]! := fun q => by have := pl_inj h (by omega) (by omega) q; omega
        omega
  by_cases hl : legP (ds l l.length) o
  · rw [legB_t hl, kpB_t (key.1 hl)]
  · rw [legB_f hl, kpB_f (fun q => hl (key.2 q))]
theorem rng_perm (n : Nat) : PermP (rng n) n := ⟨rng_len n, fun i h => by have := h; rw [rng_len] at this; rw [rng_get]; omega, fun i j hi hj hij => by rw [rng_get, rng_get]; omega⟩
theorem leg_rng (l : List Ev) : legB (ds l l.length) (rng l.length) = true := by
  refine legB_t fun p hp j hj => ?_
  have hp' : p < l.length := by rwa [rng_len] at hp
  have g : (rng l.length)[p]! = (p : Int) := by rw [getElem!_pos _ p hp, rng_get]
  rw [g, Int.toNat_natCast, ds_at l l.length p hp', dset_bit] at hj
  simp only [Bool.and_eq_true, decide_eq_true_eq] at hj
  refine (dn_bit _ p j).2 ⟨j, hj.1, ?_⟩
  rw [getElem!_pos _ j (by rw [rng_len]; omega), rng_get]; omega
end Go.Proofs

namespace Go.Proofs
open Go Go.Eng
set_option maxRecDepth 100000
set_option maxHeartbeats 8000000
/-! ### swapped -/
def afr (l : List Ev) (A k f : Nat) : Nat → Nat
  | 0 => A
  | j + 1 => if ((afr l A k f j).testBit k || ((afr l A k f j).testBit (f + j) && con l[f + j]! l[k]!)) = true then afr l A k f j ||| 2 ^ k else afr l A k f j
def rnd (f t k : Nat) : Nat := if k = t then 0 else k - f
def af0 (f A k : Nat) : Nat := if k = f then A ||| 2 ^ k else A
/-- The places that are reached from f. -/
def af (l : List Ev) (f t : Nat) : Nat → Nat
  | 0 => 0
  | k + 1 => afr l (af0 f (af l f t k) k) k f (rnd f t k)
theorem afr_step (l : List Ev) (A k f j : Nat) {b0 b1 bc : Bool} (h0 : (afr l A k f j).testBit k = b0) (h1 : (afr l A k f j).testBit (f + j) = b1) (hc : con l[f + j]! l[k]! = bc) : ∀ x, (afr l A k f (j + 1)).testBit x = if k = x then (b0 || (b1 && bc)) else (afr l A k f j).testBit x := by
  intro x
  rw [afr, h0, h1, hc]
  split
  · rename_i h
    rw [set_bit, h]
  · rename_i h
    by_cases e : k = x
    · subst e
      rw [if_pos rfl, h0]
      cases b0 <;> simp_all
    · rw [if_neg e]
def o1 (A t : Nat) : Nat → List Int
  | 0 => []
  | k + 1 => if A.testBit k = false ∧ k ≤ t then o1 A t k ++ [(k : Int)] else o1 A t k
def o2 (A t : Nat) (s : List Int) : Nat → List Int
  | 0 => s
  | k + 1 => if A.testBit k = true ∨ t < k then o2 A t s k ++ [(k : Int)] else o2 A t s k
theorem o1_len (A t : Nat) : ∀ k, (o1 A t k).length ≤ k
  | 0 => Nat.le_refl _
  | k + 1 => by
    have := o1_len A t k
    simp only [o1]
    split
    · simp; omega
    · omega
theorem o2_len (A t : Nat) (s : List Int) : ∀ k, (o2 A t s k).length ≤ s.length + k
  | 0 => Nat.le_refl _
  | k + 1 => by
    have := o2_len A t s k
    simp only [o2]
    split
    · simp; omega
    · omega
theorem o1_has (A t : Nat) (n : Nat) : A.testBit 0 = false → 0 < n → (o1 A t n) ≠ [] := by
  intro h0 hn
  have go : ∀ k, 0 < k → o1 A t k ≠ [] := by
    intro k hk
    induction k with
    | zero => omega
    | succ k ih =>
      simp only [o1]
      split
      · simp
      · rename_i hc
        by_cases hk0 : k = 0
        · subst hk0; exact absurd ⟨h0, Nat.zero_le _⟩ hc
        · exact ih (by omega)
  exact go n hn
theorem o2_pos (A t : Nat) (s : List Int) (n : Nat) (hn : 0 < n) (hs : A.testBit 0 = false → 0 < n → s ≠ []) : 0 < (o2 A t s n).length := by
  have grow : ∀ k, s.length ≤ (o2 A t s k).length := by
    intro k
    induction k with
    | zero => exact Nat.le_refl _
    | succ k ih => simp only [o2]; split
                   · simp; omega
                   · exact ih
  by_cases h0 : A.testBit 0 = false
  · have := hs h0 hn
    have h1 : 0 < s.length := List.length_pos_iff.2 this
    have := grow n; omega
  · have go : ∀ k, 0 < k → 0 < (o2 A t s k).length := by
      intro k hk
      induction k with
      | zero => omega
      | succ k ih =>
        simp only [o2]
        split
        · simp
        · rename_i hc
          by_cases hk0 : k = 0
          · subst hk0; exact absurd (.inl (by simpa using h0)) hc
          · exact ih (by omega)
    exact go n hn
def H19 (f t A n : Nat) : List Int → Heap
  | [] => ⟨2, [(0, .cells [I f, I t]), (1, .cells (bb A n))]⟩
  | x :: r => ⟨3, [(0, .cells [I f, I t]), (1, .cells (bb A n)), (2, .cells (ints (x :: r)))]⟩
def L19a (l : List Ev) (lc : Option Nat) (f t : Nat) (m : Nat) (fr : Fr) (H : Heap) : Prop := ∃ k : Nat, k ≤ l.length ∧ m = l.length - k ∧ fr = [(0, .dslice (evs l) l.length lc), (3, .ptr 0 0), (5, .slice 1 0 l.length (some l.length) 1), (6, I k)] ∧ H = H19 f t (af l f t k) l.length []
def L19b (l : List Ev) (lc : Option Nat) (f t A k : Nat) (m : Nat) (fr : Fr) (H : Heap) : Prop := ∃ j : Nat, j ≤ rnd f t k ∧ m = rnd f t k - j ∧ fr = [(0, .dslice (evs l) l.length lc), (3, .ptr 0 0), (5, .slice 1 0 l.length (some l.length) 1), (6, I k), (7, I (f + j : Nat))] ∧ H = H19 f t (afr l A k f j) l.length []
def L19c (l : List Ev) (lc : Option Nat) (f t A : Nat) (m : Nat) (fr : Fr) (H : Heap) : Prop := ∃ k : Nat, k ≤ l.length ∧ m = l.length - k ∧ fr = [(0, .dslice (evs l) l.length lc), (3, .ptr 0 0), (5, .slice 1 0 l.length (some l.length) 1), (8, nV 2 (o1 A t k).length), (9, I k)] ∧ H = H19 f t A l.length (o1 A t k)
def L19d (l : List Ev) (lc : Option Nat) (f t A : Nat) (s : List Int) (m : Nat) (fr : Fr) (H : Heap) : Prop := ∃ k : Nat, k ≤ l.length ∧ m = l.length - k ∧ fr = [(0, .dslice (evs l) l.length lc), (3, .ptr 0 0), (5, .slice 1 0 l.length (some l.length) 1), (8, nV 2 (o2 A t s k).length), (10, I k)] ∧ H = H19 f t A l.length (o2 A t s k)
theorem H19_app (f t A n : Nat) (x : Int) (r : List Int) (a : Int) : (⟨3, [(0, .cells [I f, I t]), (1, .cells (bb A n)), (2, .cells (ints (x :: r) ++ [I a]))]⟩ : Heap) = H19 f t A n ((x :: r) ++ [a]) := by
  show _ = (⟨3, [(0, .cells [I f, I t]), (1, .cells (bb A n)), (2, .cells (ints ((x :: r) ++ [a])))]⟩ : Heap)
  rw [ints_app]; rfl
theorem c19 (l : List Ev) (lc : Option Nat) (f t : Nat) (hl : l.length ≤ 60) (hok : ∀ i (h : i < l.length), l[i].ok) (hft : f < t) (htn : t < l.length) :
    CallA Try.prog 19 [.dslice (evs l) l.length lc, .agg [I f, I t]] Heap.nil fun v H' => v = .dslice (ints (o2 (af l f t l.length) t (o1 (af l f t l.length) t l.length) l.length)) (o2 (af l f t l.length) t (o1 (af l f t l.length) t l.length) l.length).length none ∧ H' = Heap.nil := by
  have hpos := o2_pos (af l f t l.length) t (o1 (af l f t l.length) t l.length) l.length (by omega) (o1_has (af l f t l.length) t l.length)
  have dB : ∀ S n, dataB (.cells (bb S n)) := fun S n c hc => bb_noLoc S n c hc
  have dI : ∀ o, dataB (.cells (ints o)) := fun o c hc => ints_noLoc o c hc
  have dF : dataB (.cells [I f, I t]) := datE rfl
  refine callA_of ok19 (Nat.le_of_ble_eq_true rfl) ?_
  repeat' ((conv => whnf); first
      | refine Branch.ofT rfl ?_
      | refine Branch.ofF rfl ?_
      | refine Branch.dec (fun h => ?_) (fun h => ?_)
      | refine Branch.negdec (fun h => ?_) (fun h => ?_)
      | refine Branch.neg (fun h => ?_) (fun h => ?_)
      | refine Branch.mk (fun h => ?_) (fun h => ?_)
      | (refine Side.mk ?_ ?_; · first | omega | decide)
      | (refine SideD.mk ?_ ?_; · first | omega | decide)
      | refine ⟨_, Nat.lt_succ_self _, To.refl (.inl ⟨rfl, ?_⟩)⟩
      | refine Side.mk (mk1 (by omega)) ?_
      | (refine Side.mk ?_ ?_; · (simp; done))
      | fail
      )
  all_goals (conv => whnf)
  rw [show rep [AV.bool false] (l.length : Int).toNat = bb 0 l.length from rep_bb l.length]
  refine ⟨L19a l lc f t, l.length, To.gc [(0, true), (1, true)] [0, 3, 5, 6] rfl ⟨dF, dB _ _, trivial⟩ ⟨0, by omega, by omega, rfl, rfl⟩, ?_⟩
  rintro m fr H ⟨k, hk, rfl, rfl, rfl⟩
  by_cases hkl : k < l.length
  · have hkt := evs_at k l hkl
    have gk : l[k]! = l[k] := getElem!_pos l k hkl
    have haf : af l f t (k + 1) = afr l (af0 f (af l f t k) k) k f (rnd f t k) := rfl
    have ha0 : ∀ j, (af0 f (af l f t k) k).testBit j = if k = j then (if k = f then true else (af l f t k).testBit k) else (af l f t k).testBit j := by
      intro j
      unfold af0
      by_cases e : k = f
      · rw [if_pos e, set_bit, if_pos e]
      · rw [if_neg e, if_neg e]
        by_cases e2 : k = j
        · subst e2; rw [if_pos rfl]
        · rw [if_neg e2]
    have haf0 : af0 f (af l f t k) k = if k = f then af l f t k ||| 2 ^ k else af l f t k := rfl
    generalize af0 f (af l f t k) k = A1 at *
    generalize af l f t k = A0 at *
    by_cases hkf : k = f
    · repeat' ((conv => whnf); first
          | refine Branch.ofT rfl ?_
          | refine Branch.ofF rfl ?_
          | refine Branch.ofT (decide_eq_true (by omega)) ?_
          | refine Branch.dec (fun h => ?_) (fun h => ?_)
          | refine Branch.negdec (fun h => ?_) (fun h => ?_)
          | refine Branch.neg (fun h => ?_) (fun h => ?_)
          | refine Branch.mk (fun h => ?_) (fun h => ?_)
          | (refine Side.mk ?_ ?_; · first | omega | decide)
          | (refine SideD.mk ?_ ?_; · first | omega | decide)
          | refine ⟨_, Nat.lt_succ_self _, To.refl (.inl ⟨rfl, ?_⟩)⟩
          | refine lput_bb (S' := A1) (b := true) (n := l.length) (i := k) (by omega) (by omega) (fun j => by rw [ha0 j, if_pos hkf]) ?_
          | (refine Side.mk ?_ ?_; · (simp; done))
          | fail
          )
      all_goals (conv => whnf)
      refine ⟨L19b l lc f t A1 k, rnd f t k, To.gc [(0, true), (1, true)] [0, 3, 5, 6, 7] rfl ⟨dF, dB _ _, trivial⟩ ⟨0, by omega, by omega, rfl, rfl⟩, ?_⟩
      rintro m fr H ⟨j, hj, rfl, rfl, rfl⟩
      by_cases hjr : j < rnd f t k
      · exfalso
        unfold rnd at hjr
        split at hjr <;> omega
      · have : j = rnd f t k := by omega
        subst this
        rw [← haf]
        by_cases hkt' : k = t
        · have hr0 : rnd f t k = 0 := by rw [rnd, if_pos hkt']
          rw [hr0]
          repeat' ((conv => whnf); first
              | refine Branch.ofT rfl ?_
              | refine Branch.ofF rfl ?_
              | refine Branch.ofT (decide_eq_true (by omega)) ?_
              | refine Branch.ofF (by rw [decide_eq_true (by omega)]; rfl) ?_
              | refine Branch.dec (fun h => ?_) (fun h => ?_)
              | refine Branch.negdec (fun h => ?_) (fun h => ?_)
              | refine Branch.neg (fun h => ?_) (fun h => ?_)
              | refine Branch.mk (fun h => ?_) (fun h => ?_)
              | (refine Side.mk ?_ ?_; · first | omega | decide)
              | (refine SideD.mk ?_ ?_; · first | omega | decide)
              | refine ⟨_, Nat.lt_succ_self _, To.refl (.inl ⟨rfl, ?_⟩)⟩
              | (refine Side.mk ?_ ?_; · (simp; done))
              | fail
              )
          all_goals (conv => whnf)
          exact ⟨l.length - (k + 1), by omega, To.gc [(0, true), (1, true)] [0, 3, 5, 6] rfl ⟨dF, dB _ _, trivial⟩ ⟨k + 1, by omega, rfl, rfl, rfl⟩⟩
        · have hr0 : rnd f t k = k - f := by rw [rnd, if_neg hkt']
          rw [hr0]
          repeat' ((conv => whnf); first
              | refine Branch.ofT rfl ?_
              | refine Branch.ofF rfl ?_
              | refine Branch.ofF (decide_eq_false (by omega)) ?_
              | refine Branch.dec (fun h => ?_) (fun h => ?_)
              | refine Branch.negdec (fun h => ?_) (fun h => ?_)
              | refine Branch.neg (fun h => ?_) (fun h => ?_)
              | refine Branch.mk (fun h => ?_) (fun h => ?_)
              | (refine Side.mk ?_ ?_; · first | omega | decide)
              | (refine SideD.mk ?_ ?_; · first | omega | decide)
              | refine ⟨_, Nat.lt_succ_self _, To.refl (.inl ⟨rfl, ?_⟩)⟩
              | (refine Side.mk ?_ ?_; · (simp; done))
              | fail
              )
          all_goals (conv => whnf)
          exact ⟨l.length - (k + 1), by omega, To.gc [(0, true), (1, true)] [0, 3, 5, 6] rfl ⟨dF, dB _ _, trivial⟩ ⟨k + 1, by omega, rfl, rfl, rfl⟩⟩
    · rw [if_neg hkf] at haf0
      subst haf0
      repeat' ((conv => whnf); first
          | refine Branch.ofT rfl ?_
          | refine Branch.ofF rfl ?_
          | refine Branch.ofT (decide_eq_true (by omega)) ?_
          | refine Branch.ofF (decide_eq_false (by omega)) ?_
          | refine Branch.dec (fun h => ?_) (fun h => ?_)
          | refine Branch.negdec (fun h => ?_) (fun h => ?_)
          | refine Branch.neg (fun h => ?_) (fun h => ?_)
          | refine Branch.mk (fun h => ?_) (fun h => ?_)
          | (refine Side.mk ?_ ?_; · first | omega | decide)
          | (refine SideD.mk ?_ ?_; · first | omega | decide)
          | refine ⟨_, Nat.lt_succ_self _, To.refl (.inl ⟨rfl, ?_⟩)⟩
          | (refine Side.mk ?_ ?_; · (simp; done))
          | fail
          )
      all_goals (conv => whnf)
      refine ⟨L19b l lc f t A1 k, rnd f t k, To.gc [(0, true), (1, true)] [0, 3, 5, 6, 7] rfl ⟨dF, dB _ _, trivial⟩ ⟨0, by omega, by omega, rfl, rfl⟩, ?_⟩
      rintro m fr H ⟨j, hj, rfl, rfl, rfl⟩
      by_cases hjr : j < rnd f t k
      · have hkt' : k ≠ t := fun e => by rw [rnd, if_pos e] at hjr; omega
        have hjk : j < k - f := by rw [rnd, if_neg hkt'] at hjr; exact hjr
        have hil : f + j < l.length := by omega
        have hit := evs_at (f + j) l hil
        have gi : l[f + j]! = l[f + j] := getElem!_pos l (f + j) hil
        have h11 := c11 l[f + j] l[k] (hok _ hil) (hok k hkl)
        obtain ⟨b0, h0⟩ : ∃ b, (afr l A1 k f j).testBit k = b := ⟨_, rfl⟩
        obtain ⟨b1, h1⟩ : ∃ b, (afr l A1 k f j).testBit (f + j) = b := ⟨_, rfl⟩
        obtain ⟨bc, hc⟩ : ∃ b, con l[f + j]! l[k]! = b := ⟨_, rfl⟩
        have hst := afr_step l A1 k f j h0 h1 hc
        rw [gi, gk] at hc
        rw [hc] at h11
        generalize hS' : afr l A1 k f (j + 1) = S' at *
        generalize afr l A1 k f j = S at *
        cases b0 <;> cases b1
        all_goals simp only [Bool.false_or, Bool.true_or, Bool.false_and, Bool.true_and] at hst
        all_goals
          repeat' ((conv => whnf); first
              | refine Branch.ofT rfl ?_
              | refine Branch.ofF rfl ?_
              | refine Branch.ofT (decide_eq_true (by omega)) ?_
              | refine Branch.ofT (by rw [decide_eq_false (by omega)]; rfl) ?_
              | refine Branch.dec (fun h => ?_) (fun h => ?_)
              | refine Branch.negdec (fun h => ?_) (fun h => ?_)
              | refine Branch.neg (fun h => ?_) (fun h => ?_)
              | refine Branch.mk (fun h => ?_) (fun h => ?_)
              | (refine Side.mk ?_ ?_; · first | omega | decide)
              | (refine SideD.mk ?_ ?_; · first | omega | decide)
              | refine ⟨_, Nat.lt_succ_self _, To.refl (.inl ⟨rfl, ?_⟩)⟩
              | refine nth_bbb (n := l.length) (i := k) (by omega) (by omega) h0 ?_
              | refine nth_bbb (n := l.length) (i := f + j) (by omega) (by omega) h1 ?_
              | refine tk3 hit ?_
              | refine tk3 hkt ?_
              | refine QCallA.of h11 rfl rfl ?_
              | refine lput_bb (S' := S') (n := l.length) (i := k) (by omega) (by omega) hst ?_
              | (refine Side.mk ?_ ?_; · (simp; done))
              | fail
              )
          all_goals (conv => whnf)
        all_goals exact ⟨rnd f t k - (j + 1), by omega, To.gc [(0, true), (1, true)] [0, 3, 5, 6, 7] rfl ⟨dF, dB _ _, trivial⟩ ⟨j + 1, by omega, rfl, rfl, by rw [hS']; rfl⟩⟩
      · have : j = rnd f t k := by omega
        subst this
        rw [← haf]
        by_cases hkt' : k = t
        · have hr0 : rnd f t k = 0 := by rw [rnd, if_pos hkt']
          rw [hr0]
          repeat' ((conv => whnf); first
              | refine Branch.ofT rfl ?_
              | refine Branch.ofF rfl ?_
              | refine Branch.ofT (decide_eq_true (by omega)) ?_
              | refine Branch.ofF (by rw [decide_eq_true (by omega)]; rfl) ?_
              | refine Branch.dec (fun h => ?_) (fun h => ?_)
              | refine Branch.negdec (fun h => ?_) (fun h => ?_)
              | refine Branch.neg (fun h => ?_) (fun h => ?_)
              | refine Branch.mk (fun h => ?_) (fun h => ?_)
              | (refine Side.mk ?_ ?_; · first | omega | decide)
              | (refine SideD.mk ?_ ?_; · first | omega | decide)
              | refine ⟨_, Nat.lt_succ_self _, To.refl (.inl ⟨rfl, ?_⟩)⟩
              | (refine Side.mk ?_ ?_; · (simp; done))
              | fail
              )
          all_goals (conv => whnf)
          exact ⟨l.length - (k + 1), by omega, To.gc [(0, true), (1, true)] [0, 3, 5, 6] rfl ⟨dF, dB _ _, trivial⟩ ⟨k + 1, by omega, rfl, rfl, rfl⟩⟩
        · have hr0 : rnd f t k = k - f := by rw [rnd, if_neg hkt']
          rw [hr0]
          repeat' ((conv => whnf); first
              | refine Branch.ofT rfl ?_
              | refine Branch.ofF rfl ?_
              | refine Branch.ofF (decide_eq_false (by omega)) ?_
              | refine Branch.dec (fun h => ?_) (fun h => ?_)
              | refine Branch.negdec (fun h => ?_) (fun h => ?_)
              | refine Branch.neg (fun h => ?_) (fun h => ?_)
              | refine Branch.mk (fun h => ?_) (fun h => ?_)
              | (refine Side.mk ?_ ?_; · first | omega | decide)
              | (refine SideD.mk ?_ ?_; · first | omega | decide)
              | refine ⟨_, Nat.lt_succ_self _, To.refl (.inl ⟨rfl, ?_⟩)⟩
              | (refine Side.mk ?_ ?_; · (simp; done))
              | fail
              )
          all_goals (conv => whnf)
          exact ⟨l.length - (k + 1), by omega, To.gc [(0, true), (1, true)] [0, 3, 5, 6] rfl ⟨dF, dB _ _, trivial⟩ ⟨k + 1, by omega, rfl, rfl, rfl⟩⟩
  · have : k = l.length := by omega
    subst this
    have hpos := hpos
    generalize af l f t l.length = A at *
    repeat' ((conv => whnf); first
        | refine Branch.ofT rfl ?_
        | refine Branch.ofF rfl ?_
        | refine Branch.ofF (decide_eq_false (by omega)) ?_
        | refine Branch.dec (fun h => ?_) (fun h => ?_)
        | refine Branch.negdec (fun h => ?_) (fun h => ?_)
        | refine Branch.neg (fun h => ?_) (fun h => ?_)
        | refine Branch.mk (fun h => ?_) (fun h => ?_)
        | (refine Side.mk ?_ ?_; · first | omega | decide)
        | (refine SideD.mk ?_ ?_; · first | omega | decide)
        | refine ⟨_, Nat.lt_succ_self _, To.refl (.inl ⟨rfl, ?_⟩)⟩
        | (refine Side.mk ?_ ?_; · (simp; done))
        | fail
        )
    all_goals (conv => whnf)
    refine ⟨L19c l lc f t A, l.length, To.gc [(0, true), (1, true)] [0, 3, 5, 8, 9] rfl ⟨dF, dB _ _, trivial⟩ ⟨0, by omega, by omega, rfl, rfl⟩, ?_⟩
    rintro m fr H ⟨k, hk, rfl, rfl, rfl⟩
    by_cases hkl : k < l.length
    · have ho := o1_len A t k
      have hs : o1 A t (k + 1) = if A.testBit k = false ∧ k ≤ t then o1 A t k ++ [(k : Int)] else o1 A t k := rfl
      generalize o1 A t k = O at *
      obtain ⟨b, hb⟩ : ∃ b, A.testBit k = b := ⟨_, rfl⟩
      rw [hb] at hs
      cases O with
      | nil =>
        cases b
        · by_cases hkt : k ≤ t
          · have hn : o1 A t (k + 1) = [((k : Nat) : Int)] := by rw [hs]; exact if_pos ⟨rfl, hkt⟩
            repeat' ((conv => whnf); first
                | refine Branch.ofT rfl ?_
                | refine Branch.ofF rfl ?_
                | refine Branch.ofT (decide_eq_true (show (k : Int) < l.length by omega)) ?_
                | refine Branch.ofT (decide_eq_true (show (k : Int) ≤ t by omega)) ?_
                | refine Branch.dec (fun h => ?_) (fun h => ?_)
                | refine Branch.negdec (fun h => ?_) (fun h => ?_)
                | refine Branch.neg (fun h => ?_) (fun h => ?_)
                | refine Branch.mk (fun h => ?_) (fun h => ?_)
                | (refine Side.mk ?_ ?_; · first | omega | decide)
                | (refine SideD.mk ?_ ?_; · first | omega | decide)
                | refine ⟨_, Nat.lt_succ_self _, To.refl (.inl ⟨rfl, ?_⟩)⟩
                | refine nth_bbb (n := l.length) (i := k) (by omega) (by omega) hb ?_
                | refine Side.mk (appI _) ?_
                | (refine Side.mk ?_ ?_; · (simp; done))
                | fail
                )
            all_goals (conv => whnf)
            exact ⟨l.length - (k + 1), by omega, To.gc [(0, true), (1, true), (2, true)] [0, 3, 5, 8, 9] rfl ⟨dF, dB _ _, dI [((k : Nat) : Int)], trivial⟩ ⟨k + 1, by omega, rfl, by rw [hn]; rfl, by rw [hn]; rfl⟩⟩
          · have hn : o1 A t (k + 1) = [] := by rw [hs]; exact if_neg (fun q => hkt q.2)
            repeat' ((conv => whnf); first
                | refine Branch.ofT rfl ?_
                | refine Branch.ofF rfl ?_
                | refine Branch.ofT (decide_eq_true (show (k : Int) < l.length by omega)) ?_
                | refine Branch.ofF (decide_eq_false (show ¬ (k : Int) ≤ t by omega)) ?_
                | refine Branch.dec (fun h => ?_) (fun h => ?_)
                | refine Branch.negdec (fun h => ?_) (fun h => ?_)
                | refine Branch.neg (fun h => ?_) (fun h => ?_)
                | refine Branch.mk (fun h => ?_) (fun h => ?_)
                | (refine Side.mk ?_ ?_; · first | omega | decide)
                | (refine SideD.mk ?_ ?_; · first | omega | decide)
                | refine ⟨_, Nat.lt_succ_self _, To.refl (.inl ⟨rfl, ?_⟩)⟩
                | refine nth_bbb (n := l.length) (i := k) (by omega) (by omega) hb ?_
                | (refine Side.mk ?_ ?_; · (simp; done))
                | fail
                )
            all_goals (conv => whnf)
            exact ⟨l.length - (k + 1), by omega, To.gc [(0, true), (1, true)] [0, 3, 5, 8, 9] rfl ⟨dF, dB _ _, trivial⟩ ⟨k + 1, by omega, rfl, by rw [hn]; rfl, by rw [hn]; rfl⟩⟩
        · have hn : o1 A t (k + 1) = [] := by rw [hs]; exact if_neg (fun q => nomatch q.1)
          repeat' ((conv => whnf); first
              | refine Branch.ofT rfl ?_
              | refine Branch.ofF rfl ?_
              | refine Branch.ofT (decide_eq_true (show (k : Int) < l.length by omega)) ?_
              | refine Branch.dec (fun h => ?_) (fun h => ?_)
              | refine Branch.negdec (fun h => ?_) (fun h => ?_)
              | refine Branch.neg (fun h => ?_) (fun h => ?_)
              | refine Branch.mk (fun h => ?_) (fun h => ?_)
              | (refine Side.mk ?_ ?_; · first | omega | decide)
              | (refine SideD.mk ?_ ?_; · first | omega | decide)
              | refine ⟨_, Nat.lt_succ_self _, To.refl (.inl ⟨rfl, ?_⟩)⟩
              | refine nth_bbb (n := l.length) (i := k) (by omega) (by omega) hb ?_
              | (refine Side.mk ?_ ?_; · (simp; done))
              | fail
              )
          all_goals (conv => whnf)
          exact ⟨l.length - (k + 1), by omega, To.gc [(0, true), (1, true)] [0, 3, 5, 8, 9] rfl ⟨dF, dB _ _, trivial⟩ ⟨k + 1, by omega, rfl, by rw [hn]; rfl, by rw [hn]; rfl⟩⟩
      | cons x r =>
        have hlx : r.length + 1 ≤ 1000 := by simp only [List.length_cons] at ho; omega
        cases b
        · by_cases hkt : k ≤ t
          · have hn : o1 A t (k + 1) = (x :: r) ++ [((k : Nat) : Int)] := by rw [hs]; exact if_pos ⟨rfl, hkt⟩
            have hda : dataB (.cells (ints (x :: r) ++ [I ((k : Nat) : Int)])) := by
              have := dI ((x :: r) ++ [((k : Nat) : Int)])
              rwa [ints_app] at this
            repeat' ((conv => whnf); first
                | refine Branch.ofT rfl ?_
                | refine Branch.ofF rfl ?_
                | refine Branch.ofT (decide_eq_true (show (k : Int) < l.length by omega)) ?_
                | refine Branch.ofT (decide_eq_true (show (k : Int) ≤ t by omega)) ?_
                | refine Branch.dec (fun h => ?_) (fun h => ?_)
                | refine Branch.negdec (fun h => ?_) (fun h => ?_)
                | refine Branch.neg (fun h => ?_) (fun h => ?_)
                | refine Branch.mk (fun h => ?_) (fun h => ?_)
                | (refine Side.mk ?_ ?_; · first | omega | decide)
                | (refine SideD.mk ?_ ?_; · first | omega | decide)
                | refine ⟨_, Nat.lt_succ_self _, To.refl (.inl ⟨rfl, ?_⟩)⟩
                | refine nth_bbb (n := l.length) (i := k) (by omega) (by omega) hb ?_
                | refine Side.mk (appIs (x :: r) _ _ rfl hlx) ?_
                | (refine Side.mk ?_ ?_; · (simp; done))
                | fail
                )
            all_goals (conv => whnf)
            refine ⟨l.length - (k + 1), by omega, To.gc [(0, true), (1, true), (3, true)] [0, 3, 5, 8, 9] rfl ⟨dF, dB _ _, hda, trivial⟩ ⟨k + 1, by omega, rfl, ?_, ?_⟩⟩
            · rw [hn]; show [(0, AV.dslice (evs l) l.length lc), (3, AV.ptr 0 0), (5, AV.slice 1 0 l.length (some l.length) 1), (8, AV.slice 2 0 (r.length + 1 + 1) none 1), (9, I ((k + 1 : Nat) : Int))] = _; simp [nV]
            · rw [hn]; exact H19_app f t A l.length x r (k : Int)
          · have hn : o1 A t (k + 1) = (x :: r) := by rw [hs]; exact if_neg (fun q => hkt q.2)
            repeat' ((conv => whnf); first
                | refine Branch.ofT rfl ?_
                | refine Branch.ofF rfl ?_
                | refine Branch.ofT (decide_eq_true (show (k : Int) < l.length by omega)) ?_
                | refine Branch.ofF (decide_eq_false (show ¬ (k : Int) ≤ t by omega)) ?_
                | refine Branch.dec (fun h => ?_) (fun h => ?_)
                | refine Branch.negdec (fun h => ?_) (fun h => ?_)
                | refine Branch.neg (fun h => ?_) (fun h => ?_)
                | refine Branch.mk (fun h => ?_) (fun h => ?_)
                | (refine Side.mk ?_ ?_; · first | omega | decide)
                | (refine SideD.mk ?_ ?_; · first | omega | decide)
                | refine ⟨_, Nat.lt_succ_self _, To.refl (.inl ⟨rfl, ?_⟩)⟩
                | refine nth_bbb (n := l.length) (i := k) (by omega) (by omega) hb ?_
                | (refine Side.mk ?_ ?_; · (simp; done))
                | fail
                )
            all_goals (conv => whnf)
            exact ⟨l.length - (k + 1), by omega, To.gc [(0, true), (1, true), (2, true)] [0, 3, 5, 8, 9] rfl ⟨dF, dB _ _, dI (x :: r), trivial⟩ ⟨k + 1, by omega, rfl, by rw [hn]; rfl, by rw [hn]; rfl⟩⟩
        · have hn : o1 A t (k + 1) = (x :: r) := by rw [hs]; exact if_neg (fun q => nomatch q.1)
          repeat' ((conv => whnf); first
              | refine Branch.ofT rfl ?_
              | refine Branch.ofF rfl ?_
              | refine Branch.ofT (decide_eq_true (show (k : Int) < l.length by omega)) ?_
              | refine Branch.dec (fun h => ?_) (fun h => ?_)
              | refine Branch.negdec (fun h => ?_) (fun h => ?_)
              | refine Branch.neg (fun h => ?_) (fun h => ?_)
              | refine Branch.mk (fun h => ?_) (fun h => ?_)
              | (refine Side.mk ?_ ?_; · first | omega | decide)
              | (refine SideD.mk ?_ ?_; · first | omega | decide)
              | refine ⟨_, Nat.lt_succ_self _, To.refl (.inl ⟨rfl, ?_⟩)⟩
              | refine nth_bbb (n := l.length) (i := k) (by omega) (by omega) hb ?_
              | (refine Side.mk ?_ ?_; · (simp; done))
              | fail
              )
          all_goals (conv => whnf)
          exact ⟨l.length - (k + 1), by omega, To.gc [(0, true), (1, true), (2, true)] [0, 3, 5, 8, 9] rfl ⟨dF, dB _ _, dI (x :: r), trivial⟩ ⟨k + 1, by omega, rfl, by rw [hn]; rfl, by rw [hn]; rfl⟩⟩
    · have : k = l.length := by omega
      subst this
      have hol := o1_len A t l.length
      generalize o1 A t l.length = s at *
      repeat' ((conv => whnf); first
          | refine Branch.ofT rfl ?_
          | refine Branch.ofF rfl ?_
          | refine Branch.ofF (decide_eq_false (by omega)) ?_
          | refine Branch.dec (fun h => ?_) (fun h => ?_)
          | refine Branch.negdec (fun h => ?_) (fun h => ?_)
          | refine Branch.neg (fun h => ?_) (fun h => ?_)
          | refine Branch.mk (fun h => ?_) (fun h => ?_)
          | (refine Side.mk ?_ ?_; · first | omega | decide)
          | (refine SideD.mk ?_ ?_; · first | omega | decide)
          | refine ⟨_, Nat.lt_succ_self _, To.refl (.inl ⟨rfl, ?_⟩)⟩
          | (refine Side.mk ?_ ?_; · (simp; done))
          | fail
          )
      all_goals (conv => whnf)
      refine ⟨L19d l lc f t A s, l.length, ?_, ?_⟩
      · cases s with
        | nil => exact To.gc [(0, true), (1, true)] [0, 3, 5, 8, 10] rfl ⟨dF, dB _ _, trivial⟩ ⟨0, by omega, by omega, rfl, rfl⟩
        | cons x r => exact To.gc [(0, true), (1, true), (2, true)] [0, 3, 5, 8, 10] rfl ⟨dF, dB _ _, dI _, trivial⟩ ⟨0, by omega, by omega, rfl, rfl⟩
      rintro m fr H ⟨k, hk, rfl, rfl, rfl⟩
      by_cases hkl : k < l.length
      · have ho := o2_len A t s k
        have hs : o2 A t s (k + 1) = if A.testBit k = true ∨ t < k then o2 A t s k ++ [(k : Int)] else o2 A t s k := rfl
        generalize o2 A t s k = O at *
        obtain ⟨b, hb⟩ : ∃ b, A.testBit k = b := ⟨_, rfl⟩
        rw [hb] at hs
        cases O with
        | nil =>
          cases b
          · by_cases hkt : t < k
            · have hn : o2 A t s (k + 1) = [((k : Nat) : Int)] := by rw [hs]; exact if_pos (.inr hkt)
              repeat' ((conv => whnf); first
                  | refine Branch.ofT rfl ?_
                  | refine Branch.ofF rfl ?_
                  | refine Branch.ofT (decide_eq_true (show (k : Int) < l.length by omega)) ?_
                  | refine Branch.ofT (decide_eq_true (show (t : Int) < k by omega)) ?_
                  | refine Branch.dec (fun h => ?_) (fun h => ?_)
                  | refine Branch.negdec (fun h => ?_) (fun h => ?_)
                  | refine Branch.neg (fun h => ?_) (fun h => ?_)
                  | refine Branch.mk (fun h => ?_) (fun h => ?_)
                  | (refine Side.mk ?_ ?_; · first | omega | decide)
                  | (refine SideD.mk ?_ ?_; · first | omega | decide)
                  | refine ⟨_, Nat.lt_succ_self _, To.refl (.inl ⟨rfl, ?_⟩)⟩
                  | refine nth_bbb (n := l.length) (i := k) (by omega) (by omega) hb ?_
                  | refine Side.mk (appI _) ?_
                  | (refine Side.mk ?_ ?_; · (simp; done))
                  | fail
                  )
              all_goals (conv => whnf)
              exact ⟨l.length - (k + 1), by omega, To.gc [(0, true), (1, true), (2, true)] [0, 3, 5, 8, 10] rfl ⟨dF, dB _ _, dI [((k : Nat) : Int)], trivial⟩ ⟨k + 1, by omega, rfl, by rw [hn]; rfl, by rw [hn]; rfl⟩⟩
            · have hn : o2 A t s (k + 1) = [] := by rw [hs]; exact if_neg (fun q => q.elim (fun e => nomatch e) hkt)
              repeat' ((conv => whnf); first
                  | refine Branch.ofT rfl ?_
                  | refine Branch.ofF rfl ?_
                  | refine Branch.ofT (decide_eq_true (show (k : Int) < l.length by omega)) ?_
                  | refine Branch.ofF (decide_eq_false (show ¬ (t : Int) < k by omega)) ?_
                  | refine Branch.dec (fun h => ?_) (fun h => ?_)
                  | refine Branch.negdec (fun h => ?_) (fun h => ?_)
                  | refine Branch.neg (fun h => ?_) (fun h => ?_)
                  | refine Branch.mk (fun h => ?_) (fun h => ?_)
                  | (refine Side.mk ?_ ?_; · first | omega | decide)
                  | (refine SideD.mk ?_ ?_; · first | omega | decide)
                  | refine ⟨_, Nat.lt_succ_self _, To.refl (.inl ⟨rfl, ?_⟩)⟩
                  | refine nth_bbb (n := l.length) (i := k) (by omega) (by omega) hb ?_
                  | (refine Side.mk ?_ ?_; · (simp; done))
                  | fail
                  )
              all_goals (conv => whnf)
              exact ⟨l.length - (k + 1), by omega, To.gc [(0, true), (1, true)] [0, 3, 5, 8, 10] rfl ⟨dF, dB _ _, trivial⟩ ⟨k + 1, by omega, rfl, by rw [hn]; rfl, by rw [hn]; rfl⟩⟩
          · have hn : o2 A t s (k + 1) = [((k : Nat) : Int)] := by rw [hs]; exact if_pos (.inl rfl)
            repeat' ((conv => whnf); first
                | refine Branch.ofT rfl ?_
                | refine Branch.ofF rfl ?_
                | refine Branch.ofT (decide_eq_true (show (k : Int) < l.length by omega)) ?_
                | refine Branch.dec (fun h => ?_) (fun h => ?_)
                | refine Branch.negdec (fun h => ?_) (fun h => ?_)
                | refine Branch.neg (fun h => ?_) (fun h => ?_)
                | refine Branch.mk (fun h => ?_) (fun h => ?_)
                | (refine Side.mk ?_ ?_; · first | omega | decide)
                | (refine SideD.mk ?_ ?_; · first | omega | decide)
                | refine ⟨_, Nat.lt_succ_self _, To.refl (.inl ⟨rfl, ?_⟩)⟩
                | refine nth_bbb (n := l.length) (i := k) (by omega) (by omega) hb ?_
                | refine Side.mk (appI _) ?_
                | (refine Side.mk ?_ ?_; · (simp; done))
                | fail
                )
            all_goals (conv => whnf)
            exact ⟨l.length - (k + 1), by omega, To.gc [(0, true), (1, true), (2, true)] [0, 3, 5, 8, 10] rfl ⟨dF, dB _ _, dI [((k : Nat) : Int)], trivial⟩ ⟨k + 1, by omega, rfl, by rw [hn]; rfl, by rw [hn]; rfl⟩⟩
        | cons x r =>
          have hlx : r.length + 1 ≤ 1000 := by simp only [List.length_cons] at ho; omega
          cases b
          · by_cases hkt : t < k
            · have hn : o2 A t s (k + 1) = (x :: r) ++ [((k : Nat) : Int)] := by rw [hs]; exact if_pos (.inr hkt)
              have hda : dataB (.cells (ints (x :: r) ++ [I ((k : Nat) : Int)])) := by
                have := dI ((x :: r) ++ [((k : Nat) : Int)])
                rwa [ints_app] at this
              repeat' ((conv => whnf); first
                  | refine Branch.ofT rfl ?_
                  | refine Branch.ofF rfl ?_
                  | refine Branch.ofT (decide_eq_true (show (k : Int) < l.length by omega)) ?_
                  | refine Branch.ofT (decide_eq_true (show (t : Int) < k by omega)) ?_
                  | refine Branch.dec (fun h => ?_) (fun h => ?_)
                  | refine Branch.negdec (fun h => ?_) (fun h => ?_)
                  | refine Branch.neg (fun h => ?_) (fun h => ?_)
                  | refine Branch.mk (fun h => ?_) (fun h => ?_)
                  | (refine Side.mk ?_ ?_; · first | omega | decide)
                  | (refine SideD.mk ?_ ?_; · first | omega | decide)
                  | refine ⟨_, Nat.lt_succ_self _, To.refl (.inl ⟨rfl, ?_⟩)⟩
                  | refine nth_bbb (n := l.length) (i := k) (by omega) (by omega) hb ?_
                  | refine Side.mk (appIs (x :: r) _ _ rfl hlx) ?_
                  | (refine Side.mk ?_ ?_; · (simp; done))
                  | fail
                  )
              all_goals (conv => whnf)
              refine ⟨l.length - (k + 1), by omega, To.gc [(0, true), (1, true), (3, true)] [0, 3, 5, 8, 10] rfl ⟨dF, dB _ _, hda, trivial⟩ ⟨k + 1, by omega, rfl, ?_, ?_⟩⟩
              · rw [hn]; show [(0, AV.dslice (evs l) l.length lc), (3, AV.ptr 0 0), (5, AV.slice 1 0 l.length (some l.length) 1), (8, AV.slice 2 0 (r.length + 1 + 1) none 1), (10, I ((k + 1 : Nat) : Int))] = _; simp [nV]
              · rw [hn]; exact H19_app f t A l.length x r (k : Int)
            · have hn : o2 A t s (k + 1) = (x :: r) := by rw [hs]; exact if_neg (fun q => q.elim (fun e => nomatch e) hkt)
              repeat' ((conv => whnf); first
                  | refine Branch.ofT rfl ?_
                  | refine Branch.ofF rfl ?_
                  | refine Branch.ofT (decide_eq_true (show (k : Int) < l.length by omega)) ?_
                  | refine Branch.ofF (decide_eq_false (show ¬ (t : Int) < k by omega)) ?_
                  | refine Branch.dec (fun h => ?_) (fun h => ?_)
                  | refine Branch.negdec (fun h => ?_) (fun h => ?_)
                  | refine Branch.neg (fun h => ?_) (fun h => ?_)
                  | refine Branch.mk (fun h => ?_) (fun h => ?_)
                  | (refine Side.mk ?_ ?_; · first | omega | decide)
                  | (refine SideD.mk ?_ ?_; · first | omega | decide)
                  | refine ⟨_, Nat.lt_succ_self _, To.refl (.inl ⟨rfl, ?_⟩)⟩
                  | refine nth_bbb (n := l.length) (i := k) (by omega) (by omega) hb ?_
                  | (refine Side.mk ?_ ?_; · (simp; done))
                  | fail
                  )
              all_goals (conv => whnf)
              exact ⟨l.length - (k + 1), by omega, To.gc [(0, true), (1, true), (2, true)] [0, 3, 5, 8, 10] rfl ⟨dF, dB _ _, dI (x :: r), trivial⟩ ⟨k + 1, by omega, rfl, by rw [hn]; rfl, by rw [hn]; rfl⟩⟩
          · have hn : o2 A t s (k + 1) = (x :: r) ++ [((k : Nat) : Int)] := by rw [hs]; exact if_pos (.inl rfl)
            have hda : dataB (.cells (ints (x :: r) ++ [I ((k : Nat) : Int)])) := by
              have := dI ((x :: r) ++ [((k : Nat) : Int)])
              rwa [ints_app] at this
            repeat' ((conv => whnf); first
                | refine Branch.ofT rfl ?_
                | refine Branch.ofF rfl ?_
                | refine Branch.ofT (decide_eq_true (show (k : Int) < l.length by omega)) ?_
                | refine Branch.dec (fun h => ?_) (fun h => ?_)
                | refine Branch.negdec (fun h => ?_) (fun h => ?_)
                | refine Branch.neg (fun h => ?_) (fun h => ?_)
                | refine Branch.mk (fun h => ?_) (fun h => ?_)
                | (refine Side.mk ?_ ?_; · first | omega | decide)
                | (refine SideD.mk ?_ ?_; · first | omega | decide)
                | refine ⟨_, Nat.lt_succ_self _, To.refl (.inl ⟨rfl, ?_⟩)⟩
                | refine nth_bbb (n := l.length) (i := k) (by omega) (by omega) hb ?_
                | refine Side.mk (appIs (x :: r) _ _ rfl hlx) ?_
                | (refine Side.mk ?_ ?_; · (simp; done))
                | fail
                )
            all_goals (conv => whnf)
            refine ⟨l.length - (k + 1), by omega, To.gc [(0, true), (1, true), (3, true)] [0, 3, 5, 8, 10] rfl ⟨dF, dB _ _, hda, trivial⟩ ⟨k + 1, by omega, rfl, ?_, ?_⟩⟩
            · rw [hn]; show [(0, AV.dslice (evs l) l.length lc), (3, AV.ptr 0 0), (5, AV.slice 1 0 l.length (some l.length) 1), (8, AV.slice 2 0 (r.length + 1 + 1) none 1), (10, I ((k + 1 : Nat) : Int))] = _; simp [nV]
            · rw [hn]; exact H19_app f t A l.length x r (k : Int)
      · have : k = l.length := by omega
        subst this
        have hne : 0 < (o2 A t s l.length).length := hpos
        have hO := o2_len A t s l.length
        generalize o2 A t s l.length = O at *
        cases O with
        | nil => exact absurd hne (by simp)
        | cons x r =>
          repeat' ((conv => whnf); first
              | refine Branch.ofT rfl ?_
              | refine Branch.ofF rfl ?_
              | refine Branch.ofF (decide_eq_false (by omega)) ?_
              | refine Branch.dec (fun h => ?_) (fun h => ?_)
              | refine Branch.negdec (fun h => ?_) (fun h => ?_)
              | refine Branch.neg (fun h => ?_) (fun h => ?_)
              | refine Branch.mk (fun h => ?_) (fun h => ?_)
              | (refine Side.mk ?_ ?_; · first | omega | decide)
              | (refine SideD.mk ?_ ?_; · first | omega | decide)
              | refine ⟨_, Nat.lt_succ_self _, To.refl (.inl ⟨rfl, ?_⟩)⟩
              | (refine Side.mk ?_ ?_; · (simp; done))
              | fail
              )
          all_goals (conv => whnf)
          refine RetA.pub 2 rfl (ints_noLoc _) (RetA.data rfl ⟨?_, rfl⟩)
          show AV.dslice (List.take ((r.length + 1) * 1) (List.drop 0 (ints (x :: r)))) (r.length + 1) none = _
          have := ints_take (x :: r)
          rw [List.length_cons] at this
          rw [List.drop_zero, this]; rfl
end Go.Proofs

namespace Go.Proofs
open Go Go.Eng
set_option maxRecDepth 100000
set_option maxHeartbeats 4000000
/-! ### The plain law: each edge is wanted -/
theorem afr_bit (l : List Ev) (A k f : Nat) : ∀ j, f + j ≤ k → ∀ x, (afr l A k f j).testBit x = true ↔ (A.testBit x = true ∨ (x = k ∧ ∃ i, i < j ∧ A.testBit (f + i) = true ∧ con l[f + i]! l[k]! = true))
  | 0, _, x => by simp [afr]
  | j + 1, hj, x => by
    have ih := afr_bit l A k f j (by omega)
    have hb := afr_step l A k f j rfl rfl rfl x
    rw [hb]
    by_cases e : k = x
    · subst e
      rw [if_pos rfl]
      have h1 : (afr l A k f j).testBit (f + j) = true ↔ A.testBit (f + j) = true := by
        rw [ih]
        constructor
        · rintro (h | ⟨h, _⟩)
          · exact h
          · omega
        · exact .inl
      rw [Bool.or_eq_true, Bool.and_eq_true, ih, h1]
      constructor
      · rintro ((h | ⟨_, i, h2, h3⟩) | ⟨h2, h3⟩)
        · exact .inl h
        · exact .inr ⟨rfl, i, by omega, h3⟩
        · exact .inr ⟨rfl, j, by omega, h2, h3⟩
      · rintro (h | ⟨_, i, h2, h3⟩)
        · exact .inl (.inl h)
        · by_cases hij : i < j
          · exact .inl (.inr ⟨rfl, i, hij, h3⟩)
          · have : i = j := by omega
            subst this; exact .inr h3
    · rw [if_neg e, ih]
      constructor
      · rintro (h | ⟨h, _⟩)
        · exact .inl h
        · exact absurd h.symm e
      · rintro (h | ⟨h, _⟩)
        · exact .inl h
        · exact absurd h.symm e
theorem af_bit (l : List Ev) (f t k x : Nat) : (af l f t (k + 1)).testBit x = true ↔ ((af l f t k).testBit x = true ∨ (x = k ∧ (k = f ∨ (k ≠ t ∧ ∃ i, f ≤ i ∧ i < k ∧ (af l f t k).testBit i = true ∧ con l[i]! l[k]! = true)))) := by
  have h0 : ∀ j, (af0 f (af l f t k) k).testBit j = true ↔ ((af l f t k).testBit j = true ∨ (j = k ∧ k = f)) := by
    intro j
    unfold af0
    by_cases e : k = f
    · rw [if_pos e, set_bit]
      by_cases e2 : k = j
      · rw [if_pos e2]; exact ⟨fun _ => .inr ⟨e2.symm, e⟩, fun _ => rfl⟩
      · rw [if_neg e2]; exact ⟨.inl, fun h => h.elim id fun q => absurd q.1.symm e2⟩
    · rw [if_neg e]; exact ⟨.inl, fun h => h.elim id fun q => absurd q.2 e⟩
  rw [af]
  by_cases hkf : f ≤ k
  · have hr : f + rnd f t k ≤ k := by unfold rnd; split <;> omega
    rw [afr_bit l _ k f _ hr, h0]
    constructor
    · rintro ((h | ⟨rfl, h⟩) | ⟨rfl, i, h1, h2, h3⟩)
      · exact .inl h
      · exact .inr ⟨rfl, .inl h⟩
      · have hkt : x ≠ t := fun e => by rw [rnd, if_pos e] at h1; omega
        rw [rnd, if_neg hkt] at h1
        refine .inr ⟨rfl, .inr ⟨hkt, f + i, by omega, by omega, ?_, h3⟩⟩
        rcases (h0 _).1 h2 with h | ⟨h, _⟩
        · exact h
        · omega
    · rintro (h | ⟨rfl, h | ⟨h1, i, h2, h3, h4, h5⟩⟩)
      · exact .inl (.inl h)
      · exact .inl (.inr ⟨rfl, h⟩)
      · refine .inr ⟨rfl, i - f, ?_, ?_, ?_⟩
        · rw [rnd, if_neg h1]; omega
        · rw [show f + (i - f) = i by omega]; exact (h0 _).2 (.inl h4)
        · rw [show f + (i - f) = i by omega]; exact h5
  · have hr : rnd f t k = 0 := by unfold rnd; split <;> omega
    rw [hr, afr, h0]
    constructor
    · rintro (h | ⟨rfl, h⟩)
      · exact .inl h
      · omega
    · rintro (h | ⟨rfl, h | ⟨h1, i, h2, h3, _⟩⟩)
      · exact .inl h
      · omega
      · omega
theorem af_ge (l : List Ev) (f t : Nat) : ∀ k x, (af l f t k).testBit x = true → x < k
  | 0, x, h => by simp [af] at h
  | k + 1, x, h => by
    rcases (af_bit l f t k x).1 h with h | ⟨rfl, _⟩
    · have := af_ge l f t k x h; omega
    · omega
theorem af_fin (l : List Ev) (f t : Nat) : ∀ n x, x < n → ((af l f t n).testBit x = true ↔ (x = f ∨ (x ≠ t ∧ ∃ i, f ≤ i ∧ i < x ∧ (af l f t n).testBit i = true ∧ con l[i]! l[x]! = true)))
  | n + 1, x, hx => by
    have old : ∀ i, i < n → ((af l f t (n + 1)).testBit i = true ↔ (af l f t n).testBit i = true) := fun i hi => by
      rw [af_bit]
      exact ⟨fun h => h.elim id fun q => by omega, .inl⟩
    by_cases h : x < n
    · rw [old x h, af_fin l f t n x h]
      constructor
      · rintro (h | ⟨h1, i, h2, h3, h4, h5⟩)
        · exact .inl h
        · exact .inr ⟨h1, i, h2, h3, (old i (by omega)).2 h4, h5⟩
      · rintro (h | ⟨h1, i, h2, h3, h4, h5⟩)
        · exact .inl h
        · exact .inr ⟨h1, i, h2, h3, (old i (by omega)).1 h4, h5⟩
    · have : x = n := by omega
      subst this
      rw [af_bit]
      constructor
      · rintro (h | ⟨_, h | ⟨h1, i, h2, h3, h4, h5⟩⟩)
        · have := af_ge l f t x x h; omega
        · exact .inl h
        · exact .inr ⟨h1, i, h2, h3, (old i h3).2 h4, h5⟩
      · rintro (h | ⟨h1, i, h2, h3, h4, h5⟩)
        · exact .inr ⟨rfl, .inl h⟩
        · exact .inr ⟨rfl, .inr ⟨h1, i, h2, h3, (old i h3).1 h4, h5⟩⟩
/-- What is reached has a way from f. -/
theorem af_way {l : List Ev} {f t : Nat} (hft : f < t) : ∀ x, x < l.length → (af l f t l.length).testBit x = true → f ≤ x ∧ (x = f ∨ (ws l l.length)[x]!.testBit f = true) := by
  intro x
  induction x using Nat.strongRecOn with
  | _ x ih =>
    intro hx h
    rcases (af_fin l f t l.length x hx).1 h with rfl | ⟨h1, i, h2, h3, h4, h5⟩
    · exact ⟨Nat.le_refl _, .inl rfl⟩
    · refine ⟨by omega, .inr ((ws_iff l l.length x f hx).2 ⟨i, h3, h5, ?_⟩)⟩
      exact (ih i h3 (by omega) h4).2
/-- The keys by which the order goes. -/
def key (A t n x : Nat) : Nat := if A.testBit x = false ∧ x ≤ t then x else n + x
theorem key_lt {l : List Ev} {f t : Nat} (hft : f < t) (ht : t < l.length) (hlg : lg (ws l l.length) t f (t - 1 - f) = false) {k i : Nat} (hi : i < l.length) (hk : k < i) (hc : con l[k]! l[i]! = true) (hne : ¬ (k = f ∧ i = t)) : key (af l f t l.length) t l.length k < key (af l f t l.length) t l.length i := by
  unfold key
  by_cases h1 : (af l f t l.length).testBit i = false ∧ i ≤ t
  · rw [if_pos h1]
    have hA : (af l f t l.length).testBit k = false := by
      refine Classical.byContradiction fun q => ?_
      have q : (af l f t l.length).testBit k = true := by simpa using q
      obtain ⟨w1, w2⟩ := af_way hft k (by omega) q
      by_cases hit : i = t
      · subst hit
        rcases w2 with rfl | w2
        · exact hne ⟨rfl, rfl⟩
        · have hfk : f < k := bit_lt (by omega) w2
          have : lg (ws l l.length) i f (i - 1 - f) = true := (lg_iff _ _ _ _).2 ⟨k, hfk, by omega, w2, (ws_iff l l.length i k hi).2 ⟨k, hk, hc, .inl rfl⟩⟩
          rw [this] at hlg; cases hlg
      · have := (af_fin l f t l.length i hi).2 (.inr ⟨hit, k, w1, hk, q, hc⟩)
        rw [this] at h1; cases h1.1
    rw [if_pos ⟨hA, by omega⟩]; exact hk
  · rw [if_neg h1]
    split <;> omega
theorem o1_mem (A t : Nat) : ∀ n (a : Int), a ∈ o1 A t n ↔ ∃ k, k < n ∧ a = (k : Int) ∧ A.testBit k = false ∧ k ≤ t
  | 0, a => by simp [o1]
  | n + 1, a => by
    have ih := o1_mem A t n a
    simp only [o1]
    split
    · rename_i h
      rw [List.mem_append, ih, List.mem_singleton]
      constructor
      · rintro (⟨k, h1, h2⟩ | rfl)
        · exact ⟨k, by omega, h2⟩
        · exact ⟨n, by omega, rfl, h⟩
      · rintro ⟨k, h1, h2, h3⟩
        by_cases e : k < n
        · exact .inl ⟨k, e, h2, h3⟩
        · have : k = n := by omega
          subst this; exact .inr h2
    · rename_i h
      rw [ih]
      constructor
      · rintro ⟨k, h1, h2⟩; exact ⟨k, by omega, h2⟩
      · rintro ⟨k, h1, h2, h3⟩
        refine ⟨k, ?_, h2, h3⟩
        have : k ≠ n := fun e => h (e ▸ h3)
        omega
theorem o2_mem (A t : Nat) (s : List Int) : ∀ n (a : Int), a ∈ o2 A t s n ↔ a ∈ s ∨ ∃ k, k < n ∧ a = (k : Int) ∧ (A.testBit k = true ∨ t < k)
  | 0, a => by simp [o2]
  | n + 1, a => by
    have ih := o2_mem A t s n a
    simp only [o2]
    split
    · rename_i h
      rw [List.mem_append, ih, List.mem_singleton]
      constructor
      · rintro ((h1 | ⟨k, h1, h2⟩) | rfl)
        · exact .inl h1
        · exact .inr ⟨k, by omega, h2⟩
        · exact .inr ⟨n, by omega, rfl, h⟩
      · rintro (h1 | ⟨k, h1, h2, h3⟩)
        · exact .inl (.inl h1)
        · by_cases e : k < n
          · exact .inl (.inr ⟨k, e, h2, h3⟩)
          · have : k = n := by omega
            subst this; exact .inr h2
    · rename_i h
      rw [ih]
      constructor
      · rintro (h1 | ⟨k, h1, h2⟩)
        · exact .inl h1
        · exact .inr ⟨k, by omega, h2⟩
      · rintro (h1 | ⟨k, h1, h2, h3⟩)
        · exact .inl h1
        · refine .inr ⟨k, ?_, h2, h3⟩
          have : k ≠ n := fun e => h (e ▸ h3)
          omega
theorem snoc_pair {R : Int → Int → Prop} {s : List Int} {a : Int} (h : s.Pairwise R) (ha : ∀ b ∈ s, R b a) : (s ++ [a]).Pairwise R := by
  rw [List.pairwise_append]
  exact ⟨h, by simp, fun b hb c hc => by rw [List.mem_singleton] at hc; subst hc; exact ha b hb⟩
theorem o1_pair (A t n : Nat) : ∀ k, (o1 A t k).Pairwise fun a b => key A t n a.toNat < key A t n b.toNat
  | 0 => by simp [o1]
  | k + 1 => by
    have ih := o1_pair A t n k
    simp only [o1]
    split
    · rename_i h
      refine snoc_pair ih fun b hb => ?_
      obtain ⟨j, h1, rfl, h2⟩ := (o1_mem A t k b).1 hb
      simp only [Int.toNat_natCast, key]
      rw [if_pos h2, if_pos h]; exact h1
    · exact ih
theorem o2_pair (A t n : Nat) : ∀ k, k ≤ n → (o2 A t (o1 A t n) k).Pairwise fun a b => key A t n a.toNat < key A t n b.toNat
  | 0, _ => by simp only [o2]; exact o1_pair A t n n
  | k + 1, hk => by
    have ih := o2_pair A t n k (by omega)
    simp only [o2]
    split
    · rename_i h
      refine snoc_pair ih fun b hb => ?_
      have hn : ¬ (A.testBit k = false ∧ k ≤ t) := fun q => by
        rcases h with h | h
        · rw [q.1] at h; cases h
        · omega
      have e2 : key A t n ((k : Int)).toNat = n + k := by simp only [Int.toNat_natCast, key]; rw [if_neg hn]
      rw [e2]
      rcases (o2_mem A t _ k b).1 hb with hb | ⟨j, h1, rfl, h2⟩
      · obtain ⟨j, h1, rfl, h2⟩ := (o1_mem A t n b).1 hb
        simp only [Int.toNat_natCast, key]
        rw [if_pos h2]; omega
      · simp only [Int.toNat_natCast, key]
        split <;> omega
    · exact ih
theorem sw_perm (A t n : Nat) (ht : t < n) : PermP (o2 A t (o1 A t n) n) n := by
  have hp := o2_pair A t n n (Nat.le_refl _)
  have hm : ∀ a, a ∈ o2 A t (o1 A t n) n ↔ a ∈ rng n := fun a => by
    rw [o2_mem, o1_mem, rng_mem]
    constructor
    · rintro (⟨k, h1, rfl, _⟩ | ⟨k, h1, rfl, _⟩) <;> omega
    · rintro ⟨h1, h2⟩
      by_cases h : A.testBit a.toNat = false ∧ a.toNat ≤ t
      · exact .inl ⟨a.toNat, by omega, by omega, h⟩
      · refine .inr ⟨a.toNat, by omega, by omega, ?_⟩
        by_cases h3 : A.testBit a.toNat = true
        · exact .inl h3
        · refine .inr ?_
          have : A.testBit a.toNat = false := by simpa using h3
          refine Classical.byContradiction fun q => h ⟨this, by omega⟩
  have hnd : (o2 A t (o1 A t n) n).Nodup := hp.imp fun h e => by subst e; omega
  have hl := ((List.perm_ext_iff_of_nodup hnd (rng_nodup n)).2 hm).length_eq
  rw [rng_len] at hl
  refine ⟨hl, fun i hi => ?_, fun i j hi hj hij e => ?_⟩
  · exact (rng_mem n _).1 ((hm _).1 (List.getElem_mem hi))
  · have := List.pairwise_iff_getElem.1 hp i j hi hj hij
    rw [e] at this; omega
theorem sw_place (A t n : Nat) (ht : t < n) {x y : Nat} (hx : x < n) (hy : y < n) (h : key A t n x < key A t n y) : (plc (o2 A t (o1 A t n) n) n n)[x]! < (plc (o2 A t (o1 A t n) n) n n)[y]! := by
  have hP := sw_perm A t n ht
  have hp := o2_pair A t n n (Nat.le_refl _)
  generalize o2 A t (o1 A t n) n = o at *
  have hoL : o.length = n := hP.1
  obtain ⟨p, h1, h2, h3⟩ := pl_spec hP x hx
  obtain ⟨q, g1, g2, g3⟩ := pl_spec hP y hy
  rw [h3, g3]
  refine Classical.byContradiction fun c => ?_
  by_cases e : q = p
  · subst e; rw [h2] at g2; subst g2; omega
  · have := List.pairwise_iff_getElem.1 hp q p (by omega) (by omega) (by omega)
    rw [getElem!_pos o p (by omega)] at h2
    rw [getElem!_pos o q (by omega)] at g2
    rw [h2, g2] at this; omega
theorem es2_lex (l : List Ev) (W : List Nat) : ∀ n, (es2 l W n).Pairwise fun a b => a ≠ b := by
  have ekp : ∀ k i, (ek2 l W k i).Pairwise fun a b => a ≠ b := by
    intro k i
    induction i with
    | zero => simp [ek2]
    | succ i ih =>
      simp only [ek2]
      split
      · rw [List.pairwise_append]
        refine ⟨ih, by simp, fun a ha b hb => ?_⟩
        rw [List.mem_singleton] at hb; subst hb
        obtain ⟨x, h1, rfl, _⟩ := (ek2_mem l W k i a).1 ha
        intro e; simp at e; omega
      · exact ih
  intro n
  induction n with
  | zero => simp [es2]
  | succ n ih =>
    rw [es2, List.pairwise_append]
    refine ⟨ih, ekp n n, fun a ha b hb => ?_⟩
    obtain ⟨k, x, h1, h2, rfl, _⟩ := (es2_mem l W n a).1 ha
    obtain ⟨y, g1, rfl, _⟩ := (ek2_mem l W n n b).1 hb
    intro e; simp at e; omega
/-- For each edge, the order made keeps all else, and is not legal. -/
theorem least {l : List Ev} {j : Nat} (hj : j < (es2 l (ws l l.length) l.length).length) {f t : Nat} (he : (es2 l (ws l l.length) l.length)[j] = ((f : Int), (t : Int))) {o : List Int} (ho : o = o2 (af l f t l.length) t (o1 (af l f t l.length) t l.length) l.length) :
    PermP o l.length ∧ kpB l (plc o l.length l.length) (es2 l (ws l l.length) l.length) j = true ∧ legB (ds l l.length) o = false := by
  obtain ⟨t', f', a1, a2, a3, a4, a5, a6⟩ := (es2_mem l _ _ _).1 (List.getElem_mem hj)
  rw [he] at a3
  simp only [Prod.mk.injEq] at a3
  obtain ⟨rfl, rfl⟩ : f = f' ∧ t = t' := by omega
  have hP := sw_perm (af l f t l.length) t l.length a1
  have hS := fun {x y : Nat} (hx : x < l.length) (hy : y < l.length) h => sw_place (af l f t l.length) t l.length a1 hx hy h
  rw [← ho] at hP
  simp only [← ho] at hS
  refine ⟨hP, kpB_t ⟨fun i hi k hk hc => ?_, fun q hq hne => ?_⟩, legB_f fun hleg => ?_⟩
  · have := hS (by omega) hi (key_lt a2 a1 a6 hi hk (by unfold con; rw [decide_eq_true hc.symm]; rfl) (fun e => by obtain ⟨rfl, rfl⟩ := e; exact a4 hc.symm))
    omega
  · rw [getElem!_pos _ q hq]
    obtain ⟨k, x, b1, b2, b3, b4, b5, b6⟩ := (es2_mem l _ _ _).1 (List.getElem_mem hq)
    have hdiff : (es2 l (ws l l.length) l.length)[q] ≠ (es2 l (ws l l.length) l.length)[j] := by
      intro e
      have hw := List.pairwise_iff_getElem.1 (es2_lex l (ws l l.length) l.length)
      by_cases hlt : q < j
      · exact hw q j hq hj hlt e
      · exact hw j q hj hq (by omega) e.symm
    rw [he] at hdiff
    rw [b3] at hdiff ⊢
    simp only [Int.toNat_natCast]
    have := hS (by omega) b1 (key_lt a2 a1 a6 b1 b2 b5 (fun e => by obtain ⟨rfl, rfl⟩ := e; exact hdiff rfl))
    omega
  · have hl := (leg_iff hP).1 hleg t a1 f a2 a5
    have hA : (af l f t l.length).testBit f = true := (af_fin l f t l.length f (by omega)).2 (.inl rfl)
    have hB : (af l f t l.length).testBit t = false := by
      refine Classical.byContradiction fun q => ?_
      rcases (af_fin l f t l.length t a1).1 (by simpa using q) with h | ⟨h, _⟩
      · omega
      · exact h rfl
    have := hS a1 (by omega : f < l.length) (by
      unfold key
      rw [if_pos ⟨hB, Nat.le_refl _⟩, if_neg (fun q => by rw [hA] at q; cases q.1)]; omega)
    omega
end Go.Proofs

namespace Go.Proofs
open Go Go.Eng
set_option maxRecDepth 100000
set_option maxHeartbeats 8000000
theorem rng_succ (k : Nat) : rng (k + 1) = rng k ++ [(k : Int)] := by simp [rng, List.range_succ]
def HN : Nat → Heap
  | 0 => Heap.nil
  | k + 1 => ⟨1, [(0, .cells (ints (rng (k + 1))))]⟩
def L4 (l : List Ev) (cap : Option Nat) (o : List Int) (oc : Option Nat) (m : Nat) (fr : Fr) (H : Heap) : Prop := ∃ k : Nat, k ≤ l.length ∧ m = l.length - k ∧
  (((k < l.length ∨ k = 0) ∧ fr = [(0, .dslice (evs l) l.length cap), (1, .dslice (ints o) o.length oc), (5, nV 0 k), (6, I k)] ∧ H = HN k) ∨
   (k = l.length ∧ fr = [(0, .dslice (evs l) l.length cap), (1, .dslice (ints o) o.length oc), (5, .dslice (ints (rng l.length)) l.length none), (6, I k)] ∧ H = Heap.nil))
theorem c17n (l : List Ev) (lc : Option Nat) (h0 : l.length = 0) (hok : ∀ i (h : i < l.length), l[i].ok) :
    CallA Try.prog 17 [.dslice (evs l) l.length lc, .nils] Heap.nil fun v H' => v = .bool true ∧ H' = Heap.nil := by
  have := c17 l lc [] none (by omega) hok ⟨by rw [h0]; rfl, fun i h => absurd h (by simp), fun i j hi => absurd hi (by simp)⟩
  have hg := leg_rng l
  rw [h0] at hg
  have e : rng 0 = [] := rfl
  rw [e, ← h0] at hg
  rw [hg] at this
  refine CallA.args this fun M μ vs hv => ?_
  simp only [relL] at hv ⊢
  obtain ⟨v, r, rfl, h1, v2, r2, rfl, h2, h3⟩ := hv
  refine ⟨v, _, rfl, h1, v2, r2, rfl, ?_, h3⟩
  simp only [relV] at h2
  simp [relV, h2, ints]
theorem c4 (l : List Ev) (cap : Option Nat) (o : List Int) (oc : Option Nat) : CallA Try.prog 4 [.dslice (evs l) l.length cap, .dslice (ints o) o.length oc] Heap.nil fun v H' => v = .bool true ∧ H' = Heap.nil := by
  have dI : ∀ o, dataB (.cells (ints o)) := fun o c hc => ints_noLoc o c hc
  have h6 := c6 l cap 60 (by decide)
  refine callA_of ok4 (Nat.le_of_ble_eq_true rfl) ?_
  have h7 := san
  by_cases hf : FewP l 60
  · rw [fewB_t hf] at h6
    obtain ⟨hl, hok⟩ := hf
    have h16 := c16 o oc l.length (by omega)
    by_cases hP : PermP o l.length
    · rw [permB_t hP] at h16
      have h17 := c17 l cap o oc (by omega) hok hP
      have h17r := c17 l cap (rng l.length) none (by omega) hok (rng_perm l.length)
      rw [leg_rng l, rng_len] at h17r
      have h17n := c17n l cap
      have h14 := c14d l cap (by omega) hok
      have hEl := es2_len l (ws l l.length) l.length (by omega)
      have h18 := c18 l cap o oc (es2 l (ws l l.length) l.length) (-1) (by omega) hP (es2_ok l _ _) (by omega)
      rw [← suff hP] at h18
      generalize es2 l (ws l l.length) l.length = E at *
      generalize legB (ds l l.length) o = g at *
      repeat' ((conv => whnf); first
          | refine Branch.ofT rfl ?_
          | refine Branch.ofF rfl ?_
          | refine Branch.ofF rfl ?_
          | refine Branch.dec (fun h => ?_) (fun h => ?_)
          | refine Branch.negdec (fun h => ?_) (fun h => ?_)
          | refine Branch.neg (fun h => ?_) (fun h => ?_)
          | refine Branch.mk (fun h => ?_) (fun h => ?_)
          | (refine Side.mk ?_ ?_; · first | omega | decide)
          | (refine SideD.mk ?_ ?_; · first | omega | decide)
          | refine ⟨_, Nat.lt_succ_self _, To.refl (.inl ⟨rfl, ?_⟩)⟩
          | refine CallA.pure h6 rfl rfl ?_
          | refine CallA.pure h16 rfl rfl ?_
          | (refine Side.mk ?_ ?_; · (simp; done))
          | fail
          )
      all_goals (conv => whnf)
      refine ⟨L4 l cap o oc, l.length, To.gc [] [0, 1, 5, 6] rfl trivial ⟨0, by omega, by omega, .inl ⟨.inr rfl, rfl, rfl⟩⟩, ?_⟩
      rintro m fr H ⟨k, hk, rfl, h⟩
      by_cases hkl : k < l.length
      · obtain ⟨_, rfl, rfl⟩ : _ ∧ fr = _ ∧ H = _ := h.resolve_right fun q => by omega
        have hr := rng_succ k
        have hrl := rng_len k
        have fin : ∀ {cs : List AV}, cs = ints (rng (k + 1)) → dataB (.cells cs) := fun e => by rw [e]; exact dI _
        have hit : List.take ((k + 1) * 1) (List.drop 0 (ints (rng (k + 1)))) = ints (rng (k + 1)) := by
          have := ints_take (rng (k + 1))
          rw [rng_len] at this
          rw [List.drop_zero, this]
        cases k with
        | zero =>
          repeat' ((conv => whnf); first
              | refine Branch.ofT rfl ?_
              | refine Branch.ofF rfl ?_
              | refine Branch.ofT (decide_eq_true (by omega)) ?_
              | refine Branch.dec (fun h => ?_) (fun h => ?_)
              | refine Branch.negdec (fun h => ?_) (fun h => ?_)
              | refine Branch.neg (fun h => ?_) (fun h => ?_)
              | refine Branch.mk (fun h => ?_) (fun h => ?_)
              | (refine Side.mk ?_ ?_; · first | omega | decide)
              | (refine SideD.mk ?_ ?_; · first | omega | decide)
              | refine ⟨_, Nat.lt_succ_self _, To.refl (.inl ⟨rfl, ?_⟩)⟩
              | refine Side.mk (appI _) ?_
              | (refine Side.mk ?_ ?_; · (simp; done))
              | fail
              )
          all_goals (conv => whnf)
          by_cases hn : 0 + 1 = l.length
          · refine ⟨l.length - (0 + 1), by omega, To.pub 0 [0, 1, 5, 6] rfl (dI [((0 : Nat) : Int)]) (To.gc [] [0, 1, 5, 6] rfl trivial ⟨0 + 1, by omega, rfl, .inr ⟨hn, ?_, rfl⟩⟩)⟩
            rw [← hn]; rfl
          · exact ⟨l.length - (0 + 1), by omega, To.gc [(0, true)] [0, 1, 5, 6] rfl ⟨dI [((0 : Nat) : Int)], trivial⟩ ⟨0 + 1, by omega, rfl, .inl ⟨.inl (by omega), rfl, rfl⟩⟩⟩
        | succ k =>
          have he : ints (rng (k + 1)) ++ [I ((k + 1 : Nat) : Int)] = ints (rng (k + 1 + 1)) := by rw [hr, ints_app]; rfl
          repeat' ((conv => whnf); first
              | refine Branch.ofT rfl ?_
              | refine Branch.ofF rfl ?_
              | refine Branch.ofT (decide_eq_true (by omega)) ?_
              | refine Branch.dec (fun h => ?_) (fun h => ?_)
              | refine Branch.negdec (fun h => ?_) (fun h => ?_)
              | refine Branch.neg (fun h => ?_) (fun h => ?_)
              | refine Branch.mk (fun h => ?_) (fun h => ?_)
              | (refine Side.mk ?_ ?_; · first | omega | decide)
              | (refine SideD.mk ?_ ?_; · first | omega | decide)
              | refine ⟨_, Nat.lt_succ_self _, To.refl (.inl ⟨rfl, ?_⟩)⟩
              | refine Side.mk (appIs _ _ _ hrl (by omega)) ?_
              | (refine Side.mk ?_ ?_; · (simp; done))
              | fail
              )
          all_goals (conv => whnf)
          by_cases hn : k + 1 + 1 = l.length
          · refine ⟨l.length - (k + 1 + 1), by omega, To.pub 1 [0, 1, 5, 6] rfl (fin he) (To.gc [] [0, 1, 5, 6] rfl trivial ⟨k + 1 + 1, by omega, rfl, .inr ⟨hn, ?_, rfl⟩⟩)⟩
            show [(0, AV.dslice (evs l) l.length cap), (1, AV.dslice (ints o) o.length oc), (5, AV.dslice (List.take ((k + 1 + 1) * 1) (List.drop 0 (ints (rng (k + 1)) ++ [I ((k + 1 : Nat) : Int)]))) (k + 1 + 1) none), (6, I ((k + 1 + 1 : Nat) : Int))] = _
            rw [he, hit, ← hn]
          · refine ⟨l.length - (k + 1 + 1), by omega, To.gc [(1, true)] [0, 1, 5, 6] rfl ⟨fin he, trivial⟩ ⟨k + 1 + 1, by omega, rfl, .inl ⟨.inl (by omega), rfl, ?_⟩⟩⟩
            show (⟨1, [(0, .cells (ints (rng (k + 1)) ++ [I ((k + 1 : Nat) : Int)]))]⟩ : Heap) = _
            rw [he]; rfl
      · have : k = l.length := by omega
        subst this
        have hg : (g == g) = true := by simp
        rcases h with ⟨h0, rfl, rfl⟩ | ⟨_, rfl, rfl⟩
        · have h0 : l.length = 0 := by omega
          rw [h0]
          have h17n := h17n h0 hok
          rw [h0] at h17n h17 h14 h18
          cases E with
          | nil =>
            repeat' ((conv => whnf); first
                | refine Branch.ofT rfl ?_
                | refine Branch.ofF rfl ?_
                | refine Branch.ofF rfl ?_
                | refine Branch.ofT hg ?_
                | refine Branch.dec (fun h => ?_) (fun h => ?_)
                | refine Branch.negdec (fun h => ?_) (fun h => ?_)
                | refine Branch.neg (fun h => ?_) (fun h => ?_)
                | refine Branch.mk (fun h => ?_) (fun h => ?_)
                | (refine Side.mk ?_ ?_; · first | omega | decide)
                | (refine SideD.mk ?_ ?_; · first | omega | decide)
                | refine ⟨_, Nat.lt_succ_self _, To.refl (.inl ⟨rfl, ?_⟩)⟩
                | refine CallA.pure h7 rfl rfl ?_
                | refine CallA.pure h17 rfl rfl ?_
                | refine CallA.pure h14 rfl rfl ?_
                | refine CallA.pure h18 rfl rfl ?_
                | refine CallA.pure h17n rfl rfl ?_
                | (refine Side.mk ?_ ?_; · (simp; done))
                | fail
                )
            all_goals (conv => whnf)
            exact RetA.data rfl ⟨rfl, rfl⟩
          | cons e r =>
            repeat' ((conv => whnf); first
                | refine Branch.ofT rfl ?_
                | refine Branch.ofF rfl ?_
                | refine Branch.ofF rfl ?_
                | refine Branch.ofT hg ?_
                | refine Branch.dec (fun h => ?_) (fun h => ?_)
                | refine Branch.negdec (fun h => ?_) (fun h => ?_)
                | refine Branch.neg (fun h => ?_) (fun h => ?_)
                | refine Branch.mk (fun h => ?_) (fun h => ?_)
                | (refine Side.mk ?_ ?_; · first | omega | decide)
                | (refine SideD.mk ?_ ?_; · first | omega | decide)
                | refine ⟨_, Nat.lt_succ_self _, To.refl (.inl ⟨rfl, ?_⟩)⟩
                | refine CallA.pure h7 rfl rfl ?_
                | refine CallA.pure h17 rfl rfl ?_
                | refine CallA.pure h14 rfl rfl ?_
                | refine CallA.pure h18 rfl rfl ?_
                | refine CallA.pure h17n rfl rfl ?_
                | (refine Side.mk ?_ ?_; · (simp; done))
                | fail
                )
            all_goals (conv => whnf)
            exact RetA.data rfl ⟨rfl, rfl⟩
        · cases E with
          | nil =>
            repeat' ((conv => whnf); first
                | refine Branch.ofT rfl ?_
                | refine Branch.ofF rfl ?_
                | refine Branch.ofF (decide_eq_false (by omega)) ?_
                | refine Branch.ofT hg ?_
                | refine Branch.dec (fun h => ?_) (fun h => ?_)
                | refine Branch.negdec (fun h => ?_) (fun h => ?_)
                | refine Branch.neg (fun h => ?_) (fun h => ?_)
                | refine Branch.mk (fun h => ?_) (fun h => ?_)
                | (refine Side.mk ?_ ?_; · first | omega | decide)
                | (refine SideD.mk ?_ ?_; · first | omega | decide)
                | refine ⟨_, Nat.lt_succ_self _, To.refl (.inl ⟨rfl, ?_⟩)⟩
                | refine CallA.pure h7 rfl rfl ?_
                | refine CallA.pure h17 rfl rfl ?_
                | refine CallA.pure h14 rfl rfl ?_
                | refine CallA.pure h18 rfl rfl ?_
                | refine CallA.pure h17r rfl rfl ?_
                | (refine Side.mk ?_ ?_; · (simp; done))
                | fail
                )
            all_goals (conv => whnf)
            exact RetA.data rfl ⟨rfl, rfl⟩
          | cons e r =>
            repeat' ((conv => whnf); first
                | refine Branch.ofT rfl ?_
                | refine Branch.ofF rfl ?_
                | refine Branch.ofF (decide_eq_false (by omega)) ?_
                | refine Branch.ofT hg ?_
                | refine Branch.dec (fun h => ?_) (fun h => ?_)
                | refine Branch.negdec (fun h => ?_) (fun h => ?_)
                | refine Branch.neg (fun h => ?_) (fun h => ?_)
                | refine Branch.mk (fun h => ?_) (fun h => ?_)
                | (refine Side.mk ?_ ?_; · first | omega | decide)
                | (refine SideD.mk ?_ ?_; · first | omega | decide)
                | refine ⟨_, Nat.lt_succ_self _, To.refl (.inl ⟨rfl, ?_⟩)⟩
                | refine CallA.pure h7 rfl rfl ?_
                | refine CallA.pure h17 rfl rfl ?_
                | refine CallA.pure h14 rfl rfl ?_
                | refine CallA.pure h18 rfl rfl ?_
                | refine CallA.pure h17r rfl rfl ?_
                | (refine Side.mk ?_ ?_; · (simp; done))
                | fail
                )
            all_goals (conv => whnf)
            exact RetA.data rfl ⟨rfl, rfl⟩
    · rw [permB_f hP] at h16
      repeat' ((conv => whnf); first
          | refine Branch.ofT rfl ?_
          | refine Branch.ofF rfl ?_
          | refine Branch.dec (fun h => ?_) (fun h => ?_)
          | refine Branch.negdec (fun h => ?_) (fun h => ?_)
          | refine Branch.neg (fun h => ?_) (fun h => ?_)
          | refine Branch.mk (fun h => ?_) (fun h => ?_)
          | (refine Side.mk ?_ ?_; · first | omega | decide)
          | (refine SideD.mk ?_ ?_; · first | omega | decide)
          | refine ⟨_, Nat.lt_succ_self _, To.refl (.inl ⟨rfl, ?_⟩)⟩
          | refine CallA.pure h6 rfl rfl ?_
          | refine CallA.pure h16 rfl rfl ?_
          | refine CallA.pure h7 rfl rfl ?_
          | (refine Side.mk ?_ ?_; · (simp; done))
          | fail
          )
      all_goals (conv => whnf)
      exact RetA.data rfl ⟨rfl, rfl⟩
  · rw [fewB_f hf] at h6
    repeat' ((conv => whnf); first
        | refine Branch.ofT rfl ?_
        | refine Branch.ofF rfl ?_
        | refine Branch.dec (fun h => ?_) (fun h => ?_)
        | refine Branch.negdec (fun h => ?_) (fun h => ?_)
        | refine Branch.neg (fun h => ?_) (fun h => ?_)
        | refine Branch.mk (fun h => ?_) (fun h => ?_)
        | (refine Side.mk ?_ ?_; · first | omega | decide)
        | (refine SideD.mk ?_ ?_; · first | omega | decide)
        | refine ⟨_, Nat.lt_succ_self _, To.refl (.inl ⟨rfl, ?_⟩)⟩
        | refine CallA.pure h6 rfl rfl ?_
        | refine CallA.pure h7 rfl rfl ?_
        | (refine Side.mk ?_ ?_; · (simp; done))
        | fail
        )
    all_goals (conv => whnf)
    exact RetA.data rfl ⟨rfl, rfl⟩
end Go.Proofs

namespace Go.Proofs
open Go Go.Eng
set_option maxRecDepth 100000
set_option maxHeartbeats 8000000
def L5 (l : List Ev) (cap : Option Nat) (E : List (Int × Int)) (m : Nat) (fr : Fr) (H : Heap) : Prop := ∃ j : Nat, j ≤ E.length ∧ m = E.length - j ∧ fr = [(0, .dslice (evs l) l.length cap), (3, dV E), (4, I j)] ∧ H = Heap.nil
theorem nte {es : List (Int × Int)} {i off : Nat} (h : i < es.length) (ho : off = i * 2) {K : AV → Prop} (hk : K (I es[i].1)) : nthK 0 ((ecs es).drop off) K := by
  subst ho; exact nthK_at (ecs_at i es h) hk
theorem nte1 {es : List (Int × Int)} {i off : Nat} (h : i < es.length) (ho : off = i * 2) {K : AV → Prop} (hk : K (I es[i].2)) : nthK 0 (((ecs es).drop off).drop 1) K := by
  subst ho
  rw [ecs_at i es h]; exact hk
theorem c5 (l : List Ev) (cap : Option Nat) : CallA Try.prog 5 [.dslice (evs l) l.length cap] Heap.nil fun v H' => v = .bool true ∧ H' = Heap.nil := by
  have h6 := c6 l cap 60 (by decide)
  refine callA_of ok5 (Nat.le_of_ble_eq_true rfl) ?_
  have h7 := san
  by_cases hf : FewP l 60
  · rw [fewB_t hf] at h6
    obtain ⟨hl, hok⟩ := hf
    have h14 := c14d l cap (by omega) hok
    have hE := es2_ok l (ws l l.length) l.length
    have hEl := es2_len l (ws l l.length) l.length (by omega)
    have hle := fun {j : Nat} (hj : j < (es2 l (ws l l.length) l.length).length) {f t : Nat} h => least hj (f := f) (t := t) h rfl
    have h18 := fun (o : List Int) but (hP : PermP o l.length) => c18 l cap o none (es2 l (ws l l.length) l.length) but (by omega) hP hE (by omega)
    generalize es2 l (ws l l.length) l.length = E at *
    cases E with
    | nil =>
      repeat' ((conv => whnf); first
          | refine Branch.ofT rfl ?_
          | refine Branch.ofF rfl ?_
          | refine Branch.dec (fun h => ?_) (fun h => ?_)
          | refine Branch.negdec (fun h => ?_) (fun h => ?_)
          | refine Branch.neg (fun h => ?_) (fun h => ?_)
          | refine Branch.mk (fun h => ?_) (fun h => ?_)
          | (refine Side.mk ?_ ?_; · first | omega | decide)
          | (refine SideD.mk ?_ ?_; · first | omega | decide)
          | refine ⟨_, Nat.lt_succ_self _, To.refl (.inl ⟨rfl, ?_⟩)⟩
          | refine CallA.pure h6 rfl rfl ?_
          | refine CallA.pure h14 rfl rfl ?_
          | refine LoopA.unroll _ _ _ 1 ?_
          | refine CallA.pure h7 rfl rfl ?_
          | (refine Side.mk ?_ ?_; · (simp; done))
          | fail
          )
      all_goals (conv => whnf)
      exact RetA.data rfl ⟨rfl, rfl⟩
    | cons e r =>
      have hdv : dV (e :: r) = .dslice (ecs (e :: r)) (e :: r).length none := rfl
      generalize e :: r = E at *
      rw [hdv] at h14
      repeat' ((conv => whnf); first
          | refine Branch.ofT rfl ?_
          | refine Branch.ofF rfl ?_
          | refine Branch.dec (fun h => ?_) (fun h => ?_)
          | refine Branch.negdec (fun h => ?_) (fun h => ?_)
          | refine Branch.neg (fun h => ?_) (fun h => ?_)
          | refine Branch.mk (fun h => ?_) (fun h => ?_)
          | (refine Side.mk ?_ ?_; · first | omega | decide)
          | (refine SideD.mk ?_ ?_; · first | omega | decide)
          | refine ⟨_, Nat.lt_succ_self _, To.refl (.inl ⟨rfl, ?_⟩)⟩
          | refine CallA.pure h6 rfl rfl ?_
          | refine CallA.pure h14 rfl rfl ?_
          | (refine Side.mk ?_ ?_; · (simp; done))
          | fail
          )
      all_goals (conv => whnf)
      refine ⟨L5 l cap E, E.length, To.gc [] [0, 3, 4] rfl trivial ⟨0, by omega, by omega, by rw [hdv]; rfl, rfl⟩, ?_⟩
      rintro m fr H ⟨j, hj, rfl, rfl, rfl⟩
      rw [hdv]
      by_cases hjl : j < E.length
      · have hej := hE j hjl
        have hz : E[j] = (((E[j].1.toNat : Nat) : Int), ((E[j].2.toNat : Nat) : Int)) := Prod.ext (by simp only; omega) (by simp only; omega)
        obtain ⟨l1, l2, l3⟩ := hle hjl hz
        have h19 := c19 l cap E[j].1.toNat E[j].2.toNat (by omega) hok (by omega) (by omega)
        generalize o2 (af l E[j].1.toNat E[j].2.toNat l.length) E[j].2.toNat (o1 (af l E[j].1.toNat E[j].2.toNat l.length) E[j].2.toNat l.length) l.length = o at *
        have h16 := c16 o none l.length (by omega)
        rw [permB_t l1] at h16
        have h18 := h18 o j l1
        rw [l2, hdv] at h18
        have h17 := c17 l cap o none (by omega) hok l1
        rw [l3] at h17
        have e1 : ((E[j].1.toNat : Nat) : Int) = E[j].1 := by omega
        have e2 : ((E[j].2.toNat : Nat) : Int) = E[j].2 := by omega
        rw [e1, e2] at h19
        repeat' ((conv => whnf); first
            | refine Branch.ofT rfl ?_
            | refine Branch.ofF rfl ?_
            | refine Branch.ofT (decide_eq_true (show (j : Int) < E.length by omega)) ?_
            | refine Branch.ofF (decide_eq_false (by omega)) ?_
            | refine Branch.dec (fun h => ?_) (fun h => ?_)
            | refine Branch.negdec (fun h => ?_) (fun h => ?_)
            | refine Branch.neg (fun h => ?_) (fun h => ?_)
            | refine Branch.mk (fun h => ?_) (fun h => ?_)
            | (refine Side.mk ?_ ?_; · first | omega | decide)
            | (refine SideD.mk ?_ ?_; · first | omega | decide)
            | refine ⟨_, Nat.lt_succ_self _, To.refl (.inl ⟨rfl, ?_⟩)⟩
            | refine tke hjl (by omega) ?_
            | refine nte hjl (by omega) ?_
            | refine nte1 hjl (by omega) ?_
            | refine CallA.pure h19 rfl rfl ?_
            | refine CallA.pure h16 rfl rfl ?_
            | refine CallA.pure h18 rfl rfl ?_
            | refine CallA.pure h17 rfl rfl ?_
            | (refine Side.mk ?_ ?_; · (simp; done))
            | fail
            )
        all_goals (conv => whnf)
        exact ⟨E.length - (j + 1), by omega, To.gc [] [0, 3, 4] rfl trivial ⟨j + 1, by omega, rfl, by rw [hdv]; rfl, rfl⟩⟩
      · have : j = E.length := by omega
        subst this
        repeat' ((conv => whnf); first
            | refine Branch.ofT rfl ?_
            | refine Branch.ofF rfl ?_
            | refine Branch.ofF (decide_eq_false (by omega)) ?_
            | refine Branch.dec (fun h => ?_) (fun h => ?_)
            | refine Branch.negdec (fun h => ?_) (fun h => ?_)
            | refine Branch.neg (fun h => ?_) (fun h => ?_)
            | refine Branch.mk (fun h => ?_) (fun h => ?_)
            | (refine Side.mk ?_ ?_; · first | omega | decide)
            | (refine SideD.mk ?_ ?_; · first | omega | decide)
            | refine ⟨_, Nat.lt_succ_self _, To.refl (.inl ⟨rfl, ?_⟩)⟩
            | refine CallA.pure h7 rfl rfl ?_
            | (refine Side.mk ?_ ?_; · (simp; done))
            | fail
            )
        all_goals (conv => whnf)
        exact RetA.data rfl ⟨rfl, rfl⟩
  · rw [fewB_f hf] at h6
    repeat' ((conv => whnf); first
        | refine Branch.ofT rfl ?_
        | refine Branch.ofF rfl ?_
        | refine Branch.dec (fun h => ?_) (fun h => ?_)
        | refine Branch.negdec (fun h => ?_) (fun h => ?_)
        | refine Branch.neg (fun h => ?_) (fun h => ?_)
        | refine Branch.mk (fun h => ?_) (fun h => ?_)
        | (refine Side.mk ?_ ?_; · first | omega | decide)
        | (refine SideD.mk ?_ ?_; · first | omega | decide)
        | refine ⟨_, Nat.lt_succ_self _, To.refl (.inl ⟨rfl, ?_⟩)⟩
        | refine CallA.pure h6 rfl rfl ?_
        | refine CallA.pure h7 rfl rfl ?_
        | (refine Side.mk ?_ ?_; · (simp; done))
        | fail
        )
    all_goals (conv => whnf)
    exact RetA.data rfl ⟨rfl, rfl⟩
end Go.Proofs

