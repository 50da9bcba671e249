/- Part of a proof about the given program: lemmas that the other parts use. -/
import Derived.Test.YtnhjhmilijghkaaPart7

set_option linter.all false
set_option linter.unusedSimpArgs false
set_option linter.unusedVariables false
namespace Go.Proofs
open Go Go.Eng
set_option maxRecDepth 100000
set_option maxHeartbeats 4000000
/-! ### The plain law: an order is legal exactly if it keeps processors' orders and the edges -/
theorem plc_at {o : List Int} {n : Nat} (h : PermP o n) : ∀ k, k ≤ n → ∀ q, q < k → (plc o n k)[o[q]!.toNat]! = (q : Int)
  | 0, _, q, hq => absurd hq (by omega)
  | k + 1, hk, q, hq => by
    have hoL : o.length = n := h.1
    have hkl : k < o.length := by omega
    have hql : q < o.length := by omega
    have gk : o[k]! = o[k] := getElem!_pos o k hkl
    have gq : o[q]! = o[q] := getElem!_pos o q hql
    have bk := h.2.1 k hkl
    have bq := h.2.1 q hql
    have hl := plc_len o n k
    have hl1 := plc_len o n (k + 1)
    have hx : o[q]!.toNat < (plc o n (k + 1)).length := by rw [hl1, gq]; omega
    rw [getElem!_pos (plc o n (k + 1)) o[q]!.toNat hx]
    simp only [plc]
    rw [List.getElem_set]
    by_cases e : q = k
    · subst e; rw [if_pos rfl]
    · have hd : o[q] ≠ o[k] := h.2.2 q k hql hkl (by omega)
      rw [if_neg (by rw [gk, gq]; omega)]
      have := plc_at h k (by omega) q (by omega)
      rw [getElem!_pos _ _ (by rw [hl, gq]; omega)] at this
      exact this
/-- The place of x. -/
theorem pl_spec {o : List Int} {n : Nat} (h : PermP o n) (x : Nat) (hx : x < n) : ∃ p, p < n ∧ o[p]!.toNat = x ∧ (plc o n n)[x]! = (p : Int) := by
  obtain ⟨p, hp, e⟩ := perm_all h x hx
  have hoL : o.length = n := h.1
  have hpn : p < n := by omega
  have g : o[p]! = o[p] := getElem!_pos o p hp
  have := plc_at h n (Nat.le_refl _) p hpn
  have e2 : o[p]!.toNat = x := by rw [g, e]; omega
  rw [e2] at this
  exact ⟨p, hpn, e2, this⟩
theorem pl_inj {o : List Int} {n : Nat} (h : PermP o n) {x y : Nat} (hx : x < n) (hy : y < n) (e : (plc o n n)[x]! = (plc o n n)[y]!) : x = y := by
  obtain ⟨p, h1, h2, h3⟩ := pl_spec h x hx
  obtain ⟨q, g1, g2, g3⟩ := pl_spec h y hy
  have : p = q := by omega
  subst this; omega
def LG (l : List Ev) (P : List Int) (n : Nat) : Prop := ∀ x, x < n → ∀ j, j < x → con l[j]! l[x]! = true → P[j]! < P[x]!
theorem leg_iff {l : List Ev} {o : List Int} (h : PermP o l.length) : legP (ds l l.length) o ↔ LG l (plc o l.length l.length) l.length := by
  have hoL : o.length = l.length := h.1
  constructor
  · intro hl x hx j hj hc
    obtain ⟨p, h1, h2, h3⟩ := pl_spec h x hx
    obtain ⟨q, g1, g2, g3⟩ := pl_spec h j (by omega)
    have := hl p (by omega) j (by rw [h2, ds_at l l.length x hx, dset_bit, hc, decide_eq_true hj]; rfl)
    obtain ⟨r, r1, r2⟩ := (dn_bit o p j).1 this
    have : r = q := by
      have a := plc_at h l.length (Nat.le_refl _) r (by omega)
      rw [r2, g3] at a; omega
    subst this; omega
  · intro hl p hp j hj
    have hb := h.2.1 p hp
    have g : o[p]! = o[p] := getElem!_pos o p hp
    have hx : o[p]!.toNat < l.length := by rw [g]; omega
    rw [ds_at l l.length _ hx, dset_bit] at hj
    simp only [Bool.and_eq_true, decide_eq_true_eq] at hj
    have := hl _ hx j hj.1 hj.2
    have a := plc_at h l.length (Nat.le_refl _) p (by omega)
    obtain ⟨q, g1, g2, g3⟩ := pl_spec h j (by omega)
    exact (dn_bit o p j).2 ⟨q, by omega, g2⟩
theorem ek2_mem (l : List Ev) (W : List Nat) (k : Nat) : ∀ i (e : Int × Int), e ∈ ek2 l W k i ↔ ∃ x, x < i ∧ e = ((x : Int), (k : Int)) ∧ l[x]!.cpu ≠ l[k]!.cpu ∧ con l[x]! l[k]! = true ∧ lg W k x (k - 1 - x) = false
  | 0, e => by simp [ek2]
  | i + 1, e => by
    have ih := ek2_mem l W k i e
    simp only [ek2]
    split
    · rename_i h
      obtain ⟨⟨h1, h2⟩, h3⟩ := h
      rw [List.mem_append, ih, List.mem_singleton]
      constructor
      · rintro (⟨x, a, b⟩ | rfl)
        · exact ⟨x, by omega, b⟩
        · exact ⟨i, by omega, rfl, by simpa using h1, h2, h3⟩
      · rintro ⟨x, a, b, c⟩
        by_cases hx : x < i
        · exact .inl ⟨x, hx, b, c⟩
        · have : x = i := by omega
          subst this; exact .inr b
    · rename_i h
      rw [ih]
      constructor
      · rintro ⟨x, a, b⟩; exact ⟨x, by omega, b⟩
      · rintro ⟨x, a, b, c, d, e'⟩
        by_cases hx : x < i
        · exact ⟨x, hx, b, c, d, e'⟩
        · have : x = i := by omega
          subst this
          exact absurd ⟨⟨decide_eq_false c, d⟩, e'⟩ h
theorem es2_mem (l : List Ev) (W : List Nat) : ∀ n (e : Int × Int), e ∈ es2 l W n ↔ ∃ k x, k < n ∧ x < k ∧ e = ((x : Int), (k : Int)) ∧ l[x]!.cpu ≠ l[k]!.cpu ∧ con l[x]! l[k]! = true ∧ lg W k x (k - 1 - x) = false
  | 0, e => by simp [es2]
  | n + 1, e => by
    have ih := es2_mem l W n e
    rw [es2, List.mem_append, ih, ek2_mem]
    constructor
    · rintro (⟨k, x, a, b⟩ | ⟨x, a, b⟩)
      · exact ⟨k, x, by omega, b⟩
      · exact ⟨n, x, by omega, a, b⟩
    · rintro ⟨k, x, a, b, c⟩
      by_cases hk : k < n
      · exact .inl ⟨k, x, hk, b, c⟩
      · have : k = n := by omega
        subst this; exact .inr ⟨x, b, c⟩
theorem es2_ok (l : List Ev) (W : List Nat) (n : Nat) : edOk (es2 l W n) n := by
  intro j hj
  obtain ⟨k, x, h1, h2, h3, _⟩ := (es2_mem l W n _).1 (List.getElem_mem hj)
  rw [h3]; simp only; omega
theorem bit_lt {l : List Ev} {n y j : Nat} (hy : y < n) (h : (ws l n)[y]!.testBit j = true) : j < y := by
  refine Classical.byContradiction fun q => ?_
  have := Nat.testBit_lt_two_pow (x := (ws l n)[y]!) (i := j) (Nat.lt_of_lt_of_le (ws_bit l n y hy) (Nat.pow_le_pow_right (by decide) (by omega)))
  rw [this] at h; cases h
/-- If processors' orders and the edges are kept, all conflicts are. -/
theorem keep_con {l : List Ev} {P : List Int} (h1 : ∀ i, i < l.length → ∀ k, k < i → l[i]!.cpu = l[k]!.cpu → P[k]! < P[i]!) (h2 : ∀ e, e ∈ es2 l (ws l l.length) l.length → P[e.1.toNat]! < P[e.2.toNat]!) :
    ∀ d k i, k - i = d → k < l.length → i < k → (con l[i]! l[k]! = true → P[i]! < P[k]!) ∧ ((ws l l.length)[k]!.testBit i = true → P[i]! < P[k]!) := by
  intro d
  induction d using Nat.strongRecOn with
  | _ d ih =>
    intro k i hd hk hi
    have hA : con l[i]! l[k]! = true → P[i]! < P[k]! := by
      intro hc
      by_cases hcpu : l[i]!.cpu = l[k]!.cpu
      · exact h1 k hk i hi hcpu.symm
      · cases hlg : lg (ws l l.length) k i (k - 1 - i) with
        | false =>
          have := h2 ((i : Int), (k : Int)) ((es2_mem _ _ _ _).2 ⟨k, i, hk, hi, rfl, hcpu, hc, hlg⟩)
          simpa using this
        | true =>
          obtain ⟨x, a1, a2, a3, a4⟩ := (lg_iff _ k i _).1 hlg
          have b1 := (ih (x - i) (by omega) x i rfl (by omega) a1).2 a3
          have b2 := (ih (k - x) (by omega) k x rfl hk (by omega)).2 a4
          omega
    refine ⟨hA, fun hw => ?_⟩
    obtain ⟨z, z1, z2, z3⟩ := (ws_iff l l.length k i hk).1 hw
    rcases z3 with rfl | z3
    · exact hA z2
    · have hiz := bit_lt (by omega) z3
      have b1 := (ih (z - i) (by omega) z i rfl (by omega) hiz).2 z3
      have b2 := (ih (k - z) (by omega) k z rfl hk z1).1 z2
      omega
theorem suff {l : List Ev} {o : List Int} (h : PermP o l.length) : legB (ds l l.length) o = kpB l (plc o l.length l.length) (es2 l (ws l l.length) l.length) (-1) := by
  have key : legP (ds l l.length) o ↔ kpP l (plc o l.length l.length) (es2 l (ws l l.length) l.length) (-1) := by
    rw [leg_iff h]
    constructor
    · intro hl
      refine ⟨fun i hi k hk hc => ?_, fun j hj _ => ?_⟩
      · have := hl i hi k hk (by unfold con; rw [decide_eq_true hc.symm]; rfl)
        omega
      · have hm : (es2 l (ws l l.length) l.length)[j]! ∈ es2 l (ws l l.length) l.length := by rw [getElem!_pos _ j hj]; exact List.getElem_mem hj
        obtain ⟨k, x, a1, a2, a3, a4, a5, a6⟩ := (es2_mem _ _ _ _).1 hm
        rw [a3]
        have := hl k a1 x a2 a5
        simp only [Int.toNat_natCast]
        omega
    · rintro ⟨k1, k2⟩ x hx j hj hc
      refine (keep_con (fun i hi k hk e => ?_) (fun e he => ?_) (x - j) x j rfl hx hj).1 hc
      · have := k1 i hi k hk e
        have hne : (plc o l.length l.length)[k]! ≠ (plc o l.length l.length)[i]! := fun q => by have := pl_inj h (by omega) hi q; omega
        omega
      · obtain ⟨j, hj, rfl⟩ := List.getElem_of_mem he
        have := k2 j hj (by omega)
        rw [getElem!_pos (es2 l (ws l l.length) l.length) j hj] at this
        have ho := es2_ok l (ws l l.length) l.length j hj
        have hne : (plc o l.length l.length)[(es2 l (ws l l.length) l.length)[j].1.toNat]! ≠ (plc o l.length l.length)[(es2 l (ws l l.length) l.length)[j].2.toNat]! := fun q => by have := pl_inj h (by omega) (by omega) q; omega
        omega
  by_cases hl : legP (ds l l.length) o
  · rw [legB_t hl, kpB_t (key.1 hl)]
  · rw [legB_f hl, kpB_f (fun q => hl (key.2 q))]
theorem rng_perm (n : Nat) : PermP (rng n) n := ⟨rng_len n, fun i h => by have := h; rw [rng_len] at this; rw [rng_get]; omega, fun i j hi hj hij => by rw [rng_get, rng_get]; omega⟩
theorem leg_rng (l : List Ev) : legB (ds l l.length) (rng l.length) = true := by
  refine legB_t fun p hp j hj => ?_
  have hp' : p < l.length := by rwa [rng_len] at hp
  have g : (rng l.length)[p]! = (p : Int) := by rw [getElem!_pos _ p hp, rng_get]
  rw [g, Int.toNat_natCast, ds_at l l.length p hp', dset_bit] at hj
  simp only [Bool.and_eq_true, decide_eq_true_eq] at hj
  refine (dn_bit _ p j).2 ⟨j, hj.1, ?_⟩
  rw [getElem!_pos _ j (by rw [rng_len]; omega), rng_get]; omega
end Go.Proofs

namespace Go.Proofs
open Go Go.Eng
set_option maxRecDepth 100000
set_option maxHeartbeats 8000000
theorem rng_succ (k : Nat) : rng (k + 1) = rng k ++ [(k : Int)] := by simp [rng, List.range_succ]
def HN : Nat → Heap
  | 0 => Heap.nil
  | k + 1 => ⟨1, [(0, .cells (ints (rng (k + 1))))]⟩
def L4 (l : List Ev) (cap : Option Nat) (o : List Int) (oc : Option Nat) (m : Nat) (fr : Fr) (H : Heap) : Prop := ∃ k : Nat, k ≤ l.length ∧ m = l.length - k ∧
  (((k < l.length ∨ k = 0) ∧ fr = [(0, .dslice (evs l) l.length cap), (1, .dslice (ints o) o.length oc), (5, nV 0 k), (6, I k)] ∧ H = HN k) ∨
   (k = l.length ∧ fr = [(0, .dslice (evs l) l.length cap), (1, .dslice (ints o) o.length oc), (5, .dslice (ints (rng l.length)) l.length none), (6, I k)] ∧ H = Heap.nil))
theorem c17n (l : List Ev) (lc : Option Nat) (h0 : l.length = 0) (hok : ∀ i (h : i < l.length), l[i].ok) :
    CallA Try.prog 17 [.dslice (evs l) l.length lc, .nils] Heap.nil fun v H' => v = .bool true ∧ H' = Heap.nil := by
  have := c17 l lc [] none (by omega) hok ⟨by rw [h0]; rfl, fun i h => absurd h (by simp), fun i j hi => absurd hi (by simp)⟩
  have hg := leg_rng l
  rw [h0] at hg
  have e : rng 0 = [] := rfl
  rw [e, ← h0] at hg
  rw [hg] at this
  refine CallA.args this fun M μ vs hv => ?_
  simp only [relL] at hv ⊢
  obtain ⟨v, r, rfl, h1, v2, r2, rfl, h2, h3⟩ := hv
  refine ⟨v, _, rfl, h1, v2, r2, rfl, ?_, h3⟩
  simp only [relV] at h2
  simp [relV, h2, ints]
theorem c4 (l : List Ev) (cap : Option Nat) (o : List Int) (oc : Option Nat) : CallA Try.prog 4 [.dslice (evs l) l.length cap, .dslice (ints o) o.length oc] Heap.nil fun v H' => v = .bool true ∧ H' = Heap.nil := by
  have dI : ∀ o, dataB (.cells (ints o)) := fun o c hc => ints_noLoc o c hc
  have h6 := c6 l cap 60 (by decide)
  refine callA_of ok4 (Nat.le_of_ble_eq_true rfl) ?_
  have h7 := san
  by_cases hf : FewP l 60
  · rw [fewB_t hf] at h6
    obtain ⟨hl, hok⟩ := hf
    have h16 := c16 o oc l.length (by omega)
    by_cases hP : PermP o l.length
    · rw [permB_t hP] at h16
      have h17 := c17 l cap o oc (by omega) hok hP
      have h17r := c17 l cap (rng l.length) none (by omega) hok (rng_perm l.length)
      rw [leg_rng l, rng_len] at h17r
      have h17n := c17n l cap
      have h14 := c14d l cap (by omega) hok
      have hEl := es2_len l (ws l l.length) l.length (by omega)
      have h18 := c18 l cap o oc (es2 l (ws l l.length) l.length) (-1) (by omega) hP (es2_ok l _ _) (by omega)
      rw [← suff hP] at h18
      generalize es2 l (ws l l.length) l.length = E at *
      generalize legB (ds l l.length) o = g at *
      repeat' ((conv => whnf); first
          | refine Branch.ofT rfl ?_
          | refine Branch.ofF rfl ?_
          | refine Branch.ofF rfl ?_
          | refine Branch.dec (fun h => ?_) (fun h => ?_)
          | refine Branch.negdec (fun h => ?_) (fun h => ?_)
          | refine Branch.neg (fun h => ?_) (fun h => ?_)
          | refine Branch.mk (fun h => ?_) (fun h => ?_)
          | (refine Side.mk ?_ ?_; · first | omega | decide)
          | (refine SideD.mk ?_ ?_; · first | omega | decide)
          | refine ⟨_, Nat.lt_succ_self _, To.refl (.inl ⟨rfl, ?_⟩)⟩
          | refine CallA.pure h6 rfl rfl ?_
          | refine CallA.pure h16 rfl rfl ?_
          | (refine Side.mk ?_ ?_; · (simp; done))
          | fail
          )
      all_goals (conv => whnf)
      refine ⟨L4 l cap o oc, l.length, To.gc [] [0, 1, 5, 6] rfl trivial ⟨0, by omega, by omega, .inl ⟨.inr rfl, rfl, rfl⟩⟩, ?_⟩
      rintro m fr H ⟨k, hk, rfl, h⟩
      by_cases hkl : k < l.length
      · obtain ⟨_, rfl, rfl⟩ : _ ∧ fr = _ ∧ H = _ := h.resolve_right fun q => by omega
        have hr := rng_succ k
        have hrl := rng_len k
        have fin : ∀ {cs : List AV}, cs = ints (rng (k + 1)) → dataB (.cells cs) := fun e => by rw [e]; exact dI _
        have hit : List.take ((k + 1) * 1) (List.drop 0 (ints (rng (k + 1)))) = ints (rng (k + 1)) := by
          have := ints_take (rng (k + 1))
          rw [rng_len] at this
          rw [List.drop_zero, this]
        cases k with
        | zero =>
          repeat' ((conv => whnf); first
              | refine Branch.ofT rfl ?_
              | refine Branch.ofF rfl ?_
              | refine Branch.ofT (decide_eq_true (by omega)) ?_
              | refine Branch.dec (fun h => ?_) (fun h => ?_)
              | refine Branch.negdec (fun h => ?_) (fun h => ?_)
              | refine Branch.neg (fun h => ?_) (fun h => ?_)
              | refine Branch.mk (fun h => ?_) (fun h => ?_)
              | (refine Side.mk ?_ ?_; · first | omega | decide)
              | (refine SideD.mk ?_ ?_; · first | omega | decide)
              | refine ⟨_, Nat.lt_succ_self _, To.refl (.inl ⟨rfl, ?_⟩)⟩
              | refine Side.mk (appI _) ?_
              | (refine Side.mk ?_ ?_; · (simp; done))
              | fail
              )
          all_goals (conv => whnf)
          by_cases hn : 0 + 1 = l.length
          · refine ⟨l.length - (0 + 1), by omega, To.pub 0 [0, 1, 5, 6] rfl (dI [((0 : Nat) : Int)]) (To.gc [] [0, 1, 5, 6] rfl trivial ⟨0 + 1, by omega, rfl, .inr ⟨hn, ?_, rfl⟩⟩)⟩
            rw [← hn]; rfl
          · exact ⟨l.length - (0 + 1), by omega, To.gc [(0, true)] [0, 1, 5, 6] rfl ⟨dI [((0 : Nat) : Int)], trivial⟩ ⟨0 + 1, by omega, rfl, .inl ⟨.inl (by omega), rfl, rfl⟩⟩⟩
        | succ k =>
          have he : ints (rng (k + 1)) ++ [I ((k + 1 : Nat) : Int)] = ints (rng (k + 1 + 1)) := by rw [hr, ints_app]; rfl
          repeat' ((conv => whnf); first
              | refine Branch.ofT rfl ?_
              | refine Branch.ofF rfl ?_
              | refine Branch.ofT (decide_eq_true (by omega)) ?_
              | refine Branch.dec (fun h => ?_) (fun h => ?_)
              | refine Branch.negdec (fun h => ?_) (fun h => ?_)
              | refine Branch.neg (fun h => ?_) (fun h => ?_)
              | refine Branch.mk (fun h => ?_) (fun h => ?_)
              | (refine Side.mk ?_ ?_; · first | omega | decide)
              | (refine SideD.mk ?_ ?_; · first | omega | decide)
              | refine ⟨_, Nat.lt_succ_self _, To.refl (.inl ⟨rfl, ?_⟩)⟩
              | refine Side.mk (appIs _ _ _ hrl (by omega)) ?_
              | (refine Side.mk ?_ ?_; · (simp; done))
              | fail
              )
          all_goals (conv => whnf)
          by_cases hn : k + 1 + 1 = l.length
          · refine ⟨l.length - (k + 1 + 1), by omega, To.pub 1 [0, 1, 5, 6] rfl (fin he) (To.gc [] [0, 1, 5, 6] rfl trivial ⟨k + 1 + 1, by omega, rfl, .inr ⟨hn, ?_, rfl⟩⟩)⟩
            show [(0, AV.dslice (evs l) l.length cap), (1, AV.dslice (ints o) o.length oc), (5, AV.dslice (List.take ((k + 1 + 1) * 1) (List.drop 0 (ints (rng (k + 1)) ++ [I ((k + 1 : Nat) : Int)]))) (k + 1 + 1) none), (6, I ((k + 1 + 1 : Nat) : Int))] = _
            rw [he, hit, ← hn]
          · refine ⟨l.length - (k + 1 + 1), by omega, To.gc [(1, true)] [0, 1, 5, 6] rfl ⟨fin he, trivial⟩ ⟨k + 1 + 1, by omega, rfl, .inl ⟨.inl (by omega), rfl, ?_⟩⟩⟩
            show (⟨1, [(0, .cells (ints (rng (k + 1)) ++ [I ((k + 1 : Nat) : Int)]))]⟩ : Heap) = _
            rw [he]; rfl
      · have : k = l.length := by omega
        subst this
        have hg : (g == g) = true := by simp
        rcases h with ⟨h0, rfl, rfl⟩ | ⟨_, rfl, rfl⟩
        · have h0 : l.length = 0 := by omega
          rw [h0]
          have h17n := h17n h0 hok
          rw [h0] at h17n h17 h14 h18
          cases E with
          | nil =>
            repeat' ((conv => whnf); first
                | refine Branch.ofT rfl ?_
                | refine Branch.ofF rfl ?_
                | refine Branch.ofF rfl ?_
                | refine Branch.ofT hg ?_
                | refine Branch.dec (fun h => ?_) (fun h => ?_)
                | refine Branch.negdec (fun h => ?_) (fun h => ?_)
                | refine Branch.neg (fun h => ?_) (fun h => ?_)
                | refine Branch.mk (fun h => ?_) (fun h => ?_)
                | (refine Side.mk ?_ ?_; · first | omega | decide)
                | (refine SideD.mk ?_ ?_; · first | omega | decide)
                | refine ⟨_, Nat.lt_succ_self _, To.refl (.inl ⟨rfl, ?_⟩)⟩
                | refine CallA.pure h7 rfl rfl ?_
                | refine CallA.pure h17 rfl rfl ?_
                | refine CallA.pure h14 rfl rfl ?_
                | refine CallA.pure h18 rfl rfl ?_
                | refine CallA.pure h17n rfl rfl ?_
                | (refine Side.mk ?_ ?_; · (simp; done))
                | fail
                )
            all_goals (conv => whnf)
            exact RetA.data rfl ⟨rfl, rfl⟩
          | cons e r =>
            repeat' ((conv => whnf); first
                | refine Branch.ofT rfl ?_
                | refine Branch.ofF rfl ?_
                | refine Branch.ofF rfl ?_
                | refine Branch.ofT hg ?_
                | refine Branch.dec (fun h => ?_) (fun h => ?_)
                | refine Branch.negdec (fun h => ?_) (fun h => ?_)
                | refine Branch.neg (fun h => ?_) (fun h => ?_)
                | refine Branch.mk (fun h => ?_) (fun h => ?_)
                | (refine Side.mk ?_ ?_; · first | omega | decide)
                | (refine SideD.mk ?_ ?_; · first | omega | decide)
                | refine ⟨_, Nat.lt_succ_self _, To.refl (.inl ⟨rfl, ?_⟩)⟩
                | refine CallA.pure h7 rfl rfl ?_
                | refine CallA.pure h17 rfl rfl ?_
                | refine CallA.pure h14 rfl rfl ?_
                | refine CallA.pure h18 rfl rfl ?_
                | refine CallA.pure h17n rfl rfl ?_
                | (refine Side.mk ?_ ?_; · (simp; done))
                | fail
                )
            all_goals (conv => whnf)
            exact RetA.data rfl ⟨rfl, rfl⟩
        · cases E with
          | nil =>
            repeat' ((conv => whnf); first
                | refine Branch.ofT rfl ?_
                | refine Branch.ofF rfl ?_
                | refine Branch.ofF (decide_eq_false (by omega)) ?_
                | refine Branch.ofT hg ?_
                | refine Branch.dec (fun h => ?_) (fun h => ?_)
                | refine Branch.negdec (fun h => ?_) (fun h => ?_)
                | refine Branch.neg (fun h => ?_) (fun h => ?_)
                | refine Branch.mk (fun h => ?_) (fun h => ?_)
                | (refine Side.mk ?_ ?_; · first | omega | decide)
                | (refine SideD.mk ?_ ?_; · first | omega | decide)
                | refine ⟨_, Nat.lt_succ_self _, To.refl (.inl ⟨rfl, ?_⟩)⟩
                | refine CallA.pure h7 rfl rfl ?_
                | refine CallA.pure h17 rfl rfl ?_
                | refine CallA.pure h14 rfl rfl ?_
                | refine CallA.pure h18 rfl rfl ?_
                | refine CallA.pure h17r rfl rfl ?_
                | (refine Side.mk ?_ ?_; · (simp; done))
                | fail
                )
            all_goals (conv => whnf)
            exact RetA.data rfl ⟨rfl, rfl⟩
          | cons e r =>
            repeat' ((conv => whnf); first
                | refine Branch.ofT rfl ?_
                | refine Branch.ofF rfl ?_
                | refine Branch.ofF (decide_eq_false (by omega)) ?_
                | refine Branch.ofT hg ?_
                | refine Branch.dec (fun h => ?_) (fun h => ?_)
                | refine Branch.negdec (fun h => ?_) (fun h => ?_)
                | refine Branch.neg (fun h => ?_) (fun h => ?_)
                | refine Branch.mk (fun h => ?_) (fun h => ?_)
                | (refine Side.mk ?_ ?_; · first | omega | decide)
                | (refine SideD.mk ?_ ?_; · first | omega | decide)
                | refine ⟨_, Nat.lt_succ_self _, To.refl (.inl ⟨rfl, ?_⟩)⟩
                | refine CallA.pure h7 rfl rfl ?_
                | refine CallA.pure h17 rfl rfl ?_
                | refine CallA.pure h14 rfl rfl ?_
                | refine CallA.pure h18 rfl rfl ?_
                | refine CallA.pure h17r rfl rfl ?_
                | (refine Side.mk ?_ ?_; · (simp; done))
                | fail
                )
            all_goals (conv => whnf)
            exact RetA.data rfl ⟨rfl, rfl⟩
    · rw [permB_f hP] at h16
      repeat' ((conv => whnf); first
          | refine Branch.ofT rfl ?_
          | refine Branch.ofF rfl ?_
          | refine Branch.dec (fun h => ?_) (fun h => ?_)
          | refine Branch.negdec (fun h => ?_) (fun h => ?_)
          | refine Branch.neg (fun h => ?_) (fun h => ?_)
          | refine Branch.mk (fun h => ?_) (fun h => ?_)
          | (refine Side.mk ?_ ?_; · first | omega | decide)
          | (refine SideD.mk ?_ ?_; · first | omega | decide)
          | refine ⟨_, Nat.lt_succ_self _, To.refl (.inl ⟨rfl, ?_⟩)⟩
          | refine CallA.pure h6 rfl rfl ?_
          | refine CallA.pure h16 rfl rfl ?_
          | refine CallA.pure h7 rfl rfl ?_
          | (refine Side.mk ?_ ?_; · (simp; done))
          | fail
          )
      all_goals (conv => whnf)
      exact RetA.data rfl ⟨rfl, rfl⟩
  · rw [fewB_f hf] at h6
    repeat' ((conv => whnf); first
        | refine Branch.ofT rfl ?_
        | refine Branch.ofF rfl ?_
        | refine Branch.dec (fun h => ?_) (fun h => ?_)
        | refine Branch.negdec (fun h => ?_) (fun h => ?_)
        | refine Branch.neg (fun h => ?_) (fun h => ?_)
        | refine Branch.mk (fun h => ?_) (fun h => ?_)
        | (refine Side.mk ?_ ?_; · first | omega | decide)
        | (refine SideD.mk ?_ ?_; · first | omega | decide)
        | refine ⟨_, Nat.lt_succ_self _, To.refl (.inl ⟨rfl, ?_⟩)⟩
        | refine CallA.pure h6 rfl rfl ?_
        | refine CallA.pure h7 rfl rfl ?_
        | (refine Side.mk ?_ ?_; · (simp; done))
        | fail
        )
    all_goals (conv => whnf)
    exact RetA.data rfl ⟨rfl, rfl⟩
end Go.Proofs

