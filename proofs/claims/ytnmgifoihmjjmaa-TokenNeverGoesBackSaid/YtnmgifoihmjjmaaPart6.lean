/- Part of a proof about the given program: lemmas that the other parts use. -/
import Derived.Test.YtnmgifoihmjjmaaPart5
import Derived.Test.YtnmgifoihmjjmaaPart3
import Derived.Test.YtnmgifoihmjjmaaProg
import Derived.KernelRfl

set_option linter.all false
set_option linter.unusedSimpArgs false
set_option linter.unusedVariables false
namespace Go.Proofs
open Go Go.Eng
set_option maxRecDepth 100000
set_option maxHeartbeats 4000000
def I16 (id : Int) (l : List Kep) (cap : Option Nat) (m : Nat) (fr : Fr) (H : Heap) : Prop := ∃ i : Nat, i ≤ l.length ∧ m = l.length - i ∧ (∀ j (hj : j < l.length), j < i → okK l j l[j] = true) ∧ fr = [(1, .ptr 0 0), (3, I i)] ∧ H = ⟨1, [(0, .cells (wav id l cap))]⟩
theorem c16 (id : Int) (l : List Kep) (cap : Option Nat) (hb : l.length ≤ 1000000) : CallA Try.prog 16 [.agg (wav id l cap)] Heap.nil fun v H' => v = .bool (validB id l) ∧ H' = Heap.nil := by
  refine callA_of ok16 (Nat.le_of_ble_eq_true rfl) ?_
  repeat' ((conv => whnf); first
      | refine Branch.ofT rfl ?_
      | refine Branch.ofF rfl ?_
      | refine Branch.dec (fun h => ?_) (fun h => ?_)
      | refine Branch.negdec (fun h => ?_) (fun h => ?_)
      | refine Branch.neg (fun h => ?_) (fun h => ?_)
      | refine Branch.mk (fun h => ?_) (fun h => ?_)
      | (refine Side.mk ?_ ?_; · first | omega | decide)
      | (refine SideD.mk ?_ ?_; · first | omega | decide)
      | refine ⟨_, Nat.lt_succ_self _, To.refl (.inl ⟨rfl, ?_⟩)⟩
      | (refine Side.mk ?_ ?_; · (simp; done))
      | fail
      )
  all_goals (conv => whnf)
  · refine RetA.data rfl ⟨?_, rfl⟩
    simp [one, validB]; omega
  · refine RetA.data rfl ⟨?_, rfl⟩
    simp [one, validB]; omega
  · refine RetA.data rfl ⟨?_, rfl⟩
    simp [one, validB]; omega
  refine ⟨I16 id l cap, l.length, To.gc [(0, true)] [1, 3] rfl ⟨wav_noLoc id l cap, trivial⟩ ⟨0, by omega, by omega, by omega, rfl, rfl⟩, ?_⟩
  rintro m fr H ⟨i, hi, rfl, hall, rfl, rfl⟩
  (conv => whnf)
  refine Branch.dec (fun h => ?_) (fun h => ?_)
  · have h' : i < l.length := by omega
    have fin : ∀ b : Bool, okK l i l[i] = b → (b = true → ∀ j (hj : j < l.length), j < i + 1 → okK l j l[j] = true) := by
      intro b hb hbt j hj hji
      rcases Nat.lt_or_eq_of_le (Nat.le_of_lt_succ hji) with e | e
      · exact hall j hj e
      · subst e; rw [hb, hbt]
    by_cases h0 : i = 0
    · subst h0
      repeat' ((conv => whnf); first
          | refine Branch.ofT rfl ?_
          | refine Branch.ofF rfl ?_
          | refine SideD.at (by omega) (kcells_at h') ?_
          | refine Branch.ofF (decide_eq_false (by omega)) ?_
          | refine Branch.dec (fun h => ?_) (fun h => ?_)
          | refine Branch.negdec (fun h => ?_) (fun h => ?_)
          | refine Branch.neg (fun h => ?_) (fun h => ?_)
          | refine Branch.mk (fun h => ?_) (fun h => ?_)
          | (refine Side.mk ?_ ?_; · first | omega | decide)
          | (refine SideD.mk ?_ ?_; · first | omega | decide)
          | refine ⟨_, Nat.lt_succ_self _, To.refl (.inl ⟨rfl, ?_⟩)⟩
          | refine QCallA.of (c33 _) rfl rfl ?_
          | refine QCallA.of (c34 _) rfl rfl ?_
          | (refine Side.mk ?_ ?_; · (simp; done))
          | fail
          )
      all_goals (conv => whnf)
      all_goals first
        | (refine ⟨l.length - (0 + 1), by omega, To.gc [(0, true)] [1, 3] rfl ⟨wav_noLoc id l cap, trivial⟩ ⟨0 + 1, by omega, rfl, fin true (by simp_all [okK]) rfl, rfl, rfl⟩⟩)
        | (refine RetA.data rfl ⟨?_, rfl⟩; simp only [one]; congr 1; symm; apply valid_no h'; simp_all [okK])
    · obtain ⟨hp, hpm⟩ := prev_at h' (by omega)
      repeat' ((conv => whnf); first
          | refine Branch.ofT rfl ?_
          | refine Branch.ofF rfl ?_
          | refine SideD.at (by omega) (kcells_at h') ?_
          | refine SideD.at (by omega) (kcells_at1 hp (by omega)) ?_
          | refine Branch.ofT (decide_eq_true (by omega)) ?_
          | refine Branch.dec (fun h => ?_) (fun h => ?_)
          | refine Branch.negdec (fun h => ?_) (fun h => ?_)
          | refine Branch.neg (fun h => ?_) (fun h => ?_)
          | refine Branch.mk (fun h => ?_) (fun h => ?_)
          | (refine Side.mk ?_ ?_; · first | omega | decide)
          | (refine SideD.mk ?_ ?_; · first | omega | decide)
          | refine ⟨_, Nat.lt_succ_self _, To.refl (.inl ⟨rfl, ?_⟩)⟩
          | refine QCallA.of (c33 _) rfl rfl ?_
          | refine QCallA.of (c34 _) rfl rfl ?_
          | (refine Side.mk ?_ ?_; · (simp; done))
          | fail
          )
      all_goals (conv => whnf)
      all_goals first
        | (refine ⟨l.length - (i + 1), by omega, To.gc [(0, true)] [1, 3] rfl ⟨wav_noLoc id l cap, trivial⟩ ⟨i + 1, by omega, rfl, fin true (by simp_all [okK]) rfl, rfl, rfl⟩⟩)
        | (refine RetA.data rfl ⟨?_, rfl⟩; simp only [one]; congr 1; symm; apply valid_no h'; simp_all [okK])
  · (conv => whnf)
    refine RetA.data rfl ⟨?_, rfl⟩
    simp only [one]; congr 1; symm
    exact valid_yes (by omega) (by omega) (by omega) fun j hj => hall j hj (by omega)

/-! ### What valid witnesses are, and stay -/
def fK (k : Kep) : Prop := numB k.m = true ∧ numB k.e = true ∧ numB k.h = true ∧ serB k.u = true
structure ValidP (id : Int) (l : List Kep) : Prop where
  lo : 0 ≤ id
  hi : id < 3
  len : l.length ≤ 64
  each : ∀ k ∈ l, fK k
  asc : (l.map Kep.m).Pairwise (· < ·)
theorem valid_get {id : Int} {l : List Kep} (h : validB id l = true) : 0 ≤ id ∧ id < 3 ∧ l.length ≤ 64 ∧ ∀ j (hj : j < l.length), okK l j l[j] = true := by
  simp only [validB, Bool.and_eq_true, decide_eq_true_eq, List.all_eq_true, List.mem_range] at h
  exact ⟨h.1.1.1, h.1.1.2, h.1.2, fun j hj => by rw [← okAt_get hj]; exact h.2 j hj⟩
theorem okK_f {l : List Kep} {j : Nat} {k : Kep} (h : okK l j k = true) : fK k ∧ (j = 0 ∨ prevM l j < k.m) := by
  simp only [okK, Bool.and_eq_true, Bool.or_eq_true, decide_eq_true_eq] at h
  exact ⟨⟨h.1.1.1.1, h.1.1.1.2, h.1.1.2, h.1.2⟩, h.2⟩
theorem validP_of {id : Int} {l : List Kep} (h : validB id l = true) : ValidP id l := by
  obtain ⟨h1, h2, h3, h4⟩ := valid_get h
  refine ⟨h1, h2, h3, fun k hk => ?_, ?_⟩
  · obtain ⟨j, hj, rfl⟩ := List.getElem_of_mem hk
    exact (okK_f (h4 j hj)).1
  · have step : ∀ j (hj : j + 1 < l.length), l[j].m < l[j + 1].m := fun j hj => by
      have := (okK_f (h4 (j + 1) hj)).2
      simp only [prevM, Nat.add_sub_cancel, List.getElem?_eq_getElem (show j < l.length by omega), Option.getD_some] at this
      omega
    have all : ∀ d i (hi : i < l.length) (hj : i + d + 1 < l.length), l[i].m < l[i + d + 1].m := by
      intro d
      induction d with
      | zero => exact fun i _ hj => step i hj
      | succ d ih =>
        intro i hi hj
        have h1 := ih i hi (by omega)
        have h2 := step (i + d + 1) (by omega)
        exact Int.lt_trans h1 h2
    rw [List.pairwise_iff_getElem]
    intro i j hi hj hij
    simp only [List.length_map] at hi hj
    simp only [List.getElem_map]
    have := all (j - i - 1) i hi (by omega)
    simp only [show i + (j - i - 1) + 1 = j by omega] at this
    exact this
theorem valid_of {id : Int} {l : List Kep} (h : ValidP id l) : validB id l = true := by
  refine valid_yes h.lo h.hi h.len fun j hj => ?_
  obtain ⟨f1, f2, f3, f4⟩ := h.each l[j] (List.getElem_mem hj)
  simp only [okK, f1, f2, f3, f4, Bool.and_self, Bool.true_and, Bool.or_eq_true, decide_eq_true_eq]
  by_cases h0 : j = 0
  · exact .inl h0
  · refine .inr ?_
    have := List.pairwise_iff_getElem.1 h.asc (j - 1) j (by simp; omega) (by simpa using hj) (by omega)
    simp only [List.getElem_map] at this
    simpa [prevM, List.getElem?_eq_getElem (show j - 1 < l.length by omega)] using this
theorem kept_of {id : Int} {l : List Kep} (h : ValidP id l) : Kept1 l := by
  refine ⟨h.len, fun i j hi hj hij => ?_⟩
  have := List.pairwise_iff_getElem.1 h.asc i j (by simpa using hi) (by simpa using hj) hij
  simpa using this
theorem upto_of {id : Int} {l : List Kep} (h : ValidP id l) : ∀ j (hj : j < l.length), 0 ≤ l[j].u := fun j hj => by
  have := (h.each l[j] (List.getElem_mem hj)).2.2.2
  unfold serB at this; simp at this; exact this.1
theorem numB_mk {n : Int} (h : 1 ≤ n ∧ n ≤ 1073741824) : numB n = true := by unfold numB; simp [h]
theorem serB_mk {n : Int} (h : 0 ≤ n ∧ n ≤ 1099511627776) : serB n = true := by unfold serB; simp [h]
theorem serB_get {n : Int} (h : serB n = true) : 0 ≤ n ∧ n ≤ 1099511627776 := by unfold serB at h; simpa using h
theorem ok_fields (p : Ple) (h : p.ok = true) : numB p.m = true ∧ numB p.h = true ∧ numB p.e = true ∧ serB p.u = true := by
  unfold Ple.ok at h; simp at h; exact ⟨h.1.1.1.1.2, h.1.1.1.2, h.1.1.2, h.1.2⟩
theorem mx_ser {a b : Int} (ha : serB a = true) (hb : serB b = true) : serB (mx a b) = true := by unfold mx; split <;> assumption
theorem newK_m (k : Kep) (p : Ple) : (newK k p).m = k.m := by
  simp only [newK, uptK, hearK]; split <;> split <;> rfl
theorem newK_f {k : Kep} {p : Ple} (hp : p.ok = true) (hk : fK k) : fK (newK k p) := by
  obtain ⟨p1, p2, p3, p4⟩ := ok_fields p hp
  obtain ⟨k1, k2, k3, k4⟩ := hk
  refine ⟨by rw [newK_m]; exact k1, ?_, ?_, ?_⟩
  · simp only [newK, uptK, hearK]; split <;> split <;> assumption
  · simp only [newK, uptK, hearK]; split <;> split <;> assumption
  · simp only [newK, uptK, hearK]; split <;> split <;> first | exact mx_ser k4 p4 | assumption
theorem newK_fresh {p : Ple} (hp : p.ok = true) (h1 : p.k = 1) : fK (newK ⟨p.m, 0, 0, 0⟩ p) := by
  obtain ⟨p1, p2, p3, p4⟩ := ok_fields p hp
  obtain ⟨_, q2, _⟩ := ok_cases p hp
  have : newK ⟨p.m, 0, 0, 0⟩ p = ⟨p.m, p.e, p.h, mx 0 p.u⟩ := by
    apply kep_eq <;> (simp only [newK, uptK, hearK, agrK, mx]; grind)
  rw [this]
  exact ⟨p1, p3, p2, mx_ser (serB_mk (by omega)) p4⟩
theorem valid_hear {id : Int} {l : List Kep} {cap : Option Nat} {p : Ple} (h : ValidP id l) : ValidP id (hearW id l cap p (rank l p.m)).l := by
  have hl := kept_of h
  cases hok : p.ok with
  | false => simpa [hearW, hok] using h
  | true =>
    have hf := found_rank l p.m hl
    rcases plc_cases (m := p.m) hl with ⟨hlt, hm, _⟩ | ⟨hu, _⟩
    · rw [hearW_known hok hlt hm]
      have hsame : (l.take (rank l p.m) ++ newK l[rank l p.m] p :: l.drop (rank l p.m + 1)).map Kep.m = l.map Kep.m := by
        have e : l = l.take (rank l p.m) ++ l[rank l p.m] :: l.drop (rank l p.m + 1) := by
          rw [← List.drop_eq_getElem_cons hlt, List.take_append_drop]
        have e' := congrArg (List.map Kep.m) e
        rw [e']
        simp only [List.map_append, List.map_cons, newK_m]
      refine ⟨h.lo, h.hi, by have := congrArg List.length hsame; simp at this ⊢; have := h.len; omega, fun k hk => ?_, by rw [hsame]; exact h.asc⟩
      simp only [List.mem_append, List.mem_cons] at hk
      rcases hk with hk | rfl | hk
      · exact h.each k (List.mem_of_mem_take hk)
      · exact newK_f hok (h.each _ (List.getElem_mem hlt))
      · exact h.each k (List.mem_of_mem_drop hk)
    · have hu' : unk l p (rank l p.m) := fun h => hu _ h
      by_cases h64 : (64 : Int) ≤ (l.length : Int)
      · rw [hearW_limit hok hu' h64]; exact h
      · by_cases h2 : p.k = 2
        · rw [hearW_conf hok hu' h64 h2]; exact h
        · rw [hearW_new hok hu' h64 h2]
          obtain ⟨q1, _, _⟩ := ok_cases p hok
          refine ⟨h.lo, h.hi, by have := hf.le; simp; omega, fun k hk => ?_, ?_⟩
          · simp only [List.mem_append, List.mem_cons] at hk
            rcases hk with hk | rfl | hk
            · exact h.each k (List.mem_of_mem_take hk)
            · exact newK_fresh hok (by omega)
            · exact h.each k (List.mem_of_mem_drop hk)
          · have hs : (l.map Kep.m).Pairwise (· < ·) := h.asc
            have hsplit : l.map Kep.m = (l.take (rank l p.m)).map Kep.m ++ (l.drop (rank l p.m)).map Kep.m := by rw [← List.map_append, List.take_append_drop]
            rw [hsplit, List.pairwise_append] at hs
            simp only [List.map_append, List.map_cons, newK_m]
            rw [List.pairwise_append]
            have hlow : ∀ x ∈ (l.take (rank l p.m)).map Kep.m, x < p.m := by
              intro x hx
              obtain ⟨k, hk, rfl⟩ := List.mem_map.1 hx
              obtain ⟨i, hi, rfl⟩ := List.getElem_of_mem hk
              simp only [List.length_take] at hi
              simp only [List.getElem_take]
              exact hf.lo i (by omega) (by omega)
            have hhigh : ∀ x ∈ (l.drop (rank l p.m)).map Kep.m, p.m < x := by
              intro x hx
              obtain ⟨k, hk, rfl⟩ := List.mem_map.1 hx
              obtain ⟨i, hi, rfl⟩ := List.getElem_of_mem hk
              simp only [List.length_drop] at hi
              simp only [List.getElem_drop]
              have h1 := hf.hi (rank l p.m + i) (by omega) (by omega)
              have h2 := hu (rank l p.m + i) (by omega)
              omega
            refine ⟨hs.1, List.pairwise_cons.2 ⟨hhigh, hs.2.1⟩, fun a ha b hb => ?_⟩
            rcases List.mem_cons.1 hb with rfl | hb
            · exact hlow a ha
            · exact hs.2.2 a ha b hb
theorem c7g (id : Int) (l : List Kep) (p : Ple) (l' : List Kep) (cap' : Option Nat) (g : Gra) (e : Int) (hlen : l.length ≤ 64) (hlen' : l'.length ≤ 64)
    (h27 : CallA Try.prog 27 [.agg (wav id l none)] Heap.nil fun v H' => v = .bool true ∧ H' = Heap.nil) (h16 : CallA Try.prog 16 [.agg (wav id l none)] Heap.nil fun v H' => v = .bool true ∧ H' = Heap.nil)
    (h17 : CallA Try.prog 17 [.agg (wav id l none), .agg p.av] Heap.nil fun v H' => v = .tuple [.agg (wav id l' cap'), .agg g.av, I e] ∧ H' = Heap.nil)
    (h28 : CallA Try.prog 28 [.agg (wav id l none), .agg p.av] Heap.nil fun v H' => v = .agg (wav id l' cap' ++ g.av ++ [I e]) ∧ H' = Heap.nil)
    (h27' : CallA Try.prog 27 [.agg (wav id l' cap')] Heap.nil fun v H' => v = .bool true ∧ H' = Heap.nil) :
    CallA Try.prog 7 [.agg (wav id l none), .agg p.av] Heap.nil fun v H' => v = .bool true ∧ H' = Heap.nil := by
  refine callA_of ok7 (Nat.le_of_ble_eq_true rfl) ?_
  have h18 := c18 id l' cap' cap' (by omega)
  repeat' ((conv => whnf); first
      | refine Branch.ofT rfl ?_
      | refine Branch.ofF rfl ?_
      | refine Branch.ofF (decide_eq_false (by omega)) ?_
      | refine Branch.ofT (by simp; done) ?_
      | refine Branch.dec (fun h => ?_) (fun h => ?_)
      | refine Branch.negdec (fun h => ?_) (fun h => ?_)
      | refine Branch.neg (fun h => ?_) (fun h => ?_)
      | refine Branch.mk (fun h => ?_) (fun h => ?_)
      | (refine Side.mk ?_ ?_; · first | omega | decide)
      | (refine SideD.mk ?_ ?_; · first | omega | decide)
      | refine ⟨_, Nat.lt_succ_self _, To.refl (.inl ⟨rfl, ?_⟩)⟩
      | refine QCallA.of h27 rfl rfl ?_
      | refine QCallA.of h16 rfl rfl ?_
      | refine CallA.pure h16 rfl rfl ?_
      | refine CallA.pure h17 rfl rfl ?_
      | refine CallA.pure h28 rfl rfl ?_
      | refine CallA.pure san rfl rfl ?_
      | refine CallA.pure h18 rfl rfl ?_
      | refine CallA.pure h27' rfl rfl ?_
      | (refine Side.mk ?_ ?_; · (simp; done))
      | fail
      )
  all_goals (conv => whnf)
  all_goals exact RetA.data rfl ⟨rfl, rfl⟩
theorem c7 (id : Int) (l : List Kep) (p : Ple) (hb : l.length ≤ 9223372036854775807) : CallA Try.prog 7 [.agg (wav id l none), .agg p.av] Heap.nil fun v H' => v = .bool true ∧ H' = Heap.nil := by
  by_cases h70 : (70 : Int) < l.length
  · refine callA_of ok7 (Nat.le_of_ble_eq_true rfl) ?_
    repeat' ((conv => whnf); first
        | refine Branch.ofT rfl ?_
        | refine Branch.ofF rfl ?_
        | refine Branch.ofT (decide_eq_true (by omega)) ?_
        | refine Branch.dec (fun h => ?_) (fun h => ?_)
        | refine Branch.negdec (fun h => ?_) (fun h => ?_)
        | refine Branch.neg (fun h => ?_) (fun h => ?_)
        | refine Branch.mk (fun h => ?_) (fun h => ?_)
        | (refine Side.mk ?_ ?_; · first | omega | decide)
        | (refine SideD.mk ?_ ?_; · first | omega | decide)
        | refine ⟨_, Nat.lt_succ_self _, To.refl (.inl ⟨rfl, ?_⟩)⟩
        | refine CallA.pure san rfl rfl ?_
        | (refine Side.mk ?_ ?_; · (simp; done))
        | fail
        )
    all_goals (conv => whnf)
    all_goals exact RetA.data rfl ⟨rfl, rfl⟩
  · have h27 := c27 id l none (by omega)
    have h16 := c16 id l none (by omega)
    cases hval : validB id l with
    | false =>
      rw [hval] at h27 h16
      refine callA_of ok7 (Nat.le_of_ble_eq_true rfl) ?_
      repeat' ((conv => whnf); first
          | refine Branch.ofT rfl ?_
          | refine Branch.ofF rfl ?_
          | refine Branch.ofF (decide_eq_false (by omega)) ?_
          | refine Branch.dec (fun h => ?_) (fun h => ?_)
          | refine Branch.negdec (fun h => ?_) (fun h => ?_)
          | refine Branch.neg (fun h => ?_) (fun h => ?_)
          | refine Branch.mk (fun h => ?_) (fun h => ?_)
          | (refine Side.mk ?_ ?_; · first | omega | decide)
          | (refine SideD.mk ?_ ?_; · first | omega | decide)
          | refine ⟨_, Nat.lt_succ_self _, To.refl (.inl ⟨rfl, ?_⟩)⟩
          | refine QCallA.of h27 rfl rfl ?_
          | refine QCallA.of h16 rfl rfl ?_
          | refine CallA.pure h16 rfl rfl ?_
          | refine CallA.pure san rfl rfl ?_
          | (refine Side.mk ?_ ?_; · (simp; done))
          | fail
          )
      all_goals (conv => whnf)
      all_goals exact RetA.data rfl ⟨rfl, rfl⟩
    | true =>
      rw [hval] at h27 h16
      have hv := validP_of hval
      have hl := kept_of hv
      have h17 := c17 id l none p hl
      have h28 := c28 id l none p hl (upto_of hv)
      have hv' := valid_hear (cap := none) (p := p) hv
      have h27' := c27 id (hearW id l none p (rank l p.m)).l (hearW id l none p (rank l p.m)).cap (by have := hv'.len; omega)
      rw [valid_of hv'] at h27'
      exact c7g id l p _ _ (hearW id l none p (rank l p.m)).g _ hv.len hv'.len h27 h16 h17 h28 h27'
end Go.Proofs

set_option maxRecDepth 100000
namespace Go.Proofs
open Go Go.Eng
/-- simulacrum/simulacrumlaw37.TokenNeverGoesBack -/
def ac5 : AC := (.seq (.reg [⟨some 2, .h (.box (.t 0)), none⟩,
    ⟨some 4, .p (.mov (.c (.bool false))), none⟩])
  (.seq (.seq (.reg [⟨some 22, .p (.fieldA 1 (.t 2)), none⟩,
    ⟨some 23, .h (.load false 1 (.t 22)), none⟩,
    ⟨some 24, .p (.len false (.t 23)), none⟩,
    ⟨some 25, .p (.bin .gtr (.t 24) (.c (.int .i64 70))), none⟩,
    ⟨some 26, .p (.mov (.t 25)), none⟩,
    ⟨some 27, .h (.load true 2 (.t 2)), (some (26, false))⟩,
    ⟨some 28, .call 16 [(.t 27)], (some (26, false))⟩,
    ⟨some 29, .p (.un .not (.t 28)), (some (26, false))⟩,
    ⟨some 30, .p (.pick (.t 26) (.c (.bool true)) (.t 29)), none⟩,
    ⟨some 31, .p (.mov (.t 30)), none⟩,
    ⟨some 32, .p (.mov (.t 1)), (some (31, false))⟩,
    ⟨some 33, .p (.len false (.t 32)), (some (31, false))⟩,
    ⟨some 34, .p (.bin .gtr (.t 33) (.c (.int .i64 30))), (some (31, false))⟩,
    ⟨some 35, .p (.pick (.t 31) (.c (.bool true)) (.t 34)), none⟩])
  (.cond (.t 35) (.seq (.reg [⟨some 36, .call 8 [], none⟩,
    ⟨some 4, .p (.mov (.t 36)), none⟩])
  .ret) .skip))
  (.seq (.reg [⟨some 37, .m .mk, none⟩,
    ⟨some 5, .p (.mov (.t 37)), none⟩])
  (.seq (.seq (.reg [⟨some 38, .p (.mov (.t 1)), none⟩,
    ⟨some 39, .p (.len false (.t 38)), none⟩,
    ⟨some 40, .p (.mov (.c (.int .i64 0))), none⟩])
  (.block 0 (.loop (.seq (.reg [⟨some 41, .p (.bin .lss (.t 40) (.t 39)), none⟩])
  (.seq (.cond (.t 41) .skip (.exit 0))
  (.seq (.block 1 (.seq (.reg [⟨some 42, .p (.idxA 5 none (.t 38) (.t 40)), none⟩,
    ⟨some 43, .h (.load true 5 (.t 42)), none⟩,
    ⟨some 7, .h (.alloc [(.int .i64 0), (.int .i64 0), (.int .i64 0), (.int .i64 0), (.int .i64 0)]), none⟩,
    ⟨none, .h (.store 5 (.t 7) (.t 43)), none⟩])
  (.seq (.reg [⟨some 45, .h (.load true 2 (.t 2)), none⟩,
    ⟨some 46, .h (.load true 5 (.t 7)), none⟩,
    ⟨some 47, .call 17 [(.t 45), (.t 46)], none⟩,
    ⟨some 44, .p (.mov (.t 47)), none⟩,
    ⟨some 48, .p (.extract 0 (.t 44)), none⟩,
    ⟨some 49, .p (.extract 1 (.t 44)), none⟩,
    ⟨some 50, .p (.extract 2 (.t 44)), none⟩,
    ⟨some 8, .h (.alloc [(.int .i64 0), .nils]), none⟩,
    ⟨some 9, .h (.alloc [(.int .i64 0), (.int .i64 0), (.int .i64 0), (.int .i64 0), (.int .i64 0), (.int .i64 0), (.bool false), (.int .i64 0), (.int .i64 0)]), none⟩,
    ⟨none, .h (.store 2 (.t 8) (.t 48)), none⟩,
    ⟨none, .h (.store 9 (.t 9) (.t 49)), none⟩,
    ⟨some 10, .p (.mov (.t 50)), none⟩])
  (.seq (.seq (.reg [⟨some 51, .p (.mov (.t 10)), none⟩,
    ⟨some 52, .p (.bin .neq (.t 51) (.c (.int .i64 0))), none⟩])
  (.cond (.t 52) (.seq (.seq (.reg [⟨some 53, .h (.load true 2 (.t 8)), none⟩,
    ⟨some 54, .h (.load true 2 (.t 2)), none⟩,
    ⟨some 55, .call 18 [(.t 53), (.t 54)], none⟩,
    ⟨some 56, .p (.un .not (.t 55)), none⟩,
    ⟨some 57, .p (.mov (.t 56)), none⟩,
    ⟨some 58, .h (.load true 9 (.t 9)), (some (57, false))⟩,
    ⟨some 59, .v (.build [(.int .i64 0), (.int .i64 0), (.int .i64 0), (.int .i64 0), (.int .i64 0), (.int .i64 0), (.bool false), (.int .i64 0), (.int .i64 0)] []), (some (57, false))⟩,
    ⟨some 60, .v (.eqa true [(.i .i64), (.i .i64), (.i .i64), (.i .i64), (.i .i64), (.i .i64), .b, (.i .i64), (.i .i64)] (.t 58) (.t 59)), (some (57, false))⟩,
    ⟨some 61, .p (.pick (.t 57) (.c (.bool true)) (.t 60)), none⟩])
  (.cond (.t 61) (.seq (.reg [⟨some 4, .p (.mov (.c (.bool false))), none⟩])
  .ret) .skip))
  (.exit 1)) .skip))
  (.seq (.reg [⟨some 63, .h (.load true 2 (.t 8)), none⟩,
    ⟨some 64, .h (.load true 5 (.t 7)), none⟩,
    ⟨some 65, .call 17 [(.t 63), (.t 64)], none⟩,
    ⟨some 62, .p (.mov (.t 65)), none⟩,
    ⟨some 66, .p (.extract 0 (.t 62)), none⟩,
    ⟨some 67, .p (.extract 1 (.t 62)), none⟩,
    ⟨some 68, .p (.extract 2 (.t 62)), none⟩,
    ⟨some 11, .h (.alloc [(.int .i64 0), .nils]), none⟩,
    ⟨some 12, .h (.alloc [(.int .i64 0), (.int .i64 0), (.int .i64 0), (.int .i64 0), (.int .i64 0), (.int .i64 0), (.bool false), (.int .i64 0), (.int .i64 0)]), none⟩,
    ⟨none, .h (.store 2 (.t 11) (.t 66)), none⟩,
    ⟨none, .h (.store 9 (.t 12) (.t 67)), none⟩,
    ⟨some 13, .p (.mov (.t 68)), none⟩])
  (.seq (.seq (.reg [⟨some 69, .p (.mov (.t 13)), none⟩,
    ⟨some 70, .p (.bin .neq (.t 69) (.c (.int .i64 0))), none⟩,
    ⟨some 71, .p (.mov (.t 70)), none⟩,
    ⟨some 72, .h (.load true 9 (.t 12)), (some (71, false))⟩,
    ⟨some 73, .h (.load true 9 (.t 9)), (some (71, false))⟩,
    ⟨some 74, .v (.eqa true [(.i .i64), (.i .i64), (.i .i64), (.i .i64), (.i .i64), (.i .i64), .b, (.i .i64), (.i .i64)] (.t 72) (.t 73)), (some (71, false))⟩,
    ⟨some 75, .p (.pick (.t 71) (.c (.bool true)) (.t 74)), none⟩,
    ⟨some 76, .p (.mov (.t 75)), none⟩,
    ⟨some 77, .h (.load true 2 (.t 11)), (some (76, false))⟩,
    ⟨some 78, .h (.load true 2 (.t 8)), (some (76, false))⟩,
    ⟨some 79, .call 18 [(.t 77), (.t 78)], (some (76, false))⟩,
    ⟨some 80, .p (.un .not (.t 79)), (some (76, false))⟩,
    ⟨some 81, .p (.pick (.t 76) (.c (.bool true)) (.t 80)), none⟩,
    ⟨some 82, .p (.mov (.t 81)), none⟩,
    ⟨some 83, .p (.fieldA 1 (.t 8)), (some (82, false))⟩,
    ⟨some 84, .h (.load false 1 (.t 83)), (some (82, false))⟩,
    ⟨some 85, .p (.len false (.t 84)), (some (82, false))⟩,
    ⟨some 86, .p (.fieldA 1 (.t 2)), (some (82, false))⟩,
    ⟨some 87, .h (.load false 1 (.t 86)), (some (82, false))⟩,
    ⟨some 88, .p (.len false (.t 87)), (some (82, false))⟩,
    ⟨some 89, .p (.bin .lss (.t 85) (.t 88)), (some (82, false))⟩,
    ⟨some 90, .p (.pick (.t 82) (.c (.bool true)) (.t 89)), none⟩,
    ⟨some 91, .p (.mov (.t 90)), none⟩,
    ⟨some 92, .p (.fieldA 1 (.t 8)), (some (91, false))⟩,
    ⟨some 93, .h (.load false 1 (.t 92)), (some (91, false))⟩,
    ⟨some 94, .p (.len false (.t 93)), (some (91, false))⟩,
    ⟨some 95, .p (.fieldA 1 (.t 2)), (some (91, false))⟩,
    ⟨some 96, .h (.load false 1 (.t 95)), (some (91, false))⟩,
    ⟨some 97, .p (.len false (.t 96)), (some (91, false))⟩,
    ⟨some 98, .p (.bin .add (.t 97) (.c (.int .i64 1))), (some (91, false))⟩,
    ⟨some 99, .p (.bin .gtr (.t 94) (.t 98)), (some (91, false))⟩,
    ⟨some 100, .p (.pick (.t 91) (.c (.bool true)) (.t 99)), none⟩])
  (.cond (.t 100) (.seq (.reg [⟨some 4, .p (.mov (.c (.bool false))), none⟩])
  .ret) .skip))
  (.seq (.seq (.reg [⟨some 101, .p (.fieldA 1 (.t 2)), none⟩,
    ⟨some 102, .h (.load false 1 (.t 101)), none⟩,
    ⟨some 103, .p (.len false (.t 102)), none⟩,
    ⟨some 104, .p (.mov (.c (.int .i64 0))), none⟩])
  (.block 2 (.loop (.seq (.reg [⟨some 105, .p (.bin .lss (.t 104) (.t 103)), none⟩])
  (.seq (.cond (.t 105) .skip (.exit 2))
  (.seq (.block 3 (.seq (.reg [⟨some 106, .p (.idxA 4 none (.t 102) (.t 104)), none⟩,
    ⟨some 107, .h (.load true 4 (.t 106)), none⟩,
    ⟨some 15, .h (.alloc [(.int .i64 0), (.int .i64 0), (.int .i64 0), (.int .i64 0)]), none⟩,
    ⟨none, .h (.store 4 (.t 15) (.t 107)), none⟩])
  (.seq (.reg [⟨some 16, .p (.mov (.c (.bool false))), none⟩])
  (.seq (.seq (.reg [⟨some 108, .p (.fieldA 1 (.t 8)), none⟩,
    ⟨some 109, .h (.load false 1 (.t 108)), none⟩,
    ⟨some 110, .p (.len false (.t 109)), none⟩,
    ⟨some 111, .p (.mov (.c (.int .i64 0))), none⟩])
  (.block 4 (.loop (.seq (.reg [⟨some 112, .p (.bin .lss (.t 111) (.t 110)), none⟩])
  (.seq (.cond (.t 112) .skip (.exit 4))
  (.seq (.block 5 (.seq (.reg [⟨some 113, .p (.idxA 4 none (.t 109) (.t 111)), none⟩,
    ⟨some 114, .h (.load true 4 (.t 113)), none⟩,
    ⟨some 18, .h (.alloc [(.int .i64 0), (.int .i64 0), (.int .i64 0), (.int .i64 0)]), none⟩,
    ⟨none, .h (.store 4 (.t 18) (.t 114)), none⟩])
  (.reg [⟨some 115, .p (.mov (.t 16)), none⟩,
    ⟨some 116, .p (.mov (.t 115)), none⟩,
    ⟨some 117, .p (.fieldA 0 (.t 18)), (some (116, false))⟩,
    ⟨some 118, .h (.load false 1 (.t 117)), (some (116, false))⟩,
    ⟨some 119, .p (.fieldA 0 (.t 15)), (some (116, false))⟩,
    ⟨some 120, .h (.load false 1 (.t 119)), (some (116, false))⟩,
    ⟨some 121, .p (.bin .eql (.t 118) (.t 120)), (some (116, false))⟩,
    ⟨some 122, .p (.mov (.t 121)), (some (116, false))⟩,
    ⟨some 123, .p (.fieldA 1 (.t 18)), (some (122, true))⟩,
    ⟨some 124, .h (.load false 1 (.t 123)), (some (122, true))⟩,
    ⟨some 125, .p (.fieldA 1 (.t 15)), (some (122, true))⟩,
    ⟨some 126, .h (.load false 1 (.t 125)), (some (122, true))⟩,
    ⟨some 127, .p (.bin .geq (.t 124) (.t 126)), (some (122, true))⟩,
    ⟨some 128, .p (.pick (.t 122) (.t 127) (.c (.bool false))), (some (116, false))⟩,
    ⟨some 129, .p (.mov (.t 128)), (some (116, false))⟩,
    ⟨some 130, .p (.fieldA 3 (.t 18)), (some (129, true))⟩,
    ⟨some 131, .h (.load false 1 (.t 130)), (some (129, true))⟩,
    ⟨some 132, .p (.fieldA 3 (.t 15)), (some (129, true))⟩,
    ⟨some 133, .h (.load false 1 (.t 132)), (some (129, true))⟩,
    ⟨some 134, .p (.bin .geq (.t 131) (.t 133)), (some (129, true))⟩,
    ⟨some 135, .p (.pick (.t 129) (.t 134) (.c (.bool false))), (some (116, false))⟩,
    ⟨some 136, .p (.pick (.t 116) (.c (.bool true)) (.t 135)), none⟩,
    ⟨some 16, .p (.mov (.t 136)), none⟩])))
  (.reg [⟨some 137, .p (.bin .add (.t 111) (.c (.int .i64 1))), none⟩,
    ⟨some 111, .p (.mov (.t 137)), none⟩])))))))
  (.seq (.reg [⟨some 138, .p (.mov (.t 16)), none⟩,
    ⟨some 139, .p (.un .not (.t 138)), none⟩])
  (.cond (.t 139) (.seq (.reg [⟨some 4, .p (.mov (.c (.bool false))), none⟩])
  .ret) .skip))))))
  (.reg [⟨some 140, .p (.bin .add (.t 104) (.c (.int .i64 1))), none⟩,
    ⟨some 104, .p (.mov (.t 140)), none⟩])))))))
  (.seq (.seq (.reg [⟨some 141, .p (.fieldA 6 (.t 9)), none⟩,
    ⟨some 142, .h (.load false 1 (.t 141)), none⟩])
  (.cond (.t 142) (.seq (.reg [⟨some 143, .p (.fieldA 1 (.t 7)), none⟩,
    ⟨some 144, .h (.load false 1 (.t 143)), none⟩,
    ⟨some 145, .p (.fieldA 3 (.t 7)), none⟩,
    ⟨some 146, .h (.load false 1 (.t 145)), none⟩,
    ⟨some 147, .v (.build [(.int .i64 0), (.int .i64 0)] [(0, 1, (.t 144)), (1, 1, (.t 146))]), none⟩,
    ⟨some 19, .h (.alloc [(.int .i64 0), (.int .i64 0)]), none⟩,
    ⟨none, .h (.store 2 (.t 19) (.t 147)), none⟩])
  (.seq (.seq (.reg [⟨some 149, .p (.mov (.t 5)), none⟩,
    ⟨some 150, .h (.load true 2 (.t 19)), none⟩,
    ⟨some 151, .m (.get true (.f [(.i .i64), (.i .i64)]) (.int .i64 0) (.t 149) (.t 150)), none⟩,
    ⟨some 148, .p (.mov (.t 151)), none⟩,
    ⟨some 152, .p (.extract 0 (.t 148)), none⟩,
    ⟨some 153, .p (.extract 1 (.t 148)), none⟩,
    ⟨some 20, .p (.mov (.t 152)), none⟩,
    ⟨some 21, .p (.mov (.t 153)), none⟩])
  (.seq (.reg [⟨some 154, .p (.mov (.t 21)), none⟩,
    ⟨some 155, .p (.mov (.t 154)), none⟩,
    ⟨some 156, .p (.mov (.t 20)), (some (155, true))⟩,
    ⟨some 157, .p (.fieldA 2 (.t 7)), (some (155, true))⟩,
    ⟨some 158, .h (.load false 1 (.t 157)), (some (155, true))⟩,
    ⟨some 159, .p (.bin .neq (.t 156) (.t 158)), (some (155, true))⟩,
    ⟨some 160, .p (.pick (.t 155) (.t 159) (.c (.bool false))), none⟩])
  (.cond (.t 160) (.seq (.reg [⟨some 4, .p (.mov (.c (.bool false))), none⟩])
  .ret) .skip)))
  (.reg [⟨some 161, .p (.mov (.t 5)), none⟩,
    ⟨some 162, .h (.load true 2 (.t 19)), none⟩,
    ⟨some 163, .p (.fieldA 2 (.t 7)), none⟩,
    ⟨some 164, .h (.load false 1 (.t 163)), none⟩,
    ⟨none, .m (.set (.f [(.i .i64), (.i .i64)]) (.t 161) (.t 162) (.t 164)), none⟩]))) .skip))
  (.reg [⟨some 165, .h (.load true 2 (.t 8)), none⟩,
    ⟨none, .h (.store 2 (.t 2) (.t 165)), none⟩])))))))))
  (.reg [⟨some 166, .p (.bin .add (.t 40) (.c (.int .i64 1))), none⟩,
    ⟨some 40, .p (.mov (.t 166)), none⟩])))))))
  (.seq (.reg [⟨some 167, .call 8 [], none⟩,
    ⟨some 4, .p (.mov (.t 167)), none⟩])
  .ret)))))
def rs5 : List AR := [.tmp 4]
theorem ok5 : okF Try.prog 5 168 ac5 rs5 = true := by kernel_rfl
end Go.Proofs

namespace Go.Proofs
open Go Go.Eng
set_option maxRecDepth 100000
set_option maxHeartbeats 4000000
/-! ### What hearing keeps -/
def Up (k n : Kep) : Prop := n.m = k.m ∧ k.e ≤ n.e ∧ k.u ≤ n.u ∧ (n.e = k.e → n.h = k.h)
theorem Up.refl (k : Kep) : Up k k := ⟨rfl, Int.le_refl _, Int.le_refl _, fun _ => rfl⟩
theorem newK_up (k : Kep) (p : Ple) : Up k (newK k p) := by
  refine ⟨newK_m k p, ?_, ?_, ?_⟩ <;> (simp only [newK, uptK, hearK, agrK, mx]; grind)
theorem newK_idem (k : Kep) (p : Ple) : newK (newK k p) p = newK k p := by
  apply kep_eq <;> (simp only [newK, uptK, hearK, agrK, mx]; grind)
theorem newK_ag {k : Kep} {p : Ple} (h : agrK (hearK k p) p = true) : (newK k p).e = p.e ∧ (newK k p).h = p.h := by
  simp only [newK, uptK, hearK, agrK, mx] at *; grind
theorem graK_idem (id : Int) (k : Kep) (p : Ple) : graK id (newK k p) p = graK id k p := by
  unfold graK
  rw [newK_idem]
  have : agrK (hearK (newK k p) p) p = agrK (hearK k p) p := by simp only [newK, uptK, hearK, agrK, mx]; grind
  rw [this]
theorem rank_at {l : List Kep} {m : Int} (hl : Kept1 l) {i : Nat} (hi : i < l.length) (h : l[i].m = m) : rank l m = i := by
  have h1 := plc_at hl hi h
  rcases plc_cases (m := m) hl with ⟨_, _, h2⟩ | ⟨h2, _⟩
  · omega
  · exact absurd h (h2 i hi)
/-- A plea that is heard. -/
structure Good (id : Int) (l : List Kep) (p : Ple) (X : Heard) : Prop where
  e : X.e = 0
  cap : X.cap = none
  lo : l.length ≤ X.l.length
  hi : X.l.length ≤ l.length + 1
  keep : ∀ k ∈ l, ∃ n ∈ X.l, Up k n
  vote : X.g.ag = true → ∃ n ∈ X.l, n.m = p.m ∧ n.e = p.e ∧ n.h = p.h
  again : hearW id X.l none p (rank X.l p.m) = ⟨X.l, none, X.g, 0⟩
theorem mid_get {l r : List Kep} {x : Kep} {i : Nat} (h : l.length = i) : ∃ hi : i < (l ++ x :: r).length, (l ++ x :: r)[i] = x := by
  subst h
  exact ⟨by simp, by simp⟩
theorem again_of {id : Int} {L : List Kep} {k : Kep} {p : Ple} {r : Nat} (hok : p.ok = true) (hL : Kept1 L) (hr : r < L.length) (hx : L[r] = newK k p) (hm : k.m = p.m) : hearW id L none p (rank L p.m) = ⟨L, none, graK id k p, 0⟩ := by
  have hmr : L[r].m = p.m := by rw [hx, newK_m, hm]
  rw [rank_at hL hr hmr, hearW_known hok hr hmr, hx, newK_idem, graK_idem, ← hx]
  have : L.take r ++ L[r] :: L.drop (r + 1) = L := by rw [← List.drop_eq_getElem_cons hr, List.take_append_drop]
  rw [this]
theorem hear_facts {id : Int} {l : List Kep} {p : Ple} (h : ValidP id l) :
    (∃ e, e ≠ 0 ∧ hearW id l none p (rank l p.m) = ⟨l, none, .zero, e⟩) ∨ Good id l p (hearW id l none p (rank l p.m)) := by
  have hl := kept_of h
  have hV := valid_hear (cap := none) (p := p) h
  cases hok : p.ok with
  | false => exact .inl ⟨1, by omega, by simp [hearW, hok]⟩
  | true =>
    rcases plc_cases (m := p.m) hl with ⟨hlt, hm, _⟩ | ⟨hu, _⟩
    · rw [hearW_known hok hlt hm] at hV ⊢
      generalize rank l p.m = r at *
      have hL := kept_of hV
      have hlen : (l.take r).length = r := by simp; omega
      obtain ⟨hr', hx⟩ := mid_get (l := l.take r) (x := newK l[r] p) (r := l.drop (r + 1)) hlen
      refine .inr ⟨rfl, rfl, by simp; omega, by simp; omega, fun k hk => ?_, fun ha => ?_, again_of hok hL hr' hx hm⟩
      · have e : l = l.take r ++ l[r] :: l.drop (r + 1) := by rw [← List.drop_eq_getElem_cons hlt, List.take_append_drop]
        have hk' : k ∈ l.take r ++ l[r] :: l.drop (r + 1) := e ▸ hk
        simp only [List.mem_append, List.mem_cons] at hk'
        rcases hk' with hk | rfl | hk
        · exact ⟨k, by simp [hk], Up.refl k⟩
        · exact ⟨newK l[r] p, by simp, newK_up _ _⟩
        · exact ⟨k, by simp [hk], Up.refl k⟩
      · have := newK_ag (k := l[r]) (p := p) ha
        exact ⟨newK l[r] p, by simp, by rw [newK_m]; exact hm, this.1, this.2⟩
    · have hu' : unk l p (rank l p.m) := fun h => hu _ h
      have hle := (found_rank l p.m hl).le
      by_cases h64 : (64 : Int) ≤ (l.length : Int)
      · exact .inl ⟨2, by omega, hearW_limit hok hu' h64⟩
      · by_cases h2 : p.k = 2
        · rw [hearW_conf hok hu' h64 h2]
          exact .inr ⟨rfl, rfl, by simp, by simp, fun k hk => ⟨k, hk, Up.refl k⟩, fun h => by simp at h, hearW_conf hok hu' h64 h2⟩
        · rw [hearW_new hok hu' h64 h2] at hV ⊢
          generalize rank l p.m = r at *
          have hL := kept_of hV
          have hlen : (l.take r).length = r := by simp; omega
          obtain ⟨hr', hx⟩ := mid_get (l := l.take r) (x := newK ⟨p.m, 0, 0, 0⟩ p) (r := l.drop r) hlen
          refine .inr ⟨rfl, rfl, by simp; omega, by simp; omega, fun k hk => ?_, fun ha => ?_, again_of hok hL hr' hx rfl⟩
          · have hk' : k ∈ l.take r ++ l.drop r := by rw [List.take_append_drop]; exact hk
            simp only [List.mem_append] at hk'
            rcases hk' with hk | hk
            · exact ⟨k, by simp [hk], Up.refl k⟩
            · exact ⟨k, by simp [hk], Up.refl k⟩
          · have := newK_ag (k := ⟨p.m, 0, 0, 0⟩) (p := p) ha
            exact ⟨newK ⟨p.m, 0, 0, 0⟩ p, by simp, by rw [newK_m], this.1, this.2⟩
/-! ### Votes -/
structure Vote where
  (m e h : Int)
def vav (L : List Vote) : List (AV × AV) := L.map fun v => (.agg [I v.m, I v.e], I v.h)
def KV : KK := .f [.i .i64, .i .i64]
theorem eqKV (a b c d : Int) : eqK KV (.agg [I a, I b]) (.agg [I c, I d]) = some (decide (a = c) && (decide (b = d) && true)) := rfl
theorem vfind (m e : Int) : ∀ L : List Vote, mfind KV (.agg [I m, I e]) (vav L) = some none ∨ ∃ v ∈ L, v.m = m ∧ v.e = e ∧ mfind KV (.agg [I m, I e]) (vav L) = some (some (I v.h))
  | [] => .inl rfl
  | v :: L => by
    simp only [vav, List.map_cons, mfind, eqKV, Bool.and_true]
    by_cases h : m = v.m ∧ e = v.e
    · obtain ⟨rfl, rfl⟩ := h
      refine .inr ⟨v, by simp, rfl, rfl, by simp⟩
    · have : (decide (m = v.m) && decide (e = v.e)) = false := by simpa using h
      rw [this]
      rcases vfind m e L with h | ⟨v', h1, h2, h3, h4⟩
      · exact .inl h
      · exact .inr ⟨v', by simp [h1], h2, h3, h4⟩
theorem vput (m e h : Int) : ∀ L : List Vote, ∃ L' : List Vote, mput KV (.agg [I m, I e]) (I h) (vav L) = some (vav L') ∧ ∀ v ∈ L', v = ⟨m, e, h⟩ ∨ v ∈ L
  | [] => ⟨[⟨m, e, h⟩], rfl, by simp⟩
  | v :: L => by
    simp only [vav, List.map_cons, mput, eqKV, Bool.and_true]
    by_cases hq : m = v.m ∧ e = v.e
    · obtain ⟨rfl, rfl⟩ := hq
      refine ⟨⟨v.m, v.e, h⟩ :: L, by simp, fun x hx => ?_⟩
      rcases List.mem_cons.1 hx with rfl | hx
      · exact .inl rfl
      · exact .inr (by simp [hx])
    · have : (decide (m = v.m) && decide (e = v.e)) = false := by simpa using hq
      rw [this]
      obtain ⟨L', h1, h2⟩ := vput m e h L
      simp only [vav] at h1
      refine ⟨v :: L', by simp only [h1, List.map_cons], fun x hx => ?_⟩
      rcases List.mem_cons.1 hx with rfl | hx
      · exact .inr (by simp)
      · rcases h2 x hx with h | h
        · exact .inl h
        · exact .inr (by simp [h])
def VotesOk (L : List Vote) (l : List Kep) : Prop := ∀ v ∈ L, ∃ k ∈ l, k.m = v.m ∧ v.e ≤ k.e ∧ (k.e = v.e → k.h = v.h)
theorem votes_up {L : List Vote} {l l' : List Kep} (h : VotesOk L l) (hk : ∀ k ∈ l, ∃ n ∈ l', Up k n) : VotesOk L l' := fun v hv => by
  obtain ⟨k, h1, h2, h3, h4⟩ := h v hv
  obtain ⟨n, g1, g2, g3, _, g5⟩ := hk k h1
  refine ⟨n, g1, by omega, by omega, fun e => ?_⟩
  rw [g5 (by omega)]; exact h4 (by omega)
theorem one_m {id : Int} {l : List Kep} (h : ValidP id l) {a b : Kep} (ha : a ∈ l) (hb : b ∈ l) (hm : a.m = b.m) : a = b := by
  obtain ⟨i, hi, rfl⟩ := List.getElem_of_mem ha
  obtain ⟨j, hj, rfl⟩ := List.getElem_of_mem hb
  have hl := kept_of h
  have : i = j := (rank_at hl hi hm).symm.trans (rank_at hl hj rfl)
  subst this; rfl
theorem vote_host {id : Int} {L : List Vote} {l : List Kep} (h : ValidP id l) (hv : VotesOk L l) {m e host : Int} (hn : ∃ n ∈ l, n.m = m ∧ n.e = e ∧ n.h = host) {v : Vote} (hvL : v ∈ L) (h1 : v.m = m) (h2 : v.e = e) : v.h = host := by
  obtain ⟨n, hn, n1, n2, n3⟩ := hn
  obtain ⟨k, hk, k1, k2, k3⟩ := hv v hvL
  have : k = n := one_m h hk hn (by omega)
  subst this
  rw [← k3 (by omega)]; exact n3
theorem votes_put {L L' : List Vote} {l : List Kep} {m e host : Int} (hv : VotesOk L l) (hn : ∃ n ∈ l, n.m = m ∧ n.e = e ∧ n.h = host) (h : ∀ v ∈ L', v = ⟨m, e, host⟩ ∨ v ∈ L) : VotesOk L' l := fun v hvL => by
  rcases h v hvL with rfl | h
  · obtain ⟨n, hn, n1, n2, n3⟩ := hn
    exact ⟨n, hn, n1, by simp only; omega, fun _ => n3⟩
  · exact hv v h
/-! ### Whether one is kept -/
def upB (k n : Kep) : Bool := decide (n.m = k.m) && decide (k.e ≤ n.e) && decide (k.u ≤ n.u)
theorem any_snoc (f : Kep → Bool) {l : List Kep} {j : Nat} (h : j < l.length) : (l.take (j + 1)).any f = ((l.take j).any f || f l[j]) := by
  rw [List.take_succ_eq_append_getElem h, List.any_append]; simp
theorem any_up {l : List Kep} {k : Kep} (h : ∃ n ∈ l, Up k n) : l.any (upB k) = true := by
  obtain ⟨n, hn, h1, h2, h3, _⟩ := h
  rw [List.any_eq_true]
  exact ⟨n, hn, by simp [upB, h1, h2, h3]⟩
end Go.Proofs

namespace Go.Proofs
open Go Go.Eng
set_option maxRecDepth 100000
set_option maxHeartbeats 4000000
def pcells : List Ple → List AV
  | [] => []
  | p :: r => I p.k :: I p.m :: I p.h :: I p.e :: I p.u :: pcells r
theorem pcells_drop : ∀ (i : Nat) (l : List Ple), (pcells l).drop (i * 5) = pcells (l.drop i)
  | 0, l => by simp
  | i + 1, [] => by simp [pcells]
  | i + 1, k :: r => by
    rw [List.drop_succ_cons, ← pcells_drop i r, Nat.add_mul]
    simp only [pcells]
    rw [show i * 5 + 1 * 5 = i * 5 + 4 + 1 by omega, List.drop_succ_cons, show i * 5 + 4 = i * 5 + 3 + 1 by omega, List.drop_succ_cons, show i * 5 + 3 = i * 5 + 2 + 1 by omega, List.drop_succ_cons, List.drop_succ_cons, List.drop_succ_cons]
theorem pcells_at {l : List Ple} {i : Nat} (h : i < l.length) : List.drop ((i : Int).toNat * 5) (pcells l) = I l[i].k :: I l[i].m :: I l[i].h :: I l[i].e :: I l[i].u :: pcells (l.drop (i + 1)) := by
  rw [Int.toNat_natCast, pcells_drop, List.drop_eq_getElem_cons h]; rfl
def H5 (id : Int) (l : List Kep) (L : List Vote) : Heap := ⟨2, [(0, .cells (wav id l none)), (1, .map (vav L))]⟩
def I5 (id : Int) (ps : List Ple) (m : Nat) (fr : Fr) (H : Heap) : Prop := ∃ i : Nat, i ≤ ps.length ∧ m = ps.length - i ∧ ∃ l L, ValidP id l ∧ VotesOk L l ∧
  fr = [(2, .ptr 0 0), (4, .bool false), (5, .map 1), (38, .dslice (pcells ps) ps.length none), (39, I ps.length), (40, I i)] ∧ H = ⟨2, [(0, .cells (wav id l none)), (1, .map (vav L))]⟩
def I5b (id : Int) (ps : List Ple) (i : Nat) (l : List Kep) (L : List Vote) (p : Ple) (xl : List Kep) (g : List AV) (m : Nat) (fr : Fr) (H : Heap) : Prop := ∃ j : Nat, j ≤ l.length ∧ m = l.length - j ∧
  fr = [(2, .ptr 0 0), (4, .bool false), (5, .map 1), (7, .ptr 2 0), (8, .ptr 3 0), (9, .ptr 4 0), (38, .dslice (pcells ps) ps.length none), (39, I ps.length), (40, I i), (102, .dslice (kcells l) l.length none), (103, I l.length), (104, I j)] ∧
  H = ⟨5, [(0, .cells (wav id l none)), (1, .map (vav L)), (2, .cells p.av), (3, .cells (wav id xl none)), (4, .cells g)]⟩
def I5c (id : Int) (ps : List Ple) (i : Nat) (l : List Kep) (L : List Vote) (p : Ple) (xl : List Kep) (g : List AV) (j : Nat) (k : Kep) (m : Nat) (fr : Fr) (H : Heap) : Prop := ∃ n : Nat, n ≤ xl.length ∧ m = xl.length - n ∧ ∃ b, b = (xl.take n).any (upB k) ∧
  fr = [(2, .ptr 0 0), (4, .bool false), (5, .map 1), (7, .ptr 2 0), (8, .ptr 3 0), (9, .ptr 4 0), (38, .dslice (pcells ps) ps.length none), (39, I ps.length), (40, I i), (102, .dslice (kcells l) l.length none), (103, I l.length), (104, I j), (15, .ptr 5 0), (16, .bool b), (109, .dslice (kcells xl) xl.length none), (110, I xl.length), (111, I n)] ∧
  H = ⟨6, [(0, .cells (wav id l none)), (1, .map (vav L)), (2, .cells p.av), (3, .cells (wav id xl none)), (4, .cells g), (5, .cells (kav k))]⟩
theorem g9_noLoc {a b c d e f g h : Int} {t : Bool} : ∀ x ∈ [I a, I b, I c, I d, I e, I f, .bool t, I g, I h], noLoc x = true := by simp [noLoc]
theorem c5 (id : Int) (l0 : List Kep) (ps : List Ple) (hv0 : ValidP id l0) (hps : ps.length ≤ 30) : CallA Try.prog 5 [.agg (wav id l0 none), .dslice (pcells ps) ps.length none] Heap.nil fun v H' => v = .bool true ∧ H' = Heap.nil := by
  refine callA_of ok5 (Nat.le_of_ble_eq_true rfl) ?_
  have hl0 := hv0.len
  have h16 := c16 id l0 none (by omega)
  rw [valid_of hv0] at h16
  repeat' ((conv => whnf); first
      | refine Branch.ofT rfl ?_
      | refine Branch.ofF rfl ?_
      | refine Branch.ofF (decide_eq_false (by omega)) ?_
      | refine Branch.dec (fun h => ?_) (fun h => ?_)
      | refine Branch.negdec (fun h => ?_) (fun h => ?_)
      | refine Branch.neg (fun h => ?_) (fun h => ?_)
      | refine Branch.mk (fun h => ?_) (fun h => ?_)
      | (refine Side.mk ?_ ?_; · first | omega | decide)
      | (refine SideD.mk ?_ ?_; · first | omega | decide)
      | refine ⟨_, Nat.lt_succ_self _, To.refl (.inl ⟨rfl, ?_⟩)⟩
      | refine QCallA.of h16 rfl rfl ?_
      | refine CallA.pure h16 rfl rfl ?_
      | (refine Side.mk ?_ ?_; · (simp; done))
      | fail
      )
  all_goals (conv => whnf)
  refine ⟨I5 id ps, ps.length, To.gc [(0, true), (1, true)] [2, 4, 5, 38, 39, 40] rfl ⟨wav_noLoc id l0 none, trivial, trivial⟩ ⟨0, by omega, by omega, l0, [], hv0, by simp [VotesOk], rfl, rfl⟩, ?_⟩
  rintro m fr H ⟨i, hi, rfl, l, L, hv, hL, rfl, rfl⟩
  have hlen := hv.len
  (conv => whnf)
  refine Branch.dec (fun h => ?_) (fun h => ?_)
  · have h' : i < ps.length := by omega
    have hat := pcells_at h'
    generalize ps[i] = p at hat
    obtain ⟨pk, pm, ph, pe, pu⟩ := p
    have h17 := c17 id l none ⟨pk, pm, ph, pe, pu⟩ (kept_of hv)
    have hv' := valid_hear (cap := none) (p := ⟨pk, pm, ph, pe, pu⟩) hv
    rcases hear_facts (p := ⟨pk, pm, ph, pe, pu⟩) hv with ⟨e, he, hX⟩ | hG
    · rw [hX] at h17
      have h18 := c18 id l none none (by omega)
      repeat' ((conv => whnf); first
          | refine Branch.ofT rfl ?_
          | refine Branch.ofF rfl ?_
          | refine SideD.at (by omega) hat ?_
          | refine Branch.ofT (by simpa using he; done) ?_
          | refine Branch.ofF (by simp; done) ?_
          | refine Branch.dec (fun h => ?_) (fun h => ?_)
          | refine Branch.negdec (fun h => ?_) (fun h => ?_)
          | refine Branch.neg (fun h => ?_) (fun h => ?_)
          | refine Branch.mk (fun h => ?_) (fun h => ?_)
          | (refine Side.mk ?_ ?_; · first | omega | decide)
          | (refine SideD.mk ?_ ?_; · first | omega | decide)
          | refine ⟨_, Nat.lt_succ_self _, To.refl (.inl ⟨rfl, ?_⟩)⟩
          | refine CallA.pure h17 rfl rfl ?_
          | refine CallA.pure h18 rfl rfl ?_
          | (refine Side.mk ?_ ?_; · (simp; done))
          | fail
          )
      all_goals (conv => whnf)
      refine ⟨ps.length - (i + 1), by omega, To.gc [(0, true), (1, true)] [2, 4, 5, 38, 39, 40] rfl ⟨wav_noLoc id l none, trivial, trivial⟩ ⟨i + 1, by omega, rfl, l, L, hv, hL, rfl, rfl⟩⟩
    · generalize hearW id l none ⟨pk, pm, ph, pe, pu⟩ (rank l (Ple.m ⟨pk, pm, ph, pe, pu⟩)) = X at h17 hv' hG
      obtain ⟨x1, x2, x3, x4, keep, vote, again⟩ := hG
      obtain ⟨xl, xc, ⟨gw, ⟨gk, gm, gh, gp, gu⟩, ag, ge, gt⟩, xe⟩ := X
      simp only at x1 x2 x3 x4 keep vote hv'
      subst x1; subst x2
      have h17' := c17 id xl none ⟨pk, pm, ph, pe, pu⟩ (kept_of hv')
      have hlen' := hv'.len
      rw [show hearW id xl none ⟨pk, pm, ph, pe, pu⟩ (rank xl (Ple.m ⟨pk, pm, ph, pe, pu⟩)) = ⟨xl, none, ⟨gw, ⟨gk, gm, gh, gp, gu⟩, ag, ge, gt⟩, 0⟩ from again] at h17'
      have h18 := c18 id xl none none (by omega)
      have hL' := votes_up hL keep
      repeat' ((conv => whnf); first
          | refine Branch.ofT rfl ?_
          | refine Branch.ofF rfl ?_
          | refine SideD.at (by omega) hat ?_
          | refine Branch.ofF (decide_eq_false (by omega)) ?_
          | refine Branch.ofF (by simp <;> omega) ?_
          | refine Branch.dec (fun h => ?_) (fun h => ?_)
          | refine Branch.negdec (fun h => ?_) (fun h => ?_)
          | refine Branch.neg (fun h => ?_) (fun h => ?_)
          | refine Branch.mk (fun h => ?_) (fun h => ?_)
          | (refine Side.mk ?_ ?_; · first | omega | decide)
          | (refine SideD.mk ?_ ?_; · first | omega | decide)
          | refine ⟨_, Nat.lt_succ_self _, To.refl (.inl ⟨rfl, ?_⟩)⟩
          | refine CallA.pure h17 rfl rfl ?_
          | refine CallA.pure h17' rfl rfl ?_
          | refine CallA.pure h18 rfl rfl ?_
          | (refine Side.mk ?_ ?_; · (simp; done))
          | fail
          )
      all_goals (conv => whnf)
      clear again h17 h17' h16 h18
      refine ⟨I5b id ps i l L ⟨pk, pm, ph, pe, pu⟩ xl [I gw, I gk, I gm, I gh, I gp, I gu, .bool ag, I ge, I gt], l.length, To.gc [(0, true), (1, true), (2, true), (3, true), (4, true)] [2, 4, 5, 7, 8, 9, 38, 39, 40, 102, 103, 104] rfl ⟨wav_noLoc id l none, trivial, ple_noLoc _, wav_noLoc id xl none, g9_noLoc, trivial⟩ ⟨0, by omega, by omega, rfl, rfl⟩, ?_⟩
      rintro m fr H ⟨j, hj, rfl, rfl, rfl⟩
      (conv => whnf)
      refine Branch.dec (fun h2 => ?_) (fun h2 => ?_)
      · have hj' : j < l.length := by omega
        have hkat := kcells_at hj'
        have hany := any_up (keep l[j] (List.getElem_mem hj'))
        generalize l[j] = k at hkat hany
        obtain ⟨km, ke, kh, ku⟩ := k
        repeat' ((conv => whnf); first
            | refine Branch.ofT rfl ?_
            | refine Branch.ofF rfl ?_
            | refine SideD.at (by omega) hkat ?_
            | refine Branch.dec (fun h => ?_) (fun h => ?_)
            | refine Branch.negdec (fun h => ?_) (fun h => ?_)
            | refine Branch.neg (fun h => ?_) (fun h => ?_)
            | refine Branch.mk (fun h => ?_) (fun h => ?_)
            | (refine Side.mk ?_ ?_; · first | omega | decide)
            | (refine SideD.mk ?_ ?_; · first | omega | decide)
            | refine ⟨_, Nat.lt_succ_self _, To.refl (.inl ⟨rfl, ?_⟩)⟩
            | (refine Side.mk ?_ ?_; · (simp; done))
            | fail
            )
        all_goals (conv => whnf)
        refine ⟨I5c id ps i l L ⟨pk, pm, ph, pe, pu⟩ xl [I gw, I gk, I gm, I gh, I gp, I gu, .bool ag, I ge, I gt] j ⟨km, ke, kh, ku⟩, xl.length, To.gc [(0, true), (1, true), (2, true), (3, true), (4, true), (5, true)] [2, 4, 5, 7, 8, 9, 38, 39, 40, 102, 103, 104, 15, 16, 109, 110, 111] rfl ⟨wav_noLoc id l none, trivial, ple_noLoc _, wav_noLoc id xl none, g9_noLoc, kav_noLoc _, trivial⟩ ⟨0, by omega, by omega, false, rfl, rfl, rfl⟩, ?_⟩
        rintro m fr H ⟨n, hn, rfl, b, hb, rfl, rfl⟩
        (conv => whnf)
        refine Branch.dec (fun h3 => ?_) (fun h3 => ?_)
        · have hn' : n < xl.length := by omega
          have hnat := kcells_at hn'
          have hsn := any_snoc (upB ⟨km, ke, kh, ku⟩) hn'
          rw [← hb] at hsn
          generalize xl[n] = x at hnat hsn
          obtain ⟨xm, xE, xh, xu⟩ := x
          cases b
          · repeat' ((conv => whnf); first
                | refine Branch.ofT rfl ?_
                | refine Branch.ofF rfl ?_
                | refine SideD.at (by omega) hnat ?_
                | refine Branch.dec (fun h => ?_) (fun h => ?_)
                | refine Branch.negdec (fun h => ?_) (fun h => ?_)
                | refine Branch.neg (fun h => ?_) (fun h => ?_)
                | refine Branch.mk (fun h => ?_) (fun h => ?_)
                | (refine Side.mk ?_ ?_; · first | omega | decide)
                | (refine SideD.mk ?_ ?_; · first | omega | decide)
                | refine ⟨_, Nat.lt_succ_self _, To.refl (.inl ⟨rfl, ?_⟩)⟩
                | (refine Side.mk ?_ ?_; · (simp; done))
                | fail
                )
            all_goals (conv => whnf)
            all_goals (refine ⟨xl.length - (n + 1), by omega, To.gc [(0, true), (1, true), (2, true), (3, true), (4, true), (5, true)] [2, 4, 5, 7, 8, 9, 38, 39, 40, 102, 103, 104, 15, 16, 109, 110, 111] rfl ⟨wav_noLoc id l none, trivial, ple_noLoc _, wav_noLoc id xl none, g9_noLoc, kav_noLoc _, trivial⟩ ⟨n + 1, by omega, rfl, _, ?_, rfl, rfl⟩⟩; rw [hsn]; simp_all [upB] <;> omega)
          · repeat' ((conv => whnf); first
                | refine Branch.ofT rfl ?_
                | refine Branch.ofF rfl ?_
                | refine SideD.at (by omega) hnat ?_
                | refine Branch.dec (fun h => ?_) (fun h => ?_)
                | refine Branch.negdec (fun h => ?_) (fun h => ?_)
                | refine Branch.neg (fun h => ?_) (fun h => ?_)
                | refine Branch.mk (fun h => ?_) (fun h => ?_)
                | (refine Side.mk ?_ ?_; · first | omega | decide)
                | (refine SideD.mk ?_ ?_; · first | omega | decide)
                | refine ⟨_, Nat.lt_succ_self _, To.refl (.inl ⟨rfl, ?_⟩)⟩
                | (refine Side.mk ?_ ?_; · (simp; done))
                | fail
                )
            all_goals (conv => whnf)
            all_goals (refine ⟨xl.length - (n + 1), by omega, To.gc [(0, true), (1, true), (2, true), (3, true), (4, true), (5, true)] [2, 4, 5, 7, 8, 9, 38, 39, 40, 102, 103, 104, 15, 16, 109, 110, 111] rfl ⟨wav_noLoc id l none, trivial, ple_noLoc _, wav_noLoc id xl none, g9_noLoc, kav_noLoc _, trivial⟩ ⟨n + 1, by omega, rfl, _, ?_, rfl, rfl⟩⟩; rw [hsn]; simp)
        · have : xl.take n = xl := List.take_of_length_le (by omega)
          rw [this, hany] at hb
          subst hb
          repeat' ((conv => whnf); first
              | refine Branch.ofT rfl ?_
              | refine Branch.ofF rfl ?_
              | refine Branch.dec (fun h => ?_) (fun h => ?_)
              | refine Branch.negdec (fun h => ?_) (fun h => ?_)
              | refine Branch.neg (fun h => ?_) (fun h => ?_)
              | refine Branch.mk (fun h => ?_) (fun h => ?_)
              | (refine Side.mk ?_ ?_; · first | omega | decide)
              | (refine SideD.mk ?_ ?_; · first | omega | decide)
              | refine ⟨_, Nat.lt_succ_self _, To.refl (.inl ⟨rfl, ?_⟩)⟩
              | (refine Side.mk ?_ ?_; · (simp; done))
              | fail
              )
          all_goals (conv => whnf)
          refine ⟨l.length - (j + 1), by omega, To.gc [(0, true), (1, true), (2, true), (3, true), (4, true)] [2, 4, 5, 7, 8, 9, 38, 39, 40, 102, 103, 104] rfl ⟨wav_noLoc id l none, trivial, ple_noLoc _, wav_noLoc id xl none, g9_noLoc, trivial⟩ ⟨j + 1, by omega, rfl, rfl, rfl⟩⟩
      · have done1 : ∀ L2, VotesOk L2 xl → I5 id ps (ps.length - (i + 1)) [(2, .ptr 0 0), (4, .bool false), (5, .map 1), (38, .dslice (pcells ps) ps.length none), (39, I ps.length), (40, I ((i : Int) + 1))] ⟨2, [(0, .cells (wav id xl none)), (1, .map (vav L2))]⟩ :=
          fun L2 h => ⟨i + 1, by omega, rfl, xl, L2, hv', h, rfl, rfl⟩
        cases ag with
        | false =>
          repeat' ((conv => whnf); first
              | refine Branch.ofT rfl ?_
              | refine Branch.ofF rfl ?_
              | refine Branch.dec (fun h => ?_) (fun h => ?_)
              | refine Branch.negdec (fun h => ?_) (fun h => ?_)
              | refine Branch.neg (fun h => ?_) (fun h => ?_)
              | refine Branch.mk (fun h => ?_) (fun h => ?_)
              | (refine Side.mk ?_ ?_; · first | omega | decide)
              | (refine SideD.mk ?_ ?_; · first | omega | decide)
              | refine ⟨_, Nat.lt_succ_self _, To.refl (.inl ⟨rfl, ?_⟩)⟩
              | (refine Side.mk ?_ ?_; · (simp; done))
              | fail
              )
          all_goals (conv => whnf)
          refine ⟨ps.length - (i + 1), by omega, To.gc [(0, true), (1, true)] [2, 4, 5, 38, 39, 40] rfl ⟨wav_noLoc id xl none, trivial, trivial⟩ (done1 L hL')⟩
        | true =>
          have hvote := vote rfl
          obtain ⟨L2, hput, hL2⟩ := vput pm pe ph L
          have hok2 := votes_put hL' hvote hL2
          rcases vfind pm pe L with hget | ⟨v, hvL, v1, v2, hget⟩
          · repeat' ((conv => whnf); first
                | refine Branch.ofT rfl ?_
                | refine Branch.ofF rfl ?_
                | refine Branch.dec (fun h => ?_) (fun h => ?_)
                | refine Branch.negdec (fun h => ?_) (fun h => ?_)
                | refine Branch.neg (fun h => ?_) (fun h => ?_)
                | refine Branch.mk (fun h => ?_) (fun h => ?_)
                | (refine Side.mk ?_ ?_; · first | omega | decide)
                | (refine SideD.mk ?_ ?_; · first | omega | decide)
                | refine ⟨_, Nat.lt_succ_self _, To.refl (.inl ⟨rfl, ?_⟩)⟩
                | refine ⟨_, hget, ?_⟩
                | refine ⟨_, hput, ?_⟩
                | (refine Side.mk ?_ ?_; · (simp; done))
                | fail
                )
            all_goals (conv => whnf)
            refine ⟨ps.length - (i + 1), by omega, To.gc [(0, true), (1, true)] [2, 4, 5, 38, 39, 40] rfl ⟨wav_noLoc id xl none, trivial, trivial⟩ (done1 L2 hok2)⟩
          · rw [vote_host hv' hL' hvote hvL v1 v2] at hget
            repeat' ((conv => whnf); first
                | refine Branch.ofT rfl ?_
                | refine Branch.ofF rfl ?_
                | refine Branch.ofF (by simp; done) ?_
                | refine Branch.dec (fun h => ?_) (fun h => ?_)
                | refine Branch.negdec (fun h => ?_) (fun h => ?_)
                | refine Branch.neg (fun h => ?_) (fun h => ?_)
                | refine Branch.mk (fun h => ?_) (fun h => ?_)
                | (refine Side.mk ?_ ?_; · first | omega | decide)
                | (refine SideD.mk ?_ ?_; · first | omega | decide)
                | refine ⟨_, Nat.lt_succ_self _, To.refl (.inl ⟨rfl, ?_⟩)⟩
                | refine ⟨_, hget, ?_⟩
                | refine ⟨_, hput, ?_⟩
                | (refine Side.mk ?_ ?_; · (simp; done))
                | fail
                )
            all_goals (conv => whnf)
            refine ⟨ps.length - (i + 1), by omega, To.gc [(0, true), (1, true)] [2, 4, 5, 38, 39, 40] rfl ⟨wav_noLoc id xl none, trivial, trivial⟩ (done1 L2 hok2)⟩
  · repeat' ((conv => whnf); first
        | refine Branch.ofT rfl ?_
        | refine Branch.ofF rfl ?_
        | refine Branch.dec (fun h => ?_) (fun h => ?_)
        | refine Branch.negdec (fun h => ?_) (fun h => ?_)
        | refine Branch.neg (fun h => ?_) (fun h => ?_)
        | refine Branch.mk (fun h => ?_) (fun h => ?_)
        | (refine Side.mk ?_ ?_; · first | omega | decide)
        | (refine SideD.mk ?_ ?_; · first | omega | decide)
        | refine ⟨_, Nat.lt_succ_self _, To.refl (.inl ⟨rfl, ?_⟩)⟩
        | refine CallA.pure san rfl rfl ?_
        | (refine Side.mk ?_ ?_; · (simp; done))
        | fail
        )
    all_goals (conv => whnf)
    exact RetA.data rfl ⟨rfl, rfl⟩
theorem c5all (id : Int) (l : List Kep) (ps : List Ple) (hb : l.length ≤ 9223372036854775807) (hb2 : ps.length ≤ 9223372036854775807) : CallA Try.prog 5 [.agg (wav id l none), .dslice (pcells ps) ps.length none] Heap.nil fun v H' => v = .bool true ∧ H' = Heap.nil := by
  by_cases h70 : (70 : Int) < l.length
  · refine callA_of ok5 (Nat.le_of_ble_eq_true rfl) ?_
    repeat' ((conv => whnf); first
        | refine Branch.ofT rfl ?_
        | refine Branch.ofF rfl ?_
        | refine Branch.ofT (decide_eq_true (by omega)) ?_
        | refine Branch.dec (fun h => ?_) (fun h => ?_)
        | refine Branch.negdec (fun h => ?_) (fun h => ?_)
        | refine Branch.neg (fun h => ?_) (fun h => ?_)
        | refine Branch.mk (fun h => ?_) (fun h => ?_)
        | (refine Side.mk ?_ ?_; · first | omega | decide)
        | (refine SideD.mk ?_ ?_; · first | omega | decide)
        | refine ⟨_, Nat.lt_succ_self _, To.refl (.inl ⟨rfl, ?_⟩)⟩
        | refine CallA.pure san rfl rfl ?_
        | (refine Side.mk ?_ ?_; · (simp; done))
        | fail
        )
    all_goals (conv => whnf)
    all_goals exact RetA.data rfl ⟨rfl, rfl⟩
  · have h16 := c16 id l none (by omega)
    cases hval : validB id l with
    | false =>
      rw [hval] at h16
      refine callA_of ok5 (Nat.le_of_ble_eq_true rfl) ?_
      repeat' ((conv => whnf); first
          | refine Branch.ofT rfl ?_
          | refine Branch.ofF rfl ?_
          | refine Branch.ofF (decide_eq_false (by omega)) ?_
          | refine Branch.dec (fun h => ?_) (fun h => ?_)
          | refine Branch.negdec (fun h => ?_) (fun h => ?_)
          | refine Branch.neg (fun h => ?_) (fun h => ?_)
          | refine Branch.mk (fun h => ?_) (fun h => ?_)
          | (refine Side.mk ?_ ?_; · first | omega | decide)
          | (refine SideD.mk ?_ ?_; · first | omega | decide)
          | refine ⟨_, Nat.lt_succ_self _, To.refl (.inl ⟨rfl, ?_⟩)⟩
          | refine QCallA.of h16 rfl rfl ?_
          | refine CallA.pure h16 rfl rfl ?_
          | refine CallA.pure san rfl rfl ?_
          | (refine Side.mk ?_ ?_; · (simp; done))
          | fail
          )
      all_goals (conv => whnf)
      all_goals exact RetA.data rfl ⟨rfl, rfl⟩
    | true =>
      by_cases h30 : ps.length ≤ 30
      · exact c5 id l ps (validP_of hval) h30
      · rw [hval] at h16
        refine callA_of ok5 (Nat.le_of_ble_eq_true rfl) ?_
        repeat' ((conv => whnf); first
            | refine Branch.ofT rfl ?_
            | refine Branch.ofF rfl ?_
            | refine Branch.ofF (decide_eq_false (by omega)) ?_
            | refine Branch.ofT (decide_eq_true (by omega)) ?_
            | refine Branch.dec (fun h => ?_) (fun h => ?_)
            | refine Branch.negdec (fun h => ?_) (fun h => ?_)
            | refine Branch.neg (fun h => ?_) (fun h => ?_)
            | refine Branch.mk (fun h => ?_) (fun h => ?_)
            | (refine Side.mk ?_ ?_; · first | omega | decide)
            | (refine SideD.mk ?_ ?_; · first | omega | decide)
            | refine ⟨_, Nat.lt_succ_self _, To.refl (.inl ⟨rfl, ?_⟩)⟩
            | refine QCallA.of h16 rfl rfl ?_
            | refine CallA.pure h16 rfl rfl ?_
            | refine CallA.pure san rfl rfl ?_
            | (refine Side.mk ?_ ?_; · (simp; done))
            | fail
            )
        all_goals (conv => whnf)
        all_goals exact RetA.data rfl ⟨rfl, rfl⟩
end Go.Proofs

