/- Part of a proof about the given program: lemmas that the other parts use. -/
import Derived.Test.YtnmgifoihmjjmaaPart2
import Derived.OpenShut
import Derived.JoinedOf
import Derived.Handed
import Derived.Test.YtnmgifoihmjjmaaProg
import Derived.KernelRfl

set_option linter.all false
set_option linter.unusedSimpArgs false
set_option linter.unusedVariables false
namespace Go.Eng
open Go

/-! ### Loops that are walked out -/
section
variable (n : Nat) (body : (XA → Fr → Heap → Prop) → Fr → Heap → Prop) (Q : XA → Fr → Heap → Prop)
def lpost (m : Nat) (J : Nat → Fr → Heap → Prop) : XA → Fr → Heap → Prop := fun x fr' H' => match x with
  | .normal => ∃ m', m' < m ∧ To n fr' H' (J m')
  | x => Q x fr' H'
def LoopI : Nat → Nat → Fr → Heap → Prop
  | 0, _, _, _ => False
  | k + 1, m, fr, H => (m = k ∧ body (lpost n Q k (LoopI k)) fr H) ∨ LoopI k m fr H
theorem LoopI.lt : ∀ {k m : Nat} {fr : Fr} {H : Heap}, LoopI n body Q k m fr H → m < k
  | 0, _, _, _, h => h.elim
  | k + 1, m, _, _, h => by
    rcases h with ⟨rfl, _⟩ | h
    · exact Nat.lt_succ_self _
    · exact Nat.lt_succ_of_lt (LoopI.lt h)
theorem LoopI.eq : ∀ {k m m' : Nat}, m' < m → m ≤ k → LoopI n body Q k m' = LoopI n body Q m m'
  | 0, m, m', h1, h2 => by omega
  | k + 1, m, m', h1, h2 => by
    by_cases e : m = k + 1
    · rw [e]
    · rw [← LoopI.eq (k := k) h1 (by omega)]
      funext fr H
      refine propext ⟨fun h => ?_, fun h => .inr h⟩
      rcases h with ⟨e, _⟩ | h
      · omega
      · exact h
theorem LoopI.step : ∀ {k m : Nat} {fr : Fr} {H : Heap}, LoopI n body Q k m fr H → body (lpost n Q m (LoopI n body Q m)) fr H
  | 0, _, _, _, h => h.elim
  | k + 1, m, _, _, h => by
    rcases h with ⟨rfl, h⟩ | h
    · exact h
    · exact LoopI.step h
theorem LoopA.unroll (k : Nat) {fr : Fr} {H : Heap} (h : body (lpost n Q k (LoopI n body Q k)) fr H) : LoopA n body Q fr H := by
  refine ⟨LoopI n body Q (k + 1), k, To.refl (.inl ⟨rfl, h⟩), fun m fr H h => ?_⟩
  have hm := LoopI.lt n body Q h
  have := LoopI.step n body Q h
  have e : lpost n Q m (LoopI n body Q m) = lpost n Q m (LoopI n body Q (k + 1)) := by
    funext x fr' H'
    cases x with
    | normal =>
      refine propext ⟨fun ⟨m', h1, h2⟩ => ⟨m', h1, by rw [LoopI.eq n body Q h1 (by omega)]; exact h2⟩, fun ⟨m', h1, h2⟩ => ⟨m', h1, by rw [← LoopI.eq n body Q h1 (show m ≤ k + 1 by omega)]; exact h2⟩⟩
    | _ => rfl
  rw [e] at this
  exact this
end
theorem Branch.dec {p : Prop} [Decidable p] {A B : Prop} (yes : p → A) (no : ¬ p → B) : Branch (decide p) A B :=
  ⟨fun h => yes (of_decide_eq_true h), fun h => no (of_decide_eq_false h)⟩

/-! ### An owned block becomes data -/
mutual
def pubV (k : Nat) (ds : List AV) : AV → AV
  | .ptr j o => bif Nat.beq j k then .dptr (ds.drop o) else .ptr j o
  | .slice j o l c e => bif Nat.beq j k then .dslice ((ds.drop o).take (l * e)) l c else .slice j o l c e
  | .func g cs => .func g (pubL k ds cs)
  | .agg cs => .agg (pubL k ds cs)
  | .tuple cs => .tuple (pubL k ds cs)
  | c => c
def pubL (k : Nat) (ds : List AV) : List AV → List AV
  | [] => []
  | c :: cs => pubV k ds c :: pubL k ds cs
end
def pubB (k : Nat) (ds : List AV) : AB → AB
  | .cells cs => .cells (pubL k ds cs)
  | b => b
def pubBs (k : Nat) (ds : List AV) : List (Nat × AB) → List (Nat × AB)
  | [] => []
  | (j, b) :: r => (j, pubB k ds b) :: pubBs k ds r
def pubH (k : Nat) (ds : List AV) (H : Heap) : Heap := Heap.set ⟨H.nx, pubBs k ds H.bs⟩ k .dead
def pubF (k : Nat) (ds : List AV) (fr : Fr) : List Nat → Fr
  | [] => []
  | t :: r => (t, pubV k ds (look fr t)) :: pubF k ds fr r
theorem pubBs_get {k : Nat} {ds : List AV} (j : Nat) : ∀ bs : List (Nat × AB), bget (pubBs k ds bs) j = pubB k ds (bget bs j)
  | [] => rfl
  | (i, b) :: r => by
    simp only [pubBs, bget]
    cases Nat.beq i j with
    | true => rfl
    | false => exact pubBs_get j r
theorem pubH_get {k : Nat} {ds : List AV} (H : Heap) (j : Nat) : (pubH k ds H).get j = if k = j then .dead else pubB k ds (H.get j) := by
  simp only [pubH, Heap.get_set]
  split
  · rfl
  · exact pubBs_get j H.bs

section
variable {M M' : Mem} {μ : Pos} {k b sz : Nat} {ds : List AV}
mutual
theorem relV_pub (hM : Mem.le M M') (hk : μ k = some (b, sz)) (hd : ∀ o, relM M' (ds.drop o) b o) : ∀ (c : AV) {v : Value}, relV M c μ v → relV M' (pubV k ds c) μ v
  | .any, _, _ => by simp only [pubV, relV]
  | .bool b, _, h => by simpa only [pubV, relV] using h
  | .int k n, _, h => by simpa only [pubV, relV] using h
  | .str s, _, h => by simpa only [pubV, relV] using h
  | .nilp, _, h => by simpa only [pubV, relV] using h
  | .nils, _, h => by simpa only [pubV, relV] using h
  | .nilm, _, h => by simpa only [pubV, relV] using h
  | .nilf, _, h => by simpa only [pubV, relV] using h
  | .map j, _, h => by simpa only [pubV, relV] using h
  | .dptr cs, _, h => by simp only [pubV]; exact relV_mono hM _ (Pos.le_refl _) h
  | .dslice cs l c, _, h => by simp only [pubV]; exact relV_mono hM _ (Pos.le_refl _) h
  | .ptr j o, v, h => by
    simp only [pubV]
    by_cases hj : j = k
    · subst hj
      simp only [Nat.beq_refl, cond_true, relV] at h ⊢
      obtain ⟨b', s', h1, h2⟩ := h
      rw [hk] at h1; cases h1
      exact ⟨b, o, h2, hd o⟩
    · rw [beq_false hj]; simp only [cond_false, relV] at h ⊢; exact h
  | .slice j o l c e, v, h => by
    simp only [pubV]
    by_cases hj : j = k
    · subst hj
      simp only [Nat.beq_refl, cond_true, relV] at h ⊢
      obtain ⟨b', s', cc, h1, h2, h3, h4, h5⟩ := h
      rw [hk] at h1; cases h1
      exact .inl ⟨b, o, cc, h2, h3, h5, relM_take _ (hd o)⟩
    · rw [beq_false hj]; simp only [cond_false, relV] at h ⊢; exact h
  | .func g cs, _, h => by simp only [pubV, relV] at *; obtain ⟨vs, h1, h2⟩ := h; exact ⟨vs, h1, relL_pub hM hk hd cs h2⟩
  | .agg cs, _, h => by simp only [pubV, relV] at *; obtain ⟨vs, h1, h2⟩ := h; exact ⟨vs, h1, relL_pub hM hk hd cs h2⟩
  | .tuple cs, _, h => by simp only [pubV, relV] at *; obtain ⟨vs, h1, h2⟩ := h; exact ⟨vs, h1, relL_pub hM hk hd cs h2⟩
theorem relL_pub (hM : Mem.le M M') (hk : μ k = some (b, sz)) (hd : ∀ o, relM M' (ds.drop o) b o) : ∀ (cs : List AV) {vs : List Value}, relL M cs μ vs → relL M' (pubL k ds cs) μ vs
  | [], _, h => by simpa only [pubL, relL] using h
  | c :: cs, _, h => by
    simp only [pubL, relL] at *; obtain ⟨v, r, h1, h2, h3⟩ := h
    exact ⟨v, r, h1, relV_pub hM hk hd c h2, relL_pub hM hk hd cs h3⟩
end
theorem relP_pub (hM : Mem.le M M') (hk : μ k = some (b, sz)) (hd : ∀ o, relM M' (ds.drop o) b o) : ∀ (cs : List AV) {vs : List Value}, relP M μ cs vs → relP M' μ (pubL k ds cs) vs
  | [], _, _ => by simp only [pubL]; trivial
  | c :: cs, _, h => by
    obtain ⟨v, r, h1, h2, h3⟩ := h
    simp only [pubL]
    exact ⟨v, r, h1, relV_pub hM hk hd c h2, relP_pub hM hk hd cs h3⟩
end

theorem Rel.pub {M : Mem} {μ : Pos} {H : Heap} {w : World} (R : Rel M μ H w) (k : Nat) {ds : List AV} (hk : H.get k = .cells ds) (hdata : ∀ c ∈ ds, noLoc c = true) :
    ∃ M', Rel M' μ (pubH k ds H) w ∧ (∀ c v, relV M c μ v → relV M' (pubV k ds c) μ v) ∧ ∀ n, Grow n M μ H w M' μ (pubH k ds H) w := by
  obtain ⟨b, sz, c, el, fz, h1, h2, h3, h4, h5⟩ := R.cells k ds hk
  let M' : Mem := fun b' o => if b' = b then c[o]? else M b' o
  have hne : H.get k ≠ .dead := by rw [hk]; simp
  have hM : Mem.le M M' := fun b' o v hv => by
    simp only [M']
    split
    · rename_i e; rw [e, R.apart k b sz hne h1 o] at hv; cases hv
    · exact hv
  have h6 : relP M Pos.none ds c.toList := relP_data ds hdata h5
  have hd : ∀ o, relM M' (ds.drop o) b o := fun o => relM_of_get fun i d hi => by
    rw [List.getElem?_drop] at hi
    obtain ⟨v, hv, hr⟩ := relP_get h6 hi
    exact ⟨v, by simp only [M', if_true]; simpa using hv, relV_mono hM _ (Pos.le_refl _) hr⟩
  have alive : ∀ j, (pubH k ds H).get j ≠ .dead → H.get j ≠ .dead ∧ j ≠ k := by
    intro j hj
    rw [pubH_get] at hj
    by_cases e : k = j
    · rw [if_pos e] at hj; exact absurd rfl hj
    · rw [if_neg e] at hj; exact ⟨fun h => hj (by rw [h]; rfl), Ne.symm e⟩
  have own : ∀ x, Own μ (pubH k ds H) x → Own μ H x := fun x ⟨j, s, hj, hx⟩ => ⟨j, s, (alive j hj).1, hx⟩
  refine ⟨M', ⟨R.dom, fun j hj => ?_, fun j cs hj => ?_, fun j es hj => ?_, fun i j b s t hi hj hx hy => R.inj i j b s t (alive i hi).1 (alive j hj).1 hx hy, fun b' o v hv => ?_, fun j b' s hj hx o => ?_⟩, fun c v h => relV_pub hM h1 hd c h,
    fun n => ⟨hM, fun _ _ => rfl, Keep.refl _ _, fun x hx => .inl (own x hx), fun b' o v hv => ?_⟩⟩
  · rw [pubH_get]
    split
    · rfl
    · rw [R.top j hj]; rfl
  · rw [pubH_get] at hj
    split at hj
    · cases hj
    · cases hg : H.get j with
      | dead => rw [hg] at hj; simp [pubB] at hj
      | map es => rw [hg] at hj; simp [pubB] at hj
      | cells xs =>
        rw [hg] at hj; simp only [pubB, AB.cells.injEq] at hj; subst hj
        obtain ⟨b2, sz2, c2, el2, fz2, g1, g2, g3, g4, g5⟩ := R.cells j xs hg
        exact ⟨b2, sz2, c2, el2, fz2, g1, g2, g3, g4, relP_pub hM h1 hd xs g5⟩
  · rw [pubH_get] at hj
    split at hj
    · cases hj
    · cases hg : H.get j with
      | dead => rw [hg] at hj; simp [pubB] at hj
      | cells xs => rw [hg] at hj; simp [pubB] at hj
      | map xs =>
        rw [hg] at hj; simp only [pubB, AB.map.injEq] at hj; subst hj
        obtain ⟨b2, sz2, ents, clock, g1, g2, g3, g4⟩ := R.maps j xs hg
        refine ⟨b2, sz2, ents, clock, g1, g2, ?_, g4⟩
        have : ∀ {es : List (AV × AV)} {ents : List MapEntry}, relE M es ents → relE M' es ents := by
          intro es
          induction es with
          | nil => intro ents h; exact h
          | cons x r ih => intro ents h; obtain ⟨e, t, h1, h2, h3, h4⟩ := h; exact ⟨e, t, h1, relV_mono hM _ (Pos.le_refl _) h2, relV_mono hM _ (Pos.le_refl _) h3, ih h4⟩
        exact this g3
  · simp only [M'] at hv
    split at hv
    · rename_i e; subst e
      simp only [World.cell?, h2]; simpa using hv
    · exact R.imm b' o v hv
  · have hj' := alive j hj
    have hne' : b' ≠ b := fun e => by subst e; exact hj'.2 (R.inj j k b' s sz hj'.1 hne hx h1)
    simp only [M']; rw [if_neg hne']; exact R.apart j b' s hj'.1 hx o
  · simp only [M'] at hv
    split at hv
    · rename_i e; exact .inr (.inl ⟨k, sz, hne, by rw [e]; exact h1⟩)
    · exact .inl hv

theorem Into.pub {n : Nat} {fr : Fr} {H : Heap} (k : Nat) (slots : List Nat) {ds : List AV} (hk : H.get k = .cells ds) (hdata : ∀ c ∈ ds, noLoc c = true) : Into n fr H (pubF k ds fr slots) (pubH k ds H) := by
  intro N M μ w tmps R F hn
  obtain ⟨M', R', hV, G⟩ := R.pub k hk hdata
  refine ⟨M', μ, R', ⟨F.size, fun t => ?_⟩, hn, G n⟩
  have key : ∀ (sl : List Nat), relV M' (look (pubF k ds fr sl) t) μ (tmps.getD t undef) := by
    intro sl
    induction sl with
    | nil => simp [pubF, look, relV]
    | cons q r ih =>
      simp only [pubF, look]
      by_cases hq : q = t
      · subst hq; simpa using hV _ _ (F.slot q)
      · rw [beq_false hq]; exact ih
  exact key slots

theorem Into.trans {n : Nat} {fr fr' fr'' : Fr} {H H' H'' : Heap} (h : Into n fr H fr' H') (k : Into n fr' H' fr'' H'') : Into n fr H fr'' H'' := by
  intro N M μ w tmps R F hn
  obtain ⟨M1, μ1, R1, F1, n1, G1⟩ := h N M μ w tmps R F hn
  obtain ⟨M2, μ2, R2, F2, n2, G2⟩ := k N M1 μ1 w tmps R1 F1 n1
  exact ⟨M2, μ2, R2, F2, n2, G1.trans G2⟩
theorem RetA.pub {n : Nat} {K : AV → Heap → Prop} {v : AV} {H : Heap} (k : Nat) {ds : List AV} (hk : H.get k = .cells ds) (hdata : ∀ c ∈ ds, noLoc c = true) (h : RetA n K (pubV k ds v) (pubH k ds H)) : RetA n K v H := by
  obtain ⟨v', H', h1, h2⟩ := h
  exact ⟨v', H', (Into.pub k [0] hk hdata).trans h1, h2⟩
theorem To.pub {n : Nat} {J : Fr → Heap → Prop} {fr : Fr} {H : Heap} (k : Nat) (slots : List Nat) {ds : List AV} (hk : H.get k = .cells ds) (hdata : ∀ c ∈ ds, noLoc c = true) (h : To n (pubF k ds fr slots) (pubH k ds H) J) : To n fr H J := by
  obtain ⟨v', H', h1, h2⟩ := h
  exact ⟨v', H', (Into.pub k slots hk hdata).trans h1, h2⟩

end Go.Eng

namespace Go.Eng
open Go

/-! ### Blocks that are lent to a call -/
def subP (keep : List (Nat × Bool)) (μ : Pos) : Pos := fun j => (keep[j]?).bind fun x => μ x.1
theorem distinct_keep {keep : List (Nat × Bool)} (h : distinct keep = true) (i j k : Nat) (d e : Bool) : keep[i]? = some (k, d) → keep[j]? = some (k, e) → i = j := distinct_spec h i j k d e

section
variable {M : Mem} {μ : Pos} {H : Heap} {w : World} {keep : List (Nat × Bool)}
theorem subP_to {j k : Nat} {d : Bool} (h : keep[j]? = some (k, d)) {x : Nat × Nat} (hx : μ k = some x) : subP keep μ j = some x := by simp only [subP, h, Option.bind_some, hx]
theorem subP_from {j k : Nat} {d : Bool} (h : keep[j]? = some (k, d)) {x : Nat × Nat} (hx : subP keep μ j = some x) : μ k = some x := by simpa only [subP, h, Option.bind_some] using hx
theorem sub_pos {k j : Nat} {x : Nat × Nat} (h : posOf keep k = some j) (hx : μ k = some x) : subP keep μ j = some x := by
  obtain ⟨m, d, h1, h2⟩ := posOf_go keep k 0 j h
  exact subP_to (d := d) (by rw [h1, Nat.zero_add]; exact h2) hx
theorem sub_alive {j : Nat} (hj : (gcH keep H).get j ≠ .dead) : ∃ (k : Nat) (d : Bool), keep[j]? = some (k, d) ∧ H.get k ≠ .dead := by
  rw [gcH_get] at hj
  cases hk : keep[j]? with
  | none => rw [hk] at hj; exact absurd rfl hj
  | some x =>
    obtain ⟨k, d⟩ := x
    refine ⟨k, d, rfl, fun h => hj ?_⟩
    simp only [hk, h, renB]; cases d <;> rfl
theorem sub_own {b : Nat} (h : Own (subP keep μ) (gcH keep H) b) : ∃ (j k : Nat) (d : Bool) (s : Nat), keep[j]? = some (k, d) ∧ H.get k ≠ .dead ∧ μ k = some (b, s) := by
  obtain ⟨j, s, hj, hx⟩ := h
  obtain ⟨k, d, h1, h2⟩ := sub_alive hj
  exact ⟨j, k, d, s, h1, h2, subP_from h1 hx⟩
theorem Rel.sub (R : Rel M μ H w) (hdis : distinct keep = true) (hdata : allData H keep) : Rel M (subP keep μ) (gcH keep H) w := by
  have hf : ∀ k j x, posOf keep k = some j → μ k = some x → subP keep μ j = some x := fun k j x => sub_pos
  refine ⟨fun j hj => ?_, fun j hj => ?_, fun j cs hj => ?_, fun j es hj => ?_, fun i j b s t hi hj hx hy => ?_, R.imm, fun j b s hj hx o => ?_⟩
  · simp only [subP, List.getElem?_eq_none (show keep.length ≤ j from hj), Option.bind_none]
  · rw [gcH_get, List.getElem?_eq_none (by simpa [gcH] using hj)]
  · rw [gcH_get] at hj
    cases hk : keep[j]? with
    | none => rw [hk] at hj; cases hj
    | some x =>
      obtain ⟨k, d⟩ := x
      rw [hk] at hj
      cases d with
      | true =>
        simp only [cond_true] at hj
        obtain ⟨b, sz, c, el, fz, h1, h2, h3, h4, h5⟩ := R.cells k cs hj
        refine ⟨b, sz, c, el, fz, subP_to hk h1, h2, h3, h4, relP_data cs ?_ h5⟩
        have := allData_spec hdata k (List.mem_of_getElem? hk)
        rw [hj] at this; exact this
      | false =>
        simp only [cond_false] at hj
        cases hg : H.get k with
        | cells ds =>
          rw [hg] at hj; simp only [renB, AB.cells.injEq] at hj; subst hj
          obtain ⟨b, sz, c, el, fz, h1, h2, h3, h4, h5⟩ := R.cells k ds hg
          exact ⟨b, sz, c, el, fz, subP_to hk h1, h2, h3, h4, relP_ren hf ds h5⟩
        | dead => rw [hg] at hj; simp [renB] at hj
        | map es => rw [hg] at hj; simp [renB] at hj
  · rw [gcH_get] at hj
    cases hk : keep[j]? with
    | none => rw [hk] at hj; cases hj
    | some x =>
      obtain ⟨k, d⟩ := x
      rw [hk] at hj
      have hg : H.get k = .map es := by
        cases d with
        | true => simpa using hj
        | false =>
          have hj : renB (posOf keep) (H.get k) = .map es := hj
          cases hg : H.get k with
          | dead => rw [hg] at hj; cases hj
          | cells cs => rw [hg] at hj; cases hj
          | map es' => rw [hg] at hj; exact hj
      obtain ⟨b, sz, ents, clock, h1, h2⟩ := R.maps k es hg
      exact ⟨b, sz, ents, clock, subP_to hk h1, h2⟩
  · obtain ⟨k, d, h1, h2⟩ := sub_alive hi
    obtain ⟨k', d', h3, h4⟩ := sub_alive hj
    have := R.inj k k' b s t h2 h4 (subP_from h1 hx) (subP_from h3 hy)
    subst this
    exact distinct_spec hdis i j k d d' h1 h3
  · obtain ⟨k, d, h1, h2⟩ := sub_alive hj
    exact R.apart k b s h2 (subP_from h1 hx) o
end

/-- Where a place of the callee is for the caller. -/
def backK (keep : List (Nat × Bool)) (nx j : Nat) : Nat := match keep[j]? with
  | some (k, _) => k
  | none => nx + (j - keep.length)
def backB (keep : List (Nat × Bool)) (nx : Nat) (H' : Heap) (j : Nat) : AB := match keep[j]? with
  | some (_, true) => H'.get j
  | _ => renB (fun j => some (backK keep nx j)) (H'.get j)
def lendBs (keep : List (Nat × Bool)) (nx : Nat) (H' : Heap) : Nat → List (Nat × AB) → List (Nat × AB)
  | 0, bs => bs
  | j + 1, bs => (backK keep nx j, backB keep nx H' j) :: lendBs keep nx H' j bs
def lendH (keep : List (Nat × Bool)) (H H' : Heap) : Heap := ⟨H.nx + (H'.nx - keep.length), lendBs keep H.nx H' H'.nx H.bs⟩
/-- The callee leaves data where data was lent. -/
def backOk (H' : Heap) : List (Nat × Bool) → Nat → Prop
  | [], _ => True
  | (_, true) :: r, j => dataB (H'.get j) ∧ backOk H' r (j + 1)
  | (_, false) :: r, j => backOk H' r (j + 1)
theorem backOk_spec {H' : Heap} : ∀ {keep : List (Nat × Bool)} {i : Nat}, backOk H' keep i → ∀ j k, keep[j]? = some (k, true) → dataB (H'.get (i + j))
  | [], _, _, j, k, h => by simp at h
  | (q, d) :: r, i, hb, 0, k, h => by
    simp at h; obtain ⟨rfl, rfl⟩ := h; exact hb.1
  | (q, true) :: r, i, hb, j + 1, k, h => by
    have := backOk_spec hb.2 j k (by simpa using h)
    rwa [Nat.add_assoc, Nat.add_comm 1 j] at this
  | (q, false) :: r, i, hb, j + 1, k, h => by
    have := backOk_spec (keep := r) hb j k (by simpa using h)
    rwa [Nat.add_assoc, Nat.add_comm 1 j] at this

theorem lendBs_get {keep : List (Nat × Bool)} {nx : Nat} {H' : Heap} (k : Nat) (inj : ∀ i j, backK keep nx i = backK keep nx j → i = j) : ∀ (m : Nat) (bs : List (Nat × AB)),
    (∀ j, j < m → backK keep nx j = k → bget (lendBs keep nx H' m bs) k = backB keep nx H' j) ∧ ((∀ j, j < m → backK keep nx j ≠ k) → bget (lendBs keep nx H' m bs) k = bget bs k)
  | 0, bs => ⟨fun j hj => by omega, fun _ => rfl⟩
  | m + 1, bs => by
    obtain ⟨h1, h2⟩ := lendBs_get (H' := H') k inj m bs
    refine ⟨fun j hj hk => ?_, fun h => ?_⟩
    · simp only [lendBs, bget]
      by_cases hm : backK keep nx m = k
      · have := inj j m (hk.trans hm.symm); subst this
        rw [hm]; simp
      · rw [beq_false hm]
        exact h1 j (by rcases Nat.lt_succ_iff_lt_or_eq.1 hj with h | h; exact h; exact absurd (h ▸ hk) hm) hk
    · simp only [lendBs, bget]
      rw [beq_false (h m (Nat.lt_succ_self _))]
      exact h2 fun j hj => h j (Nat.lt_succ_of_lt hj)

theorem CallA.lend {P : Program} {f : FuncId} {args : List AV} {H : Heap} {K Kc : AV → Heap → Prop} (keep : List (Nat × Bool)) (h : CallA P f (renL (posOf keep) args) (gcH keep H) Kc) (hdis : distinct keep = true) (hdata : allData H keep)
    (hlt : keep.all (fun x => Nat.blt x.1 H.nx) = true) (hK : ∀ c H', Kc c H' → backOk H' keep 0 ∧ K (ren (fun j => some (backK keep H.nx j)) c) (lendH keep H H')) : CallA P f args H K := by
  refine ⟨h.ok, fun M μ w vs R hv => (h.run M (subP keep μ) w vs (R.sub hdis hdata) (relL_ren (fun k j x => sub_pos) args hv)).mono ?_⟩
  rintro e w' ⟨v, M', μs, Hs, c, rfl, R', hv', G, hk⟩
  obtain ⟨hback, hk⟩ := hK c Hs hk
  have hL : keep.length ≤ Hs.nx := G.nx
  have klt : ∀ {j k d}, keep[j]? = some (k, d) → k < H.nx := fun {j k d} hj => by
    have := List.all_eq_true.1 hlt _ (List.mem_of_getElem? hj)
    simpa [Nat.blt_eq] using this
  have jlt : ∀ {j k d}, keep[j]? = some (k, d) → j < keep.length := fun {j k d} hj => by
    rcases Nat.lt_or_ge j keep.length with h | h
    · exact h
    · rw [List.getElem?_eq_none h] at hj; cases hj
  let bk := backK keep H.nx
  have bk1 : ∀ {j k d}, keep[j]? = some (k, d) → bk j = k := fun {j k d} hj => by simp only [bk, backK, hj]
  have bk2 : ∀ {j}, keep.length ≤ j → bk j = H.nx + (j - keep.length) := fun {j} hj => by simp only [bk, backK, List.getElem?_eq_none hj]
  have bkc : ∀ j, (∃ k d, keep[j]? = some (k, d) ∧ j < keep.length ∧ bk j = k ∧ k < H.nx) ∨ (keep.length ≤ j ∧ bk j = H.nx + (j - keep.length)) := fun j => by
    cases hj : keep[j]? with
    | none =>
      have : keep.length ≤ j := by simpa using hj
      exact .inr ⟨this, bk2 this⟩
    | some x => obtain ⟨k, d⟩ := x; exact .inl ⟨k, d, rfl, jlt hj, bk1 hj, klt hj⟩
  have inj : ∀ i j, bk i = bk j → i = j := by
    intro i j hij
    rcases bkc i with ⟨k, d, h1, h2, h3, h4⟩ | ⟨h1, h2⟩
    · rcases bkc j with ⟨k', d', h5, h6, h7, h8⟩ | ⟨h5, h6⟩
      · have : k = k' := by rw [← h3, ← h7, hij]
        subst this
        exact distinct_spec hdis i j k d d' h1 h5
      · omega
    · rcases bkc j with ⟨k', d', h5, h6, h7, h8⟩ | ⟨h5, h6⟩
      · omega
      · omega
  let μ2 : Pos := fun k => if k < H.nx then μ k else μs (k - H.nx + keep.length)
  have hμ2 : ∀ j, μ2 (bk j) = μs j := by
    intro j
    rcases bkc j with ⟨k, d, h1, h2, h3, h4⟩ | ⟨h1, h2⟩
    · rw [h3]
      simp only [μ2, if_pos h4]
      rw [G.grow.pin j h2]
      simp only [subP, h1, Option.bind_some]
    · rw [h2]
      simp only [μ2]
      rw [if_neg (by omega)]
      congr 1; omega
  have hf : ∀ k j x, (fun j => some (bk j)) k = some j → μs k = some x → μ2 j = some x := by
    intro k j x hj hx
    simp only [Option.some.injEq] at hj
    subst hj; rw [hμ2]; exact hx
  have get : ∀ k, (∃ j, j < Hs.nx ∧ bk j = k ∧ (lendH keep H Hs).get k = backB keep H.nx Hs j) ∨ ((∀ j, j < Hs.nx → bk j ≠ k) ∧ (lendH keep H Hs).get k = H.get k) := by
    intro k
    obtain ⟨h1, h2⟩ := lendBs_get (keep := keep) (nx := H.nx) (H' := Hs) k inj Hs.nx H.bs
    by_cases hj : ∃ j, j < Hs.nx ∧ bk j = k
    · obtain ⟨j, h3, h4⟩ := hj
      exact .inl ⟨j, h3, h4, h1 j h3 h4⟩
    · have h3 : ∀ j, j < Hs.nx → bk j ≠ k := fun j h3 h4 => hj ⟨j, h3, h4⟩
      exact .inr ⟨h3, h2 h3⟩
  have backdead : ∀ j, backB keep H.nx Hs j ≠ .dead → Hs.get j ≠ .dead := by
    intro j hj hd
    refine hj ?_
    simp only [backB, hd, renB]
    split <;> rfl
  have notsub : ∀ {k b s}, H.get k ≠ .dead → μ k = some (b, s) → (∀ j, j < Hs.nx → bk j ≠ k) → ¬ Own (subP keep μ) (gcH keep H) b := by
    intro k b s hk1 hk2 hno ho
    obtain ⟨j, k', d, s', h1, h2, h3⟩ := sub_own ho
    have := R.inj k k' b s s' hk1 h2 hk2 h3
    subst this
    exact hno j (Nat.lt_of_lt_of_le (jlt h1) hL) (bk1 h1)
  have blt : ∀ {k b s}, H.get k ≠ .dead → μ k = some (b, s) → b < w.heap.size := fun h1 h2 => R.own_lt ⟨_, _, h1, h2⟩
  have old : ∀ {k}, (∀ j, j < Hs.nx → bk j ≠ k) → H.get k ≠ .dead → k < H.nx ∧ μ2 k = μ k := fun {k} _ hk => by
    have : k < H.nx := by
      rcases Nat.lt_or_ge k H.nx with h | h
      · exact h
      · exact absurd (R.top k h) hk
    exact ⟨this, by simp only [μ2, if_pos this]⟩
  have ownBack : ∀ {b}, Own μs Hs b → Own μ H b ∨ w.heap.size ≤ b := fun ho => by
    rcases G.grow.own _ ho with h | h
    · obtain ⟨j, k', d, s', h1, h2, h3⟩ := sub_own h
      exact .inl ⟨k', s', h2, h3⟩
    · exact .inr h
  have relB : ∀ {ds : List AV} {vs : List Value}, relP M' μs ds vs → relP M' μ2 (renL (fun j => some (bk j)) ds) vs := fun h => relP_ren hf _ h
  have R2 : Rel M' μ2 (lendH keep H Hs) w' := by
    refine ⟨fun k hk => ?_, fun k hk => ?_, fun k cs hk => ?_, fun k es hk => ?_, fun i j b s t hi hj hx hy => ?_, R'.imm, fun k b s hk hx o => ?_⟩
    · have hk : H.nx + (Hs.nx - keep.length) ≤ k := hk
      simp only [μ2]
      rw [if_neg (by omega)]
      exact R'.dom _ (by omega)
    · have hk : H.nx + (Hs.nx - keep.length) ≤ k := hk
      rcases get k with ⟨j, h1, h2, h3⟩ | ⟨h1, h2⟩
      · rcases bkc j with ⟨k', d, h4, h5, h6, h7⟩ | ⟨h4, h5⟩
        · omega
        · omega
      · rw [h2]; exact R.top k (by omega)
    · rcases get k with ⟨j, h1, h2, h3⟩ | ⟨h1, h2⟩
      · rw [h3] at hk
        subst h2
        have fin : ∀ ds, Hs.get j = .cells ds → (∀ vs, relP M' μs ds vs → relP M' μ2 cs vs) → ∃ b sz c el fz, μ2 (bk j) = some (b, sz) ∧ w'.heap[b]? = some (.cells c el fz) ∧ c.size = sz ∧ (fz = (0, 0) ∨ c.size ≤ fz.1) ∧ relP M' μ2 cs c.toList := by
          intro ds hd hp
          obtain ⟨b, sz, c, el, fz, g1, g2, g3, g4, g5⟩ := R'.cells j ds hd
          exact ⟨b, sz, c, el, fz, by rw [hμ2]; exact g1, g2, g3, (by rw [g3]; exact g4), hp _ g5⟩
        simp only [backB] at hk
        split at hk
        · rename_i kk hkk
          obtain ⟨b, sz, c, el, fz, g1, g2, g3, g4, g5⟩ := R'.cells j cs hk
          refine ⟨b, sz, c, el, fz, by rw [hμ2]; exact g1, g2, g3, g4, ?_⟩
          have := backOk_spec hback j kk hkk
          rw [Nat.zero_add, hk] at this
          exact relP_data cs this g5
        · cases hg : Hs.get j with
          | dead => rw [hg] at hk; simp [renB] at hk
          | map es => rw [hg] at hk; simp [renB] at hk
          | cells ds =>
            rw [hg] at hk; simp only [renB, AB.cells.injEq] at hk; subst hk
            obtain ⟨b, sz, c, el, fz, g1, g2, g3, g4, g5⟩ := R'.cells j ds hg
            exact ⟨b, sz, c, el, fz, by rw [hμ2]; exact g1, g2, g3, g4, relB g5⟩
      · rw [h2] at hk
        have hne : H.get k ≠ .dead := by rw [hk]; simp
        obtain ⟨b, sz, c, el, fz, g1, g2, g3, g4, g5⟩ := R.cells k cs hk
        have hb := blt hne g1
        refine ⟨b, sz, c, el, fz, by rw [(old h1 hne).2]; exact g1, by rw [G.grow.keep.block b hb (notsub hne g1 h1)]; exact g2, g3, g4, ?_⟩
        refine relP_mono G.grow.mem ?_ cs g5
        intro q x hx
        have : q < H.nx := R.pos_lt hx
        simp only [μ2, if_pos this]; exact hx
    · rcases get k with ⟨j, h1, h2, h3⟩ | ⟨h1, h2⟩
      · rw [h3] at hk
        subst h2
        have hg : Hs.get j = .map es := by
          simp only [backB] at hk
          split at hk
          · exact hk
          · cases hg : Hs.get j with
            | dead => rw [hg] at hk; cases hk
            | cells cs => rw [hg] at hk; cases hk
            | map es' => rw [hg] at hk; exact hk
        obtain ⟨b, sz, ents, clock, g1, g2⟩ := R'.maps j es hg
        exact ⟨b, sz, ents, clock, by rw [hμ2]; exact g1, g2⟩
      · rw [h2] at hk
        have hne : H.get k ≠ .dead := by rw [hk]; simp
        obtain ⟨b, sz, ents, clock, g1, g2, g3, g4⟩ := R.maps k es hk
        have hb := blt hne g1
        refine ⟨b, sz, ents, clock, by rw [(old h1 hne).2]; exact g1, by rw [G.grow.keep.block b hb (notsub hne g1 h1)]; exact g2, ?_, g4⟩
        have : ∀ {es : List (AV × AV)} {ents : List MapEntry}, relE M es ents → relE M' es ents := by
          intro es
          induction es with
          | nil => intro ents h; exact h
          | cons x r ih => intro ents h; obtain ⟨e, t, h1, h2, h3, h4⟩ := h; exact ⟨e, t, h1, relV_mono G.grow.mem _ (Pos.le_refl _) h2, relV_mono G.grow.mem _ (Pos.le_refl _) h3, ih h4⟩
        exact this g3
    · have mix : ∀ {i j k : Nat} {s t : Nat}, j < Hs.nx → Hs.get j ≠ .dead → μs j = some (b, s) → H.get k ≠ .dead → μ k = some (b, t) → (∀ j, j < Hs.nx → bk j ≠ k) → False := by
        intro i j k s t h1 h2 h3 h4 h5 h6
        rcases G.grow.own b ⟨j, s, h2, h3⟩ with h | h
        · exact notsub h4 h5 h6 h
        · have := blt h4 h5; omega
      rcases get i with ⟨i', h1, h2, h3⟩ | ⟨h1, h2⟩
      · rw [h3] at hi; have hi := backdead _ hi
        subst h2; rw [hμ2] at hx
        rcases get j with ⟨j', h4, h5, h6⟩ | ⟨h4, h5⟩
        · rw [h6] at hj; have hj := backdead _ hj
          subst h5; rw [hμ2] at hy
          rw [R'.inj i' j' b s t hi hj hx hy]
        · rw [h5] at hj
          rw [(old h4 hj).2] at hy
          exact (mix (i := 0) h1 hi hx hj hy h4).elim
      · rw [h2] at hi
        rw [(old h1 hi).2] at hx
        rcases get j with ⟨j', h4, h5, h6⟩ | ⟨h4, h5⟩
        · rw [h6] at hj; have hj := backdead _ hj
          subst h5; rw [hμ2] at hy
          exact (mix (i := 0) h4 hj hy hi hx h1).elim
        · rw [h5] at hj
          rw [(old h4 hj).2] at hy
          exact R.inj i j b s t hi hj hx hy
    · rcases get k with ⟨j, h1, h2, h3⟩ | ⟨h1, h2⟩
      · rw [h3] at hk
        subst h2; rw [hμ2] at hx
        exact R'.apart j b s (backdead _ hk) hx o
      · rw [h2] at hk
        rw [(old h1 hk).2] at hx
        cases hm : M' b o with
        | none => rfl
        | some u =>
          rcases G.grow.fresh b o u hm with h | h | h
          · rw [R.apart k b s hk hx o] at h; cases h
          · exact absurd h (notsub hk hx h1)
          · have := blt hk hx; omega
  have ownSub : ∀ {b}, Own (subP keep μ) (gcH keep H) b → Own μ H b := fun ho => by
    obtain ⟨j, k', d, s', h1, h2, h3⟩ := sub_own ho
    exact ⟨k', s', h2, h3⟩
  refine ⟨v, M', μ2, lendH keep H Hs, _, rfl, R2, relV_ren hf c hv', ⟨fun k x hx => ?_, ⟨G.grow.mem, fun k hk => ?_, ⟨G.grow.keep.os, G.grow.keep.tape, G.grow.keep.output, G.grow.keep.size, fun b hb hno => G.grow.keep.block b hb (fun h => hno (ownSub h))⟩, fun b hb => ?_, fun b o u hm => ?_⟩, Nat.le_add_right _ _⟩, hk⟩
  · have : k < H.nx := R.pos_lt hx
    simp only [μ2, if_pos this]; exact hx
  · simp only [μ2, if_pos hk]
  · obtain ⟨k, s, hk1, hk2⟩ := hb
    rcases get k with ⟨j, h1, h2, h3⟩ | ⟨h1, h2⟩
    · rw [h3] at hk1
      subst h2; rw [hμ2] at hk2
      exact ownBack ⟨j, s, backdead _ hk1, hk2⟩
    · rw [h2] at hk1
      rw [(old h1 hk1).2] at hk2
      exact .inl ⟨k, s, hk1, hk2⟩
  · rcases G.grow.fresh b o u hm with h | h | h
    · exact .inl h
    · exact .inr (.inl (ownSub h))
    · exact .inr (.inr h)
end Go.Eng

namespace Go.Eng
open Go

theorem Branch.neg {b : Bool} {A B : Prop} (yes : b = false → A) (no : b = true → B) : Branch (!b) A B :=
  ⟨fun h => yes (by simpa using h), fun h => no (by simpa using h)⟩
theorem Branch.negdec {p : Prop} [Decidable p] {A B : Prop} (yes : ¬ p → A) (no : p → B) : Branch (!decide p) A B :=
  ⟨fun h => yes (by simpa using h), fun h => no (by simpa using h)⟩
/-- The frame alone is made shorter; the heap stays. -/
def selF (fr : Fr) : List Nat → Fr
  | [] => []
  | t :: r => (t, look fr t) :: selF fr r
theorem Into.slots {n : Nat} {fr : Fr} {H : Heap} (slots : List Nat) : Into n fr H (selF fr slots) H := by
  intro N M μ w tmps R F hn
  refine ⟨M, μ, R, ⟨F.size, fun t => ?_⟩, hn, Grow.refl _ _ _ _ _⟩
  have key : ∀ (sl : List Nat), relV M (look (selF fr sl) t) μ (tmps.getD t undef) := by
    intro sl
    induction sl with
    | nil => simp [selF, look, relV]
    | cons q r ih =>
      simp only [selF, look]
      by_cases hq : q = t
      · subst hq; simpa using F.slot q
      · rw [beq_false hq]; exact ih
  exact key slots
theorem To.slots {n : Nat} {fr : Fr} {H : Heap} {J : Fr → Heap → Prop} (slots : List Nat) (h : J (selF fr slots) H) : To n fr H J := ⟨_, _, Into.slots slots, h⟩
theorem RetA.same {n : Nat} {K : AV → Heap → Prop} {v : AV} {H : Heap} (h : K v H) : RetA n K v H :=
  ⟨v, H, fun _ M μ _ _ R F hn => ⟨M, μ, R, F, hn, Grow.refl _ _ _ _ _⟩, h⟩
/-- Arguments of which less is known. -/
theorem CallA.args {P : Program} {f : FuncId} {args args' : List AV} {H : Heap} {K : AV → Heap → Prop} (h : CallA P f args' H K) (ha : ∀ M μ vs, relL M args μ vs → relL M args' μ vs) : CallA P f args H K :=
  ⟨h.ok, fun M μ w vs R hv => h.run M μ w vs R (ha M μ _ hv)⟩
/-! ### A call that only looks -/
mutual
/-- No place and no reference. -/
def flatV : AV → Bool
  | .ptr _ _ | .slice _ _ _ _ _ | .map _ | .dptr _ | .dslice _ _ _ => false
  | .func _ cs | .agg cs | .tuple cs => flatL cs
  | _ => true
def flatL : List AV → Bool
  | [] => true
  | c :: cs => flatV c && flatL cs
end
section
variable {M M' : Mem} {μ μ' : Pos}
mutual
theorem relV_flat : ∀ (c : AV) {v : Value}, flatV c = true → relV M c μ v → relV M' c μ' v
  | .any, _, _, _ => by simp only [relV]
  | .bool b, _, _, h => by simpa only [relV] using h
  | .int k n, _, _, h => by simpa only [relV] using h
  | .str s, _, _, h => by simpa only [relV] using h
  | .nilp, _, _, h => by simpa only [relV] using h
  | .nils, _, _, h => by simpa only [relV] using h
  | .nilm, _, _, h => by simpa only [relV] using h
  | .nilf, _, _, h => by simpa only [relV] using h
  | .ptr _ _, _, h, _ | .slice _ _ _ _ _, _, h, _ | .map _, _, h, _ | .dptr _, _, h, _ | .dslice _ _ _, _, h, _ => by simp [flatV] at h
  | .func g cs, _, hn, h => by simp only [relV, flatV] at *; obtain ⟨vs, h1, h2⟩ := h; exact ⟨vs, h1, relL_flat cs hn h2⟩
  | .agg cs, _, hn, h => by simp only [relV, flatV] at *; obtain ⟨vs, h1, h2⟩ := h; exact ⟨vs, h1, relL_flat cs hn h2⟩
  | .tuple cs, _, hn, h => by simp only [relV, flatV] at *; obtain ⟨vs, h1, h2⟩ := h; exact ⟨vs, h1, relL_flat cs hn h2⟩
theorem relL_flat : ∀ (cs : List AV) {vs : List Value}, flatL cs = true → relL M cs μ vs → relL M' cs μ' vs
  | [], _, _, h => by simpa only [relL] using h
  | c :: cs, _, hn, h => by
    simp only [relL, flatL, Bool.and_eq_true] at *; obtain ⟨v, r, h1, h2, h3⟩ := h
    exact ⟨v, r, h1, relV_flat c hn.1 h2, relL_flat cs hn.2 h3⟩
end
end
/-- A call that changes nothing, and hands back r. -/
structure CallS (P : Program) (f : FuncId) (args : List AV) (H : Heap) (r : AV) : Prop where
  ok : callable P f = true
  run : ∀ M μ w (vs : Array Value), Rel M μ H w → relL M args μ vs.toList → Calls P f vs w fun e w' =>
    ∃ v, e = .returned v ∧ relV (fun _ _ => none) r Pos.none v ∧ w'.os = w.os ∧ w'.tape = w.tape ∧ w'.output = w.output ∧ w.heap.size ≤ w'.heap.size ∧ ∀ b, b < w.heap.size → w'.heap[b]? = w.heap[b]?

theorem CallS.of {P : Program} {f : FuncId} {args : List AV} {H : Heap} {r : AV} (h : CallA P f args Heap.nil fun v H' => v = r ∧ H' = Heap.nil) (hr : flatV r = true) (ha : noLocL args = true) : CallS P f args H r :=
  ⟨h.ok, fun M μ w vs R hv => (h.run M Pos.none w vs R.nil (relL_data args ha hv)).mono fun e w' ⟨v, M', μ', H', c, he, R', hv', G, hc, hH⟩ => by
    subst hc
    exact ⟨v, he, relV_flat _ hr hv', G.grow.keep.os, G.grow.keep.tape, G.grow.keep.output, G.grow.keep.size, fun b hb => G.grow.keep.block b hb own_nil⟩⟩
theorem CallS.peek {P : Program} {f : FuncId} {args : List AV} {H : Heap} {r : AV} (k : Nat) {ds : List AV} (hk : H.get k = .cells ds) (hdata : ∀ c ∈ ds, noLoc c = true) (h : CallS P f (pubL k ds args) (pubH k ds H) r) : CallS P f args H r := by
  refine ⟨h.ok, fun M μ w vs R hv => ?_⟩
  obtain ⟨M', R', hV, G⟩ := R.pub k hk hdata
  have hl : ∀ {cs : List AV} {us : List Value}, relL M cs μ us → relL M' (pubL k ds cs) μ us := by
    intro cs
    induction cs with
    | nil => intro us h; simpa only [pubL, relL] using h
    | cons c cs ih => intro us h; simp only [pubL, relL] at h ⊢; obtain ⟨v, r, h1, h2, h3⟩ := h; exact ⟨v, r, h1, hV c v h2, ih h3⟩
  exact h.run M' μ w vs R' (hl hv)
theorem CallS.call {P : Program} {f : FuncId} {args : List AV} {H : Heap} {r : AV} {K : AV → Heap → Prop} (h : CallS P f args H r) (hr : flatV r = true) (hk : K r H) : CallA P f args H K := by
  refine ⟨h.ok, fun M μ w vs R hv => (h.run M μ w vs R hv).mono fun e w' ⟨v, he, hv', h1, h2, h3, h4, h5⟩ => ?_⟩
  have himm : ∀ b o u, M b o = some u → w'.cell? ⟨b, o, none⟩ = some u := fun b o u hm => by
    have hb := R.cell_lt hm
    have := R.imm b o u hm
    simp only [World.cell?] at this ⊢
    rw [h5 b hb]; exact this
  exact ⟨v, M, μ, H, r, he, R.frame (Mem.le_refl _) himm (fun b o u h => .inl h) h5, relV_flat r hr hv', ⟨Pos.le_refl _, ⟨Mem.le_refl _, fun _ _ => rfl, ⟨h1, h2, h3, h4, fun b hb _ => h5 b hb⟩, fun b hb => .inl hb, fun b o u h => .inl h⟩, Nat.le_refl _⟩, hk⟩

/-! ### A call that leaves what is lent as it was -/
theorem CallA.ext {P : Program} {f : FuncId} {args : List AV} {H : Heap} {K K' : AV → Heap → Prop} (h : CallA P f args H K) (hk : ∀ v H', K v H' → ∃ H'', H'.get = H''.get ∧ H'.nx = H''.nx ∧ K' v H'') : CallA P f args H K' := by
  refine ⟨h.ok, fun M μ w vs R hv => (h.run M μ w vs R hv).mono ?_⟩
  rintro e w' ⟨v, M', μ', H', c, rfl, R', hv', G, hK⟩
  obtain ⟨H'', h1, h2, h3⟩ := hk c H' hK
  exact ⟨v, M', μ', H'', c, rfl, R'.ext h1 h2, hv', ⟨G.le, G.grow.ext h1, h2 ▸ G.nx⟩, h3⟩
theorem lend_same {keep : List (Nat × Bool)} {H : Heap} (hdis : distinct keep = true) (hall : keep.all (·.2) = true) (hlt : keep.all (fun x => Nat.blt x.1 H.nx) = true) : (lendH keep H (gcH keep H)).get = H.get ∧ (lendH keep H (gcH keep H)).nx = H.nx := by
  have hk : ∀ j k d, keep[j]? = some (k, d) → d = true ∧ k < H.nx := fun j k d hj => by
    have hm := List.mem_of_getElem? hj
    have h1 := List.all_eq_true.1 hall _ hm
    have h2 := List.all_eq_true.1 hlt _ hm
    exact ⟨h1, by simpa [Nat.blt_eq] using h2⟩
  have inj : ∀ i j, backK keep H.nx i = backK keep H.nx j → i = j := fun i j hij => by
    unfold backK at hij
    split at hij
    · rename_i k d hi
      split at hij
      · rename_i k' d' hj
        subst hij
        exact distinct_keep hdis i j k d d' hi hj
      · have := (hk i k d hi).2; omega
    · rename_i hi
      split at hij
      · rename_i k' d' hj
        have := (hk j k' d' hj).2; omega
      · rename_i hj
        have h1 : keep.length ≤ i := List.getElem?_eq_none_iff.1 hi
        have h2 : keep.length ≤ j := List.getElem?_eq_none_iff.1 hj
        omega
  refine ⟨funext fun k => ?_, by simp [lendH, gcH]⟩
  have hb := lendBs_get (keep := keep) (nx := H.nx) (H' := gcH keep H) k inj (gcH keep H).nx H.bs
  by_cases hex : ∃ j, j < (gcH keep H).nx ∧ backK keep H.nx j = k
  · obtain ⟨j, hj, hjk⟩ := hex
    have := hb.1 j hj hjk
    simp only [Heap.get, lendH]
    rw [this]
    have hlen : j < keep.length := by simpa [gcH] using hj
    obtain ⟨⟨k', d⟩, hkj⟩ : ∃ x, keep[j] = x := ⟨_, rfl⟩
    have hkj' : keep[j]? = some (k', d) := by rw [List.getElem?_eq_getElem hlen, hkj]
    have hd := (hk j k' d hkj').1
    subst hd
    simp only [backK, hkj'] at hjk
    subst hjk
    simp only [backB, hkj', gcH_get, cond_true]
    rfl
  · have := hb.2 fun j hj hjk => hex ⟨j, hj, hjk⟩
    simp only [Heap.get, lendH]
    exact this
/-- A call to which blocks of data are lent, and which leaves them as they were. -/
theorem CallA.lent {P : Program} {f : FuncId} {args : List AV} {H : Heap} {K : AV → Heap → Prop} {Q : AV → Prop} (keep : List (Nat × Bool)) (h : CallA P f (renL (posOf keep) args) (gcH keep H) fun v H' => Q v ∧ H' = gcH keep H) (hdis : distinct keep = true) (hall : keep.all (·.2) = true) (hdata : allData H keep)
    (hlt : keep.all (fun x => Nat.blt x.1 H.nx) = true) (hback : backOk (gcH keep H) keep 0) (hq : ∀ v, Q v → noLoc v = true) (hK : ∀ v, Q v → K v H) : CallA P f args H K := by
  refine CallA.ext (K := fun v H' => Q v ∧ H' = lendH keep H (gcH keep H)) (CallA.lend keep h hdis hdata hlt ?_) ?_
  · rintro c H' ⟨hc, rfl⟩
    exact ⟨hback, by rw [ren_data _ _ (hq c hc)]; exact hc, rfl⟩
  · rintro v H' ⟨hv, rfl⟩
    exact ⟨H, (lend_same hdis hall hlt).1, (lend_same hdis hall hlt).2, hK v hv⟩
end Go.Eng

namespace Go.Eng
open Go

/-! ### What is handed out becomes data, as far as it reaches -/
def pubAll (f : AV → Option AV) : List AV → Option (List AV)
  | [] => some []
  | c :: r => match f c with
    | some c' => match pubAll f r with
      | some r' => some (c' :: r')
      | none => none
    | none => none
def pubE (η : Nat → AB) : Nat → AV → Option AV
  | 0, v => bif noLoc v then some v else none
  | n + 1, .slice k off len cap e => match η k with
    | .cells cs => match pubAll (pubE η n) ((cs.drop off).take (len * e)) with
      | some l => some (.dslice l len cap)
      | none => none
    | _ => none
  | n + 1, .ptr k off => match η k with
    | .cells cs => match pubAll (pubE η n) (cs.drop off) with
      | some l => some (.dptr l)
      | none => none
    | _ => none
  | n + 1, .agg cs => match pubAll (pubE η n) cs with
    | some l => some (.agg l)
    | none => none
  | n + 1, .tuple cs => match pubAll (pubE η n) cs with
    | some l => some (.tuple l)
    | none => none
  | n + 1, .func g cs => match pubAll (pubE η n) cs with
    | some l => some (.func g l)
    | none => none
  | _ + 1, .map _ => none
  | _ + 1, v => some v

section
variable {M M' : Mem} {μ : Pos} {H : Heap} {w : World}
theorem pubAll_rel {f : AV → Option AV} {ρ : Pos} (hf : ∀ c c' v, f c = some c' → relV M c μ v → relV M' c' ρ v) : ∀ {cs l : List AV} {vs : List Value}, pubAll f cs = some l → relL M cs μ vs → relL M' l ρ vs
  | [], l, vs, h, hr => by simp only [pubAll] at h; cases h; simpa only [relL] using hr
  | c :: r, l, vs, h, hr => by
    simp only [pubAll] at h
    split at h
    · rename_i c' hc
      split at h
      · rename_i r' hr'; cases h
        simp only [relL] at hr ⊢
        obtain ⟨v, t, rfl, h1, h2⟩ := hr
        exact ⟨v, t, rfl, hf _ _ _ hc h1, pubAll_rel hf hr' h2⟩
      · cases h
    · cases h
theorem pubAll_get {f : AV → Option AV} : ∀ {cs l : List AV}, pubAll f cs = some l → ∀ (i : Nat) (c' : AV), l[i]? = some c' → ∃ c, cs[i]? = some c ∧ f c = some c'
  | [], l, h, i, c', hi => by simp only [pubAll] at h; cases h; simp at hi
  | c :: r, l, h, i, c', hi => by
    simp only [pubAll] at h
    split at h
    · rename_i c1 hc
      split at h
      · rename_i r' hr'; cases h
        cases i with
        | zero => simp at hi; subst hi; exact ⟨c, rfl, hc⟩
        | succ i => simp at hi; obtain ⟨d, h1, h2⟩ := pubAll_get hr' i c' hi; exact ⟨d, by simpa using h1, h2⟩
      · cases h
    · cases h
theorem cells_out (R : Rel M μ H w) (hM' : ∀ b o, Own μ H b → M' b o = w.cell? ⟨b, o, none⟩) {k b sz : Nat} {cs : List AV} (hk : H.get k = .cells cs) (hμ : μ k = some (b, sz)) {f : AV → Option AV}
    (hf : ∀ c c' v, f c = some c' → relV M c μ v → relV M' c' Pos.none v) {off : Nat} {ds l : List AV} (hd : ∀ i c, ds[i]? = some c → cs[off + i]? = some c) (hp : pubAll f ds = some l) : relM M' l b off := by
  obtain ⟨b', sz', c, el, fz, h1, h2, _, _, hP⟩ := R.cells k cs hk
  rw [hμ] at h1; cases h1
  refine relM_of_get fun i c' hi => ?_
  obtain ⟨d, h3, h4⟩ := pubAll_get hp i c' hi
  obtain ⟨u, hu, hr⟩ := relP_get hP (hd i d h3)
  refine ⟨u, ?_, hf _ _ _ h4 hr⟩
  rw [hM' b _ ⟨k, sz, by rw [hk]; simp, hμ⟩]
  simp only [World.cell?, h2]
  simpa using hu
theorem pubE_rel (R : Rel M μ H w) (hle : Mem.le M M') (hM' : ∀ b o, Own μ H b → M' b o = w.cell? ⟨b, o, none⟩) : ∀ (n : Nat) (c c' : AV) (v : Value), pubE H.get n c = some c' → relV M c μ v → relV M' c' Pos.none v
  | 0, c, c', v, h, hr => by
    simp only [pubE] at h
    cases hn : noLoc c <;> simp only [hn, cond_true, cond_false] at h
    · cases h
    · cases h; exact relV_data c hn (relV_mono hle c (Pos.le_refl _) hr)
  | n + 1, c, c', v, h, hr => by
    have ih := pubE_rel R hle hM' n
    cases c <;> simp only [pubE] at h
    case slice k off len cap e =>
      split at h
      · rename_i cs hk
        split at h
        · rename_i l hl; cases h
          simp only [relV] at hr ⊢
          obtain ⟨b, sz, q, h1, rfl, h3, h4, h5⟩ := hr
          exact .inl ⟨b, off, q, rfl, h3, h5, cells_out R hM' hk h1 ih (fun i c hi => by
            rw [List.getElem?_take] at hi
            split at hi
            · rwa [List.getElem?_drop] at hi
            · cases hi) hl⟩
        · cases h
      · cases h
    case ptr k off =>
      split at h
      · rename_i cs hk
        split at h
        · rename_i l hl; cases h
          simp only [relV] at hr ⊢
          obtain ⟨b, sz, h1, rfl⟩ := hr
          exact ⟨b, off, rfl, cells_out R hM' hk h1 ih (fun i c hi => by rwa [List.getElem?_drop] at hi) hl⟩
        · cases h
      · cases h
    case agg cs =>
      split at h
      · rename_i l hl; cases h
        simp only [relV] at hr ⊢
        obtain ⟨vs, rfl, hr⟩ := hr
        exact ⟨vs, rfl, pubAll_rel ih hl hr⟩
      · cases h
    case tuple cs =>
      split at h
      · rename_i l hl; cases h
        simp only [relV] at hr ⊢
        obtain ⟨vs, rfl, hr⟩ := hr
        exact ⟨vs, rfl, pubAll_rel ih hl hr⟩
      · cases h
    case func g cs =>
      split at h
      · rename_i l hl; cases h
        simp only [relV] at hr ⊢
        obtain ⟨vs, rfl, hr⟩ := hr
        exact ⟨vs, rfl, pubAll_rel ih hl hr⟩
      · cases h
    case map k => cases h
    all_goals (cases h; exact relV_data _ rfl (relV_mono hle _ (Pos.le_refl _) hr))
end
theorem Into.out {fr : Fr} {H : Heap} {v r : AV} (m : Nat) (h : pubE H.get m v = some r) : Into 0 ((0, v) :: fr) H [(0, r)] Heap.nil := by
  intro N M μ w tmps R F _
  let M' : Mem := fun b o => open Classical in if Own μ H b then w.cell? ⟨b, o, none⟩ else M b o
  have hO : ∀ b o, Own μ H b → M' b o = w.cell? ⟨b, o, none⟩ := fun b o hb => by simp [M', hb]
  have hN : ∀ b o, ¬ Own μ H b → M' b o = M b o := fun b o hb => by simp [M', hb]
  have hle : Mem.le M M' := fun b o u hu => by
    by_cases hb : Own μ H b
    · rw [hO b o hb]; exact R.imm b o u hu
    · rw [hN b o hb]; exact hu
  refine ⟨M', Pos.none, ⟨fun _ _ => rfl, fun _ _ => rfl, fun k cs h => by simp [Heap.get, Heap.nil, bget] at h, fun k cs h => by simp [Heap.get, Heap.nil, bget] at h, fun i j b s t h => by simp [Heap.get, Heap.nil, bget] at h, fun b o u hu => ?_, fun k b s h => by simp [Heap.get, Heap.nil, bget] at h⟩, ⟨F.size, fun t => ?_⟩, Nat.zero_le _, ⟨hle, fun k hk => by omega, ⟨rfl, rfl, rfl, Nat.le_refl _, fun _ _ _ => rfl⟩, fun b hb => absurd hb own_nil, fun b o u hu => ?_⟩⟩
  · by_cases hb : Own μ H b
    · rw [hO b o hb] at hu; exact hu
    · rw [hN b o hb] at hu; exact R.imm b o u hu
  · simp only [look]
    by_cases e : 0 = t
    · subst e
      have := F.slot 0
      simp only [look, Nat.beq_refl, cond_true] at this ⊢
      exact pubE_rel R hle hO m _ _ _ h this
    · rw [beq_false e]; simp [relV]
  · by_cases hb : Own μ H b
    · exact .inr (.inl hb)
    · rw [hN b o hb] at hu; exact .inl hu
/-- **A result is handed out as data**, whatever of the heap it reaches. -/
theorem RetA.out {K : AV → Heap → Prop} {v r : AV} {H : Heap} (m : Nat) (h : pubE H.get m v = some r) (hk : K r Heap.nil) : RetA 0 K v H :=
  ⟨r, Heap.nil, Into.out m h, hk⟩
theorem CallA.out {P : Program} {f : FuncId} {vs : List AV} {K0 K : AV → Heap → Prop} (m : Nat) (h : CallA P f vs Heap.nil K0) (hk : ∀ v H', K0 v H' → ∃ r, pubE H'.get m v = some r ∧ K r Heap.nil) : CallA P f vs Heap.nil K := by
  refine ⟨h.ok, fun M μ w vs0 R hv => (h.run M μ w vs0 R hv).mono ?_⟩
  rintro e w' ⟨v, M', μ', H', c, rfl, R', hv', G, hK⟩
  have hμ : μ = Pos.none := funext fun k => R.dom k (Nat.zero_le _)
  subst hμ
  obtain ⟨r, hr, hk⟩ := hk c H' hK
  obtain ⟨M2, μ2, R2, F2, _, G2⟩ := Into.out (fr := []) m hr 1 M' μ' w' #[v] R' ⟨rfl, fun t => by
    simp only [look]
    by_cases e : 0 = t
    · subst e; simpa using hv'
    · rw [beq_false e]; simp [relV]⟩ (Nat.zero_le _)
  have := F2.slot 0
  refine ⟨v, M2, μ2, Heap.nil, r, rfl, R2, by simpa [look] using this, ⟨(fun k x h => nomatch h), G.grow.trans G2, Nat.le_refl _⟩, hk⟩
end Go.Eng

namespace Go.Eng
open Go Go.ChangeShapes Go.WideShapes Go.RowKit

/-! ### From a contract to a statement: what arguments look like -/
inductive Sh where
  | b
  | i (k : IntKind)
  | str
  | sl (e : Sh)
  | ar (n : Nat) (e : Sh)
  | ag (l : List Sh)
mutual
def Ty : Sh → Type
  | .b => Bool
  | .i _ => Int
  | .str => ByteArray
  | .sl e => List (Ty e)
  | .ar _ e => List (Ty e)
  | .ag l => Tys l
def Tys : List Sh → Type
  | [] => Unit
  | s :: r => Ty s × Tys r
end
mutual
def cellsT : (s : Sh) → Ty s → List AV
  | .b, x => [.bool x]
  | .i k, x => [.int k x]
  | .str, x => [.str x]
  | .sl e, l => [.dslice (List.flatMap (cellsT e) l) (List.length l) none]
  | .ar _ e, l => List.flatMap (cellsT e) l
  | .ag l, x => cellsTs l x
def cellsTs : (l : List Sh) → Tys l → List AV
  | [], _ => []
  | s :: r, x => cellsT s x.1 ++ cellsTs r x.2
end
mutual
def wfT : (s : Sh) → Ty s → Prop
  | .b, _ => True
  | .i k, x => let n : Int := x; k.min ≤ n ∧ n ≤ k.max
  | .str, x => ByteArray.size x ≤ maxLen
  | .sl e, l => (∀ x, List.Mem x l → wfT e x) ∧ List.length l ≤ maxLen
  | .ar n e, l => (∀ x, List.Mem x l → wfT e x) ∧ List.length l = n
  | .ag l, x => wfTs l x
def wfTs : (l : List Sh) → Tys l → Prop
  | [], _ => True
  | s :: r, x => wfT s x.1 ∧ wfTs r x.2
end
mutual
def widthT : Sh → Nat
  | .b | .i _ | .str | .sl _ => 1
  | .ar n e => n * widthT e
  | .ag l => widthTs l
def widthTs : List Sh → Nat
  | [] => 0
  | s :: r => widthT s + widthTs r
end
mutual
def noSl : Sh → Bool
  | .sl _ => false
  | .ar _ e => noSl e
  | .ag l => noSls l
  | _ => true
def noSls : List Sh → Bool
  | [] => true
  | s :: r => noSl s && noSls r
end
/-- Fields that lie behind each other. -/
def shFs (P : Program) (g : TypeId → Option Sh) : List Field → Nat → Option (List Sh)
  | [], _ => some []
  | f :: r, off => bif Nat.beq f.offset off then (match g f.type with
    | some s => bif Nat.beq (P.cellsOf f.type) (widthT s) then (match shFs P g r (off + widthT s) with
      | some l => some (s :: l)
      | none => none) else none
    | none => none) else none
def shOf (P : Program) : Nat → TypeId → Option Sh
  | 0, _ => none
  | n + 1, t => match P.underlying t with
    | some .bool => some .b
    | some (.int k) => some (.i k)
    | some .string => some .str
    | some (.slice e) => match shOf P n e with
      | some s => bif Nat.beq (P.cellsOf e) (widthT s) && noSl s then some (.sl s) else none
      | none => none
    | some (.array m e) => match shOf P n e with
      | some s => bif Nat.beq (P.cellsOf e) (widthT s) && Nat.beq (P.cellsOf t) (m * widthT s) then some (.ar m s) else none
      | none => none
    | some (.struct fs) => match shFs P (shOf P n) fs.toList 0 with
      | some l => bif Nat.beq (P.cellsOf t) (widthTs l) then some (.ag l) else none
      | none => none
    | _ => none

def Mw (w : World) : Mem := fun b o => w.cell? ⟨b, o, none⟩
section
variable {H : Type} {enc : TypeId × Value → H} {P : Program} {w : World} {sp : Nat → Bool} {held : Bool}
theorem flat_wf_len {e : Sh} (he : ∀ x : Ty e, wfT e x → (cellsT e x).length = widthT e) : ∀ l : List (Ty e), (∀ x, List.Mem x l → wfT e x) → (List.flatMap (cellsT e) l).length = l.length * widthT e
  | [], _ => by simp
  | x :: r, h => by
    rw [List.flatMap_cons, List.length_append, he x (h x (.head _)), flat_wf_len he r (fun y hy => h y (.tail _ hy)), List.length_cons, Nat.add_mul]; omega
mutual
theorem cellsT_len : ∀ (s : Sh) (x : Ty s), wfT s x → (cellsT s x).length = widthT s
  | .b, _, _ => by simp only [cellsT, widthT]; rfl
  | .i k, _, _ => by simp only [cellsT, widthT]; rfl
  | .str, _, _ => by simp only [cellsT, widthT]; rfl
  | .sl e, _, _ => by simp only [cellsT, widthT]; rfl
  | .ar n e, l, h => by
    simp only [wfT] at h
    simp only [cellsT, widthT]
    rw [flat_wf_len (cellsT_len e) l h.1, h.2]
  | .ag l, x, h => by
    simp only [wfT] at h
    simp only [cellsT, widthT]; exact cellsTs_len l x h
theorem cellsTs_len : ∀ (l : List Sh) (x : Tys l), wfTs l x → (cellsTs l x).length = widthTs l
  | [], _, _ => by simp only [cellsTs, widthTs]; rfl
  | s :: r, x, h => by
    simp only [wfTs] at h
    simp only [cellsTs, widthTs, List.length_append]
    rw [cellsT_len s x.1 h.1, cellsTs_len r x.2 h.2]
end

theorem relL_app {M : Mem} {μ : Pos} {cs ds : List AV} {vs us : List Value} (h : relL M cs μ vs) (k : relL M ds μ us) : relL M (cs ++ ds) μ (vs ++ us) := relL_append h k
/-- What the reading gives of a row of cells. -/
def Reads (w : World) (s : Sh) (cs : List Value) : Prop := ∃ x : Ty s, wfT s x ∧ relL (Mw w) (cellsT s x) Pos.none cs
def ReadsAll (w : World) (l : List Sh) (cs : List Value) : Prop := ∃ x : Tys l, wfTs l x ∧ relL (Mw w) (cellsTs l x) Pos.none cs
theorem take_off (cs : List Value) (off a b : Nat) : (cs.drop off).take (a + b) = (cs.drop off).take a ++ (cs.drop (off + a)).take b := by
  rw [List.take_add, List.drop_drop]
def plainAt (v : Value) : Prop := ∀ a len cap, v = .slice (some a) len cap → a.spot = none
def SpOK (s : Sh) (cs : List Value) : Prop := noSl s = true ∨ ∀ v ∈ cs, plainAt v
theorem mem_part {v : Value} {cs : List Value} {a b : Nat} (h : v ∈ (cs.drop a).take b) : v ∈ cs := List.mem_of_mem_drop (List.mem_of_mem_take h)
theorem shFs_reads {g : TypeId → Option Sh} : ∀ {fs : List Field} {off : Nat} {l : List Sh} {cs : List Value}, shFs P g fs off = some l → (noSls l = true ∨ ∀ v ∈ cs, plainAt v) →
    (∀ f ∈ fs, ∀ s, g f.type = some s → SpOK s cs → Reads w s ((cs.drop f.offset).take (P.cellsOf f.type))) → ReadsAll w l ((cs.drop off).take (widthTs l))
  | [], off, l, cs, h, _, _ => by
    simp only [shFs] at h; cases h
    exact ⟨(), by simp only [wfTs], by simp [cellsTs, widthTs, relL]⟩
  | f :: r, off, l, cs, h, hsp, hr => by
    simp only [shFs] at h
    cases hb : Nat.beq f.offset off <;> simp only [hb, cond_true, cond_false] at h
    · cases h
    have hoff := Nat.eq_of_beq_eq_true hb
    split at h
    · rename_i s hs
      cases hc : Nat.beq (P.cellsOf f.type) (widthT s) <;> simp only [hc, cond_true, cond_false] at h
      · cases h
      have hw := Nat.eq_of_beq_eq_true hc
      split at h
      · rename_i l' hl; cases h
        simp only [noSls, Bool.and_eq_true] at hsp
        obtain ⟨x, h1, h2⟩ := hr f (List.mem_cons_self ..) s hs (hsp.imp (·.1) id)
        obtain ⟨y, h3, h4⟩ := shFs_reads (cs := cs) hl (hsp.imp (·.2) id) fun f' hf' => hr f' (List.mem_cons_of_mem _ hf')
        refine ⟨(x, y), by simp only [wfTs]; exact ⟨h1, h3⟩, ?_⟩
        simp only [cellsTs, widthTs, take_off]
        rw [hoff, hw] at h2
        exact relL_app h2 h4
      · cases h
    · cases h
theorem chunks {e : Sh} {k : Nat} : ∀ (n : Nat) (cs : List Value), (∀ i, i < n → Reads w e ((cs.drop (i * k)).take k)) → ∃ l : List (Ty e), l.length = n ∧ (∀ x, List.Mem x l → wfT e x) ∧ relL (Mw w) (List.flatMap (cellsT e) l) Pos.none (cs.take (n * k))
  | 0, cs, _ => ⟨[], rfl, (fun x h => nomatch h), by simp [relL]⟩
  | n + 1, cs, h => by
    obtain ⟨x, h1, h2⟩ := h 0 (by omega)
    obtain ⟨l, h3, h4, h5⟩ := chunks n (cs.drop k) fun i hi => by
      have := h (i + 1) (by omega)
      rw [List.drop_drop]
      rw [show k + i * k = (i + 1) * k by rw [Nat.add_mul]; omega]; exact this
    refine ⟨x :: l, by simp [h3], fun y hy => ?_, ?_⟩
    · cases hy with
      | head => exact h1
      | tail _ hy => exact h4 y hy
    · rw [List.flatMap_cons, show (n + 1) * k = k + n * k by rw [Nat.add_mul]; omega, List.take_add]
      simp only [Nat.zero_mul, List.drop_zero] at h2
      exact relL_app h2 h5
theorem mapM_range {α : Type} {f : Nat → Option α} {n : Nat} {xs : List α} (h : (List.range n).mapM f = some xs) : xs.length = n ∧ ∀ i, i < n → ∃ y, f i = some y :=
  ⟨by simpa using mapM_some_length h, fun i hi => mapM_each h i (List.mem_range.2 hi)⟩
theorem cells?_rel {a : Addr} {n : Nat} {cs : List Value} (h : w.cells? 0 a n = some cs) : cs.length = n ∧ ∀ i v, cs[i]? = some v → w.cell? (a.add i) = some v := by
  unfold World.cells? at h
  rw [if_pos (Nat.zero_le _)] at h
  have hl : cs.length = n := by simpa using mapM_some_length h
  refine ⟨hl, fun i v hi => ?_⟩
  have hi' : i < n := by rw [← hl]; exact (List.getElem?_eq_some_iff.1 hi).1
  have := mapM_some_get h i i (by simp [hi'])
  rw [this]; exact hi
theorem reads_of_trod : ∀ (k : Nat) (t : TypeId) (s : Sh) (n : Nat) (cs : List Value) (x : DataW H × List MemPlace), shOf P k t = some s → SpOK s cs → DataW.trod enc P w 0 sp held n t cs = some x → Reads w s cs
  | 0, _, _, _, _, _, h, _, _ => by simp [shOf] at h
  | k + 1, t, s, n, cs, x, h, hsp, hd => by
    simp only [shOf] at h
    split at h
    · rename_i ht; cases h
      obtain ⟨b, rfl, _⟩ := DataW.trod_bool ht hd
      exact ⟨b, by simp only [wfT], by simp [cellsT, relL, relV]⟩
    · rename_i kk ht; cases h
      obtain ⟨m, rfl, _, hw⟩ := DataW.trod_int ht hd
      refine ⟨(m : Int), ?_, by simp [cellsT, relL, relV]⟩
      simp only [wfT]
      simpa [Lit.wf] using hw
    · rename_i ht; cases h
      obtain ⟨b, rfl, _, hs⟩ := DataW.trod_string ht hd
      exact ⟨b, by simp only [wfT]; exact hs, by simp [cellsT, relL, relV]⟩
    · rename_i e ht
      split at h
      · rename_i s' hs
        cases hb : (Nat.beq (P.cellsOf e) (widthT s') && noSl s') <;> simp only [hb, cond_true, cond_false] at h
        · cases h
        cases h
        simp only [Bool.and_eq_true] at hb
        have hwd := Nat.eq_of_beq_eq_true hb.1
        cases n with
        | zero => simp [DataW.trod] at hd
        | succ m =>
          unfold DataW.trod at hd
          rw [ht] at hd
          split at hd <;> try (first | (rename_i hh; cases hh; done) | (rename_i hh _; cases hh; done))
          · refine ⟨([] : List (Ty s')), ?_, ?_⟩
            · simp only [wfT]; exact ⟨(fun x h => nomatch h), Nat.zero_le _⟩
            · simp only [cellsT, relL]
              refine ⟨_, [], rfl, ?_, rfl⟩
              simp only [relV]
              exact .inr ⟨by first | rfl | trivial, rfl, rfl, fun c0 h => by cases h⟩
          · rename_i a len cap hh
            cases hh
            have hspot : a.spot = none := by
              rcases hsp with h | h
              · simp [noSl] at h
              · exact h _ (List.mem_cons_self ..) a len cap rfl
            simp only at hd
            split at hd
            · rename_i hc
              simp only [Option.bind_eq_some_iff] at hd
              obtain ⟨elems, he, _⟩ := hd
              obtain ⟨hl, hel⟩ := mapM_range he
              -- the cells, one element behind the other
              have cellOf : ∀ i, i < len → ∃ cs', w.cells? 0 (a.add (i * P.cellsOf e)) (P.cellsOf e) = some cs' ∧ Reads w s' cs' := fun i hi => by
                obtain ⟨y, hy⟩ := hel i hi
                simp only [Option.bind_eq_some_iff] at hy
                obtain ⟨cs', h1, h2⟩ := hy
                exact ⟨cs', h1, reads_of_trod k _ _ _ _ _ hs (.inl hb.2) h2⟩
              have hadd : ∀ i, a.add i = ⟨a.block, a.off + i, none⟩ := fun i => by
                unfold Addr.add
                split
                · rename_i h0; subst h0; cases a; simp only at hspot ⊢; subst hspot; rfl
                · rfl
              have build : ∀ j, j ≤ len → ∃ l : List (Ty s'), l.length = j ∧ (∀ x, List.Mem x l → wfT s' x) ∧ relM (Mw w) (List.flatMap (cellsT s') l) a.block (a.off + (len - j) * P.cellsOf e) := by
                intro j
                induction j with
                | zero => exact fun _ => ⟨[], rfl, (fun x h => nomatch h), by simp [relM]⟩
                | succ j ih =>
                  intro hj
                  obtain ⟨l, h3, h4, h5⟩ := ih (by omega)
                  obtain ⟨cs', h1, x, h6, h7⟩ := cellOf (len - (j + 1)) (by omega)
                  obtain ⟨hlen, hcell⟩ := cells?_rel h1
                  refine ⟨x :: l, by simp [h3], fun y hy => ?_, ?_⟩
                  · cases hy with
                    | head => exact h6
                    | tail _ hy => exact h4 y hy
                  · rw [List.flatMap_cons]
                    refine relM_of_get fun i c hi => ?_
                    by_cases hil : i < (cellsT s' x).length
                    · rw [List.getElem?_append_left hil] at hi
                      obtain ⟨u, hu, hr⟩ := relL_get h7 hi
                      refine ⟨u, ?_, hr⟩
                      have := hcell i u hu
                      rw [hadd, Go.Eng.add_addr] at this
                      exact this
                    · rw [List.getElem?_append_right (by omega)] at hi
                      obtain ⟨u, hu, hr⟩ := relM_get h5 hi
                      refine ⟨u, ?_, hr⟩
                      rw [cellsT_len s' x h6, ← hwd] at hu hil
                      rw [← hu]
                      congr 1
                      have : (len - j) * P.cellsOf e = (len - (j + 1)) * P.cellsOf e + P.cellsOf e := by
                        rw [show len - j = len - (j + 1) + 1 by omega, Nat.add_mul]; omega
                      omega
              obtain ⟨l, h3, h4, h5⟩ := build len (Nat.le_refl _)
              refine ⟨l, ?_, ?_⟩
              · simp only [wfT]; exact ⟨h4, by rw [h3]; omega⟩
              · simp only [cellsT, relL]
                refine ⟨_, [], rfl, ?_, rfl⟩
                simp only [relV]
                refine .inl ⟨a.block, a.off, cap, ?_, by rw [h3]; exact hc.2.1, (fun c0 h => by cases h), ?_⟩
                · rw [h3]; cases a; simp only at hspot ⊢; subst hspot; rfl
                · rw [Nat.sub_self, Nat.zero_mul] at h5; exact h5
            · cases hd
          · cases hd
      · cases h
    · rename_i mm e ht
      split at h
      · rename_i s' hs
        cases hb : (Nat.beq (P.cellsOf e) (widthT s') && Nat.beq (P.cellsOf t) (mm * widthT s')) <;> simp only [hb, cond_true, cond_false] at h
        · cases h
        cases h
        simp only [Bool.and_eq_true] at hb
        have hwd := Nat.eq_of_beq_eq_true hb.1
        have hwd2 := Nat.eq_of_beq_eq_true hb.2
        obtain ⟨xs, m, rfl, _, hl, hxl, hx⟩ := DataW.trod_array ht hd
        obtain ⟨l, h3, h4, h5⟩ := chunks (w := w) (e := s') (k := P.cellsOf e) mm cs fun i hi => by
          have := hx i hi
          rw [List.getElem?_eq_getElem (by omega)] at this
          exact reads_of_trod k _ _ _ _ _ hs (hsp.imp (fun h => by simpa [noSl] using h) (fun h v hv => h v (mem_part hv))) this
        refine ⟨l, by simp only [wfT]; exact ⟨h4, h3⟩, ?_⟩
        simp only [cellsT]
        rw [List.take_of_length_le (by rw [hl, hwd, hwd2]; exact Nat.le_refl _)] at h5
        exact h5
      · cases h
    · rename_i fs ht
      split at h
      · rename_i l hl
        cases hb : Nat.beq (P.cellsOf t) (widthTs l) <;> simp only [hb, cond_true, cond_false] at h
        · cases h
        cases h
        have hwd := Nat.eq_of_beq_eq_true hb
        obtain ⟨xs, m, rfl, _, hlen, hxl, hx⟩ := DataW.trod_struct ht hd
        have := shFs_reads (w := w) (cs := cs) hl (hsp.imp (fun h => by simpa [noSl] using h) id) fun f hf s' hs' hsp' => by
          obtain ⟨i, hi⟩ := List.getElem?_of_mem hf
          have hi' : fs[i]? = some f := by simpa using hi
          have h1 := hx i f hi'
          have h2 : i < xs.length := by rw [hxl]; exact (Array.getElem?_eq_some_iff.1 hi').1
          rw [List.getElem?_eq_getElem h2] at h1
          exact reads_of_trod k _ _ _ _ _ hs' (hsp'.imp id (fun h v hv => h v (mem_part hv))) h1
        obtain ⟨y, h1, h2⟩ := this
        refine ⟨y, by simp only [wfT]; exact h1, ?_⟩
        simp only [cellsT]
        rw [List.drop_zero, List.take_of_length_le (by omega)] at h2
        exact h2
      · cases h
    · cases h
end
end Go.Eng

namespace Go.Eng
open Go Go.ChangeShapes Go.WideShapes Go.RowKit

def argT : (s : Sh) → Ty s → AV
  | .b, x => .bool x
  | .i k, x => .int k x
  | .str, x => .str x
  | .sl e, l => .dslice (List.flatMap (cellsT e) l) (List.length l) none
  | .ar n e, l => .agg (cellsT (.ar n e) l)
  | .ag l, x => .agg (cellsT (.ag l) x)
def argTs : (l : List Sh) → Tys l → List AV
  | [], _ => []
  | s :: r, x => argT s x.1 :: argTs r x.2
def shAll (P : Program) : List TypeId → Option (List Sh)
  | [] => some []
  | t :: r => match shOf P 20 t with
    | some s => match shAll P r with
      | some l => some (s :: l)
      | none => none
    | none => none

section
variable {H : Type} {enc : TypeId × Value → H} {P : Program} {w : World} {sp : Nat → Bool} {held : Bool}
theorem plain_of_ok {r : Reach} {base : Nat} {t : TypeId} {v : Value} (h : Cell.okWide P w r base t v) : plainAt v := by
  rintro a len cap rfl
  unfold Cell.okWide at h
  split at h <;> first | (rename_i h2; cases h2; done) | (rename_i h1 h2; cases h2; done) | skip
  unfold Cell.ok at h
  split at h <;> first | exact h.elim | (rename_i h1 h2; cases h2; done) | skip
  · rename_i h1 h2
    cases h2
    exact h.2.2.2.1
theorem row_plain {r : Reach} {base : Nat} {t : TypeId} {cs : Array Value} (h : Row.okWide P w r base t cs) : ∀ v ∈ cs.toList, plainAt v := by
  obtain ⟨ts, _, _, hc⟩ := h
  intro v hv
  obtain ⟨i, hi⟩ := List.getElem?_of_mem hv
  obtain ⟨u, _, hok⟩ := hc i v (by simpa using hi)
  exact plain_of_ok hok
/-- A value of one cell. -/
theorem one_of_ok {r : Reach} {base : Nat} {t : TypeId} {v : Value} (h : Value.okWide P w r base t v) (hs : ∀ fs, P.underlying t ≠ some (.struct fs)) (ha : ∀ n e, P.underlying t ≠ some (.array n e)) : v.cells = #[v] ∧ plainAt v := by
  have hc : Cell.okWide P w r base t v := by
    unfold Value.okWide at h
    split at h
    · rename_i fs hf; exact absurd hf (hs fs)
    · rename_i n e hf; exact absurd hf (ha n e)
    · exact h
  refine ⟨?_, plain_of_ok hc⟩
  cases v with
  | agg cs =>
    unfold Cell.okWide at hc
    split at hc <;> first | (rename_i h1 h2; cases h2; done) | skip
    unfold Cell.ok at hc
    split at hc <;> first | exact hc.elim | (rename_i h1 h2; cases h2; done)
  | _ => rfl
theorem agg_of_ok {r : Reach} {base : Nat} {t : TypeId} {v : Value} (h : Value.okWide P w r base t v) (hs : (∃ fs, P.underlying t = some (.struct fs)) ∨ ∃ n e, P.underlying t = some (.array n e)) : ∃ cs, v = .agg cs ∧ ∀ u ∈ cs.toList, plainAt u := by
  unfold Value.okWide at h
  split at h
  · obtain ⟨cs, rfl, _, hr⟩ := h; exact ⟨cs, rfl, row_plain hr⟩
  · obtain ⟨cs, rfl, _, hr⟩ := h; exact ⟨cs, rfl, row_plain hr⟩
  · rename_i h1 h2
    rcases hs with ⟨fs, hf⟩ | ⟨n, e, hf⟩
    · exact absurd hf (h1 fs)
    · exact absurd hf (h2 n e)
/-- What a type's shape says of the type. -/
def aggFact (P : Program) (t : TypeId) : Sh → Prop
  | .ar _ _ => ∃ n e, P.underlying t = some (.array n e)
  | .ag _ => ∃ fs, P.underlying t = some (.struct fs)
  | _ => (∀ fs, P.underlying t ≠ some (.struct fs)) ∧ ∀ n e, P.underlying t ≠ some (.array n e)
theorem shOf_agg {k : Nat} {t : TypeId} {s : Sh} (h : shOf P k t = some s) : aggFact P t s := by
  cases k with
  | zero => simp [shOf] at h
  | succ k =>
    simp only [shOf] at h
    split at h
    · rename_i ht; cases h; simp [aggFact, ht]
    · rename_i ht; cases h; simp [aggFact, ht]
    · rename_i ht; cases h; simp [aggFact, ht]
    · rename_i e ht
      split at h
      · rename_i s' hs
        cases hb : (Nat.beq (P.cellsOf e) (widthT s') && noSl s') <;> simp only [hb, cond_true, cond_false] at h
        · cases h
        · cases h; simp [aggFact, ht]
      · cases h
    · rename_i m e ht
      split at h
      · rename_i s' hs
        cases hb : (Nat.beq (P.cellsOf e) (widthT s') && Nat.beq (P.cellsOf t) (m * widthT s')) <;> simp only [hb, cond_true, cond_false] at h
        · cases h
        · cases h; exact ⟨_, _, ht⟩
      · cases h
    · rename_i fs ht
      split at h
      · rename_i l hl
        cases hb : Nat.beq (P.cellsOf t) (widthTs l) <;> simp only [hb, cond_true, cond_false] at h
        · cases h
        · cases h; exact ⟨_, ht⟩
      · cases h
    · cases h
theorem arg_reads {r : Reach} {base : Nat} {t : TypeId} {s : Sh} {v : Value} {d : DataW H} {ps : List MemPlace} (hs : shOf P 20 t = some s) (hv : Value.okWide P w r base t v) (hd : DataW.Trod enc P w 0 sp held t v d ps) :
    ∃ x : Ty s, wfT s x ∧ relV (Mw w) (argT s x) Pos.none v := by
  obtain ⟨n, hn⟩ := hd
  have hg := shOf_agg hs
  cases s with
  | ar m e =>
    obtain ⟨cs, rfl, hp⟩ := agg_of_ok hv (.inr hg)
    obtain ⟨x, h1, h2⟩ := reads_of_trod 20 _ _ _ _ _ hs (.inr hp) hn
    exact ⟨x, h1, by simp only [argT, relV]; exact ⟨cs, rfl, h2⟩⟩
  | ag l =>
    obtain ⟨cs, rfl, hp⟩ := agg_of_ok hv (.inl hg)
    obtain ⟨x, h1, h2⟩ := reads_of_trod 20 _ _ _ _ _ hs (.inr hp) hn
    exact ⟨x, h1, by simp only [argT, relV]; exact ⟨cs, rfl, h2⟩⟩
  | _ =>
    obtain ⟨h1, h2⟩ := one_of_ok hv hg.1 hg.2
    rw [h1] at hn
    obtain ⟨x, h3, h4⟩ := reads_of_trod 20 _ _ _ _ _ hs (.inr (by intro u hu; simp at hu; subst hu; exact h2)) hn
    refine ⟨x, h3, ?_⟩
    simp only [cellsT, relL] at h4
    obtain ⟨u, r, h5, h6, rfl⟩ := h4
    simp at h5; subst h5
    simpa only [argT] using h6
theorem args_read {r : Reach} {base : Nat} : ∀ {ts : List TypeId} {l : List Sh} {vs : List Value} {ds : List (DataW H)} {ps : List MemPlace}, shAll P ts = some l → (∀ (j : Nat) t v, ts[j]? = some t → vs[j]? = some v → Value.okWide P w r base t v) →
    DataW.TrodAll enc P w 0 sp held ts vs ds ps → ∃ x : Tys l, wfTs l x ∧ relL (Mw w) (argTs l x) Pos.none vs
  | [], l, vs, ds, ps, h, _, hd => by
    simp only [shAll] at h; cases h
    obtain ⟨rfl, rfl, rfl⟩ := trodAll_nil hd
    exact ⟨(), by simp only [wfTs], by simp [argTs, relL]⟩
  | t :: ts, l, vs, ds, ps, h, hv, hd => by
    simp only [shAll] at h
    split at h
    · rename_i s hs
      split at h
      · rename_i l' hl; cases h
        obtain ⟨v, vs', d, ds', p, q, rfl, rfl, rfl, h1, h2⟩ := trodAll_cons hd
        obtain ⟨x, h3, h4⟩ := arg_reads hs (hv 0 t v rfl rfl) h1
        obtain ⟨y, h5, h6⟩ := args_read hl (fun j t' v' hj hj' => hv (j + 1) t' v' (by simpa using hj) (by simpa using hj')) h2
        exact ⟨(x, y), by simp only [wfTs]; exact ⟨h3, h5⟩, by simp only [argTs, relL]; exact ⟨v, vs', rfl, h4, h6⟩⟩
      · cases h
    · cases h
theorem Mw_rel : Rel (Mw w) Pos.none Heap.nil w :=
  ⟨fun _ _ => rfl, fun _ _ => rfl, fun k cs h => by simp [Heap.get, Heap.nil, bget] at h, fun k cs h => by simp [Heap.get, Heap.nil, bget] at h, fun i j b s t h => by simp [Heap.get, Heap.nil, bget] at h, fun _ _ _ h => h, fun k b s h => by simp [Heap.get, Heap.nil, bget] at h⟩
/-- The arguments' types, as the reading behind the call wants them. -/
def plainTs (P : Program) (ts : List TypeId) : Bool := ts.all fun t => P.readableRec t && decide (t < P.types.size)
theorem trodAll_stays (hl : laidOutB P = true) {W W' : World} {sp' : Nat → Bool} : ∀ {ts : List TypeId} {vs : List Value} {ds : List (DataW H)} {ps : List MemPlace}, plainTs P ts = true → DataW.TrodAll enc P W 0 (fun _ => true) true ts vs ds ps →
    (∀ p ∈ ps, W.sameAt W' p) → (∀ p ∈ ps, sp' p.block = true) → DataW.TrodAll enc P W' 0 sp' true ts vs ds ps
  | [], _, _, _, _, h, _, _ => by obtain ⟨rfl, rfl, rfl⟩ := trodAll_nil h; exact trodAll_mk0
  | t :: ts, vs, ds, ps, ht, h, hs, hb => by
    obtain ⟨v, vs', d, ds', p, q, rfl, rfl, rfl, h1, h2⟩ := trodAll_cons h
    simp only [plainTs, List.all_cons, Bool.and_eq_true, decide_eq_true_eq] at ht
    refine trodAll_cons_mk (WideElems.Trod_stays hl ht.1.1 ht.1.2 h1 (fun p hp => hs p (by simp [hp])) (fun p hp => hb p (by simp [hp]))) (trodAll_stays hl (by simpa [plainTs] using ht.2) h2 (fun p hp => hs p (by simp [hp])) (fun p hp => hb p (by simp [hp])))
/-- **A CONTRACT OF THE ENGINE GIVES WHAT THE STATEMENT ASKS OF EACH CALL.** -/
theorem law_contract {f : FuncId} {fn : Func} {s : ChangeSpec} {l : List Sh} {tb : TypeId} (hsh : shAll P fn.params.toList = some l) (hl : laidOutB P = true) (hts : plainTs P fn.params.toList = true) (hvars : s.vars = []) (hres : fn.resultTypes = #[tb]) (htb : P.underlying tb = some .bool)
    (hfn : ∀ ds : List (DataW H), ds.length = fn.params.toList.length → s.fn H ds = { results := [.lit (.bool true)], args := ds })
    (hcall : ∀ x : Tys l, wfTs l x → CallA P f (argTs l x) Heap.nil fun v H' => v = .bool true ∧ H' = Heap.nil)
    (W : World) (base : Nat) (args : Array Value) (ds gs : List (DataW H)) (before : List MemPlace)
    (hval : ∀ (j : Nat) t v, fn.params[j]? = some t → args[j]? = some v → Value.okWide P W .any base t v)
    (hW : DataW.Whole enc P fn.params.toList s.vars false W args.toList ds gs before) :
    Calls P f args W fun e W' => ∃ v, e = .returned v ∧ s.post enc P fn false true false false W args v W' := by
  have hW' := hW
  obtain ⟨p, q, hA, hV, rfl, hz, _⟩ := hW
  rw [hvars] at hV
  obtain ⟨rfl, rfl⟩ := trodVars_none hV
  obtain ⟨x, hx, hrel⟩ := args_read hsh (fun j t v hj hj' => hval j t v (by simpa using hj) (by simpa using hj')) hA
  have hlt := hA.lt
  refine ((hcall x hx).run (Mw W) Pos.none W args Mw_rel hrel).mono ?_
  rintro e W' ⟨v, M', μ', H', c, rfl, R', hv, G, rfl, rfl⟩
  have hv := rel_bool hv
  subst hv
  have hB : Below W.heap.size W W' := ⟨G.grow.keep.os, G.grow.keep.tape, G.grow.keep.output, G.grow.keep.size, fun k hk => G.grow.keep.block k hk own_nil⟩
  have hlen : ds.length = fn.params.toList.length := by
    have : ∀ {ts : List TypeId} {vs : List Value} {ds : List (DataW H)} {ps : List MemPlace}, DataW.TrodAll enc P W 0 (fun _ => true) true ts vs ds ps → ds.length = ts.length := by
      intro ts
      induction ts with
      | nil => intro vs ds ps h; obtain ⟨_, rfl, _⟩ := trodAll_nil h; rfl
      | cons t ts ih => intro vs ds ps h; obtain ⟨v, vs', d, ds', p, q, rfl, rfl, rfl, _, h2⟩ := trodAll_cons h; simp [ih h2]
    exact this hA
  refine ⟨_, rfl, ds, [], p ++ [], [], p, [], hW', ?_, ?_, ?_, ?_, fun h => by cases h⟩
  · rw [List.append_nil, hfn ds hlen, hres]
    exact trodAll_cons_mk (shut_bool htb true) trodAll_mk0
  · rw [List.append_nil, hfn ds hlen]
    exact trodAll_stays hl hts hA (fun p hp => hB.same (hlt p hp)) (fun p hp => by simpa using hlt p hp)
  · rw [List.append_nil, hfn ds hlen, hvars]
    rfl
  · exact hB.frame _
end
end Go.Eng

set_option maxRecDepth 100000
namespace Go.Proofs
open Go Go.Eng
/-- simulacrum/simulacrumlaw37.TokenIsHeldByOne -/
def ac3 : AC := (.seq (.reg [⟨some 6, .p (.mov (.c (.bool false))), none⟩])
  (.seq (.seq (.reg [⟨some 10, .p (.mov (.t 0)), none⟩,
    ⟨some 11, .p (.len false (.t 10)), none⟩,
    ⟨some 12, .p (.bin .gtr (.t 11) (.c (.int .i64 150))), none⟩])
  (.cond (.t 12) (.seq (.reg [⟨some 13, .call 8 [], none⟩,
    ⟨some 6, .p (.mov (.t 13)), none⟩])
  .ret) .skip))
  (.seq (.reg [⟨some 14, .call 9 [], none⟩,
    ⟨some 7, .h (.alloc [(.int .i64 0), (.int .i64 0), (.int .i64 0), (.bool false), (.bool false), (.bool false), (.int .i64 0), (.int .i64 0), (.int .i64 0), (.int .i64 0), (.int .i64 0), (.int .i64 0), (.int .i64 0), (.int .i64 0), (.bool false), (.bool false), (.bool false), (.int .i64 0), (.int .i64 0), (.int .i64 0), (.int .i64 0), (.int .i64 0), (.int .i64 0), (.int .i64 0), (.int .i64 0), (.bool false), (.bool false), (.bool false), (.int .i64 0), (.int .i64 0), (.int .i64 0), (.int .i64 0), (.int .i64 0), (.int .i64 0), .nils, (.int .i64 0), .nils, (.int .i64 0), .nils, .nils, .nils, (.int .i64 0), .nilm, .nilm, .nilm]), none⟩,
    ⟨none, .h (.store 45 (.t 7) (.t 14)), none⟩])
  (.seq (.seq (.reg [⟨some 15, .p (.mov (.t 0)), none⟩,
    ⟨some 16, .p (.len false (.t 15)), none⟩,
    ⟨some 17, .p (.mov (.c (.int .i64 0))), none⟩])
  (.block 0 (.loop (.seq (.reg [⟨some 18, .p (.bin .lss (.t 17) (.t 16)), none⟩])
  (.seq (.cond (.t 18) .skip (.exit 0))
  (.seq (.block 1 (.seq (.reg [⟨some 19, .p (.mov (.t 17)), none⟩,
    ⟨some 20, .p (.idxA 4 none (.t 15) (.t 17)), none⟩,
    ⟨some 21, .h (.load true 4 (.t 20)), none⟩,
    ⟨some 9, .h (.alloc [(.int .u8 0), (.int .u8 0), (.int .u8 0), (.int .u8 0)]), none⟩,
    ⟨some 8, .p (.mov (.t 19)), none⟩,
    ⟨none, .h (.store 4 (.t 9) (.t 21)), none⟩])
  (.seq (.seq (.reg [⟨some 22, .p (.mov (.t 8)), none⟩,
    ⟨some 23, .p (.mov (.t 2)), none⟩,
    ⟨some 24, .p (.conv .i64 (.t 23)), none⟩,
    ⟨some 25, .p (.bin .eql (.t 22) (.t 24)), none⟩])
  (.cond (.t 25) (.reg [⟨some 26, .p (.mov (.t 1)), none⟩,
    ⟨some 27, .p (.binw .rem (.t 26) (.c (.int .u8 3))), none⟩,
    ⟨some 28, .p (.conv .i64 (.t 27)), none⟩,
    ⟨some 29, .p (.fieldA 41 (.t 7)), none⟩,
    ⟨none, .h (.store 1 (.t 29) (.t 28)), none⟩]) .skip))
  (.seq (.reg [⟨some 30, .h (.load true 4 (.t 9)), none⟩,
    ⟨some 31, .call 10 [(.t 7), (.t 30)], none⟩,
    ⟨some 32, .p (.un .not (.t 31)), none⟩])
  (.cond (.t 32) (.seq (.reg [⟨some 6, .p (.mov (.c (.bool false))), none⟩])
  .ret) .skip)))))
  (.reg [⟨some 33, .p (.bin .add (.t 17) (.c (.int .i64 1))), none⟩,
    ⟨some 17, .p (.mov (.t 33)), none⟩])))))))
  (.seq (.reg [⟨some 34, .call 8 [], none⟩,
    ⟨some 6, .p (.mov (.t 34)), none⟩])
  .ret)))))
def rs3 : List AR := [.tmp 6]
theorem ok3 : okF Try.prog 3 35 ac3 rs3 = true := by kernel_rfl
/-- simulacrum/simulacrumlaw37.TokenCanBeHad -/
def ac4 : AC := (.seq (.reg [⟨some 8, .p (.mov (.c (.bool false))), none⟩])
  (.seq (.seq (.reg [⟨some 24, .p (.mov (.t 0)), none⟩,
    ⟨some 25, .p (.len false (.t 24)), none⟩,
    ⟨some 26, .p (.bin .gtr (.t 25) (.c (.int .i64 100))), none⟩])
  (.cond (.t 26) (.seq (.reg [⟨some 27, .call 8 [], none⟩,
    ⟨some 8, .p (.mov (.t 27)), none⟩])
  .ret) .skip))
  (.seq (.reg [⟨some 28, .call 9 [], none⟩,
    ⟨some 9, .h (.alloc [(.int .i64 0), (.int .i64 0), (.int .i64 0), (.bool false), (.bool false), (.bool false), (.int .i64 0), (.int .i64 0), (.int .i64 0), (.int .i64 0), (.int .i64 0), (.int .i64 0), (.int .i64 0), (.int .i64 0), (.bool false), (.bool false), (.bool false), (.int .i64 0), (.int .i64 0), (.int .i64 0), (.int .i64 0), (.int .i64 0), (.int .i64 0), (.int .i64 0), (.int .i64 0), (.bool false), (.bool false), (.bool false), (.int .i64 0), (.int .i64 0), (.int .i64 0), (.int .i64 0), (.int .i64 0), (.int .i64 0), .nils, (.int .i64 0), .nils, (.int .i64 0), .nils, .nils, .nils, (.int .i64 0), .nilm, .nilm, .nilm]), none⟩,
    ⟨none, .h (.store 45 (.t 9) (.t 28)), none⟩])
  (.seq (.seq (.reg [⟨some 29, .p (.mov (.t 0)), none⟩,
    ⟨some 30, .p (.len false (.t 29)), none⟩,
    ⟨some 31, .p (.mov (.c (.int .i64 0))), none⟩])
  (.block 0 (.loop (.seq (.reg [⟨some 32, .p (.bin .lss (.t 31) (.t 30)), none⟩])
  (.seq (.cond (.t 32) .skip (.exit 0))
  (.seq (.block 1 (.seq (.reg [⟨some 33, .p (.idxA 4 none (.t 29) (.t 31)), none⟩,
    ⟨some 34, .h (.load true 4 (.t 33)), none⟩,
    ⟨some 11, .h (.alloc [(.int .u8 0), (.int .u8 0), (.int .u8 0), (.int .u8 0)]), none⟩,
    ⟨none, .h (.store 4 (.t 11) (.t 34)), none⟩])
  (.seq (.reg [⟨some 35, .h (.load true 4 (.t 11)), none⟩,
    ⟨some 36, .call 10 [(.t 9), (.t 35)], none⟩,
    ⟨some 37, .p (.un .not (.t 36)), none⟩])
  (.cond (.t 37) (.seq (.reg [⟨some 8, .p (.mov (.c (.bool false))), none⟩])
  .ret) .skip))))
  (.reg [⟨some 38, .p (.bin .add (.t 31) (.c (.int .i64 1))), none⟩,
    ⟨some 31, .p (.mov (.t 38)), none⟩])))))))
  (.seq (.reg [⟨some 39, .p (.mov (.t 1)), none⟩,
    ⟨some 40, .p (.binw .rem (.t 39) (.c (.int .u8 3))), none⟩,
    ⟨some 41, .p (.fieldA 0 (.t 9)), none⟩,
    ⟨some 42, .p (.idxA 11 (some 3) (.t 41) (.t 40)), none⟩,
    ⟨some 43, .h (.load true 11 (.t 42)), none⟩,
    ⟨some 12, .h (.alloc [(.int .i64 0), (.int .i64 0), (.int .i64 0), (.bool false), (.bool false), (.bool false), (.int .i64 0), (.int .i64 0), (.int .i64 0), (.int .i64 0), (.int .i64 0)]), none⟩,
    ⟨none, .h (.store 11 (.t 12) (.t 43)), none⟩])
  (.seq (.reg [⟨some 44, .p (.fieldA 2 (.t 12)), none⟩,
    ⟨some 45, .h (.load false 1 (.t 44)), none⟩,
    ⟨some 46, .p (.fieldA 10 (.t 12)), none⟩,
    ⟨some 47, .h (.load false 1 (.t 46)), none⟩,
    ⟨some 48, .p (.mm true (.t 45) (.t 47)), none⟩,
    ⟨some 13, .p (.mov (.t 48)), none⟩])
  (.seq (.seq (.reg [⟨some 49, .p (.fieldA 33 (.t 9)), none⟩,
    ⟨some 50, .h (.load true 6 (.t 49)), none⟩,
    ⟨some 51, .p (.mov (.c (.int .i64 0))), none⟩])
  (.block 2 (.loop (.seq (.reg [⟨some 52, .p (.bin .lss (.t 51) (.c (.int .i64 3))), none⟩])
  (.seq (.cond (.t 52) .skip (.exit 2))
  (.seq (.block 3 (.seq (.reg [⟨some 53, .v (.idx true 2 3 (.t 50) (.t 51)), none⟩,
    ⟨some 15, .h (.alloc [(.int .i64 0), .nils]), none⟩,
    ⟨none, .h (.store 2 (.t 15) (.t 53)), none⟩])
  (.seq (.reg [⟨some 54, .p (.fieldA 1 (.t 15)), none⟩,
    ⟨some 55, .h (.load false 1 (.t 54)), none⟩,
    ⟨some 56, .p (.len false (.t 55)), none⟩,
    ⟨some 57, .p (.mov (.c (.int .i64 0))), none⟩])
  (.block 4 (.loop (.seq (.reg [⟨some 58, .p (.bin .lss (.t 57) (.t 56)), none⟩])
  (.seq (.cond (.t 58) .skip (.exit 4))
  (.seq (.block 5 (.seq (.reg [⟨some 59, .p (.idxA 4 none (.t 55) (.t 57)), none⟩,
    ⟨some 60, .h (.load true 4 (.t 59)), none⟩,
    ⟨some 17, .h (.alloc [(.int .i64 0), (.int .i64 0), (.int .i64 0), (.int .i64 0)]), none⟩,
    ⟨none, .h (.store 4 (.t 17) (.t 60)), none⟩])
  (.reg [⟨some 61, .p (.mov (.t 13)), none⟩,
    ⟨some 62, .p (.fieldA 1 (.t 17)), none⟩,
    ⟨some 63, .h (.load false 1 (.t 62)), none⟩,
    ⟨some 64, .p (.mm true (.t 61) (.t 63)), none⟩,
    ⟨some 13, .p (.mov (.t 64)), none⟩])))
  (.reg [⟨some 65, .p (.bin .add (.t 57) (.c (.int .i64 1))), none⟩,
    ⟨some 57, .p (.mov (.t 65)), none⟩])))))))))
  (.reg [⟨some 66, .p (.bin .add (.t 51) (.c (.int .i64 1))), none⟩,
    ⟨some 51, .p (.mov (.t 66)), none⟩])))))))
  (.seq (.reg [⟨some 68, .h (.load true 11 (.t 12)), none⟩,
    ⟨some 69, .p (.mov (.t 13)), none⟩,
    ⟨some 70, .p (.bin .add (.t 69) (.c (.int .i64 1))), none⟩,
    ⟨some 71, .call 11 [(.t 68), (.t 70)], none⟩,
    ⟨some 67, .p (.mov (.t 71)), none⟩,
    ⟨some 72, .p (.extract 0 (.t 67)), none⟩,
    ⟨some 73, .p (.extract 1 (.t 67)), none⟩,
    ⟨some 74, .p (.extract 2 (.t 67)), none⟩,
    ⟨some 18, .h (.alloc [(.int .i64 0), (.int .i64 0), (.int .i64 0), (.int .i64 0), (.int .i64 0)]), none⟩,
    ⟨none, .h (.store 11 (.t 12) (.t 72)), none⟩,
    ⟨none, .h (.store 5 (.t 18) (.t 73)), none⟩,
    ⟨some 19, .p (.mov (.t 74)), none⟩])
  (.seq (.seq (.reg [⟨some 75, .p (.mov (.t 19)), none⟩,
    ⟨some 76, .p (.bin .neq (.t 75) (.c (.int .i64 0))), none⟩])
  (.cond (.t 76) (.seq (.reg [⟨some 8, .p (.mov (.c (.bool false))), none⟩])
  .ret) .skip))
  (.seq (.reg [⟨some 77, .p (.mov (.t 2)), none⟩,
    ⟨some 78, .p (.conv .i64 (.t 77)), none⟩,
    ⟨some 79, .p (.bin .add (.t 78) (.c (.int .i64 1))), none⟩,
    ⟨some 80, .p (.bin .rem (.t 79) (.c (.int .i64 3))), none⟩,
    ⟨some 81, .p (.mov (.t 2)), none⟩,
    ⟨some 82, .p (.conv .i64 (.t 81)), none⟩,
    ⟨some 83, .p (.bin .add (.t 82) (.c (.int .i64 2))), none⟩,
    ⟨some 84, .p (.bin .rem (.t 83) (.c (.int .i64 3))), none⟩,
    ⟨some 20, .p (.mov (.t 80)), none⟩,
    ⟨some 21, .p (.mov (.t 84)), none⟩])
  (.seq (.reg [⟨some 86, .p (.fieldA 33 (.t 9)), none⟩,
    ⟨some 87, .h (.load true 11 (.t 12)), none⟩,
    ⟨some 88, .h (.load true 5 (.t 18)), none⟩,
    ⟨some 89, .p (.mov (.t 20)), none⟩,
    ⟨some 90, .p (.mov (.t 21)), none⟩,
    ⟨some 91, .d (.bslice 1 2 [(.int .i64 0)] [(0, (.t 89)), (1, (.t 90))]), none⟩,
    ⟨some 92, .call 12 [(.t 86), (.t 87), (.t 88), (.t 91)], none⟩,
    ⟨some 85, .p (.mov (.t 92)), none⟩,
    ⟨some 93, .p (.extract 0 (.t 85)), none⟩,
    ⟨some 94, .p (.extract 1 (.t 85)), none⟩,
    ⟨none, .h (.store 11 (.t 12) (.t 93)), none⟩,
    ⟨some 22, .p (.mov (.t 94)), none⟩])
  (.seq (.seq (.reg [⟨some 95, .p (.mov (.t 22)), none⟩,
    ⟨some 96, .p (.un .not (.t 95)), none⟩,
    ⟨some 97, .p (.mov (.t 96)), none⟩,
    ⟨some 98, .h (.load true 11 (.t 12)), (some (97, false))⟩,
    ⟨some 99, .call 13 [(.t 98)], (some (97, false))⟩,
    ⟨some 100, .p (.un .not (.t 99)), (some (97, false))⟩,
    ⟨some 101, .p (.pick (.t 97) (.c (.bool true)) (.t 100)), none⟩])
  (.cond (.t 101) (.seq (.reg [⟨some 8, .p (.mov (.c (.bool false))), none⟩])
  .ret) .skip))
  (.seq (.reg [⟨some 103, .h (.load true 11 (.t 12)), none⟩,
    ⟨some 104, .p (.mov (.t 3)), none⟩,
    ⟨some 105, .p (.conv .i64 (.t 104)), none⟩,
    ⟨some 106, .call 14 [(.t 103), (.t 105)], none⟩,
    ⟨some 102, .p (.mov (.t 106)), none⟩,
    ⟨some 107, .p (.extract 0 (.t 102)), none⟩,
    ⟨some 108, .p (.extract 1 (.t 102)), none⟩,
    ⟨none, .h (.store 5 (.t 18) (.t 107)), none⟩,
    ⟨some 19, .p (.mov (.t 108)), none⟩])
  (.seq (.reg [⟨some 110, .p (.fieldA 33 (.t 9)), none⟩,
    ⟨some 111, .h (.load true 11 (.t 12)), none⟩,
    ⟨some 112, .h (.load true 5 (.t 18)), none⟩,
    ⟨some 113, .p (.mov (.t 20)), none⟩,
    ⟨some 114, .p (.mov (.t 21)), none⟩,
    ⟨some 115, .d (.bslice 1 2 [(.int .i64 0)] [(0, (.t 113)), (1, (.t 114))]), none⟩,
    ⟨some 116, .call 12 [(.t 110), (.t 111), (.t 112), (.t 115)], none⟩,
    ⟨some 109, .p (.mov (.t 116)), none⟩,
    ⟨some 117, .p (.extract 0 (.t 109)), none⟩,
    ⟨some 118, .p (.extract 1 (.t 109)), none⟩,
    ⟨none, .h (.store 11 (.t 12) (.t 117)), none⟩,
    ⟨some 23, .p (.mov (.t 118)), none⟩])
  (.seq (.reg [⟨some 119, .call 8 [], none⟩,
    ⟨some 120, .p (.mov (.t 119)), none⟩,
    ⟨some 121, .p (.mov (.t 19)), (some (120, true))⟩,
    ⟨some 122, .p (.bin .eql (.t 121) (.c (.int .i64 0))), (some (120, true))⟩,
    ⟨some 123, .p (.pick (.t 120) (.t 122) (.c (.bool false))), none⟩,
    ⟨some 124, .p (.mov (.t 123)), none⟩,
    ⟨some 125, .p (.mov (.t 23)), (some (124, true))⟩,
    ⟨some 126, .p (.pick (.t 124) (.t 125) (.c (.bool false))), none⟩,
    ⟨some 127, .p (.mov (.t 126)), none⟩,
    ⟨some 128, .h (.load true 11 (.t 12)), (some (127, true))⟩,
    ⟨some 129, .call 15 [(.t 128)], (some (127, true))⟩,
    ⟨some 130, .p (.mov (.t 3)), (some (127, true))⟩,
    ⟨some 131, .p (.conv .i64 (.t 130)), (some (127, true))⟩,
    ⟨some 132, .p (.bin .eql (.t 129) (.t 131)), (some (127, true))⟩,
    ⟨some 133, .p (.pick (.t 127) (.t 132) (.c (.bool false))), none⟩,
    ⟨some 8, .p (.mov (.t 133)), none⟩])
  .ret)))))))))))))))
def rs4 : List AR := [.tmp 8]
theorem ok4 : okF Try.prog 4 134 ac4 rs4 = true := by kernel_rfl
/-- simulacrum/simulacrumlaw37.TokenHoldsAsSpecified -/
def ac6 : AC := (.seq (.reg [⟨some 3, .h (.box (.t 0)), none⟩,
    ⟨some 5, .h (.box (.t 2)), none⟩,
    ⟨some 6, .p (.mov (.c (.bool false))), none⟩])
  (.seq (.seq (.draw 5 [] [⟨some 15, .h (.load true 11 (.t 3)), none⟩,
    ⟨some 16, .call 19 [(.t 15)], none⟩,
    ⟨some 17, .h (.load true 11 (.t 3)), none⟩,
    ⟨some 18, .call 20 [(.t 17)], none⟩,
    ⟨some 19, .p (.beq true (.t 16) (.t 18)), none⟩])
  (.cond (.t 19) (.seq (.reg [⟨some 6, .p (.mov (.c (.bool false))), none⟩])
  .ret) .skip))
  (.seq (.seq (.reg [⟨some 20, .h (.load true 11 (.t 3)), none⟩,
    ⟨some 21, .call 20 [(.t 20)], none⟩,
    ⟨some 22, .p (.un .not (.t 21)), none⟩])
  (.cond (.t 22) (.seq (.reg [⟨some 23, .call 8 [], none⟩,
    ⟨some 6, .p (.mov (.t 23)), none⟩])
  .ret) .skip))
  (.seq (.reg [⟨some 25, .h (.load true 11 (.t 3)), none⟩,
    ⟨some 26, .p (.mov (.t 1)), none⟩,
    ⟨some 27, .call 11 [(.t 25), (.t 26)], none⟩,
    ⟨some 24, .p (.mov (.t 27)), none⟩,
    ⟨some 28, .p (.extract 0 (.t 24)), none⟩,
    ⟨some 29, .p (.extract 1 (.t 24)), none⟩,
    ⟨some 30, .p (.extract 2 (.t 24)), none⟩,
    ⟨some 7, .h (.alloc [(.int .i64 0), (.int .i64 0), (.int .i64 0), (.bool false), (.bool false), (.bool false), (.int .i64 0), (.int .i64 0), (.int .i64 0), (.int .i64 0), (.int .i64 0)]), none⟩,
    ⟨some 8, .h (.alloc [(.int .i64 0), (.int .i64 0), (.int .i64 0), (.int .i64 0), (.int .i64 0)]), none⟩,
    ⟨none, .h (.store 11 (.t 7) (.t 28)), none⟩,
    ⟨none, .h (.store 5 (.t 8) (.t 29)), none⟩,
    ⟨some 9, .p (.mov (.t 30)), none⟩])
  (.seq (.reg [⟨some 32, .h (.load true 11 (.t 3)), none⟩,
    ⟨some 33, .p (.mov (.t 1)), none⟩,
    ⟨some 34, .call 14 [(.t 32), (.t 33)], none⟩,
    ⟨some 31, .p (.mov (.t 34)), none⟩,
    ⟨some 35, .p (.extract 0 (.t 31)), none⟩,
    ⟨some 36, .p (.extract 1 (.t 31)), none⟩,
    ⟨some 10, .h (.alloc [(.int .i64 0), (.int .i64 0), (.int .i64 0), (.int .i64 0), (.int .i64 0)]), none⟩,
    ⟨none, .h (.store 5 (.t 10) (.t 35)), none⟩,
    ⟨some 11, .p (.mov (.t 36)), none⟩])
  (.seq (.draw 10 [(6, 8), (0, 8), (7, 8), (7, 9), (8, 9), (0, 9), (3, 9), (6, 9)] [⟨some 37, .h (.load true 11 (.t 3)), none⟩,
    ⟨some 38, .p (.mov (.t 1)), none⟩,
    ⟨some 39, .call 21 [(.t 37), (.t 38)], none⟩,
    ⟨some 40, .h (.load true 11 (.t 3)), none⟩,
    ⟨some 41, .p (.mov (.t 1)), none⟩,
    ⟨some 42, .call 22 [(.t 40), (.t 41)], none⟩,
    ⟨some 12, .h (.alloc [(.int .i64 0), (.int .i64 0), (.int .i64 0), (.bool false), (.bool false), (.bool false), (.int .i64 0), (.int .i64 0), (.int .i64 0), (.int .i64 0), (.int .i64 0), (.int .i64 0), (.int .i64 0), (.int .i64 0), (.int .i64 0), (.int .i64 0), (.int .i64 0)]), none⟩,
    ⟨some 13, .h (.alloc [(.int .i64 0), (.int .i64 0), (.int .i64 0), (.bool false), (.bool false), (.bool false), (.int .i64 0), (.int .i64 0), (.int .i64 0), (.int .i64 0), (.int .i64 0), (.int .i64 0), (.int .i64 0), (.int .i64 0), (.int .i64 0), (.int .i64 0), (.int .i64 0)]), none⟩,
    ⟨none, .h (.store 17 (.t 12) (.t 39)), none⟩,
    ⟨none, .h (.store 17 (.t 13) (.t 42)), none⟩])
  (.seq (.reg [⟨some 43, .h (.load true 11 (.t 3)), none⟩,
    ⟨some 44, .h (.load true 9 (.t 5)), none⟩,
    ⟨some 45, .call 23 [(.t 43), (.t 44)], none⟩,
    ⟨some 14, .h (.alloc [(.int .i64 0), (.int .i64 0), (.int .i64 0), (.bool false), (.bool false), (.bool false), (.int .i64 0), (.int .i64 0), (.int .i64 0), (.int .i64 0), (.int .i64 0)]), none⟩,
    ⟨none, .h (.store 11 (.t 14) (.t 45)), none⟩])
  (.seq (.draw 61 [] [⟨some 46, .call 8 [], none⟩,
    ⟨some 47, .p (.mov (.t 46)), none⟩,
    ⟨some 48, .h (.load true 11 (.t 7)), (some (47, true))⟩,
    ⟨some 49, .p (.fieldA 0 (.t 12)), (some (47, true))⟩,
    ⟨some 50, .h (.load true 11 (.t 49)), (some (47, true))⟩,
    ⟨some 51, .v (.eqa false [(.i .i64), (.i .i64), (.i .i64), .b, .b, .b, (.i .i64), (.i .i64), (.i .i64), (.i .i64), (.i .i64)] (.t 48) (.t 50)), (some (47, true))⟩,
    ⟨some 52, .p (.pick (.t 47) (.t 51) (.c (.bool false))), none⟩,
    ⟨some 53, .p (.mov (.t 52)), none⟩,
    ⟨some 54, .h (.load true 5 (.t 8)), (some (53, true))⟩,
    ⟨some 55, .p (.fieldA 11 (.t 12)), (some (53, true))⟩,
    ⟨some 56, .h (.load true 5 (.t 55)), (some (53, true))⟩,
    ⟨some 57, .v (.eqa false [(.i .i64), (.i .i64), (.i .i64), (.i .i64), (.i .i64)] (.t 54) (.t 56)), (some (53, true))⟩,
    ⟨some 58, .p (.pick (.t 53) (.t 57) (.c (.bool false))), none⟩,
    ⟨some 59, .p (.mov (.t 58)), none⟩,
    ⟨some 60, .p (.mov (.t 9)), (some (59, true))⟩,
    ⟨some 61, .p (.fieldA 16 (.t 12)), (some (59, true))⟩,
    ⟨some 62, .h (.load false 1 (.t 61)), (some (59, true))⟩,
    ⟨some 63, .p (.bin .eql (.t 60) (.t 62)), (some (59, true))⟩,
    ⟨some 64, .p (.pick (.t 59) (.t 63) (.c (.bool false))), none⟩,
    ⟨some 65, .p (.mov (.t 64)), none⟩,
    ⟨some 66, .h (.load true 5 (.t 10)), (some (65, true))⟩,
    ⟨some 67, .p (.fieldA 11 (.t 13)), (some (65, true))⟩,
    ⟨some 68, .h (.load true 5 (.t 67)), (some (65, true))⟩,
    ⟨some 69, .v (.eqa false [(.i .i64), (.i .i64), (.i .i64), (.i .i64), (.i .i64)] (.t 66) (.t 68)), (some (65, true))⟩,
    ⟨some 70, .p (.pick (.t 65) (.t 69) (.c (.bool false))), none⟩,
    ⟨some 71, .p (.mov (.t 70)), none⟩,
    ⟨some 72, .p (.mov (.t 11)), (some (71, true))⟩,
    ⟨some 73, .p (.fieldA 16 (.t 13)), (some (71, true))⟩,
    ⟨some 74, .h (.load false 1 (.t 73)), (some (71, true))⟩,
    ⟨some 75, .p (.bin .eql (.t 72) (.t 74)), (some (71, true))⟩,
    ⟨some 76, .p (.pick (.t 71) (.t 75) (.c (.bool false))), none⟩,
    ⟨some 77, .p (.mov (.t 76)), none⟩,
    ⟨some 78, .h (.load true 11 (.t 14)), (some (77, true))⟩,
    ⟨some 79, .h (.load true 11 (.t 3)), (some (77, true))⟩,
    ⟨some 80, .h (.load true 9 (.t 5)), (some (77, true))⟩,
    ⟨some 81, .call 24 [(.t 79), (.t 80)], (some (77, true))⟩,
    ⟨some 82, .v (.eqa false [(.i .i64), (.i .i64), (.i .i64), .b, .b, .b, (.i .i64), (.i .i64), (.i .i64), (.i .i64), (.i .i64)] (.t 78) (.t 81)), (some (77, true))⟩,
    ⟨some 83, .p (.pick (.t 77) (.t 82) (.c (.bool false))), none⟩,
    ⟨some 84, .p (.mov (.t 83)), none⟩,
    ⟨some 85, .h (.load true 11 (.t 3)), (some (84, true))⟩,
    ⟨some 86, .call 13 [(.t 85)], (some (84, true))⟩,
    ⟨some 87, .h (.load true 11 (.t 3)), (some (84, true))⟩,
    ⟨some 88, .call 25 [(.t 87)], (some (84, true))⟩,
    ⟨some 89, .p (.beq false (.t 86) (.t 88)), (some (84, true))⟩,
    ⟨some 90, .p (.pick (.t 84) (.t 89) (.c (.bool false))), none⟩,
    ⟨some 91, .p (.mov (.t 90)), none⟩,
    ⟨some 92, .h (.load true 11 (.t 3)), (some (91, true))⟩,
    ⟨some 93, .call 15 [(.t 92)], (some (91, true))⟩,
    ⟨some 94, .h (.load true 11 (.t 3)), (some (91, true))⟩,
    ⟨some 95, .call 26 [(.t 94)], (some (91, true))⟩,
    ⟨some 96, .p (.bin .eql (.t 93) (.t 95)), (some (91, true))⟩,
    ⟨some 97, .p (.pick (.t 91) (.t 96) (.c (.bool false))), none⟩,
    ⟨some 98, .p (.mov (.t 97)), none⟩,
    ⟨some 99, .h (.load true 11 (.t 7)), (some (98, true))⟩,
    ⟨some 100, .call 19 [(.t 99)], (some (98, true))⟩,
    ⟨some 101, .p (.pick (.t 98) (.t 100) (.c (.bool false))), none⟩,
    ⟨some 102, .p (.mov (.t 101)), none⟩,
    ⟨some 103, .h (.load true 11 (.t 14)), (some (102, true))⟩,
    ⟨some 104, .call 19 [(.t 103)], (some (102, true))⟩,
    ⟨some 105, .p (.pick (.t 102) (.t 104) (.c (.bool false))), none⟩,
    ⟨some 6, .p (.mov (.t 105)), none⟩])
  .ret))))))))
def rs6 : List AR := [.tmp 6]
theorem ok6 : okF Try.prog 6 106 ac6 rs6 = true := by kernel_rfl
/-- simulacrum/simulacrumlaw37.TokenHearsAsSpecified -/
def ac7 : AC := (.seq (.reg [⟨some 2, .h (.box (.t 0)), none⟩,
    ⟨some 3, .h (.box (.t 1)), none⟩,
    ⟨some 4, .p (.mov (.c (.bool false))), none⟩])
  (.seq (.seq (.reg [⟨some 9, .p (.fieldA 1 (.t 2)), none⟩,
    ⟨some 10, .h (.load false 1 (.t 9)), none⟩,
    ⟨some 11, .p (.len false (.t 10)), none⟩,
    ⟨some 12, .p (.bin .gtr (.t 11) (.c (.int .i64 70))), none⟩])
  (.cond (.t 12) (.seq (.reg [⟨some 13, .call 8 [], none⟩,
    ⟨some 4, .p (.mov (.t 13)), none⟩])
  .ret) .skip))
  (.seq (.seq (.draw 5 [] [⟨some 14, .h (.load true 2 (.t 2)), none⟩,
    ⟨some 15, .call 27 [(.t 14)], none⟩,
    ⟨some 16, .h (.load true 2 (.t 2)), none⟩,
    ⟨some 17, .call 16 [(.t 16)], none⟩,
    ⟨some 18, .p (.beq true (.t 15) (.t 17)), none⟩])
  (.cond (.t 18) (.seq (.reg [⟨some 4, .p (.mov (.c (.bool false))), none⟩])
  .ret) .skip))
  (.seq (.seq (.reg [⟨some 19, .h (.load true 2 (.t 2)), none⟩,
    ⟨some 20, .call 16 [(.t 19)], none⟩,
    ⟨some 21, .p (.un .not (.t 20)), none⟩])
  (.cond (.t 21) (.seq (.reg [⟨some 22, .call 8 [], none⟩,
    ⟨some 4, .p (.mov (.t 22)), none⟩])
  .ret) .skip))
  (.seq (.reg [⟨some 24, .h (.load true 2 (.t 2)), none⟩,
    ⟨some 25, .h (.load true 5 (.t 3)), none⟩,
    ⟨some 26, .call 17 [(.t 24), (.t 25)], none⟩,
    ⟨some 23, .p (.mov (.t 26)), none⟩,
    ⟨some 27, .p (.extract 0 (.t 23)), none⟩,
    ⟨some 28, .p (.extract 1 (.t 23)), none⟩,
    ⟨some 29, .p (.extract 2 (.t 23)), none⟩,
    ⟨some 5, .h (.alloc [(.int .i64 0), .nils]), none⟩,
    ⟨some 6, .h (.alloc [(.int .i64 0), (.int .i64 0), (.int .i64 0), (.int .i64 0), (.int .i64 0), (.int .i64 0), (.bool false), (.int .i64 0), (.int .i64 0)]), none⟩,
    ⟨none, .h (.store 2 (.t 5) (.t 27)), none⟩,
    ⟨none, .h (.store 9 (.t 6) (.t 28)), none⟩,
    ⟨some 7, .p (.mov (.t 29)), none⟩])
  (.seq (.reg [⟨some 30, .h (.load true 2 (.t 2)), none⟩,
    ⟨some 31, .h (.load true 5 (.t 3)), none⟩,
    ⟨some 32, .call 28 [(.t 30), (.t 31)], none⟩,
    ⟨some 8, .h (.alloc [(.int .i64 0), .nils, (.int .i64 0), (.int .i64 0), (.int .i64 0), (.int .i64 0), (.int .i64 0), (.int .i64 0), (.bool false), (.int .i64 0), (.int .i64 0), (.int .i64 0)]), none⟩,
    ⟨none, .h (.store 12 (.t 8) (.t 32)), none⟩])
  (.seq (.reg [⟨some 33, .call 8 [], none⟩,
    ⟨some 34, .p (.mov (.t 33)), none⟩,
    ⟨some 35, .h (.load true 2 (.t 5)), (some (34, true))⟩,
    ⟨some 36, .p (.fieldA 0 (.t 8)), (some (34, true))⟩,
    ⟨some 37, .h (.load true 2 (.t 36)), (some (34, true))⟩,
    ⟨some 38, .call 18 [(.t 35), (.t 37)], (some (34, true))⟩,
    ⟨some 39, .p (.pick (.t 34) (.t 38) (.c (.bool false))), none⟩,
    ⟨some 40, .p (.mov (.t 39)), none⟩,
    ⟨some 41, .h (.load true 9 (.t 6)), (some (40, true))⟩,
    ⟨some 42, .p (.fieldA 2 (.t 8)), (some (40, true))⟩,
    ⟨some 43, .h (.load true 9 (.t 42)), (some (40, true))⟩,
    ⟨some 44, .v (.eqa false [(.i .i64), (.i .i64), (.i .i64), (.i .i64), (.i .i64), (.i .i64), .b, (.i .i64), (.i .i64)] (.t 41) (.t 43)), (some (40, true))⟩,
    ⟨some 45, .p (.pick (.t 40) (.t 44) (.c (.bool false))), none⟩,
    ⟨some 46, .p (.mov (.t 45)), none⟩,
    ⟨some 47, .p (.mov (.t 7)), (some (46, true))⟩,
    ⟨some 48, .p (.fieldA 11 (.t 8)), (some (46, true))⟩,
    ⟨some 49, .h (.load false 1 (.t 48)), (some (46, true))⟩,
    ⟨some 50, .p (.bin .eql (.t 47) (.t 49)), (some (46, true))⟩,
    ⟨some 51, .p (.pick (.t 46) (.t 50) (.c (.bool false))), none⟩,
    ⟨some 52, .p (.mov (.t 51)), none⟩,
    ⟨some 53, .h (.load true 2 (.t 5)), (some (52, true))⟩,
    ⟨some 54, .call 27 [(.t 53)], (some (52, true))⟩,
    ⟨some 55, .p (.pick (.t 52) (.t 54) (.c (.bool false))), none⟩,
    ⟨some 4, .p (.mov (.t 55)), none⟩])
  .ret)))))))
def rs7 : List AR := [.tmp 4]
theorem ok7 : okF Try.prog 7 56 ac7 rs7 = true := by kernel_rfl
/-- simulacrum/simulacrumlaw37.sanity -/
def ac8 : AC := (.seq (.reg [⟨some 0, .p (.mov (.c (.bool false))), none⟩])
  (.seq (.reg [⟨some 16, .v (.build [(.int .i64 0), .nils] [(0, 1, (.c (.int .i64 0)))]), none⟩,
    ⟨some 17, .v (.build [(.int .i64 0), .nils] [(0, 1, (.c (.int .i64 1)))]), none⟩,
    ⟨some 18, .v (.build [(.int .i64 0), .nils] [(0, 1, (.c (.int .i64 2)))]), none⟩,
    ⟨some 19, .v (.build [(.int .i64 0), .nils, (.int .i64 0), .nils, (.int .i64 0), .nils] [(0, 2, (.t 16)), (2, 2, (.t 17)), (4, 2, (.t 18))]), none⟩,
    ⟨some 1, .h (.alloc [(.int .i64 0), .nils, (.int .i64 0), .nils, (.int .i64 0), .nils]), none⟩,
    ⟨none, .h (.store 6 (.t 1) (.t 19)), none⟩])
  (.seq (.reg [⟨some 20, .v (.build [(.int .i64 0), (.int .i64 0), (.int .i64 0), (.bool false), (.bool false), (.bool false), (.int .i64 0), (.int .i64 0), (.int .i64 0), (.int .i64 0), (.int .i64 0)] [(0, 1, (.c (.int .i64 5))), (1, 1, (.c (.int .i64 1)))]), none⟩,
    ⟨some 21, .v (.build [(.int .i64 0), (.int .i64 0), (.int .i64 0), (.bool false), (.bool false), (.bool false), (.int .i64 0), (.int .i64 0), (.int .i64 0), (.int .i64 0), (.int .i64 0)] [(0, 1, (.c (.int .i64 5))), (1, 1, (.c (.int .i64 2)))]), none⟩,
    ⟨some 2, .h (.alloc [(.int .i64 0), (.int .i64 0), (.int .i64 0), (.bool false), (.bool false), (.bool false), (.int .i64 0), (.int .i64 0), (.int .i64 0), (.int .i64 0), (.int .i64 0)]), none⟩,
    ⟨some 3, .h (.alloc [(.int .i64 0), (.int .i64 0), (.int .i64 0), (.bool false), (.bool false), (.bool false), (.int .i64 0), (.int .i64 0), (.int .i64 0), (.int .i64 0), (.int .i64 0)]), none⟩,
    ⟨none, .h (.store 11 (.t 2) (.t 20)), none⟩,
    ⟨none, .h (.store 11 (.t 3) (.t 21)), none⟩])
  (.seq (.reg [⟨some 23, .h (.load true 11 (.t 2)), none⟩,
    ⟨some 24, .call 11 [(.t 23), (.c (.int .i64 3))], none⟩,
    ⟨some 22, .p (.mov (.t 24)), none⟩,
    ⟨some 25, .p (.extract 0 (.t 22)), none⟩,
    ⟨some 26, .p (.extract 1 (.t 22)), none⟩,
    ⟨some 27, .p (.extract 2 (.t 22)), none⟩,
    ⟨some 4, .h (.alloc [(.int .i64 0), (.int .i64 0), (.int .i64 0), (.int .i64 0), (.int .i64 0)]), none⟩,
    ⟨none, .h (.store 11 (.t 2) (.t 25)), none⟩,
    ⟨none, .h (.store 5 (.t 4) (.t 26)), none⟩,
    ⟨some 5, .p (.mov (.t 27)), none⟩])
  (.seq (.reg [⟨some 29, .h (.load true 11 (.t 2)), none⟩,
    ⟨some 30, .h (.load true 5 (.t 4)), none⟩,
    ⟨some 31, .d (.bslice 1 2 [(.int .i64 0)] [(0, (.c (.int .i64 0))), (1, (.c (.int .i64 1)))]), none⟩,
    ⟨some 32, .call 12 [(.t 1), (.t 29), (.t 30), (.t 31)], none⟩,
    ⟨some 28, .p (.mov (.t 32)), none⟩,
    ⟨some 33, .p (.extract 0 (.t 28)), none⟩,
    ⟨some 34, .p (.extract 1 (.t 28)), none⟩,
    ⟨none, .h (.store 11 (.t 2) (.t 33)), none⟩])
  (.seq (.reg [⟨some 35, .h (.load true 11 (.t 2)), none⟩,
    ⟨some 36, .call 13 [(.t 35)], none⟩,
    ⟨some 37, .p (.mov (.t 36)), none⟩,
    ⟨some 38, .p (.fieldA 6 (.t 2)), (some (37, true))⟩,
    ⟨some 39, .h (.load false 1 (.t 38)), (some (37, true))⟩,
    ⟨some 40, .p (.bin .eql (.t 39) (.c (.int .i64 0))), (some (37, true))⟩,
    ⟨some 41, .p (.pick (.t 37) (.t 40) (.c (.bool false))), none⟩,
    ⟨some 6, .p (.mov (.t 41)), none⟩])
  (.seq (.reg [⟨some 43, .h (.load true 11 (.t 2)), none⟩,
    ⟨some 44, .call 14 [(.t 43), (.c (.int .i64 4))], none⟩,
    ⟨some 42, .p (.mov (.t 44)), none⟩,
    ⟨some 45, .p (.extract 0 (.t 42)), none⟩,
    ⟨some 46, .p (.extract 1 (.t 42)), none⟩,
    ⟨none, .h (.store 5 (.t 4) (.t 45)), none⟩,
    ⟨some 7, .p (.mov (.t 46)), none⟩])
  (.seq (.reg [⟨some 48, .h (.load true 11 (.t 2)), none⟩,
    ⟨some 49, .h (.load true 5 (.t 4)), none⟩,
    ⟨some 50, .d (.bslice 1 2 [(.int .i64 0)] [(0, (.c (.int .i64 0))), (1, (.c (.int .i64 1)))]), none⟩,
    ⟨some 51, .call 12 [(.t 1), (.t 48), (.t 49), (.t 50)], none⟩,
    ⟨some 47, .p (.mov (.t 51)), none⟩,
    ⟨some 52, .p (.extract 0 (.t 47)), none⟩,
    ⟨some 53, .p (.extract 1 (.t 47)), none⟩,
    ⟨none, .h (.store 11 (.t 2) (.t 52)), none⟩])
  (.seq (.reg [⟨some 54, .h (.load true 11 (.t 2)), none⟩,
    ⟨some 55, .call 15 [(.t 54)], none⟩,
    ⟨some 8, .p (.mov (.t 55)), none⟩])
  (.seq (.reg [⟨some 57, .h (.load true 11 (.t 3)), none⟩,
    ⟨some 58, .call 11 [(.t 57), (.c (.int .i64 4))], none⟩,
    ⟨some 56, .p (.mov (.t 58)), none⟩,
    ⟨some 59, .p (.extract 0 (.t 56)), none⟩,
    ⟨some 60, .p (.extract 1 (.t 56)), none⟩,
    ⟨some 61, .p (.extract 2 (.t 56)), none⟩,
    ⟨none, .h (.store 11 (.t 3) (.t 59)), none⟩,
    ⟨none, .h (.store 5 (.t 4) (.t 60)), none⟩,
    ⟨some 9, .p (.mov (.t 61)), none⟩])
  (.seq (.reg [⟨some 63, .h (.load true 11 (.t 3)), none⟩,
    ⟨some 64, .h (.load true 5 (.t 4)), none⟩,
    ⟨some 65, .d (.bslice 1 2 [(.int .i64 0)] [(0, (.c (.int .i64 1))), (1, (.c (.int .i64 2)))]), none⟩,
    ⟨some 66, .call 12 [(.t 1), (.t 63), (.t 64), (.t 65)], none⟩,
    ⟨some 62, .p (.mov (.t 66)), none⟩,
    ⟨some 67, .p (.extract 0 (.t 62)), none⟩,
    ⟨some 68, .p (.extract 1 (.t 62)), none⟩,
    ⟨none, .h (.store 11 (.t 3) (.t 67)), none⟩])
  (.seq (.reg [⟨some 69, .h (.load true 11 (.t 3)), none⟩,
    ⟨some 70, .call 13 [(.t 69)], none⟩,
    ⟨some 71, .p (.mov (.t 70)), none⟩,
    ⟨some 72, .p (.fieldA 6 (.t 3)), (some (71, true))⟩,
    ⟨some 73, .h (.load false 1 (.t 72)), (some (71, true))⟩,
    ⟨some 74, .p (.bin .eql (.t 73) (.c (.int .i64 4))), (some (71, true))⟩,
    ⟨some 75, .p (.pick (.t 71) (.t 74) (.c (.bool false))), none⟩,
    ⟨some 10, .p (.mov (.t 75)), none⟩])
  (.seq (.reg [⟨some 77, .h (.load true 11 (.t 2)), none⟩,
    ⟨some 78, .call 14 [(.t 77), (.c (.int .i64 6))], none⟩,
    ⟨some 76, .p (.mov (.t 78)), none⟩,
    ⟨some 79, .p (.extract 0 (.t 76)), none⟩,
    ⟨some 80, .p (.extract 1 (.t 76)), none⟩,
    ⟨none, .h (.store 5 (.t 4) (.t 79)), none⟩,
    ⟨some 11, .p (.mov (.t 80)), none⟩])
  (.seq (.reg [⟨some 82, .h (.load true 11 (.t 2)), none⟩,
    ⟨some 83, .h (.load true 5 (.t 4)), none⟩,
    ⟨some 84, .d (.bslice 1 2 [(.int .i64 0)] [(0, (.c (.int .i64 0))), (1, (.c (.int .i64 1)))]), none⟩,
    ⟨some 85, .call 12 [(.t 1), (.t 82), (.t 83), (.t 84)], none⟩,
    ⟨some 81, .p (.mov (.t 85)), none⟩,
    ⟨some 86, .p (.extract 0 (.t 81)), none⟩,
    ⟨some 87, .p (.extract 1 (.t 81)), none⟩,
    ⟨none, .h (.store 11 (.t 2) (.t 86)), none⟩])
  (.seq (.reg [⟨some 89, .h (.load true 11 (.t 3)), none⟩,
    ⟨some 90, .call 11 [(.t 89), (.c (.int .i64 4))], none⟩,
    ⟨some 88, .p (.mov (.t 90)), none⟩,
    ⟨some 91, .p (.extract 0 (.t 88)), none⟩,
    ⟨some 92, .p (.extract 1 (.t 88)), none⟩,
    ⟨some 93, .p (.extract 2 (.t 88)), none⟩,
    ⟨some 12, .h (.alloc [(.int .i64 0), (.int .i64 0), (.int .i64 0), (.bool false), (.bool false), (.bool false), (.int .i64 0), (.int .i64 0), (.int .i64 0), (.int .i64 0), (.int .i64 0)]), none⟩,
    ⟨some 13, .h (.alloc [(.int .i64 0), (.int .i64 0), (.int .i64 0), (.int .i64 0), (.int .i64 0)]), none⟩,
    ⟨none, .h (.store 11 (.t 12) (.t 91)), none⟩,
    ⟨none, .h (.store 5 (.t 13) (.t 92)), none⟩,
    ⟨some 14, .p (.mov (.t 93)), none⟩])
  (.seq (.reg [⟨some 95, .h (.load true 11 (.t 2)), none⟩,
    ⟨some 96, .call 11 [(.t 95), (.c (.int .i64 4))], none⟩,
    ⟨some 94, .p (.mov (.t 96)), none⟩,
    ⟨some 97, .p (.extract 0 (.t 94)), none⟩,
    ⟨some 98, .p (.extract 1 (.t 94)), none⟩,
    ⟨some 99, .p (.extract 2 (.t 94)), none⟩,
    ⟨none, .h (.store 11 (.t 2) (.t 97)), none⟩,
    ⟨none, .h (.store 5 (.t 4) (.t 98)), none⟩,
    ⟨some 15, .p (.mov (.t 99)), none⟩])
  (.seq (.reg [⟨some 101, .h (.load true 11 (.t 2)), none⟩,
    ⟨some 102, .h (.load true 5 (.t 4)), none⟩,
    ⟨some 103, .d (.bslice 1 1 [(.int .i64 0)] [(0, (.c (.int .i64 1)))]), none⟩,
    ⟨some 104, .call 12 [(.t 1), (.t 101), (.t 102), (.t 103)], none⟩,
    ⟨some 100, .p (.mov (.t 104)), none⟩,
    ⟨some 105, .p (.extract 0 (.t 100)), none⟩,
    ⟨some 106, .p (.extract 1 (.t 100)), none⟩,
    ⟨none, .h (.store 11 (.t 2) (.t 105)), none⟩])
  (.seq (.reg [⟨some 107, .p (.mov (.t 5)), none⟩,
    ⟨some 108, .p (.bin .eql (.t 107) (.c (.int .i64 0))), none⟩,
    ⟨some 109, .p (.mov (.t 108)), none⟩,
    ⟨some 110, .p (.mov (.t 7)), (some (109, true))⟩,
    ⟨some 111, .p (.bin .eql (.t 110) (.c (.int .i64 0))), (some (109, true))⟩,
    ⟨some 112, .p (.pick (.t 109) (.t 111) (.c (.bool false))), none⟩,
    ⟨some 113, .p (.mov (.t 112)), none⟩,
    ⟨some 114, .p (.mov (.t 9)), (some (113, true))⟩,
    ⟨some 115, .p (.bin .eql (.t 114) (.c (.int .i64 0))), (some (113, true))⟩,
    ⟨some 116, .p (.pick (.t 113) (.t 115) (.c (.bool false))), none⟩,
    ⟨some 117, .p (.mov (.t 116)), none⟩,
    ⟨some 118, .p (.mov (.t 11)), (some (117, true))⟩,
    ⟨some 119, .p (.bin .eql (.t 118) (.c (.int .i64 0))), (some (117, true))⟩,
    ⟨some 120, .p (.pick (.t 117) (.t 119) (.c (.bool false))), none⟩,
    ⟨some 121, .p (.mov (.t 120)), none⟩,
    ⟨some 122, .p (.mov (.t 15)), (some (121, true))⟩,
    ⟨some 123, .p (.bin .eql (.t 122) (.c (.int .i64 0))), (some (121, true))⟩,
    ⟨some 124, .p (.pick (.t 121) (.t 123) (.c (.bool false))), none⟩,
    ⟨some 125, .p (.mov (.t 124)), none⟩,
    ⟨some 126, .p (.mov (.t 6)), (some (125, true))⟩,
    ⟨some 127, .p (.pick (.t 125) (.t 126) (.c (.bool false))), none⟩,
    ⟨some 128, .p (.mov (.t 127)), none⟩,
    ⟨some 129, .p (.mov (.t 8)), (some (128, true))⟩,
    ⟨some 130, .p (.bin .eql (.t 129) (.c (.int .i64 4))), (some (128, true))⟩,
    ⟨some 131, .p (.pick (.t 128) (.t 130) (.c (.bool false))), none⟩,
    ⟨some 132, .p (.mov (.t 131)), none⟩,
    ⟨some 133, .p (.mov (.t 10)), (some (132, true))⟩,
    ⟨some 134, .p (.pick (.t 132) (.t 133) (.c (.bool false))), none⟩,
    ⟨some 135, .p (.mov (.t 134)), none⟩,
    ⟨some 136, .p (.mov (.t 14)), (some (135, true))⟩,
    ⟨some 137, .p (.bin .eql (.t 136) (.c (.int .i64 9))), (some (135, true))⟩,
    ⟨some 138, .p (.pick (.t 135) (.t 137) (.c (.bool false))), none⟩,
    ⟨some 139, .p (.mov (.t 138)), none⟩,
    ⟨some 140, .h (.load true 11 (.t 2)), (some (139, true))⟩,
    ⟨some 141, .call 13 [(.t 140)], (some (139, true))⟩,
    ⟨some 142, .p (.un .not (.t 141)), (some (139, true))⟩,
    ⟨some 143, .p (.pick (.t 139) (.t 142) (.c (.bool false))), none⟩,
    ⟨some 144, .p (.mov (.t 143)), none⟩,
    ⟨some 145, .p (.fieldA 10 (.t 2)), (some (144, true))⟩,
    ⟨some 146, .h (.load false 1 (.t 145)), (some (144, true))⟩,
    ⟨some 147, .p (.bin .eql (.t 146) (.c (.int .i64 4))), (some (144, true))⟩,
    ⟨some 148, .p (.pick (.t 144) (.t 147) (.c (.bool false))), none⟩,
    ⟨some 149, .p (.mov (.t 148)), none⟩,
    ⟨some 150, .p (.fieldA 3 (.t 2)), (some (149, true))⟩,
    ⟨some 151, .h (.load true 3 (.t 150)), (some (149, true))⟩,
    ⟨some 152, .v (.build [(.bool false), (.bool false), (.bool false)] []), (some (149, true))⟩,
    ⟨some 153, .v (.eqa false [.b, .b, .b] (.t 151) (.t 152)), (some (149, true))⟩,
    ⟨some 154, .p (.pick (.t 149) (.t 153) (.c (.bool false))), none⟩,
    ⟨some 155, .p (.mov (.t 154)), none⟩,
    ⟨some 156, .p (.idxA 2 (some 3) (.t 1) (.c (.int .i64 0))), (some (155, true))⟩,
    ⟨some 157, .p (.fieldA 1 (.t 156)), (some (155, true))⟩,
    ⟨some 158, .h (.load false 1 (.t 157)), (some (155, true))⟩,
    ⟨some 159, .p (.idxA 4 none (.t 158) (.c (.int .i64 0))), (some (155, true))⟩,
    ⟨some 160, .p (.fieldA 3 (.t 159)), (some (155, true))⟩,
    ⟨some 161, .h (.load false 1 (.t 160)), (some (155, true))⟩,
    ⟨some 162, .p (.bin .eql (.t 161) (.c (.int .i64 6))), (some (155, true))⟩,
    ⟨some 163, .p (.pick (.t 155) (.t 162) (.c (.bool false))), none⟩,
    ⟨some 0, .p (.mov (.t 163)), none⟩])
  .ret))))))))))))))))))
def rs8 : List AR := [.tmp 0]
theorem ok8 : okF Try.prog 8 164 ac8 rs8 = true := by kernel_rfl
/-- (*simulacrum/simulacrumlaw37.world).act -/
def ac10 : AC := (.seq (.reg [⟨some 3, .h (.box (.t 1)), none⟩,
    ⟨some 4, .p (.mov (.c (.bool false))), none⟩])
  (.seq (.draw 8 [] [⟨some 16, .p (.mov (.t 0)), none⟩,
    ⟨some 17, .p (.fieldA 1 (.t 3)), none⟩,
    ⟨some 18, .h (.load false 1 (.t 17)), none⟩,
    ⟨some 19, .p (.binw .rem (.t 18) (.c (.int .u8 3))), none⟩,
    ⟨some 20, .p (.nilchk (.t 16)), none⟩,
    ⟨some 21, .p (.fieldA 0 (.t 20)), none⟩,
    ⟨some 22, .p (.idxA 11 (some 3) (.t 21) (.t 19)), none⟩,
    ⟨some 5, .p (.mov (.t 22)), none⟩])
  (.seq (.seq (.reg [⟨some 23, .p (.fieldA 0 (.t 3)), none⟩,
    ⟨some 24, .h (.load false 1 (.t 23)), none⟩,
    ⟨some 25, .p (.binw .rem (.t 24) (.c (.int .u8 6))), none⟩])
  (.block 0 (.seq (.reg [⟨some 71, .p (.binw .eql (.t 25) (.c (.int .u8 0))), none⟩,
    ⟨some 70, .p (.mov (.t 71)), none⟩])
  (.cond (.t 70) (.seq (.draw 27 [(22, 24), (2, 24), (6, 24), (10, 24), (13, 24), (23, 24), (23, 25), (24, 25), (2, 25), (6, 25), (10, 25), (13, 25), (22, 25)] [⟨some 73, .p (.mov (.t 5)), none⟩,
    ⟨some 74, .p (.nilchk (.t 73)), none⟩,
    ⟨some 75, .h (.load true 11 (.t 74)), none⟩,
    ⟨some 76, .p (.mov (.t 5)), none⟩,
    ⟨some 77, .p (.nilchk (.t 76)), none⟩,
    ⟨some 78, .p (.fieldA 2 (.t 77)), none⟩,
    ⟨some 79, .h (.load false 1 (.t 78)), none⟩,
    ⟨some 80, .p (.mov (.t 5)), none⟩,
    ⟨some 81, .p (.nilchk (.t 80)), none⟩,
    ⟨some 82, .p (.fieldA 10 (.t 81)), none⟩,
    ⟨some 83, .h (.load false 1 (.t 82)), none⟩,
    ⟨some 84, .p (.mm true (.t 79) (.t 83)), none⟩,
    ⟨some 85, .p (.fieldA 3 (.t 3)), none⟩,
    ⟨some 86, .h (.load false 1 (.t 85)), none⟩,
    ⟨some 87, .p (.conv .i64 (.t 86)), none⟩,
    ⟨some 88, .p (.bin .rem (.t 87) (.c (.int .i64 3))), none⟩,
    ⟨some 89, .p (.bin .add (.t 84) (.t 88)), none⟩,
    ⟨some 90, .call 11 [(.t 75), (.t 89)], none⟩,
    ⟨some 72, .p (.mov (.t 90)), none⟩,
    ⟨some 91, .p (.extract 0 (.t 72)), none⟩,
    ⟨some 92, .p (.extract 1 (.t 72)), none⟩,
    ⟨some 93, .p (.extract 2 (.t 72)), none⟩,
    ⟨some 6, .h (.alloc [(.int .i64 0), (.int .i64 0), (.int .i64 0), (.bool false), (.bool false), (.bool false), (.int .i64 0), (.int .i64 0), (.int .i64 0), (.int .i64 0), (.int .i64 0)]), none⟩,
    ⟨some 7, .h (.alloc [(.int .i64 0), (.int .i64 0), (.int .i64 0), (.int .i64 0), (.int .i64 0)]), none⟩,
    ⟨none, .h (.store 11 (.t 6) (.t 91)), none⟩,
    ⟨none, .h (.store 5 (.t 7) (.t 92)), none⟩,
    ⟨some 8, .p (.mov (.t 93)), none⟩])
  (.seq (.reg [⟨some 94, .p (.mov (.t 8)), none⟩,
    ⟨some 95, .p (.bin .eql (.t 94) (.c (.int .i64 0))), none⟩])
  (.cond (.t 95) (.seq (.reg [⟨some 96, .p (.mov (.t 5)), none⟩,
    ⟨some 97, .h (.load true 11 (.t 6)), none⟩,
    ⟨some 98, .p (.nilchk (.t 96)), none⟩,
    ⟨none, .h (.store 11 (.t 98) (.t 97)), none⟩])
  (.draw 11 [(5, 6), (4, 7), (6, 7), (7, 10), (4, 10), (5, 10), (6, 10)] [⟨some 99, .p (.mov (.t 0)), none⟩,
    ⟨some 100, .p (.mov (.t 0)), none⟩,
    ⟨some 101, .p (.nilchk (.t 100)), none⟩,
    ⟨some 102, .p (.fieldA 39 (.t 101)), none⟩,
    ⟨some 103, .h (.load false 1 (.t 102)), none⟩,
    ⟨some 104, .h (.load true 5 (.t 7)), none⟩,
    ⟨some 105, .d (.bslice 5 1 [(.int .i64 0), (.int .i64 0), (.int .i64 0), (.int .i64 0), (.int .i64 0)] [(0, (.t 104))]), none⟩,
    ⟨some 106, .l (.append 5 40 (.t 103) (.t 105)), none⟩,
    ⟨some 107, .p (.nilchk (.t 99)), none⟩,
    ⟨some 108, .p (.fieldA 39 (.t 107)), none⟩,
    ⟨none, .h (.store 1 (.t 108) (.t 106)), none⟩])) .skip))) (.seq (.reg [⟨some 110, .p (.binw .eql (.t 25) (.c (.int .u8 1))), none⟩,
    ⟨some 109, .p (.mov (.t 110)), none⟩])
  (.cond (.t 109) (.seq (.draw 19 [(16, 17), (2, 17), (5, 17), (8, 17)] [⟨some 112, .p (.mov (.t 5)), none⟩,
    ⟨some 113, .p (.nilchk (.t 112)), none⟩,
    ⟨some 114, .h (.load true 11 (.t 113)), none⟩,
    ⟨some 115, .p (.mov (.t 5)), none⟩,
    ⟨some 116, .p (.nilchk (.t 115)), none⟩,
    ⟨some 117, .h (.load true 11 (.t 116)), none⟩,
    ⟨some 118, .call 15 [(.t 117)], none⟩,
    ⟨some 119, .p (.fieldA 3 (.t 3)), none⟩,
    ⟨some 120, .h (.load false 1 (.t 119)), none⟩,
    ⟨some 121, .p (.conv .i64 (.t 120)), none⟩,
    ⟨some 122, .p (.bin .rem (.t 121) (.c (.int .i64 5))), none⟩,
    ⟨some 123, .p (.bin .add (.t 118) (.t 122)), none⟩,
    ⟨some 124, .call 14 [(.t 114), (.t 123)], none⟩,
    ⟨some 111, .p (.mov (.t 124)), none⟩,
    ⟨some 125, .p (.extract 0 (.t 111)), none⟩,
    ⟨some 126, .p (.extract 1 (.t 111)), none⟩,
    ⟨some 9, .h (.alloc [(.int .i64 0), (.int .i64 0), (.int .i64 0), (.int .i64 0), (.int .i64 0)]), none⟩,
    ⟨none, .h (.store 5 (.t 9) (.t 125)), none⟩,
    ⟨some 10, .p (.mov (.t 126)), none⟩])
  (.seq (.reg [⟨some 127, .p (.mov (.t 10)), none⟩,
    ⟨some 128, .p (.bin .eql (.t 127) (.c (.int .i64 0))), none⟩])
  (.cond (.t 128) (.draw 11 [(5, 6), (4, 7), (6, 7), (7, 10), (4, 10), (5, 10), (6, 10)] [⟨some 129, .p (.mov (.t 0)), none⟩,
    ⟨some 130, .p (.mov (.t 0)), none⟩,
    ⟨some 131, .p (.nilchk (.t 130)), none⟩,
    ⟨some 132, .p (.fieldA 39 (.t 131)), none⟩,
    ⟨some 133, .h (.load false 1 (.t 132)), none⟩,
    ⟨some 134, .h (.load true 5 (.t 9)), none⟩,
    ⟨some 135, .d (.bslice 5 1 [(.int .i64 0), (.int .i64 0), (.int .i64 0), (.int .i64 0), (.int .i64 0)] [(0, (.t 134))]), none⟩,
    ⟨some 136, .l (.append 5 40 (.t 133) (.t 135)), none⟩,
    ⟨some 137, .p (.nilchk (.t 129)), none⟩,
    ⟨some 138, .p (.fieldA 39 (.t 137)), none⟩,
    ⟨none, .h (.store 1 (.t 138) (.t 136)), none⟩]) .skip))) (.seq (.seq (.reg [⟨some 140, .p (.binw .eql (.t 25) (.c (.int .u8 2))), none⟩,
    ⟨some 139, .p (.mov (.t 140)), none⟩])
  (.cond (.t 139) .skip (.reg [⟨some 141, .p (.binw .eql (.t 25) (.c (.int .u8 3))), none⟩,
    ⟨some 139, .p (.mov (.t 141)), none⟩])))
  (.cond (.t 139) (.seq (.reg [⟨some 142, .p (.fieldA 2 (.t 3)), none⟩,
    ⟨some 143, .h (.load false 1 (.t 142)), none⟩,
    ⟨some 144, .p (.binw .rem (.t 143) (.c (.int .u8 3))), none⟩,
    ⟨some 145, .p (.conv .i64 (.t 144)), none⟩,
    ⟨some 11, .p (.mov (.t 145)), none⟩])
  (.seq (.seq (.reg [⟨some 146, .p (.mov (.t 0)), none⟩,
    ⟨some 147, .p (.nilchk (.t 146)), none⟩,
    ⟨some 148, .p (.fieldA 39 (.t 147)), none⟩,
    ⟨some 149, .h (.load false 1 (.t 148)), none⟩,
    ⟨some 150, .p (.len false (.t 149)), none⟩,
    ⟨some 151, .p (.bin .eql (.t 150) (.c (.int .i64 0))), none⟩,
    ⟨some 152, .p (.mov (.t 151)), none⟩,
    ⟨some 153, .p (.mov (.t 11)), (some (152, false))⟩,
    ⟨some 154, .p (.mov (.t 0)), (some (152, false))⟩,
    ⟨some 155, .p (.nilchk (.t 154)), (some (152, false))⟩,
    ⟨some 156, .p (.fieldA 41 (.t 155)), (some (152, false))⟩,
    ⟨some 157, .h (.load false 1 (.t 156)), (some (152, false))⟩,
    ⟨some 158, .p (.bin .eql (.t 153) (.t 157)), (some (152, false))⟩,
    ⟨some 159, .p (.pick (.t 152) (.c (.bool true)) (.t 158)), none⟩])
  (.cond (.t 159) (.seq (.reg [⟨some 4, .p (.mov (.c (.bool true))), none⟩])
  .ret) .skip))
  (.seq (.draw 38 [(33, 35), (5, 35), (9, 35), (13, 35), (17, 35), (22, 35), (27, 35), (34, 35), (34, 36), (35, 36), (5, 36), (9, 36), (13, 36), (17, 36), (22, 36), (27, 36), (33, 36)] [⟨some 161, .p (.mov (.t 0)), none⟩,
    ⟨some 162, .p (.mov (.t 11)), none⟩,
    ⟨some 163, .p (.nilchk (.t 161)), none⟩,
    ⟨some 164, .p (.fieldA 33 (.t 163)), none⟩,
    ⟨some 165, .p (.idxA 2 (some 3) (.t 164) (.t 162)), none⟩,
    ⟨some 166, .h (.load true 2 (.t 165)), none⟩,
    ⟨some 167, .p (.mov (.t 0)), none⟩,
    ⟨some 168, .p (.nilchk (.t 167)), none⟩,
    ⟨some 169, .p (.fieldA 39 (.t 168)), none⟩,
    ⟨some 170, .h (.load false 1 (.t 169)), none⟩,
    ⟨some 171, .p (.mov (.t 0)), none⟩,
    ⟨some 172, .p (.nilchk (.t 171)), none⟩,
    ⟨some 173, .p (.fieldA 39 (.t 172)), none⟩,
    ⟨some 174, .h (.load false 1 (.t 173)), none⟩,
    ⟨some 175, .p (.len false (.t 174)), none⟩,
    ⟨some 176, .p (.bin .sub (.t 175) (.c (.int .i64 1))), none⟩,
    ⟨some 177, .p (.fieldA 3 (.t 3)), none⟩,
    ⟨some 178, .h (.load false 1 (.t 177)), none⟩,
    ⟨some 179, .p (.conv .i64 (.t 178)), none⟩,
    ⟨some 180, .p (.mov (.t 0)), none⟩,
    ⟨some 181, .p (.nilchk (.t 180)), none⟩,
    ⟨some 182, .p (.fieldA 39 (.t 181)), none⟩,
    ⟨some 183, .h (.load false 1 (.t 182)), none⟩,
    ⟨some 184, .p (.len false (.t 183)), none⟩,
    ⟨some 185, .p (.bin .rem (.t 179) (.t 184)), none⟩,
    ⟨some 186, .p (.bin .sub (.t 176) (.t 185)), none⟩,
    ⟨some 187, .p (.idxA 5 none (.t 170) (.t 186)), none⟩,
    ⟨some 188, .h (.load true 5 (.t 187)), none⟩,
    ⟨some 189, .call 17 [(.t 166), (.t 188)], none⟩,
    ⟨some 160, .p (.mov (.t 189)), none⟩,
    ⟨some 190, .p (.extract 0 (.t 160)), none⟩,
    ⟨some 191, .p (.extract 1 (.t 160)), none⟩,
    ⟨some 192, .p (.extract 2 (.t 160)), none⟩,
    ⟨some 12, .h (.alloc [(.int .i64 0), .nils]), none⟩,
    ⟨some 13, .h (.alloc [(.int .i64 0), (.int .i64 0), (.int .i64 0), (.int .i64 0), (.int .i64 0), (.int .i64 0), (.bool false), (.int .i64 0), (.int .i64 0)]), none⟩,
    ⟨none, .h (.store 2 (.t 12) (.t 190)), none⟩,
    ⟨none, .h (.store 9 (.t 13) (.t 191)), none⟩,
    ⟨some 14, .p (.mov (.t 192)), none⟩])
  (.seq (.seq (.reg [⟨some 193, .p (.mov (.t 14)), none⟩,
    ⟨some 194, .p (.bin .neq (.t 193) (.c (.int .i64 0))), none⟩])
  (.cond (.t 194) (.seq (.reg [⟨some 4, .p (.mov (.c (.bool false))), none⟩])
  .ret) .skip))
  (.seq (.draw 7 [(2, 6)] [⟨some 195, .p (.mov (.t 0)), none⟩,
    ⟨some 196, .p (.mov (.t 11)), none⟩,
    ⟨some 197, .h (.load true 2 (.t 12)), none⟩,
    ⟨some 198, .p (.nilchk (.t 195)), none⟩,
    ⟨some 199, .p (.fieldA 33 (.t 198)), none⟩,
    ⟨some 200, .p (.idxA 2 (some 3) (.t 199) (.t 196)), none⟩,
    ⟨none, .h (.store 2 (.t 200) (.t 197)), none⟩])
  (.draw 11 [(5, 6), (4, 7), (6, 7), (7, 10), (4, 10), (5, 10), (6, 10)] [⟨some 201, .p (.mov (.t 0)), none⟩,
    ⟨some 202, .p (.mov (.t 0)), none⟩,
    ⟨some 203, .p (.nilchk (.t 202)), none⟩,
    ⟨some 204, .p (.fieldA 40 (.t 203)), none⟩,
    ⟨some 205, .h (.load false 1 (.t 204)), none⟩,
    ⟨some 206, .h (.load true 9 (.t 13)), none⟩,
    ⟨some 207, .d (.bslice 9 1 [(.int .i64 0), (.int .i64 0), (.int .i64 0), (.int .i64 0), (.int .i64 0), (.int .i64 0), (.bool false), (.int .i64 0), (.int .i64 0)] [(0, (.t 206))]), none⟩,
    ⟨some 208, .l (.append 9 72 (.t 205) (.t 207)), none⟩,
    ⟨some 209, .p (.nilchk (.t 201)), none⟩,
    ⟨some 210, .p (.fieldA 40 (.t 209)), none⟩,
    ⟨none, .h (.store 1 (.t 210) (.t 208)), none⟩])))))) (.seq (.reg [⟨some 26, .p (.mov (.t 0)), none⟩,
    ⟨some 27, .p (.nilchk (.t 26)), none⟩,
    ⟨some 28, .p (.fieldA 40 (.t 27)), none⟩,
    ⟨some 29, .h (.load false 1 (.t 28)), none⟩,
    ⟨some 30, .p (.len false (.t 29)), none⟩,
    ⟨some 31, .p (.bin .gtr (.t 30) (.c (.int .i64 0))), none⟩])
  (.cond (.t 31) (.seq (.draw 24 [(22, 23), (21, 23), (3, 23), (7, 23), (11, 23), (16, 23)] [⟨some 32, .p (.mov (.t 0)), none⟩,
    ⟨some 33, .p (.nilchk (.t 32)), none⟩,
    ⟨some 34, .p (.fieldA 40 (.t 33)), none⟩,
    ⟨some 35, .h (.load false 1 (.t 34)), none⟩,
    ⟨some 36, .p (.mov (.t 0)), none⟩,
    ⟨some 37, .p (.nilchk (.t 36)), none⟩,
    ⟨some 38, .p (.fieldA 40 (.t 37)), none⟩,
    ⟨some 39, .h (.load false 1 (.t 38)), none⟩,
    ⟨some 40, .p (.len false (.t 39)), none⟩,
    ⟨some 41, .p (.bin .sub (.t 40) (.c (.int .i64 1))), none⟩,
    ⟨some 42, .p (.fieldA 3 (.t 3)), none⟩,
    ⟨some 43, .h (.load false 1 (.t 42)), none⟩,
    ⟨some 44, .p (.conv .i64 (.t 43)), none⟩,
    ⟨some 45, .p (.mov (.t 0)), none⟩,
    ⟨some 46, .p (.nilchk (.t 45)), none⟩,
    ⟨some 47, .p (.fieldA 40 (.t 46)), none⟩,
    ⟨some 48, .h (.load false 1 (.t 47)), none⟩,
    ⟨some 49, .p (.len false (.t 48)), none⟩,
    ⟨some 50, .p (.bin .rem (.t 44) (.t 49)), none⟩,
    ⟨some 51, .p (.bin .sub (.t 41) (.t 50)), none⟩,
    ⟨some 52, .p (.idxA 9 none (.t 35) (.t 51)), none⟩,
    ⟨some 53, .h (.load true 9 (.t 52)), none⟩,
    ⟨some 15, .h (.alloc [(.int .i64 0), (.int .i64 0), (.int .i64 0), (.int .i64 0), (.int .i64 0), (.int .i64 0), (.bool false), (.int .i64 0), (.int .i64 0)]), none⟩,
    ⟨none, .h (.store 9 (.t 15) (.t 53)), none⟩])
  (.seq (.draw 10 [] [⟨some 54, .p (.mov (.t 0)), none⟩,
    ⟨some 55, .p (.fieldA 1 (.t 15)), none⟩,
    ⟨some 56, .p (.fieldA 2 (.t 55)), none⟩,
    ⟨some 57, .h (.load false 1 (.t 56)), none⟩,
    ⟨some 58, .p (.bin .add (.t 57) (.c (.int .i64 2))), none⟩,
    ⟨some 59, .p (.bin .rem (.t 58) (.c (.int .i64 3))), none⟩,
    ⟨some 60, .p (.nilchk (.t 54)), none⟩,
    ⟨some 61, .p (.fieldA 0 (.t 60)), none⟩,
    ⟨some 62, .p (.idxA 11 (some 3) (.t 61) (.t 59)), none⟩,
    ⟨some 5, .p (.mov (.t 62)), none⟩])
  (.draw 8 [(3, 7), (4, 7)] [⟨some 63, .p (.mov (.t 5)), none⟩,
    ⟨some 64, .p (.mov (.t 5)), none⟩,
    ⟨some 65, .p (.nilchk (.t 64)), none⟩,
    ⟨some 66, .h (.load true 11 (.t 65)), none⟩,
    ⟨some 67, .h (.load true 9 (.t 15)), none⟩,
    ⟨some 68, .call 23 [(.t 66), (.t 67)], none⟩,
    ⟨some 69, .p (.nilchk (.t 63)), none⟩,
    ⟨none, .h (.store 11 (.t 69) (.t 68)), none⟩]))) .skip))))))))))
  (.seq (.reg [⟨some 211, .p (.mov (.t 0)), none⟩,
    ⟨some 212, .call 29 [(.t 211)], none⟩,
    ⟨some 4, .p (.mov (.t 212)), none⟩])
  .ret))))
def rs10 : List AR := [.tmp 4]
theorem ok10 : okF Try.prog 10 213 ac10 rs10 = true := by kernel_rfl
/-- simulacrum/token.Seek -/
def ac11 : AC := (.seq (.reg [⟨some 2, .h (.box (.t 0)), none⟩,
    ⟨some 4, .h (.alloc [(.int .i64 0), (.int .i64 0), (.int .i64 0), (.bool false), (.bool false), (.bool false), (.int .i64 0), (.int .i64 0), (.int .i64 0), (.int .i64 0), (.int .i64 0)]), none⟩,
    ⟨some 5, .h (.alloc [(.int .i64 0), (.int .i64 0), (.int .i64 0), (.int .i64 0), (.int .i64 0)]), none⟩,
    ⟨some 6, .p (.mov (.c (.int .i64 0))), none⟩])
  (.seq (.block 0 (.seq (.reg [⟨some 9, .p (.mov (.t 1)), none⟩,
    ⟨some 10, .d (.bslice 1 1 [(.int .i64 0)] [(0, (.t 9))]), none⟩,
    ⟨some 11, .call 30 [(.t 10)], none⟩,
    ⟨some 12, .p (.un .not (.t 11)), none⟩,
    ⟨some 8, .p (.mov (.t 12)), none⟩])
  (.cond (.t 8) (.seq (.reg [⟨some 13, .h (.load true 11 (.t 2)), none⟩,
    ⟨some 14, .v (.build [(.int .i64 0), (.int .i64 0), (.int .i64 0), (.int .i64 0), (.int .i64 0)] []), none⟩,
    ⟨none, .h (.store 11 (.t 4) (.t 13)), none⟩,
    ⟨none, .h (.store 5 (.t 5) (.t 14)), none⟩,
    ⟨some 6, .p (.mov (.c (.int .i64 1))), none⟩])
  .ret) (.seq (.reg [⟨some 16, .p (.mov (.t 1)), none⟩,
    ⟨some 17, .p (.fieldA 2 (.t 2)), none⟩,
    ⟨some 18, .h (.load false 1 (.t 17)), none⟩,
    ⟨some 19, .p (.bin .leq (.t 16) (.t 18)), none⟩,
    ⟨some 15, .p (.mov (.t 19)), none⟩])
  (.cond (.t 15) (.seq (.reg [⟨some 20, .h (.load true 11 (.t 2)), none⟩,
    ⟨some 21, .v (.build [(.int .i64 0), (.int .i64 0), (.int .i64 0), (.int .i64 0), (.int .i64 0)] []), none⟩,
    ⟨none, .h (.store 11 (.t 4) (.t 20)), none⟩,
    ⟨none, .h (.store 5 (.t 5) (.t 21)), none⟩,
    ⟨some 6, .p (.mov (.c (.int .i64 9))), none⟩])
  .ret) .skip)))))
  (.seq (.reg [⟨some 22, .p (.fieldA 0 (.t 2)), none⟩,
    ⟨some 23, .h (.load false 1 (.t 22)), none⟩,
    ⟨some 24, .p (.fieldA 1 (.t 2)), none⟩,
    ⟨some 25, .h (.load false 1 (.t 24)), none⟩,
    ⟨some 26, .p (.mov (.t 1)), none⟩,
    ⟨some 27, .v (.build [(.int .i64 0), (.int .i64 0), (.int .i64 0), (.int .i64 0), (.int .i64 0)] [(0, 1, (.c (.int .i64 1))), (1, 1, (.t 23)), (2, 1, (.t 25)), (3, 1, (.t 26))]), none⟩,
    ⟨some 7, .h (.alloc [(.int .i64 0), (.int .i64 0), (.int .i64 0), (.int .i64 0), (.int .i64 0)]), none⟩,
    ⟨none, .h (.store 5 (.t 7) (.t 27)), none⟩])
  (.seq (.draw 12 [(1, 9), (3, 9), (6, 9), (8, 10), (9, 10), (1, 10), (3, 10), (6, 10)] [⟨some 28, .p (.fieldA 0 (.t 2)), none⟩,
    ⟨some 29, .h (.load false 1 (.t 28)), none⟩,
    ⟨some 30, .p (.fieldA 1 (.t 2)), none⟩,
    ⟨some 31, .h (.load false 1 (.t 30)), none⟩,
    ⟨some 32, .p (.mov (.t 1)), none⟩,
    ⟨some 33, .p (.fieldA 10 (.t 2)), none⟩,
    ⟨some 34, .h (.load false 1 (.t 33)), none⟩,
    ⟨some 35, .v (.build [(.int .i64 0), (.int .i64 0), (.int .i64 0), (.bool false), (.bool false), (.bool false), (.int .i64 0), (.int .i64 0), (.int .i64 0), (.int .i64 0), (.int .i64 0)] [(0, 1, (.t 29)), (1, 1, (.t 31)), (2, 1, (.t 32)), (10, 1, (.t 34))]), none⟩,
    ⟨some 36, .h (.load true 5 (.t 7)), none⟩,
    ⟨none, .h (.store 11 (.t 4) (.t 35)), none⟩,
    ⟨none, .h (.store 5 (.t 5) (.t 36)), none⟩,
    ⟨some 6, .p (.mov (.c (.int .i64 0))), none⟩])
  .ret))))
def rs11 : List AR := [.cell 4 true 11, .cell 5 true 5, .tmp 6]
theorem ok11 : okF Try.prog 11 37 ac11 rs11 = true := by kernel_rfl
/-- simulacrum/simulacrumlaw37.hear -/
def ac12 : AC := (.seq (.reg [⟨some 5, .h (.box (.t 1)), none⟩,
    ⟨some 6, .h (.box (.t 2)), none⟩,
    ⟨some 8, .h (.alloc [(.int .i64 0), (.int .i64 0), (.int .i64 0), (.bool false), (.bool false), (.bool false), (.int .i64 0), (.int .i64 0), (.int .i64 0), (.int .i64 0), (.int .i64 0)]), none⟩,
    ⟨some 9, .p (.mov (.c (.bool false))), none⟩])
  (.seq (.reg [⟨some 10, .p (.mov (.c (.bool true))), none⟩])
  (.seq (.seq (.reg [⟨some 16, .p (.mov (.t 3)), none⟩,
    ⟨some 17, .p (.len false (.t 16)), none⟩,
    ⟨some 18, .p (.mov (.c (.int .i64 0))), none⟩])
  (.block 0 (.loop (.seq (.reg [⟨some 19, .p (.bin .lss (.t 18) (.t 17)), none⟩])
  (.seq (.cond (.t 19) .skip (.exit 0))
  (.seq (.block 1 (.seq (.reg [⟨some 20, .p (.idxA 1 none (.t 16) (.t 18)), none⟩,
    ⟨some 21, .h (.load false 1 (.t 20)), none⟩,
    ⟨some 12, .p (.mov (.t 21)), none⟩])
  (.seq (.draw 16 [(11, 13), (4, 13), (5, 13), (12, 13), (12, 14), (13, 14), (4, 14), (5, 14), (11, 14)] [⟨some 23, .p (.mov (.t 0)), none⟩,
    ⟨some 24, .p (.mov (.t 12)), none⟩,
    ⟨some 25, .p (.nilchk (.t 23)), none⟩,
    ⟨some 26, .p (.idxA 2 (some 3) (.t 25) (.t 24)), none⟩,
    ⟨some 27, .h (.load true 2 (.t 26)), none⟩,
    ⟨some 28, .h (.load true 5 (.t 6)), none⟩,
    ⟨some 29, .call 17 [(.t 27), (.t 28)], none⟩,
    ⟨some 22, .p (.mov (.t 29)), none⟩,
    ⟨some 30, .p (.extract 0 (.t 22)), none⟩,
    ⟨some 31, .p (.extract 1 (.t 22)), none⟩,
    ⟨some 32, .p (.extract 2 (.t 22)), none⟩,
    ⟨some 13, .h (.alloc [(.int .i64 0), .nils]), none⟩,
    ⟨some 14, .h (.alloc [(.int .i64 0), (.int .i64 0), (.int .i64 0), (.int .i64 0), (.int .i64 0), (.int .i64 0), (.bool false), (.int .i64 0), (.int .i64 0)]), none⟩,
    ⟨none, .h (.store 2 (.t 13) (.t 30)), none⟩,
    ⟨none, .h (.store 9 (.t 14) (.t 31)), none⟩,
    ⟨some 15, .p (.mov (.t 32)), none⟩])
  (.seq (.seq (.reg [⟨some 33, .p (.mov (.t 15)), none⟩,
    ⟨some 34, .p (.bin .eql (.t 33) (.c (.int .i64 0))), none⟩])
  (.cond (.t 34) (.draw 6 [(2, 5)] [⟨some 35, .p (.mov (.t 0)), none⟩,
    ⟨some 36, .p (.mov (.t 12)), none⟩,
    ⟨some 37, .h (.load true 2 (.t 13)), none⟩,
    ⟨some 38, .p (.nilchk (.t 35)), none⟩,
    ⟨some 39, .p (.idxA 2 (some 3) (.t 38) (.t 36)), none⟩,
    ⟨none, .h (.store 2 (.t 39) (.t 37)), none⟩]) .skip))
  (.seq (.reg [⟨some 40, .p (.mov (.t 10)), none⟩,
    ⟨some 41, .p (.mov (.t 40)), none⟩,
    ⟨some 42, .p (.mov (.t 15)), (some (41, true))⟩,
    ⟨some 43, .p (.bin .eql (.t 42) (.c (.int .i64 0))), (some (41, true))⟩,
    ⟨some 44, .p (.pick (.t 41) (.t 43) (.c (.bool false))), none⟩,
    ⟨some 45, .p (.mov (.t 44)), none⟩,
    ⟨some 46, .p (.fieldA 6 (.t 14)), (some (45, true))⟩,
    ⟨some 47, .h (.load false 1 (.t 46)), (some (45, true))⟩,
    ⟨some 48, .p (.pick (.t 45) (.t 47) (.c (.bool false))), none⟩,
    ⟨some 10, .p (.mov (.t 48)), none⟩])
  (.reg [⟨some 49, .h (.load true 11 (.t 5)), none⟩,
    ⟨some 50, .h (.load true 9 (.t 14)), none⟩,
    ⟨some 51, .call 23 [(.t 49), (.t 50)], none⟩,
    ⟨none, .h (.store 11 (.t 5) (.t 51)), none⟩]))))))
  (.reg [⟨some 52, .p (.bin .add (.t 18) (.c (.int .i64 1))), none⟩,
    ⟨some 18, .p (.mov (.t 52)), none⟩])))))))
  (.seq (.reg [⟨some 53, .h (.load true 11 (.t 5)), none⟩,
    ⟨some 54, .p (.mov (.t 10)), none⟩,
    ⟨none, .h (.store 11 (.t 8) (.t 53)), none⟩,
    ⟨some 9, .p (.mov (.t 54)), none⟩])
  .ret))))
def rs12 : List AR := [.cell 8 true 11, .tmp 9]
theorem ok12 : okF Try.prog 12 55 ac12 rs12 = true := by kernel_rfl
/-- simulacrum/token.Holds -/
def ac13 : AC := (.seq (.reg [⟨some 1, .h (.box (.t 0)), none⟩,
    ⟨some 2, .p (.mov (.c (.bool false))), none⟩])
  (.seq (.reg [⟨some 3, .p (.mov (.c (.int .i64 0))), none⟩])
  (.seq (.seq (.reg [⟨some 6, .p (.fieldA 3 (.t 1)), none⟩,
    ⟨some 7, .h (.load true 3 (.t 6)), none⟩,
    ⟨some 8, .p (.mov (.c (.int .i64 0))), none⟩])
  (.block 0 (.loop (.seq (.reg [⟨some 9, .p (.bin .lss (.t 8) (.c (.int .i64 3))), none⟩])
  (.seq (.cond (.t 9) .skip (.exit 0))
  (.seq (.block 1 (.seq (.reg [⟨some 10, .v (.idx false 1 3 (.t 7) (.t 8)), none⟩,
    ⟨some 5, .p (.mov (.t 10)), none⟩])
  (.seq (.reg [⟨some 11, .p (.mov (.t 5)), none⟩])
  (.cond (.t 11) (.reg [⟨some 12, .p (.mov (.t 3)), none⟩,
    ⟨some 13, .p (.bin .add (.t 12) (.c (.int .i64 1))), none⟩,
    ⟨some 3, .p (.mov (.t 13)), none⟩]) .skip))))
  (.reg [⟨some 14, .p (.bin .add (.t 8) (.c (.int .i64 1))), none⟩,
    ⟨some 8, .p (.mov (.t 14)), none⟩])))))))
  (.seq (.reg [⟨some 15, .p (.mov (.t 3)), none⟩,
    ⟨some 16, .p (.bin .geq (.t 15) (.c (.int .i64 2))), none⟩,
    ⟨some 2, .p (.mov (.t 16)), none⟩])
  .ret))))
def rs13 : List AR := [.tmp 2]
theorem ok13 : okF Try.prog 13 17 ac13 rs13 = true := by kernel_rfl
/-- simulacrum/token.Offer -/
def ac14 : AC := (.seq (.reg [⟨some 2, .h (.box (.t 0)), none⟩,
    ⟨some 4, .h (.alloc [(.int .i64 0), (.int .i64 0), (.int .i64 0), (.int .i64 0), (.int .i64 0)]), none⟩,
    ⟨some 5, .p (.mov (.c (.int .i64 0))), none⟩])
  (.seq (.block 0 (.seq (.reg [⟨some 7, .h (.load true 11 (.t 2)), none⟩,
    ⟨some 8, .call 13 [(.t 7)], none⟩,
    ⟨some 9, .p (.un .not (.t 8)), none⟩,
    ⟨some 6, .p (.mov (.t 9)), none⟩])
  (.cond (.t 6) (.seq (.reg [⟨some 10, .v (.build [(.int .i64 0), (.int .i64 0), (.int .i64 0), (.int .i64 0), (.int .i64 0)] []), none⟩,
    ⟨none, .h (.store 5 (.t 4) (.t 10)), none⟩,
    ⟨some 5, .p (.mov (.c (.int .i64 4))), none⟩])
  .ret) (.seq (.reg [⟨some 12, .p (.mov (.t 1)), none⟩,
    ⟨some 13, .d (.bslice 1 1 [(.int .i64 0)] [(0, (.t 12))]), none⟩,
    ⟨some 14, .call 31 [(.t 13)], none⟩,
    ⟨some 15, .p (.un .not (.t 14)), none⟩,
    ⟨some 11, .p (.mov (.t 15)), none⟩])
  (.cond (.t 11) (.seq (.reg [⟨some 16, .v (.build [(.int .i64 0), (.int .i64 0), (.int .i64 0), (.int .i64 0), (.int .i64 0)] []), none⟩,
    ⟨none, .h (.store 5 (.t 4) (.t 16)), none⟩,
    ⟨some 5, .p (.mov (.c (.int .i64 1))), none⟩])
  .ret) .skip)))))
  (.seq (.reg [⟨some 17, .p (.fieldA 0 (.t 2)), none⟩,
    ⟨some 18, .h (.load false 1 (.t 17)), none⟩,
    ⟨some 19, .p (.fieldA 1 (.t 2)), none⟩,
    ⟨some 20, .h (.load false 1 (.t 19)), none⟩,
    ⟨some 21, .p (.fieldA 2 (.t 2)), none⟩,
    ⟨some 22, .h (.load false 1 (.t 21)), none⟩,
    ⟨some 23, .p (.mov (.t 1)), none⟩,
    ⟨some 24, .v (.build [(.int .i64 0), (.int .i64 0), (.int .i64 0), (.int .i64 0), (.int .i64 0)] [(0, 1, (.c (.int .i64 2))), (1, 1, (.t 18)), (2, 1, (.t 20)), (3, 1, (.t 22)), (4, 1, (.t 23))]), none⟩,
    ⟨none, .h (.store 5 (.t 4) (.t 24)), none⟩,
    ⟨some 5, .p (.mov (.c (.int .i64 0))), none⟩])
  .ret)))
def rs14 : List AR := [.cell 4 true 5, .tmp 5]
theorem ok14 : okF Try.prog 14 25 ac14 rs14 = true := by kernel_rfl
/-- simulacrum/token.Released -/
def ac15 : AC := (.seq (.reg [⟨some 1, .h (.box (.t 0)), none⟩,
    ⟨some 2, .p (.mov (.c (.int .i64 0))), none⟩])
  (.seq (.seq (.reg [⟨some 4, .h (.load true 11 (.t 1)), none⟩,
    ⟨some 5, .call 13 [(.t 4)], none⟩,
    ⟨some 6, .p (.un .not (.t 5)), none⟩])
  (.cond (.t 6) (.seq (.reg [⟨some 2, .p (.mov (.c (.int .i64 0))), none⟩])
  .ret) .skip))
  (.seq (.reg [⟨some 7, .p (.fieldA 7 (.t 1)), none⟩,
    ⟨some 8, .h (.load true 3 (.t 7)), none⟩,
    ⟨some 3, .h (.alloc [(.int .i64 0), (.int .i64 0), (.int .i64 0)]), none⟩,
    ⟨none, .h (.store 3 (.t 3) (.t 8)), none⟩])
  (.seq (.reg [⟨some 9, .d (.asub 1 3 (.t 3) none none), none⟩,
    ⟨some 10, .call 32 [(.t 9)], none⟩])
  (.seq (.reg [⟨some 11, .p (.idxA 1 (some 3) (.t 3) (.c (.int .i64 1))), none⟩,
    ⟨some 12, .h (.load false 1 (.t 11)), none⟩,
    ⟨some 2, .p (.mov (.t 12)), none⟩])
  .ret)))))
def rs15 : List AR := [.tmp 2]
theorem ok15 : okF Try.prog 15 13 ac15 rs15 = true := by kernel_rfl
/-- simulacrum/simulacrumref37.Valid -/
def ac16 : AC := (.seq (.reg [⟨some 1, .h (.box (.t 0)), none⟩,
    ⟨some 2, .p (.mov (.c (.bool false))), none⟩])
  (.seq (.seq (.reg [⟨some 5, .p (.fieldA 0 (.t 1)), none⟩,
    ⟨some 6, .h (.load false 1 (.t 5)), none⟩,
    ⟨some 7, .p (.bin .lss (.t 6) (.c (.int .i64 0))), none⟩,
    ⟨some 8, .p (.mov (.t 7)), none⟩,
    ⟨some 9, .p (.fieldA 0 (.t 1)), (some (8, false))⟩,
    ⟨some 10, .h (.load false 1 (.t 9)), (some (8, false))⟩,
    ⟨some 11, .p (.bin .geq (.t 10) (.c (.int .i64 3))), (some (8, false))⟩,
    ⟨some 12, .p (.pick (.t 8) (.c (.bool true)) (.t 11)), none⟩,
    ⟨some 13, .p (.mov (.t 12)), none⟩,
    ⟨some 14, .p (.fieldA 1 (.t 1)), (some (13, false))⟩,
    ⟨some 15, .h (.load false 1 (.t 14)), (some (13, false))⟩,
    ⟨some 16, .p (.len false (.t 15)), (some (13, false))⟩,
    ⟨some 17, .p (.bin .gtr (.t 16) (.c (.int .i64 64))), (some (13, false))⟩,
    ⟨some 18, .p (.pick (.t 13) (.c (.bool true)) (.t 17)), none⟩])
  (.cond (.t 18) (.seq (.reg [⟨some 2, .p (.mov (.c (.bool false))), none⟩])
  .ret) .skip))
  (.seq (.seq (.reg [⟨some 3, .p (.mov (.c (.int .i64 0))), none⟩])
  (.block 0 (.loop (.seq (.seq (.reg [⟨some 19, .p (.mov (.t 3)), none⟩,
    ⟨some 20, .p (.fieldA 1 (.t 1)), none⟩,
    ⟨some 21, .h (.load false 1 (.t 20)), none⟩,
    ⟨some 22, .p (.len false (.t 21)), none⟩,
    ⟨some 23, .p (.bin .lss (.t 19) (.t 22)), none⟩])
  (.cond (.t 23) .skip (.exit 0)))
  (.seq (.block 1 (.seq (.reg [⟨some 26, .p (.fieldA 1 (.t 1)), none⟩,
    ⟨some 27, .h (.load false 1 (.t 26)), none⟩,
    ⟨some 28, .p (.mov (.t 3)), none⟩,
    ⟨some 29, .p (.idxA 4 none (.t 27) (.t 28)), none⟩,
    ⟨some 30, .h (.load true 4 (.t 29)), none⟩,
    ⟨some 4, .h (.alloc [(.int .i64 0), (.int .i64 0), (.int .i64 0), (.int .i64 0)]), none⟩,
    ⟨none, .h (.store 4 (.t 4) (.t 30)), none⟩])
  (.seq (.draw 38 [] [⟨some 31, .p (.fieldA 0 (.t 4)), none⟩,
    ⟨some 32, .h (.load false 1 (.t 31)), none⟩,
    ⟨some 33, .call 33 [(.t 32)], none⟩,
    ⟨some 34, .p (.un .not (.t 33)), none⟩,
    ⟨some 35, .p (.mov (.t 34)), none⟩,
    ⟨some 36, .p (.fieldA 2 (.t 4)), (some (35, false))⟩,
    ⟨some 37, .h (.load false 1 (.t 36)), (some (35, false))⟩,
    ⟨some 38, .call 33 [(.t 37)], (some (35, false))⟩,
    ⟨some 39, .p (.un .not (.t 38)), (some (35, false))⟩,
    ⟨some 40, .p (.pick (.t 35) (.c (.bool true)) (.t 39)), none⟩,
    ⟨some 41, .p (.mov (.t 40)), none⟩,
    ⟨some 42, .p (.fieldA 1 (.t 4)), (some (41, false))⟩,
    ⟨some 43, .h (.load false 1 (.t 42)), (some (41, false))⟩,
    ⟨some 44, .call 33 [(.t 43)], (some (41, false))⟩,
    ⟨some 45, .p (.un .not (.t 44)), (some (41, false))⟩,
    ⟨some 46, .p (.pick (.t 41) (.c (.bool true)) (.t 45)), none⟩,
    ⟨some 47, .p (.mov (.t 46)), none⟩,
    ⟨some 48, .p (.fieldA 3 (.t 4)), (some (47, false))⟩,
    ⟨some 49, .h (.load false 1 (.t 48)), (some (47, false))⟩,
    ⟨some 50, .call 34 [(.t 49)], (some (47, false))⟩,
    ⟨some 51, .p (.un .not (.t 50)), (some (47, false))⟩,
    ⟨some 52, .p (.pick (.t 47) (.c (.bool true)) (.t 51)), none⟩,
    ⟨some 53, .p (.mov (.t 52)), none⟩,
    ⟨some 54, .p (.mov (.t 3)), (some (53, false))⟩,
    ⟨some 55, .p (.bin .gtr (.t 54) (.c (.int .i64 0))), (some (53, false))⟩,
    ⟨some 56, .p (.mov (.t 55)), (some (53, false))⟩,
    ⟨some 57, .p (.fieldA 0 (.t 4)), (some (56, true))⟩,
    ⟨some 58, .h (.load false 1 (.t 57)), (some (56, true))⟩,
    ⟨some 59, .p (.fieldA 1 (.t 1)), (some (56, true))⟩,
    ⟨some 60, .h (.load false 1 (.t 59)), (some (56, true))⟩,
    ⟨some 61, .p (.mov (.t 3)), (some (56, true))⟩,
    ⟨some 62, .p (.bin .sub (.t 61) (.c (.int .i64 1))), (some (56, true))⟩,
    ⟨some 63, .p (.idxA 4 none (.t 60) (.t 62)), (some (56, true))⟩,
    ⟨some 64, .p (.fieldA 0 (.t 63)), (some (56, true))⟩,
    ⟨some 65, .h (.load false 1 (.t 64)), (some (56, true))⟩,
    ⟨some 66, .p (.bin .leq (.t 58) (.t 65)), (some (56, true))⟩,
    ⟨some 67, .p (.pick (.t 56) (.t 66) (.c (.bool false))), (some (53, false))⟩,
    ⟨some 68, .p (.pick (.t 53) (.c (.bool true)) (.t 67)), none⟩])
  (.cond (.t 68) (.seq (.reg [⟨some 2, .p (.mov (.c (.bool false))), none⟩])
  .ret) .skip))))
  (.reg [⟨some 24, .p (.mov (.t 3)), none⟩,
    ⟨some 25, .p (.bin .add (.t 24) (.c (.int .i64 1))), none⟩,
    ⟨some 3, .p (.mov (.t 25)), none⟩]))))))
  (.seq (.reg [⟨some 2, .p (.mov (.c (.bool true))), none⟩])
  .ret))))
def rs16 : List AR := [.tmp 2]
theorem ok16 : okF Try.prog 16 69 ac16 rs16 = true := by kernel_rfl
/-- simulacrum/token.Hear -/
def ac17 : AC := (.seq (.reg [⟨some 2, .h (.box (.t 0)), none⟩,
    ⟨some 3, .h (.box (.t 1)), none⟩,
    ⟨some 4, .h (.alloc [(.int .i64 0), .nils]), none⟩,
    ⟨some 5, .h (.alloc [(.int .i64 0), (.int .i64 0), (.int .i64 0), (.int .i64 0), (.int .i64 0), (.int .i64 0), (.bool false), (.int .i64 0), (.int .i64 0)]), none⟩,
    ⟨some 6, .p (.mov (.c (.int .i64 0))), none⟩])
  (.seq (.seq (.reg [⟨some 12, .h (.load true 5 (.t 3)), none⟩,
    ⟨some 13, .call 35 [(.t 12)], none⟩,
    ⟨some 14, .p (.un .not (.t 13)), none⟩])
  (.cond (.t 14) (.seq (.reg [⟨some 15, .h (.load true 2 (.t 2)), none⟩,
    ⟨some 16, .v (.build [(.int .i64 0), (.int .i64 0), (.int .i64 0), (.int .i64 0), (.int .i64 0), (.int .i64 0), (.bool false), (.int .i64 0), (.int .i64 0)] []), none⟩,
    ⟨none, .h (.store 2 (.t 4) (.t 15)), none⟩,
    ⟨none, .h (.store 9 (.t 5) (.t 16)), none⟩,
    ⟨some 6, .p (.mov (.c (.int .i64 1))), none⟩])
  .ret) .skip))
  (.seq (.reg [⟨some 17, .p (.fieldA 1 (.t 2)), none⟩,
    ⟨some 18, .h (.load false 1 (.t 17)), none⟩,
    ⟨some 19, .p (.len false (.t 18)), none⟩,
    ⟨some 20, .p (.mkfn 37 [(.t 2), (.t 3)]), none⟩,
    ⟨some 21, .call 36 [(.t 19), (.t 20)], none⟩,
    ⟨some 7, .p (.mov (.t 21)), none⟩])
  (.seq (.draw 17 [] [⟨some 22, .p (.mov (.t 7)), none⟩,
    ⟨some 23, .p (.fieldA 1 (.t 2)), none⟩,
    ⟨some 24, .h (.load false 1 (.t 23)), none⟩,
    ⟨some 25, .p (.len false (.t 24)), none⟩,
    ⟨some 26, .p (.bin .lss (.t 22) (.t 25)), none⟩,
    ⟨some 27, .p (.mov (.t 26)), none⟩,
    ⟨some 28, .p (.fieldA 1 (.t 2)), (some (27, true))⟩,
    ⟨some 29, .h (.load false 1 (.t 28)), (some (27, true))⟩,
    ⟨some 30, .p (.mov (.t 7)), (some (27, true))⟩,
    ⟨some 31, .p (.idxA 4 none (.t 29) (.t 30)), (some (27, true))⟩,
    ⟨some 32, .p (.fieldA 0 (.t 31)), (some (27, true))⟩,
    ⟨some 33, .h (.load false 1 (.t 32)), (some (27, true))⟩,
    ⟨some 34, .p (.fieldA 1 (.t 3)), (some (27, true))⟩,
    ⟨some 35, .h (.load false 1 (.t 34)), (some (27, true))⟩,
    ⟨some 36, .p (.bin .eql (.t 33) (.t 35)), (some (27, true))⟩,
    ⟨some 37, .p (.pick (.t 27) (.t 36) (.c (.bool false))), none⟩,
    ⟨some 8, .p (.mov (.t 37)), none⟩])
  (.seq (.seq (.reg [⟨some 38, .p (.mov (.t 8)), none⟩,
    ⟨some 39, .p (.un .not (.t 38)), none⟩,
    ⟨some 40, .p (.mov (.t 39)), none⟩,
    ⟨some 41, .p (.fieldA 1 (.t 2)), (some (40, true))⟩,
    ⟨some 42, .h (.load false 1 (.t 41)), (some (40, true))⟩,
    ⟨some 43, .p (.len false (.t 42)), (some (40, true))⟩,
    ⟨some 44, .p (.bin .geq (.t 43) (.c (.int .i64 64))), (some (40, true))⟩,
    ⟨some 45, .p (.pick (.t 40) (.t 44) (.c (.bool false))), none⟩])
  (.cond (.t 45) (.seq (.reg [⟨some 46, .h (.load true 2 (.t 2)), none⟩,
    ⟨some 47, .v (.build [(.int .i64 0), (.int .i64 0), (.int .i64 0), (.int .i64 0), (.int .i64 0), (.int .i64 0), (.bool false), (.int .i64 0), (.int .i64 0)] []), none⟩,
    ⟨none, .h (.store 2 (.t 4) (.t 46)), none⟩,
    ⟨none, .h (.store 9 (.t 5) (.t 47)), none⟩,
    ⟨some 6, .p (.mov (.c (.int .i64 2))), none⟩])
  .ret) .skip))
  (.seq (.reg [⟨some 48, .p (.fieldA 0 (.t 2)), none⟩,
    ⟨some 49, .h (.load false 1 (.t 48)), none⟩,
    ⟨some 50, .h (.load true 5 (.t 3)), none⟩,
    ⟨some 51, .v (.build [(.int .i64 0), (.int .i64 0), (.int .i64 0), (.int .i64 0), (.int .i64 0), (.int .i64 0), (.bool false), (.int .i64 0), (.int .i64 0)] [(0, 1, (.t 49)), (1, 5, (.t 50))]), none⟩,
    ⟨some 9, .h (.alloc [(.int .i64 0), (.int .i64 0), (.int .i64 0), (.int .i64 0), (.int .i64 0), (.int .i64 0), (.bool false), (.int .i64 0), (.int .i64 0)]), none⟩,
    ⟨none, .h (.store 9 (.t 9) (.t 51)), none⟩])
  (.seq (.seq (.reg [⟨some 52, .p (.mov (.t 8)), none⟩,
    ⟨some 53, .p (.un .not (.t 52)), none⟩,
    ⟨some 54, .p (.mov (.t 53)), none⟩,
    ⟨some 55, .p (.fieldA 0 (.t 3)), (some (54, true))⟩,
    ⟨some 56, .h (.load false 1 (.t 55)), (some (54, true))⟩,
    ⟨some 57, .p (.bin .eql (.t 56) (.c (.int .i64 2))), (some (54, true))⟩,
    ⟨some 58, .p (.pick (.t 54) (.t 57) (.c (.bool false))), none⟩])
  (.cond (.t 58) (.seq (.draw 5 [(0, 2), (1, 3), (2, 3), (0, 3)] [⟨some 59, .h (.load true 2 (.t 2)), none⟩,
    ⟨some 60, .h (.load true 9 (.t 9)), none⟩,
    ⟨none, .h (.store 2 (.t 4) (.t 59)), none⟩,
    ⟨none, .h (.store 9 (.t 5) (.t 60)), none⟩,
    ⟨some 6, .p (.mov (.c (.int .i64 0))), none⟩])
  .ret) .skip))
  (.seq (.reg [⟨some 61, .p (.fieldA 1 (.t 3)), none⟩,
    ⟨some 62, .h (.load false 1 (.t 61)), none⟩,
    ⟨some 63, .v (.build [(.int .i64 0), (.int .i64 0), (.int .i64 0), (.int .i64 0)] [(0, 1, (.t 62))]), none⟩,
    ⟨some 10, .h (.alloc [(.int .i64 0), (.int .i64 0), (.int .i64 0), (.int .i64 0)]), none⟩,
    ⟨none, .h (.store 4 (.t 10) (.t 63)), none⟩])
  (.seq (.reg [⟨some 64, .d (.bslice 4 0 [(.int .i64 0), (.int .i64 0), (.int .i64 0), (.int .i64 0)] []), none⟩,
    ⟨some 65, .p (.fieldA 1 (.t 2)), none⟩,
    ⟨some 66, .h (.load false 1 (.t 65)), none⟩,
    ⟨some 67, .p (.mov (.t 7)), none⟩,
    ⟨some 68, .v (.sub 4 (.t 66) none (some (.t 67)) none), none⟩,
    ⟨some 69, .l (.append 4 32 (.t 64) (.t 68)), none⟩,
    ⟨some 11, .p (.mov (.t 69)), none⟩])
  (.seq (.seq (.reg [⟨some 70, .p (.mov (.t 8)), none⟩])
  (.cond (.t 70) (.seq (.reg [⟨some 71, .p (.fieldA 1 (.t 2)), none⟩,
    ⟨some 72, .h (.load false 1 (.t 71)), none⟩,
    ⟨some 73, .p (.mov (.t 7)), none⟩,
    ⟨some 74, .p (.idxA 4 none (.t 72) (.t 73)), none⟩,
    ⟨some 75, .h (.load true 4 (.t 74)), none⟩,
    ⟨none, .h (.store 4 (.t 10) (.t 75)), none⟩])
  (.draw 11 [(1, 2), (2, 3), (3, 9)] [⟨some 76, .p (.mov (.t 11)), none⟩,
    ⟨some 77, .h (.load true 4 (.t 10)), none⟩,
    ⟨some 78, .d (.bslice 4 1 [(.int .i64 0), (.int .i64 0), (.int .i64 0), (.int .i64 0)] [(0, (.t 77))]), none⟩,
    ⟨some 79, .l (.append 4 32 (.t 76) (.t 78)), none⟩,
    ⟨some 80, .p (.fieldA 1 (.t 2)), none⟩,
    ⟨some 81, .h (.load false 1 (.t 80)), none⟩,
    ⟨some 82, .p (.mov (.t 7)), none⟩,
    ⟨some 83, .p (.bin .add (.t 82) (.c (.int .i64 1))), none⟩,
    ⟨some 84, .v (.sub 4 (.t 81) (some (.t 83)) none none), none⟩,
    ⟨some 85, .l (.append 4 32 (.t 79) (.t 84)), none⟩,
    ⟨some 11, .p (.mov (.t 85)), none⟩])) (.draw 10 [(1, 2), (2, 3), (3, 8)] [⟨some 86, .p (.mov (.t 11)), none⟩,
    ⟨some 87, .h (.load true 4 (.t 10)), none⟩,
    ⟨some 88, .d (.bslice 4 1 [(.int .i64 0), (.int .i64 0), (.int .i64 0), (.int .i64 0)] [(0, (.t 87))]), none⟩,
    ⟨some 89, .l (.append 4 32 (.t 86) (.t 88)), none⟩,
    ⟨some 90, .p (.fieldA 1 (.t 2)), none⟩,
    ⟨some 91, .h (.load false 1 (.t 90)), none⟩,
    ⟨some 92, .p (.mov (.t 7)), none⟩,
    ⟨some 93, .v (.sub 4 (.t 91) (some (.t 92)) none none), none⟩,
    ⟨some 94, .l (.append 4 32 (.t 89) (.t 93)), none⟩,
    ⟨some 11, .p (.mov (.t 94)), none⟩])))
  (.seq (.seq (.reg [⟨some 95, .p (.fieldA 0 (.t 3)), none⟩,
    ⟨some 96, .h (.load false 1 (.t 95)), none⟩,
    ⟨some 97, .p (.bin .eql (.t 96) (.c (.int .i64 1))), none⟩,
    ⟨some 98, .p (.mov (.t 97)), none⟩,
    ⟨some 99, .p (.fieldA 3 (.t 3)), (some (98, true))⟩,
    ⟨some 100, .h (.load false 1 (.t 99)), (some (98, true))⟩,
    ⟨some 101, .p (.fieldA 1 (.t 10)), (some (98, true))⟩,
    ⟨some 102, .h (.load false 1 (.t 101)), (some (98, true))⟩,
    ⟨some 103, .p (.bin .gtr (.t 100) (.t 102)), (some (98, true))⟩,
    ⟨some 104, .p (.pick (.t 98) (.t 103) (.c (.bool false))), none⟩])
  (.cond (.t 104) (.draw 8 [(1, 5), (3, 7), (5, 7), (1, 7)] [⟨some 105, .p (.fieldA 3 (.t 3)), none⟩,
    ⟨some 106, .h (.load false 1 (.t 105)), none⟩,
    ⟨some 107, .p (.fieldA 2 (.t 3)), none⟩,
    ⟨some 108, .h (.load false 1 (.t 107)), none⟩,
    ⟨some 109, .p (.fieldA 1 (.t 10)), none⟩,
    ⟨none, .h (.store 1 (.t 109) (.t 106)), none⟩,
    ⟨some 110, .p (.fieldA 2 (.t 10)), none⟩,
    ⟨none, .h (.store 1 (.t 110) (.t 108)), none⟩]) .skip))
  (.seq (.reg [⟨some 111, .p (.fieldA 1 (.t 10)), none⟩,
    ⟨some 112, .h (.load false 1 (.t 111)), none⟩,
    ⟨some 113, .p (.fieldA 3 (.t 3)), none⟩,
    ⟨some 114, .h (.load false 1 (.t 113)), none⟩,
    ⟨some 115, .p (.bin .eql (.t 112) (.t 114)), none⟩,
    ⟨some 116, .p (.mov (.t 115)), none⟩,
    ⟨some 117, .p (.fieldA 2 (.t 10)), (some (116, true))⟩,
    ⟨some 118, .h (.load false 1 (.t 117)), (some (116, true))⟩,
    ⟨some 119, .p (.fieldA 2 (.t 3)), (some (116, true))⟩,
    ⟨some 120, .h (.load false 1 (.t 119)), (some (116, true))⟩,
    ⟨some 121, .p (.bin .eql (.t 118) (.t 120)), (some (116, true))⟩,
    ⟨some 122, .p (.pick (.t 116) (.t 121) (.c (.bool false))), none⟩,
    ⟨some 123, .p (.fieldA 6 (.t 9)), none⟩,
    ⟨none, .h (.store 1 (.t 123) (.t 122)), none⟩])
  (.seq (.seq (.reg [⟨some 124, .p (.fieldA 6 (.t 9)), none⟩,
    ⟨some 125, .h (.load false 1 (.t 124)), none⟩])
  (.cond (.t 125) (.reg [⟨some 126, .p (.fieldA 3 (.t 10)), none⟩,
    ⟨some 127, .h (.load false 1 (.t 126)), none⟩,
    ⟨some 128, .p (.fieldA 4 (.t 3)), none⟩,
    ⟨some 129, .h (.load false 1 (.t 128)), none⟩,
    ⟨some 130, .p (.mm true (.t 127) (.t 129)), none⟩,
    ⟨some 131, .p (.fieldA 3 (.t 10)), none⟩,
    ⟨none, .h (.store 1 (.t 131) (.t 130)), none⟩]) .skip))
  (.seq (.draw 8 [(1, 5), (3, 7), (5, 7), (1, 7)] [⟨some 132, .p (.fieldA 1 (.t 10)), none⟩,
    ⟨some 133, .h (.load false 1 (.t 132)), none⟩,
    ⟨some 134, .p (.fieldA 3 (.t 10)), none⟩,
    ⟨some 135, .h (.load false 1 (.t 134)), none⟩,
    ⟨some 136, .p (.fieldA 7 (.t 9)), none⟩,
    ⟨none, .h (.store 1 (.t 136) (.t 133)), none⟩,
    ⟨some 137, .p (.fieldA 8 (.t 9)), none⟩,
    ⟨none, .h (.store 1 (.t 137) (.t 135)), none⟩])
  (.seq (.reg [⟨some 138, .p (.mov (.t 11)), none⟩,
    ⟨some 139, .p (.mov (.t 7)), none⟩,
    ⟨some 140, .h (.load true 4 (.t 10)), none⟩,
    ⟨some 141, .p (.idxA 4 none (.t 138) (.t 139)), none⟩,
    ⟨none, .h (.store 4 (.t 141) (.t 140)), none⟩])
  (.seq (.draw 8 [(1, 5), (4, 6), (5, 6), (1, 6)] [⟨some 142, .p (.fieldA 0 (.t 2)), none⟩,
    ⟨some 143, .h (.load false 1 (.t 142)), none⟩,
    ⟨some 144, .p (.mov (.t 11)), none⟩,
    ⟨some 145, .v (.build [(.int .i64 0), .nils] [(0, 1, (.t 143)), (1, 1, (.t 144))]), none⟩,
    ⟨some 146, .h (.load true 9 (.t 9)), none⟩,
    ⟨none, .h (.store 2 (.t 4) (.t 145)), none⟩,
    ⟨none, .h (.store 9 (.t 5) (.t 146)), none⟩,
    ⟨some 6, .p (.mov (.c (.int .i64 0))), none⟩])
  .ret))))))))))))))))
def rs17 : List AR := [.cell 4 true 2, .cell 5 true 9, .tmp 6]
theorem ok17 : okF Try.prog 17 147 ac17 rs17 = true := by kernel_rfl
/-- simulacrum/simulacrumref37.Same -/
def ac18 : AC := (.seq (.reg [⟨some 2, .h (.box (.t 0)), none⟩,
    ⟨some 3, .h (.box (.t 1)), none⟩,
    ⟨some 4, .p (.mov (.c (.bool false))), none⟩])
  (.seq (.seq (.reg [⟨some 6, .p (.fieldA 0 (.t 2)), none⟩,
    ⟨some 7, .h (.load false 1 (.t 6)), none⟩,
    ⟨some 8, .p (.fieldA 0 (.t 3)), none⟩,
    ⟨some 9, .h (.load false 1 (.t 8)), none⟩,
    ⟨some 10, .p (.bin .neq (.t 7) (.t 9)), none⟩,
    ⟨some 11, .p (.mov (.t 10)), none⟩,
    ⟨some 12, .p (.fieldA 1 (.t 2)), (some (11, false))⟩,
    ⟨some 13, .h (.load false 1 (.t 12)), (some (11, false))⟩,
    ⟨some 14, .p (.len false (.t 13)), (some (11, false))⟩,
    ⟨some 15, .p (.fieldA 1 (.t 3)), (some (11, false))⟩,
    ⟨some 16, .h (.load false 1 (.t 15)), (some (11, false))⟩,
    ⟨some 17, .p (.len false (.t 16)), (some (11, false))⟩,
    ⟨some 18, .p (.bin .neq (.t 14) (.t 17)), (some (11, false))⟩,
    ⟨some 19, .p (.pick (.t 11) (.c (.bool true)) (.t 18)), none⟩])
  (.cond (.t 19) (.seq (.reg [⟨some 4, .p (.mov (.c (.bool false))), none⟩])
  .ret) .skip))
  (.seq (.seq (.reg [⟨some 5, .p (.mov (.c (.int .i64 0))), none⟩])
  (.block 0 (.loop (.seq (.seq (.reg [⟨some 20, .p (.mov (.t 5)), none⟩,
    ⟨some 21, .p (.fieldA 1 (.t 2)), none⟩,
    ⟨some 22, .h (.load false 1 (.t 21)), none⟩,
    ⟨some 23, .p (.len false (.t 22)), none⟩,
    ⟨some 24, .p (.bin .lss (.t 20) (.t 23)), none⟩])
  (.cond (.t 24) .skip (.exit 0)))
  (.seq (.block 1 (.seq (.draw 11 [] [⟨some 27, .p (.fieldA 1 (.t 2)), none⟩,
    ⟨some 28, .h (.load false 1 (.t 27)), none⟩,
    ⟨some 29, .p (.mov (.t 5)), none⟩,
    ⟨some 30, .p (.idxA 4 none (.t 28) (.t 29)), none⟩,
    ⟨some 31, .h (.load true 4 (.t 30)), none⟩,
    ⟨some 32, .p (.fieldA 1 (.t 3)), none⟩,
    ⟨some 33, .h (.load false 1 (.t 32)), none⟩,
    ⟨some 34, .p (.mov (.t 5)), none⟩,
    ⟨some 35, .p (.idxA 4 none (.t 33) (.t 34)), none⟩,
    ⟨some 36, .h (.load true 4 (.t 35)), none⟩,
    ⟨some 37, .v (.eqa true [(.i .i64), (.i .i64), (.i .i64), (.i .i64)] (.t 31) (.t 36)), none⟩])
  (.cond (.t 37) (.seq (.reg [⟨some 4, .p (.mov (.c (.bool false))), none⟩])
  .ret) .skip)))
  (.reg [⟨some 25, .p (.mov (.t 5)), none⟩,
    ⟨some 26, .p (.bin .add (.t 25) (.c (.int .i64 1))), none⟩,
    ⟨some 5, .p (.mov (.t 26)), none⟩]))))))
  (.seq (.reg [⟨some 4, .p (.mov (.c (.bool true))), none⟩])
  .ret))))
def rs18 : List AR := [.tmp 4]
theorem ok18 : okF Try.prog 18 38 ac18 rs18 = true := by kernel_rfl
/-- simulacrum/token.Right -/
def ac19 : AC := (.seq (.reg [⟨some 1, .h (.box (.t 0)), none⟩,
    ⟨some 2, .p (.mov (.c (.bool false))), none⟩])
  (.seq (.reg [⟨some 3, .p (.fieldA 0 (.t 1)), none⟩,
    ⟨some 4, .h (.load false 1 (.t 3)), none⟩,
    ⟨some 5, .p (.fieldA 1 (.t 1)), none⟩,
    ⟨some 6, .h (.load false 1 (.t 5)), none⟩,
    ⟨some 7, .d (.bslice 1 2 [(.int .i64 0)] [(0, (.t 4)), (1, (.t 6))]), none⟩,
    ⟨some 8, .call 30 [(.t 7)], none⟩,
    ⟨some 9, .p (.mov (.t 8)), none⟩,
    ⟨some 10, .p (.fieldA 2 (.t 1)), (some (9, true))⟩,
    ⟨some 11, .h (.load false 1 (.t 10)), (some (9, true))⟩,
    ⟨some 12, .p (.fieldA 10 (.t 1)), (some (9, true))⟩,
    ⟨some 13, .h (.load false 1 (.t 12)), (some (9, true))⟩,
    ⟨some 14, .p (.mm false (.t 11) (.t 13)), (some (9, true))⟩,
    ⟨some 15, .p (.bin .geq (.t 14) (.c (.int .i64 0))), (some (9, true))⟩,
    ⟨some 16, .p (.pick (.t 9) (.t 15) (.c (.bool false))), none⟩,
    ⟨some 17, .p (.mov (.t 16)), none⟩,
    ⟨some 18, .p (.fieldA 2 (.t 1)), (some (17, true))⟩,
    ⟨some 19, .h (.load false 1 (.t 18)), (some (17, true))⟩,
    ⟨some 20, .p (.fieldA 10 (.t 1)), (some (17, true))⟩,
    ⟨some 21, .h (.load false 1 (.t 20)), (some (17, true))⟩,
    ⟨some 22, .p (.mm true (.t 19) (.t 21)), (some (17, true))⟩,
    ⟨some 23, .p (.bin .leq (.t 22) (.c (.int .i64 1073741824))), (some (17, true))⟩,
    ⟨some 24, .p (.pick (.t 17) (.t 23) (.c (.bool false))), none⟩,
    ⟨some 25, .p (.mov (.t 24)), none⟩,
    ⟨some 26, .p (.fieldA 6 (.t 1)), (some (25, true))⟩,
    ⟨some 27, .h (.load false 1 (.t 26)), (some (25, true))⟩,
    ⟨some 28, .d (.bslice 1 1 [(.int .i64 0)] [(0, (.t 27))]), (some (25, true))⟩,
    ⟨some 29, .call 31 [(.t 28)], (some (25, true))⟩,
    ⟨some 30, .p (.pick (.t 25) (.t 29) (.c (.bool false))), none⟩,
    ⟨some 31, .p (.mov (.t 30)), none⟩,
    ⟨some 32, .p (.fieldA 7 (.t 1)), (some (31, true))⟩,
    ⟨some 33, .d (.asub 1 3 (.t 32) none none), (some (31, true))⟩,
    ⟨some 34, .call 31 [(.t 33)], (some (31, true))⟩,
    ⟨some 35, .p (.pick (.t 31) (.t 34) (.c (.bool false))), none⟩,
    ⟨some 2, .p (.mov (.t 35)), none⟩])
  .ret))
def rs19 : List AR := [.tmp 2]
theorem ok19 : okF Try.prog 19 36 ac19 rs19 = true := by kernel_rfl
/-- simulacrum/simulacrumref37.Right -/
def ac20 : AC := (.seq (.reg [⟨some 1, .h (.box (.t 0)), none⟩,
    ⟨some 2, .p (.mov (.c (.bool false))), none⟩])
  (.seq (.seq (.reg [⟨some 4, .p (.fieldA 0 (.t 1)), none⟩,
    ⟨some 5, .h (.load false 1 (.t 4)), none⟩,
    ⟨some 6, .call 33 [(.t 5)], none⟩,
    ⟨some 7, .p (.un .not (.t 6)), none⟩,
    ⟨some 8, .p (.mov (.t 7)), none⟩,
    ⟨some 9, .p (.fieldA 1 (.t 1)), (some (8, false))⟩,
    ⟨some 10, .h (.load false 1 (.t 9)), (some (8, false))⟩,
    ⟨some 11, .call 33 [(.t 10)], (some (8, false))⟩,
    ⟨some 12, .p (.un .not (.t 11)), (some (8, false))⟩,
    ⟨some 13, .p (.pick (.t 8) (.c (.bool true)) (.t 12)), none⟩,
    ⟨some 14, .p (.mov (.t 13)), none⟩,
    ⟨some 15, .p (.fieldA 2 (.t 1)), (some (14, false))⟩,
    ⟨some 16, .h (.load false 1 (.t 15)), (some (14, false))⟩,
    ⟨some 17, .p (.bin .lss (.t 16) (.c (.int .i64 0))), (some (14, false))⟩,
    ⟨some 18, .p (.pick (.t 14) (.c (.bool true)) (.t 17)), none⟩,
    ⟨some 19, .p (.mov (.t 18)), none⟩,
    ⟨some 20, .p (.fieldA 2 (.t 1)), (some (19, false))⟩,
    ⟨some 21, .h (.load false 1 (.t 20)), (some (19, false))⟩,
    ⟨some 22, .p (.bin .gtr (.t 21) (.c (.int .i64 1073741824))), (some (19, false))⟩,
    ⟨some 23, .p (.pick (.t 19) (.c (.bool true)) (.t 22)), none⟩,
    ⟨some 24, .p (.mov (.t 23)), none⟩,
    ⟨some 25, .p (.fieldA 10 (.t 1)), (some (24, false))⟩,
    ⟨some 26, .h (.load false 1 (.t 25)), (some (24, false))⟩,
    ⟨some 27, .p (.bin .lss (.t 26) (.c (.int .i64 0))), (some (24, false))⟩,
    ⟨some 28, .p (.pick (.t 24) (.c (.bool true)) (.t 27)), none⟩,
    ⟨some 29, .p (.mov (.t 28)), none⟩,
    ⟨some 30, .p (.fieldA 10 (.t 1)), (some (29, false))⟩,
    ⟨some 31, .h (.load false 1 (.t 30)), (some (29, false))⟩,
    ⟨some 32, .p (.bin .gtr (.t 31) (.c (.int .i64 1073741824))), (some (29, false))⟩,
    ⟨some 33, .p (.pick (.t 29) (.c (.bool true)) (.t 32)), none⟩,
    ⟨some 34, .p (.mov (.t 33)), none⟩,
    ⟨some 35, .p (.fieldA 6 (.t 1)), (some (34, false))⟩,
    ⟨some 36, .h (.load false 1 (.t 35)), (some (34, false))⟩,
    ⟨some 37, .call 34 [(.t 36)], (some (34, false))⟩,
    ⟨some 38, .p (.un .not (.t 37)), (some (34, false))⟩,
    ⟨some 39, .p (.pick (.t 34) (.c (.bool true)) (.t 38)), none⟩])
  (.cond (.t 39) (.seq (.reg [⟨some 2, .p (.mov (.c (.bool false))), none⟩])
  .ret) .skip))
  (.seq (.seq (.reg [⟨some 3, .p (.mov (.c (.int .i64 0))), none⟩])
  (.block 0 (.loop (.seq (.seq (.reg [⟨some 40, .p (.mov (.t 3)), none⟩,
    ⟨some 41, .p (.bin .lss (.t 40) (.c (.int .i64 3))), none⟩])
  (.cond (.t 41) .skip (.exit 0)))
  (.seq (.block 1 (.seq (.reg [⟨some 44, .p (.mov (.t 3)), none⟩,
    ⟨some 45, .p (.fieldA 7 (.t 1)), none⟩,
    ⟨some 46, .p (.idxA 1 (some 3) (.t 45) (.t 44)), none⟩,
    ⟨some 47, .h (.load false 1 (.t 46)), none⟩,
    ⟨some 48, .call 34 [(.t 47)], none⟩,
    ⟨some 49, .p (.un .not (.t 48)), none⟩])
  (.cond (.t 49) (.seq (.reg [⟨some 2, .p (.mov (.c (.bool false))), none⟩])
  .ret) .skip)))
  (.reg [⟨some 42, .p (.mov (.t 3)), none⟩,
    ⟨some 43, .p (.bin .add (.t 42) (.c (.int .i64 1))), none⟩,
    ⟨some 3, .p (.mov (.t 43)), none⟩]))))))
  (.seq (.reg [⟨some 2, .p (.mov (.c (.bool true))), none⟩])
  .ret))))
def rs20 : List AR := [.tmp 2]
theorem ok20 : okF Try.prog 20 50 ac20 rs20 = true := by kernel_rfl
/-- simulacrum/simulacrumref37.Seek -/
def ac21 : AC := (.seq (.reg [⟨some 2, .h (.box (.t 0)), none⟩,
    ⟨some 4, .h (.alloc [(.int .i64 0), (.int .i64 0), (.int .i64 0), (.bool false), (.bool false), (.bool false), (.int .i64 0), (.int .i64 0), (.int .i64 0), (.int .i64 0), (.int .i64 0), (.int .i64 0), (.int .i64 0), (.int .i64 0), (.int .i64 0), (.int .i64 0), (.int .i64 0)]), none⟩])
  (.seq (.seq (.reg [⟨some 6, .p (.mov (.t 1)), none⟩,
    ⟨some 7, .call 33 [(.t 6)], none⟩,
    ⟨some 8, .p (.un .not (.t 7)), none⟩])
  (.cond (.t 8) (.seq (.reg [⟨some 9, .h (.load true 11 (.t 2)), none⟩,
    ⟨some 10, .v (.build [(.int .i64 0), (.int .i64 0), (.int .i64 0), (.bool false), (.bool false), (.bool false), (.int .i64 0), (.int .i64 0), (.int .i64 0), (.int .i64 0), (.int .i64 0), (.int .i64 0), (.int .i64 0), (.int .i64 0), (.int .i64 0), (.int .i64 0), (.int .i64 0)] [(0, 11, (.t 9)), (16, 1, (.c (.int .i64 1)))]), none⟩,
    ⟨none, .h (.store 17 (.t 4) (.t 10)), none⟩])
  .ret) .skip))
  (.seq (.seq (.reg [⟨some 11, .p (.mov (.t 1)), none⟩,
    ⟨some 12, .p (.fieldA 2 (.t 2)), none⟩,
    ⟨some 13, .h (.load false 1 (.t 12)), none⟩,
    ⟨some 14, .p (.bin .leq (.t 11) (.t 13)), none⟩])
  (.cond (.t 14) (.seq (.reg [⟨some 15, .h (.load true 11 (.t 2)), none⟩,
    ⟨some 16, .v (.build [(.int .i64 0), (.int .i64 0), (.int .i64 0), (.bool false), (.bool false), (.bool false), (.int .i64 0), (.int .i64 0), (.int .i64 0), (.int .i64 0), (.int .i64 0), (.int .i64 0), (.int .i64 0), (.int .i64 0), (.int .i64 0), (.int .i64 0), (.int .i64 0)] [(0, 11, (.t 15)), (16, 1, (.c (.int .i64 9)))]), none⟩,
    ⟨none, .h (.store 17 (.t 4) (.t 16)), none⟩])
  .ret) .skip))
  (.seq (.reg [⟨some 17, .p (.fieldA 0 (.t 2)), none⟩,
    ⟨some 18, .h (.load false 1 (.t 17)), none⟩,
    ⟨some 19, .p (.fieldA 1 (.t 2)), none⟩,
    ⟨some 20, .h (.load false 1 (.t 19)), none⟩,
    ⟨some 21, .p (.mov (.t 1)), none⟩,
    ⟨some 22, .p (.fieldA 10 (.t 2)), none⟩,
    ⟨some 23, .h (.load false 1 (.t 22)), none⟩,
    ⟨some 24, .v (.build [(.int .i64 0), (.int .i64 0), (.int .i64 0), (.bool false), (.bool false), (.bool false), (.int .i64 0), (.int .i64 0), (.int .i64 0), (.int .i64 0), (.int .i64 0)] [(0, 1, (.t 18)), (1, 1, (.t 20)), (2, 1, (.t 21)), (10, 1, (.t 23))]), none⟩,
    ⟨some 5, .h (.alloc [(.int .i64 0), (.int .i64 0), (.int .i64 0), (.bool false), (.bool false), (.bool false), (.int .i64 0), (.int .i64 0), (.int .i64 0), (.int .i64 0), (.int .i64 0)]), none⟩,
    ⟨none, .h (.store 11 (.t 5) (.t 24)), none⟩])
  (.seq (.reg [⟨some 25, .h (.load true 11 (.t 5)), none⟩,
    ⟨some 26, .p (.fieldA 0 (.t 2)), none⟩,
    ⟨some 27, .h (.load false 1 (.t 26)), none⟩,
    ⟨some 28, .p (.fieldA 1 (.t 2)), none⟩,
    ⟨some 29, .h (.load false 1 (.t 28)), none⟩,
    ⟨some 30, .p (.mov (.t 1)), none⟩,
    ⟨some 31, .v (.build [(.int .i64 0), (.int .i64 0), (.int .i64 0), (.int .i64 0), (.int .i64 0)] [(0, 1, (.c (.int .i64 1))), (1, 1, (.t 27)), (2, 1, (.t 29)), (3, 1, (.t 30))]), none⟩,
    ⟨some 32, .v (.build [(.int .i64 0), (.int .i64 0), (.int .i64 0), (.bool false), (.bool false), (.bool false), (.int .i64 0), (.int .i64 0), (.int .i64 0), (.int .i64 0), (.int .i64 0), (.int .i64 0), (.int .i64 0), (.int .i64 0), (.int .i64 0), (.int .i64 0), (.int .i64 0)] [(0, 11, (.t 25)), (11, 5, (.t 31))]), none⟩,
    ⟨none, .h (.store 17 (.t 4) (.t 32)), none⟩])
  .ret)))))
def rs21 : List AR := [.cell 4 true 17]
theorem ok21 : okF Try.prog 21 33 ac21 rs21 = true := by kernel_rfl
/-- simulacrum/simulacrumref37.Offer -/
def ac22 : AC := (.seq (.reg [⟨some 2, .h (.box (.t 0)), none⟩,
    ⟨some 4, .h (.alloc [(.int .i64 0), (.int .i64 0), (.int .i64 0), (.bool false), (.bool false), (.bool false), (.int .i64 0), (.int .i64 0), (.int .i64 0), (.int .i64 0), (.int .i64 0), (.int .i64 0), (.int .i64 0), (.int .i64 0), (.int .i64 0), (.int .i64 0), (.int .i64 0)]), none⟩])
  (.seq (.seq (.reg [⟨some 5, .h (.load true 11 (.t 2)), none⟩,
    ⟨some 6, .call 25 [(.t 5)], none⟩,
    ⟨some 7, .p (.un .not (.t 6)), none⟩])
  (.cond (.t 7) (.seq (.reg [⟨some 8, .v (.build [(.int .i64 0), (.int .i64 0), (.int .i64 0), (.bool false), (.bool false), (.bool false), (.int .i64 0), (.int .i64 0), (.int .i64 0), (.int .i64 0), (.int .i64 0), (.int .i64 0), (.int .i64 0), (.int .i64 0), (.int .i64 0), (.int .i64 0), (.int .i64 0)] [(16, 1, (.c (.int .i64 4)))]), none⟩,
    ⟨none, .h (.store 17 (.t 4) (.t 8)), none⟩])
  .ret) .skip))
  (.seq (.seq (.reg [⟨some 9, .p (.mov (.t 1)), none⟩,
    ⟨some 10, .call 34 [(.t 9)], none⟩,
    ⟨some 11, .p (.un .not (.t 10)), none⟩])
  (.cond (.t 11) (.seq (.reg [⟨some 12, .v (.build [(.int .i64 0), (.int .i64 0), (.int .i64 0), (.bool false), (.bool false), (.bool false), (.int .i64 0), (.int .i64 0), (.int .i64 0), (.int .i64 0), (.int .i64 0), (.int .i64 0), (.int .i64 0), (.int .i64 0), (.int .i64 0), (.int .i64 0), (.int .i64 0)] [(16, 1, (.c (.int .i64 1)))]), none⟩,
    ⟨none, .h (.store 17 (.t 4) (.t 12)), none⟩])
  .ret) .skip))
  (.seq (.reg [⟨some 13, .p (.fieldA 0 (.t 2)), none⟩,
    ⟨some 14, .h (.load false 1 (.t 13)), none⟩,
    ⟨some 15, .p (.fieldA 1 (.t 2)), none⟩,
    ⟨some 16, .h (.load false 1 (.t 15)), none⟩,
    ⟨some 17, .p (.fieldA 2 (.t 2)), none⟩,
    ⟨some 18, .h (.load false 1 (.t 17)), none⟩,
    ⟨some 19, .p (.mov (.t 1)), none⟩,
    ⟨some 20, .v (.build [(.int .i64 0), (.int .i64 0), (.int .i64 0), (.int .i64 0), (.int .i64 0)] [(0, 1, (.c (.int .i64 2))), (1, 1, (.t 14)), (2, 1, (.t 16)), (3, 1, (.t 18)), (4, 1, (.t 19))]), none⟩,
    ⟨some 21, .v (.build [(.int .i64 0), (.int .i64 0), (.int .i64 0), (.bool false), (.bool false), (.bool false), (.int .i64 0), (.int .i64 0), (.int .i64 0), (.int .i64 0), (.int .i64 0), (.int .i64 0), (.int .i64 0), (.int .i64 0), (.int .i64 0), (.int .i64 0), (.int .i64 0)] [(11, 5, (.t 20))]), none⟩,
    ⟨none, .h (.store 17 (.t 4) (.t 21)), none⟩])
  .ret))))
def rs22 : List AR := [.cell 4 true 17]
theorem ok22 : okF Try.prog 22 22 ac22 rs22 = true := by kernel_rfl
end Go.Proofs

