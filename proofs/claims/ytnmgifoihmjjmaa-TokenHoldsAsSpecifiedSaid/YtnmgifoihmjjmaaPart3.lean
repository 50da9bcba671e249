/- Part of a proof about the given program: lemmas that the other parts use. -/
import Derived.Test.YtnmgifoihmjjmaaPart2
import Derived.OpenShut
import Derived.JoinedOf
import Derived.Handed

namespace Go.Eng
open Go

/-! ### Loops that are walked out -/
section
variable (n : Nat) (body : (XA → Fr → Heap → Prop) → Fr → Heap → Prop) (Q : XA → Fr → Heap → Prop)
def lpost (m : Nat) (J : Nat → Fr → Heap → Prop) : XA → Fr → Heap → Prop := fun x fr' H' => match x with
  | .normal => ∃ m', m' < m ∧ To n fr' H' (J m')
  | x => Q x fr' H'
def LoopI : Nat → Nat → Fr → Heap → Prop
  | 0, _, _, _ => False
  | k + 1, m, fr, H => (m = k ∧ body (lpost n Q k (LoopI k)) fr H) ∨ LoopI k m fr H
theorem LoopI.lt : ∀ {k m : Nat} {fr : Fr} {H : Heap}, LoopI n body Q k m fr H → m < k
  | 0, _, _, _, h => h.elim
  | k + 1, m, _, _, h => by
    rcases h with ⟨rfl, _⟩ | h
    · exact Nat.lt_succ_self _
    · exact Nat.lt_succ_of_lt (LoopI.lt h)
theorem LoopI.eq : ∀ {k m m' : Nat}, m' < m → m ≤ k → LoopI n body Q k m' = LoopI n body Q m m'
  | 0, m, m', h1, h2 => by omega
  | k + 1, m, m', h1, h2 => by
    by_cases e : m = k + 1
    · rw [e]
    · rw [← LoopI.eq (k := k) h1 (by omega)]
      funext fr H
      refine propext ⟨fun h => ?_, fun h => .inr h⟩
      rcases h with ⟨e, _⟩ | h
      · omega
      · exact h
theorem LoopI.step : ∀ {k m : Nat} {fr : Fr} {H : Heap}, LoopI n body Q k m fr H → body (lpost n Q m (LoopI n body Q m)) fr H
  | 0, _, _, _, h => h.elim
  | k + 1, m, _, _, h => by
    rcases h with ⟨rfl, h⟩ | h
    · exact h
    · exact LoopI.step h
theorem LoopA.unroll (k : Nat) {fr : Fr} {H : Heap} (h : body (lpost n Q k (LoopI n body Q k)) fr H) : LoopA n body Q fr H := by
  refine ⟨LoopI n body Q (k + 1), k, To.refl (.inl ⟨rfl, h⟩), fun m fr H h => ?_⟩
  have hm := LoopI.lt n body Q h
  have := LoopI.step n body Q h
  have e : lpost n Q m (LoopI n body Q m) = lpost n Q m (LoopI n body Q (k + 1)) := by
    funext x fr' H'
    cases x with
    | normal =>
      refine propext ⟨fun ⟨m', h1, h2⟩ => ⟨m', h1, by rw [LoopI.eq n body Q h1 (by omega)]; exact h2⟩, fun ⟨m', h1, h2⟩ => ⟨m', h1, by rw [← LoopI.eq n body Q h1 (show m ≤ k + 1 by omega)]; exact h2⟩⟩
    | _ => rfl
  rw [e] at this
  exact this
end
theorem Branch.dec {p : Prop} [Decidable p] {A B : Prop} (yes : p → A) (no : ¬ p → B) : Branch (decide p) A B :=
  ⟨fun h => yes (of_decide_eq_true h), fun h => no (of_decide_eq_false h)⟩

/-! ### An owned block becomes data -/
mutual
def pubV (k : Nat) (ds : List AV) : AV → AV
  | .ptr j o => bif Nat.beq j k then .dptr (ds.drop o) else .ptr j o
  | .slice j o l c e => bif Nat.beq j k then .dslice ((ds.drop o).take (l * e)) l c else .slice j o l c e
  | .func g cs => .func g (pubL k ds cs)
  | .agg cs => .agg (pubL k ds cs)
  | .tuple cs => .tuple (pubL k ds cs)
  | c => c
def pubL (k : Nat) (ds : List AV) : List AV → List AV
  | [] => []
  | c :: cs => pubV k ds c :: pubL k ds cs
end
def pubB (k : Nat) (ds : List AV) : AB → AB
  | .cells cs => .cells (pubL k ds cs)
  | b => b
def pubBs (k : Nat) (ds : List AV) : List (Nat × AB) → List (Nat × AB)
  | [] => []
  | (j, b) :: r => (j, pubB k ds b) :: pubBs k ds r
def pubH (k : Nat) (ds : List AV) (H : Heap) : Heap := Heap.set ⟨H.nx, pubBs k ds H.bs⟩ k .dead
def pubF (k : Nat) (ds : List AV) (fr : Fr) : List Nat → Fr
  | [] => []
  | t :: r => (t, pubV k ds (look fr t)) :: pubF k ds fr r
theorem pubBs_get {k : Nat} {ds : List AV} (j : Nat) : ∀ bs : List (Nat × AB), bget (pubBs k ds bs) j = pubB k ds (bget bs j)
  | [] => rfl
  | (i, b) :: r => by
    simp only [pubBs, bget]
    cases Nat.beq i j with
    | true => rfl
    | false => exact pubBs_get j r
theorem pubH_get {k : Nat} {ds : List AV} (H : Heap) (j : Nat) : (pubH k ds H).get j = if k = j then .dead else pubB k ds (H.get j) := by
  simp only [pubH, Heap.get_set]
  split
  · rfl
  · exact pubBs_get j H.bs

section
variable {M M' : Mem} {μ : Pos} {k b sz : Nat} {ds : List AV}
mutual
theorem relV_pub (hM : Mem.le M M') (hk : μ k = some (b, sz)) (hd : ∀ o, relM M' (ds.drop o) b o) : ∀ (c : AV) {v : Value}, relV M c μ v → relV M' (pubV k ds c) μ v
  | .any, _, _ => by simp only [pubV, relV]
  | .bool b, _, h => by simpa only [pubV, relV] using h
  | .int k n, _, h => by simpa only [pubV, relV] using h
  | .str s, _, h => by simpa only [pubV, relV] using h
  | .nilp, _, h => by simpa only [pubV, relV] using h
  | .nils, _, h => by simpa only [pubV, relV] using h
  | .nilm, _, h => by simpa only [pubV, relV] using h
  | .nilf, _, h => by simpa only [pubV, relV] using h
  | .map j, _, h => by simpa only [pubV, relV] using h
  | .dptr cs, _, h => by simp only [pubV]; exact relV_mono hM _ (Pos.le_refl _) h
  | .dslice cs l c, _, h => by simp only [pubV]; exact relV_mono hM _ (Pos.le_refl _) h
  | .ptr j o, v, h => by
    simp only [pubV]
    by_cases hj : j = k
    · subst hj
      simp only [Nat.beq_refl, cond_true, relV] at h ⊢
      obtain ⟨b', s', h1, h2⟩ := h
      rw [hk] at h1; cases h1
      exact ⟨b, o, h2, hd o⟩
    · rw [beq_false hj]; simp only [cond_false, relV] at h ⊢; exact h
  | .slice j o l c e, v, h => by
    simp only [pubV]
    by_cases hj : j = k
    · subst hj
      simp only [Nat.beq_refl, cond_true, relV] at h ⊢
      obtain ⟨b', s', cc, h1, h2, h3, h4, h5⟩ := h
      rw [hk] at h1; cases h1
      exact .inl ⟨b, o, cc, h2, h3, h5, relM_take _ (hd o)⟩
    · rw [beq_false hj]; simp only [cond_false, relV] at h ⊢; exact h
  | .func g cs, _, h => by simp only [pubV, relV] at *; obtain ⟨vs, h1, h2⟩ := h; exact ⟨vs, h1, relL_pub hM hk hd cs h2⟩
  | .agg cs, _, h => by simp only [pubV, relV] at *; obtain ⟨vs, h1, h2⟩ := h; exact ⟨vs, h1, relL_pub hM hk hd cs h2⟩
  | .tuple cs, _, h => by simp only [pubV, relV] at *; obtain ⟨vs, h1, h2⟩ := h; exact ⟨vs, h1, relL_pub hM hk hd cs h2⟩
theorem relL_pub (hM : Mem.le M M') (hk : μ k = some (b, sz)) (hd : ∀ o, relM M' (ds.drop o) b o) : ∀ (cs : List AV) {vs : List Value}, relL M cs μ vs → relL M' (pubL k ds cs) μ vs
  | [], _, h => by simpa only [pubL, relL] using h
  | c :: cs, _, h => by
    simp only [pubL, relL] at *; obtain ⟨v, r, h1, h2, h3⟩ := h
    exact ⟨v, r, h1, relV_pub hM hk hd c h2, relL_pub hM hk hd cs h3⟩
end
theorem relP_pub (hM : Mem.le M M') (hk : μ k = some (b, sz)) (hd : ∀ o, relM M' (ds.drop o) b o) : ∀ (cs : List AV) {vs : List Value}, relP M μ cs vs → relP M' μ (pubL k ds cs) vs
  | [], _, _ => by simp only [pubL]; trivial
  | c :: cs, _, h => by
    obtain ⟨v, r, h1, h2, h3⟩ := h
    simp only [pubL]
    exact ⟨v, r, h1, relV_pub hM hk hd c h2, relP_pub hM hk hd cs h3⟩
end

theorem Rel.pub {M : Mem} {μ : Pos} {H : Heap} {w : World} (R : Rel M μ H w) (k : Nat) {ds : List AV} (hk : H.get k = .cells ds) (hdata : ∀ c ∈ ds, noLoc c = true) :
    ∃ M', Rel M' μ (pubH k ds H) w ∧ (∀ c v, relV M c μ v → relV M' (pubV k ds c) μ v) ∧ ∀ n, Grow n M μ H w M' μ (pubH k ds H) w := by
  obtain ⟨b, sz, c, el, fz, h1, h2, h3, h4, h5⟩ := R.cells k ds hk
  let M' : Mem := fun b' o => if b' = b then c[o]? else M b' o
  have hne : H.get k ≠ .dead := by rw [hk]; simp
  have hM : Mem.le M M' := fun b' o v hv => by
    simp only [M']
    split
    · rename_i e; rw [e, R.apart k b sz hne h1 o] at hv; cases hv
    · exact hv
  have h6 : relP M Pos.none ds c.toList := relP_data ds hdata h5
  have hd : ∀ o, relM M' (ds.drop o) b o := fun o => relM_of_get fun i d hi => by
    rw [List.getElem?_drop] at hi
    obtain ⟨v, hv, hr⟩ := relP_get h6 hi
    exact ⟨v, by simp only [M', if_true]; simpa using hv, relV_mono hM _ (Pos.le_refl _) hr⟩
  have alive : ∀ j, (pubH k ds H).get j ≠ .dead → H.get j ≠ .dead ∧ j ≠ k := by
    intro j hj
    rw [pubH_get] at hj
    by_cases e : k = j
    · rw [if_pos e] at hj; exact absurd rfl hj
    · rw [if_neg e] at hj; exact ⟨fun h => hj (by rw [h]; rfl), Ne.symm e⟩
  have own : ∀ x, Own μ (pubH k ds H) x → Own μ H x := fun x ⟨j, s, hj, hx⟩ => ⟨j, s, (alive j hj).1, hx⟩
  refine ⟨M', ⟨R.dom, fun j hj => ?_, fun j cs hj => ?_, fun j es hj => ?_, fun i j b s t hi hj hx hy => R.inj i j b s t (alive i hi).1 (alive j hj).1 hx hy, fun b' o v hv => ?_, fun j b' s hj hx o => ?_⟩, fun c v h => relV_pub hM h1 hd c h,
    fun n => ⟨hM, fun _ _ => rfl, Keep.refl _ _, fun x hx => .inl (own x hx), fun b' o v hv => ?_⟩⟩
  · rw [pubH_get]
    split
    · rfl
    · rw [R.top j hj]; rfl
  · rw [pubH_get] at hj
    split at hj
    · cases hj
    · cases hg : H.get j with
      | dead => rw [hg] at hj; simp [pubB] at hj
      | map es => rw [hg] at hj; simp [pubB] at hj
      | cells xs =>
        rw [hg] at hj; simp only [pubB, AB.cells.injEq] at hj; subst hj
        obtain ⟨b2, sz2, c2, el2, fz2, g1, g2, g3, g4, g5⟩ := R.cells j xs hg
        exact ⟨b2, sz2, c2, el2, fz2, g1, g2, g3, g4, relP_pub hM h1 hd xs g5⟩
  · rw [pubH_get] at hj
    split at hj
    · cases hj
    · cases hg : H.get j with
      | dead => rw [hg] at hj; simp [pubB] at hj
      | cells xs => rw [hg] at hj; simp [pubB] at hj
      | map xs =>
        rw [hg] at hj; simp only [pubB, AB.map.injEq] at hj; subst hj
        obtain ⟨b2, sz2, ents, clock, g1, g2, g3, g4⟩ := R.maps j xs hg
        refine ⟨b2, sz2, ents, clock, g1, g2, ?_, g4⟩
        have : ∀ {es : List (AV × AV)} {ents : List MapEntry}, relE M es ents → relE M' es ents := by
          intro es
          induction es with
          | nil => intro ents h; exact h
          | cons x r ih => intro ents h; obtain ⟨e, t, h1, h2, h3, h4⟩ := h; exact ⟨e, t, h1, relV_mono hM _ (Pos.le_refl _) h2, relV_mono hM _ (Pos.le_refl _) h3, ih h4⟩
        exact this g3
  · simp only [M'] at hv
    split at hv
    · rename_i e; subst e
      simp only [World.cell?, h2]; simpa using hv
    · exact R.imm b' o v hv
  · have hj' := alive j hj
    have hne' : b' ≠ b := fun e => by subst e; exact hj'.2 (R.inj j k b' s sz hj'.1 hne hx h1)
    simp only [M']; rw [if_neg hne']; exact R.apart j b' s hj'.1 hx o
  · simp only [M'] at hv
    split at hv
    · rename_i e; exact .inr (.inl ⟨k, sz, hne, by rw [e]; exact h1⟩)
    · exact .inl hv

theorem Into.pub {n : Nat} {fr : Fr} {H : Heap} (k : Nat) (slots : List Nat) {ds : List AV} (hk : H.get k = .cells ds) (hdata : ∀ c ∈ ds, noLoc c = true) : Into n fr H (pubF k ds fr slots) (pubH k ds H) := by
  intro N M μ w tmps R F hn
  obtain ⟨M', R', hV, G⟩ := R.pub k hk hdata
  refine ⟨M', μ, R', ⟨F.size, fun t => ?_⟩, hn, G n⟩
  have key : ∀ (sl : List Nat), relV M' (look (pubF k ds fr sl) t) μ (tmps.getD t undef) := by
    intro sl
    induction sl with
    | nil => simp [pubF, look, relV]
    | cons q r ih =>
      simp only [pubF, look]
      by_cases hq : q = t
      · subst hq; simpa using hV _ _ (F.slot q)
      · rw [beq_false hq]; exact ih
  exact key slots

theorem Into.trans {n : Nat} {fr fr' fr'' : Fr} {H H' H'' : Heap} (h : Into n fr H fr' H') (k : Into n fr' H' fr'' H'') : Into n fr H fr'' H'' := by
  intro N M μ w tmps R F hn
  obtain ⟨M1, μ1, R1, F1, n1, G1⟩ := h N M μ w tmps R F hn
  obtain ⟨M2, μ2, R2, F2, n2, G2⟩ := k N M1 μ1 w tmps R1 F1 n1
  exact ⟨M2, μ2, R2, F2, n2, G1.trans G2⟩
theorem RetA.pub {n : Nat} {K : AV → Heap → Prop} {v : AV} {H : Heap} (k : Nat) {ds : List AV} (hk : H.get k = .cells ds) (hdata : ∀ c ∈ ds, noLoc c = true) (h : RetA n K (pubV k ds v) (pubH k ds H)) : RetA n K v H := by
  obtain ⟨v', H', h1, h2⟩ := h
  exact ⟨v', H', (Into.pub k [0] hk hdata).trans h1, h2⟩
theorem To.pub {n : Nat} {J : Fr → Heap → Prop} {fr : Fr} {H : Heap} (k : Nat) (slots : List Nat) {ds : List AV} (hk : H.get k = .cells ds) (hdata : ∀ c ∈ ds, noLoc c = true) (h : To n (pubF k ds fr slots) (pubH k ds H) J) : To n fr H J := by
  obtain ⟨v', H', h1, h2⟩ := h
  exact ⟨v', H', (Into.pub k slots hk hdata).trans h1, h2⟩

end Go.Eng

namespace Go.Eng
open Go

/-! ### Blocks that are lent to a call -/
def subP (keep : List (Nat × Bool)) (μ : Pos) : Pos := fun j => (keep[j]?).bind fun x => μ x.1
theorem distinct_keep {keep : List (Nat × Bool)} (h : distinct keep = true) (i j k : Nat) (d e : Bool) : keep[i]? = some (k, d) → keep[j]? = some (k, e) → i = j := distinct_spec h i j k d e

section
variable {M : Mem} {μ : Pos} {H : Heap} {w : World} {keep : List (Nat × Bool)}
theorem subP_to {j k : Nat} {d : Bool} (h : keep[j]? = some (k, d)) {x : Nat × Nat} (hx : μ k = some x) : subP keep μ j = some x := by simp only [subP, h, Option.bind_some, hx]
theorem subP_from {j k : Nat} {d : Bool} (h : keep[j]? = some (k, d)) {x : Nat × Nat} (hx : subP keep μ j = some x) : μ k = some x := by simpa only [subP, h, Option.bind_some] using hx
theorem sub_pos {k j : Nat} {x : Nat × Nat} (h : posOf keep k = some j) (hx : μ k = some x) : subP keep μ j = some x := by
  obtain ⟨m, d, h1, h2⟩ := posOf_go keep k 0 j h
  exact subP_to (d := d) (by rw [h1, Nat.zero_add]; exact h2) hx
theorem sub_alive {j : Nat} (hj : (gcH keep H).get j ≠ .dead) : ∃ (k : Nat) (d : Bool), keep[j]? = some (k, d) ∧ H.get k ≠ .dead := by
  rw [gcH_get] at hj
  cases hk : keep[j]? with
  | none => rw [hk] at hj; exact absurd rfl hj
  | some x =>
    obtain ⟨k, d⟩ := x
    refine ⟨k, d, rfl, fun h => hj ?_⟩
    simp only [hk, h, renB]; cases d <;> rfl
theorem sub_own {b : Nat} (h : Own (subP keep μ) (gcH keep H) b) : ∃ (j k : Nat) (d : Bool) (s : Nat), keep[j]? = some (k, d) ∧ H.get k ≠ .dead ∧ μ k = some (b, s) := by
  obtain ⟨j, s, hj, hx⟩ := h
  obtain ⟨k, d, h1, h2⟩ := sub_alive hj
  exact ⟨j, k, d, s, h1, h2, subP_from h1 hx⟩
theorem Rel.sub (R : Rel M μ H w) (hdis : distinct keep = true) (hdata : allData H keep) : Rel M (subP keep μ) (gcH keep H) w := by
  have hf : ∀ k j x, posOf keep k = some j → μ k = some x → subP keep μ j = some x := fun k j x => sub_pos
  refine ⟨fun j hj => ?_, fun j hj => ?_, fun j cs hj => ?_, fun j es hj => ?_, fun i j b s t hi hj hx hy => ?_, R.imm, fun j b s hj hx o => ?_⟩
  · simp only [subP, List.getElem?_eq_none (show keep.length ≤ j from hj), Option.bind_none]
  · rw [gcH_get, List.getElem?_eq_none (by simpa [gcH] using hj)]
  · rw [gcH_get] at hj
    cases hk : keep[j]? with
    | none => rw [hk] at hj; cases hj
    | some x =>
      obtain ⟨k, d⟩ := x
      rw [hk] at hj
      cases d with
      | true =>
        simp only [cond_true] at hj
        obtain ⟨b, sz, c, el, fz, h1, h2, h3, h4, h5⟩ := R.cells k cs hj
        refine ⟨b, sz, c, el, fz, subP_to hk h1, h2, h3, h4, relP_data cs ?_ h5⟩
        have := allData_spec hdata k (List.mem_of_getElem? hk)
        rw [hj] at this; exact this
      | false =>
        simp only [cond_false] at hj
        cases hg : H.get k with
        | cells ds =>
          rw [hg] at hj; simp only [renB, AB.cells.injEq] at hj; subst hj
          obtain ⟨b, sz, c, el, fz, h1, h2, h3, h4, h5⟩ := R.cells k ds hg
          exact ⟨b, sz, c, el, fz, subP_to hk h1, h2, h3, h4, relP_ren hf ds h5⟩
        | dead => rw [hg] at hj; simp [renB] at hj
        | map es => rw [hg] at hj; simp [renB] at hj
  · rw [gcH_get] at hj
    cases hk : keep[j]? with
    | none => rw [hk] at hj; cases hj
    | some x =>
      obtain ⟨k, d⟩ := x
      rw [hk] at hj
      have hg : H.get k = .map es := by
        cases d with
        | true => simpa using hj
        | false =>
          have hj : renB (posOf keep) (H.get k) = .map es := hj
          cases hg : H.get k with
          | dead => rw [hg] at hj; cases hj
          | cells cs => rw [hg] at hj; cases hj
          | map es' => rw [hg] at hj; exact hj
      obtain ⟨b, sz, ents, clock, h1, h2⟩ := R.maps k es hg
      exact ⟨b, sz, ents, clock, subP_to hk h1, h2⟩
  · obtain ⟨k, d, h1, h2⟩ := sub_alive hi
    obtain ⟨k', d', h3, h4⟩ := sub_alive hj
    have := R.inj k k' b s t h2 h4 (subP_from h1 hx) (subP_from h3 hy)
    subst this
    exact distinct_spec hdis i j k d d' h1 h3
  · obtain ⟨k, d, h1, h2⟩ := sub_alive hj
    exact R.apart k b s h2 (subP_from h1 hx) o
end

/-- Where a place of the callee is for the caller. -/
def backK (keep : List (Nat × Bool)) (nx j : Nat) : Nat := match keep[j]? with
  | some (k, _) => k
  | none => nx + (j - keep.length)
def backB (keep : List (Nat × Bool)) (nx : Nat) (H' : Heap) (j : Nat) : AB := match keep[j]? with
  | some (_, true) => H'.get j
  | _ => renB (fun j => some (backK keep nx j)) (H'.get j)
def lendBs (keep : List (Nat × Bool)) (nx : Nat) (H' : Heap) : Nat → List (Nat × AB) → List (Nat × AB)
  | 0, bs => bs
  | j + 1, bs => (backK keep nx j, backB keep nx H' j) :: lendBs keep nx H' j bs
def lendH (keep : List (Nat × Bool)) (H H' : Heap) : Heap := ⟨H.nx + (H'.nx - keep.length), lendBs keep H.nx H' H'.nx H.bs⟩
/-- The callee leaves data where data was lent. -/
def backOk (H' : Heap) : List (Nat × Bool) → Nat → Prop
  | [], _ => True
  | (_, true) :: r, j => dataB (H'.get j) ∧ backOk H' r (j + 1)
  | (_, false) :: r, j => backOk H' r (j + 1)
theorem backOk_spec {H' : Heap} : ∀ {keep : List (Nat × Bool)} {i : Nat}, backOk H' keep i → ∀ j k, keep[j]? = some (k, true) → dataB (H'.get (i + j))
  | [], _, _, j, k, h => by simp at h
  | (q, d) :: r, i, hb, 0, k, h => by
    simp at h; obtain ⟨rfl, rfl⟩ := h; exact hb.1
  | (q, true) :: r, i, hb, j + 1, k, h => by
    have := backOk_spec hb.2 j k (by simpa using h)
    rwa [Nat.add_assoc, Nat.add_comm 1 j] at this
  | (q, false) :: r, i, hb, j + 1, k, h => by
    have := backOk_spec (keep := r) hb j k (by simpa using h)
    rwa [Nat.add_assoc, Nat.add_comm 1 j] at this

theorem lendBs_get {keep : List (Nat × Bool)} {nx : Nat} {H' : Heap} (k : Nat) (inj : ∀ i j, backK keep nx i = backK keep nx j → i = j) : ∀ (m : Nat) (bs : List (Nat × AB)),
    (∀ j, j < m → backK keep nx j = k → bget (lendBs keep nx H' m bs) k = backB keep nx H' j) ∧ ((∀ j, j < m → backK keep nx j ≠ k) → bget (lendBs keep nx H' m bs) k = bget bs k)
  | 0, bs => ⟨fun j hj => by omega, fun _ => rfl⟩
  | m + 1, bs => by
    obtain ⟨h1, h2⟩ := lendBs_get (H' := H') k inj m bs
    refine ⟨fun j hj hk => ?_, fun h => ?_⟩
    · simp only [lendBs, bget]
      by_cases hm : backK keep nx m = k
      · have := inj j m (hk.trans hm.symm); subst this
        rw [hm]; simp
      · rw [beq_false hm]
        exact h1 j (by rcases Nat.lt_succ_iff_lt_or_eq.1 hj with h | h; exact h; exact absurd (h ▸ hk) hm) hk
    · simp only [lendBs, bget]
      rw [beq_false (h m (Nat.lt_succ_self _))]
      exact h2 fun j hj => h j (Nat.lt_succ_of_lt hj)

theorem CallA.lend {P : Program} {f : FuncId} {args : List AV} {H : Heap} {K Kc : AV → Heap → Prop} (keep : List (Nat × Bool)) (h : CallA P f (renL (posOf keep) args) (gcH keep H) Kc) (hdis : distinct keep = true) (hdata : allData H keep)
    (hlt : keep.all (fun x => Nat.blt x.1 H.nx) = true) (hK : ∀ c H', Kc c H' → backOk H' keep 0 ∧ K (ren (fun j => some (backK keep H.nx j)) c) (lendH keep H H')) : CallA P f args H K := by
  refine ⟨h.ok, fun M μ w vs R hv => (h.run M (subP keep μ) w vs (R.sub hdis hdata) (relL_ren (fun k j x => sub_pos) args hv)).mono ?_⟩
  rintro e w' ⟨v, M', μs, Hs, c, rfl, R', hv', G, hk⟩
  obtain ⟨hback, hk⟩ := hK c Hs hk
  have hL : keep.length ≤ Hs.nx := G.nx
  have klt : ∀ {j k d}, keep[j]? = some (k, d) → k < H.nx := fun {j k d} hj => by
    have := List.all_eq_true.1 hlt _ (List.mem_of_getElem? hj)
    simpa [Nat.blt_eq] using this
  have jlt : ∀ {j k d}, keep[j]? = some (k, d) → j < keep.length := fun {j k d} hj => by
    rcases Nat.lt_or_ge j keep.length with h | h
    · exact h
    · rw [List.getElem?_eq_none h] at hj; cases hj
  let bk := backK keep H.nx
  have bk1 : ∀ {j k d}, keep[j]? = some (k, d) → bk j = k := fun {j k d} hj => by simp only [bk, backK, hj]
  have bk2 : ∀ {j}, keep.length ≤ j → bk j = H.nx + (j - keep.length) := fun {j} hj => by simp only [bk, backK, List.getElem?_eq_none hj]
  have bkc : ∀ j, (∃ k d, keep[j]? = some (k, d) ∧ j < keep.length ∧ bk j = k ∧ k < H.nx) ∨ (keep.length ≤ j ∧ bk j = H.nx + (j - keep.length)) := fun j => by
    cases hj : keep[j]? with
    | none =>
      have : keep.length ≤ j := by simpa using hj
      exact .inr ⟨this, bk2 this⟩
    | some x => obtain ⟨k, d⟩ := x; exact .inl ⟨k, d, rfl, jlt hj, bk1 hj, klt hj⟩
  have inj : ∀ i j, bk i = bk j → i = j := by
    intro i j hij
    rcases bkc i with ⟨k, d, h1, h2, h3, h4⟩ | ⟨h1, h2⟩
    · rcases bkc j with ⟨k', d', h5, h6, h7, h8⟩ | ⟨h5, h6⟩
      · have : k = k' := by rw [← h3, ← h7, hij]
        subst this
        exact distinct_spec hdis i j k d d' h1 h5
      · omega
    · rcases bkc j with ⟨k', d', h5, h6, h7, h8⟩ | ⟨h5, h6⟩
      · omega
      · omega
  let μ2 : Pos := fun k => if k < H.nx then μ k else μs (k - H.nx + keep.length)
  have hμ2 : ∀ j, μ2 (bk j) = μs j := by
    intro j
    rcases bkc j with ⟨k, d, h1, h2, h3, h4⟩ | ⟨h1, h2⟩
    · rw [h3]
      simp only [μ2, if_pos h4]
      rw [G.grow.pin j h2]
      simp only [subP, h1, Option.bind_some]
    · rw [h2]
      simp only [μ2]
      rw [if_neg (by omega)]
      congr 1; omega
  have hf : ∀ k j x, (fun j => some (bk j)) k = some j → μs k = some x → μ2 j = some x := by
    intro k j x hj hx
    simp only [Option.some.injEq] at hj
    subst hj; rw [hμ2]; exact hx
  have get : ∀ k, (∃ j, j < Hs.nx ∧ bk j = k ∧ (lendH keep H Hs).get k = backB keep H.nx Hs j) ∨ ((∀ j, j < Hs.nx → bk j ≠ k) ∧ (lendH keep H Hs).get k = H.get k) := by
    intro k
    obtain ⟨h1, h2⟩ := lendBs_get (keep := keep) (nx := H.nx) (H' := Hs) k inj Hs.nx H.bs
    by_cases hj : ∃ j, j < Hs.nx ∧ bk j = k
    · obtain ⟨j, h3, h4⟩ := hj
      exact .inl ⟨j, h3, h4, h1 j h3 h4⟩
    · have h3 : ∀ j, j < Hs.nx → bk j ≠ k := fun j h3 h4 => hj ⟨j, h3, h4⟩
      exact .inr ⟨h3, h2 h3⟩
  have backdead : ∀ j, backB keep H.nx Hs j ≠ .dead → Hs.get j ≠ .dead := by
    intro j hj hd
    refine hj ?_
    simp only [backB, hd, renB]
    split <;> rfl
  have notsub : ∀ {k b s}, H.get k ≠ .dead → μ k = some (b, s) → (∀ j, j < Hs.nx → bk j ≠ k) → ¬ Own (subP keep μ) (gcH keep H) b := by
    intro k b s hk1 hk2 hno ho
    obtain ⟨j, k', d, s', h1, h2, h3⟩ := sub_own ho
    have := R.inj k k' b s s' hk1 h2 hk2 h3
    subst this
    exact hno j (Nat.lt_of_lt_of_le (jlt h1) hL) (bk1 h1)
  have blt : ∀ {k b s}, H.get k ≠ .dead → μ k = some (b, s) → b < w.heap.size := fun h1 h2 => R.own_lt ⟨_, _, h1, h2⟩
  have old : ∀ {k}, (∀ j, j < Hs.nx → bk j ≠ k) → H.get k ≠ .dead → k < H.nx ∧ μ2 k = μ k := fun {k} _ hk => by
    have : k < H.nx := by
      rcases Nat.lt_or_ge k H.nx with h | h
      · exact h
      · exact absurd (R.top k h) hk
    exact ⟨this, by simp only [μ2, if_pos this]⟩
  have ownBack : ∀ {b}, Own μs Hs b → Own μ H b ∨ w.heap.size ≤ b := fun ho => by
    rcases G.grow.own _ ho with h | h
    · obtain ⟨j, k', d, s', h1, h2, h3⟩ := sub_own h
      exact .inl ⟨k', s', h2, h3⟩
    · exact .inr h
  have relB : ∀ {ds : List AV} {vs : List Value}, relP M' μs ds vs → relP M' μ2 (renL (fun j => some (bk j)) ds) vs := fun h => relP_ren hf _ h
  have R2 : Rel M' μ2 (lendH keep H Hs) w' := by
    refine ⟨fun k hk => ?_, fun k hk => ?_, fun k cs hk => ?_, fun k es hk => ?_, fun i j b s t hi hj hx hy => ?_, R'.imm, fun k b s hk hx o => ?_⟩
    · have hk : H.nx + (Hs.nx - keep.length) ≤ k := hk
      simp only [μ2]
      rw [if_neg (by omega)]
      exact R'.dom _ (by omega)
    · have hk : H.nx + (Hs.nx - keep.length) ≤ k := hk
      rcases get k with ⟨j, h1, h2, h3⟩ | ⟨h1, h2⟩
      · rcases bkc j with ⟨k', d, h4, h5, h6, h7⟩ | ⟨h4, h5⟩
        · omega
        · omega
      · rw [h2]; exact R.top k (by omega)
    · rcases get k with ⟨j, h1, h2, h3⟩ | ⟨h1, h2⟩
      · rw [h3] at hk
        subst h2
        have fin : ∀ ds, Hs.get j = .cells ds → (∀ vs, relP M' μs ds vs → relP M' μ2 cs vs) → ∃ b sz c el fz, μ2 (bk j) = some (b, sz) ∧ w'.heap[b]? = some (.cells c el fz) ∧ c.size = sz ∧ (fz = (0, 0) ∨ c.size ≤ fz.1) ∧ relP M' μ2 cs c.toList := by
          intro ds hd hp
          obtain ⟨b, sz, c, el, fz, g1, g2, g3, g4, g5⟩ := R'.cells j ds hd
          exact ⟨b, sz, c, el, fz, by rw [hμ2]; exact g1, g2, g3, (by rw [g3]; exact g4), hp _ g5⟩
        simp only [backB] at hk
        split at hk
        · rename_i kk hkk
          obtain ⟨b, sz, c, el, fz, g1, g2, g3, g4, g5⟩ := R'.cells j cs hk
          refine ⟨b, sz, c, el, fz, by rw [hμ2]; exact g1, g2, g3, g4, ?_⟩
          have := backOk_spec hback j kk hkk
          rw [Nat.zero_add, hk] at this
          exact relP_data cs this g5
        · cases hg : Hs.get j with
          | dead => rw [hg] at hk; simp [renB] at hk
          | map es => rw [hg] at hk; simp [renB] at hk
          | cells ds =>
            rw [hg] at hk; simp only [renB, AB.cells.injEq] at hk; subst hk
            obtain ⟨b, sz, c, el, fz, g1, g2, g3, g4, g5⟩ := R'.cells j ds hg
            exact ⟨b, sz, c, el, fz, by rw [hμ2]; exact g1, g2, g3, g4, relB g5⟩
      · rw [h2] at hk
        have hne : H.get k ≠ .dead := by rw [hk]; simp
        obtain ⟨b, sz, c, el, fz, g1, g2, g3, g4, g5⟩ := R.cells k cs hk
        have hb := blt hne g1
        refine ⟨b, sz, c, el, fz, by rw [(old h1 hne).2]; exact g1, by rw [G.grow.keep.block b hb (notsub hne g1 h1)]; exact g2, g3, g4, ?_⟩
        refine relP_mono G.grow.mem ?_ cs g5
        intro q x hx
        have : q < H.nx := R.pos_lt hx
        simp only [μ2, if_pos this]; exact hx
    · rcases get k with ⟨j, h1, h2, h3⟩ | ⟨h1, h2⟩
      · rw [h3] at hk
        subst h2
        have hg : Hs.get j = .map es := by
          simp only [backB] at hk
          split at hk
          · exact hk
          · cases hg : Hs.get j with
            | dead => rw [hg] at hk; cases hk
            | cells cs => rw [hg] at hk; cases hk
            | map es' => rw [hg] at hk; exact hk
        obtain ⟨b, sz, ents, clock, g1, g2⟩ := R'.maps j es hg
        exact ⟨b, sz, ents, clock, by rw [hμ2]; exact g1, g2⟩
      · rw [h2] at hk
        have hne : H.get k ≠ .dead := by rw [hk]; simp
        obtain ⟨b, sz, ents, clock, g1, g2, g3, g4⟩ := R.maps k es hk
        have hb := blt hne g1
        refine ⟨b, sz, ents, clock, by rw [(old h1 hne).2]; exact g1, by rw [G.grow.keep.block b hb (notsub hne g1 h1)]; exact g2, ?_, g4⟩
        have : ∀ {es : List (AV × AV)} {ents : List MapEntry}, relE M es ents → relE M' es ents := by
          intro es
          induction es with
          | nil => intro ents h; exact h
          | cons x r ih => intro ents h; obtain ⟨e, t, h1, h2, h3, h4⟩ := h; exact ⟨e, t, h1, relV_mono G.grow.mem _ (Pos.le_refl _) h2, relV_mono G.grow.mem _ (Pos.le_refl _) h3, ih h4⟩
        exact this g3
    · have mix : ∀ {i j k : Nat} {s t : Nat}, j < Hs.nx → Hs.get j ≠ .dead → μs j = some (b, s) → H.get k ≠ .dead → μ k = some (b, t) → (∀ j, j < Hs.nx → bk j ≠ k) → False := by
        intro i j k s t h1 h2 h3 h4 h5 h6
        rcases G.grow.own b ⟨j, s, h2, h3⟩ with h | h
        · exact notsub h4 h5 h6 h
        · have := blt h4 h5; omega
      rcases get i with ⟨i', h1, h2, h3⟩ | ⟨h1, h2⟩
      · rw [h3] at hi; have hi := backdead _ hi
        subst h2; rw [hμ2] at hx
        rcases get j with ⟨j', h4, h5, h6⟩ | ⟨h4, h5⟩
        · rw [h6] at hj; have hj := backdead _ hj
          subst h5; rw [hμ2] at hy
          rw [R'.inj i' j' b s t hi hj hx hy]
        · rw [h5] at hj
          rw [(old h4 hj).2] at hy
          exact (mix (i := 0) h1 hi hx hj hy h4).elim
      · rw [h2] at hi
        rw [(old h1 hi).2] at hx
        rcases get j with ⟨j', h4, h5, h6⟩ | ⟨h4, h5⟩
        · rw [h6] at hj; have hj := backdead _ hj
          subst h5; rw [hμ2] at hy
          exact (mix (i := 0) h4 hj hy hi hx h1).elim
        · rw [h5] at hj
          rw [(old h4 hj).2] at hy
          exact R.inj i j b s t hi hj hx hy
    · rcases get k with ⟨j, h1, h2, h3⟩ | ⟨h1, h2⟩
      · rw [h3] at hk
        subst h2; rw [hμ2] at hx
        exact R'.apart j b s (backdead _ hk) hx o
      · rw [h2] at hk
        rw [(old h1 hk).2] at hx
        cases hm : M' b o with
        | none => rfl
        | some u =>
          rcases G.grow.fresh b o u hm with h | h | h
          · rw [R.apart k b s hk hx o] at h; cases h
          · exact absurd h (notsub hk hx h1)
          · have := blt hk hx; omega
  have ownSub : ∀ {b}, Own (subP keep μ) (gcH keep H) b → Own μ H b := fun ho => by
    obtain ⟨j, k', d, s', h1, h2, h3⟩ := sub_own ho
    exact ⟨k', s', h2, h3⟩
  refine ⟨v, M', μ2, lendH keep H Hs, _, rfl, R2, relV_ren hf c hv', ⟨fun k x hx => ?_, ⟨G.grow.mem, fun k hk => ?_, ⟨G.grow.keep.os, G.grow.keep.tape, G.grow.keep.output, G.grow.keep.size, fun b hb hno => G.grow.keep.block b hb (fun h => hno (ownSub h))⟩, fun b hb => ?_, fun b o u hm => ?_⟩, Nat.le_add_right _ _⟩, hk⟩
  · have : k < H.nx := R.pos_lt hx
    simp only [μ2, if_pos this]; exact hx
  · simp only [μ2, if_pos hk]
  · obtain ⟨k, s, hk1, hk2⟩ := hb
    rcases get k with ⟨j, h1, h2, h3⟩ | ⟨h1, h2⟩
    · rw [h3] at hk1
      subst h2; rw [hμ2] at hk2
      exact ownBack ⟨j, s, backdead _ hk1, hk2⟩
    · rw [h2] at hk1
      rw [(old h1 hk1).2] at hk2
      exact .inl ⟨k, s, hk1, hk2⟩
  · rcases G.grow.fresh b o u hm with h | h | h
    · exact .inl h
    · exact .inr (.inl (ownSub h))
    · exact .inr (.inr h)
end Go.Eng

namespace Go.Eng
open Go

theorem Branch.neg {b : Bool} {A B : Prop} (yes : b = false → A) (no : b = true → B) : Branch (!b) A B :=
  ⟨fun h => yes (by simpa using h), fun h => no (by simpa using h)⟩
theorem Branch.negdec {p : Prop} [Decidable p] {A B : Prop} (yes : ¬ p → A) (no : p → B) : Branch (!decide p) A B :=
  ⟨fun h => yes (by simpa using h), fun h => no (by simpa using h)⟩
/-- The frame alone is made shorter; the heap stays. -/
def selF (fr : Fr) : List Nat → Fr
  | [] => []
  | t :: r => (t, look fr t) :: selF fr r
theorem Into.slots {n : Nat} {fr : Fr} {H : Heap} (slots : List Nat) : Into n fr H (selF fr slots) H := by
  intro N M μ w tmps R F hn
  refine ⟨M, μ, R, ⟨F.size, fun t => ?_⟩, hn, Grow.refl _ _ _ _ _⟩
  have key : ∀ (sl : List Nat), relV M (look (selF fr sl) t) μ (tmps.getD t undef) := by
    intro sl
    induction sl with
    | nil => simp [selF, look, relV]
    | cons q r ih =>
      simp only [selF, look]
      by_cases hq : q = t
      · subst hq; simpa using F.slot q
      · rw [beq_false hq]; exact ih
  exact key slots
theorem To.slots {n : Nat} {fr : Fr} {H : Heap} {J : Fr → Heap → Prop} (slots : List Nat) (h : J (selF fr slots) H) : To n fr H J := ⟨_, _, Into.slots slots, h⟩
theorem RetA.same {n : Nat} {K : AV → Heap → Prop} {v : AV} {H : Heap} (h : K v H) : RetA n K v H :=
  ⟨v, H, fun _ M μ _ _ R F hn => ⟨M, μ, R, F, hn, Grow.refl _ _ _ _ _⟩, h⟩
/-- Arguments of which less is known. -/
theorem CallA.args {P : Program} {f : FuncId} {args args' : List AV} {H : Heap} {K : AV → Heap → Prop} (h : CallA P f args' H K) (ha : ∀ M μ vs, relL M args μ vs → relL M args' μ vs) : CallA P f args H K :=
  ⟨h.ok, fun M μ w vs R hv => h.run M μ w vs R (ha M μ _ hv)⟩
/-! ### A call that only looks -/
mutual
/-- No place and no reference. -/
def flatV : AV → Bool
  | .ptr _ _ | .slice _ _ _ _ _ | .map _ | .dptr _ | .dslice _ _ _ => false
  | .func _ cs | .agg cs | .tuple cs => flatL cs
  | _ => true
def flatL : List AV → Bool
  | [] => true
  | c :: cs => flatV c && flatL cs
end
section
variable {M M' : Mem} {μ μ' : Pos}
mutual
theorem relV_flat : ∀ (c : AV) {v : Value}, flatV c = true → relV M c μ v → relV M' c μ' v
  | .any, _, _, _ => by simp only [relV]
  | .bool b, _, _, h => by simpa only [relV] using h
  | .int k n, _, _, h => by simpa only [relV] using h
  | .str s, _, _, h => by simpa only [relV] using h
  | .nilp, _, _, h => by simpa only [relV] using h
  | .nils, _, _, h => by simpa only [relV] using h
  | .nilm, _, _, h => by simpa only [relV] using h
  | .nilf, _, _, h => by simpa only [relV] using h
  | .ptr _ _, _, h, _ | .slice _ _ _ _ _, _, h, _ | .map _, _, h, _ | .dptr _, _, h, _ | .dslice _ _ _, _, h, _ => by simp [flatV] at h
  | .func g cs, _, hn, h => by simp only [relV, flatV] at *; obtain ⟨vs, h1, h2⟩ := h; exact ⟨vs, h1, relL_flat cs hn h2⟩
  | .agg cs, _, hn, h => by simp only [relV, flatV] at *; obtain ⟨vs, h1, h2⟩ := h; exact ⟨vs, h1, relL_flat cs hn h2⟩
  | .tuple cs, _, hn, h => by simp only [relV, flatV] at *; obtain ⟨vs, h1, h2⟩ := h; exact ⟨vs, h1, relL_flat cs hn h2⟩
theorem relL_flat : ∀ (cs : List AV) {vs : List Value}, flatL cs = true → relL M cs μ vs → relL M' cs μ' vs
  | [], _, _, h => by simpa only [relL] using h
  | c :: cs, _, hn, h => by
    simp only [relL, flatL, Bool.and_eq_true] at *; obtain ⟨v, r, h1, h2, h3⟩ := h
    exact ⟨v, r, h1, relV_flat c hn.1 h2, relL_flat cs hn.2 h3⟩
end
end
/-- A call that changes nothing, and hands back r. -/
structure CallS (P : Program) (f : FuncId) (args : List AV) (H : Heap) (r : AV) : Prop where
  ok : callable P f = true
  run : ∀ M μ w (vs : Array Value), Rel M μ H w → relL M args μ vs.toList → Calls P f vs w fun e w' =>
    ∃ v, e = .returned v ∧ relV (fun _ _ => none) r Pos.none v ∧ w'.os = w.os ∧ w'.tape = w.tape ∧ w'.output = w.output ∧ w.heap.size ≤ w'.heap.size ∧ ∀ b, b < w.heap.size → w'.heap[b]? = w.heap[b]?

theorem CallS.of {P : Program} {f : FuncId} {args : List AV} {H : Heap} {r : AV} (h : CallA P f args Heap.nil fun v H' => v = r ∧ H' = Heap.nil) (hr : flatV r = true) (ha : noLocL args = true) : CallS P f args H r :=
  ⟨h.ok, fun M μ w vs R hv => (h.run M Pos.none w vs R.nil (relL_data args ha hv)).mono fun e w' ⟨v, M', μ', H', c, he, R', hv', G, hc, hH⟩ => by
    subst hc
    exact ⟨v, he, relV_flat _ hr hv', G.grow.keep.os, G.grow.keep.tape, G.grow.keep.output, G.grow.keep.size, fun b hb => G.grow.keep.block b hb own_nil⟩⟩
theorem CallS.peek {P : Program} {f : FuncId} {args : List AV} {H : Heap} {r : AV} (k : Nat) {ds : List AV} (hk : H.get k = .cells ds) (hdata : ∀ c ∈ ds, noLoc c = true) (h : CallS P f (pubL k ds args) (pubH k ds H) r) : CallS P f args H r := by
  refine ⟨h.ok, fun M μ w vs R hv => ?_⟩
  obtain ⟨M', R', hV, G⟩ := R.pub k hk hdata
  have hl : ∀ {cs : List AV} {us : List Value}, relL M cs μ us → relL M' (pubL k ds cs) μ us := by
    intro cs
    induction cs with
    | nil => intro us h; simpa only [pubL, relL] using h
    | cons c cs ih => intro us h; simp only [pubL, relL] at h ⊢; obtain ⟨v, r, h1, h2, h3⟩ := h; exact ⟨v, r, h1, hV c v h2, ih h3⟩
  exact h.run M' μ w vs R' (hl hv)
theorem CallS.call {P : Program} {f : FuncId} {args : List AV} {H : Heap} {r : AV} {K : AV → Heap → Prop} (h : CallS P f args H r) (hr : flatV r = true) (hk : K r H) : CallA P f args H K := by
  refine ⟨h.ok, fun M μ w vs R hv => (h.run M μ w vs R hv).mono fun e w' ⟨v, he, hv', h1, h2, h3, h4, h5⟩ => ?_⟩
  have himm : ∀ b o u, M b o = some u → w'.cell? ⟨b, o, none⟩ = some u := fun b o u hm => by
    have hb := R.cell_lt hm
    have := R.imm b o u hm
    simp only [World.cell?] at this ⊢
    rw [h5 b hb]; exact this
  exact ⟨v, M, μ, H, r, he, R.frame (Mem.le_refl _) himm (fun b o u h => .inl h) h5, relV_flat r hr hv', ⟨Pos.le_refl _, ⟨Mem.le_refl _, fun _ _ => rfl, ⟨h1, h2, h3, h4, fun b hb _ => h5 b hb⟩, fun b hb => .inl hb, fun b o u h => .inl h⟩, Nat.le_refl _⟩, hk⟩
end Go.Eng

namespace Go.Eng
open Go

/-! ### What is handed out becomes data, as far as it reaches -/
def pubAll (f : AV → Option AV) : List AV → Option (List AV)
  | [] => some []
  | c :: r => match f c with
    | some c' => match pubAll f r with
      | some r' => some (c' :: r')
      | none => none
    | none => none
def pubE (η : Nat → AB) : Nat → AV → Option AV
  | 0, v => bif noLoc v then some v else none
  | n + 1, .slice k off len cap e => match η k with
    | .cells cs => match pubAll (pubE η n) ((cs.drop off).take (len * e)) with
      | some l => some (.dslice l len cap)
      | none => none
    | _ => none
  | n + 1, .ptr k off => match η k with
    | .cells cs => match pubAll (pubE η n) (cs.drop off) with
      | some l => some (.dptr l)
      | none => none
    | _ => none
  | n + 1, .agg cs => match pubAll (pubE η n) cs with
    | some l => some (.agg l)
    | none => none
  | n + 1, .tuple cs => match pubAll (pubE η n) cs with
    | some l => some (.tuple l)
    | none => none
  | n + 1, .func g cs => match pubAll (pubE η n) cs with
    | some l => some (.func g l)
    | none => none
  | _ + 1, .map _ => none
  | _ + 1, v => some v

section
variable {M M' : Mem} {μ : Pos} {H : Heap} {w : World}
theorem pubAll_rel {f : AV → Option AV} {ρ : Pos} (hf : ∀ c c' v, f c = some c' → relV M c μ v → relV M' c' ρ v) : ∀ {cs l : List AV} {vs : List Value}, pubAll f cs = some l → relL M cs μ vs → relL M' l ρ vs
  | [], l, vs, h, hr => by simp only [pubAll] at h; cases h; simpa only [relL] using hr
  | c :: r, l, vs, h, hr => by
    simp only [pubAll] at h
    split at h
    · rename_i c' hc
      split at h
      · rename_i r' hr'; cases h
        simp only [relL] at hr ⊢
        obtain ⟨v, t, rfl, h1, h2⟩ := hr
        exact ⟨v, t, rfl, hf _ _ _ hc h1, pubAll_rel hf hr' h2⟩
      · cases h
    · cases h
theorem pubAll_get {f : AV → Option AV} : ∀ {cs l : List AV}, pubAll f cs = some l → ∀ (i : Nat) (c' : AV), l[i]? = some c' → ∃ c, cs[i]? = some c ∧ f c = some c'
  | [], l, h, i, c', hi => by simp only [pubAll] at h; cases h; simp at hi
  | c :: r, l, h, i, c', hi => by
    simp only [pubAll] at h
    split at h
    · rename_i c1 hc
      split at h
      · rename_i r' hr'; cases h
        cases i with
        | zero => simp at hi; subst hi; exact ⟨c, rfl, hc⟩
        | succ i => simp at hi; obtain ⟨d, h1, h2⟩ := pubAll_get hr' i c' hi; exact ⟨d, by simpa using h1, h2⟩
      · cases h
    · cases h
theorem cells_out (R : Rel M μ H w) (hM' : ∀ b o, Own μ H b → M' b o = w.cell? ⟨b, o, none⟩) {k b sz : Nat} {cs : List AV} (hk : H.get k = .cells cs) (hμ : μ k = some (b, sz)) {f : AV → Option AV}
    (hf : ∀ c c' v, f c = some c' → relV M c μ v → relV M' c' Pos.none v) {off : Nat} {ds l : List AV} (hd : ∀ i c, ds[i]? = some c → cs[off + i]? = some c) (hp : pubAll f ds = some l) : relM M' l b off := by
  obtain ⟨b', sz', c, el, fz, h1, h2, _, _, hP⟩ := R.cells k cs hk
  rw [hμ] at h1; cases h1
  refine relM_of_get fun i c' hi => ?_
  obtain ⟨d, h3, h4⟩ := pubAll_get hp i c' hi
  obtain ⟨u, hu, hr⟩ := relP_get hP (hd i d h3)
  refine ⟨u, ?_, hf _ _ _ h4 hr⟩
  rw [hM' b _ ⟨k, sz, by rw [hk]; simp, hμ⟩]
  simp only [World.cell?, h2]
  simpa using hu
theorem pubE_rel (R : Rel M μ H w) (hle : Mem.le M M') (hM' : ∀ b o, Own μ H b → M' b o = w.cell? ⟨b, o, none⟩) : ∀ (n : Nat) (c c' : AV) (v : Value), pubE H.get n c = some c' → relV M c μ v → relV M' c' Pos.none v
  | 0, c, c', v, h, hr => by
    simp only [pubE] at h
    cases hn : noLoc c <;> simp only [hn, cond_true, cond_false] at h
    · cases h
    · cases h; exact relV_data c hn (relV_mono hle c (Pos.le_refl _) hr)
  | n + 1, c, c', v, h, hr => by
    have ih := pubE_rel R hle hM' n
    cases c <;> simp only [pubE] at h
    case slice k off len cap e =>
      split at h
      · rename_i cs hk
        split at h
        · rename_i l hl; cases h
          simp only [relV] at hr ⊢
          obtain ⟨b, sz, q, h1, rfl, h3, h4, h5⟩ := hr
          exact .inl ⟨b, off, q, rfl, h3, h5, cells_out R hM' hk h1 ih (fun i c hi => by
            rw [List.getElem?_take] at hi
            split at hi
            · rwa [List.getElem?_drop] at hi
            · cases hi) hl⟩
        · cases h
      · cases h
    case ptr k off =>
      split at h
      · rename_i cs hk
        split at h
        · rename_i l hl; cases h
          simp only [relV] at hr ⊢
          obtain ⟨b, sz, h1, rfl⟩ := hr
          exact ⟨b, off, rfl, cells_out R hM' hk h1 ih (fun i c hi => by rwa [List.getElem?_drop] at hi) hl⟩
        · cases h
      · cases h
    case agg cs =>
      split at h
      · rename_i l hl; cases h
        simp only [relV] at hr ⊢
        obtain ⟨vs, rfl, hr⟩ := hr
        exact ⟨vs, rfl, pubAll_rel ih hl hr⟩
      · cases h
    case tuple cs =>
      split at h
      · rename_i l hl; cases h
        simp only [relV] at hr ⊢
        obtain ⟨vs, rfl, hr⟩ := hr
        exact ⟨vs, rfl, pubAll_rel ih hl hr⟩
      · cases h
    case func g cs =>
      split at h
      · rename_i l hl; cases h
        simp only [relV] at hr ⊢
        obtain ⟨vs, rfl, hr⟩ := hr
        exact ⟨vs, rfl, pubAll_rel ih hl hr⟩
      · cases h
    case map k => cases h
    all_goals (cases h; exact relV_data _ rfl (relV_mono hle _ (Pos.le_refl _) hr))
end
theorem Into.out {fr : Fr} {H : Heap} {v r : AV} (m : Nat) (h : pubE H.get m v = some r) : Into 0 ((0, v) :: fr) H [(0, r)] Heap.nil := by
  intro N M μ w tmps R F _
  let M' : Mem := fun b o => open Classical in if Own μ H b then w.cell? ⟨b, o, none⟩ else M b o
  have hO : ∀ b o, Own μ H b → M' b o = w.cell? ⟨b, o, none⟩ := fun b o hb => by simp [M', hb]
  have hN : ∀ b o, ¬ Own μ H b → M' b o = M b o := fun b o hb => by simp [M', hb]
  have hle : Mem.le M M' := fun b o u hu => by
    by_cases hb : Own μ H b
    · rw [hO b o hb]; exact R.imm b o u hu
    · rw [hN b o hb]; exact hu
  refine ⟨M', Pos.none, ⟨fun _ _ => rfl, fun _ _ => rfl, fun k cs h => by simp [Heap.get, Heap.nil, bget] at h, fun k cs h => by simp [Heap.get, Heap.nil, bget] at h, fun i j b s t h => by simp [Heap.get, Heap.nil, bget] at h, fun b o u hu => ?_, fun k b s h => by simp [Heap.get, Heap.nil, bget] at h⟩, ⟨F.size, fun t => ?_⟩, Nat.zero_le _, ⟨hle, fun k hk => by omega, ⟨rfl, rfl, rfl, Nat.le_refl _, fun _ _ _ => rfl⟩, fun b hb => absurd hb own_nil, fun b o u hu => ?_⟩⟩
  · by_cases hb : Own μ H b
    · rw [hO b o hb] at hu; exact hu
    · rw [hN b o hb] at hu; exact R.imm b o u hu
  · simp only [look]
    by_cases e : 0 = t
    · subst e
      have := F.slot 0
      simp only [look, Nat.beq_refl, cond_true] at this ⊢
      exact pubE_rel R hle hO m _ _ _ h this
    · rw [beq_false e]; simp [relV]
  · by_cases hb : Own μ H b
    · exact .inr (.inl hb)
    · rw [hN b o hb] at hu; exact .inl hu
/-- **A result is handed out as data**, whatever of the heap it reaches. -/
theorem RetA.out {K : AV → Heap → Prop} {v r : AV} {H : Heap} (m : Nat) (h : pubE H.get m v = some r) (hk : K r Heap.nil) : RetA 0 K v H :=
  ⟨r, Heap.nil, Into.out m h, hk⟩
theorem CallA.out {P : Program} {f : FuncId} {vs : List AV} {K0 K : AV → Heap → Prop} (m : Nat) (h : CallA P f vs Heap.nil K0) (hk : ∀ v H', K0 v H' → ∃ r, pubE H'.get m v = some r ∧ K r Heap.nil) : CallA P f vs Heap.nil K := by
  refine ⟨h.ok, fun M μ w as R hv => (h.run M μ w as R hv).mono ?_⟩
  rintro e w' ⟨v, M', μ', H', c, rfl, R', hv', G, hK⟩
  have hμ : μ = Pos.none := funext fun k => R.dom k (Nat.zero_le _)
  subst hμ
  obtain ⟨r, hr, hk⟩ := hk c H' hK
  obtain ⟨M2, μ2, R2, F2, _, G2⟩ := Into.out (fr := []) m hr 1 M' μ' w' #[v] R' ⟨rfl, fun t => by
    simp only [look]
    by_cases e : 0 = t
    · subst e; simpa using hv'
    · rw [beq_false e]; simp [relV]⟩ (Nat.zero_le _)
  have := F2.slot 0
  refine ⟨v, M2, μ2, Heap.nil, r, rfl, R2, by simpa [look] using this, ⟨(fun k x h => nomatch h), G.grow.trans G2, Nat.le_refl _⟩, hk⟩
end Go.Eng

namespace Go.Eng
open Go Go.ChangeShapes Go.WideShapes Go.RowKit

/-! ### From a contract to a statement: what arguments look like -/
inductive Sh where
  | b
  | i (k : IntKind)
  | str
  | sl (e : Sh)
  | ar (n : Nat) (e : Sh)
  | ag (l : List Sh)
mutual
def Ty : Sh → Type
  | .b => Bool
  | .i _ => Int
  | .str => ByteArray
  | .sl e => List (Ty e)
  | .ar _ e => List (Ty e)
  | .ag l => Tys l
def Tys : List Sh → Type
  | [] => Unit
  | s :: r => Ty s × Tys r
end
mutual
def cellsT : (s : Sh) → Ty s → List AV
  | .b, x => [.bool x]
  | .i k, x => [.int k x]
  | .str, x => [.str x]
  | .sl e, l => [.dslice (List.flatMap (cellsT e) l) (List.length l) none]
  | .ar _ e, l => List.flatMap (cellsT e) l
  | .ag l, x => cellsTs l x
def cellsTs : (l : List Sh) → Tys l → List AV
  | [], _ => []
  | s :: r, x => cellsT s x.1 ++ cellsTs r x.2
end
mutual
def wfT : (s : Sh) → Ty s → Prop
  | .b, _ => True
  | .i k, x => let n : Int := x; k.min ≤ n ∧ n ≤ k.max
  | .str, x => ByteArray.size x ≤ maxLen
  | .sl e, l => (∀ x, List.Mem x l → wfT e x) ∧ List.length l ≤ maxLen
  | .ar n e, l => (∀ x, List.Mem x l → wfT e x) ∧ List.length l = n
  | .ag l, x => wfTs l x
def wfTs : (l : List Sh) → Tys l → Prop
  | [], _ => True
  | s :: r, x => wfT s x.1 ∧ wfTs r x.2
end
mutual
def widthT : Sh → Nat
  | .b | .i _ | .str | .sl _ => 1
  | .ar n e => n * widthT e
  | .ag l => widthTs l
def widthTs : List Sh → Nat
  | [] => 0
  | s :: r => widthT s + widthTs r
end
mutual
def noSl : Sh → Bool
  | .sl _ => false
  | .ar _ e => noSl e
  | .ag l => noSls l
  | _ => true
def noSls : List Sh → Bool
  | [] => true
  | s :: r => noSl s && noSls r
end
/-- Fields that lie behind each other. -/
def shFs (P : Program) (g : TypeId → Option Sh) : List Field → Nat → Option (List Sh)
  | [], _ => some []
  | f :: r, off => bif Nat.beq f.offset off then (match g f.type with
    | some s => bif Nat.beq (P.cellsOf f.type) (widthT s) then (match shFs P g r (off + widthT s) with
      | some l => some (s :: l)
      | none => none) else none
    | none => none) else none
def shOf (P : Program) : Nat → TypeId → Option Sh
  | 0, _ => none
  | n + 1, t => match P.underlying t with
    | some .bool => some .b
    | some (.int k) => some (.i k)
    | some .string => some .str
    | some (.slice e) => match shOf P n e with
      | some s => bif Nat.beq (P.cellsOf e) (widthT s) && noSl s then some (.sl s) else none
      | none => none
    | some (.array m e) => match shOf P n e with
      | some s => bif Nat.beq (P.cellsOf e) (widthT s) && Nat.beq (P.cellsOf t) (m * widthT s) then some (.ar m s) else none
      | none => none
    | some (.struct fs) => match shFs P (shOf P n) fs.toList 0 with
      | some l => bif Nat.beq (P.cellsOf t) (widthTs l) then some (.ag l) else none
      | none => none
    | _ => none

def Mw (w : World) : Mem := fun b o => w.cell? ⟨b, o, none⟩
section
variable {H : Type} {enc : TypeId × Value → H} {P : Program} {w : World} {sp : Nat → Bool} {held : Bool}
theorem flat_wf_len {e : Sh} (he : ∀ x : Ty e, wfT e x → (cellsT e x).length = widthT e) : ∀ l : List (Ty e), (∀ x, List.Mem x l → wfT e x) → (List.flatMap (cellsT e) l).length = l.length * widthT e
  | [], _ => by simp
  | x :: r, h => by
    rw [List.flatMap_cons, List.length_append, he x (h x (.head _)), flat_wf_len he r (fun y hy => h y (.tail _ hy)), List.length_cons, Nat.add_mul]; omega
mutual
theorem cellsT_len : ∀ (s : Sh) (x : Ty s), wfT s x → (cellsT s x).length = widthT s
  | .b, _, _ => by simp only [cellsT, widthT]; rfl
  | .i k, _, _ => by simp only [cellsT, widthT]; rfl
  | .str, _, _ => by simp only [cellsT, widthT]; rfl
  | .sl e, _, _ => by simp only [cellsT, widthT]; rfl
  | .ar n e, l, h => by
    simp only [wfT] at h
    simp only [cellsT, widthT]
    rw [flat_wf_len (cellsT_len e) l h.1, h.2]
  | .ag l, x, h => by
    simp only [wfT] at h
    simp only [cellsT, widthT]; exact cellsTs_len l x h
theorem cellsTs_len : ∀ (l : List Sh) (x : Tys l), wfTs l x → (cellsTs l x).length = widthTs l
  | [], _, _ => by simp only [cellsTs, widthTs]; rfl
  | s :: r, x, h => by
    simp only [wfTs] at h
    simp only [cellsTs, widthTs, List.length_append]
    rw [cellsT_len s x.1 h.1, cellsTs_len r x.2 h.2]
end

theorem relL_app {M : Mem} {μ : Pos} {cs ds : List AV} {vs us : List Value} (h : relL M cs μ vs) (k : relL M ds μ us) : relL M (cs ++ ds) μ (vs ++ us) := relL_append h k
/-- What the reading gives of a row of cells. -/
def Reads (w : World) (s : Sh) (cs : List Value) : Prop := ∃ x : Ty s, wfT s x ∧ relL (Mw w) (cellsT s x) Pos.none cs
def ReadsAll (w : World) (l : List Sh) (cs : List Value) : Prop := ∃ x : Tys l, wfTs l x ∧ relL (Mw w) (cellsTs l x) Pos.none cs
theorem take_off (cs : List Value) (off a b : Nat) : (cs.drop off).take (a + b) = (cs.drop off).take a ++ (cs.drop (off + a)).take b := by
  rw [List.take_add, List.drop_drop]
def plainAt (v : Value) : Prop := ∀ a len cap, v = .slice (some a) len cap → a.spot = none
def SpOK (s : Sh) (cs : List Value) : Prop := noSl s = true ∨ ∀ v ∈ cs, plainAt v
theorem mem_part {v : Value} {cs : List Value} {a b : Nat} (h : v ∈ (cs.drop a).take b) : v ∈ cs := List.mem_of_mem_drop (List.mem_of_mem_take h)
theorem shFs_reads {g : TypeId → Option Sh} : ∀ {fs : List Field} {off : Nat} {l : List Sh} {cs : List Value}, shFs P g fs off = some l → (noSls l = true ∨ ∀ v ∈ cs, plainAt v) →
    (∀ f ∈ fs, ∀ s, g f.type = some s → SpOK s cs → Reads w s ((cs.drop f.offset).take (P.cellsOf f.type))) → ReadsAll w l ((cs.drop off).take (widthTs l))
  | [], off, l, cs, h, _, _ => by
    simp only [shFs] at h; cases h
    exact ⟨(), by simp only [wfTs], by simp [cellsTs, widthTs, relL]⟩
  | f :: r, off, l, cs, h, hsp, hr => by
    simp only [shFs] at h
    cases hb : Nat.beq f.offset off <;> simp only [hb, cond_true, cond_false] at h
    · cases h
    have hoff := Nat.eq_of_beq_eq_true hb
    split at h
    · rename_i s hs
      cases hc : Nat.beq (P.cellsOf f.type) (widthT s) <;> simp only [hc, cond_true, cond_false] at h
      · cases h
      have hw := Nat.eq_of_beq_eq_true hc
      split at h
      · rename_i l' hl; cases h
        simp only [noSls, Bool.and_eq_true] at hsp
        obtain ⟨x, h1, h2⟩ := hr f (List.mem_cons_self ..) s hs (hsp.imp (·.1) id)
        obtain ⟨y, h3, h4⟩ := shFs_reads (cs := cs) hl (hsp.imp (·.2) id) fun f' hf' => hr f' (List.mem_cons_of_mem _ hf')
        refine ⟨(x, y), by simp only [wfTs]; exact ⟨h1, h3⟩, ?_⟩
        simp only [cellsTs, widthTs, take_off]
        rw [hoff, hw] at h2
        exact relL_app h2 h4
      · cases h
    · cases h
theorem chunks {e : Sh} {k : Nat} : ∀ (n : Nat) (cs : List Value), (∀ i, i < n → Reads w e ((cs.drop (i * k)).take k)) → ∃ l : List (Ty e), l.length = n ∧ (∀ x, List.Mem x l → wfT e x) ∧ relL (Mw w) (List.flatMap (cellsT e) l) Pos.none (cs.take (n * k))
  | 0, cs, _ => ⟨[], rfl, (fun x h => nomatch h), by simp [relL]⟩
  | n + 1, cs, h => by
    obtain ⟨x, h1, h2⟩ := h 0 (by omega)
    obtain ⟨l, h3, h4, h5⟩ := chunks n (cs.drop k) fun i hi => by
      have := h (i + 1) (by omega)
      rw [List.drop_drop]
      rw [show k + i * k = (i + 1) * k by rw [Nat.add_mul]; omega]; exact this
    refine ⟨x :: l, by simp [h3], fun y hy => ?_, ?_⟩
    · cases hy with
      | head => exact h1
      | tail _ hy => exact h4 y hy
    · rw [List.flatMap_cons, show (n + 1) * k = k + n * k by rw [Nat.add_mul]; omega, List.take_add]
      simp only [Nat.zero_mul, List.drop_zero] at h2
      exact relL_app h2 h5
theorem mapM_range {α : Type} {f : Nat → Option α} {n : Nat} {xs : List α} (h : (List.range n).mapM f = some xs) : xs.length = n ∧ ∀ i, i < n → ∃ y, f i = some y :=
  ⟨by simpa using mapM_some_length h, fun i hi => mapM_each h i (List.mem_range.2 hi)⟩
theorem cells?_rel {a : Addr} {n : Nat} {cs : List Value} (h : w.cells? 0 a n = some cs) : cs.length = n ∧ ∀ i v, cs[i]? = some v → w.cell? (a.add i) = some v := by
  unfold World.cells? at h
  rw [if_pos (Nat.zero_le _)] at h
  have hl : cs.length = n := by simpa using mapM_some_length h
  refine ⟨hl, fun i v hi => ?_⟩
  have hi' : i < n := by rw [← hl]; exact (List.getElem?_eq_some_iff.1 hi).1
  have := mapM_some_get h i i (by simp [hi'])
  rw [this]; exact hi
theorem reads_of_trod : ∀ (k : Nat) (t : TypeId) (s : Sh) (n : Nat) (cs : List Value) (x : DataW H × List MemPlace), shOf P k t = some s → SpOK s cs → DataW.trod enc P w 0 sp held n t cs = some x → Reads w s cs
  | 0, _, _, _, _, _, h, _, _ => by simp [shOf] at h
  | k + 1, t, s, n, cs, x, h, hsp, hd => by
    simp only [shOf] at h
    split at h
    · rename_i ht; cases h
      obtain ⟨b, rfl, _⟩ := DataW.trod_bool ht hd
      exact ⟨b, by simp only [wfT], by simp [cellsT, relL, relV]⟩
    · rename_i kk ht; cases h
      obtain ⟨m, rfl, _, hw⟩ := DataW.trod_int ht hd
      refine ⟨(m : Int), ?_, by simp [cellsT, relL, relV]⟩
      simp only [wfT]
      simpa [Lit.wf] using hw
    · rename_i ht; cases h
      obtain ⟨b, rfl, _, hs⟩ := DataW.trod_string ht hd
      exact ⟨b, by simp only [wfT]; exact hs, by simp [cellsT, relL, relV]⟩
    · rename_i e ht
      split at h
      · rename_i s' hs
        cases hb : (Nat.beq (P.cellsOf e) (widthT s') && noSl s') <;> simp only [hb, cond_true, cond_false] at h
        · cases h
        cases h
        simp only [Bool.and_eq_true] at hb
        have hwd := Nat.eq_of_beq_eq_true hb.1
        cases n with
        | zero => simp [DataW.trod] at hd
        | succ m =>
          unfold DataW.trod at hd
          rw [ht] at hd
          split at hd <;> try (first | (rename_i hh; cases hh; done) | (rename_i hh _; cases hh; done))
          · refine ⟨([] : List (Ty s')), ?_, ?_⟩
            · simp only [wfT]; exact ⟨(fun x h => nomatch h), Nat.zero_le _⟩
            · simp only [cellsT, relL]
              refine ⟨_, [], rfl, ?_, rfl⟩
              simp only [relV]
              exact .inr ⟨by first | rfl | trivial, rfl, rfl, fun c0 h => by cases h⟩
          · rename_i a len cap hh
            cases hh
            have hspot : a.spot = none := by
              rcases hsp with h | h
              · simp [noSl] at h
              · exact h _ (List.mem_cons_self ..) a len cap rfl
            simp only at hd
            split at hd
            · rename_i hc
              simp only [Option.bind_eq_some_iff] at hd
              obtain ⟨elems, he, _⟩ := hd
              obtain ⟨hl, hel⟩ := mapM_range he
              -- the cells, one element behind the other
              have cellOf : ∀ i, i < len → ∃ cs', w.cells? 0 (a.add (i * P.cellsOf e)) (P.cellsOf e) = some cs' ∧ Reads w s' cs' := fun i hi => by
                obtain ⟨y, hy⟩ := hel i hi
                simp only [Option.bind_eq_some_iff] at hy
                obtain ⟨cs', h1, h2⟩ := hy
                exact ⟨cs', h1, reads_of_trod k _ _ _ _ _ hs (.inl hb.2) h2⟩
              have hadd : ∀ i, a.add i = ⟨a.block, a.off + i, none⟩ := fun i => by
                unfold Addr.add
                split
                · rename_i h0; subst h0; cases a; simp only at hspot ⊢; subst hspot; rfl
                · rfl
              have build : ∀ j, j ≤ len → ∃ l : List (Ty s'), l.length = j ∧ (∀ x, List.Mem x l → wfT s' x) ∧ relM (Mw w) (List.flatMap (cellsT s') l) a.block (a.off + (len - j) * P.cellsOf e) := by
                intro j
                induction j with
                | zero => exact fun _ => ⟨[], rfl, (fun x h => nomatch h), by simp [relM]⟩
                | succ j ih =>
                  intro hj
                  obtain ⟨l, h3, h4, h5⟩ := ih (by omega)
                  obtain ⟨cs', h1, x, h6, h7⟩ := cellOf (len - (j + 1)) (by omega)
                  obtain ⟨hlen, hcell⟩ := cells?_rel h1
                  refine ⟨x :: l, by simp [h3], fun y hy => ?_, ?_⟩
                  · cases hy with
                    | head => exact h6
                    | tail _ hy => exact h4 y hy
                  · rw [List.flatMap_cons]
                    refine relM_of_get fun i c hi => ?_
                    by_cases hil : i < (cellsT s' x).length
                    · rw [List.getElem?_append_left hil] at hi
                      obtain ⟨u, hu, hr⟩ := relL_get h7 hi
                      refine ⟨u, ?_, hr⟩
                      have := hcell i u hu
                      rw [hadd, Go.Eng.add_addr] at this
                      exact this
                    · rw [List.getElem?_append_right (by omega)] at hi
                      obtain ⟨u, hu, hr⟩ := relM_get h5 hi
                      refine ⟨u, ?_, hr⟩
                      rw [cellsT_len s' x h6, ← hwd] at hu hil
                      rw [← hu]
                      congr 1
                      have : (len - j) * P.cellsOf e = (len - (j + 1)) * P.cellsOf e + P.cellsOf e := by
                        rw [show len - j = len - (j + 1) + 1 by omega, Nat.add_mul]; omega
                      omega
              obtain ⟨l, h3, h4, h5⟩ := build len (Nat.le_refl _)
              refine ⟨l, ?_, ?_⟩
              · simp only [wfT]; exact ⟨h4, by rw [h3]; omega⟩
              · simp only [cellsT, relL]
                refine ⟨_, [], rfl, ?_, rfl⟩
                simp only [relV]
                refine .inl ⟨a.block, a.off, cap, ?_, by rw [h3]; exact hc.2.1, (fun c0 h => by cases h), ?_⟩
                · rw [h3]; cases a; simp only at hspot ⊢; subst hspot; rfl
                · rw [Nat.sub_self, Nat.zero_mul] at h5; exact h5
            · cases hd
          · cases hd
      · cases h
    · rename_i mm e ht
      split at h
      · rename_i s' hs
        cases hb : (Nat.beq (P.cellsOf e) (widthT s') && Nat.beq (P.cellsOf t) (mm * widthT s')) <;> simp only [hb, cond_true, cond_false] at h
        · cases h
        cases h
        simp only [Bool.and_eq_true] at hb
        have hwd := Nat.eq_of_beq_eq_true hb.1
        have hwd2 := Nat.eq_of_beq_eq_true hb.2
        obtain ⟨xs, m, rfl, _, hl, hxl, hx⟩ := DataW.trod_array ht hd
        obtain ⟨l, h3, h4, h5⟩ := chunks (w := w) (e := s') (k := P.cellsOf e) mm cs fun i hi => by
          have := hx i hi
          rw [List.getElem?_eq_getElem (by omega)] at this
          exact reads_of_trod k _ _ _ _ _ hs (hsp.imp (fun h => by simpa [noSl] using h) (fun h v hv => h v (mem_part hv))) this
        refine ⟨l, by simp only [wfT]; exact ⟨h4, h3⟩, ?_⟩
        simp only [cellsT]
        rw [List.take_of_length_le (by rw [hl, hwd, hwd2]; exact Nat.le_refl _)] at h5
        exact h5
      · cases h
    · rename_i fs ht
      split at h
      · rename_i l hl
        cases hb : Nat.beq (P.cellsOf t) (widthTs l) <;> simp only [hb, cond_true, cond_false] at h
        · cases h
        cases h
        have hwd := Nat.eq_of_beq_eq_true hb
        obtain ⟨xs, m, rfl, _, hlen, hxl, hx⟩ := DataW.trod_struct ht hd
        have := shFs_reads (w := w) (cs := cs) hl (hsp.imp (fun h => by simpa [noSl] using h) id) fun f hf s' hs' hsp' => by
          obtain ⟨i, hi⟩ := List.getElem?_of_mem hf
          have hi' : fs[i]? = some f := by simpa using hi
          have h1 := hx i f hi'
          have h2 : i < xs.length := by rw [hxl]; exact (Array.getElem?_eq_some_iff.1 hi').1
          rw [List.getElem?_eq_getElem h2] at h1
          exact reads_of_trod k _ _ _ _ _ hs' (hsp'.imp id (fun h v hv => h v (mem_part hv))) h1
        obtain ⟨y, h1, h2⟩ := this
        refine ⟨y, by simp only [wfT]; exact h1, ?_⟩
        simp only [cellsT]
        rw [List.drop_zero, List.take_of_length_le (by omega)] at h2
        exact h2
      · cases h
    · cases h
end
end Go.Eng

namespace Go.Eng
open Go Go.ChangeShapes Go.WideShapes Go.RowKit

def argT : (s : Sh) → Ty s → AV
  | .b, x => .bool x
  | .i k, x => .int k x
  | .str, x => .str x
  | .sl e, l => .dslice (List.flatMap (cellsT e) l) (List.length l) none
  | .ar n e, l => .agg (cellsT (.ar n e) l)
  | .ag l, x => .agg (cellsT (.ag l) x)
def argTs : (l : List Sh) → Tys l → List AV
  | [], _ => []
  | s :: r, x => argT s x.1 :: argTs r x.2
def shAll (P : Program) : List TypeId → Option (List Sh)
  | [] => some []
  | t :: r => match shOf P 20 t with
    | some s => match shAll P r with
      | some l => some (s :: l)
      | none => none
    | none => none

section
variable {H : Type} {enc : TypeId × Value → H} {P : Program} {w : World} {sp : Nat → Bool} {held : Bool}
theorem plain_of_ok {r : Reach} {base : Nat} {t : TypeId} {v : Value} (h : Cell.okWide P w r base t v) : plainAt v := by
  rintro a len cap rfl
  unfold Cell.okWide at h
  split at h <;> first | (rename_i h2; cases h2; done) | (rename_i h1 h2; cases h2; done) | skip
  unfold Cell.ok at h
  split at h <;> first | exact h.elim | (rename_i h1 h2; cases h2; done) | skip
  · rename_i h1 h2
    cases h2
    exact h.2.2.2.1
theorem row_plain {r : Reach} {base : Nat} {t : TypeId} {cs : Array Value} (h : Row.okWide P w r base t cs) : ∀ v ∈ cs.toList, plainAt v := by
  obtain ⟨ts, _, _, hc⟩ := h
  intro v hv
  obtain ⟨i, hi⟩ := List.getElem?_of_mem hv
  obtain ⟨u, _, hok⟩ := hc i v (by simpa using hi)
  exact plain_of_ok hok
/-- A value of one cell. -/
theorem one_of_ok {r : Reach} {base : Nat} {t : TypeId} {v : Value} (h : Value.okWide P w r base t v) (hs : ∀ fs, P.underlying t ≠ some (.struct fs)) (ha : ∀ n e, P.underlying t ≠ some (.array n e)) : v.cells = #[v] ∧ plainAt v := by
  have hc : Cell.okWide P w r base t v := by
    unfold Value.okWide at h
    split at h
    · rename_i fs hf; exact absurd hf (hs fs)
    · rename_i n e hf; exact absurd hf (ha n e)
    · exact h
  refine ⟨?_, plain_of_ok hc⟩
  cases v with
  | agg cs =>
    unfold Cell.okWide at hc
    split at hc <;> first | (rename_i h1 h2; cases h2; done) | skip
    unfold Cell.ok at hc
    split at hc <;> first | exact hc.elim | (rename_i h1 h2; cases h2; done)
  | _ => rfl
theorem agg_of_ok {r : Reach} {base : Nat} {t : TypeId} {v : Value} (h : Value.okWide P w r base t v) (hs : (∃ fs, P.underlying t = some (.struct fs)) ∨ ∃ n e, P.underlying t = some (.array n e)) : ∃ cs, v = .agg cs ∧ ∀ u ∈ cs.toList, plainAt u := by
  unfold Value.okWide at h
  split at h
  · obtain ⟨cs, rfl, _, hr⟩ := h; exact ⟨cs, rfl, row_plain hr⟩
  · obtain ⟨cs, rfl, _, hr⟩ := h; exact ⟨cs, rfl, row_plain hr⟩
  · rename_i h1 h2
    rcases hs with ⟨fs, hf⟩ | ⟨n, e, hf⟩
    · exact absurd hf (h1 fs)
    · exact absurd hf (h2 n e)
/-- What a type's shape says of the type. -/
def aggFact (P : Program) (t : TypeId) : Sh → Prop
  | .ar _ _ => ∃ n e, P.underlying t = some (.array n e)
  | .ag _ => ∃ fs, P.underlying t = some (.struct fs)
  | _ => (∀ fs, P.underlying t ≠ some (.struct fs)) ∧ ∀ n e, P.underlying t ≠ some (.array n e)
theorem shOf_agg {k : Nat} {t : TypeId} {s : Sh} (h : shOf P k t = some s) : aggFact P t s := by
  cases k with
  | zero => simp [shOf] at h
  | succ k =>
    simp only [shOf] at h
    split at h
    · rename_i ht; cases h; simp [aggFact, ht]
    · rename_i ht; cases h; simp [aggFact, ht]
    · rename_i ht; cases h; simp [aggFact, ht]
    · rename_i e ht
      split at h
      · rename_i s' hs
        cases hb : (Nat.beq (P.cellsOf e) (widthT s') && noSl s') <;> simp only [hb, cond_true, cond_false] at h
        · cases h
        · cases h; simp [aggFact, ht]
      · cases h
    · rename_i m e ht
      split at h
      · rename_i s' hs
        cases hb : (Nat.beq (P.cellsOf e) (widthT s') && Nat.beq (P.cellsOf t) (m * widthT s')) <;> simp only [hb, cond_true, cond_false] at h
        · cases h
        · cases h; exact ⟨_, _, ht⟩
      · cases h
    · rename_i fs ht
      split at h
      · rename_i l hl
        cases hb : Nat.beq (P.cellsOf t) (widthTs l) <;> simp only [hb, cond_true, cond_false] at h
        · cases h
        · cases h; exact ⟨_, ht⟩
      · cases h
    · cases h
theorem arg_reads {r : Reach} {base : Nat} {t : TypeId} {s : Sh} {v : Value} {d : DataW H} {ps : List MemPlace} (hs : shOf P 20 t = some s) (hv : Value.okWide P w r base t v) (hd : DataW.Trod enc P w 0 sp held t v d ps) :
    ∃ x : Ty s, wfT s x ∧ relV (Mw w) (argT s x) Pos.none v := by
  obtain ⟨n, hn⟩ := hd
  have hg := shOf_agg hs
  cases s with
  | ar m e =>
    obtain ⟨cs, rfl, hp⟩ := agg_of_ok hv (.inr hg)
    obtain ⟨x, h1, h2⟩ := reads_of_trod 20 _ _ _ _ _ hs (.inr hp) hn
    exact ⟨x, h1, by simp only [argT, relV]; exact ⟨cs, rfl, h2⟩⟩
  | ag l =>
    obtain ⟨cs, rfl, hp⟩ := agg_of_ok hv (.inl hg)
    obtain ⟨x, h1, h2⟩ := reads_of_trod 20 _ _ _ _ _ hs (.inr hp) hn
    exact ⟨x, h1, by simp only [argT, relV]; exact ⟨cs, rfl, h2⟩⟩
  | _ =>
    obtain ⟨h1, h2⟩ := one_of_ok hv hg.1 hg.2
    rw [h1] at hn
    obtain ⟨x, h3, h4⟩ := reads_of_trod 20 _ _ _ _ _ hs (.inr (by intro u hu; simp at hu; subst hu; exact h2)) hn
    refine ⟨x, h3, ?_⟩
    simp only [cellsT, relL] at h4
    obtain ⟨u, r, h5, h6, rfl⟩ := h4
    simp at h5; subst h5
    simpa only [argT] using h6
theorem args_read {r : Reach} {base : Nat} : ∀ {ts : List TypeId} {l : List Sh} {vs : List Value} {ds : List (DataW H)} {ps : List MemPlace}, shAll P ts = some l → (∀ (j : Nat) t v, ts[j]? = some t → vs[j]? = some v → Value.okWide P w r base t v) →
    DataW.TrodAll enc P w 0 sp held ts vs ds ps → ∃ x : Tys l, wfTs l x ∧ relL (Mw w) (argTs l x) Pos.none vs
  | [], l, vs, ds, ps, h, _, hd => by
    simp only [shAll] at h; cases h
    obtain ⟨rfl, rfl, rfl⟩ := trodAll_nil hd
    exact ⟨(), by simp only [wfTs], by simp [argTs, relL]⟩
  | t :: ts, l, vs, ds, ps, h, hv, hd => by
    simp only [shAll] at h
    split at h
    · rename_i s hs
      split at h
      · rename_i l' hl; cases h
        obtain ⟨v, vs', d, ds', p, q, rfl, rfl, rfl, h1, h2⟩ := trodAll_cons hd
        obtain ⟨x, h3, h4⟩ := arg_reads hs (hv 0 t v rfl rfl) h1
        obtain ⟨y, h5, h6⟩ := args_read hl (fun j t' v' hj hj' => hv (j + 1) t' v' (by simpa using hj) (by simpa using hj')) h2
        exact ⟨(x, y), by simp only [wfTs]; exact ⟨h3, h5⟩, by simp only [argTs, relL]; exact ⟨v, vs', rfl, h4, h6⟩⟩
      · cases h
    · cases h
theorem Mw_rel : Rel (Mw w) Pos.none Heap.nil w :=
  ⟨fun _ _ => rfl, fun _ _ => rfl, fun k cs h => by simp [Heap.get, Heap.nil, bget] at h, fun k cs h => by simp [Heap.get, Heap.nil, bget] at h, fun i j b s t h => by simp [Heap.get, Heap.nil, bget] at h, fun _ _ _ h => h, fun k b s h => by simp [Heap.get, Heap.nil, bget] at h⟩
/-- The arguments' types, as the reading behind the call wants them. -/
def plainTs (P : Program) (ts : List TypeId) : Bool := ts.all fun t => P.readableRec t && decide (t < P.types.size)
theorem trodAll_stays (hl : laidOutB P = true) {W W' : World} {sp' : Nat → Bool} : ∀ {ts : List TypeId} {vs : List Value} {ds : List (DataW H)} {ps : List MemPlace}, plainTs P ts = true → DataW.TrodAll enc P W 0 (fun _ => true) true ts vs ds ps →
    (∀ p ∈ ps, W.sameAt W' p) → (∀ p ∈ ps, sp' p.block = true) → DataW.TrodAll enc P W' 0 sp' true ts vs ds ps
  | [], _, _, _, _, h, _, _ => by obtain ⟨rfl, rfl, rfl⟩ := trodAll_nil h; exact trodAll_mk0
  | t :: ts, vs, ds, ps, ht, h, hs, hb => by
    obtain ⟨v, vs', d, ds', p, q, rfl, rfl, rfl, h1, h2⟩ := trodAll_cons h
    simp only [plainTs, List.all_cons, Bool.and_eq_true, decide_eq_true_eq] at ht
    refine trodAll_cons_mk (WideElems.Trod_stays hl ht.1.1 ht.1.2 h1 (fun p hp => hs p (by simp [hp])) (fun p hp => hb p (by simp [hp]))) (trodAll_stays hl (by simpa [plainTs] using ht.2) h2 (fun p hp => hs p (by simp [hp])) (fun p hp => hb p (by simp [hp])))
/-- **A CONTRACT OF THE ENGINE GIVES WHAT THE STATEMENT ASKS OF EACH CALL.** -/
theorem law_contract {f : FuncId} {fn : Func} {s : ChangeSpec} {l : List Sh} {tb : TypeId} (hsh : shAll P fn.params.toList = some l) (hl : laidOutB P = true) (hts : plainTs P fn.params.toList = true) (hvars : s.vars = []) (hres : fn.resultTypes = #[tb]) (htb : P.underlying tb = some .bool)
    (hfn : ∀ ds : List (DataW H), ds.length = fn.params.toList.length → s.fn H ds = { results := [.lit (.bool true)], args := ds })
    (hcall : ∀ x : Tys l, wfTs l x → CallA P f (argTs l x) Heap.nil fun v H' => v = .bool true ∧ H' = Heap.nil)
    (W : World) (base : Nat) (args : Array Value) (ds gs : List (DataW H)) (before : List MemPlace)
    (hval : ∀ (j : Nat) t v, fn.params[j]? = some t → args[j]? = some v → Value.okWide P W .any base t v)
    (hW : DataW.Whole enc P fn.params.toList s.vars false W args.toList ds gs before) :
    Calls P f args W fun e W' => ∃ v, e = .returned v ∧ s.post enc P fn false true false false W args v W' := by
  have hW' := hW
  obtain ⟨p, q, hA, hV, rfl, hz, _⟩ := hW
  rw [hvars] at hV
  obtain ⟨rfl, rfl⟩ := trodVars_none hV
  obtain ⟨x, hx, hrel⟩ := args_read hsh (fun j t v hj hj' => hval j t v (by simpa using hj) (by simpa using hj')) hA
  have hlt := hA.lt
  refine ((hcall x hx).run (Mw W) Pos.none W args Mw_rel hrel).mono ?_
  rintro e W' ⟨v, M', μ', H', c, rfl, R', hv, G, rfl, rfl⟩
  have hv := rel_bool hv
  subst hv
  have hB : Below W.heap.size W W' := ⟨G.grow.keep.os, G.grow.keep.tape, G.grow.keep.output, G.grow.keep.size, fun k hk => G.grow.keep.block k hk own_nil⟩
  have hlen : ds.length = fn.params.toList.length := by
    have : ∀ {ts : List TypeId} {vs : List Value} {ds : List (DataW H)} {ps : List MemPlace}, DataW.TrodAll enc P W 0 (fun _ => true) true ts vs ds ps → ds.length = ts.length := by
      intro ts
      induction ts with
      | nil => intro vs ds ps h; obtain ⟨_, rfl, _⟩ := trodAll_nil h; rfl
      | cons t ts ih => intro vs ds ps h; obtain ⟨v, vs', d, ds', p, q, rfl, rfl, rfl, _, h2⟩ := trodAll_cons h; simp [ih h2]
    exact this hA
  refine ⟨_, rfl, ds, [], p ++ [], [], p, [], hW', ?_, ?_, ?_, ?_, fun h => by cases h⟩
  · rw [List.append_nil, hfn ds hlen, hres]
    exact trodAll_cons_mk (shut_bool htb true) trodAll_mk0
  · rw [List.append_nil, hfn ds hlen]
    exact trodAll_stays hl hts hA (fun p hp => hB.same (hlt p hp)) (fun p hp => by simpa using hlt p hp)
  · rw [List.append_nil, hfn ds hlen, hvars]
    rfl
  · exact hB.frame _
end
end Go.Eng

namespace Go.Eng
open Go

/-! ### A run of closed text, by computing -/
inductive BT (α : Type) where
  | nil
  | node (v : Option α) (l r : BT α)
namespace BT
variable {α : Type}
def get : BT α → Nat → Option α
  | nil, _ => none
  | node v l r, n => match n with
    | 0 => v
    | n + 1 => bif Nat.beq (Nat.mod n 2) 0 then l.get (Nat.div n 2) else r.get (Nat.div n 2)
def set (v : α) : Nat → BT α → Nat → Option (BT α)
  | 0, _, _ => none
  | d + 1, nil, n => match n with
    | 0 => some (node (some v) nil nil)
    | n + 1 => bif Nat.beq (Nat.mod n 2) 0 then (match set v d nil (Nat.div n 2) with
      | some l => some (node none l nil)
      | none => none) else (match set v d nil (Nat.div n 2) with
      | some r => some (node none nil r)
      | none => none)
  | d + 1, node u l r, n => match n with
    | 0 => some (node (some v) l r)
    | n + 1 => bif Nat.beq (Nat.mod n 2) 0 then (match set v d l (Nat.div n 2) with
      | some l => some (node u l r)
      | none => none) else (match set v d r (Nat.div n 2) with
      | some r => some (node u l r)
      | none => none)
theorem par {n m : Nat} (h : Nat.mod n 2 = Nat.mod m 2) (k : Nat.div n 2 = Nat.div m 2) : n = m := by
  have h : n % 2 = m % 2 := h
  have k : n / 2 = m / 2 := k
  omega
theorem get_set (v : α) : ∀ {d : Nat} {t t' : BT α} {n : Nat}, set v d t n = some t' → ∀ m, t'.get m = if n = m then some v else t.get m
  | 0, _, _, _, h, _ => by simp [set] at h
  | d + 1, nil, t', n, h, m => by
    cases n with
    | zero =>
      simp only [set, Option.some.injEq] at h; subst h
      cases m with
      | zero => simp [get]
      | succ m => simp [get]
    | succ n =>
      simp only [set] at h
      cases hb : Nat.beq (Nat.mod n 2) 0 <;> simp only [hb, cond_true, cond_false] at h
      all_goals
        split at h
        · rename_i s hs
          simp only [Option.some.injEq] at h; subst h
          have ih := get_set v hs
          cases m with
          | zero => simp [get]
          | succ m =>
            simp only [get, Nat.add_right_cancel_iff]
            have h2 : Nat.mod n 2 < 2 := Nat.mod_lt _ (by decide)
            have h3 : Nat.mod m 2 < 2 := Nat.mod_lt _ (by decide)
            cases hc : Nat.beq (Nat.mod m 2) 0 <;> simp only [cond_true, cond_false]
            all_goals first
              | (rw [ih]
                 by_cases e : Nat.div n 2 = Nat.div m 2
                 · rw [if_pos e, if_pos]
                   refine par ?_ e
                   cases hn : Nat.mod n 2 with
                   | zero => cases hm : Nat.mod m 2 with
                     | zero => rfl
                     | succ y => rw [hn] at hb; rw [hm] at hc; simp at hb hc
                   | succ x => cases hm : Nat.mod m 2 with
                     | zero => rw [hn] at hb; rw [hm] at hc; simp at hb hc
                     | succ y => omega
                 · rw [if_neg e, if_neg (fun h => e (by rw [h]))]; try rfl)
              | (rw [if_neg]; rintro rfl; rw [hb] at hc; cases hc)
              | (rw [if_neg]; · (try rfl)
                 rintro rfl; rw [hb] at hc; cases hc)
        · cases h
  | d + 1, node u l r, t', n, h, m => by
    cases n with
    | zero =>
      simp only [set, Option.some.injEq] at h; subst h
      cases m with
      | zero => simp [get]
      | succ m => simp [get]
    | succ n =>
      simp only [set] at h
      cases hb : Nat.beq (Nat.mod n 2) 0 <;> simp only [hb, cond_true, cond_false] at h
      all_goals
        split at h
        · rename_i s hs
          simp only [Option.some.injEq] at h; subst h
          have ih := get_set v hs
          cases m with
          | zero => simp [get]
          | succ m =>
            simp only [get, Nat.add_right_cancel_iff]
            have h2 : Nat.mod n 2 < 2 := Nat.mod_lt _ (by decide)
            have h3 : Nat.mod m 2 < 2 := Nat.mod_lt _ (by decide)
            cases hc : Nat.beq (Nat.mod m 2) 0 <;> simp only [cond_true, cond_false]
            all_goals first
              | (rw [ih]
                 by_cases e : Nat.div n 2 = Nat.div m 2
                 · rw [if_pos e, if_pos]
                   refine par ?_ e
                   cases hn : Nat.mod n 2 with
                   | zero => cases hm : Nat.mod m 2 with
                     | zero => rfl
                     | succ y => rw [hn] at hb; rw [hm] at hc; simp at hb hc
                   | succ x => cases hm : Nat.mod m 2 with
                     | zero => rw [hn] at hb; rw [hm] at hc; simp at hb hc
                     | succ y => omega
                 · rw [if_neg e, if_neg (fun h => e (by rw [h]))]; try rfl)
              | (rw [if_neg]; rintro rfl; rw [hb] at hc; cases hc)
              | (rw [if_neg]; · (try rfl)
                 rintro rfl; rw [hb] at hc; cases hc)
        · cases h
end BT

/-! #### Values, brought to literals -/
section
variable {β : Type}
def forceN (m : Nat) (K : Nat → Option β) : Option β := match m with
  | 0 => K 0
  | n + 1 => K (n + 1)
theorem forceN_eq (m : Nat) (K : Nat → Option β) : forceN m K = K m := by cases m <;> rfl
def forceI (n : Int) (K : Int → Option β) : Option β := match n with
  | .ofNat m => forceN m fun m => K (.ofNat m)
  | .negSucc m => forceN m fun m => K (.negSucc m)
theorem forceI_eq (m : Int) (K : Int → Option β) : forceI m K = K m := by cases m <;> simp [forceI, forceN_eq]
def forceB (b : Bool) (K : Bool → Option β) : Option β := match b with
  | true => K true
  | false => K false
theorem forceB_eq (m : Bool) (K : Bool → Option β) : forceB m K = K m := by cases m <;> rfl
def fvE (v : AV) (K : AV → Option β) : Option β := match v with
  | .bool b => forceB b fun b => K (.bool b)
  | .int k n => forceI n fun n => K (.int k n)
  | .ptr k o => forceN k fun k => forceN o fun o => K (.ptr k o)
  | .slice k o l c e => forceN k fun k => forceN o fun o => forceN l fun l => K (.slice k o l c e)
  | .dslice cs l c => forceN l fun l => K (.dslice cs l c)
  | v => K v
theorem fvE_eq (v : AV) (K : AV → Option β) : fvE v K = K v := by cases v <;> simp [fvE, forceN_eq, forceI_eq, forceB_eq]
end

/-! #### Operations -/
def binIE (op : BinOp) (a b : Int) : Option AV := match op with
  | .add => if (-9223372036854775808 ≤ a + b ∧ a + b ≤ 9223372036854775807) then some (.int .i64 (a + b)) else none
  | .sub => if (-9223372036854775808 ≤ a - b ∧ a - b ≤ 9223372036854775807) then some (.int .i64 (a - b)) else none
  | .mul => if (-9223372036854775808 ≤ a * b ∧ a * b ≤ 9223372036854775807) then some (.int .i64 (a * b)) else none
  | .quo => if (0 ≤ a ∧ a ≤ 9223372036854775807 ∧ 0 < b) then some (.int .i64 (a / b)) else none
  | .rem => if (0 ≤ a ∧ 0 < b) then some (.int .i64 (a % b)) else none
  | .lss => some (.bool (decide (a < b)))
  | .leq => some (.bool (decide (a ≤ b)))
  | .gtr => some (.bool (decide (b < a)))
  | .geq => some (.bool (decide (b ≤ a)))
  | .eql => some (.bool (decide (a = b)))
  | .neq => some (.bool (!decide (a = b)))
  | _ => none
theorem binIE_run {op : BinOp} {a b : Int} {v : AV} {K : AV → Prop} (h : binIE op a b = some v) (hk : K v) : binI op a b K := by
  unfold binIE at h; unfold binI
  cases op <;> simp only at h ⊢ <;> first
    | (cases h; done)
    | (split at h <;> first | (cases h; done) | (rename_i hp; cases h; exact ⟨hp, hk⟩))
    | (cases h; exact hk)
def binWE (op : BinOp) (k : IntKind) (a b : Int) : Option AV := match op with
  | .add => some (.int k (k.wrap (a + b)))
  | .sub => some (.int k (k.wrap (a - b)))
  | .mul => some (.int k (k.wrap (a * b)))
  | .quo => if b ≠ 0 then some (.int k (k.wrap (a.tdiv b))) else none
  | .rem => if b ≠ 0 then some (.int k (a.tmod b)) else none
  | .and => some (.int k (k.wrap (BitVec.ofInt k.bits a &&& BitVec.ofInt k.bits b).toNat))
  | .or => some (.int k (k.wrap (BitVec.ofInt k.bits a ||| BitVec.ofInt k.bits b).toNat))
  | .xor => some (.int k (k.wrap (BitVec.ofInt k.bits a ^^^ BitVec.ofInt k.bits b).toNat))
  | .andNot => some (.int k (k.wrap (BitVec.ofInt k.bits a &&& ~~~(BitVec.ofInt k.bits b)).toNat))
  | .lss => some (.bool (decide (a < b)))
  | .leq => some (.bool (decide (a ≤ b)))
  | .gtr => some (.bool (decide (b < a)))
  | .geq => some (.bool (decide (b ≤ a)))
  | .eql => some (.bool (decide (a = b)))
  | .neq => some (.bool (!decide (a = b)))
  | _ => none
theorem binWE_run {op : BinOp} {k : IntKind} {a b : Int} {v : AV} {K : AV → Prop} (h : binWE op k a b = some v) (hk : K v) : binW op k a b K := by
  unfold binWE at h; unfold binW
  cases op <;> simp only at h ⊢ <;> first
    | (cases h; done)
    | (split at h <;> first | (cases h; done) | (rename_i hp; cases h; exact ⟨hp, hk⟩))
    | (cases h; exact hk)

def mapE (f : AX → AV) : List AX → List AV
  | [] => []
  | x :: r => f x :: mapE f r
theorem mapE_eq (f : AX → AV) : ∀ l, mapE f l = l.map f
  | [] => rfl
  | _ :: r => by simp [mapE, mapE_eq f r]
def POp.e (ev : AX → AV) : POp → Option AV
  | .mov x => some (ev x)
  | .pick c a b => match ev c with
    | .bool t => match t with
      | true => some (ev a)
      | false => some (ev b)
    | _ => none
  | .bin op x y => match ev x, ev y with
    | .int .i64 a, .int .i64 b => binIE op a b
    | .str a, .str b => match op with
      | .eql => some (.bool (decide (a = b)))
      | .neq => some (.bool (!decide (a = b)))
      | _ => none
    | _, _ => none
  | .beq neg x y => match ev x, ev y with
    | .bool a, .bool b => some (.bool (if neg then !(a == b) else a == b))
    | _, _ => none
  | .binw op x y => match ev x, ev y with
    | .int k a, .int k' b => match op with
      | .shl => if 0 ≤ b then some (.int k (k.wrap (a * 2 ^ min b.toNat k.bits))) else none
      | .shr => if 0 ≤ b then some (.int k (a.fdiv (2 ^ min b.toNat k.bits))) else none
      | op => if k = k' then binWE op k a b else none
    | _, _ => none
  | .un op x => match op, ev x with
    | .not, .bool b => some (.bool (!b))
    | .neg, .int .i64 n => if (-9223372036854775807 ≤ n ∧ n ≤ 9223372036854775807) then some (.int .i64 (-n)) else none
    | .xor, .int k n => some (.int k (k.wrap (BitVec.ofInt k.bits (if k.signed then -1 else k.max) ^^^ BitVec.ofInt k.bits n).toNat))
    | _, _ => none
  | .conv k x => match ev x with
    | .int _ n => if (k.min ≤ n ∧ n ≤ k.max) then some (.int k n) else none
    | _ => none
  | .convw k x => match ev x with
    | .int _ n => some (.int k (k.wrap n))
    | _ => none
  | .fieldA off x => match ev x with
    | .dptr cs => some (.dptr (cs.drop off))
    | .ptr k o => some (.ptr k (o + off))
    | _ => none
  | .idxA e arr x i => match ev i with
    | .int _ i => match arr, ev x with
      | some n, .dptr cs => if (0 ≤ i ∧ i < n) then some (.dptr (cs.drop (i.toNat * e))) else none
      | some n, .ptr k o => if (0 ≤ i ∧ i < n) then some (.ptr k (o + i.toNat * e)) else none
      | none, .dslice cs n _ => if (0 ≤ i ∧ i < n) then some (.dptr (cs.drop (i.toNat * e))) else none
      | none, .slice k o n _ _ => if (0 ≤ i ∧ i < n) then some (.ptr k (o + i.toNat * e)) else none
      | _, _ => none
    | _ => none
  | .len str x => match str, ev x with
    | false, .dslice _ n _ => some (.int .i64 n)
    | false, .slice _ _ n _ _ => some (.int .i64 n)
    | false, .nils => some (.int .i64 0)
    | true, .str s => some (.int .i64 s.size)
    | _, _ => none
  | .extract i x => match ev x with
    | .tuple cs => cs[i]?
    | _ => none
  | .mkfn f caps => some (.func f (mapE ev caps))
  | .nilchk x => match ev x with
    | .ptr k o => some (.ptr k o)
    | .dptr cs => some (.dptr cs)
    | .func f cs => some (.func f cs)
    | _ => none
  | .mm mx x y => match ev x, ev y with
    | .int k a, .int _ b => some (.int k (if mx then (if b > a then b else a) else (if b < a then b else a)))
    | _, _ => none
  | .other => some .any
theorem POp.e_run {ev : AX → AV} {K : AV → Prop} {o : POp} {v : AV} (h : o.e ev = some v) (hk : K v) : o.run ev K := by
  cases o <;> simp only [POp.e, POp.run, fv_eq, fvs_eq] at h ⊢
  case mov x => cases h; exact hk
  case pick c a b =>
    generalize ev c = vc at h ⊢
    cases vc <;> simp only at h ⊢
    all_goals first | (cases h; done) | skip
    rename_i t
    cases t <;> simp only at h <;> cases h
    · exact Branch.ofF rfl hk
    · exact Branch.ofT rfl hk
  case bin op x y =>
    generalize ev x = vx at h ⊢
    generalize ev y = vy at h ⊢
    split at h
    · exact binIE_run h hk
    · cases op <;> simp only at h ⊢ <;> first | (cases h; exact hk) | cases h
    · cases h
  case beq neg x y =>
    generalize ev x = vx at h ⊢
    generalize ev y = vy at h ⊢
    split at h
    · cases h; exact hk
    · cases h
  case binw op x y =>
    generalize ev x = vx at h ⊢
    generalize ev y = vy at h ⊢
    split at h
    · cases op <;> simp only at h ⊢
      all_goals (split at h <;> first | (cases h; done) | skip)
      all_goals first | (refine ⟨‹_›, ?_⟩; exact binWE_run h hk) | (cases h; exact ⟨‹_›, hk⟩)
    · cases h
  case un op x =>
    generalize ev x = vx at h ⊢
    split at h
    · cases h; exact hk
    · split at h
      · cases h; exact ⟨‹_›, hk⟩
      · cases h
    · cases h; exact hk
    · cases h
  case conv k x =>
    generalize ev x = vx at h ⊢
    split at h
    · split at h
      · cases h; exact ⟨‹_›, hk⟩
      · cases h
    · cases h
  case convw k x =>
    generalize ev x = vx at h ⊢
    split at h
    · cases h; exact hk
    · cases h
  case fieldA off x =>
    generalize ev x = vx at h ⊢
    split at h
    · cases h; exact hk
    · cases h; exact hk
    · cases h
  case idxA e arr x i =>
    generalize ev x = vx at h ⊢
    generalize ev i = vi at h ⊢
    split at h
    · split at h
      · split at h
        · cases h; exact ⟨‹_›, hk⟩
        · cases h
      · split at h
        · cases h; exact ⟨‹_›, hk⟩
        · cases h
      · split at h
        · cases h; exact ⟨‹_›, hk⟩
        · cases h
      · split at h
        · cases h; exact ⟨‹_›, hk⟩
        · cases h
      · cases h
    · cases h
  case len str x =>
    generalize ev x = vx at h ⊢
    split at h <;> first | (cases h; exact hk) | cases h
  case extract i x =>
    generalize ev x = vx at h ⊢
    split at h
    · simp only [h]; exact hk
    · cases h
  case mkfn f caps => cases h; rw [mapE_eq] at hk; exact hk
  case nilchk x =>
    generalize ev x = vx at h ⊢
    split at h <;> first | (cases h; exact hk) | cases h
  case mm mx x y =>
    generalize ev x = vx at h ⊢
    generalize ev y = vy at h ⊢
    split at h <;> first | (cases h; exact hk) | cases h
  case other => cases h; exact hk

def takeE : Nat → List AV → Option (List AV)
  | 0, _ => some []
  | n + 1, c :: r => match takeE n r with
    | some l => some (c :: l)
    | none => none
  | _ + 1, [] => none
theorem takeE_run : ∀ {n : Nat} {cs l : List AV} {K : List AV → Prop}, takeE n cs = some l → K l → takeK n cs K
  | 0, _, _, _, h, hk => by simp only [takeE, Option.some.injEq] at h; subst h; exact hk
  | n + 1, c :: r, l, K, h, hk => by
    simp only [takeE] at h
    split at h
    · rename_i l' hl; cases h; simp only [takeK, fv_eq]; exact takeE_run hl hk
    · cases h
  | _ + 1, [], _, _, h, _ => by simp [takeE] at h
def loadE (agg : Bool) (n : Nat) (cs : List AV) : Option AV := match agg with
  | true => match takeE n cs with
    | some l => some (.agg l)
    | none => none
  | false => match cs with
    | c :: _ => some c
    | [] => none
theorem loadE_run {agg : Bool} {n : Nat} {cs : List AV} {v : AV} {K : AV → Prop} (h : loadE agg n cs = some v) (hk : K v) : loadK agg n cs K := by
  unfold loadE at h; unfold loadK
  cases agg with
  | true =>
    simp only at h ⊢
    split at h
    · rename_i l hl; cases h; exact takeE_run hl hk
    · cases h
  | false =>
    simp only at h ⊢
    split at h
    · cases h; simp only [fv_eq]; exact hk
    · cases h
def lputE : List AV → Nat → List AV → Option (List AV)
  | cs, 0, [] => some cs
  | _ :: cs, 0, v :: l => bif scal v then (match lputE cs 0 l with
    | some r => some (v :: r)
    | none => none) else none
  | c :: cs, off + 1, l => match lputE cs off l with
    | some r => some (c :: r)
    | none => none
  | [], 0, _ :: _ => none
  | [], _ + 1, _ => none
theorem lputE_run : ∀ {cs : List AV} {off : Nat} {l r : List AV} {K : List AV → Prop}, lputE cs off l = some r → K r → lputK cs off l K
  | [], 0, [], r, K, h, hk => by simp only [lputE, Option.some.injEq] at h; subst h; simpa [lputK] using hk
  | _ :: _, 0, [], r, K, h, hk => by simp only [lputE, Option.some.injEq] at h; subst h; simpa [lputK] using hk
  | _ :: cs, 0, v :: l, r, K, h, hk => by
    simp only [lputE] at h; simp only [lputK]
    cases hv : scal v <;> simp only [hv, cond_true, cond_false] at h ⊢
    · cases h
    · split at h
      · rename_i r' hr; cases h; exact lputE_run hr hk
      · cases h
  | c :: cs, off + 1, l, r, K, h, hk => by
    simp only [lputE] at h; simp only [lputK]
    split at h
    · rename_i r' hr; cases h; exact lputE_run hr hk
    · cases h
  | [], 0, _ :: _, _, _, h, _ => by simp [lputE] at h
  | [], _ + 1, _, _, _, h, _ => by simp [lputE] at h

def eqCellsE : List Sc → List AV → List AV → Option Bool
  | [], [], [] => some true
  | k :: ks, c :: cs, d :: ds => match eqOne k c d with
    | some q => match eqCellsE ks cs ds with
      | some r => some (q && r)
      | none => none
    | none => none
  | _, _, _ => none
theorem eqCellsE_run : ∀ {ks : List Sc} {cs ds : List AV} {r : Bool} {K : Bool → Prop}, eqCellsE ks cs ds = some r → K r → eqCells ks cs ds K
  | [], [], [], r, K, h, hk => by simp only [eqCellsE, Option.some.injEq] at h; subst h; exact hk
  | k :: ks, c :: cs, d :: ds, r, K, h, hk => by
    simp only [eqCellsE] at h; simp only [eqCells]
    split at h
    · rename_i q hq
      split at h
      · rename_i r' hr; cases h; rw [hq]; exact eqCellsE_run hr hk
      · cases h
    · cases h
  | [], [], _ :: _, _, _, h, _ => by simp [eqCellsE] at h
  | [], _ :: _, _, _, _, h, _ => by simp [eqCellsE] at h
  | _ :: _, [], _, _, _, h, _ => by simp [eqCellsE] at h
  | _ :: _, _ :: _, [], _, _, h, _ => by simp [eqCellsE] at h
def buildE (ev : AX → AV) : List (Nat × Nat × AX) → List AV → Option (List AV)
  | [], cs => some cs
  | (off, sz, x) :: r, cs => match cellsOf (ev x) with
    | some l => bif Nat.beq l.length sz then (match lputE cs off l with
      | some cs => buildE ev r cs
      | none => none) else none
    | none => none
theorem buildE_run {ev : AX → AV} : ∀ {ps : List (Nat × Nat × AX)} {cs r : List AV} {K : List AV → Prop}, buildE ev ps cs = some r → K r → buildK ev ps cs K
  | [], _, _, _, h, hk => by simp only [buildE, Option.some.injEq] at h; subst h; exact hk
  | (off, sz, x) :: ps, cs, r, K, h, hk => by
    simp only [buildE] at h; simp only [buildK]
    split at h
    · rename_i l hl
      cases hb : Nat.beq l.length sz <;> simp only [hb, cond_true, cond_false] at h
      · cases h
      · split at h
        · rename_i cs' hcs; simp only [hl, hb, cond_true]; exact lputE_run hcs (buildE_run h hk)
        · cases h
    · cases h
def optE (ev : AX → AV) (d : Int) (x : Option AX) : Option Int := match x with
  | none => some d
  | some x => match ev x with
    | .int _ i => some i
    | _ => none
theorem optE_run {ev : AX → AV} {d i : Int} {x : Option AX} {K : Int → Prop} (h : optE ev d x = some i) (hk : K i) : optI ev d x K := by
  unfold optE at h; unfold optI
  split at h
  · cases h; exact hk
  · split at h
    · rename_i hx; cases h; simp only [hx]; exact hk
    · cases h

def VOp.e (ev : AX → AV) : VOp → Option AV
  | .field agg off n x => match ev x with
    | .agg cs => loadE agg n (cs.drop off)
    | _ => none
  | .idx agg e len x i => match ev x, ev i with
    | .agg cs, .int _ i => if (0 ≤ i ∧ i < len) then loadE agg e (cs.drop (i.toNat * e)) else none
    | _, _ => none
  | .sidx x i => match ev x, ev i with
    | .str s, .int _ i => if (0 ≤ i ∧ i < s.size) then some (.int .u8 ((s.data.getD i.toNat 0).toNat : Nat)) else none
    | _, _ => none
  | .build zero parts => match buildE ev parts zero with
    | some cs => some (.agg cs)
    | none => none
  | .eqa neg ks x y => match ev x, ev y with
    | .agg cs, .agg ds => match eqCellsE ks cs ds with
      | some r => some (.bool (if neg then !r else r))
      | none => none
    | _, _ => none
  | .isnil p neg x y => match p, ev x, ev y with
    | false, .nils, .nils => some (.bool (!neg))
    | false, .slice _ _ _ _ _, .nils => some (.bool neg)
    | true, .nilp, .nilp => some (.bool (!neg))
    | true, .ptr _ _, .nilp => some (.bool neg)
    | true, .dptr _, .nilp => some (.bool neg)
    | _, _, _ => none
  | .sub e x lo hi mx => match ev x with
    | .dslice cs len cap => match optE ev 0 lo, optE ev len hi with
      | some l, some h => match mx with
        | none => if (0 ≤ l ∧ l ≤ h ∧ h ≤ len) then some (.dslice ((cs.drop (l.toNat * e)).take ((h - l).toNat * e)) (h - l).toNat (cap.map (· - l.toNat))) else none
        | some mx => match ev mx with
          | .int _ m => if (0 ≤ l ∧ l ≤ h ∧ h ≤ m ∧ m ≤ len) then some (.dslice ((cs.drop (l.toNat * e)).take ((h - l).toNat * e)) (h - l).toNat (some (m - l).toNat)) else none
          | _ => none
      | _, _ => none
    | .nils => match optE ev 0 lo, optE ev 0 hi with
      | some l, some h => match mx with
        | none => if (l = 0 ∧ h = 0) then some .nils else none
        | some _ => none
      | _, _ => none
    | .slice k off len cap e' => match optE ev 0 lo, optE ev len hi with
      | some l, some h => match mx with
        | none => if e = e' then (if (0 ≤ l ∧ l < h ∧ h ≤ len) then some (.slice k (off + l.toNat * e) (h - l).toNat (cap.map (· - l.toNat)) e) else if (0 ≤ l ∧ l = h ∧ h ≤ len) then some (.dslice [] 0 none) else none) else none
        | some _ => none
      | _, _ => none
    | _ => none
  | .ssub x lo hi => match ev x with
    | .str s => match optE ev 0 lo, optE ev s.size hi with
      | some l, some h => if (0 ≤ l ∧ l ≤ h ∧ h ≤ s.size) then some (.str (s.extract l.toNat h.toNat)) else none
      | _, _ => none
    | _ => none
theorem VOp.e_run {ev : AX → AV} {K : AV → Prop} {o : VOp} {v : AV} (h : o.e ev = some v) (hk : K v) : o.run ev K := by
  cases o <;> simp only [VOp.e, VOp.run] at h ⊢
  case field agg off n x =>
    generalize hevx : ev x = vx at h ⊢
    split at h
    · exact loadE_run h hk
    · cases h
  case idx agg e len x i =>
    generalize hevx : ev x = vx at h ⊢
    generalize hevi : ev i = vi at h ⊢
    split at h
    · split at h
      · exact ⟨‹_›, loadE_run h hk⟩
      · cases h
    · cases h
  case sidx x i =>
    generalize hevx : ev x = vx at h ⊢
    generalize hevi : ev i = vi at h ⊢
    split at h
    · split at h
      · cases h; exact ⟨‹_›, hk⟩
      · cases h
    · cases h
  case build zero parts =>
    split at h
    · rename_i cs hcs; cases h; exact buildE_run hcs hk
    · cases h
  case eqa neg ks x y =>
    generalize hevx : ev x = vx at h ⊢
    generalize hevy : ev y = vy at h ⊢
    split at h
    · split at h
      · rename_i r hr; cases h; exact eqCellsE_run hr hk
      · cases h
    · cases h
  case isnil p neg x y =>
    generalize hevx : ev x = vx at h ⊢
    generalize hevy : ev y = vy at h ⊢
    split at h <;> first | (cases h; exact hk) | cases h
  case sub e x lo hi mx =>
    generalize hevx : ev x = vx at h ⊢
    split at h
    · split at h
      · rename_i l hh h1 h2
        refine optE_run h1 (optE_run h2 ?_)
        split at h
        · split at h
          · cases h; exact ⟨‹_›, hk⟩
          · cases h
        · split at h
          · rename_i hm
            split at h
            · cases h; simp only [hm]; exact ⟨‹_›, hk⟩
            · cases h
          · cases h
      · cases h
    · split at h
      · rename_i l hh h1 h2
        refine optE_run h1 (optE_run h2 ?_)
        split at h
        · split at h
          · cases h; exact ⟨‹_›, hk⟩
          · cases h
        · cases h
      · cases h
    · split at h
      · rename_i l hh h1 h2
        refine optE_run h1 (optE_run h2 ?_)
        split at h
        · split at h
          · rename_i he
            refine ⟨he, ?_⟩
            split at h
            · cases h; exact .inl ⟨‹_›, hk⟩
            · split at h
              · cases h; exact .inr ⟨‹_›, hk⟩
              · cases h
          · cases h
        · cases h
      · cases h
    · cases h
  case ssub x lo hi =>
    generalize hevx : ev x = vx at h ⊢
    split at h
    · split at h
      · rename_i l hh h1 h2
        refine optE_run h1 (optE_run h2 ?_)
        split at h
        · cases h; exact ⟨‹_›, hk⟩
        · cases h
      · cases h
    · cases h
end Go.Eng

namespace Go.Eng
open Go

/-! #### The heap and the frame of a run -/
structure EH where
  nx : Nat
  bs : BT AB
def EH.get (T : EH) (k : Nat) : AB := match T.bs.get k with
  | some b => b
  | none => .dead
def EH.nil : EH := ⟨0, .nil⟩
def EH.put (T : EH) (k : Nat) (b : AB) : Option EH := match BT.set b 40 T.bs k with
  | some bs => some ⟨T.nx, bs⟩
  | none => none
def EH.push (T : EH) (b : AB) : Option EH := match BT.set b 40 T.bs T.nx with
  | some bs => forceN (T.nx + 1) fun n => some ⟨n, bs⟩
  | none => none
structure RepH (T : EH) (H : Heap) : Prop where
  nx : H.nx = T.nx
  get : H.get = T.get
theorem RepH.nil : RepH EH.nil Heap.nil := ⟨rfl, rfl⟩
theorem RepH.put {T T' : EH} {H : Heap} {k : Nat} {b : AB} (h : T.put k b = some T') (R : RepH T H) : RepH T' (H.set k b) := by
  unfold EH.put at h
  split at h
  · rename_i bs hb
    cases h
    refine ⟨R.nx, funext fun j => ?_⟩
    rw [Heap.get_set, R.get]
    simp only [EH.get, BT.get_set b hb j]
    by_cases e : k = j <;> simp [e]
  · cases h
theorem RepH.push {T T' : EH} {H : Heap} {b : AB} (h : T.push b = some T') (R : RepH T H) : RepH T' (H.push b) := by
  unfold EH.push at h
  split at h
  · rename_i bs hb
    rw [forceN_eq] at h; cases h
    refine ⟨by simp [Heap.push, R.nx], funext fun j => ?_⟩
    rw [Heap.get_push, R.get, R.nx]
    simp only [EH.get, BT.get_set b hb j]
    by_cases e : T.nx = j <;> simp [e]
  · cases h
structure RepF (F : BT AV) (fr : Fr) : Prop where
  get : ∀ t, look fr t = (F.get t).getD .any
def AX.eF (F : BT AV) : AX → AV
  | .t n => match F.get n with
    | some v => v
    | none => .any
  | .c v => v
theorem RepF.ev {F : BT AV} {fr : Fr} (R : RepF F fr) : AX.ev fr = AX.eF F := by
  funext x
  cases x with
  | t n => simp only [AX.ev, AX.eF, R.get]; cases F.get n <;> rfl
  | c v => rfl
def putE (F : BT AV) (d : Option Nat) (v : AV) : Option (BT AV) := match d with
  | none => some F
  | some t => fvE v fun v => BT.set v 24 F t
theorem RepF.put {F F' : BT AV} {fr : Fr} {d : Option Nat} {v : AV} (h : putE F d v = some F') (R : RepF F fr) : RepF F' (put fr d v) := by
  cases d with
  | none => simp only [putE, Option.some.injEq] at h; subst h; exact R
  | some t =>
    simp only [putE, fvE_eq] at h
    refine ⟨fun u => ?_⟩
    rw [BT.get_set v h u]
    simp only [Eng.put, look]
    by_cases e : t = u
    · subst e; simp
    · rw [beq_false e, if_neg e]; exact R.get u
theorem RepF.know {F : BT AV} {fr : Fr} {s : Nat} {b : Bool} (R : RepF F fr) (h : look fr s = .bool b) : RepF F ((s, .bool b) :: fr) :=
  ⟨fun u => by
    simp only [look]
    by_cases e : s = u
    · subst e; rw [← R.get, h]; simp
    · rw [beq_false e]; exact R.get u⟩

/-! #### Operations on the heap -/
def HOp.e (ev : AX → AV) (T : EH) : HOp → Option (AV × EH)
  | .load agg n x => match ev x with
    | .dptr cs => match loadE agg n cs with
      | some v => some (v, T)
      | none => none
    | .ptr k off => match T.get k with
      | .cells cs => match loadE agg n (cs.drop off) with
        | some v => some (v, T)
        | none => none
      | _ => none
    | _ => none
  | .alloc zero => match T.push (.cells zero) with
    | some T' => some (.ptr T.nx 0, T')
    | none => none
  | .box x => match cellsOf (ev x) with
    | some l => match T.push (.cells l) with
      | some T' => some (.ptr T.nx 0, T')
      | none => none
    | none => none
  | .store n p x => match ev p with
    | .ptr k off => match T.get k with
      | .cells cs => match cellsOf (ev x) with
        | some l => bif Nat.beq l.length n then (match lputE cs off l with
          | some cs' => match T.put k (.cells cs') with
            | some T' => some (.any, T')
            | none => none
          | none => none) else none
        | none => none
      | _ => none
    | _ => none
theorem HOp.e_run {ev : AX → AV} {T T' : EH} {H : Heap} {o : HOp} {v : AV} (h : o.e ev T = some (v, T')) (R : RepH T H) : ∃ H', RepH T' H' ∧ ∀ K : AV → Heap → Prop, K v H' → o.run ev H K := by
  cases o <;> simp only [HOp.e, HOp.run, R.get] at h ⊢
  case load agg n x =>
    generalize ev x = vx at h ⊢
    split at h
    · split at h
      · rename_i u hu; cases h; exact ⟨H, R, fun K hk => loadE_run hu hk⟩
      · cases h
    · split at h
      · rename_i cs hcs
        split at h
        · rename_i u hu; cases h; refine ⟨H, R, fun K hk => ?_⟩
          simp only [hcs]; exact loadE_run hu hk
        · cases h
      · cases h
    · cases h
  case alloc zero =>
    split at h
    · rename_i T2 hT; cases h
      exact ⟨_, R.push hT, fun K hk => by rw [R.nx]; exact hk⟩
    · cases h
  case box x =>
    split at h
    · rename_i l hl
      split at h
      · rename_i T2 hT; cases h
        exact ⟨_, R.push hT, fun K hk => by simp only [hl]; rw [R.nx]; exact hk⟩
      · cases h
    · cases h
  case store n p x =>
    generalize ev p = vp at h ⊢
    split at h
    · split at h
      · rename_i cs hcs
        split at h
        · rename_i l hl
          cases hb : Nat.beq l.length n <;> simp only [hb, cond_true, cond_false] at h
          · cases h
          · split at h
            · rename_i cs' hp
              split at h
              · rename_i T2 hT; cases h
                exact ⟨_, R.put hT, fun K hk => by simp only [hcs, hl, hb, cond_true]; exact lputE_run hp hk⟩
              · cases h
            · cases h
        · cases h
      · cases h
    · cases h

def srcE (η : Nat → AB) (e : Nat) (x : AV) : Option (List AV × Nat) := match x with
  | .dslice cs n _ => if n * e ≤ cs.length then some (cs.take (n * e), n) else none
  | .nils => some ([], 0)
  | .slice k off n _ _ => match η k with
    | .cells cs => if off + n * e ≤ cs.length then some ((cs.drop off).take (n * e), n) else none
    | _ => none
  | _ => none
theorem srcE_run {η : Nat → AB} {e n : Nat} {x : AV} {l : List AV} {K : List AV → Nat → Prop} (h : srcE η e x = some (l, n)) (hk : K l n) : srcK η e x K := by
  unfold srcE at h; unfold srcK
  split at h
  · split at h
    · cases h; exact ⟨‹_›, hk⟩
    · cases h
  · cases h; exact hk
  · split at h
    · split at h
      · rename_i hcs _; cases h; simp only [hcs]; exact ⟨‹_›, hk⟩
      · cases h
    · cases h
  · cases h
instance (n bytes : Nat) : Decidable (fits n bytes) := by unfold fits; infer_instance
theorem all_scal {l : List AV} (h : l.all scal = true) : ∀ c ∈ l, scal c = true := by simpa using h
def DOp.e (ev : AX → AV) (η : Nat → AB) : DOp → Option AV
  | .bslice e len zero parts => match buildE ev (parts.map fun x => (x.1, e, x.2)) (rep zero len) with
    | some cs => bif noLocB cs then some (.dslice cs len (some len)) else none
    | none => none
  | .append e bytes s x => match ev s, ev x with
    | .dslice cs len cap, .dslice ds n _ => if cap = some len ∧ len * e ≤ cs.length ∧ n * e ≤ ds.length ∧ fits (len + n) bytes ∧ (ds.take (n * e)).all scal = true then some (.dslice (cs.take (len * e) ++ ds.take (n * e)) (len + n) none) else none
    | .dslice cs len cap, .nils => if cap = some len then some (.dslice cs len none) else none
    | .nils, .dslice ds n _ => if n * e ≤ ds.length ∧ fits n bytes ∧ (ds.take (n * e)).all scal = true then some (.dslice (ds.take (n * e)) n none) else none
    | _, _ => none
  | .asub e n x lo hi => match ev x with
    | .ptr k off => match η k with
      | .cells cs => match optE ev 0 lo, optE ev n hi with
        | some l, some h => if 0 ≤ l ∧ l < n ∧ l ≤ h ∧ h ≤ n ∧ off + n * e ≤ cs.length then some (.slice k (off + l.toNat * e) (h - l).toNat (some (n - l.toNat)) e) else none
        | _, _ => none
      | _ => none
    | .dptr cs => match optE ev 0 lo, optE ev n hi with
      | some l, some h => if 0 ≤ l ∧ l ≤ h ∧ h ≤ n then some (.dslice ((cs.drop (l.toNat * e)).take ((h - l).toNat * e)) (h - l).toNat (some (n - l.toNat))) else none
      | _, _ => none
    | _ => none
theorem DOp.e_run {ev : AX → AV} {η : Nat → AB} {o : DOp} {v : AV} {K : AV → Prop} (h : o.e ev η = some v) (hk : K v) : o.run ev η K := by
  cases o <;> simp only [DOp.e, DOp.run] at h ⊢
  case bslice e len zero parts =>
    split at h
    · rename_i cs hcs
      cases hb : noLocB cs <;> simp only [hb, cond_true, cond_false] at h
      · cases h
      · cases h; exact buildE_run hcs (by simp only [hb, cond_true]; exact hk)
    · cases h
  case append e bytes s x =>
    generalize ev s = vs at h ⊢
    generalize ev x = vx at h ⊢
    split at h
    · split at h
      · rename_i hp; cases h; exact ⟨⟨hp.1, hp.2.1, hp.2.2.1, hp.2.2.2.1, all_scal hp.2.2.2.2⟩, hk⟩
      · cases h
    · split at h
      · cases h; exact ⟨‹_›, hk⟩
      · cases h
    · split at h
      · rename_i hp; cases h; exact ⟨⟨hp.1, hp.2.1, all_scal hp.2.2⟩, hk⟩
      · cases h
    · cases h
  case asub e n x lo hi =>
    generalize hev : ev x = vx at h ⊢
    split at h
    · split at h
      · rename_i cs hcs
        split at h
        · rename_i l hh h1 h2
          split at h
          · cases h; simp only [hcs]; exact optE_run h1 (optE_run h2 ⟨‹_›, hk⟩)
          · cases h
        · cases h
      · cases h
    · split at h
      · rename_i l hh h1 h2
        split at h
        · cases h; exact optE_run h1 (optE_run h2 ⟨‹_›, hk⟩)
        · cases h
      · cases h
    · cases h

def LOp.e (ev : AX → AV) (cur : Nat → AB) (p : Nat) : LOp → Option (AV × AB × Option Nat)
  | .bslice e len zero parts => match buildE ev (parts.map fun x => (x.1, e, x.2)) (rep zero len) with
    | some cs => some (.slice p 0 len (some len) e, .cells cs, none)
    | none => none
  | .append e bytes s x => match srcE cur e (ev x) with
    | some (ds, n) => match ev s with
      | .slice k off len _ e' => match cur k with
        | .cells cs => if e' = e ∧ off = 0 ∧ cs.length = len * e ∧ fits (len + n) bytes ∧ ds.all scal = true then some (.slice p 0 (len + n) none e, .cells (cs ++ ds), some k) else none
        | _ => none
      | .dslice cs len cap => bif Nat.beq n 0 then some (.dslice cs len cap, .dead, none) else if cap = some len ∧ len * e ≤ cs.length ∧ fits (len + n) bytes ∧ ds.all scal = true then some (.slice p 0 (len + n) none e, .cells (cs.take (len * e) ++ ds), none) else none
      | .nils => bif Nat.beq n 0 then some (.nils, .dead, none) else if fits n bytes ∧ ds.all scal = true then some (.slice p 0 n none e, .cells ds, none) else none
      | _ => none
    | none => none
theorem LOp.e_run {ev : AX → AV} {cur : Nat → AB} {p : Nat} {o : LOp} {v : AV} {ab : AB} {kl : Option Nat} {K : AV → AB → Option Nat → Prop} (h : o.e ev cur p = some (v, ab, kl)) (hk : K v ab kl) : o.run ev cur cur p K := by
  cases o <;> simp only [LOp.e, LOp.run] at h ⊢
  case bslice e len zero parts =>
    split at h
    · rename_i cs hcs; cases h; exact buildE_run hcs hk
    · cases h
  case append e bytes s x =>
    split at h
    · rename_i ds n hsrc
      generalize ev s = vs at h ⊢
      unfold appN
      split at h
      · split at h
        · rename_i cs hcs
          split at h
          · rename_i hp; cases h
            simp only [appK, hcs]
            exact srcE_run hsrc ⟨⟨hp.1, hp.2.1, hp.2.2.1, hp.2.2.2.1, all_scal hp.2.2.2.2⟩, hk⟩
          · cases h
        · cases h
      · cases hb : Nat.beq n 0 <;> simp only [hb, cond_true, cond_false] at h
        · split at h
          · rename_i hp; cases h
            exact srcE_run hsrc (Branch.ofF (decide_eq_false (fun e => by subst e; cases hb)) ⟨⟨hp.1, hp.2.1, hp.2.2.1, all_scal hp.2.2.2⟩, hk⟩)
          · cases h
        · cases h
          exact srcE_run hsrc (Branch.ofT (decide_eq_true (Nat.eq_of_beq_eq_true hb)) hk)
      · cases hb : Nat.beq n 0 <;> simp only [hb, cond_true, cond_false] at h
        · split at h
          · rename_i hp; cases h
            exact srcE_run hsrc (Branch.ofF (decide_eq_false (fun e => by subst e; cases hb)) ⟨⟨hp.1, all_scal hp.2⟩, hk⟩)
          · cases h
        · cases h
          exact srcE_run hsrc (Branch.ofT (decide_eq_true (Nat.eq_of_beq_eq_true hb)) hk)
      · cases h
    · cases h
end Go.Eng

namespace Go.Eng
open Go

/-! #### Calls, guards, regions, code -/
abbrev CallE := FuncId → List AV → EH → Option (AV × EH)
structure CallOK (P : Program) (call : CallE) : Prop where
  ok : ∀ f vs T r T', call f vs T = some (r, T') → ∀ H, RepH T H → ∃ H', RepH T' H' ∧ ∀ K : AV → Heap → Prop, K r H' → CallA P f vs H K
def callD (call : CallE) (f : FuncId) (vs : List AV) : Option AV := match call f vs EH.nil with
  | some (r, T) => match pubE T.get 8 r with
    | some r' => bif noLocL vs && noLoc r' then some r' else none
    | none => none
  | none => none
theorem callD_run {P : Program} {call : CallE} (hc : CallOK P call) {f : FuncId} {vs : List AV} {r : AV} (h : callD call f vs = some r) {K : AV → Prop} (hk : K r) : QCallA P f vs K := by
  unfold callD at h
  split at h
  · rename_i r' T' hcall
    split at h
    · rename_i r2 hp
      cases hb : (noLocL vs && noLoc r2) <;> simp only [hb, cond_true, cond_false] at h
      · cases h
      · cases h
        simp only [Bool.and_eq_true] at hb
        obtain ⟨H', R', hK⟩ := hc.ok _ _ _ _ _ hcall _ RepH.nil
        refine QCallA.of (CallA.out 8 (hK (fun v H => v = r' ∧ H = H') ⟨rfl, rfl⟩) ?_) hb.1 hb.2 hk
        rintro v H ⟨rfl, rfl⟩
        exact ⟨_, by rw [R'.get]; exact hp, rfl, rfl⟩
    · cases h
  · cases h

section
variable (call : CallE)
def AOp.e (F : BT AV) (T : EH) : AOp → Option (AV × EH)
  | .p o => match o.e (AX.eF F) with
    | some u => some (u, T)
    | none => none
  | .v o => match o.e (AX.eF F) with
    | some u => some (u, T)
    | none => none
  | .h o => o.e (AX.eF F) T
  | .d o => match o.e (AX.eF F) T.get with
    | some u => some (u, T)
    | none => none
  | .l o => match o.e (AX.eF F) T.get T.nx with
    | some (u, ab, kl) => forceN (T.nx + 1) fun n => match kl with
      | none => match EH.put ⟨n, T.bs⟩ T.nx ab with
        | some T' => some (u, T')
        | none => none
      | some k => match EH.put ⟨n, T.bs⟩ k .dead with
        | some T1 => match T1.put T.nx ab with
          | some T' => some (u, T')
          | none => none
        | none => none
    | none => none
  | .call f args => call f (mapE (AX.eF F) args) T
  | .callv x args => match x.eF F with
    | .func f caps => call f (mapE (AX.eF F) args ++ caps) T
    | _ => none
def AO.e (o : AO) (F : BT AV) (T : EH) : Option (BT AV × EH) := match o.guard with
  | none => match o.op.e call F T with
    | some (v, T') => match putE F o.dst v with
      | some F' => some (F', T')
      | none => none
    | none => none
  | some (s, want) => match AX.eF F (.t s) with
    | .bool b => bif b == want then (match o.op.e call F T with
      | some (v, T') => match putE F o.dst v with
        | some F' => some (F', T')
        | none => none
      | none => none) else (match putE F o.dst (.tuple []) with
      | some F' => some (F', T)
      | none => none)
    | .tuple [] => match putE F o.dst (.tuple []) with
      | some F' => some (F', T)
      | none => none
    | _ => none
def opsE : List AO → BT AV → EH → Option (BT AV × EH)
  | [], F, T => some (F, T)
  | o :: r, F, T => match o.e call F T with
    | some (F', T') => opsE r F' T'
    | none => none

def HOp.qe (ev : AX → AV) (η : Nat → AB) (p : Nat) : HOp → Option (AV × Ef)
  | .load agg n x => match ev x with
    | .dptr cs => match loadE agg n cs with
      | some v => some (v, [])
      | none => none
    | .ptr k off => match η k with
      | .cells cs => match loadE agg n (cs.drop off) with
        | some v => some (v, [])
        | none => none
      | _ => none
    | _ => none
  | .alloc zero => some (.ptr p 0, [(p, .cells zero)])
  | .box x => match cellsOf (ev x) with
    | some cs => some (.ptr p 0, [(p, .cells cs)])
    | none => none
  | .store n q x => match ev q with
    | .ptr k off => match η k with
      | .cells cs => match cellsOf (ev x) with
        | some vs => bif Nat.beq vs.length n then (match lputE cs off vs with
          | some cs' => some (.any, [(k, .cells cs')])
          | none => none) else none
        | none => none
      | _ => none
    | _ => none
def AOp.qe (ev : AX → AV) (η : Nat → AB) (p : Nat) : AOp → Option (AV × Ef)
  | .p o => match o.e ev with
    | some u => some (u, [])
    | none => none
  | .v o => match o.e ev with
    | some u => some (u, [])
    | none => none
  | .h o => o.qe ev η p
  | .d o => match o.e ev η with
    | some u => some (u, [])
    | none => none
  | .l o => match o.e ev η p with
    | some (u, cs, kl) => some (u, efL p cs kl)
    | none => none
  | .call f args => match callD call f (mapE ev args) with
    | some r => some (r, [])
    | none => none
  | .callv x args => match ev x with
    | .func f caps => match callD call f (mapE ev args ++ caps) with
      | some r => some (r, [])
      | none => none
    | _ => none
def layE (T : EH) : Ef → Option EH
  | [] => some T
  | (k, x) :: r => match T.put k x with
    | some T' => layE T' r
    | none => none
def logE (dep : List (Nat × Nat)) (i : Nat) (F W : List Nat) (L : List En) : Option (List En) := match F, W with
  | [], [] => some L
  | F, W => bif okLog dep ⟨i, F, W⟩ L then some (⟨i, F, W⟩ :: L) else none
def qwalkE (dep : List (Nat × Nat)) : List AO → Nat → Nat → List En → BT AV → EH → Option (BT AV × EH)
  | [], _, _, _, F, T => some (F, T)
  | q :: r, i, p, L, F, T => match (match q.guard with
      | none => some true
      | some (s, want) => match AX.eF F (.t s) with
        | .bool b => some (b == want)
        | .tuple [] => some false
        | _ => none) with
    | some true => match q.op.qe call (AX.eF F) T.get p with
      | some (v, b) => match logE dep i (q.op.foot (AX.eF F)) (keys b) L with
        | some L' => match putE F q.dst v with
          | some F' => match layE T b with
            | some T' => forceN (i + 1) fun i' => forceN (p + 1) fun p' => qwalkE dep r i' p' L' F' T'
            | none => none
          | none => none
        | none => none
      | none => none
    | some false => match putE F q.dst (.tuple []) with
      | some F' => forceN (i + 1) fun i' => forceN (p + 1) fun p' => qwalkE dep r i' p' L F' T
      | none => none
    | none => none

def loopE (step : BT AV → EH → Option (XA × BT AV × EH)) : Nat → BT AV → EH → Option (XA × BT AV × EH)
  | 0, _, _ => none
  | k + 1, F, T => match step F T with
    | some (.normal, F', T') => loopE step k F' T'
    | r => r
def AC.e (lf : Nat) : AC → BT AV → EH → Option (XA × BT AV × EH)
  | .skip, F, T => some (.normal, F, T)
  | .ret, F, T => some (.ret, F, T)
  | .exit id, F, T => some (.exit id, F, T)
  | .reg ops, F, T => match opsE call ops F T with
    | some (F', T') => some (.normal, F', T')
    | none => none
  | .draw m dep ops, F, T => forceN (T.nx + m) fun n => match qwalkE call dep (ops.take m) 0 T.nx [] F ⟨n, T.bs⟩ with
    | some (F', T') => match opsE call (ops.drop m) F' T' with
      | some (F'', T'') => some (.normal, F'', T'')
      | none => none
    | none => none
  | .seq a b, F, T => match a.e lf F T with
    | some (.normal, F', T') => b.e lf F' T'
    | r => r
  | .cond c a b, F, T => match c.eF F with
    | .bool t => match t with
      | true => a.e lf F T
      | false => b.e lf F T
    | _ => none
  | .block id a, F, T => match a.e lf F T with
    | some (.exit j, F', T') => bif Nat.beq j id then some (.normal, F', T') else some (.exit j, F', T')
    | r => r
  | .loop a, F, T => loopE (fun F T => a.e lf F T) lf F T
  | .ghost a, F, T => a.e lf F T
def resE (F : BT AV) (T : EH) : List AR → Option (List AV)
  | [] => some []
  | .tmp t :: r => match resE F T r with
    | some vs => some (AX.eF F (.t t) :: vs)
    | none => none
  | .cell t agg n :: r => match AX.eF F (.t t) with
    | .ptr k off => match T.get k with
      | .cells cs => match loadE agg n (cs.drop off) with
        | some v => match resE F T r with
          | some vs => some (v :: vs)
          | none => none
        | none => none
      | _ => none
    | _ => none
def frameE : Nat → List AV → Option (BT AV)
  | _, [] => some .nil
  | i, v :: r => match frameE (i + 1) r with
    | some F => putE F (some i) v
    | none => none
end

/-- A function's text, by number. -/
structure FE where
  f : FuncId
  N : Nat
  ac : AC
  rs : List AR
def findE : List FE → FuncId → Option FE
  | [], _ => none
  | e :: r, f => bif Nat.beq e.f f then some e else findE r f
def runE (tbl : List FE) (lf : Nat) : Nat → CallE
  | 0, _, _, _ => none
  | n + 1, f, vs, T => match findE tbl f with
    | some e => bif Nat.ble vs.length e.N then (match frameE 0 vs with
      | some F => match e.ac.e (runE tbl lf n) lf F T with
        | some (.exit _, _, _) => none
        | some (_, F', T') => match resE F' T' e.rs with
          | some rs => some (one rs, T')
          | none => none
        | none => none
      | none => none) else none
    | none => none

/-! #### Soundness -/
section
variable {P : Program} {call : CallE}
theorem AOp.e_run (hc : CallOK P call) {F : BT AV} {fr : Fr} {T T' : EH} {H : Heap} {o : AOp} {v : AV} (h : o.e call F T = some (v, T')) (RF : RepF F fr) (R : RepH T H) : ∃ H', RepH T' H' ∧ ∀ K : AV → Heap → Prop, K v H' → o.run P fr H K := by
  cases o <;> simp only [AOp.e, AOp.run, RF.ev, fvs_eq, mapE_eq] at h ⊢
  case p o =>
    split at h
    · rename_i u hu; cases h; exact ⟨H, R, fun K hk => o.e_run hu hk⟩
    · cases h
  case v o =>
    split at h
    · rename_i u hu; cases h; exact ⟨H, R, fun K hk => o.e_run hu hk⟩
    · cases h
  case h o => exact HOp.e_run h R
  case d o =>
    split at h
    · rename_i u hu; cases h; exact ⟨H, R, fun K hk => by rw [R.get]; exact o.e_run hu hk⟩
    · cases h
  case l o =>
    split at h
    · rename_i u ab kl hu
      rw [forceN_eq] at h
      have R1 : RepH ⟨T.nx + 1, T.bs⟩ ⟨H.nx + 1, H.bs⟩ := ⟨by simp [R.nx], R.get⟩
      split at h
      · split at h
        · rename_i T2 hp; cases h
          refine ⟨_, R1.put hp, fun K hk => ?_⟩
          rw [R.get, R.nx]
          refine LOp.e_run hu ?_
          rw [← R.nx] at hk ⊢; exact hk
        · cases h
      · split at h
        · rename_i T1 h1
          split at h
          · rename_i T2 h2; cases h
            refine ⟨_, (R1.put h1).put h2, fun K hk => ?_⟩
            rw [R.get, R.nx]
            refine LOp.e_run hu ?_
            rw [← R.nx] at hk ⊢; exact hk
          · cases h
        · cases h
    · cases h
  case call f args =>
    obtain ⟨H', R', hK⟩ := hc.ok _ _ _ _ _ h H R
    exact ⟨H', R', hK⟩
  case callv x args =>
    rw [← RF.ev] at h
    rw [← RF.ev]
    generalize AX.ev fr x = vx at h ⊢
    split at h
    · obtain ⟨H', R', hK⟩ := hc.ok _ _ _ _ _ h H R
      exact ⟨H', R', hK⟩
    · cases h
theorem AX.eF_look {F : BT AV} {fr : Fr} (RF : RepF F fr) (s : Nat) : AX.eF F (.t s) = look fr s := by
  have := congrFun RF.ev (.t s); exact this.symm
theorem AO.e_run (hc : CallOK P call) {F F' : BT AV} {fr : Fr} {T T' : EH} {H : Heap} {o : AO} (h : o.e call F T = some (F', T')) (RF : RepF F fr) (R : RepH T H) :
    ∃ fr' H', RepF F' fr' ∧ RepH T' H' ∧ ∀ K : Fr → Heap → Prop, K fr' H' → o.run P fr H K := by
  unfold AO.e at h; unfold AO.run
  split at h
  · rename_i hg
    split at h
    · rename_i v T1 hv
      split at h
      · rename_i F1 hF; cases h
        obtain ⟨H', R', hK⟩ := AOp.e_run hc hv RF R
        exact ⟨_, H', RF.put hF, R', fun K hk => by simp only [hg]; exact hK _ hk⟩
      · cases h
    · cases h
  · rename_i s want hg
    rw [AX.eF_look RF] at h
    split at h
    · rename_i b hb
      cases hw : b == want <;> simp only [hw, cond_true, cond_false] at h
      · split at h
        · rename_i F1 hF; cases h
          refine ⟨_, H, (RF.know hb).put hF, R, fun K hk => ?_⟩
          simp only [hg, hb]
          cases b <;> cases want <;> first | (cases hw; done) | exact Branch.ofT rfl hk | exact Branch.ofF rfl hk
        · cases h
      · split at h
        · rename_i v T1 hv
          split at h
          · rename_i F1 hF; cases h
            obtain ⟨H', R', hK⟩ := AOp.e_run hc hv (RF.know hb) R
            refine ⟨_, H', (RF.know hb).put hF, R', fun K hk => ?_⟩
            simp only [hg, hb]
            cases b <;> cases want <;> first | (cases hw; done) | exact Branch.ofT rfl (hK _ hk) | exact Branch.ofF rfl (hK _ hk)
          · cases h
        · cases h
    · rename_i hb
      split at h
      · rename_i F1 hF; cases h
        exact ⟨_, H, RF.put hF, R, fun K hk => by simp only [hg, hb]; exact hk⟩
      · cases h
    · cases h
theorem opsE_run (hc : CallOK P call) : ∀ {l : List AO} {F F' : BT AV} {fr : Fr} {T T' : EH} {H : Heap}, opsE call l F T = some (F', T') → RepF F fr → RepH T H →
    ∃ fr' H', RepF F' fr' ∧ RepH T' H' ∧ ∀ K : Fr → Heap → Prop, K fr' H' → runOps P K l fr H
  | [], F, F', fr, T, T', H, h, RF, R => by
    simp only [opsE] at h; cases h; exact ⟨fr, H, RF, R, fun K hk => hk⟩
  | o :: r, F, F', fr, T, T', H, h, RF, R => by
    simp only [opsE] at h
    split at h
    · rename_i F1 T1 h1
      obtain ⟨fr1, H1, RF1, R1, hK1⟩ := AO.e_run hc h1 RF R
      obtain ⟨fr2, H2, RF2, R2, hK2⟩ := opsE_run hc h RF1 R1
      exact ⟨fr2, H2, RF2, R2, fun K hk => hK1 _ (hK2 K hk)⟩
    · cases h
theorem HOp.qe_run {ev : AX → AV} {η : Nat → AB} {p : Nat} {o : HOp} {v : AV} {b : Ef} (h : o.qe ev η p = some (v, b)) {K : AV → Ef → Prop} (hk : K v b) : o.q ev η p K := by
  cases o <;> simp only [HOp.qe, HOp.q] at h ⊢
  case load agg n x =>
    generalize ev x = vx at h ⊢
    split at h
    · split at h
      · rename_i u hu; cases h; exact loadE_run hu hk
      · cases h
    · split at h
      · rename_i cs hcs
        split at h
        · rename_i u hu; cases h
          simp only [hcs]; exact loadE_run hu hk
        · cases h
      · cases h
    · cases h
  case alloc zero => cases h; exact hk
  case box x =>
    split at h
    · rename_i l hl; cases h; simp only [hl]; exact hk
    · cases h
  case store n q x =>
    generalize ev q = vp at h ⊢
    split at h
    · split at h
      · rename_i cs hcs
        split at h
        · rename_i l hl
          cases hb : Nat.beq l.length n <;> simp only [hb, cond_true, cond_false] at h
          · cases h
          · split at h
            · rename_i cs' hp; cases h
              simp only [hcs, hl, hb, cond_true]; exact lputE_run hp hk
            · cases h
        · cases h
      · cases h
    · cases h
theorem AOp.qe_run (hc : CallOK P call) {ev : AX → AV} {η : Nat → AB} {p : Nat} {o : AOp} {v : AV} {b : Ef} (h : o.qe call ev η p = some (v, b)) {K : AV → Ef → Prop} (hk : K v b) : o.q P ev η p K := by
  cases o <;> simp only [AOp.qe, AOp.q, fvs_eq, mapE_eq] at h ⊢
  case p o =>
    split at h
    · rename_i u hu; cases h; exact o.e_run hu hk
    · cases h
  case v o =>
    split at h
    · rename_i u hu; cases h; exact o.e_run hu hk
    · cases h
  case h o => exact HOp.qe_run h hk
  case d o =>
    split at h
    · rename_i u hu; cases h; exact o.e_run hu hk
    · cases h
  case l o =>
    split at h
    · rename_i u cs kl hu; cases h; exact LOp.e_run hu hk
    · cases h
  case call f args =>
    split at h
    · rename_i r hr; cases h; exact callD_run hc hr hk
    · cases h
  case callv x args =>
    generalize ev x = vx at h ⊢
    split at h
    · split at h
      · rename_i r hr; cases h; exact callD_run hc hr hk
      · cases h
    · cases h
theorem layE_run : ∀ {b : Ef} {T T' : EH} {H : Heap}, layE T b = some T' → RepH T H → RepH T' (layH H b)
  | [], T, T', H, h, R => by simp only [layE] at h; cases h; exact R
  | (k, x) :: r, T, T', H, h, R => by
    simp only [layE] at h
    split at h
    · rename_i T1 h1; exact layE_run (H := H.set k x) h (R.put h1)
    · cases h
theorem logE_run {dep : List (Nat × Nat)} {i : Nat} {F W : List Nat} {L L' : List En} (h : logE dep i F W L = some L') {K : List En → Prop} (hk : K L') : logK dep i F W L K := by
  unfold logE at h; unfold logK
  split at h
  · cases h; exact hk
  · split
    · rename_i hn; exact absurd rfl (hn rfl)
    · cases hb : okLog dep ⟨i, F, W⟩ L <;> simp only [hb, cond_true, cond_false] at h ⊢
      · cases h
      · cases h; exact hk
theorem qwalkE_run (hc : CallOK P call) {dep : List (Nat × Nat)} : ∀ {l : List AO} {i p : Nat} {L : List En} {F F' : BT AV} {fr : Fr} {T T' : EH} {H : Heap}, qwalkE call dep l i p L F T = some (F', T') → RepF F fr → RepH T H →
    ∃ fr' H', RepF F' fr' ∧ RepH T' H' ∧ ∀ K : Fr → Heap → Prop, K fr' H' → qwalk P dep K l i p L fr H
  | [], i, p, L, F, F', fr, T, T', H, h, RF, R => by
    simp only [qwalkE] at h; cases h; exact ⟨fr, H, RF, R, fun K hk => hk⟩
  | q :: r, i, p, L, F, F', fr, T, T', H, h, RF, R => by
    simp only [qwalkE, AX.eF_look RF] at h
    -- an operation that is done
    have go : ∀ fr0, RepF F fr0 → (match q.op.qe call (AX.eF F) T.get p with
      | some (v, b) => match logE dep i (q.op.foot (AX.eF F)) (keys b) L with
        | some L' => match putE F q.dst v with
          | some F' => match layE T b with
            | some T' => forceN (i + 1) fun i' => forceN (p + 1) fun p' => qwalkE call dep r i' p' L' F' T'
            | none => none
          | none => none
        | none => none
      | none => none) = some (F', T') → ∃ fr' H', RepF F' fr' ∧ RepH T' H' ∧ ∀ K : Fr → Heap → Prop, K fr' H' →
        q.op.q P (AX.ev fr0) H.get p fun v b => logK dep i (q.op.foot (AX.ev fr0)) (keys b) L fun L => qwalk P dep K r (i + 1) (p + 1) L (put fr0 q.dst v) (layH H b) := by
      intro fr0 RF0 h
      split at h
      · rename_i v b hv
        split at h
        · rename_i L1 hL
          split at h
          · rename_i F1 hF
            split at h
            · rename_i T1 hT
              simp only [forceN_eq] at h
              obtain ⟨fr2, H2, RF2, R2, hK⟩ := qwalkE_run hc h (RF0.put hF) (layE_run hT R)
              refine ⟨fr2, H2, RF2, R2, fun K hk => ?_⟩
              rw [RF0.ev, R.get]
              exact AOp.qe_run hc hv (logE_run hL (hK K hk))
            · cases h
          · cases h
        · cases h
      · cases h
    have skip : ∀ fr0, RepF F fr0 → (match putE F q.dst (.tuple []) with
      | some F' => forceN (i + 1) fun i' => forceN (p + 1) fun p' => qwalkE call dep r i' p' L F' T
      | none => none) = some (F', T') → ∃ fr' H', RepF F' fr' ∧ RepH T' H' ∧ ∀ K : Fr → Heap → Prop, K fr' H' →
        qwalk P dep K r (i + 1) (p + 1) L (put fr0 q.dst (.tuple [])) H := by
      intro fr0 RF0 h
      split at h
      · rename_i F1 hF
        simp only [forceN_eq] at h
        exact qwalkE_run hc h (RF0.put hF) R
      · cases h
    simp only [qwalk_cons, qstep, layK_eq]
    cases hg : q.guard with
    | none =>
      simp only [hg] at h
      obtain ⟨fr', H', a, b, hK⟩ := go fr RF h
      exact ⟨fr', H', a, b, hK⟩
    | some sw =>
      obtain ⟨s, want⟩ := sw
      simp only [hg] at h
      cases hb : look fr s <;> simp only [hb] at h ⊢ <;> try (cases h; done)
      case bool b =>
        cases b <;> cases want <;> simp only [show (false == false) = true from rfl, show (true == true) = true from rfl, show (false == true) = false from rfl, show (true == false) = false from rfl] at h
        · obtain ⟨fr', H', a, b, hK⟩ := go _ (RF.know hb) h
          exact ⟨fr', H', a, b, fun K hk => Branch.ofF rfl (hK K hk)⟩
        · obtain ⟨fr', H', a, b, hK⟩ := skip _ (RF.know hb) h
          exact ⟨fr', H', a, b, fun K hk => Branch.ofF rfl (hK K hk)⟩
        · obtain ⟨fr', H', a, b, hK⟩ := skip _ (RF.know hb) h
          exact ⟨fr', H', a, b, fun K hk => Branch.ofT rfl (hK K hk)⟩
        · obtain ⟨fr', H', a, b, hK⟩ := go _ (RF.know hb) h
          exact ⟨fr', H', a, b, fun K hk => Branch.ofT rfl (hK K hk)⟩
      case tuple cs =>
        cases cs with
        | nil =>
          simp only at h ⊢
          obtain ⟨fr', H', a, b, hK⟩ := skip _ RF h
          exact ⟨fr', H', a, b, hK⟩
        | cons c cs => simp only at h; cases h
theorem loopE_run {n : Nat} {body : (XA → Fr → Heap → Prop) → Fr → Heap → Prop} {step : BT AV → EH → Option (XA × BT AV × EH)}
    (hs : ∀ F T x F' T', step F T = some (x, F', T') → ∀ fr H, RepF F fr → RepH T H → ∃ fr' H', RepF F' fr' ∧ RepH T' H' ∧ ∀ Q : XA → Fr → Heap → Prop, Q x fr' H' → body Q fr H) :
    ∀ (k : Nat) {F F' : BT AV} {fr : Fr} {T T' : EH} {H : Heap} {x : XA}, loopE step k F T = some (x, F', T') → RepF F fr → RepH T H →
      ∃ j fr' H', k = j + 1 ∧ RepF F' fr' ∧ RepH T' H' ∧ ∀ Q : XA → Fr → Heap → Prop, Q x fr' H' → body (lpost n Q j (LoopI n body Q j)) fr H
  | 0, _, _, _, _, _, _, _, h, _, _ => by simp [loopE] at h
  | k + 1, F, F', fr, T, T', H, x, h, RF, R => by
    simp only [loopE] at h
    split at h
    · rename_i F1 T1 h1
      obtain ⟨fr1, H1, RF1, R1, hK1⟩ := hs _ _ _ _ _ h1 fr H RF R
      obtain ⟨j, fr2, H2, rfl, RF2, R2, hK2⟩ := loopE_run (n := n) hs k h RF1 R1
      refine ⟨j + 1, fr2, H2, rfl, RF2, R2, fun Q hq => hK1 _ ?_⟩
      exact ⟨j, Nat.lt_succ_self _, To.refl (.inl ⟨rfl, hK2 Q hq⟩)⟩
    · rename_i hne
      obtain ⟨fr1, H1, RF1, R1, hK1⟩ := hs _ _ _ _ _ h fr H RF R
      refine ⟨k, fr1, H1, rfl, RF1, R1, fun Q hq => hK1 _ ?_⟩
      cases x with
      | normal => exact absurd h (hne _ _)
      | exit id => exact hq
      | ret => exact hq
theorem AC.e_run (hc : CallOK P call) {n lf : Nat} : ∀ (ac : AC) {F F' : BT AV} {fr : Fr} {T T' : EH} {H : Heap} {x : XA}, ac.e call lf F T = some (x, F', T') → RepF F fr → RepH T H →
    ∃ fr' H', RepF F' fr' ∧ RepH T' H' ∧ ∀ Q : XA → Fr → Heap → Prop, Q x fr' H' → ac.run P n Q fr H
  | .skip, _, _, fr, _, _, H, _, h, RF, R => by simp only [AC.e] at h; cases h; exact ⟨fr, H, RF, R, fun Q hq => hq⟩
  | .ret, _, _, fr, _, _, H, _, h, RF, R => by simp only [AC.e] at h; cases h; exact ⟨fr, H, RF, R, fun Q hq => hq⟩
  | .exit id, _, _, fr, _, _, H, _, h, RF, R => by simp only [AC.e] at h; cases h; exact ⟨fr, H, RF, R, fun Q hq => hq⟩
  | .reg ops, _, _, fr, _, _, H, _, h, RF, R => by
    simp only [AC.e] at h
    split at h
    · rename_i F1 T1 h1; cases h
      obtain ⟨fr1, H1, RF1, R1, hK⟩ := opsE_run hc h1 RF R
      exact ⟨fr1, H1, RF1, R1, fun Q hq => hK (Q .normal) hq⟩
    · cases h
  | .draw m dep ops, _, _, fr, T, _, H, _, h, RF, R => by
    simp only [AC.e, forceN_eq] at h
    split at h
    · rename_i F1 T1 h1
      split at h
      · rename_i F2 T2 h2; cases h
        obtain ⟨fr1, H1, RF1, R1, hK1⟩ := qwalkE_run hc h1 RF (H := ⟨H.nx + m, H.bs⟩) ⟨by simp [R.nx], R.get⟩
        obtain ⟨fr2, H2, RF2, R2, hK2⟩ := opsE_run hc h2 RF1 R1
        refine ⟨fr2, H2, RF2, R2, fun Q hq => ?_⟩
        have := hK1 (fun fr H => runOps P (Q .normal) (ops.drop m) fr H) (hK2 _ hq)
        rw [← R.nx] at this
        exact this
      · cases h
    · cases h
  | .seq a b, _, _, fr, _, _, H, x, h, RF, R => by
    simp only [AC.e] at h
    split at h
    · rename_i F1 T1 h1
      obtain ⟨fr1, H1, RF1, R1, hK1⟩ := AC.e_run hc a h1 RF R
      obtain ⟨fr2, H2, RF2, R2, hK2⟩ := AC.e_run hc b h RF1 R1
      exact ⟨fr2, H2, RF2, R2, fun Q hq => hK1 _ (hK2 Q hq)⟩
    · rename_i hne
      obtain ⟨fr1, H1, RF1, R1, hK1⟩ := AC.e_run hc a h RF R
      refine ⟨fr1, H1, RF1, R1, fun Q hq => hK1 _ ?_⟩
      cases x with
      | normal => exact absurd h (hne _ _)
      | exit id => exact hq
      | ret => exact hq
  | .cond c a b, F, _, fr, _, _, H, _, h, RF, R => by
    simp only [AC.e] at h
    simp only [AC.run_cond, RF.ev]
    generalize AX.eF F c = vc at h ⊢
    cases vc <;> simp only at h ⊢ <;> try (cases h; done)
    rename_i t
    cases t <;> simp only at h
    · obtain ⟨fr1, H1, RF1, R1, hK1⟩ := AC.e_run hc b h RF R
      exact ⟨fr1, H1, RF1, R1, fun Q hq => Branch.ofF rfl (hK1 Q hq)⟩
    · obtain ⟨fr1, H1, RF1, R1, hK1⟩ := AC.e_run hc a h RF R
      exact ⟨fr1, H1, RF1, R1, fun Q hq => Branch.ofT rfl (hK1 Q hq)⟩
  | .block id a, _, _, fr, _, _, H, x, h, RF, R => by
    simp only [AC.e] at h
    split at h
    · rename_i j F1 T1 h1
      obtain ⟨fr1, H1, RF1, R1, hK1⟩ := AC.e_run hc a h1 RF R
      cases hb : Nat.beq j id <;> simp only [hb, cond_true, cond_false] at h <;> cases h
      · exact ⟨fr1, H1, RF1, R1, fun Q hq => hK1 (blockK id Q) (by simp only [blockK, hb, cond_false]; exact hq)⟩
      · exact ⟨fr1, H1, RF1, R1, fun Q hq => hK1 (blockK id Q) (by simp only [blockK, hb, cond_true]; exact hq)⟩
    · rename_i hne
      obtain ⟨fr1, H1, RF1, R1, hK1⟩ := AC.e_run hc a h RF R
      refine ⟨fr1, H1, RF1, R1, fun Q hq => hK1 _ ?_⟩
      cases x with
      | normal => exact hq
      | exit id => exact absurd h (hne _ _ _)
      | ret => exact hq
  | .loop a, _, _, fr, _, _, H, _, h, RF, R => by
    simp only [AC.e] at h
    obtain ⟨j, fr1, H1, _, RF1, R1, hK⟩ := loopE_run (n := n) (body := a.run P n) (fun F T x F' T' hs fr H RF R => AC.e_run hc a hs RF R) lf h RF R
    exact ⟨fr1, H1, RF1, R1, fun Q hq => LoopA.unroll n (a.run P n) Q j (hK Q hq)⟩
  | .ghost a, _, _, fr, _, _, H, _, h, RF, R => by
    simp only [AC.e] at h
    obtain ⟨fr1, H1, RF1, R1, hK1⟩ := AC.e_run hc a h RF R
    exact ⟨fr1, H1, RF1, R1, fun Q hq => To.refl (hK1 Q hq)⟩
theorem resE_run {F : BT AV} {fr : Fr} {T : EH} {H : Heap} (RF : RepF F fr) (R : RepH T H) : ∀ {rs : List AR} {vs : List AV}, resE F T rs = some vs → ∀ {K : List AV → Prop}, K vs → resK fr H rs K
  | [], _, h, K, hk => by simp only [resE] at h; cases h; exact hk
  | .tmp t :: r, _, h, K, hk => by
    simp only [resE, AX.eF_look RF] at h
    split at h
    · rename_i vs hv; cases h
      simp only [resK, fv_eq]
      exact resE_run RF R hv hk
    · cases h
  | .cell t agg n :: r, _, h, K, hk => by
    simp only [resE, AX.eF_look RF] at h
    simp only [resK]
    generalize look fr t = vt at h ⊢
    cases vt <;> simp only at h ⊢ <;> try (cases h; done)
    rw [← R.get] at h
    rename_i k off
    generalize H.get k = b at h ⊢
    cases b <;> simp only at h ⊢ <;> try (cases h; done)
    split at h
    · rename_i v hv
      split at h
      · rename_i vs hvs; cases h
        exact loadE_run hv (resE_run RF R hvs hk)
      · cases h
    · cases h
theorem frameE_rep : ∀ {vs : List AV} {i : Nat} {F : BT AV}, frameE i vs = some F → RepF F (frame0 i vs)
  | [], _, _, h => by simp only [frameE] at h; cases h; exact ⟨fun _ => rfl⟩
  | v :: r, i, F, h => by
    simp only [frameE] at h
    split at h
    · rename_i F1 h1; exact (frameE_rep h1).put h
    · cases h
theorem findE_spec : ∀ {tbl : List FE} {f : FuncId} {e : FE}, findE tbl f = some e → e ∈ tbl ∧ e.f = f
  | [], _, _, h => by simp [findE] at h
  | e :: r, f, e', h => by
    simp only [findE] at h
    cases hb : Nat.beq e.f f <;> simp only [hb, cond_true, cond_false] at h
    · have := findE_spec h; exact ⟨List.mem_cons_of_mem _ this.1, this.2⟩
    · cases h; exact ⟨List.mem_cons_self .., Nat.eq_of_beq_eq_true hb⟩
/-- **A RUN BY COMPUTING STANDS FOR A CALL.** -/
theorem runE_ok {tbl : List FE} (htbl : ∀ e ∈ tbl, okF P e.f e.N e.ac e.rs = true) (lf : Nat) : ∀ n, CallOK P (runE tbl lf n)
  | 0 => ⟨fun f vs T r T' h => by simp [runE] at h⟩
  | n + 1 => ⟨fun f vs T r T' h H R => by
    simp only [runE] at h
    split at h
    · rename_i e he
      obtain ⟨hm, rfl⟩ := findE_spec he
      cases hb : Nat.ble vs.length e.N <;> simp only [hb, cond_true, cond_false] at h
      · cases h
      · split at h
        · rename_i F hF
          have hc := runE_ok htbl lf n
          split at h
          · cases h
          · rename_i x F' T1 hne hx
            split at h
            · rename_i rs hrs; cases h
              obtain ⟨fr1, H1, RF1, R1, hK⟩ := AC.e_run hc (n := H.nx) e.ac hx (frameE_rep hF) R
              refine ⟨H1, R1, fun K hk => callA_of (htbl e hm) (Nat.le_of_ble_eq_true hb) (hK _ ?_)⟩
              cases x with
              | normal => exact resE_run RF1 R1 hrs (RetA.same hk)
              | exit id => exact (hne _ rfl).elim
              | ret => exact resE_run RF1 R1 hrs (RetA.same hk)
            · cases h
          · cases h
        · cases h
    · cases h⟩
def okAll (P : Program) : List FE → Prop
  | [] => True
  | e :: r => okF P e.f e.N e.ac e.rs = true ∧ okAll P r
theorem okAll_spec : ∀ {tbl : List FE}, okAll P tbl → ∀ e ∈ tbl, okF P e.f e.N e.ac e.rs = true
  | [], _, e, he => by cases he
  | e :: r, h, e', he => by
    rcases List.mem_cons.1 he with rfl | he
    · exact h.1
    · exact okAll_spec h.2 e' he
/-- A run's result, of data alone. -/
def resultE (tbl : List FE) (lf n : Nat) (f : FuncId) (vs : List AV) : Option AV := match runE tbl lf n f vs EH.nil with
  | some (r, T) => pubE T.get 8 r
  | none => none
theorem CallA.computed {tbl : List FE} (htbl : okAll P tbl) (lf n : Nat) {f : FuncId} {vs : List AV} {r : AV} (h : resultE tbl lf n f vs = some r) :
    CallA P f vs Heap.nil fun v H' => v = r ∧ H' = Heap.nil := by
  unfold resultE at h
  split at h
  · rename_i r' T' hrun
    obtain ⟨H', R', hK⟩ := (runE_ok (okAll_spec htbl) lf n).ok _ _ _ _ _ hrun _ RepH.nil
    refine CallA.out 8 (hK (fun v H => v = r' ∧ H = H') ⟨rfl, rfl⟩) ?_
    rintro v H ⟨rfl, rfl⟩
    exact ⟨_, by rw [R'.get]; exact h, rfl, rfl⟩
  · cases h
end
end Go.Eng

