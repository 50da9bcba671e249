/- Part of a proof about the given program: lemmas that the other parts use. -/
import Derived.Test.YtligaclbjnccgaaDoorRPart3
import Derived.OpenShut
import Derived.JoinedOf
import Derived.Handed
import Derived.Test.YtligaclbjnccgaaDoorRProg
import Derived.KernelRfl

set_option linter.all false
set_option linter.unusedSimpArgs false
set_option linter.unusedVariables false
namespace Go.Eng
open Go

variable [Globs]
/-! ### Blocks that are lent to a call -/
def subP (keep : List (Nat × Bool)) (μ : Pos) : Pos := fun j => (keep[j]?).bind fun x => μ x.1
theorem distinct_keep {keep : List (Nat × Bool)} (h : distinct keep = true) (i j k : Nat) (d e : Bool) : keep[i]? = some (k, d) → keep[j]? = some (k, e) → i = j := distinct_spec h i j k d e

section
variable {M : Mem} {μ : Pos} {H : Heap} {w : World} {keep : List (Nat × Bool)}
theorem subP_to {j k : Nat} {d : Bool} (h : keep[j]? = some (k, d)) {x : Nat × Nat} (hx : μ k = some x) : subP keep μ j = some x := by simp only [subP, h, Option.bind_some, hx]
theorem subP_from {j k : Nat} {d : Bool} (h : keep[j]? = some (k, d)) {x : Nat × Nat} (hx : subP keep μ j = some x) : μ k = some x := by simpa only [subP, h, Option.bind_some] using hx
theorem sub_pos {k j : Nat} {x : Nat × Nat} (h : posOf keep k = some j) (hx : μ k = some x) : subP keep μ j = some x := by
  obtain ⟨m, d, h1, h2⟩ := posOf_go keep k 0 j h
  exact subP_to (d := d) (by rw [h1, Nat.zero_add]; exact h2) hx
theorem sub_alive {j : Nat} (hj : (gcH keep H).get j ≠ .dead) : ∃ (k : Nat) (d : Bool), keep[j]? = some (k, d) ∧ H.get k ≠ .dead := by
  rw [gcH_get] at hj
  cases hk : keep[j]? with
  | none => rw [hk] at hj; exact absurd rfl hj
  | some x =>
    obtain ⟨k, d⟩ := x
    refine ⟨k, d, rfl, fun h => hj ?_⟩
    simp only [hk, h, renB]; cases d <;> rfl
theorem sub_own {b : Nat} (h : Own (subP keep μ) (gcH keep H) b) : ∃ (j k : Nat) (d : Bool) (s : Nat), keep[j]? = some (k, d) ∧ H.get k ≠ .dead ∧ μ k = some (b, s) := by
  obtain ⟨j, s, hj, hx⟩ := h
  obtain ⟨k, d, h1, h2⟩ := sub_alive hj
  exact ⟨j, k, d, s, h1, h2, subP_from h1 hx⟩
theorem Rel.sub (R : Rel M μ H w) (hdis : distinct keep = true) (hdata : allData H keep) : Rel M (subP keep μ) (gcH keep H) w := by
  have hf : ∀ k j x, posOf keep k = some j → μ k = some x → subP keep μ j = some x := fun k j x => sub_pos
  refine ⟨R.glob, fun j hj => ?_, fun j hj => ?_, fun j cs hj => ?_, fun j es hj => ?_, R.walks (Mem.le_refl _) (fun j k' left cur hj => ?_), fun i j b s t hi hj hx hy => ?_, R.imm, fun j b s hj hx o => ?_⟩
  · simp only [subP, List.getElem?_eq_none (show keep.length ≤ j from hj), Option.bind_none]
  · rw [gcH_get, List.getElem?_eq_none (by simpa [gcH] using hj)]
  · rw [gcH_get] at hj
    cases hk : keep[j]? with
    | none => rw [hk] at hj; cases hj
    | some x =>
      obtain ⟨k, d⟩ := x
      rw [hk] at hj
      cases d with
      | true =>
        simp only [cond_true] at hj
        obtain ⟨b, sz, c, el, fz, h1, h2, h3, h4, h5⟩ := R.cells k cs hj
        refine ⟨b, sz, c, el, fz, subP_to hk h1, h2, h3, h4, relP_data cs ?_ h5⟩
        have := allData_spec hdata k (List.mem_of_getElem? hk)
        rw [hj] at this; exact this
      | false =>
        simp only [cond_false] at hj
        cases hg : H.get k with
        | cells ds =>
          rw [hg] at hj; simp only [renB, AB.cells.injEq] at hj; subst hj
          obtain ⟨b, sz, c, el, fz, h1, h2, h3, h4, h5⟩ := R.cells k ds hg
          exact ⟨b, sz, c, el, fz, subP_to hk h1, h2, h3, h4, relP_ren hf ds h5⟩
        | dead => rw [hg] at hj; simp [renB] at hj
        | map es => rw [hg] at hj; simp [renB] at hj
        | iter k' l c => rw [hg] at hj; simp only [renB] at hj; split at hj <;> cases hj
  · rw [gcH_get] at hj
    cases hk : keep[j]? with
    | none => rw [hk] at hj; cases hj
    | some x =>
      obtain ⟨k, d⟩ := x
      rw [hk] at hj
      have hg : H.get k = .map es := by
        cases d with
        | true => simpa using hj
        | false =>
          have hj : renB (posOf keep) (H.get k) = .map es := hj
          cases hg : H.get k with
          | dead => rw [hg] at hj; cases hj
          | cells cs => rw [hg] at hj; cases hj
          | map es' => rw [hg] at hj; exact hj
          | iter k' l c => rw [hg] at hj; simp only [renB] at hj; split at hj <;> cases hj
      obtain ⟨b, sz, ents, clock, h1, h2⟩ := R.maps k es hg
      exact ⟨b, sz, ents, clock, subP_to hk h1, h2⟩
  · obtain ⟨j0, k0, d, h1, h2, h3⟩ := gcH_iter hdata hj
    obtain ⟨es, hes⟩ := R.iter_map h2
    refine ⟨j0, k0, h2, ?_, fun x hx => subP_to h1 hx, fun x hx => hf k0 k' x h3 hx, fun _ _ _ _ => rfl, fun _ _ _ _ => rfl⟩
    obtain ⟨m, d', e1, e2⟩ := posOf_go keep k0 0 k' h3
    rw [Nat.zero_add] at e1; subst e1
    rw [gcH_get, e2]; simp only [hes]
    cases d' <;> simp [renB]
  · obtain ⟨k, d, h1, h2⟩ := sub_alive hi
    obtain ⟨k', d', h3, h4⟩ := sub_alive hj
    have := R.inj k k' b s t h2 h4 (subP_from h1 hx) (subP_from h3 hy)
    subst this
    exact distinct_spec hdis i j k d d' h1 h3
  · obtain ⟨k, d, h1, h2⟩ := sub_alive hj
    exact R.apart k b s h2 (subP_from h1 hx) o
end

/-- Where a place of the callee is for the caller. -/
def backK (keep : List (Nat × Bool)) (nx j : Nat) : Nat := match keep[j]? with
  | some (k, _) => k
  | none => nx + (j - keep.length)
def backB (keep : List (Nat × Bool)) (nx : Nat) (H' : Heap) (j : Nat) : AB := match keep[j]? with
  | some (_, true) => H'.get j
  | _ => renB (fun j => some (backK keep nx j)) (H'.get j)
def lendBs (keep : List (Nat × Bool)) (nx : Nat) (H' : Heap) : Nat → List (Nat × AB) → List (Nat × AB)
  | 0, bs => bs
  | j + 1, bs => (backK keep nx j, backB keep nx H' j) :: lendBs keep nx H' j bs
def lendH (keep : List (Nat × Bool)) (H H' : Heap) : Heap := ⟨H.nx + (H'.nx - keep.length), lendBs keep H.nx H' H'.nx H.bs⟩
/-- The callee leaves data where data was lent. -/
def backOk (H' : Heap) : List (Nat × Bool) → Nat → Prop
  | [], _ => True
  | (_, true) :: r, j => dataB (H'.get j) ∧ backOk H' r (j + 1)
  | (_, false) :: r, j => backOk H' r (j + 1)
theorem backOk_spec {H' : Heap} : ∀ {keep : List (Nat × Bool)} {i : Nat}, backOk H' keep i → ∀ j k, keep[j]? = some (k, true) → dataB (H'.get (i + j))
  | [], _, _, j, k, h => by simp at h
  | (q, d) :: r, i, hb, 0, k, h => by
    simp at h; obtain ⟨rfl, rfl⟩ := h; exact hb.1
  | (q, true) :: r, i, hb, j + 1, k, h => by
    have := backOk_spec hb.2 j k (by simpa using h)
    rwa [Nat.add_assoc, Nat.add_comm 1 j] at this
  | (q, false) :: r, i, hb, j + 1, k, h => by
    have := backOk_spec (keep := r) hb j k (by simpa using h)
    rwa [Nat.add_assoc, Nat.add_comm 1 j] at this

theorem lendBs_get {keep : List (Nat × Bool)} {nx : Nat} {H' : Heap} (k : Nat) (inj : ∀ i j, backK keep nx i = backK keep nx j → i = j) : ∀ (m : Nat) (bs : List (Nat × AB)),
    (∀ j, j < m → backK keep nx j = k → bget (lendBs keep nx H' m bs) k = backB keep nx H' j) ∧ ((∀ j, j < m → backK keep nx j ≠ k) → bget (lendBs keep nx H' m bs) k = bget bs k)
  | 0, bs => ⟨fun j hj => by omega, fun _ => rfl⟩
  | m + 1, bs => by
    obtain ⟨h1, h2⟩ := lendBs_get (H' := H') k inj m bs
    refine ⟨fun j hj hk => ?_, fun h => ?_⟩
    · simp only [lendBs, bget]
      by_cases hm : backK keep nx m = k
      · have := inj j m (hk.trans hm.symm); subst this
        rw [hm]; simp
      · rw [beq_false hm]
        exact h1 j (by rcases Nat.lt_succ_iff_lt_or_eq.1 hj with h | h; exact h; exact absurd (h ▸ hk) hm) hk
    · simp only [lendBs, bget]
      rw [beq_false (h m (Nat.lt_succ_self _))]
      exact h2 fun j hj => h j (Nat.lt_succ_of_lt hj)

/-- No map is lent that a block of the caller's walks over. -/
def lentOk (keep : List (Nat × Bool)) (η : Nat → AB) (n : Nat) : Bool := Nat.rec true (fun i ih => match η i with
  | .iter k _ _ => (match posOf keep k with
    | some _ => false
    | none => ih)
  | _ => ih) n
theorem lentOk_succ (keep : List (Nat × Bool)) (η : Nat → AB) (n : Nat) : lentOk keep η (n + 1) = match η n with
  | .iter k _ _ => (match posOf keep k with
    | some _ => false
    | none => lentOk keep η n)
  | _ => lentOk keep η n := rfl
theorem lentOk_spec {keep : List (Nat × Bool)} {η : Nat → AB} : ∀ {n : Nat}, lentOk keep η n = true → ∀ j, j < n → ∀ k l c, η j = .iter k l c → posOf keep k = none
  | 0, _, j, hj, _, _, _ => by omega
  | n + 1, h, j, hj, k, l, c => by
    rw [lentOk_succ] at h
    intro e
    rcases Nat.lt_or_eq_of_le (Nat.le_of_lt_succ hj) with h1 | h1
    · refine lentOk_spec ?_ j h1 k l c e
      split at h
      · split at h
        · cases h
        · exact h
      · exact h
    · subst h1; rw [e] at h
      simp only at h
      split at h
      · cases h
      · assumption
theorem posOf_some {keep : List (Nat × Bool)} {j k : Nat} {d : Bool} (h : keep[j]? = some (k, d)) : posOf keep k ≠ none := by
  have go : ∀ (l : List (Nat × Bool)) (i j : Nat), l[j]? = some (k, d) → posOf.go k l i ≠ none := by
    intro l
    induction l with
    | nil => intro i j h; simp at h
    | cons x r ih =>
      intro i j h
      simp only [posOf.go]
      by_cases e : x.1 = k
      · rw [e]; simp
      · rw [beq_false e]
        cases j with
        | zero => simp at h; exact absurd (by rw [h]) e
        | succ j => exact ih (i + 1) j (by simpa using h)
  exact go keep 0 j h

theorem CallA.lend {P : Program} {f : FuncId} {args : List AV} {H : Heap} {K Kc : AV → Heap → Prop} (keep : List (Nat × Bool)) (h : CallA P f (renL (posOf keep) args) (gcH keep H) Kc) (hdis : distinct keep = true) (hdata : allData H keep)
    (hlt : keep.all (fun x => Nat.blt x.1 H.nx) = true) (hK : ∀ c H', Kc c H' → backOk H' keep 0 ∧ K (ren (fun j => some (backK keep H.nx j)) c) (lendH keep H H')) (hit : lentOk keep H.get H.nx = true := by rfl) : CallA P f args H K := by
  refine ⟨h.ok, fun M μ w vs R hv => (h.run M (subP keep μ) w vs (R.sub hdis hdata) (relL_ren (fun k j x => sub_pos) args hv)).mono ?_⟩
  rintro e w' ⟨v, M', μs, Hs, c, rfl, R', hv', G, hk⟩
  obtain ⟨hback, hk⟩ := hK c Hs hk
  have hL : keep.length ≤ Hs.nx := G.nx
  have klt : ∀ {j k d}, keep[j]? = some (k, d) → k < H.nx := fun {j k d} hj => by
    have := List.all_eq_true.1 hlt _ (List.mem_of_getElem? hj)
    simpa [Nat.blt_eq] using this
  have jlt : ∀ {j k d}, keep[j]? = some (k, d) → j < keep.length := fun {j k d} hj => by
    rcases Nat.lt_or_ge j keep.length with h | h
    · exact h
    · rw [List.getElem?_eq_none h] at hj; cases hj
  let bk := backK keep H.nx
  have bk1 : ∀ {j k d}, keep[j]? = some (k, d) → bk j = k := fun {j k d} hj => by simp only [bk, backK, hj]
  have bk2 : ∀ {j}, keep.length ≤ j → bk j = H.nx + (j - keep.length) := fun {j} hj => by simp only [bk, backK, List.getElem?_eq_none hj]
  have bkc : ∀ j, (∃ k d, keep[j]? = some (k, d) ∧ j < keep.length ∧ bk j = k ∧ k < H.nx) ∨ (keep.length ≤ j ∧ bk j = H.nx + (j - keep.length)) := fun j => by
    cases hj : keep[j]? with
    | none =>
      have : keep.length ≤ j := by simpa using hj
      exact .inr ⟨this, bk2 this⟩
    | some x => obtain ⟨k, d⟩ := x; exact .inl ⟨k, d, rfl, jlt hj, bk1 hj, klt hj⟩
  have inj : ∀ i j, bk i = bk j → i = j := by
    intro i j hij
    rcases bkc i with ⟨k, d, h1, h2, h3, h4⟩ | ⟨h1, h2⟩
    · rcases bkc j with ⟨k', d', h5, h6, h7, h8⟩ | ⟨h5, h6⟩
      · have : k = k' := by rw [← h3, ← h7, hij]
        subst this
        exact distinct_spec hdis i j k d d' h1 h5
      · omega
    · rcases bkc j with ⟨k', d', h5, h6, h7, h8⟩ | ⟨h5, h6⟩
      · omega
      · omega
  let μ2 : Pos := fun k => if k < H.nx then μ k else μs (k - H.nx + keep.length)
  have hμ2 : ∀ j, μ2 (bk j) = μs j := by
    intro j
    rcases bkc j with ⟨k, d, h1, h2, h3, h4⟩ | ⟨h1, h2⟩
    · rw [h3]
      simp only [μ2, if_pos h4]
      rw [G.grow.pin j h2]
      simp only [subP, h1, Option.bind_some]
    · rw [h2]
      simp only [μ2]
      rw [if_neg (by omega)]
      congr 1; omega
  have hf : ∀ k j x, (fun j => some (bk j)) k = some j → μs k = some x → μ2 j = some x := by
    intro k j x hj hx
    simp only [Option.some.injEq] at hj
    subst hj; rw [hμ2]; exact hx
  have get : ∀ k, (∃ j, j < Hs.nx ∧ bk j = k ∧ (lendH keep H Hs).get k = backB keep H.nx Hs j) ∨ ((∀ j, j < Hs.nx → bk j ≠ k) ∧ (lendH keep H Hs).get k = H.get k) := by
    intro k
    obtain ⟨h1, h2⟩ := lendBs_get (keep := keep) (nx := H.nx) (H' := Hs) k inj Hs.nx H.bs
    by_cases hj : ∃ j, j < Hs.nx ∧ bk j = k
    · obtain ⟨j, h3, h4⟩ := hj
      exact .inl ⟨j, h3, h4, h1 j h3 h4⟩
    · have h3 : ∀ j, j < Hs.nx → bk j ≠ k := fun j h3 h4 => hj ⟨j, h3, h4⟩
      exact .inr ⟨h3, h2 h3⟩
  have backdead : ∀ j, backB keep H.nx Hs j ≠ .dead → Hs.get j ≠ .dead := by
    intro j hj hd
    refine hj ?_
    simp only [backB, hd, renB]
    split <;> rfl
  have notsub : ∀ {k b s}, H.get k ≠ .dead → μ k = some (b, s) → (∀ j, j < Hs.nx → bk j ≠ k) → ¬ Own (subP keep μ) (gcH keep H) b := by
    intro k b s hk1 hk2 hno ho
    obtain ⟨j, k', d, s', h1, h2, h3⟩ := sub_own ho
    have := R.inj k k' b s s' hk1 h2 hk2 h3
    subst this
    exact hno j (Nat.lt_of_lt_of_le (jlt h1) hL) (bk1 h1)
  have blt : ∀ {k b s}, H.get k ≠ .dead → μ k = some (b, s) → b < w.heap.size := fun h1 h2 => R.own_lt ⟨_, _, h1, h2⟩
  have old : ∀ {k}, (∀ j, j < Hs.nx → bk j ≠ k) → H.get k ≠ .dead → k < H.nx ∧ μ2 k = μ k := fun {k} _ hk => by
    have : k < H.nx := by
      rcases Nat.lt_or_ge k H.nx with h | h
      · exact h
      · exact absurd (R.top k h) hk
    exact ⟨this, by simp only [μ2, if_pos this]⟩
  have ownBack : ∀ {b}, Own μs Hs b → Own μ H b ∨ w.heap.size ≤ b := fun ho => by
    rcases G.grow.own _ ho with h | h
    · obtain ⟨j, k', d, s', h1, h2, h3⟩ := sub_own h
      exact .inl ⟨k', s', h2, h3⟩
    · exact .inr h
  have relB : ∀ {ds : List AV} {vs : List Value}, relP M' μs ds vs → relP M' μ2 (renL (fun j => some (bk j)) ds) vs := fun h => relP_ren hf _ h
  have R2 : Rel M' μ2 (lendH keep H Hs) w' := by
    refine ⟨R'.glob, fun k hk => ?_, fun k hk => ?_, fun k cs hk => ?_, fun k es hk => ?_, fun k kk left cur hk => ?_, fun i j b s t hi hj hx hy => ?_, R'.imm, fun k b s hk hx o => ?_⟩
    · have hk : H.nx + (Hs.nx - keep.length) ≤ k := hk
      simp only [μ2]
      rw [if_neg (by omega)]
      exact R'.dom _ (by omega)
    · have hk : H.nx + (Hs.nx - keep.length) ≤ k := hk
      rcases get k with ⟨j, h1, h2, h3⟩ | ⟨h1, h2⟩
      · rcases bkc j with ⟨k', d, h4, h5, h6, h7⟩ | ⟨h4, h5⟩
        · omega
        · omega
      · rw [h2]; exact R.top k (by omega)
    · rcases get k with ⟨j, h1, h2, h3⟩ | ⟨h1, h2⟩
      · rw [h3] at hk
        subst h2
        have fin : ∀ ds, Hs.get j = .cells ds → (∀ vs, relP M' μs ds vs → relP M' μ2 cs vs) → ∃ b sz c el fz, μ2 (bk j) = some (b, sz) ∧ w'.heap[b]? = some (.cells c el fz) ∧ c.size = sz ∧ (fz = (0, 0) ∨ c.size ≤ fz.1) ∧ relP M' μ2 cs c.toList := by
          intro ds hd hp
          obtain ⟨b, sz, c, el, fz, g1, g2, g3, g4, g5⟩ := R'.cells j ds hd
          exact ⟨b, sz, c, el, fz, by rw [hμ2]; exact g1, g2, g3, (by rw [g3]; exact g4), hp _ g5⟩
        simp only [backB] at hk
        split at hk
        · rename_i kk hkk
          obtain ⟨b, sz, c, el, fz, g1, g2, g3, g4, g5⟩ := R'.cells j cs hk
          refine ⟨b, sz, c, el, fz, by rw [hμ2]; exact g1, g2, g3, g4, ?_⟩
          have := backOk_spec hback j kk hkk
          rw [Nat.zero_add, hk] at this
          exact relP_data cs this g5
        · cases hg : Hs.get j with
          | dead => rw [hg] at hk; simp [renB] at hk
          | map es => rw [hg] at hk; simp [renB] at hk
          | iter k' l c => rw [hg] at hk; simp [renB] at hk
          | cells ds =>
            rw [hg] at hk; simp only [renB, AB.cells.injEq] at hk; subst hk
            obtain ⟨b, sz, c, el, fz, g1, g2, g3, g4, g5⟩ := R'.cells j ds hg
            exact ⟨b, sz, c, el, fz, by rw [hμ2]; exact g1, g2, g3, g4, relB g5⟩
      · rw [h2] at hk
        have hne : H.get k ≠ .dead := by rw [hk]; simp
        obtain ⟨b, sz, c, el, fz, g1, g2, g3, g4, g5⟩ := R.cells k cs hk
        have hb := blt hne g1
        refine ⟨b, sz, c, el, fz, by rw [(old h1 hne).2]; exact g1, by rw [G.grow.keep.block b hb (notsub hne g1 h1)]; exact g2, g3, g4, ?_⟩
        refine relP_mono G.grow.mem ?_ cs g5
        intro q x hx
        have : q < H.nx := R.pos_lt hx
        simp only [μ2, if_pos this]; exact hx
    · rcases get k with ⟨j, h1, h2, h3⟩ | ⟨h1, h2⟩
      · rw [h3] at hk
        subst h2
        have hg : Hs.get j = .map es := by
          simp only [backB] at hk
          split at hk
          · exact hk
          · cases hg : Hs.get j with
            | dead => rw [hg] at hk; cases hk
            | cells cs => rw [hg] at hk; cases hk
            | map es' => rw [hg] at hk; exact hk
            | iter k' l c => rw [hg] at hk; simp [renB] at hk
        obtain ⟨b, sz, ents, clock, g1, g2⟩ := R'.maps j es hg
        exact ⟨b, sz, ents, clock, by rw [hμ2]; exact g1, g2⟩
      · rw [h2] at hk
        have hne : H.get k ≠ .dead := by rw [hk]; simp
        obtain ⟨b, sz, ents, clock, g1, g2, g3, g4⟩ := R.maps k es hk
        have hb := blt hne g1
        refine ⟨b, sz, ents, clock, by rw [(old h1 hne).2]; exact g1, by rw [G.grow.keep.block b hb (notsub hne g1 h1)]; exact g2, ?_, g4⟩
        have : ∀ {es : List (AV × AV)} {ents : List MapEntry}, relE M es ents → relE M' es ents := by
          intro es
          induction es with
          | nil => intro ents h; exact h
          | cons x r ih => intro ents h; obtain ⟨e, t, h1, h2, h3, h4⟩ := h; exact ⟨e, t, h1, relV_mono G.grow.mem _ (Pos.le_refl _) h2, relV_mono G.grow.mem _ (Pos.le_refl _) h3, ih h4⟩
        exact this g3
    · rcases get k with ⟨j, h1, h2, h3⟩ | ⟨h1, h2⟩
      · rw [h3] at hk
        subst h2
        have hg : ∃ k0, Hs.get j = .iter k0 left cur ∧ kk = bk k0 := by
          simp only [backB] at hk
          split at hk
          · rename_i q hq
            have := backOk_spec hback j q hq
            rw [Nat.zero_add, hk] at this; exact this.elim
          · cases hg : Hs.get j with
            | dead => rw [hg] at hk; cases hk
            | cells cs => rw [hg] at hk; cases hk
            | map es => rw [hg] at hk; cases hk
            | iter k0 l c => rw [hg] at hk; simp only [renB] at hk; cases hk; exact ⟨k0, rfl, rfl⟩
        obtain ⟨k0, hg, rfl⟩ := hg
        obtain ⟨es, hes⟩ := R'.iter_map hg
        obtain ⟨_, b, s, g1, bm, s2, ents, clock, since, seen, last, g2, g3⟩ := R'.iters j k0 left cur hg
        refine ⟨?_, b, s, by rw [hμ2]; exact g1, bm, s2, ents, clock, since, seen, last, by rw [hμ2]; exact g2, g3⟩
        have hk0 : k0 < Hs.nx := by
          rcases Nat.lt_or_ge k0 Hs.nx with h | h
          · exact h
          · rw [R'.top k0 h] at hes; cases hes
        rcases get (bk k0) with ⟨j', e1, e2, e3⟩ | ⟨e1, _⟩
        · have := inj _ _ e2; subst this
          rw [e3]; simp only [backB, hes, renB]; split <;> simp
        · exact absurd rfl (e1 k0 hk0)
      · rw [h2] at hk
        have hne : H.get k ≠ .dead := by rw [hk]; simp
        obtain ⟨es, hes⟩ := R.iter_map hk
        have hne2 : H.get kk ≠ .dead := by rw [hes]; simp
        have hkk : ∀ j, j < Hs.nx → bk j ≠ kk := by
          intro j hj e
          have hlt' := (old h1 hne).1
          have hno := lentOk_spec hit k hlt' kk left cur hk
          rcases bkc j with ⟨k', d, e1, e2, e3, e4⟩ | ⟨e1, e2⟩
          · have : k' = kk := by rw [← e3, e]
            subst this; exact posOf_some e1 hno
          · have : kk < H.nx := by
              rcases Nat.lt_or_ge kk H.nx with h | h
              · exact h
              · exact absurd (R.top kk h) hne2
            omega
        obtain ⟨_, b, s, g1, bm, s2, ents, clock, since, seen, last, g2, g3, g4, g5, g6, g7, g8, g9⟩ := R.iters k kk left cur hk
        refine ⟨?_, b, s, by rw [(old h1 hne).2]; exact g1, bm, s2, ents, clock, since, seen, last, by rw [(old hkk hne2).2]; exact g2, ?_, ?_, g5, g6, g7, relE_mono G.grow.mem g8, fun c hc => ?_⟩
        · rcases get kk with ⟨j, e1, e2, e3⟩ | ⟨e1, e2⟩
          · exact absurd e2 (hkk j e1)
          · rw [e2]; exact hne2
        · rw [G.grow.keep.block b (blt hne g1) (notsub hne g1 h1)]; exact g3
        · rw [G.grow.keep.block bm (blt hne2 g2) (notsub hne2 g2 hkk)]; exact g4
        · obtain ⟨e, seen0, e1, e2, e3, e4, e5⟩ := g9 c hc
          exact ⟨e, seen0, e1, e2, e3, relV_mono G.grow.mem _ (Pos.le_refl _) e4, relV_mono G.grow.mem _ (Pos.le_refl _) e5⟩
    · have mix : ∀ {i j k : Nat} {s t : Nat}, j < Hs.nx → Hs.get j ≠ .dead → μs j = some (b, s) → H.get k ≠ .dead → μ k = some (b, t) → (∀ j, j < Hs.nx → bk j ≠ k) → False := by
        intro i j k s t h1 h2 h3 h4 h5 h6
        rcases G.grow.own b ⟨j, s, h2, h3⟩ with h | h
        · exact notsub h4 h5 h6 h
        · have := blt h4 h5; omega
      rcases get i with ⟨i', h1, h2, h3⟩ | ⟨h1, h2⟩
      · rw [h3] at hi; have hi := backdead _ hi
        subst h2; rw [hμ2] at hx
        rcases get j with ⟨j', h4, h5, h6⟩ | ⟨h4, h5⟩
        · rw [h6] at hj; have hj := backdead _ hj
          subst h5; rw [hμ2] at hy
          rw [R'.inj i' j' b s t hi hj hx hy]
        · rw [h5] at hj
          rw [(old h4 hj).2] at hy
          exact (mix (i := 0) h1 hi hx hj hy h4).elim
      · rw [h2] at hi
        rw [(old h1 hi).2] at hx
        rcases get j with ⟨j', h4, h5, h6⟩ | ⟨h4, h5⟩
        · rw [h6] at hj; have hj := backdead _ hj
          subst h5; rw [hμ2] at hy
          exact (mix (i := 0) h4 hj hy hi hx h1).elim
        · rw [h5] at hj
          rw [(old h4 hj).2] at hy
          exact R.inj i j b s t hi hj hx hy
    · rcases get k with ⟨j, h1, h2, h3⟩ | ⟨h1, h2⟩
      · rw [h3] at hk
        subst h2; rw [hμ2] at hx
        exact R'.apart j b s (backdead _ hk) hx o
      · rw [h2] at hk
        rw [(old h1 hk).2] at hx
        cases hm : M' b o with
        | none => rfl
        | some u =>
          rcases G.grow.fresh b o u hm with h | h | h
          · rw [R.apart k b s hk hx o] at h; cases h
          · exact absurd h (notsub hk hx h1)
          · have := blt hk hx; omega
  have ownSub : ∀ {b}, Own (subP keep μ) (gcH keep H) b → Own μ H b := fun ho => by
    obtain ⟨j, k', d, s', h1, h2, h3⟩ := sub_own ho
    exact ⟨k', s', h2, h3⟩
  refine ⟨v, M', μ2, lendH keep H Hs, _, rfl, R2, relV_ren hf c hv', ⟨fun k x hx => ?_, ⟨G.grow.mem, fun k hk => ?_, ⟨G.grow.keep.os, G.grow.keep.tape, G.grow.keep.output, G.grow.keep.size, fun b hb hno => G.grow.keep.block b hb (fun h => hno (ownSub h))⟩, fun b hb => ?_, fun b o u hm => ?_⟩, Nat.le_add_right _ _⟩, hk⟩
  · have : k < H.nx := R.pos_lt hx
    simp only [μ2, if_pos this]; exact hx
  · simp only [μ2, if_pos hk]
  · obtain ⟨k, s, hk1, hk2⟩ := hb
    rcases get k with ⟨j, h1, h2, h3⟩ | ⟨h1, h2⟩
    · rw [h3] at hk1
      subst h2; rw [hμ2] at hk2
      exact ownBack ⟨j, s, backdead _ hk1, hk2⟩
    · rw [h2] at hk1
      rw [(old h1 hk1).2] at hk2
      exact .inl ⟨k, s, hk1, hk2⟩
  · rcases G.grow.fresh b o u hm with h | h | h
    · exact .inl h
    · exact .inr (.inl (ownSub h))
    · exact .inr (.inr h)
end Go.Eng

namespace Go.Eng
open Go

variable [Globs]
theorem Branch.neg {b : Bool} {A B : Prop} (yes : b = false → A) (no : b = true → B) : Branch (!b) A B :=
  ⟨fun h => yes (by simpa using h), fun h => no (by simpa using h)⟩
theorem Branch.negdec {p : Prop} [Decidable p] {A B : Prop} (yes : ¬ p → A) (no : p → B) : Branch (!decide p) A B :=
  ⟨fun h => yes (by simpa using h), fun h => no (by simpa using h)⟩
/-- The frame alone is made shorter; the heap stays. -/
def selF (fr : Fr) : List Nat → Fr
  | [] => []
  | t :: r => (t, look fr t) :: selF fr r
theorem Into.slots {n : Nat} {fr : Fr} {H : Heap} (slots : List Nat) : Into n fr H (selF fr slots) H := by
  intro N M μ w tmps R F hn
  refine ⟨M, μ, R, ⟨F.glob, F.size, fun t => ?_⟩, hn, Grow.refl _ _ _ _ _⟩
  have key : ∀ (sl : List Nat), relV M (look (selF fr sl) t) μ (tmps.getD t undef) := by
    intro sl
    induction sl with
    | nil => simp [selF, look, relV]
    | cons q r ih =>
      simp only [selF, look]
      by_cases hq : q = t
      · subst hq; simpa using F.slot q
      · rw [beq_false hq]; exact ih
  exact key slots
theorem To.slots {n : Nat} {fr : Fr} {H : Heap} {J : Fr → Heap → Prop} (slots : List Nat) (h : J (selF fr slots) H) : To n fr H J := ⟨_, _, Into.slots slots, h⟩
theorem RetA.same {n : Nat} {K : AV → Heap → Prop} {v : AV} {H : Heap} (h : K v H) : RetA n K v H :=
  ⟨v, H, fun _ M μ _ _ R F hn => ⟨M, μ, R, F, hn, Grow.refl _ _ _ _ _⟩, h⟩
/-- Arguments of which less is known. -/
theorem CallA.args {P : Program} {f : FuncId} {args args' : List AV} {H : Heap} {K : AV → Heap → Prop} (h : CallA P f args' H K) (ha : ∀ M μ vs, relL M args μ vs → relL M args' μ vs) : CallA P f args H K :=
  ⟨h.ok, fun M μ w vs R hv => h.run M μ w vs R (ha M μ _ hv)⟩
/-! ### A call that leaves what is lent as it was -/
theorem CallA.ext {P : Program} {f : FuncId} {args : List AV} {H : Heap} {K K' : AV → Heap → Prop} (h : CallA P f args H K) (hk : ∀ v H', K v H' → ∃ H'', H'.get = H''.get ∧ H'.nx = H''.nx ∧ K' v H'') : CallA P f args H K' := by
  refine ⟨h.ok, fun M μ w vs R hv => (h.run M μ w vs R hv).mono ?_⟩
  rintro e w' ⟨v, M', μ', H', c, rfl, R', hv', G, hK⟩
  obtain ⟨H'', h1, h2, h3⟩ := hk c H' hK
  exact ⟨v, M', μ', H'', c, rfl, R'.ext h1 h2, hv', ⟨G.le, G.grow.ext h1, h2 ▸ G.nx⟩, h3⟩
theorem lend_same {keep : List (Nat × Bool)} {H : Heap} (hdis : distinct keep = true) (hall : keep.all (·.2) = true) (hlt : keep.all (fun x => Nat.blt x.1 H.nx) = true) : (lendH keep H (gcH keep H)).get = H.get ∧ (lendH keep H (gcH keep H)).nx = H.nx := by
  have hk : ∀ j k d, keep[j]? = some (k, d) → d = true ∧ k < H.nx := fun j k d hj => by
    have hm := List.mem_of_getElem? hj
    have h1 := List.all_eq_true.1 hall _ hm
    have h2 := List.all_eq_true.1 hlt _ hm
    exact ⟨h1, by simpa [Nat.blt_eq] using h2⟩
  have inj : ∀ i j, backK keep H.nx i = backK keep H.nx j → i = j := fun i j hij => by
    unfold backK at hij
    split at hij
    · rename_i k d hi
      split at hij
      · rename_i k' d' hj
        subst hij
        exact distinct_keep hdis i j k d d' hi hj
      · have := (hk i k d hi).2; omega
    · rename_i hi
      split at hij
      · rename_i k' d' hj
        have := (hk j k' d' hj).2; omega
      · rename_i hj
        have h1 : keep.length ≤ i := List.getElem?_eq_none_iff.1 hi
        have h2 : keep.length ≤ j := List.getElem?_eq_none_iff.1 hj
        omega
  refine ⟨funext fun k => ?_, by simp [lendH, gcH]⟩
  have hb := lendBs_get (keep := keep) (nx := H.nx) (H' := gcH keep H) k inj (gcH keep H).nx H.bs
  by_cases hex : ∃ j, j < (gcH keep H).nx ∧ backK keep H.nx j = k
  · obtain ⟨j, hj, hjk⟩ := hex
    have := hb.1 j hj hjk
    simp only [Heap.get, lendH]
    rw [this]
    have hlen : j < keep.length := by simpa [gcH] using hj
    obtain ⟨⟨k', d⟩, hkj⟩ : ∃ x, keep[j] = x := ⟨_, rfl⟩
    have hkj' : keep[j]? = some (k', d) := by rw [List.getElem?_eq_getElem hlen, hkj]
    have hd := (hk j k' d hkj').1
    subst hd
    simp only [backK, hkj'] at hjk
    subst hjk
    simp only [backB, hkj', gcH_get, cond_true]
    rfl
  · have := hb.2 fun j hj hjk => hex ⟨j, hj, hjk⟩
    simp only [Heap.get, lendH]
    exact this
/-- A call to which blocks of data are lent, and which leaves them as they were. -/
theorem CallA.lent {P : Program} {f : FuncId} {args : List AV} {H : Heap} {K : AV → Heap → Prop} {Q : AV → Prop} (keep : List (Nat × Bool)) (h : CallA P f (renL (posOf keep) args) (gcH keep H) fun v H' => Q v ∧ H' = gcH keep H) (hdis : distinct keep = true) (hall : keep.all (·.2) = true) (hdata : allData H keep)
    (hlt : keep.all (fun x => Nat.blt x.1 H.nx) = true) (hback : backOk (gcH keep H) keep 0) (hq : ∀ v, Q v → noLoc v = true) (hK : ∀ v, Q v → K v H) (hit : lentOk keep H.get H.nx = true := by rfl) : CallA P f args H K := by
  refine CallA.ext (K := fun v H' => Q v ∧ H' = lendH keep H (gcH keep H)) (CallA.lend keep h hdis hdata hlt ?_ hit) ?_
  · rintro c H' ⟨hc, rfl⟩
    exact ⟨hback, by rw [ren_data _ _ (hq c hc)]; exact hc, rfl⟩
  · rintro v H' ⟨hv, rfl⟩
    exact ⟨H, (lend_same hdis hall hlt).1, (lend_same hdis hall hlt).2, hK v hv⟩
end Go.Eng

namespace Go.Eng
open Go

variable [Globs]
/-! ### What is handed out becomes data, as far as it reaches -/
def pubAll (f : AV → Option AV) : List AV → Option (List AV)
  | [] => some []
  | c :: r => match f c with
    | some c' => match pubAll f r with
      | some r' => some (c' :: r')
      | none => none
    | none => none
def pubE (η : Nat → AB) : Nat → AV → Option AV
  | 0, v => bif noLoc v then some v else none
  | n + 1, .slice k off len cap e => match η k with
    | .cells cs => match pubAll (pubE η n) ((cs.drop off).take (len * e)) with
      | some l => some (.dslice l len cap)
      | none => none
    | _ => none
  | n + 1, .ptr k off => match η k with
    | .cells cs => match pubAll (pubE η n) (cs.drop off) with
      | some l => some (.dptr l)
      | none => none
    | _ => none
  | n + 1, .agg cs => match pubAll (pubE η n) cs with
    | some l => some (.agg l)
    | none => none
  | n + 1, .tuple cs => match pubAll (pubE η n) cs with
    | some l => some (.tuple l)
    | none => none
  | n + 1, .func g cs => match pubAll (pubE η n) cs with
    | some l => some (.func g l)
    | none => none
  | _ + 1, .map _ => none
  | _ + 1, v => some v

section
variable {M M' : Mem} {μ : Pos} {H : Heap} {w : World}
theorem pubAll_rel {f : AV → Option AV} {ρ : Pos} (hf : ∀ c c' v, f c = some c' → relV M c μ v → relV M' c' ρ v) : ∀ {cs l : List AV} {vs : List Value}, pubAll f cs = some l → relL M cs μ vs → relL M' l ρ vs
  | [], l, vs, h, hr => by simp only [pubAll] at h; cases h; simpa only [relL] using hr
  | c :: r, l, vs, h, hr => by
    simp only [pubAll] at h
    split at h
    · rename_i c' hc
      split at h
      · rename_i r' hr'; cases h
        simp only [relL] at hr ⊢
        obtain ⟨v, t, rfl, h1, h2⟩ := hr
        exact ⟨v, t, rfl, hf _ _ _ hc h1, pubAll_rel hf hr' h2⟩
      · cases h
    · cases h
theorem pubAll_get {f : AV → Option AV} : ∀ {cs l : List AV}, pubAll f cs = some l → ∀ (i : Nat) (c' : AV), l[i]? = some c' → ∃ c, cs[i]? = some c ∧ f c = some c'
  | [], l, h, i, c', hi => by simp only [pubAll] at h; cases h; simp at hi
  | c :: r, l, h, i, c', hi => by
    simp only [pubAll] at h
    split at h
    · rename_i c1 hc
      split at h
      · rename_i r' hr'; cases h
        cases i with
        | zero => simp at hi; subst hi; exact ⟨c, rfl, hc⟩
        | succ i => simp at hi; obtain ⟨d, h1, h2⟩ := pubAll_get hr' i c' hi; exact ⟨d, by simpa using h1, h2⟩
      · cases h
    · cases h
theorem cells_out (R : Rel M μ H w) (hM' : ∀ b o, Own μ H b → M' b o = w.cell? ⟨b, o, none⟩) {k b sz : Nat} {cs : List AV} (hk : H.get k = .cells cs) (hμ : μ k = some (b, sz)) {f : AV → Option AV}
    (hf : ∀ c c' v, f c = some c' → relV M c μ v → relV M' c' Pos.none v) {off : Nat} {ds l : List AV} (hd : ∀ i c, ds[i]? = some c → cs[off + i]? = some c) (hp : pubAll f ds = some l) : relM M' l b off := by
  obtain ⟨b', sz', c, el, fz, h1, h2, _, _, hP⟩ := R.cells k cs hk
  rw [hμ] at h1; cases h1
  refine relM_of_get fun i c' hi => ?_
  obtain ⟨d, h3, h4⟩ := pubAll_get hp i c' hi
  obtain ⟨u, hu, hr⟩ := relP_get hP (hd i d h3)
  refine ⟨u, ?_, hf _ _ _ h4 hr⟩
  rw [hM' b _ ⟨k, sz, by rw [hk]; simp, hμ⟩]
  simp only [World.cell?, h2]
  simpa using hu
theorem pubE_rel (R : Rel M μ H w) (hle : Mem.le M M') (hM' : ∀ b o, Own μ H b → M' b o = w.cell? ⟨b, o, none⟩) : ∀ (n : Nat) (c c' : AV) (v : Value), pubE H.get n c = some c' → relV M c μ v → relV M' c' Pos.none v
  | 0, c, c', v, h, hr => by
    simp only [pubE] at h
    cases hn : noLoc c <;> simp only [hn, cond_true, cond_false] at h
    · cases h
    · cases h; exact relV_data c hn (relV_mono hle c (Pos.le_refl _) hr)
  | n + 1, c, c', v, h, hr => by
    have ih := pubE_rel R hle hM' n
    cases c <;> simp only [pubE] at h
    case slice k off len cap e =>
      split at h
      · rename_i cs hk
        split at h
        · rename_i l hl; cases h
          simp only [relV] at hr ⊢
          obtain ⟨b, sz, q, h1, rfl, h3, h4, h5⟩ := hr
          exact .inl ⟨b, off, q, rfl, h3, h5, cells_out R hM' hk h1 ih (fun i c hi => by
            rw [List.getElem?_take] at hi
            split at hi
            · rwa [List.getElem?_drop] at hi
            · cases hi) hl⟩
        · cases h
      · cases h
    case ptr k off =>
      split at h
      · rename_i cs hk
        split at h
        · rename_i l hl; cases h
          simp only [relV] at hr ⊢
          obtain ⟨b, sz, h1, rfl⟩ := hr
          exact ⟨b, off, rfl, cells_out R hM' hk h1 ih (fun i c hi => by rwa [List.getElem?_drop] at hi) hl⟩
        · cases h
      · cases h
    case agg cs =>
      split at h
      · rename_i l hl; cases h
        simp only [relV] at hr ⊢
        obtain ⟨vs, rfl, hr⟩ := hr
        exact ⟨vs, rfl, pubAll_rel ih hl hr⟩
      · cases h
    case tuple cs =>
      split at h
      · rename_i l hl; cases h
        simp only [relV] at hr ⊢
        obtain ⟨vs, rfl, hr⟩ := hr
        exact ⟨vs, rfl, pubAll_rel ih hl hr⟩
      · cases h
    case func g cs =>
      split at h
      · rename_i l hl; cases h
        simp only [relV] at hr ⊢
        obtain ⟨vs, rfl, hr⟩ := hr
        exact ⟨vs, rfl, pubAll_rel ih hl hr⟩
      · cases h
    case map k => cases h
    all_goals (cases h; exact relV_data _ rfl (relV_mono hle _ (Pos.le_refl _) hr))
end
theorem Into.out {fr : Fr} {H : Heap} {v r : AV} (m : Nat) (h : pubE H.get m v = some r) : Into 0 ((0, v) :: fr) H [(0, r)] Heap.nil := by
  intro N M μ w tmps R F _
  let M' : Mem := fun b o => open Classical in if Own μ H b then w.cell? ⟨b, o, none⟩ else M b o
  have hO : ∀ b o, Own μ H b → M' b o = w.cell? ⟨b, o, none⟩ := fun b o hb => by simp [M', hb]
  have hN : ∀ b o, ¬ Own μ H b → M' b o = M b o := fun b o hb => by simp [M', hb]
  have hle : Mem.le M M' := fun b o u hu => by
    by_cases hb : Own μ H b
    · rw [hO b o hb]; exact R.imm b o u hu
    · rw [hN b o hb]; exact hu
  refine ⟨M', Pos.none, ⟨R.glob.mono (by first | assumption | exact Mem.le_refl _), fun _ _ => rfl, fun _ _ => rfl, fun k cs h => by simp [Heap.get, Heap.nil, bget] at h, fun k cs h => by simp [Heap.get, Heap.nil, bget] at h, fun j k l c h => by simp [Heap.get, Heap.nil, bget] at h, fun i j b s t h => by simp [Heap.get, Heap.nil, bget] at h, fun b o u hu => ?_, fun k b s h => by simp [Heap.get, Heap.nil, bget] at h⟩, ⟨R.glob.mono hle, F.size, fun t => ?_⟩, Nat.zero_le _, ⟨hle, fun k hk => by omega, ⟨rfl, rfl, rfl, Nat.le_refl _, fun _ _ _ => rfl⟩, fun b hb => absurd hb own_nil, fun b o u hu => ?_⟩⟩
  · by_cases hb : Own μ H b
    · rw [hO b o hb] at hu; exact hu
    · rw [hN b o hb] at hu; exact R.imm b o u hu
  · simp only [look]
    by_cases e : 0 = t
    · subst e
      have := F.slot 0
      simp only [look, Nat.beq_refl, cond_true] at this ⊢
      exact pubE_rel R hle hO m _ _ _ h this
    · rw [beq_false e]; simp [relV]
  · by_cases hb : Own μ H b
    · exact .inr (.inl hb)
    · rw [hN b o hb] at hu; exact .inl hu
/-- **A result is handed out as data**, whatever of the heap it reaches. -/
theorem RetA.out {K : AV → Heap → Prop} {v r : AV} {H : Heap} (m : Nat) (h : pubE H.get m v = some r) (hk : K r Heap.nil) : RetA 0 K v H :=
  ⟨r, Heap.nil, Into.out m h, hk⟩
theorem CallA.out {P : Program} {f : FuncId} {vs : List AV} {K0 K : AV → Heap → Prop} (m : Nat) (h : CallA P f vs Heap.nil K0) (hk : ∀ v H', K0 v H' → ∃ r, pubE H'.get m v = some r ∧ K r Heap.nil) : CallA P f vs Heap.nil K := by
  refine ⟨h.ok, fun M μ w vs0 R hv => (h.run M μ w vs0 R hv).mono ?_⟩
  rintro e w' ⟨v, M', μ', H', c, rfl, R', hv', G, hK⟩
  have hμ : μ = Pos.none := funext fun k => R.dom k (Nat.zero_le _)
  subst hμ
  obtain ⟨r, hr, hk⟩ := hk c H' hK
  obtain ⟨M2, μ2, R2, F2, _, G2⟩ := Into.out (fr := []) m hr 1 M' μ' w' #[v] R' ⟨R'.glob, rfl, fun t => by
    simp only [look]
    by_cases e : 0 = t
    · subst e; simpa using hv'
    · rw [beq_false e]; simp [relV]⟩ (Nat.zero_le _)
  have := F2.slot 0
  refine ⟨v, M2, μ2, Heap.nil, r, rfl, R2, by simpa [look] using this, ⟨(fun k x h => nomatch h), G.grow.trans G2, Nat.le_refl _⟩, hk⟩
end Go.Eng

namespace Go.Eng
open Go Go.ChangeShapes Go.WideShapes Go.RowKit

variable [Globs]
/-! ### From a contract to a statement: what arguments look like -/
inductive Sh where
  | b
  | i (k : IntKind)
  | str
  | sl (e : Sh)
  | ar (n : Nat) (e : Sh)
  | ag (l : List Sh)
mutual
def Ty : Sh → Type
  | .b => Bool
  | .i _ => Int
  | .str => ByteArray
  | .sl e => List (Ty e)
  | .ar _ e => List (Ty e)
  | .ag l => Tys l
def Tys : List Sh → Type
  | [] => Unit
  | s :: r => Ty s × Tys r
end
mutual
def cellsT : (s : Sh) → Ty s → List AV
  | .b, x => [.bool x]
  | .i k, x => [.int k x]
  | .str, x => [.str x]
  | .sl e, l => [.dslice (List.flatMap (cellsT e) l) (List.length l) none]
  | .ar _ e, l => List.flatMap (cellsT e) l
  | .ag l, x => cellsTs l x
def cellsTs : (l : List Sh) → Tys l → List AV
  | [], _ => []
  | s :: r, x => cellsT s x.1 ++ cellsTs r x.2
end
mutual
def wfT : (s : Sh) → Ty s → Prop
  | .b, _ => True
  | .i k, x => let n : Int := x; k.min ≤ n ∧ n ≤ k.max
  | .str, x => ByteArray.size x ≤ maxLen
  | .sl e, l => (∀ x, List.Mem x l → wfT e x) ∧ List.length l ≤ maxLen
  | .ar n e, l => (∀ x, List.Mem x l → wfT e x) ∧ List.length l = n
  | .ag l, x => wfTs l x
def wfTs : (l : List Sh) → Tys l → Prop
  | [], _ => True
  | s :: r, x => wfT s x.1 ∧ wfTs r x.2
end
mutual
def widthT : Sh → Nat
  | .b | .i _ | .str | .sl _ => 1
  | .ar n e => n * widthT e
  | .ag l => widthTs l
def widthTs : List Sh → Nat
  | [] => 0
  | s :: r => widthT s + widthTs r
end
mutual
def noSl : Sh → Bool
  | .sl _ => false
  | .ar _ e => noSl e
  | .ag l => noSls l
  | _ => true
def noSls : List Sh → Bool
  | [] => true
  | s :: r => noSl s && noSls r
end
/-- Fields that lie behind each other. -/
def shFs (P : Program) (g : TypeId → Option Sh) : List Field → Nat → Option (List Sh)
  | [], _ => some []
  | f :: r, off => bif Nat.beq f.offset off then (match g f.type with
    | some s => bif Nat.beq (P.cellsOf f.type) (widthT s) then (match shFs P g r (off + widthT s) with
      | some l => some (s :: l)
      | none => none) else none
    | none => none) else none
def shOf (P : Program) : Nat → TypeId → Option Sh
  | 0, _ => none
  | n + 1, t => match P.underlying t with
    | some .bool => some .b
    | some (.int k) => some (.i k)
    | some .string => some .str
    | some (.slice e) => match shOf P n e with
      | some s => bif Nat.beq (P.cellsOf e) (widthT s) && Nat.blt 0 (widthT s) then some (.sl s) else none
      | none => none
    | some (.array m e) => match shOf P n e with
      | some s => bif Nat.beq (P.cellsOf e) (widthT s) && Nat.beq (P.cellsOf t) (m * widthT s) then some (.ar m s) else none
      | none => none
    | some (.struct fs) => match shFs P (shOf P n) fs.toList 0 with
      | some l => bif Nat.beq (P.cellsOf t) (widthTs l) then some (.ag l) else none
      | none => none
    | _ => none

def Mw (w : World) : Mem := fun b o => w.cell? ⟨b, o, none⟩
section
variable {H : Type} {enc : TypeId × Value → H} {P : Program} {w : World} {sp : Nat → Bool} {held : Bool}
theorem flat_wf_len {e : Sh} (he : ∀ x : Ty e, wfT e x → (cellsT e x).length = widthT e) : ∀ l : List (Ty e), (∀ x, List.Mem x l → wfT e x) → (List.flatMap (cellsT e) l).length = l.length * widthT e
  | [], _ => by simp
  | x :: r, h => by
    rw [List.flatMap_cons, List.length_append, he x (h x (.head _)), flat_wf_len he r (fun y hy => h y (.tail _ hy)), List.length_cons, Nat.add_mul]; omega
mutual
theorem cellsT_len : ∀ (s : Sh) (x : Ty s), wfT s x → (cellsT s x).length = widthT s
  | .b, _, _ => by simp only [cellsT, widthT]; rfl
  | .i k, _, _ => by simp only [cellsT, widthT]; rfl
  | .str, _, _ => by simp only [cellsT, widthT]; rfl
  | .sl e, _, _ => by simp only [cellsT, widthT]; rfl
  | .ar n e, l, h => by
    simp only [wfT] at h
    simp only [cellsT, widthT]
    rw [flat_wf_len (cellsT_len e) l h.1, h.2]
  | .ag l, x, h => by
    simp only [wfT] at h
    simp only [cellsT, widthT]; exact cellsTs_len l x h
theorem cellsTs_len : ∀ (l : List Sh) (x : Tys l), wfTs l x → (cellsTs l x).length = widthTs l
  | [], _, _ => by simp only [cellsTs, widthTs]; rfl
  | s :: r, x, h => by
    simp only [wfTs] at h
    simp only [cellsTs, widthTs, List.length_append]
    rw [cellsT_len s x.1 h.1, cellsTs_len r x.2 h.2]
end

theorem relL_app {M : Mem} {μ : Pos} {cs ds : List AV} {vs us : List Value} (h : relL M cs μ vs) (k : relL M ds μ us) : relL M (cs ++ ds) μ (vs ++ us) := relL_append h k
/-- What the reading gives of a row of cells. -/
def Reads (w : World) (s : Sh) (cs : List Value) : Prop := ∃ x : Ty s, wfT s x ∧ relL (Mw w) (cellsT s x) Pos.none cs
def ReadsAll (w : World) (l : List Sh) (cs : List Value) : Prop := ∃ x : Tys l, wfTs l x ∧ relL (Mw w) (cellsTs l x) Pos.none cs
theorem take_off (cs : List Value) (off a b : Nat) : (cs.drop off).take (a + b) = (cs.drop off).take a ++ (cs.drop (off + a)).take b := by
  rw [List.take_add, List.drop_drop]
def plainAt (v : Value) : Prop := ∀ a len cap, v = .slice (some a) len cap → a.spot = none
def SpOK (s : Sh) (cs : List Value) : Prop := noSl s = true ∨ ∀ v ∈ cs, plainAt v
theorem mem_part {v : Value} {cs : List Value} {a b : Nat} (h : v ∈ (cs.drop a).take b) : v ∈ cs := List.mem_of_mem_drop (List.mem_of_mem_take h)
theorem shFs_reads {g : TypeId → Option Sh} : ∀ {fs : List Field} {off : Nat} {l : List Sh} {cs : List Value}, shFs P g fs off = some l →
    (∀ f ∈ fs, ∀ s, g f.type = some s → Reads w s ((cs.drop f.offset).take (P.cellsOf f.type))) → ReadsAll w l ((cs.drop off).take (widthTs l))
  | [], off, l, cs, h, _ => by
    simp only [shFs] at h; cases h
    exact ⟨(), by simp only [wfTs], by simp [cellsTs, widthTs, relL]⟩
  | f :: r, off, l, cs, h, hr => by
    simp only [shFs] at h
    cases hb : Nat.beq f.offset off <;> simp only [hb, cond_true, cond_false] at h
    · cases h
    have hoff := Nat.eq_of_beq_eq_true hb
    split at h
    · rename_i s hs
      cases hc : Nat.beq (P.cellsOf f.type) (widthT s) <;> simp only [hc, cond_true, cond_false] at h
      · cases h
      have hw := Nat.eq_of_beq_eq_true hc
      split at h
      · rename_i l' hl; cases h
        obtain ⟨x, h1, h2⟩ := hr f (List.mem_cons_self ..) s hs
        obtain ⟨y, h3, h4⟩ := shFs_reads (cs := cs) hl fun f' hf' => hr f' (List.mem_cons_of_mem _ hf')
        refine ⟨(x, y), by simp only [wfTs]; exact ⟨h1, h3⟩, ?_⟩
        simp only [cellsTs, widthTs, take_off]
        rw [hoff, hw] at h2
        exact relL_app h2 h4
      · cases h
    · cases h
theorem chunks {e : Sh} {k : Nat} : ∀ (n : Nat) (cs : List Value), (∀ i, i < n → Reads w e ((cs.drop (i * k)).take k)) → ∃ l : List (Ty e), l.length = n ∧ (∀ x, List.Mem x l → wfT e x) ∧ relL (Mw w) (List.flatMap (cellsT e) l) Pos.none (cs.take (n * k))
  | 0, cs, _ => ⟨[], rfl, (fun x h => nomatch h), by simp [relL]⟩
  | n + 1, cs, h => by
    obtain ⟨x, h1, h2⟩ := h 0 (by omega)
    obtain ⟨l, h3, h4, h5⟩ := chunks n (cs.drop k) fun i hi => by
      have := h (i + 1) (by omega)
      rw [List.drop_drop]
      rw [show k + i * k = (i + 1) * k by rw [Nat.add_mul]; omega]; exact this
    refine ⟨x :: l, by simp [h3], fun y hy => ?_, ?_⟩
    · cases hy with
      | head => exact h1
      | tail _ hy => exact h4 y hy
    · rw [List.flatMap_cons, show (n + 1) * k = k + n * k by rw [Nat.add_mul]; omega, List.take_add]
      simp only [Nat.zero_mul, List.drop_zero] at h2
      exact relL_app h2 h5
theorem mapM_range {α : Type} {f : Nat → Option α} {n : Nat} {xs : List α} (h : (List.range n).mapM f = some xs) : xs.length = n ∧ ∀ i, i < n → ∃ y, f i = some y :=
  ⟨by simpa using mapM_some_length h, fun i hi => mapM_each h i (List.mem_range.2 hi)⟩
theorem cells?_rel {a : Addr} {n : Nat} {cs : List Value} (h : w.cells? 0 a n = some cs) : cs.length = n ∧ ∀ i v, cs[i]? = some v → w.cell? (a.add i) = some v := by
  unfold World.cells? at h
  rw [if_pos (Nat.zero_le _)] at h
  have hl : cs.length = n := by simpa using mapM_some_length h
  refine ⟨hl, fun i v hi => ?_⟩
  have hi' : i < n := by rw [← hl]; exact (List.getElem?_eq_some_iff.1 hi).1
  have := mapM_some_get h i i (by simp [hi'])
  rw [this]; exact hi
theorem reads_of_trod : ∀ (k : Nat) (t : TypeId) (s : Sh) (n : Nat) (cs : List Value) (x : DataW H × List MemPlace), shOf P k t = some s → DataW.trod enc P w 0 sp held n t cs = some x → Reads w s cs
  | 0, _, _, _, _, _, h, _ => by simp [shOf] at h
  | k + 1, t, s, n, cs, x, h, hd => by
    simp only [shOf] at h
    split at h
    · rename_i ht; cases h
      obtain ⟨b, rfl, _⟩ := DataW.trod_bool ht hd
      exact ⟨b, by simp only [wfT], by simp [cellsT, relL, relV]⟩
    · rename_i kk ht; cases h
      obtain ⟨m, rfl, _, hw⟩ := DataW.trod_int ht hd
      refine ⟨(m : Int), ?_, by simp [cellsT, relL, relV]⟩
      simp only [wfT]
      simpa [Lit.wf] using hw
    · rename_i ht; cases h
      obtain ⟨b, rfl, _, hs⟩ := DataW.trod_string ht hd
      exact ⟨b, by simp only [wfT]; exact hs, by simp [cellsT, relL, relV]⟩
    · rename_i e ht
      split at h
      · rename_i s' hs
        cases hb : (Nat.beq (P.cellsOf e) (widthT s') && Nat.blt 0 (widthT s')) <;> simp only [hb, cond_true, cond_false] at h
        · cases h
        cases h
        simp only [Bool.and_eq_true] at hb
        have hwd := Nat.eq_of_beq_eq_true hb.1
        cases n with
        | zero => simp [DataW.trod] at hd
        | succ m =>
          unfold DataW.trod at hd
          rw [ht] at hd
          split at hd <;> try (first | (rename_i hh; cases hh; done) | (rename_i hh _; cases hh; done))
          · refine ⟨([] : List (Ty s')), ?_, ?_⟩
            · simp only [wfT]; exact ⟨(fun x h => nomatch h), Nat.zero_le _⟩
            · simp only [cellsT, relL]
              refine ⟨_, [], rfl, ?_, rfl⟩
              simp only [relV]
              exact .inr (.inl ⟨by first | rfl | trivial, rfl, rfl, fun c0 h => by cases h⟩)
          · rename_i a len cap hh
            cases hh
            have hpos : 0 < widthT s' := by simpa [Nat.blt_eq] using hb.2
            simp only at hd
            split at hd
            · rename_i hc
              simp only [Option.bind_eq_some_iff] at hd
              obtain ⟨elems, he, _⟩ := hd
              obtain ⟨hl, hel⟩ := mapM_range he
              -- the cells, one element behind the other
              have cellOf : ∀ i, i < len → ∃ cs', w.cells? 0 (a.add (i * P.cellsOf e)) (P.cellsOf e) = some cs' ∧ Reads w s' cs' := fun i hi => by
                obtain ⟨y, hy⟩ := hel i hi
                simp only [Option.bind_eq_some_iff] at hy
                obtain ⟨cs', h1, h2⟩ := hy
                exact ⟨cs', h1, reads_of_trod k _ _ _ _ _ hs h2⟩
              by_cases hlen0 : len = 0
              · subst hlen0
                refine ⟨([] : List (Ty s')), by simp only [wfT]; exact ⟨(fun x h => nomatch h), Nat.zero_le _⟩, ?_⟩
                simp only [cellsT, relL]
                refine ⟨_, [], rfl, ?_, rfl⟩
                simp only [relV]
                obtain ⟨ab, ao, asp⟩ := a
                cases asp with
                | none => exact .inl ⟨ab, ao, cap, rfl, Nat.zero_le _, (fun c0 h => by cases h), by simp [relM]⟩
                | some q => exact .inr (.inr ⟨ab, ao, q, cap, rfl, rfl, rfl, fun c0 h => by cases h⟩)
              have hspot : a.spot = none := by
                obtain ⟨cs', h1, _⟩ := cellOf 0 (by omega)
                obtain ⟨hlen, hcell⟩ := cells?_rel h1
                have h0 : 0 < cs'.length := by rw [hlen, hwd]; exact hpos
                have := hcell 0 cs'[0] (by simp [h0])
                rw [Nat.zero_mul] at this
                have ea : (a.add 0).add 0 = a := by simp [Addr.add]
                rw [ea] at this
                unfold World.cell? at this
                split at this
                · cases hs : a.spot with
                  | none => rfl
                  | some q => rw [hs] at this; simp at this
                · cases this
              have hadd : ∀ i, a.add i = ⟨a.block, a.off + i, none⟩ := fun i => by
                unfold Addr.add
                split
                · rename_i h0; subst h0; cases a; simp only at hspot ⊢; subst hspot; rfl
                · rfl
              have build : ∀ j, j ≤ len → ∃ l : List (Ty s'), l.length = j ∧ (∀ x, List.Mem x l → wfT s' x) ∧ relM (Mw w) (List.flatMap (cellsT s') l) a.block (a.off + (len - j) * P.cellsOf e) := by
                intro j
                induction j with
                | zero => exact fun _ => ⟨[], rfl, (fun x h => nomatch h), by simp [relM]⟩
                | succ j ih =>
                  intro hj
                  obtain ⟨l, h3, h4, h5⟩ := ih (by omega)
                  obtain ⟨cs', h1, x, h6, h7⟩ := cellOf (len - (j + 1)) (by omega)
                  obtain ⟨hlen, hcell⟩ := cells?_rel h1
                  refine ⟨x :: l, by simp [h3], fun y hy => ?_, ?_⟩
                  · cases hy with
                    | head => exact h6
                    | tail _ hy => exact h4 y hy
                  · rw [List.flatMap_cons]
                    refine relM_of_get fun i c hi => ?_
                    by_cases hil : i < (cellsT s' x).length
                    · rw [List.getElem?_append_left hil] at hi
                      obtain ⟨u, hu, hr⟩ := relL_get h7 hi
                      refine ⟨u, ?_, hr⟩
                      have := hcell i u hu
                      rw [hadd, Go.Eng.add_addr] at this
                      exact this
                    · rw [List.getElem?_append_right (by omega)] at hi
                      obtain ⟨u, hu, hr⟩ := relM_get h5 hi
                      refine ⟨u, ?_, hr⟩
                      rw [cellsT_len s' x h6, ← hwd] at hu hil
                      rw [← hu]
                      congr 1
                      have : (len - j) * P.cellsOf e = (len - (j + 1)) * P.cellsOf e + P.cellsOf e := by
                        rw [show len - j = len - (j + 1) + 1 by omega, Nat.add_mul]; omega
                      omega
              obtain ⟨l, h3, h4, h5⟩ := build len (Nat.le_refl _)
              refine ⟨l, ?_, ?_⟩
              · simp only [wfT]; exact ⟨h4, by rw [h3]; omega⟩
              · simp only [cellsT, relL]
                refine ⟨_, [], rfl, ?_, rfl⟩
                simp only [relV]
                refine .inl ⟨a.block, a.off, cap, ?_, by rw [h3]; exact hc.2.1, (fun c0 h => by cases h), ?_⟩
                · rw [h3]; cases a; simp only at hspot ⊢; subst hspot; rfl
                · rw [Nat.sub_self, Nat.zero_mul] at h5; exact h5
            · cases hd
          · cases hd
      · cases h
    · rename_i mm e ht
      split at h
      · rename_i s' hs
        cases hb : (Nat.beq (P.cellsOf e) (widthT s') && Nat.beq (P.cellsOf t) (mm * widthT s')) <;> simp only [hb, cond_true, cond_false] at h
        · cases h
        cases h
        simp only [Bool.and_eq_true] at hb
        have hwd := Nat.eq_of_beq_eq_true hb.1
        have hwd2 := Nat.eq_of_beq_eq_true hb.2
        obtain ⟨xs, m, rfl, _, hl, hxl, hx⟩ := DataW.trod_array ht hd
        obtain ⟨l, h3, h4, h5⟩ := chunks (w := w) (e := s') (k := P.cellsOf e) mm cs fun i hi => by
          have := hx i hi
          rw [List.getElem?_eq_getElem (by omega)] at this
          exact reads_of_trod k _ _ _ _ _ hs this
        refine ⟨l, by simp only [wfT]; exact ⟨h4, h3⟩, ?_⟩
        simp only [cellsT]
        rw [List.take_of_length_le (by rw [hl, hwd, hwd2]; exact Nat.le_refl _)] at h5
        exact h5
      · cases h
    · rename_i fs ht
      split at h
      · rename_i l hl
        cases hb : Nat.beq (P.cellsOf t) (widthTs l) <;> simp only [hb, cond_true, cond_false] at h
        · cases h
        cases h
        have hwd := Nat.eq_of_beq_eq_true hb
        obtain ⟨xs, m, rfl, _, hlen, hxl, hx⟩ := DataW.trod_struct ht hd
        have := shFs_reads (w := w) (cs := cs) hl fun f hf s' hs' => by
          obtain ⟨i, hi⟩ := List.getElem?_of_mem hf
          have hi' : fs[i]? = some f := by simpa using hi
          have h1 := hx i f hi'
          have h2 : i < xs.length := by rw [hxl]; exact (Array.getElem?_eq_some_iff.1 hi').1
          rw [List.getElem?_eq_getElem h2] at h1
          exact reads_of_trod k _ _ _ _ _ hs' h1
        obtain ⟨y, h1, h2⟩ := this
        refine ⟨y, by simp only [wfT]; exact h1, ?_⟩
        simp only [cellsT]
        rw [List.drop_zero, List.take_of_length_le (by omega)] at h2
        exact h2
      · cases h
    · cases h
end
end Go.Eng

namespace Go.Eng
open Go Go.ChangeShapes Go.WideShapes Go.RowKit

variable [Globs]
def argT : (s : Sh) → Ty s → AV
  | .b, x => .bool x
  | .i k, x => .int k x
  | .str, x => .str x
  | .sl e, l => .dslice (List.flatMap (cellsT e) l) (List.length l) none
  | .ar n e, l => .agg (cellsT (.ar n e) l)
  | .ag l, x => .agg (cellsT (.ag l) x)
def argTs : (l : List Sh) → Tys l → List AV
  | [], _ => []
  | s :: r, x => argT s x.1 :: argTs r x.2
def shAll (P : Program) : List TypeId → Option (List Sh)
  | [] => some []
  | t :: r => match shOf P 20 t with
    | some s => match shAll P r with
      | some l => some (s :: l)
      | none => none
    | none => none

section
variable {H : Type} {enc : TypeId × Value → H} {P : Program} {w : World} {sp : Nat → Bool} {held : Bool}
theorem plain_of_ok {r : Reach} {base : Nat} {t : TypeId} {v : Value} (h : Cell.okWide P w r base t v) : plainAt v := by
  rintro a len cap rfl
  unfold Cell.okWide at h
  split at h <;> first | (rename_i h2; cases h2; done) | (rename_i h1 h2; cases h2; done) | skip
  unfold Cell.ok at h
  split at h <;> first | exact h.elim | (rename_i h1 h2; cases h2; done) | skip
  · rename_i h1 h2
    cases h2
    exact h.2.2.2.1
theorem row_plain {r : Reach} {base : Nat} {t : TypeId} {cs : Array Value} (h : Row.okWide P w r base t cs) : ∀ v ∈ cs.toList, plainAt v := by
  obtain ⟨ts, _, _, hc⟩ := h
  intro v hv
  obtain ⟨i, hi⟩ := List.getElem?_of_mem hv
  obtain ⟨u, _, hok⟩ := hc i v (by simpa using hi)
  exact plain_of_ok hok
/-- A value of one cell. -/
theorem one_of_ok {r : Reach} {base : Nat} {t : TypeId} {v : Value} (h : Value.okWide P w r base t v) (hs : ∀ fs, P.underlying t ≠ some (.struct fs)) (ha : ∀ n e, P.underlying t ≠ some (.array n e)) : v.cells = #[v] ∧ plainAt v := by
  have hc : Cell.okWide P w r base t v := by
    unfold Value.okWide at h
    split at h
    · rename_i fs hf; exact absurd hf (hs fs)
    · rename_i n e hf; exact absurd hf (ha n e)
    · exact h
  refine ⟨?_, plain_of_ok hc⟩
  cases v with
  | agg cs =>
    unfold Cell.okWide at hc
    split at hc <;> first | (rename_i h1 h2; cases h2; done) | skip
    unfold Cell.ok at hc
    split at hc <;> first | exact hc.elim | (rename_i h1 h2; cases h2; done)
  | _ => rfl
theorem agg_of_ok {r : Reach} {base : Nat} {t : TypeId} {v : Value} (h : Value.okWide P w r base t v) (hs : (∃ fs, P.underlying t = some (.struct fs)) ∨ ∃ n e, P.underlying t = some (.array n e)) : ∃ cs, v = .agg cs ∧ ∀ u ∈ cs.toList, plainAt u := by
  unfold Value.okWide at h
  split at h
  · obtain ⟨cs, rfl, _, hr⟩ := h; exact ⟨cs, rfl, row_plain hr⟩
  · obtain ⟨cs, rfl, _, hr⟩ := h; exact ⟨cs, rfl, row_plain hr⟩
  · rename_i h1 h2
    rcases hs with ⟨fs, hf⟩ | ⟨n, e, hf⟩
    · exact absurd hf (h1 fs)
    · exact absurd hf (h2 n e)
/-- What a type's shape says of the type. -/
def aggFact (P : Program) (t : TypeId) : Sh → Prop
  | .ar _ _ => ∃ n e, P.underlying t = some (.array n e)
  | .ag _ => ∃ fs, P.underlying t = some (.struct fs)
  | _ => (∀ fs, P.underlying t ≠ some (.struct fs)) ∧ ∀ n e, P.underlying t ≠ some (.array n e)
theorem shOf_agg {k : Nat} {t : TypeId} {s : Sh} (h : shOf P k t = some s) : aggFact P t s := by
  cases k with
  | zero => simp [shOf] at h
  | succ k =>
    simp only [shOf] at h
    split at h
    · rename_i ht; cases h; simp [aggFact, ht]
    · rename_i ht; cases h; simp [aggFact, ht]
    · rename_i ht; cases h; simp [aggFact, ht]
    · rename_i e ht
      split at h
      · rename_i s' hs
        cases hb : (Nat.beq (P.cellsOf e) (widthT s') && Nat.blt 0 (widthT s')) <;> simp only [hb, cond_true, cond_false] at h
        · cases h
        · cases h; simp [aggFact, ht]
      · cases h
    · rename_i m e ht
      split at h
      · rename_i s' hs
        cases hb : (Nat.beq (P.cellsOf e) (widthT s') && Nat.beq (P.cellsOf t) (m * widthT s')) <;> simp only [hb, cond_true, cond_false] at h
        · cases h
        · cases h; exact ⟨_, _, ht⟩
      · cases h
    · rename_i fs ht
      split at h
      · rename_i l hl
        cases hb : Nat.beq (P.cellsOf t) (widthTs l) <;> simp only [hb, cond_true, cond_false] at h
        · cases h
        · cases h; exact ⟨_, ht⟩
      · cases h
    · cases h
theorem arg_reads {r : Reach} {base : Nat} {t : TypeId} {s : Sh} {v : Value} {d : DataW H} {ps : List MemPlace} (hs : shOf P 20 t = some s) (hv : Value.okWide P w r base t v) (hd : DataW.Trod enc P w 0 sp held t v d ps) :
    ∃ x : Ty s, wfT s x ∧ relV (Mw w) (argT s x) Pos.none v := by
  obtain ⟨n, hn⟩ := hd
  have hg := shOf_agg hs
  cases s with
  | ar m e =>
    obtain ⟨cs, rfl, hp⟩ := agg_of_ok hv (.inr hg)
    obtain ⟨x, h1, h2⟩ := reads_of_trod 20 _ _ _ _ _ hs hn
    exact ⟨x, h1, by simp only [argT, relV]; exact ⟨cs, rfl, h2⟩⟩
  | ag l =>
    obtain ⟨cs, rfl, hp⟩ := agg_of_ok hv (.inl hg)
    obtain ⟨x, h1, h2⟩ := reads_of_trod 20 _ _ _ _ _ hs hn
    exact ⟨x, h1, by simp only [argT, relV]; exact ⟨cs, rfl, h2⟩⟩
  | _ =>
    obtain ⟨h1, h2⟩ := one_of_ok hv hg.1 hg.2
    rw [h1] at hn
    obtain ⟨x, h3, h4⟩ := reads_of_trod 20 _ _ _ _ _ hs hn
    refine ⟨x, h3, ?_⟩
    simp only [cellsT, relL] at h4
    obtain ⟨u, r, h5, h6, rfl⟩ := h4
    simp at h5; subst h5
    simpa only [argT] using h6
theorem args_read {r : Reach} {base : Nat} : ∀ {ts : List TypeId} {l : List Sh} {vs : List Value} {ds : List (DataW H)} {ps : List MemPlace}, shAll P ts = some l → (∀ (j : Nat) t v, ts[j]? = some t → vs[j]? = some v → Value.okWide P w r base t v) →
    DataW.TrodAll enc P w 0 sp held ts vs ds ps → ∃ x : Tys l, wfTs l x ∧ relL (Mw w) (argTs l x) Pos.none vs
  | [], l, vs, ds, ps, h, _, hd => by
    simp only [shAll] at h; cases h
    obtain ⟨rfl, rfl, rfl⟩ := trodAll_nil hd
    exact ⟨(), by simp only [wfTs], by simp [argTs, relL]⟩
  | t :: ts, l, vs, ds, ps, h, hv, hd => by
    simp only [shAll] at h
    split at h
    · rename_i s hs
      split at h
      · rename_i l' hl; cases h
        obtain ⟨v, vs', d, ds', p, q, rfl, rfl, rfl, h1, h2⟩ := trodAll_cons hd
        obtain ⟨x, h3, h4⟩ := arg_reads hs (hv 0 t v rfl rfl) h1
        obtain ⟨y, h5, h6⟩ := args_read hl (fun j t' v' hj hj' => hv (j + 1) t' v' (by simpa using hj) (by simpa using hj')) h2
        exact ⟨(x, y), by simp only [wfTs]; exact ⟨h3, h5⟩, by simp only [argTs, relL]; exact ⟨v, vs', rfl, h4, h6⟩⟩
      · cases h
    · cases h
theorem Mw_rel (hg : GlobM (Mw w)) : Rel (Mw w) Pos.none Heap.nil w :=
  ⟨hg, fun _ _ => rfl, fun _ _ => rfl, fun k cs h => by simp [Heap.get, Heap.nil, bget] at h, fun k cs h => by simp [Heap.get, Heap.nil, bget] at h, fun j k l c h => by simp [Heap.get, Heap.nil, bget] at h, fun i j b s t h => by simp [Heap.get, Heap.nil, bget] at h, fun _ _ _ h => h, fun k b s h => by simp [Heap.get, Heap.nil, bget] at h⟩
/-- The arguments' types, as the reading behind the call wants them. -/
def plainTs (P : Program) (ts : List TypeId) : Bool := ts.all fun t => P.readableRec t && decide (t < P.types.size)
theorem trodAll_stays (hl : laidOutB P = true) {W W' : World} {sp' : Nat → Bool} : ∀ {ts : List TypeId} {vs : List Value} {ds : List (DataW H)} {ps : List MemPlace}, plainTs P ts = true → DataW.TrodAll enc P W 0 (fun _ => true) true ts vs ds ps →
    (∀ p ∈ ps, W.sameAt W' p) → (∀ p ∈ ps, sp' p.block = true) → DataW.TrodAll enc P W' 0 sp' true ts vs ds ps
  | [], _, _, _, _, h, _, _ => by obtain ⟨rfl, rfl, rfl⟩ := trodAll_nil h; exact trodAll_mk0
  | t :: ts, vs, ds, ps, ht, h, hs, hb => by
    obtain ⟨v, vs', d, ds', p, q, rfl, rfl, rfl, h1, h2⟩ := trodAll_cons h
    simp only [plainTs, List.all_cons, Bool.and_eq_true, decide_eq_true_eq] at ht
    refine trodAll_cons_mk (WideElems.Trod_stays hl ht.1.1 ht.1.2 h1 (fun p hp => hs p (by simp [hp])) (fun p hp => hb p (by simp [hp]))) (trodAll_stays hl (by simpa [plainTs] using ht.2) h2 (fun p hp => hs p (by simp [hp])) (fun p hp => hb p (by simp [hp])))
/-- **A CONTRACT OF THE ENGINE GIVES WHAT THE STATEMENT ASKS OF EACH CALL.** -/
theorem law_contract {f : FuncId} {fn : Func} {s : ChangeSpec} {l : List Sh} {tb : TypeId} (hsh : shAll P fn.params.toList = some l) (hl : laidOutB P = true) (hts : plainTs P fn.params.toList = true) (hvars : s.vars = []) (hres : fn.resultTypes = #[tb]) (htb : P.underlying tb = some .bool)
    (hfn : ∀ ds : List (DataW H), ds.length = fn.params.toList.length → s.fn H ds = { results := [.lit (.bool true)], args := ds })
    (hcall : ∀ x : Tys l, wfTs l x → CallA P f (argTs l x) Heap.nil fun v H' => v = .bool true ∧ H' = Heap.nil)
    (W : World) (base : Nat) (args : Array Value) (ds gs : List (DataW H)) (before : List MemPlace)
    (hval : ∀ (j : Nat) t v, fn.params[j]? = some t → args[j]? = some v → Value.okWide P W .any base t v)
    (hW : DataW.Whole enc P fn.params.toList s.vars false W args.toList ds gs before) (hg : GlobM (Mw W)) :
    Calls P f args W fun e W' => ∃ v, e = .returned v ∧ s.post enc P fn false true false false W args v W' := by
  have hW' := hW
  obtain ⟨p, q, hA, hV, rfl, hz, _⟩ := hW
  rw [hvars] at hV
  obtain ⟨rfl, rfl⟩ := trodVars_none hV
  obtain ⟨x, hx, hrel⟩ := args_read hsh (fun j t v hj hj' => hval j t v (by simpa using hj) (by simpa using hj')) hA
  have hlt := hA.lt
  refine ((hcall x hx).run (Mw W) Pos.none W args (Mw_rel hg) hrel).mono ?_
  rintro e W' ⟨v, M', μ', H', c, rfl, R', hv, G, rfl, rfl⟩
  have hv := rel_bool hv
  subst hv
  have hB : Below W.heap.size W W' := ⟨G.grow.keep.os, G.grow.keep.tape, G.grow.keep.output, G.grow.keep.size, fun k hk => G.grow.keep.block k hk own_nil⟩
  have hlen : ds.length = fn.params.toList.length := by
    have : ∀ {ts : List TypeId} {vs : List Value} {ds : List (DataW H)} {ps : List MemPlace}, DataW.TrodAll enc P W 0 (fun _ => true) true ts vs ds ps → ds.length = ts.length := by
      intro ts
      induction ts with
      | nil => intro vs ds ps h; obtain ⟨_, rfl, _⟩ := trodAll_nil h; rfl
      | cons t ts ih => intro vs ds ps h; obtain ⟨v, vs', d, ds', p, q, rfl, rfl, rfl, _, h2⟩ := trodAll_cons h; simp [ih h2]
    exact this hA
  refine ⟨_, rfl, ds, [], p ++ [], [], p, [], hW', ?_, ?_, ?_, ?_, fun h => by cases h⟩
  · rw [List.append_nil, hfn ds hlen, hres]
    exact trodAll_cons_mk (shut_bool htb true) trodAll_mk0
  · rw [List.append_nil, hfn ds hlen]
    exact trodAll_stays hl hts hA (fun p hp => hB.same (hlt p hp)) (fun p hp => by simpa using hlt p hp)
  · rw [List.append_nil, hfn ds hlen, hvars]
    rfl
  · exact hB.frame _
end
end Go.Eng

namespace Go.Proofs
open Go Go.Eng
def ks : List AV := [.int .u32 1116352408, .int .u32 1899447441, .int .u32 3049323471, .int .u32 3921009573, .int .u32 961987163, .int .u32 1508970993, .int .u32 2453635748, .int .u32 2870763221, .int .u32 3624381080, .int .u32 310598401, .int .u32 607225278, .int .u32 1426881987, .int .u32 1925078388, .int .u32 2162078206, .int .u32 2614888103, .int .u32 3248222580, .int .u32 3835390401, .int .u32 4022224774, .int .u32 264347078, .int .u32 604807628, .int .u32 770255983, .int .u32 1249150122, .int .u32 1555081692, .int .u32 1996064986, .int .u32 2554220882, .int .u32 2821834349, .int .u32 2952996808, .int .u32 3210313671, .int .u32 3336571891, .int .u32 3584528711, .int .u32 113926993, .int .u32 338241895, .int .u32 666307205, .int .u32 773529912, .int .u32 1294757372, .int .u32 1396182291, .int .u32 1695183700, .int .u32 1986661051, .int .u32 2177026350, .int .u32 2456956037, .int .u32 2730485921, .int .u32 2820302411, .int .u32 3259730800, .int .u32 3345764771, .int .u32 3516065817, .int .u32 3600352804, .int .u32 4094571909, .int .u32 275423344, .int .u32 430227734, .int .u32 506948616, .int .u32 659060556, .int .u32 883997877, .int .u32 958139571, .int .u32 1322822218, .int .u32 1537002063, .int .u32 1747873779, .int .u32 1955562222, .int .u32 2024104815, .int .u32 2227730452, .int .u32 2361852424, .int .u32 2428436474, .int .u32 2756734187, .int .u32 3204031479, .int .u32 3329325298]
instance globs : Globs := ⟨[(1, ks), (0, ks)]⟩
end Go.Proofs

namespace Go.Eng
open Go

variable [Globs]
/-! ### Less is said of a block's cells -/
/-- What a cell is, said more weakly. -/
inductive Weak : AV → AV → Prop where
  | same (c : AV) : Weak c c
  | nil : Weak .nils (.dslice [] 0 none)
  | any (c : AV) : Weak c .any
inductive WeakL : List AV → List AV → Prop where
  | nil : WeakL [] []
  | cons {c c' : AV} {cs cs' : List AV} (h : Weak c c') (r : WeakL cs cs') : WeakL (c :: cs) (c' :: cs')
theorem WeakL.refl : ∀ cs, WeakL cs cs
  | [] => .nil
  | c :: cs => .cons (.same c) (WeakL.refl cs)
section
variable {M : Mem} {μ : Pos} {H : Heap} {w : World}
theorem Weak.rel {c c' : AV} (h : Weak c c') {v : Value} (hv : relV M c μ v) : relV M c' μ v := by
  cases h with
  | same => exact hv
  | nil => simp only [relV] at *; right; simp [hv]
  | any => simp only [relV]
theorem WeakL.rel {cs cs' : List AV} (h : WeakL cs cs') : ∀ {vs : List Value}, relP M μ cs vs → relP M μ cs' vs := by
  induction h with
  | nil => exact fun _ => trivial
  | cons h _ ih =>
    rintro vs ⟨v, r, rfl, h1, h2⟩
    exact ⟨v, r, rfl, h.rel h1, ih h2⟩
theorem Rel.weak (R : Rel M μ H w) {k : Nat} {cs cs' : List AV} (hk : H.get k = .cells cs) (hw : WeakL cs cs') : Rel M μ (H.set k (.cells cs')) w := by
  have hne : H.get k ≠ .dead := by rw [hk]; simp
  have al : ∀ j, (H.set k (.cells cs')).get j ≠ .dead → H.get j ≠ .dead := fun j hj => by
    rw [Heap.get_set] at hj; split at hj
    · subst_vars; exact hne
    · exact hj
  refine ⟨R.glob, R.dom, fun j hj => ?_, fun j ds hj => ?_, fun j es hj => ?_, R.walks_same (Mem.le_refl _) (fun j k' left cur hj => ?_) (Pos.le_refl _) (fun _ _ _ => rfl), fun i j b s t hi hj => R.inj i j b s t (al i hi) (al j hj), R.imm, fun j b s hj => R.apart j b s (al j hj)⟩
  · have hj' : H.nx ≤ j := hj
    rw [Heap.get_set]
    split
    · rename_i e; subst e; rw [R.top k hj'] at hk; cases hk
    · exact R.top j hj'
  · rw [Heap.get_set] at hj
    split at hj
    · rename_i e; subst e
      simp only [AB.cells.injEq] at hj; subst hj
      obtain ⟨b, sz, c, el, fz, h1, h2, h3, h4, h5⟩ := R.cells k cs hk
      exact ⟨b, sz, c, el, fz, h1, h2, h3, h4, hw.rel h5⟩
    · exact R.cells j ds hj
  · rw [Heap.get_set] at hj
    split at hj
    · cases hj
    · exact R.maps j es hj
  · rw [Heap.get_set] at hj
    split at hj
    · cases hj
    · refine ⟨hj, fun h => ?_⟩
      rw [Heap.get_set]; split
      · simp
      · exact h
theorem Into.weak {n : Nat} {fr : Fr} {H : Heap} (k : Nat) {cs cs' : List AV} (hk : H.get k = .cells cs) (hw : WeakL cs cs') : Into n fr H fr (H.set k (.cells cs')) := by
  intro N M μ w tmps R F hn
  have hne : H.get k ≠ .dead := by rw [hk]; simp
  exact ⟨M, μ, R.weak hk hw, F, hn, Mem.le_refl _, fun _ _ => rfl, Keep.refl _ _, fun x hx => .inl (Own.set hne hx), fun _ _ _ h => .inl h⟩
/-- Before a loop, or at its end. -/
theorem To.weak {n : Nat} {fr : Fr} {H : Heap} {J : Fr → Heap → Prop} (k : Nat) {cs cs' : List AV} (hk : H.get k = .cells cs) (hw : WeakL cs cs') (h : To n fr (H.set k (.cells cs')) J) : To n fr H J := by
  obtain ⟨v', H', h1, h2⟩ := h
  exact ⟨v', H', (Into.weak k hk hw).trans h1, h2⟩
end
end Go.Eng

set_option maxRecDepth 100000
namespace Go.Proofs
open Go Go.Eng
/-- simulacrum/simulacrumlaw27.BalloonOutlivesACopy -/
def ac6 : AC := (.seq (.reg [⟨some 4, .h (.box (.t 0)), none⟩,
    ⟨some 8, .p (.mov (.c (.bool false))), none⟩])
  (.seq (.reg [⟨some 21, .call 22 [(.c (.int .i64 48))], none⟩,
    ⟨some 9, .p (.mov (.t 21)), none⟩])
  (.seq (.seq (.reg [⟨some 22, .p (.mov (.t 9)), none⟩,
    ⟨some 23, .v (.isnil true false (.t 22) (.c .nilp)), none⟩,
    ⟨some 24, .p (.mov (.t 23)), none⟩,
    ⟨some 25, .p (.mov (.t 3)), (some (24, false))⟩,
    ⟨some 26, .p (.len false (.t 25)), (some (24, false))⟩,
    ⟨some 27, .p (.bin .gtr (.t 26) (.c (.int .i64 40))), (some (24, false))⟩,
    ⟨some 28, .p (.pick (.t 24) (.c (.bool true)) (.t 27)), none⟩])
  (.cond (.t 28) (.seq (.reg [⟨some 29, .p (.mov (.t 9)), none⟩,
    ⟨some 30, .v (.isnil true true (.t 29) (.c .nilp)), none⟩,
    ⟨some 31, .p (.mov (.t 30)), none⟩,
    ⟨some 32, .call 8 [], (some (31, true))⟩,
    ⟨some 33, .p (.pick (.t 31) (.t 32) (.c (.bool false))), none⟩,
    ⟨some 8, .p (.mov (.t 33)), none⟩])
  .ret) .skip))
  (.seq (.reg [⟨some 34, .p (.mov (.t 9)), none⟩,
    ⟨some 35, .call 23 [(.t 34)], none⟩,
    ⟨some 10, .p (.mov (.t 35)), none⟩])
  (.seq (.seq (.reg [⟨some 36, .p (.mov (.t 10)), none⟩,
    ⟨some 37, .v (.isnil true false (.t 36) (.c .nilp)), none⟩])
  (.cond (.t 37) (.seq (.reg [⟨some 8, .p (.mov (.c (.bool false))), none⟩])
  .ret) .skip))
  (.seq (.reg [⟨some 38, .p (.mov (.t 1)), none⟩,
    ⟨some 39, .p (.conv .i64 (.t 38)), none⟩,
    ⟨some 40, .p (.bin .rem (.t 39) (.c (.int .i64 8))), none⟩,
    ⟨some 11, .p (.mov (.t 40)), none⟩])
  (.seq (.seq (.reg [⟨some 12, .p (.mov (.c (.int .i64 0))), none⟩])
  (.block 0 (.loop (.seq (.seq (.reg [⟨some 41, .p (.mov (.t 12)), none⟩,
    ⟨some 42, .p (.mov (.t 11)), none⟩,
    ⟨some 43, .p (.bin .leq (.t 41) (.t 42)), none⟩])
  (.cond (.t 43) .skip (.exit 0)))
  (.seq (.block 1 (.seq (.reg [⟨some 47, .p (.mov (.t 10)), none⟩,
    ⟨some 48, .h (.load true 128 (.t 4)), none⟩,
    ⟨some 49, .call 24 [(.t 47), (.t 48)], none⟩,
    ⟨some 46, .p (.mov (.t 49)), none⟩,
    ⟨some 50, .p (.extract 0 (.t 46)), none⟩,
    ⟨some 51, .p (.extract 1 (.t 46)), none⟩,
    ⟨some 13, .p (.mov (.t 50)), none⟩,
    ⟨some 14, .p (.mov (.t 51)), none⟩])
  (.seq (.reg [⟨some 52, .p (.mov (.t 13)), none⟩,
    ⟨some 53, .p (.mov (.t 12)), none⟩,
    ⟨some 54, .p (.bin .neq (.t 52) (.t 53)), none⟩,
    ⟨some 55, .p (.mov (.t 54)), none⟩,
    ⟨some 56, .p (.mov (.t 14)), (some (55, false))⟩,
    ⟨some 57, .p (.bin .neq (.t 56) (.c (.int .i64 0))), (some (55, false))⟩,
    ⟨some 58, .p (.pick (.t 55) (.c (.bool true)) (.t 57)), none⟩])
  (.cond (.t 58) (.seq (.reg [⟨some 8, .p (.mov (.c (.bool false))), none⟩])
  .ret) .skip))))
  (.reg [⟨some 44, .p (.mov (.t 12)), none⟩,
    ⟨some 45, .p (.bin .add (.t 44) (.c (.int .i64 1))), none⟩,
    ⟨some 12, .p (.mov (.t 45)), none⟩]))))))
  (.seq (.reg [⟨some 59, .p (.mov (.t 11)), none⟩,
    ⟨some 60, .p (.bin .mul (.c (.int .i64 6)) (.t 59)), none⟩,
    ⟨some 15, .p (.mov (.t 60)), none⟩])
  (.seq (.seq (.reg [⟨some 61, .p (.mov (.t 2)), none⟩])
  (.cond (.t 61) (.reg [⟨some 62, .p (.mov (.t 15)), none⟩,
    ⟨some 63, .p (.bin .add (.t 62) (.c (.int .i64 3))), none⟩,
    ⟨some 15, .p (.mov (.t 63)), none⟩]) .skip))
  (.seq (.reg [⟨some 16, .p (.mov (.c (.int .i64 0))), none⟩])
  (.seq (.seq (.reg [⟨some 17, .p (.mov (.c (.int .i64 0))), none⟩])
  (.block 2 (.loop (.seq (.seq (.reg [⟨some 64, .p (.mov (.t 17)), none⟩,
    ⟨some 65, .p (.mov (.t 3)), none⟩,
    ⟨some 66, .p (.len false (.t 65)), none⟩,
    ⟨some 67, .p (.bin .lss (.t 64) (.t 66)), none⟩])
  (.cond (.t 67) .skip (.exit 2)))
  (.seq (.block 3 (.seq (.reg [⟨some 70, .p (.mov (.t 15)), none⟩,
    ⟨some 71, .p (.mov (.t 3)), none⟩,
    ⟨some 72, .p (.mov (.t 17)), none⟩,
    ⟨some 73, .p (.idxA 3 none (.t 71) (.t 72)), none⟩,
    ⟨some 74, .p (.fieldA 0 (.t 73)), none⟩,
    ⟨some 75, .h (.load false 1 (.t 74)), none⟩,
    ⟨some 76, .p (.conv .i64 (.t 75)), none⟩,
    ⟨some 77, .p (.bin .rem (.t 76) (.c (.int .i64 3))), none⟩,
    ⟨some 78, .p (.bin .add (.t 70) (.t 77)), none⟩,
    ⟨some 18, .p (.mov (.t 78)), none⟩])
  (.seq (.reg [⟨some 79, .p (.mov (.t 3)), none⟩,
    ⟨some 80, .p (.mov (.t 17)), none⟩,
    ⟨some 81, .p (.idxA 3 none (.t 79) (.t 80)), none⟩,
    ⟨some 82, .p (.fieldA 2 (.t 81)), none⟩,
    ⟨some 83, .h (.load false 1 (.t 82)), none⟩])
  (.cond (.t 83) (.reg [⟨some 84, .p (.mov (.t 9)), none⟩,
    ⟨some 85, .p (.mov (.t 18)), none⟩,
    ⟨some 86, .call 25 [(.t 84), (.t 85)], none⟩]) (.seq (.reg [⟨some 87, .p (.mov (.t 9)), none⟩,
    ⟨some 88, .p (.mov (.t 18)), none⟩,
    ⟨some 89, .p (.mov (.t 3)), none⟩,
    ⟨some 90, .p (.mov (.t 17)), none⟩,
    ⟨some 91, .p (.idxA 3 none (.t 89) (.t 90)), none⟩,
    ⟨some 92, .p (.fieldA 1 (.t 91)), none⟩,
    ⟨some 93, .h (.load false 1 (.t 92)), none⟩,
    ⟨some 94, .p (.conv .i64 (.t 93)), none⟩,
    ⟨some 95, .p (.bin .rem (.t 94) (.c (.int .i64 512))), none⟩,
    ⟨some 96, .call 26 [(.t 87), (.t 88), (.t 95)], none⟩])
  (.reg [⟨some 97, .p (.mov (.t 16)), none⟩,
    ⟨some 98, .p (.bin .add (.t 97) (.c (.int .i64 1))), none⟩,
    ⟨some 16, .p (.mov (.t 98)), none⟩]))))))
  (.reg [⟨some 68, .p (.mov (.t 17)), none⟩,
    ⟨some 69, .p (.bin .add (.t 68) (.c (.int .i64 1))), none⟩,
    ⟨some 17, .p (.mov (.t 69)), none⟩]))))))
  (.seq (.reg [⟨some 100, .p (.mov (.t 10)), none⟩,
    ⟨some 101, .p (.mov (.t 11)), none⟩,
    ⟨some 102, .call 27 [(.t 100), (.t 101)], none⟩,
    ⟨some 99, .p (.mov (.t 102)), none⟩,
    ⟨some 103, .p (.extract 0 (.t 99)), none⟩,
    ⟨some 104, .p (.extract 1 (.t 99)), none⟩,
    ⟨some 19, .h (.alloc [(.int .u8 0), (.int .u8 0), (.int .u8 0), (.int .u8 0), (.int .u8 0), (.int .u8 0), (.int .u8 0), (.int .u8 0), (.int .u8 0), (.int .u8 0), (.int .u8 0), (.int .u8 0), (.int .u8 0), (.int .u8 0), (.int .u8 0), (.int .u8 0), (.int .u8 0), (.int .u8 0), (.int .u8 0), (.int .u8 0), (.int .u8 0), (.int .u8 0), (.int .u8 0), (.int .u8 0), (.int .u8 0), (.int .u8 0), (.int .u8 0), (.int .u8 0), (.int .u8 0), (.int .u8 0), (.int .u8 0), (.int .u8 0), (.int .u8 0), (.int .u8 0), (.int .u8 0), (.int .u8 0), (.int .u8 0), (.int .u8 0), (.int .u8 0), (.int .u8 0), (.int .u8 0), (.int .u8 0), (.int .u8 0), (.int .u8 0), (.int .u8 0), (.int .u8 0), (.int .u8 0), (.int .u8 0), (.int .u8 0), (.int .u8 0), (.int .u8 0), (.int .u8 0), (.int .u8 0), (.int .u8 0), (.int .u8 0), (.int .u8 0), (.int .u8 0), (.int .u8 0), (.int .u8 0), (.int .u8 0), (.int .u8 0), (.int .u8 0), (.int .u8 0), (.int .u8 0), (.int .u8 0), (.int .u8 0), (.int .u8 0), (.int .u8 0), (.int .u8 0), (.int .u8 0), (.int .u8 0), (.int .u8 0), (.int .u8 0), (.int .u8 0), (.int .u8 0), (.int .u8 0), (.int .u8 0), (.int .u8 0), (.int .u8 0), (.int .u8 0), (.int .u8 0), (.int .u8 0), (.int .u8 0), (.int .u8 0), (.int .u8 0), (.int .u8 0), (.int .u8 0), (.int .u8 0), (.int .u8 0), (.int .u8 0), (.int .u8 0), (.int .u8 0), (.int .u8 0), (.int .u8 0), (.int .u8 0), (.int .u8 0), (.int .u8 0), (.int .u8 0), (.int .u8 0), (.int .u8 0), (.int .u8 0), (.int .u8 0), (.int .u8 0), (.int .u8 0), (.int .u8 0), (.int .u8 0), (.int .u8 0), (.int .u8 0), (.int .u8 0), (.int .u8 0), (.int .u8 0), (.int .u8 0), (.int .u8 0), (.int .u8 0), (.int .u8 0), (.int .u8 0), (.int .u8 0), (.int .u8 0), (.int .u8 0), (.int .u8 0), (.int .u8 0), (.int .u8 0), (.int .u8 0), (.int .u8 0), (.int .u8 0), (.int .u8 0), (.int .u8 0), (.int .u8 0)]), none⟩,
    ⟨none, .h (.store 128 (.t 19) (.t 103)), none⟩,
    ⟨some 20, .p (.mov (.t 104)), none⟩])
  (.seq (.draw 26 [] [⟨some 105, .call 8 [], none⟩,
    ⟨some 106, .p (.mov (.t 105)), none⟩,
    ⟨some 107, .p (.mov (.t 20)), (some (106, true))⟩,
    ⟨some 108, .p (.bin .eql (.t 107) (.c (.int .i64 0))), (some (106, true))⟩,
    ⟨some 109, .p (.pick (.t 106) (.t 108) (.c (.bool false))), none⟩,
    ⟨some 110, .p (.mov (.t 109)), none⟩,
    ⟨some 111, .h (.load true 128 (.t 19)), (some (110, true))⟩,
    ⟨some 112, .h (.load true 128 (.t 4)), (some (110, true))⟩,
    ⟨some 113, .v (.eqa false [(.i .u8), (.i .u8), (.i .u8), (.i .u8), (.i .u8), (.i .u8), (.i .u8), (.i .u8), (.i .u8), (.i .u8), (.i .u8), (.i .u8), (.i .u8), (.i .u8), (.i .u8), (.i .u8), (.i .u8), (.i .u8), (.i .u8), (.i .u8), (.i .u8), (.i .u8), (.i .u8), (.i .u8), (.i .u8), (.i .u8), (.i .u8), (.i .u8), (.i .u8), (.i .u8), (.i .u8), (.i .u8), (.i .u8), (.i .u8), (.i .u8), (.i .u8), (.i .u8), (.i .u8), (.i .u8), (.i .u8), (.i .u8), (.i .u8), (.i .u8), (.i .u8), (.i .u8), (.i .u8), (.i .u8), (.i .u8), (.i .u8), (.i .u8), (.i .u8), (.i .u8), (.i .u8), (.i .u8), (.i .u8), (.i .u8), (.i .u8), (.i .u8), (.i .u8), (.i .u8), (.i .u8), (.i .u8), (.i .u8), (.i .u8), (.i .u8), (.i .u8), (.i .u8), (.i .u8), (.i .u8), (.i .u8), (.i .u8), (.i .u8), (.i .u8), (.i .u8), (.i .u8), (.i .u8), (.i .u8), (.i .u8), (.i .u8), (.i .u8), (.i .u8), (.i .u8), (.i .u8), (.i .u8), (.i .u8), (.i .u8), (.i .u8), (.i .u8), (.i .u8), (.i .u8), (.i .u8), (.i .u8), (.i .u8), (.i .u8), (.i .u8), (.i .u8), (.i .u8), (.i .u8), (.i .u8), (.i .u8), (.i .u8), (.i .u8), (.i .u8), (.i .u8), (.i .u8), (.i .u8), (.i .u8), (.i .u8), (.i .u8), (.i .u8), (.i .u8), (.i .u8), (.i .u8), (.i .u8), (.i .u8), (.i .u8), (.i .u8), (.i .u8), (.i .u8), (.i .u8), (.i .u8), (.i .u8), (.i .u8), (.i .u8), (.i .u8), (.i .u8), (.i .u8), (.i .u8)] (.t 111) (.t 112)), (some (110, true))⟩,
    ⟨some 114, .p (.mov (.t 113)), (some (110, true))⟩,
    ⟨some 115, .p (.mov (.t 2)), (some (114, false))⟩,
    ⟨some 116, .p (.un .not (.t 115)), (some (114, false))⟩,
    ⟨some 117, .p (.mov (.t 116)), (some (114, false))⟩,
    ⟨some 118, .p (.mov (.t 11)), (some (117, true))⟩,
    ⟨some 119, .h (.load true 128 (.t 4)), (some (117, true))⟩,
    ⟨some 120, .call 29 [(.t 118), (.t 119)], (some (117, true))⟩,
    ⟨some 121, .p (.mov (.t 11)), (some (117, true))⟩,
    ⟨some 122, .h (.load true 128 (.t 19)), (some (117, true))⟩,
    ⟨some 123, .call 29 [(.t 121), (.t 122)], (some (117, true))⟩,
    ⟨some 124, .call 28 [(.t 120), (.t 123)], (some (117, true))⟩,
    ⟨some 125, .p (.mov (.t 16)), (some (117, true))⟩,
    ⟨some 126, .p (.bin .leq (.t 124) (.t 125)), (some (117, true))⟩,
    ⟨some 127, .p (.pick (.t 117) (.t 126) (.c (.bool false))), (some (114, false))⟩,
    ⟨some 128, .p (.pick (.t 114) (.c (.bool true)) (.t 127)), (some (110, true))⟩,
    ⟨some 129, .p (.pick (.t 110) (.t 128) (.c (.bool false))), none⟩,
    ⟨some 8, .p (.mov (.t 129)), none⟩])
  .ret)))))))))))))
def rs6 : List AR := [.tmp 8]
theorem ok6 : okF Tryd.prog 6 130 ac6 rs6 = true := by kernel_rfl
/-- simulacrum/simulacrumlaw27.BalloonTellsHarm -/
def ac7 : AC := (.seq (.reg [⟨some 2, .h (.box (.t 0)), none⟩,
    ⟨some 4, .p (.mov (.c (.bool false))), none⟩])
  (.seq (.reg [⟨some 14, .call 22 [(.c (.int .i64 6))], none⟩,
    ⟨some 5, .p (.mov (.t 14)), none⟩])
  (.seq (.seq (.reg [⟨some 15, .p (.mov (.t 5)), none⟩,
    ⟨some 16, .v (.isnil true false (.t 15) (.c .nilp)), none⟩,
    ⟨some 17, .p (.mov (.t 16)), none⟩,
    ⟨some 18, .p (.mov (.t 1)), (some (17, false))⟩,
    ⟨some 19, .p (.len false (.t 18)), (some (17, false))⟩,
    ⟨some 20, .p (.bin .gtr (.t 19) (.c (.int .i64 60))), (some (17, false))⟩,
    ⟨some 21, .p (.pick (.t 17) (.c (.bool true)) (.t 20)), none⟩])
  (.cond (.t 21) (.seq (.reg [⟨some 22, .p (.mov (.t 5)), none⟩,
    ⟨some 23, .v (.isnil true true (.t 22) (.c .nilp)), none⟩,
    ⟨some 24, .p (.mov (.t 23)), none⟩,
    ⟨some 25, .call 8 [], (some (24, true))⟩,
    ⟨some 26, .p (.pick (.t 24) (.t 25) (.c (.bool false))), none⟩,
    ⟨some 4, .p (.mov (.t 26)), none⟩])
  .ret) .skip))
  (.seq (.reg [⟨some 27, .p (.mov (.t 5)), none⟩,
    ⟨some 28, .call 23 [(.t 27)], none⟩,
    ⟨some 6, .p (.mov (.t 28)), none⟩])
  (.seq (.seq (.reg [⟨some 29, .p (.mov (.t 6)), none⟩,
    ⟨some 30, .v (.isnil true false (.t 29) (.c .nilp)), none⟩])
  (.cond (.t 30) (.seq (.reg [⟨some 4, .p (.mov (.c (.bool false))), none⟩])
  .ret) .skip))
  (.seq (.reg [⟨some 32, .p (.mov (.t 6)), none⟩,
    ⟨some 33, .h (.load true 128 (.t 2)), none⟩,
    ⟨some 34, .call 24 [(.t 32), (.t 33)], none⟩,
    ⟨some 31, .p (.mov (.t 34)), none⟩,
    ⟨some 35, .p (.extract 0 (.t 31)), none⟩,
    ⟨some 36, .p (.extract 1 (.t 31)), none⟩,
    ⟨some 7, .p (.mov (.t 35)), none⟩,
    ⟨some 8, .p (.mov (.t 36)), none⟩])
  (.seq (.seq (.reg [⟨some 37, .p (.mov (.t 7)), none⟩,
    ⟨some 38, .p (.bin .neq (.t 37) (.c (.int .i64 0))), none⟩,
    ⟨some 39, .p (.mov (.t 38)), none⟩,
    ⟨some 40, .p (.mov (.t 8)), (some (39, false))⟩,
    ⟨some 41, .p (.bin .neq (.t 40) (.c (.int .i64 0))), (some (39, false))⟩,
    ⟨some 42, .p (.pick (.t 39) (.c (.bool true)) (.t 41)), none⟩])
  (.cond (.t 42) (.seq (.reg [⟨some 4, .p (.mov (.c (.bool false))), none⟩])
  .ret) .skip))
  (.seq (.reg [⟨some 9, .p (.mov (.c (.int .i64 0))), none⟩])
  (.seq (.seq (.reg [⟨some 10, .p (.mov (.c (.int .i64 0))), none⟩])
  (.block 0 (.loop (.seq (.seq (.reg [⟨some 43, .p (.mov (.t 10)), none⟩,
    ⟨some 44, .p (.mov (.t 1)), none⟩,
    ⟨some 45, .p (.len false (.t 44)), none⟩,
    ⟨some 46, .p (.bin .lss (.t 43) (.t 45)), none⟩])
  (.cond (.t 46) .skip (.exit 0)))
  (.seq (.block 1 (.seq (.reg [⟨some 49, .p (.mov (.t 1)), none⟩,
    ⟨some 50, .p (.mov (.t 10)), none⟩,
    ⟨some 51, .p (.idxA 3 none (.t 49) (.t 50)), none⟩,
    ⟨some 52, .p (.fieldA 0 (.t 51)), none⟩,
    ⟨some 53, .h (.load false 1 (.t 52)), none⟩,
    ⟨some 54, .p (.conv .i64 (.t 53)), none⟩,
    ⟨some 55, .p (.bin .rem (.t 54) (.c (.int .i64 6))), none⟩,
    ⟨some 11, .p (.mov (.t 55)), none⟩])
  (.seq (.reg [⟨some 56, .p (.mov (.t 1)), none⟩,
    ⟨some 57, .p (.mov (.t 10)), none⟩,
    ⟨some 58, .p (.idxA 3 none (.t 56) (.t 57)), none⟩,
    ⟨some 59, .p (.fieldA 2 (.t 58)), none⟩,
    ⟨some 60, .h (.load false 1 (.t 59)), none⟩])
  (.cond (.t 60) (.reg [⟨some 61, .p (.mov (.t 5)), none⟩,
    ⟨some 62, .p (.mov (.t 11)), none⟩,
    ⟨some 63, .call 25 [(.t 61), (.t 62)], none⟩]) (.seq (.reg [⟨some 64, .p (.mov (.t 5)), none⟩,
    ⟨some 65, .p (.mov (.t 11)), none⟩,
    ⟨some 66, .p (.mov (.t 1)), none⟩,
    ⟨some 67, .p (.mov (.t 10)), none⟩,
    ⟨some 68, .p (.idxA 3 none (.t 66) (.t 67)), none⟩,
    ⟨some 69, .p (.fieldA 1 (.t 68)), none⟩,
    ⟨some 70, .h (.load false 1 (.t 69)), none⟩,
    ⟨some 71, .p (.conv .i64 (.t 70)), none⟩,
    ⟨some 72, .p (.bin .rem (.t 71) (.c (.int .i64 512))), none⟩,
    ⟨some 73, .call 26 [(.t 64), (.t 65), (.t 72)], none⟩])
  (.reg [⟨some 74, .p (.mov (.t 9)), none⟩,
    ⟨some 75, .p (.bin .add (.t 74) (.c (.int .i64 1))), none⟩,
    ⟨some 9, .p (.mov (.t 75)), none⟩]))))))
  (.reg [⟨some 47, .p (.mov (.t 10)), none⟩,
    ⟨some 48, .p (.bin .add (.t 47) (.c (.int .i64 1))), none⟩,
    ⟨some 10, .p (.mov (.t 48)), none⟩]))))))
  (.seq (.reg [⟨some 77, .p (.mov (.t 6)), none⟩,
    ⟨some 78, .call 27 [(.t 77), (.c (.int .i64 0))], none⟩,
    ⟨some 76, .p (.mov (.t 78)), none⟩,
    ⟨some 79, .p (.extract 0 (.t 76)), none⟩,
    ⟨some 80, .p (.extract 1 (.t 76)), none⟩,
    ⟨some 12, .h (.alloc [(.int .u8 0), (.int .u8 0), (.int .u8 0), (.int .u8 0), (.int .u8 0), (.int .u8 0), (.int .u8 0), (.int .u8 0), (.int .u8 0), (.int .u8 0), (.int .u8 0), (.int .u8 0), (.int .u8 0), (.int .u8 0), (.int .u8 0), (.int .u8 0), (.int .u8 0), (.int .u8 0), (.int .u8 0), (.int .u8 0), (.int .u8 0), (.int .u8 0), (.int .u8 0), (.int .u8 0), (.int .u8 0), (.int .u8 0), (.int .u8 0), (.int .u8 0), (.int .u8 0), (.int .u8 0), (.int .u8 0), (.int .u8 0), (.int .u8 0), (.int .u8 0), (.int .u8 0), (.int .u8 0), (.int .u8 0), (.int .u8 0), (.int .u8 0), (.int .u8 0), (.int .u8 0), (.int .u8 0), (.int .u8 0), (.int .u8 0), (.int .u8 0), (.int .u8 0), (.int .u8 0), (.int .u8 0), (.int .u8 0), (.int .u8 0), (.int .u8 0), (.int .u8 0), (.int .u8 0), (.int .u8 0), (.int .u8 0), (.int .u8 0), (.int .u8 0), (.int .u8 0), (.int .u8 0), (.int .u8 0), (.int .u8 0), (.int .u8 0), (.int .u8 0), (.int .u8 0), (.int .u8 0), (.int .u8 0), (.int .u8 0), (.int .u8 0), (.int .u8 0), (.int .u8 0), (.int .u8 0), (.int .u8 0), (.int .u8 0), (.int .u8 0), (.int .u8 0), (.int .u8 0), (.int .u8 0), (.int .u8 0), (.int .u8 0), (.int .u8 0), (.int .u8 0), (.int .u8 0), (.int .u8 0), (.int .u8 0), (.int .u8 0), (.int .u8 0), (.int .u8 0), (.int .u8 0), (.int .u8 0), (.int .u8 0), (.int .u8 0), (.int .u8 0), (.int .u8 0), (.int .u8 0), (.int .u8 0), (.int .u8 0), (.int .u8 0), (.int .u8 0), (.int .u8 0), (.int .u8 0), (.int .u8 0), (.int .u8 0), (.int .u8 0), (.int .u8 0), (.int .u8 0), (.int .u8 0), (.int .u8 0), (.int .u8 0), (.int .u8 0), (.int .u8 0), (.int .u8 0), (.int .u8 0), (.int .u8 0), (.int .u8 0), (.int .u8 0), (.int .u8 0), (.int .u8 0), (.int .u8 0), (.int .u8 0), (.int .u8 0), (.int .u8 0), (.int .u8 0), (.int .u8 0), (.int .u8 0), (.int .u8 0), (.int .u8 0), (.int .u8 0), (.int .u8 0)]), none⟩,
    ⟨none, .h (.store 128 (.t 12) (.t 79)), none⟩,
    ⟨some 13, .p (.mov (.t 80)), none⟩])
  (.seq (.seq (.reg [⟨some 81, .p (.mov (.t 13)), none⟩,
    ⟨some 82, .p (.bin .neq (.t 81) (.c (.int .i64 0))), none⟩])
  (.cond (.t 82) (.seq (.reg [⟨some 83, .call 8 [], none⟩,
    ⟨some 84, .p (.mov (.t 83)), none⟩,
    ⟨some 85, .p (.mov (.t 13)), (some (84, true))⟩,
    ⟨some 86, .p (.bin .eql (.t 85) (.c (.int .i64 271))), (some (84, true))⟩,
    ⟨some 87, .p (.pick (.t 84) (.t 86) (.c (.bool false))), none⟩,
    ⟨some 88, .p (.mov (.t 87)), none⟩,
    ⟨some 89, .p (.mov (.t 1)), (some (88, true))⟩,
    ⟨some 90, .p (.len false (.t 89)), (some (88, true))⟩,
    ⟨some 91, .p (.bin .geq (.t 90) (.c (.int .i64 2))), (some (88, true))⟩,
    ⟨some 92, .p (.pick (.t 88) (.t 91) (.c (.bool false))), none⟩,
    ⟨some 4, .p (.mov (.t 92)), none⟩])
  .ret) .skip))
  (.seq (.draw 16 [] [⟨some 93, .call 8 [], none⟩,
    ⟨some 94, .p (.mov (.t 93)), none⟩,
    ⟨some 95, .h (.load true 128 (.t 12)), (some (94, true))⟩,
    ⟨some 96, .h (.load true 128 (.t 2)), (some (94, true))⟩,
    ⟨some 97, .v (.eqa false [(.i .u8), (.i .u8), (.i .u8), (.i .u8), (.i .u8), (.i .u8), (.i .u8), (.i .u8), (.i .u8), (.i .u8), (.i .u8), (.i .u8), (.i .u8), (.i .u8), (.i .u8), (.i .u8), (.i .u8), (.i .u8), (.i .u8), (.i .u8), (.i .u8), (.i .u8), (.i .u8), (.i .u8), (.i .u8), (.i .u8), (.i .u8), (.i .u8), (.i .u8), (.i .u8), (.i .u8), (.i .u8), (.i .u8), (.i .u8), (.i .u8), (.i .u8), (.i .u8), (.i .u8), (.i .u8), (.i .u8), (.i .u8), (.i .u8), (.i .u8), (.i .u8), (.i .u8), (.i .u8), (.i .u8), (.i .u8), (.i .u8), (.i .u8), (.i .u8), (.i .u8), (.i .u8), (.i .u8), (.i .u8), (.i .u8), (.i .u8), (.i .u8), (.i .u8), (.i .u8), (.i .u8), (.i .u8), (.i .u8), (.i .u8), (.i .u8), (.i .u8), (.i .u8), (.i .u8), (.i .u8), (.i .u8), (.i .u8), (.i .u8), (.i .u8), (.i .u8), (.i .u8), (.i .u8), (.i .u8), (.i .u8), (.i .u8), (.i .u8), (.i .u8), (.i .u8), (.i .u8), (.i .u8), (.i .u8), (.i .u8), (.i .u8), (.i .u8), (.i .u8), (.i .u8), (.i .u8), (.i .u8), (.i .u8), (.i .u8), (.i .u8), (.i .u8), (.i .u8), (.i .u8), (.i .u8), (.i .u8), (.i .u8), (.i .u8), (.i .u8), (.i .u8), (.i .u8), (.i .u8), (.i .u8), (.i .u8), (.i .u8), (.i .u8), (.i .u8), (.i .u8), (.i .u8), (.i .u8), (.i .u8), (.i .u8), (.i .u8), (.i .u8), (.i .u8), (.i .u8), (.i .u8), (.i .u8), (.i .u8), (.i .u8), (.i .u8), (.i .u8), (.i .u8), (.i .u8)] (.t 95) (.t 96)), (some (94, true))⟩,
    ⟨some 98, .p (.mov (.t 97)), (some (94, true))⟩,
    ⟨some 99, .h (.load true 128 (.t 2)), (some (98, false))⟩,
    ⟨some 100, .call 29 [(.c (.int .i64 0)), (.t 99)], (some (98, false))⟩,
    ⟨some 101, .h (.load true 128 (.t 12)), (some (98, false))⟩,
    ⟨some 102, .call 29 [(.c (.int .i64 0)), (.t 101)], (some (98, false))⟩,
    ⟨some 103, .call 28 [(.t 100), (.t 102)], (some (98, false))⟩,
    ⟨some 104, .p (.mov (.t 9)), (some (98, false))⟩,
    ⟨some 105, .p (.bin .leq (.t 103) (.t 104)), (some (98, false))⟩,
    ⟨some 106, .p (.pick (.t 98) (.c (.bool true)) (.t 105)), (some (94, true))⟩,
    ⟨some 107, .p (.pick (.t 94) (.t 106) (.c (.bool false))), none⟩,
    ⟨some 4, .p (.mov (.t 107)), none⟩])
  .ret))))))))))))
def rs7 : List AR := [.tmp 4]
theorem ok7 : okF Tryd.prog 7 108 ac7 rs7 = true := by kernel_rfl
/-- (*simulacrum/disk.Disk).Flip -/
def ac26 : AC := (.seq (.reg [⟨some 6, .p (.mov (.c (.int .i64 0))), none⟩])
  (.seq (.seq (.reg [⟨some 9, .p (.mov (.t 0)), none⟩,
    ⟨some 10, .p (.mov (.t 1)), none⟩,
    ⟨some 11, .call 39 [(.t 9), (.t 10)], none⟩,
    ⟨some 7, .p (.mov (.t 11)), none⟩])
  (.seq (.reg [⟨some 12, .p (.mov (.t 7)), none⟩,
    ⟨some 13, .p (.bin .neq (.t 12) (.c (.int .i64 0))), none⟩])
  (.cond (.t 13) (.seq (.reg [⟨some 14, .p (.mov (.t 7)), none⟩,
    ⟨some 6, .p (.mov (.t 14)), none⟩])
  .ret) .skip)))
  (.seq (.seq (.reg [⟨some 15, .p (.mov (.t 2)), none⟩,
    ⟨some 16, .p (.bin .lss (.t 15) (.c (.int .i64 0))), none⟩,
    ⟨some 17, .p (.mov (.t 16)), none⟩,
    ⟨some 18, .p (.mov (.t 2)), (some (17, false))⟩,
    ⟨some 19, .p (.bin .geq (.t 18) (.c (.int .i64 512))), (some (17, false))⟩,
    ⟨some 20, .p (.pick (.t 17) (.c (.bool true)) (.t 19)), none⟩])
  (.cond (.t 20) (.seq (.reg [⟨some 6, .p (.mov (.c (.int .i64 1))), none⟩])
  .ret) .skip))
  (.seq (.seq (.reg [⟨some 21, .p (.mov (.t 0)), none⟩,
    ⟨some 22, .p (.nilchk (.t 21)), none⟩,
    ⟨some 23, .p (.fieldA 0 (.t 22)), none⟩,
    ⟨some 24, .h (.load false 1 (.t 23)), none⟩,
    ⟨some 25, .p (.mov (.t 1)), none⟩,
    ⟨some 26, .p (.idxA 65 none (.t 24) (.t 25)), none⟩,
    ⟨some 27, .h (.load true 65 (.t 26)), none⟩,
    ⟨some 8, .h (.alloc [(.int .u8 0), (.int .u8 0), (.int .u8 0), (.int .u8 0), (.int .u8 0), (.int .u8 0), (.int .u8 0), (.int .u8 0), (.int .u8 0), (.int .u8 0), (.int .u8 0), (.int .u8 0), (.int .u8 0), (.int .u8 0), (.int .u8 0), (.int .u8 0), (.int .u8 0), (.int .u8 0), (.int .u8 0), (.int .u8 0), (.int .u8 0), (.int .u8 0), (.int .u8 0), (.int .u8 0), (.int .u8 0), (.int .u8 0), (.int .u8 0), (.int .u8 0), (.int .u8 0), (.int .u8 0), (.int .u8 0), (.int .u8 0), (.int .u8 0), (.int .u8 0), (.int .u8 0), (.int .u8 0), (.int .u8 0), (.int .u8 0), (.int .u8 0), (.int .u8 0), (.int .u8 0), (.int .u8 0), (.int .u8 0), (.int .u8 0), (.int .u8 0), (.int .u8 0), (.int .u8 0), (.int .u8 0), (.int .u8 0), (.int .u8 0), (.int .u8 0), (.int .u8 0), (.int .u8 0), (.int .u8 0), (.int .u8 0), (.int .u8 0), (.int .u8 0), (.int .u8 0), (.int .u8 0), (.int .u8 0), (.int .u8 0), (.int .u8 0), (.int .u8 0), (.int .u8 0), (.bool false)]), none⟩,
    ⟨none, .h (.store 65 (.t 8) (.t 27)), none⟩])
  (.seq (.reg [⟨some 28, .h (.load true 65 (.t 8)), none⟩,
    ⟨some 29, .v (.build [(.int .u8 0), (.int .u8 0), (.int .u8 0), (.int .u8 0), (.int .u8 0), (.int .u8 0), (.int .u8 0), (.int .u8 0), (.int .u8 0), (.int .u8 0), (.int .u8 0), (.int .u8 0), (.int .u8 0), (.int .u8 0), (.int .u8 0), (.int .u8 0), (.int .u8 0), (.int .u8 0), (.int .u8 0), (.int .u8 0), (.int .u8 0), (.int .u8 0), (.int .u8 0), (.int .u8 0), (.int .u8 0), (.int .u8 0), (.int .u8 0), (.int .u8 0), (.int .u8 0), (.int .u8 0), (.int .u8 0), (.int .u8 0), (.int .u8 0), (.int .u8 0), (.int .u8 0), (.int .u8 0), (.int .u8 0), (.int .u8 0), (.int .u8 0), (.int .u8 0), (.int .u8 0), (.int .u8 0), (.int .u8 0), (.int .u8 0), (.int .u8 0), (.int .u8 0), (.int .u8 0), (.int .u8 0), (.int .u8 0), (.int .u8 0), (.int .u8 0), (.int .u8 0), (.int .u8 0), (.int .u8 0), (.int .u8 0), (.int .u8 0), (.int .u8 0), (.int .u8 0), (.int .u8 0), (.int .u8 0), (.int .u8 0), (.int .u8 0), (.int .u8 0), (.int .u8 0), (.bool false)] [(64, 1, (.c (.bool true)))]), none⟩,
    ⟨some 30, .v (.eqa true [(.i .u8), (.i .u8), (.i .u8), (.i .u8), (.i .u8), (.i .u8), (.i .u8), (.i .u8), (.i .u8), (.i .u8), (.i .u8), (.i .u8), (.i .u8), (.i .u8), (.i .u8), (.i .u8), (.i .u8), (.i .u8), (.i .u8), (.i .u8), (.i .u8), (.i .u8), (.i .u8), (.i .u8), (.i .u8), (.i .u8), (.i .u8), (.i .u8), (.i .u8), (.i .u8), (.i .u8), (.i .u8), (.i .u8), (.i .u8), (.i .u8), (.i .u8), (.i .u8), (.i .u8), (.i .u8), (.i .u8), (.i .u8), (.i .u8), (.i .u8), (.i .u8), (.i .u8), (.i .u8), (.i .u8), (.i .u8), (.i .u8), (.i .u8), (.i .u8), (.i .u8), (.i .u8), (.i .u8), (.i .u8), (.i .u8), (.i .u8), (.i .u8), (.i .u8), (.i .u8), (.i .u8), (.i .u8), (.i .u8), (.i .u8), .b] (.t 28) (.t 29)), none⟩])
  (.cond (.t 30) (.draw 19 [(3, 18), (10, 18)] [⟨some 31, .p (.mov (.t 0)), none⟩,
    ⟨some 32, .p (.nilchk (.t 31)), none⟩,
    ⟨some 33, .p (.fieldA 0 (.t 32)), none⟩,
    ⟨some 34, .h (.load false 1 (.t 33)), none⟩,
    ⟨some 35, .p (.mov (.t 1)), none⟩,
    ⟨some 36, .p (.mov (.t 2)), none⟩,
    ⟨some 37, .p (.bin .quo (.t 36) (.c (.int .i64 8))), none⟩,
    ⟨some 38, .p (.idxA 65 none (.t 34) (.t 35)), none⟩,
    ⟨some 39, .p (.fieldA 0 (.t 38)), none⟩,
    ⟨some 40, .p (.idxA 1 (some 64) (.t 39) (.t 37)), none⟩,
    ⟨some 41, .h (.load false 1 (.t 40)), none⟩,
    ⟨some 42, .p (.mov (.t 2)), none⟩,
    ⟨some 43, .p (.bin .rem (.t 42) (.c (.int .i64 8))), none⟩,
    ⟨some 44, .p (.binw .shl (.c (.int .u8 1)) (.t 43)), none⟩,
    ⟨some 45, .p (.binw .xor (.t 41) (.t 44)), none⟩,
    ⟨some 46, .p (.idxA 65 none (.t 34) (.t 35)), none⟩,
    ⟨some 47, .p (.fieldA 0 (.t 46)), none⟩,
    ⟨some 48, .p (.idxA 1 (some 64) (.t 47) (.t 37)), none⟩,
    ⟨none, .h (.store 1 (.t 48) (.t 45)), none⟩]) .skip)))
  (.seq (.reg [⟨some 6, .p (.mov (.c (.int .i64 0))), none⟩])
  .ret)))))
def rs26 : List AR := [.tmp 6]
theorem ok26 : okF Tryd.prog 26 49 ac26 rs26 = true := by kernel_rfl
/-- simulacrum/simulacrumlaw27.apart -/
def ac28 : AC := (.seq (.reg [⟨some 2, .h (.box (.t 0)), none⟩,
    ⟨some 3, .h (.box (.t 1)), none⟩,
    ⟨some 4, .p (.mov (.c (.int .i64 0))), none⟩])
  (.seq (.reg [⟨some 5, .p (.mov (.c (.int .i64 0))), none⟩])
  (.seq (.seq (.reg [⟨some 6, .p (.mov (.c (.int .i64 0))), none⟩])
  (.block 0 (.loop (.seq (.seq (.reg [⟨some 8, .p (.mov (.t 6)), none⟩,
    ⟨some 9, .p (.bin .lss (.t 8) (.c (.int .i64 16))), none⟩])
  (.cond (.t 9) .skip (.exit 0)))
  (.seq (.block 1 (.seq (.reg [⟨some 7, .p (.mov (.c (.int .i64 0))), none⟩])
  (.block 2 (.loop (.seq (.seq (.reg [⟨some 12, .p (.mov (.t 7)), none⟩,
    ⟨some 13, .p (.bin .lss (.t 12) (.c (.int .i64 8))), none⟩])
  (.cond (.t 13) .skip (.exit 2)))
  (.seq (.block 3 (.seq (.draw 11 [] [⟨some 16, .p (.mov (.t 6)), none⟩,
    ⟨some 17, .p (.idxA 1 (some 16) (.t 2) (.t 16)), none⟩,
    ⟨some 18, .h (.load false 1 (.t 17)), none⟩,
    ⟨some 19, .p (.mov (.t 6)), none⟩,
    ⟨some 20, .p (.idxA 1 (some 16) (.t 3) (.t 19)), none⟩,
    ⟨some 21, .h (.load false 1 (.t 20)), none⟩,
    ⟨some 22, .p (.binw .xor (.t 18) (.t 21)), none⟩,
    ⟨some 23, .p (.mov (.t 7)), none⟩,
    ⟨some 24, .p (.binw .shr (.t 22) (.t 23)), none⟩,
    ⟨some 25, .p (.binw .and (.t 24) (.c (.int .u8 1))), none⟩,
    ⟨some 26, .p (.binw .eql (.t 25) (.c (.int .u8 1))), none⟩])
  (.cond (.t 26) (.reg [⟨some 27, .p (.mov (.t 5)), none⟩,
    ⟨some 28, .p (.bin .add (.t 27) (.c (.int .i64 1))), none⟩,
    ⟨some 5, .p (.mov (.t 28)), none⟩]) .skip)))
  (.reg [⟨some 14, .p (.mov (.t 7)), none⟩,
    ⟨some 15, .p (.bin .add (.t 14) (.c (.int .i64 1))), none⟩,
    ⟨some 7, .p (.mov (.t 15)), none⟩])))))))
  (.reg [⟨some 10, .p (.mov (.t 6)), none⟩,
    ⟨some 11, .p (.bin .add (.t 10) (.c (.int .i64 1))), none⟩,
    ⟨some 6, .p (.mov (.t 11)), none⟩]))))))
  (.seq (.reg [⟨some 29, .p (.mov (.t 5)), none⟩,
    ⟨some 4, .p (.mov (.t 29)), none⟩])
  .ret))))
def rs28 : List AR := [.tmp 4]
theorem ok28 : okF Tryd.prog 28 30 ac28 rs28 = true := by kernel_rfl
/-- simulacrum/simulacrumref27.Digest -/
def ac29 : AC := (.seq (.reg [⟨some 3, .h (.box (.t 1)), none⟩,
    ⟨some 4, .h (.alloc [(.int .u8 0), (.int .u8 0), (.int .u8 0), (.int .u8 0), (.int .u8 0), (.int .u8 0), (.int .u8 0), (.int .u8 0), (.int .u8 0), (.int .u8 0), (.int .u8 0), (.int .u8 0), (.int .u8 0), (.int .u8 0), (.int .u8 0), (.int .u8 0)]), none⟩])
  (.seq (.reg [⟨some 5, .p (.mov (.c .nils)), none⟩])
  (.seq (.seq (.reg [⟨some 6, .p (.mov (.c (.int .i64 0))), none⟩])
  (.block 0 (.loop (.seq (.seq (.reg [⟨some 7, .p (.mov (.t 6)), none⟩,
    ⟨some 8, .p (.bin .lss (.t 7) (.c (.int .i64 8))), none⟩])
  (.cond (.t 8) .skip (.exit 0)))
  (.seq (.block 1 (.reg [⟨some 11, .p (.mov (.t 5)), none⟩,
    ⟨some 12, .p (.mov (.t 0)), none⟩,
    ⟨some 13, .p (.mov (.t 6)), none⟩,
    ⟨some 14, .p (.bin .mul (.c (.int .i64 8)) (.t 13)), none⟩,
    ⟨some 15, .p (.binw .shr (.t 12) (.t 14)), none⟩,
    ⟨some 16, .p (.convw .u8 (.t 15)), none⟩,
    ⟨some 17, .d (.bslice 1 1 [(.int .u8 0)] [(0, (.t 16))]), none⟩,
    ⟨some 18, .l (.append 1 1 (.t 11) (.t 17)), none⟩,
    ⟨some 5, .p (.mov (.t 18)), none⟩]))
  (.reg [⟨some 9, .p (.mov (.t 6)), none⟩,
    ⟨some 10, .p (.bin .add (.t 9) (.c (.int .i64 1))), none⟩,
    ⟨some 6, .p (.mov (.t 10)), none⟩]))))))
  (.seq (.draw 7 [(2, 4), (4, 5), (5, 6), (2, 6), (4, 6)] [⟨some 19, .p (.mov (.t 5)), none⟩,
    ⟨some 20, .d (.sl2s (.t 19)), none⟩,
    ⟨some 21, .d (.asub 1 128 (.t 3) none none), none⟩,
    ⟨some 22, .d (.sl2s (.t 21)), none⟩,
    ⟨some 23, .d (.bslice 1 2 [(.str .empty)] [(0, (.t 20)), (1, (.t 22))]), none⟩,
    ⟨some 24, .call 41 [(.c (.int .i64 27)), (.t 23)], none⟩,
    ⟨none, .h (.store 16 (.t 4) (.t 24)), none⟩])
  .ret))))
def rs29 : List AR := [.cell 4 true 16]
theorem ok29 : okF Tryd.prog 29 25 ac29 rs29 = true := by kernel_rfl
/-- simulacrum/simulacrumref02.Of -/
def ac41 : AC := (.seq (.reg [⟨some 4, .h (.alloc [(.int .u8 0), (.int .u8 0), (.int .u8 0), (.int .u8 0), (.int .u8 0), (.int .u8 0), (.int .u8 0), (.int .u8 0), (.int .u8 0), (.int .u8 0), (.int .u8 0), (.int .u8 0), (.int .u8 0), (.int .u8 0), (.int .u8 0), (.int .u8 0)]), none⟩])
  (.seq (.reg [⟨some 5, .p (.mov (.t 0)), none⟩,
    ⟨some 6, .p (.mov (.t 1)), none⟩,
    ⟨some 7, .call 48 [(.t 5), (.t 6)], none⟩,
    ⟨some 8, .call 47 [(.t 7)], none⟩,
    ⟨none, .h (.store 16 (.t 4) (.t 8)), none⟩])
  .ret))
def rs41 : List AR := [.cell 4 true 16]
theorem ok41 : okF Tryd.prog 41 9 ac41 rs41 = true := by kernel_rfl
/-- simulacrum/simulacrumref02.Short -/
def ac47 : AC := (.seq (.reg [⟨some 2, .h (.alloc [(.int .u8 0), (.int .u8 0), (.int .u8 0), (.int .u8 0), (.int .u8 0), (.int .u8 0), (.int .u8 0), (.int .u8 0), (.int .u8 0), (.int .u8 0), (.int .u8 0), (.int .u8 0), (.int .u8 0), (.int .u8 0), (.int .u8 0), (.int .u8 0)]), none⟩])
  (.seq (.reg [⟨some 6, .p (.mov (.t 0)), none⟩,
    ⟨some 7, .call 55 [(.t 6)], none⟩,
    ⟨some 3, .h (.alloc [(.int .u8 0), (.int .u8 0), (.int .u8 0), (.int .u8 0), (.int .u8 0), (.int .u8 0), (.int .u8 0), (.int .u8 0), (.int .u8 0), (.int .u8 0), (.int .u8 0), (.int .u8 0), (.int .u8 0), (.int .u8 0), (.int .u8 0), (.int .u8 0), (.int .u8 0), (.int .u8 0), (.int .u8 0), (.int .u8 0), (.int .u8 0), (.int .u8 0), (.int .u8 0), (.int .u8 0), (.int .u8 0), (.int .u8 0), (.int .u8 0), (.int .u8 0), (.int .u8 0), (.int .u8 0), (.int .u8 0), (.int .u8 0)]), none⟩,
    ⟨none, .h (.store 32 (.t 3) (.t 7)), none⟩])
  (.seq (.reg [⟨some 8, .v (.build [(.int .u8 0), (.int .u8 0), (.int .u8 0), (.int .u8 0), (.int .u8 0), (.int .u8 0), (.int .u8 0), (.int .u8 0), (.int .u8 0), (.int .u8 0), (.int .u8 0), (.int .u8 0), (.int .u8 0), (.int .u8 0), (.int .u8 0), (.int .u8 0)] []), none⟩,
    ⟨some 4, .h (.alloc [(.int .u8 0), (.int .u8 0), (.int .u8 0), (.int .u8 0), (.int .u8 0), (.int .u8 0), (.int .u8 0), (.int .u8 0), (.int .u8 0), (.int .u8 0), (.int .u8 0), (.int .u8 0), (.int .u8 0), (.int .u8 0), (.int .u8 0), (.int .u8 0)]), none⟩,
    ⟨none, .h (.store 16 (.t 4) (.t 8)), none⟩])
  (.seq (.seq (.reg [⟨some 5, .p (.mov (.c (.int .i64 0))), none⟩])
  (.block 0 (.loop (.seq (.seq (.reg [⟨some 9, .p (.mov (.t 5)), none⟩,
    ⟨some 10, .p (.bin .lss (.t 9) (.c (.int .i64 16))), none⟩])
  (.cond (.t 10) .skip (.exit 0)))
  (.seq (.block 1 (.reg [⟨some 13, .p (.mov (.t 5)), none⟩,
    ⟨some 14, .p (.mov (.t 5)), none⟩,
    ⟨some 15, .p (.idxA 1 (some 32) (.t 3) (.t 14)), none⟩,
    ⟨some 16, .h (.load false 1 (.t 15)), none⟩,
    ⟨some 17, .p (.idxA 1 (some 16) (.t 4) (.t 13)), none⟩,
    ⟨none, .h (.store 1 (.t 17) (.t 16)), none⟩]))
  (.reg [⟨some 11, .p (.mov (.t 5)), none⟩,
    ⟨some 12, .p (.bin .add (.t 11) (.c (.int .i64 1))), none⟩,
    ⟨some 5, .p (.mov (.t 12)), none⟩]))))))
  (.seq (.reg [⟨some 18, .h (.load true 16 (.t 4)), none⟩,
    ⟨none, .h (.store 16 (.t 2) (.t 18)), none⟩])
  .ret)))))
def rs47 : List AR := [.cell 2 true 16]
theorem ok47 : okF Tryd.prog 47 19 ac47 rs47 = true := by kernel_rfl
/-- simulacrum/simulacrumref02.Input -/
def ac48 : AC := (.seq (.reg [⟨some 4, .p (.mov (.c .nils)), none⟩])
  (.seq (.reg [⟨some 7, .p (.mov (.t 0)), none⟩,
    ⟨some 8, .p (.convw .u8 (.t 7)), none⟩,
    ⟨some 9, .d (.bslice 1 1 [(.int .u8 0)] [(0, (.t 8))]), none⟩,
    ⟨some 5, .p (.mov (.t 9)), none⟩])
  (.seq (.seq (.reg [⟨some 6, .p (.mov (.c (.int .i64 0))), none⟩])
  (.block 0 (.loop (.seq (.seq (.reg [⟨some 10, .p (.mov (.t 6)), none⟩,
    ⟨some 11, .p (.mov (.t 1)), none⟩,
    ⟨some 12, .p (.len false (.t 11)), none⟩,
    ⟨some 13, .p (.bin .lss (.t 10) (.t 12)), none⟩])
  (.cond (.t 13) .skip (.exit 0)))
  (.seq (.block 1 (.reg [⟨some 16, .p (.mov (.t 5)), none⟩,
    ⟨some 17, .p (.mov (.t 1)), none⟩,
    ⟨some 18, .p (.mov (.t 6)), none⟩,
    ⟨some 19, .p (.idxA 1 none (.t 17) (.t 18)), none⟩,
    ⟨some 20, .h (.load false 1 (.t 19)), none⟩,
    ⟨some 21, .call 56 [(.t 20)], none⟩,
    ⟨some 22, .l (.append 1 1 (.t 16) (.t 21)), none⟩,
    ⟨some 5, .p (.mov (.t 22)), none⟩]))
  (.reg [⟨some 14, .p (.mov (.t 6)), none⟩,
    ⟨some 15, .p (.bin .add (.t 14) (.c (.int .i64 1))), none⟩,
    ⟨some 6, .p (.mov (.t 15)), none⟩]))))))
  (.seq (.reg [⟨some 23, .p (.mov (.t 5)), none⟩,
    ⟨some 4, .p (.mov (.t 23)), none⟩])
  .ret))))
def rs48 : List AR := [.tmp 4]
theorem ok48 : okF Tryd.prog 48 24 ac48 rs48 = true := by kernel_rfl
/-- simulacrum/simulacrumref02.Sum -/
def ac55 : AC := (.seq (.reg [⟨some 2, .h (.alloc [(.int .u8 0), (.int .u8 0), (.int .u8 0), (.int .u8 0), (.int .u8 0), (.int .u8 0), (.int .u8 0), (.int .u8 0), (.int .u8 0), (.int .u8 0), (.int .u8 0), (.int .u8 0), (.int .u8 0), (.int .u8 0), (.int .u8 0), (.int .u8 0), (.int .u8 0), (.int .u8 0), (.int .u8 0), (.int .u8 0), (.int .u8 0), (.int .u8 0), (.int .u8 0), (.int .u8 0), (.int .u8 0), (.int .u8 0), (.int .u8 0), (.int .u8 0), (.int .u8 0), (.int .u8 0), (.int .u8 0), (.int .u8 0)]), none⟩])
  (.seq (.reg [⟨some 14, .v (.build [(.int .u32 0), (.int .u32 0), (.int .u32 0), (.int .u32 0), (.int .u32 0), (.int .u32 0), (.int .u32 0), (.int .u32 0)] [(0, 1, (.c (.int .u32 1779033703))), (1, 1, (.c (.int .u32 3144134277))), (2, 1, (.c (.int .u32 1013904242))), (3, 1, (.c (.int .u32 2773480762))), (4, 1, (.c (.int .u32 1359893119))), (5, 1, (.c (.int .u32 2600822924))), (6, 1, (.c (.int .u32 528734635))), (7, 1, (.c (.int .u32 1541459225)))]), none⟩,
    ⟨some 3, .h (.alloc [(.int .u32 0), (.int .u32 0), (.int .u32 0), (.int .u32 0), (.int .u32 0), (.int .u32 0), (.int .u32 0), (.int .u32 0)]), none⟩,
    ⟨none, .h (.store 8 (.t 3) (.t 14)), none⟩])
  (.seq (.reg [⟨some 15, .p (.mov (.t 0)), none⟩,
    ⟨some 16, .call 59 [(.t 15)], none⟩,
    ⟨some 4, .p (.mov (.t 16)), none⟩])
  (.seq (.seq (.reg [⟨some 5, .p (.mov (.c (.int .i64 0))), none⟩])
  (.block 0 (.loop (.seq (.seq (.reg [⟨some 17, .p (.mov (.t 5)), none⟩,
    ⟨some 18, .p (.mov (.t 4)), none⟩,
    ⟨some 19, .p (.len false (.t 18)), none⟩,
    ⟨some 20, .p (.bin .lss (.t 17) (.t 19)), none⟩])
  (.cond (.t 20) .skip (.exit 0)))
  (.seq (.block 1 (.seq (.reg [⟨some 23, .p (.mov (.t 4)), none⟩,
    ⟨some 24, .p (.mov (.t 5)), none⟩,
    ⟨some 25, .p (.mov (.t 5)), none⟩,
    ⟨some 26, .p (.bin .add (.t 25) (.c (.int .i64 64))), none⟩,
    ⟨some 27, .v (.sub 1 (.t 23) (some (.t 24)) (some (.t 26)) none), none⟩,
    ⟨some 28, .call 60 [(.t 27)], none⟩,
    ⟨some 6, .h (.alloc [(.int .u32 0), (.int .u32 0), (.int .u32 0), (.int .u32 0), (.int .u32 0), (.int .u32 0), (.int .u32 0), (.int .u32 0), (.int .u32 0), (.int .u32 0), (.int .u32 0), (.int .u32 0), (.int .u32 0), (.int .u32 0), (.int .u32 0), (.int .u32 0), (.int .u32 0), (.int .u32 0), (.int .u32 0), (.int .u32 0), (.int .u32 0), (.int .u32 0), (.int .u32 0), (.int .u32 0), (.int .u32 0), (.int .u32 0), (.int .u32 0), (.int .u32 0), (.int .u32 0), (.int .u32 0), (.int .u32 0), (.int .u32 0), (.int .u32 0), (.int .u32 0), (.int .u32 0), (.int .u32 0), (.int .u32 0), (.int .u32 0), (.int .u32 0), (.int .u32 0), (.int .u32 0), (.int .u32 0), (.int .u32 0), (.int .u32 0), (.int .u32 0), (.int .u32 0), (.int .u32 0), (.int .u32 0), (.int .u32 0), (.int .u32 0), (.int .u32 0), (.int .u32 0), (.int .u32 0), (.int .u32 0), (.int .u32 0), (.int .u32 0), (.int .u32 0), (.int .u32 0), (.int .u32 0), (.int .u32 0), (.int .u32 0), (.int .u32 0), (.int .u32 0), (.int .u32 0)]), none⟩,
    ⟨none, .h (.store 64 (.t 6) (.t 28)), none⟩])
  (.seq (.reg [⟨some 29, .h (.load true 8 (.t 3)), none⟩,
    ⟨some 7, .h (.alloc [(.int .u32 0), (.int .u32 0), (.int .u32 0), (.int .u32 0), (.int .u32 0), (.int .u32 0), (.int .u32 0), (.int .u32 0)]), none⟩,
    ⟨none, .h (.store 8 (.t 7) (.t 29)), none⟩])
  (.seq (.seq (.reg [⟨some 8, .p (.mov (.c (.int .i64 0))), none⟩])
  (.block 2 (.loop (.seq (.seq (.reg [⟨some 30, .p (.mov (.t 8)), none⟩,
    ⟨some 31, .p (.bin .lss (.t 30) (.c (.int .i64 64))), none⟩])
  (.cond (.t 31) .skip (.exit 2)))
  (.seq (.block 3 (.seq (.draw 36 [] [⟨some 34, .p (.idxA 1 (some 8) (.t 7) (.c (.int .i64 7))), none⟩,
    ⟨some 35, .h (.load false 1 (.t 34)), none⟩,
    ⟨some 36, .p (.idxA 1 (some 8) (.t 7) (.c (.int .i64 4))), none⟩,
    ⟨some 37, .h (.load false 1 (.t 36)), none⟩,
    ⟨some 38, .call 61 [(.t 37), (.c (.int .i64 6))], none⟩,
    ⟨some 39, .p (.idxA 1 (some 8) (.t 7) (.c (.int .i64 4))), none⟩,
    ⟨some 40, .h (.load false 1 (.t 39)), none⟩,
    ⟨some 41, .call 61 [(.t 40), (.c (.int .i64 11))], none⟩,
    ⟨some 42, .p (.binw .xor (.t 38) (.t 41)), none⟩,
    ⟨some 43, .p (.idxA 1 (some 8) (.t 7) (.c (.int .i64 4))), none⟩,
    ⟨some 44, .h (.load false 1 (.t 43)), none⟩,
    ⟨some 45, .call 61 [(.t 44), (.c (.int .i64 25))], none⟩,
    ⟨some 46, .p (.binw .xor (.t 42) (.t 45)), none⟩,
    ⟨some 47, .p (.binw .add (.t 35) (.t 46)), none⟩,
    ⟨some 48, .p (.idxA 1 (some 8) (.t 7) (.c (.int .i64 4))), none⟩,
    ⟨some 49, .h (.load false 1 (.t 48)), none⟩,
    ⟨some 50, .p (.idxA 1 (some 8) (.t 7) (.c (.int .i64 5))), none⟩,
    ⟨some 51, .h (.load false 1 (.t 50)), none⟩,
    ⟨some 52, .p (.binw .and (.t 49) (.t 51)), none⟩,
    ⟨some 53, .p (.idxA 1 (some 8) (.t 7) (.c (.int .i64 4))), none⟩,
    ⟨some 54, .h (.load false 1 (.t 53)), none⟩,
    ⟨some 55, .p (.binw .xor (.t 54) (.c (.int .u32 4294967295))), none⟩,
    ⟨some 56, .p (.idxA 1 (some 8) (.t 7) (.c (.int .i64 6))), none⟩,
    ⟨some 57, .h (.load false 1 (.t 56)), none⟩,
    ⟨some 58, .p (.binw .and (.t 55) (.t 57)), none⟩,
    ⟨some 59, .p (.binw .xor (.t 52) (.t 58)), none⟩,
    ⟨some 60, .p (.binw .add (.t 47) (.t 59)), none⟩,
    ⟨some 61, .p (.mov (.t 8)), none⟩,
    ⟨some 62, .p (.idxA 1 (some 64) (.g 0) (.t 61)), none⟩,
    ⟨some 63, .h (.load false 1 (.t 62)), none⟩,
    ⟨some 64, .p (.binw .add (.t 60) (.t 63)), none⟩,
    ⟨some 65, .p (.mov (.t 8)), none⟩,
    ⟨some 66, .p (.idxA 1 (some 64) (.t 6) (.t 65)), none⟩,
    ⟨some 67, .h (.load false 1 (.t 66)), none⟩,
    ⟨some 68, .p (.binw .add (.t 64) (.t 67)), none⟩,
    ⟨some 9, .p (.mov (.t 68)), none⟩])
  (.seq (.draw 30 [] [⟨some 69, .p (.idxA 1 (some 8) (.t 7) (.c (.int .i64 0))), none⟩,
    ⟨some 70, .h (.load false 1 (.t 69)), none⟩,
    ⟨some 71, .call 61 [(.t 70), (.c (.int .i64 2))], none⟩,
    ⟨some 72, .p (.idxA 1 (some 8) (.t 7) (.c (.int .i64 0))), none⟩,
    ⟨some 73, .h (.load false 1 (.t 72)), none⟩,
    ⟨some 74, .call 61 [(.t 73), (.c (.int .i64 13))], none⟩,
    ⟨some 75, .p (.binw .xor (.t 71) (.t 74)), none⟩,
    ⟨some 76, .p (.idxA 1 (some 8) (.t 7) (.c (.int .i64 0))), none⟩,
    ⟨some 77, .h (.load false 1 (.t 76)), none⟩,
    ⟨some 78, .call 61 [(.t 77), (.c (.int .i64 22))], none⟩,
    ⟨some 79, .p (.binw .xor (.t 75) (.t 78)), none⟩,
    ⟨some 80, .p (.idxA 1 (some 8) (.t 7) (.c (.int .i64 0))), none⟩,
    ⟨some 81, .h (.load false 1 (.t 80)), none⟩,
    ⟨some 82, .p (.idxA 1 (some 8) (.t 7) (.c (.int .i64 1))), none⟩,
    ⟨some 83, .h (.load false 1 (.t 82)), none⟩,
    ⟨some 84, .p (.binw .and (.t 81) (.t 83)), none⟩,
    ⟨some 85, .p (.idxA 1 (some 8) (.t 7) (.c (.int .i64 0))), none⟩,
    ⟨some 86, .h (.load false 1 (.t 85)), none⟩,
    ⟨some 87, .p (.idxA 1 (some 8) (.t 7) (.c (.int .i64 2))), none⟩,
    ⟨some 88, .h (.load false 1 (.t 87)), none⟩,
    ⟨some 89, .p (.binw .and (.t 86) (.t 88)), none⟩,
    ⟨some 90, .p (.binw .xor (.t 84) (.t 89)), none⟩,
    ⟨some 91, .p (.idxA 1 (some 8) (.t 7) (.c (.int .i64 1))), none⟩,
    ⟨some 92, .h (.load false 1 (.t 91)), none⟩,
    ⟨some 93, .p (.idxA 1 (some 8) (.t 7) (.c (.int .i64 2))), none⟩,
    ⟨some 94, .h (.load false 1 (.t 93)), none⟩,
    ⟨some 95, .p (.binw .and (.t 92) (.t 94)), none⟩,
    ⟨some 96, .p (.binw .xor (.t 90) (.t 95)), none⟩,
    ⟨some 97, .p (.binw .add (.t 79) (.t 96)), none⟩,
    ⟨some 10, .p (.mov (.t 97)), none⟩])
  (.reg [⟨some 98, .p (.mov (.t 9)), none⟩,
    ⟨some 99, .p (.mov (.t 10)), none⟩,
    ⟨some 100, .p (.binw .add (.t 98) (.t 99)), none⟩,
    ⟨some 101, .p (.idxA 1 (some 8) (.t 7) (.c (.int .i64 0))), none⟩,
    ⟨some 102, .h (.load false 1 (.t 101)), none⟩,
    ⟨some 103, .p (.idxA 1 (some 8) (.t 7) (.c (.int .i64 1))), none⟩,
    ⟨some 104, .h (.load false 1 (.t 103)), none⟩,
    ⟨some 105, .p (.idxA 1 (some 8) (.t 7) (.c (.int .i64 2))), none⟩,
    ⟨some 106, .h (.load false 1 (.t 105)), none⟩,
    ⟨some 107, .p (.idxA 1 (some 8) (.t 7) (.c (.int .i64 3))), none⟩,
    ⟨some 108, .h (.load false 1 (.t 107)), none⟩,
    ⟨some 109, .p (.mov (.t 9)), none⟩,
    ⟨some 110, .p (.binw .add (.t 108) (.t 109)), none⟩,
    ⟨some 111, .p (.idxA 1 (some 8) (.t 7) (.c (.int .i64 4))), none⟩,
    ⟨some 112, .h (.load false 1 (.t 111)), none⟩,
    ⟨some 113, .p (.idxA 1 (some 8) (.t 7) (.c (.int .i64 5))), none⟩,
    ⟨some 114, .h (.load false 1 (.t 113)), none⟩,
    ⟨some 115, .p (.idxA 1 (some 8) (.t 7) (.c (.int .i64 6))), none⟩,
    ⟨some 116, .h (.load false 1 (.t 115)), none⟩,
    ⟨some 117, .v (.build [(.int .u32 0), (.int .u32 0), (.int .u32 0), (.int .u32 0), (.int .u32 0), (.int .u32 0), (.int .u32 0), (.int .u32 0)] [(0, 1, (.t 100)), (1, 1, (.t 102)), (2, 1, (.t 104)), (3, 1, (.t 106)), (4, 1, (.t 110)), (5, 1, (.t 112)), (6, 1, (.t 114)), (7, 1, (.t 116))]), none⟩,
    ⟨none, .h (.store 8 (.t 7) (.t 117)), none⟩]))))
  (.reg [⟨some 32, .p (.mov (.t 8)), none⟩,
    ⟨some 33, .p (.bin .add (.t 32) (.c (.int .i64 1))), none⟩,
    ⟨some 8, .p (.mov (.t 33)), none⟩]))))))
  (.seq (.reg [⟨some 11, .p (.mov (.c (.int .i64 0))), none⟩])
  (.block 4 (.loop (.seq (.seq (.reg [⟨some 118, .p (.mov (.t 11)), none⟩,
    ⟨some 119, .p (.bin .lss (.t 118) (.c (.int .i64 8))), none⟩])
  (.cond (.t 119) .skip (.exit 4)))
  (.seq (.block 5 (.draw 10 [(3, 9), (6, 9)] [⟨some 122, .p (.mov (.t 11)), none⟩,
    ⟨some 123, .p (.mov (.t 11)), none⟩,
    ⟨some 124, .p (.idxA 1 (some 8) (.t 3) (.t 123)), none⟩,
    ⟨some 125, .h (.load false 1 (.t 124)), none⟩,
    ⟨some 126, .p (.mov (.t 11)), none⟩,
    ⟨some 127, .p (.idxA 1 (some 8) (.t 7) (.t 126)), none⟩,
    ⟨some 128, .h (.load false 1 (.t 127)), none⟩,
    ⟨some 129, .p (.binw .add (.t 125) (.t 128)), none⟩,
    ⟨some 130, .p (.idxA 1 (some 8) (.t 3) (.t 122)), none⟩,
    ⟨none, .h (.store 1 (.t 130) (.t 129)), none⟩]))
  (.reg [⟨some 120, .p (.mov (.t 11)), none⟩,
    ⟨some 121, .p (.bin .add (.t 120) (.c (.int .i64 1))), none⟩,
    ⟨some 11, .p (.mov (.t 121)), none⟩]))))))))))
  (.reg [⟨some 21, .p (.mov (.t 5)), none⟩,
    ⟨some 22, .p (.bin .add (.t 21) (.c (.int .i64 64))), none⟩,
    ⟨some 5, .p (.mov (.t 22)), none⟩]))))))
  (.seq (.reg [⟨some 12, .h (.alloc [(.int .u8 0), (.int .u8 0), (.int .u8 0), (.int .u8 0), (.int .u8 0), (.int .u8 0), (.int .u8 0), (.int .u8 0), (.int .u8 0), (.int .u8 0), (.int .u8 0), (.int .u8 0), (.int .u8 0), (.int .u8 0), (.int .u8 0), (.int .u8 0), (.int .u8 0), (.int .u8 0), (.int .u8 0), (.int .u8 0), (.int .u8 0), (.int .u8 0), (.int .u8 0), (.int .u8 0), (.int .u8 0), (.int .u8 0), (.int .u8 0), (.int .u8 0), (.int .u8 0), (.int .u8 0), (.int .u8 0), (.int .u8 0)]), none⟩])
  (.seq (.seq (.reg [⟨some 13, .p (.mov (.c (.int .i64 0))), none⟩])
  (.block 6 (.loop (.seq (.seq (.reg [⟨some 131, .p (.mov (.t 13)), none⟩,
    ⟨some 132, .p (.bin .lss (.t 131) (.c (.int .i64 32))), none⟩])
  (.cond (.t 132) .skip (.exit 6)))
  (.seq (.block 7 (.reg [⟨some 135, .p (.mov (.t 13)), none⟩,
    ⟨some 136, .p (.mov (.t 13)), none⟩,
    ⟨some 137, .p (.bin .quo (.t 136) (.c (.int .i64 4))), none⟩,
    ⟨some 138, .p (.idxA 1 (some 8) (.t 3) (.t 137)), none⟩,
    ⟨some 139, .h (.load false 1 (.t 138)), none⟩,
    ⟨some 140, .p (.mov (.t 13)), none⟩,
    ⟨some 141, .p (.bin .rem (.t 140) (.c (.int .i64 4))), none⟩,
    ⟨some 142, .p (.bin .mul (.c (.int .i64 8)) (.t 141)), none⟩,
    ⟨some 143, .p (.bin .sub (.c (.int .i64 24)) (.t 142)), none⟩,
    ⟨some 144, .p (.binw .shr (.t 139) (.t 143)), none⟩,
    ⟨some 145, .p (.convw .u8 (.t 144)), none⟩,
    ⟨some 146, .p (.idxA 1 (some 32) (.t 12) (.t 135)), none⟩,
    ⟨none, .h (.store 1 (.t 146) (.t 145)), none⟩]))
  (.reg [⟨some 133, .p (.mov (.t 13)), none⟩,
    ⟨some 134, .p (.bin .add (.t 133) (.c (.int .i64 1))), none⟩,
    ⟨some 13, .p (.mov (.t 134)), none⟩]))))))
  (.seq (.reg [⟨some 147, .h (.load true 32 (.t 12)), none⟩,
    ⟨none, .h (.store 32 (.t 2) (.t 147)), none⟩])
  .ret)))))))
def rs55 : List AR := [.cell 2 true 32]
theorem ok55 : okF Tryd.prog 55 148 ac55 rs55 = true := by kernel_rfl
/-- simulacrum/simulacrumref01.Bytes -/
def ac56 : AC := (.seq (.reg [⟨some 2, .p (.mov (.c .nils)), none⟩])
  (.seq (.reg [⟨some 3, .p (.mov (.t 0)), none⟩,
    ⟨some 4, .p (.len true (.t 3)), none⟩,
    ⟨some 5, .call 62 [(.t 4)], none⟩,
    ⟨some 6, .p (.mov (.t 0)), none⟩,
    ⟨some 7, .l (.appendS 1 (.t 5) (.t 6)), none⟩,
    ⟨some 2, .p (.mov (.t 7)), none⟩])
  .ret))
def rs56 : List AR := [.tmp 2]
theorem ok56 : okF Tryd.prog 56 8 ac56 rs56 = true := by kernel_rfl
/-- simulacrum/simulacrumref02.padded -/
def ac59 : AC := (.seq (.reg [⟨some 2, .p (.mov (.c .nils)), none⟩])
  (.seq (.reg [⟨some 6, .l (.bslice 1 0 [(.int .u8 0)] []), none⟩,
    ⟨some 7, .p (.mov (.t 0)), none⟩,
    ⟨some 8, .l (.append 1 1 (.t 6) (.t 7)), none⟩,
    ⟨some 3, .p (.mov (.t 8)), none⟩])
  (.seq (.reg [⟨some 9, .p (.mov (.t 3)), none⟩,
    ⟨some 10, .d (.bslice 1 1 [(.int .u8 0)] [(0, (.c (.int .u8 128)))]), none⟩,
    ⟨some 11, .l (.append 1 1 (.t 9) (.t 10)), none⟩,
    ⟨some 3, .p (.mov (.t 11)), none⟩])
  (.seq (.block 0 (.loop (.seq (.seq (.reg [⟨some 12, .p (.mov (.t 3)), none⟩,
    ⟨some 13, .p (.len false (.t 12)), none⟩,
    ⟨some 14, .p (.bin .rem (.t 13) (.c (.int .i64 64))), none⟩,
    ⟨some 15, .p (.bin .neq (.t 14) (.c (.int .i64 56))), none⟩])
  (.cond (.t 15) .skip (.exit 0)))
  (.block 1 (.reg [⟨some 16, .p (.mov (.t 3)), none⟩,
    ⟨some 17, .d (.bslice 1 1 [(.int .u8 0)] [(0, (.c (.int .u8 0)))]), none⟩,
    ⟨some 18, .l (.append 1 1 (.t 16) (.t 17)), none⟩,
    ⟨some 3, .p (.mov (.t 18)), none⟩])))))
  (.seq (.reg [⟨some 19, .p (.mov (.t 0)), none⟩,
    ⟨some 20, .p (.len false (.t 19)), none⟩,
    ⟨some 21, .p (.convw .u64 (.t 20)), none⟩,
    ⟨some 22, .p (.binw .mul (.c (.int .u64 8)) (.t 21)), none⟩,
    ⟨some 4, .p (.mov (.t 22)), none⟩])
  (.seq (.seq (.reg [⟨some 5, .p (.mov (.c (.int .i64 0))), none⟩])
  (.block 2 (.loop (.seq (.seq (.reg [⟨some 23, .p (.mov (.t 5)), none⟩,
    ⟨some 24, .p (.bin .lss (.t 23) (.c (.int .i64 8))), none⟩])
  (.cond (.t 24) .skip (.exit 2)))
  (.seq (.block 3 (.reg [⟨some 27, .p (.mov (.t 3)), none⟩,
    ⟨some 28, .p (.mov (.t 4)), none⟩,
    ⟨some 29, .p (.mov (.t 5)), none⟩,
    ⟨some 30, .p (.bin .mul (.c (.int .i64 8)) (.t 29)), none⟩,
    ⟨some 31, .p (.bin .sub (.c (.int .i64 56)) (.t 30)), none⟩,
    ⟨some 32, .p (.binw .shr (.t 28) (.t 31)), none⟩,
    ⟨some 33, .p (.convw .u8 (.t 32)), none⟩,
    ⟨some 34, .d (.bslice 1 1 [(.int .u8 0)] [(0, (.t 33))]), none⟩,
    ⟨some 35, .l (.append 1 1 (.t 27) (.t 34)), none⟩,
    ⟨some 3, .p (.mov (.t 35)), none⟩]))
  (.reg [⟨some 25, .p (.mov (.t 5)), none⟩,
    ⟨some 26, .p (.bin .add (.t 25) (.c (.int .i64 1))), none⟩,
    ⟨some 5, .p (.mov (.t 26)), none⟩]))))))
  (.seq (.reg [⟨some 36, .p (.mov (.t 3)), none⟩,
    ⟨some 2, .p (.mov (.t 36)), none⟩])
  .ret)))))))
def rs59 : List AR := [.tmp 2]
theorem ok59 : okF Tryd.prog 59 37 ac59 rs59 = true := by kernel_rfl
/-- simulacrum/simulacrumref02.words -/
def ac60 : AC := (.seq (.reg [⟨some 2, .h (.alloc [(.int .u32 0), (.int .u32 0), (.int .u32 0), (.int .u32 0), (.int .u32 0), (.int .u32 0), (.int .u32 0), (.int .u32 0), (.int .u32 0), (.int .u32 0), (.int .u32 0), (.int .u32 0), (.int .u32 0), (.int .u32 0), (.int .u32 0), (.int .u32 0), (.int .u32 0), (.int .u32 0), (.int .u32 0), (.int .u32 0), (.int .u32 0), (.int .u32 0), (.int .u32 0), (.int .u32 0), (.int .u32 0), (.int .u32 0), (.int .u32 0), (.int .u32 0), (.int .u32 0), (.int .u32 0), (.int .u32 0), (.int .u32 0), (.int .u32 0), (.int .u32 0), (.int .u32 0), (.int .u32 0), (.int .u32 0), (.int .u32 0), (.int .u32 0), (.int .u32 0), (.int .u32 0), (.int .u32 0), (.int .u32 0), (.int .u32 0), (.int .u32 0), (.int .u32 0), (.int .u32 0), (.int .u32 0), (.int .u32 0), (.int .u32 0), (.int .u32 0), (.int .u32 0), (.int .u32 0), (.int .u32 0), (.int .u32 0), (.int .u32 0), (.int .u32 0), (.int .u32 0), (.int .u32 0), (.int .u32 0), (.int .u32 0), (.int .u32 0), (.int .u32 0), (.int .u32 0)]), none⟩])
  (.seq (.reg [⟨some 3, .h (.alloc [(.int .u32 0), (.int .u32 0), (.int .u32 0), (.int .u32 0), (.int .u32 0), (.int .u32 0), (.int .u32 0), (.int .u32 0), (.int .u32 0), (.int .u32 0), (.int .u32 0), (.int .u32 0), (.int .u32 0), (.int .u32 0), (.int .u32 0), (.int .u32 0), (.int .u32 0), (.int .u32 0), (.int .u32 0), (.int .u32 0), (.int .u32 0), (.int .u32 0), (.int .u32 0), (.int .u32 0), (.int .u32 0), (.int .u32 0), (.int .u32 0), (.int .u32 0), (.int .u32 0), (.int .u32 0), (.int .u32 0), (.int .u32 0), (.int .u32 0), (.int .u32 0), (.int .u32 0), (.int .u32 0), (.int .u32 0), (.int .u32 0), (.int .u32 0), (.int .u32 0), (.int .u32 0), (.int .u32 0), (.int .u32 0), (.int .u32 0), (.int .u32 0), (.int .u32 0), (.int .u32 0), (.int .u32 0), (.int .u32 0), (.int .u32 0), (.int .u32 0), (.int .u32 0), (.int .u32 0), (.int .u32 0), (.int .u32 0), (.int .u32 0), (.int .u32 0), (.int .u32 0), (.int .u32 0), (.int .u32 0), (.int .u32 0), (.int .u32 0), (.int .u32 0), (.int .u32 0)]), none⟩])
  (.seq (.seq (.reg [⟨some 4, .p (.mov (.c (.int .i64 0))), none⟩])
  (.block 0 (.loop (.seq (.seq (.reg [⟨some 8, .p (.mov (.t 4)), none⟩,
    ⟨some 9, .p (.bin .lss (.t 8) (.c (.int .i64 16))), none⟩])
  (.cond (.t 9) .skip (.exit 0)))
  (.seq (.block 1 (.draw 36 [(5, 35), (13, 35), (22, 35), (31, 35)] [⟨some 12, .p (.mov (.t 4)), none⟩,
    ⟨some 13, .p (.mov (.t 0)), none⟩,
    ⟨some 14, .p (.mov (.t 4)), none⟩,
    ⟨some 15, .p (.bin .mul (.c (.int .i64 4)) (.t 14)), none⟩,
    ⟨some 16, .p (.idxA 1 none (.t 13) (.t 15)), none⟩,
    ⟨some 17, .h (.load false 1 (.t 16)), none⟩,
    ⟨some 18, .p (.conv .u32 (.t 17)), none⟩,
    ⟨some 19, .p (.binw .shl (.t 18) (.c (.int .u64 24))), none⟩,
    ⟨some 20, .p (.mov (.t 0)), none⟩,
    ⟨some 21, .p (.mov (.t 4)), none⟩,
    ⟨some 22, .p (.bin .mul (.c (.int .i64 4)) (.t 21)), none⟩,
    ⟨some 23, .p (.bin .add (.t 22) (.c (.int .i64 1))), none⟩,
    ⟨some 24, .p (.idxA 1 none (.t 20) (.t 23)), none⟩,
    ⟨some 25, .h (.load false 1 (.t 24)), none⟩,
    ⟨some 26, .p (.conv .u32 (.t 25)), none⟩,
    ⟨some 27, .p (.binw .shl (.t 26) (.c (.int .u64 16))), none⟩,
    ⟨some 28, .p (.binw .or (.t 19) (.t 27)), none⟩,
    ⟨some 29, .p (.mov (.t 0)), none⟩,
    ⟨some 30, .p (.mov (.t 4)), none⟩,
    ⟨some 31, .p (.bin .mul (.c (.int .i64 4)) (.t 30)), none⟩,
    ⟨some 32, .p (.bin .add (.t 31) (.c (.int .i64 2))), none⟩,
    ⟨some 33, .p (.idxA 1 none (.t 29) (.t 32)), none⟩,
    ⟨some 34, .h (.load false 1 (.t 33)), none⟩,
    ⟨some 35, .p (.conv .u32 (.t 34)), none⟩,
    ⟨some 36, .p (.binw .shl (.t 35) (.c (.int .u64 8))), none⟩,
    ⟨some 37, .p (.binw .or (.t 28) (.t 36)), none⟩,
    ⟨some 38, .p (.mov (.t 0)), none⟩,
    ⟨some 39, .p (.mov (.t 4)), none⟩,
    ⟨some 40, .p (.bin .mul (.c (.int .i64 4)) (.t 39)), none⟩,
    ⟨some 41, .p (.bin .add (.t 40) (.c (.int .i64 3))), none⟩,
    ⟨some 42, .p (.idxA 1 none (.t 38) (.t 41)), none⟩,
    ⟨some 43, .h (.load false 1 (.t 42)), none⟩,
    ⟨some 44, .p (.conv .u32 (.t 43)), none⟩,
    ⟨some 45, .p (.binw .or (.t 37) (.t 44)), none⟩,
    ⟨some 46, .p (.idxA 1 (some 64) (.t 3) (.t 12)), none⟩,
    ⟨none, .h (.store 1 (.t 46) (.t 45)), none⟩]))
  (.reg [⟨some 10, .p (.mov (.t 4)), none⟩,
    ⟨some 11, .p (.bin .add (.t 10) (.c (.int .i64 1))), none⟩,
    ⟨some 4, .p (.mov (.t 11)), none⟩]))))))
  (.seq (.seq (.reg [⟨some 5, .p (.mov (.c (.int .i64 16))), none⟩])
  (.block 2 (.loop (.seq (.seq (.reg [⟨some 47, .p (.mov (.t 5)), none⟩,
    ⟨some 48, .p (.bin .lss (.t 47) (.c (.int .i64 64))), none⟩])
  (.cond (.t 48) .skip (.exit 2)))
  (.seq (.block 3 (.seq (.draw 18 [] [⟨some 51, .p (.mov (.t 5)), none⟩,
    ⟨some 52, .p (.bin .sub (.t 51) (.c (.int .i64 15))), none⟩,
    ⟨some 53, .p (.idxA 1 (some 64) (.t 3) (.t 52)), none⟩,
    ⟨some 54, .h (.load false 1 (.t 53)), none⟩,
    ⟨some 55, .call 61 [(.t 54), (.c (.int .i64 7))], none⟩,
    ⟨some 56, .p (.mov (.t 5)), none⟩,
    ⟨some 57, .p (.bin .sub (.t 56) (.c (.int .i64 15))), none⟩,
    ⟨some 58, .p (.idxA 1 (some 64) (.t 3) (.t 57)), none⟩,
    ⟨some 59, .h (.load false 1 (.t 58)), none⟩,
    ⟨some 60, .call 61 [(.t 59), (.c (.int .i64 18))], none⟩,
    ⟨some 61, .p (.binw .xor (.t 55) (.t 60)), none⟩,
    ⟨some 62, .p (.mov (.t 5)), none⟩,
    ⟨some 63, .p (.bin .sub (.t 62) (.c (.int .i64 15))), none⟩,
    ⟨some 64, .p (.idxA 1 (some 64) (.t 3) (.t 63)), none⟩,
    ⟨some 65, .h (.load false 1 (.t 64)), none⟩,
    ⟨some 66, .p (.binw .shr (.t 65) (.c (.int .u64 3))), none⟩,
    ⟨some 67, .p (.binw .xor (.t 61) (.t 66)), none⟩,
    ⟨some 6, .p (.mov (.t 67)), none⟩])
  (.seq (.draw 18 [] [⟨some 68, .p (.mov (.t 5)), none⟩,
    ⟨some 69, .p (.bin .sub (.t 68) (.c (.int .i64 2))), none⟩,
    ⟨some 70, .p (.idxA 1 (some 64) (.t 3) (.t 69)), none⟩,
    ⟨some 71, .h (.load false 1 (.t 70)), none⟩,
    ⟨some 72, .call 61 [(.t 71), (.c (.int .i64 17))], none⟩,
    ⟨some 73, .p (.mov (.t 5)), none⟩,
    ⟨some 74, .p (.bin .sub (.t 73) (.c (.int .i64 2))), none⟩,
    ⟨some 75, .p (.idxA 1 (some 64) (.t 3) (.t 74)), none⟩,
    ⟨some 76, .h (.load false 1 (.t 75)), none⟩,
    ⟨some 77, .call 61 [(.t 76), (.c (.int .i64 19))], none⟩,
    ⟨some 78, .p (.binw .xor (.t 72) (.t 77)), none⟩,
    ⟨some 79, .p (.mov (.t 5)), none⟩,
    ⟨some 80, .p (.bin .sub (.t 79) (.c (.int .i64 2))), none⟩,
    ⟨some 81, .p (.idxA 1 (some 64) (.t 3) (.t 80)), none⟩,
    ⟨some 82, .h (.load false 1 (.t 81)), none⟩,
    ⟨some 83, .p (.binw .shr (.t 82) (.c (.int .u64 10))), none⟩,
    ⟨some 84, .p (.binw .xor (.t 78) (.t 83)), none⟩,
    ⟨some 7, .p (.mov (.t 84)), none⟩])
  (.draw 16 [(4, 15), (10, 15)] [⟨some 85, .p (.mov (.t 5)), none⟩,
    ⟨some 86, .p (.mov (.t 5)), none⟩,
    ⟨some 87, .p (.bin .sub (.t 86) (.c (.int .i64 16))), none⟩,
    ⟨some 88, .p (.idxA 1 (some 64) (.t 3) (.t 87)), none⟩,
    ⟨some 89, .h (.load false 1 (.t 88)), none⟩,
    ⟨some 90, .p (.mov (.t 6)), none⟩,
    ⟨some 91, .p (.binw .add (.t 89) (.t 90)), none⟩,
    ⟨some 92, .p (.mov (.t 5)), none⟩,
    ⟨some 93, .p (.bin .sub (.t 92) (.c (.int .i64 7))), none⟩,
    ⟨some 94, .p (.idxA 1 (some 64) (.t 3) (.t 93)), none⟩,
    ⟨some 95, .h (.load false 1 (.t 94)), none⟩,
    ⟨some 96, .p (.binw .add (.t 91) (.t 95)), none⟩,
    ⟨some 97, .p (.mov (.t 7)), none⟩,
    ⟨some 98, .p (.binw .add (.t 96) (.t 97)), none⟩,
    ⟨some 99, .p (.idxA 1 (some 64) (.t 3) (.t 85)), none⟩,
    ⟨none, .h (.store 1 (.t 99) (.t 98)), none⟩]))))
  (.reg [⟨some 49, .p (.mov (.t 5)), none⟩,
    ⟨some 50, .p (.bin .add (.t 49) (.c (.int .i64 1))), none⟩,
    ⟨some 5, .p (.mov (.t 50)), none⟩]))))))
  (.seq (.reg [⟨some 100, .h (.load true 64 (.t 3)), none⟩,
    ⟨none, .h (.store 64 (.t 2) (.t 100)), none⟩])
  .ret)))))
def rs60 : List AR := [.cell 2 true 64]
theorem ok60 : okF Tryd.prog 60 101 ac60 rs60 = true := by kernel_rfl
/-- simulacrum/simulacrumref02.rotr -/
def ac61 : AC := (.seq (.reg [⟨some 4, .p (.mov (.c (.int .u32 0))), none⟩])
  (.seq (.draw 9 [] [⟨some 5, .p (.mov (.t 0)), none⟩,
    ⟨some 6, .p (.mov (.t 1)), none⟩,
    ⟨some 7, .p (.binw .shr (.t 5) (.t 6)), none⟩,
    ⟨some 8, .p (.mov (.t 0)), none⟩,
    ⟨some 9, .p (.mov (.t 1)), none⟩,
    ⟨some 10, .p (.bin .sub (.c (.int .i64 32)) (.t 9)), none⟩,
    ⟨some 11, .p (.binw .shl (.t 8) (.t 10)), none⟩,
    ⟨some 12, .p (.binw .or (.t 7) (.t 11)), none⟩,
    ⟨some 4, .p (.mov (.t 12)), none⟩])
  .ret))
def rs61 : List AR := [.tmp 4]
theorem ok61 : okF Tryd.prog 61 13 ac61 rs61 = true := by kernel_rfl
/-- simulacrum/simulacrumref01.Int -/
def ac62 : AC := (.seq (.reg [⟨some 2, .p (.mov (.c .nils)), none⟩])
  (.seq (.reg [⟨some 5, .p (.mov (.t 0)), none⟩,
    ⟨some 6, .p (.convw .u64 (.t 5)), none⟩,
    ⟨some 7, .p (.binw .mul (.t 6) (.c (.int .u64 2))), none⟩,
    ⟨some 3, .p (.mov (.t 7)), none⟩])
  (.seq (.seq (.reg [⟨some 8, .p (.mov (.t 0)), none⟩,
    ⟨some 9, .p (.bin .lss (.t 8) (.c (.int .i64 0))), none⟩])
  (.cond (.t 9) (.reg [⟨some 10, .p (.mov (.t 0)), none⟩,
    ⟨some 11, .p (.bin .sub (.c (.int .i64 (-1))) (.t 10)), none⟩,
    ⟨some 12, .p (.convw .u64 (.t 11)), none⟩,
    ⟨some 13, .p (.binw .mul (.t 12) (.c (.int .u64 2))), none⟩,
    ⟨some 14, .p (.binw .add (.t 13) (.c (.int .u64 1))), none⟩,
    ⟨some 3, .p (.mov (.t 14)), none⟩]) .skip))
  (.seq (.reg [⟨some 4, .p (.mov (.c .nils)), none⟩])
  (.seq (.block 0 (.loop (.seq (.seq (.reg [⟨some 15, .p (.mov (.t 3)), none⟩,
    ⟨some 16, .p (.binw .geq (.t 15) (.c (.int .u64 128))), none⟩])
  (.cond (.t 16) .skip (.exit 0)))
  (.block 1 (.seq (.reg [⟨some 17, .p (.mov (.t 4)), none⟩,
    ⟨some 18, .p (.mov (.t 3)), none⟩,
    ⟨some 19, .p (.binw .rem (.t 18) (.c (.int .u64 128))), none⟩,
    ⟨some 20, .p (.convw .u8 (.t 19)), none⟩,
    ⟨some 21, .p (.binw .add (.t 20) (.c (.int .u8 128))), none⟩,
    ⟨some 22, .d (.bslice 1 1 [(.int .u8 0)] [(0, (.t 21))]), none⟩,
    ⟨some 23, .l (.append 1 1 (.t 17) (.t 22)), none⟩,
    ⟨some 4, .p (.mov (.t 23)), none⟩])
  (.reg [⟨some 24, .p (.mov (.t 3)), none⟩,
    ⟨some 25, .p (.binw .quo (.t 24) (.c (.int .u64 128))), none⟩,
    ⟨some 3, .p (.mov (.t 25)), none⟩]))))))
  (.seq (.reg [⟨some 26, .p (.mov (.t 4)), none⟩,
    ⟨some 27, .p (.mov (.t 3)), none⟩,
    ⟨some 28, .p (.convw .u8 (.t 27)), none⟩,
    ⟨some 29, .d (.bslice 1 1 [(.int .u8 0)] [(0, (.t 28))]), none⟩,
    ⟨some 30, .l (.append 1 1 (.t 26) (.t 29)), none⟩,
    ⟨some 2, .p (.mov (.t 30)), none⟩])
  .ret))))))
def rs62 : List AR := [.tmp 2]
theorem ok62 : okF Tryd.prog 62 31 ac62 rs62 = true := by kernel_rfl
end Go.Proofs

