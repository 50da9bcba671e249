/- Part of a proof about the given program: lemmas that the other parts use. -/
import Derived.Test.YtnhjhmilijghkaaPart3
import Derived.OpenShut
import Derived.JoinedOf
import Derived.Handed

set_option linter.all false
set_option linter.unusedSimpArgs false
set_option linter.unusedVariables false
namespace Go.Eng
open Go

variable [Globs]
/-! ### Whole functions -/
inductive AR where
  | tmp (t : Nat)
  | cell (t : Nat) (agg : Bool) (n : Nat)

def resK (fr : Fr) (H : Heap) : List AR → (List AV → Prop) → Prop
  | [], K => K []
  | .tmp t :: r, K => fv (look fr t) fun v => resK fr H r fun vs => K (v :: vs)
  | .cell t agg n :: r, K => match look fr t with
    | .ptr k off => match H.get k with
      | .cells cs => loadK agg n (cs.drop off) fun v => resK fr H r fun vs => K (v :: vs)
      | _ => False
    | _ => False
def one : List AV → AV
  | [v] => v
  | vs => .tuple vs

/-- What a function hands back: its result, and what of the heap is kept. -/
structure RetA (n : Nat) (K : AV → Heap → Prop) (v : AV) (H : Heap) : Prop where
  ex : ∃ v' H', Into n [(0, v)] H [(0, v')] H' ∧ K v' H'

def frame0 : Nat → List AV → Fr
  | _, [] => []
  | i, v :: r => (i, v) :: frame0 (i + 1) r

def endK (n : Nat) (rs : List AR) (K : AV → Heap → Prop) : XA → Fr → Heap → Prop
  | .exit _, _, _ => False
  | .normal, fr, H => resK fr H rs fun vs => RetA n K (one vs) H
  | .ret, fr, H => resK fr H rs fun vs => RetA n K (one vs) H

def okRes (P : Program) : List ResultVar → List AR → Bool
  | [], [] => true
  | .tmp t :: r, .tmp t' :: r' => t == t' && okRes P r r'
  | .cell a t :: r, .cell a' agg n :: r' => a == a' && shapeOk P t agg n && okRes P r r'
  | _, _ => false

/-- A function's text, held against the program. -/
def okF (P : Program) (f : FuncId) (N : Nat) (ac : AC) (rs : List AR) : Bool := callable P f && (match P.funcs[f]? with
  | some fn => fn.ntmps == N && okRes P fn.results.toList rs && (match fn.body with
    | some c => okC P N ac c
    | none => false)
  | none => false)

section
variable {P : Program}

theorem look_frame0 : ∀ (args : List AV) (i t : Nat), (t < i → look (frame0 i args) t = .any) ∧ (∀ j, t = i + j → look (frame0 i args) t = args.getD j .any)
  | [], i, t => ⟨fun _ => rfl, fun j _ => by simp [frame0, look]⟩
  | v :: r, i, t => by
    obtain ⟨h1, h2⟩ := look_frame0 r (i + 1) t
    refine ⟨fun h => ?_, fun j hj => ?_⟩
    · simp only [frame0, look]; rw [beq_false (by omega)]; exact h1 (by omega)
    · simp only [frame0, look]
      cases j with
      | zero => subst hj; simp
      | succ j => rw [beq_false (by omega)]; simpa using h2 j (by omega)

theorem relF0 {M : Mem} {μ : Pos} {args : List AV} {vs : Array Value} {N : Nat} (hg : GlobM M) (h : relL M args μ vs.toList) (hN : args.length ≤ N) : RelF N M μ (frame0 0 args) (vs ++ Array.replicate (N - vs.size) undef) := by
  have hl := relL_length h
  simp only [Array.length_toList] at hl
  refine ⟨hg, by simp; omega, fun t => ?_⟩
  rw [(look_frame0 args 0 t).2 t (by omega)]
  cases ht : args[t]? with
  | none => simp [List.getD, ht, relV]
  | some c =>
    obtain ⟨v, hv, hr⟩ := relL_get h ht
    have : t < vs.size := by
      rcases Nat.lt_or_ge t vs.size with h' | h'
      · exact h'
      · simp [Array.getElem?_eq_none h'] at hv
    simp only [Array.getElem?_toList] at hv
    rw [show args.getD t .any = c by simp [List.getD, ht], Array.getD_eq_getD_getElem?, Array.getElem?_append_left this, hv]
    exact hr

def resOne (tmps : Array Value) : ResultVar → Sem Value
  | .tmp t => pure (tmps.getD t undef)
  | .cell a t => do loadVar t (← asAddr (tmps.getD a undef))
theorem results_eq (fn : Func) (tmps : Array Value) : results fn tmps = (do
    let vs ← fn.results.mapM (resOne tmps)
    pure (if h : vs.size = 1 then vs[0] else .tuple vs)) := by
  unfold results
  congr 1

theorem run_results {N : Nat} {M : Mem} {μ : Pos} {H : Heap} {w : World} {fr : Fr} {tmps : Array Value} (R : Rel M μ H w) (F : RelF N M μ fr tmps) : ∀ {rv : List ResultVar} {rs : List AR}, okRes P rv rs = true → ∀ {K : List AV → Prop}, resK fr H rs K →
    ∃ vs cs, (rv.mapM (resOne tmps)).run P w = .ok vs w ∧ relL M cs μ vs ∧ K cs
  | [], [], _, K, hk => ⟨[], [], by simp, by simp [relL], hk⟩
  | .tmp t :: r, .tmp t' :: r', h, K, hk => by
    simp only [okRes, Bool.and_eq_true, beq_iff_eq] at h
    obtain ⟨rfl, h⟩ := h
    simp only [resK, fv_eq] at hk
    obtain ⟨vs, cs, h1, h2, h3⟩ := run_results R F h hk
    refine ⟨tmps.getD t undef :: vs, look fr t :: cs, ?_, ?_, h3⟩
    · simp only [List.mapM_cons, resOne, Sem.run_bind, Sem.run_pure, Result.andThen_ok, h1]
    · simp only [relL]; exact ⟨_, _, rfl, F.slot t, h2⟩
  | .cell q t :: r, .cell q' agg n :: r', h, K, hk => by
    simp only [okRes, Bool.and_eq_true, beq_iff_eq] at h
    obtain ⟨⟨rfl, hs⟩, h⟩ := h
    simp only [resK] at hk
    split at hk
    · rename_i k off hq
      split at hk
      · rename_i cs hc
        have hx := F.slot q
        rw [hq] at hx; simp only [relV] at hx
        obtain ⟨b, sz, hμ, hv⟩ := hx
        have fin : ∀ c u, (loadVar t ⟨b, off, none⟩).run P w = .ok u w → relV M c μ u → resK fr H r' (fun vs => K (c :: vs)) → ∃ vs cs, (List.mapM (resOne tmps) (.cell q t :: r)).run P w = .ok vs w ∧ relL M cs μ vs ∧ K cs := by
          intro c u hu hr hk
          obtain ⟨vs, cs, h1, h2, h3⟩ := run_results R F h hk
          refine ⟨u :: vs, c :: cs, ?_, ?_, h3⟩
          · simp only [List.mapM_cons, resOne, Sem.run_bind, Sem.run_pure, Result.andThen_ok, hv, asAddr, hu, h1]
          · simp only [relL]; exact ⟨_, _, rfl, hr, h2⟩
        rcases loadK_spec hk with ⟨rfl, hn, hk⟩ | ⟨rfl, c, r2, hcr, hk⟩
        · by_cases hn0 : n = 0
          · subst hn0
            refine fin (.agg []) (.agg #[]) ?_ (by simp only [relV]; exact ⟨_, rfl, by simp [relL]⟩) (by simpa using hk)
            simp only [loadVar, Sem.run_bind, run_isAgg hs, Result.andThen_ok, if_true, run_sizeOf (shapeOk_sized hs), loadCells, loadCellsFrom, Sem.run_pure]
          · obtain ⟨vs, hl1, hl2, hl3⟩ := cells_cells (off := off) R hc hμ n (by simp at hn; omega)
            refine fin _ (.agg vs.toArray) ?_ (by simp only [relV]; exact ⟨_, rfl, hl2⟩) hk
            have := run_loadCells_list (P := P) w ⟨b, off, none⟩ vs hl3
            rw [hl1] at this
            simp only [loadVar, Sem.run_bind, run_isAgg hs, Result.andThen_ok, if_true, run_sizeOf (shapeOk_sized hs), this, Sem.run_pure]
        · have hlen : off + 1 ≤ cs.length := by have := congrArg List.length hcr; simp at this; omega
          obtain ⟨vs, hl1, hl2, hl3⟩ := cells_cells R hc hμ 1 hlen
          rw [hcr] at hl2
          simp only [List.take_succ_cons, List.take_zero, relL] at hl2
          obtain ⟨v, _, rfl, hrel, rfl⟩ := hl2
          have h3 := hl3 0 v rfl
          rw [add_addr] at h3
          simp only [Nat.add_zero] at h3
          refine fin c v ?_ hrel hk
          simp only [loadVar, Sem.run_bind, run_isAgg hs, Result.andThen_ok, Bool.false_eq_true, if_false, run_load, h3]
      · exact hk.elim
    · exact hk.elim
  | [], _ :: _, h, _, _ => by simp [okRes] at h
  | .tmp _ :: _, [], h, _, _ => by simp [okRes] at h
  | .cell _ _ :: _, [], h, _, _ => by simp [okRes] at h
  | .tmp _ :: _, .cell _ _ _ :: _, h, _, _ => by simp [okRes] at h
  | .cell _ _ :: _, .tmp _ :: _, h, _, _ => by simp [okRes] at h

theorem run_results_fn {N : Nat} {M : Mem} {μ : Pos} {H : Heap} {w : World} {fr : Fr} {tmps : Array Value} (R : Rel M μ H w) (F : RelF N M μ fr tmps) {fn : Func} {rs : List AR} (h : okRes P fn.results.toList rs = true) {K : List AV → Prop} (hk : resK fr H rs K) :
    ∃ v cs, (results fn tmps).run P w = .ok v w ∧ relV M (one cs) μ v ∧ K cs := by
  obtain ⟨vs, cs, h1, h2, h3⟩ := run_results R F h hk
  have hl := relL_length h2
  rw [results_eq, Array.mapM_eq_mapM_toList]
  simp only [bind_map_left, Sem.run_bind]
  rw [h1]
  simp only [Result.andThen_ok]
  by_cases h4 : vs.length = 1
  · match vs, cs, h4, hl, h2 with
    | [v], [c], _, _, h2 =>
      simp only [relL] at h2
      obtain ⟨_, _, e, h2, _⟩ := h2
      simp only [List.cons.injEq] at e
      refine ⟨v, [c], by simp, ?_, h3⟩
      simp only [one]; rw [e.1]; exact h2
  · refine ⟨.tuple vs.toArray, cs, by simp [h4], ?_, h3⟩
    have : one cs = .tuple cs := by
      match cs with
      | [] => rfl
      | [c] => simp at hl; omega
      | _ :: _ :: _ => rfl
    rw [this]; simp only [relV]; exact ⟨_, rfl, h2⟩

/-- **A CALL, BY ITS TEXT.** -/
theorem callA_of {f : FuncId} {N : Nat} {ac : AC} {rs : List AR} (hok : okF P f N ac rs = true) {args : List AV} {H : Heap} {K : AV → Heap → Prop} (hN : args.length ≤ N)
    (h : ac.run P H.nx (endK H.nx rs K) (frame0 0 args) H) : CallA P f args H K := by
  unfold okF at hok
  simp only [Bool.and_eq_true] at hok
  obtain ⟨hcall, hok⟩ := hok
  refine ⟨hcall, fun M μ w vs R hv => ?_⟩
  split at hok
  · rename_i fn hf
    simp only [Bool.and_eq_true, beq_iff_eq] at hok
    obtain ⟨⟨hn, hres⟩, hok⟩ := hok
    split at hok
    · rename_i c hb
      refine callsIn_wide.1 (callsIn_of_wp_marks (F := FR none) (n := 0) hf hb trivial ?_ rfl)
      rw [hn]
      have S : St N H.nx M μ H w (frame0 0 args) H { tmps := vs ++ Array.replicate (N - vs.size) undef, defers := [] } w :=
        ⟨M, μ, R, relF0 R.glob hv hN, Nat.le_refl _, Grow.refl _ _ _ _ _, Marks.nil⟩
      refine wpIn_mono (sound_C none hok (.inl rfl) S h) ?_
      intro e a' w' hx
      obtain ⟨x, fr', H', hx, S', hq⟩ := hx
      have fin : resK fr' H' rs (fun vs => RetA H.nx K (one vs) H') → LeavesInM (FR none) 0 P fn a'.tmps (fun e w' => ∃ v M' μ' H' c, e = .returned v ∧ Rel M' μ' H' w' ∧ relV M' c μ' v ∧ Move M μ H w M' μ' H' w' ∧ K c H') a'.defers .returning w' := by
        intro hk
        obtain ⟨M1, μ1, R1, F1, hn1, G1, rl, e1, e2, e3⟩ := S'
        obtain ⟨R1, G1⟩ := Marks.out e3 R1 G1
        rw [e1]
        refine leaves_all rl w' (fun r hr => (e3 r hr).2.1) e2 ?_
        obtain ⟨v, cs, h1, h2, h3⟩ := run_results_fn R1 F1 hres hk
        refine ⟨v, h1, ?_⟩
        obtain ⟨v', H2, hi, hk⟩ := h3.ex
        have F1' : RelF 1 M1 μ1 [(0, one cs)] #[v] := ⟨R1.glob, rfl, fun t => by
          simp only [look]
          by_cases ht : 0 = t
          · subst ht; simpa using h2
          · rw [beq_false ht]; simp only [cond_false, relV]⟩
        obtain ⟨M2, μ2, R2, F2, hn2, G2⟩ := hi 1 M1 μ1 _ #[v] R1 F1' hn1
        refine ⟨v, M2, μ2, H2, v', rfl, R2, ?_, ?_, hk⟩
        · have := F2.slot 0; simpa [look] using this
        · have G := G1.trans G2
          refine ⟨fun k x hx => ?_, G, hn2⟩
          rw [G.pin k (R.pos_lt hx)]; exact hx
      cases e <;> simp [xa] at hx <;> subst hx
      · exact fin hq
      · exact hq.elim
      · exact fin hq
    · cases hok
  · cases hok
end
end Go.Eng

namespace Go.Eng
open Go

variable [Globs]
mutual
def ren (f : Nat → Option Nat) : AV → AV
  | .ptr k o => match f k with | some j => .ptr j o | none => .any
  | .slice k o l c e => match f k with | some j => .slice j o l c e | none => .any
  | .map k => match f k with | some j => .map j | none => .any
  | .yld k => match f k with | some j => .yld j | none => .any
  | .func g cs => .func g (renL f cs)
  | .agg cs => .agg (renL f cs)
  | .tuple cs => .tuple (renL f cs)
  | c => c
def renL (f : Nat → Option Nat) : List AV → List AV
  | [] => []
  | c :: cs => ren f c :: renL f cs
end

section
variable {M : Mem} {μ μ' : Pos}
mutual
theorem relV_ren {f : Nat → Option Nat} (hf : ∀ k j x, f k = some j → μ k = some x → μ' j = some x) : ∀ (c : AV) {v : Value}, relV M c μ v → relV M (ren f c) μ' v
  | .any, _, _ => by simp only [ren, relV]
  | .bool b, _, h => by simpa only [ren, relV] using h
  | .int k n, _, h => by simpa only [ren, relV] using h
  | .str s, _, h => by simpa only [ren, relV] using h
  | .nilp, _, h => by simpa only [ren, relV] using h
  | .ptr k o, _, h => by
    simp only [ren]
    split
    · rename_i j hj; simp only [relV] at *; obtain ⟨b, sz, h1, h2⟩ := h; exact ⟨b, sz, hf k j _ hj h1, h2⟩
    · simp only [relV]
  | .dptr cs, _, h => by simpa only [ren, relV] using h
  | .nils, _, h => by simpa only [ren, relV] using h
  | .slice k o l c e, _, h => by
    simp only [ren]
    split
    · rename_i j hj; simp only [relV] at *; obtain ⟨b, sz, q, h1, h2⟩ := h; exact ⟨b, sz, q, hf k j _ hj h1, h2⟩
    · simp only [relV]
  | .dslice cs l c, _, h => by simpa only [ren, relV] using h
  | .nilm, _, h => by simpa only [ren, relV] using h
  | .map k, _, h => by
    simp only [ren]
    split
    · rename_i j hj; simp only [relV] at *; obtain ⟨b, sz, h1, h2⟩ := h; exact ⟨b, sz, hf k j _ hj h1, h2⟩
    · simp only [relV]
  | .yld k, _, h => by
    simp only [ren]
    split
    · rename_i j hj; simp only [relV] at *; obtain ⟨b, sz, h1, h2⟩ := h; exact ⟨b, sz, hf k j _ hj h1, h2⟩
    · simp only [relV]
  | .nilf, _, h => by simpa only [ren, relV] using h
  | .func g cs, _, h => by simp only [relV, ren] at *; obtain ⟨vs, h1, h2⟩ := h; exact ⟨vs, h1, relL_ren hf cs h2⟩
  | .agg cs, _, h => by simp only [relV, ren] at *; obtain ⟨vs, h1, h2⟩ := h; exact ⟨vs, h1, relL_ren hf cs h2⟩
  | .tuple cs, _, h => by simp only [relV, ren] at *; obtain ⟨vs, h1, h2⟩ := h; exact ⟨vs, h1, relL_ren hf cs h2⟩
theorem relL_ren {f : Nat → Option Nat} (hf : ∀ k j x, f k = some j → μ k = some x → μ' j = some x) : ∀ (cs : List AV) {vs : List Value}, relL M cs μ vs → relL M (renL f cs) μ' vs
  | [], _, h => by simpa only [relL, renL] using h
  | c :: cs, _, h => by
    simp only [relL, renL] at *; obtain ⟨v, r, h1, h2, h3⟩ := h
    exact ⟨v, r, h1, relV_ren hf c h2, relL_ren hf cs h3⟩
end
theorem relP_ren {f : Nat → Option Nat} (hf : ∀ k j x, f k = some j → μ k = some x → μ' j = some x) : ∀ (cs : List AV) {vs : List Value}, relP M μ cs vs → relP M μ' (renL f cs) vs
  | [], _, _ => by simp [renL, relP]
  | c :: cs, _, h => by obtain ⟨v, r, h1, h2, h3⟩ := h; simp only [renL, relP]; exact ⟨v, r, h1, relV_ren hf c h2, relP_ren hf cs h3⟩
end

/-! ### What is kept of a heap, under new numbers -/
def posOf (keep : List (Nat × Bool)) (k : Nat) : Option Nat := go keep 0
where
  go : List (Nat × Bool) → Nat → Option Nat
    | [], _ => none
    | (j, _) :: r, i => bif Nat.beq j k then some i else go r (i + 1)
def renF (f : Nat → Option Nat) : Fr → Fr
  | [] => []
  | (t, v) :: r => (t, ren f v) :: renF f r
theorem look_renF {M : Mem} {μ μ' : Pos} {f : Nat → Option Nat} (hf : ∀ k j x, f k = some j → μ k = some x → μ' j = some x) : ∀ (fr : Fr) (t : Nat) {v : Value}, relV M (look fr t) μ v → relV M (look (renF f fr) t) μ' v
  | [], _, _, h => by simp only [look, renF, relV]
  | (q, c) :: r, t, v, h => by
    simp only [look, renF] at h ⊢
    cases hq : Nat.beq q t <;> simp only [hq, cond_true, cond_false] at h ⊢
    · exact look_renF hf r t h
    · exact relV_ren hf c h
def renB (f : Nat → Option Nat) : AB → AB
  | .cells cs => .cells (renL f cs)
  | .iter k l c => match f k with
    | some k' => .iter k' l c
    | none => .dead
  | .loop st id fr => .loop st id (renF f fr)
  | b => b
def gcB (f : Nat → Option Nat) (H : Heap) : List (Nat × Bool) → Nat → List (Nat × AB)
  | [], _ => []
  | (k, d) :: r, i => (i, bif d then H.get k else renB f (H.get k)) :: gcB f H r (i + 1)
def gcH (keep : List (Nat × Bool)) (H : Heap) : Heap := ⟨keep.length, gcB (posOf keep) H keep 0⟩
def gcF (keep : List (Nat × Bool)) (fr : Fr) : List Nat → Fr
  | [] => []
  | t :: r => (t, ren (posOf keep) (look fr t)) :: gcF keep fr r
def dataB : AB → Prop
  | .cells cs => ∀ c ∈ cs, noLoc c = true
  | .iter _ _ _ => False
  | .loop _ _ _ => False
  | _ => True
def fresh (k : Nat) : List (Nat × Bool) → Bool
  | [] => true
  | (j, _) :: r => !Nat.beq j k && fresh k r
def distinct : List (Nat × Bool) → Bool
  | [] => true
  | (k, _) :: r => fresh k r && distinct r
/-- The first n stay where they are; none is kept twice. -/
def gcOk (n : Nat) (keep : List (Nat × Bool)) : Bool := distinct keep && (go n keep 0)
where
  go : Nat → List (Nat × Bool) → Nat → Bool
    | 0, _, _ => true
    | _ + 1, [], _ => false
    | n + 1, (k, _) :: r, i => Nat.beq k i && go n r (i + 1)
def allData (H : Heap) : List (Nat × Bool) → Prop
  | [] => True
  | (k, true) :: r => dataB (H.get k) ∧ allData H r
  | (_, false) :: r => allData H r

theorem posOf_go : ∀ (keep : List (Nat × Bool)) (k i j : Nat), posOf.go k keep i = some j → ∃ m d, j = i + m ∧ keep[m]? = some (k, d)
  | [], k, i, j, h => by simp [posOf.go] at h
  | (q, d) :: r, k, i, j, h => by
    simp only [posOf.go] at h
    by_cases hq : q = k
    · subst hq; simp at h; exact ⟨0, d, by omega, rfl⟩
    · rw [beq_false hq] at h
      obtain ⟨m, d', h1, h2⟩ := posOf_go r k (i + 1) j (by simpa using h)
      exact ⟨m + 1, d', by omega, by simpa using h2⟩
theorem gcB_get (f : Nat → Option Nat) (H : Heap) : ∀ (keep : List (Nat × Bool)) (i j : Nat), (j < i → bget (gcB f H keep i) j = .dead) ∧ (∀ m, j = i + m → bget (gcB f H keep i) j = match keep[m]? with | some (k, d) => (bif d then H.get k else renB f (H.get k)) | none => .dead)
  | [], i, j => ⟨fun _ => rfl, fun m _ => by simp [gcB, bget]⟩
  | (k, d) :: r, i, j => by
    obtain ⟨h1, h2⟩ := gcB_get f H r (i + 1) j
    refine ⟨fun h => ?_, fun m hm => ?_⟩
    · simp only [gcB, bget]; rw [beq_false (by omega)]; exact h1 (by omega)
    · simp only [gcB, bget]
      cases m with
      | zero => subst hm; simp
      | succ m => rw [beq_false (by omega)]; simpa using h2 m (by omega)
theorem gcH_get (keep : List (Nat × Bool)) (H : Heap) (j : Nat) : (gcH keep H).get j = match keep[j]? with | some (k, d) => (bif d then H.get k else renB (posOf keep) (H.get k)) | none => .dead :=
  (gcB_get _ H keep 0 j).2 j (by omega)
theorem fresh_spec {k : Nat} : ∀ {keep : List (Nat × Bool)}, fresh k keep = true → ∀ j d, (j, d) ∈ keep → j ≠ k
  | [], _, j, d, h => by simp at h
  | (q, e) :: r, hf, j, d, h => by
    simp only [fresh, Bool.and_eq_true, Bool.not_eq_true'] at hf
    rcases List.mem_cons.1 h with h | h
    · simp only [Prod.mk.injEq] at h; obtain ⟨rfl, rfl⟩ := h
      intro e; subst e; simp at hf
    · exact fresh_spec hf.2 j d h
theorem distinct_spec : ∀ {keep : List (Nat × Bool)}, distinct keep = true → ∀ (i j k : Nat) (d e : Bool), keep[i]? = some (k, d) → keep[j]? = some (k, e) → i = j
  | [], _, i, j, k, d, e, h, _ => by simp at h
  | (q, x) :: r, hd, i, j, k, d, e, hi, hj => by
    simp only [distinct, Bool.and_eq_true] at hd
    cases i with
    | zero =>
      cases j with
      | zero => rfl
      | succ j =>
        simp at hi hj
        obtain ⟨rfl, rfl⟩ := hi
        exact absurd rfl (fresh_spec hd.1 q e (List.mem_of_getElem? hj))
    | succ i =>
      cases j with
      | zero =>
        simp at hi hj
        obtain ⟨rfl, rfl⟩ := hj
        exact absurd rfl (fresh_spec hd.1 q d (List.mem_of_getElem? hi))
      | succ j =>
        simp at hi hj
        rw [distinct_spec hd.2 i j k d e hi hj]
theorem gcOk_go : ∀ {n : Nat} {keep : List (Nat × Bool)} {i : Nat}, gcOk.go n keep i = true → n ≤ keep.length ∧ ∀ m, m < n → ∃ d, keep[m]? = some (i + m, d)
  | 0, _, _, _ => ⟨Nat.zero_le _, fun m h => by omega⟩
  | _ + 1, [], _, h => by simp [gcOk.go] at h
  | n + 1, (k, d) :: r, i, h => by
    simp only [gcOk.go, Bool.and_eq_true] at h
    obtain ⟨h1, h2⟩ := gcOk_go h.2
    have hk : k = i := Nat.eq_of_beq_eq_true h.1
    refine ⟨by simp; omega, fun m hm => ?_⟩
    cases m with
    | zero => exact ⟨d, by simp [hk]⟩
    | succ m => obtain ⟨d', h3⟩ := h2 m (by omega); exact ⟨d', by rw [List.getElem?_cons_succ, h3]; congr 2; omega⟩
theorem allData_spec {H : Heap} : ∀ {keep : List (Nat × Bool)}, allData H keep → ∀ (k : Nat), (k, true) ∈ keep → dataB (H.get k)
  | [], _, k, h => by simp at h
  | (q, true) :: r, ha, k, h => by
    rcases List.mem_cons.1 h with h | h
    · simp at h; subst h; exact ha.1
    · exact allData_spec ha.2 k h
  | (q, false) :: r, ha, k, h => by
    rcases List.mem_cons.1 h with h | h
    · simp at h
    · exact allData_spec (keep := r) ha k h

theorem gcH_iter {keep : List (Nat × Bool)} {H : Heap} (hdata : allData H keep) {j k : Nat} {left : List (AV × AV)} {cur : Option (AV × AV)} (h : (gcH keep H).get j = .iter k left cur) :
    ∃ j0 k0 d, keep[j]? = some (j0, d) ∧ H.get j0 = .iter k0 left cur ∧ posOf keep k0 = some k := by
  rw [gcH_get] at h
  cases hk : keep[j]? with
  | none => rw [hk] at h; cases h
  | some x =>
    obtain ⟨j0, d⟩ := x
    rw [hk] at h
    cases d with
    | true =>
      simp only [cond_true] at h
      have := allData_spec hdata j0 (List.mem_of_getElem? hk)
      rw [h] at this; exact this.elim
    | false =>
      simp only [cond_false] at h
      cases hg : H.get j0 with
      | dead => rw [hg] at h; cases h
      | cells cs => rw [hg] at h; cases h
      | map es => rw [hg] at h; cases h
      | iter k0 l c =>
        rw [hg] at h; simp only [renB] at h
        split at h
        · rename_i k1 hk1; cases h; exact ⟨j0, k0, false, rfl, hg, hk1⟩
        · cases h
      | loop st id fr => rw [hg] at h; cases h
theorem gcH_loop {keep : List (Nat × Bool)} {H : Heap} (hdata : allData H keep) {j id : Nat} {st : RS} {fr : Fr} (h : (gcH keep H).get j = .loop st id fr) :
    ∃ j0 fr0 d, keep[j]? = some (j0, d) ∧ H.get j0 = .loop st id fr0 ∧ fr = renF (posOf keep) fr0 := by
  rw [gcH_get] at h
  cases hk : keep[j]? with
  | none => rw [hk] at h; cases h
  | some x =>
    obtain ⟨j0, d⟩ := x
    rw [hk] at h
    cases d with
    | true =>
      simp only [cond_true] at h
      have := allData_spec hdata j0 (List.mem_of_getElem? hk)
      rw [h] at this; exact this.elim
    | false =>
      simp only [cond_false] at h
      cases hg : H.get j0 with
      | dead => rw [hg] at h; cases h
      | cells cs => rw [hg] at h; cases h
      | map es => rw [hg] at h; cases h
      | iter k0 l c => rw [hg] at h; simp only [renB] at h; split at h <;> cases h
      | loop st0 id0 fr0 => rw [hg] at h; simp only [renB, AB.loop.injEq] at h; obtain ⟨rfl, rfl, rfl⟩ := h; exact ⟨j0, fr0, false, rfl, hg, rfl⟩

/-- **What is not kept is let go; the rest gets new numbers.** -/
theorem Into.gc {n : Nat} {fr : Fr} {H : Heap} (keep : List (Nat × Bool)) (slots : List Nat) (hok : gcOk n keep = true) (hdata : allData H keep) : Into n fr H (gcF keep fr slots) (gcH keep H) := by
  intro N M μ w tmps R F hn
  simp only [gcOk, Bool.and_eq_true] at hok
  obtain ⟨hdis, hpin⟩ := hok
  obtain ⟨hlen, hpin⟩ := gcOk_go hpin
  let μ' : Pos := fun j => (keep[j]?).bind fun x => μ x.1
  have hμ' : ∀ (j k : Nat) (d : Bool), keep[j]? = some (k, d) → ∀ x, μ k = some x → μ' j = some x := by
    intro j k d hj x hx
    simp only [μ', hj, Option.bind_some, hx]
  have hμ2 : ∀ (j k : Nat) (d : Bool), keep[j]? = some (k, d) → ∀ x, μ' j = some x → μ k = some x := by
    intro j k d hj x hx
    simpa only [μ', hj, Option.bind_some] using hx
  have hf : ∀ k j x, posOf keep k = some j → μ k = some x → μ' j = some x := by
    intro k j x hj hx
    obtain ⟨m, d, h1, h2⟩ := posOf_go keep k 0 j hj
    exact hμ' j k d (by rw [h1, Nat.zero_add]; exact h2) x hx
  have alive : ∀ j, (gcH keep H).get j ≠ .dead → ∃ k d, keep[j]? = some (k, d) ∧ H.get k ≠ .dead := by
    intro j hj
    rw [gcH_get] at hj
    cases hk : keep[j]? with
    | none => rw [hk] at hj; exact absurd rfl hj
    | some x =>
      obtain ⟨k, d⟩ := x
      refine ⟨k, d, rfl, fun h => hj ?_⟩
      simp only [hk, h, renB]; cases d <;> rfl
  have own : ∀ b, Own μ' (gcH keep H) b → Own μ H b := by
    rintro b ⟨j, s, hj, hx⟩
    obtain ⟨k, d, h1, h2⟩ := alive j hj
    exact ⟨k, s, h2, hμ2 j k d h1 _ hx⟩
  refine ⟨M, μ', ⟨R.glob, fun j hj => ?_, fun j hj => ?_, fun j cs hj => ?_, fun j es hj => ?_, R.walks (Mem.le_refl _) (fun j k' left cur hj => ?_), R.recs (Mem.le_refl _) (fun j st id fr hj => ?_), fun i j b s t hi hj hx hy => ?_, R.imm, fun j b s hj hx o => ?_⟩, ⟨F.glob, F.size, fun t => ?_⟩, by simp [gcH]; omega,
    ⟨Mem.le_refl _, fun k hk => ?_, Keep.refl _ _, fun b hb => .inl (own b hb), fun _ _ _ h => .inl h⟩⟩
  · simp only [μ', List.getElem?_eq_none (show keep.length ≤ j from hj), Option.bind_none]
  · rw [gcH_get, List.getElem?_eq_none (by simpa [gcH] using hj)]
  · rw [gcH_get] at hj
    cases hk : keep[j]? with
    | none => rw [hk] at hj; cases hj
    | some x =>
      obtain ⟨k, d⟩ := x
      rw [hk] at hj
      cases d with
      | true =>
        simp only [cond_true] at hj
        obtain ⟨b, sz, c, el, fz, h1, h2, h3, h4, h5⟩ := R.cells k cs hj
        refine ⟨b, sz, c, el, fz, hμ' j k true hk _ h1, h2, h3, h4, relP_data cs ?_ h5⟩
        have := allData_spec hdata k (List.mem_of_getElem? hk)
        rw [hj] at this; exact this
      | false =>
        simp only [cond_false] at hj
        cases hg : H.get k with
        | cells ds =>
          rw [hg] at hj; simp only [renB, AB.cells.injEq] at hj; subst hj
          obtain ⟨b, sz, c, el, fz, h1, h2, h3, h4, h5⟩ := R.cells k ds hg
          exact ⟨b, sz, c, el, fz, hμ' j k false hk _ h1, h2, h3, h4, relP_ren hf ds h5⟩
        | dead => rw [hg] at hj; simp [renB] at hj
        | map es => rw [hg] at hj; simp [renB] at hj
        | iter k' l c => rw [hg] at hj; simp only [renB] at hj; split at hj <;> cases hj
        | loop st id fr => rw [hg] at hj; cases hj
  · rw [gcH_get] at hj
    cases hk : keep[j]? with
    | none => rw [hk] at hj; cases hj
    | some x =>
      obtain ⟨k, d⟩ := x
      rw [hk] at hj
      have hg : H.get k = .map es := by
        cases d with
        | true => simpa using hj
        | false =>
          have hj : renB (posOf keep) (H.get k) = .map es := hj
          cases hg : H.get k with
          | dead => rw [hg] at hj; cases hj
          | cells cs => rw [hg] at hj; cases hj
          | map es' => rw [hg] at hj; exact hj
          | iter k' l c => rw [hg] at hj; simp only [renB] at hj; split at hj <;> cases hj
          | loop st id fr => rw [hg] at hj; cases hj
      obtain ⟨b, sz, ents, clock, h1, h2⟩ := R.maps k es hg
      exact ⟨b, sz, ents, clock, hμ' j k d hk _ h1, h2⟩
  · obtain ⟨j0, k0, d, h1, h2, h3⟩ := gcH_iter hdata hj
    obtain ⟨es, hes⟩ := R.iter_map h2
    refine ⟨j0, k0, h2, ?_, fun x hx => hμ' j j0 d h1 x hx, fun x hx => hf k0 k' x h3 hx, fun _ _ _ _ => rfl, fun _ _ _ _ => rfl⟩
    obtain ⟨m, d', e1, e2⟩ := posOf_go keep k0 0 k' h3
    rw [Nat.zero_add] at e1; subst e1
    rw [gcH_get, e2]; simp only [hes]
    cases d' <;> simp [renB]
  · obtain ⟨j0, fr0, d, h1, h2, h3⟩ := gcH_loop hdata hj
    exact ⟨j0, fr0, h2, fun x hx => hμ' j j0 d h1 x hx, fun t v hv => by rw [h3]; exact look_renF hf fr0 t hv, fun _ _ _ _ => rfl⟩
  · obtain ⟨k, d, h1, h2⟩ := alive i hi
    obtain ⟨k', d', h3, h4⟩ := alive j hj
    have := R.inj k k' b s t h2 h4 (hμ2 i k d h1 _ hx) (hμ2 j k' d' h3 _ hy)
    subst this
    exact distinct_spec hdis i j k d d' h1 h3
  · obtain ⟨k, d, h1, h2⟩ := alive j hj
    exact R.apart k b s h2 (hμ2 j k d h1 _ hx) o
  · have key : ∀ (sl : List Nat), relV M (look (gcF keep fr sl) t) μ' (tmps.getD t undef) := by
      intro sl
      induction sl with
      | nil => simp [gcF, look, relV]
      | cons q r ih =>
        simp only [gcF, look]
        by_cases hq : q = t
        · subst hq; simpa using relV_ren hf _ (F.slot q)
        · rw [beq_false hq]; exact ih
    exact key slots
  · obtain ⟨d, h1⟩ := hpin k hk
    rw [Nat.zero_add] at h1
    simp only [μ', h1, Option.bind_some]

theorem To.gc {n : Nat} {fr : Fr} {H : Heap} {J : Fr → Heap → Prop} (keep : List (Nat × Bool)) (slots : List Nat) (hok : gcOk n keep = true) (hdata : allData H keep) (h : J (gcF keep fr slots) (gcH keep H)) : To n fr H J :=
  ⟨_, _, Into.gc keep slots hok hdata, h⟩
theorem RetA.gc {n : Nat} {K : AV → Heap → Prop} {v : AV} {H : Heap} (keep : List (Nat × Bool)) (hok : gcOk n keep = true) (hdata : allData H keep) (h : K (ren (posOf keep) v) (gcH keep H)) : RetA n K v H :=
  ⟨_, _, Into.gc keep [0] hok hdata, h⟩

mutual
theorem ren_data (f : Nat → Option Nat) : ∀ (c : AV), noLoc c = true → ren f c = c
  | .any, _ | .bool _, _ | .int _ _, _ | .str _, _ | .nilp, _ | .dptr _, _ | .nils, _ | .dslice _ _ _, _ | .nilm, _ | .nilf, _ => by simp only [ren]
  | .ptr _ _, h | .slice _ _ _ _ _, h | .map _, h | .yld _, h => by simp [noLoc] at h
  | .func g cs, h => by simp only [noLoc] at h; simp only [ren, renL_data f cs h]
  | .agg cs, h => by simp only [noLoc] at h; simp only [ren, renL_data f cs h]
  | .tuple cs, h => by simp only [noLoc] at h; simp only [ren, renL_data f cs h]
theorem renL_data (f : Nat → Option Nat) : ∀ (cs : List AV), noLocL cs = true → renL f cs = cs
  | [], _ => by simp only [renL]
  | c :: cs, h => by simp only [noLocL, Bool.and_eq_true] at h; simp only [renL, ren_data f c h.1, renL_data f cs h.2]
end

/-- A result without places of the heap: nothing is kept. -/
theorem RetA.data {K : AV → Heap → Prop} {v : AV} {H : Heap} (hv : noLoc v = true) (h : K v Heap.nil) : RetA 0 K v H :=
  RetA.gc [] rfl trivial (by rw [ren_data _ v hv]; exact h)

end Go.Eng

namespace Go.Eng
open Go

variable [Globs]
/-! ### Loops that are walked out -/
section
variable (n : Nat) (body : (XA → Fr → Heap → Prop) → Fr → Heap → Prop) (Q : XA → Fr → Heap → Prop)
def lpost (m : Nat) (J : Nat → Fr → Heap → Prop) : XA → Fr → Heap → Prop := fun x fr' H' => match x with
  | .normal => ∃ m', m' < m ∧ To n fr' H' (J m')
  | x => Q x fr' H'
def LoopI : Nat → Nat → Fr → Heap → Prop
  | 0, _, _, _ => False
  | k + 1, m, fr, H => (m = k ∧ body (lpost n Q k (LoopI k)) fr H) ∨ LoopI k m fr H
theorem LoopI.lt : ∀ {k m : Nat} {fr : Fr} {H : Heap}, LoopI n body Q k m fr H → m < k
  | 0, _, _, _, h => h.elim
  | k + 1, m, _, _, h => by
    rcases h with ⟨rfl, _⟩ | h
    · exact Nat.lt_succ_self _
    · exact Nat.lt_succ_of_lt (LoopI.lt h)
theorem LoopI.eq : ∀ {k m m' : Nat}, m' < m → m ≤ k → LoopI n body Q k m' = LoopI n body Q m m'
  | 0, m, m', h1, h2 => by omega
  | k + 1, m, m', h1, h2 => by
    by_cases e : m = k + 1
    · rw [e]
    · rw [← LoopI.eq (k := k) h1 (by omega)]
      funext fr H
      refine propext ⟨fun h => ?_, fun h => .inr h⟩
      rcases h with ⟨e, _⟩ | h
      · omega
      · exact h
theorem LoopI.step : ∀ {k m : Nat} {fr : Fr} {H : Heap}, LoopI n body Q k m fr H → body (lpost n Q m (LoopI n body Q m)) fr H
  | 0, _, _, _, h => h.elim
  | k + 1, m, _, _, h => by
    rcases h with ⟨rfl, h⟩ | h
    · exact h
    · exact LoopI.step h
theorem LoopA.unroll (k : Nat) {fr : Fr} {H : Heap} (h : body (lpost n Q k (LoopI n body Q k)) fr H) : LoopA n body Q fr H := by
  refine ⟨LoopI n body Q (k + 1), k, To.refl (.inl ⟨rfl, h⟩), fun m fr H h => ?_⟩
  have hm := LoopI.lt n body Q h
  have := LoopI.step n body Q h
  have e : lpost n Q m (LoopI n body Q m) = lpost n Q m (LoopI n body Q (k + 1)) := by
    funext x fr' H'
    cases x with
    | normal =>
      refine propext ⟨fun ⟨m', h1, h2⟩ => ⟨m', h1, by rw [LoopI.eq n body Q h1 (by omega)]; exact h2⟩, fun ⟨m', h1, h2⟩ => ⟨m', h1, by rw [← LoopI.eq n body Q h1 (show m ≤ k + 1 by omega)]; exact h2⟩⟩
    | _ => rfl
  rw [e] at this
  exact this
end
theorem Branch.dec {p : Prop} [Decidable p] {A B : Prop} (yes : p → A) (no : ¬ p → B) : Branch (decide p) A B :=
  ⟨fun h => yes (of_decide_eq_true h), fun h => no (of_decide_eq_false h)⟩

theorem Into.pub {n : Nat} {fr : Fr} {H : Heap} (k : Nat) (slots : List Nat) {ds : List AV} (hk : H.get k = .cells ds) (hdata : ∀ c ∈ ds, noLoc c = true) : Into n fr H (pubF k ds fr slots) (pubH k ds H) := by
  intro N M μ w tmps R F hn
  obtain ⟨M', R', hV, G⟩ := R.pub k hk hdata
  refine ⟨M', μ, R', ⟨R'.glob, F.size, fun t => ?_⟩, hn, G n⟩
  have key : ∀ (sl : List Nat), relV M' (look (pubF k ds fr sl) t) μ (tmps.getD t undef) := by
    intro sl
    induction sl with
    | nil => simp [pubF, look, relV]
    | cons q r ih =>
      simp only [pubF, look]
      by_cases hq : q = t
      · subst hq; simpa using hV _ _ (F.slot q)
      · rw [beq_false hq]; exact ih
  exact key slots

theorem Into.trans {n : Nat} {fr fr' fr'' : Fr} {H H' H'' : Heap} (h : Into n fr H fr' H') (k : Into n fr' H' fr'' H'') : Into n fr H fr'' H'' := by
  intro N M μ w tmps R F hn
  obtain ⟨M1, μ1, R1, F1, n1, G1⟩ := h N M μ w tmps R F hn
  obtain ⟨M2, μ2, R2, F2, n2, G2⟩ := k N M1 μ1 w tmps R1 F1 n1
  exact ⟨M2, μ2, R2, F2, n2, G1.trans G2⟩
theorem RetA.pub {n : Nat} {K : AV → Heap → Prop} {v : AV} {H : Heap} (k : Nat) {ds : List AV} (hk : H.get k = .cells ds) (hdata : ∀ c ∈ ds, noLoc c = true) (h : RetA n K (pubV k ds v) (pubH k ds H)) : RetA n K v H := by
  obtain ⟨v', H', h1, h2⟩ := h
  exact ⟨v', H', (Into.pub k [0] hk hdata).trans h1, h2⟩
theorem To.pub {n : Nat} {J : Fr → Heap → Prop} {fr : Fr} {H : Heap} (k : Nat) (slots : List Nat) {ds : List AV} (hk : H.get k = .cells ds) (hdata : ∀ c ∈ ds, noLoc c = true) (h : To n (pubF k ds fr slots) (pubH k ds H) J) : To n fr H J := by
  obtain ⟨v', H', h1, h2⟩ := h
  exact ⟨v', H', (Into.pub k slots hk hdata).trans h1, h2⟩

end Go.Eng

namespace Go.Eng
open Go

variable [Globs]
/-! ### Blocks that are lent to a call -/
def subP (keep : List (Nat × Bool)) (μ : Pos) : Pos := fun j => (keep[j]?).bind fun x => μ x.1
theorem distinct_keep {keep : List (Nat × Bool)} (h : distinct keep = true) (i j k : Nat) (d e : Bool) : keep[i]? = some (k, d) → keep[j]? = some (k, e) → i = j := distinct_spec h i j k d e

section
variable {M : Mem} {μ : Pos} {H : Heap} {w : World} {keep : List (Nat × Bool)}
theorem subP_to {j k : Nat} {d : Bool} (h : keep[j]? = some (k, d)) {x : Nat × Nat} (hx : μ k = some x) : subP keep μ j = some x := by simp only [subP, h, Option.bind_some, hx]
theorem subP_from {j k : Nat} {d : Bool} (h : keep[j]? = some (k, d)) {x : Nat × Nat} (hx : subP keep μ j = some x) : μ k = some x := by simpa only [subP, h, Option.bind_some] using hx
theorem sub_pos {k j : Nat} {x : Nat × Nat} (h : posOf keep k = some j) (hx : μ k = some x) : subP keep μ j = some x := by
  obtain ⟨m, d, h1, h2⟩ := posOf_go keep k 0 j h
  exact subP_to (d := d) (by rw [h1, Nat.zero_add]; exact h2) hx
theorem sub_alive {j : Nat} (hj : (gcH keep H).get j ≠ .dead) : ∃ (k : Nat) (d : Bool), keep[j]? = some (k, d) ∧ H.get k ≠ .dead := by
  rw [gcH_get] at hj
  cases hk : keep[j]? with
  | none => rw [hk] at hj; exact absurd rfl hj
  | some x =>
    obtain ⟨k, d⟩ := x
    refine ⟨k, d, rfl, fun h => hj ?_⟩
    simp only [hk, h, renB]; cases d <;> rfl
theorem sub_own {b : Nat} (h : Own (subP keep μ) (gcH keep H) b) : ∃ (j k : Nat) (d : Bool) (s : Nat), keep[j]? = some (k, d) ∧ H.get k ≠ .dead ∧ μ k = some (b, s) := by
  obtain ⟨j, s, hj, hx⟩ := h
  obtain ⟨k, d, h1, h2⟩ := sub_alive hj
  exact ⟨j, k, d, s, h1, h2, subP_from h1 hx⟩
theorem Rel.sub (R : Rel M μ H w) (hdis : distinct keep = true) (hdata : allData H keep) : Rel M (subP keep μ) (gcH keep H) w := by
  have hf : ∀ k j x, posOf keep k = some j → μ k = some x → subP keep μ j = some x := fun k j x => sub_pos
  refine ⟨R.glob, fun j hj => ?_, fun j hj => ?_, fun j cs hj => ?_, fun j es hj => ?_, R.walks (Mem.le_refl _) (fun j k' left cur hj => ?_), R.recs (Mem.le_refl _) (fun j st id fr hj => ?_), fun i j b s t hi hj hx hy => ?_, R.imm, fun j b s hj hx o => ?_⟩
  · simp only [subP, List.getElem?_eq_none (show keep.length ≤ j from hj), Option.bind_none]
  · rw [gcH_get, List.getElem?_eq_none (by simpa [gcH] using hj)]
  · rw [gcH_get] at hj
    cases hk : keep[j]? with
    | none => rw [hk] at hj; cases hj
    | some x =>
      obtain ⟨k, d⟩ := x
      rw [hk] at hj
      cases d with
      | true =>
        simp only [cond_true] at hj
        obtain ⟨b, sz, c, el, fz, h1, h2, h3, h4, h5⟩ := R.cells k cs hj
        refine ⟨b, sz, c, el, fz, subP_to hk h1, h2, h3, h4, relP_data cs ?_ h5⟩
        have := allData_spec hdata k (List.mem_of_getElem? hk)
        rw [hj] at this; exact this
      | false =>
        simp only [cond_false] at hj
        cases hg : H.get k with
        | cells ds =>
          rw [hg] at hj; simp only [renB, AB.cells.injEq] at hj; subst hj
          obtain ⟨b, sz, c, el, fz, h1, h2, h3, h4, h5⟩ := R.cells k ds hg
          exact ⟨b, sz, c, el, fz, subP_to hk h1, h2, h3, h4, relP_ren hf ds h5⟩
        | dead => rw [hg] at hj; simp [renB] at hj
        | map es => rw [hg] at hj; simp [renB] at hj
        | iter k' l c => rw [hg] at hj; simp only [renB] at hj; split at hj <;> cases hj
        | loop st id fr => rw [hg] at hj; cases hj
  · rw [gcH_get] at hj
    cases hk : keep[j]? with
    | none => rw [hk] at hj; cases hj
    | some x =>
      obtain ⟨k, d⟩ := x
      rw [hk] at hj
      have hg : H.get k = .map es := by
        cases d with
        | true => simpa using hj
        | false =>
          have hj : renB (posOf keep) (H.get k) = .map es := hj
          cases hg : H.get k with
          | dead => rw [hg] at hj; cases hj
          | cells cs => rw [hg] at hj; cases hj
          | map es' => rw [hg] at hj; exact hj
          | iter k' l c => rw [hg] at hj; simp only [renB] at hj; split at hj <;> cases hj
          | loop st id fr => rw [hg] at hj; cases hj
      obtain ⟨b, sz, ents, clock, h1, h2⟩ := R.maps k es hg
      exact ⟨b, sz, ents, clock, subP_to hk h1, h2⟩
  · obtain ⟨j0, k0, d, h1, h2, h3⟩ := gcH_iter hdata hj
    obtain ⟨es, hes⟩ := R.iter_map h2
    refine ⟨j0, k0, h2, ?_, fun x hx => subP_to h1 hx, fun x hx => hf k0 k' x h3 hx, fun _ _ _ _ => rfl, fun _ _ _ _ => rfl⟩
    obtain ⟨m, d', e1, e2⟩ := posOf_go keep k0 0 k' h3
    rw [Nat.zero_add] at e1; subst e1
    rw [gcH_get, e2]; simp only [hes]
    cases d' <;> simp [renB]
  · obtain ⟨j0, fr0, d, h1, h2, h3⟩ := gcH_loop hdata hj
    exact ⟨j0, fr0, h2, fun x hx => subP_to h1 hx, fun t v hv => by rw [h3]; exact look_renF hf fr0 t hv, fun _ _ _ _ => rfl⟩
  · obtain ⟨k, d, h1, h2⟩ := sub_alive hi
    obtain ⟨k', d', h3, h4⟩ := sub_alive hj
    have := R.inj k k' b s t h2 h4 (subP_from h1 hx) (subP_from h3 hy)
    subst this
    exact distinct_spec hdis i j k d d' h1 h3
  · obtain ⟨k, d, h1, h2⟩ := sub_alive hj
    exact R.apart k b s h2 (subP_from h1 hx) o
end

/-- Where a place of the callee is for the caller. -/
def backK (keep : List (Nat × Bool)) (nx j : Nat) : Nat := match keep[j]? with
  | some (k, _) => k
  | none => nx + (j - keep.length)
def backB (keep : List (Nat × Bool)) (nx : Nat) (H' : Heap) (j : Nat) : AB := match keep[j]? with
  | some (_, true) => H'.get j
  | _ => renB (fun j => some (backK keep nx j)) (H'.get j)
def lendBs (keep : List (Nat × Bool)) (nx : Nat) (H' : Heap) : Nat → List (Nat × AB) → List (Nat × AB)
  | 0, bs => bs
  | j + 1, bs => (backK keep nx j, backB keep nx H' j) :: lendBs keep nx H' j bs
def lendH (keep : List (Nat × Bool)) (H H' : Heap) : Heap := ⟨H.nx + (H'.nx - keep.length), lendBs keep H.nx H' H'.nx H.bs⟩
/-- The callee leaves data where data was lent. -/
def backOk (H' : Heap) : List (Nat × Bool) → Nat → Prop
  | [], _ => True
  | (_, true) :: r, j => dataB (H'.get j) ∧ backOk H' r (j + 1)
  | (_, false) :: r, j => backOk H' r (j + 1)
theorem backOk_spec {H' : Heap} : ∀ {keep : List (Nat × Bool)} {i : Nat}, backOk H' keep i → ∀ j k, keep[j]? = some (k, true) → dataB (H'.get (i + j))
  | [], _, _, j, k, h => by simp at h
  | (q, d) :: r, i, hb, 0, k, h => by
    simp at h; obtain ⟨rfl, rfl⟩ := h; exact hb.1
  | (q, true) :: r, i, hb, j + 1, k, h => by
    have := backOk_spec hb.2 j k (by simpa using h)
    rwa [Nat.add_assoc, Nat.add_comm 1 j] at this
  | (q, false) :: r, i, hb, j + 1, k, h => by
    have := backOk_spec (keep := r) hb j k (by simpa using h)
    rwa [Nat.add_assoc, Nat.add_comm 1 j] at this

theorem lendBs_get {keep : List (Nat × Bool)} {nx : Nat} {H' : Heap} (k : Nat) (inj : ∀ i j, backK keep nx i = backK keep nx j → i = j) : ∀ (m : Nat) (bs : List (Nat × AB)),
    (∀ j, j < m → backK keep nx j = k → bget (lendBs keep nx H' m bs) k = backB keep nx H' j) ∧ ((∀ j, j < m → backK keep nx j ≠ k) → bget (lendBs keep nx H' m bs) k = bget bs k)
  | 0, bs => ⟨fun j hj => by omega, fun _ => rfl⟩
  | m + 1, bs => by
    obtain ⟨h1, h2⟩ := lendBs_get (H' := H') k inj m bs
    refine ⟨fun j hj hk => ?_, fun h => ?_⟩
    · simp only [lendBs, bget]
      by_cases hm : backK keep nx m = k
      · have := inj j m (hk.trans hm.symm); subst this
        rw [hm]; simp
      · rw [beq_false hm]
        exact h1 j (by rcases Nat.lt_succ_iff_lt_or_eq.1 hj with h | h; exact h; exact absurd (h ▸ hk) hm) hk
    · simp only [lendBs, bget]
      rw [beq_false (h m (Nat.lt_succ_self _))]
      exact h2 fun j hj => h j (Nat.lt_succ_of_lt hj)

/-- No map is lent that a block of the caller's walks over. -/
def lentOk (keep : List (Nat × Bool)) (η : Nat → AB) (n : Nat) : Bool := Nat.rec true (fun i ih => match η i with
  | .iter k _ _ => (match posOf keep k with
    | some _ => false
    | none => ih)
  | _ => ih) n
theorem lentOk_succ (keep : List (Nat × Bool)) (η : Nat → AB) (n : Nat) : lentOk keep η (n + 1) = match η n with
  | .iter k _ _ => (match posOf keep k with
    | some _ => false
    | none => lentOk keep η n)
  | _ => lentOk keep η n := rfl
theorem lentOk_spec {keep : List (Nat × Bool)} {η : Nat → AB} : ∀ {n : Nat}, lentOk keep η n = true → ∀ j, j < n → ∀ k l c, η j = .iter k l c → posOf keep k = none
  | 0, _, j, hj, _, _, _ => by omega
  | n + 1, h, j, hj, k, l, c => by
    rw [lentOk_succ] at h
    intro e
    rcases Nat.lt_or_eq_of_le (Nat.le_of_lt_succ hj) with h1 | h1
    · refine lentOk_spec ?_ j h1 k l c e
      split at h
      · split at h
        · cases h
        · exact h
      · exact h
    · subst h1; rw [e] at h
      simp only at h
      split at h
      · cases h
      · assumption
theorem posOf_some {keep : List (Nat × Bool)} {j k : Nat} {d : Bool} (h : keep[j]? = some (k, d)) : posOf keep k ≠ none := by
  have go : ∀ (l : List (Nat × Bool)) (i j : Nat), l[j]? = some (k, d) → posOf.go k l i ≠ none := by
    intro l
    induction l with
    | nil => intro i j h; simp at h
    | cons x r ih =>
      intro i j h
      simp only [posOf.go]
      by_cases e : x.1 = k
      · rw [e]; simp
      · rw [beq_false e]
        cases j with
        | zero => simp at h; exact absurd (by rw [h]) e
        | succ j => exact ih (i + 1) j (by simpa using h)
  exact go keep 0 j h

theorem CallA.lend {P : Program} {f : FuncId} {args : List AV} {H : Heap} {K Kc : AV → Heap → Prop} (keep : List (Nat × Bool)) (h : CallA P f (renL (posOf keep) args) (gcH keep H) Kc) (hdis : distinct keep = true) (hdata : allData H keep)
    (hlt : keep.all (fun x => Nat.blt x.1 H.nx) = true) (hK : ∀ c H', Kc c H' → backOk H' keep 0 ∧ K (ren (fun j => some (backK keep H.nx j)) c) (lendH keep H H')) (hit : lentOk keep H.get H.nx = true := by rfl) : CallA P f args H K := by
  refine ⟨h.ok, fun M μ w vs R hv => (h.run M (subP keep μ) w vs (R.sub hdis hdata) (relL_ren (fun k j x => sub_pos) args hv)).mono ?_⟩
  rintro e w' ⟨v, M', μs, Hs, c, rfl, R', hv', G, hk⟩
  obtain ⟨hback, hk⟩ := hK c Hs hk
  have hL : keep.length ≤ Hs.nx := G.nx
  have klt : ∀ {j k d}, keep[j]? = some (k, d) → k < H.nx := fun {j k d} hj => by
    have := List.all_eq_true.1 hlt _ (List.mem_of_getElem? hj)
    simpa [Nat.blt_eq] using this
  have jlt : ∀ {j k d}, keep[j]? = some (k, d) → j < keep.length := fun {j k d} hj => by
    rcases Nat.lt_or_ge j keep.length with h | h
    · exact h
    · rw [List.getElem?_eq_none h] at hj; cases hj
  let bk := backK keep H.nx
  have bk1 : ∀ {j k d}, keep[j]? = some (k, d) → bk j = k := fun {j k d} hj => by simp only [bk, backK, hj]
  have bk2 : ∀ {j}, keep.length ≤ j → bk j = H.nx + (j - keep.length) := fun {j} hj => by simp only [bk, backK, List.getElem?_eq_none hj]
  have bkc : ∀ j, (∃ k d, keep[j]? = some (k, d) ∧ j < keep.length ∧ bk j = k ∧ k < H.nx) ∨ (keep.length ≤ j ∧ bk j = H.nx + (j - keep.length)) := fun j => by
    cases hj : keep[j]? with
    | none =>
      have : keep.length ≤ j := by simpa using hj
      exact .inr ⟨this, bk2 this⟩
    | some x => obtain ⟨k, d⟩ := x; exact .inl ⟨k, d, rfl, jlt hj, bk1 hj, klt hj⟩
  have inj : ∀ i j, bk i = bk j → i = j := by
    intro i j hij
    rcases bkc i with ⟨k, d, h1, h2, h3, h4⟩ | ⟨h1, h2⟩
    · rcases bkc j with ⟨k', d', h5, h6, h7, h8⟩ | ⟨h5, h6⟩
      · have : k = k' := by rw [← h3, ← h7, hij]
        subst this
        exact distinct_spec hdis i j k d d' h1 h5
      · omega
    · rcases bkc j with ⟨k', d', h5, h6, h7, h8⟩ | ⟨h5, h6⟩
      · omega
      · omega
  let μ2 : Pos := fun k => if k < H.nx then μ k else μs (k - H.nx + keep.length)
  have hμ2 : ∀ j, μ2 (bk j) = μs j := by
    intro j
    rcases bkc j with ⟨k, d, h1, h2, h3, h4⟩ | ⟨h1, h2⟩
    · rw [h3]
      simp only [μ2, if_pos h4]
      rw [G.grow.pin j h2]
      simp only [subP, h1, Option.bind_some]
    · rw [h2]
      simp only [μ2]
      rw [if_neg (by omega)]
      congr 1; omega
  have hf : ∀ k j x, (fun j => some (bk j)) k = some j → μs k = some x → μ2 j = some x := by
    intro k j x hj hx
    simp only [Option.some.injEq] at hj
    subst hj; rw [hμ2]; exact hx
  have get : ∀ k, (∃ j, j < Hs.nx ∧ bk j = k ∧ (lendH keep H Hs).get k = backB keep H.nx Hs j) ∨ ((∀ j, j < Hs.nx → bk j ≠ k) ∧ (lendH keep H Hs).get k = H.get k) := by
    intro k
    obtain ⟨h1, h2⟩ := lendBs_get (keep := keep) (nx := H.nx) (H' := Hs) k inj Hs.nx H.bs
    by_cases hj : ∃ j, j < Hs.nx ∧ bk j = k
    · obtain ⟨j, h3, h4⟩ := hj
      exact .inl ⟨j, h3, h4, h1 j h3 h4⟩
    · have h3 : ∀ j, j < Hs.nx → bk j ≠ k := fun j h3 h4 => hj ⟨j, h3, h4⟩
      exact .inr ⟨h3, h2 h3⟩
  have backdead : ∀ j, backB keep H.nx Hs j ≠ .dead → Hs.get j ≠ .dead := by
    intro j hj hd
    refine hj ?_
    simp only [backB, hd, renB]
    split <;> rfl
  have notsub : ∀ {k b s}, H.get k ≠ .dead → μ k = some (b, s) → (∀ j, j < Hs.nx → bk j ≠ k) → ¬ Own (subP keep μ) (gcH keep H) b := by
    intro k b s hk1 hk2 hno ho
    obtain ⟨j, k', d, s', h1, h2, h3⟩ := sub_own ho
    have := R.inj k k' b s s' hk1 h2 hk2 h3
    subst this
    exact hno j (Nat.lt_of_lt_of_le (jlt h1) hL) (bk1 h1)
  have blt : ∀ {k b s}, H.get k ≠ .dead → μ k = some (b, s) → b < w.heap.size := fun h1 h2 => R.own_lt ⟨_, _, h1, h2⟩
  have old : ∀ {k}, (∀ j, j < Hs.nx → bk j ≠ k) → H.get k ≠ .dead → k < H.nx ∧ μ2 k = μ k := fun {k} _ hk => by
    have : k < H.nx := by
      rcases Nat.lt_or_ge k H.nx with h | h
      · exact h
      · exact absurd (R.top k h) hk
    exact ⟨this, by simp only [μ2, if_pos this]⟩
  have ownBack : ∀ {b}, Own μs Hs b → Own μ H b ∨ w.heap.size ≤ b := fun ho => by
    rcases G.grow.own _ ho with h | h
    · obtain ⟨j, k', d, s', h1, h2, h3⟩ := sub_own h
      exact .inl ⟨k', s', h2, h3⟩
    · exact .inr h
  have relB : ∀ {ds : List AV} {vs : List Value}, relP M' μs ds vs → relP M' μ2 (renL (fun j => some (bk j)) ds) vs := fun h => relP_ren hf _ h
  have R2 : Rel M' μ2 (lendH keep H Hs) w' := by
    refine ⟨R'.glob, fun k hk => ?_, fun k hk => ?_, fun k cs hk => ?_, fun k es hk => ?_, fun k kk left cur hk => ?_, fun k st id fr hk => ?_, fun i j b s t hi hj hx hy => ?_, R'.imm, fun k b s hk hx o => ?_⟩
    · have hk : H.nx + (Hs.nx - keep.length) ≤ k := hk
      simp only [μ2]
      rw [if_neg (by omega)]
      exact R'.dom _ (by omega)
    · have hk : H.nx + (Hs.nx - keep.length) ≤ k := hk
      rcases get k with ⟨j, h1, h2, h3⟩ | ⟨h1, h2⟩
      · rcases bkc j with ⟨k', d, h4, h5, h6, h7⟩ | ⟨h4, h5⟩
        · omega
        · omega
      · rw [h2]; exact R.top k (by omega)
    · rcases get k with ⟨j, h1, h2, h3⟩ | ⟨h1, h2⟩
      · rw [h3] at hk
        subst h2
        have fin : ∀ ds, Hs.get j = .cells ds → (∀ vs, relP M' μs ds vs → relP M' μ2 cs vs) → ∃ b sz c el fz, μ2 (bk j) = some (b, sz) ∧ w'.heap[b]? = some (.cells c el fz) ∧ c.size = sz ∧ (fz = (0, 0) ∨ c.size ≤ fz.1) ∧ relP M' μ2 cs c.toList := by
          intro ds hd hp
          obtain ⟨b, sz, c, el, fz, g1, g2, g3, g4, g5⟩ := R'.cells j ds hd
          exact ⟨b, sz, c, el, fz, by rw [hμ2]; exact g1, g2, g3, (by rw [g3]; exact g4), hp _ g5⟩
        simp only [backB] at hk
        split at hk
        · rename_i kk hkk
          obtain ⟨b, sz, c, el, fz, g1, g2, g3, g4, g5⟩ := R'.cells j cs hk
          refine ⟨b, sz, c, el, fz, by rw [hμ2]; exact g1, g2, g3, g4, ?_⟩
          have := backOk_spec hback j kk hkk
          rw [Nat.zero_add, hk] at this
          exact relP_data cs this g5
        · cases hg : Hs.get j with
          | dead => rw [hg] at hk; simp [renB] at hk
          | map es => rw [hg] at hk; simp [renB] at hk
          | iter k' l c => rw [hg] at hk; simp [renB] at hk
          | loop st id fr => rw [hg] at hk; simp [renB] at hk
          | cells ds =>
            rw [hg] at hk; simp only [renB, AB.cells.injEq] at hk; subst hk
            obtain ⟨b, sz, c, el, fz, g1, g2, g3, g4, g5⟩ := R'.cells j ds hg
            exact ⟨b, sz, c, el, fz, by rw [hμ2]; exact g1, g2, g3, g4, relB g5⟩
      · rw [h2] at hk
        have hne : H.get k ≠ .dead := by rw [hk]; simp
        obtain ⟨b, sz, c, el, fz, g1, g2, g3, g4, g5⟩ := R.cells k cs hk
        have hb := blt hne g1
        refine ⟨b, sz, c, el, fz, by rw [(old h1 hne).2]; exact g1, by rw [G.grow.keep.block b hb (notsub hne g1 h1)]; exact g2, g3, g4, ?_⟩
        refine relP_mono G.grow.mem ?_ cs g5
        intro q x hx
        have : q < H.nx := R.pos_lt hx
        simp only [μ2, if_pos this]; exact hx
    · rcases get k with ⟨j, h1, h2, h3⟩ | ⟨h1, h2⟩
      · rw [h3] at hk
        subst h2
        have hg : Hs.get j = .map es := by
          simp only [backB] at hk
          split at hk
          · exact hk
          · cases hg : Hs.get j with
            | dead => rw [hg] at hk; cases hk
            | cells cs => rw [hg] at hk; cases hk
            | map es' => rw [hg] at hk; exact hk
            | iter k' l c => rw [hg] at hk; simp [renB] at hk
            | loop st id fr => rw [hg] at hk; simp [renB] at hk
        obtain ⟨b, sz, ents, clock, g1, g2⟩ := R'.maps j es hg
        exact ⟨b, sz, ents, clock, by rw [hμ2]; exact g1, g2⟩
      · rw [h2] at hk
        have hne : H.get k ≠ .dead := by rw [hk]; simp
        obtain ⟨b, sz, ents, clock, g1, g2, g3, g4⟩ := R.maps k es hk
        have hb := blt hne g1
        refine ⟨b, sz, ents, clock, by rw [(old h1 hne).2]; exact g1, by rw [G.grow.keep.block b hb (notsub hne g1 h1)]; exact g2, ?_, g4⟩
        have : ∀ {es : List (AV × AV)} {ents : List MapEntry}, relE M es ents → relE M' es ents := by
          intro es
          induction es with
          | nil => intro ents h; exact h
          | cons x r ih => intro ents h; obtain ⟨e, t, h1, h2, h3, h4⟩ := h; exact ⟨e, t, h1, relV_mono G.grow.mem _ (Pos.le_refl _) h2, relV_mono G.grow.mem _ (Pos.le_refl _) h3, ih h4⟩
        exact this g3
    · rcases get k with ⟨j, h1, h2, h3⟩ | ⟨h1, h2⟩
      · rw [h3] at hk
        subst h2
        have hg : ∃ k0, Hs.get j = .iter k0 left cur ∧ kk = bk k0 := by
          simp only [backB] at hk
          split at hk
          · rename_i q hq
            have := backOk_spec hback j q hq
            rw [Nat.zero_add, hk] at this; exact this.elim
          · cases hg : Hs.get j with
            | dead => rw [hg] at hk; cases hk
            | cells cs => rw [hg] at hk; cases hk
            | map es => rw [hg] at hk; cases hk
            | iter k0 l c => rw [hg] at hk; simp only [renB] at hk; cases hk; exact ⟨k0, rfl, rfl⟩
            | loop st id fr => rw [hg] at hk; cases hk
        obtain ⟨k0, hg, rfl⟩ := hg
        obtain ⟨es, hes⟩ := R'.iter_map hg
        obtain ⟨_, b, s, g1, bm, s2, ents, clock, since, seen, last, g2, g3⟩ := R'.iters j k0 left cur hg
        refine ⟨?_, b, s, by rw [hμ2]; exact g1, bm, s2, ents, clock, since, seen, last, by rw [hμ2]; exact g2, g3⟩
        have hk0 : k0 < Hs.nx := by
          rcases Nat.lt_or_ge k0 Hs.nx with h | h
          · exact h
          · rw [R'.top k0 h] at hes; cases hes
        rcases get (bk k0) with ⟨j', e1, e2, e3⟩ | ⟨e1, _⟩
        · have := inj _ _ e2; subst this
          rw [e3]; simp only [backB, hes, renB]; split <;> simp
        · exact absurd rfl (e1 k0 hk0)
      · rw [h2] at hk
        have hne : H.get k ≠ .dead := by rw [hk]; simp
        obtain ⟨es, hes⟩ := R.iter_map hk
        have hne2 : H.get kk ≠ .dead := by rw [hes]; simp
        have hkk : ∀ j, j < Hs.nx → bk j ≠ kk := by
          intro j hj e
          have hlt' := (old h1 hne).1
          have hno := lentOk_spec hit k hlt' kk left cur hk
          rcases bkc j with ⟨k', d, e1, e2, e3, e4⟩ | ⟨e1, e2⟩
          · have : k' = kk := by rw [← e3, e]
            subst this; exact posOf_some e1 hno
          · have : kk < H.nx := by
              rcases Nat.lt_or_ge kk H.nx with h | h
              · exact h
              · exact absurd (R.top kk h) hne2
            omega
        obtain ⟨_, b, s, g1, bm, s2, ents, clock, since, seen, last, g2, g3, g4, g5, g6, g7, g8, g9⟩ := R.iters k kk left cur hk
        refine ⟨?_, b, s, by rw [(old h1 hne).2]; exact g1, bm, s2, ents, clock, since, seen, last, by rw [(old hkk hne2).2]; exact g2, ?_, ?_, g5, g6, g7, relE_mono G.grow.mem g8, fun c hc => ?_⟩
        · rcases get kk with ⟨j, e1, e2, e3⟩ | ⟨e1, e2⟩
          · exact absurd e2 (hkk j e1)
          · rw [e2]; exact hne2
        · rw [G.grow.keep.block b (blt hne g1) (notsub hne g1 h1)]; exact g3
        · rw [G.grow.keep.block bm (blt hne2 g2) (notsub hne2 g2 hkk)]; exact g4
        · obtain ⟨e, seen0, e1, e2, e3, e4, e5⟩ := g9 c hc
          exact ⟨e, seen0, e1, e2, e3, relV_mono G.grow.mem _ (Pos.le_refl _) e4, relV_mono G.grow.mem _ (Pos.le_refl _) e5⟩
    · rcases get k with ⟨j, h1, h2, h3⟩ | ⟨h1, h2⟩
      · rw [h3] at hk
        subst h2
        have hg : ∃ fr0, Hs.get j = .loop st id fr0 ∧ fr = renF (fun j => some (bk j)) fr0 := by
          simp only [backB] at hk
          split at hk
          · rename_i q hq
            have := backOk_spec hback j q hq
            rw [Nat.zero_add, hk] at this; exact this.elim
          · cases hg : Hs.get j with
            | dead => rw [hg] at hk; cases hk
            | cells cs => rw [hg] at hk; cases hk
            | map es => rw [hg] at hk; cases hk
            | iter k0 l c => rw [hg] at hk; simp [renB] at hk
            | loop st0 id0 fr0 => rw [hg] at hk; simp only [renB, AB.loop.injEq] at hk; obtain ⟨rfl, rfl, rfl⟩ := hk; exact ⟨fr0, rfl, rfl⟩
        obtain ⟨fr0, hg, rfl⟩ := hg
        obtain ⟨b, s, g1, r, g2, g3, g4, g5⟩ := R'.loops j st id fr0 hg
        exact ⟨b, s, by rw [hμ2]; exact g1, r, g2, g3, g4, fun t => look_renF hf fr0 t (g5 t)⟩
      · rw [h2] at hk
        have hne : H.get k ≠ .dead := by rw [hk]; simp
        obtain ⟨b, s, g1, r, g2, g3, g4, g5⟩ := R.loops k st id fr hk
        refine ⟨b, s, by rw [(old h1 hne).2]; exact g1, r, by rw [G.grow.keep.block b (blt hne g1) (notsub hne g1 h1)]; exact g2, g3, g4, fun t => ?_⟩
        refine relV_mono G.grow.mem _ ?_ (g5 t)
        intro q x hx
        have : q < H.nx := R.pos_lt hx
        simp only [μ2, if_pos this]; exact hx
    · have mix : ∀ {i j k : Nat} {s t : Nat}, j < Hs.nx → Hs.get j ≠ .dead → μs j = some (b, s) → H.get k ≠ .dead → μ k = some (b, t) → (∀ j, j < Hs.nx → bk j ≠ k) → False := by
        intro i j k s t h1 h2 h3 h4 h5 h6
        rcases G.grow.own b ⟨j, s, h2, h3⟩ with h | h
        · exact notsub h4 h5 h6 h
        · have := blt h4 h5; omega
      rcases get i with ⟨i', h1, h2, h3⟩ | ⟨h1, h2⟩
      · rw [h3] at hi; have hi := backdead _ hi
        subst h2; rw [hμ2] at hx
        rcases get j with ⟨j', h4, h5, h6⟩ | ⟨h4, h5⟩
        · rw [h6] at hj; have hj := backdead _ hj
          subst h5; rw [hμ2] at hy
          rw [R'.inj i' j' b s t hi hj hx hy]
        · rw [h5] at hj
          rw [(old h4 hj).2] at hy
          exact (mix (i := 0) h1 hi hx hj hy h4).elim
      · rw [h2] at hi
        rw [(old h1 hi).2] at hx
        rcases get j with ⟨j', h4, h5, h6⟩ | ⟨h4, h5⟩
        · rw [h6] at hj; have hj := backdead _ hj
          subst h5; rw [hμ2] at hy
          exact (mix (i := 0) h4 hj hy hi hx h1).elim
        · rw [h5] at hj
          rw [(old h4 hj).2] at hy
          exact R.inj i j b s t hi hj hx hy
    · rcases get k with ⟨j, h1, h2, h3⟩ | ⟨h1, h2⟩
      · rw [h3] at hk
        subst h2; rw [hμ2] at hx
        exact R'.apart j b s (backdead _ hk) hx o
      · rw [h2] at hk
        rw [(old h1 hk).2] at hx
        cases hm : M' b o with
        | none => rfl
        | some u =>
          rcases G.grow.fresh b o u hm with h | h | h
          · rw [R.apart k b s hk hx o] at h; cases h
          · exact absurd h (notsub hk hx h1)
          · have := blt hk hx; omega
  have ownSub : ∀ {b}, Own (subP keep μ) (gcH keep H) b → Own μ H b := fun ho => by
    obtain ⟨j, k', d, s', h1, h2, h3⟩ := sub_own ho
    exact ⟨k', s', h2, h3⟩
  refine ⟨v, M', μ2, lendH keep H Hs, _, rfl, R2, relV_ren hf c hv', ⟨fun k x hx => ?_, ⟨G.grow.mem, fun k hk => ?_, ⟨G.grow.keep.os, G.grow.keep.tape, G.grow.keep.output, G.grow.keep.size, fun b hb hno => G.grow.keep.block b hb (fun h => hno (ownSub h))⟩, fun b hb => ?_, fun b o u hm => ?_⟩, Nat.le_add_right _ _⟩, hk⟩
  · have : k < H.nx := R.pos_lt hx
    simp only [μ2, if_pos this]; exact hx
  · simp only [μ2, if_pos hk]
  · obtain ⟨k, s, hk1, hk2⟩ := hb
    rcases get k with ⟨j, h1, h2, h3⟩ | ⟨h1, h2⟩
    · rw [h3] at hk1
      subst h2; rw [hμ2] at hk2
      exact ownBack ⟨j, s, backdead _ hk1, hk2⟩
    · rw [h2] at hk1
      rw [(old h1 hk1).2] at hk2
      exact .inl ⟨k, s, hk1, hk2⟩
  · rcases G.grow.fresh b o u hm with h | h | h
    · exact .inl h
    · exact .inr (.inl (ownSub h))
    · exact .inr (.inr h)
end Go.Eng

namespace Go.Eng
open Go

variable [Globs]
theorem Branch.neg {b : Bool} {A B : Prop} (yes : b = false → A) (no : b = true → B) : Branch (!b) A B :=
  ⟨fun h => yes (by simpa using h), fun h => no (by simpa using h)⟩
theorem Branch.negdec {p : Prop} [Decidable p] {A B : Prop} (yes : ¬ p → A) (no : p → B) : Branch (!decide p) A B :=
  ⟨fun h => yes (by simpa using h), fun h => no (by simpa using h)⟩
/-- The frame alone is made shorter; the heap stays. -/
theorem Into.slots {n : Nat} {fr : Fr} {H : Heap} (slots : List Nat) : Into n fr H (selF fr slots) H := by
  intro N M μ w tmps R F hn
  refine ⟨M, μ, R, ⟨F.glob, F.size, fun t => ?_⟩, hn, Grow.refl _ _ _ _ _⟩
  have key : ∀ (sl : List Nat), relV M (look (selF fr sl) t) μ (tmps.getD t undef) := by
    intro sl
    induction sl with
    | nil => simp [selF, look, relV]
    | cons q r ih =>
      simp only [selF, look]
      by_cases hq : q = t
      · subst hq; simpa using F.slot q
      · rw [beq_false hq]; exact ih
  exact key slots
theorem To.slots {n : Nat} {fr : Fr} {H : Heap} {J : Fr → Heap → Prop} (slots : List Nat) (h : J (selF fr slots) H) : To n fr H J := ⟨_, _, Into.slots slots, h⟩
theorem RetA.same {n : Nat} {K : AV → Heap → Prop} {v : AV} {H : Heap} (h : K v H) : RetA n K v H :=
  ⟨v, H, fun _ M μ _ _ R F hn => ⟨M, μ, R, F, hn, Grow.refl _ _ _ _ _⟩, h⟩
/-- Arguments of which less is known. -/
theorem CallA.args {P : Program} {f : FuncId} {args args' : List AV} {H : Heap} {K : AV → Heap → Prop} (h : CallA P f args' H K) (ha : ∀ M μ vs, relL M args μ vs → relL M args' μ vs) : CallA P f args H K :=
  ⟨h.ok, fun M μ w vs R hv => h.run M μ w vs R (ha M μ _ hv)⟩
/-! ### A call that leaves what is lent as it was -/
theorem CallA.ext {P : Program} {f : FuncId} {args : List AV} {H : Heap} {K K' : AV → Heap → Prop} (h : CallA P f args H K) (hk : ∀ v H', K v H' → ∃ H'', H'.get = H''.get ∧ H'.nx = H''.nx ∧ K' v H'') : CallA P f args H K' := by
  refine ⟨h.ok, fun M μ w vs R hv => (h.run M μ w vs R hv).mono ?_⟩
  rintro e w' ⟨v, M', μ', H', c, rfl, R', hv', G, hK⟩
  obtain ⟨H'', h1, h2, h3⟩ := hk c H' hK
  exact ⟨v, M', μ', H'', c, rfl, R'.ext h1 h2, hv', ⟨G.le, G.grow.ext h1, h2 ▸ G.nx⟩, h3⟩
theorem lend_same {keep : List (Nat × Bool)} {H : Heap} (hdis : distinct keep = true) (hall : keep.all (·.2) = true) (hlt : keep.all (fun x => Nat.blt x.1 H.nx) = true) : (lendH keep H (gcH keep H)).get = H.get ∧ (lendH keep H (gcH keep H)).nx = H.nx := by
  have hk : ∀ j k d, keep[j]? = some (k, d) → d = true ∧ k < H.nx := fun j k d hj => by
    have hm := List.mem_of_getElem? hj
    have h1 := List.all_eq_true.1 hall _ hm
    have h2 := List.all_eq_true.1 hlt _ hm
    exact ⟨h1, by simpa [Nat.blt_eq] using h2⟩
  have inj : ∀ i j, backK keep H.nx i = backK keep H.nx j → i = j := fun i j hij => by
    unfold backK at hij
    split at hij
    · rename_i k d hi
      split at hij
      · rename_i k' d' hj
        subst hij
        exact distinct_keep hdis i j k d d' hi hj
      · have := (hk i k d hi).2; omega
    · rename_i hi
      split at hij
      · rename_i k' d' hj
        have := (hk j k' d' hj).2; omega
      · rename_i hj
        have h1 : keep.length ≤ i := List.getElem?_eq_none_iff.1 hi
        have h2 : keep.length ≤ j := List.getElem?_eq_none_iff.1 hj
        omega
  refine ⟨funext fun k => ?_, by simp [lendH, gcH]⟩
  have hb := lendBs_get (keep := keep) (nx := H.nx) (H' := gcH keep H) k inj (gcH keep H).nx H.bs
  by_cases hex : ∃ j, j < (gcH keep H).nx ∧ backK keep H.nx j = k
  · obtain ⟨j, hj, hjk⟩ := hex
    have := hb.1 j hj hjk
    simp only [Heap.get, lendH]
    rw [this]
    have hlen : j < keep.length := by simpa [gcH] using hj
    obtain ⟨⟨k', d⟩, hkj⟩ : ∃ x, keep[j] = x := ⟨_, rfl⟩
    have hkj' : keep[j]? = some (k', d) := by rw [List.getElem?_eq_getElem hlen, hkj]
    have hd := (hk j k' d hkj').1
    subst hd
    simp only [backK, hkj'] at hjk
    subst hjk
    simp only [backB, hkj', gcH_get, cond_true]
    rfl
  · have := hb.2 fun j hj hjk => hex ⟨j, hj, hjk⟩
    simp only [Heap.get, lendH]
    exact this
/-- A call to which blocks of data are lent, and which leaves them as they were. -/
theorem CallA.lent {P : Program} {f : FuncId} {args : List AV} {H : Heap} {K : AV → Heap → Prop} {Q : AV → Prop} (keep : List (Nat × Bool)) (h : CallA P f (renL (posOf keep) args) (gcH keep H) fun v H' => Q v ∧ H' = gcH keep H) (hdis : distinct keep = true) (hall : keep.all (·.2) = true) (hdata : allData H keep)
    (hlt : keep.all (fun x => Nat.blt x.1 H.nx) = true) (hback : backOk (gcH keep H) keep 0) (hq : ∀ v, Q v → noLoc v = true) (hK : ∀ v, Q v → K v H) (hit : lentOk keep H.get H.nx = true := by rfl) : CallA P f args H K := by
  refine CallA.ext (K := fun v H' => Q v ∧ H' = lendH keep H (gcH keep H)) (CallA.lend keep h hdis hdata hlt ?_ hit) ?_
  · rintro c H' ⟨hc, rfl⟩
    exact ⟨hback, by rw [ren_data _ _ (hq c hc)]; exact hc, rfl⟩
  · rintro v H' ⟨hv, rfl⟩
    exact ⟨H, (lend_same hdis hall hlt).1, (lend_same hdis hall hlt).2, hK v hv⟩
end Go.Eng

namespace Go.Eng
open Go

variable [Globs]
/-! ### What is handed out becomes data, as far as it reaches -/
def pubAll (f : AV → Option AV) : List AV → Option (List AV)
  | [] => some []
  | c :: r => match f c with
    | some c' => match pubAll f r with
      | some r' => some (c' :: r')
      | none => none
    | none => none
def pubE (η : Nat → AB) : Nat → AV → Option AV
  | 0, v => bif noLoc v then some v else none
  | n + 1, .slice k off len cap e => match η k with
    | .cells cs => match pubAll (pubE η n) ((cs.drop off).take (len * e)) with
      | some l => some (.dslice l len cap)
      | none => none
    | _ => none
  | n + 1, .ptr k off => match η k with
    | .cells cs => match pubAll (pubE η n) (cs.drop off) with
      | some l => some (.dptr l)
      | none => none
    | _ => none
  | n + 1, .agg cs => match pubAll (pubE η n) cs with
    | some l => some (.agg l)
    | none => none
  | n + 1, .tuple cs => match pubAll (pubE η n) cs with
    | some l => some (.tuple l)
    | none => none
  | n + 1, .func g cs => match pubAll (pubE η n) cs with
    | some l => some (.func g l)
    | none => none
  | _ + 1, .map _ => none
  | _ + 1, .yld _ => none
  | _ + 1, v => some v

section
variable {M M' : Mem} {μ : Pos} {H : Heap} {w : World}
theorem pubAll_rel {f : AV → Option AV} {ρ : Pos} (hf : ∀ c c' v, f c = some c' → relV M c μ v → relV M' c' ρ v) : ∀ {cs l : List AV} {vs : List Value}, pubAll f cs = some l → relL M cs μ vs → relL M' l ρ vs
  | [], l, vs, h, hr => by simp only [pubAll] at h; cases h; simpa only [relL] using hr
  | c :: r, l, vs, h, hr => by
    simp only [pubAll] at h
    split at h
    · rename_i c' hc
      split at h
      · rename_i r' hr'; cases h
        simp only [relL] at hr ⊢
        obtain ⟨v, t, rfl, h1, h2⟩ := hr
        exact ⟨v, t, rfl, hf _ _ _ hc h1, pubAll_rel hf hr' h2⟩
      · cases h
    · cases h
theorem pubAll_get {f : AV → Option AV} : ∀ {cs l : List AV}, pubAll f cs = some l → ∀ (i : Nat) (c' : AV), l[i]? = some c' → ∃ c, cs[i]? = some c ∧ f c = some c'
  | [], l, h, i, c', hi => by simp only [pubAll] at h; cases h; simp at hi
  | c :: r, l, h, i, c', hi => by
    simp only [pubAll] at h
    split at h
    · rename_i c1 hc
      split at h
      · rename_i r' hr'; cases h
        cases i with
        | zero => simp at hi; subst hi; exact ⟨c, rfl, hc⟩
        | succ i => simp at hi; obtain ⟨d, h1, h2⟩ := pubAll_get hr' i c' hi; exact ⟨d, by simpa using h1, h2⟩
      · cases h
    · cases h
theorem cells_out (R : Rel M μ H w) (hM' : ∀ b o, Own μ H b → M' b o = w.cell? ⟨b, o, none⟩) {k b sz : Nat} {cs : List AV} (hk : H.get k = .cells cs) (hμ : μ k = some (b, sz)) {f : AV → Option AV}
    (hf : ∀ c c' v, f c = some c' → relV M c μ v → relV M' c' Pos.none v) {off : Nat} {ds l : List AV} (hd : ∀ i c, ds[i]? = some c → cs[off + i]? = some c) (hp : pubAll f ds = some l) : relM M' l b off := by
  obtain ⟨b', sz', c, el, fz, h1, h2, _, _, hP⟩ := R.cells k cs hk
  rw [hμ] at h1; cases h1
  refine relM_of_get fun i c' hi => ?_
  obtain ⟨d, h3, h4⟩ := pubAll_get hp i c' hi
  obtain ⟨u, hu, hr⟩ := relP_get hP (hd i d h3)
  refine ⟨u, ?_, hf _ _ _ h4 hr⟩
  rw [hM' b _ ⟨k, sz, by rw [hk]; simp, hμ⟩]
  simp only [World.cell?, h2]
  simpa using hu
theorem pubE_rel (R : Rel M μ H w) (hle : Mem.le M M') (hM' : ∀ b o, Own μ H b → M' b o = w.cell? ⟨b, o, none⟩) : ∀ (n : Nat) (c c' : AV) (v : Value), pubE H.get n c = some c' → relV M c μ v → relV M' c' Pos.none v
  | 0, c, c', v, h, hr => by
    simp only [pubE] at h
    cases hn : noLoc c <;> simp only [hn, cond_true, cond_false] at h
    · cases h
    · cases h; exact relV_data c hn (relV_mono hle c (Pos.le_refl _) hr)
  | n + 1, c, c', v, h, hr => by
    have ih := pubE_rel R hle hM' n
    cases c <;> simp only [pubE] at h
    case slice k off len cap e =>
      split at h
      · rename_i cs hk
        split at h
        · rename_i l hl; cases h
          simp only [relV] at hr ⊢
          obtain ⟨b, sz, q, h1, rfl, h3, h4, h5⟩ := hr
          exact .inl ⟨b, off, q, rfl, h3, h5, cells_out R hM' hk h1 ih (fun i c hi => by
            rw [List.getElem?_take] at hi
            split at hi
            · rwa [List.getElem?_drop] at hi
            · cases hi) hl⟩
        · cases h
      · cases h
    case ptr k off =>
      split at h
      · rename_i cs hk
        split at h
        · rename_i l hl; cases h
          simp only [relV] at hr ⊢
          obtain ⟨b, sz, h1, rfl⟩ := hr
          exact ⟨b, off, rfl, cells_out R hM' hk h1 ih (fun i c hi => by rwa [List.getElem?_drop] at hi) hl⟩
        · cases h
      · cases h
    case agg cs =>
      split at h
      · rename_i l hl; cases h
        simp only [relV] at hr ⊢
        obtain ⟨vs, rfl, hr⟩ := hr
        exact ⟨vs, rfl, pubAll_rel ih hl hr⟩
      · cases h
    case tuple cs =>
      split at h
      · rename_i l hl; cases h
        simp only [relV] at hr ⊢
        obtain ⟨vs, rfl, hr⟩ := hr
        exact ⟨vs, rfl, pubAll_rel ih hl hr⟩
      · cases h
    case func g cs =>
      split at h
      · rename_i l hl; cases h
        simp only [relV] at hr ⊢
        obtain ⟨vs, rfl, hr⟩ := hr
        exact ⟨vs, rfl, pubAll_rel ih hl hr⟩
      · cases h
    case map k => cases h
    case yld k => cases h
    all_goals (cases h; exact relV_data _ rfl (relV_mono hle _ (Pos.le_refl _) hr))
end
theorem Into.out {fr : Fr} {H : Heap} {v r : AV} (m : Nat) (h : pubE H.get m v = some r) : Into 0 ((0, v) :: fr) H [(0, r)] Heap.nil := by
  intro N M μ w tmps R F _
  let M' : Mem := fun b o => open Classical in if Own μ H b then w.cell? ⟨b, o, none⟩ else M b o
  have hO : ∀ b o, Own μ H b → M' b o = w.cell? ⟨b, o, none⟩ := fun b o hb => by simp [M', hb]
  have hN : ∀ b o, ¬ Own μ H b → M' b o = M b o := fun b o hb => by simp [M', hb]
  have hle : Mem.le M M' := fun b o u hu => by
    by_cases hb : Own μ H b
    · rw [hO b o hb]; exact R.imm b o u hu
    · rw [hN b o hb]; exact hu
  refine ⟨M', Pos.none, ⟨R.glob.mono (by first | assumption | exact Mem.le_refl _), fun _ _ => rfl, fun _ _ => rfl, fun k cs h => by simp [Heap.get, Heap.nil, bget] at h, fun k cs h => by simp [Heap.get, Heap.nil, bget] at h, fun j k l c h => by simp [Heap.get, Heap.nil, bget] at h, fun j st id fr h => by simp [Heap.get, Heap.nil, bget] at h, fun i j b s t h => by simp [Heap.get, Heap.nil, bget] at h, fun b o u hu => ?_, fun k b s h => by simp [Heap.get, Heap.nil, bget] at h⟩, ⟨R.glob.mono hle, F.size, fun t => ?_⟩, Nat.zero_le _, ⟨hle, fun k hk => by omega, ⟨rfl, rfl, rfl, Nat.le_refl _, fun _ _ _ => rfl⟩, fun b hb => absurd hb own_nil, fun b o u hu => ?_⟩⟩
  · by_cases hb : Own μ H b
    · rw [hO b o hb] at hu; exact hu
    · rw [hN b o hb] at hu; exact R.imm b o u hu
  · simp only [look]
    by_cases e : 0 = t
    · subst e
      have := F.slot 0
      simp only [look, Nat.beq_refl, cond_true] at this ⊢
      exact pubE_rel R hle hO m _ _ _ h this
    · rw [beq_false e]; simp [relV]
  · by_cases hb : Own μ H b
    · exact .inr (.inl hb)
    · rw [hN b o hb] at hu; exact .inl hu
/-- **A result is handed out as data**, whatever of the heap it reaches. -/
theorem RetA.out {K : AV → Heap → Prop} {v r : AV} {H : Heap} (m : Nat) (h : pubE H.get m v = some r) (hk : K r Heap.nil) : RetA 0 K v H :=
  ⟨r, Heap.nil, Into.out m h, hk⟩
theorem CallA.out {P : Program} {f : FuncId} {vs : List AV} {K0 K : AV → Heap → Prop} (m : Nat) (h : CallA P f vs Heap.nil K0) (hk : ∀ v H', K0 v H' → ∃ r, pubE H'.get m v = some r ∧ K r Heap.nil) : CallA P f vs Heap.nil K := by
  refine ⟨h.ok, fun M μ w vs0 R hv => (h.run M μ w vs0 R hv).mono ?_⟩
  rintro e w' ⟨v, M', μ', H', c, rfl, R', hv', G, hK⟩
  have hμ : μ = Pos.none := funext fun k => R.dom k (Nat.zero_le _)
  subst hμ
  obtain ⟨r, hr, hk⟩ := hk c H' hK
  obtain ⟨M2, μ2, R2, F2, _, G2⟩ := Into.out (fr := []) m hr 1 M' μ' w' #[v] R' ⟨R'.glob, rfl, fun t => by
    simp only [look]
    by_cases e : 0 = t
    · subst e; simpa using hv'
    · rw [beq_false e]; simp [relV]⟩ (Nat.zero_le _)
  have := F2.slot 0
  refine ⟨v, M2, μ2, Heap.nil, r, rfl, R2, by simpa [look] using this, ⟨(fun k x h => nomatch h), G.grow.trans G2, Nat.le_refl _⟩, hk⟩
end Go.Eng

namespace Go.Eng
open Go Go.ChangeShapes Go.WideShapes Go.RowKit

variable [Globs]
/-! ### From a contract to a statement: what arguments look like -/
inductive Sh where
  | b
  | i (k : IntKind)
  | str
  | sl (e : Sh)
  | ar (n : Nat) (e : Sh)
  | ag (l : List Sh)
mutual
def Ty : Sh → Type
  | .b => Bool
  | .i _ => Int
  | .str => ByteArray
  | .sl e => List (Ty e)
  | .ar _ e => List (Ty e)
  | .ag l => Tys l
def Tys : List Sh → Type
  | [] => Unit
  | s :: r => Ty s × Tys r
end
mutual
def cellsT : (s : Sh) → Ty s → List AV
  | .b, x => [.bool x]
  | .i k, x => [.int k x]
  | .str, x => [.str x]
  | .sl e, l => [.dslice (List.flatMap (cellsT e) l) (List.length l) none]
  | .ar _ e, l => List.flatMap (cellsT e) l
  | .ag l, x => cellsTs l x
def cellsTs : (l : List Sh) → Tys l → List AV
  | [], _ => []
  | s :: r, x => cellsT s x.1 ++ cellsTs r x.2
end
mutual
def wfT : (s : Sh) → Ty s → Prop
  | .b, _ => True
  | .i k, x => let n : Int := x; k.min ≤ n ∧ n ≤ k.max
  | .str, x => ByteArray.size x ≤ maxLen
  | .sl e, l => (∀ x, List.Mem x l → wfT e x) ∧ List.length l ≤ maxLen
  | .ar n e, l => (∀ x, List.Mem x l → wfT e x) ∧ List.length l = n
  | .ag l, x => wfTs l x
def wfTs : (l : List Sh) → Tys l → Prop
  | [], _ => True
  | s :: r, x => wfT s x.1 ∧ wfTs r x.2
end
mutual
def widthT : Sh → Nat
  | .b | .i _ | .str | .sl _ => 1
  | .ar n e => n * widthT e
  | .ag l => widthTs l
def widthTs : List Sh → Nat
  | [] => 0
  | s :: r => widthT s + widthTs r
end
mutual
def noSl : Sh → Bool
  | .sl _ => false
  | .ar _ e => noSl e
  | .ag l => noSls l
  | _ => true
def noSls : List Sh → Bool
  | [] => true
  | s :: r => noSl s && noSls r
end
/-- Fields that lie behind each other. -/
def shFs (P : Program) (g : TypeId → Option Sh) : List Field → Nat → Option (List Sh)
  | [], _ => some []
  | f :: r, off => bif Nat.beq f.offset off then (match g f.type with
    | some s => bif Nat.beq (P.cellsOf f.type) (widthT s) then (match shFs P g r (off + widthT s) with
      | some l => some (s :: l)
      | none => none) else none
    | none => none) else none
def shOf (P : Program) : Nat → TypeId → Option Sh
  | 0, _ => none
  | n + 1, t => match P.underlying t with
    | some .bool => some .b
    | some (.int k) => some (.i k)
    | some .string => some .str
    | some (.slice e) => match shOf P n e with
      | some s => bif Nat.beq (P.cellsOf e) (widthT s) && Nat.blt 0 (widthT s) then some (.sl s) else none
      | none => none
    | some (.array m e) => match shOf P n e with
      | some s => bif Nat.beq (P.cellsOf e) (widthT s) && Nat.beq (P.cellsOf t) (m * widthT s) then some (.ar m s) else none
      | none => none
    | some (.struct fs) => match shFs P (shOf P n) fs.toList 0 with
      | some l => bif Nat.beq (P.cellsOf t) (widthTs l) then some (.ag l) else none
      | none => none
    | _ => none

def Mw (w : World) : Mem := fun b o => w.cell? ⟨b, o, none⟩
section
variable {H : Type} {enc : TypeId × Value → H} {P : Program} {w : World} {sp : Nat → Bool} {held : Bool}
theorem flat_wf_len {e : Sh} (he : ∀ x : Ty e, wfT e x → (cellsT e x).length = widthT e) : ∀ l : List (Ty e), (∀ x, List.Mem x l → wfT e x) → (List.flatMap (cellsT e) l).length = l.length * widthT e
  | [], _ => by simp
  | x :: r, h => by
    rw [List.flatMap_cons, List.length_append, he x (h x (.head _)), flat_wf_len he r (fun y hy => h y (.tail _ hy)), List.length_cons, Nat.add_mul]; omega
mutual
theorem cellsT_len : ∀ (s : Sh) (x : Ty s), wfT s x → (cellsT s x).length = widthT s
  | .b, _, _ => by simp only [cellsT, widthT]; rfl
  | .i k, _, _ => by simp only [cellsT, widthT]; rfl
  | .str, _, _ => by simp only [cellsT, widthT]; rfl
  | .sl e, _, _ => by simp only [cellsT, widthT]; rfl
  | .ar n e, l, h => by
    simp only [wfT] at h
    simp only [cellsT, widthT]
    rw [flat_wf_len (cellsT_len e) l h.1, h.2]
  | .ag l, x, h => by
    simp only [wfT] at h
    simp only [cellsT, widthT]; exact cellsTs_len l x h
theorem cellsTs_len : ∀ (l : List Sh) (x : Tys l), wfTs l x → (cellsTs l x).length = widthTs l
  | [], _, _ => by simp only [cellsTs, widthTs]; rfl
  | s :: r, x, h => by
    simp only [wfTs] at h
    simp only [cellsTs, widthTs, List.length_append]
    rw [cellsT_len s x.1 h.1, cellsTs_len r x.2 h.2]
end

theorem relL_app {M : Mem} {μ : Pos} {cs ds : List AV} {vs us : List Value} (h : relL M cs μ vs) (k : relL M ds μ us) : relL M (cs ++ ds) μ (vs ++ us) := relL_append h k
/-- What the reading gives of a row of cells. -/
def Reads (w : World) (s : Sh) (cs : List Value) : Prop := ∃ x : Ty s, wfT s x ∧ relL (Mw w) (cellsT s x) Pos.none cs
def ReadsAll (w : World) (l : List Sh) (cs : List Value) : Prop := ∃ x : Tys l, wfTs l x ∧ relL (Mw w) (cellsTs l x) Pos.none cs
theorem take_off (cs : List Value) (off a b : Nat) : (cs.drop off).take (a + b) = (cs.drop off).take a ++ (cs.drop (off + a)).take b := by
  rw [List.take_add, List.drop_drop]
def plainAt (v : Value) : Prop := ∀ a len cap, v = .slice (some a) len cap → a.spot = none
def SpOK (s : Sh) (cs : List Value) : Prop := noSl s = true ∨ ∀ v ∈ cs, plainAt v
theorem mem_part {v : Value} {cs : List Value} {a b : Nat} (h : v ∈ (cs.drop a).take b) : v ∈ cs := List.mem_of_mem_drop (List.mem_of_mem_take h)
theorem shFs_reads {g : TypeId → Option Sh} : ∀ {fs : List Field} {off : Nat} {l : List Sh} {cs : List Value}, shFs P g fs off = some l →
    (∀ f ∈ fs, ∀ s, g f.type = some s → Reads w s ((cs.drop f.offset).take (P.cellsOf f.type))) → ReadsAll w l ((cs.drop off).take (widthTs l))
  | [], off, l, cs, h, _ => by
    simp only [shFs] at h; cases h
    exact ⟨(), by simp only [wfTs], by simp [cellsTs, widthTs, relL]⟩
  | f :: r, off, l, cs, h, hr => by
    simp only [shFs] at h
    cases hb : Nat.beq f.offset off <;> simp only [hb, cond_true, cond_false] at h
    · cases h
    have hoff := Nat.eq_of_beq_eq_true hb
    split at h
    · rename_i s hs
      cases hc : Nat.beq (P.cellsOf f.type) (widthT s) <;> simp only [hc, cond_true, cond_false] at h
      · cases h
      have hw := Nat.eq_of_beq_eq_true hc
      split at h
      · rename_i l' hl; cases h
        obtain ⟨x, h1, h2⟩ := hr f (List.mem_cons_self ..) s hs
        obtain ⟨y, h3, h4⟩ := shFs_reads (cs := cs) hl fun f' hf' => hr f' (List.mem_cons_of_mem _ hf')
        refine ⟨(x, y), by simp only [wfTs]; exact ⟨h1, h3⟩, ?_⟩
        simp only [cellsTs, widthTs, take_off]
        rw [hoff, hw] at h2
        exact relL_app h2 h4
      · cases h
    · cases h
theorem chunks {e : Sh} {k : Nat} : ∀ (n : Nat) (cs : List Value), (∀ i, i < n → Reads w e ((cs.drop (i * k)).take k)) → ∃ l : List (Ty e), l.length = n ∧ (∀ x, List.Mem x l → wfT e x) ∧ relL (Mw w) (List.flatMap (cellsT e) l) Pos.none (cs.take (n * k))
  | 0, cs, _ => ⟨[], rfl, (fun x h => nomatch h), by simp [relL]⟩
  | n + 1, cs, h => by
    obtain ⟨x, h1, h2⟩ := h 0 (by omega)
    obtain ⟨l, h3, h4, h5⟩ := chunks n (cs.drop k) fun i hi => by
      have := h (i + 1) (by omega)
      rw [List.drop_drop]
      rw [show k + i * k = (i + 1) * k by rw [Nat.add_mul]; omega]; exact this
    refine ⟨x :: l, by simp [h3], fun y hy => ?_, ?_⟩
    · cases hy with
      | head => exact h1
      | tail _ hy => exact h4 y hy
    · rw [List.flatMap_cons, show (n + 1) * k = k + n * k by rw [Nat.add_mul]; omega, List.take_add]
      simp only [Nat.zero_mul, List.drop_zero] at h2
      exact relL_app h2 h5
theorem mapM_range {α : Type} {f : Nat → Option α} {n : Nat} {xs : List α} (h : (List.range n).mapM f = some xs) : xs.length = n ∧ ∀ i, i < n → ∃ y, f i = some y :=
  ⟨by simpa using mapM_some_length h, fun i hi => mapM_each h i (List.mem_range.2 hi)⟩
theorem cells?_rel {a : Addr} {n : Nat} {cs : List Value} (h : w.cells? 0 a n = some cs) : cs.length = n ∧ ∀ i v, cs[i]? = some v → w.cell? (a.add i) = some v := by
  unfold World.cells? at h
  rw [if_pos (Nat.zero_le _)] at h
  have hl : cs.length = n := by simpa using mapM_some_length h
  refine ⟨hl, fun i v hi => ?_⟩
  have hi' : i < n := by rw [← hl]; exact (List.getElem?_eq_some_iff.1 hi).1
  have := mapM_some_get h i i (by simp [hi'])
  rw [this]; exact hi
theorem reads_of_trod : ∀ (k : Nat) (t : TypeId) (s : Sh) (n : Nat) (cs : List Value) (x : DataW H × List MemPlace), shOf P k t = some s → DataW.trod enc P w 0 sp held n t cs = some x → Reads w s cs
  | 0, _, _, _, _, _, h, _ => by simp [shOf] at h
  | k + 1, t, s, n, cs, x, h, hd => by
    simp only [shOf] at h
    split at h
    · rename_i ht; cases h
      obtain ⟨b, rfl, _⟩ := DataW.trod_bool ht hd
      exact ⟨b, by simp only [wfT], by simp [cellsT, relL, relV]⟩
    · rename_i kk ht; cases h
      obtain ⟨m, rfl, _, hw⟩ := DataW.trod_int ht hd
      refine ⟨(m : Int), ?_, by simp [cellsT, relL, relV]⟩
      simp only [wfT]
      simpa [Lit.wf] using hw
    · rename_i ht; cases h
      obtain ⟨b, rfl, _, hs⟩ := DataW.trod_string ht hd
      exact ⟨b, by simp only [wfT]; exact hs, by simp [cellsT, relL, relV]⟩
    · rename_i e ht
      split at h
      · rename_i s' hs
        cases hb : (Nat.beq (P.cellsOf e) (widthT s') && Nat.blt 0 (widthT s')) <;> simp only [hb, cond_true, cond_false] at h
        · cases h
        cases h
        simp only [Bool.and_eq_true] at hb
        have hwd := Nat.eq_of_beq_eq_true hb.1
        cases n with
        | zero => simp [DataW.trod] at hd
        | succ m =>
          unfold DataW.trod at hd
          rw [ht] at hd
          split at hd <;> try (first | (rename_i hh; cases hh; done) | (rename_i hh _; cases hh; done))
          · refine ⟨([] : List (Ty s')), ?_, ?_⟩
            · simp only [wfT]; exact ⟨(fun x h => nomatch h), Nat.zero_le _⟩
            · simp only [cellsT, relL]
              refine ⟨_, [], rfl, ?_, rfl⟩
              simp only [relV]
              exact .inr (.inl ⟨by first | rfl | trivial, rfl, rfl, fun c0 h => by cases h⟩)
          · rename_i a len cap hh
            cases hh
            have hpos : 0 < widthT s' := by simpa [Nat.blt_eq] using hb.2
            simp only at hd
            split at hd
            · rename_i hc
              simp only [Option.bind_eq_some_iff] at hd
              obtain ⟨elems, he, _⟩ := hd
              obtain ⟨hl, hel⟩ := mapM_range he
              -- the cells, one element behind the other
              have cellOf : ∀ i, i < len → ∃ cs', w.cells? 0 (a.add (i * P.cellsOf e)) (P.cellsOf e) = some cs' ∧ Reads w s' cs' := fun i hi => by
                obtain ⟨y, hy⟩ := hel i hi
                simp only [Option.bind_eq_some_iff] at hy
                obtain ⟨cs', h1, h2⟩ := hy
                exact ⟨cs', h1, reads_of_trod k _ _ _ _ _ hs h2⟩
              by_cases hlen0 : len = 0
              · subst hlen0
                refine ⟨([] : List (Ty s')), by simp only [wfT]; exact ⟨(fun x h => nomatch h), Nat.zero_le _⟩, ?_⟩
                simp only [cellsT, relL]
                refine ⟨_, [], rfl, ?_, rfl⟩
                simp only [relV]
                obtain ⟨ab, ao, asp⟩ := a
                cases asp with
                | none => exact .inl ⟨ab, ao, cap, rfl, Nat.zero_le _, (fun c0 h => by cases h), by simp [relM]⟩
                | some q => exact .inr (.inr ⟨ab, ao, q, cap, rfl, rfl, rfl, fun c0 h => by cases h⟩)
              have hspot : a.spot = none := by
                obtain ⟨cs', h1, _⟩ := cellOf 0 (by omega)
                obtain ⟨hlen, hcell⟩ := cells?_rel h1
                have h0 : 0 < cs'.length := by rw [hlen, hwd]; exact hpos
                have := hcell 0 cs'[0] (by simp [h0])
                rw [Nat.zero_mul] at this
                have ea : (a.add 0).add 0 = a := by simp [Addr.add]
                rw [ea] at this
                unfold World.cell? at this
                split at this
                · cases hs : a.spot with
                  | none => rfl
                  | some q => rw [hs] at this; simp at this
                · cases this
              have hadd : ∀ i, a.add i = ⟨a.block, a.off + i, none⟩ := fun i => by
                unfold Addr.add
                split
                · rename_i h0; subst h0; cases a; simp only at hspot ⊢; subst hspot; rfl
                · rfl
              have build : ∀ j, j ≤ len → ∃ l : List (Ty s'), l.length = j ∧ (∀ x, List.Mem x l → wfT s' x) ∧ relM (Mw w) (List.flatMap (cellsT s') l) a.block (a.off + (len - j) * P.cellsOf e) := by
                intro j
                induction j with
                | zero => exact fun _ => ⟨[], rfl, (fun x h => nomatch h), by simp [relM]⟩
                | succ j ih =>
                  intro hj
                  obtain ⟨l, h3, h4, h5⟩ := ih (by omega)
                  obtain ⟨cs', h1, x, h6, h7⟩ := cellOf (len - (j + 1)) (by omega)
                  obtain ⟨hlen, hcell⟩ := cells?_rel h1
                  refine ⟨x :: l, by simp [h3], fun y hy => ?_, ?_⟩
                  · cases hy with
                    | head => exact h6
                    | tail _ hy => exact h4 y hy
                  · rw [List.flatMap_cons]
                    refine relM_of_get fun i c hi => ?_
                    by_cases hil : i < (cellsT s' x).length
                    · rw [List.getElem?_append_left hil] at hi
                      obtain ⟨u, hu, hr⟩ := relL_get h7 hi
                      refine ⟨u, ?_, hr⟩
                      have := hcell i u hu
                      rw [hadd, Go.Eng.add_addr] at this
                      exact this
                    · rw [List.getElem?_append_right (by omega)] at hi
                      obtain ⟨u, hu, hr⟩ := relM_get h5 hi
                      refine ⟨u, ?_, hr⟩
                      rw [cellsT_len s' x h6, ← hwd] at hu hil
                      rw [← hu]
                      congr 1
                      have : (len - j) * P.cellsOf e = (len - (j + 1)) * P.cellsOf e + P.cellsOf e := by
                        rw [show len - j = len - (j + 1) + 1 by omega, Nat.add_mul]; omega
                      omega
              obtain ⟨l, h3, h4, h5⟩ := build len (Nat.le_refl _)
              refine ⟨l, ?_, ?_⟩
              · simp only [wfT]; exact ⟨h4, by rw [h3]; omega⟩
              · simp only [cellsT, relL]
                refine ⟨_, [], rfl, ?_, rfl⟩
                simp only [relV]
                refine .inl ⟨a.block, a.off, cap, ?_, by rw [h3]; exact hc.2.1, (fun c0 h => by cases h), ?_⟩
                · rw [h3]; cases a; simp only at hspot ⊢; subst hspot; rfl
                · rw [Nat.sub_self, Nat.zero_mul] at h5; exact h5
            · cases hd
          · cases hd
      · cases h
    · rename_i mm e ht
      split at h
      · rename_i s' hs
        cases hb : (Nat.beq (P.cellsOf e) (widthT s') && Nat.beq (P.cellsOf t) (mm * widthT s')) <;> simp only [hb, cond_true, cond_false] at h
        · cases h
        cases h
        simp only [Bool.and_eq_true] at hb
        have hwd := Nat.eq_of_beq_eq_true hb.1
        have hwd2 := Nat.eq_of_beq_eq_true hb.2
        obtain ⟨xs, m, rfl, _, hl, hxl, hx⟩ := DataW.trod_array ht hd
        obtain ⟨l, h3, h4, h5⟩ := chunks (w := w) (e := s') (k := P.cellsOf e) mm cs fun i hi => by
          have := hx i hi
          rw [List.getElem?_eq_getElem (by omega)] at this
          exact reads_of_trod k _ _ _ _ _ hs this
        refine ⟨l, by simp only [wfT]; exact ⟨h4, h3⟩, ?_⟩
        simp only [cellsT]
        rw [List.take_of_length_le (by rw [hl, hwd, hwd2]; exact Nat.le_refl _)] at h5
        exact h5
      · cases h
    · rename_i fs ht
      split at h
      · rename_i l hl
        cases hb : Nat.beq (P.cellsOf t) (widthTs l) <;> simp only [hb, cond_true, cond_false] at h
        · cases h
        cases h
        have hwd := Nat.eq_of_beq_eq_true hb
        obtain ⟨xs, m, rfl, _, hlen, hxl, hx⟩ := DataW.trod_struct ht hd
        have := shFs_reads (w := w) (cs := cs) hl fun f hf s' hs' => by
          obtain ⟨i, hi⟩ := List.getElem?_of_mem hf
          have hi' : fs[i]? = some f := by simpa using hi
          have h1 := hx i f hi'
          have h2 : i < xs.length := by rw [hxl]; exact (Array.getElem?_eq_some_iff.1 hi').1
          rw [List.getElem?_eq_getElem h2] at h1
          exact reads_of_trod k _ _ _ _ _ hs' h1
        obtain ⟨y, h1, h2⟩ := this
        refine ⟨y, by simp only [wfT]; exact h1, ?_⟩
        simp only [cellsT]
        rw [List.drop_zero, List.take_of_length_le (by omega)] at h2
        exact h2
      · cases h
    · cases h
end
end Go.Eng

namespace Go.Eng
open Go Go.ChangeShapes Go.WideShapes Go.RowKit

variable [Globs]
def argT : (s : Sh) → Ty s → AV
  | .b, x => .bool x
  | .i k, x => .int k x
  | .str, x => .str x
  | .sl e, l => .dslice (List.flatMap (cellsT e) l) (List.length l) none
  | .ar n e, l => .agg (cellsT (.ar n e) l)
  | .ag l, x => .agg (cellsT (.ag l) x)
def argTs : (l : List Sh) → Tys l → List AV
  | [], _ => []
  | s :: r, x => argT s x.1 :: argTs r x.2
def shAll (P : Program) : List TypeId → Option (List Sh)
  | [] => some []
  | t :: r => match shOf P 20 t with
    | some s => match shAll P r with
      | some l => some (s :: l)
      | none => none
    | none => none

section
variable {H : Type} {enc : TypeId × Value → H} {P : Program} {w : World} {sp : Nat → Bool} {held : Bool}
theorem plain_of_ok {r : Reach} {base : Nat} {t : TypeId} {v : Value} (h : Cell.okWide P w r base t v) : plainAt v := by
  rintro a len cap rfl
  unfold Cell.okWide at h
  split at h <;> first | (rename_i h2; cases h2; done) | (rename_i h1 h2; cases h2; done) | skip
  unfold Cell.ok at h
  split at h <;> first | exact h.elim | (rename_i h1 h2; cases h2; done) | skip
  · rename_i h1 h2
    cases h2
    exact h.2.2.2.1
theorem row_plain {r : Reach} {base : Nat} {t : TypeId} {cs : Array Value} (h : Row.okWide P w r base t cs) : ∀ v ∈ cs.toList, plainAt v := by
  obtain ⟨ts, _, _, hc⟩ := h
  intro v hv
  obtain ⟨i, hi⟩ := List.getElem?_of_mem hv
  obtain ⟨u, _, hok⟩ := hc i v (by simpa using hi)
  exact plain_of_ok hok
/-- A value of one cell. -/
theorem one_of_ok {r : Reach} {base : Nat} {t : TypeId} {v : Value} (h : Value.okWide P w r base t v) (hs : ∀ fs, P.underlying t ≠ some (.struct fs)) (ha : ∀ n e, P.underlying t ≠ some (.array n e)) : v.cells = #[v] ∧ plainAt v := by
  have hc : Cell.okWide P w r base t v := by
    unfold Value.okWide at h
    split at h
    · rename_i fs hf; exact absurd hf (hs fs)
    · rename_i n e hf; exact absurd hf (ha n e)
    · exact h
  refine ⟨?_, plain_of_ok hc⟩
  cases v with
  | agg cs =>
    unfold Cell.okWide at hc
    split at hc <;> first | (rename_i h1 h2; cases h2; done) | skip
    unfold Cell.ok at hc
    split at hc <;> first | exact hc.elim | (rename_i h1 h2; cases h2; done)
  | _ => rfl
theorem agg_of_ok {r : Reach} {base : Nat} {t : TypeId} {v : Value} (h : Value.okWide P w r base t v) (hs : (∃ fs, P.underlying t = some (.struct fs)) ∨ ∃ n e, P.underlying t = some (.array n e)) : ∃ cs, v = .agg cs ∧ ∀ u ∈ cs.toList, plainAt u := by
  unfold Value.okWide at h
  split at h
  · obtain ⟨cs, rfl, _, hr⟩ := h; exact ⟨cs, rfl, row_plain hr⟩
  · obtain ⟨cs, rfl, _, hr⟩ := h; exact ⟨cs, rfl, row_plain hr⟩
  · rename_i h1 h2
    rcases hs with ⟨fs, hf⟩ | ⟨n, e, hf⟩
    · exact absurd hf (h1 fs)
    · exact absurd hf (h2 n e)
/-- What a type's shape says of the type. -/
def aggFact (P : Program) (t : TypeId) : Sh → Prop
  | .ar _ _ => ∃ n e, P.underlying t = some (.array n e)
  | .ag _ => ∃ fs, P.underlying t = some (.struct fs)
  | _ => (∀ fs, P.underlying t ≠ some (.struct fs)) ∧ ∀ n e, P.underlying t ≠ some (.array n e)
theorem shOf_agg {k : Nat} {t : TypeId} {s : Sh} (h : shOf P k t = some s) : aggFact P t s := by
  cases k with
  | zero => simp [shOf] at h
  | succ k =>
    simp only [shOf] at h
    split at h
    · rename_i ht; cases h; simp [aggFact, ht]
    · rename_i ht; cases h; simp [aggFact, ht]
    · rename_i ht; cases h; simp [aggFact, ht]
    · rename_i e ht
      split at h
      · rename_i s' hs
        cases hb : (Nat.beq (P.cellsOf e) (widthT s') && Nat.blt 0 (widthT s')) <;> simp only [hb, cond_true, cond_false] at h
        · cases h
        · cases h; simp [aggFact, ht]
      · cases h
    · rename_i m e ht
      split at h
      · rename_i s' hs
        cases hb : (Nat.beq (P.cellsOf e) (widthT s') && Nat.beq (P.cellsOf t) (m * widthT s')) <;> simp only [hb, cond_true, cond_false] at h
        · cases h
        · cases h; exact ⟨_, _, ht⟩
      · cases h
    · rename_i fs ht
      split at h
      · rename_i l hl
        cases hb : Nat.beq (P.cellsOf t) (widthTs l) <;> simp only [hb, cond_true, cond_false] at h
        · cases h
        · cases h; exact ⟨_, ht⟩
      · cases h
    · cases h
theorem arg_reads {r : Reach} {base : Nat} {t : TypeId} {s : Sh} {v : Value} {d : DataW H} {ps : List MemPlace} (hs : shOf P 20 t = some s) (hv : Value.okWide P w r base t v) (hd : DataW.Trod enc P w 0 sp held t v d ps) :
    ∃ x : Ty s, wfT s x ∧ relV (Mw w) (argT s x) Pos.none v := by
  obtain ⟨n, hn⟩ := hd
  have hg := shOf_agg hs
  cases s with
  | ar m e =>
    obtain ⟨cs, rfl, hp⟩ := agg_of_ok hv (.inr hg)
    obtain ⟨x, h1, h2⟩ := reads_of_trod 20 _ _ _ _ _ hs hn
    exact ⟨x, h1, by simp only [argT, relV]; exact ⟨cs, rfl, h2⟩⟩
  | ag l =>
    obtain ⟨cs, rfl, hp⟩ := agg_of_ok hv (.inl hg)
    obtain ⟨x, h1, h2⟩ := reads_of_trod 20 _ _ _ _ _ hs hn
    exact ⟨x, h1, by simp only [argT, relV]; exact ⟨cs, rfl, h2⟩⟩
  | _ =>
    obtain ⟨h1, h2⟩ := one_of_ok hv hg.1 hg.2
    rw [h1] at hn
    obtain ⟨x, h3, h4⟩ := reads_of_trod 20 _ _ _ _ _ hs hn
    refine ⟨x, h3, ?_⟩
    simp only [cellsT, relL] at h4
    obtain ⟨u, r, h5, h6, rfl⟩ := h4
    simp at h5; subst h5
    simpa only [argT] using h6
theorem args_read {r : Reach} {base : Nat} : ∀ {ts : List TypeId} {l : List Sh} {vs : List Value} {ds : List (DataW H)} {ps : List MemPlace}, shAll P ts = some l → (∀ (j : Nat) t v, ts[j]? = some t → vs[j]? = some v → Value.okWide P w r base t v) →
    DataW.TrodAll enc P w 0 sp held ts vs ds ps → ∃ x : Tys l, wfTs l x ∧ relL (Mw w) (argTs l x) Pos.none vs
  | [], l, vs, ds, ps, h, _, hd => by
    simp only [shAll] at h; cases h
    obtain ⟨rfl, rfl, rfl⟩ := trodAll_nil hd
    exact ⟨(), by simp only [wfTs], by simp [argTs, relL]⟩
  | t :: ts, l, vs, ds, ps, h, hv, hd => by
    simp only [shAll] at h
    split at h
    · rename_i s hs
      split at h
      · rename_i l' hl; cases h
        obtain ⟨v, vs', d, ds', p, q, rfl, rfl, rfl, h1, h2⟩ := trodAll_cons hd
        obtain ⟨x, h3, h4⟩ := arg_reads hs (hv 0 t v rfl rfl) h1
        obtain ⟨y, h5, h6⟩ := args_read hl (fun j t' v' hj hj' => hv (j + 1) t' v' (by simpa using hj) (by simpa using hj')) h2
        exact ⟨(x, y), by simp only [wfTs]; exact ⟨h3, h5⟩, by simp only [argTs, relL]; exact ⟨v, vs', rfl, h4, h6⟩⟩
      · cases h
    · cases h
theorem Mw_rel (hg : GlobM (Mw w)) : Rel (Mw w) Pos.none Heap.nil w :=
  ⟨hg, fun _ _ => rfl, fun _ _ => rfl, fun k cs h => by simp [Heap.get, Heap.nil, bget] at h, fun k cs h => by simp [Heap.get, Heap.nil, bget] at h, fun j k l c h => by simp [Heap.get, Heap.nil, bget] at h, fun j st id fr h => by simp [Heap.get, Heap.nil, bget] at h, fun i j b s t h => by simp [Heap.get, Heap.nil, bget] at h, fun _ _ _ h => h, fun k b s h => by simp [Heap.get, Heap.nil, bget] at h⟩
/-- The arguments' types, as the reading behind the call wants them. -/
def plainTs (P : Program) (ts : List TypeId) : Bool := ts.all fun t => P.readableRec t && decide (t < P.types.size)
theorem trodAll_stays (hl : laidOutB P = true) {W W' : World} {sp' : Nat → Bool} : ∀ {ts : List TypeId} {vs : List Value} {ds : List (DataW H)} {ps : List MemPlace}, plainTs P ts = true → DataW.TrodAll enc P W 0 (fun _ => true) true ts vs ds ps →
    (∀ p ∈ ps, W.sameAt W' p) → (∀ p ∈ ps, sp' p.block = true) → DataW.TrodAll enc P W' 0 sp' true ts vs ds ps
  | [], _, _, _, _, h, _, _ => by obtain ⟨rfl, rfl, rfl⟩ := trodAll_nil h; exact trodAll_mk0
  | t :: ts, vs, ds, ps, ht, h, hs, hb => by
    obtain ⟨v, vs', d, ds', p, q, rfl, rfl, rfl, h1, h2⟩ := trodAll_cons h
    simp only [plainTs, List.all_cons, Bool.and_eq_true, decide_eq_true_eq] at ht
    refine trodAll_cons_mk (WideElems.Trod_stays hl ht.1.1 ht.1.2 h1 (fun p hp => hs p (by simp [hp])) (fun p hp => hb p (by simp [hp]))) (trodAll_stays hl (by simpa [plainTs] using ht.2) h2 (fun p hp => hs p (by simp [hp])) (fun p hp => hb p (by simp [hp])))
/-- **A CONTRACT OF THE ENGINE GIVES WHAT THE STATEMENT ASKS OF EACH CALL.** -/
theorem law_contract {f : FuncId} {fn : Func} {s : ChangeSpec} {l : List Sh} {tb : TypeId} (hsh : shAll P fn.params.toList = some l) (hl : laidOutB P = true) (hts : plainTs P fn.params.toList = true) (hvars : s.vars = []) (hres : fn.resultTypes = #[tb]) (htb : P.underlying tb = some .bool)
    (hfn : ∀ ds : List (DataW H), ds.length = fn.params.toList.length → s.fn H ds = { results := [.lit (.bool true)], args := ds })
    (hcall : ∀ x : Tys l, wfTs l x → CallA P f (argTs l x) Heap.nil fun v H' => v = .bool true ∧ H' = Heap.nil)
    (W : World) (base : Nat) (args : Array Value) (ds gs : List (DataW H)) (before : List MemPlace)
    (hval : ∀ (j : Nat) t v, fn.params[j]? = some t → args[j]? = some v → Value.okWide P W .any base t v)
    (hW : DataW.Whole enc P fn.params.toList s.vars false W args.toList ds gs before) (hg : GlobM (Mw W)) :
    Calls P f args W fun e W' => ∃ v, e = .returned v ∧ s.post enc P fn false true false false W args v W' := by
  have hW' := hW
  obtain ⟨p, q, hA, hV, rfl, hz, _⟩ := hW
  rw [hvars] at hV
  obtain ⟨rfl, rfl⟩ := trodVars_none hV
  obtain ⟨x, hx, hrel⟩ := args_read hsh (fun j t v hj hj' => hval j t v (by simpa using hj) (by simpa using hj')) hA
  have hlt := hA.lt
  refine ((hcall x hx).run (Mw W) Pos.none W args (Mw_rel hg) hrel).mono ?_
  rintro e W' ⟨v, M', μ', H', c, rfl, R', hv, G, rfl, rfl⟩
  have hv := rel_bool hv
  subst hv
  have hB : Below W.heap.size W W' := ⟨G.grow.keep.os, G.grow.keep.tape, G.grow.keep.output, G.grow.keep.size, fun k hk => G.grow.keep.block k hk own_nil⟩
  have hlen : ds.length = fn.params.toList.length := by
    have : ∀ {ts : List TypeId} {vs : List Value} {ds : List (DataW H)} {ps : List MemPlace}, DataW.TrodAll enc P W 0 (fun _ => true) true ts vs ds ps → ds.length = ts.length := by
      intro ts
      induction ts with
      | nil => intro vs ds ps h; obtain ⟨_, rfl, _⟩ := trodAll_nil h; rfl
      | cons t ts ih => intro vs ds ps h; obtain ⟨v, vs', d, ds', p, q, rfl, rfl, rfl, _, h2⟩ := trodAll_cons h; simp [ih h2]
    exact this hA
  refine ⟨_, rfl, ds, [], p ++ [], [], p, [], hW', ?_, ?_, ?_, ?_, fun h => by cases h⟩
  · rw [List.append_nil, hfn ds hlen, hres]
    exact trodAll_cons_mk (shut_bool htb true) trodAll_mk0
  · rw [List.append_nil, hfn ds hlen]
    exact trodAll_stays hl hts hA (fun p hp => hB.same (hlt p hp)) (fun p hp => by simpa using hlt p hp)
  · rw [List.append_nil, hfn ds hlen, hvars]
    rfl
  · exact hB.frame _
end
end Go.Eng

namespace Go.Eng
open Go

variable [Globs]
/-! ### A run of closed text, by computing -/
inductive BT (α : Type) where
  | nil
  | node (v : Option α) (l r : BT α)
namespace BT
variable {α : Type}
def get : BT α → Nat → Option α
  | nil, _ => none
  | node v l r, n => match n with
    | 0 => v
    | n + 1 => bif Nat.beq (Nat.mod n 2) 0 then l.get (Nat.div n 2) else r.get (Nat.div n 2)
def set (v : α) : Nat → BT α → Nat → Option (BT α)
  | 0, _, _ => none
  | d + 1, nil, n => match n with
    | 0 => some (node (some v) nil nil)
    | n + 1 => bif Nat.beq (Nat.mod n 2) 0 then (match set v d nil (Nat.div n 2) with
      | some l => some (node none l nil)
      | none => none) else (match set v d nil (Nat.div n 2) with
      | some r => some (node none nil r)
      | none => none)
  | d + 1, node u l r, n => match n with
    | 0 => some (node (some v) l r)
    | n + 1 => bif Nat.beq (Nat.mod n 2) 0 then (match set v d l (Nat.div n 2) with
      | some l => some (node u l r)
      | none => none) else (match set v d r (Nat.div n 2) with
      | some r => some (node u l r)
      | none => none)
theorem par {n m : Nat} (h : Nat.mod n 2 = Nat.mod m 2) (k : Nat.div n 2 = Nat.div m 2) : n = m := by
  have h : n % 2 = m % 2 := h
  have k : n / 2 = m / 2 := k
  omega
theorem get_set (v : α) : ∀ {d : Nat} {t t' : BT α} {n : Nat}, set v d t n = some t' → ∀ m, t'.get m = if n = m then some v else t.get m
  | 0, _, _, _, h, _ => by simp [set] at h
  | d + 1, nil, t', n, h, m => by
    cases n with
    | zero =>
      simp only [set, Option.some.injEq] at h; subst h
      cases m with
      | zero => simp [get]
      | succ m => simp [get]
    | succ n =>
      simp only [set] at h
      cases hb : Nat.beq (Nat.mod n 2) 0 <;> simp only [hb, cond_true, cond_false] at h
      all_goals
        split at h
        · rename_i s hs
          simp only [Option.some.injEq] at h; subst h
          have ih := get_set v hs
          cases m with
          | zero => simp [get]
          | succ m =>
            simp only [get, Nat.add_right_cancel_iff]
            have h2 : Nat.mod n 2 < 2 := Nat.mod_lt _ (by decide)
            have h3 : Nat.mod m 2 < 2 := Nat.mod_lt _ (by decide)
            cases hc : Nat.beq (Nat.mod m 2) 0 <;> simp only [cond_true, cond_false]
            all_goals first
              | (rw [ih]
                 by_cases e : Nat.div n 2 = Nat.div m 2
                 · rw [if_pos e, if_pos]
                   refine par ?_ e
                   cases hn : Nat.mod n 2 with
                   | zero => cases hm : Nat.mod m 2 with
                     | zero => rfl
                     | succ y => rw [hn] at hb; rw [hm] at hc; simp at hb hc
                   | succ x => cases hm : Nat.mod m 2 with
                     | zero => rw [hn] at hb; rw [hm] at hc; simp at hb hc
                     | succ y => omega
                 · rw [if_neg e, if_neg (fun h => e (by rw [h]))]; try rfl)
              | (rw [if_neg]; rintro rfl; rw [hb] at hc; cases hc)
              | (rw [if_neg]; · (try rfl)
                 rintro rfl; rw [hb] at hc; cases hc)
        · cases h
  | d + 1, node u l r, t', n, h, m => by
    cases n with
    | zero =>
      simp only [set, Option.some.injEq] at h; subst h
      cases m with
      | zero => simp [get]
      | succ m => simp [get]
    | succ n =>
      simp only [set] at h
      cases hb : Nat.beq (Nat.mod n 2) 0 <;> simp only [hb, cond_true, cond_false] at h
      all_goals
        split at h
        · rename_i s hs
          simp only [Option.some.injEq] at h; subst h
          have ih := get_set v hs
          cases m with
          | zero => simp [get]
          | succ m =>
            simp only [get, Nat.add_right_cancel_iff]
            have h2 : Nat.mod n 2 < 2 := Nat.mod_lt _ (by decide)
            have h3 : Nat.mod m 2 < 2 := Nat.mod_lt _ (by decide)
            cases hc : Nat.beq (Nat.mod m 2) 0 <;> simp only [cond_true, cond_false]
            all_goals first
              | (rw [ih]
                 by_cases e : Nat.div n 2 = Nat.div m 2
                 · rw [if_pos e, if_pos]
                   refine par ?_ e
                   cases hn : Nat.mod n 2 with
                   | zero => cases hm : Nat.mod m 2 with
                     | zero => rfl
                     | succ y => rw [hn] at hb; rw [hm] at hc; simp at hb hc
                   | succ x => cases hm : Nat.mod m 2 with
                     | zero => rw [hn] at hb; rw [hm] at hc; simp at hb hc
                     | succ y => omega
                 · rw [if_neg e, if_neg (fun h => e (by rw [h]))]; try rfl)
              | (rw [if_neg]; rintro rfl; rw [hb] at hc; cases hc)
              | (rw [if_neg]; · (try rfl)
                 rintro rfl; rw [hb] at hc; cases hc)
        · cases h
end BT

/-! #### Values, brought to literals -/
section
variable {β : Type}
def forceN (m : Nat) (K : Nat → Option β) : Option β := match m with
  | 0 => K 0
  | n + 1 => K (n + 1)
theorem forceN_eq (m : Nat) (K : Nat → Option β) : forceN m K = K m := by cases m <;> rfl
def forceI (n : Int) (K : Int → Option β) : Option β := match n with
  | .ofNat m => forceN m fun m => K (.ofNat m)
  | .negSucc m => forceN m fun m => K (.negSucc m)
theorem forceI_eq (m : Int) (K : Int → Option β) : forceI m K = K m := by cases m <;> simp [forceI, forceN_eq]
def forceB (b : Bool) (K : Bool → Option β) : Option β := match b with
  | true => K true
  | false => K false
theorem forceB_eq (m : Bool) (K : Bool → Option β) : forceB m K = K m := by cases m <;> rfl
def fvE (v : AV) (K : AV → Option β) : Option β := match v with
  | .bool b => forceB b fun b => K (.bool b)
  | .int k n => forceI n fun n => K (.int k n)
  | .ptr k o => forceN k fun k => forceN o fun o => K (.ptr k o)
  | .slice k o l c e => forceN k fun k => forceN o fun o => forceN l fun l => K (.slice k o l c e)
  | .yld k => forceN k fun k => K (.yld k)
  | .dslice cs l c => forceN l fun l => K (.dslice cs l c)
  | v => K v
theorem fvE_eq (v : AV) (K : AV → Option β) : fvE v K = K v := by cases v <;> simp [fvE, forceN_eq, forceI_eq, forceB_eq]
end

/-! #### Operations -/
def binIE (op : BinOp) (a b : Int) : Option AV := match op with
  | .add => if (-9223372036854775808 ≤ a + b ∧ a + b ≤ 9223372036854775807) then some (.int .i64 (a + b)) else none
  | .sub => if (-9223372036854775808 ≤ a - b ∧ a - b ≤ 9223372036854775807) then some (.int .i64 (a - b)) else none
  | .mul => if (-9223372036854775808 ≤ a * b ∧ a * b ≤ 9223372036854775807) then some (.int .i64 (a * b)) else none
  | .quo => if (0 ≤ a ∧ a ≤ 9223372036854775807 ∧ 0 < b) then some (.int .i64 (a / b)) else none
  | .rem => if (0 ≤ a ∧ 0 < b) then some (.int .i64 (a % b)) else none
  | .lss => some (.bool (decide (a < b)))
  | .leq => some (.bool (decide (a ≤ b)))
  | .gtr => some (.bool (decide (b < a)))
  | .geq => some (.bool (decide (b ≤ a)))
  | .eql => some (.bool (decide (a = b)))
  | .neq => some (.bool (!decide (a = b)))
  | _ => none
theorem binIE_run {op : BinOp} {a b : Int} {v : AV} {K : AV → Prop} (h : binIE op a b = some v) (hk : K v) : binI op a b K := by
  unfold binIE at h; unfold binI
  cases op <;> simp only at h ⊢ <;> first
    | (cases h; done)
    | (split at h <;> first | (cases h; done) | (rename_i hp; cases h; exact ⟨hp, hk⟩))
    | (cases h; exact hk)
def binWE (op : BinOp) (k : IntKind) (a b : Int) : Option AV := match op with
  | .add => some (.int k (k.wrap (a + b)))
  | .sub => some (.int k (k.wrap (a - b)))
  | .mul => some (.int k (k.wrap (a * b)))
  | .quo => if b ≠ 0 then some (.int k (k.wrap (a.tdiv b))) else none
  | .rem => if b ≠ 0 then some (.int k (a.tmod b)) else none
  | .and => some (.int k (k.wrap (BitVec.ofInt k.bits a &&& BitVec.ofInt k.bits b).toNat))
  | .or => some (.int k (k.wrap (BitVec.ofInt k.bits a ||| BitVec.ofInt k.bits b).toNat))
  | .xor => some (.int k (k.wrap (BitVec.ofInt k.bits a ^^^ BitVec.ofInt k.bits b).toNat))
  | .andNot => some (.int k (k.wrap (BitVec.ofInt k.bits a &&& ~~~(BitVec.ofInt k.bits b)).toNat))
  | .lss => some (.bool (decide (a < b)))
  | .leq => some (.bool (decide (a ≤ b)))
  | .gtr => some (.bool (decide (b < a)))
  | .geq => some (.bool (decide (b ≤ a)))
  | .eql => some (.bool (decide (a = b)))
  | .neq => some (.bool (!decide (a = b)))
  | _ => none
theorem binWE_run {op : BinOp} {k : IntKind} {a b : Int} {v : AV} {K : AV → Prop} (h : binWE op k a b = some v) (hk : K v) : binW op k a b K := by
  unfold binWE at h; unfold binW
  cases op <;> simp only at h ⊢ <;> first
    | (cases h; done)
    | (split at h <;> first | (cases h; done) | (rename_i hp; cases h; exact ⟨hp, hk⟩))
    | (cases h; exact hk)

def mapE (f : AX → AV) : List AX → List AV
  | [] => []
  | x :: r => f x :: mapE f r
theorem mapE_eq (f : AX → AV) : ∀ l, mapE f l = l.map f
  | [] => rfl
  | _ :: r => by simp [mapE, mapE_eq f r]
def POp.e (ev : AX → AV) : POp → Option AV
  | .mov x => some (ev x)
  | .pick c a b => match ev c with
    | .bool t => match t with
      | true => some (ev a)
      | false => some (ev b)
    | _ => none
  | .bin op x y => match ev x, ev y with
    | .int .i64 a, .int .i64 b => binIE op a b
    | .str a, .str b => match op with
      | .eql => some (.bool (decide (a = b)))
      | .neq => some (.bool (!decide (a = b)))
      | _ => none
    | _, _ => none
  | .beq neg x y => match ev x, ev y with
    | .bool a, .bool b => some (.bool (if neg then !(a == b) else a == b))
    | _, _ => none
  | .binw op x y => match ev x, ev y with
    | .int k a, .int k' b => match op with
      | .shl => if 0 ≤ b then some (.int k (k.wrap (a * 2 ^ min b.toNat k.bits))) else none
      | .shr => if 0 ≤ b then some (.int k (a.fdiv (2 ^ min b.toNat k.bits))) else none
      | op => if k = k' then binWE op k a b else none
    | _, _ => none
  | .un op x => match op, ev x with
    | .not, .bool b => some (.bool (!b))
    | .neg, .int .i64 n => if (-9223372036854775807 ≤ n ∧ n ≤ 9223372036854775807) then some (.int .i64 (-n)) else none
    | .xor, .int k n => some (.int k (k.wrap (BitVec.ofInt k.bits (if k.signed then -1 else k.max) ^^^ BitVec.ofInt k.bits n).toNat))
    | _, _ => none
  | .conv k x => match ev x with
    | .int _ n => if (k.min ≤ n ∧ n ≤ k.max) then some (.int k n) else none
    | _ => none
  | .convw k x => match ev x with
    | .int _ n => some (.int k (k.wrap n))
    | _ => none
  | .fieldA off x => match ev x with
    | .dptr cs => some (.dptr (cs.drop off))
    | .ptr k o => some (.ptr k (o + off))
    | _ => none
  | .idxA e arr x i => match ev i with
    | .int _ i => match arr, ev x with
      | some n, .dptr cs => if (0 ≤ i ∧ i < n) then some (.dptr (cs.drop (i.toNat * e))) else none
      | some n, .ptr k o => if (0 ≤ i ∧ i < n) then some (.ptr k (o + i.toNat * e)) else none
      | none, .dslice cs n _ => if (0 ≤ i ∧ i < n) then some (.dptr (cs.drop (i.toNat * e))) else none
      | none, .slice k o n _ _ => if (0 ≤ i ∧ i < n) then some (.ptr k (o + i.toNat * e)) else none
      | _, _ => none
    | _ => none
  | .len str x => match str, ev x with
    | false, .dslice _ n _ => some (.int .i64 n)
    | false, .slice _ _ n _ _ => some (.int .i64 n)
    | false, .nils => some (.int .i64 0)
    | true, .str s => some (.int .i64 s.size)
    | _, _ => none
  | .extract i x => match ev x with
    | .tuple cs => cs[i]?
    | _ => none
  | .mkfn f caps => some (.func f (mapE ev caps))
  | .nilchk x => match ev x with
    | .ptr k o => some (.ptr k o)
    | .dptr cs => some (.dptr cs)
    | .func f cs => some (.func f cs)
    | _ => none
  | .mm mx x y => match ev x, ev y with
    | .int k a, .int _ b => some (.int k (if mx then (if b > a then b else a) else (if b < a then b else a)))
    | _, _ => none
  | .other => some .any
  | .panic => none
theorem POp.e_run {ev : AX → AV} {K : AV → Prop} {o : POp} {v : AV} (h : o.e ev = some v) (hk : K v) : o.run ev K := by
  cases o <;> simp only [POp.e, POp.run, fv_eq, fvs_eq] at h ⊢
  case mov x => cases h; exact hk
  case pick c a b =>
    generalize ev c = vc at h ⊢
    cases vc <;> simp only at h ⊢
    all_goals first | (cases h; done) | skip
    rename_i t
    cases t <;> simp only at h <;> cases h
    · exact Branch.ofF rfl hk
    · exact Branch.ofT rfl hk
  case bin op x y =>
    generalize ev x = vx at h ⊢
    generalize ev y = vy at h ⊢
    split at h
    · exact binIE_run h hk
    · cases op <;> simp only at h ⊢ <;> first | (cases h; exact hk) | cases h
    · cases h
  case beq neg x y =>
    generalize ev x = vx at h ⊢
    generalize ev y = vy at h ⊢
    split at h
    · cases h; exact hk
    · cases h
  case binw op x y =>
    generalize ev x = vx at h ⊢
    generalize ev y = vy at h ⊢
    split at h
    · cases op <;> simp only at h ⊢
      all_goals (split at h <;> first | (cases h; done) | skip)
      all_goals first | (refine ⟨‹_›, ?_⟩; exact binWE_run h hk) | (cases h; exact ⟨‹_›, hk⟩)
    · cases h
  case un op x =>
    generalize ev x = vx at h ⊢
    split at h
    · cases h; exact hk
    · split at h
      · cases h; exact ⟨‹_›, hk⟩
      · cases h
    · cases h; exact hk
    · cases h
  case conv k x =>
    generalize ev x = vx at h ⊢
    split at h
    · split at h
      · cases h; exact ⟨‹_›, hk⟩
      · cases h
    · cases h
  case convw k x =>
    generalize ev x = vx at h ⊢
    split at h
    · cases h; exact hk
    · cases h
  case fieldA off x =>
    generalize ev x = vx at h ⊢
    split at h
    · cases h; exact hk
    · cases h; exact hk
    · cases h
  case idxA e arr x i =>
    generalize ev x = vx at h ⊢
    generalize ev i = vi at h ⊢
    split at h
    · split at h
      · split at h
        · cases h; exact ⟨‹_›, hk⟩
        · cases h
      · split at h
        · cases h; exact ⟨‹_›, hk⟩
        · cases h
      · split at h
        · cases h; exact ⟨‹_›, hk⟩
        · cases h
      · split at h
        · cases h; exact ⟨‹_›, hk⟩
        · cases h
      · cases h
    · cases h
  case len str x =>
    generalize ev x = vx at h ⊢
    split at h <;> first | (cases h; exact hk) | cases h
  case extract i x =>
    generalize ev x = vx at h ⊢
    split at h
    · simp only [h]; exact hk
    · cases h
  case mkfn f caps => cases h; rw [mapE_eq] at hk; exact hk
  case nilchk x =>
    generalize ev x = vx at h ⊢
    split at h <;> first | (cases h; exact hk) | cases h
  case mm mx x y =>
    generalize ev x = vx at h ⊢
    generalize ev y = vy at h ⊢
    split at h <;> first | (cases h; exact hk) | cases h
  case other => cases h; exact hk
  case panic => cases h

def takeE : Nat → List AV → Option (List AV)
  | 0, _ => some []
  | n + 1, c :: r => match takeE n r with
    | some l => some (c :: l)
    | none => none
  | _ + 1, [] => none
theorem takeE_run : ∀ {n : Nat} {cs l : List AV} {K : List AV → Prop}, takeE n cs = some l → K l → takeK n cs K
  | 0, _, _, _, h, hk => by simp only [takeE, Option.some.injEq] at h; subst h; exact hk
  | n + 1, c :: r, l, K, h, hk => by
    simp only [takeE] at h
    split at h
    · rename_i l' hl; cases h; simp only [takeK, fv_eq]; exact takeE_run hl hk
    · cases h
  | _ + 1, [], _, _, h, _ => by simp [takeE] at h
def loadE (agg : Bool) (n : Nat) (cs : List AV) : Option AV := match agg with
  | true => match takeE n cs with
    | some l => some (.agg l)
    | none => none
  | false => match cs with
    | c :: _ => some c
    | [] => none
theorem loadE_run {agg : Bool} {n : Nat} {cs : List AV} {v : AV} {K : AV → Prop} (h : loadE agg n cs = some v) (hk : K v) : loadK agg n cs K := by
  unfold loadE at h
  cases agg with
  | true =>
    simp only [loadK] at h ⊢
    split at h
    · rename_i l hl; cases h; exact takeE_run hl hk
    · cases h
  | false =>
    simp only [loadK_false] at h ⊢
    split at h
    · cases h; simp only [fv_eq]; exact hk
    · cases h
def lputE : List AV → Nat → List AV → Option (List AV)
  | cs, 0, [] => some cs
  | _ :: cs, 0, v :: l => bif scal v then (match lputE cs 0 l with
    | some r => some (v :: r)
    | none => none) else none
  | c :: cs, off + 1, l => match lputE cs off l with
    | some r => some (c :: r)
    | none => none
  | [], 0, _ :: _ => none
  | [], _ + 1, _ => none
theorem lputE_run : ∀ {cs : List AV} {off : Nat} {l r : List AV} {K : List AV → Prop}, lputE cs off l = some r → K r → lputK cs off l K
  | [], 0, [], r, K, h, hk => by simp only [lputE, Option.some.injEq] at h; subst h; simpa [lputK] using hk
  | _ :: _, 0, [], r, K, h, hk => by simp only [lputE, Option.some.injEq] at h; subst h; simpa [lputK] using hk
  | _ :: cs, 0, v :: l, r, K, h, hk => by
    simp only [lputE] at h; simp only [lputK]
    cases hv : scal v <;> simp only [hv, cond_true, cond_false] at h ⊢
    · cases h
    · split at h
      · rename_i r' hr; cases h; exact lputE_run hr hk
      · cases h
  | c :: cs, off + 1, l, r, K, h, hk => by
    simp only [lputE] at h; simp only [lputK]
    split at h
    · rename_i r' hr; cases h; exact lputE_run hr hk
    · cases h
  | [], 0, _ :: _, _, _, h, _ => by simp [lputE] at h
  | [], _ + 1, _, _, _, h, _ => by simp [lputE] at h

def eqCellsE : List Sc → List AV → List AV → Option Bool
  | [], [], [] => some true
  | k :: ks, c :: cs, d :: ds => match eqOne k c d with
    | some q => match eqCellsE ks cs ds with
      | some r => some (q && r)
      | none => none
    | none => none
  | _, _, _ => none
theorem eqCellsE_run : ∀ {ks : List Sc} {cs ds : List AV} {r : Bool} {K : Bool → Prop}, eqCellsE ks cs ds = some r → K r → eqCells ks cs ds K
  | [], [], [], r, K, h, hk => by simp only [eqCellsE, Option.some.injEq] at h; subst h; exact hk
  | k :: ks, c :: cs, d :: ds, r, K, h, hk => by
    simp only [eqCellsE] at h; simp only [eqCells]
    split at h
    · rename_i q hq
      split at h
      · rename_i r' hr; cases h; rw [hq]; exact eqCellsE_run hr hk
      · cases h
    · cases h
  | [], [], _ :: _, _, _, h, _ => by simp [eqCellsE] at h
  | [], _ :: _, _, _, _, h, _ => by simp [eqCellsE] at h
  | _ :: _, [], _, _, _, h, _ => by simp [eqCellsE] at h
  | _ :: _, _ :: _, [], _, _, h, _ => by simp [eqCellsE] at h
def buildE (ev : AX → AV) : List (Nat × Nat × AX) → List AV → Option (List AV)
  | [], cs => some cs
  | (off, sz, x) :: r, cs => match cellsOf (ev x) with
    | some l => bif Nat.beq l.length sz then (match lputE cs off l with
      | some cs => buildE ev r cs
      | none => none) else none
    | none => none
theorem buildE_run {ev : AX → AV} : ∀ {ps : List (Nat × Nat × AX)} {cs r : List AV} {K : List AV → Prop}, buildE ev ps cs = some r → K r → buildK ev ps cs K
  | [], _, _, _, h, hk => by simp only [buildE, Option.some.injEq] at h; subst h; exact hk
  | (off, sz, x) :: ps, cs, r, K, h, hk => by
    simp only [buildE] at h; simp only [buildK]
    split at h
    · rename_i l hl
      cases hb : Nat.beq l.length sz <;> simp only [hb, cond_true, cond_false] at h
      · cases h
      · split at h
        · rename_i cs' hcs; simp only [hl, hb, cond_true]; exact lputE_run hcs (buildE_run h hk)
        · cases h
    · cases h
def optE (ev : AX → AV) (d : Int) (x : Option AX) : Option Int := match x with
  | none => some d
  | some x => match ev x with
    | .int _ i => some i
    | _ => none
theorem optE_run {ev : AX → AV} {d i : Int} {x : Option AX} {K : Int → Prop} (h : optE ev d x = some i) (hk : K i) : optI ev d x K := by
  unfold optE at h; unfold optI
  split at h
  · cases h; exact hk
  · split at h
    · rename_i hx; cases h; simp only [hx]; exact hk
    · cases h

def VOp.e (ev : AX → AV) : VOp → Option AV
  | .field agg off n x => match ev x with
    | .agg cs => loadE agg n (cs.drop off)
    | _ => none
  | .idx agg e len x i => match ev x, ev i with
    | .agg cs, .int _ i => if (0 ≤ i ∧ i < len) then loadE agg e (cs.drop (i.toNat * e)) else none
    | _, _ => none
  | .sidx x i => match ev x, ev i with
    | .str s, .int _ i => if (0 ≤ i ∧ i < s.size) then some (.int .u8 ((s.data.getD i.toNat 0).toNat : Nat)) else none
    | _, _ => none
  | .build zero parts => match buildE ev parts zero with
    | some cs => some (.agg cs)
    | none => none
  | .eqa neg ks x y => match ev x, ev y with
    | .agg cs, .agg ds => match eqCellsE ks cs ds with
      | some r => some (.bool (if neg then !r else r))
      | none => none
    | _, _ => none
  | .isnil p neg x y => match p, ev x, ev y with
    | false, .nils, .nils => some (.bool (!neg))
    | false, .slice _ _ _ _ _, .nils => some (.bool neg)
    | false, .dslice _ n _, .nils => if 0 < n then some (.bool neg) else none
    | true, .nilp, .nilp => some (.bool (!neg))
    | true, .ptr _ _, .nilp => some (.bool neg)
    | true, .dptr _, .nilp => some (.bool neg)
    | _, _, _ => none
  | .sub e x lo hi mx => match ev x with
    | .dslice cs len cap => match optE ev 0 lo, optE ev len hi with
      | some l, some h => match mx with
        | none => if (0 ≤ l ∧ l ≤ h ∧ h ≤ len) then some (.dslice ((cs.drop (l.toNat * e)).take ((h - l).toNat * e)) (h - l).toNat (cap.map (· - l.toNat))) else none
        | some mx => match ev mx with
          | .int _ m => if (0 ≤ l ∧ l ≤ h ∧ h ≤ m ∧ m ≤ len) then some (.dslice ((cs.drop (l.toNat * e)).take ((h - l).toNat * e)) (h - l).toNat (some (m - l).toNat)) else none
          | _ => none
      | _, _ => none
    | .nils => match optE ev 0 lo, optE ev 0 hi with
      | some l, some h => match mx with
        | none => if (l = 0 ∧ h = 0) then some .nils else none
        | some _ => none
      | _, _ => none
    | .slice k off len cap e' => match optE ev 0 lo, optE ev len hi with
      | some l, some h => match mx with
        | none => if e = e' then (if (0 ≤ l ∧ l < h ∧ h ≤ len) then some (.slice k (off + l.toNat * e) (h - l).toNat (cap.map (· - l.toNat)) e) else if (0 ≤ l ∧ l = h ∧ h ≤ len) then some (.dslice [] 0 none) else none) else none
        | some _ => none
      | _, _ => none
    | _ => none
  | .ssub x lo hi => match ev x with
    | .str s => match optE ev 0 lo, optE ev s.size hi with
      | some l, some h => if (0 ≤ l ∧ l ≤ h ∧ h ≤ s.size) then some (.str (s.extract l.toNat h.toNat)) else none
      | _, _ => none
    | _ => none
  | .s2a n x => match ev x with
    | .dslice cs len _ => if (0 < n ∧ n ≤ len) then some (.dptr cs) else none
    | .slice k off len _ _ => if n ≤ len then some (.ptr k off) else none
    | _ => none
theorem VOp.e_run {ev : AX → AV} {K : AV → Prop} {o : VOp} {v : AV} (h : o.e ev = some v) (hk : K v) : o.run ev K := by
  cases o <;> simp only [VOp.e, VOp.run] at h ⊢
  case field agg off n x =>
    generalize hevx : ev x = vx at h ⊢
    split at h
    · exact loadE_run h hk
    · cases h
  case idx agg e len x i =>
    generalize hevx : ev x = vx at h ⊢
    generalize hevi : ev i = vi at h ⊢
    split at h
    · split at h
      · exact ⟨‹_›, loadE_run h hk⟩
      · cases h
    · cases h
  case sidx x i =>
    generalize hevx : ev x = vx at h ⊢
    generalize hevi : ev i = vi at h ⊢
    split at h
    · split at h
      · cases h; exact ⟨‹_›, hk⟩
      · cases h
    · cases h
  case build zero parts =>
    split at h
    · rename_i cs hcs; cases h; exact buildE_run hcs hk
    · cases h
  case eqa neg ks x y =>
    generalize hevx : ev x = vx at h ⊢
    generalize hevy : ev y = vy at h ⊢
    split at h
    · split at h
      · rename_i r hr; cases h; exact eqCellsE_run hr hk
      · cases h
    · cases h
  case isnil p neg x y =>
    generalize hevx : ev x = vx at h ⊢
    generalize hevy : ev y = vy at h ⊢
    split at h <;> first | (cases h; exact hk) | (split at h <;> first | (cases h; exact ⟨‹_›, hk⟩) | cases h) | cases h
  case sub e x lo hi mx =>
    generalize hevx : ev x = vx at h ⊢
    split at h
    · split at h
      · rename_i l hh h1 h2
        refine optE_run h1 (optE_run h2 ?_)
        split at h
        · split at h
          · cases h; exact ⟨‹_›, hk⟩
          · cases h
        · split at h
          · rename_i hm
            split at h
            · cases h; simp only [hm]; exact ⟨‹_›, hk⟩
            · cases h
          · cases h
      · cases h
    · split at h
      · rename_i l hh h1 h2
        refine optE_run h1 (optE_run h2 ?_)
        split at h
        · split at h
          · cases h; exact ⟨‹_›, hk⟩
          · cases h
        · cases h
      · cases h
    · split at h
      · rename_i l hh h1 h2
        refine optE_run h1 (optE_run h2 ?_)
        split at h
        · split at h
          · rename_i he
            refine ⟨he, ?_⟩
            split at h
            · cases h; exact .inl ⟨‹_›, hk⟩
            · split at h
              · cases h; exact .inr ⟨‹_›, hk⟩
              · cases h
          · cases h
        · cases h
      · cases h
    · cases h
  case ssub x lo hi =>
    generalize hevx : ev x = vx at h ⊢
    split at h
    · split at h
      · rename_i l hh h1 h2
        refine optE_run h1 (optE_run h2 ?_)
        split at h
        · cases h; exact ⟨‹_›, hk⟩
        · cases h
      · cases h
    · cases h
  case s2a n x =>
    generalize hevx : ev x = vx at h ⊢
    split at h
    · split at h
      · cases h; exact ⟨‹_›, hk⟩
      · cases h
    · split at h
      · cases h; exact ⟨‹_›, hk⟩
      · cases h
    · cases h
end Go.Eng

namespace Go.Eng
open Go

variable [Globs]
/-! #### The heap and the frame of a run -/
structure EH where
  nx : Nat
  bs : BT AB
def EH.get (T : EH) (k : Nat) : AB := match T.bs.get k with
  | some b => b
  | none => .dead
def EH.nil : EH := ⟨0, .nil⟩
def EH.put (T : EH) (k : Nat) (b : AB) : Option EH := bif b.isIt then none else (match BT.set b 40 T.bs k with
  | some bs => some ⟨T.nx, bs⟩
  | none => none)
def EH.push (T : EH) (b : AB) : Option EH := bif b.isIt then none else (match BT.set b 40 T.bs T.nx with
  | some bs => forceN (T.nx + 1) fun n => some ⟨n, bs⟩
  | none => none)
def AB.noit : AB → Prop
  | .iter _ _ _ => False
  | _ => True
theorem isIt_of {b : AB} (h : b.noit) : b.isIt = false := by cases b <;> first | rfl | exact h.elim
theorem noit_of {b : AB} (h : b.isIt = false) : b.noit := by cases b <;> first | trivial | cases h
structure RepH (T : EH) (H : Heap) : Prop where
  nx : H.nx = T.nx
  get : H.get = T.get
  noit : ∀ j, (H.get j).noit
theorem RepH.free {T : EH} {H : Heap} (R : RepH T H) (p n : Nat) : noIter T.get p n = true := noIter_of (fun j k l c e => by have := R.noit j; rw [R.get, e] at this; exact this) n
theorem RepH.nil : RepH EH.nil Heap.nil := ⟨rfl, rfl, fun _ => trivial⟩
theorem RepH.put {T T' : EH} {H : Heap} {k : Nat} {b : AB} (h : T.put k b = some T') (R : RepH T H) : RepH T' (H.set k b) := by
  unfold EH.put at h
  cases hb : b.isIt <;> simp only [hb, cond_true, cond_false, reduceCtorEq] at h
  split at h
  · rename_i bs hbs
    cases h
    refine ⟨R.nx, funext fun j => ?_, fun j => by rw [Heap.get_set]; split; exact noit_of hb; exact R.noit j⟩
    rw [Heap.get_set, R.get]
    simp only [EH.get, BT.get_set b hbs j]
    by_cases e : k = j <;> simp [e]
  · cases h
theorem RepH.push {T T' : EH} {H : Heap} {b : AB} (h : T.push b = some T') (R : RepH T H) : RepH T' (H.push b) := by
  unfold EH.push at h
  cases hb : b.isIt <;> simp only [hb, cond_true, cond_false, reduceCtorEq] at h
  split at h
  · rename_i bs hbs
    rw [forceN_eq] at h; cases h
    refine ⟨by simp [Heap.push, R.nx], funext fun j => ?_, fun j => by rw [Heap.get_push]; split; exact noit_of hb; exact R.noit j⟩
    rw [Heap.get_push, R.get, R.nx]
    simp only [EH.get, BT.get_set b hbs j]
    by_cases e : T.nx = j <;> simp [e]
  · cases h
structure RepF (F : BT AV) (fr : Fr) : Prop where
  get : ∀ t, look fr t = (F.get t).getD .any
def AX.eF (F : BT AV) : AX → AV
  | .t n => match F.get n with
    | some v => v
    | none => .any
  | .c v => v
  | .g n => .dptr (globOf n)
theorem RepF.ev {F : BT AV} {fr : Fr} (R : RepF F fr) : AX.ev fr = AX.eF F := by
  funext x
  cases x with
  | t n => simp only [AX.ev, AX.eF, R.get]; cases F.get n <;> rfl
  | c v => rfl
  | g n => rfl
def putE (F : BT AV) (d : Option Nat) (v : AV) : Option (BT AV) := match d with
  | none => some F
  | some t => fvE v fun v => BT.set v 24 F t
theorem RepF.put {F F' : BT AV} {fr : Fr} {d : Option Nat} {v : AV} (h : putE F d v = some F') (R : RepF F fr) : RepF F' (put fr d v) := by
  cases d with
  | none => simp only [putE, Option.some.injEq] at h; subst h; exact R
  | some t =>
    simp only [putE, fvE_eq] at h
    refine ⟨fun u => ?_⟩
    rw [BT.get_set v h u]
    simp only [Eng.put, look]
    by_cases e : t = u
    · subst e; simp
    · rw [beq_false e, if_neg e]; exact R.get u
theorem RepF.know {F : BT AV} {fr : Fr} {s : Nat} {b : Bool} (R : RepF F fr) (h : look fr s = .bool b) : RepF F ((s, .bool b) :: fr) :=
  ⟨fun u => by
    simp only [look]
    by_cases e : s = u
    · subst e; rw [← R.get, h]; simp
    · rw [beq_false e]; exact R.get u⟩

/-! #### Operations on the heap -/
def HOp.e (ev : AX → AV) (T : EH) : HOp → Option (AV × EH)
  | .load agg n x => match ev x with
    | .dptr cs => match loadE agg n cs with
      | some v => some (v, T)
      | none => none
    | .ptr k off => match T.get k with
      | .cells cs => match loadE agg n (cs.drop off) with
        | some v => some (v, T)
        | none => none
      | _ => none
    | _ => none
  | .alloc zero => match T.push (.cells zero) with
    | some T' => some (.ptr T.nx 0, T')
    | none => none
  | .box x => match cellsOf (ev x) with
    | some l => match T.push (.cells l) with
      | some T' => some (.ptr T.nx 0, T')
      | none => none
    | none => none
  | .store n p x => match ev p with
    | .ptr k off => match T.get k with
      | .cells cs => match cellsOf (ev x) with
        | some l => bif Nat.beq l.length n then (match lputE cs off l with
          | some cs' => match T.put k (.cells cs') with
            | some T' => some (.any, T')
            | none => none
          | none => none) else none
        | none => none
      | _ => none
    | _ => none
theorem HOp.e_run {ev : AX → AV} {T T' : EH} {H : Heap} {o : HOp} {v : AV} (h : o.e ev T = some (v, T')) (R : RepH T H) : ∃ H', RepH T' H' ∧ ∀ K : AV → Heap → Prop, K v H' → o.run ev H K := by
  cases o <;> simp only [HOp.e, HOp.run, R.get, pushK_eq, setK_eq] at h ⊢
  case load agg n x =>
    generalize ev x = vx at h ⊢
    split at h
    · split at h
      · rename_i u hu; cases h; exact ⟨H, R, fun K hk => loadE_run hu hk⟩
      · cases h
    · split at h
      · rename_i cs hcs
        split at h
        · rename_i u hu; cases h; refine ⟨H, R, fun K hk => ?_⟩
          simp only [hcs]; exact loadE_run hu hk
        · cases h
      · cases h
    · cases h
  case alloc zero =>
    split at h
    · rename_i T2 hT; cases h
      exact ⟨_, R.push hT, fun K hk => by rw [R.nx]; exact hk⟩
    · cases h
  case box x =>
    split at h
    · rename_i l hl
      split at h
      · rename_i T2 hT; cases h
        exact ⟨_, R.push hT, fun K hk => by simp only [hl]; rw [R.nx]; exact hk⟩
      · cases h
    · cases h
  case store n p x =>
    generalize ev p = vp at h ⊢
    split at h
    · split at h
      · rename_i cs hcs
        split at h
        · rename_i l hl
          cases hb : Nat.beq l.length n <;> simp only [hb, cond_true, cond_false] at h
          · cases h
          · split at h
            · rename_i cs' hp
              split at h
              · rename_i T2 hT; cases h
                exact ⟨_, R.put hT, fun K hk => by simp only [hcs, hl, hb, cond_true]; exact lputE_run hp hk⟩
              · cases h
            · cases h
        · cases h
      · cases h
    · cases h

def mapE0 (η : Nat → AB) (m : AV) : Option (Option Nat × List (AV × AV)) := match m with
  | .nilm => some (none, [])
  | .map p => match η p with
    | .map es => some (some p, es)
    | _ => none
  | _ => none
theorem mapE0_run {η : Nat → AB} {m : AV} {p : Option Nat} {es : List (AV × AV)} {K : Option Nat → List (AV × AV) → Prop} (h : mapE0 η m = some (p, es)) (hk : K p es) : mapN η m K := by
  unfold mapE0 at h; unfold mapN
  split at h
  · cases h; exact hk
  · split at h
    · rename_i hes; cases h; simp only [hes]; exact hk
    · cases h
  · cases h
def srcE (η : Nat → AB) (e : Nat) (x : AV) : Option (List AV × Nat) := match x with
  | .dslice cs n _ => if n * e ≤ cs.length then some (cs.take (n * e), n) else none
  | .nils => some ([], 0)
  | .slice k off n _ _ => match η k with
    | .cells cs => if off + n * e ≤ cs.length then some ((cs.drop off).take (n * e), n) else none
    | _ => none
  | _ => none
theorem srcE_run {η : Nat → AB} {e n : Nat} {x : AV} {l : List AV} {K : List AV → Nat → Prop} (h : srcE η e x = some (l, n)) (hk : K l n) : srcK η e x K := by
  unfold srcE at h; unfold srcK
  split at h
  · split at h
    · cases h; exact ⟨‹_›, hk⟩
    · cases h
  · cases h; exact hk
  · split at h
    · split at h
      · rename_i hcs _; cases h; simp only [hcs]; exact ⟨‹_›, hk⟩
      · cases h
    · cases h
  · cases h
instance (n bytes : Nat) : Decidable (fits n bytes) := by unfold fits; infer_instance
theorem all_scal {l : List AV} (h : l.all scal = true) : ∀ c ∈ l, scal c = true := by simpa using h
def MOp.e (ev : AX → AV) (T : EH) : MOp → Option (AV × EH)
  | .mk => match T.push (.map []) with
    | some T' => some (.map T.nx, T')
    | none => none
  | .get ok kk zero m k => match mapE0 T.get (ev m) with
    | some (_, es) => bif keyOk kk (ev k) then (match mfind kk (ev k) es with
      | some r => some (mval ok zero r, T)
      | none => none) else none
    | none => none
  | .set kk m k v => match mapE0 T.get (ev m) with
    | some (some p, es) => bif keyOk kk (ev k) && noLoc (ev v) then (fvE (ev v) fun v => match mput kk (ev k) v es with
      | some es' => match T.put p (.map es') with
        | some T' => some (.any, T')
        | none => none
      | none => none) else none
    | _ => none
  | .del kk m k => match mapE0 T.get (ev m) with
    | some (some p, es) => bif keyOk kk (ev k) then (match mdel kk (ev k) es with
      | some es' => match T.put p (.map es') with
        | some T' => some (.tuple [], T')
        | none => none
      | none => none) else none
    | _ => none
  | .len m => match mapE0 T.get (ev m) with
    | some (_, es) => some (.int .i64 es.length, T)
    | none => none
  | .range _ => none
  | .next _ => none
  | .entry _ => none
  | .delw _ _ _ _ => none
  | .copyS d s => match ev d with
    | .slice k off n _ e' => match T.get k with
      | .cells cs => match srcE T.get 1 (strD (ev s)) with
        | some (ds, m) => if e' = 1 then (bif Nat.ble m n then (match lputE cs off ds with
          | some cs' => match T.put k (.cells cs') with
            | some T' => some (.int .i64 m, T')
            | none => none
          | none => none) else (match lputE cs off (ds.take (n * 1)) with
          | some cs' => match T.put k (.cells cs') with
            | some T' => some (.int .i64 n, T')
            | none => none
          | none => none)) else none
        | none => none
      | _ => none
    | _ => none
  | .copy e d s => match ev d with
    | .slice k off n _ e' => match T.get k with
      | .cells cs => match srcE T.get e (ev s) with
        | some (ds, m) => if e' = e then (bif Nat.ble m n then (match lputE cs off ds with
          | some cs' => match T.put k (.cells cs') with
            | some T' => some (.int .i64 m, T')
            | none => none
          | none => none) else (match lputE cs off (ds.take (n * e)) with
          | some cs' => match T.put k (.cells cs') with
            | some T' => some (.int .i64 n, T')
            | none => none
          | none => none)) else none
        | none => none
      | _ => none
    | _ => none
theorem MOp.e_run {ev : AX → AV} {T T' : EH} {H : Heap} {o : MOp} {v : AV} (h : o.e ev T = some (v, T')) (R : RepH T H) : ∃ H', RepH T' H' ∧ ∀ K : AV → Heap → Prop, K v H' → o.run ev H K := by
  cases o <;> simp only [MOp.e, MOp.run, mkMapK_eq, mapK, setK_eq, R.get, fvE_eq, R.free, Bool.and_true] at h ⊢
  case mk =>
    split at h
    · rename_i T2 hT; cases h
      exact ⟨_, R.push hT, fun K hk => by rw [R.nx]; exact hk⟩
    · cases h
  case get ok kk zero m k =>
    split at h
    · rename_i p es hm
      cases hb : keyOk kk (ev k) <;> simp only [hb, cond_true, cond_false] at h
      · cases h
      · split at h
        · rename_i r hr; cases h
          exact ⟨H, R, fun K hk => mapE0_run hm (by simp only [cond_true]; exact ⟨r, hr, hk⟩)⟩
        · cases h
    · cases h
  case set kk m k x =>
    split at h
    · rename_i p es hm
      cases hb : (keyOk kk (ev k) && noLoc (ev x)) <;> simp only [hb, cond_true, cond_false] at h
      · cases h
      · split at h
        · rename_i es' hr
          split at h
          · rename_i T2 hT; cases h
            exact ⟨_, R.put hT, fun K hk => mapE0_run hm (by simp only [cond_true]; exact ⟨es', hr, hk⟩)⟩
          · cases h
        · cases h
    · cases h
  case del kk m k =>
    split at h
    · rename_i p es hm
      cases hb : keyOk kk (ev k) <;> simp only [hb, cond_true, cond_false] at h
      · cases h
      · split at h
        · rename_i es' hr
          split at h
          · rename_i T2 hT; cases h
            exact ⟨_, R.put hT, fun K hk => mapE0_run hm (by simp only [cond_true]; exact ⟨es', hr, hk⟩)⟩
          · cases h
        · cases h
    · cases h
  case range m => cases h
  case next m => cases h
  case entry m => cases h
  case delw _ _ _ _ => cases h
  case copy e d s =>
    generalize ev d = vd at h ⊢
    split at h
    · rename_i k off n cap e'
      split at h
      · rename_i cs hcs
        split at h
        · rename_i ds m hs
          split at h
          · rename_i he
            cases hb : Nat.ble m n <;> simp only [hb, cond_true, cond_false] at h
            · split at h
              · rename_i cs' hl
                split at h
                · rename_i T2 hT; cases h
                  refine ⟨_, R.put hT, fun K hk => ?_⟩
                  simp only [hcs]
                  exact srcE_run hs ⟨he, .ofF (decide_eq_false (fun e => by have := Nat.ble_eq_true_of_le e; rw [this] at hb; cases hb)) (by unfold cpK; exact lputE_run hl (by rw [setK_eq]; exact hk))⟩
                · cases h
              · cases h
            · split at h
              · rename_i cs' hl
                split at h
                · rename_i T2 hT; cases h
                  refine ⟨_, R.put hT, fun K hk => ?_⟩
                  simp only [hcs]
                  exact srcE_run hs ⟨he, .ofT (decide_eq_true (Nat.le_of_ble_eq_true hb)) (by unfold cpK; exact lputE_run hl (by rw [setK_eq]; exact hk))⟩
                · cases h
              · cases h
          · cases h
        · cases h
      · cases h
    · cases h
  case copyS d s =>
    generalize ev d = vd at h ⊢
    split at h
    · rename_i k off n cap e'
      split at h
      · rename_i cs hcs
        split at h
        · rename_i ds m hs
          split at h
          · rename_i he
            cases hb : Nat.ble m n <;> simp only [hb, cond_true, cond_false] at h
            · split at h
              · rename_i cs' hl
                split at h
                · rename_i T2 hT; cases h
                  refine ⟨_, R.put hT, fun K hk => ?_⟩
                  simp only [hcs]
                  exact srcE_run hs ⟨he, .ofF (decide_eq_false (fun e => by have := Nat.ble_eq_true_of_le e; rw [this] at hb; cases hb)) (by unfold cpK; exact lputE_run hl (by rw [setK_eq]; exact hk))⟩
                · cases h
              · cases h
            · split at h
              · rename_i cs' hl
                split at h
                · rename_i T2 hT; cases h
                  refine ⟨_, R.put hT, fun K hk => ?_⟩
                  simp only [hcs]
                  exact srcE_run hs ⟨he, .ofT (decide_eq_true (Nat.le_of_ble_eq_true hb)) (by unfold cpK; exact lputE_run hl (by rw [setK_eq]; exact hk))⟩
                · cases h
              · cases h
          · cases h
        · cases h
      · cases h
    · cases h
  case len m =>
    split at h
    · rename_i p es hm; cases h
      exact ⟨H, R, fun K hk => mapE0_run hm hk⟩
    · cases h

def DOp.e (ev : AX → AV) (η : Nat → AB) : DOp → Option AV
  | .bslice e len zero parts => match buildE ev (parts.map fun x => (x.1, e, x.2)) (rep zero len) with
    | some cs => bif noLocB cs then some (.dslice cs len (some len)) else none
    | none => none
  | .append e bytes s x => match ev s, ev x with
    | .dslice cs len cap, .dslice ds n _ => if cap = some len ∧ len * e ≤ cs.length ∧ n * e ≤ ds.length ∧ fits (len + n) bytes ∧ (ds.take (n * e)).all scal = true then some (.dslice (cs.take (len * e) ++ ds.take (n * e)) (len + n) none) else none
    | .dslice cs len cap, .nils => if cap = some len then some (.dslice cs len none) else none
    | .nils, .dslice ds n _ => if n * e ≤ ds.length ∧ fits n bytes ∧ (ds.take (n * e)).all scal = true then some (.dslice (ds.take (n * e)) n none) else none
    | _, _ => none
  | .asub e n x lo hi => match ev x with
    | .ptr k off => match η k with
      | .cells cs => match optE ev 0 lo, optE ev n hi with
        | some l, some h => if 0 ≤ l ∧ l < n ∧ l ≤ h ∧ h ≤ n ∧ off + n * e ≤ cs.length then some (.slice k (off + l.toNat * e) (h - l).toNat (some (n - l.toNat)) e) else none
        | _, _ => none
      | _ => none
    | .dptr cs => match optE ev 0 lo, optE ev n hi with
      | some l, some h => if 0 ≤ l ∧ l ≤ h ∧ h ≤ n then some (.dslice ((cs.drop (l.toNat * e)).take ((h - l).toNat * e)) (h - l).toNat (some (n - l.toNat))) else none
      | _, _ => none
    | _ => none
  | .sl2s x => match srcE η 1 (ev x) with
    | some (ds, _) => match bytesOf ds with
      | some l => some (.str (toBytes l))
      | none => none
    | none => none
theorem DOp.e_run {ev : AX → AV} {η : Nat → AB} {o : DOp} {v : AV} {K : AV → Prop} (h : o.e ev η = some v) (hk : K v) : o.run ev η K := by
  cases o <;> simp only [DOp.e, DOp.run] at h ⊢
  case bslice e len zero parts =>
    split at h
    · rename_i cs hcs
      cases hb : noLocB cs <;> simp only [hb, cond_true, cond_false] at h
      · cases h
      · cases h; exact buildE_run hcs (by simp only [hb, cond_true]; exact hk)
    · cases h
  case append e bytes s x =>
    generalize ev s = vs at h ⊢
    generalize ev x = vx at h ⊢
    split at h
    · split at h
      · rename_i hp; cases h; exact ⟨⟨hp.1, hp.2.1, hp.2.2.1, hp.2.2.2.1, all_scal hp.2.2.2.2⟩, hk⟩
      · cases h
    · split at h
      · cases h; exact ⟨‹_›, hk⟩
      · cases h
    · split at h
      · rename_i hp; cases h; exact ⟨⟨hp.1, hp.2.1, all_scal hp.2.2⟩, hk⟩
      · cases h
    · cases h
  case asub e n x lo hi =>
    generalize hev : ev x = vx at h ⊢
    split at h
    · split at h
      · rename_i cs hcs
        split at h
        · rename_i l hh h1 h2
          split at h
          · cases h; simp only [hcs]; exact optE_run h1 (optE_run h2 ⟨‹_›, hk⟩)
          · cases h
        · cases h
      · cases h
    · split at h
      · rename_i l hh h1 h2
        split at h
        · cases h; exact optE_run h1 (optE_run h2 ⟨‹_›, hk⟩)
        · cases h
      · cases h
    · cases h
  case sl2s x =>
    split at h
    · rename_i ds n hs
      split at h
      · rename_i l hl; cases h; exact srcE_run hs ⟨l, hl, hk⟩
      · cases h
    · cases h

def appE (cur : Nat → AB) (p e bytes : Nat) (sv xv : AV) : Option (AV × AB × Option Nat) := match srcE cur e xv with
  | some (ds, n) => match sv with
    | .slice k off len _ e' => match cur k with
      | .cells cs => if e' = e ∧ off = 0 ∧ cs.length = len * e ∧ fits (len + n) bytes ∧ ds.all scal = true then some (.slice p 0 (len + n) none e, .cells (cs ++ ds), some k) else none
      | _ => none
    | .dslice cs len cap => bif Nat.beq n 0 then some (.dslice cs len cap, .dead, none) else if cap = some len ∧ len * e ≤ cs.length ∧ fits (len + n) bytes ∧ ds.all scal = true then some (.slice p 0 (len + n) none e, .cells (cs.take (len * e) ++ ds), none) else none
    | .nils => bif Nat.beq n 0 then some (.nils, .dead, none) else if fits n bytes ∧ ds.all scal = true then some (.slice p 0 n none e, .cells ds, none) else none
    | _ => none
  | none => none
def LOp.e (ev : AX → AV) (cur : Nat → AB) (p : Nat) : LOp → Option (AV × AB × Option Nat)
  | .make e bytes zero n => match ev n with
    | .int _ i => if 0 ≤ i ∧ (bytes : Int) * i ≤ 281474976710656 ∧ i ≤ 9223372036854775807 then some (.slice p 0 i.toNat (some i.toNat) e, .cells (rep zero i.toNat), none) else none
    | _ => none
  | .bslice e len zero parts => match buildE ev (parts.map fun x => (x.1, e, x.2)) (rep zero len) with
    | some cs => some (.slice p 0 len (some len) e, .cells cs, none)
    | none => none
  | .append e bytes s x => appE cur p e bytes (ev s) (ev x)
  | .appendS bytes s x => appE cur p 1 bytes (ev s) (strD (ev x))
  | .appendF e bytes s x => match ev s with
    | .slice k off len (some c) e' => match cur k with
      | .cells cs => match srcE cur e (ev x) with
        | some (ds, n) => if e' = e ∧ c = len ∧ 0 < n ∧ off + len * e ≤ cs.length ∧ fits (len + n) bytes ∧ ds.all scal = true then some (.slice p 0 (len + n) none e, .cells ((cs.drop off).take (len * e) ++ ds), none) else none
        | none => none
      | _ => none
    | _ => none
theorem appE_run {cur : Nat → AB} {p e bytes : Nat} {sv xv : AV} {v : AV} {ab : AB} {kl : Option Nat} {K : AV → AB → Option Nat → Prop} (h : appE cur p e bytes sv xv = some (v, ab, kl)) (hk : K v ab kl) : appN cur cur p e bytes sv xv K := by
  unfold appE at h
  split at h
  · rename_i ds n hsrc
    unfold appN
    split at h
    · split at h
      · rename_i cs hcs
        split at h
        · rename_i hp; cases h
          simp only [appK, hcs]
          exact srcE_run hsrc ⟨⟨hp.1, hp.2.1, hp.2.2.1, hp.2.2.2.1, all_scal hp.2.2.2.2⟩, hk⟩
        · cases h
      · cases h
    · cases hb : Nat.beq n 0 <;> simp only [hb, cond_true, cond_false] at h
      · split at h
        · rename_i hp; cases h
          exact srcE_run hsrc (Branch.ofF (decide_eq_false (fun e => by subst e; cases hb)) ⟨⟨hp.1, hp.2.1, hp.2.2.1, all_scal hp.2.2.2⟩, hk⟩)
        · cases h
      · cases h
        exact srcE_run hsrc (Branch.ofT (decide_eq_true (Nat.eq_of_beq_eq_true hb)) hk)
    · cases hb : Nat.beq n 0 <;> simp only [hb, cond_true, cond_false] at h
      · split at h
        · rename_i hp; cases h
          exact srcE_run hsrc (Branch.ofF (decide_eq_false (fun e => by subst e; cases hb)) ⟨⟨hp.1, all_scal hp.2⟩, hk⟩)
        · cases h
      · cases h
        exact srcE_run hsrc (Branch.ofT (decide_eq_true (Nat.eq_of_beq_eq_true hb)) hk)
    · cases h
  · cases h
theorem LOp.e_run {ev : AX → AV} {cur : Nat → AB} {p : Nat} {o : LOp} {v : AV} {ab : AB} {kl : Option Nat} {K : AV → AB → Option Nat → Prop} (h : o.e ev cur p = some (v, ab, kl)) (hk : K v ab kl) : o.run ev cur cur p K := by
  cases o <;> simp only [LOp.e, LOp.run] at h ⊢
  case make e bytes zero n =>
    generalize ev n = vn at h ⊢
    split at h
    · rename_i k i
      split at h
      · cases h; exact ⟨‹_›, hk⟩
      · cases h
    · cases h
  case bslice e len zero parts =>
    split at h
    · rename_i cs hcs; cases h; exact buildE_run hcs hk
    · cases h
  case append e bytes s x => exact appE_run h hk
  case appendS bytes s x => exact appE_run h hk
  case appendF e bytes s x =>
    unfold appF
    split at h
    · rename_i k off len c e' hs
      split at h
      · rename_i cs hcs
        split at h
        · rename_i ds n hsrc
          split at h
          · rename_i hp; cases h
            simp only [hs, hcs]
            exact srcE_run hsrc ⟨⟨hp.1, hp.2.1, hp.2.2.1, hp.2.2.2.1, hp.2.2.2.2.1, all_scal hp.2.2.2.2.2⟩, hk⟩
          · cases h
        · cases h
      · cases h
    · cases h
end Go.Eng

namespace Go.Eng
open Go

variable [Globs]
/-! ### A round -/
def putL (fr : Fr) : List Nat → List AV → Fr
  | t :: ps, v :: vs => putL ((t, v) :: fr) ps vs
  | _, _ => fr
theorem relF_putL {N : Nat} {M : Mem} {μ : Pos} : ∀ {ps : List Nat} {vs : List AV} {us : List Value} {fr : Fr} {tmps : Array Value}, RelF N M μ fr tmps → ps.all (Nat.blt · N) = true → relL M vs μ us → vs.length = ps.length →
    RelF N M μ (putL fr ps vs) ((ps.zip us).foldl (fun tmps x => tmps.setIfInBounds x.1 x.2) tmps)
  | [], [], _, fr, tmps, F, _, _, _ => by simpa [putL] using F
  | t :: ps, v :: vs, us, fr, tmps, F, ha, hr, hl => by
    simp only [relL] at hr
    obtain ⟨u, r, rfl, h1, h2⟩ := hr
    simp only [List.all_cons, Bool.and_eq_true] at ha
    simp only [putL, List.zip_cons_cons, List.foldl_cons]
    have F1 := RelF.put (a := ⟨tmps, []⟩) (d := some t) F (by simpa [dstOk] using ha.1) h1
    exact relF_putL F1 ha.2 h2 (by simpa using hl)
  | [], _ :: _, _, _, _, _, _, _, hl => by simp at hl
  | _ :: _, [], _, _, _, _, _, _, hl => by simp at hl

def roundK (n k : Nat) (K : AV → Heap → Prop) (x : XA) (_ : Fr) (H : Heap) : Prop := match H.get k with
  | .loop .busy id fr2 => match x with
    | .normal => setK H k (.loop .ready id fr2) (RetA n K (.bool true))
    | .ret => setK H k (.loop (.done .ret) id fr2) (RetA n K (.bool false))
    | .exit i => setK H k (.loop (.done (.exit i)) id fr2) (RetA n K (.bool false))
  | _ => False
def assignK (P : Program) (n k : Nat) (B : AC) (K : AV → Heap → Prop) (x : XA) (fr : Fr) (H : Heap) : Prop := match x with
  | .normal => match H.get k with
    | .loop .ready id fr2 => setK H k (.loop .busy id fr2) fun H2 => B.run P n (roundK n k K) fr H2
    | _ => False
  | _ => False

def rsOf : Option RJ → RS
  | none => .ready
  | some j => .done j
section
variable {P : Program}
theorem end_round {n N k b s : Nat} {M0 : Mem} {μ0 : Pos} {H0 H : Heap} {w0 w : World} {id : Nat} {fr fr2 : Fr} {a : Act} {K : AV → Heap → Prop} (S : St N n M0 μ0 H0 w0 fr H a w) (R0 : Rel M0 μ0 H0 w0) (hn0 : H0.nx = n) (hμ0 : μ0 k = some (b, s)) (hk : H.get k = .loop .busy id fr2) (jump : Option RJ)
    (hr : RetA n K (.bool jump.isNone) (H.set k (.loop (rsOf jump) id fr2))) :
    ∃ v w', (Instr.endRound b (jump.map RJ.code)).run P w = .ok v w' ∧ ∃ u M' μ' H' c, Ending.returned v = .returned u ∧ Rel M' μ' H' w' ∧ relV M' c μ' u ∧ Move M0 μ0 H0 w0 M' μ' H' w' ∧ K c H' := by
  obtain ⟨M, μ, R, F, hn, G, _⟩ := S
  have hμ : μ k = some (b, s) := by rw [G.pin k (by rw [← hn0]; exact R0.pos_lt hμ0)]; exact hμ0
  obtain ⟨b', s', g1, r, g2, g3, g4, g5⟩ := R.loops _ _ _ _ hk
  rw [hμ] at g1; cases g1
  have hne : (jump.map RJ.code).isNone = jump.isNone := by cases jump <;> rfl
  obtain ⟨R1, G1⟩ := R.setL (st' := rsOf jump) (r' := { r with state := if (jump.map RJ.code).isNone then .ready else .done, pending := jump.map RJ.code }) hk hμ g2 (by cases jump <;> simp [RS.ok, rsOf]) rfl rfl rfl rfl
  refine ⟨_, _, run_endRound (jump.map RJ.code) g2, ?_⟩
  obtain ⟨v', H2, hi, hK⟩ := hr.ex
  have F1 : RelF 1 M μ [(0, .bool jump.isNone)] #[.bool (jump.map RJ.code).isNone] := ⟨R.glob, rfl, fun t => by
    simp only [look]
    by_cases ht : 0 = t
    · subst ht; simp [relV, hne]
    · rw [beq_false ht]; simp only [cond_false, relV]⟩
  obtain ⟨M2, μ2, R2, F2, hn2, G2⟩ := hi 1 M μ _ _ R1 F1 hn
  refine ⟨_, M2, μ2, H2, v', rfl, R2, ?_, ?_, hK⟩
  · have := F2.slot 0; simpa [look] using this
  · have G := (G.trans (G1.grow.mono hn)).trans G2
    refine ⟨fun q x hx => ?_, by rw [hn0]; exact G, by rw [hn0]; exact hn2⟩
    rw [G.pin q (by rw [← hn0]; exact R0.pos_lt hx)]; exact hx
/-- **A ROUND, BY ITS TEXT.** -/
theorem YieldA.of {k id : Nat} {fr : Fr} {H : Heap} {K : AV → Heap → Prop} {args : List AV} {ps : List Nat} {A B : AC} (hk : H.get k = .loop .ready id fr) (hat : RfAt P id ps A B) (hl : args.length = ps.length) (hr : A.run P H.nx (assignK P H.nx k B K) (putL fr ps args) H) : YieldA P k args H K := by
  refine ⟨fun M μ w vs R hv b s hμ => ?_⟩
  obtain ⟨b', s', g1, r, g2, g3, g4, g5⟩ := R.loops _ _ _ _ hk
  rw [hμ] at g1; cases g1
  obtain ⟨rfl, hall, hA, hB, hnA, hnB⟩ := (hat.iff _ _ _ _).1 g4
  have hsz : vs.size = r.params.size := by
    have := relL_length hv
    simp only [Array.length_toList] at this
    simpa using this.trans hl
  refine ⟨r.fn, _, r.assign, r.body, run_yield g2 hsz, roundIn_of_wpIn trivial ?_⟩
  have hfold : (r.params.zip vs).foldl (fun tmps x => tmps.setIfInBounds x.1 x.2) r.tmps = (r.params.toList.zip vs.toList).foldl (fun tmps x => tmps.setIfInBounds x.1 x.2) r.tmps := by
    rw [← Array.foldl_toList, Array.toList_zip]
  have S : St r.tmps.size H.nx M μ H w (putL fr r.params.toList args) H { tmps := (r.params.zip vs).foldl (fun tmps x => tmps.setIfInBounds x.1 x.2) r.tmps, defers := [] } w :=
    ⟨M, μ, R, by rw [hfold]; exact relF_putL ⟨R.glob, rfl, g5⟩ hall hv hl, Nat.le_refl _, Grow.refl _ _ _ _ _, Marks.nil⟩
  refine wpIn_mono (sound_C (some b) hA (.inr hnA) S hr) ?_
  intro e a1 w1 hx
  obtain ⟨x, fr1, H1, hx, S1, hq⟩ := hx
  cases e <;> simp [xa] at hx <;> subst hx
  case normal =>
    simp only [assignK, setK_eq] at hq
    split at hq
    · rename_i id2 fr2 hk1
      obtain ⟨M1, μ1, R1, F1, hn1, G1, hd1⟩ := S1
      have hμ1 : μ1 k = some (b, s) := by rw [G1.pin k (R.pos_lt hμ)]; exact hμ
      obtain ⟨b', s', q1, r1, q2, q3, q4, q5⟩ := R1.loops _ _ _ _ hk1
      rw [hμ1] at q1; cases q1
      obtain ⟨R2, G2⟩ := R1.setL (st' := .busy) (r' := { r1 with state := .busy }) hk1 hμ1 q2 rfl rfl rfl rfl rfl
      refine ⟨_, run_beginRound q2 q3.1, ?_⟩
      have S2 : St r.tmps.size H.nx M μ H w fr1 (H1.set k (.loop .busy id2 fr2)) a1 (w1.putObj b (.loop { r1 with state := .busy })) :=
        ⟨M1, μ1, R2, F1, hn1, G1.trans (G2.grow.mono hn1), hd1.step G2.grow⟩
      refine wpIn_mono (sound_C (some b) hB (.inr hnB) S2 hq) ?_
      intro e a3 w3 hx
      obtain ⟨x, fr3, H3, hx, S3, hq3⟩ := hx
      unfold roundK at hq3
      simp only [setK_eq] at hq3
      split at hq3
      · rename_i id3 fr4 hk3
        cases e <;> simp [xa] at hx <;> subst hx
        case normal => exact end_round S3 R rfl hμ hk3 none hq3
        case exit i => exact end_round S3 R rfl hμ hk3 (some (.exit i)) hq3
        case ret => exact end_round S3 R rfl hμ hk3 (some .ret) hq3
      · exact hq3.elim
    · exact hq.elim
  all_goals exact hq.elim
end
end Go.Eng

