/- Part of a proof about the given program: lemmas that the other parts use. -/
import Derived.Test.YtnmgifoihmjjmaaPart3
import Derived.Test.YtnmgifoihmjjmaaProg
import Derived.KernelRfl

set_option linter.all false
set_option linter.unusedSimpArgs false
set_option linter.unusedVariables false
namespace Go.Eng
open Go Go.ChangeShapes Go.WideShapes Go.RowKit

def argT : (s : Sh) → Ty s → AV
  | .b, x => .bool x
  | .i k, x => .int k x
  | .str, x => .str x
  | .sl e, l => .dslice (List.flatMap (cellsT e) l) (List.length l) none
  | .ar n e, l => .agg (cellsT (.ar n e) l)
  | .ag l, x => .agg (cellsT (.ag l) x)
def argTs : (l : List Sh) → Tys l → List AV
  | [], _ => []
  | s :: r, x => argT s x.1 :: argTs r x.2
def shAll (P : Program) : List TypeId → Option (List Sh)
  | [] => some []
  | t :: r => match shOf P 20 t with
    | some s => match shAll P r with
      | some l => some (s :: l)
      | none => none
    | none => none

section
variable {H : Type} {enc : TypeId × Value → H} {P : Program} {w : World} {sp : Nat → Bool} {held : Bool}
theorem plain_of_ok {r : Reach} {base : Nat} {t : TypeId} {v : Value} (h : Cell.okWide P w r base t v) : plainAt v := by
  rintro a len cap rfl
  unfold Cell.okWide at h
  split at h <;> first | (rename_i h2; cases h2; done) | (rename_i h1 h2; cases h2; done) | skip
  unfold Cell.ok at h
  split at h <;> first | exact h.elim | (rename_i h1 h2; cases h2; done) | skip
  · rename_i h1 h2
    cases h2
    exact h.2.2.2.1
theorem row_plain {r : Reach} {base : Nat} {t : TypeId} {cs : Array Value} (h : Row.okWide P w r base t cs) : ∀ v ∈ cs.toList, plainAt v := by
  obtain ⟨ts, _, _, hc⟩ := h
  intro v hv
  obtain ⟨i, hi⟩ := List.getElem?_of_mem hv
  obtain ⟨u, _, hok⟩ := hc i v (by simpa using hi)
  exact plain_of_ok hok
/-- A value of one cell. -/
theorem one_of_ok {r : Reach} {base : Nat} {t : TypeId} {v : Value} (h : Value.okWide P w r base t v) (hs : ∀ fs, P.underlying t ≠ some (.struct fs)) (ha : ∀ n e, P.underlying t ≠ some (.array n e)) : v.cells = #[v] ∧ plainAt v := by
  have hc : Cell.okWide P w r base t v := by
    unfold Value.okWide at h
    split at h
    · rename_i fs hf; exact absurd hf (hs fs)
    · rename_i n e hf; exact absurd hf (ha n e)
    · exact h
  refine ⟨?_, plain_of_ok hc⟩
  cases v with
  | agg cs =>
    unfold Cell.okWide at hc
    split at hc <;> first | (rename_i h1 h2; cases h2; done) | skip
    unfold Cell.ok at hc
    split at hc <;> first | exact hc.elim | (rename_i h1 h2; cases h2; done)
  | _ => rfl
theorem agg_of_ok {r : Reach} {base : Nat} {t : TypeId} {v : Value} (h : Value.okWide P w r base t v) (hs : (∃ fs, P.underlying t = some (.struct fs)) ∨ ∃ n e, P.underlying t = some (.array n e)) : ∃ cs, v = .agg cs ∧ ∀ u ∈ cs.toList, plainAt u := by
  unfold Value.okWide at h
  split at h
  · obtain ⟨cs, rfl, _, hr⟩ := h; exact ⟨cs, rfl, row_plain hr⟩
  · obtain ⟨cs, rfl, _, hr⟩ := h; exact ⟨cs, rfl, row_plain hr⟩
  · rename_i h1 h2
    rcases hs with ⟨fs, hf⟩ | ⟨n, e, hf⟩
    · exact absurd hf (h1 fs)
    · exact absurd hf (h2 n e)
/-- What a type's shape says of the type. -/
def aggFact (P : Program) (t : TypeId) : Sh → Prop
  | .ar _ _ => ∃ n e, P.underlying t = some (.array n e)
  | .ag _ => ∃ fs, P.underlying t = some (.struct fs)
  | _ => (∀ fs, P.underlying t ≠ some (.struct fs)) ∧ ∀ n e, P.underlying t ≠ some (.array n e)
theorem shOf_agg {k : Nat} {t : TypeId} {s : Sh} (h : shOf P k t = some s) : aggFact P t s := by
  cases k with
  | zero => simp [shOf] at h
  | succ k =>
    simp only [shOf] at h
    split at h
    · rename_i ht; cases h; simp [aggFact, ht]
    · rename_i ht; cases h; simp [aggFact, ht]
    · rename_i ht; cases h; simp [aggFact, ht]
    · rename_i e ht
      split at h
      · rename_i s' hs
        cases hb : (Nat.beq (P.cellsOf e) (widthT s') && noSl s') <;> simp only [hb, cond_true, cond_false] at h
        · cases h
        · cases h; simp [aggFact, ht]
      · cases h
    · rename_i m e ht
      split at h
      · rename_i s' hs
        cases hb : (Nat.beq (P.cellsOf e) (widthT s') && Nat.beq (P.cellsOf t) (m * widthT s')) <;> simp only [hb, cond_true, cond_false] at h
        · cases h
        · cases h; exact ⟨_, _, ht⟩
      · cases h
    · rename_i fs ht
      split at h
      · rename_i l hl
        cases hb : Nat.beq (P.cellsOf t) (widthTs l) <;> simp only [hb, cond_true, cond_false] at h
        · cases h
        · cases h; exact ⟨_, ht⟩
      · cases h
    · cases h
theorem arg_reads {r : Reach} {base : Nat} {t : TypeId} {s : Sh} {v : Value} {d : DataW H} {ps : List MemPlace} (hs : shOf P 20 t = some s) (hv : Value.okWide P w r base t v) (hd : DataW.Trod enc P w 0 sp held t v d ps) :
    ∃ x : Ty s, wfT s x ∧ relV (Mw w) (argT s x) Pos.none v := by
  obtain ⟨n, hn⟩ := hd
  have hg := shOf_agg hs
  cases s with
  | ar m e =>
    obtain ⟨cs, rfl, hp⟩ := agg_of_ok hv (.inr hg)
    obtain ⟨x, h1, h2⟩ := reads_of_trod 20 _ _ _ _ _ hs (.inr hp) hn
    exact ⟨x, h1, by simp only [argT, relV]; exact ⟨cs, rfl, h2⟩⟩
  | ag l =>
    obtain ⟨cs, rfl, hp⟩ := agg_of_ok hv (.inl hg)
    obtain ⟨x, h1, h2⟩ := reads_of_trod 20 _ _ _ _ _ hs (.inr hp) hn
    exact ⟨x, h1, by simp only [argT, relV]; exact ⟨cs, rfl, h2⟩⟩
  | _ =>
    obtain ⟨h1, h2⟩ := one_of_ok hv hg.1 hg.2
    rw [h1] at hn
    obtain ⟨x, h3, h4⟩ := reads_of_trod 20 _ _ _ _ _ hs (.inr (by intro u hu; simp at hu; subst hu; exact h2)) hn
    refine ⟨x, h3, ?_⟩
    simp only [cellsT, relL] at h4
    obtain ⟨u, r, h5, h6, rfl⟩ := h4
    simp at h5; subst h5
    simpa only [argT] using h6
theorem args_read {r : Reach} {base : Nat} : ∀ {ts : List TypeId} {l : List Sh} {vs : List Value} {ds : List (DataW H)} {ps : List MemPlace}, shAll P ts = some l → (∀ (j : Nat) t v, ts[j]? = some t → vs[j]? = some v → Value.okWide P w r base t v) →
    DataW.TrodAll enc P w 0 sp held ts vs ds ps → ∃ x : Tys l, wfTs l x ∧ relL (Mw w) (argTs l x) Pos.none vs
  | [], l, vs, ds, ps, h, _, hd => by
    simp only [shAll] at h; cases h
    obtain ⟨rfl, rfl, rfl⟩ := trodAll_nil hd
    exact ⟨(), by simp only [wfTs], by simp [argTs, relL]⟩
  | t :: ts, l, vs, ds, ps, h, hv, hd => by
    simp only [shAll] at h
    split at h
    · rename_i s hs
      split at h
      · rename_i l' hl; cases h
        obtain ⟨v, vs', d, ds', p, q, rfl, rfl, rfl, h1, h2⟩ := trodAll_cons hd
        obtain ⟨x, h3, h4⟩ := arg_reads hs (hv 0 t v rfl rfl) h1
        obtain ⟨y, h5, h6⟩ := args_read hl (fun j t' v' hj hj' => hv (j + 1) t' v' (by simpa using hj) (by simpa using hj')) h2
        exact ⟨(x, y), by simp only [wfTs]; exact ⟨h3, h5⟩, by simp only [argTs, relL]; exact ⟨v, vs', rfl, h4, h6⟩⟩
      · cases h
    · cases h
theorem Mw_rel : Rel (Mw w) Pos.none Heap.nil w :=
  ⟨fun _ _ => rfl, fun _ _ => rfl, fun k cs h => by simp [Heap.get, Heap.nil, bget] at h, fun k cs h => by simp [Heap.get, Heap.nil, bget] at h, fun j k l c h => by simp [Heap.get, Heap.nil, bget] at h, fun i j b s t h => by simp [Heap.get, Heap.nil, bget] at h, fun _ _ _ h => h, fun k b s h => by simp [Heap.get, Heap.nil, bget] at h⟩
/-- The arguments' types, as the reading behind the call wants them. -/
def plainTs (P : Program) (ts : List TypeId) : Bool := ts.all fun t => P.readableRec t && decide (t < P.types.size)
theorem trodAll_stays (hl : laidOutB P = true) {W W' : World} {sp' : Nat → Bool} : ∀ {ts : List TypeId} {vs : List Value} {ds : List (DataW H)} {ps : List MemPlace}, plainTs P ts = true → DataW.TrodAll enc P W 0 (fun _ => true) true ts vs ds ps →
    (∀ p ∈ ps, W.sameAt W' p) → (∀ p ∈ ps, sp' p.block = true) → DataW.TrodAll enc P W' 0 sp' true ts vs ds ps
  | [], _, _, _, _, h, _, _ => by obtain ⟨rfl, rfl, rfl⟩ := trodAll_nil h; exact trodAll_mk0
  | t :: ts, vs, ds, ps, ht, h, hs, hb => by
    obtain ⟨v, vs', d, ds', p, q, rfl, rfl, rfl, h1, h2⟩ := trodAll_cons h
    simp only [plainTs, List.all_cons, Bool.and_eq_true, decide_eq_true_eq] at ht
    refine trodAll_cons_mk (WideElems.Trod_stays hl ht.1.1 ht.1.2 h1 (fun p hp => hs p (by simp [hp])) (fun p hp => hb p (by simp [hp]))) (trodAll_stays hl (by simpa [plainTs] using ht.2) h2 (fun p hp => hs p (by simp [hp])) (fun p hp => hb p (by simp [hp])))
/-- **A CONTRACT OF THE ENGINE GIVES WHAT THE STATEMENT ASKS OF EACH CALL.** -/
theorem law_contract {f : FuncId} {fn : Func} {s : ChangeSpec} {l : List Sh} {tb : TypeId} (hsh : shAll P fn.params.toList = some l) (hl : laidOutB P = true) (hts : plainTs P fn.params.toList = true) (hvars : s.vars = []) (hres : fn.resultTypes = #[tb]) (htb : P.underlying tb = some .bool)
    (hfn : ∀ ds : List (DataW H), ds.length = fn.params.toList.length → s.fn H ds = { results := [.lit (.bool true)], args := ds })
    (hcall : ∀ x : Tys l, wfTs l x → CallA P f (argTs l x) Heap.nil fun v H' => v = .bool true ∧ H' = Heap.nil)
    (W : World) (base : Nat) (args : Array Value) (ds gs : List (DataW H)) (before : List MemPlace)
    (hval : ∀ (j : Nat) t v, fn.params[j]? = some t → args[j]? = some v → Value.okWide P W .any base t v)
    (hW : DataW.Whole enc P fn.params.toList s.vars false W args.toList ds gs before) :
    Calls P f args W fun e W' => ∃ v, e = .returned v ∧ s.post enc P fn false true false false W args v W' := by
  have hW' := hW
  obtain ⟨p, q, hA, hV, rfl, hz, _⟩ := hW
  rw [hvars] at hV
  obtain ⟨rfl, rfl⟩ := trodVars_none hV
  obtain ⟨x, hx, hrel⟩ := args_read hsh (fun j t v hj hj' => hval j t v (by simpa using hj) (by simpa using hj')) hA
  have hlt := hA.lt
  refine ((hcall x hx).run (Mw W) Pos.none W args Mw_rel hrel).mono ?_
  rintro e W' ⟨v, M', μ', H', c, rfl, R', hv, G, rfl, rfl⟩
  have hv := rel_bool hv
  subst hv
  have hB : Below W.heap.size W W' := ⟨G.grow.keep.os, G.grow.keep.tape, G.grow.keep.output, G.grow.keep.size, fun k hk => G.grow.keep.block k hk own_nil⟩
  have hlen : ds.length = fn.params.toList.length := by
    have : ∀ {ts : List TypeId} {vs : List Value} {ds : List (DataW H)} {ps : List MemPlace}, DataW.TrodAll enc P W 0 (fun _ => true) true ts vs ds ps → ds.length = ts.length := by
      intro ts
      induction ts with
      | nil => intro vs ds ps h; obtain ⟨_, rfl, _⟩ := trodAll_nil h; rfl
      | cons t ts ih => intro vs ds ps h; obtain ⟨v, vs', d, ds', p, q, rfl, rfl, rfl, _, h2⟩ := trodAll_cons h; simp [ih h2]
    exact this hA
  refine ⟨_, rfl, ds, [], p ++ [], [], p, [], hW', ?_, ?_, ?_, ?_, fun h => by cases h⟩
  · rw [List.append_nil, hfn ds hlen, hres]
    exact trodAll_cons_mk (shut_bool htb true) trodAll_mk0
  · rw [List.append_nil, hfn ds hlen]
    exact trodAll_stays hl hts hA (fun p hp => hB.same (hlt p hp)) (fun p hp => by simpa using hlt p hp)
  · rw [List.append_nil, hfn ds hlen, hvars]
    rfl
  · exact hB.frame _
end
end Go.Eng

set_option maxRecDepth 100000
namespace Go.Proofs
open Go Go.Eng
/-- (*simulacrum/simulacrumlaw37.world).right -/
def ac29 : AC := (.seq (.reg [⟨some 2, .p (.mov (.c (.bool false))), none⟩])
  (.seq (.seq (.reg [⟨some 12, .p (.mov (.t 0)), none⟩,
    ⟨some 13, .p (.nilchk (.t 12)), none⟩,
    ⟨some 14, .p (.fieldA 0 (.t 13)), none⟩,
    ⟨some 15, .h (.load true 33 (.t 14)), none⟩,
    ⟨some 16, .p (.mov (.c (.int .i64 0))), none⟩])
  (.block 0 (.loop (.seq (.reg [⟨some 17, .p (.bin .lss (.t 16) (.c (.int .i64 3))), none⟩])
  (.seq (.cond (.t 17) .skip (.exit 0))
  (.seq (.block 1 (.seq (.reg [⟨some 18, .v (.idx true 11 3 (.t 15) (.t 16)), none⟩,
    ⟨some 4, .h (.alloc [(.int .i64 0), (.int .i64 0), (.int .i64 0), (.bool false), (.bool false), (.bool false), (.int .i64 0), (.int .i64 0), (.int .i64 0), (.int .i64 0), (.int .i64 0)]), none⟩,
    ⟨none, .h (.store 11 (.t 4) (.t 18)), none⟩])
  (.seq (.seq (.reg [⟨some 19, .h (.load true 11 (.t 4)), none⟩,
    ⟨some 20, .call 13 [(.t 19)], none⟩,
    ⟨some 21, .p (.un .not (.t 20)), none⟩])
  (.cond (.t 21) (.seq (.seq (.reg [⟨some 22, .h (.load true 11 (.t 4)), none⟩,
    ⟨some 23, .call 15 [(.t 22)], none⟩,
    ⟨some 24, .p (.bin .neq (.t 23) (.c (.int .i64 0))), none⟩])
  (.cond (.t 24) (.seq (.reg [⟨some 2, .p (.mov (.c (.bool false))), none⟩])
  .ret) .skip))
  (.exit 1)) .skip))
  (.seq (.seq (.draw 12 [] [⟨some 26, .p (.mov (.t 0)), none⟩,
    ⟨some 27, .p (.nilchk (.t 26)), none⟩,
    ⟨some 28, .p (.fieldA 43 (.t 27)), none⟩,
    ⟨some 29, .h (.load false 1 (.t 28)), none⟩,
    ⟨some 30, .p (.fieldA 2 (.t 4)), none⟩,
    ⟨some 31, .h (.load false 1 (.t 30)), none⟩,
    ⟨some 32, .m (.get true (.c (.i .i64)) (.int .i64 0) (.t 29) (.t 31)), none⟩,
    ⟨some 25, .p (.mov (.t 32)), none⟩,
    ⟨some 33, .p (.extract 0 (.t 25)), none⟩,
    ⟨some 34, .p (.extract 1 (.t 25)), none⟩,
    ⟨some 5, .p (.mov (.t 33)), none⟩,
    ⟨some 6, .p (.mov (.t 34)), none⟩])
  (.seq (.reg [⟨some 35, .p (.mov (.t 6)), none⟩,
    ⟨some 36, .p (.mov (.t 35)), none⟩,
    ⟨some 37, .p (.mov (.t 5)), (some (36, true))⟩,
    ⟨some 38, .p (.fieldA 1 (.t 4)), (some (36, true))⟩,
    ⟨some 39, .h (.load false 1 (.t 38)), (some (36, true))⟩,
    ⟨some 40, .p (.bin .neq (.t 37) (.t 39)), (some (36, true))⟩,
    ⟨some 41, .p (.pick (.t 36) (.t 40) (.c (.bool false))), none⟩])
  (.cond (.t 41) (.seq (.reg [⟨some 2, .p (.mov (.c (.bool false))), none⟩])
  .ret) .skip)))
  (.seq (.seq (.draw 12 [] [⟨some 43, .p (.mov (.t 0)), none⟩,
    ⟨some 44, .p (.nilchk (.t 43)), none⟩,
    ⟨some 45, .p (.fieldA 44 (.t 44)), none⟩,
    ⟨some 46, .h (.load false 1 (.t 45)), none⟩,
    ⟨some 47, .p (.fieldA 2 (.t 4)), none⟩,
    ⟨some 48, .h (.load false 1 (.t 47)), none⟩,
    ⟨some 49, .m (.get true (.c (.i .i64)) (.int .i64 0) (.t 46) (.t 48)), none⟩,
    ⟨some 42, .p (.mov (.t 49)), none⟩,
    ⟨some 50, .p (.extract 0 (.t 42)), none⟩,
    ⟨some 51, .p (.extract 1 (.t 42)), none⟩,
    ⟨some 7, .p (.mov (.t 50)), none⟩,
    ⟨some 8, .p (.mov (.t 51)), none⟩])
  (.seq (.reg [⟨some 52, .p (.mov (.t 8)), none⟩,
    ⟨some 53, .p (.un .not (.t 52)), none⟩])
  (.cond (.t 53) (.draw 9 [(3, 8), (5, 8), (7, 8)] [⟨some 54, .p (.mov (.t 0)), none⟩,
    ⟨some 55, .p (.nilchk (.t 54)), none⟩,
    ⟨some 56, .p (.fieldA 44 (.t 55)), none⟩,
    ⟨some 57, .h (.load false 1 (.t 56)), none⟩,
    ⟨some 58, .p (.fieldA 2 (.t 4)), none⟩,
    ⟨some 59, .h (.load false 1 (.t 58)), none⟩,
    ⟨some 60, .p (.fieldA 6 (.t 4)), none⟩,
    ⟨some 61, .h (.load false 1 (.t 60)), none⟩,
    ⟨none, .m (.set (.c (.i .i64)) (.t 57) (.t 59) (.t 61)), none⟩]) .skip)))
  (.seq (.draw 9 [(3, 8), (5, 8), (7, 8)] [⟨some 62, .p (.mov (.t 0)), none⟩,
    ⟨some 63, .p (.nilchk (.t 62)), none⟩,
    ⟨some 64, .p (.fieldA 43 (.t 63)), none⟩,
    ⟨some 65, .h (.load false 1 (.t 64)), none⟩,
    ⟨some 66, .p (.fieldA 2 (.t 4)), none⟩,
    ⟨some 67, .h (.load false 1 (.t 66)), none⟩,
    ⟨some 68, .p (.fieldA 1 (.t 4)), none⟩,
    ⟨some 69, .h (.load false 1 (.t 68)), none⟩,
    ⟨none, .m (.set (.c (.i .i64)) (.t 65) (.t 67) (.t 69)), none⟩])
  (.draw 17 [(3, 16), (5, 16), (9, 16), (11, 16), (12, 16), (13, 16)] [⟨some 70, .p (.mov (.t 0)), none⟩,
    ⟨some 71, .p (.nilchk (.t 70)), none⟩,
    ⟨some 72, .p (.fieldA 42 (.t 71)), none⟩,
    ⟨some 73, .h (.load false 1 (.t 72)), none⟩,
    ⟨some 74, .p (.fieldA 2 (.t 4)), none⟩,
    ⟨some 75, .h (.load false 1 (.t 74)), none⟩,
    ⟨some 76, .p (.mov (.t 0)), none⟩,
    ⟨some 77, .p (.nilchk (.t 76)), none⟩,
    ⟨some 78, .p (.fieldA 42 (.t 77)), none⟩,
    ⟨some 79, .h (.load false 1 (.t 78)), none⟩,
    ⟨some 80, .p (.fieldA 2 (.t 4)), none⟩,
    ⟨some 81, .h (.load false 1 (.t 80)), none⟩,
    ⟨some 82, .m (.get false (.c (.i .i64)) (.int .i64 0) (.t 79) (.t 81)), none⟩,
    ⟨some 83, .h (.load true 11 (.t 4)), none⟩,
    ⟨some 84, .call 15 [(.t 83)], none⟩,
    ⟨some 85, .p (.mm true (.t 82) (.t 84)), none⟩,
    ⟨none, .m (.set (.c (.i .i64)) (.t 73) (.t 75) (.t 85)), none⟩])))))))
  (.reg [⟨some 86, .p (.bin .add (.t 16) (.c (.int .i64 1))), none⟩,
    ⟨some 16, .p (.mov (.t 86)), none⟩])))))))
  (.seq (.seq (.reg [⟨some 87, .p (.mov (.t 0)), none⟩,
    ⟨some 88, .p (.nilchk (.t 87)), none⟩,
    ⟨some 89, .p (.fieldA 43 (.t 88)), none⟩,
    ⟨some 90, .h (.load false 1 (.t 89)), none⟩,
    ⟨some 91, .m (.range (.t 90)), none⟩])
  (.block 2 (.loop (.seq (.reg [⟨some 92, .m (.next (.t 91)), none⟩,
    ⟨some 93, .p (.extract 0 (.t 92)), none⟩])
  (.seq (.cond (.t 93) .skip (.exit 2))
  (.block 3 (.seq (.reg [⟨some 94, .m (.entry (.t 91)), none⟩,
    ⟨some 95, .p (.extract 0 (.t 94)), none⟩,
    ⟨some 9, .p (.mov (.t 95)), none⟩])
  (.seq (.reg [⟨some 96, .p (.mov (.t 0)), none⟩,
    ⟨some 97, .p (.nilchk (.t 96)), none⟩,
    ⟨some 98, .p (.fieldA 42 (.t 97)), none⟩,
    ⟨some 99, .h (.load false 1 (.t 98)), none⟩,
    ⟨some 100, .m (.range (.t 99)), none⟩])
  (.block 4 (.loop (.seq (.reg [⟨some 101, .m (.next (.t 100)), none⟩,
    ⟨some 102, .p (.extract 0 (.t 101)), none⟩])
  (.seq (.cond (.t 102) .skip (.exit 4))
  (.block 5 (.seq (.reg [⟨some 103, .m (.entry (.t 100)), none⟩,
    ⟨some 104, .p (.extract 0 (.t 103)), none⟩,
    ⟨some 105, .p (.extract 1 (.t 103)), none⟩,
    ⟨some 10, .p (.mov (.t 104)), none⟩,
    ⟨some 11, .p (.mov (.t 105)), none⟩])
  (.seq (.reg [⟨some 106, .p (.mov (.t 10)), none⟩,
    ⟨some 107, .p (.mov (.t 9)), none⟩,
    ⟨some 108, .p (.bin .lss (.t 106) (.t 107)), none⟩,
    ⟨some 109, .p (.mov (.t 108)), none⟩,
    ⟨some 110, .p (.mov (.t 11)), (some (109, true))⟩,
    ⟨some 111, .p (.mov (.t 0)), (some (109, true))⟩,
    ⟨some 112, .p (.nilchk (.t 111)), (some (109, true))⟩,
    ⟨some 113, .p (.fieldA 44 (.t 112)), (some (109, true))⟩,
    ⟨some 114, .h (.load false 1 (.t 113)), (some (109, true))⟩,
    ⟨some 115, .p (.mov (.t 9)), (some (109, true))⟩,
    ⟨some 116, .m (.get false (.c (.i .i64)) (.int .i64 0) (.t 114) (.t 115)), (some (109, true))⟩,
    ⟨some 117, .p (.bin .gtr (.t 110) (.t 116)), (some (109, true))⟩,
    ⟨some 118, .p (.pick (.t 109) (.t 117) (.c (.bool false))), none⟩])
  (.cond (.t 118) (.seq (.reg [⟨some 2, .p (.mov (.c (.bool false))), none⟩])
  .ret) .skip))))))))))))))))
  (.seq (.reg [⟨some 2, .p (.mov (.c (.bool true))), none⟩])
  .ret))))
def rs29 : List AR := [.tmp 2]
theorem ok29 : okF Try.prog 29 119 ac29 rs29 = true := by kernel_rfl
/-- simulacrum/simulacrumlaw37.begin -/
def ac9 : AC := (.seq (.reg [⟨some 0, .h (.alloc [(.int .i64 0), (.int .i64 0), (.int .i64 0), (.bool false), (.bool false), (.bool false), (.int .i64 0), (.int .i64 0), (.int .i64 0), (.int .i64 0), (.int .i64 0), (.int .i64 0), (.int .i64 0), (.int .i64 0), (.bool false), (.bool false), (.bool false), (.int .i64 0), (.int .i64 0), (.int .i64 0), (.int .i64 0), (.int .i64 0), (.int .i64 0), (.int .i64 0), (.int .i64 0), (.bool false), (.bool false), (.bool false), (.int .i64 0), (.int .i64 0), (.int .i64 0), (.int .i64 0), (.int .i64 0), (.int .i64 0), .nils, (.int .i64 0), .nils, (.int .i64 0), .nils, .nils, .nils, (.int .i64 0), .nilm, .nilm, .nilm]), none⟩])
  (.seq (.reg [⟨some 3, .m .mk, none⟩,
    ⟨some 4, .m .mk, none⟩,
    ⟨some 5, .m .mk, none⟩,
    ⟨some 6, .v (.build [(.int .i64 0), (.int .i64 0), (.int .i64 0), (.bool false), (.bool false), (.bool false), (.int .i64 0), (.int .i64 0), (.int .i64 0), (.int .i64 0), (.int .i64 0), (.int .i64 0), (.int .i64 0), (.int .i64 0), (.bool false), (.bool false), (.bool false), (.int .i64 0), (.int .i64 0), (.int .i64 0), (.int .i64 0), (.int .i64 0), (.int .i64 0), (.int .i64 0), (.int .i64 0), (.bool false), (.bool false), (.bool false), (.int .i64 0), (.int .i64 0), (.int .i64 0), (.int .i64 0), (.int .i64 0), (.int .i64 0), .nils, (.int .i64 0), .nils, (.int .i64 0), .nils, .nils, .nils, (.int .i64 0), .nilm, .nilm, .nilm] [(41, 1, (.c (.int .i64 (-1)))), (42, 1, (.t 3)), (43, 1, (.t 4)), (44, 1, (.t 5))]), none⟩,
    ⟨some 1, .h (.alloc [(.int .i64 0), (.int .i64 0), (.int .i64 0), (.bool false), (.bool false), (.bool false), (.int .i64 0), (.int .i64 0), (.int .i64 0), (.int .i64 0), (.int .i64 0), (.int .i64 0), (.int .i64 0), (.int .i64 0), (.bool false), (.bool false), (.bool false), (.int .i64 0), (.int .i64 0), (.int .i64 0), (.int .i64 0), (.int .i64 0), (.int .i64 0), (.int .i64 0), (.int .i64 0), (.bool false), (.bool false), (.bool false), (.int .i64 0), (.int .i64 0), (.int .i64 0), (.int .i64 0), (.int .i64 0), (.int .i64 0), .nils, (.int .i64 0), .nils, (.int .i64 0), .nils, .nils, .nils, (.int .i64 0), .nilm, .nilm, .nilm]), none⟩,
    ⟨none, .h (.store 45 (.t 1) (.t 6)), none⟩])
  (.seq (.seq (.reg [⟨some 7, .p (.mov (.c (.int .i64 0))), none⟩])
  (.block 0 (.loop (.seq (.reg [⟨some 8, .p (.bin .lss (.t 7) (.c (.int .i64 3))), none⟩])
  (.seq (.cond (.t 8) .skip (.exit 0))
  (.seq (.block 1 (.seq (.reg [⟨some 9, .p (.mov (.t 7)), none⟩,
    ⟨some 2, .p (.mov (.t 9)), none⟩])
  (.reg [⟨some 10, .p (.mov (.t 2)), none⟩,
    ⟨some 11, .p (.mov (.t 2)), none⟩,
    ⟨some 12, .p (.mov (.t 2)), none⟩,
    ⟨some 13, .p (.bin .add (.t 12) (.c (.int .i64 1))), none⟩,
    ⟨some 14, .v (.build [(.int .i64 0), (.int .i64 0), (.int .i64 0), (.bool false), (.bool false), (.bool false), (.int .i64 0), (.int .i64 0), (.int .i64 0), (.int .i64 0), (.int .i64 0)] [(0, 1, (.c (.int .i64 7))), (1, 1, (.t 13))]), none⟩,
    ⟨some 15, .p (.mov (.t 2)), none⟩,
    ⟨some 16, .v (.build [(.int .i64 0), .nils] [(0, 1, (.t 15))]), none⟩,
    ⟨some 17, .p (.fieldA 0 (.t 1)), none⟩,
    ⟨some 18, .p (.idxA 11 (some 3) (.t 17) (.t 10)), none⟩,
    ⟨none, .h (.store 11 (.t 18) (.t 14)), none⟩,
    ⟨some 19, .p (.fieldA 33 (.t 1)), none⟩,
    ⟨some 20, .p (.idxA 2 (some 3) (.t 19) (.t 11)), none⟩,
    ⟨none, .h (.store 2 (.t 20) (.t 16)), none⟩])))
  (.reg [⟨some 21, .p (.bin .add (.t 7) (.c (.int .i64 1))), none⟩,
    ⟨some 7, .p (.mov (.t 21)), none⟩])))))))
  (.seq (.reg [⟨some 22, .h (.load true 45 (.t 1)), none⟩,
    ⟨none, .h (.store 45 (.t 0) (.t 22)), none⟩])
  .ret))))
def rs9 : List AR := [.cell 0 true 45]
theorem ok9 : okF Try.prog 9 23 ac9 rs9 = true := by kernel_rfl
end Go.Proofs

set_option maxRecDepth 100000
namespace Go.Proofs
open Go Go.Eng
/-- simulacrum/simulacrumlaw37.TokenIsHeldByOne -/
def ac3 : AC := (.seq (.reg [⟨some 6, .p (.mov (.c (.bool false))), none⟩])
  (.seq (.seq (.reg [⟨some 10, .p (.mov (.t 0)), none⟩,
    ⟨some 11, .p (.len false (.t 10)), none⟩,
    ⟨some 12, .p (.bin .gtr (.t 11) (.c (.int .i64 150))), none⟩])
  (.cond (.t 12) (.seq (.reg [⟨some 13, .call 8 [], none⟩,
    ⟨some 6, .p (.mov (.t 13)), none⟩])
  .ret) .skip))
  (.seq (.reg [⟨some 14, .call 9 [], none⟩,
    ⟨some 7, .h (.alloc [(.int .i64 0), (.int .i64 0), (.int .i64 0), (.bool false), (.bool false), (.bool false), (.int .i64 0), (.int .i64 0), (.int .i64 0), (.int .i64 0), (.int .i64 0), (.int .i64 0), (.int .i64 0), (.int .i64 0), (.bool false), (.bool false), (.bool false), (.int .i64 0), (.int .i64 0), (.int .i64 0), (.int .i64 0), (.int .i64 0), (.int .i64 0), (.int .i64 0), (.int .i64 0), (.bool false), (.bool false), (.bool false), (.int .i64 0), (.int .i64 0), (.int .i64 0), (.int .i64 0), (.int .i64 0), (.int .i64 0), .nils, (.int .i64 0), .nils, (.int .i64 0), .nils, .nils, .nils, (.int .i64 0), .nilm, .nilm, .nilm]), none⟩,
    ⟨none, .h (.store 45 (.t 7) (.t 14)), none⟩])
  (.seq (.seq (.reg [⟨some 15, .p (.mov (.t 0)), none⟩,
    ⟨some 16, .p (.len false (.t 15)), none⟩,
    ⟨some 17, .p (.mov (.c (.int .i64 0))), none⟩])
  (.block 0 (.loop (.seq (.reg [⟨some 18, .p (.bin .lss (.t 17) (.t 16)), none⟩])
  (.seq (.cond (.t 18) .skip (.exit 0))
  (.seq (.block 1 (.seq (.reg [⟨some 19, .p (.mov (.t 17)), none⟩,
    ⟨some 20, .p (.idxA 4 none (.t 15) (.t 17)), none⟩,
    ⟨some 21, .h (.load true 4 (.t 20)), none⟩,
    ⟨some 9, .h (.alloc [(.int .u8 0), (.int .u8 0), (.int .u8 0), (.int .u8 0)]), none⟩,
    ⟨some 8, .p (.mov (.t 19)), none⟩,
    ⟨none, .h (.store 4 (.t 9) (.t 21)), none⟩])
  (.seq (.seq (.reg [⟨some 22, .p (.mov (.t 8)), none⟩,
    ⟨some 23, .p (.mov (.t 2)), none⟩,
    ⟨some 24, .p (.conv .i64 (.t 23)), none⟩,
    ⟨some 25, .p (.bin .eql (.t 22) (.t 24)), none⟩])
  (.cond (.t 25) (.reg [⟨some 26, .p (.mov (.t 1)), none⟩,
    ⟨some 27, .p (.binw .rem (.t 26) (.c (.int .u8 3))), none⟩,
    ⟨some 28, .p (.conv .i64 (.t 27)), none⟩,
    ⟨some 29, .p (.fieldA 41 (.t 7)), none⟩,
    ⟨none, .h (.store 1 (.t 29) (.t 28)), none⟩]) .skip))
  (.seq (.reg [⟨some 30, .h (.load true 4 (.t 9)), none⟩,
    ⟨some 31, .call 10 [(.t 7), (.t 30)], none⟩,
    ⟨some 32, .p (.un .not (.t 31)), none⟩])
  (.cond (.t 32) (.seq (.reg [⟨some 6, .p (.mov (.c (.bool false))), none⟩])
  .ret) .skip)))))
  (.reg [⟨some 33, .p (.bin .add (.t 17) (.c (.int .i64 1))), none⟩,
    ⟨some 17, .p (.mov (.t 33)), none⟩])))))))
  (.seq (.reg [⟨some 34, .call 8 [], none⟩,
    ⟨some 6, .p (.mov (.t 34)), none⟩])
  .ret)))))
def rs3 : List AR := [.tmp 6]
theorem ok3 : okF Try.prog 3 35 ac3 rs3 = true := by kernel_rfl
/-- simulacrum/simulacrumlaw37.TokenCanBeHad -/
def ac4 : AC := (.seq (.reg [⟨some 8, .p (.mov (.c (.bool false))), none⟩])
  (.seq (.seq (.reg [⟨some 24, .p (.mov (.t 0)), none⟩,
    ⟨some 25, .p (.len false (.t 24)), none⟩,
    ⟨some 26, .p (.bin .gtr (.t 25) (.c (.int .i64 100))), none⟩])
  (.cond (.t 26) (.seq (.reg [⟨some 27, .call 8 [], none⟩,
    ⟨some 8, .p (.mov (.t 27)), none⟩])
  .ret) .skip))
  (.seq (.reg [⟨some 28, .call 9 [], none⟩,
    ⟨some 9, .h (.alloc [(.int .i64 0), (.int .i64 0), (.int .i64 0), (.bool false), (.bool false), (.bool false), (.int .i64 0), (.int .i64 0), (.int .i64 0), (.int .i64 0), (.int .i64 0), (.int .i64 0), (.int .i64 0), (.int .i64 0), (.bool false), (.bool false), (.bool false), (.int .i64 0), (.int .i64 0), (.int .i64 0), (.int .i64 0), (.int .i64 0), (.int .i64 0), (.int .i64 0), (.int .i64 0), (.bool false), (.bool false), (.bool false), (.int .i64 0), (.int .i64 0), (.int .i64 0), (.int .i64 0), (.int .i64 0), (.int .i64 0), .nils, (.int .i64 0), .nils, (.int .i64 0), .nils, .nils, .nils, (.int .i64 0), .nilm, .nilm, .nilm]), none⟩,
    ⟨none, .h (.store 45 (.t 9) (.t 28)), none⟩])
  (.seq (.seq (.reg [⟨some 29, .p (.mov (.t 0)), none⟩,
    ⟨some 30, .p (.len false (.t 29)), none⟩,
    ⟨some 31, .p (.mov (.c (.int .i64 0))), none⟩])
  (.block 0 (.loop (.seq (.reg [⟨some 32, .p (.bin .lss (.t 31) (.t 30)), none⟩])
  (.seq (.cond (.t 32) .skip (.exit 0))
  (.seq (.block 1 (.seq (.reg [⟨some 33, .p (.idxA 4 none (.t 29) (.t 31)), none⟩,
    ⟨some 34, .h (.load true 4 (.t 33)), none⟩,
    ⟨some 11, .h (.alloc [(.int .u8 0), (.int .u8 0), (.int .u8 0), (.int .u8 0)]), none⟩,
    ⟨none, .h (.store 4 (.t 11) (.t 34)), none⟩])
  (.seq (.reg [⟨some 35, .h (.load true 4 (.t 11)), none⟩,
    ⟨some 36, .call 10 [(.t 9), (.t 35)], none⟩,
    ⟨some 37, .p (.un .not (.t 36)), none⟩])
  (.cond (.t 37) (.seq (.reg [⟨some 8, .p (.mov (.c (.bool false))), none⟩])
  .ret) .skip))))
  (.reg [⟨some 38, .p (.bin .add (.t 31) (.c (.int .i64 1))), none⟩,
    ⟨some 31, .p (.mov (.t 38)), none⟩])))))))
  (.seq (.reg [⟨some 39, .p (.mov (.t 1)), none⟩,
    ⟨some 40, .p (.binw .rem (.t 39) (.c (.int .u8 3))), none⟩,
    ⟨some 41, .p (.fieldA 0 (.t 9)), none⟩,
    ⟨some 42, .p (.idxA 11 (some 3) (.t 41) (.t 40)), none⟩,
    ⟨some 43, .h (.load true 11 (.t 42)), none⟩,
    ⟨some 12, .h (.alloc [(.int .i64 0), (.int .i64 0), (.int .i64 0), (.bool false), (.bool false), (.bool false), (.int .i64 0), (.int .i64 0), (.int .i64 0), (.int .i64 0), (.int .i64 0)]), none⟩,
    ⟨none, .h (.store 11 (.t 12) (.t 43)), none⟩])
  (.seq (.reg [⟨some 44, .p (.fieldA 2 (.t 12)), none⟩,
    ⟨some 45, .h (.load false 1 (.t 44)), none⟩,
    ⟨some 46, .p (.fieldA 10 (.t 12)), none⟩,
    ⟨some 47, .h (.load false 1 (.t 46)), none⟩,
    ⟨some 48, .p (.mm true (.t 45) (.t 47)), none⟩,
    ⟨some 13, .p (.mov (.t 48)), none⟩])
  (.seq (.seq (.reg [⟨some 49, .p (.fieldA 33 (.t 9)), none⟩,
    ⟨some 50, .h (.load true 6 (.t 49)), none⟩,
    ⟨some 51, .p (.mov (.c (.int .i64 0))), none⟩])
  (.block 2 (.loop (.seq (.reg [⟨some 52, .p (.bin .lss (.t 51) (.c (.int .i64 3))), none⟩])
  (.seq (.cond (.t 52) .skip (.exit 2))
  (.seq (.block 3 (.seq (.reg [⟨some 53, .v (.idx true 2 3 (.t 50) (.t 51)), none⟩,
    ⟨some 15, .h (.alloc [(.int .i64 0), .nils]), none⟩,
    ⟨none, .h (.store 2 (.t 15) (.t 53)), none⟩])
  (.seq (.reg [⟨some 54, .p (.fieldA 1 (.t 15)), none⟩,
    ⟨some 55, .h (.load false 1 (.t 54)), none⟩,
    ⟨some 56, .p (.len false (.t 55)), none⟩,
    ⟨some 57, .p (.mov (.c (.int .i64 0))), none⟩])
  (.block 4 (.loop (.seq (.reg [⟨some 58, .p (.bin .lss (.t 57) (.t 56)), none⟩])
  (.seq (.cond (.t 58) .skip (.exit 4))
  (.seq (.block 5 (.seq (.reg [⟨some 59, .p (.idxA 4 none (.t 55) (.t 57)), none⟩,
    ⟨some 60, .h (.load true 4 (.t 59)), none⟩,
    ⟨some 17, .h (.alloc [(.int .i64 0), (.int .i64 0), (.int .i64 0), (.int .i64 0)]), none⟩,
    ⟨none, .h (.store 4 (.t 17) (.t 60)), none⟩])
  (.reg [⟨some 61, .p (.mov (.t 13)), none⟩,
    ⟨some 62, .p (.fieldA 1 (.t 17)), none⟩,
    ⟨some 63, .h (.load false 1 (.t 62)), none⟩,
    ⟨some 64, .p (.mm true (.t 61) (.t 63)), none⟩,
    ⟨some 13, .p (.mov (.t 64)), none⟩])))
  (.reg [⟨some 65, .p (.bin .add (.t 57) (.c (.int .i64 1))), none⟩,
    ⟨some 57, .p (.mov (.t 65)), none⟩])))))))))
  (.reg [⟨some 66, .p (.bin .add (.t 51) (.c (.int .i64 1))), none⟩,
    ⟨some 51, .p (.mov (.t 66)), none⟩])))))))
  (.seq (.reg [⟨some 68, .h (.load true 11 (.t 12)), none⟩,
    ⟨some 69, .p (.mov (.t 13)), none⟩,
    ⟨some 70, .p (.bin .add (.t 69) (.c (.int .i64 1))), none⟩,
    ⟨some 71, .call 11 [(.t 68), (.t 70)], none⟩,
    ⟨some 67, .p (.mov (.t 71)), none⟩,
    ⟨some 72, .p (.extract 0 (.t 67)), none⟩,
    ⟨some 73, .p (.extract 1 (.t 67)), none⟩,
    ⟨some 74, .p (.extract 2 (.t 67)), none⟩,
    ⟨some 18, .h (.alloc [(.int .i64 0), (.int .i64 0), (.int .i64 0), (.int .i64 0), (.int .i64 0)]), none⟩,
    ⟨none, .h (.store 11 (.t 12) (.t 72)), none⟩,
    ⟨none, .h (.store 5 (.t 18) (.t 73)), none⟩,
    ⟨some 19, .p (.mov (.t 74)), none⟩])
  (.seq (.seq (.reg [⟨some 75, .p (.mov (.t 19)), none⟩,
    ⟨some 76, .p (.bin .neq (.t 75) (.c (.int .i64 0))), none⟩])
  (.cond (.t 76) (.seq (.reg [⟨some 8, .p (.mov (.c (.bool false))), none⟩])
  .ret) .skip))
  (.seq (.reg [⟨some 77, .p (.mov (.t 2)), none⟩,
    ⟨some 78, .p (.conv .i64 (.t 77)), none⟩,
    ⟨some 79, .p (.bin .add (.t 78) (.c (.int .i64 1))), none⟩,
    ⟨some 80, .p (.bin .rem (.t 79) (.c (.int .i64 3))), none⟩,
    ⟨some 81, .p (.mov (.t 2)), none⟩,
    ⟨some 82, .p (.conv .i64 (.t 81)), none⟩,
    ⟨some 83, .p (.bin .add (.t 82) (.c (.int .i64 2))), none⟩,
    ⟨some 84, .p (.bin .rem (.t 83) (.c (.int .i64 3))), none⟩,
    ⟨some 20, .p (.mov (.t 80)), none⟩,
    ⟨some 21, .p (.mov (.t 84)), none⟩])
  (.seq (.reg [⟨some 86, .p (.fieldA 33 (.t 9)), none⟩,
    ⟨some 87, .h (.load true 11 (.t 12)), none⟩,
    ⟨some 88, .h (.load true 5 (.t 18)), none⟩,
    ⟨some 89, .p (.mov (.t 20)), none⟩,
    ⟨some 90, .p (.mov (.t 21)), none⟩,
    ⟨some 91, .d (.bslice 1 2 [(.int .i64 0)] [(0, (.t 89)), (1, (.t 90))]), none⟩,
    ⟨some 92, .call 12 [(.t 86), (.t 87), (.t 88), (.t 91)], none⟩,
    ⟨some 85, .p (.mov (.t 92)), none⟩,
    ⟨some 93, .p (.extract 0 (.t 85)), none⟩,
    ⟨some 94, .p (.extract 1 (.t 85)), none⟩,
    ⟨none, .h (.store 11 (.t 12) (.t 93)), none⟩,
    ⟨some 22, .p (.mov (.t 94)), none⟩])
  (.seq (.seq (.reg [⟨some 95, .p (.mov (.t 22)), none⟩,
    ⟨some 96, .p (.un .not (.t 95)), none⟩,
    ⟨some 97, .p (.mov (.t 96)), none⟩,
    ⟨some 98, .h (.load true 11 (.t 12)), (some (97, false))⟩,
    ⟨some 99, .call 13 [(.t 98)], (some (97, false))⟩,
    ⟨some 100, .p (.un .not (.t 99)), (some (97, false))⟩,
    ⟨some 101, .p (.pick (.t 97) (.c (.bool true)) (.t 100)), none⟩])
  (.cond (.t 101) (.seq (.reg [⟨some 8, .p (.mov (.c (.bool false))), none⟩])
  .ret) .skip))
  (.seq (.reg [⟨some 103, .h (.load true 11 (.t 12)), none⟩,
    ⟨some 104, .p (.mov (.t 3)), none⟩,
    ⟨some 105, .p (.conv .i64 (.t 104)), none⟩,
    ⟨some 106, .call 14 [(.t 103), (.t 105)], none⟩,
    ⟨some 102, .p (.mov (.t 106)), none⟩,
    ⟨some 107, .p (.extract 0 (.t 102)), none⟩,
    ⟨some 108, .p (.extract 1 (.t 102)), none⟩,
    ⟨none, .h (.store 5 (.t 18) (.t 107)), none⟩,
    ⟨some 19, .p (.mov (.t 108)), none⟩])
  (.seq (.reg [⟨some 110, .p (.fieldA 33 (.t 9)), none⟩,
    ⟨some 111, .h (.load true 11 (.t 12)), none⟩,
    ⟨some 112, .h (.load true 5 (.t 18)), none⟩,
    ⟨some 113, .p (.mov (.t 20)), none⟩,
    ⟨some 114, .p (.mov (.t 21)), none⟩,
    ⟨some 115, .d (.bslice 1 2 [(.int .i64 0)] [(0, (.t 113)), (1, (.t 114))]), none⟩,
    ⟨some 116, .call 12 [(.t 110), (.t 111), (.t 112), (.t 115)], none⟩,
    ⟨some 109, .p (.mov (.t 116)), none⟩,
    ⟨some 117, .p (.extract 0 (.t 109)), none⟩,
    ⟨some 118, .p (.extract 1 (.t 109)), none⟩,
    ⟨none, .h (.store 11 (.t 12) (.t 117)), none⟩,
    ⟨some 23, .p (.mov (.t 118)), none⟩])
  (.seq (.reg [⟨some 119, .call 8 [], none⟩,
    ⟨some 120, .p (.mov (.t 119)), none⟩,
    ⟨some 121, .p (.mov (.t 19)), (some (120, true))⟩,
    ⟨some 122, .p (.bin .eql (.t 121) (.c (.int .i64 0))), (some (120, true))⟩,
    ⟨some 123, .p (.pick (.t 120) (.t 122) (.c (.bool false))), none⟩,
    ⟨some 124, .p (.mov (.t 123)), none⟩,
    ⟨some 125, .p (.mov (.t 23)), (some (124, true))⟩,
    ⟨some 126, .p (.pick (.t 124) (.t 125) (.c (.bool false))), none⟩,
    ⟨some 127, .p (.mov (.t 126)), none⟩,
    ⟨some 128, .h (.load true 11 (.t 12)), (some (127, true))⟩,
    ⟨some 129, .call 15 [(.t 128)], (some (127, true))⟩,
    ⟨some 130, .p (.mov (.t 3)), (some (127, true))⟩,
    ⟨some 131, .p (.conv .i64 (.t 130)), (some (127, true))⟩,
    ⟨some 132, .p (.bin .eql (.t 129) (.t 131)), (some (127, true))⟩,
    ⟨some 133, .p (.pick (.t 127) (.t 132) (.c (.bool false))), none⟩,
    ⟨some 8, .p (.mov (.t 133)), none⟩])
  .ret)))))))))))))))
def rs4 : List AR := [.tmp 8]
theorem ok4 : okF Try.prog 4 134 ac4 rs4 = true := by kernel_rfl
/-- simulacrum/simulacrumlaw37.TokenHoldsAsSpecified -/
def ac6 : AC := (.seq (.reg [⟨some 3, .h (.box (.t 0)), none⟩,
    ⟨some 5, .h (.box (.t 2)), none⟩,
    ⟨some 6, .p (.mov (.c (.bool false))), none⟩])
  (.seq (.seq (.draw 5 [] [⟨some 15, .h (.load true 11 (.t 3)), none⟩,
    ⟨some 16, .call 19 [(.t 15)], none⟩,
    ⟨some 17, .h (.load true 11 (.t 3)), none⟩,
    ⟨some 18, .call 20 [(.t 17)], none⟩,
    ⟨some 19, .p (.beq true (.t 16) (.t 18)), none⟩])
  (.cond (.t 19) (.seq (.reg [⟨some 6, .p (.mov (.c (.bool false))), none⟩])
  .ret) .skip))
  (.seq (.seq (.reg [⟨some 20, .h (.load true 11 (.t 3)), none⟩,
    ⟨some 21, .call 20 [(.t 20)], none⟩,
    ⟨some 22, .p (.un .not (.t 21)), none⟩])
  (.cond (.t 22) (.seq (.reg [⟨some 23, .call 8 [], none⟩,
    ⟨some 6, .p (.mov (.t 23)), none⟩])
  .ret) .skip))
  (.seq (.reg [⟨some 25, .h (.load true 11 (.t 3)), none⟩,
    ⟨some 26, .p (.mov (.t 1)), none⟩,
    ⟨some 27, .call 11 [(.t 25), (.t 26)], none⟩,
    ⟨some 24, .p (.mov (.t 27)), none⟩,
    ⟨some 28, .p (.extract 0 (.t 24)), none⟩,
    ⟨some 29, .p (.extract 1 (.t 24)), none⟩,
    ⟨some 30, .p (.extract 2 (.t 24)), none⟩,
    ⟨some 7, .h (.alloc [(.int .i64 0), (.int .i64 0), (.int .i64 0), (.bool false), (.bool false), (.bool false), (.int .i64 0), (.int .i64 0), (.int .i64 0), (.int .i64 0), (.int .i64 0)]), none⟩,
    ⟨some 8, .h (.alloc [(.int .i64 0), (.int .i64 0), (.int .i64 0), (.int .i64 0), (.int .i64 0)]), none⟩,
    ⟨none, .h (.store 11 (.t 7) (.t 28)), none⟩,
    ⟨none, .h (.store 5 (.t 8) (.t 29)), none⟩,
    ⟨some 9, .p (.mov (.t 30)), none⟩])
  (.seq (.reg [⟨some 32, .h (.load true 11 (.t 3)), none⟩,
    ⟨some 33, .p (.mov (.t 1)), none⟩,
    ⟨some 34, .call 14 [(.t 32), (.t 33)], none⟩,
    ⟨some 31, .p (.mov (.t 34)), none⟩,
    ⟨some 35, .p (.extract 0 (.t 31)), none⟩,
    ⟨some 36, .p (.extract 1 (.t 31)), none⟩,
    ⟨some 10, .h (.alloc [(.int .i64 0), (.int .i64 0), (.int .i64 0), (.int .i64 0), (.int .i64 0)]), none⟩,
    ⟨none, .h (.store 5 (.t 10) (.t 35)), none⟩,
    ⟨some 11, .p (.mov (.t 36)), none⟩])
  (.seq (.draw 10 [(6, 8), (0, 8), (7, 8), (7, 9), (8, 9), (0, 9), (3, 9), (6, 9)] [⟨some 37, .h (.load true 11 (.t 3)), none⟩,
    ⟨some 38, .p (.mov (.t 1)), none⟩,
    ⟨some 39, .call 21 [(.t 37), (.t 38)], none⟩,
    ⟨some 40, .h (.load true 11 (.t 3)), none⟩,
    ⟨some 41, .p (.mov (.t 1)), none⟩,
    ⟨some 42, .call 22 [(.t 40), (.t 41)], none⟩,
    ⟨some 12, .h (.alloc [(.int .i64 0), (.int .i64 0), (.int .i64 0), (.bool false), (.bool false), (.bool false), (.int .i64 0), (.int .i64 0), (.int .i64 0), (.int .i64 0), (.int .i64 0), (.int .i64 0), (.int .i64 0), (.int .i64 0), (.int .i64 0), (.int .i64 0), (.int .i64 0)]), none⟩,
    ⟨some 13, .h (.alloc [(.int .i64 0), (.int .i64 0), (.int .i64 0), (.bool false), (.bool false), (.bool false), (.int .i64 0), (.int .i64 0), (.int .i64 0), (.int .i64 0), (.int .i64 0), (.int .i64 0), (.int .i64 0), (.int .i64 0), (.int .i64 0), (.int .i64 0), (.int .i64 0)]), none⟩,
    ⟨none, .h (.store 17 (.t 12) (.t 39)), none⟩,
    ⟨none, .h (.store 17 (.t 13) (.t 42)), none⟩])
  (.seq (.reg [⟨some 43, .h (.load true 11 (.t 3)), none⟩,
    ⟨some 44, .h (.load true 9 (.t 5)), none⟩,
    ⟨some 45, .call 23 [(.t 43), (.t 44)], none⟩,
    ⟨some 14, .h (.alloc [(.int .i64 0), (.int .i64 0), (.int .i64 0), (.bool false), (.bool false), (.bool false), (.int .i64 0), (.int .i64 0), (.int .i64 0), (.int .i64 0), (.int .i64 0)]), none⟩,
    ⟨none, .h (.store 11 (.t 14) (.t 45)), none⟩])
  (.seq (.draw 61 [] [⟨some 46, .call 8 [], none⟩,
    ⟨some 47, .p (.mov (.t 46)), none⟩,
    ⟨some 48, .h (.load true 11 (.t 7)), (some (47, true))⟩,
    ⟨some 49, .p (.fieldA 0 (.t 12)), (some (47, true))⟩,
    ⟨some 50, .h (.load true 11 (.t 49)), (some (47, true))⟩,
    ⟨some 51, .v (.eqa false [(.i .i64), (.i .i64), (.i .i64), .b, .b, .b, (.i .i64), (.i .i64), (.i .i64), (.i .i64), (.i .i64)] (.t 48) (.t 50)), (some (47, true))⟩,
    ⟨some 52, .p (.pick (.t 47) (.t 51) (.c (.bool false))), none⟩,
    ⟨some 53, .p (.mov (.t 52)), none⟩,
    ⟨some 54, .h (.load true 5 (.t 8)), (some (53, true))⟩,
    ⟨some 55, .p (.fieldA 11 (.t 12)), (some (53, true))⟩,
    ⟨some 56, .h (.load true 5 (.t 55)), (some (53, true))⟩,
    ⟨some 57, .v (.eqa false [(.i .i64), (.i .i64), (.i .i64), (.i .i64), (.i .i64)] (.t 54) (.t 56)), (some (53, true))⟩,
    ⟨some 58, .p (.pick (.t 53) (.t 57) (.c (.bool false))), none⟩,
    ⟨some 59, .p (.mov (.t 58)), none⟩,
    ⟨some 60, .p (.mov (.t 9)), (some (59, true))⟩,
    ⟨some 61, .p (.fieldA 16 (.t 12)), (some (59, true))⟩,
    ⟨some 62, .h (.load false 1 (.t 61)), (some (59, true))⟩,
    ⟨some 63, .p (.bin .eql (.t 60) (.t 62)), (some (59, true))⟩,
    ⟨some 64, .p (.pick (.t 59) (.t 63) (.c (.bool false))), none⟩,
    ⟨some 65, .p (.mov (.t 64)), none⟩,
    ⟨some 66, .h (.load true 5 (.t 10)), (some (65, true))⟩,
    ⟨some 67, .p (.fieldA 11 (.t 13)), (some (65, true))⟩,
    ⟨some 68, .h (.load true 5 (.t 67)), (some (65, true))⟩,
    ⟨some 69, .v (.eqa false [(.i .i64), (.i .i64), (.i .i64), (.i .i64), (.i .i64)] (.t 66) (.t 68)), (some (65, true))⟩,
    ⟨some 70, .p (.pick (.t 65) (.t 69) (.c (.bool false))), none⟩,
    ⟨some 71, .p (.mov (.t 70)), none⟩,
    ⟨some 72, .p (.mov (.t 11)), (some (71, true))⟩,
    ⟨some 73, .p (.fieldA 16 (.t 13)), (some (71, true))⟩,
    ⟨some 74, .h (.load false 1 (.t 73)), (some (71, true))⟩,
    ⟨some 75, .p (.bin .eql (.t 72) (.t 74)), (some (71, true))⟩,
    ⟨some 76, .p (.pick (.t 71) (.t 75) (.c (.bool false))), none⟩,
    ⟨some 77, .p (.mov (.t 76)), none⟩,
    ⟨some 78, .h (.load true 11 (.t 14)), (some (77, true))⟩,
    ⟨some 79, .h (.load true 11 (.t 3)), (some (77, true))⟩,
    ⟨some 80, .h (.load true 9 (.t 5)), (some (77, true))⟩,
    ⟨some 81, .call 24 [(.t 79), (.t 80)], (some (77, true))⟩,
    ⟨some 82, .v (.eqa false [(.i .i64), (.i .i64), (.i .i64), .b, .b, .b, (.i .i64), (.i .i64), (.i .i64), (.i .i64), (.i .i64)] (.t 78) (.t 81)), (some (77, true))⟩,
    ⟨some 83, .p (.pick (.t 77) (.t 82) (.c (.bool false))), none⟩,
    ⟨some 84, .p (.mov (.t 83)), none⟩,
    ⟨some 85, .h (.load true 11 (.t 3)), (some (84, true))⟩,
    ⟨some 86, .call 13 [(.t 85)], (some (84, true))⟩,
    ⟨some 87, .h (.load true 11 (.t 3)), (some (84, true))⟩,
    ⟨some 88, .call 25 [(.t 87)], (some (84, true))⟩,
    ⟨some 89, .p (.beq false (.t 86) (.t 88)), (some (84, true))⟩,
    ⟨some 90, .p (.pick (.t 84) (.t 89) (.c (.bool false))), none⟩,
    ⟨some 91, .p (.mov (.t 90)), none⟩,
    ⟨some 92, .h (.load true 11 (.t 3)), (some (91, true))⟩,
    ⟨some 93, .call 15 [(.t 92)], (some (91, true))⟩,
    ⟨some 94, .h (.load true 11 (.t 3)), (some (91, true))⟩,
    ⟨some 95, .call 26 [(.t 94)], (some (91, true))⟩,
    ⟨some 96, .p (.bin .eql (.t 93) (.t 95)), (some (91, true))⟩,
    ⟨some 97, .p (.pick (.t 91) (.t 96) (.c (.bool false))), none⟩,
    ⟨some 98, .p (.mov (.t 97)), none⟩,
    ⟨some 99, .h (.load true 11 (.t 7)), (some (98, true))⟩,
    ⟨some 100, .call 19 [(.t 99)], (some (98, true))⟩,
    ⟨some 101, .p (.pick (.t 98) (.t 100) (.c (.bool false))), none⟩,
    ⟨some 102, .p (.mov (.t 101)), none⟩,
    ⟨some 103, .h (.load true 11 (.t 14)), (some (102, true))⟩,
    ⟨some 104, .call 19 [(.t 103)], (some (102, true))⟩,
    ⟨some 105, .p (.pick (.t 102) (.t 104) (.c (.bool false))), none⟩,
    ⟨some 6, .p (.mov (.t 105)), none⟩])
  .ret))))))))
def rs6 : List AR := [.tmp 6]
theorem ok6 : okF Try.prog 6 106 ac6 rs6 = true := by kernel_rfl
/-- simulacrum/simulacrumlaw37.TokenHearsAsSpecified -/
def ac7 : AC := (.seq (.reg [⟨some 2, .h (.box (.t 0)), none⟩,
    ⟨some 3, .h (.box (.t 1)), none⟩,
    ⟨some 4, .p (.mov (.c (.bool false))), none⟩])
  (.seq (.seq (.reg [⟨some 9, .p (.fieldA 1 (.t 2)), none⟩,
    ⟨some 10, .h (.load false 1 (.t 9)), none⟩,
    ⟨some 11, .p (.len false (.t 10)), none⟩,
    ⟨some 12, .p (.bin .gtr (.t 11) (.c (.int .i64 70))), none⟩])
  (.cond (.t 12) (.seq (.reg [⟨some 13, .call 8 [], none⟩,
    ⟨some 4, .p (.mov (.t 13)), none⟩])
  .ret) .skip))
  (.seq (.seq (.draw 5 [] [⟨some 14, .h (.load true 2 (.t 2)), none⟩,
    ⟨some 15, .call 27 [(.t 14)], none⟩,
    ⟨some 16, .h (.load true 2 (.t 2)), none⟩,
    ⟨some 17, .call 16 [(.t 16)], none⟩,
    ⟨some 18, .p (.beq true (.t 15) (.t 17)), none⟩])
  (.cond (.t 18) (.seq (.reg [⟨some 4, .p (.mov (.c (.bool false))), none⟩])
  .ret) .skip))
  (.seq (.seq (.reg [⟨some 19, .h (.load true 2 (.t 2)), none⟩,
    ⟨some 20, .call 16 [(.t 19)], none⟩,
    ⟨some 21, .p (.un .not (.t 20)), none⟩])
  (.cond (.t 21) (.seq (.reg [⟨some 22, .call 8 [], none⟩,
    ⟨some 4, .p (.mov (.t 22)), none⟩])
  .ret) .skip))
  (.seq (.reg [⟨some 24, .h (.load true 2 (.t 2)), none⟩,
    ⟨some 25, .h (.load true 5 (.t 3)), none⟩,
    ⟨some 26, .call 17 [(.t 24), (.t 25)], none⟩,
    ⟨some 23, .p (.mov (.t 26)), none⟩,
    ⟨some 27, .p (.extract 0 (.t 23)), none⟩,
    ⟨some 28, .p (.extract 1 (.t 23)), none⟩,
    ⟨some 29, .p (.extract 2 (.t 23)), none⟩,
    ⟨some 5, .h (.alloc [(.int .i64 0), .nils]), none⟩,
    ⟨some 6, .h (.alloc [(.int .i64 0), (.int .i64 0), (.int .i64 0), (.int .i64 0), (.int .i64 0), (.int .i64 0), (.bool false), (.int .i64 0), (.int .i64 0)]), none⟩,
    ⟨none, .h (.store 2 (.t 5) (.t 27)), none⟩,
    ⟨none, .h (.store 9 (.t 6) (.t 28)), none⟩,
    ⟨some 7, .p (.mov (.t 29)), none⟩])
  (.seq (.reg [⟨some 30, .h (.load true 2 (.t 2)), none⟩,
    ⟨some 31, .h (.load true 5 (.t 3)), none⟩,
    ⟨some 32, .call 28 [(.t 30), (.t 31)], none⟩,
    ⟨some 8, .h (.alloc [(.int .i64 0), .nils, (.int .i64 0), (.int .i64 0), (.int .i64 0), (.int .i64 0), (.int .i64 0), (.int .i64 0), (.bool false), (.int .i64 0), (.int .i64 0), (.int .i64 0)]), none⟩,
    ⟨none, .h (.store 12 (.t 8) (.t 32)), none⟩])
  (.seq (.reg [⟨some 33, .call 8 [], none⟩,
    ⟨some 34, .p (.mov (.t 33)), none⟩,
    ⟨some 35, .h (.load true 2 (.t 5)), (some (34, true))⟩,
    ⟨some 36, .p (.fieldA 0 (.t 8)), (some (34, true))⟩,
    ⟨some 37, .h (.load true 2 (.t 36)), (some (34, true))⟩,
    ⟨some 38, .call 18 [(.t 35), (.t 37)], (some (34, true))⟩,
    ⟨some 39, .p (.pick (.t 34) (.t 38) (.c (.bool false))), none⟩,
    ⟨some 40, .p (.mov (.t 39)), none⟩,
    ⟨some 41, .h (.load true 9 (.t 6)), (some (40, true))⟩,
    ⟨some 42, .p (.fieldA 2 (.t 8)), (some (40, true))⟩,
    ⟨some 43, .h (.load true 9 (.t 42)), (some (40, true))⟩,
    ⟨some 44, .v (.eqa false [(.i .i64), (.i .i64), (.i .i64), (.i .i64), (.i .i64), (.i .i64), .b, (.i .i64), (.i .i64)] (.t 41) (.t 43)), (some (40, true))⟩,
    ⟨some 45, .p (.pick (.t 40) (.t 44) (.c (.bool false))), none⟩,
    ⟨some 46, .p (.mov (.t 45)), none⟩,
    ⟨some 47, .p (.mov (.t 7)), (some (46, true))⟩,
    ⟨some 48, .p (.fieldA 11 (.t 8)), (some (46, true))⟩,
    ⟨some 49, .h (.load false 1 (.t 48)), (some (46, true))⟩,
    ⟨some 50, .p (.bin .eql (.t 47) (.t 49)), (some (46, true))⟩,
    ⟨some 51, .p (.pick (.t 46) (.t 50) (.c (.bool false))), none⟩,
    ⟨some 52, .p (.mov (.t 51)), none⟩,
    ⟨some 53, .h (.load true 2 (.t 5)), (some (52, true))⟩,
    ⟨some 54, .call 27 [(.t 53)], (some (52, true))⟩,
    ⟨some 55, .p (.pick (.t 52) (.t 54) (.c (.bool false))), none⟩,
    ⟨some 4, .p (.mov (.t 55)), none⟩])
  .ret)))))))
def rs7 : List AR := [.tmp 4]
theorem ok7 : okF Try.prog 7 56 ac7 rs7 = true := by kernel_rfl
/-- simulacrum/simulacrumlaw37.sanity -/
def ac8 : AC := (.seq (.reg [⟨some 0, .p (.mov (.c (.bool false))), none⟩])
  (.seq (.reg [⟨some 16, .v (.build [(.int .i64 0), .nils] [(0, 1, (.c (.int .i64 0)))]), none⟩,
    ⟨some 17, .v (.build [(.int .i64 0), .nils] [(0, 1, (.c (.int .i64 1)))]), none⟩,
    ⟨some 18, .v (.build [(.int .i64 0), .nils] [(0, 1, (.c (.int .i64 2)))]), none⟩,
    ⟨some 19, .v (.build [(.int .i64 0), .nils, (.int .i64 0), .nils, (.int .i64 0), .nils] [(0, 2, (.t 16)), (2, 2, (.t 17)), (4, 2, (.t 18))]), none⟩,
    ⟨some 1, .h (.alloc [(.int .i64 0), .nils, (.int .i64 0), .nils, (.int .i64 0), .nils]), none⟩,
    ⟨none, .h (.store 6 (.t 1) (.t 19)), none⟩])
  (.seq (.reg [⟨some 20, .v (.build [(.int .i64 0), (.int .i64 0), (.int .i64 0), (.bool false), (.bool false), (.bool false), (.int .i64 0), (.int .i64 0), (.int .i64 0), (.int .i64 0), (.int .i64 0)] [(0, 1, (.c (.int .i64 5))), (1, 1, (.c (.int .i64 1)))]), none⟩,
    ⟨some 21, .v (.build [(.int .i64 0), (.int .i64 0), (.int .i64 0), (.bool false), (.bool false), (.bool false), (.int .i64 0), (.int .i64 0), (.int .i64 0), (.int .i64 0), (.int .i64 0)] [(0, 1, (.c (.int .i64 5))), (1, 1, (.c (.int .i64 2)))]), none⟩,
    ⟨some 2, .h (.alloc [(.int .i64 0), (.int .i64 0), (.int .i64 0), (.bool false), (.bool false), (.bool false), (.int .i64 0), (.int .i64 0), (.int .i64 0), (.int .i64 0), (.int .i64 0)]), none⟩,
    ⟨some 3, .h (.alloc [(.int .i64 0), (.int .i64 0), (.int .i64 0), (.bool false), (.bool false), (.bool false), (.int .i64 0), (.int .i64 0), (.int .i64 0), (.int .i64 0), (.int .i64 0)]), none⟩,
    ⟨none, .h (.store 11 (.t 2) (.t 20)), none⟩,
    ⟨none, .h (.store 11 (.t 3) (.t 21)), none⟩])
  (.seq (.reg [⟨some 23, .h (.load true 11 (.t 2)), none⟩,
    ⟨some 24, .call 11 [(.t 23), (.c (.int .i64 3))], none⟩,
    ⟨some 22, .p (.mov (.t 24)), none⟩,
    ⟨some 25, .p (.extract 0 (.t 22)), none⟩,
    ⟨some 26, .p (.extract 1 (.t 22)), none⟩,
    ⟨some 27, .p (.extract 2 (.t 22)), none⟩,
    ⟨some 4, .h (.alloc [(.int .i64 0), (.int .i64 0), (.int .i64 0), (.int .i64 0), (.int .i64 0)]), none⟩,
    ⟨none, .h (.store 11 (.t 2) (.t 25)), none⟩,
    ⟨none, .h (.store 5 (.t 4) (.t 26)), none⟩,
    ⟨some 5, .p (.mov (.t 27)), none⟩])
  (.seq (.reg [⟨some 29, .h (.load true 11 (.t 2)), none⟩,
    ⟨some 30, .h (.load true 5 (.t 4)), none⟩,
    ⟨some 31, .d (.bslice 1 2 [(.int .i64 0)] [(0, (.c (.int .i64 0))), (1, (.c (.int .i64 1)))]), none⟩,
    ⟨some 32, .call 12 [(.t 1), (.t 29), (.t 30), (.t 31)], none⟩,
    ⟨some 28, .p (.mov (.t 32)), none⟩,
    ⟨some 33, .p (.extract 0 (.t 28)), none⟩,
    ⟨some 34, .p (.extract 1 (.t 28)), none⟩,
    ⟨none, .h (.store 11 (.t 2) (.t 33)), none⟩])
  (.seq (.reg [⟨some 35, .h (.load true 11 (.t 2)), none⟩,
    ⟨some 36, .call 13 [(.t 35)], none⟩,
    ⟨some 37, .p (.mov (.t 36)), none⟩,
    ⟨some 38, .p (.fieldA 6 (.t 2)), (some (37, true))⟩,
    ⟨some 39, .h (.load false 1 (.t 38)), (some (37, true))⟩,
    ⟨some 40, .p (.bin .eql (.t 39) (.c (.int .i64 0))), (some (37, true))⟩,
    ⟨some 41, .p (.pick (.t 37) (.t 40) (.c (.bool false))), none⟩,
    ⟨some 6, .p (.mov (.t 41)), none⟩])
  (.seq (.reg [⟨some 43, .h (.load true 11 (.t 2)), none⟩,
    ⟨some 44, .call 14 [(.t 43), (.c (.int .i64 4))], none⟩,
    ⟨some 42, .p (.mov (.t 44)), none⟩,
    ⟨some 45, .p (.extract 0 (.t 42)), none⟩,
    ⟨some 46, .p (.extract 1 (.t 42)), none⟩,
    ⟨none, .h (.store 5 (.t 4) (.t 45)), none⟩,
    ⟨some 7, .p (.mov (.t 46)), none⟩])
  (.seq (.reg [⟨some 48, .h (.load true 11 (.t 2)), none⟩,
    ⟨some 49, .h (.load true 5 (.t 4)), none⟩,
    ⟨some 50, .d (.bslice 1 2 [(.int .i64 0)] [(0, (.c (.int .i64 0))), (1, (.c (.int .i64 1)))]), none⟩,
    ⟨some 51, .call 12 [(.t 1), (.t 48), (.t 49), (.t 50)], none⟩,
    ⟨some 47, .p (.mov (.t 51)), none⟩,
    ⟨some 52, .p (.extract 0 (.t 47)), none⟩,
    ⟨some 53, .p (.extract 1 (.t 47)), none⟩,
    ⟨none, .h (.store 11 (.t 2) (.t 52)), none⟩])
  (.seq (.reg [⟨some 54, .h (.load true 11 (.t 2)), none⟩,
    ⟨some 55, .call 15 [(.t 54)], none⟩,
    ⟨some 8, .p (.mov (.t 55)), none⟩])
  (.seq (.reg [⟨some 57, .h (.load true 11 (.t 3)), none⟩,
    ⟨some 58, .call 11 [(.t 57), (.c (.int .i64 4))], none⟩,
    ⟨some 56, .p (.mov (.t 58)), none⟩,
    ⟨some 59, .p (.extract 0 (.t 56)), none⟩,
    ⟨some 60, .p (.extract 1 (.t 56)), none⟩,
    ⟨some 61, .p (.extract 2 (.t 56)), none⟩,
    ⟨none, .h (.store 11 (.t 3) (.t 59)), none⟩,
    ⟨none, .h (.store 5 (.t 4) (.t 60)), none⟩,
    ⟨some 9, .p (.mov (.t 61)), none⟩])
  (.seq (.reg [⟨some 63, .h (.load true 11 (.t 3)), none⟩,
    ⟨some 64, .h (.load true 5 (.t 4)), none⟩,
    ⟨some 65, .d (.bslice 1 2 [(.int .i64 0)] [(0, (.c (.int .i64 1))), (1, (.c (.int .i64 2)))]), none⟩,
    ⟨some 66, .call 12 [(.t 1), (.t 63), (.t 64), (.t 65)], none⟩,
    ⟨some 62, .p (.mov (.t 66)), none⟩,
    ⟨some 67, .p (.extract 0 (.t 62)), none⟩,
    ⟨some 68, .p (.extract 1 (.t 62)), none⟩,
    ⟨none, .h (.store 11 (.t 3) (.t 67)), none⟩])
  (.seq (.reg [⟨some 69, .h (.load true 11 (.t 3)), none⟩,
    ⟨some 70, .call 13 [(.t 69)], none⟩,
    ⟨some 71, .p (.mov (.t 70)), none⟩,
    ⟨some 72, .p (.fieldA 6 (.t 3)), (some (71, true))⟩,
    ⟨some 73, .h (.load false 1 (.t 72)), (some (71, true))⟩,
    ⟨some 74, .p (.bin .eql (.t 73) (.c (.int .i64 4))), (some (71, true))⟩,
    ⟨some 75, .p (.pick (.t 71) (.t 74) (.c (.bool false))), none⟩,
    ⟨some 10, .p (.mov (.t 75)), none⟩])
  (.seq (.reg [⟨some 77, .h (.load true 11 (.t 2)), none⟩,
    ⟨some 78, .call 14 [(.t 77), (.c (.int .i64 6))], none⟩,
    ⟨some 76, .p (.mov (.t 78)), none⟩,
    ⟨some 79, .p (.extract 0 (.t 76)), none⟩,
    ⟨some 80, .p (.extract 1 (.t 76)), none⟩,
    ⟨none, .h (.store 5 (.t 4) (.t 79)), none⟩,
    ⟨some 11, .p (.mov (.t 80)), none⟩])
  (.seq (.reg [⟨some 82, .h (.load true 11 (.t 2)), none⟩,
    ⟨some 83, .h (.load true 5 (.t 4)), none⟩,
    ⟨some 84, .d (.bslice 1 2 [(.int .i64 0)] [(0, (.c (.int .i64 0))), (1, (.c (.int .i64 1)))]), none⟩,
    ⟨some 85, .call 12 [(.t 1), (.t 82), (.t 83), (.t 84)], none⟩,
    ⟨some 81, .p (.mov (.t 85)), none⟩,
    ⟨some 86, .p (.extract 0 (.t 81)), none⟩,
    ⟨some 87, .p (.extract 1 (.t 81)), none⟩,
    ⟨none, .h (.store 11 (.t 2) (.t 86)), none⟩])
  (.seq (.reg [⟨some 89, .h (.load true 11 (.t 3)), none⟩,
    ⟨some 90, .call 11 [(.t 89), (.c (.int .i64 4))], none⟩,
    ⟨some 88, .p (.mov (.t 90)), none⟩,
    ⟨some 91, .p (.extract 0 (.t 88)), none⟩,
    ⟨some 92, .p (.extract 1 (.t 88)), none⟩,
    ⟨some 93, .p (.extract 2 (.t 88)), none⟩,
    ⟨some 12, .h (.alloc [(.int .i64 0), (.int .i64 0), (.int .i64 0), (.bool false), (.bool false), (.bool false), (.int .i64 0), (.int .i64 0), (.int .i64 0), (.int .i64 0), (.int .i64 0)]), none⟩,
    ⟨some 13, .h (.alloc [(.int .i64 0), (.int .i64 0), (.int .i64 0), (.int .i64 0), (.int .i64 0)]), none⟩,
    ⟨none, .h (.store 11 (.t 12) (.t 91)), none⟩,
    ⟨none, .h (.store 5 (.t 13) (.t 92)), none⟩,
    ⟨some 14, .p (.mov (.t 93)), none⟩])
  (.seq (.reg [⟨some 95, .h (.load true 11 (.t 2)), none⟩,
    ⟨some 96, .call 11 [(.t 95), (.c (.int .i64 4))], none⟩,
    ⟨some 94, .p (.mov (.t 96)), none⟩,
    ⟨some 97, .p (.extract 0 (.t 94)), none⟩,
    ⟨some 98, .p (.extract 1 (.t 94)), none⟩,
    ⟨some 99, .p (.extract 2 (.t 94)), none⟩,
    ⟨none, .h (.store 11 (.t 2) (.t 97)), none⟩,
    ⟨none, .h (.store 5 (.t 4) (.t 98)), none⟩,
    ⟨some 15, .p (.mov (.t 99)), none⟩])
  (.seq (.reg [⟨some 101, .h (.load true 11 (.t 2)), none⟩,
    ⟨some 102, .h (.load true 5 (.t 4)), none⟩,
    ⟨some 103, .d (.bslice 1 1 [(.int .i64 0)] [(0, (.c (.int .i64 1)))]), none⟩,
    ⟨some 104, .call 12 [(.t 1), (.t 101), (.t 102), (.t 103)], none⟩,
    ⟨some 100, .p (.mov (.t 104)), none⟩,
    ⟨some 105, .p (.extract 0 (.t 100)), none⟩,
    ⟨some 106, .p (.extract 1 (.t 100)), none⟩,
    ⟨none, .h (.store 11 (.t 2) (.t 105)), none⟩])
  (.seq (.reg [⟨some 107, .p (.mov (.t 5)), none⟩,
    ⟨some 108, .p (.bin .eql (.t 107) (.c (.int .i64 0))), none⟩,
    ⟨some 109, .p (.mov (.t 108)), none⟩,
    ⟨some 110, .p (.mov (.t 7)), (some (109, true))⟩,
    ⟨some 111, .p (.bin .eql (.t 110) (.c (.int .i64 0))), (some (109, true))⟩,
    ⟨some 112, .p (.pick (.t 109) (.t 111) (.c (.bool false))), none⟩,
    ⟨some 113, .p (.mov (.t 112)), none⟩,
    ⟨some 114, .p (.mov (.t 9)), (some (113, true))⟩,
    ⟨some 115, .p (.bin .eql (.t 114) (.c (.int .i64 0))), (some (113, true))⟩,
    ⟨some 116, .p (.pick (.t 113) (.t 115) (.c (.bool false))), none⟩,
    ⟨some 117, .p (.mov (.t 116)), none⟩,
    ⟨some 118, .p (.mov (.t 11)), (some (117, true))⟩,
    ⟨some 119, .p (.bin .eql (.t 118) (.c (.int .i64 0))), (some (117, true))⟩,
    ⟨some 120, .p (.pick (.t 117) (.t 119) (.c (.bool false))), none⟩,
    ⟨some 121, .p (.mov (.t 120)), none⟩,
    ⟨some 122, .p (.mov (.t 15)), (some (121, true))⟩,
    ⟨some 123, .p (.bin .eql (.t 122) (.c (.int .i64 0))), (some (121, true))⟩,
    ⟨some 124, .p (.pick (.t 121) (.t 123) (.c (.bool false))), none⟩,
    ⟨some 125, .p (.mov (.t 124)), none⟩,
    ⟨some 126, .p (.mov (.t 6)), (some (125, true))⟩,
    ⟨some 127, .p (.pick (.t 125) (.t 126) (.c (.bool false))), none⟩,
    ⟨some 128, .p (.mov (.t 127)), none⟩,
    ⟨some 129, .p (.mov (.t 8)), (some (128, true))⟩,
    ⟨some 130, .p (.bin .eql (.t 129) (.c (.int .i64 4))), (some (128, true))⟩,
    ⟨some 131, .p (.pick (.t 128) (.t 130) (.c (.bool false))), none⟩,
    ⟨some 132, .p (.mov (.t 131)), none⟩,
    ⟨some 133, .p (.mov (.t 10)), (some (132, true))⟩,
    ⟨some 134, .p (.pick (.t 132) (.t 133) (.c (.bool false))), none⟩,
    ⟨some 135, .p (.mov (.t 134)), none⟩,
    ⟨some 136, .p (.mov (.t 14)), (some (135, true))⟩,
    ⟨some 137, .p (.bin .eql (.t 136) (.c (.int .i64 9))), (some (135, true))⟩,
    ⟨some 138, .p (.pick (.t 135) (.t 137) (.c (.bool false))), none⟩,
    ⟨some 139, .p (.mov (.t 138)), none⟩,
    ⟨some 140, .h (.load true 11 (.t 2)), (some (139, true))⟩,
    ⟨some 141, .call 13 [(.t 140)], (some (139, true))⟩,
    ⟨some 142, .p (.un .not (.t 141)), (some (139, true))⟩,
    ⟨some 143, .p (.pick (.t 139) (.t 142) (.c (.bool false))), none⟩,
    ⟨some 144, .p (.mov (.t 143)), none⟩,
    ⟨some 145, .p (.fieldA 10 (.t 2)), (some (144, true))⟩,
    ⟨some 146, .h (.load false 1 (.t 145)), (some (144, true))⟩,
    ⟨some 147, .p (.bin .eql (.t 146) (.c (.int .i64 4))), (some (144, true))⟩,
    ⟨some 148, .p (.pick (.t 144) (.t 147) (.c (.bool false))), none⟩,
    ⟨some 149, .p (.mov (.t 148)), none⟩,
    ⟨some 150, .p (.fieldA 3 (.t 2)), (some (149, true))⟩,
    ⟨some 151, .h (.load true 3 (.t 150)), (some (149, true))⟩,
    ⟨some 152, .v (.build [(.bool false), (.bool false), (.bool false)] []), (some (149, true))⟩,
    ⟨some 153, .v (.eqa false [.b, .b, .b] (.t 151) (.t 152)), (some (149, true))⟩,
    ⟨some 154, .p (.pick (.t 149) (.t 153) (.c (.bool false))), none⟩,
    ⟨some 155, .p (.mov (.t 154)), none⟩,
    ⟨some 156, .p (.idxA 2 (some 3) (.t 1) (.c (.int .i64 0))), (some (155, true))⟩,
    ⟨some 157, .p (.fieldA 1 (.t 156)), (some (155, true))⟩,
    ⟨some 158, .h (.load false 1 (.t 157)), (some (155, true))⟩,
    ⟨some 159, .p (.idxA 4 none (.t 158) (.c (.int .i64 0))), (some (155, true))⟩,
    ⟨some 160, .p (.fieldA 3 (.t 159)), (some (155, true))⟩,
    ⟨some 161, .h (.load false 1 (.t 160)), (some (155, true))⟩,
    ⟨some 162, .p (.bin .eql (.t 161) (.c (.int .i64 6))), (some (155, true))⟩,
    ⟨some 163, .p (.pick (.t 155) (.t 162) (.c (.bool false))), none⟩,
    ⟨some 0, .p (.mov (.t 163)), none⟩])
  .ret))))))))))))))))))
def rs8 : List AR := [.tmp 0]
theorem ok8 : okF Try.prog 8 164 ac8 rs8 = true := by kernel_rfl
/-- (*simulacrum/simulacrumlaw37.world).act -/
def ac10 : AC := (.seq (.reg [⟨some 3, .h (.box (.t 1)), none⟩,
    ⟨some 4, .p (.mov (.c (.bool false))), none⟩])
  (.seq (.draw 8 [] [⟨some 16, .p (.mov (.t 0)), none⟩,
    ⟨some 17, .p (.fieldA 1 (.t 3)), none⟩,
    ⟨some 18, .h (.load false 1 (.t 17)), none⟩,
    ⟨some 19, .p (.binw .rem (.t 18) (.c (.int .u8 3))), none⟩,
    ⟨some 20, .p (.nilchk (.t 16)), none⟩,
    ⟨some 21, .p (.fieldA 0 (.t 20)), none⟩,
    ⟨some 22, .p (.idxA 11 (some 3) (.t 21) (.t 19)), none⟩,
    ⟨some 5, .p (.mov (.t 22)), none⟩])
  (.seq (.seq (.reg [⟨some 23, .p (.fieldA 0 (.t 3)), none⟩,
    ⟨some 24, .h (.load false 1 (.t 23)), none⟩,
    ⟨some 25, .p (.binw .rem (.t 24) (.c (.int .u8 6))), none⟩])
  (.block 0 (.seq (.reg [⟨some 71, .p (.binw .eql (.t 25) (.c (.int .u8 0))), none⟩,
    ⟨some 70, .p (.mov (.t 71)), none⟩])
  (.cond (.t 70) (.seq (.draw 27 [(22, 24), (2, 24), (6, 24), (10, 24), (13, 24), (23, 24), (23, 25), (24, 25), (2, 25), (6, 25), (10, 25), (13, 25), (22, 25)] [⟨some 73, .p (.mov (.t 5)), none⟩,
    ⟨some 74, .p (.nilchk (.t 73)), none⟩,
    ⟨some 75, .h (.load true 11 (.t 74)), none⟩,
    ⟨some 76, .p (.mov (.t 5)), none⟩,
    ⟨some 77, .p (.nilchk (.t 76)), none⟩,
    ⟨some 78, .p (.fieldA 2 (.t 77)), none⟩,
    ⟨some 79, .h (.load false 1 (.t 78)), none⟩,
    ⟨some 80, .p (.mov (.t 5)), none⟩,
    ⟨some 81, .p (.nilchk (.t 80)), none⟩,
    ⟨some 82, .p (.fieldA 10 (.t 81)), none⟩,
    ⟨some 83, .h (.load false 1 (.t 82)), none⟩,
    ⟨some 84, .p (.mm true (.t 79) (.t 83)), none⟩,
    ⟨some 85, .p (.fieldA 3 (.t 3)), none⟩,
    ⟨some 86, .h (.load false 1 (.t 85)), none⟩,
    ⟨some 87, .p (.conv .i64 (.t 86)), none⟩,
    ⟨some 88, .p (.bin .rem (.t 87) (.c (.int .i64 3))), none⟩,
    ⟨some 89, .p (.bin .add (.t 84) (.t 88)), none⟩,
    ⟨some 90, .call 11 [(.t 75), (.t 89)], none⟩,
    ⟨some 72, .p (.mov (.t 90)), none⟩,
    ⟨some 91, .p (.extract 0 (.t 72)), none⟩,
    ⟨some 92, .p (.extract 1 (.t 72)), none⟩,
    ⟨some 93, .p (.extract 2 (.t 72)), none⟩,
    ⟨some 6, .h (.alloc [(.int .i64 0), (.int .i64 0), (.int .i64 0), (.bool false), (.bool false), (.bool false), (.int .i64 0), (.int .i64 0), (.int .i64 0), (.int .i64 0), (.int .i64 0)]), none⟩,
    ⟨some 7, .h (.alloc [(.int .i64 0), (.int .i64 0), (.int .i64 0), (.int .i64 0), (.int .i64 0)]), none⟩,
    ⟨none, .h (.store 11 (.t 6) (.t 91)), none⟩,
    ⟨none, .h (.store 5 (.t 7) (.t 92)), none⟩,
    ⟨some 8, .p (.mov (.t 93)), none⟩])
  (.seq (.reg [⟨some 94, .p (.mov (.t 8)), none⟩,
    ⟨some 95, .p (.bin .eql (.t 94) (.c (.int .i64 0))), none⟩])
  (.cond (.t 95) (.seq (.reg [⟨some 96, .p (.mov (.t 5)), none⟩,
    ⟨some 97, .h (.load true 11 (.t 6)), none⟩,
    ⟨some 98, .p (.nilchk (.t 96)), none⟩,
    ⟨none, .h (.store 11 (.t 98) (.t 97)), none⟩])
  (.draw 11 [(5, 6), (4, 7), (6, 7), (7, 10), (4, 10), (5, 10), (6, 10)] [⟨some 99, .p (.mov (.t 0)), none⟩,
    ⟨some 100, .p (.mov (.t 0)), none⟩,
    ⟨some 101, .p (.nilchk (.t 100)), none⟩,
    ⟨some 102, .p (.fieldA 39 (.t 101)), none⟩,
    ⟨some 103, .h (.load false 1 (.t 102)), none⟩,
    ⟨some 104, .h (.load true 5 (.t 7)), none⟩,
    ⟨some 105, .d (.bslice 5 1 [(.int .i64 0), (.int .i64 0), (.int .i64 0), (.int .i64 0), (.int .i64 0)] [(0, (.t 104))]), none⟩,
    ⟨some 106, .l (.append 5 40 (.t 103) (.t 105)), none⟩,
    ⟨some 107, .p (.nilchk (.t 99)), none⟩,
    ⟨some 108, .p (.fieldA 39 (.t 107)), none⟩,
    ⟨none, .h (.store 1 (.t 108) (.t 106)), none⟩])) .skip))) (.seq (.reg [⟨some 110, .p (.binw .eql (.t 25) (.c (.int .u8 1))), none⟩,
    ⟨some 109, .p (.mov (.t 110)), none⟩])
  (.cond (.t 109) (.seq (.draw 19 [(16, 17), (2, 17), (5, 17), (8, 17)] [⟨some 112, .p (.mov (.t 5)), none⟩,
    ⟨some 113, .p (.nilchk (.t 112)), none⟩,
    ⟨some 114, .h (.load true 11 (.t 113)), none⟩,
    ⟨some 115, .p (.mov (.t 5)), none⟩,
    ⟨some 116, .p (.nilchk (.t 115)), none⟩,
    ⟨some 117, .h (.load true 11 (.t 116)), none⟩,
    ⟨some 118, .call 15 [(.t 117)], none⟩,
    ⟨some 119, .p (.fieldA 3 (.t 3)), none⟩,
    ⟨some 120, .h (.load false 1 (.t 119)), none⟩,
    ⟨some 121, .p (.conv .i64 (.t 120)), none⟩,
    ⟨some 122, .p (.bin .rem (.t 121) (.c (.int .i64 5))), none⟩,
    ⟨some 123, .p (.bin .add (.t 118) (.t 122)), none⟩,
    ⟨some 124, .call 14 [(.t 114), (.t 123)], none⟩,
    ⟨some 111, .p (.mov (.t 124)), none⟩,
    ⟨some 125, .p (.extract 0 (.t 111)), none⟩,
    ⟨some 126, .p (.extract 1 (.t 111)), none⟩,
    ⟨some 9, .h (.alloc [(.int .i64 0), (.int .i64 0), (.int .i64 0), (.int .i64 0), (.int .i64 0)]), none⟩,
    ⟨none, .h (.store 5 (.t 9) (.t 125)), none⟩,
    ⟨some 10, .p (.mov (.t 126)), none⟩])
  (.seq (.reg [⟨some 127, .p (.mov (.t 10)), none⟩,
    ⟨some 128, .p (.bin .eql (.t 127) (.c (.int .i64 0))), none⟩])
  (.cond (.t 128) (.draw 11 [(5, 6), (4, 7), (6, 7), (7, 10), (4, 10), (5, 10), (6, 10)] [⟨some 129, .p (.mov (.t 0)), none⟩,
    ⟨some 130, .p (.mov (.t 0)), none⟩,
    ⟨some 131, .p (.nilchk (.t 130)), none⟩,
    ⟨some 132, .p (.fieldA 39 (.t 131)), none⟩,
    ⟨some 133, .h (.load false 1 (.t 132)), none⟩,
    ⟨some 134, .h (.load true 5 (.t 9)), none⟩,
    ⟨some 135, .d (.bslice 5 1 [(.int .i64 0), (.int .i64 0), (.int .i64 0), (.int .i64 0), (.int .i64 0)] [(0, (.t 134))]), none⟩,
    ⟨some 136, .l (.append 5 40 (.t 133) (.t 135)), none⟩,
    ⟨some 137, .p (.nilchk (.t 129)), none⟩,
    ⟨some 138, .p (.fieldA 39 (.t 137)), none⟩,
    ⟨none, .h (.store 1 (.t 138) (.t 136)), none⟩]) .skip))) (.seq (.seq (.reg [⟨some 140, .p (.binw .eql (.t 25) (.c (.int .u8 2))), none⟩,
    ⟨some 139, .p (.mov (.t 140)), none⟩])
  (.cond (.t 139) .skip (.reg [⟨some 141, .p (.binw .eql (.t 25) (.c (.int .u8 3))), none⟩,
    ⟨some 139, .p (.mov (.t 141)), none⟩])))
  (.cond (.t 139) (.seq (.reg [⟨some 142, .p (.fieldA 2 (.t 3)), none⟩,
    ⟨some 143, .h (.load false 1 (.t 142)), none⟩,
    ⟨some 144, .p (.binw .rem (.t 143) (.c (.int .u8 3))), none⟩,
    ⟨some 145, .p (.conv .i64 (.t 144)), none⟩,
    ⟨some 11, .p (.mov (.t 145)), none⟩])
  (.seq (.seq (.reg [⟨some 146, .p (.mov (.t 0)), none⟩,
    ⟨some 147, .p (.nilchk (.t 146)), none⟩,
    ⟨some 148, .p (.fieldA 39 (.t 147)), none⟩,
    ⟨some 149, .h (.load false 1 (.t 148)), none⟩,
    ⟨some 150, .p (.len false (.t 149)), none⟩,
    ⟨some 151, .p (.bin .eql (.t 150) (.c (.int .i64 0))), none⟩,
    ⟨some 152, .p (.mov (.t 151)), none⟩,
    ⟨some 153, .p (.mov (.t 11)), (some (152, false))⟩,
    ⟨some 154, .p (.mov (.t 0)), (some (152, false))⟩,
    ⟨some 155, .p (.nilchk (.t 154)), (some (152, false))⟩,
    ⟨some 156, .p (.fieldA 41 (.t 155)), (some (152, false))⟩,
    ⟨some 157, .h (.load false 1 (.t 156)), (some (152, false))⟩,
    ⟨some 158, .p (.bin .eql (.t 153) (.t 157)), (some (152, false))⟩,
    ⟨some 159, .p (.pick (.t 152) (.c (.bool true)) (.t 158)), none⟩])
  (.cond (.t 159) (.seq (.reg [⟨some 4, .p (.mov (.c (.bool true))), none⟩])
  .ret) .skip))
  (.seq (.draw 38 [(33, 35), (5, 35), (9, 35), (13, 35), (17, 35), (22, 35), (27, 35), (34, 35), (34, 36), (35, 36), (5, 36), (9, 36), (13, 36), (17, 36), (22, 36), (27, 36), (33, 36)] [⟨some 161, .p (.mov (.t 0)), none⟩,
    ⟨some 162, .p (.mov (.t 11)), none⟩,
    ⟨some 163, .p (.nilchk (.t 161)), none⟩,
    ⟨some 164, .p (.fieldA 33 (.t 163)), none⟩,
    ⟨some 165, .p (.idxA 2 (some 3) (.t 164) (.t 162)), none⟩,
    ⟨some 166, .h (.load true 2 (.t 165)), none⟩,
    ⟨some 167, .p (.mov (.t 0)), none⟩,
    ⟨some 168, .p (.nilchk (.t 167)), none⟩,
    ⟨some 169, .p (.fieldA 39 (.t 168)), none⟩,
    ⟨some 170, .h (.load false 1 (.t 169)), none⟩,
    ⟨some 171, .p (.mov (.t 0)), none⟩,
    ⟨some 172, .p (.nilchk (.t 171)), none⟩,
    ⟨some 173, .p (.fieldA 39 (.t 172)), none⟩,
    ⟨some 174, .h (.load false 1 (.t 173)), none⟩,
    ⟨some 175, .p (.len false (.t 174)), none⟩,
    ⟨some 176, .p (.bin .sub (.t 175) (.c (.int .i64 1))), none⟩,
    ⟨some 177, .p (.fieldA 3 (.t 3)), none⟩,
    ⟨some 178, .h (.load false 1 (.t 177)), none⟩,
    ⟨some 179, .p (.conv .i64 (.t 178)), none⟩,
    ⟨some 180, .p (.mov (.t 0)), none⟩,
    ⟨some 181, .p (.nilchk (.t 180)), none⟩,
    ⟨some 182, .p (.fieldA 39 (.t 181)), none⟩,
    ⟨some 183, .h (.load false 1 (.t 182)), none⟩,
    ⟨some 184, .p (.len false (.t 183)), none⟩,
    ⟨some 185, .p (.bin .rem (.t 179) (.t 184)), none⟩,
    ⟨some 186, .p (.bin .sub (.t 176) (.t 185)), none⟩,
    ⟨some 187, .p (.idxA 5 none (.t 170) (.t 186)), none⟩,
    ⟨some 188, .h (.load true 5 (.t 187)), none⟩,
    ⟨some 189, .call 17 [(.t 166), (.t 188)], none⟩,
    ⟨some 160, .p (.mov (.t 189)), none⟩,
    ⟨some 190, .p (.extract 0 (.t 160)), none⟩,
    ⟨some 191, .p (.extract 1 (.t 160)), none⟩,
    ⟨some 192, .p (.extract 2 (.t 160)), none⟩,
    ⟨some 12, .h (.alloc [(.int .i64 0), .nils]), none⟩,
    ⟨some 13, .h (.alloc [(.int .i64 0), (.int .i64 0), (.int .i64 0), (.int .i64 0), (.int .i64 0), (.int .i64 0), (.bool false), (.int .i64 0), (.int .i64 0)]), none⟩,
    ⟨none, .h (.store 2 (.t 12) (.t 190)), none⟩,
    ⟨none, .h (.store 9 (.t 13) (.t 191)), none⟩,
    ⟨some 14, .p (.mov (.t 192)), none⟩])
  (.seq (.seq (.reg [⟨some 193, .p (.mov (.t 14)), none⟩,
    ⟨some 194, .p (.bin .neq (.t 193) (.c (.int .i64 0))), none⟩])
  (.cond (.t 194) (.seq (.reg [⟨some 4, .p (.mov (.c (.bool false))), none⟩])
  .ret) .skip))
  (.seq (.draw 7 [(2, 6)] [⟨some 195, .p (.mov (.t 0)), none⟩,
    ⟨some 196, .p (.mov (.t 11)), none⟩,
    ⟨some 197, .h (.load true 2 (.t 12)), none⟩,
    ⟨some 198, .p (.nilchk (.t 195)), none⟩,
    ⟨some 199, .p (.fieldA 33 (.t 198)), none⟩,
    ⟨some 200, .p (.idxA 2 (some 3) (.t 199) (.t 196)), none⟩,
    ⟨none, .h (.store 2 (.t 200) (.t 197)), none⟩])
  (.draw 11 [(5, 6), (4, 7), (6, 7), (7, 10), (4, 10), (5, 10), (6, 10)] [⟨some 201, .p (.mov (.t 0)), none⟩,
    ⟨some 202, .p (.mov (.t 0)), none⟩,
    ⟨some 203, .p (.nilchk (.t 202)), none⟩,
    ⟨some 204, .p (.fieldA 40 (.t 203)), none⟩,
    ⟨some 205, .h (.load false 1 (.t 204)), none⟩,
    ⟨some 206, .h (.load true 9 (.t 13)), none⟩,
    ⟨some 207, .d (.bslice 9 1 [(.int .i64 0), (.int .i64 0), (.int .i64 0), (.int .i64 0), (.int .i64 0), (.int .i64 0), (.bool false), (.int .i64 0), (.int .i64 0)] [(0, (.t 206))]), none⟩,
    ⟨some 208, .l (.append 9 72 (.t 205) (.t 207)), none⟩,
    ⟨some 209, .p (.nilchk (.t 201)), none⟩,
    ⟨some 210, .p (.fieldA 40 (.t 209)), none⟩,
    ⟨none, .h (.store 1 (.t 210) (.t 208)), none⟩])))))) (.seq (.reg [⟨some 26, .p (.mov (.t 0)), none⟩,
    ⟨some 27, .p (.nilchk (.t 26)), none⟩,
    ⟨some 28, .p (.fieldA 40 (.t 27)), none⟩,
    ⟨some 29, .h (.load false 1 (.t 28)), none⟩,
    ⟨some 30, .p (.len false (.t 29)), none⟩,
    ⟨some 31, .p (.bin .gtr (.t 30) (.c (.int .i64 0))), none⟩])
  (.cond (.t 31) (.seq (.draw 24 [(22, 23), (21, 23), (3, 23), (7, 23), (11, 23), (16, 23)] [⟨some 32, .p (.mov (.t 0)), none⟩,
    ⟨some 33, .p (.nilchk (.t 32)), none⟩,
    ⟨some 34, .p (.fieldA 40 (.t 33)), none⟩,
    ⟨some 35, .h (.load false 1 (.t 34)), none⟩,
    ⟨some 36, .p (.mov (.t 0)), none⟩,
    ⟨some 37, .p (.nilchk (.t 36)), none⟩,
    ⟨some 38, .p (.fieldA 40 (.t 37)), none⟩,
    ⟨some 39, .h (.load false 1 (.t 38)), none⟩,
    ⟨some 40, .p (.len false (.t 39)), none⟩,
    ⟨some 41, .p (.bin .sub (.t 40) (.c (.int .i64 1))), none⟩,
    ⟨some 42, .p (.fieldA 3 (.t 3)), none⟩,
    ⟨some 43, .h (.load false 1 (.t 42)), none⟩,
    ⟨some 44, .p (.conv .i64 (.t 43)), none⟩,
    ⟨some 45, .p (.mov (.t 0)), none⟩,
    ⟨some 46, .p (.nilchk (.t 45)), none⟩,
    ⟨some 47, .p (.fieldA 40 (.t 46)), none⟩,
    ⟨some 48, .h (.load false 1 (.t 47)), none⟩,
    ⟨some 49, .p (.len false (.t 48)), none⟩,
    ⟨some 50, .p (.bin .rem (.t 44) (.t 49)), none⟩,
    ⟨some 51, .p (.bin .sub (.t 41) (.t 50)), none⟩,
    ⟨some 52, .p (.idxA 9 none (.t 35) (.t 51)), none⟩,
    ⟨some 53, .h (.load true 9 (.t 52)), none⟩,
    ⟨some 15, .h (.alloc [(.int .i64 0), (.int .i64 0), (.int .i64 0), (.int .i64 0), (.int .i64 0), (.int .i64 0), (.bool false), (.int .i64 0), (.int .i64 0)]), none⟩,
    ⟨none, .h (.store 9 (.t 15) (.t 53)), none⟩])
  (.seq (.draw 10 [] [⟨some 54, .p (.mov (.t 0)), none⟩,
    ⟨some 55, .p (.fieldA 1 (.t 15)), none⟩,
    ⟨some 56, .p (.fieldA 2 (.t 55)), none⟩,
    ⟨some 57, .h (.load false 1 (.t 56)), none⟩,
    ⟨some 58, .p (.bin .add (.t 57) (.c (.int .i64 2))), none⟩,
    ⟨some 59, .p (.bin .rem (.t 58) (.c (.int .i64 3))), none⟩,
    ⟨some 60, .p (.nilchk (.t 54)), none⟩,
    ⟨some 61, .p (.fieldA 0 (.t 60)), none⟩,
    ⟨some 62, .p (.idxA 11 (some 3) (.t 61) (.t 59)), none⟩,
    ⟨some 5, .p (.mov (.t 62)), none⟩])
  (.draw 8 [(3, 7), (4, 7)] [⟨some 63, .p (.mov (.t 5)), none⟩,
    ⟨some 64, .p (.mov (.t 5)), none⟩,
    ⟨some 65, .p (.nilchk (.t 64)), none⟩,
    ⟨some 66, .h (.load true 11 (.t 65)), none⟩,
    ⟨some 67, .h (.load true 9 (.t 15)), none⟩,
    ⟨some 68, .call 23 [(.t 66), (.t 67)], none⟩,
    ⟨some 69, .p (.nilchk (.t 63)), none⟩,
    ⟨none, .h (.store 11 (.t 69) (.t 68)), none⟩]))) .skip))))))))))
  (.seq (.reg [⟨some 211, .p (.mov (.t 0)), none⟩,
    ⟨some 212, .call 29 [(.t 211)], none⟩,
    ⟨some 4, .p (.mov (.t 212)), none⟩])
  .ret))))
def rs10 : List AR := [.tmp 4]
theorem ok10 : okF Try.prog 10 213 ac10 rs10 = true := by kernel_rfl
/-- simulacrum/token.Seek -/
def ac11 : AC := (.seq (.reg [⟨some 2, .h (.box (.t 0)), none⟩,
    ⟨some 4, .h (.alloc [(.int .i64 0), (.int .i64 0), (.int .i64 0), (.bool false), (.bool false), (.bool false), (.int .i64 0), (.int .i64 0), (.int .i64 0), (.int .i64 0), (.int .i64 0)]), none⟩,
    ⟨some 5, .h (.alloc [(.int .i64 0), (.int .i64 0), (.int .i64 0), (.int .i64 0), (.int .i64 0)]), none⟩,
    ⟨some 6, .p (.mov (.c (.int .i64 0))), none⟩])
  (.seq (.block 0 (.seq (.reg [⟨some 9, .p (.mov (.t 1)), none⟩,
    ⟨some 10, .d (.bslice 1 1 [(.int .i64 0)] [(0, (.t 9))]), none⟩,
    ⟨some 11, .call 30 [(.t 10)], none⟩,
    ⟨some 12, .p (.un .not (.t 11)), none⟩,
    ⟨some 8, .p (.mov (.t 12)), none⟩])
  (.cond (.t 8) (.seq (.reg [⟨some 13, .h (.load true 11 (.t 2)), none⟩,
    ⟨some 14, .v (.build [(.int .i64 0), (.int .i64 0), (.int .i64 0), (.int .i64 0), (.int .i64 0)] []), none⟩,
    ⟨none, .h (.store 11 (.t 4) (.t 13)), none⟩,
    ⟨none, .h (.store 5 (.t 5) (.t 14)), none⟩,
    ⟨some 6, .p (.mov (.c (.int .i64 1))), none⟩])
  .ret) (.seq (.reg [⟨some 16, .p (.mov (.t 1)), none⟩,
    ⟨some 17, .p (.fieldA 2 (.t 2)), none⟩,
    ⟨some 18, .h (.load false 1 (.t 17)), none⟩,
    ⟨some 19, .p (.bin .leq (.t 16) (.t 18)), none⟩,
    ⟨some 15, .p (.mov (.t 19)), none⟩])
  (.cond (.t 15) (.seq (.reg [⟨some 20, .h (.load true 11 (.t 2)), none⟩,
    ⟨some 21, .v (.build [(.int .i64 0), (.int .i64 0), (.int .i64 0), (.int .i64 0), (.int .i64 0)] []), none⟩,
    ⟨none, .h (.store 11 (.t 4) (.t 20)), none⟩,
    ⟨none, .h (.store 5 (.t 5) (.t 21)), none⟩,
    ⟨some 6, .p (.mov (.c (.int .i64 9))), none⟩])
  .ret) .skip)))))
  (.seq (.reg [⟨some 22, .p (.fieldA 0 (.t 2)), none⟩,
    ⟨some 23, .h (.load false 1 (.t 22)), none⟩,
    ⟨some 24, .p (.fieldA 1 (.t 2)), none⟩,
    ⟨some 25, .h (.load false 1 (.t 24)), none⟩,
    ⟨some 26, .p (.mov (.t 1)), none⟩,
    ⟨some 27, .v (.build [(.int .i64 0), (.int .i64 0), (.int .i64 0), (.int .i64 0), (.int .i64 0)] [(0, 1, (.c (.int .i64 1))), (1, 1, (.t 23)), (2, 1, (.t 25)), (3, 1, (.t 26))]), none⟩,
    ⟨some 7, .h (.alloc [(.int .i64 0), (.int .i64 0), (.int .i64 0), (.int .i64 0), (.int .i64 0)]), none⟩,
    ⟨none, .h (.store 5 (.t 7) (.t 27)), none⟩])
  (.seq (.draw 12 [(1, 9), (3, 9), (6, 9), (8, 10), (9, 10), (1, 10), (3, 10), (6, 10)] [⟨some 28, .p (.fieldA 0 (.t 2)), none⟩,
    ⟨some 29, .h (.load false 1 (.t 28)), none⟩,
    ⟨some 30, .p (.fieldA 1 (.t 2)), none⟩,
    ⟨some 31, .h (.load false 1 (.t 30)), none⟩,
    ⟨some 32, .p (.mov (.t 1)), none⟩,
    ⟨some 33, .p (.fieldA 10 (.t 2)), none⟩,
    ⟨some 34, .h (.load false 1 (.t 33)), none⟩,
    ⟨some 35, .v (.build [(.int .i64 0), (.int .i64 0), (.int .i64 0), (.bool false), (.bool false), (.bool false), (.int .i64 0), (.int .i64 0), (.int .i64 0), (.int .i64 0), (.int .i64 0)] [(0, 1, (.t 29)), (1, 1, (.t 31)), (2, 1, (.t 32)), (10, 1, (.t 34))]), none⟩,
    ⟨some 36, .h (.load true 5 (.t 7)), none⟩,
    ⟨none, .h (.store 11 (.t 4) (.t 35)), none⟩,
    ⟨none, .h (.store 5 (.t 5) (.t 36)), none⟩,
    ⟨some 6, .p (.mov (.c (.int .i64 0))), none⟩])
  .ret))))
def rs11 : List AR := [.cell 4 true 11, .cell 5 true 5, .tmp 6]
theorem ok11 : okF Try.prog 11 37 ac11 rs11 = true := by kernel_rfl
/-- simulacrum/simulacrumlaw37.hear -/
def ac12 : AC := (.seq (.reg [⟨some 5, .h (.box (.t 1)), none⟩,
    ⟨some 6, .h (.box (.t 2)), none⟩,
    ⟨some 8, .h (.alloc [(.int .i64 0), (.int .i64 0), (.int .i64 0), (.bool false), (.bool false), (.bool false), (.int .i64 0), (.int .i64 0), (.int .i64 0), (.int .i64 0), (.int .i64 0)]), none⟩,
    ⟨some 9, .p (.mov (.c (.bool false))), none⟩])
  (.seq (.reg [⟨some 10, .p (.mov (.c (.bool true))), none⟩])
  (.seq (.seq (.reg [⟨some 16, .p (.mov (.t 3)), none⟩,
    ⟨some 17, .p (.len false (.t 16)), none⟩,
    ⟨some 18, .p (.mov (.c (.int .i64 0))), none⟩])
  (.block 0 (.loop (.seq (.reg [⟨some 19, .p (.bin .lss (.t 18) (.t 17)), none⟩])
  (.seq (.cond (.t 19) .skip (.exit 0))
  (.seq (.block 1 (.seq (.reg [⟨some 20, .p (.idxA 1 none (.t 16) (.t 18)), none⟩,
    ⟨some 21, .h (.load false 1 (.t 20)), none⟩,
    ⟨some 12, .p (.mov (.t 21)), none⟩])
  (.seq (.draw 16 [(11, 13), (4, 13), (5, 13), (12, 13), (12, 14), (13, 14), (4, 14), (5, 14), (11, 14)] [⟨some 23, .p (.mov (.t 0)), none⟩,
    ⟨some 24, .p (.mov (.t 12)), none⟩,
    ⟨some 25, .p (.nilchk (.t 23)), none⟩,
    ⟨some 26, .p (.idxA 2 (some 3) (.t 25) (.t 24)), none⟩,
    ⟨some 27, .h (.load true 2 (.t 26)), none⟩,
    ⟨some 28, .h (.load true 5 (.t 6)), none⟩,
    ⟨some 29, .call 17 [(.t 27), (.t 28)], none⟩,
    ⟨some 22, .p (.mov (.t 29)), none⟩,
    ⟨some 30, .p (.extract 0 (.t 22)), none⟩,
    ⟨some 31, .p (.extract 1 (.t 22)), none⟩,
    ⟨some 32, .p (.extract 2 (.t 22)), none⟩,
    ⟨some 13, .h (.alloc [(.int .i64 0), .nils]), none⟩,
    ⟨some 14, .h (.alloc [(.int .i64 0), (.int .i64 0), (.int .i64 0), (.int .i64 0), (.int .i64 0), (.int .i64 0), (.bool false), (.int .i64 0), (.int .i64 0)]), none⟩,
    ⟨none, .h (.store 2 (.t 13) (.t 30)), none⟩,
    ⟨none, .h (.store 9 (.t 14) (.t 31)), none⟩,
    ⟨some 15, .p (.mov (.t 32)), none⟩])
  (.seq (.seq (.reg [⟨some 33, .p (.mov (.t 15)), none⟩,
    ⟨some 34, .p (.bin .eql (.t 33) (.c (.int .i64 0))), none⟩])
  (.cond (.t 34) (.draw 6 [(2, 5)] [⟨some 35, .p (.mov (.t 0)), none⟩,
    ⟨some 36, .p (.mov (.t 12)), none⟩,
    ⟨some 37, .h (.load true 2 (.t 13)), none⟩,
    ⟨some 38, .p (.nilchk (.t 35)), none⟩,
    ⟨some 39, .p (.idxA 2 (some 3) (.t 38) (.t 36)), none⟩,
    ⟨none, .h (.store 2 (.t 39) (.t 37)), none⟩]) .skip))
  (.seq (.reg [⟨some 40, .p (.mov (.t 10)), none⟩,
    ⟨some 41, .p (.mov (.t 40)), none⟩,
    ⟨some 42, .p (.mov (.t 15)), (some (41, true))⟩,
    ⟨some 43, .p (.bin .eql (.t 42) (.c (.int .i64 0))), (some (41, true))⟩,
    ⟨some 44, .p (.pick (.t 41) (.t 43) (.c (.bool false))), none⟩,
    ⟨some 45, .p (.mov (.t 44)), none⟩,
    ⟨some 46, .p (.fieldA 6 (.t 14)), (some (45, true))⟩,
    ⟨some 47, .h (.load false 1 (.t 46)), (some (45, true))⟩,
    ⟨some 48, .p (.pick (.t 45) (.t 47) (.c (.bool false))), none⟩,
    ⟨some 10, .p (.mov (.t 48)), none⟩])
  (.reg [⟨some 49, .h (.load true 11 (.t 5)), none⟩,
    ⟨some 50, .h (.load true 9 (.t 14)), none⟩,
    ⟨some 51, .call 23 [(.t 49), (.t 50)], none⟩,
    ⟨none, .h (.store 11 (.t 5) (.t 51)), none⟩]))))))
  (.reg [⟨some 52, .p (.bin .add (.t 18) (.c (.int .i64 1))), none⟩,
    ⟨some 18, .p (.mov (.t 52)), none⟩])))))))
  (.seq (.reg [⟨some 53, .h (.load true 11 (.t 5)), none⟩,
    ⟨some 54, .p (.mov (.t 10)), none⟩,
    ⟨none, .h (.store 11 (.t 8) (.t 53)), none⟩,
    ⟨some 9, .p (.mov (.t 54)), none⟩])
  .ret))))
def rs12 : List AR := [.cell 8 true 11, .tmp 9]
theorem ok12 : okF Try.prog 12 55 ac12 rs12 = true := by kernel_rfl
/-- simulacrum/token.Holds -/
def ac13 : AC := (.seq (.reg [⟨some 1, .h (.box (.t 0)), none⟩,
    ⟨some 2, .p (.mov (.c (.bool false))), none⟩])
  (.seq (.reg [⟨some 3, .p (.mov (.c (.int .i64 0))), none⟩])
  (.seq (.seq (.reg [⟨some 6, .p (.fieldA 3 (.t 1)), none⟩,
    ⟨some 7, .h (.load true 3 (.t 6)), none⟩,
    ⟨some 8, .p (.mov (.c (.int .i64 0))), none⟩])
  (.block 0 (.loop (.seq (.reg [⟨some 9, .p (.bin .lss (.t 8) (.c (.int .i64 3))), none⟩])
  (.seq (.cond (.t 9) .skip (.exit 0))
  (.seq (.block 1 (.seq (.reg [⟨some 10, .v (.idx false 1 3 (.t 7) (.t 8)), none⟩,
    ⟨some 5, .p (.mov (.t 10)), none⟩])
  (.seq (.reg [⟨some 11, .p (.mov (.t 5)), none⟩])
  (.cond (.t 11) (.reg [⟨some 12, .p (.mov (.t 3)), none⟩,
    ⟨some 13, .p (.bin .add (.t 12) (.c (.int .i64 1))), none⟩,
    ⟨some 3, .p (.mov (.t 13)), none⟩]) .skip))))
  (.reg [⟨some 14, .p (.bin .add (.t 8) (.c (.int .i64 1))), none⟩,
    ⟨some 8, .p (.mov (.t 14)), none⟩])))))))
  (.seq (.reg [⟨some 15, .p (.mov (.t 3)), none⟩,
    ⟨some 16, .p (.bin .geq (.t 15) (.c (.int .i64 2))), none⟩,
    ⟨some 2, .p (.mov (.t 16)), none⟩])
  .ret))))
def rs13 : List AR := [.tmp 2]
theorem ok13 : okF Try.prog 13 17 ac13 rs13 = true := by kernel_rfl
/-- simulacrum/token.Offer -/
def ac14 : AC := (.seq (.reg [⟨some 2, .h (.box (.t 0)), none⟩,
    ⟨some 4, .h (.alloc [(.int .i64 0), (.int .i64 0), (.int .i64 0), (.int .i64 0), (.int .i64 0)]), none⟩,
    ⟨some 5, .p (.mov (.c (.int .i64 0))), none⟩])
  (.seq (.block 0 (.seq (.reg [⟨some 7, .h (.load true 11 (.t 2)), none⟩,
    ⟨some 8, .call 13 [(.t 7)], none⟩,
    ⟨some 9, .p (.un .not (.t 8)), none⟩,
    ⟨some 6, .p (.mov (.t 9)), none⟩])
  (.cond (.t 6) (.seq (.reg [⟨some 10, .v (.build [(.int .i64 0), (.int .i64 0), (.int .i64 0), (.int .i64 0), (.int .i64 0)] []), none⟩,
    ⟨none, .h (.store 5 (.t 4) (.t 10)), none⟩,
    ⟨some 5, .p (.mov (.c (.int .i64 4))), none⟩])
  .ret) (.seq (.reg [⟨some 12, .p (.mov (.t 1)), none⟩,
    ⟨some 13, .d (.bslice 1 1 [(.int .i64 0)] [(0, (.t 12))]), none⟩,
    ⟨some 14, .call 31 [(.t 13)], none⟩,
    ⟨some 15, .p (.un .not (.t 14)), none⟩,
    ⟨some 11, .p (.mov (.t 15)), none⟩])
  (.cond (.t 11) (.seq (.reg [⟨some 16, .v (.build [(.int .i64 0), (.int .i64 0), (.int .i64 0), (.int .i64 0), (.int .i64 0)] []), none⟩,
    ⟨none, .h (.store 5 (.t 4) (.t 16)), none⟩,
    ⟨some 5, .p (.mov (.c (.int .i64 1))), none⟩])
  .ret) .skip)))))
  (.seq (.reg [⟨some 17, .p (.fieldA 0 (.t 2)), none⟩,
    ⟨some 18, .h (.load false 1 (.t 17)), none⟩,
    ⟨some 19, .p (.fieldA 1 (.t 2)), none⟩,
    ⟨some 20, .h (.load false 1 (.t 19)), none⟩,
    ⟨some 21, .p (.fieldA 2 (.t 2)), none⟩,
    ⟨some 22, .h (.load false 1 (.t 21)), none⟩,
    ⟨some 23, .p (.mov (.t 1)), none⟩,
    ⟨some 24, .v (.build [(.int .i64 0), (.int .i64 0), (.int .i64 0), (.int .i64 0), (.int .i64 0)] [(0, 1, (.c (.int .i64 2))), (1, 1, (.t 18)), (2, 1, (.t 20)), (3, 1, (.t 22)), (4, 1, (.t 23))]), none⟩,
    ⟨none, .h (.store 5 (.t 4) (.t 24)), none⟩,
    ⟨some 5, .p (.mov (.c (.int .i64 0))), none⟩])
  .ret)))
def rs14 : List AR := [.cell 4 true 5, .tmp 5]
theorem ok14 : okF Try.prog 14 25 ac14 rs14 = true := by kernel_rfl
/-- simulacrum/token.Released -/
def ac15 : AC := (.seq (.reg [⟨some 1, .h (.box (.t 0)), none⟩,
    ⟨some 2, .p (.mov (.c (.int .i64 0))), none⟩])
  (.seq (.seq (.reg [⟨some 4, .h (.load true 11 (.t 1)), none⟩,
    ⟨some 5, .call 13 [(.t 4)], none⟩,
    ⟨some 6, .p (.un .not (.t 5)), none⟩])
  (.cond (.t 6) (.seq (.reg [⟨some 2, .p (.mov (.c (.int .i64 0))), none⟩])
  .ret) .skip))
  (.seq (.reg [⟨some 7, .p (.fieldA 7 (.t 1)), none⟩,
    ⟨some 8, .h (.load true 3 (.t 7)), none⟩,
    ⟨some 3, .h (.alloc [(.int .i64 0), (.int .i64 0), (.int .i64 0)]), none⟩,
    ⟨none, .h (.store 3 (.t 3) (.t 8)), none⟩])
  (.seq (.reg [⟨some 9, .d (.asub 1 3 (.t 3) none none), none⟩,
    ⟨some 10, .call 32 [(.t 9)], none⟩])
  (.seq (.reg [⟨some 11, .p (.idxA 1 (some 3) (.t 3) (.c (.int .i64 1))), none⟩,
    ⟨some 12, .h (.load false 1 (.t 11)), none⟩,
    ⟨some 2, .p (.mov (.t 12)), none⟩])
  .ret)))))
def rs15 : List AR := [.tmp 2]
theorem ok15 : okF Try.prog 15 13 ac15 rs15 = true := by kernel_rfl
/-- simulacrum/simulacrumref37.Valid -/
def ac16 : AC := (.seq (.reg [⟨some 1, .h (.box (.t 0)), none⟩,
    ⟨some 2, .p (.mov (.c (.bool false))), none⟩])
  (.seq (.seq (.reg [⟨some 5, .p (.fieldA 0 (.t 1)), none⟩,
    ⟨some 6, .h (.load false 1 (.t 5)), none⟩,
    ⟨some 7, .p (.bin .lss (.t 6) (.c (.int .i64 0))), none⟩,
    ⟨some 8, .p (.mov (.t 7)), none⟩,
    ⟨some 9, .p (.fieldA 0 (.t 1)), (some (8, false))⟩,
    ⟨some 10, .h (.load false 1 (.t 9)), (some (8, false))⟩,
    ⟨some 11, .p (.bin .geq (.t 10) (.c (.int .i64 3))), (some (8, false))⟩,
    ⟨some 12, .p (.pick (.t 8) (.c (.bool true)) (.t 11)), none⟩,
    ⟨some 13, .p (.mov (.t 12)), none⟩,
    ⟨some 14, .p (.fieldA 1 (.t 1)), (some (13, false))⟩,
    ⟨some 15, .h (.load false 1 (.t 14)), (some (13, false))⟩,
    ⟨some 16, .p (.len false (.t 15)), (some (13, false))⟩,
    ⟨some 17, .p (.bin .gtr (.t 16) (.c (.int .i64 64))), (some (13, false))⟩,
    ⟨some 18, .p (.pick (.t 13) (.c (.bool true)) (.t 17)), none⟩])
  (.cond (.t 18) (.seq (.reg [⟨some 2, .p (.mov (.c (.bool false))), none⟩])
  .ret) .skip))
  (.seq (.seq (.reg [⟨some 3, .p (.mov (.c (.int .i64 0))), none⟩])
  (.block 0 (.loop (.seq (.seq (.reg [⟨some 19, .p (.mov (.t 3)), none⟩,
    ⟨some 20, .p (.fieldA 1 (.t 1)), none⟩,
    ⟨some 21, .h (.load false 1 (.t 20)), none⟩,
    ⟨some 22, .p (.len false (.t 21)), none⟩,
    ⟨some 23, .p (.bin .lss (.t 19) (.t 22)), none⟩])
  (.cond (.t 23) .skip (.exit 0)))
  (.seq (.block 1 (.seq (.reg [⟨some 26, .p (.fieldA 1 (.t 1)), none⟩,
    ⟨some 27, .h (.load false 1 (.t 26)), none⟩,
    ⟨some 28, .p (.mov (.t 3)), none⟩,
    ⟨some 29, .p (.idxA 4 none (.t 27) (.t 28)), none⟩,
    ⟨some 30, .h (.load true 4 (.t 29)), none⟩,
    ⟨some 4, .h (.alloc [(.int .i64 0), (.int .i64 0), (.int .i64 0), (.int .i64 0)]), none⟩,
    ⟨none, .h (.store 4 (.t 4) (.t 30)), none⟩])
  (.seq (.draw 38 [] [⟨some 31, .p (.fieldA 0 (.t 4)), none⟩,
    ⟨some 32, .h (.load false 1 (.t 31)), none⟩,
    ⟨some 33, .call 33 [(.t 32)], none⟩,
    ⟨some 34, .p (.un .not (.t 33)), none⟩,
    ⟨some 35, .p (.mov (.t 34)), none⟩,
    ⟨some 36, .p (.fieldA 2 (.t 4)), (some (35, false))⟩,
    ⟨some 37, .h (.load false 1 (.t 36)), (some (35, false))⟩,
    ⟨some 38, .call 33 [(.t 37)], (some (35, false))⟩,
    ⟨some 39, .p (.un .not (.t 38)), (some (35, false))⟩,
    ⟨some 40, .p (.pick (.t 35) (.c (.bool true)) (.t 39)), none⟩,
    ⟨some 41, .p (.mov (.t 40)), none⟩,
    ⟨some 42, .p (.fieldA 1 (.t 4)), (some (41, false))⟩,
    ⟨some 43, .h (.load false 1 (.t 42)), (some (41, false))⟩,
    ⟨some 44, .call 33 [(.t 43)], (some (41, false))⟩,
    ⟨some 45, .p (.un .not (.t 44)), (some (41, false))⟩,
    ⟨some 46, .p (.pick (.t 41) (.c (.bool true)) (.t 45)), none⟩,
    ⟨some 47, .p (.mov (.t 46)), none⟩,
    ⟨some 48, .p (.fieldA 3 (.t 4)), (some (47, false))⟩,
    ⟨some 49, .h (.load false 1 (.t 48)), (some (47, false))⟩,
    ⟨some 50, .call 34 [(.t 49)], (some (47, false))⟩,
    ⟨some 51, .p (.un .not (.t 50)), (some (47, false))⟩,
    ⟨some 52, .p (.pick (.t 47) (.c (.bool true)) (.t 51)), none⟩,
    ⟨some 53, .p (.mov (.t 52)), none⟩,
    ⟨some 54, .p (.mov (.t 3)), (some (53, false))⟩,
    ⟨some 55, .p (.bin .gtr (.t 54) (.c (.int .i64 0))), (some (53, false))⟩,
    ⟨some 56, .p (.mov (.t 55)), (some (53, false))⟩,
    ⟨some 57, .p (.fieldA 0 (.t 4)), (some (56, true))⟩,
    ⟨some 58, .h (.load false 1 (.t 57)), (some (56, true))⟩,
    ⟨some 59, .p (.fieldA 1 (.t 1)), (some (56, true))⟩,
    ⟨some 60, .h (.load false 1 (.t 59)), (some (56, true))⟩,
    ⟨some 61, .p (.mov (.t 3)), (some (56, true))⟩,
    ⟨some 62, .p (.bin .sub (.t 61) (.c (.int .i64 1))), (some (56, true))⟩,
    ⟨some 63, .p (.idxA 4 none (.t 60) (.t 62)), (some (56, true))⟩,
    ⟨some 64, .p (.fieldA 0 (.t 63)), (some (56, true))⟩,
    ⟨some 65, .h (.load false 1 (.t 64)), (some (56, true))⟩,
    ⟨some 66, .p (.bin .leq (.t 58) (.t 65)), (some (56, true))⟩,
    ⟨some 67, .p (.pick (.t 56) (.t 66) (.c (.bool false))), (some (53, false))⟩,
    ⟨some 68, .p (.pick (.t 53) (.c (.bool true)) (.t 67)), none⟩])
  (.cond (.t 68) (.seq (.reg [⟨some 2, .p (.mov (.c (.bool false))), none⟩])
  .ret) .skip))))
  (.reg [⟨some 24, .p (.mov (.t 3)), none⟩,
    ⟨some 25, .p (.bin .add (.t 24) (.c (.int .i64 1))), none⟩,
    ⟨some 3, .p (.mov (.t 25)), none⟩]))))))
  (.seq (.reg [⟨some 2, .p (.mov (.c (.bool true))), none⟩])
  .ret))))
def rs16 : List AR := [.tmp 2]
theorem ok16 : okF Try.prog 16 69 ac16 rs16 = true := by kernel_rfl
/-- simulacrum/token.Hear -/
def ac17 : AC := (.seq (.reg [⟨some 2, .h (.box (.t 0)), none⟩,
    ⟨some 3, .h (.box (.t 1)), none⟩,
    ⟨some 4, .h (.alloc [(.int .i64 0), .nils]), none⟩,
    ⟨some 5, .h (.alloc [(.int .i64 0), (.int .i64 0), (.int .i64 0), (.int .i64 0), (.int .i64 0), (.int .i64 0), (.bool false), (.int .i64 0), (.int .i64 0)]), none⟩,
    ⟨some 6, .p (.mov (.c (.int .i64 0))), none⟩])
  (.seq (.seq (.reg [⟨some 12, .h (.load true 5 (.t 3)), none⟩,
    ⟨some 13, .call 35 [(.t 12)], none⟩,
    ⟨some 14, .p (.un .not (.t 13)), none⟩])
  (.cond (.t 14) (.seq (.reg [⟨some 15, .h (.load true 2 (.t 2)), none⟩,
    ⟨some 16, .v (.build [(.int .i64 0), (.int .i64 0), (.int .i64 0), (.int .i64 0), (.int .i64 0), (.int .i64 0), (.bool false), (.int .i64 0), (.int .i64 0)] []), none⟩,
    ⟨none, .h (.store 2 (.t 4) (.t 15)), none⟩,
    ⟨none, .h (.store 9 (.t 5) (.t 16)), none⟩,
    ⟨some 6, .p (.mov (.c (.int .i64 1))), none⟩])
  .ret) .skip))
  (.seq (.reg [⟨some 17, .p (.fieldA 1 (.t 2)), none⟩,
    ⟨some 18, .h (.load false 1 (.t 17)), none⟩,
    ⟨some 19, .p (.len false (.t 18)), none⟩,
    ⟨some 20, .p (.mkfn 37 [(.t 2), (.t 3)]), none⟩,
    ⟨some 21, .call 36 [(.t 19), (.t 20)], none⟩,
    ⟨some 7, .p (.mov (.t 21)), none⟩])
  (.seq (.draw 17 [] [⟨some 22, .p (.mov (.t 7)), none⟩,
    ⟨some 23, .p (.fieldA 1 (.t 2)), none⟩,
    ⟨some 24, .h (.load false 1 (.t 23)), none⟩,
    ⟨some 25, .p (.len false (.t 24)), none⟩,
    ⟨some 26, .p (.bin .lss (.t 22) (.t 25)), none⟩,
    ⟨some 27, .p (.mov (.t 26)), none⟩,
    ⟨some 28, .p (.fieldA 1 (.t 2)), (some (27, true))⟩,
    ⟨some 29, .h (.load false 1 (.t 28)), (some (27, true))⟩,
    ⟨some 30, .p (.mov (.t 7)), (some (27, true))⟩,
    ⟨some 31, .p (.idxA 4 none (.t 29) (.t 30)), (some (27, true))⟩,
    ⟨some 32, .p (.fieldA 0 (.t 31)), (some (27, true))⟩,
    ⟨some 33, .h (.load false 1 (.t 32)), (some (27, true))⟩,
    ⟨some 34, .p (.fieldA 1 (.t 3)), (some (27, true))⟩,
    ⟨some 35, .h (.load false 1 (.t 34)), (some (27, true))⟩,
    ⟨some 36, .p (.bin .eql (.t 33) (.t 35)), (some (27, true))⟩,
    ⟨some 37, .p (.pick (.t 27) (.t 36) (.c (.bool false))), none⟩,
    ⟨some 8, .p (.mov (.t 37)), none⟩])
  (.seq (.seq (.reg [⟨some 38, .p (.mov (.t 8)), none⟩,
    ⟨some 39, .p (.un .not (.t 38)), none⟩,
    ⟨some 40, .p (.mov (.t 39)), none⟩,
    ⟨some 41, .p (.fieldA 1 (.t 2)), (some (40, true))⟩,
    ⟨some 42, .h (.load false 1 (.t 41)), (some (40, true))⟩,
    ⟨some 43, .p (.len false (.t 42)), (some (40, true))⟩,
    ⟨some 44, .p (.bin .geq (.t 43) (.c (.int .i64 64))), (some (40, true))⟩,
    ⟨some 45, .p (.pick (.t 40) (.t 44) (.c (.bool false))), none⟩])
  (.cond (.t 45) (.seq (.reg [⟨some 46, .h (.load true 2 (.t 2)), none⟩,
    ⟨some 47, .v (.build [(.int .i64 0), (.int .i64 0), (.int .i64 0), (.int .i64 0), (.int .i64 0), (.int .i64 0), (.bool false), (.int .i64 0), (.int .i64 0)] []), none⟩,
    ⟨none, .h (.store 2 (.t 4) (.t 46)), none⟩,
    ⟨none, .h (.store 9 (.t 5) (.t 47)), none⟩,
    ⟨some 6, .p (.mov (.c (.int .i64 2))), none⟩])
  .ret) .skip))
  (.seq (.reg [⟨some 48, .p (.fieldA 0 (.t 2)), none⟩,
    ⟨some 49, .h (.load false 1 (.t 48)), none⟩,
    ⟨some 50, .h (.load true 5 (.t 3)), none⟩,
    ⟨some 51, .v (.build [(.int .i64 0), (.int .i64 0), (.int .i64 0), (.int .i64 0), (.int .i64 0), (.int .i64 0), (.bool false), (.int .i64 0), (.int .i64 0)] [(0, 1, (.t 49)), (1, 5, (.t 50))]), none⟩,
    ⟨some 9, .h (.alloc [(.int .i64 0), (.int .i64 0), (.int .i64 0), (.int .i64 0), (.int .i64 0), (.int .i64 0), (.bool false), (.int .i64 0), (.int .i64 0)]), none⟩,
    ⟨none, .h (.store 9 (.t 9) (.t 51)), none⟩])
  (.seq (.seq (.reg [⟨some 52, .p (.mov (.t 8)), none⟩,
    ⟨some 53, .p (.un .not (.t 52)), none⟩,
    ⟨some 54, .p (.mov (.t 53)), none⟩,
    ⟨some 55, .p (.fieldA 0 (.t 3)), (some (54, true))⟩,
    ⟨some 56, .h (.load false 1 (.t 55)), (some (54, true))⟩,
    ⟨some 57, .p (.bin .eql (.t 56) (.c (.int .i64 2))), (some (54, true))⟩,
    ⟨some 58, .p (.pick (.t 54) (.t 57) (.c (.bool false))), none⟩])
  (.cond (.t 58) (.seq (.draw 5 [(0, 2), (1, 3), (2, 3), (0, 3)] [⟨some 59, .h (.load true 2 (.t 2)), none⟩,
    ⟨some 60, .h (.load true 9 (.t 9)), none⟩,
    ⟨none, .h (.store 2 (.t 4) (.t 59)), none⟩,
    ⟨none, .h (.store 9 (.t 5) (.t 60)), none⟩,
    ⟨some 6, .p (.mov (.c (.int .i64 0))), none⟩])
  .ret) .skip))
  (.seq (.reg [⟨some 61, .p (.fieldA 1 (.t 3)), none⟩,
    ⟨some 62, .h (.load false 1 (.t 61)), none⟩,
    ⟨some 63, .v (.build [(.int .i64 0), (.int .i64 0), (.int .i64 0), (.int .i64 0)] [(0, 1, (.t 62))]), none⟩,
    ⟨some 10, .h (.alloc [(.int .i64 0), (.int .i64 0), (.int .i64 0), (.int .i64 0)]), none⟩,
    ⟨none, .h (.store 4 (.t 10) (.t 63)), none⟩])
  (.seq (.reg [⟨some 64, .d (.bslice 4 0 [(.int .i64 0), (.int .i64 0), (.int .i64 0), (.int .i64 0)] []), none⟩,
    ⟨some 65, .p (.fieldA 1 (.t 2)), none⟩,
    ⟨some 66, .h (.load false 1 (.t 65)), none⟩,
    ⟨some 67, .p (.mov (.t 7)), none⟩,
    ⟨some 68, .v (.sub 4 (.t 66) none (some (.t 67)) none), none⟩,
    ⟨some 69, .l (.append 4 32 (.t 64) (.t 68)), none⟩,
    ⟨some 11, .p (.mov (.t 69)), none⟩])
  (.seq (.seq (.reg [⟨some 70, .p (.mov (.t 8)), none⟩])
  (.cond (.t 70) (.seq (.reg [⟨some 71, .p (.fieldA 1 (.t 2)), none⟩,
    ⟨some 72, .h (.load false 1 (.t 71)), none⟩,
    ⟨some 73, .p (.mov (.t 7)), none⟩,
    ⟨some 74, .p (.idxA 4 none (.t 72) (.t 73)), none⟩,
    ⟨some 75, .h (.load true 4 (.t 74)), none⟩,
    ⟨none, .h (.store 4 (.t 10) (.t 75)), none⟩])
  (.draw 11 [(1, 2), (2, 3), (3, 9)] [⟨some 76, .p (.mov (.t 11)), none⟩,
    ⟨some 77, .h (.load true 4 (.t 10)), none⟩,
    ⟨some 78, .d (.bslice 4 1 [(.int .i64 0), (.int .i64 0), (.int .i64 0), (.int .i64 0)] [(0, (.t 77))]), none⟩,
    ⟨some 79, .l (.append 4 32 (.t 76) (.t 78)), none⟩,
    ⟨some 80, .p (.fieldA 1 (.t 2)), none⟩,
    ⟨some 81, .h (.load false 1 (.t 80)), none⟩,
    ⟨some 82, .p (.mov (.t 7)), none⟩,
    ⟨some 83, .p (.bin .add (.t 82) (.c (.int .i64 1))), none⟩,
    ⟨some 84, .v (.sub 4 (.t 81) (some (.t 83)) none none), none⟩,
    ⟨some 85, .l (.append 4 32 (.t 79) (.t 84)), none⟩,
    ⟨some 11, .p (.mov (.t 85)), none⟩])) (.draw 10 [(1, 2), (2, 3), (3, 8)] [⟨some 86, .p (.mov (.t 11)), none⟩,
    ⟨some 87, .h (.load true 4 (.t 10)), none⟩,
    ⟨some 88, .d (.bslice 4 1 [(.int .i64 0), (.int .i64 0), (.int .i64 0), (.int .i64 0)] [(0, (.t 87))]), none⟩,
    ⟨some 89, .l (.append 4 32 (.t 86) (.t 88)), none⟩,
    ⟨some 90, .p (.fieldA 1 (.t 2)), none⟩,
    ⟨some 91, .h (.load false 1 (.t 90)), none⟩,
    ⟨some 92, .p (.mov (.t 7)), none⟩,
    ⟨some 93, .v (.sub 4 (.t 91) (some (.t 92)) none none), none⟩,
    ⟨some 94, .l (.append 4 32 (.t 89) (.t 93)), none⟩,
    ⟨some 11, .p (.mov (.t 94)), none⟩])))
  (.seq (.seq (.reg [⟨some 95, .p (.fieldA 0 (.t 3)), none⟩,
    ⟨some 96, .h (.load false 1 (.t 95)), none⟩,
    ⟨some 97, .p (.bin .eql (.t 96) (.c (.int .i64 1))), none⟩,
    ⟨some 98, .p (.mov (.t 97)), none⟩,
    ⟨some 99, .p (.fieldA 3 (.t 3)), (some (98, true))⟩,
    ⟨some 100, .h (.load false 1 (.t 99)), (some (98, true))⟩,
    ⟨some 101, .p (.fieldA 1 (.t 10)), (some (98, true))⟩,
    ⟨some 102, .h (.load false 1 (.t 101)), (some (98, true))⟩,
    ⟨some 103, .p (.bin .gtr (.t 100) (.t 102)), (some (98, true))⟩,
    ⟨some 104, .p (.pick (.t 98) (.t 103) (.c (.bool false))), none⟩])
  (.cond (.t 104) (.draw 8 [(1, 5), (3, 7), (5, 7), (1, 7)] [⟨some 105, .p (.fieldA 3 (.t 3)), none⟩,
    ⟨some 106, .h (.load false 1 (.t 105)), none⟩,
    ⟨some 107, .p (.fieldA 2 (.t 3)), none⟩,
    ⟨some 108, .h (.load false 1 (.t 107)), none⟩,
    ⟨some 109, .p (.fieldA 1 (.t 10)), none⟩,
    ⟨none, .h (.store 1 (.t 109) (.t 106)), none⟩,
    ⟨some 110, .p (.fieldA 2 (.t 10)), none⟩,
    ⟨none, .h (.store 1 (.t 110) (.t 108)), none⟩]) .skip))
  (.seq (.reg [⟨some 111, .p (.fieldA 1 (.t 10)), none⟩,
    ⟨some 112, .h (.load false 1 (.t 111)), none⟩,
    ⟨some 113, .p (.fieldA 3 (.t 3)), none⟩,
    ⟨some 114, .h (.load false 1 (.t 113)), none⟩,
    ⟨some 115, .p (.bin .eql (.t 112) (.t 114)), none⟩,
    ⟨some 116, .p (.mov (.t 115)), none⟩,
    ⟨some 117, .p (.fieldA 2 (.t 10)), (some (116, true))⟩,
    ⟨some 118, .h (.load false 1 (.t 117)), (some (116, true))⟩,
    ⟨some 119, .p (.fieldA 2 (.t 3)), (some (116, true))⟩,
    ⟨some 120, .h (.load false 1 (.t 119)), (some (116, true))⟩,
    ⟨some 121, .p (.bin .eql (.t 118) (.t 120)), (some (116, true))⟩,
    ⟨some 122, .p (.pick (.t 116) (.t 121) (.c (.bool false))), none⟩,
    ⟨some 123, .p (.fieldA 6 (.t 9)), none⟩,
    ⟨none, .h (.store 1 (.t 123) (.t 122)), none⟩])
  (.seq (.seq (.reg [⟨some 124, .p (.fieldA 6 (.t 9)), none⟩,
    ⟨some 125, .h (.load false 1 (.t 124)), none⟩])
  (.cond (.t 125) (.reg [⟨some 126, .p (.fieldA 3 (.t 10)), none⟩,
    ⟨some 127, .h (.load false 1 (.t 126)), none⟩,
    ⟨some 128, .p (.fieldA 4 (.t 3)), none⟩,
    ⟨some 129, .h (.load false 1 (.t 128)), none⟩,
    ⟨some 130, .p (.mm true (.t 127) (.t 129)), none⟩,
    ⟨some 131, .p (.fieldA 3 (.t 10)), none⟩,
    ⟨none, .h (.store 1 (.t 131) (.t 130)), none⟩]) .skip))
  (.seq (.draw 8 [(1, 5), (3, 7), (5, 7), (1, 7)] [⟨some 132, .p (.fieldA 1 (.t 10)), none⟩,
    ⟨some 133, .h (.load false 1 (.t 132)), none⟩,
    ⟨some 134, .p (.fieldA 3 (.t 10)), none⟩,
    ⟨some 135, .h (.load false 1 (.t 134)), none⟩,
    ⟨some 136, .p (.fieldA 7 (.t 9)), none⟩,
    ⟨none, .h (.store 1 (.t 136) (.t 133)), none⟩,
    ⟨some 137, .p (.fieldA 8 (.t 9)), none⟩,
    ⟨none, .h (.store 1 (.t 137) (.t 135)), none⟩])
  (.seq (.reg [⟨some 138, .p (.mov (.t 11)), none⟩,
    ⟨some 139, .p (.mov (.t 7)), none⟩,
    ⟨some 140, .h (.load true 4 (.t 10)), none⟩,
    ⟨some 141, .p (.idxA 4 none (.t 138) (.t 139)), none⟩,
    ⟨none, .h (.store 4 (.t 141) (.t 140)), none⟩])
  (.seq (.draw 8 [(1, 5), (4, 6), (5, 6), (1, 6)] [⟨some 142, .p (.fieldA 0 (.t 2)), none⟩,
    ⟨some 143, .h (.load false 1 (.t 142)), none⟩,
    ⟨some 144, .p (.mov (.t 11)), none⟩,
    ⟨some 145, .v (.build [(.int .i64 0), .nils] [(0, 1, (.t 143)), (1, 1, (.t 144))]), none⟩,
    ⟨some 146, .h (.load true 9 (.t 9)), none⟩,
    ⟨none, .h (.store 2 (.t 4) (.t 145)), none⟩,
    ⟨none, .h (.store 9 (.t 5) (.t 146)), none⟩,
    ⟨some 6, .p (.mov (.c (.int .i64 0))), none⟩])
  .ret))))))))))))))))
def rs17 : List AR := [.cell 4 true 2, .cell 5 true 9, .tmp 6]
theorem ok17 : okF Try.prog 17 147 ac17 rs17 = true := by kernel_rfl
/-- simulacrum/simulacrumref37.Same -/
def ac18 : AC := (.seq (.reg [⟨some 2, .h (.box (.t 0)), none⟩,
    ⟨some 3, .h (.box (.t 1)), none⟩,
    ⟨some 4, .p (.mov (.c (.bool false))), none⟩])
  (.seq (.seq (.reg [⟨some 6, .p (.fieldA 0 (.t 2)), none⟩,
    ⟨some 7, .h (.load false 1 (.t 6)), none⟩,
    ⟨some 8, .p (.fieldA 0 (.t 3)), none⟩,
    ⟨some 9, .h (.load false 1 (.t 8)), none⟩,
    ⟨some 10, .p (.bin .neq (.t 7) (.t 9)), none⟩,
    ⟨some 11, .p (.mov (.t 10)), none⟩,
    ⟨some 12, .p (.fieldA 1 (.t 2)), (some (11, false))⟩,
    ⟨some 13, .h (.load false 1 (.t 12)), (some (11, false))⟩,
    ⟨some 14, .p (.len false (.t 13)), (some (11, false))⟩,
    ⟨some 15, .p (.fieldA 1 (.t 3)), (some (11, false))⟩,
    ⟨some 16, .h (.load false 1 (.t 15)), (some (11, false))⟩,
    ⟨some 17, .p (.len false (.t 16)), (some (11, false))⟩,
    ⟨some 18, .p (.bin .neq (.t 14) (.t 17)), (some (11, false))⟩,
    ⟨some 19, .p (.pick (.t 11) (.c (.bool true)) (.t 18)), none⟩])
  (.cond (.t 19) (.seq (.reg [⟨some 4, .p (.mov (.c (.bool false))), none⟩])
  .ret) .skip))
  (.seq (.seq (.reg [⟨some 5, .p (.mov (.c (.int .i64 0))), none⟩])
  (.block 0 (.loop (.seq (.seq (.reg [⟨some 20, .p (.mov (.t 5)), none⟩,
    ⟨some 21, .p (.fieldA 1 (.t 2)), none⟩,
    ⟨some 22, .h (.load false 1 (.t 21)), none⟩,
    ⟨some 23, .p (.len false (.t 22)), none⟩,
    ⟨some 24, .p (.bin .lss (.t 20) (.t 23)), none⟩])
  (.cond (.t 24) .skip (.exit 0)))
  (.seq (.block 1 (.seq (.draw 11 [] [⟨some 27, .p (.fieldA 1 (.t 2)), none⟩,
    ⟨some 28, .h (.load false 1 (.t 27)), none⟩,
    ⟨some 29, .p (.mov (.t 5)), none⟩,
    ⟨some 30, .p (.idxA 4 none (.t 28) (.t 29)), none⟩,
    ⟨some 31, .h (.load true 4 (.t 30)), none⟩,
    ⟨some 32, .p (.fieldA 1 (.t 3)), none⟩,
    ⟨some 33, .h (.load false 1 (.t 32)), none⟩,
    ⟨some 34, .p (.mov (.t 5)), none⟩,
    ⟨some 35, .p (.idxA 4 none (.t 33) (.t 34)), none⟩,
    ⟨some 36, .h (.load true 4 (.t 35)), none⟩,
    ⟨some 37, .v (.eqa true [(.i .i64), (.i .i64), (.i .i64), (.i .i64)] (.t 31) (.t 36)), none⟩])
  (.cond (.t 37) (.seq (.reg [⟨some 4, .p (.mov (.c (.bool false))), none⟩])
  .ret) .skip)))
  (.reg [⟨some 25, .p (.mov (.t 5)), none⟩,
    ⟨some 26, .p (.bin .add (.t 25) (.c (.int .i64 1))), none⟩,
    ⟨some 5, .p (.mov (.t 26)), none⟩]))))))
  (.seq (.reg [⟨some 4, .p (.mov (.c (.bool true))), none⟩])
  .ret))))
def rs18 : List AR := [.tmp 4]
theorem ok18 : okF Try.prog 18 38 ac18 rs18 = true := by kernel_rfl
/-- simulacrum/token.Right -/
def ac19 : AC := (.seq (.reg [⟨some 1, .h (.box (.t 0)), none⟩,
    ⟨some 2, .p (.mov (.c (.bool false))), none⟩])
  (.seq (.reg [⟨some 3, .p (.fieldA 0 (.t 1)), none⟩,
    ⟨some 4, .h (.load false 1 (.t 3)), none⟩,
    ⟨some 5, .p (.fieldA 1 (.t 1)), none⟩,
    ⟨some 6, .h (.load false 1 (.t 5)), none⟩,
    ⟨some 7, .d (.bslice 1 2 [(.int .i64 0)] [(0, (.t 4)), (1, (.t 6))]), none⟩,
    ⟨some 8, .call 30 [(.t 7)], none⟩,
    ⟨some 9, .p (.mov (.t 8)), none⟩,
    ⟨some 10, .p (.fieldA 2 (.t 1)), (some (9, true))⟩,
    ⟨some 11, .h (.load false 1 (.t 10)), (some (9, true))⟩,
    ⟨some 12, .p (.fieldA 10 (.t 1)), (some (9, true))⟩,
    ⟨some 13, .h (.load false 1 (.t 12)), (some (9, true))⟩,
    ⟨some 14, .p (.mm false (.t 11) (.t 13)), (some (9, true))⟩,
    ⟨some 15, .p (.bin .geq (.t 14) (.c (.int .i64 0))), (some (9, true))⟩,
    ⟨some 16, .p (.pick (.t 9) (.t 15) (.c (.bool false))), none⟩,
    ⟨some 17, .p (.mov (.t 16)), none⟩,
    ⟨some 18, .p (.fieldA 2 (.t 1)), (some (17, true))⟩,
    ⟨some 19, .h (.load false 1 (.t 18)), (some (17, true))⟩,
    ⟨some 20, .p (.fieldA 10 (.t 1)), (some (17, true))⟩,
    ⟨some 21, .h (.load false 1 (.t 20)), (some (17, true))⟩,
    ⟨some 22, .p (.mm true (.t 19) (.t 21)), (some (17, true))⟩,
    ⟨some 23, .p (.bin .leq (.t 22) (.c (.int .i64 1073741824))), (some (17, true))⟩,
    ⟨some 24, .p (.pick (.t 17) (.t 23) (.c (.bool false))), none⟩,
    ⟨some 25, .p (.mov (.t 24)), none⟩,
    ⟨some 26, .p (.fieldA 6 (.t 1)), (some (25, true))⟩,
    ⟨some 27, .h (.load false 1 (.t 26)), (some (25, true))⟩,
    ⟨some 28, .d (.bslice 1 1 [(.int .i64 0)] [(0, (.t 27))]), (some (25, true))⟩,
    ⟨some 29, .call 31 [(.t 28)], (some (25, true))⟩,
    ⟨some 30, .p (.pick (.t 25) (.t 29) (.c (.bool false))), none⟩,
    ⟨some 31, .p (.mov (.t 30)), none⟩,
    ⟨some 32, .p (.fieldA 7 (.t 1)), (some (31, true))⟩,
    ⟨some 33, .d (.asub 1 3 (.t 32) none none), (some (31, true))⟩,
    ⟨some 34, .call 31 [(.t 33)], (some (31, true))⟩,
    ⟨some 35, .p (.pick (.t 31) (.t 34) (.c (.bool false))), none⟩,
    ⟨some 2, .p (.mov (.t 35)), none⟩])
  .ret))
def rs19 : List AR := [.tmp 2]
theorem ok19 : okF Try.prog 19 36 ac19 rs19 = true := by kernel_rfl
/-- simulacrum/simulacrumref37.Right -/
def ac20 : AC := (.seq (.reg [⟨some 1, .h (.box (.t 0)), none⟩,
    ⟨some 2, .p (.mov (.c (.bool false))), none⟩])
  (.seq (.seq (.reg [⟨some 4, .p (.fieldA 0 (.t 1)), none⟩,
    ⟨some 5, .h (.load false 1 (.t 4)), none⟩,
    ⟨some 6, .call 33 [(.t 5)], none⟩,
    ⟨some 7, .p (.un .not (.t 6)), none⟩,
    ⟨some 8, .p (.mov (.t 7)), none⟩,
    ⟨some 9, .p (.fieldA 1 (.t 1)), (some (8, false))⟩,
    ⟨some 10, .h (.load false 1 (.t 9)), (some (8, false))⟩,
    ⟨some 11, .call 33 [(.t 10)], (some (8, false))⟩,
    ⟨some 12, .p (.un .not (.t 11)), (some (8, false))⟩,
    ⟨some 13, .p (.pick (.t 8) (.c (.bool true)) (.t 12)), none⟩,
    ⟨some 14, .p (.mov (.t 13)), none⟩,
    ⟨some 15, .p (.fieldA 2 (.t 1)), (some (14, false))⟩,
    ⟨some 16, .h (.load false 1 (.t 15)), (some (14, false))⟩,
    ⟨some 17, .p (.bin .lss (.t 16) (.c (.int .i64 0))), (some (14, false))⟩,
    ⟨some 18, .p (.pick (.t 14) (.c (.bool true)) (.t 17)), none⟩,
    ⟨some 19, .p (.mov (.t 18)), none⟩,
    ⟨some 20, .p (.fieldA 2 (.t 1)), (some (19, false))⟩,
    ⟨some 21, .h (.load false 1 (.t 20)), (some (19, false))⟩,
    ⟨some 22, .p (.bin .gtr (.t 21) (.c (.int .i64 1073741824))), (some (19, false))⟩,
    ⟨some 23, .p (.pick (.t 19) (.c (.bool true)) (.t 22)), none⟩,
    ⟨some 24, .p (.mov (.t 23)), none⟩,
    ⟨some 25, .p (.fieldA 10 (.t 1)), (some (24, false))⟩,
    ⟨some 26, .h (.load false 1 (.t 25)), (some (24, false))⟩,
    ⟨some 27, .p (.bin .lss (.t 26) (.c (.int .i64 0))), (some (24, false))⟩,
    ⟨some 28, .p (.pick (.t 24) (.c (.bool true)) (.t 27)), none⟩,
    ⟨some 29, .p (.mov (.t 28)), none⟩,
    ⟨some 30, .p (.fieldA 10 (.t 1)), (some (29, false))⟩,
    ⟨some 31, .h (.load false 1 (.t 30)), (some (29, false))⟩,
    ⟨some 32, .p (.bin .gtr (.t 31) (.c (.int .i64 1073741824))), (some (29, false))⟩,
    ⟨some 33, .p (.pick (.t 29) (.c (.bool true)) (.t 32)), none⟩,
    ⟨some 34, .p (.mov (.t 33)), none⟩,
    ⟨some 35, .p (.fieldA 6 (.t 1)), (some (34, false))⟩,
    ⟨some 36, .h (.load false 1 (.t 35)), (some (34, false))⟩,
    ⟨some 37, .call 34 [(.t 36)], (some (34, false))⟩,
    ⟨some 38, .p (.un .not (.t 37)), (some (34, false))⟩,
    ⟨some 39, .p (.pick (.t 34) (.c (.bool true)) (.t 38)), none⟩])
  (.cond (.t 39) (.seq (.reg [⟨some 2, .p (.mov (.c (.bool false))), none⟩])
  .ret) .skip))
  (.seq (.seq (.reg [⟨some 3, .p (.mov (.c (.int .i64 0))), none⟩])
  (.block 0 (.loop (.seq (.seq (.reg [⟨some 40, .p (.mov (.t 3)), none⟩,
    ⟨some 41, .p (.bin .lss (.t 40) (.c (.int .i64 3))), none⟩])
  (.cond (.t 41) .skip (.exit 0)))
  (.seq (.block 1 (.seq (.reg [⟨some 44, .p (.mov (.t 3)), none⟩,
    ⟨some 45, .p (.fieldA 7 (.t 1)), none⟩,
    ⟨some 46, .p (.idxA 1 (some 3) (.t 45) (.t 44)), none⟩,
    ⟨some 47, .h (.load false 1 (.t 46)), none⟩,
    ⟨some 48, .call 34 [(.t 47)], none⟩,
    ⟨some 49, .p (.un .not (.t 48)), none⟩])
  (.cond (.t 49) (.seq (.reg [⟨some 2, .p (.mov (.c (.bool false))), none⟩])
  .ret) .skip)))
  (.reg [⟨some 42, .p (.mov (.t 3)), none⟩,
    ⟨some 43, .p (.bin .add (.t 42) (.c (.int .i64 1))), none⟩,
    ⟨some 3, .p (.mov (.t 43)), none⟩]))))))
  (.seq (.reg [⟨some 2, .p (.mov (.c (.bool true))), none⟩])
  .ret))))
def rs20 : List AR := [.tmp 2]
theorem ok20 : okF Try.prog 20 50 ac20 rs20 = true := by kernel_rfl
/-- simulacrum/simulacrumref37.Seek -/
def ac21 : AC := (.seq (.reg [⟨some 2, .h (.box (.t 0)), none⟩,
    ⟨some 4, .h (.alloc [(.int .i64 0), (.int .i64 0), (.int .i64 0), (.bool false), (.bool false), (.bool false), (.int .i64 0), (.int .i64 0), (.int .i64 0), (.int .i64 0), (.int .i64 0), (.int .i64 0), (.int .i64 0), (.int .i64 0), (.int .i64 0), (.int .i64 0), (.int .i64 0)]), none⟩])
  (.seq (.seq (.reg [⟨some 6, .p (.mov (.t 1)), none⟩,
    ⟨some 7, .call 33 [(.t 6)], none⟩,
    ⟨some 8, .p (.un .not (.t 7)), none⟩])
  (.cond (.t 8) (.seq (.reg [⟨some 9, .h (.load true 11 (.t 2)), none⟩,
    ⟨some 10, .v (.build [(.int .i64 0), (.int .i64 0), (.int .i64 0), (.bool false), (.bool false), (.bool false), (.int .i64 0), (.int .i64 0), (.int .i64 0), (.int .i64 0), (.int .i64 0), (.int .i64 0), (.int .i64 0), (.int .i64 0), (.int .i64 0), (.int .i64 0), (.int .i64 0)] [(0, 11, (.t 9)), (16, 1, (.c (.int .i64 1)))]), none⟩,
    ⟨none, .h (.store 17 (.t 4) (.t 10)), none⟩])
  .ret) .skip))
  (.seq (.seq (.reg [⟨some 11, .p (.mov (.t 1)), none⟩,
    ⟨some 12, .p (.fieldA 2 (.t 2)), none⟩,
    ⟨some 13, .h (.load false 1 (.t 12)), none⟩,
    ⟨some 14, .p (.bin .leq (.t 11) (.t 13)), none⟩])
  (.cond (.t 14) (.seq (.reg [⟨some 15, .h (.load true 11 (.t 2)), none⟩,
    ⟨some 16, .v (.build [(.int .i64 0), (.int .i64 0), (.int .i64 0), (.bool false), (.bool false), (.bool false), (.int .i64 0), (.int .i64 0), (.int .i64 0), (.int .i64 0), (.int .i64 0), (.int .i64 0), (.int .i64 0), (.int .i64 0), (.int .i64 0), (.int .i64 0), (.int .i64 0)] [(0, 11, (.t 15)), (16, 1, (.c (.int .i64 9)))]), none⟩,
    ⟨none, .h (.store 17 (.t 4) (.t 16)), none⟩])
  .ret) .skip))
  (.seq (.reg [⟨some 17, .p (.fieldA 0 (.t 2)), none⟩,
    ⟨some 18, .h (.load false 1 (.t 17)), none⟩,
    ⟨some 19, .p (.fieldA 1 (.t 2)), none⟩,
    ⟨some 20, .h (.load false 1 (.t 19)), none⟩,
    ⟨some 21, .p (.mov (.t 1)), none⟩,
    ⟨some 22, .p (.fieldA 10 (.t 2)), none⟩,
    ⟨some 23, .h (.load false 1 (.t 22)), none⟩,
    ⟨some 24, .v (.build [(.int .i64 0), (.int .i64 0), (.int .i64 0), (.bool false), (.bool false), (.bool false), (.int .i64 0), (.int .i64 0), (.int .i64 0), (.int .i64 0), (.int .i64 0)] [(0, 1, (.t 18)), (1, 1, (.t 20)), (2, 1, (.t 21)), (10, 1, (.t 23))]), none⟩,
    ⟨some 5, .h (.alloc [(.int .i64 0), (.int .i64 0), (.int .i64 0), (.bool false), (.bool false), (.bool false), (.int .i64 0), (.int .i64 0), (.int .i64 0), (.int .i64 0), (.int .i64 0)]), none⟩,
    ⟨none, .h (.store 11 (.t 5) (.t 24)), none⟩])
  (.seq (.reg [⟨some 25, .h (.load true 11 (.t 5)), none⟩,
    ⟨some 26, .p (.fieldA 0 (.t 2)), none⟩,
    ⟨some 27, .h (.load false 1 (.t 26)), none⟩,
    ⟨some 28, .p (.fieldA 1 (.t 2)), none⟩,
    ⟨some 29, .h (.load false 1 (.t 28)), none⟩,
    ⟨some 30, .p (.mov (.t 1)), none⟩,
    ⟨some 31, .v (.build [(.int .i64 0), (.int .i64 0), (.int .i64 0), (.int .i64 0), (.int .i64 0)] [(0, 1, (.c (.int .i64 1))), (1, 1, (.t 27)), (2, 1, (.t 29)), (3, 1, (.t 30))]), none⟩,
    ⟨some 32, .v (.build [(.int .i64 0), (.int .i64 0), (.int .i64 0), (.bool false), (.bool false), (.bool false), (.int .i64 0), (.int .i64 0), (.int .i64 0), (.int .i64 0), (.int .i64 0), (.int .i64 0), (.int .i64 0), (.int .i64 0), (.int .i64 0), (.int .i64 0), (.int .i64 0)] [(0, 11, (.t 25)), (11, 5, (.t 31))]), none⟩,
    ⟨none, .h (.store 17 (.t 4) (.t 32)), none⟩])
  .ret)))))
def rs21 : List AR := [.cell 4 true 17]
theorem ok21 : okF Try.prog 21 33 ac21 rs21 = true := by kernel_rfl
/-- simulacrum/simulacrumref37.Offer -/
def ac22 : AC := (.seq (.reg [⟨some 2, .h (.box (.t 0)), none⟩,
    ⟨some 4, .h (.alloc [(.int .i64 0), (.int .i64 0), (.int .i64 0), (.bool false), (.bool false), (.bool false), (.int .i64 0), (.int .i64 0), (.int .i64 0), (.int .i64 0), (.int .i64 0), (.int .i64 0), (.int .i64 0), (.int .i64 0), (.int .i64 0), (.int .i64 0), (.int .i64 0)]), none⟩])
  (.seq (.seq (.reg [⟨some 5, .h (.load true 11 (.t 2)), none⟩,
    ⟨some 6, .call 25 [(.t 5)], none⟩,
    ⟨some 7, .p (.un .not (.t 6)), none⟩])
  (.cond (.t 7) (.seq (.reg [⟨some 8, .v (.build [(.int .i64 0), (.int .i64 0), (.int .i64 0), (.bool false), (.bool false), (.bool false), (.int .i64 0), (.int .i64 0), (.int .i64 0), (.int .i64 0), (.int .i64 0), (.int .i64 0), (.int .i64 0), (.int .i64 0), (.int .i64 0), (.int .i64 0), (.int .i64 0)] [(16, 1, (.c (.int .i64 4)))]), none⟩,
    ⟨none, .h (.store 17 (.t 4) (.t 8)), none⟩])
  .ret) .skip))
  (.seq (.seq (.reg [⟨some 9, .p (.mov (.t 1)), none⟩,
    ⟨some 10, .call 34 [(.t 9)], none⟩,
    ⟨some 11, .p (.un .not (.t 10)), none⟩])
  (.cond (.t 11) (.seq (.reg [⟨some 12, .v (.build [(.int .i64 0), (.int .i64 0), (.int .i64 0), (.bool false), (.bool false), (.bool false), (.int .i64 0), (.int .i64 0), (.int .i64 0), (.int .i64 0), (.int .i64 0), (.int .i64 0), (.int .i64 0), (.int .i64 0), (.int .i64 0), (.int .i64 0), (.int .i64 0)] [(16, 1, (.c (.int .i64 1)))]), none⟩,
    ⟨none, .h (.store 17 (.t 4) (.t 12)), none⟩])
  .ret) .skip))
  (.seq (.reg [⟨some 13, .p (.fieldA 0 (.t 2)), none⟩,
    ⟨some 14, .h (.load false 1 (.t 13)), none⟩,
    ⟨some 15, .p (.fieldA 1 (.t 2)), none⟩,
    ⟨some 16, .h (.load false 1 (.t 15)), none⟩,
    ⟨some 17, .p (.fieldA 2 (.t 2)), none⟩,
    ⟨some 18, .h (.load false 1 (.t 17)), none⟩,
    ⟨some 19, .p (.mov (.t 1)), none⟩,
    ⟨some 20, .v (.build [(.int .i64 0), (.int .i64 0), (.int .i64 0), (.int .i64 0), (.int .i64 0)] [(0, 1, (.c (.int .i64 2))), (1, 1, (.t 14)), (2, 1, (.t 16)), (3, 1, (.t 18)), (4, 1, (.t 19))]), none⟩,
    ⟨some 21, .v (.build [(.int .i64 0), (.int .i64 0), (.int .i64 0), (.bool false), (.bool false), (.bool false), (.int .i64 0), (.int .i64 0), (.int .i64 0), (.int .i64 0), (.int .i64 0), (.int .i64 0), (.int .i64 0), (.int .i64 0), (.int .i64 0), (.int .i64 0), (.int .i64 0)] [(11, 5, (.t 20))]), none⟩,
    ⟨none, .h (.store 17 (.t 4) (.t 21)), none⟩])
  .ret))))
def rs22 : List AR := [.cell 4 true 17]
theorem ok22 : okF Try.prog 22 22 ac22 rs22 = true := by kernel_rfl
end Go.Proofs

set_option maxRecDepth 100000
namespace Go.Proofs
open Go Go.Eng
/-- simulacrum/token.Take -/
def ac23 : AC := (.seq (.reg [⟨some 2, .h (.box (.t 0)), none⟩,
    ⟨some 3, .h (.box (.t 1)), none⟩,
    ⟨some 4, .h (.alloc [(.int .i64 0), (.int .i64 0), (.int .i64 0), (.bool false), (.bool false), (.bool false), (.int .i64 0), (.int .i64 0), (.int .i64 0), (.int .i64 0), (.int .i64 0)]), none⟩])
  (.seq (.reg [⟨some 7, .p (.fieldA 1 (.t 3)), none⟩,
    ⟨some 8, .h (.load true 5 (.t 7)), none⟩,
    ⟨some 5, .h (.alloc [(.int .i64 0), (.int .i64 0), (.int .i64 0), (.int .i64 0), (.int .i64 0)]), none⟩,
    ⟨none, .h (.store 5 (.t 5) (.t 8)), none⟩])
  (.seq (.seq (.reg [⟨some 9, .p (.fieldA 1 (.t 5)), none⟩,
    ⟨some 10, .h (.load false 1 (.t 9)), none⟩,
    ⟨some 11, .p (.fieldA 0 (.t 2)), none⟩,
    ⟨some 12, .h (.load false 1 (.t 11)), none⟩,
    ⟨some 13, .p (.bin .eql (.t 10) (.t 12)), none⟩,
    ⟨some 14, .p (.mov (.t 13)), none⟩,
    ⟨some 15, .p (.fieldA 7 (.t 3)), (some (14, true))⟩,
    ⟨some 16, .h (.load false 1 (.t 15)), (some (14, true))⟩,
    ⟨some 17, .d (.bslice 1 1 [(.int .i64 0)] [(0, (.t 16))]), (some (14, true))⟩,
    ⟨some 18, .call 30 [(.t 17)], (some (14, true))⟩,
    ⟨some 19, .p (.pick (.t 14) (.t 18) (.c (.bool false))), none⟩])
  (.cond (.t 19) (.reg [⟨some 20, .p (.fieldA 10 (.t 2)), none⟩,
    ⟨some 21, .h (.load false 1 (.t 20)), none⟩,
    ⟨some 22, .p (.fieldA 7 (.t 3)), none⟩,
    ⟨some 23, .h (.load false 1 (.t 22)), none⟩,
    ⟨some 24, .p (.mm true (.t 21) (.t 23)), none⟩,
    ⟨some 25, .p (.fieldA 10 (.t 2)), none⟩,
    ⟨none, .h (.store 1 (.t 25) (.t 24)), none⟩]) .skip))
  (.seq (.reg [⟨some 26, .h (.load true 5 (.t 5)), none⟩,
    ⟨some 6, .h (.alloc [(.int .i64 0), (.int .i64 0), (.int .i64 0), (.int .i64 0), (.int .i64 0)]), none⟩,
    ⟨none, .h (.store 5 (.t 6) (.t 26)), none⟩])
  (.seq (.draw 12 [(1, 7), (3, 9), (7, 9), (1, 9), (5, 11), (9, 11), (1, 11), (3, 11), (7, 11)] [⟨some 27, .p (.fieldA 0 (.t 2)), none⟩,
    ⟨some 28, .h (.load false 1 (.t 27)), none⟩,
    ⟨some 29, .p (.fieldA 1 (.t 2)), none⟩,
    ⟨some 30, .h (.load false 1 (.t 29)), none⟩,
    ⟨some 31, .p (.fieldA 2 (.t 2)), none⟩,
    ⟨some 32, .h (.load false 1 (.t 31)), none⟩,
    ⟨some 33, .p (.fieldA 1 (.t 6)), none⟩,
    ⟨none, .h (.store 1 (.t 33) (.t 28)), none⟩,
    ⟨some 34, .p (.fieldA 2 (.t 6)), none⟩,
    ⟨none, .h (.store 1 (.t 34) (.t 30)), none⟩,
    ⟨some 35, .p (.fieldA 3 (.t 6)), none⟩,
    ⟨none, .h (.store 1 (.t 35) (.t 32)), none⟩])
  (.seq (.seq (.reg [⟨some 36, .p (.fieldA 6 (.t 3)), none⟩,
    ⟨some 37, .h (.load false 1 (.t 36)), none⟩,
    ⟨some 38, .p (.un .not (.t 37)), none⟩,
    ⟨some 39, .p (.mov (.t 38)), none⟩,
    ⟨some 40, .p (.fieldA 0 (.t 3)), (some (39, false))⟩,
    ⟨some 41, .h (.load false 1 (.t 40)), (some (39, false))⟩,
    ⟨some 42, .p (.bin .lss (.t 41) (.c (.int .i64 0))), (some (39, false))⟩,
    ⟨some 43, .p (.pick (.t 39) (.c (.bool true)) (.t 42)), none⟩,
    ⟨some 44, .p (.mov (.t 43)), none⟩,
    ⟨some 45, .p (.fieldA 0 (.t 3)), (some (44, false))⟩,
    ⟨some 46, .h (.load false 1 (.t 45)), (some (44, false))⟩,
    ⟨some 47, .p (.bin .geq (.t 46) (.c (.int .i64 3))), (some (44, false))⟩,
    ⟨some 48, .p (.pick (.t 44) (.c (.bool true)) (.t 47)), none⟩,
    ⟨some 49, .p (.mov (.t 48)), none⟩,
    ⟨some 50, .h (.load true 5 (.t 5)), (some (49, false))⟩,
    ⟨some 51, .call 35 [(.t 50)], (some (49, false))⟩,
    ⟨some 52, .p (.un .not (.t 51)), (some (49, false))⟩,
    ⟨some 53, .p (.pick (.t 49) (.c (.bool true)) (.t 52)), none⟩,
    ⟨some 54, .p (.mov (.t 53)), none⟩,
    ⟨some 55, .h (.load true 5 (.t 5)), (some (54, false))⟩,
    ⟨some 56, .h (.load true 5 (.t 6)), (some (54, false))⟩,
    ⟨some 57, .v (.eqa true [(.i .i64), (.i .i64), (.i .i64), (.i .i64), (.i .i64)] (.t 55) (.t 56)), (some (54, false))⟩,
    ⟨some 58, .p (.pick (.t 54) (.c (.bool true)) (.t 57)), none⟩,
    ⟨some 59, .p (.mov (.t 58)), none⟩,
    ⟨some 60, .p (.fieldA 7 (.t 3)), (some (59, false))⟩,
    ⟨some 61, .h (.load false 1 (.t 60)), (some (59, false))⟩,
    ⟨some 62, .p (.bin .neq (.t 61) (.c (.int .i64 0))), (some (59, false))⟩,
    ⟨some 63, .p (.mov (.t 62)), (some (59, false))⟩,
    ⟨some 64, .p (.fieldA 7 (.t 3)), (some (63, true))⟩,
    ⟨some 65, .h (.load false 1 (.t 64)), (some (63, true))⟩,
    ⟨some 66, .d (.bslice 1 1 [(.int .i64 0)] [(0, (.t 65))]), (some (63, true))⟩,
    ⟨some 67, .call 30 [(.t 66)], (some (63, true))⟩,
    ⟨some 68, .p (.un .not (.t 67)), (some (63, true))⟩,
    ⟨some 69, .p (.pick (.t 63) (.t 68) (.c (.bool false))), (some (59, false))⟩,
    ⟨some 70, .p (.pick (.t 59) (.c (.bool true)) (.t 69)), none⟩,
    ⟨some 71, .p (.mov (.t 70)), none⟩,
    ⟨some 72, .p (.fieldA 8 (.t 3)), (some (71, false))⟩,
    ⟨some 73, .h (.load false 1 (.t 72)), (some (71, false))⟩,
    ⟨some 74, .d (.bslice 1 1 [(.int .i64 0)] [(0, (.t 73))]), (some (71, false))⟩,
    ⟨some 75, .call 31 [(.t 74)], (some (71, false))⟩,
    ⟨some 76, .p (.un .not (.t 75)), (some (71, false))⟩,
    ⟨some 77, .p (.pick (.t 71) (.c (.bool true)) (.t 76)), none⟩])
  (.cond (.t 77) (.seq (.reg [⟨some 78, .h (.load true 11 (.t 2)), none⟩,
    ⟨none, .h (.store 11 (.t 4) (.t 78)), none⟩])
  .ret) .skip))
  (.seq (.block 0 (.seq (.reg [⟨some 80, .p (.fieldA 0 (.t 5)), none⟩,
    ⟨some 81, .h (.load false 1 (.t 80)), none⟩,
    ⟨some 82, .p (.bin .eql (.t 81) (.c (.int .i64 2))), none⟩,
    ⟨some 79, .p (.mov (.t 82)), none⟩])
  (.cond (.t 79) (.draw 13 [(1, 12), (3, 12), (6, 12), (8, 12)] [⟨some 83, .p (.fieldA 0 (.t 3)), none⟩,
    ⟨some 84, .h (.load false 1 (.t 83)), none⟩,
    ⟨some 85, .p (.fieldA 0 (.t 3)), none⟩,
    ⟨some 86, .h (.load false 1 (.t 85)), none⟩,
    ⟨some 87, .p (.fieldA 7 (.t 2)), none⟩,
    ⟨some 88, .p (.idxA 1 (some 3) (.t 87) (.t 86)), none⟩,
    ⟨some 89, .h (.load false 1 (.t 88)), none⟩,
    ⟨some 90, .p (.fieldA 4 (.t 5)), none⟩,
    ⟨some 91, .h (.load false 1 (.t 90)), none⟩,
    ⟨some 92, .p (.mm true (.t 89) (.t 91)), none⟩,
    ⟨some 93, .p (.fieldA 7 (.t 2)), none⟩,
    ⟨some 94, .p (.idxA 1 (some 3) (.t 93) (.t 84)), none⟩,
    ⟨none, .h (.store 1 (.t 94) (.t 92)), none⟩]) (.seq (.reg [⟨some 96, .p (.fieldA 0 (.t 3)), none⟩,
    ⟨some 97, .h (.load false 1 (.t 96)), none⟩,
    ⟨some 98, .p (.fieldA 3 (.t 2)), none⟩,
    ⟨some 99, .p (.idxA 1 (some 3) (.t 98) (.t 97)), none⟩,
    ⟨some 100, .h (.load false 1 (.t 99)), none⟩,
    ⟨some 101, .p (.un .not (.t 100)), none⟩,
    ⟨some 95, .p (.mov (.t 101)), none⟩])
  (.cond (.t 95) (.seq (.reg [⟨some 102, .p (.fieldA 0 (.t 3)), none⟩,
    ⟨some 103, .h (.load false 1 (.t 102)), none⟩,
    ⟨some 104, .p (.fieldA 3 (.t 2)), none⟩,
    ⟨some 105, .p (.idxA 1 (some 3) (.t 104) (.t 103)), none⟩,
    ⟨none, .h (.store 1 (.t 105) (.c (.bool true))), none⟩])
  (.reg [⟨some 106, .p (.fieldA 6 (.t 2)), none⟩,
    ⟨some 107, .h (.load false 1 (.t 106)), none⟩,
    ⟨some 108, .p (.fieldA 8 (.t 3)), none⟩,
    ⟨some 109, .h (.load false 1 (.t 108)), none⟩,
    ⟨some 110, .p (.mm true (.t 107) (.t 109)), none⟩,
    ⟨some 111, .p (.fieldA 6 (.t 2)), none⟩,
    ⟨none, .h (.store 1 (.t 111) (.t 110)), none⟩])) .skip)))))
  (.seq (.reg [⟨some 112, .h (.load true 11 (.t 2)), none⟩,
    ⟨none, .h (.store 11 (.t 4) (.t 112)), none⟩])
  .ret))))))))
def rs23 : List AR := [.cell 4 true 11]
theorem ok23 : okF Try.prog 23 113 ac23 rs23 = true := by kernel_rfl
/-- simulacrum/simulacrumref37.Take -/
def ac24 : AC := (.seq (.reg [⟨some 2, .h (.box (.t 0)), none⟩,
    ⟨some 3, .h (.box (.t 1)), none⟩,
    ⟨some 4, .h (.alloc [(.int .i64 0), (.int .i64 0), (.int .i64 0), (.bool false), (.bool false), (.bool false), (.int .i64 0), (.int .i64 0), (.int .i64 0), (.int .i64 0), (.int .i64 0)]), none⟩])
  (.seq (.seq (.reg [⟨some 6, .p (.fieldA 1 (.t 3)), none⟩,
    ⟨some 7, .p (.fieldA 1 (.t 6)), none⟩,
    ⟨some 8, .h (.load false 1 (.t 7)), none⟩,
    ⟨some 9, .p (.fieldA 0 (.t 2)), none⟩,
    ⟨some 10, .h (.load false 1 (.t 9)), none⟩,
    ⟨some 11, .p (.bin .eql (.t 8) (.t 10)), none⟩,
    ⟨some 12, .p (.mov (.t 11)), none⟩,
    ⟨some 13, .p (.fieldA 7 (.t 3)), (some (12, true))⟩,
    ⟨some 14, .h (.load false 1 (.t 13)), (some (12, true))⟩,
    ⟨some 15, .call 33 [(.t 14)], (some (12, true))⟩,
    ⟨some 16, .p (.pick (.t 12) (.t 15) (.c (.bool false))), none⟩])
  (.cond (.t 16) (.reg [⟨some 17, .p (.fieldA 10 (.t 2)), none⟩,
    ⟨some 18, .h (.load false 1 (.t 17)), none⟩,
    ⟨some 19, .p (.fieldA 7 (.t 3)), none⟩,
    ⟨some 20, .h (.load false 1 (.t 19)), none⟩,
    ⟨some 21, .p (.mm true (.t 18) (.t 20)), none⟩,
    ⟨some 22, .p (.fieldA 10 (.t 2)), none⟩,
    ⟨none, .h (.store 1 (.t 22) (.t 21)), none⟩]) .skip))
  (.seq (.reg [⟨some 23, .p (.fieldA 1 (.t 3)), none⟩,
    ⟨some 24, .h (.load true 5 (.t 23)), none⟩,
    ⟨some 5, .h (.alloc [(.int .i64 0), (.int .i64 0), (.int .i64 0), (.int .i64 0), (.int .i64 0)]), none⟩,
    ⟨none, .h (.store 5 (.t 5) (.t 24)), none⟩])
  (.seq (.seq (.reg [⟨some 25, .p (.fieldA 6 (.t 3)), none⟩,
    ⟨some 26, .h (.load false 1 (.t 25)), none⟩,
    ⟨some 27, .p (.un .not (.t 26)), none⟩,
    ⟨some 28, .p (.mov (.t 27)), none⟩,
    ⟨some 29, .p (.fieldA 0 (.t 3)), (some (28, false))⟩,
    ⟨some 30, .h (.load false 1 (.t 29)), (some (28, false))⟩,
    ⟨some 31, .p (.bin .lss (.t 30) (.c (.int .i64 0))), (some (28, false))⟩,
    ⟨some 32, .p (.pick (.t 28) (.c (.bool true)) (.t 31)), none⟩,
    ⟨some 33, .p (.mov (.t 32)), none⟩,
    ⟨some 34, .p (.fieldA 0 (.t 3)), (some (33, false))⟩,
    ⟨some 35, .h (.load false 1 (.t 34)), (some (33, false))⟩,
    ⟨some 36, .p (.bin .geq (.t 35) (.c (.int .i64 3))), (some (33, false))⟩,
    ⟨some 37, .p (.pick (.t 33) (.c (.bool true)) (.t 36)), none⟩,
    ⟨some 38, .p (.mov (.t 37)), none⟩,
    ⟨some 39, .h (.load true 5 (.t 5)), (some (38, false))⟩,
    ⟨some 40, .call 38 [(.t 39)], (some (38, false))⟩,
    ⟨some 41, .p (.un .not (.t 40)), (some (38, false))⟩,
    ⟨some 42, .p (.pick (.t 38) (.c (.bool true)) (.t 41)), none⟩,
    ⟨some 43, .p (.mov (.t 42)), none⟩,
    ⟨some 44, .p (.fieldA 1 (.t 5)), (some (43, false))⟩,
    ⟨some 45, .h (.load false 1 (.t 44)), (some (43, false))⟩,
    ⟨some 46, .p (.fieldA 0 (.t 2)), (some (43, false))⟩,
    ⟨some 47, .h (.load false 1 (.t 46)), (some (43, false))⟩,
    ⟨some 48, .p (.bin .neq (.t 45) (.t 47)), (some (43, false))⟩,
    ⟨some 49, .p (.pick (.t 43) (.c (.bool true)) (.t 48)), none⟩,
    ⟨some 50, .p (.mov (.t 49)), none⟩,
    ⟨some 51, .p (.fieldA 2 (.t 5)), (some (50, false))⟩,
    ⟨some 52, .h (.load false 1 (.t 51)), (some (50, false))⟩,
    ⟨some 53, .p (.fieldA 1 (.t 2)), (some (50, false))⟩,
    ⟨some 54, .h (.load false 1 (.t 53)), (some (50, false))⟩,
    ⟨some 55, .p (.bin .neq (.t 52) (.t 54)), (some (50, false))⟩,
    ⟨some 56, .p (.pick (.t 50) (.c (.bool true)) (.t 55)), none⟩,
    ⟨some 57, .p (.mov (.t 56)), none⟩,
    ⟨some 58, .p (.fieldA 3 (.t 5)), (some (57, false))⟩,
    ⟨some 59, .h (.load false 1 (.t 58)), (some (57, false))⟩,
    ⟨some 60, .p (.fieldA 2 (.t 2)), (some (57, false))⟩,
    ⟨some 61, .h (.load false 1 (.t 60)), (some (57, false))⟩,
    ⟨some 62, .p (.bin .neq (.t 59) (.t 61)), (some (57, false))⟩,
    ⟨some 63, .p (.pick (.t 57) (.c (.bool true)) (.t 62)), none⟩,
    ⟨some 64, .p (.mov (.t 63)), none⟩,
    ⟨some 65, .p (.fieldA 7 (.t 3)), (some (64, false))⟩,
    ⟨some 66, .h (.load false 1 (.t 65)), (some (64, false))⟩,
    ⟨some 67, .p (.bin .lss (.t 66) (.c (.int .i64 0))), (some (64, false))⟩,
    ⟨some 68, .p (.pick (.t 64) (.c (.bool true)) (.t 67)), none⟩,
    ⟨some 69, .p (.mov (.t 68)), none⟩,
    ⟨some 70, .p (.fieldA 7 (.t 3)), (some (69, false))⟩,
    ⟨some 71, .h (.load false 1 (.t 70)), (some (69, false))⟩,
    ⟨some 72, .p (.bin .gtr (.t 71) (.c (.int .i64 1073741824))), (some (69, false))⟩,
    ⟨some 73, .p (.pick (.t 69) (.c (.bool true)) (.t 72)), none⟩,
    ⟨some 74, .p (.mov (.t 73)), none⟩,
    ⟨some 75, .p (.fieldA 8 (.t 3)), (some (74, false))⟩,
    ⟨some 76, .h (.load false 1 (.t 75)), (some (74, false))⟩,
    ⟨some 77, .call 34 [(.t 76)], (some (74, false))⟩,
    ⟨some 78, .p (.un .not (.t 77)), (some (74, false))⟩,
    ⟨some 79, .p (.pick (.t 74) (.c (.bool true)) (.t 78)), none⟩])
  (.cond (.t 79) (.seq (.reg [⟨some 80, .h (.load true 11 (.t 2)), none⟩,
    ⟨none, .h (.store 11 (.t 4) (.t 80)), none⟩])
  .ret) .skip))
  (.seq (.seq (.reg [⟨some 81, .p (.fieldA 0 (.t 5)), none⟩,
    ⟨some 82, .h (.load false 1 (.t 81)), none⟩,
    ⟨some 83, .p (.bin .eql (.t 82) (.c (.int .i64 2))), none⟩])
  (.cond (.t 83) (.draw 13 [(1, 12), (3, 12), (6, 12), (8, 12)] [⟨some 84, .p (.fieldA 0 (.t 3)), none⟩,
    ⟨some 85, .h (.load false 1 (.t 84)), none⟩,
    ⟨some 86, .p (.fieldA 0 (.t 3)), none⟩,
    ⟨some 87, .h (.load false 1 (.t 86)), none⟩,
    ⟨some 88, .p (.fieldA 7 (.t 2)), none⟩,
    ⟨some 89, .p (.idxA 1 (some 3) (.t 88) (.t 87)), none⟩,
    ⟨some 90, .h (.load false 1 (.t 89)), none⟩,
    ⟨some 91, .p (.fieldA 4 (.t 5)), none⟩,
    ⟨some 92, .h (.load false 1 (.t 91)), none⟩,
    ⟨some 93, .p (.mm true (.t 90) (.t 92)), none⟩,
    ⟨some 94, .p (.fieldA 7 (.t 2)), none⟩,
    ⟨some 95, .p (.idxA 1 (some 3) (.t 94) (.t 85)), none⟩,
    ⟨none, .h (.store 1 (.t 95) (.t 93)), none⟩]) (.seq (.reg [⟨some 96, .p (.fieldA 0 (.t 3)), none⟩,
    ⟨some 97, .h (.load false 1 (.t 96)), none⟩,
    ⟨some 98, .p (.fieldA 3 (.t 2)), none⟩,
    ⟨some 99, .p (.idxA 1 (some 3) (.t 98) (.t 97)), none⟩,
    ⟨some 100, .h (.load false 1 (.t 99)), none⟩,
    ⟨some 101, .p (.un .not (.t 100)), none⟩])
  (.cond (.t 101) (.seq (.reg [⟨some 102, .p (.fieldA 0 (.t 3)), none⟩,
    ⟨some 103, .h (.load false 1 (.t 102)), none⟩,
    ⟨some 104, .p (.fieldA 3 (.t 2)), none⟩,
    ⟨some 105, .p (.idxA 1 (some 3) (.t 104) (.t 103)), none⟩,
    ⟨none, .h (.store 1 (.t 105) (.c (.bool true))), none⟩])
  (.reg [⟨some 106, .p (.fieldA 6 (.t 2)), none⟩,
    ⟨some 107, .h (.load false 1 (.t 106)), none⟩,
    ⟨some 108, .p (.fieldA 8 (.t 3)), none⟩,
    ⟨some 109, .h (.load false 1 (.t 108)), none⟩,
    ⟨some 110, .p (.mm true (.t 107) (.t 109)), none⟩,
    ⟨some 111, .p (.fieldA 6 (.t 2)), none⟩,
    ⟨none, .h (.store 1 (.t 111) (.t 110)), none⟩])) .skip))))
  (.seq (.reg [⟨some 112, .h (.load true 11 (.t 2)), none⟩,
    ⟨none, .h (.store 11 (.t 4) (.t 112)), none⟩])
  .ret))))))
def rs24 : List AR := [.cell 4 true 11]
theorem ok24 : okF Try.prog 24 113 ac24 rs24 = true := by kernel_rfl
/-- simulacrum/simulacrumref37.Holds -/
def ac25 : AC := (.seq (.reg [⟨some 1, .h (.box (.t 0)), none⟩,
    ⟨some 2, .p (.mov (.c (.bool false))), none⟩])
  (.seq (.reg [⟨some 3, .p (.mov (.c (.int .i64 0))), none⟩])
  (.seq (.seq (.reg [⟨some 4, .p (.mov (.c (.int .i64 0))), none⟩])
  (.block 0 (.loop (.seq (.seq (.reg [⟨some 5, .p (.mov (.t 4)), none⟩,
    ⟨some 6, .p (.bin .lss (.t 5) (.c (.int .i64 3))), none⟩])
  (.cond (.t 6) .skip (.exit 0)))
  (.seq (.block 1 (.seq (.reg [⟨some 9, .p (.mov (.t 4)), none⟩,
    ⟨some 10, .p (.fieldA 3 (.t 1)), none⟩,
    ⟨some 11, .p (.idxA 1 (some 3) (.t 10) (.t 9)), none⟩,
    ⟨some 12, .h (.load false 1 (.t 11)), none⟩])
  (.cond (.t 12) (.reg [⟨some 13, .p (.mov (.t 3)), none⟩,
    ⟨some 14, .p (.bin .add (.t 13) (.c (.int .i64 1))), none⟩,
    ⟨some 3, .p (.mov (.t 14)), none⟩]) .skip)))
  (.reg [⟨some 7, .p (.mov (.t 4)), none⟩,
    ⟨some 8, .p (.bin .add (.t 7) (.c (.int .i64 1))), none⟩,
    ⟨some 4, .p (.mov (.t 8)), none⟩]))))))
  (.seq (.reg [⟨some 15, .p (.mov (.t 3)), none⟩,
    ⟨some 16, .p (.bin .geq (.t 15) (.c (.int .i64 2))), none⟩,
    ⟨some 2, .p (.mov (.t 16)), none⟩])
  .ret))))
def rs25 : List AR := [.tmp 2]
theorem ok25 : okF Try.prog 25 17 ac25 rs25 = true := by kernel_rfl
/-- simulacrum/simulacrumref37.Released -/
def ac26 : AC := (.seq (.reg [⟨some 1, .h (.box (.t 0)), none⟩,
    ⟨some 2, .p (.mov (.c (.int .i64 0))), none⟩])
  (.seq (.seq (.reg [⟨some 7, .h (.load true 11 (.t 1)), none⟩,
    ⟨some 8, .call 25 [(.t 7)], none⟩,
    ⟨some 9, .p (.un .not (.t 8)), none⟩])
  (.cond (.t 9) (.seq (.reg [⟨some 2, .p (.mov (.c (.int .i64 0))), none⟩])
  .ret) .skip))
  (.seq (.reg [⟨some 3, .p (.mov (.c (.int .i64 0))), none⟩])
  (.seq (.seq (.reg [⟨some 4, .p (.mov (.c (.int .i64 0))), none⟩])
  (.block 0 (.loop (.seq (.seq (.reg [⟨some 10, .p (.mov (.t 4)), none⟩,
    ⟨some 11, .p (.bin .lss (.t 10) (.c (.int .i64 3))), none⟩])
  (.cond (.t 11) .skip (.exit 0)))
  (.seq (.block 1 (.seq (.reg [⟨some 5, .p (.mov (.c (.int .i64 0))), none⟩])
  (.seq (.seq (.reg [⟨some 6, .p (.mov (.c (.int .i64 0))), none⟩])
  (.block 2 (.loop (.seq (.seq (.reg [⟨some 14, .p (.mov (.t 6)), none⟩,
    ⟨some 15, .p (.bin .lss (.t 14) (.c (.int .i64 3))), none⟩])
  (.cond (.t 15) .skip (.exit 2)))
  (.seq (.block 3 (.seq (.draw 9 [] [⟨some 18, .p (.mov (.t 6)), none⟩,
    ⟨some 19, .p (.fieldA 7 (.t 1)), none⟩,
    ⟨some 20, .p (.idxA 1 (some 3) (.t 19) (.t 18)), none⟩,
    ⟨some 21, .h (.load false 1 (.t 20)), none⟩,
    ⟨some 22, .p (.mov (.t 4)), none⟩,
    ⟨some 23, .p (.fieldA 7 (.t 1)), none⟩,
    ⟨some 24, .p (.idxA 1 (some 3) (.t 23) (.t 22)), none⟩,
    ⟨some 25, .h (.load false 1 (.t 24)), none⟩,
    ⟨some 26, .p (.bin .geq (.t 21) (.t 25)), none⟩])
  (.cond (.t 26) (.reg [⟨some 27, .p (.mov (.t 5)), none⟩,
    ⟨some 28, .p (.bin .add (.t 27) (.c (.int .i64 1))), none⟩,
    ⟨some 5, .p (.mov (.t 28)), none⟩]) .skip)))
  (.reg [⟨some 16, .p (.mov (.t 6)), none⟩,
    ⟨some 17, .p (.bin .add (.t 16) (.c (.int .i64 1))), none⟩,
    ⟨some 6, .p (.mov (.t 17)), none⟩]))))))
  (.seq (.reg [⟨some 29, .p (.mov (.t 5)), none⟩,
    ⟨some 30, .p (.bin .geq (.t 29) (.c (.int .i64 2))), none⟩])
  (.cond (.t 30) (.reg [⟨some 31, .p (.mov (.t 3)), none⟩,
    ⟨some 32, .p (.mov (.t 4)), none⟩,
    ⟨some 33, .p (.fieldA 7 (.t 1)), none⟩,
    ⟨some 34, .p (.idxA 1 (some 3) (.t 33) (.t 32)), none⟩,
    ⟨some 35, .h (.load false 1 (.t 34)), none⟩,
    ⟨some 36, .p (.mm true (.t 31) (.t 35)), none⟩,
    ⟨some 3, .p (.mov (.t 36)), none⟩]) .skip)))))
  (.reg [⟨some 12, .p (.mov (.t 4)), none⟩,
    ⟨some 13, .p (.bin .add (.t 12) (.c (.int .i64 1))), none⟩,
    ⟨some 4, .p (.mov (.t 13)), none⟩]))))))
  (.seq (.reg [⟨some 37, .p (.mov (.t 3)), none⟩,
    ⟨some 2, .p (.mov (.t 37)), none⟩])
  .ret)))))
def rs26 : List AR := [.tmp 2]
theorem ok26 : okF Try.prog 26 38 ac26 rs26 = true := by kernel_rfl
/-- simulacrum/token.Valid -/
def ac27 : AC := (.seq (.reg [⟨some 1, .h (.box (.t 0)), none⟩,
    ⟨some 2, .p (.mov (.c (.bool false))), none⟩])
  (.seq (.seq (.reg [⟨some 5, .p (.fieldA 0 (.t 1)), none⟩,
    ⟨some 6, .h (.load false 1 (.t 5)), none⟩,
    ⟨some 7, .p (.bin .lss (.t 6) (.c (.int .i64 0))), none⟩,
    ⟨some 8, .p (.mov (.t 7)), none⟩,
    ⟨some 9, .p (.fieldA 0 (.t 1)), (some (8, false))⟩,
    ⟨some 10, .h (.load false 1 (.t 9)), (some (8, false))⟩,
    ⟨some 11, .p (.bin .geq (.t 10) (.c (.int .i64 3))), (some (8, false))⟩,
    ⟨some 12, .p (.pick (.t 8) (.c (.bool true)) (.t 11)), none⟩,
    ⟨some 13, .p (.mov (.t 12)), none⟩,
    ⟨some 14, .p (.fieldA 1 (.t 1)), (some (13, false))⟩,
    ⟨some 15, .h (.load false 1 (.t 14)), (some (13, false))⟩,
    ⟨some 16, .p (.len false (.t 15)), (some (13, false))⟩,
    ⟨some 17, .p (.bin .gtr (.t 16) (.c (.int .i64 64))), (some (13, false))⟩,
    ⟨some 18, .p (.pick (.t 13) (.c (.bool true)) (.t 17)), none⟩])
  (.cond (.t 18) (.seq (.reg [⟨some 2, .p (.mov (.c (.bool false))), none⟩])
  .ret) .skip))
  (.seq (.seq (.reg [⟨some 19, .p (.fieldA 1 (.t 1)), none⟩,
    ⟨some 20, .h (.load false 1 (.t 19)), none⟩,
    ⟨some 21, .p (.len false (.t 20)), none⟩,
    ⟨some 22, .p (.mov (.c (.int .i64 0))), none⟩])
  (.block 0 (.loop (.seq (.reg [⟨some 23, .p (.bin .lss (.t 22) (.t 21)), none⟩])
  (.seq (.cond (.t 23) .skip (.exit 0))
  (.seq (.block 1 (.seq (.reg [⟨some 24, .p (.mov (.t 22)), none⟩,
    ⟨some 25, .p (.idxA 4 none (.t 20) (.t 22)), none⟩,
    ⟨some 26, .h (.load true 4 (.t 25)), none⟩,
    ⟨some 4, .h (.alloc [(.int .i64 0), (.int .i64 0), (.int .i64 0), (.int .i64 0)]), none⟩,
    ⟨some 3, .p (.mov (.t 24)), none⟩,
    ⟨none, .h (.store 4 (.t 4) (.t 26)), none⟩])
  (.seq (.draw 32 [(1, 6), (3, 6), (5, 6), (11, 12)] [⟨some 27, .p (.fieldA 0 (.t 4)), none⟩,
    ⟨some 28, .h (.load false 1 (.t 27)), none⟩,
    ⟨some 29, .p (.fieldA 1 (.t 4)), none⟩,
    ⟨some 30, .h (.load false 1 (.t 29)), none⟩,
    ⟨some 31, .p (.fieldA 2 (.t 4)), none⟩,
    ⟨some 32, .h (.load false 1 (.t 31)), none⟩,
    ⟨some 33, .d (.bslice 1 3 [(.int .i64 0)] [(0, (.t 28)), (1, (.t 30)), (2, (.t 32))]), none⟩,
    ⟨some 34, .call 30 [(.t 33)], none⟩,
    ⟨some 35, .p (.un .not (.t 34)), none⟩,
    ⟨some 36, .p (.mov (.t 35)), none⟩,
    ⟨some 37, .p (.fieldA 3 (.t 4)), (some (36, false))⟩,
    ⟨some 38, .h (.load false 1 (.t 37)), (some (36, false))⟩,
    ⟨some 39, .d (.bslice 1 1 [(.int .i64 0)] [(0, (.t 38))]), (some (36, false))⟩,
    ⟨some 40, .call 31 [(.t 39)], (some (36, false))⟩,
    ⟨some 41, .p (.un .not (.t 40)), (some (36, false))⟩,
    ⟨some 42, .p (.pick (.t 36) (.c (.bool true)) (.t 41)), none⟩,
    ⟨some 43, .p (.mov (.t 42)), none⟩,
    ⟨some 44, .p (.mov (.t 3)), (some (43, false))⟩,
    ⟨some 45, .p (.bin .gtr (.t 44) (.c (.int .i64 0))), (some (43, false))⟩,
    ⟨some 46, .p (.mov (.t 45)), (some (43, false))⟩,
    ⟨some 47, .p (.fieldA 0 (.t 4)), (some (46, true))⟩,
    ⟨some 48, .h (.load false 1 (.t 47)), (some (46, true))⟩,
    ⟨some 49, .p (.fieldA 1 (.t 1)), (some (46, true))⟩,
    ⟨some 50, .h (.load false 1 (.t 49)), (some (46, true))⟩,
    ⟨some 51, .p (.mov (.t 3)), (some (46, true))⟩,
    ⟨some 52, .p (.bin .sub (.t 51) (.c (.int .i64 1))), (some (46, true))⟩,
    ⟨some 53, .p (.idxA 4 none (.t 50) (.t 52)), (some (46, true))⟩,
    ⟨some 54, .p (.fieldA 0 (.t 53)), (some (46, true))⟩,
    ⟨some 55, .h (.load false 1 (.t 54)), (some (46, true))⟩,
    ⟨some 56, .p (.bin .leq (.t 48) (.t 55)), (some (46, true))⟩,
    ⟨some 57, .p (.pick (.t 46) (.t 56) (.c (.bool false))), (some (43, false))⟩,
    ⟨some 58, .p (.pick (.t 43) (.c (.bool true)) (.t 57)), none⟩])
  (.cond (.t 58) (.seq (.reg [⟨some 2, .p (.mov (.c (.bool false))), none⟩])
  .ret) .skip))))
  (.reg [⟨some 59, .p (.bin .add (.t 22) (.c (.int .i64 1))), none⟩,
    ⟨some 22, .p (.mov (.t 59)), none⟩])))))))
  (.seq (.reg [⟨some 2, .p (.mov (.c (.bool true))), none⟩])
  .ret))))
def rs27 : List AR := [.tmp 2]
theorem ok27 : okF Try.prog 27 60 ac27 rs27 = true := by kernel_rfl
/-- simulacrum/simulacrumref37.Hear -/
def ac28 : AC := (.seq (.reg [⟨some 2, .h (.box (.t 0)), none⟩,
    ⟨some 3, .h (.box (.t 1)), none⟩,
    ⟨some 4, .h (.alloc [(.int .i64 0), .nils, (.int .i64 0), (.int .i64 0), (.int .i64 0), (.int .i64 0), (.int .i64 0), (.int .i64 0), (.bool false), (.int .i64 0), (.int .i64 0), (.int .i64 0)]), none⟩])
  (.seq (.seq (.reg [⟨some 9, .h (.load true 5 (.t 3)), none⟩,
    ⟨some 10, .call 38 [(.t 9)], none⟩,
    ⟨some 11, .p (.un .not (.t 10)), none⟩])
  (.cond (.t 11) (.seq (.reg [⟨some 12, .h (.load true 2 (.t 2)), none⟩,
    ⟨some 13, .v (.build [(.int .i64 0), .nils, (.int .i64 0), (.int .i64 0), (.int .i64 0), (.int .i64 0), (.int .i64 0), (.int .i64 0), (.bool false), (.int .i64 0), (.int .i64 0), (.int .i64 0)] [(0, 2, (.t 12)), (11, 1, (.c (.int .i64 1)))]), none⟩,
    ⟨none, .h (.store 12 (.t 4) (.t 13)), none⟩])
  .ret) .skip))
  (.seq (.reg [⟨some 14, .p (.fieldA 1 (.t 2)), none⟩,
    ⟨some 15, .h (.load false 1 (.t 14)), none⟩,
    ⟨some 16, .p (.fieldA 1 (.t 3)), none⟩,
    ⟨some 17, .h (.load false 1 (.t 16)), none⟩,
    ⟨some 18, .call 39 [(.t 15), (.t 17)], none⟩,
    ⟨some 5, .p (.mov (.t 18)), none⟩])
  (.seq (.seq (.reg [⟨some 19, .p (.mov (.t 5)), none⟩,
    ⟨some 20, .p (.bin .lss (.t 19) (.c (.int .i64 0))), none⟩,
    ⟨some 21, .p (.mov (.t 20)), none⟩,
    ⟨some 22, .p (.fieldA 1 (.t 2)), (some (21, true))⟩,
    ⟨some 23, .h (.load false 1 (.t 22)), (some (21, true))⟩,
    ⟨some 24, .p (.len false (.t 23)), (some (21, true))⟩,
    ⟨some 25, .p (.bin .geq (.t 24) (.c (.int .i64 64))), (some (21, true))⟩,
    ⟨some 26, .p (.pick (.t 21) (.t 25) (.c (.bool false))), none⟩])
  (.cond (.t 26) (.seq (.reg [⟨some 27, .h (.load true 2 (.t 2)), none⟩,
    ⟨some 28, .v (.build [(.int .i64 0), .nils, (.int .i64 0), (.int .i64 0), (.int .i64 0), (.int .i64 0), (.int .i64 0), (.int .i64 0), (.bool false), (.int .i64 0), (.int .i64 0), (.int .i64 0)] [(0, 2, (.t 27)), (11, 1, (.c (.int .i64 2)))]), none⟩,
    ⟨none, .h (.store 12 (.t 4) (.t 28)), none⟩])
  .ret) .skip))
  (.seq (.reg [⟨some 29, .p (.fieldA 0 (.t 2)), none⟩,
    ⟨some 30, .h (.load false 1 (.t 29)), none⟩,
    ⟨some 31, .h (.load true 5 (.t 3)), none⟩,
    ⟨some 32, .v (.build [(.int .i64 0), (.int .i64 0), (.int .i64 0), (.int .i64 0), (.int .i64 0), (.int .i64 0), (.bool false), (.int .i64 0), (.int .i64 0)] [(0, 1, (.t 30)), (1, 5, (.t 31))]), none⟩,
    ⟨some 6, .h (.alloc [(.int .i64 0), (.int .i64 0), (.int .i64 0), (.int .i64 0), (.int .i64 0), (.int .i64 0), (.bool false), (.int .i64 0), (.int .i64 0)]), none⟩,
    ⟨none, .h (.store 9 (.t 6) (.t 32)), none⟩])
  (.seq (.seq (.reg [⟨some 33, .p (.mov (.t 5)), none⟩,
    ⟨some 34, .p (.bin .lss (.t 33) (.c (.int .i64 0))), none⟩])
  (.cond (.t 34) (.seq (.seq (.reg [⟨some 35, .p (.fieldA 0 (.t 3)), none⟩,
    ⟨some 36, .h (.load false 1 (.t 35)), none⟩,
    ⟨some 37, .p (.bin .eql (.t 36) (.c (.int .i64 2))), none⟩])
  (.cond (.t 37) (.seq (.reg [⟨some 38, .h (.load true 2 (.t 2)), none⟩,
    ⟨some 39, .h (.load true 9 (.t 6)), none⟩,
    ⟨some 40, .v (.build [(.int .i64 0), .nils, (.int .i64 0), (.int .i64 0), (.int .i64 0), (.int .i64 0), (.int .i64 0), (.int .i64 0), (.bool false), (.int .i64 0), (.int .i64 0), (.int .i64 0)] [(0, 2, (.t 38)), (2, 9, (.t 39))]), none⟩,
    ⟨none, .h (.store 12 (.t 4) (.t 40)), none⟩])
  .ret) .skip))
  (.seq (.reg [⟨some 41, .p (.fieldA 6 (.t 6)), none⟩,
    ⟨none, .h (.store 1 (.t 41) (.c (.bool true))), none⟩])
  (.seq (.reg [⟨some 42, .p (.fieldA 3 (.t 3)), none⟩,
    ⟨some 43, .h (.load false 1 (.t 42)), none⟩,
    ⟨some 44, .p (.fieldA 7 (.t 6)), none⟩,
    ⟨none, .h (.store 1 (.t 44) (.t 43)), none⟩])
  (.seq (.draw 16 [(1, 15), (3, 15), (5, 15), (7, 15), (9, 15), (13, 15)] [⟨some 45, .p (.fieldA 0 (.t 2)), none⟩,
    ⟨some 46, .h (.load false 1 (.t 45)), none⟩,
    ⟨some 47, .p (.fieldA 1 (.t 2)), none⟩,
    ⟨some 48, .h (.load false 1 (.t 47)), none⟩,
    ⟨some 49, .p (.fieldA 1 (.t 3)), none⟩,
    ⟨some 50, .h (.load false 1 (.t 49)), none⟩,
    ⟨some 51, .p (.fieldA 3 (.t 3)), none⟩,
    ⟨some 52, .h (.load false 1 (.t 51)), none⟩,
    ⟨some 53, .p (.fieldA 2 (.t 3)), none⟩,
    ⟨some 54, .h (.load false 1 (.t 53)), none⟩,
    ⟨some 55, .v (.build [(.int .i64 0), (.int .i64 0), (.int .i64 0), (.int .i64 0)] [(0, 1, (.t 50)), (1, 1, (.t 52)), (2, 1, (.t 54))]), none⟩,
    ⟨some 56, .call 40 [(.t 48), (.t 55)], none⟩,
    ⟨some 57, .v (.build [(.int .i64 0), .nils] [(0, 1, (.t 46)), (1, 1, (.t 56))]), none⟩,
    ⟨some 58, .h (.load true 9 (.t 6)), none⟩,
    ⟨some 59, .v (.build [(.int .i64 0), .nils, (.int .i64 0), (.int .i64 0), (.int .i64 0), (.int .i64 0), (.int .i64 0), (.int .i64 0), (.bool false), (.int .i64 0), (.int .i64 0), (.int .i64 0)] [(0, 2, (.t 57)), (2, 9, (.t 58))]), none⟩,
    ⟨none, .h (.store 12 (.t 4) (.t 59)), none⟩])
  .ret)))) .skip))
  (.seq (.draw 9 [(2, 5), (4, 5), (7, 8), (5, 8), (1, 8), (2, 8), (4, 8)] [⟨some 60, .p (.fieldA 0 (.t 2)), none⟩,
    ⟨some 61, .h (.load false 1 (.t 60)), none⟩,
    ⟨some 62, .d (.bslice 4 0 [(.int .i64 0), (.int .i64 0), (.int .i64 0), (.int .i64 0)] []), none⟩,
    ⟨some 63, .p (.fieldA 1 (.t 2)), none⟩,
    ⟨some 64, .h (.load false 1 (.t 63)), none⟩,
    ⟨some 65, .l (.append 4 32 (.t 62) (.t 64)), none⟩,
    ⟨some 66, .v (.build [(.int .i64 0), .nils] [(0, 1, (.t 61)), (1, 1, (.t 65))]), none⟩,
    ⟨some 7, .h (.alloc [(.int .i64 0), .nils]), none⟩,
    ⟨none, .h (.store 2 (.t 7) (.t 66)), none⟩])
  (.seq (.reg [⟨some 67, .p (.fieldA 1 (.t 7)), none⟩,
    ⟨some 68, .h (.load false 1 (.t 67)), none⟩,
    ⟨some 69, .p (.mov (.t 5)), none⟩,
    ⟨some 70, .p (.idxA 4 none (.t 68) (.t 69)), none⟩,
    ⟨some 71, .h (.load true 4 (.t 70)), none⟩,
    ⟨some 8, .h (.alloc [(.int .i64 0), (.int .i64 0), (.int .i64 0), (.int .i64 0)]), none⟩,
    ⟨none, .h (.store 4 (.t 8) (.t 71)), none⟩])
  (.seq (.seq (.reg [⟨some 72, .p (.fieldA 0 (.t 3)), none⟩,
    ⟨some 73, .h (.load false 1 (.t 72)), none⟩,
    ⟨some 74, .p (.bin .eql (.t 73) (.c (.int .i64 1))), none⟩,
    ⟨some 75, .p (.mov (.t 74)), none⟩,
    ⟨some 76, .p (.fieldA 3 (.t 3)), (some (75, true))⟩,
    ⟨some 77, .h (.load false 1 (.t 76)), (some (75, true))⟩,
    ⟨some 78, .p (.fieldA 1 (.t 8)), (some (75, true))⟩,
    ⟨some 79, .h (.load false 1 (.t 78)), (some (75, true))⟩,
    ⟨some 80, .p (.bin .gtr (.t 77) (.t 79)), (some (75, true))⟩,
    ⟨some 81, .p (.pick (.t 75) (.t 80) (.c (.bool false))), none⟩])
  (.cond (.t 81) (.seq (.reg [⟨some 82, .p (.fieldA 3 (.t 3)), none⟩,
    ⟨some 83, .h (.load false 1 (.t 82)), none⟩,
    ⟨some 84, .p (.fieldA 1 (.t 8)), none⟩,
    ⟨none, .h (.store 1 (.t 84) (.t 83)), none⟩])
  (.reg [⟨some 85, .p (.fieldA 2 (.t 3)), none⟩,
    ⟨some 86, .h (.load false 1 (.t 85)), none⟩,
    ⟨some 87, .p (.fieldA 2 (.t 8)), none⟩,
    ⟨none, .h (.store 1 (.t 87) (.t 86)), none⟩])) .skip))
  (.seq (.reg [⟨some 88, .p (.fieldA 1 (.t 8)), none⟩,
    ⟨some 89, .h (.load false 1 (.t 88)), none⟩,
    ⟨some 90, .p (.fieldA 3 (.t 3)), none⟩,
    ⟨some 91, .h (.load false 1 (.t 90)), none⟩,
    ⟨some 92, .p (.bin .eql (.t 89) (.t 91)), none⟩,
    ⟨some 93, .p (.mov (.t 92)), none⟩,
    ⟨some 94, .p (.fieldA 2 (.t 8)), (some (93, true))⟩,
    ⟨some 95, .h (.load false 1 (.t 94)), (some (93, true))⟩,
    ⟨some 96, .p (.fieldA 2 (.t 3)), (some (93, true))⟩,
    ⟨some 97, .h (.load false 1 (.t 96)), (some (93, true))⟩,
    ⟨some 98, .p (.bin .eql (.t 95) (.t 97)), (some (93, true))⟩,
    ⟨some 99, .p (.pick (.t 93) (.t 98) (.c (.bool false))), none⟩,
    ⟨some 100, .p (.fieldA 6 (.t 6)), none⟩,
    ⟨none, .h (.store 1 (.t 100) (.t 99)), none⟩])
  (.seq (.seq (.reg [⟨some 101, .p (.fieldA 0 (.t 3)), none⟩,
    ⟨some 102, .h (.load false 1 (.t 101)), none⟩,
    ⟨some 103, .p (.bin .eql (.t 102) (.c (.int .i64 2))), none⟩,
    ⟨some 104, .p (.mov (.t 103)), none⟩,
    ⟨some 105, .p (.fieldA 6 (.t 6)), (some (104, true))⟩,
    ⟨some 106, .h (.load false 1 (.t 105)), (some (104, true))⟩,
    ⟨some 107, .p (.pick (.t 104) (.t 106) (.c (.bool false))), none⟩])
  (.cond (.t 107) (.reg [⟨some 108, .p (.fieldA 3 (.t 8)), none⟩,
    ⟨some 109, .h (.load false 1 (.t 108)), none⟩,
    ⟨some 110, .p (.fieldA 4 (.t 3)), none⟩,
    ⟨some 111, .h (.load false 1 (.t 110)), none⟩,
    ⟨some 112, .p (.mm true (.t 109) (.t 111)), none⟩,
    ⟨some 113, .p (.fieldA 3 (.t 8)), none⟩,
    ⟨none, .h (.store 1 (.t 113) (.t 112)), none⟩]) .skip))
  (.seq (.reg [⟨some 114, .p (.fieldA 1 (.t 7)), none⟩,
    ⟨some 115, .h (.load false 1 (.t 114)), none⟩,
    ⟨some 116, .p (.mov (.t 5)), none⟩,
    ⟨some 117, .h (.load true 4 (.t 8)), none⟩,
    ⟨some 118, .p (.idxA 4 none (.t 115) (.t 116)), none⟩,
    ⟨none, .h (.store 4 (.t 118) (.t 117)), none⟩])
  (.seq (.reg [⟨some 119, .p (.fieldA 1 (.t 8)), none⟩,
    ⟨some 120, .h (.load false 1 (.t 119)), none⟩,
    ⟨some 121, .p (.fieldA 7 (.t 6)), none⟩,
    ⟨none, .h (.store 1 (.t 121) (.t 120)), none⟩])
  (.seq (.reg [⟨some 122, .p (.fieldA 3 (.t 8)), none⟩,
    ⟨some 123, .h (.load false 1 (.t 122)), none⟩,
    ⟨some 124, .p (.fieldA 8 (.t 6)), none⟩,
    ⟨none, .h (.store 1 (.t 124) (.t 123)), none⟩])
  (.seq (.reg [⟨some 125, .h (.load true 2 (.t 7)), none⟩,
    ⟨some 126, .h (.load true 9 (.t 6)), none⟩,
    ⟨some 127, .v (.build [(.int .i64 0), .nils, (.int .i64 0), (.int .i64 0), (.int .i64 0), (.int .i64 0), (.int .i64 0), (.int .i64 0), (.bool false), (.int .i64 0), (.int .i64 0), (.int .i64 0)] [(0, 2, (.t 125)), (2, 9, (.t 126))]), none⟩,
    ⟨none, .h (.store 12 (.t 4) (.t 127)), none⟩])
  .ret)))))))))))))))
def rs28 : List AR := [.cell 4 true 12]
theorem ok28 : okF Try.prog 28 128 ac28 rs28 = true := by kernel_rfl
/-- simulacrum/token.number -/
def ac30 : AC := (.seq (.reg [⟨some 2, .p (.mov (.c (.bool false))), none⟩])
  (.seq (.seq (.reg [⟨some 5, .p (.mov (.t 0)), none⟩,
    ⟨some 6, .p (.len false (.t 5)), none⟩,
    ⟨some 7, .p (.mov (.c (.int .i64 0))), none⟩])
  (.block 0 (.loop (.seq (.reg [⟨some 8, .p (.bin .lss (.t 7) (.t 6)), none⟩])
  (.seq (.cond (.t 8) .skip (.exit 0))
  (.seq (.block 1 (.seq (.reg [⟨some 9, .p (.idxA 1 none (.t 5) (.t 7)), none⟩,
    ⟨some 10, .h (.load false 1 (.t 9)), none⟩,
    ⟨some 4, .p (.mov (.t 10)), none⟩])
  (.seq (.reg [⟨some 11, .p (.mov (.t 4)), none⟩,
    ⟨some 12, .p (.bin .lss (.t 11) (.c (.int .i64 1))), none⟩,
    ⟨some 13, .p (.mov (.t 12)), none⟩,
    ⟨some 14, .p (.mov (.t 4)), (some (13, false))⟩,
    ⟨some 15, .p (.bin .gtr (.t 14) (.c (.int .i64 1073741824))), (some (13, false))⟩,
    ⟨some 16, .p (.pick (.t 13) (.c (.bool true)) (.t 15)), none⟩])
  (.cond (.t 16) (.seq (.reg [⟨some 2, .p (.mov (.c (.bool false))), none⟩])
  .ret) .skip))))
  (.reg [⟨some 17, .p (.bin .add (.t 7) (.c (.int .i64 1))), none⟩,
    ⟨some 7, .p (.mov (.t 17)), none⟩])))))))
  (.seq (.reg [⟨some 2, .p (.mov (.c (.bool true))), none⟩])
  .ret)))
def rs30 : List AR := [.tmp 2]
theorem ok30 : okF Try.prog 30 18 ac30 rs30 = true := by kernel_rfl
/-- simulacrum/token.serial -/
def ac31 : AC := (.seq (.reg [⟨some 2, .p (.mov (.c (.bool false))), none⟩])
  (.seq (.seq (.reg [⟨some 5, .p (.mov (.t 0)), none⟩,
    ⟨some 6, .p (.len false (.t 5)), none⟩,
    ⟨some 7, .p (.mov (.c (.int .i64 0))), none⟩])
  (.block 0 (.loop (.seq (.reg [⟨some 8, .p (.bin .lss (.t 7) (.t 6)), none⟩])
  (.seq (.cond (.t 8) .skip (.exit 0))
  (.seq (.block 1 (.seq (.reg [⟨some 9, .p (.idxA 1 none (.t 5) (.t 7)), none⟩,
    ⟨some 10, .h (.load false 1 (.t 9)), none⟩,
    ⟨some 4, .p (.mov (.t 10)), none⟩])
  (.seq (.reg [⟨some 11, .p (.mov (.t 4)), none⟩,
    ⟨some 12, .p (.bin .lss (.t 11) (.c (.int .i64 0))), none⟩,
    ⟨some 13, .p (.mov (.t 12)), none⟩,
    ⟨some 14, .p (.mov (.t 4)), (some (13, false))⟩,
    ⟨some 15, .p (.bin .gtr (.t 14) (.c (.int .i64 1099511627776))), (some (13, false))⟩,
    ⟨some 16, .p (.pick (.t 13) (.c (.bool true)) (.t 15)), none⟩])
  (.cond (.t 16) (.seq (.reg [⟨some 2, .p (.mov (.c (.bool false))), none⟩])
  .ret) .skip))))
  (.reg [⟨some 17, .p (.bin .add (.t 7) (.c (.int .i64 1))), none⟩,
    ⟨some 7, .p (.mov (.t 17)), none⟩])))))))
  (.seq (.reg [⟨some 2, .p (.mov (.c (.bool true))), none⟩])
  .ret)))
def rs31 : List AR := [.tmp 2]
theorem ok31 : okF Try.prog 31 18 ac31 rs31 = true := by kernel_rfl
/-- sort.Ints -/
def ac32 : AC := (.reg [⟨some 2, .p (.mov (.t 0)), none⟩,
    ⟨some 3, .call 41 [(.t 2)], none⟩])
def rs32 : List AR := []
theorem ok32 : okF Try.prog 32 4 ac32 rs32 = true := by kernel_rfl
/-- simulacrum/simulacrumref37.number -/
def ac33 : AC := (.seq (.reg [⟨some 2, .p (.mov (.c (.bool false))), none⟩])
  (.seq (.reg [⟨some 3, .p (.mov (.t 0)), none⟩,
    ⟨some 4, .p (.bin .geq (.t 3) (.c (.int .i64 1))), none⟩,
    ⟨some 5, .p (.mov (.t 4)), none⟩,
    ⟨some 6, .p (.mov (.t 0)), (some (5, true))⟩,
    ⟨some 7, .p (.bin .leq (.t 6) (.c (.int .i64 1073741824))), (some (5, true))⟩,
    ⟨some 8, .p (.pick (.t 5) (.t 7) (.c (.bool false))), none⟩,
    ⟨some 2, .p (.mov (.t 8)), none⟩])
  .ret))
def rs33 : List AR := [.tmp 2]
theorem ok33 : okF Try.prog 33 9 ac33 rs33 = true := by kernel_rfl
/-- simulacrum/simulacrumref37.serial -/
def ac34 : AC := (.seq (.reg [⟨some 2, .p (.mov (.c (.bool false))), none⟩])
  (.seq (.reg [⟨some 3, .p (.mov (.t 0)), none⟩,
    ⟨some 4, .p (.bin .geq (.t 3) (.c (.int .i64 0))), none⟩,
    ⟨some 5, .p (.mov (.t 4)), none⟩,
    ⟨some 6, .p (.mov (.t 0)), (some (5, true))⟩,
    ⟨some 7, .p (.bin .leq (.t 6) (.c (.int .i64 1099511627776))), (some (5, true))⟩,
    ⟨some 8, .p (.pick (.t 5) (.t 7) (.c (.bool false))), none⟩,
    ⟨some 2, .p (.mov (.t 8)), none⟩])
  .ret))
def rs34 : List AR := [.tmp 2]
theorem ok34 : okF Try.prog 34 9 ac34 rs34 = true := by kernel_rfl
/-- simulacrum/token.right -/
def ac35 : AC := (.seq (.reg [⟨some 1, .h (.box (.t 0)), none⟩,
    ⟨some 2, .p (.mov (.c (.bool false))), none⟩])
  (.seq (.reg [⟨some 4, .p (.fieldA 1 (.t 1)), none⟩,
    ⟨some 5, .h (.load false 1 (.t 4)), none⟩,
    ⟨some 6, .p (.fieldA 2 (.t 1)), none⟩,
    ⟨some 7, .h (.load false 1 (.t 6)), none⟩,
    ⟨some 8, .p (.fieldA 3 (.t 1)), none⟩,
    ⟨some 9, .h (.load false 1 (.t 8)), none⟩,
    ⟨some 10, .v (.build [(.int .i64 0), (.int .i64 0), (.int .i64 0), (.int .i64 0), (.int .i64 0)] [(0, 1, (.c (.int .i64 1))), (1, 1, (.t 5)), (2, 1, (.t 7)), (3, 1, (.t 9))]), none⟩,
    ⟨some 3, .h (.alloc [(.int .i64 0), (.int .i64 0), (.int .i64 0), (.int .i64 0), (.int .i64 0)]), none⟩,
    ⟨none, .h (.store 5 (.t 3) (.t 10)), none⟩])
  (.seq (.reg [⟨some 11, .h (.load true 5 (.t 1)), none⟩,
    ⟨some 12, .h (.load true 5 (.t 3)), none⟩,
    ⟨some 13, .v (.eqa false [(.i .i64), (.i .i64), (.i .i64), (.i .i64), (.i .i64)] (.t 11) (.t 12)), none⟩,
    ⟨some 14, .p (.mov (.t 13)), none⟩,
    ⟨some 15, .p (.fieldA 0 (.t 1)), (some (14, false))⟩,
    ⟨some 16, .h (.load false 1 (.t 15)), (some (14, false))⟩,
    ⟨some 17, .p (.bin .eql (.t 16) (.c (.int .i64 2))), (some (14, false))⟩,
    ⟨some 18, .p (.pick (.t 14) (.c (.bool true)) (.t 17)), none⟩,
    ⟨some 19, .p (.mov (.t 18)), none⟩,
    ⟨some 20, .p (.fieldA 1 (.t 1)), (some (19, true))⟩,
    ⟨some 21, .h (.load false 1 (.t 20)), (some (19, true))⟩,
    ⟨some 22, .p (.fieldA 2 (.t 1)), (some (19, true))⟩,
    ⟨some 23, .h (.load false 1 (.t 22)), (some (19, true))⟩,
    ⟨some 24, .p (.fieldA 3 (.t 1)), (some (19, true))⟩,
    ⟨some 25, .h (.load false 1 (.t 24)), (some (19, true))⟩,
    ⟨some 26, .d (.bslice 1 3 [(.int .i64 0)] [(0, (.t 21)), (1, (.t 23)), (2, (.t 25))]), (some (19, true))⟩,
    ⟨some 27, .call 30 [(.t 26)], (some (19, true))⟩,
    ⟨some 28, .p (.pick (.t 19) (.t 27) (.c (.bool false))), none⟩,
    ⟨some 29, .p (.mov (.t 28)), none⟩,
    ⟨some 30, .p (.fieldA 4 (.t 1)), (some (29, true))⟩,
    ⟨some 31, .h (.load false 1 (.t 30)), (some (29, true))⟩,
    ⟨some 32, .d (.bslice 1 1 [(.int .i64 0)] [(0, (.t 31))]), (some (29, true))⟩,
    ⟨some 33, .call 31 [(.t 32)], (some (29, true))⟩,
    ⟨some 34, .p (.pick (.t 29) (.t 33) (.c (.bool false))), none⟩,
    ⟨some 2, .p (.mov (.t 34)), none⟩])
  .ret)))
def rs35 : List AR := [.tmp 2]
theorem ok35 : okF Try.prog 35 35 ac35 rs35 = true := by kernel_rfl
/-- sort.Search -/
def ac36 : AC := (.seq (.reg [⟨some 4, .p (.mov (.c (.int .i64 0))), none⟩])
  (.seq (.reg [⟨some 8, .p (.mov (.t 0)), none⟩,
    ⟨some 5, .p (.mov (.c (.int .i64 0))), none⟩,
    ⟨some 6, .p (.mov (.t 8)), none⟩])
  (.seq (.block 0 (.loop (.seq (.seq (.reg [⟨some 9, .p (.mov (.t 5)), none⟩,
    ⟨some 10, .p (.mov (.t 6)), none⟩,
    ⟨some 11, .p (.bin .lss (.t 9) (.t 10)), none⟩])
  (.cond (.t 11) .skip (.exit 0)))
  (.block 1 (.seq (.reg [⟨some 12, .p (.mov (.t 5)), none⟩,
    ⟨some 13, .p (.mov (.t 6)), none⟩,
    ⟨some 14, .p (.bin .add (.t 12) (.t 13)), none⟩,
    ⟨some 15, .p (.convw .u64 (.t 14)), none⟩,
    ⟨some 16, .p (.binw .shr (.t 15) (.c (.int .u64 1))), none⟩,
    ⟨some 17, .p (.convw .i64 (.t 16)), none⟩,
    ⟨some 7, .p (.mov (.t 17)), none⟩])
  (.seq (.reg [⟨some 18, .p (.mov (.t 1)), none⟩,
    ⟨some 19, .p (.mov (.t 7)), none⟩,
    ⟨some 20, .callv (.t 18) [(.t 19)], none⟩,
    ⟨some 21, .p (.un .not (.t 20)), none⟩])
  (.cond (.t 21) (.reg [⟨some 22, .p (.mov (.t 7)), none⟩,
    ⟨some 23, .p (.bin .add (.t 22) (.c (.int .i64 1))), none⟩,
    ⟨some 5, .p (.mov (.t 23)), none⟩]) (.reg [⟨some 24, .p (.mov (.t 7)), none⟩,
    ⟨some 6, .p (.mov (.t 24)), none⟩]))))))))
  (.seq (.reg [⟨some 25, .p (.mov (.t 5)), none⟩,
    ⟨some 4, .p (.mov (.t 25)), none⟩])
  .ret))))
def rs36 : List AR := [.tmp 4]
theorem ok36 : okF Try.prog 36 26 ac36 rs36 = true := by kernel_rfl
/-- simulacrum/token.Hear$1 -/
def ac37 : AC := (.seq (.reg [⟨some 4, .p (.mov (.c (.bool false))), none⟩])
  (.seq (.draw 10 [] [⟨some 5, .p (.fieldA 1 (.t 1)), none⟩,
    ⟨some 6, .h (.load false 1 (.t 5)), none⟩,
    ⟨some 7, .p (.mov (.t 0)), none⟩,
    ⟨some 8, .p (.idxA 4 none (.t 6) (.t 7)), none⟩,
    ⟨some 9, .p (.fieldA 0 (.t 8)), none⟩,
    ⟨some 10, .h (.load false 1 (.t 9)), none⟩,
    ⟨some 11, .p (.fieldA 1 (.t 2)), none⟩,
    ⟨some 12, .h (.load false 1 (.t 11)), none⟩,
    ⟨some 13, .p (.bin .geq (.t 10) (.t 12)), none⟩,
    ⟨some 4, .p (.mov (.t 13)), none⟩])
  .ret))
def rs37 : List AR := [.tmp 4]
theorem ok37 : okF Try.prog 37 14 ac37 rs37 = true := by kernel_rfl
/-- simulacrum/simulacrumref37.Plea -/
def ac38 : AC := (.seq (.reg [⟨some 1, .h (.box (.t 0)), none⟩,
    ⟨some 2, .p (.mov (.c (.bool false))), none⟩])
  (.seq (.seq (.reg [⟨some 3, .p (.fieldA 0 (.t 1)), none⟩,
    ⟨some 4, .h (.load false 1 (.t 3)), none⟩,
    ⟨some 5, .p (.bin .neq (.t 4) (.c (.int .i64 1))), none⟩,
    ⟨some 6, .p (.mov (.t 5)), none⟩,
    ⟨some 7, .p (.fieldA 0 (.t 1)), (some (6, true))⟩,
    ⟨some 8, .h (.load false 1 (.t 7)), (some (6, true))⟩,
    ⟨some 9, .p (.bin .neq (.t 8) (.c (.int .i64 2))), (some (6, true))⟩,
    ⟨some 10, .p (.pick (.t 6) (.t 9) (.c (.bool false))), none⟩,
    ⟨some 11, .p (.mov (.t 10)), none⟩,
    ⟨some 12, .p (.fieldA 1 (.t 1)), (some (11, false))⟩,
    ⟨some 13, .h (.load false 1 (.t 12)), (some (11, false))⟩,
    ⟨some 14, .call 33 [(.t 13)], (some (11, false))⟩,
    ⟨some 15, .p (.un .not (.t 14)), (some (11, false))⟩,
    ⟨some 16, .p (.pick (.t 11) (.c (.bool true)) (.t 15)), none⟩,
    ⟨some 17, .p (.mov (.t 16)), none⟩,
    ⟨some 18, .p (.fieldA 2 (.t 1)), (some (17, false))⟩,
    ⟨some 19, .h (.load false 1 (.t 18)), (some (17, false))⟩,
    ⟨some 20, .call 33 [(.t 19)], (some (17, false))⟩,
    ⟨some 21, .p (.un .not (.t 20)), (some (17, false))⟩,
    ⟨some 22, .p (.pick (.t 17) (.c (.bool true)) (.t 21)), none⟩,
    ⟨some 23, .p (.mov (.t 22)), none⟩,
    ⟨some 24, .p (.fieldA 3 (.t 1)), (some (23, false))⟩,
    ⟨some 25, .h (.load false 1 (.t 24)), (some (23, false))⟩,
    ⟨some 26, .call 33 [(.t 25)], (some (23, false))⟩,
    ⟨some 27, .p (.un .not (.t 26)), (some (23, false))⟩,
    ⟨some 28, .p (.pick (.t 23) (.c (.bool true)) (.t 27)), none⟩])
  (.cond (.t 28) (.seq (.reg [⟨some 2, .p (.mov (.c (.bool false))), none⟩])
  .ret) .skip))
  (.seq (.reg [⟨some 29, .p (.fieldA 4 (.t 1)), none⟩,
    ⟨some 30, .h (.load false 1 (.t 29)), none⟩,
    ⟨some 31, .call 34 [(.t 30)], none⟩,
    ⟨some 32, .p (.mov (.t 31)), none⟩,
    ⟨some 33, .p (.fieldA 0 (.t 1)), (some (32, true))⟩,
    ⟨some 34, .h (.load false 1 (.t 33)), (some (32, true))⟩,
    ⟨some 35, .p (.bin .eql (.t 34) (.c (.int .i64 2))), (some (32, true))⟩,
    ⟨some 36, .p (.mov (.t 35)), (some (32, true))⟩,
    ⟨some 37, .p (.fieldA 4 (.t 1)), (some (36, false))⟩,
    ⟨some 38, .h (.load false 1 (.t 37)), (some (36, false))⟩,
    ⟨some 39, .p (.bin .eql (.t 38) (.c (.int .i64 0))), (some (36, false))⟩,
    ⟨some 40, .p (.pick (.t 36) (.c (.bool true)) (.t 39)), (some (32, true))⟩,
    ⟨some 41, .p (.pick (.t 32) (.t 40) (.c (.bool false))), none⟩,
    ⟨some 2, .p (.mov (.t 41)), none⟩])
  .ret)))
def rs38 : List AR := [.tmp 2]
theorem ok38 : okF Try.prog 38 42 ac38 rs38 = true := by kernel_rfl
/-- simulacrum/simulacrumref37.place -/
def ac39 : AC := (.seq (.reg [⟨some 4, .p (.mov (.c (.int .i64 0))), none⟩])
  (.seq (.seq (.reg [⟨some 5, .p (.mov (.c (.int .i64 0))), none⟩])
  (.block 0 (.loop (.seq (.seq (.reg [⟨some 6, .p (.mov (.t 5)), none⟩,
    ⟨some 7, .p (.mov (.t 0)), none⟩,
    ⟨some 8, .p (.len false (.t 7)), none⟩,
    ⟨some 9, .p (.bin .lss (.t 6) (.t 8)), none⟩])
  (.cond (.t 9) .skip (.exit 0)))
  (.seq (.block 1 (.seq (.reg [⟨some 12, .p (.mov (.t 0)), none⟩,
    ⟨some 13, .p (.mov (.t 5)), none⟩,
    ⟨some 14, .p (.idxA 4 none (.t 12) (.t 13)), none⟩,
    ⟨some 15, .p (.fieldA 0 (.t 14)), none⟩,
    ⟨some 16, .h (.load false 1 (.t 15)), none⟩,
    ⟨some 17, .p (.mov (.t 1)), none⟩,
    ⟨some 18, .p (.bin .eql (.t 16) (.t 17)), none⟩])
  (.cond (.t 18) (.seq (.reg [⟨some 19, .p (.mov (.t 5)), none⟩,
    ⟨some 4, .p (.mov (.t 19)), none⟩])
  .ret) .skip)))
  (.reg [⟨some 10, .p (.mov (.t 5)), none⟩,
    ⟨some 11, .p (.bin .add (.t 10) (.c (.int .i64 1))), none⟩,
    ⟨some 5, .p (.mov (.t 11)), none⟩]))))))
  (.seq (.reg [⟨some 4, .p (.mov (.c (.int .i64 (-1)))), none⟩])
  .ret)))
def rs39 : List AR := [.tmp 4]
theorem ok39 : okF Try.prog 39 20 ac39 rs39 = true := by kernel_rfl
/-- simulacrum/simulacrumref37.with -/
def ac40 : AC := (.seq (.reg [⟨some 3, .h (.box (.t 1)), none⟩,
    ⟨some 4, .p (.mov (.c .nils)), none⟩])
  (.seq (.reg [⟨some 5, .p (.mov (.c .nils)), none⟩])
  (.seq (.reg [⟨some 6, .p (.mov (.c (.bool false))), none⟩])
  (.seq (.seq (.reg [⟨some 7, .p (.mov (.c (.int .i64 0))), none⟩])
  (.block 0 (.loop (.seq (.seq (.reg [⟨some 8, .p (.mov (.t 7)), none⟩,
    ⟨some 9, .p (.mov (.t 0)), none⟩,
    ⟨some 10, .p (.len false (.t 9)), none⟩,
    ⟨some 11, .p (.bin .lss (.t 8) (.t 10)), none⟩])
  (.cond (.t 11) .skip (.exit 0)))
  (.seq (.block 1 (.seq (.seq (.draw 12 [] [⟨some 14, .p (.mov (.t 6)), none⟩,
    ⟨some 15, .p (.un .not (.t 14)), none⟩,
    ⟨some 16, .p (.mov (.t 15)), none⟩,
    ⟨some 17, .p (.mov (.t 0)), (some (16, true))⟩,
    ⟨some 18, .p (.mov (.t 7)), (some (16, true))⟩,
    ⟨some 19, .p (.idxA 4 none (.t 17) (.t 18)), (some (16, true))⟩,
    ⟨some 20, .p (.fieldA 0 (.t 19)), (some (16, true))⟩,
    ⟨some 21, .h (.load false 1 (.t 20)), (some (16, true))⟩,
    ⟨some 22, .p (.fieldA 0 (.t 3)), (some (16, true))⟩,
    ⟨some 23, .h (.load false 1 (.t 22)), (some (16, true))⟩,
    ⟨some 24, .p (.bin .gtr (.t 21) (.t 23)), (some (16, true))⟩,
    ⟨some 25, .p (.pick (.t 16) (.t 24) (.c (.bool false))), none⟩])
  (.cond (.t 25) (.seq (.reg [⟨some 26, .p (.mov (.t 5)), none⟩,
    ⟨some 27, .h (.load true 4 (.t 3)), none⟩,
    ⟨some 28, .d (.bslice 4 1 [(.int .i64 0), (.int .i64 0), (.int .i64 0), (.int .i64 0)] [(0, (.t 27))]), none⟩,
    ⟨some 29, .l (.append 4 32 (.t 26) (.t 28)), none⟩,
    ⟨some 5, .p (.mov (.t 29)), none⟩])
  (.reg [⟨some 6, .p (.mov (.c (.bool true))), none⟩])) .skip))
  (.reg [⟨some 30, .p (.mov (.t 5)), none⟩,
    ⟨some 31, .p (.mov (.t 0)), none⟩,
    ⟨some 32, .p (.mov (.t 7)), none⟩,
    ⟨some 33, .p (.idxA 4 none (.t 31) (.t 32)), none⟩,
    ⟨some 34, .h (.load true 4 (.t 33)), none⟩,
    ⟨some 35, .d (.bslice 4 1 [(.int .i64 0), (.int .i64 0), (.int .i64 0), (.int .i64 0)] [(0, (.t 34))]), none⟩,
    ⟨some 36, .l (.append 4 32 (.t 30) (.t 35)), none⟩,
    ⟨some 5, .p (.mov (.t 36)), none⟩])))
  (.reg [⟨some 12, .p (.mov (.t 7)), none⟩,
    ⟨some 13, .p (.bin .add (.t 12) (.c (.int .i64 1))), none⟩,
    ⟨some 7, .p (.mov (.t 13)), none⟩]))))))
  (.seq (.seq (.reg [⟨some 37, .p (.mov (.t 6)), none⟩,
    ⟨some 38, .p (.un .not (.t 37)), none⟩])
  (.cond (.t 38) (.reg [⟨some 39, .p (.mov (.t 5)), none⟩,
    ⟨some 40, .h (.load true 4 (.t 3)), none⟩,
    ⟨some 41, .d (.bslice 4 1 [(.int .i64 0), (.int .i64 0), (.int .i64 0), (.int .i64 0)] [(0, (.t 40))]), none⟩,
    ⟨some 42, .l (.append 4 32 (.t 39) (.t 41)), none⟩,
    ⟨some 5, .p (.mov (.t 42)), none⟩]) .skip))
  (.seq (.reg [⟨some 43, .p (.mov (.t 5)), none⟩,
    ⟨some 4, .p (.mov (.t 43)), none⟩])
  .ret))))))
def rs40 : List AR := [.tmp 4]
theorem ok40 : okF Try.prog 40 44 ac40 rs40 = true := by kernel_rfl
end Go.Proofs

namespace Go.Proofs
open Go Go.Eng
set_option maxRecDepth 100000

/-! What the chapter's values are, in plain Lean. -/
structure Hol where
  (m h e : Int) (g0 g1 g2 : Bool) (s a0 a1 a2 r : Int)
structure Ple where
  (k m h e u : Int)
structure Gra where
  (w : Int) (p : Ple) (ag : Bool) (e u : Int)
abbrev I (n : Int) : AV := .int .i64 n
def Hol.av (x : Hol) : List AV := [I x.m, I x.h, I x.e, .bool x.g0, .bool x.g1, .bool x.g2, I x.s, I x.a0, I x.a1, I x.a2, I x.r]
def Ple.av (x : Ple) : List AV := [I x.k, I x.m, I x.h, I x.e, I x.u]
def Gra.av (x : Gra) : List AV := [I x.w, I x.p.k, I x.p.m, I x.p.h, I x.p.e, I x.p.u, .bool x.ag, I x.e, I x.u]
abbrev ints (l : List Int) : List AV := l.map (.int .i64)
theorem ints_at {l : List Int} {i : Nat} (h : i < l.length) : List.drop ((i : Int).toNat * 1) (ints l) = .int .i64 l[i] :: (ints l).drop (i + 1) := by
  rw [Int.toNat_natCast, Nat.mul_one, List.drop_eq_getElem_cons (by simpa using h)]; simp

def numB (n : Int) : Bool := decide (1 ≤ n) && decide (n ≤ 1073741824)
def serB (n : Int) : Bool := decide (0 ≤ n) && decide (n ≤ 1099511627776)
theorem c33 (n : Int) : CallA Try.prog 33 [.int .i64 n] Heap.nil fun v H' => v = .bool (numB n) ∧ H' = Heap.nil := by
  refine callA_of ok33 (Nat.le_of_ble_eq_true rfl) ?_
  repeat' ((conv => whnf); first
      | refine Branch.ofT rfl ?_
      | refine Branch.ofF rfl ?_
      | refine Branch.dec (fun h => ?_) (fun h => ?_)
      | refine Branch.negdec (fun h => ?_) (fun h => ?_)
      | refine Branch.neg (fun h => ?_) (fun h => ?_)
      | refine Branch.mk (fun h => ?_) (fun h => ?_)
      | (refine Side.mk ?_ ?_; · first | omega | decide)
      | (refine SideD.mk ?_ ?_; · first | omega | decide)
      | refine ⟨_, Nat.lt_succ_self _, To.refl (.inl ⟨rfl, ?_⟩)⟩
      | (refine Side.mk ?_ ?_; · (simp; done))
      | fail
      )
  all_goals (conv => whnf)
  all_goals refine RetA.data rfl ⟨?_, rfl⟩
  all_goals (simp_all [numB, one]; try omega)
theorem c34 (n : Int) : CallA Try.prog 34 [.int .i64 n] Heap.nil fun v H' => v = .bool (serB n) ∧ H' = Heap.nil := by
  refine callA_of ok34 (Nat.le_of_ble_eq_true rfl) ?_
  repeat' ((conv => whnf); first
      | refine Branch.ofT rfl ?_
      | refine Branch.ofF rfl ?_
      | refine Branch.dec (fun h => ?_) (fun h => ?_)
      | refine Branch.negdec (fun h => ?_) (fun h => ?_)
      | refine Branch.neg (fun h => ?_) (fun h => ?_)
      | refine Branch.mk (fun h => ?_) (fun h => ?_)
      | (refine Side.mk ?_ ?_; · first | omega | decide)
      | (refine SideD.mk ?_ ?_; · first | omega | decide)
      | refine ⟨_, Nat.lt_succ_self _, To.refl (.inl ⟨rfl, ?_⟩)⟩
      | (refine Side.mk ?_ ?_; · (simp; done))
      | fail
      )
  all_goals (conv => whnf)
  all_goals refine RetA.data rfl ⟨?_, rfl⟩
  all_goals (simp_all [serB, one]; try omega)

def I30 (l : List Int) (cap : Option Nat) (m : Nat) (fr : Fr) (H : Heap) : Prop := ∃ i : Nat, i ≤ l.length ∧ m = l.length - i ∧ (l.take i).all numB = true ∧ fr = [(5, .dslice (ints l) l.length cap), (6, .int .i64 l.length), (7, .int .i64 i)] ∧ H = Heap.nil
theorem c30 (l : List Int) (cap : Option Nat) (hl : l.length ≤ 1000) : CallA Try.prog 30 [.dslice (ints l) l.length cap] Heap.nil fun v H' => v = .bool (l.all numB) ∧ H' = Heap.nil := by
  refine callA_of ok30 (Nat.le_of_ble_eq_true rfl) ?_
  (conv => whnf)
  refine ⟨I30 l cap, l.length, To.gc [] [5, 6, 7] rfl trivial ⟨0, by omega, by omega, by simp, rfl, rfl⟩, ?_⟩
  rintro m fr H ⟨i, hi, rfl, hall, rfl, rfl⟩
  (conv => whnf)
  refine Branch.dec (fun h => ?_) (fun h => ?_)
  · (conv => whnf)
    have h' : i < l.length := by omega
    refine ⟨by omega, ?_⟩
    (conv => whnf)
    rw [ints_at h']
    repeat' ((conv => whnf); first
        | refine Branch.ofT rfl ?_
        | refine Branch.ofF rfl ?_
        | refine Branch.dec (fun h => ?_) (fun h => ?_)
        | refine Branch.negdec (fun h => ?_) (fun h => ?_)
        | refine Branch.neg (fun h => ?_) (fun h => ?_)
        | refine Branch.mk (fun h => ?_) (fun h => ?_)
        | (refine Side.mk ?_ ?_; · first | omega | decide)
        | (refine SideD.mk ?_ ?_; · first | omega | decide)
        | refine ⟨_, Nat.lt_succ_self _, To.refl (.inl ⟨rfl, ?_⟩)⟩
        | (refine Side.mk ?_ ?_; · (simp; done))
        | fail
        )
    all_goals (conv => whnf)
    · refine RetA.data rfl ⟨?_, rfl⟩
      simp only [one]; congr 1; symm; rw [List.all_eq_false]; exact ⟨l[i], List.getElem_mem _, by simp [numB]; omega⟩
    · refine RetA.data rfl ⟨?_, rfl⟩
      simp only [one]; congr 1; symm; rw [List.all_eq_false]; exact ⟨l[i], List.getElem_mem _, by simp [numB]; omega⟩
    · refine ⟨l.length - (i + 1), by omega, To.gc [] [5, 6, 7] rfl trivial ⟨i + 1, by omega, rfl, ?_, rfl, rfl⟩⟩
      rw [List.take_succ_eq_append_getElem h', List.all_append, hall]; simp [numB]; omega
  · (conv => whnf)
    refine RetA.data rfl ⟨?_, rfl⟩
    rw [List.take_of_length_le (by omega)] at hall
    rw [hall]; rfl
def I31 (l : List Int) (cap : Option Nat) (m : Nat) (fr : Fr) (H : Heap) : Prop := ∃ i : Nat, i ≤ l.length ∧ m = l.length - i ∧ (l.take i).all serB = true ∧ fr = [(5, .dslice (ints l) l.length cap), (6, .int .i64 l.length), (7, .int .i64 i)] ∧ H = Heap.nil
theorem c31 (l : List Int) (cap : Option Nat) (hl : l.length ≤ 1000) : CallA Try.prog 31 [.dslice (ints l) l.length cap] Heap.nil fun v H' => v = .bool (l.all serB) ∧ H' = Heap.nil := by
  refine callA_of ok31 (Nat.le_of_ble_eq_true rfl) ?_
  (conv => whnf)
  refine ⟨I31 l cap, l.length, To.gc [] [5, 6, 7] rfl trivial ⟨0, by omega, by omega, by simp, rfl, rfl⟩, ?_⟩
  rintro m fr H ⟨i, hi, rfl, hall, rfl, rfl⟩
  (conv => whnf)
  refine Branch.dec (fun h => ?_) (fun h => ?_)
  · (conv => whnf)
    have h' : i < l.length := by omega
    refine ⟨by omega, ?_⟩
    (conv => whnf)
    rw [ints_at h']
    repeat' ((conv => whnf); first
        | refine Branch.ofT rfl ?_
        | refine Branch.ofF rfl ?_
        | refine Branch.dec (fun h => ?_) (fun h => ?_)
        | refine Branch.negdec (fun h => ?_) (fun h => ?_)
        | refine Branch.neg (fun h => ?_) (fun h => ?_)
        | refine Branch.mk (fun h => ?_) (fun h => ?_)
        | (refine Side.mk ?_ ?_; · first | omega | decide)
        | (refine SideD.mk ?_ ?_; · first | omega | decide)
        | refine ⟨_, Nat.lt_succ_self _, To.refl (.inl ⟨rfl, ?_⟩)⟩
        | (refine Side.mk ?_ ?_; · (simp; done))
        | fail
        )
    all_goals (conv => whnf)
    · refine RetA.data rfl ⟨?_, rfl⟩
      simp only [one]; congr 1; symm; rw [List.all_eq_false]; exact ⟨l[i], List.getElem_mem _, by simp [serB]; omega⟩
    · refine RetA.data rfl ⟨?_, rfl⟩
      simp only [one]; congr 1; symm; rw [List.all_eq_false]; exact ⟨l[i], List.getElem_mem _, by simp [serB]; omega⟩
    · refine ⟨l.length - (i + 1), by omega, To.gc [] [5, 6, 7] rfl trivial ⟨i + 1, by omega, rfl, ?_, rfl, rfl⟩⟩
      rw [List.take_succ_eq_append_getElem h', List.all_append, hall]; simp [serB]; omega
  · (conv => whnf)
    refine RetA.data rfl ⟨?_, rfl⟩
    rw [List.take_of_length_le (by omega)] at hall
    rw [hall]; rfl
attribute [irreducible] numB serB
theorem c30_1 (a : Int) (cap : Option Nat) : CallA Try.prog 30 [.dslice [I a] 1 cap] Heap.nil fun v H' => v = .bool (numB a) ∧ H' = Heap.nil := by simpa using c30 [a] cap (by simp)
theorem c30_2 (a b : Int) (cap : Option Nat) : CallA Try.prog 30 [.dslice [I a, I b] 2 cap] Heap.nil fun v H' => v = .bool (numB a && numB b) ∧ H' = Heap.nil := by simpa using c30 [a, b] cap (by simp)
theorem c30_3 (a b c : Int) (cap : Option Nat) : CallA Try.prog 30 [.dslice [I a, I b, I c] 3 cap] Heap.nil fun v H' => v = .bool (numB a && (numB b && numB c)) ∧ H' = Heap.nil := by simpa using c30 [a, b, c] cap (by simp)
theorem c31_1 (a : Int) (cap : Option Nat) : CallA Try.prog 31 [.dslice [I a] 1 cap] Heap.nil fun v H' => v = .bool (serB a) ∧ H' = Heap.nil := by simpa using c31 [a] cap (by simp)
theorem c31_3 (a b c : Int) (cap : Option Nat) : CallA Try.prog 31 [.dslice (I a :: I b :: I c :: []) 3 cap] Heap.nil fun v H' => v = .bool (serB a && (serB b && serB c)) ∧ H' = Heap.nil := by simpa using c31 [a, b, c] cap (by simp)

def Hol.holds (x : Hol) : Bool := decide (2 ≤ (if x.g0 then 1 else 0 : Int) + (if x.g1 then 1 else 0) + (if x.g2 then 1 else 0))
theorem c13 (x : Hol) : CallA Try.prog 13 [.agg x.av] Heap.nil fun v H' => v = .bool x.holds ∧ H' = Heap.nil := by
  obtain ⟨m, h, e, g0, g1, g2, s, a0, a1, a2, r⟩ := x
  refine callA_of ok13 (Nat.le_of_ble_eq_true rfl) ?_
  cases g0 <;> cases g1 <;> cases g2
  all_goals (
    (conv => whnf)
    refine LoopA.unroll _ _ _ 3 ?_
    repeat' ((conv => whnf); first | refine Branch.ofT rfl ?_ | refine Branch.ofF rfl ?_ | refine Side.mk (by decide) ?_ | refine ⟨_, Nat.lt_succ_self _, To.refl (.inl ⟨rfl, ?_⟩)⟩)
    (conv => whnf)
    exact RetA.data rfl ⟨rfl, rfl⟩)
end Go.Proofs

