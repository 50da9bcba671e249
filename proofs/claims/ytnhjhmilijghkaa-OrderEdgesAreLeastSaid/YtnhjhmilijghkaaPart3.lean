/- Part of a proof about the given program: lemmas that the other parts use. -/
import Derived.Test.YtnhjhmilijghkaaPart2
import Derived.StillTail
import Derived.Scope
import Derived.RangeFuncRecord
import Derived.OrdersIn
import Derived.TacticsIn
import Derived.Sort.LoopGhostIn

set_option linter.all false
set_option linter.unusedSimpArgs false
set_option linter.unusedVariables false
namespace Go.Eng
open Go

/-! ### Rounds: the laws within a round's frame -/
/-- Every machine, and what frame the walked code stands in. -/
def FR (r : Option Nat) : Fence := { fn := fun _ => True, depth := none, alive := false, round := r }
theorem FR_none : FR none = Fence.wide := rfl
theorem room_FR (r : Option Nat) (n : Nat) : (FR r).room n := fun d hd => by cases hd
theorem fenced_FR (P : Program) (r : Option Nat) (m : Machine) : m.fenced P (FR r) := fenced_wide P m

section
variable {P : Program} {r : Option Nat} {a : Act} {w : World}
theorem rows_in {row : String} {args : Array Value} {R : Value → World → Prop} (h : Rows P row args w R) : RowsIn (FR r) 0 P row args w R := by
  intro c cs _
  obtain ⟨v, w', hr, hs⟩ := h c cs
  exact ⟨v, w', hr, StepsIn.mono (fun m _ => fenced_FR P r m) (StepsIn.of_steps hs)⟩
theorem calls_in {f : FuncId} {args : Array Value} {R : Ending → World → Prop} (h : Calls P f args w R) : CallsIn (FR r) 0 P f args w R := (callsIn_wide (n := 0)).2 h
/-- What an operation does anywhere it does in a round. -/
theorem Oper.wpIn_of_wp {o : Oper} (hd : ∀ c, o.op ≠ .defer c) {next : Act → World → Prop} {Q : Exit → Act → World → Prop} (h : o.wp P a w next Q) : o.wpIn (FR r) 0 P a w next Q := by
  refine ⟨fun _ _ => trivial, ?_⟩
  rw [Oper.semAt_eq _ _ _ hd]
  unfold Oper.wp at h
  generalize (execOp a.eval o).run P w = res at h ⊢
  cases res with
  | ok x w' =>
    cases x with
    | value v => exact h
    | skip => exact h
    | defer d => exact h
    | enter f args => exact ⟨fun h0 => (by cases h0), calls_in h⟩
    | row row args => exact ⟨fun h0 => (by cases h0), rows_in h⟩
    | _ => exact h.elim
  | halt x w' => cases x <;> first | exact h | exact h.elim

theorem stepR_scope {b : Frame} {k : List Item} {cs : List Frame} {c : Code} : step P (lone (b.atR a (.code (.scope c) :: k)) cs w) = .next (lone (b.atR a (.code c :: .inScope c :: k)) cs w) :=
  step_lone_go (by simp [stepG, stepG.exec, Frame.atR])
theorem stepR_inScope {b : Frame} {k : List Item} {cs : List Frame} {c : Code} : step P (lone (b.atR a (.inScope c :: k)) cs w) = .next (lone (b.atR a k) cs w) :=
  step_lone_go (by simp [stepG, stepG.exec, Frame.atR])
theorem wpIn_scope_straight {Q : Exit → Act → World → Prop} {c : Code} (h : c.wpIn (FR r) 0 P (Exit.noGoto Q) a w) : (Code.scope c).wpIn (FR r) 0 P Q a w := by
  intro b k cs hro hb hr
  obtain ⟨e, a₁, w₁, hq, harr⟩ := h b (.inScope c :: k) cs hro hb hr
  have one : StepsIn (Machine.fenced P (FR r)) P (lone (b.atR a (.code (.scope c) :: k)) cs w) (lone (b.atR a (.code c :: .inScope c :: k)) cs w) := .one (fenced_FR P r _) stepR_scope
  cases e with
  | normal => exact ⟨.normal, a₁, w₁, hq, one.trans (StepsIn.trans harr (.one (fenced_FR P r _) stepR_inScope))⟩
  | exit id =>
    have hx : exitTo id (.inScope c :: k) = exitTo id k := by simp [exitTo]
    exact ⟨.exit id, a₁, w₁, hq, fun k' hk => one.trans (harr.1 k' (by rw [hx]; exact hk)), fun hr' hk => let ⟨k₁, h1, h2⟩ := harr.2 hr' (by rw [hx]; exact hk); ⟨k₁, h1, one.trans h2⟩⟩
  | goto l => exact hq.elim
  | ret => exact ⟨_, a₁, w₁, hq, .of_steps one harr⟩
  | panic ch => exact ⟨_, a₁, w₁, hq, .of_steps one harr⟩
  | outgrown => exact ⟨_, a₁, w₁, hq, .of_steps one harr⟩

theorem wpAnyIn_of_seq {md : Region.Mode} {ops : Array Oper} {Q' : Exit → Act → World → Prop} : ∀ (l : List Oper) (k : Nat) (listed : Array Bool) (a : Act) (w : World), (∀ j, l[j]? = ops[k + j]?) →
    Region.seqB md ops l.length k listed = true → wpListIn (FR r) 0 P ops Q' l a w → wpAnyIn (FR r) 0 P md ops Q' l.length listed a w
  | [], _, _, _, _, _, hB, h => ⟨by simpa [Region.seqB] using hB, h⟩
  | o :: l, k, listed, a, w, hl, hB, h => by
    have h0 : ops[k]? = some o := by simpa using (hl 0).symm
    simp only [List.length_cons, Region.seqB, Bool.and_eq_true, decide_eq_true_eq] at hB
    refine ⟨fun h1 => (by rw [hB.1] at h1; cases h1), fun i hi => ?_⟩
    rw [hB.1] at hi
    have hik : i = k := by simpa using hi
    subst hik
    have hw : wpOpIn (FR r) 0 P ops Q' i (wpListIn (FR r) 0 P ops Q' l) a w := by unfold wpOpIn; simp only [h0]; exact h
    exact wpOpIn_mono (fun a' w' h' => wpAnyIn_of_seq l (i + 1) _ a' w' (fun j => by have := hl (j + 1); simpa [Nat.add_assoc, Nat.add_comm 1 j] using this) hB.2 h') hw
end

variable [Globs]
/-! ### What is pushed onto a function's deferred calls by its ranges over functions -/
def mark (r : Nat) : Deferred := { target := .collected r, args := #[] }
structure Marks (w0 : World) (ds : List Deferred) (μ : Pos) (H : Heap) (w : World) : Prop where
  ex : ∃ rs : List Nat, ds = rs.map mark ∧ rs.Nodup ∧ ∀ r ∈ rs, w0.heap.size ≤ r ∧ w.heap[r]? = some (.deferred (some [])) ∧ ¬ Own μ H r
theorem Marks.nil {w0 w : World} {μ : Pos} {H : Heap} : Marks w0 [] μ H w := ⟨[], rfl, List.nodup_nil, fun _ h => by cases h⟩
theorem Marks.step {w0 w w' : World} {ds : List Deferred} {n : Nat} {M M' : Mem} {μ μ' : Pos} {H H' : Heap} (h : Marks w0 ds μ H w) (G : Grow n M μ H w M' μ' H' w') : Marks w0 ds μ' H' w' := by
  obtain ⟨rs, h1, h2, h3⟩ := h
  refine ⟨rs, h1, h2, fun r hr => ?_⟩
  obtain ⟨a, b, c⟩ := h3 r hr
  have hlt : r < w.heap.size := (Array.getElem?_eq_some_iff.1 b).1
  refine ⟨a, by rw [G.keep.block r hlt c]; exact b, fun ho => ?_⟩
  rcases G.own r ho with h | h
  · exact c h
  · omega
/-- A world in which all that is held stands. -/
theorem Rel.off {M : Mem} {μ : Pos} {H : Heap} {w w' : World} (R : Rel M μ H w) (h : ∀ b, Own μ H b → w'.heap[b]? = w.heap[b]?) (hi : ∀ b o v, M b o = some v → w'.heap[b]? = w.heap[b]?) : Rel M μ H w' := by
  have own : ∀ {k b s}, H.get k ≠ .dead → μ k = some (b, s) → w'.heap[b]? = w.heap[b]? := fun hk hμ => h _ ⟨_, _, hk, hμ⟩
  refine ⟨R.glob, R.dom, R.top, fun k cs hk => ?_, fun k es hk => ?_, fun j k left cur hj => ?_, fun j st id fr hj => ?_, R.inj, fun b o v hv => ?_, R.apart⟩
  · obtain ⟨b, sz, c, el, fz, h1, h2, h3⟩ := R.cells k cs hk
    exact ⟨b, sz, c, el, fz, h1, by rw [own (by rw [hk]; simp) h1]; exact h2, h3⟩
  · obtain ⟨b, sz, ents, clock, h1, h2, h3⟩ := R.maps k es hk
    exact ⟨b, sz, ents, clock, h1, by rw [own (by rw [hk]; simp) h1]; exact h2, h3⟩
  · obtain ⟨hk, b, s, g1, bm, s2, ents, clock, since, seen, last, g2, g3, g4, g5⟩ := R.iters j k left cur hj
    exact ⟨hk, b, s, g1, bm, s2, ents, clock, since, seen, last, g2, by rw [own (by rw [hj]; simp) g1]; exact g3, by rw [own hk g2]; exact g4, g5⟩
  · obtain ⟨b, s, g1, r, g2, g3⟩ := R.loops j st id fr hj
    exact ⟨b, s, g1, r, by rw [own (by rw [hj]; simp) g1]; exact g2, g3⟩
  · have := R.imm b o v hv
    simp only [World.cell?] at this ⊢
    rw [hi b o v hv]; exact this
theorem Rel.no_mem {M : Mem} {μ : Pos} {H : Heap} {w : World} (R : Rel M μ H w) {b o : Nat} {x : Obj} (h : w.heap[b]? = some x) (hx : ∀ c el fz, x ≠ .cells c el fz) {v : Value} : M b o ≠ some v := fun hm => by
  have := R.imm b o v hm
  simp only [World.cell?, h] at this
  cases x <;> simp_all

/-! ### Records: laid, turned, let go -/
theorem putObj_heap {w : World} {b : Nat} {o o0 : Obj} (h : w.heap[b]? = some o0) (x : Nat) : (w.putObj b o).heap[x]? = if x = b then some o else w.heap[x]? := by
  by_cases e : x = b
  · subst e; rw [if_pos rfl]; exact World.putObj_heap_same (Array.getElem?_eq_some_iff.1 h).1
  · rw [if_neg e]; exact World.putObj_heap_other e
section
variable {M : Mem} {μ : Pos} {H : Heap} {w : World}
/-- A block that nobody owns is laid. -/
theorem Rel.aside (R : Rel M μ H w) (o : Obj) : Rel M μ H (w.alloc o) :=
  R.off (fun _ hb => alloc_heap_lt w o (R.own_lt hb)) (fun _ _ _ hv => alloc_heap_lt w o (R.cell_lt hv))
/-- A record is laid. -/
theorem Rel.pushL (R : Rel M μ H w) {r : Loop} {st : RS} {id : Nat} {fr : Fr} (hst : st.ok r) (hrf : Globs.rf id r.tmps.size r.params.toList r.assign r.body) (hfr : ∀ t, relV M (look fr t) μ (r.tmps.getD t undef)) :
    Rel M (μ.put H.nx (w.heap.size, 0)) (H.push (.loop st id fr)) (w.alloc (.loop r)) ∧ Move M μ H w M (μ.put H.nx (w.heap.size, 0)) (H.push (.loop st id fr)) (w.alloc (.loop r)) := by
  have hfree : μ H.nx = none := R.dom _ (Nat.le_refl _)
  have hle : Pos.le μ (μ.put H.nx (w.heap.size, 0)) := Pos.le_put hfree _
  have hdead : H.get H.nx = .dead := R.top _ (Nat.le_refl _)
  have R1 : Rel M μ H (w.alloc (.loop r)) := R.aside _
  have alive : ∀ j, (H.push (.loop st id fr)).get j ≠ .dead → j = H.nx ∨ (j ≠ H.nx ∧ H.get j ≠ .dead) := fun j hj => by
    rw [Heap.get_push] at hj
    split at hj
    · rename_i e; exact .inl e.symm
    · rename_i e; exact .inr ⟨Ne.symm e, hj⟩
  have new : (w.alloc (.loop r)).heap[w.heap.size]? = some (.loop r) := alloc_heap_new w _
  have oldlt : ∀ {j b s}, H.get j ≠ .dead → μ j = some (b, s) → b < w.heap.size := fun hj hx => R.own_lt ⟨_, _, hj, hx⟩
  have other : ∀ {j}, j ≠ H.nx → (μ.put H.nx (w.heap.size, 0)) j = μ j := fun h => Pos.put_other μ _ h
  refine ⟨⟨R.glob, fun k hk => ?_, fun j hj => ?_, fun j ds hj => ?_, fun j es hj => ?_, fun j k' left cur hj => ?_, fun j st' id' fr' hj => ?_, fun i j x s t hi hj hx hy => ?_, R1.imm, fun j x s hj hx o => ?_⟩, ⟨hle, ⟨Mem.le_refl _, fun k hk => other (by omega), ⟨rfl, rfl, rfl, by simp, fun x hx _ => alloc_heap_lt w _ hx⟩, fun x hx => ?_, fun _ _ _ h => .inl h⟩, Nat.le_succ _⟩⟩
  · have hk' : H.nx + 1 ≤ k := hk
    rw [other (by omega)]; exact R.dom k (by omega)
  · have hj' : H.nx + 1 ≤ j := hj
    rw [Heap.get_push, if_neg (by omega)]; exact R.top j (by omega)
  · rw [Heap.get_push] at hj
    split at hj
    · cases hj
    · rename_i e
      obtain ⟨b', s', d, el', fz', h1, h2, h3, h4, h5⟩ := R1.cells j ds hj
      exact ⟨b', s', d, el', fz', hle _ _ h1, h2, h3, h4, relP_mono (Mem.le_refl _) hle _ h5⟩
  · rw [Heap.get_push] at hj
    split at hj
    · cases hj
    · obtain ⟨b', s', ents, clock, h1, h2⟩ := R1.maps j es hj
      exact ⟨b', s', ents, clock, hle _ _ h1, h2⟩
  · rw [Heap.get_push] at hj
    split at hj
    · cases hj
    · obtain ⟨hal, b, s, g1, bm', s2', ents', clock', since, seen, last, g2, g3⟩ := R1.iters j k' left cur hj
      refine ⟨?_, b, s, hle _ _ g1, bm', s2', ents', clock', since, seen, last, hle _ _ g2, g3⟩
      rw [Heap.get_push]; split
      · simp
      · exact hal
  · rw [Heap.get_push] at hj
    split at hj
    · rename_i e; subst e; cases hj
      exact ⟨w.heap.size, 0, Pos.put_same _ _ _, r, new, hst, hrf, fun t => relV_mono (Mem.le_refl _) _ hle (hfr t)⟩
    · obtain ⟨b, s, g1, r', g2, g3, g4, g5⟩ := R1.loops j st' id' fr' hj
      exact ⟨b, s, hle _ _ g1, r', g2, g3, g4, fun t => relV_mono (Mem.le_refl _) _ hle (g5 t)⟩
  · rcases alive i hi with rfl | ⟨h1, h2⟩ <;> rcases alive j hj with rfl | ⟨h3, h4⟩
    · rfl
    · rw [Pos.put_same] at hx; cases hx; rw [other h3] at hy; have := oldlt h4 hy; omega
    · rw [Pos.put_same] at hy; cases hy; rw [other h1] at hx; have := oldlt h2 hx; omega
    · rw [other h1] at hx; rw [other h3] at hy; exact R.inj i j x s t h2 h4 hx hy
  · rcases alive j hj with rfl | ⟨h1, h2⟩
    · rw [Pos.put_same] at hx; cases hx
      cases hm : M w.heap.size o with
      | none => rfl
      | some v => have := R.cell_lt hm; omega
    · rw [other h1] at hx; exact R.apart j x s h2 hx o
  · obtain ⟨j, s, hj, hx⟩ := hx
    rcases alive j hj with rfl | ⟨h1, h2⟩
    · rw [Pos.put_same] at hx; cases hx; exact .inr (Nat.le_refl _)
    · rw [other h1] at hx; exact .inl ⟨j, s, h2, hx⟩
/-- A record is turned. -/
theorem Rel.setL (R : Rel M μ H w) {k b s id : Nat} {st st' : RS} {fr : Fr} {r r' : Loop} (hk : H.get k = .loop st id fr) (hμ : μ k = some (b, s)) (hb : w.heap[b]? = some (.loop r)) (hst : st'.ok r') (ht : r'.tmps = r.tmps) (hp : r'.params = r.params) (ha : r'.assign = r.assign) (hbd : r'.body = r.body) :
    Rel M μ (H.set k (.loop st' id fr)) (w.putObj b (.loop r')) ∧ Move M μ H w M μ (H.set k (.loop st' id fr)) (w.putObj b (.loop r')) := by
  have hne : H.get k ≠ .dead := by rw [hk]; simp
  have hh := putObj_heap (o := .loop r') hb
  have other : ∀ j b' s', H.get j ≠ .dead → μ j = some (b', s') → j ≠ k → b' ≠ b := fun j b' s' hj hμ' hjk e => hjk (R.inj j k b s' s hj hne (e ▸ hμ') hμ)
  have al : ∀ j, (H.set k (.loop st' id fr)).get j ≠ .dead → H.get j ≠ .dead := fun j hj => by
    rw [Heap.get_set] at hj; split at hj
    · subst_vars; exact hne
    · exact hj
  refine ⟨⟨R.glob, R.dom, fun j hj => ?_, fun j ds hj => ?_, fun j es hj => ?_, R.walks (Mem.le_refl _) (fun j k' left cur hj => ?_), fun j st2 id2 fr2 hj => ?_, fun i j x s t hi hj hx hy => R.inj i j x s t (al i hi) (al j hj) hx hy, fun x o v hv => ?_, fun j x s hj hx o => R.apart j x s (al j hj) hx o⟩,
    ⟨Pos.le_refl _, ⟨Mem.le_refl _, fun _ _ => rfl, ⟨rfl, rfl, rfl, by simp, fun x hx hno => by rw [hh, if_neg (fun e => hno ⟨k, s, hne, by rw [e]; exact hμ⟩)]⟩, fun x hx => .inl (Own.set hne hx), fun _ _ _ h => .inl h⟩, Nat.le_refl _⟩⟩
  · rw [Heap.get_set]
    have := R.pos_lt hμ
    simp only [Heap.set] at hj
    rw [if_neg (by omega)]; exact R.top j hj
  · rw [Heap.get_set] at hj
    split at hj
    · cases hj
    · rename_i hjk
      obtain ⟨b', s', d, el', fz', h1, h2, h3⟩ := R.cells j ds hj
      exact ⟨b', s', d, el', fz', h1, by rw [hh, if_neg (other j b' s' (by rw [hj]; simp) h1 (Ne.symm hjk))]; exact h2, h3⟩
  · rw [Heap.get_set] at hj
    split at hj
    · cases hj
    · rename_i hjk
      obtain ⟨b', s', ents, clock, h1, h2, h3⟩ := R.maps j es hj
      exact ⟨b', s', ents, clock, h1, by rw [hh, if_neg (other j b' s' (by rw [hj]; simp) h1 (Ne.symm hjk))]; exact h2, h3⟩
  · rw [Heap.get_set] at hj
    split at hj
    · cases hj
    · rename_i hjk
      have hal := (R.iters j k' left cur hj).1
      obtain ⟨es, hes⟩ := R.iter_map hj
      have hkk : k' ≠ k := fun e => by subst e; rw [hk] at hes; cases hes
      refine ⟨j, k', hj, ?_, fun x hx => hx, fun x hx => hx, fun b2 s2 hx _ => by rw [hh, if_neg (other j b2 s2 (by rw [hj]; simp) hx (Ne.symm hjk))], fun b2 s2 hx _ => by rw [hh, if_neg (other k' b2 s2 hal hx hkk)]⟩
      rw [Heap.get_set, if_neg (Ne.symm hkk)]; exact hal
  · rw [Heap.get_set] at hj
    split at hj
    · rename_i e; subst e; cases hj
      obtain ⟨b2, s2, g1, r2, g2, g3, g4, g5⟩ := R.loops k st id fr hk
      rw [hμ] at g1; cases g1
      rw [hb] at g2; cases g2
      exact ⟨b, s, hμ, r', by rw [hh, if_pos rfl], hst, by rw [ht, hp, ha, hbd]; exact g4, fun t => by rw [ht]; exact g5 t⟩
    · rename_i hjk
      obtain ⟨b2, s2, g1, r2, g2, g3⟩ := R.loops j st2 id2 fr2 hj
      exact ⟨b2, s2, g1, r2, by rw [hh, if_neg (other j b2 s2 (by rw [hj]; simp) g1 (Ne.symm hjk))]; exact g2, g3⟩
  · have := R.imm x o v hv
    have hx : x ≠ b := fun e => by have h2 := R.apart k b s hne hμ o; rw [e] at hv; rw [hv] at h2; cases h2
    simp only [World.cell?] at this ⊢
    rw [hh, if_neg hx]; exact this
/-- A record is let go. -/
theorem Rel.dropL (R : Rel M μ H w) {k b s id : Nat} {st : RS} {fr : Fr} {r : Loop} (hk : H.get k = .loop st id fr) (hμ : μ k = some (b, s)) (hb : w.heap[b]? = some (.loop r)) (o : Obj) :
    Rel M μ (H.set k .dead) (w.putObj b o) ∧ Move M μ H w M μ (H.set k .dead) (w.putObj b o) := by
  have hne : H.get k ≠ .dead := by rw [hk]; simp
  have hh := putObj_heap (o := o) hb
  obtain ⟨R1, own1⟩ := R.kill k (fun es e => by rw [hk] at e; cases e)
  refine ⟨R1.off (fun x hx => ?_) (fun x q v hv => ?_), ⟨Pos.le_refl _, ⟨Mem.le_refl _, fun _ _ => rfl, ⟨rfl, rfl, rfl, by simp, fun x hx hno => by rw [hh, if_neg (fun e => hno ⟨k, s, hne, by rw [e]; exact hμ⟩)]⟩, fun x hx => .inl (own1 x hx), fun _ _ _ h => .inl h⟩, Nat.le_refl _⟩⟩
  · rw [hh, if_neg]
    rintro rfl
    obtain ⟨j, s', hj, hx⟩ := hx
    rw [Heap.get_set] at hj
    split at hj
    · exact hj rfl
    · rename_i e; exact e (R.inj k j x s s' hne hj hμ hx)
  · rw [hh, if_neg]
    rintro rfl
    have h2 := R.apart k x s hne hμ q; rw [hv] at h2; cases h2
end

/-! ### The way out of a function -/
def takeAll : List Nat → World → World
  | [], w => w
  | r :: rs, w => takeAll rs (w.putObj r (.deferred none))
theorem takeAll_size : ∀ (rs : List Nat) (w : World), (takeAll rs w).heap.size = w.heap.size
  | [], _ => rfl
  | r :: rs, w => by rw [takeAll, takeAll_size rs, World.putObj_size]
theorem takeAll_rest : ∀ (rs : List Nat) (w : World), (takeAll rs w).os = w.os ∧ (takeAll rs w).tape = w.tape ∧ (takeAll rs w).output = w.output
  | [], _ => ⟨rfl, rfl, rfl⟩
  | r :: rs, w => takeAll_rest rs (w.putObj r (.deferred none))
theorem takeAll_heap : ∀ (rs : List Nat) (w : World) (b : Nat), b ∉ rs → (takeAll rs w).heap[b]? = w.heap[b]?
  | [], _, _, _ => rfl
  | r :: rs, w, b, h => by
    rw [takeAll, takeAll_heap rs _ b (fun hb => h (List.mem_cons_of_mem _ hb)), World.putObj_heap_other (fun e => h (by rw [e]; exact List.mem_cons_self ..))]
theorem leaves_all {P : Program} {F : Fence} {n : Nat} {fn : Func} {tmps : Array Value} {R : Ending → World → Prop} : ∀ (rs : List Nat) (w : World), (∀ r ∈ rs, w.heap[r]? = some (.deferred (some []))) → rs.Nodup →
    (∃ v, (results fn tmps).run P (takeAll rs w) = .ok v (takeAll rs w) ∧ R (.returned v) (takeAll rs w)) → LeavesInM F n P fn tmps R (rs.map mark) .returning w
  | [], w, _, _, h => h
  | r :: rs, w, h1, h2, h => by
    refine ⟨by simp, .inl ⟨r, w.putObj r (.deferred none), rfl, run_takeDeferred (h1 r (List.mem_cons_self ..)), ?_⟩⟩
    have h2 := List.nodup_cons.1 h2
    refine leaves_all rs _ (fun q hq => ?_) h2.2 h
    rw [World.putObj_heap_other (fun e => h2.1 (by rw [← e]; exact hq))]
    exact h1 q (List.mem_cons_of_mem _ hq)
/-- Behind the marks all is as it was. -/
theorem Marks.out {n : Nat} {M0 M : Mem} {μ0 μ : Pos} {H0 H : Heap} {w0 w : World} {rs : List Nat} (h : ∀ r ∈ rs, w0.heap.size ≤ r ∧ w.heap[r]? = some (.deferred (some [])) ∧ ¬ Own μ H r) (R : Rel M μ H w) (G : Grow n M0 μ0 H0 w0 M μ H w) :
    Rel M μ H (takeAll rs w) ∧ Grow n M0 μ0 H0 w0 M μ H (takeAll rs w) := by
  refine ⟨R.off (fun b hb => takeAll_heap rs w b fun hm => (h b hm).2.2 hb) (fun b o v hv => takeAll_heap rs w b fun hm => R.no_mem (h b hm).2.1 (fun _ _ _ e => by cases e) hv), G.mem, G.pin, ⟨(takeAll_rest rs w).1.trans G.keep.os, (takeAll_rest rs w).2.1.trans G.keep.tape, (takeAll_rest rs w).2.2.trans G.keep.output, by rw [takeAll_size]; exact G.keep.size, fun b hb hn => ?_⟩, G.own, G.fresh⟩
  rw [takeAll_heap rs w b (fun hm => by have := (h b hm).1; omega)]
  exact G.keep.block b hb hn
end Go.Eng

namespace Go.Eng
open Go

variable [Globs]
/-! ### Calls -/
def callable (P : Program) (f : FuncId) : Bool := match P.funcs[f]? with
  | some fn => !(fn.name == "runtime.NumGoroutine") && fn.body.isSome
  | none => false

/-- A call of a function, from every world that holds the abstract heap. -/
structure CallA (P : Program) (f : FuncId) (args : List AV) (H : Heap) (K : AV → Heap → Prop) : Prop where
  ok : callable P f = true
  run : ∀ M μ w (vs : Array Value), Rel M μ H w → relL M args μ vs.toList → Calls P f vs w fun e w' =>
    ∃ v M' μ' H' c, e = .returned v ∧ Rel M' μ' H' w' ∧ relV M' c μ' v ∧ Move M μ H w M' μ' H' w' ∧ K c H'

theorem CallA.mono {P : Program} {f : FuncId} {args : List AV} {H : Heap} {K K' : AV → Heap → Prop} (h : CallA P f args H K) (hk : ∀ v H', K v H' → K' v H') : CallA P f args H K' :=
  ⟨h.ok, fun M μ w vs R hv => (h.run M μ w vs R hv).mono fun _ _ ⟨v, M', μ', H', c, h1, h2, h3, h4, h5⟩ => ⟨v, M', μ', H', c, h1, h2, h3, h4, hk _ _ h5⟩⟩

theorem run_callFunc {P : Program} {f : FuncId} (h : callable P f = true) (args : Array Value) (w : World) : (callFunc f args).run P w = .ok (.enter f args) w := by
  unfold callable at h
  split at h
  · rename_i fn hf
    simp only [Bool.and_eq_true, Bool.not_eq_true'] at h
    obtain ⟨h1, h2⟩ := h
    have h3 : fn.body.isNone = false := by cases hb : fn.body <;> simp_all
    simp only [callFunc, Sem.run_bind, run_program, Result.andThen_ok, hf, h1, Bool.false_eq_true, if_false, h3, Sem.run_pure]
  · cases h

/-- A call of what a range over a function hands over: a round, from every world that holds the abstract heap. -/
structure YieldA (P : Program) (k : Nat) (args : List AV) (H : Heap) (K : AV → Heap → Prop) : Prop where
  run : ∀ M μ w (vs : Array Value), Rel M μ H w → relL M args μ vs.toList → ∀ b s, μ k = some (b, s) → ∃ fn tmps assign body, (Instr.yield b vs).run P w = .ok (.round b fn tmps assign body) w ∧
    RoundIn (FR none) 0 P b fn tmps assign body w fun e w' => ∃ v M' μ' H' c, e = .returned v ∧ Rel M' μ' H' w' ∧ relV M' c μ' v ∧ Move M μ H w M' μ' H' w' ∧ K c H'
theorem YieldA.mono {P : Program} {k : Nat} {args : List AV} {H : Heap} {K K' : AV → Heap → Prop} (h : YieldA P k args H K) (hk : ∀ v H', K v H' → K' v H') : YieldA P k args H K' :=
  ⟨fun M μ w vs R hv b s hμ => let ⟨fn, tmps, assign, body, h1, h2⟩ := h.run M μ w vs R hv b s hμ; ⟨fn, tmps, assign, body, h1, h2.mono fun _ _ ⟨v, M', μ', H', c, h1, h2, h3, h4, h5⟩ => ⟨v, M', μ', H', c, h1, h2, h3, h4, hk _ _ h5⟩⟩⟩

/-! ### Code -/
inductive AOp where
  | m (o : MOp)
  | p (o : POp)
  | v (o : VOp)
  | h (o : HOp)
  | d (o : DOp)
  | l (o : LOp)
  | call (f : FuncId) (args : List AX)
  | callv (x : AX) (args : List AX)
  /-- Is a slice nil? The answer may be unknown. -/
  | nq (neg : Bool) (x : AX)

/-- A slice of length n: nil, or not. -/
structure Unk (n : Nat) (A B : Prop) : Prop where
  nil : n = 0 → A
  some : B
theorem Unk.pos {n : Nat} {A B : Prop} (h : 0 < n) (hb : B) : Unk n A B := ⟨fun h0 => absurd h0 (by omega), hb⟩
structure AO where
  dst : Option Nat
  op : AOp
  guard : Option (Nat × Bool)

inductive XA where
  | normal
  | exit (id : Nat)
  | ret

/-- From one abstract state to another that says no more of the same world. -/
def Into (n : Nat) (fr : Fr) (H : Heap) (fr' : Fr) (H' : Heap) : Prop := ∀ N M μ w tmps, Rel M μ H w → RelF N M μ fr tmps → n ≤ H.nx →
  ∃ M' μ', Rel M' μ' H' w ∧ RelF N M' μ' fr' tmps ∧ n ≤ H'.nx ∧ Grow n M μ H w M' μ' H' w
structure To (n : Nat) (fr : Fr) (H : Heap) (J : Fr → Heap → Prop) : Prop where
  ex : ∃ fr' H', Into n fr H fr' H' ∧ J fr' H'
theorem To.refl {n : Nat} {fr : Fr} {H : Heap} {J : Fr → Heap → Prop} (h : J fr H) : To n fr H J :=
  ⟨fr, H, fun _ M μ _ _ R F hn => ⟨M, μ, R, F, hn, Grow.refl _ _ _ _ _⟩, h⟩

/-- A loop: an invariant that bears a number. -/
structure LoopA (n : Nat) (body : (XA → Fr → Heap → Prop) → Fr → Heap → Prop) (Q : XA → Fr → Heap → Prop) (fr : Fr) (H : Heap) : Prop where
  ex : ∃ (I : Nat → Fr → Heap → Prop) (m0 : Nat), To n fr H (I m0) ∧ ∀ m fr H, I m fr H → body (fun x fr' H' => match x with
    | .normal => ∃ m', m' < m ∧ To n fr' H' (I m')
    | x => Q x fr' H') fr H

def newK0 (H : Heap) (ab : AB) (kl : Option Nat) (K : Heap → Prop) : Prop := match H with
  | ⟨nx, bs⟩ => match kl with
    | none => K ⟨nx + 1, (nx, ab) :: bs⟩
    | some k => K ⟨nx + 1, (nx, ab) :: (k, .dead) :: bs⟩
theorem newK0_eq (H : Heap) (ab : AB) (kl : Option Nat) (K : Heap → Prop) : newK0 H ab kl K = K ((killO ⟨H.nx + 1, H.bs⟩ kl).set H.nx ab) := by cases kl <;> rfl
section
variable (P : Program)
def AOp.run (fr : Fr) (H : Heap) (K : AV → Heap → Prop) : AOp → Prop
  | .m o => o.run (AX.ev fr) H K
  | .p o => o.run (AX.ev fr) fun v => K v H
  | .v o => o.run (AX.ev fr) fun v => K v H
  | .h o => o.run (AX.ev fr) H K
  | .d o => o.run (AX.ev fr) H.get fun v => K v H
  | .l o => o.run (AX.ev fr) H.get H.get H.nx fun v ab kl => newK0 H ab kl (K v)
  | .call f args => fvs (args.map (AX.ev fr)) fun vs => CallA P f vs H K
  | .callv x args => match x.ev fr with
    | .func f caps => fvs (args.map (AX.ev fr)) fun vs => CallA P f (vs ++ caps) H K
    | .yld k => fvs (args.map (AX.ev fr)) fun vs => YieldA P k vs H K
    | _ => False
  | .nq neg x => match x.ev fr with
    | .dslice _ n _ => Unk n (K (.bool (!neg)) H) (K (.bool neg) H)
    | .nils => K (.bool (!neg)) H
    | .slice _ _ _ _ _ => K (.bool neg) H
    | _ => False

def AO.run (fr : Fr) (H : Heap) (K : Fr → Heap → Prop) (o : AO) : Prop := match o.guard with
  | none => o.op.run P fr H fun v H' => putK fr o.dst v fun fr' => K fr' H'
  | some (s, want) => match look fr s with
    | .bool b => match want with
      | true => Branch b (o.op.run P ((s, .bool true) :: fr) H fun v H' => putK ((s, .bool true) :: fr) o.dst v fun fr' => K fr' H') (putK ((s, .bool false) :: fr) o.dst (.tuple []) fun fr' => K fr' H)
      | false => Branch b (putK ((s, .bool true) :: fr) o.dst (.tuple []) fun fr' => K fr' H) (o.op.run P ((s, .bool false) :: fr) H fun v H' => putK ((s, .bool false) :: fr) o.dst v fun fr' => K fr' H')
    | .tuple [] => putK fr o.dst (.tuple []) fun fr' => K fr' H
    | _ => False

/-- (By the recursor itself: so Lean's two evaluators leave the same text behind.) -/
noncomputable def runOps (K : Fr → Heap → Prop) (l : List AO) : Fr → Heap → Prop := List.rec (motive := fun _ => Fr → Heap → Prop) K (fun o _ ih fr H => o.run P fr H ih) l

def okOp (P : Program) : Op → AOp → Bool
  | op, .m q => okM P op q
  | op, .p q => okP P op q
  | op, .v q => okVop P op q
  | op, .h q => okH P op q
  | op, .d q => okD P op q
  | op, .l q => okL P op q
  | .call { callee := .value (.func g), args, .. }, .call f args' => f == g && okXs args.toList args'
  | .call { callee := .value x, args, .. }, .callv x' args' => okX x x' && okXs args.toList args'
  | op, .nq neg x => okVop P op (.isnil false neg x (.c .nils))
  | _, _ => false
def okGuard (ops : Array Oper) : Option (Nat × Bool) → Option (Nat × Bool) → Bool
  | none, none => true
  | some (j, b), some (s, b') => b == b' && (match ops[j]? with | some o => o.dst == some s | none => false)
  | _, _ => false
def okAO (N : Nat) (ops : Array Oper) (o : Oper) (q : AO) : Bool := o.dst == q.dst && dstOk N q.dst && okGuard ops o.guard q.guard && okOp P o.op q.op
def okAOs (N : Nat) (ops : Array Oper) : List Oper → List AO → Bool
  | [], [] => true
  | o :: os, q :: qs => okAO P N ops o q && okAOs N ops os qs
  | _, _ => false
end

/-! ### Soundness -/
theorem okOp_nd {P : Program} {op : Op} {q : AOp} (h : okOp P op q = true) : ∀ c, op ≠ .defer c := by
  rintro c rfl
  cases q <;> rename_i q <;> try (simp [okOp] at h; done)
  all_goals (cases q <;> simp [okOp, okM, okP, okVop, okH, okD, okL] at h)
/-- The state of a function that is being run, since it began. -/
structure St (N n : Nat) (M0 : Mem) (μ0 : Pos) (H0 : Heap) (w0 : World) (fr : Fr) (H : Heap) (a : Act) (w : World) : Prop where
  ex : ∃ M μ, Rel M μ H w ∧ RelF N M μ fr a.tmps ∧ n ≤ H.nx ∧ Grow n M0 μ0 H0 w0 M μ H w ∧ Marks w0 a.defers μ H w

def xa : Exit → Option XA
  | .normal => some .normal
  | .exit id => some (.exit id)
  | .ret => some .ret
  | _ => none

section
variable {P : Program} {N n : Nat} {M0 : Mem} {μ0 : Pos} {H0 : Heap} {w0 : World}

/-- What is shown at the end of a piece of code. -/
def Post (N n : Nat) (M0 : Mem) (μ0 : Pos) (H0 : Heap) (w0 : World) (Q : XA → Fr → Heap → Prop) : Exit → Act → World → Prop :=
  fun e a w => ∃ x fr H, xa e = some x ∧ St N n M0 μ0 H0 w0 fr H a w ∧ Q x fr H

theorem St.step {fr : Fr} {H : Heap} {a : Act} {w : World} {M M' : Mem} {μ μ' : Pos} {H' : Heap} {w' : World} {d : Option Nat} {v : Value} {c : AV} (hd : Marks w0 a.defers μ H w) (F : RelF N M μ fr a.tmps) (hn : n ≤ H.nx)
    (G0 : Grow n M0 μ0 H0 w0 M μ H w) (R' : Rel M' μ' H' w') (hv : relV M' c μ' v) (G : Move M μ H w M' μ' H' w') (hdst : dstOk N d = true) :
    St N n M0 μ0 H0 w0 (put fr d c) H' (a.put d v) w' :=
  ⟨M', μ', R', (F.mono G.grow.mem G.le).put hdst hv, Nat.le_trans hn G.nx, G0.trans (G.grow.mono hn), by cases d <;> exact hd.step G.grow⟩

theorem sound_op {o : Oper} {q : AOp} (h : okOp P o.op q = true) {fr : Fr} {H : Heap} {a : Act} {w : World} {K : AV → Heap → Prop} {Q : Exit → Act → World → Prop} (S : St N n M0 μ0 H0 w0 fr H a w) (hdst : dstOk N o.dst = true)
    (hr : q.run P fr H K) {next : Act → World → Prop} (hnext : ∀ c H' a' w', St N n M0 μ0 H0 w0 (put fr o.dst c) H' a' w' → K c H' → next a' w') (r : Option Nat) : o.wpIn (FR r) 0 P a w next Q := by
  obtain ⟨M, μ, R, F, hn, G0, hd⟩ := S
  have nd := okOp_nd h
  have up : o.wp P a w next Q → o.wpIn (FR r) 0 P a w next Q := Oper.wpIn_of_wp nd
  have call : ∀ (f : FuncId) (vs : Array Value) (as : List AV), (execOp a.eval o).run P w = (callFunc f vs).run P w → relL M as μ vs.toList → CallA P f as H K → o.wp P a w next Q := by
    intro f vs as he hl hc
    unfold Oper.wp
    rw [he, run_callFunc hc.ok]
    simp only [Oper.upon]
    refine (hc.run M μ w vs R hl).mono ?_
    rintro e w' ⟨v, M', μ', H', c, rfl, R', hv, G, hk⟩
    exact hnext c H' _ _ (St.step hd F hn G0 R' hv G hdst) hk
  unfold okOp at h
  split at h
  · obtain ⟨nx, v, w', h1, h2, M', μ', H', c, R', hv, G, hk⟩ := mop_sound h R F hr
    refine up ?_
    have := hnext c H' _ _ (St.step (v := v) hd F hn G0 R' hv G hdst) hk
    rcases h2 with rfl | ⟨rfl, rfl⟩
    · simp only [Oper.wp, h1, Oper.upon]; exact this
    · simp only [Oper.wp, h1, Oper.upon]; exact this
  · obtain ⟨v, c, h1, h2, h3⟩ := pop_sound h F hr w
    refine up ?_
    simp only [Oper.wp, h1, Oper.upon]
    exact hnext c H _ _ (St.step hd F hn G0 R h2 (Move.refl _ _ _ _) hdst) h3
  · obtain ⟨v, c, h1, h2, h3⟩ := vop_sound h F hr w
    refine up ?_
    simp only [Oper.wp, h1, Oper.upon]
    exact hnext c H _ _ (St.step hd F hn G0 R h2 (Move.refl _ _ _ _) hdst) h3
  · obtain ⟨nx, v, w', h1, h2, M', μ', H', c, R', hv, G, hk⟩ := hop_sound h R F hr
    refine up ?_
    have := hnext c H' _ _ (St.step (v := v) hd F hn G0 R' hv G hdst) hk
    rcases h2 with rfl | ⟨rfl, rfl⟩
    · simp only [Oper.wp, h1, Oper.upon]; exact this
    · simp only [Oper.wp, h1, Oper.upon]; exact this
  · simp only [AOp.run] at hr
    obtain ⟨v, hk, ⟨u, w', M', h1, R', hv, G⟩⟩ := dop_sound h F R (Hr := H.get) (fun _ _ h => h) hr
    refine up ?_
    simp only [Oper.wp, h1, Oper.upon]
    exact hnext v H _ _ (St.step hd F hn G0 R' hv G hdst) hk
  · simp only [AOp.run, newK0_eq] at hr
    obtain ⟨v, l, kl, hk, ⟨u, w', μ', h1, R', hv, L, G, _⟩⟩ := lop_sound h F (R.room 1) (Hr := H.get) (fun _ _ h => h) (p := H.nx) (Nat.lt_succ_self _) (R.dom _ (Nat.le_refl _)) hr
    refine up ?_
    simp only [Oper.wp, h1, Oper.upon]
    have G := G H.nx (Nat.le_refl _)
    refine hnext v _ _ _ (St.step hd F hn G0 R' hv ⟨L, ⟨G.mem, G.pin, G.keep, G.own, G.fresh⟩, ?_⟩ hdst) hk
    cases kl <;> simp [killO, Heap.set]
  · rename_i g args _ f args' hop
    simp only [Bool.and_eq_true, beq_iff_eq] at h
    obtain ⟨rfl, h⟩ := h
    simp only [AOp.run, fvs_eq] at hr
    refine up (call f (args.map a.eval) _ ?_ (by simpa using rel_okXs F h) hr)
    simp only [execOp, hop, resolve, Act.eval, Deferred.ofValue, Sem.run_bind, Sem.run_pure, Result.andThen_ok, invoke, Array.empty_append, Array.append_empty]
  · rename_i x args _ x' args' hop
    simp only [Bool.and_eq_true] at h
    obtain ⟨h1, h2⟩ := h
    simp only [AOp.run] at hr
    split at hr
    · rename_i f caps hx
      simp only [fvs_eq] at hr
      have hx' := rel_okX F h1
      rw [hx] at hx'; simp only [relV] at hx'
      obtain ⟨vs, hv, hl⟩ := hx'
      refine up (call f (args.map a.eval ++ vs) _ ?_ (by simpa using relL_append (rel_okXs F h2) hl) hr)
      simp only [execOp, hop, resolve, hv, Deferred.ofValue, Sem.run_bind, Sem.run_pure, Result.andThen_ok, invoke, Array.empty_append]
    · rename_i k hx
      simp only [fvs_eq] at hr
      have hx' := rel_okX F h1
      rw [hx] at hx'; simp only [relV] at hx'
      obtain ⟨b, sz, hμ, hv⟩ := hx'
      obtain ⟨fn, tmps, assign, body, hy, hR⟩ := hr.run M μ w (args.map a.eval) R (by simpa using rel_okXs F h2) b sz hμ
      refine ⟨fun _ _ => trivial, ?_⟩
      have he : (execOp a.eval o).run P w = .ok (.round b fn tmps assign body) w := by
        simp only [execOp, hop, resolve, hv, Deferred.ofValue, Sem.run_bind, Sem.run_pure, Result.andThen_ok, invoke, Array.empty_append]
        exact hy
      rw [Oper.semAt_eq _ _ _ nd, he]
      refine ⟨fun h0 => (by cases h0), ?_⟩
      refine RoundIn.mono (R := fun e w' => ∃ v M' μ' H' c, e = .returned v ∧ Rel M' μ' H' w' ∧ relV M' c μ' v ∧ Move M μ H w M' μ' H' w' ∧ K c H') hR ?_
      rintro e w' ⟨v, M', μ', H', c, rfl, R', hv', G, hk⟩
      exact hnext c H' _ _ (St.step hd F hn G0 R' hv' G hdst) hk
    · exact hr.elim
  · rename_i neg x'
    simp only [AOp.run] at hr
    have fin : ∀ {K' : AV → Prop}, Yields1 P o a M μ K' w → (∀ c, K' c → K c H) → o.wpIn (FR r) 0 P a w next Q := by
      rintro K' ⟨v, c, h1, h2, h3⟩ hk
      refine up ?_
      simp only [Oper.wp, h1, Oper.upon]
      exact hnext c H _ _ (St.step hd F hn G0 R h2 (Move.refl _ _ _ _) hdst) (hk _ h3)
    split at hr
    · rename_i cs n cap hx
      exact fin (K' := fun c => K c H) (nq_sound h F hx hr.nil hr.some w) fun _ h => h
    · rename_i hx
      exact fin (K' := fun c => K c H) (vop_sound h F (show VOp.run (AX.ev fr) _ (.isnil false neg x' (.c .nils)) by simp only [VOp.run]; rw [hx]; exact hr) w) fun _ h => h
    · rename_i hx
      exact fin (K' := fun c => K c H) (vop_sound h F (show VOp.run (AX.ev fr) _ (.isnil false neg x' (.c .nils)) by simp only [VOp.run]; rw [hx]; exact hr) w) fun _ h => h
    · exact hr.elim
  · cases h

theorem St.know {fr : Fr} {H : Heap} {a : Act} {w : World} {s : Nat} {b b' : Bool} (S : St N n M0 μ0 H0 w0 fr H a w) (h : look fr s = .bool b) (hb : b = b') : St N n M0 μ0 H0 w0 ((s, .bool b') :: fr) H a w := by
  obtain ⟨M, μ, R, F, hn, G0, hd⟩ := S
  refine ⟨M, μ, R, ⟨F.glob, F.size, fun t => ?_⟩, hn, G0, hd⟩
  simp only [look]
  by_cases ht : s = t
  · subst ht; subst hb
    have := F.slot s
    rw [h] at this
    simpa using this
  · rw [beq_false ht]; exact F.slot t

theorem wanted_none {o : Oper} (h : o.guard = none) (y : Nat → Option Bool) : Region.wanted o y = true := by simp [Region.wanted, h]

theorem relV_undef {M : Mem} {μ : Pos} : relV M (.tuple []) μ undef := by simp only [relV]; exact ⟨#[], rfl, by simp [relL]⟩
theorem undef_yields {ops : Array Oper} {M : Mem} {μ : Pos} {fr : Fr} {tmps : Array Value} {s : Nat} {want : Bool} {o : Oper} (F : RelF N M μ fr tmps) (hs : look fr s = .tuple []) (h : okGuard ops o.guard (some (s, want)) = true) : Region.wanted o (yielded ops tmps) = false := by
  cases hgo : o.guard with
  | none => simp [hgo, okGuard] at h
  | some x =>
    obtain ⟨j, b'⟩ := x
    simp only [hgo, okGuard, Bool.and_eq_true, beq_iff_eq] at h
    obtain ⟨rfl, h⟩ := h
    split at h
    · rename_i oj hoj
      simp at h
      have := F.slot s
      rw [hs] at this
      simp only [relV] at this
      obtain ⟨vs, hv, hl⟩ := this
      have hy : yielded ops tmps j = none := by
        simp only [yielded, hoj, Option.bind_some, h]
        rw [Array.getD_eq_getD_getElem?] at hv
        cases hq : tmps[s]? with
        | none => rfl
        | some u => rw [hq] at hv; simp at hv; rw [hv]
      simp only [Region.wanted, hgo, hy]
      cases b' <;> rfl
    · cases h

theorem sound_AO {ops : Array Oper} {o : Oper} {q : AO} (h : okAO P N ops o q = true) {fr : Fr} {H : Heap} {a : Act} {w : World} {K : Fr → Heap → Prop} {Q : Exit → Act → World → Prop} (S : St N n M0 μ0 H0 w0 fr H a w)
    (hr : q.run P fr H K) {next : Act → World → Prop} (hnext : ∀ fr' H' a' w', St N n M0 μ0 H0 w0 fr' H' a' w' → K fr' H' → next a' w') (r : Option Nat) :
    if Region.wanted o (yielded ops a.tmps) then o.wpIn (FR r) 0 P a w next Q else (∀ f, o.about P w a.eval = some f → (FR r).fn f) ∧ next (a.put o.dst undef) w := by
  simp only [okAO, Bool.and_eq_true, beq_iff_eq] at h
  obtain ⟨⟨⟨h1, h2⟩, h3⟩, h4⟩ := h
  rw [← h1] at h2
  have skip : ∀ fr', St N n M0 μ0 H0 w0 fr' H a w → K (put fr' q.dst (.tuple [])) H → (∀ f, o.about P w a.eval = some f → (FR r).fn f) ∧ next (a.put o.dst undef) w := fun fr' S hk => by
    obtain ⟨M, μ, R, F, hn, G0, hd⟩ := S
    refine ⟨fun _ _ => trivial, ?_⟩
    rw [← h1] at hk
    exact hnext _ _ _ _ (St.step hd F hn G0 R (c := .tuple []) relV_undef (Move.refl _ _ _ _) h2) hk
  have go : ∀ fr', St N n M0 μ0 H0 w0 fr' H a w → (q.op.run P fr' H fun v H' => K (put fr' q.dst v) H') → o.wpIn (FR r) 0 P a w next Q := fun fr' S hk => by
    rw [← h1] at hk
    exact sound_op h4 S h2 hk (fun c H' a' w' S' hk' => hnext _ _ _ _ S' hk') r
  unfold AO.run at hr
  simp only [putK_eq] at hr
  split at hr
  · rename_i hg
    rw [hg] at h3
    have : o.guard = none := by
      cases hgo : o.guard with
      | none => rfl
      | some x => obtain ⟨j, b⟩ := x; simp [hgo, okGuard] at h3
    rw [if_pos (wanted_none this _)]
    exact go fr S hr
  · rename_i s want hg
    split at hr
    · rename_i b hb
      have hy : ∃ j, o.guard = some (j, want) ∧ yielded ops a.tmps j = some b := by
        cases hgo : o.guard with
        | none => simp [hgo, hg, okGuard] at h3
        | some x =>
          obtain ⟨j, b'⟩ := x
          simp only [hgo, hg, okGuard, Bool.and_eq_true, beq_iff_eq] at h3
          obtain ⟨rfl, h3⟩ := h3
          refine ⟨j, rfl, ?_⟩
          split at h3
          · rename_i oj hoj
            simp at h3
            obtain ⟨M, μ, R, F, hn, G0, hd⟩ := S
            have := F.slot s
            rw [hb] at this
            have := rel_bool this
            simp only [yielded, hoj, Option.bind_some, h3]
            have hs : a.tmps[s]? = some (.bool b) := by
              rw [Array.getD_eq_getD_getElem?] at this
              cases hq : a.tmps[s]? with
              | none => rw [hq] at this; simp [undef] at this
              | some u => rw [hq] at this; simp at this; rw [this]
            rw [hs]
          · cases h3
      obtain ⟨j, hgj, hyj⟩ := hy
      have hw : Region.wanted o (yielded ops a.tmps) = (b == want) := by
        simp only [Region.wanted, hgj, hyj]
        cases b <;> cases want <;> rfl
      rw [hw]
      cases want with
      | true =>
        simp only at hr
        cases b with
        | true => rw [if_pos (by simp)]; exact go _ (S.know hb rfl) (hr.yes rfl)
        | false => rw [if_neg (by simp)]; exact skip _ (S.know hb rfl) (hr.no rfl)
      | false =>
        simp only at hr
        cases b with
        | true => rw [if_neg (by simp)]; exact skip _ (S.know hb rfl) (hr.yes rfl)
        | false => rw [if_pos (by simp)]; exact go _ (S.know hb rfl) (hr.no rfl)
    · rename_i hs
      obtain ⟨M, μ, R, F, _⟩ := S.ex
      rw [undef_yields F hs (by rw [← hg]; exact h3)]
      simp only [Bool.false_eq_true, if_false]
      exact skip fr S hr
    · exact hr.elim

theorem sound_ops {ops : Array Oper} {Q : Exit → Act → World → Prop} {K : Fr → Heap → Prop} (r : Option Nat) : ∀ {l : List Oper} {qs : List AO}, okAOs P N ops l qs = true → ∀ {fr : Fr} {H : Heap} {a : Act} {w : World}, St N n M0 μ0 H0 w0 fr H a w → runOps P K qs fr H →
    (∀ fr' H' a' w', St N n M0 μ0 H0 w0 fr' H' a' w' → K fr' H' → Q .normal a' w') → wpListIn (FR r) 0 P ops Q l a w
  | [], [], _, fr, H, a, w, S, hr, hq => hq _ _ _ _ S hr
  | o :: l, q :: qs, h, fr, H, a, w, S, hr, hq => by
    simp only [okAOs, Bool.and_eq_true] at h
    refine wpListIn_step fun K' hK => ?_
    exact sound_AO h.1 S hr (fun fr' H' a' w' S' hr' => hK _ _ (sound_ops r h.2 S' hr' hq)) r
  | [], _ :: _, h, _, _, _, _, _, _, _ => by simp [okAOs] at h
  | _ :: _, [], h, _, _, _, _, _, _, _ => by simp [okAOs] at h

end
end Go.Eng

namespace Go.Eng
open Go

variable [Globs]
/-! ### A function of data alone, called from anywhere -/
/-- The heap is still there after a call that owned none of it. -/
theorem Rel.frame {M M' : Mem} {μ : Pos} {H : Heap} {w w' : World} (R : Rel M μ H w) (hM : Mem.le M M') (himm : ∀ b o v, M' b o = some v → w'.cell? ⟨b, o, none⟩ = some v)
    (hfresh : ∀ b o v, M' b o = some v → M b o = some v ∨ w.heap.size ≤ b) (hkeep : ∀ b, b < w.heap.size → w'.heap[b]? = w.heap[b]?) : Rel M' μ H w' := by
  have lt : ∀ {k b s}, H.get k ≠ .dead → μ k = some (b, s) → b < w.heap.size := fun hk hμ => R.own_lt ⟨_, _, hk, hμ⟩
  refine ⟨R.glob.mono hM, R.dom, R.top, fun k cs hk => ?_, fun k es hk => ?_, R.walks_same hM (fun _ _ _ _ h => ⟨h, fun h => h⟩) (Pos.le_refl _) (fun b hb _ => hkeep b hb), R.recs_same hM (fun _ _ _ _ h => h) (Pos.le_refl _) (fun b hb _ => hkeep b hb), R.inj, himm, fun k b s hk hμ o => ?_⟩
  · obtain ⟨b, sz, c, el, fz, h1, h2, h3, h4, h5⟩ := R.cells k cs hk
    exact ⟨b, sz, c, el, fz, h1, by rw [hkeep b (lt (by rw [hk]; simp) h1)]; exact h2, h3, h4, relP_mono hM (Pos.le_refl _) cs h5⟩
  · obtain ⟨b, sz, ents, clock, h1, h2, h3, h4⟩ := R.maps k es hk
    refine ⟨b, sz, ents, clock, h1, by rw [hkeep b (lt (by rw [hk]; simp) h1)]; exact h2, ?_, h4⟩
    have : ∀ {es : List (AV × AV)} {ents : List MapEntry}, relE M es ents → relE M' es ents := by
      intro es
      induction es with
      | nil => intro ents h; exact h
      | cons x r ih => intro ents h; obtain ⟨e, t, h1, h2, h3, h4⟩ := h; exact ⟨e, t, h1, relV_mono hM _ (Pos.le_refl _) h2, relV_mono hM _ (Pos.le_refl _) h3, ih h4⟩
    exact this h3
  · cases hm : M' b o with
    | none => rfl
    | some v =>
      rcases hfresh b o v hm with h | h
      · rw [R.apart k b s hk hμ o] at h; cases h
      · have := lt hk hμ; omega

/-- **A contract of a function of data serves in every heap.** -/
theorem CallA.pure {P : Program} {f : FuncId} {args : List AV} {r : AV} (h : CallA P f args Heap.nil fun v H' => v = r ∧ H' = Heap.nil) (ha : noLocL args = true) (hr : noLoc r = true) {H : Heap} {K : AV → Heap → Prop} (hk : K r H) : CallA P f args H K := by
  refine ⟨h.ok, fun M μ w vs R hv => (h.run M Pos.none w vs R.nil (relL_data args ha hv)).mono ?_⟩
  rintro e w' ⟨v, M', μ', H', c, rfl, R', hv', G, rfl, rfl⟩
  have hfresh : ∀ b o u, M' b o = some u → M b o = some u ∨ w.heap.size ≤ b := fun b o u hm => by
    rcases G.grow.fresh b o u hm with h | h | h
    · exact .inl h
    · exact absurd h own_nil
    · exact .inr h
  refine ⟨v, M', μ, H, c, rfl, R.frame G.grow.mem R'.imm hfresh (fun b hb => G.grow.keep.block b hb own_nil), relV_data c hr hv', ⟨Pos.le_refl _, ⟨G.grow.mem, fun _ _ => rfl, ⟨G.grow.keep.os, G.grow.keep.tape, G.grow.keep.output, G.grow.keep.size, fun b hb _ => G.grow.keep.block b hb own_nil⟩, fun b hb => .inl hb, fun b o u hm => ?_⟩, Nat.le_refl _⟩, hk⟩
  rcases hfresh b o u hm with h | h
  · exact .inl h
  · exact .inr (.inr h)
end Go.Eng

namespace Go.Eng
open Go

variable [Globs]
theorem binI_det {op : BinOp} {i j : Int} {K : AV → Prop} (h : binI op i j K) : ∃ c, K c ∧ binI op i j (fun x => x = c) := by
  cases op <;> simp only [binI] at h ⊢
  case add => exact ⟨_, h.r, h.l, rfl⟩
  case sub => exact ⟨_, h.r, h.l, rfl⟩
  case mul => exact ⟨_, h.r, h.l, rfl⟩
  case quo => exact ⟨_, h.r, h.l, rfl⟩
  case rem => exact ⟨_, h.r, h.l, rfl⟩
  all_goals exact ⟨_, h, rfl⟩
theorem binW_det {op : BinOp} {k : IntKind} {i j : Int} {K : AV → Prop} (h : binW op k i j K) : ∃ c, K c ∧ binW op k i j (fun x => x = c) := by
  cases op <;> simp only [binW] at h ⊢
  case quo => exact ⟨_, h.r, h.l, rfl⟩
  case rem => exact ⟨_, h.r, h.l, rfl⟩
  all_goals exact ⟨_, h, rfl⟩
theorem Branch.det {α : Type} {t : Bool} {A B : (α → Prop) → Prop} {K : α → Prop} (h : Branch t (A K) (B K)) (ha : A K → ∃ c, K c ∧ A (fun x => x = c)) (hb : B K → ∃ c, K c ∧ B (fun x => x = c)) :
    ∃ c, K c ∧ Branch t (A (fun x => x = c)) (B (fun x => x = c)) := by
  cases t with
  | true => obtain ⟨c, h1, h2⟩ := ha (h.yes rfl); exact ⟨c, h1, .ofT rfl h2⟩
  | false => obtain ⟨c, h1, h2⟩ := hb (h.no rfl); exact ⟨c, h1, .ofF rfl h2⟩

theorem POp.det {ev : AX → AV} {K : AV → Prop} {p : POp} (h : p.run ev K) : ∃ c, K c ∧ p.run ev (fun x => x = c) := by
  cases p with
  | mov x => simp only [POp.run, fv_eq] at h ⊢; exact ⟨_, h, rfl⟩
  | pick c a b =>
    simp only [POp.run, fv_eq] at h ⊢
    split at h
    · exact Branch.det (A := fun K => K (ev a)) (B := fun K => K (ev b)) h (fun h => ⟨_, h, rfl⟩) (fun h => ⟨_, h, rfl⟩)
    · exact h.elim
  | bin op x y =>
    simp only [POp.run] at h ⊢
    split at h
    · exact binI_det h
    · cases op <;> first | exact ⟨_, h, rfl⟩ | exact h.elim
    · exact h.elim
  | beq neg x y =>
    simp only [POp.run] at h ⊢
    split at h
    · exact ⟨_, h, rfl⟩
    · exact h.elim
  | binw op x y =>
    simp only [POp.run] at h ⊢
    split at h
    · cases op <;> first | exact ⟨_, h.r, h.l, rfl⟩ | (obtain ⟨c, h1, h2⟩ := binW_det h.r; exact ⟨c, h1, h.l, h2⟩)
    · exact h.elim
  | un op x =>
    simp only [POp.run] at h ⊢
    split at h
    · exact ⟨_, h, rfl⟩
    · exact ⟨_, h.r, h.l, rfl⟩
    · exact ⟨_, h, rfl⟩
    · exact h.elim
  | conv k x =>
    simp only [POp.run] at h ⊢
    split at h
    · exact ⟨_, h.r, h.l, rfl⟩
    · exact h.elim
  | convw k x =>
    simp only [POp.run] at h ⊢
    split at h
    · exact ⟨_, h, rfl⟩
    · exact h.elim
  | fieldA off x =>
    simp only [POp.run] at h ⊢
    split at h
    · exact ⟨_, h, rfl⟩
    · exact ⟨_, h, rfl⟩
    · exact h.elim
  | idxA e arr x i =>
    simp only [POp.run] at h ⊢
    split at h
    · split at h
      · exact ⟨_, h.r, h.l, rfl⟩
      · exact ⟨_, h.r, h.l, rfl⟩
      · exact ⟨_, h.r, h.l, rfl⟩
      · exact ⟨_, h.r, h.l, rfl⟩
      · exact h.elim
    · exact h.elim
  | len str x =>
    simp only [POp.run] at h ⊢
    split at h
    · exact ⟨_, h, rfl⟩
    · exact ⟨_, h, rfl⟩
    · exact ⟨_, h, rfl⟩
    · exact ⟨_, h, rfl⟩
    · exact h.elim
  | extract i x =>
    simp only [POp.run, fv_eq] at h ⊢
    split at h
    · split at h
      · exact ⟨_, h, rfl⟩
      · exact h.elim
    · exact h.elim
  | mkfn f caps => simp only [POp.run, fvs_eq] at h ⊢; exact ⟨_, h, rfl⟩
  | nilchk x =>
    simp only [POp.run] at h ⊢
    split at h
    · exact ⟨_, h, rfl⟩
    · exact ⟨_, h, rfl⟩
    · exact ⟨_, h, rfl⟩
    · exact h.elim
  | mm mx x y =>
    simp only [POp.run] at h ⊢
    split at h
    · exact ⟨_, h, rfl⟩
    · exact h.elim
  | other => simp only [POp.run] at h ⊢; exact ⟨_, h, rfl⟩
  | panic => simp only [POp.run] at h
end Go.Eng

namespace Go.Eng
open Go

variable [Globs]
def AV.at : AV → List Nat
  | .ptr k _ => [k]
  | .slice k _ _ _ _ => [k]
  | .map k => [k]
  | _ => []
def DOp.foot (ev : AX → AV) : DOp → List Nat
  | .asub _ _ x _ _ => (ev x).at
  | .sl2s x => (ev x).at
  | _ => []
def LOp.foot (ev : AX → AV) : LOp → List Nat
  | .append _ _ s x => (ev s).at ++ (ev x).at
  | .appendS _ s _ => (ev s).at
  | .appendF _ _ s x => (ev s).at ++ (ev x).at
  | _ => []
section
variable {ev ev' : AX → AV} {Hr : Nat → AB}
theorem buildK_mono : ∀ {parts : List (Nat × Nat × AX)} {cs : List AV} {K K' : List AV → Prop}, (∀ b, K b → K' b) → buildK ev parts cs K → buildK ev parts cs K' := by
  intro parts
  induction parts with
  | nil => intro cs K K' hk h; exact hk _ h
  | cons q r ih =>
    intro cs K K' hk h
    obtain ⟨off, sz, x⟩ := q
    simp only [buildK] at h ⊢
    split at h
    · cases hn : Nat.beq _ sz with
      | false => simp [hn] at h
      | true =>
        simp only [hn, cond_true] at h ⊢
        obtain ⟨e1, e2, e3⟩ := lputK_spec h
        exact lputK_eq e1 e2 (ih hk e3)
    · exact h.elim
theorem DOp.det {K : AV → Prop} {o : DOp} (h : o.run ev Hr K) : ∃ c, K c ∧ o.run ev Hr (fun x => x = c) := by
  cases o with
  | bslice e len zero parts =>
    simp only [DOp.run] at h ⊢
    obtain ⟨ds, h1, h2⟩ := buildK_det h
    cases hn : noLocB ds with
    | false => simp [hn] at h1
    | true =>
      simp only [hn, cond_true] at h1
      exact ⟨_, h1, buildK_mono (fun b hb => by subst hb; simp [hn]) h2⟩
  | append e bytes s x =>
    simp only [DOp.run] at h ⊢
    split at h
    · exact ⟨_, h.r, h.l, rfl⟩
    · exact ⟨_, h.r, h.l, rfl⟩
    · exact ⟨_, h.r, h.l, rfl⟩
    · exact h.elim
  | asub e n x lo hi =>
    simp only [DOp.run, optI_iff] at h ⊢
    split at h
    · split at h
      · obtain ⟨l, hl, q, hq, h⟩ := h
        exact ⟨_, h.r, l, hl, q, hq, h.l, rfl⟩
      · exact h.elim
    · obtain ⟨l, hl, q, hq, h⟩ := h
      exact ⟨_, h.r, l, hl, q, hq, h.l, rfl⟩
    · exact h.elim
  | sl2s x =>
    simp only [DOp.run] at h ⊢
    obtain ⟨ds, n, h1, h2⟩ := srcK_det h
    obtain ⟨s, h3, h4⟩ := h1.det
    exact ⟨_, h3, srcK_mono (fun _ _ ⟨e1, e2⟩ => by subst e1; subst e2; obtain ⟨l, q1, q2⟩ := h4.ex; exact ⟨l, q1, by rw [q2]⟩) h2⟩
def DOp.xs : DOp → List AX
  | .bslice _ _ _ parts => parts.map (·.2)
  | .append _ _ s x => [s, x]
  | .asub _ _ x lo hi => x :: (lo.toList ++ hi.toList)
  | .sl2s x => [x]
theorem DOp.run_congr {K : AV → Prop} {o : DOp} (h : ∀ x ∈ o.xs, ev x = ev' x) : o.run ev Hr K = o.run ev' Hr K := by
  cases o with
  | bslice e len zero parts =>
    simp only [DOp.run]
    exact buildK_congr (by simpa [DOp.xs, List.map_map] using h)
  | append e bytes s x => simp only [DOp.xs, List.mem_cons, List.not_mem_nil, or_false] at h; simp only [DOp.run, h s (.inl rfl), h x (.inr rfl)]
  | asub e n x lo hi =>
    simp only [DOp.xs, List.mem_cons, List.mem_append] at h
    simp only [DOp.run, h x (.inl rfl), optI_congr (x := lo) (fun y hy => h y (.inr (.inl hy))), optI_congr (x := hi) (fun y hy => h y (.inr (.inr hy)))]
  | sl2s x => simp only [DOp.xs, List.mem_singleton, forall_eq] at h; simp only [DOp.run, h]

def LOp.xs : LOp → List AX
  | .bslice _ _ _ parts => parts.map (·.2)
  | .append _ _ s x => [s, x]
  | .make _ _ _ n => [n]
  | .appendS _ s x => [s, x]
  | .appendF _ _ s x => [s, x]
variable {cur : Nat → AB} {p : Nat}
theorem appN_det {K : AV → AB → Option Nat → Prop} {e bytes : Nat} {sv xv : AV} (h : appN cur Hr p e bytes sv xv K) : ∃ v l kl, K v l kl ∧ (∀ k, kl = some k → cur k ≠ .dead ∧ k ∈ AV.at sv) ∧ appN cur Hr p e bytes sv xv (fun v' l' kl' => v' = v ∧ l' = l ∧ kl' = kl) := by
  have two : ∀ {n : Nat} {A B : (AV → AB → Option Nat → Prop) → Prop}, Branch (decide (n = 0)) (A K) (B K) → (A K → ∃ v l kl, K v l kl ∧ kl = none ∧ A (fun v' l' kl' => v' = v ∧ l' = l ∧ kl' = kl)) → (B K → ∃ v l kl, K v l kl ∧ kl = none ∧ B (fun v' l' kl' => v' = v ∧ l' = l ∧ kl' = kl)) →
      ∃ v l kl, K v l kl ∧ kl = none ∧ Branch (decide (n = 0)) (A (fun v' l' kl' => v' = v ∧ l' = l ∧ kl' = kl)) (B (fun v' l' kl' => v' = v ∧ l' = l ∧ kl' = kl)) := by
    intro n A B h ha hb
    by_cases hn : n = 0
    · obtain ⟨v, l, kl, h1, h2, h3⟩ := ha (h.yes (by simpa using hn))
      exact ⟨v, l, kl, h1, h2, .ofT (by simpa using hn) h3⟩
    · obtain ⟨v, l, kl, h1, h2, h3⟩ := hb (h.no (by simpa using hn))
      exact ⟨v, l, kl, h1, h2, .ofF (by simpa using hn) h3⟩
  unfold appN at h ⊢
  split at h
  · simp only [appK] at h ⊢
    split at h
    · rename_i cs hcs
      obtain ⟨ds, n, h1, h2⟩ := srcK_det h
      exact ⟨_, _, _, h1.r, fun k' hk' => (by cases hk'; exact ⟨by rw [hcs]; simp, by simp [AV.at]⟩), srcK_mono (fun _ _ ⟨e1, e2⟩ => by subst e1; subst e2; exact ⟨h1.l, rfl, rfl, rfl⟩) h2⟩
    · exact h.elim
  · rename_i cs len cap
    obtain ⟨ds, n, h1, h2⟩ := srcK_det h
    obtain ⟨v, l, kl, g1, g2, g3⟩ := two (A := fun K => K (.dslice cs len cap) .dead none) (B := fun K => Side (cap = some len ∧ len * e ≤ cs.length ∧ fits (len + n) bytes ∧ ∀ c ∈ ds, scal c = true) (K (.slice p 0 (len + n) none e) (.cells (cs.take (len * e) ++ ds)) none)) h1
      (fun h => ⟨_, _, _, h, rfl, rfl, rfl, rfl⟩) (fun h => ⟨_, _, _, h.r, rfl, h.l, rfl, rfl, rfl⟩)
    exact ⟨v, l, kl, g1, fun k hk => (by rw [g2] at hk; cases hk), srcK_mono (fun _ _ ⟨e1, e2⟩ => by subst e1; subst e2; exact g3) h2⟩
  · obtain ⟨ds, n, h1, h2⟩ := srcK_det h
    obtain ⟨v, l, kl, g1, g2, g3⟩ := two (A := fun K => K .nils .dead none) (B := fun K => Side (fits n bytes ∧ ∀ c ∈ ds, scal c = true) (K (.slice p 0 n none e) (.cells ds) none)) h1
      (fun h => ⟨_, _, _, h, rfl, rfl, rfl, rfl⟩) (fun h => ⟨_, _, _, h.r, rfl, h.l, rfl, rfl, rfl⟩)
    exact ⟨v, l, kl, g1, fun k hk => (by rw [g2] at hk; cases hk), srcK_mono (fun _ _ ⟨e1, e2⟩ => by subst e1; subst e2; exact g3) h2⟩
  · exact h.elim
theorem appF_det {K : AV → AB → Option Nat → Prop} {e bytes : Nat} {sv xv : AV} (h : appF cur Hr p e bytes sv xv K) : ∃ v l, K v (.cells l) none ∧ appF cur Hr p e bytes sv xv (fun v' l' kl' => v' = v ∧ l' = .cells l ∧ kl' = none) := by
  unfold appF at h ⊢
  split at h
  · split at h
    · rename_i cs hcs
      obtain ⟨ds, n, h1, h2⟩ := srcK_det h
      simp only [hcs]
      exact ⟨_, _, h1.r, srcK_mono (fun _ _ ⟨e1, e2⟩ => by subst e1; subst e2; exact ⟨h1.l, by simp⟩) h2⟩
    · exact h.elim
  · exact h.elim
theorem LOp.det {K : AV → AB → Option Nat → Prop} {o : LOp} (h : o.run ev cur Hr p K) : ∃ v l kl, K v l kl ∧ (∀ k, kl = some k → cur k ≠ .dead ∧ k ∈ o.foot ev) ∧ o.run ev cur Hr p (fun v' l' kl' => v' = v ∧ l' = l ∧ kl' = kl) := by
  cases o with
  | bslice e len zero parts =>
    simp only [LOp.run] at h ⊢
    obtain ⟨ds, h1, h2⟩ := buildK_det h
    exact ⟨_, _, _, h1, fun k h => (by cases h), buildK_mono (fun b hb => by subst hb; exact ⟨rfl, rfl, rfl⟩) h2⟩
  | append e bytes s x =>
    simp only [LOp.run] at h ⊢
    obtain ⟨v, l, kl, h1, h2, h3⟩ := appN_det h
    exact ⟨v, l, kl, h1, fun k hk => ⟨(h2 k hk).1, by simp only [LOp.foot]; exact List.mem_append_left _ (h2 k hk).2⟩, h3⟩
  | appendS bytes s x =>
    simp only [LOp.run] at h ⊢
    obtain ⟨v, l, kl, h1, h2, h3⟩ := appN_det h
    exact ⟨v, l, kl, h1, fun k hk => ⟨(h2 k hk).1, by simp only [LOp.foot]; exact (h2 k hk).2⟩, h3⟩
  | appendF e bytes s x =>
    simp only [LOp.run] at h ⊢
    obtain ⟨v, l, h1, h2⟩ := appF_det h
    exact ⟨v, _, none, h1, fun k h => (by cases h), h2⟩
  | make e bytes zero n =>
    simp only [LOp.run] at h ⊢
    split at h
    · exact ⟨_, _, _, h.r, fun k h => (by cases h), h.l, rfl, rfl, rfl⟩
    · exact h.elim
theorem LOp.run_congr {K : AV → AB → Option Nat → Prop} {o : LOp} (h : ∀ x ∈ o.xs, ev x = ev' x) : o.run ev cur Hr p K = o.run ev' cur Hr p K := by
  cases o with
  | bslice e len zero parts =>
    simp only [LOp.run]
    exact buildK_congr (by simpa [LOp.xs, List.map_map] using h)
  | append e bytes s x => simp only [LOp.xs, List.mem_cons, List.not_mem_nil, or_false] at h; simp only [LOp.run, h s (.inl rfl), h x (.inr rfl)]
  | make e bytes zero n => simp only [LOp.xs, List.mem_singleton, forall_eq] at h; simp only [LOp.run, h]
  | appendS bytes s x => simp only [LOp.xs, List.mem_cons, List.not_mem_nil, or_false] at h; simp only [LOp.run, h s (.inl rfl), h x (.inr rfl)]
  | appendF e bytes s x => simp only [LOp.xs, List.mem_cons, List.not_mem_nil, or_false] at h; simp only [LOp.run, h s (.inl rfl), h x (.inr rfl)]
theorem appN_mono {K K' : AV → AB → Option Nat → Prop} {e bytes : Nat} {sv xv : AV} (hk : ∀ a b c, K a b c → K' a b c) (h : appN cur Hr p e bytes sv xv K) : appN cur Hr p e bytes sv xv K' := by
  unfold appN at h ⊢
  split at h
  · simp only [appK] at h ⊢
    split at h
    · exact srcK_mono (fun _ _ h => ⟨h.l, hk _ _ _ h.r⟩) h
    · exact h.elim
  · exact srcK_mono (fun _ _ h => ⟨fun e => hk _ _ _ (h.yes e), fun e => ⟨(h.no e).l, hk _ _ _ (h.no e).r⟩⟩) h
  · exact srcK_mono (fun _ _ h => ⟨fun e => hk _ _ _ (h.yes e), fun e => ⟨(h.no e).l, hk _ _ _ (h.no e).r⟩⟩) h
  · exact h.elim
theorem LOp.mono {K K' : AV → AB → Option Nat → Prop} {o : LOp} (hk : ∀ a b c, K a b c → K' a b c) (h : o.run ev cur Hr p K) : o.run ev cur Hr p K' := by
  cases o with
  | bslice e len zero parts => exact buildK_mono (fun _ h => hk _ _ _ h) h
  | append e bytes s x => simp only [LOp.run] at h ⊢; exact appN_mono hk h
  | appendS bytes s x => simp only [LOp.run] at h ⊢; exact appN_mono hk h
  | appendF e bytes s x =>
    simp only [LOp.run, appF] at h ⊢
    split at h
    · split at h
      · exact srcK_mono (fun _ _ h => ⟨h.l, hk _ _ _ h.r⟩) h
      · exact h.elim
    · exact h.elim
  | make e bytes zero n =>
    simp only [LOp.run] at h ⊢
    split at h
    · exact ⟨h.l, hk _ _ _ h.r⟩
    · exact h.elim
theorem srcK_local {η η' : Nat → AB} {e : Nat} {x : AV} {K : List AV → Nat → Prop} (h : ∀ k ∈ AV.at x, η k = η' k) : srcK η e x K = srcK η' e x K := by
  unfold srcK
  split
  · rfl
  · rfl
  · rw [h _ (by simp [AV.at])]
  · rfl
theorem DOp.local {η η' : Nat → AB} {K : AV → Prop} {o : DOp} (h : ∀ k ∈ o.foot ev, η k = η' k) : o.run ev η K = o.run ev η' K := by
  cases o with
  | asub e n x lo hi =>
    simp only [DOp.run]
    split
    · rename_i hx; rw [h _ (by simp [DOp.foot, hx, AV.at])]
    · rfl
    · rfl
  | sl2s x => simp only [DOp.run]; exact srcK_local h
  | _ => rfl
theorem appN_local {η η' : Nat → AB} {K : AV → AB → Option Nat → Prop} {e bytes : Nat} {sv xv : AV} (h1 : ∀ k ∈ AV.at sv, η k = η' k) (h2 : ∀ k ∈ AV.at xv, η k = η' k) : appN η η p e bytes sv xv K = appN η' η' p e bytes sv xv K := by
  have hx : ∀ {K : List AV → Nat → Prop}, srcK η e xv K = srcK η' e xv K := fun {K} => srcK_local h2
  unfold appN
  split
  · simp only [appK]
    rw [h1 _ (by simp [AV.at])]
    simp only [hx]
  · simp only [hx]
  · simp only [hx]
  · rfl
theorem LOp.local {η η' : Nat → AB} {K : AV → AB → Option Nat → Prop} {o : LOp} (h : ∀ k ∈ o.foot ev, η k = η' k) : o.run ev η η p K = o.run ev η' η' p K := by
  cases o with
  | append e bytes s x =>
    have h : ∀ k ∈ AV.at (ev s) ++ AV.at (ev x), η k = η' k := h
    simp only [LOp.run]
    exact appN_local (fun k hk => h k (List.mem_append_left _ hk)) fun k hk => h k (List.mem_append_right _ hk)
  | appendS bytes s x =>
    have h : ∀ k ∈ AV.at (ev s), η k = η' k := h
    simp only [LOp.run]
    exact appN_local h fun k hk => by unfold strD at hk; split at hk <;> simp [AV.at] at hk
  | appendF e bytes s x =>
    have h : ∀ k ∈ AV.at (ev s) ++ AV.at (ev x), η k = η' k := h
    have hx : ∀ {K : List AV → Nat → Prop}, srcK η e (ev x) K = srcK η' e (ev x) K := fun {K} => srcK_local fun k hk => h k (List.mem_append_right _ hk)
    simp only [LOp.run, appF]
    split
    · rename_i hs
      rw [h _ (by rw [hs]; simp [AV.at])]
      simp only [hx]
    · rfl
  | bslice e len zero parts => rfl
  | make e bytes zero n => rfl
end
end Go.Eng

namespace Go.Eng
open Go

variable [Globs]
section
variable {M : Mem} {μ μ' : Pos}
theorem relP_data : ∀ (cs : List AV) {vs : List Value}, (∀ c ∈ cs, noLoc c = true) → relP M μ cs vs → relP M μ' cs vs
  | [], _, _, _ => trivial
  | c :: cs, _, hn, h => by
    obtain ⟨v, r, h1, h2, h3⟩ := h
    exact ⟨v, r, h1, relV_data c (hn c (by simp)) h2, relP_data cs (fun x hx => hn x (by simp [hx])) h3⟩
end
/-! ### An owned block becomes data -/
mutual
def pubV (k : Nat) (ds : List AV) : AV → AV
  | .ptr j o => bif Nat.beq j k then .dptr (ds.drop o) else .ptr j o
  | .slice j o l c e => bif Nat.beq j k then .dslice ((ds.drop o).take (l * e)) l c else .slice j o l c e
  | .func g cs => .func g (pubL k ds cs)
  | .agg cs => .agg (pubL k ds cs)
  | .tuple cs => .tuple (pubL k ds cs)
  | c => c
def pubL (k : Nat) (ds : List AV) : List AV → List AV
  | [] => []
  | c :: cs => pubV k ds c :: pubL k ds cs
end
def pubB (k : Nat) (ds : List AV) : AB → AB
  | .cells cs => .cells (pubL k ds cs)
  | b => b
def pubBs (k : Nat) (ds : List AV) : List (Nat × AB) → List (Nat × AB)
  | [] => []
  | (j, b) :: r => (j, pubB k ds b) :: pubBs k ds r
def pubH (k : Nat) (ds : List AV) (H : Heap) : Heap := Heap.set ⟨H.nx, pubBs k ds H.bs⟩ k .dead
def pubF (k : Nat) (ds : List AV) (fr : Fr) : List Nat → Fr
  | [] => []
  | t :: r => (t, pubV k ds (look fr t)) :: pubF k ds fr r
theorem pubBs_get {k : Nat} {ds : List AV} (j : Nat) : ∀ bs : List (Nat × AB), bget (pubBs k ds bs) j = pubB k ds (bget bs j)
  | [] => rfl
  | (i, b) :: r => by
    simp only [pubBs, bget]
    cases Nat.beq i j with
    | true => rfl
    | false => exact pubBs_get j r
theorem pubH_get {k : Nat} {ds : List AV} (H : Heap) (j : Nat) : (pubH k ds H).get j = if k = j then .dead else pubB k ds (H.get j) := by
  simp only [pubH, Heap.get_set]
  split
  · rfl
  · exact pubBs_get j H.bs

section
variable {M M' : Mem} {μ : Pos} {k b sz : Nat} {ds : List AV}
mutual
theorem relV_pub (hM : Mem.le M M') (hk : μ k = some (b, sz)) (hd : ∀ o, relM M' (ds.drop o) b o) : ∀ (c : AV) {v : Value}, relV M c μ v → relV M' (pubV k ds c) μ v
  | .any, _, _ => by simp only [pubV, relV]
  | .bool b, _, h => by simpa only [pubV, relV] using h
  | .int k n, _, h => by simpa only [pubV, relV] using h
  | .str s, _, h => by simpa only [pubV, relV] using h
  | .nilp, _, h => by simpa only [pubV, relV] using h
  | .nils, _, h => by simpa only [pubV, relV] using h
  | .nilm, _, h => by simpa only [pubV, relV] using h
  | .nilf, _, h => by simpa only [pubV, relV] using h
  | .map j, _, h => by simpa only [pubV, relV] using h
  | .yld j, _, h => by simpa only [pubV, relV] using h
  | .dptr cs, _, h => by simp only [pubV]; exact relV_mono hM _ (Pos.le_refl _) h
  | .dslice cs l c, _, h => by simp only [pubV]; exact relV_mono hM _ (Pos.le_refl _) h
  | .ptr j o, v, h => by
    simp only [pubV]
    by_cases hj : j = k
    · subst hj
      simp only [Nat.beq_refl, cond_true, relV] at h ⊢
      obtain ⟨b', s', h1, h2⟩ := h
      rw [hk] at h1; cases h1
      exact ⟨b, o, h2, hd o⟩
    · rw [beq_false hj]; simp only [cond_false, relV] at h ⊢; exact h
  | .slice j o l c e, v, h => by
    simp only [pubV]
    by_cases hj : j = k
    · subst hj
      simp only [Nat.beq_refl, cond_true, relV] at h ⊢
      obtain ⟨b', s', cc, h1, h2, h3, h4, h5⟩ := h
      rw [hk] at h1; cases h1
      exact .inl ⟨b, o, cc, h2, h3, h5, relM_take _ (hd o)⟩
    · rw [beq_false hj]; simp only [cond_false, relV] at h ⊢; exact h
  | .func g cs, _, h => by simp only [pubV, relV] at *; obtain ⟨vs, h1, h2⟩ := h; exact ⟨vs, h1, relL_pub hM hk hd cs h2⟩
  | .agg cs, _, h => by simp only [pubV, relV] at *; obtain ⟨vs, h1, h2⟩ := h; exact ⟨vs, h1, relL_pub hM hk hd cs h2⟩
  | .tuple cs, _, h => by simp only [pubV, relV] at *; obtain ⟨vs, h1, h2⟩ := h; exact ⟨vs, h1, relL_pub hM hk hd cs h2⟩
theorem relL_pub (hM : Mem.le M M') (hk : μ k = some (b, sz)) (hd : ∀ o, relM M' (ds.drop o) b o) : ∀ (cs : List AV) {vs : List Value}, relL M cs μ vs → relL M' (pubL k ds cs) μ vs
  | [], _, h => by simpa only [pubL, relL] using h
  | c :: cs, _, h => by
    simp only [pubL, relL] at *; obtain ⟨v, r, h1, h2, h3⟩ := h
    exact ⟨v, r, h1, relV_pub hM hk hd c h2, relL_pub hM hk hd cs h3⟩
end
theorem relP_pub (hM : Mem.le M M') (hk : μ k = some (b, sz)) (hd : ∀ o, relM M' (ds.drop o) b o) : ∀ (cs : List AV) {vs : List Value}, relP M μ cs vs → relP M' μ (pubL k ds cs) vs
  | [], _, _ => by simp only [pubL]; trivial
  | c :: cs, _, h => by
    obtain ⟨v, r, h1, h2, h3⟩ := h
    simp only [pubL]
    exact ⟨v, r, h1, relV_pub hM hk hd c h2, relP_pub hM hk hd cs h3⟩
end

theorem Rel.pub {M : Mem} {μ : Pos} {H : Heap} {w : World} (R : Rel M μ H w) (k : Nat) {ds : List AV} (hk : H.get k = .cells ds) (hdata : ∀ c ∈ ds, noLoc c = true) :
    ∃ M', Rel M' μ (pubH k ds H) w ∧ (∀ c v, relV M c μ v → relV M' (pubV k ds c) μ v) ∧ ∀ n, Grow n M μ H w M' μ (pubH k ds H) w := by
  obtain ⟨b, sz, c, el, fz, h1, h2, h3, h4, h5⟩ := R.cells k ds hk
  let M' : Mem := fun b' o => if b' = b then c[o]? else M b' o
  have hne : H.get k ≠ .dead := by rw [hk]; simp
  have hM : Mem.le M M' := fun b' o v hv => by
    simp only [M']
    split
    · rename_i e; rw [e, R.apart k b sz hne h1 o] at hv; cases hv
    · exact hv
  have h6 : relP M Pos.none ds c.toList := relP_data ds hdata h5
  have hd : ∀ o, relM M' (ds.drop o) b o := fun o => relM_of_get fun i d hi => by
    rw [List.getElem?_drop] at hi
    obtain ⟨v, hv, hr⟩ := relP_get h6 hi
    exact ⟨v, by simp only [M', if_true]; simpa using hv, relV_mono hM _ (Pos.le_refl _) hr⟩
  have alive : ∀ j, (pubH k ds H).get j ≠ .dead → H.get j ≠ .dead ∧ j ≠ k := by
    intro j hj
    rw [pubH_get] at hj
    by_cases e : k = j
    · rw [if_pos e] at hj; exact absurd rfl hj
    · rw [if_neg e] at hj; exact ⟨fun h => hj (by rw [h]; rfl), Ne.symm e⟩
  have own : ∀ x, Own μ (pubH k ds H) x → Own μ H x := fun x ⟨j, s, hj, hx⟩ => ⟨j, s, (alive j hj).1, hx⟩
  refine ⟨M', ⟨R.glob.mono hM, R.dom, fun j hj => ?_, fun j cs hj => ?_, fun j es hj => ?_, R.walks_same hM (fun j k' left cur hj => ?_) (Pos.le_refl _) (fun _ _ _ => rfl), R.recs_same hM (fun j st id fr hj => ?_) (Pos.le_refl _) (fun _ _ _ => rfl), fun i j b s t hi hj hx hy => R.inj i j b s t (alive i hi).1 (alive j hj).1 hx hy, fun b' o v hv => ?_, fun j b' s hj hx o => ?_⟩, fun c v h => relV_pub hM h1 hd c h,
    fun n => ⟨hM, fun _ _ => rfl, Keep.refl _ _, fun x hx => .inl (own x hx), fun b' o v hv => ?_⟩⟩
  · rw [pubH_get]
    split
    · rfl
    · rw [R.top j hj]; rfl
  · rw [pubH_get] at hj
    split at hj
    · cases hj
    · cases hg : H.get j with
      | dead => rw [hg] at hj; simp [pubB] at hj
      | map es => rw [hg] at hj; simp [pubB] at hj
      | iter k' l c => rw [hg] at hj; simp [pubB] at hj
      | loop st id fr => rw [hg] at hj; simp [pubB] at hj
      | cells xs =>
        rw [hg] at hj; simp only [pubB, AB.cells.injEq] at hj; subst hj
        obtain ⟨b2, sz2, c2, el2, fz2, g1, g2, g3, g4, g5⟩ := R.cells j xs hg
        exact ⟨b2, sz2, c2, el2, fz2, g1, g2, g3, g4, relP_pub hM h1 hd xs g5⟩
  · rw [pubH_get] at hj
    split at hj
    · cases hj
    · cases hg : H.get j with
      | dead => rw [hg] at hj; simp [pubB] at hj
      | cells xs => rw [hg] at hj; simp [pubB] at hj
      | iter k' l c => rw [hg] at hj; simp [pubB] at hj
      | loop st id fr => rw [hg] at hj; simp [pubB] at hj
      | map xs =>
        rw [hg] at hj; simp only [pubB, AB.map.injEq] at hj; subst hj
        obtain ⟨b2, sz2, ents, clock, g1, g2, g3, g4⟩ := R.maps j xs hg
        refine ⟨b2, sz2, ents, clock, g1, g2, ?_, g4⟩
        have : ∀ {es : List (AV × AV)} {ents : List MapEntry}, relE M es ents → relE M' es ents := by
          intro es
          induction es with
          | nil => intro ents h; exact h
          | cons x r ih => intro ents h; obtain ⟨e, t, h1, h2, h3, h4⟩ := h; exact ⟨e, t, h1, relV_mono hM _ (Pos.le_refl _) h2, relV_mono hM _ (Pos.le_refl _) h3, ih h4⟩
        exact this g3
  · have hit : H.get j = .iter k' left cur := by
      rw [pubH_get] at hj
      split at hj
      · cases hj
      · cases hg : H.get j with
        | dead => rw [hg] at hj; simp [pubB] at hj
        | cells xs => rw [hg] at hj; simp [pubB] at hj
        | map xs => rw [hg] at hj; simp [pubB] at hj
        | iter k2 l2 c2 => rw [hg] at hj; simpa [pubB] using hj
        | loop st id fr => rw [hg] at hj; simp [pubB] at hj
    refine ⟨hit, fun _ => ?_⟩
    obtain ⟨es, hes⟩ := R.iter_map hit
    rw [pubH_get, if_neg (fun e => by subst e; rw [hk] at hes; cases hes), hes]
    simp [pubB]
  · rw [pubH_get] at hj
    split at hj
    · cases hj
    · cases hg : H.get j with
      | dead => rw [hg] at hj; simp [pubB] at hj
      | cells xs => rw [hg] at hj; simp [pubB] at hj
      | map xs => rw [hg] at hj; simp [pubB] at hj
      | iter k2 l2 c2 => rw [hg] at hj; simp [pubB] at hj
      | loop st2 id2 fr2 => rw [hg] at hj; simpa [pubB] using hj
  · simp only [M'] at hv
    split at hv
    · rename_i e; subst e
      simp only [World.cell?, h2]; simpa using hv
    · exact R.imm b' o v hv
  · have hj' := alive j hj
    have hne' : b' ≠ b := fun e => by subst e; exact hj'.2 (R.inj j k b' s sz hj'.1 hne hx h1)
    simp only [M']; rw [if_neg hne']; exact R.apart j b' s hj'.1 hx o
  · simp only [M'] at hv
    split at hv
    · rename_i e; exact .inr (.inl ⟨k, sz, hne, by rw [e]; exact h1⟩)
    · exact .inl hv

/-! ### A call that only looks -/
mutual
/-- No place and no reference. -/
def flatV : AV → Bool
  | .ptr _ _ | .slice _ _ _ _ _ | .map _ | .dptr _ | .dslice _ _ _ | .yld _ => false
  | .func _ cs | .agg cs | .tuple cs => flatL cs
  | _ => true
def flatL : List AV → Bool
  | [] => true
  | c :: cs => flatV c && flatL cs
end
section
variable {M M' : Mem} {μ μ' : Pos}
mutual
theorem relV_flat : ∀ (c : AV) {v : Value}, flatV c = true → relV M c μ v → relV M' c μ' v
  | .any, _, _, _ => by simp only [relV]
  | .bool b, _, _, h => by simpa only [relV] using h
  | .int k n, _, _, h => by simpa only [relV] using h
  | .str s, _, _, h => by simpa only [relV] using h
  | .nilp, _, _, h => by simpa only [relV] using h
  | .nils, _, _, h => by simpa only [relV] using h
  | .nilm, _, _, h => by simpa only [relV] using h
  | .nilf, _, _, h => by simpa only [relV] using h
  | .ptr _ _, _, h, _ | .slice _ _ _ _ _, _, h, _ | .map _, _, h, _ | .dptr _, _, h, _ | .dslice _ _ _, _, h, _ | .yld _, _, h, _ => by simp [flatV] at h
  | .func g cs, _, hn, h => by simp only [relV, flatV] at *; obtain ⟨vs, h1, h2⟩ := h; exact ⟨vs, h1, relL_flat cs hn h2⟩
  | .agg cs, _, hn, h => by simp only [relV, flatV] at *; obtain ⟨vs, h1, h2⟩ := h; exact ⟨vs, h1, relL_flat cs hn h2⟩
  | .tuple cs, _, hn, h => by simp only [relV, flatV] at *; obtain ⟨vs, h1, h2⟩ := h; exact ⟨vs, h1, relL_flat cs hn h2⟩
theorem relL_flat : ∀ (cs : List AV) {vs : List Value}, flatL cs = true → relL M cs μ vs → relL M' cs μ' vs
  | [], _, _, h => by simpa only [relL] using h
  | c :: cs, _, hn, h => by
    simp only [relL, flatL, Bool.and_eq_true] at *; obtain ⟨v, r, h1, h2, h3⟩ := h
    exact ⟨v, r, h1, relV_flat c hn.1 h2, relL_flat cs hn.2 h3⟩
end
end
/-- A call that changes nothing, and hands back r. -/
structure CallS (P : Program) (f : FuncId) (args : List AV) (H : Heap) (r : AV) : Prop where
  ok : callable P f = true
  run : ∀ M μ w (vs : Array Value), Rel M μ H w → relL M args μ vs.toList → Calls P f vs w fun e w' =>
    ∃ v, e = .returned v ∧ relV (fun _ _ => none) r Pos.none v ∧ w'.os = w.os ∧ w'.tape = w.tape ∧ w'.output = w.output ∧ w.heap.size ≤ w'.heap.size ∧ ∀ b, b < w.heap.size → w'.heap[b]? = w.heap[b]?

theorem CallS.of {P : Program} {f : FuncId} {args : List AV} {H : Heap} {r : AV} (h : CallA P f args Heap.nil fun v H' => v = r ∧ H' = Heap.nil) (hr : flatV r = true) (ha : noLocL args = true) : CallS P f args H r :=
  ⟨h.ok, fun M μ w vs R hv => (h.run M Pos.none w vs R.nil (relL_data args ha hv)).mono fun e w' ⟨v, M', μ', H', c, he, R', hv', G, hc, hH⟩ => by
    subst hc
    exact ⟨v, he, relV_flat _ hr hv', G.grow.keep.os, G.grow.keep.tape, G.grow.keep.output, G.grow.keep.size, fun b hb => G.grow.keep.block b hb own_nil⟩⟩
theorem CallS.peek {P : Program} {f : FuncId} {args : List AV} {H : Heap} {r : AV} (k : Nat) {ds : List AV} (hk : H.get k = .cells ds) (hdata : ∀ c ∈ ds, noLoc c = true) (h : CallS P f (pubL k ds args) (pubH k ds H) r) : CallS P f args H r := by
  refine ⟨h.ok, fun M μ w vs R hv => ?_⟩
  obtain ⟨M', R', hV, G⟩ := R.pub k hk hdata
  have hl : ∀ {cs : List AV} {us : List Value}, relL M cs μ us → relL M' (pubL k ds cs) μ us := by
    intro cs
    induction cs with
    | nil => intro us h; simpa only [pubL, relL] using h
    | cons c cs ih => intro us h; simp only [pubL, relL] at h ⊢; obtain ⟨v, r, h1, h2, h3⟩ := h; exact ⟨v, r, h1, hV c v h2, ih h3⟩
  exact h.run M' μ w vs R' (hl hv)
theorem CallS.call {P : Program} {f : FuncId} {args : List AV} {H : Heap} {r : AV} {K : AV → Heap → Prop} (h : CallS P f args H r) (hr : flatV r = true) (hk : K r H) : CallA P f args H K := by
  refine ⟨h.ok, fun M μ w vs R hv => (h.run M μ w vs R hv).mono fun e w' ⟨v, he, hv', h1, h2, h3, h4, h5⟩ => ?_⟩
  have himm : ∀ b o u, M b o = some u → w'.cell? ⟨b, o, none⟩ = some u := fun b o u hm => by
    have hb := R.cell_lt hm
    have := R.imm b o u hm
    simp only [World.cell?] at this ⊢
    rw [h5 b hb]; exact this
  exact ⟨v, M, μ, H, r, he, R.frame (Mem.le_refl _) himm (fun b o u h => .inl h) h5, relV_flat r hr hv', ⟨Pos.le_refl _, ⟨Mem.le_refl _, fun _ _ => rfl, ⟨h1, h2, h3, h4, fun b hb _ => h5 b hb⟩, fun b hb => .inl hb, fun b o u h => .inl h⟩, Nat.le_refl _⟩, hk⟩


section
variable {k : Nat} {ds : List AV}
mutual
theorem pubV_data : ∀ (c : AV), noLoc c = true → pubV k ds c = c
  | .any, _ | .bool _, _ | .int _ _, _ | .str _, _ | .nilp, _ | .nils, _ | .nilm, _ | .nilf, _ | .dptr _, _ | .dslice _ _ _, _ => by simp only [pubV]
  | .ptr _ _, h | .slice _ _ _ _ _, h | .map _, h | .yld _, h => by simp [noLoc] at h
  | .func g cs, h => by simp only [noLoc] at h; simp only [pubV, pubL_data0 cs h]
  | .agg cs, h => by simp only [noLoc] at h; simp only [pubV, pubL_data0 cs h]
  | .tuple cs, h => by simp only [noLoc] at h; simp only [pubV, pubL_data0 cs h]
theorem pubL_data0 : ∀ (cs : List AV), noLocL cs = true → pubL k ds cs = cs
  | [], _ => by simp only [pubL]
  | c :: cs, h => by
    simp only [noLocL, Bool.and_eq_true] at h
    simp only [pubL, pubV_data c h.1, pubL_data0 cs h.2]
end
theorem pubL_data : ∀ {cs : List AV}, (∀ c ∈ cs, noLoc c = true) → pubL k ds cs = cs
  | [], _ => by simp only [pubL]
  | c :: cs, h => by simp only [pubL, pubV_data c (h c List.mem_cons_self), pubL_data fun d hd => h d (List.mem_cons_of_mem _ hd)]
end
/-! ### A call in a region that draws its order -/
/-- A call of a function of data, by its one result. -/
structure QCallA (P : Program) (f : FuncId) (vs : List AV) (K : AV → Prop) : Prop where
  ex : ∃ r, noLocL vs = true ∧ noLoc r = true ∧ CallA P f vs Heap.nil (fun v H' => v = r ∧ H' = Heap.nil) ∧ K r
theorem QCallA.of {P : Program} {f : FuncId} {vs : List AV} {r : AV} {K : AV → Prop} (h : CallA P f vs Heap.nil fun v H' => v = r ∧ H' = Heap.nil) (ha : noLocL vs = true) (hr : noLoc r = true) (hk : K r) : QCallA P f vs K := ⟨r, ha, hr, h, hk⟩
def consN (k : Nat) (l : List Nat) : List Nat := bif l.any (Nat.beq k) then l else k :: l
/-- The places of arguments, each once. -/
def atL : List AV → List Nat
  | [] => []
  | c :: r => match c.at with
    | [] => atL r
    | k :: _ => consN k (atL r)
/-- Blocks that are looked at, as data. -/
def frz (η : Nat → AB) : List Nat → List AV → List AV
  | [], vs => vs
  | k :: ks, vs => match η k with
    | .cells ds => bif ds.all noLoc then frz η ks (pubL k ds vs) else frz η ks vs
    | _ => frz η ks vs
def qcallK (P : Program) (η : Nat → AB) (f : FuncId) (vs : List AV) (K : AV → Prop) : Prop := match atL vs with
  | [] => QCallA P f vs K
  | k :: ks => fvs (frz η (k :: ks) vs) fun us => QCallA P f us fun r => bif flatV r then K r else False
theorem QCallA.det {P : Program} {f : FuncId} {vs : List AV} {K : AV → Prop} (h : QCallA P f vs K) : ∃ r, K r ∧ QCallA P f vs fun r' => r' = r := by
  obtain ⟨r, h1, h2, h3, h4⟩ := h.ex
  exact ⟨r, h4, r, h1, h2, h3, rfl⟩
theorem QCallA.mono {P : Program} {f : FuncId} {vs : List AV} {K K' : AV → Prop} (hk : ∀ r, K r → K' r) (h : QCallA P f vs K) : QCallA P f vs K' := by
  obtain ⟨r, h1, h2, h3, h4⟩ := h.ex
  exact ⟨r, h1, h2, h3, hk r h4⟩
theorem qcallK_det {P : Program} {η : Nat → AB} {f : FuncId} {vs : List AV} {K : AV → Prop} (h : qcallK P η f vs K) : ∃ r, K r ∧ qcallK P η f vs fun r' => r' = r := by
  unfold qcallK at h ⊢
  split at h
  · exact h.det
  · simp only [fvs_eq] at h ⊢
    obtain ⟨r, h1, h2⟩ := h.det
    cases hf : flatV r with
    | false => rw [hf] at h1; exact h1.elim
    | true =>
      rw [hf] at h1
      exact ⟨r, h1, h2.mono fun r' e => by subst e; rw [hf]; rfl⟩
theorem frz_local {η η' : Nat → AB} : ∀ {ks : List Nat} {vs : List AV}, (∀ k ∈ ks, η k = η' k) → frz η ks vs = frz η' ks vs
  | [], _, _ => rfl
  | k :: ks, vs, h => by
    have ih : ∀ vs, frz η ks vs = frz η' ks vs := fun vs => frz_local fun j hj => h j (List.mem_cons_of_mem _ hj)
    simp only [frz, h k List.mem_cons_self, ih]
theorem qcallK_local {P : Program} {η η' : Nat → AB} {f : FuncId} {vs : List AV} {K : AV → Prop} (h : ∀ k ∈ atL vs, η k = η' k) : qcallK P η f vs K = qcallK P η' f vs K := by
  unfold qcallK
  split
  · rfl
  · rename_i hk
    rw [frz_local (η := η) (η' := η') (fun j hj => h j (by rw [hk]; exact hj))]
theorem consN_nodup {k : Nat} {l : List Nat} (h : l.Nodup) : (consN k l).Nodup := by
  unfold consN
  cases hb : l.any (Nat.beq k) with
  | true => exact h
  | false =>
    refine List.nodup_cons.2 ⟨fun hm => ?_, h⟩
    have : l.any (Nat.beq k) = true := List.any_eq_true.2 ⟨k, hm, by simp⟩
    rw [hb] at this; cases this
theorem atL_nodup : ∀ vs : List AV, (atL vs).Nodup
  | [] => List.nodup_nil
  | c :: r => by
    simp only [atL]
    split
    · exact atL_nodup r
    · exact consN_nodup (atL_nodup r)
theorem CallS.frz {P : Program} {f : FuncId} {r : AV} : ∀ {ks : List Nat} {vs : List AV} {H : Heap} {η : Nat → AB}, ks.Nodup → (∀ k ∈ ks, ∀ ds, η k = .cells ds → ds.all noLoc = true → H.get k = .cells ds) → (∀ H', CallS P f (Eng.frz η ks vs) H' r) → CallS P f vs H r
  | [], vs, H, η, _, _, h => h H
  | k :: ks, vs, H, η, hn, hH, h => by
    have hn' := List.nodup_cons.1 hn
    simp only [Eng.frz] at h
    have pass : (∀ H', CallS P f (Eng.frz η ks vs) H' r) → CallS P f vs H r := fun h => CallS.frz hn'.2 (fun j hj => hH j (List.mem_cons_of_mem _ hj)) h
    split at h
    · rename_i ds hds
      cases hd : ds.all noLoc with
      | false => rw [hd] at h; exact pass h
      | true =>
        rw [hd] at h
        simp only [cond_true] at h
        have hdata : ∀ c ∈ ds, noLoc c = true := by simpa using hd
        have hk := hH k List.mem_cons_self ds hds hd
        refine CallS.peek k hk hdata (CallS.frz hn'.2 (fun j hj es he hes => ?_) h)
        have hjk : k ≠ j := fun e => by subst e; exact hn'.1 hj
        rw [pubH_get, if_neg hjk, hH j (List.mem_cons_of_mem _ hj) es he hes]
        simp only [pubB]
        congr 1
        have hes' : ∀ c ∈ es, noLoc c = true := by simpa using hes
        exact pubL_data hes'
    · exact pass h
theorem qcallK_call {P : Program} {f : FuncId} {vs : List AV} {H : Heap} {r : AV} {b : Prop} (h : qcallK P H.get f vs fun r' => r' = r ∧ b) : b ∧ CallA P f vs H fun v' H' => v' = r ∧ H' = H := by
  unfold qcallK at h
  split at h
  · obtain ⟨r', c1, c2, c3, rfl, c5⟩ := h.ex
    exact ⟨c5, CallA.pure c3 c1 c2 ⟨rfl, rfl⟩⟩
  · rename_i k ks hks
    simp only [fvs_eq] at h
    obtain ⟨r', c1, c2, c3, c4⟩ := h.ex
    cases hf : flatV r' with
    | false => rw [hf] at c4; exact c4.elim
    | true =>
      rw [hf] at c4
      obtain ⟨rfl, c5⟩ := c4
      refine ⟨c5, CallS.call (CallS.frz (η := H.get) (ks := k :: ks) (by rw [← hks]; exact atL_nodup vs) (fun _ _ _ h _ => h) fun H' => ?_) hf ⟨rfl, rfl⟩⟩
      exact CallS.of c3 hf c1
end Go.Eng

namespace Go.Eng
open Go

variable [Globs]
/-! ### Regions that draw their order -/
/-- What changes: places, with what is there then. -/
abbrev Ef := List (Nat × AB)
def efL (p : Nat) (ab : AB) : Option Nat → Ef
  | none => [(p, ab)]
  | some k => [(k, .dead), (p, ab)]
def HOp.q (ev : AX → AV) (η : Nat → AB) (p : Nat) (K : AV → Ef → Prop) : HOp → Prop
  | .load agg n x => match ev x with
    | .dptr cs => loadK agg n cs fun v => K v []
    | .ptr k off => match η k with
      | .cells cs => loadK agg n (cs.drop off) fun v => K v []
      | _ => False
    | _ => False
  | .alloc zero => K (.ptr p 0) [(p, .cells zero)]
  | .box x => match cellsOf (ev x) with
    | some cs => K (.ptr p 0) [(p, .cells cs)]
    | none => False
  | .store n q x => match ev q with
    | .ptr k off => match η k with
      | .cells cs => match cellsOf (ev x) with
        | some vs => bif Nat.beq vs.length n then lputK cs off vs fun cs' => K .any [(k, .cells cs')] else False
        | none => False
      | _ => False
    | _ => False
def HOp.foot (ev : AX → AV) : HOp → List Nat
  | .load _ _ x => (ev x).at
  | .store _ q _ => (ev q).at
  | _ => []

def MOp.q (ev : AX → AV) (η : Nat → AB) (K : AV → Ef → Prop) : MOp → Prop
  | .mk => False
  | .get ok kk zero m k => mapN η (ev m) fun _ es => bif keyOk kk (ev k) then MRes (mfind kk (ev k) es) fun r => K (mval ok zero r) [] else False
  | .set kk m k v => mapN η (ev m) fun p es => match p with
    | some p => bif keyOk kk (ev k) && noLoc (ev v) then MRes (mput kk (ev k) (ev v) es) fun es' => K .any [(p, .map es')] else False
    | none => False
  | .del kk m k => mapN η (ev m) fun p es => match p with
    | some p => bif keyOk kk (ev k) then MRes (mdel kk (ev k) es) fun es' => K (.tuple []) [(p, .map es')] else False
    | none => False
  | .range _ => False
  | .next _ => False
  | .entry _ => False
  | .delw _ _ _ _ => False
  | .copyS _ _ => False
  | .copy e d s => match ev d with
    | .slice k off n _ e' => match η k with
      | .cells cs => srcK η e (ev s) fun ds m => Side (e' = e) (Branch (decide (m ≤ n)) (lputK cs off ds fun cs' => K (.int .i64 m) [(k, .cells cs')]) (lputK cs off (ds.take (n * e)) fun cs' => K (.int .i64 n) [(k, .cells cs')]))
      | _ => False
    | _ => False
  | .len m => mapN η (ev m) fun _ es => K (.int .i64 es.length) []
def MOp.foot (ev : AX → AV) : MOp → List Nat
  | .mk => []
  | .get _ _ _ m _ => (ev m).at
  | .set _ m _ _ => (ev m).at
  | .del _ m _ => (ev m).at
  | .len m => (ev m).at
  | .range m => (ev m).at
  | .next it => (ev it).at
  | .entry it => (ev it).at
  | .delw _ m _ it => (ev m).at ++ (ev it).at
  | .copy _ d s => (ev d).at ++ (ev s).at
  | .copyS d _ => (ev d).at
/-- An operation, over what is held, with a place p for what it makes. -/
def AOp.q (P : Program) (ev : AX → AV) (η : Nat → AB) (p : Nat) (K : AV → Ef → Prop) : AOp → Prop
  | .m o => o.q ev η K
  | .p o => o.run ev fun v => K v []
  | .v o => o.run ev fun v => K v []
  | .h o => o.q ev η p K
  | .d o => o.run ev η fun v => K v []
  | .l o => o.run ev η η p fun v cs kl => K v (efL p cs kl)
  | .call f args => fvs (args.map ev) fun vs => qcallK P η f vs fun r => K r []
  | .callv x args => match ev x with
    | .func f caps => fvs (args.map ev ++ caps) fun vs => qcallK P η f vs fun r => K r []
    | _ => False
  | .nq _ _ => False
/-- The places it looks at. -/
def AOp.foot (ev : AX → AV) : AOp → List Nat
  | .m o => o.foot ev
  | .h o => o.foot ev
  | .d o => o.foot ev
  | .l o => o.foot ev
  | .call _ args => atL (args.map ev)
  | .callv x args => match ev x with
    | .func _ caps => atL (args.map ev ++ caps)
    | _ => []
  | _ => []

def layH (H : Heap) : Ef → Heap
  | [] => H
  | (k, x) :: r => layH (H.set k x) r

/-! #### What may stand in any order -/
structure En where
  i : Nat
  F : List Nat
  W : List Nat
def memN (k : Nat) : List Nat → Bool
  | [] => false
  | j :: r => Nat.beq k j || memN k r
def disj : List Nat → List Nat → Bool
  | [], _ => true
  | k :: r, l => !memN k l && disj r l
def memP (i j : Nat) : List (Nat × Nat) → Bool
  | [] => false
  | (a, b) :: r => (Nat.beq i a && Nat.beq j b) || memP i j r
def okEn (dep : List (Nat × Nat)) (e e' : En) : Bool := (disj e.W e'.F && disj e'.W e.F) || memP e.i e'.i dep || memP e'.i e.i dep
def okLog (dep : List (Nat × Nat)) (e' : En) : List En → Bool
  | [] => true
  | e :: r => okEn dep e e' && okLog dep e' r
def keys : Ef → List Nat
  | [] => []
  | (k, _) :: r => k :: keys r
def logK (dep : List (Nat × Nat)) (i : Nat) (F W : List Nat) (L : List En) (K : List En → Prop) : Prop := match F, W with
  | [], [] => K L
  | F, W => bif okLog dep ⟨i, F, W⟩ L then K (⟨i, F, W⟩ :: L) else False

def layK (K : Heap → Prop) (b : Ef) : Heap → Prop := List.rec (motive := fun _ => Heap → Prop) K (fun x _ ih H => match H with | ⟨nx, bs⟩ => ih ⟨nx, x :: bs⟩) b
theorem layK_eq (K : Heap → Prop) : ∀ (b : Ef) (H : Heap), layK K b H = K (layH H b)
  | [], _ => rfl
  | (k, x) :: r, ⟨nx, bs⟩ => layK_eq K r ⟨nx, (k, x) :: bs⟩
/-- The unordered part, in the order of the text. -/
def qstep (P : Program) (dep : List (Nat × Nat)) (q : AO) (next : Nat → Nat → List En → Fr → Heap → Prop) (i p : Nat) (L : List En) (fr : Fr) (H : Heap) : Prop :=
  q.op.q P (AX.ev fr) H.get p fun v b => logK dep i (q.op.foot (AX.ev fr)) (keys b) L fun L => putK fr q.dst v fun fr => layK (fun H => next (i + 1) (p + 1) L fr H) b H
noncomputable def qwalk (P : Program) (dep : List (Nat × Nat)) (K : Fr → Heap → Prop) (l : List AO) : Nat → Nat → List En → Fr → Heap → Prop :=
  List.rec (motive := fun _ => Nat → Nat → List En → Fr → Heap → Prop) (fun _ _ _ => K) (fun q _ ih i p L fr H => match q.guard with
    | none => qstep P dep q ih i p L fr H
    | some (s, want) => match look fr s with
      | .bool b => match want with
        | true => Branch b (qstep P dep q ih i p L ((s, .bool true) :: fr) H) (putK ((s, .bool false) :: fr) q.dst (.tuple []) fun fr => ih (i + 1) (p + 1) L fr H)
        | false => Branch b (putK ((s, .bool true) :: fr) q.dst (.tuple []) fun fr => ih (i + 1) (p + 1) L fr H) (qstep P dep q ih i p L ((s, .bool false) :: fr) H)
      | .tuple [] => putK fr q.dst (.tuple []) fun fr => ih (i + 1) (p + 1) L fr H
      | _ => False) l
theorem qwalk_cons (P : Program) (dep : List (Nat × Nat)) (K : Fr → Heap → Prop) (q : AO) (r : List AO) (i p : Nat) (L : List En) (fr : Fr) (H : Heap) : qwalk P dep K (q :: r) i p L fr H = match q.guard with
    | none => qstep P dep q (qwalk P dep K r) i p L fr H
    | some (s, want) => match look fr s with
      | .bool b => match want with
        | true => Branch b (qstep P dep q (qwalk P dep K r) i p L ((s, .bool true) :: fr) H) (putK ((s, .bool false) :: fr) q.dst (.tuple []) fun fr => qwalk P dep K r (i + 1) (p + 1) L fr H)
        | false => Branch b (putK ((s, .bool true) :: fr) q.dst (.tuple []) fun fr => qwalk P dep K r (i + 1) (p + 1) L fr H) (qstep P dep q (qwalk P dep K r) i p L ((s, .bool false) :: fr) H)
      | .tuple [] => putK fr q.dst (.tuple []) fun fr => qwalk P dep K r (i + 1) (p + 1) L fr H
      | _ => False := rfl

/-! #### The same over functions -/
abbrev Sg := Nat → AV
abbrev Et := Nat → AB
def AX.evs (σ : Sg) : AX → AV
  | .t n => σ n
  | .c v => v
  | .g n => .dptr (globOf n)
theorem evs_look (fr : Fr) : AX.evs (look fr) = AX.ev fr := by funext x; cases x <;> rfl
def ups (σ : Sg) (d : Option Nat) (v : AV) : Sg := match d with
  | some t => fun u => if t = u then v else σ u
  | none => σ
def upe (η : Et) : Ef → Et
  | [] => η
  | (k, x) :: r => upe (fun j => if k = j then x else η j) r
theorem get_lay : ∀ (H : Heap) (b : Ef), (layH H b).get = upe H.get b
  | H, [] => rfl
  | H, (k, x) :: r => by
    simp only [layH, upe]
    rw [get_lay]
    congr 1
    funext j; rw [Heap.get_set]
theorem layH_nx : ∀ (H : Heap) (b : Ef), (layH H b).nx = H.nx
  | H, [] => rfl
  | H, (k, x) :: r => by simp only [layH]; rw [layH_nx]; rfl
theorem upe_off : ∀ {b : Ef} {η : Et} {j : Nat}, j ∉ keys b → upe η b j = η j
  | [], _, _, _ => rfl
  | (k, x) :: r, η, j, h => by
    simp only [keys, List.mem_cons, not_or] at h
    simp only [upe]
    rw [upe_off h.2, if_neg (fun e => h.1 e.symm)]
theorem upe_on : ∀ {b : Ef} {η η' : Et} {j : Nat}, (j ∈ keys b ∨ η j = η' j) → upe η b j = upe η' b j
  | [], _, _, _, h => by
    rcases h with h | h
    · simp [keys] at h
    · exact h
  | (k, x) :: r, η, η', j, h => by
    simp only [upe]
    refine upe_on ?_
    by_cases hk : k = j
    · exact .inr (by simp [hk])
    · rcases h with h | h
      · simp only [keys, List.mem_cons] at h
        rcases h with h | h
        · exact absurd h.symm hk
        · exact .inl h
      · exact .inr (by simp [hk, h])
theorem upe_swap {b b' : Ef} (h : ∀ k, k ∈ keys b → k ∈ keys b' → False) (η : Et) : upe (upe η b) b' = upe (upe η b') b := by
  funext j
  by_cases h1 : j ∈ keys b
  · rw [upe_off (fun h2 => h j h1 h2)]
    exact upe_on (.inl h1)
  · rw [upe_off (b := b) (η := upe η b') h1]
    exact upe_on (.inr (upe_off h1))
theorem memN_iff {k : Nat} : ∀ {l : List Nat}, memN k l = true ↔ k ∈ l
  | [] => by simp [memN]
  | j :: r => by simp only [memN, Bool.or_eq_true, List.mem_cons, memN_iff (l := r), Nat.beq_eq]
theorem disj_spec : ∀ {l r : List Nat}, disj l r = true → ∀ k, k ∈ l → k ∈ r → False
  | [], _, _, k, h, _ => by cases h
  | j :: l, r, h, k, h1, h2 => by
    simp only [disj, Bool.and_eq_true, Bool.not_eq_true'] at h
    rcases List.mem_cons.1 h1 with h1 | h1
    · subst h1; rw [memN_iff.2 h2] at h; exact absurd h.1 (by simp)
    · exact disj_spec h.2 k h1 h2
theorem memP_spec {i j : Nat} : ∀ {l : List (Nat × Nat)}, memP i j l = true → (i, j) ∈ l
  | [], h => by simp [memP] at h
  | (a, b) :: r, h => by
    simp only [memP, Bool.or_eq_true, Bool.and_eq_true, Nat.beq_eq] at h
    rcases h with ⟨rfl, rfl⟩ | h
    · simp
    · exact List.mem_cons_of_mem _ (memP_spec h)
theorem okLog_spec {dep : List (Nat × Nat)} {e' : En} : ∀ {L : List En}, okLog dep e' L = true → ∀ e ∈ L, okEn dep e e' = true
  | [], _, _, h => by cases h
  | x :: L, h, e, he => by
    simp only [okLog, Bool.and_eq_true] at h
    rcases List.mem_cons.1 he with rfl | he
    · exact h.1
    · exact okLog_spec h.2 e he
theorem okEn_symm {dep : List (Nat × Nat)} {e e' : En} (h : okEn dep e e' = true) : okEn dep e' e = true := by
  simp only [okEn, Bool.or_eq_true, Bool.and_eq_true] at h ⊢
  rcases h with (⟨h1, h2⟩ | h) | h
  · exact .inl (.inl ⟨h2, h1⟩)
  · exact .inr h
  · exact .inl (.inr h)
theorem disj_nil (l : List Nat) : disj l [] = true := by
  induction l with
  | nil => rfl
  | cons k r ih => simp [disj, memN, ih]
theorem okEn_idle {dep : List (Nat × Nat)} {e e' : En} (h : e.F = [] ∧ e.W = []) : okEn dep e e' = true := by
  simp only [okEn, h.1, h.2, disj_nil, disj, Bool.and_self, Bool.true_or]
theorem logK_spec {dep : List (Nat × Nat)} {i : Nat} {F W : List Nat} {L : List En} {K : List En → Prop} (h : logK dep i F W L K) : (F = [] ∧ W = [] ∧ K L) ∨ ((∀ e ∈ L, okEn dep e ⟨i, F, W⟩ = true) ∧ K (⟨i, F, W⟩ :: L)) := by
  unfold logK at h
  split at h
  · exact .inl ⟨rfl, rfl, h⟩
  · cases hc : okLog dep ⟨i, F, W⟩ L with
    | true => rw [hc] at h; exact .inr ⟨okLog_spec hc, h⟩
    | false => rw [hc] at h; exact h.elim

theorem look_put (fr : Fr) (d : Option Nat) (v : AV) : look (put fr d v) = ups (look fr) d v := by
  cases d with
  | none => rfl
  | some t =>
    funext u
    simp only [put, look, ups]
    by_cases h : t = u
    · subst h; simp
    · rw [beq_false h, if_neg h]; rfl
theorem look_know {fr : Fr} {s : Nat} {b c : Bool} (h : look fr s = .bool b) (hb : b = c) : look ((s, .bool c) :: fr) = look fr := by
  funext u
  simp only [look]
  by_cases hu : s = u
  · subst hu; subst hb; simp [h]
  · rw [beq_false hu]; rfl

theorem HOp.q_det {ev : AX → AV} {η : Et} {p : Nat} {K : AV → Ef → Prop} {o : HOp} (h : o.q ev η p K) : ∃ v b, K v b ∧ (∀ k ∈ keys b, k ∈ o.foot ev ∨ k = p) ∧ o.q ev η p (fun v' b' => v' = v ∧ b' = b) := by
  cases o with
  | load agg n x =>
    simp only [HOp.q] at h ⊢
    have ld : ∀ cs, loadK agg n cs (fun v => K v []) → ∃ v b, K v b ∧ (∀ k ∈ keys b, k ∈ (HOp.load agg n x).foot ev ∨ k = p) ∧ loadK agg n cs (fun v' => v' = v ∧ [] = b) := by
      intro cs h
      rcases loadK_spec h with ⟨rfl, hn, hk⟩ | ⟨rfl, c, r, rfl, hk⟩
      · exact ⟨_, [], hk, (by simp [keys]), by simp only [loadK, takeK_eq n cs _ hn, and_self]⟩
      · exact ⟨_, [], hk, (by simp [keys]), by simp only [loadK_false, fv_eq, and_self]⟩
    split at h
    · exact ld _ h
    · split at h
      · exact ld _ h
      · exact h.elim
    · exact h.elim
  | alloc zero => exact ⟨_, _, h, by simp [keys], rfl, rfl⟩
  | box x =>
    simp only [HOp.q] at h ⊢
    split at h
    · exact ⟨_, _, h, by simp [keys], rfl, rfl⟩
    · exact h.elim
  | store n q x =>
    simp only [HOp.q] at h ⊢
    split at h
    · rename_i k off hq
      split at h
      · split at h
        · rename_i vs hvs
          cases hn : Nat.beq vs.length n with
          | false => simp [hn] at h
          | true =>
            simp only [hn, cond_true] at h ⊢
            obtain ⟨e1, e2, e3⟩ := lputK_spec h
            exact ⟨_, _, e3, by simp [keys, HOp.foot, hq, AV.at], lputK_eq e1 e2 ⟨rfl, rfl⟩⟩
        · exact h.elim
      · exact h.elim
    · exact h.elim
theorem HOp.q_local {ev : AX → AV} {η η' : Et} {p : Nat} {K : AV → Ef → Prop} {o : HOp} (h : ∀ k ∈ o.foot ev, η k = η' k) : o.q ev η p K = o.q ev η' p K := by
  cases o with
  | load agg n x =>
    simp only [HOp.q]
    split
    · rfl
    · rename_i k off hx
      rw [h k (by simp [HOp.foot, hx, AV.at])]
    · rfl
  | alloc zero => rfl
  | box x => rfl
  | store n q x =>
    simp only [HOp.q]
    split
    · rename_i k off hx
      rw [h k (by simp [HOp.foot, hx, AV.at])]
    · rfl

theorem MOp.q_det {ev : AX → AV} {η : Et} {p : Nat} {K : AV → Ef → Prop} {o : MOp} (h : o.q ev η K) : ∃ v b, K v b ∧ (∀ k ∈ keys b, k ∈ o.foot ev ∨ k = p) ∧ o.q ev η (fun v' b' => v' = v ∧ b' = b) := by
  cases o with
  | mk => exact h.elim
  | get ok kk zero m k =>
    simp only [MOp.q] at h ⊢
    rcases mapN_spec h with ⟨hm, h⟩ | ⟨q, es, hm, hes, h⟩
    · cases hk : keyOk kk (ev k) <;> simp only [hk, cond_true, cond_false] at h
      obtain ⟨r, hr, hK⟩ := h.ex
      exact ⟨_, _, hK, by simp [keys], by simp only [hm, mapN, hk, cond_true]; exact ⟨r, hr, by simp⟩⟩
    · cases hk : keyOk kk (ev k) <;> simp only [hk, cond_true, cond_false] at h
      obtain ⟨r, hr, hK⟩ := h.ex
      exact ⟨_, _, hK, by simp [keys], by simp only [hm, mapN, hes, hk, cond_true]; exact ⟨r, hr, by simp⟩⟩
  | set kk m k v =>
    simp only [MOp.q] at h ⊢
    rcases mapN_spec h with ⟨hm, h⟩ | ⟨q, es, hm, hes, h⟩
    · exact h.elim
    · simp only at h
      cases hk : (keyOk kk (ev k) && noLoc (ev v)) <;> simp only [hk, cond_true, cond_false] at h
      obtain ⟨r, hr, hK⟩ := h.ex
      exact ⟨_, _, hK, by simp [keys, MOp.foot, hm, AV.at], by simp only [hm, mapN, hes, hk, cond_true]; exact ⟨r, hr, by simp⟩⟩
  | del kk m k =>
    simp only [MOp.q] at h ⊢
    rcases mapN_spec h with ⟨hm, h⟩ | ⟨q, es, hm, hes, h⟩
    · exact h.elim
    · simp only at h
      cases hk : keyOk kk (ev k) <;> simp only [hk, cond_true, cond_false] at h
      obtain ⟨r, hr, hK⟩ := h.ex
      exact ⟨_, _, hK, by simp [keys, MOp.foot, hm, AV.at], by simp only [hm, mapN, hes, hk, cond_true]; exact ⟨r, hr, by simp⟩⟩
  | range m => exact h.elim
  | next m => exact h.elim
  | entry m => exact h.elim
  | delw _ _ _ _ => exact h.elim
  | copyS _ _ => exact h.elim
  | copy e d s =>
    simp only [MOp.q] at h ⊢
    split at h
    · rename_i k off n cap e' hd
      split at h
      · rename_i cs hcs
        obtain ⟨ds, m, ⟨he, hbr⟩, h2⟩ := srcK_det h
        by_cases hmn : m ≤ n
        · obtain ⟨e1, e2, e3⟩ := lputK_spec (hbr.yes (by simpa using hmn))
          exact ⟨_, _, e3, by simp [keys, MOp.foot, hd, AV.at], srcK_mono (fun _ _ ⟨q1, q2⟩ => by subst q1; subst q2; exact ⟨he, .ofT (by simpa using hmn) (lputK_eq e1 e2 ⟨rfl, rfl⟩)⟩) h2⟩
        · obtain ⟨e1, e2, e3⟩ := lputK_spec (hbr.no (by simpa using hmn))
          exact ⟨_, _, e3, by simp [keys, MOp.foot, hd, AV.at], srcK_mono (fun _ _ ⟨q1, q2⟩ => by subst q1; subst q2; exact ⟨he, .ofF (by simpa using hmn) (lputK_eq e1 e2 ⟨rfl, rfl⟩)⟩) h2⟩
      · exact h.elim
    · exact h.elim
  | len m =>
    simp only [MOp.q] at h ⊢
    rcases mapN_spec h with ⟨hm, h⟩ | ⟨q, es, hm, hes, h⟩
    · exact ⟨_, _, h, by simp [keys], by simp [hm, mapN]⟩
    · exact ⟨_, _, h, by simp [keys], by simp [hm, mapN, hes]⟩
theorem mapN_local {η η' : Nat → AB} {m : AV} {K : Option Nat → List (AV × AV) → Prop} (h : ∀ k ∈ m.at, η k = η' k) : mapN η m K = mapN η' m K := by
  unfold mapN
  split
  · rfl
  · rw [h _ (by simp [AV.at])]
  · rfl
theorem MOp.q_local {ev : AX → AV} {η η' : Et} {K : AV → Ef → Prop} {o : MOp} (h : ∀ k ∈ o.foot ev, η k = η' k) : o.q ev η K = o.q ev η' K := by
  cases o with
  | mk => rfl
  | get ok kk zero m k => simp only [MOp.q]; exact mapN_local h
  | set kk m k v => simp only [MOp.q]; exact mapN_local h
  | del kk m k => simp only [MOp.q]; exact mapN_local h
  | range m => rfl
  | next m => rfl
  | entry m => rfl
  | delw _ _ _ _ => rfl
  | copyS _ _ => rfl
  | copy e d s =>
    have h : ∀ k ∈ AV.at (ev d) ++ AV.at (ev s), η k = η' k := h
    simp only [MOp.q]
    split
    · rename_i k off n cap e' hd
      rw [h k (by simp [hd, AV.at])]
      split
      · exact srcK_local fun k hk => h k (List.mem_append_right _ hk)
      · rfl
    · rfl
  | len m => simp only [MOp.q]; exact mapN_local h
theorem AOp.q_det {P : Program} {ev : AX → AV} {η : Et} {p : Nat} {K : AV → Ef → Prop} {o : AOp} (h : o.q P ev η p K) : ∃ v b, K v b ∧ (∀ k ∈ keys b, k ∈ o.foot ev ∨ k = p) ∧ o.q P ev η p (fun v' b' => v' = v ∧ b' = b) := by
  cases o with
  | m o => exact MOp.q_det h
  | p o =>
    simp only [AOp.q] at h
    obtain ⟨c, h1, h2⟩ := POp.det h
    refine ⟨c, [], h1, by simp [keys], ?_⟩
    simp only [AOp.q, and_true]
    exact h2
  | v o =>
    simp only [AOp.q] at h
    obtain ⟨c, h1, h2⟩ := VOp.det h
    refine ⟨c, [], h1, by simp [keys], ?_⟩
    simp only [AOp.q, and_true]
    exact h2
  | nq _ _ => exact absurd h id
  | h o => exact HOp.q_det h
  | d o =>
    simp only [AOp.q] at h
    obtain ⟨c, h1, h2⟩ := DOp.det h
    refine ⟨c, [], h1, by simp [keys], ?_⟩
    simp only [AOp.q, and_true]
    exact h2
  | l o =>
    simp only [AOp.q] at h
    obtain ⟨v, cs, kl, h1, h3, h2⟩ := LOp.det h
    refine ⟨v, efL p cs kl, h1, ?_, ?_⟩
    · cases kl with
      | none => simp [efL, keys]
      | some k =>
        have h4 := (h3 k rfl).2
        simp only [efL, keys, List.mem_cons, List.not_mem_nil, or_false]
        rintro j (rfl | rfl)
        · exact .inl h4
        · exact .inr rfl
    · simp only [AOp.q]
      have mono : ∀ {K K' : AV → AB → Option Nat → Prop}, (∀ a b c, K a b c → K' a b c) → LOp.run ev η η p K o → LOp.run ev η η p K' o := fun hk h => LOp.mono hk h
      exact mono (fun a b c ⟨e1, e2, e3⟩ => by subst e1; subst e2; subst e3; exact ⟨rfl, rfl⟩) h2
  | call f args =>
    simp only [AOp.q, fvs_eq, and_true] at h ⊢
    obtain ⟨r, h1, h2⟩ := qcallK_det h
    exact ⟨r, [], h1, (by simp [keys]), by simpa using h2⟩
  | callv x args =>
    simp only [AOp.q, fvs_eq] at h ⊢
    split at h
    · obtain ⟨r, h1, h2⟩ := qcallK_det h
      exact ⟨r, [], h1, (by simp [keys]), by simpa using h2⟩
    · exact h.elim
theorem appN_noit {cur Hr : Nat → AB} {p : Nat} {K : AV → AB → Option Nat → Prop} {e bytes : Nat} {sv xv : AV} (h : appN cur Hr p e bytes sv xv K) : ∃ v ab kl, K v ab kl ∧ ab.isIt = false := by
  unfold appN at h
  split at h
  · simp only [appK] at h
    split at h
    · obtain ⟨ds, n, h1, _⟩ := srcK_det h
      exact ⟨_, _, _, h1.r, rfl⟩
    · exact h.elim
  · obtain ⟨ds, n, h1, _⟩ := srcK_det h
    by_cases hn : n = 0
    · exact ⟨_, _, _, h1.yes (by simpa using hn), rfl⟩
    · exact ⟨_, _, _, (h1.no (by simpa using hn)).r, rfl⟩
  · obtain ⟨ds, n, h1, _⟩ := srcK_det h
    by_cases hn : n = 0
    · exact ⟨_, _, _, h1.yes (by simpa using hn), rfl⟩
    · exact ⟨_, _, _, (h1.no (by simpa using hn)).r, rfl⟩
  · exact h.elim
theorem LOp.noit {ev : AX → AV} {cur Hr : Nat → AB} {p : Nat} {K : AV → AB → Option Nat → Prop} {o : LOp} (h : o.run ev cur Hr p K) : ∃ v ab kl, K v ab kl ∧ ab.isIt = false := by
  cases o with
  | bslice e len zero parts =>
    simp only [LOp.run] at h
    obtain ⟨ds, h1, _⟩ := buildK_det h
    exact ⟨_, _, _, h1, rfl⟩
  | make e bytes zero n =>
    simp only [LOp.run] at h
    split at h
    · exact ⟨_, _, _, h.r, rfl⟩
    · exact h.elim
  | append e bytes s x => simp only [LOp.run] at h; exact appN_noit h
  | appendS bytes s x => simp only [LOp.run] at h; exact appN_noit h
  | appendF e bytes s x => simp only [LOp.run] at h; obtain ⟨v, l, h1, _⟩ := appF_det h; exact ⟨v, _, none, h1, rfl⟩
theorem AOp.q_noit {P : Program} {ev : AX → AV} {η : Et} {p : Nat} {o : AOp} {v : AV} {b : Ef} (h : o.q P ev η p (fun v' b' => v' = v ∧ b' = b)) : ∀ x ∈ b, x.2.isIt = false := by
  have nil : [] = b → ∀ x ∈ b, x.2.isIt = false := fun e x hx => by subst e; cases hx
  have one : ∀ {k : Nat} {ab : AB}, [(k, ab)] = b → ab.isIt = false → ∀ x ∈ b, x.2.isIt = false := fun e h2 x hx => by subst e; simp at hx; subst hx; exact h2
  cases o with
  | m o =>
    simp only [AOp.q] at h
    cases o with
    | mk => exact h.elim
    | delw _ _ _ _ => exact h.elim
    | copyS _ _ => exact h.elim
    | copy e d s =>
      simp only [MOp.q] at h
      split at h
      · split at h
        · obtain ⟨ds, m, ⟨he, hbr⟩, h2⟩ := srcK_det h
          rename_i n _ _ _ _ _ _
          by_cases hmn : m ≤ n
          · obtain ⟨e1, e2, e3⟩ := lputK_spec (hbr.yes (by simpa using hmn))
            exact one e3.2 rfl
          · obtain ⟨e1, e2, e3⟩ := lputK_spec (hbr.no (by simpa using hmn))
            exact one e3.2 rfl
        · exact h.elim
      · exact h.elim
    | get ok kk zero m k =>
      simp only [MOp.q] at h
      rcases mapN_spec h with ⟨hm, h⟩ | ⟨q, es, hm, hes, h⟩
      · cases hk : keyOk kk (ev k) <;> simp only [hk, cond_true, cond_false] at h
        obtain ⟨r, hr, hK⟩ := h.ex
        exact nil hK.2
      · cases hk : keyOk kk (ev k) <;> simp only [hk, cond_true, cond_false] at h
        obtain ⟨r, hr, hK⟩ := h.ex
        exact nil hK.2
    | set kk m k v =>
      simp only [MOp.q] at h
      rcases mapN_spec h with ⟨hm, h⟩ | ⟨q, es, hm, hes, h⟩
      · exact h.elim
      · simp only at h
        cases hk : (keyOk kk (ev k) && noLoc (ev v)) <;> simp only [hk, cond_true, cond_false] at h
        obtain ⟨r, hr, hK⟩ := h.ex
        exact one hK.2 rfl
    | del kk m k =>
      simp only [MOp.q] at h
      rcases mapN_spec h with ⟨hm, h⟩ | ⟨q, es, hm, hes, h⟩
      · exact h.elim
      · simp only at h
        cases hk : keyOk kk (ev k) <;> simp only [hk, cond_true, cond_false] at h
        obtain ⟨r, hr, hK⟩ := h.ex
        exact one hK.2 rfl
    | len m =>
      simp only [MOp.q] at h
      rcases mapN_spec h with ⟨hm, h⟩ | ⟨q, es, hm, hes, h⟩
      · exact nil h.2
      · exact nil h.2
    | range m => exact h.elim
    | next m => exact h.elim
    | entry m => exact h.elim
  | p o => simp only [AOp.q] at h; obtain ⟨c, h1, _⟩ := POp.det h; exact nil h1.2
  | v o => simp only [AOp.q] at h; obtain ⟨c, h1, _⟩ := VOp.det h; exact nil h1.2
  | nq _ _ => exact absurd h id
  | h o =>
    simp only [AOp.q] at h
    cases o with
    | load agg n x =>
      have ld : ∀ cs, loadK agg n cs (fun v' => v' = v ∧ [] = b) → [] = b := by
        intro cs h
        rcases loadK_spec h with ⟨_, _, hk⟩ | ⟨_, c, r, _, hk⟩
        · exact hk.2
        · exact hk.2
      simp only [HOp.q] at h
      split at h
      · exact nil (ld _ h)
      · split at h
        · exact nil (ld _ h)
        · exact h.elim
      · exact h.elim
    | alloc zero => simp only [HOp.q] at h; exact one h.2 rfl
    | box x =>
      simp only [HOp.q] at h
      split at h
      · exact one h.2 rfl
      · exact h.elim
    | store n q x =>
      simp only [HOp.q] at h
      split at h
      · split at h
        · split at h
          · rename_i vs hvs
            cases hn : Nat.beq vs.length n with
            | false => simp [hn] at h
            | true =>
              simp only [hn, cond_true] at h
              obtain ⟨e1, e2, e3⟩ := lputK_spec h
              exact one e3.2 rfl
          · exact h.elim
        · exact h.elim
      · exact h.elim
  | d o => simp only [AOp.q] at h; obtain ⟨c, h1, _⟩ := DOp.det h; exact nil h1.2
  | l o =>
    simp only [AOp.q] at h
    obtain ⟨v, ab, kl, ⟨_, e⟩, h2⟩ := LOp.noit h
    intro x hx
    subst e
    cases kl with
    | none => simp [efL] at hx; subst hx; exact h2
    | some k => simp [efL] at hx; rcases hx with rfl | rfl <;> first | rfl | exact h2
  | call f args =>
    simp only [AOp.q, fvs_eq] at h
    obtain ⟨r, h4, _⟩ := qcallK_det h
    exact nil h4.2
  | callv x args =>
    simp only [AOp.q, fvs_eq] at h
    split at h
    · obtain ⟨r, h4, _⟩ := qcallK_det h; exact nil h4.2
    · exact h.elim
theorem AOp.q_local {P : Program} {ev : AX → AV} {η η' : Et} {p : Nat} {K : AV → Ef → Prop} {o : AOp} (h : ∀ k ∈ o.foot ev, η k = η' k) : o.q P ev η p K = o.q P ev η' p K := by
  cases o with
  | m o => exact MOp.q_local h
  | h o => exact HOp.q_local h
  | d o => simp only [AOp.q]; exact DOp.local h
  | l o => simp only [AOp.q]; exact LOp.local h
  | call f args => simp only [AOp.q, fvs_eq]; exact qcallK_local h
  | callv x args =>
    simp only [AOp.q, fvs_eq]
    split
    · rename_i f caps hx
      refine qcallK_local fun k hk => h k ?_
      simp only [AOp.foot, hx]; exact hk
    · rfl
  | _ => rfl

/-- The guard says no. -/
def Off (a : AV) (want : Bool) : Prop := (∃ c, a = .bool c ∧ c ≠ want) ∨ a = .tuple []
/-- What an operation yields here: or it is passed over. -/
def YA (P : Program) (q : AO) (p : Nat) (σ : Sg) (η : Et) (v : AV) (b : Ef) (F : List Nat) : Prop :=
  ((q.guard = none ∨ ∃ s want, q.guard = some (s, want) ∧ σ s = .bool want) ∧ (q.op.q P (AX.evs σ) η p fun v' b' => v' = v ∧ b' = b) ∧ F = q.op.foot (AX.evs σ)) ∨
  ((∃ s want, q.guard = some (s, want) ∧ Off (σ s) want) ∧ v = .tuple [] ∧ b = [] ∧ F = [])
theorem YA.keys {P : Program} {q : AO} {p : Nat} {σ : Sg} {η : Et} {v : AV} {b : Ef} {F : List Nat} (h : YA P q p σ η v b F) : ∀ k ∈ keys b, k ∈ F ∨ k = p := by
  rcases h with ⟨_, h, rfl⟩ | ⟨_, _, rfl, _⟩
  · obtain ⟨v', b', ⟨rfl, rfl⟩, h2, _⟩ := AOp.q_det h
    exact h2
  · intro k hk; cases hk
theorem YA.local {P : Program} {q : AO} {p : Nat} {σ : Sg} {η η' : Et} {v : AV} {b : Ef} {F : List Nat} (h : YA P q p σ η v b F) (he : ∀ k ∈ F, η k = η' k) : YA P q p σ η' v b F := by
  rcases h with ⟨h1, h2, h3⟩ | h
  · exact .inl ⟨h1, by rw [← AOp.q_local (η := η) (by rw [← h3]; exact he)]; exact h2, h3⟩
  · exact .inr h
def qOp (P : Program) (dep : List (Nat × Nat)) (q : AO) (i p : Nat) (K : List En → Sg → Et → Prop) (L : List En) (σ : Sg) (η : Et) : Prop :=
  ∃ v b F, YA P q p σ η v b F ∧ (∀ e ∈ L, okEn dep e ⟨i, F, keys b⟩ = true) ∧ K (⟨i, F, keys b⟩ :: L) (ups σ q.dst v) (upe η b)

def wpQ (P : Program) (dep : List (Nat × Nat)) (T : Sg → Et → Prop) : List AO → Nat → Nat → List En → Sg → Et → Prop
  | [], _, _, _, σ, η => T σ η
  | q :: r, i, p, L, σ, η => qOp P dep q i p (wpQ P dep T r (i + 1) (p + 1)) L σ η

theorem wpQ_of_walk {P : Program} {dep : List (Nat × Nat)} {K : Fr → Heap → Prop} {nx : Nat} : ∀ (l : List AO) (i p : Nat) (Lw L : List En) (fr : Fr) (H : Heap), H.nx = nx → (∀ e ∈ L, e ∈ Lw ∨ (e.F = [] ∧ e.W = [])) → qwalk P dep K l i p Lw fr H →
    wpQ P dep (fun σ η => ∃ fr H, look fr = σ ∧ H.get = η ∧ H.nx = nx ∧ K fr H) l i p L (look fr) H.get
  | [], _, _, _, _, fr, H, hnx, _, h => ⟨fr, H, rfl, rfl, hnx, h⟩
  | q :: r, i, p, Lw, L, fr, H, hnx, hL, h => by
    have yes : ∀ fr' (_ : look fr' = look fr) (_ : q.guard = none ∨ ∃ s want, q.guard = some (s, want) ∧ look fr s = .bool want), (q.op.q P (AX.ev fr') H.get p fun v b => logK dep i (q.op.foot (AX.ev fr')) (keys b) Lw fun Lw => qwalk P dep K r (i + 1) (p + 1) Lw (put fr' q.dst v) (layH H b)) →
        wpQ P dep (fun σ η => ∃ fr H, look fr = σ ∧ H.get = η ∧ H.nx = nx ∧ K fr H) (q :: r) i p L (look fr) H.get := by
      intro fr' he hg hq
      obtain ⟨v, b, hk, hkeys, hd⟩ := AOp.q_det hq
      have go : ∀ Lw', (∀ e ∈ (⟨i, q.op.foot (AX.ev fr'), keys b⟩ :: L : List En), e ∈ Lw' ∨ (e.F = [] ∧ e.W = [])) → (∀ e ∈ L, okEn dep e ⟨i, q.op.foot (AX.ev fr'), keys b⟩ = true) → qwalk P dep K r (i + 1) (p + 1) Lw' (put fr' q.dst v) (layH H b) →
          wpQ P dep (fun σ η => ∃ fr H, look fr = σ ∧ H.get = η ∧ H.nx = nx ∧ K fr H) (q :: r) i p L (look fr) H.get := by
        intro Lw' h1 h2 h3
        refine ⟨v, b, q.op.foot (AX.ev fr'), .inl ⟨hg, by rw [← he, evs_look]; exact hd, by rw [← he, evs_look]⟩, h2, ?_⟩
        have := wpQ_of_walk r (i + 1) (p + 1) Lw' _ _ (layH H b) ((layH_nx H b).trans hnx) h1 h3
        rw [look_put, get_lay, he] at this
        exact this
      rcases logK_spec hk with ⟨h1, h2, h3⟩ | ⟨h1, h3⟩
      · refine go Lw (fun e he => ?_) (fun e _ => okEn_symm (okEn_idle ⟨h1, h2⟩)) h3
        rcases List.mem_cons.1 he with rfl | he
        · exact .inr ⟨h1, h2⟩
        · exact hL e he
      · refine go _ (fun e he => ?_) (fun e he => ?_) h3
        · rcases List.mem_cons.1 he with rfl | he
          · exact .inl List.mem_cons_self
          · exact (hL e he).imp (List.mem_cons_of_mem _) id
        · rcases hL e he with he | he
          · exact h1 e he
          · exact okEn_idle he
    have no : ∀ fr' (_ : look fr' = look fr), (∃ s want, q.guard = some (s, want) ∧ Off (look fr s) want) → qwalk P dep K r (i + 1) (p + 1) Lw (put fr' q.dst (.tuple [])) H →
        wpQ P dep (fun σ η => ∃ fr H, look fr = σ ∧ H.get = η ∧ H.nx = nx ∧ K fr H) (q :: r) i p L (look fr) H.get := by
      intro fr' he hg hq
      refine ⟨.tuple [], [], [], .inr ⟨hg, rfl, rfl, rfl⟩, fun e _ => okEn_symm (okEn_idle ⟨rfl, rfl⟩), ?_⟩
      have := wpQ_of_walk r (i + 1) (p + 1) Lw (⟨i, [], []⟩ :: L) _ H hnx (fun e he => by
        rcases List.mem_cons.1 he with rfl | he
        · exact .inr ⟨rfl, rfl⟩
        · exact hL e he) hq
      rw [look_put, he] at this
      exact this
    rw [qwalk_cons] at h
    simp only [qstep, layK_eq, putK_eq] at h
    split at h
    · exact yes fr rfl (.inl ‹_›) h
    · rename_i s want hg
      split at h
      · rename_i b hb
        cases want with
        | true =>
          simp only at h
          cases b with
          | true => exact yes _ (look_know hb rfl) (.inr ⟨s, true, hg, hb⟩) (h.yes rfl)
          | false => exact no _ (look_know hb rfl) ⟨s, true, hg, .inl ⟨false, hb, by simp⟩⟩ (h.no rfl)
        | false =>
          simp only at h
          cases b with
          | true => exact no _ (look_know hb rfl) ⟨s, false, hg, .inl ⟨true, hb, by simp⟩⟩ (h.yes rfl)
          | false => exact yes _ (look_know hb rfl) (.inr ⟨s, false, hg, hb⟩) (h.no rfl)
      · rename_i hs
        exact no fr rfl ⟨s, want, hg, .inr hs⟩ h
      · exact h.elim

/-! #### What an operation reads -/
def POp.xs : POp → List AX
  | .mov x | .un _ x | .conv _ x | .convw _ x | .fieldA _ x | .len _ x | .extract _ x | .nilchk x => [x]
  | .pick c a b => [c, a, b]
  | .bin _ x y | .beq _ x y | .binw _ x y | .idxA _ _ x y | .mm _ x y => [x, y]
  | .mkfn _ caps => caps
  | .other => []
  | .panic => []
def HOp.xs : HOp → List AX
  | .load _ _ x | .box x => [x]
  | .alloc _ => []
  | .store _ p x => [p, x]
def MOp.xs : MOp → List AX
  | .mk => []
  | .get _ _ _ m k => [m, k]
  | .set _ m k v => [m, k, v]
  | .del _ m k => [m, k]
  | .len m => [m]
  | .range m => [m]
  | .next m => [m]
  | .entry m => [m]
  | .delw _ m k it => [m, k, it]
  | .copy _ d s => [d, s]
  | .copyS d s => [d, s]
def AOp.xs : AOp → List AX
  | .m o => o.xs
  | .p o => o.xs
  | .v o => o.xs
  | .h o => o.xs
  | .d o => o.xs
  | .l o => o.xs
  | .call _ args => args
  | .callv x args => x :: args
  | .nq _ x => [x]
def AX.is (d : Nat) : AX → Bool
  | .t n => n == d
  | .c _ => false
  | .g _ => false
def AO.reads (q : AO) (d : Nat) : Bool := q.op.xs.any (AX.is d) || (match q.guard with | some (s, _) => s == d | none => false)
theorem POp.run_congr {ev ev' : AX → AV} {K : AV → Prop} {o : POp} (h : ∀ x ∈ o.xs, ev x = ev' x) : o.run ev K = o.run ev' K := by
  cases o with
  | mkfn f caps =>
    have h : ∀ x ∈ caps, ev x = ev' x := h
    simp only [POp.run]; rw [List.map_congr_left (f := ev) (g := ev') h]
  | pick c a b => simp only [POp.xs, List.mem_cons, List.not_mem_nil, or_false] at h; simp only [POp.run, h c (.inl rfl), h a (.inr (.inl rfl)), h b (.inr (.inr rfl))]
  | bin op x y => simp only [POp.xs, List.mem_cons, List.not_mem_nil, or_false] at h; simp only [POp.run, h x (.inl rfl), h y (.inr rfl)]
  | beq neg x y => simp only [POp.xs, List.mem_cons, List.not_mem_nil, or_false] at h; simp only [POp.run, h x (.inl rfl), h y (.inr rfl)]
  | binw op x y => simp only [POp.xs, List.mem_cons, List.not_mem_nil, or_false] at h; simp only [POp.run, h x (.inl rfl), h y (.inr rfl)]
  | idxA e arr x y => simp only [POp.xs, List.mem_cons, List.not_mem_nil, or_false] at h; simp only [POp.run, h x (.inl rfl), h y (.inr rfl)]
  | mm mx x y => simp only [POp.xs, List.mem_cons, List.not_mem_nil, or_false] at h; simp only [POp.run, h x (.inl rfl), h y (.inr rfl)]
  | other => rfl
  | panic => rfl
  | mov x => simp only [POp.xs, List.mem_singleton, forall_eq] at h; simp only [POp.run, h]
  | un op x => simp only [POp.xs, List.mem_singleton, forall_eq] at h; simp only [POp.run, h]
  | conv k x => simp only [POp.xs, List.mem_singleton, forall_eq] at h; simp only [POp.run, h]
  | convw k x => simp only [POp.xs, List.mem_singleton, forall_eq] at h; simp only [POp.run, h]
  | fieldA off x => simp only [POp.xs, List.mem_singleton, forall_eq] at h; simp only [POp.run, h]
  | len str x => simp only [POp.xs, List.mem_singleton, forall_eq] at h; simp only [POp.run, h]
  | extract i x => simp only [POp.xs, List.mem_singleton, forall_eq] at h; simp only [POp.run, h]
  | nilchk x => simp only [POp.xs, List.mem_singleton, forall_eq] at h; simp only [POp.run, h]
theorem HOp.q_congr {ev ev' : AX → AV} {η : Et} {p : Nat} {K : AV → Ef → Prop} {o : HOp} (h : ∀ x ∈ o.xs, ev x = ev' x) : o.q ev η p K = o.q ev' η p K ∧ o.foot ev = o.foot ev' := by
  cases o with
  | load agg n x => simp only [HOp.xs, List.mem_singleton, forall_eq] at h; simp only [HOp.q, HOp.foot, h, and_self]
  | alloc zero => exact ⟨rfl, rfl⟩
  | box x => simp only [HOp.xs, List.mem_singleton, forall_eq] at h; simp only [HOp.q, HOp.foot, h, and_self]
  | store n q x => simp only [HOp.xs, List.mem_cons, List.not_mem_nil, or_false] at h; simp only [HOp.q, HOp.foot, h q (.inl rfl), h x (.inr rfl), and_self]
theorem MOp.q_congr {ev ev' : AX → AV} {η : Et} {K : AV → Ef → Prop} {o : MOp} (h : ∀ x ∈ o.xs, ev x = ev' x) : o.q ev η K = o.q ev' η K ∧ o.foot ev = o.foot ev' := by
  cases o with
  | mk => exact ⟨rfl, rfl⟩
  | get ok kk zero m k => simp only [MOp.xs, List.mem_cons, List.not_mem_nil, or_false] at h; simp only [MOp.q, MOp.foot, h m (.inl rfl), h k (.inr rfl), and_self]
  | set kk m k v => simp only [MOp.xs, List.mem_cons, List.not_mem_nil, or_false] at h; simp only [MOp.q, MOp.foot, h m (.inl rfl), h k (.inr (.inl rfl)), h v (.inr (.inr rfl)), and_self]
  | del kk m k => simp only [MOp.xs, List.mem_cons, List.not_mem_nil, or_false] at h; simp only [MOp.q, MOp.foot, h m (.inl rfl), h k (.inr rfl), and_self]
  | len m => simp only [MOp.xs, List.mem_singleton, forall_eq] at h; simp only [MOp.q, MOp.foot, h, and_self]
  | range m => simp only [MOp.xs, List.mem_singleton, forall_eq] at h; simp only [MOp.q, MOp.foot, h, and_self]
  | next m => simp only [MOp.xs, List.mem_singleton, forall_eq] at h; simp only [MOp.q, MOp.foot, h, and_self]
  | entry m => simp only [MOp.xs, List.mem_singleton, forall_eq] at h; simp only [MOp.q, MOp.foot, h, and_self]
  | delw kk m k it => simp only [MOp.xs, List.mem_cons, List.not_mem_nil, or_false] at h; simp only [MOp.q, MOp.foot, h m (.inl rfl), h it (.inr (.inr rfl)), and_self]
  | copyS d s => simp only [MOp.xs, List.mem_cons, List.not_mem_nil, or_false] at h; simp only [MOp.q, MOp.foot, h d (.inl rfl), and_self]
  | copy e d s => simp only [MOp.xs, List.mem_cons, List.not_mem_nil, or_false] at h; simp only [MOp.q, MOp.foot, h d (.inl rfl), h s (.inr rfl), and_self]
theorem AOp.q_congr {P : Program} {ev ev' : AX → AV} {η : Et} {p : Nat} {K : AV → Ef → Prop} {o : AOp} (h : ∀ x ∈ o.xs, ev x = ev' x) : o.q P ev η p K = o.q P ev' η p K ∧ o.foot ev = o.foot ev' := by
  cases o with
  | m o => exact MOp.q_congr h
  | p o => simp only [AOp.q]; exact ⟨POp.run_congr h, rfl⟩
  | v o => simp only [AOp.q]; exact ⟨VOp.run_congr h, rfl⟩
  | nq _ _ => exact ⟨rfl, rfl⟩
  | h o => exact HOp.q_congr h
  | d o =>
    simp only [AOp.q]
    refine ⟨DOp.run_congr h, ?_⟩
    cases o with
    | asub e n x lo hi => simp only [AOp.foot, DOp.foot]; rw [h x (by simp [AOp.xs, DOp.xs])]
    | sl2s x => simp only [AOp.foot, DOp.foot]; rw [h x (by simp [AOp.xs, DOp.xs])]
    | _ => rfl
  | l o =>
    simp only [AOp.q]
    refine ⟨LOp.run_congr h, ?_⟩
    cases o with
    | append e bytes s x => simp only [AOp.foot, LOp.foot]; rw [h s (by simp [AOp.xs, LOp.xs]), h x (by simp [AOp.xs, LOp.xs])]
    | appendS bytes s x => simp only [AOp.foot, LOp.foot]; rw [h s (by simp [AOp.xs, LOp.xs])]
    | appendF e bytes s x => simp only [AOp.foot, LOp.foot]; rw [h s (by simp [AOp.xs, LOp.xs]), h x (by simp [AOp.xs, LOp.xs])]
    | _ => rfl
  | call f args =>
    have h : ∀ x ∈ args, ev x = ev' x := h
    simp only [AOp.q, AOp.foot]; rw [List.map_congr_left (f := ev) (g := ev') h]; exact ⟨rfl, rfl⟩
  | callv x args =>
    simp only [AOp.q, AOp.foot]
    rw [List.map_congr_left (f := ev) (g := ev') (fun y hy => h y (by simp only [AOp.xs]; exact List.mem_cons_of_mem _ hy)), h x (by simp [AOp.xs])]
    exact ⟨rfl, rfl⟩

theorem YA_put {P : Program} {q : AO} {p d : Nat} {σ : Sg} {η : Et} {u v : AV} {b : Ef} {F : List Nat} (h : q.reads d = false) : YA P q p (ups σ (some d) u) η v b F = YA P q p σ η v b F := by
  simp only [AO.reads, Bool.or_eq_false_iff] at h
  obtain ⟨h1, h2⟩ := h
  have e1 : ∀ x ∈ q.op.xs, AX.evs (ups σ (some d) u) x = AX.evs σ x := fun x hx => by
    have := List.any_eq_false.1 h1 x hx
    cases x with
    | c v => rfl
    | g n => rfl
    | t n =>
      simp [AX.is] at this
      simp only [AX.evs, ups]; rw [if_neg (fun e => this e.symm)]
  have e2 : ∀ s want, q.guard = some (s, want) → ups σ (some d) u s = σ s := fun s want hg => by
    rw [hg] at h2; simp at h2
    simp only [ups]; rw [if_neg (fun e => h2 e.symm)]
  unfold YA
  rw [(AOp.q_congr e1).1, (AOp.q_congr (P := P) (η := η) (p := p) (K := fun _ _ => True) e1).2]
  apply propext
  constructor
  · rintro (⟨hg, hq⟩ | ⟨⟨s, want, h3, h4⟩, h6⟩)
    · refine .inl ⟨?_, hq⟩
      rcases hg with hg | ⟨s, want, h3, h4⟩
      · exact .inl hg
      · exact .inr ⟨s, want, h3, by rw [← e2 s want h3]; exact h4⟩
    · exact .inr ⟨⟨s, want, h3, by rw [← e2 s want h3]; exact h4⟩, h6⟩
  · rintro (⟨hg, hq⟩ | ⟨⟨s, want, h3, h4⟩, h6⟩)
    · refine .inl ⟨?_, hq⟩
      rcases hg with hg | ⟨s, want, h3, h4⟩
      · exact .inl hg
      · exact .inr ⟨s, want, h3, by rw [e2 s want h3]; exact h4⟩
    · exact .inr ⟨⟨s, want, h3, by rw [e2 s want h3]; exact h4⟩, h6⟩

/-- Two operations that do not look at each other's temporaries. -/
def apartA (q r : AO) : Bool := (match q.dst with | some d => !r.reads d && !(r.dst == some d) | none => true) && (match r.dst with | some d => !q.reads d | none => true)
theorem apartA_left {P : Program} {q r : AO} (h : apartA q r = true) {p : Nat} {σ : Sg} {η : Et} {u v : AV} {b : Ef} {F : List Nat} : YA P r p (ups σ q.dst u) η v b F = YA P r p σ η v b F := by
  simp only [apartA, Bool.and_eq_true] at h
  cases hd : q.dst with
  | none => rfl
  | some d => rw [hd] at h; simp at h; exact YA_put h.1.1
theorem apartA_right {P : Program} {q r : AO} (h : apartA q r = true) {p : Nat} {σ : Sg} {η : Et} {u v : AV} {b : Ef} {F : List Nat} : YA P q p (ups σ r.dst u) η v b F = YA P q p σ η v b F := by
  simp only [apartA, Bool.and_eq_true] at h
  cases hd : r.dst with
  | none => rfl
  | some d => rw [hd] at h; simp at h; exact YA_put h.2
theorem apartA_comm {q r : AO} (h : apartA q r = true) (σ : Sg) (u v : AV) : ups (ups σ q.dst u) r.dst v = ups (ups σ r.dst v) q.dst u := by
  simp only [apartA, Bool.and_eq_true] at h
  cases hd : q.dst with
  | none => rfl
  | some d =>
    cases he : r.dst with
    | none => rfl
    | some e =>
      rw [hd, he] at h; simp at h
      funext t
      simp only [ups]
      by_cases h1 : e = t
      · by_cases h2 : d = t
        · exact absurd (h1.trans h2.symm) h.1.2
        · simp [h1, h2]
      · by_cases h2 : d = t <;> simp [h1, h2]
/-! #### All orders -/
section
variable {P : Program} {dep : List (Nat × Nat)} {md : Region.Mode} {ops : Array Oper} {nx : Nat} {qs : List AO} {m : Nat}

/-- What is ready is of the first part, until that is done. -/
def Early (md : Region.Mode) (ops : Array Oper) (m : Nat) : Prop := ∀ listed, HeadInv md ops m listed → ∀ i, i < m → listed.getD i true = false → ∀ t, m ≤ t → t ∉ Region.ready md ops listed
/-- The pairs that are said to be ordered, are. -/
def Deps (md : Region.Mode) (ops : Array Oper) (m : Nat) (dep : List (Nat × Nat)) : Prop := ∀ i j, (i, j) ∈ dep → ∀ listed, HeadInv md ops m listed → j ∈ Region.ready md ops listed → listed.getD i false = true

def qAny (P : Program) (dep : List (Nat × Nat)) (md : Region.Mode) (ops : Array Oper) (nx : Nat) (qs : List AO) (m : Nat) (T : Array Bool → Sg → Et → Prop) : Nat → Array Bool → List En → Sg → Et → Prop
  | 0, listed, _, σ, η => T listed σ η
  | f + 1, listed, L, σ, η => Region.ready md ops listed ≠ [] ∧ ∀ i ∈ Region.ready md ops listed, i < m ∧ ∃ q, qs[i]? = some q ∧ qOp P dep q i (nx + i) (qAny P dep md ops nx qs m T f (listed.setIfInBounds i true)) L σ η

theorem qAny_less {T : Array Bool → Sg → Et → Prop} : ∀ (f : Nat) (listed : Array Bool) (L L' : List En) (σ : Sg) (η : Et), (∀ e, e ∈ L → e ∈ L') → qAny P dep md ops nx qs m T f listed L' σ η → qAny P dep md ops nx qs m T f listed L σ η
  | 0, _, _, _, _, _, _, h => h
  | f + 1, listed, L, L', σ, η, hs, h => by
    refine ⟨h.1, fun i hi => ?_⟩
    obtain ⟨h1, q, h2, v, b, F, h3, h4, h5⟩ := h.2 i hi
    refine ⟨h1, q, h2, v, b, F, h3, fun e he => h4 e (hs e he), qAny_less f _ _ _ _ _ (fun e he => ?_) h5⟩
    rcases List.mem_cons.1 he with rfl | he
    · exact List.mem_cons_self
    · exact List.mem_cons_of_mem _ (hs e he)

theorem unordered (hD : Deps md ops m dep) {i j : Nat} {listed : Array Bool} (inv : HeadInv md ops m listed) (hi : listed.getD i true = false) (hj : j ∈ Region.ready md ops listed) : memP i j dep = false := by
  cases h : memP i j dep with
  | false => rfl
  | true =>
    have := hD i j (memP_spec h) listed inv hj
    rw [getD_both hi] at this
    cases this

theorem qAny_first {i : Nat} {q : AO} {v : AV} {b : Ef} {F : List Nat} {T : Array Bool → Sg → Et → Prop} (hD : Deps md ops m dep) (hq : qs[i]? = some q) (hE : Early md ops m) (hin : i < m)
    (hdone : ∀ listed σ η, T listed σ η → ∀ j ∈ Region.ready md ops listed, m ≤ j) :
    ∀ (f : Nat) (listed : Array Bool) (L : List En) (σ : Sg) (η : Et), HeadInv md ops m listed →
      (∀ j r, qs[j]? = some r → j < m → j ≠ i → listed.getD j true = false → (∀ oj, ops[j]? = some oj → ∀ e ∈ oj.after, Region.binds md e = true → e.on ≠ i) → apartA q r = true) →
      i ∈ Region.ready md ops listed → YA P q (nx + i) σ η v b F → (∀ e ∈ L, okEn dep e ⟨i, F, keys b⟩ = true) →
      qAny P dep md ops nx qs m T f (listed.setIfInBounds i true) (⟨i, F, keys b⟩ :: L) (ups σ q.dst v) (upe η b) → qAny P dep md ops nx qs m T (f + 1) listed L σ η := by
  intro f
  induction f with
  | zero =>
    intro listed L σ η inv _ hr hy hck H
    have hun := (mem_ready.1 hr).1
    refine ⟨fun h => (by rw [h] at hr; cases hr), fun j hj => ?_⟩
    have hjm : j < m := by
      rcases Nat.lt_or_ge j m with h | h
      · exact h
      · exact absurd hj (hE listed inv i hin hun j h)
    refine ⟨hjm, ?_⟩
    by_cases hji : j = i
    · subst hji; exact ⟨q, hq, v, b, F, hy, hck, H⟩
    · have := hdone _ _ _ H j (ready_mono hj hji); omega
  | succ f ih =>
    intro listed L σ η inv hfree hr hy hck H
    have hun := (mem_ready.1 hr).1
    refine ⟨fun h => (by rw [h] at hr; cases hr), fun j hj => ?_⟩
    have hjm : j < m := by
      rcases Nat.lt_or_ge j m with h | h
      · exact h
      · exact absurd hj (hE listed inv i hin hun j h)
    refine ⟨hjm, ?_⟩
    by_cases hji : j = i
    · subst hji; exact ⟨q, hq, v, b, F, hy, hck, H⟩
    · obtain ⟨_, r, hrq, v', b', F', hy', hck', hK⟩ := H.2 j (ready_mono hj hji)
      obtain ⟨hjun, oj, hoj, hall⟩ := mem_ready.1 hj
      have hap : apartA q r = true := hfree j r hrq hjm hji hjun fun oj' hoj' e he hb heq => by
        rw [hoj] at hoj'; cases hoj'
        have h1 := hall e he hb
        rw [heq, getD_both hun] at h1
        cases h1
      have hij := hck' _ List.mem_cons_self
      have hd : disj (keys b) F' = true ∧ disj (keys b') F = true := by
        have := hij
        simp only [okEn, unordered hD inv hun hj, unordered hD inv hjun hr, Bool.or_false, Bool.and_eq_true] at this
        exact this
      have hy1 : YA P r (nx + j) σ η v' b' F' := by
        rw [apartA_left hap] at hy'
        exact hy'.local fun k hk => upe_off fun hk' => disj_spec hd.1 k hk' hk
      have hy2 : YA P q (nx + i) (ups σ r.dst v') (upe η b') v b F := by
        rw [apartA_right hap]
        exact hy.local fun k hk => (upe_off fun hk' => disj_spec hd.2 k hk' hk).symm
      have hW : ∀ k, k ∈ keys b → k ∈ keys b' → False := fun k h1 h2 => by
        rcases hy.keys k h1 with h3 | h3
        · exact disj_spec hd.2 k h2 h3
        · rcases hy1.keys k h2 with h4 | h4
          · exact disj_spec hd.1 k h1 h4
          · omega
      refine ⟨r, hrq, v', b', F', hy1, fun e he => hck' e (List.mem_cons_of_mem _ he), ?_⟩
      refine ih (listed.setIfInBounds j true) _ _ _ (inv.set hj hjm) (fun k rk hk hkm hki hkun hno => hfree k rk hk hkm hki ?_ hno) (ready_mono hr (Ne.symm hji)) hy2 ?_ ?_
      · by_cases hjk : j = k
        · subst hjk; exact hjun
        · rw [getD_set_ne true hjk] at hkun; exact hkun
      · intro e he
        rcases List.mem_cons.1 he with rfl | he
        · exact okEn_symm hij
        · exact hck e he
      · rw [Array.setIfInBounds_comm _ _ hji, ← apartA_comm hap, ← upe_swap hW]
        refine qAny_less f _ _ _ _ _ (fun e he => ?_) hK
        simp only [List.mem_cons] at he ⊢
        rcases he with h | h | h
        · exact .inr (.inl h)
        · exact .inl h
        · exact .inr (.inr h)

/-- The check of a region's order, the first m operations unordered but for their edges. -/
def freeQ (md : Region.Mode) (ops : Array Oper) (qs : List AO) (m : Nat) (listed : Array Bool) (i : Nat) : Bool := match qs[i]? with
  | none => false
  | some q => (List.range m).all fun j => j == i || listed.getD j true || (match ops[j]? with
    | some oj => oj.after.any fun e => Region.binds md e && e.on == i
    | none => false) || (match qs[j]? with
    | some r => apartA q r
    | none => true)
theorem freeQ_spec {listed : Array Bool} {i : Nat} {q : AO} (hq : qs[i]? = some q) (h : freeQ md ops qs m listed i = true) (j : Nat) (r : AO) (hr : qs[j]? = some r) (hj : j < m) (hne : j ≠ i) (hun : listed.getD j true = false)
    (hno : ∀ oj, ops[j]? = some oj → ∀ e ∈ oj.after, Region.binds md e = true → e.on ≠ i) : apartA q r = true := by
  simp only [freeQ, hq, List.all_eq_true, List.mem_range] at h
  have h1 := h j hj
  simp only [hr, Bool.or_eq_true, beq_iff_eq, hne, false_or, hun, Bool.false_eq_true] at h1
  rcases h1 with h1 | h1
  · cases hoj : ops[j]? with
    | none => simp [hoj] at h1
    | some oj =>
      simp only [hoj] at h1
      obtain ⟨e, he, hb⟩ := Array.any_eq_true'.1 h1
      simp only [Bool.and_eq_true, beq_iff_eq] at hb
      exact absurd hb.2 (hno oj hoj e he hb.1)
  · exact h1
def lexQ (md : Region.Mode) (ops : Array Oper) (qs : List AO) (m g : Nat) : Nat → Nat → Array Bool → Bool
  | 0, k, listed => Region.seqB md ops g k listed
  | f + 1, k, listed => (Region.ready md ops listed).contains k && freeQ md ops qs m listed k && lexQ md ops qs m g f (k + 1) (listed.setIfInBounds k true)
/-- An edge, or a way of edges. -/
def reachB (md : Region.Mode) (ops : Array Oper) (i : Nat) : Nat → Nat → Bool
  | 0, _ => false
  | f + 1, j => match ops[j]? with
    | some o => o.after.any fun e => Region.binds md e && (e.on == i || reachB md ops i f e.on)
    | none => false
def depsB (md : Region.Mode) (ops : Array Oper) : List (Nat × Nat) → Bool
  | [] => true
  | (i, j) :: r => reachB md ops i 8 j && depsB md ops r
theorem reachB_listed {i : Nat} {listed : Array Bool} (inv : HeadInv md ops m listed) : ∀ {f j : Nat}, reachB md ops i f j = true → listed.getD j false = true → listed.getD i false = true
  | 0, _, h, _ => by simp [reachB] at h
  | f + 1, j, h, hj => by
    simp only [reachB] at h
    cases ho : ops[j]? with
    | none => simp [ho] at h
    | some o =>
      simp only [ho] at h
      obtain ⟨e, he, hb⟩ := Array.any_eq_true'.1 h
      simp only [Bool.and_eq_true, Bool.or_eq_true, beq_iff_eq] at hb
      have hl := inv.closed j o ho hj e he hb.1
      rcases hb.2 with rfl | hb
      · exact hl
      · exact reachB_listed inv hb hl
theorem depsB_spec : ∀ {dep : List (Nat × Nat)}, depsB md ops dep = true → Deps md ops m dep
  | [], _, i, j, h => by cases h
  | (a, b) :: r, h, i, j, hm => by
    simp only [depsB, Bool.and_eq_true] at h
    rcases List.mem_cons.1 hm with hm | hm
    · simp only [Prod.mk.injEq] at hm
      obtain ⟨rfl, rfl⟩ := hm
      intro listed inv hj
      obtain ⟨_, o, ho, hall⟩ := mem_ready.1 hj
      have h1 : (o.after.any fun e => Region.binds md e && (e.on == i || reachB md ops i 7 e.on)) = true := by
        have := h.1
        rw [reachB, ho] at this
        exact this
      obtain ⟨e, he, hb⟩ := Array.any_eq_true'.1 h1
      simp only [Bool.and_eq_true, Bool.or_eq_true, beq_iff_eq] at hb
      have hl := hall e he hb.1
      rcases hb.2 with rfl | hb
      · exact hl
      · exact reachB_listed inv hb hl
    · exact depsB_spec h.2 i j hm
def drawOk (md : Region.Mode) (ops : Array Oper) (dep : List (Nat × Nat)) (qs : List AO) (m : Nat) : Bool :=
  (decide (m = ops.size) || (decide (m < ops.size) && Region.sinkB md ops m && Region.chainB md ops m)) && depsB md ops dep && lexQ md ops qs m (ops.size - m) m 0 (Array.replicate ops.size false)

theorem early_of (h : (decide (m = ops.size) || (decide (m < ops.size) && Region.sinkB md ops m && Region.chainB md ops m)) = true) : Early md ops m := by
  simp only [Bool.or_eq_true, decide_eq_true_eq, Bool.and_eq_true] at h
  intro listed inv i hi hun t ht hr
  rcases h with h | ⟨⟨h1, h2⟩, h3⟩
  · obtain ⟨_, o, ho, _⟩ := mem_ready.1 hr
    have := (Array.getElem?_eq_some_iff.1 ho).1
    omega
  · exact tail_waits h2 h3 h1 inv _ i rfl hi hun t ht hr

theorem qAny_lex {T : Sg → Et → Prop} {g : Nat} (hD : Deps md ops m dep) (hE : Early md ops m) (hm : m ≤ qs.length) : ∀ (l : List AO) (k : Nat) (listed : Array Bool) (L : List En) (σ : Sg) (η : Et), (∀ j, j < l.length → l[j]? = qs[k + j]?) → k + l.length = m → HeadInv md ops m listed →
    lexQ md ops qs m g l.length k listed = true → wpQ P dep T l k (nx + k) L σ η →
    qAny P dep md ops nx qs m (fun listed' σ η => Region.seqB md ops g m listed' = true ∧ T σ η) l.length listed L σ η
  | [], k, listed, L, σ, η, _, hk, _, hB, h => by
    have : k = m := by simpa using hk
    subst this
    exact ⟨by simpa [lexQ] using hB, h⟩
  | q :: l, k, listed, L, σ, η, hl, hk, inv, hB, h => by
    have h0 : qs[k]? = some q := by simpa using (hl 0 (by simp)).symm
    simp only [List.length_cons, lexQ, Bool.and_eq_true] at hB
    obtain ⟨⟨hr, hf⟩, hB'⟩ := hB
    have hkm : k < m := by simp only [List.length_cons] at hk; omega
    have hr' : k ∈ Region.ready md ops listed := by simpa using hr
    obtain ⟨v, b, F, hy, hck, hK⟩ := h
    exact qAny_first hD h0 hE hkm (fun listed' _ _ hL => seqB_ready hL.1) l.length listed L σ η inv (freeQ_spec h0 hf) hr' hy hck
      (qAny_lex hD hE hm l (k + 1) _ _ _ _ (fun j hj => by have := hl (j + 1) (by simp; omega); simpa [Nat.add_assoc, Nat.add_comm 1 j] using this) (by simp only [List.length_cons] at hk; omega) (inv.set hr' hkm) hB' (by rw [← Nat.add_assoc]; exact hK))
end
end Go.Eng

namespace Go.Eng
open Go

variable [Globs]
theorem Own.ext {μ : Pos} {H H' : Heap} (h : H.get = H'.get) {b : Nat} (ho : Own μ H b) : Own μ H' b := by
  obtain ⟨k, s, h1, h2⟩ := ho; exact ⟨k, s, by rw [← h]; exact h1, h2⟩
theorem Rel.ext {M : Mem} {μ : Pos} {H H' : Heap} {w : World} (R : Rel M μ H w) (h : H.get = H'.get) (hn : H.nx = H'.nx) : Rel M μ H' w :=
  ⟨R.glob, fun k hk => R.dom k (by omega), fun k hk => by rw [← h]; exact R.top k (by omega), fun k cs hk => R.cells k cs (by rw [h]; exact hk), fun k es hk => R.maps k es (by rw [h]; exact hk), fun j k l c hj => by rw [← h]; exact R.iters j k l c (by rw [h]; exact hj), fun j st id fr hj => R.loops j st id fr (by rw [h]; exact hj),
    fun i j b s t hi hj => R.inj i j b s t (by rw [h]; exact hi) (by rw [h]; exact hj), R.imm, fun k b s hk => R.apart k b s (by rw [h]; exact hk)⟩
theorem Marks.ext {w0 w : World} {ds : List Deferred} {μ : Pos} {H H' : Heap} (m : Marks w0 ds μ H w) (h : H.get = H'.get) : Marks w0 ds μ H' w := by
  obtain ⟨rs, h1, h2, h3⟩ := m
  exact ⟨rs, h1, h2, fun r hr => ⟨(h3 r hr).1, (h3 r hr).2.1, fun ho => (h3 r hr).2.2 (ho.ext h.symm)⟩⟩
theorem RelF.ext {N : Nat} {M : Mem} {μ : Pos} {fr fr' : Fr} {tmps : Array Value} (F : RelF N M μ fr tmps) (h : look fr = look fr') : RelF N M μ fr' tmps := ⟨F.glob, F.size, fun t => by rw [← h]; exact F.slot t⟩
theorem Grow.ext {n : Nat} {M M' : Mem} {μ μ' : Pos} {H H' H'' : Heap} {w w' : World} (G : Grow n M μ H w M' μ' H' w') (h : H'.get = H''.get) : Grow n M μ H w M' μ' H'' w' :=
  ⟨G.mem, G.pin, G.keep, fun b hb => G.own b (hb.ext h.symm), G.fresh⟩

/-- Does it write a map? -/
def AO.isSet (q : AO) : Bool := match q.op with
  | .m (.set ..) => true
  | .m (.del ..) => true
  | _ => false
def noIts (η : Nat → AB) (n : Nat) : Bool := Nat.rec true (fun i ih => match η i with
  | .iter _ _ _ => false
  | _ => ih) n
theorem noIts_succ (η : Nat → AB) (n : Nat) : noIts η (n + 1) = match η n with
  | .iter _ _ _ => false
  | _ => noIts η n := rfl
theorem noIts_spec {η : Nat → AB} : ∀ {n : Nat}, noIts η n = true → ∀ j, j < n → (η j).isIt = false
  | 0, _, j, hj => by omega
  | n + 1, h, j, hj => by
    rw [noIts_succ] at h
    split at h
    · cases h
    · rename_i hne
      rcases Nat.lt_or_eq_of_le (Nat.le_of_lt_succ hj) with h1 | h1
      · exact noIts_spec h j h1
      · subst h1
        cases he : η j with
        | iter k l c => exact absurd he (hne k l c)
        | _ => rfl
theorem noIts_of {η : Nat → AB} (h : ∀ j, (η j).isIt = false) : ∀ n, noIts η n = true
  | 0 => rfl
  | n + 1 => by
    rw [noIts_succ]
    split
    · rename_i he; have := h n; rw [he] at this; cases this
    · exact noIts_of h n
/-- A region that writes maps begins where no block walks over one. -/
def setFree (qs : List AO) (η : Nat → AB) (n : Nat) : Bool := !(qs.any AO.isSet) || noIts η n
theorem upe_noit {η : Et} {b : Ef} (hb : ∀ x ∈ b, x.2.isIt = false) (h : ∀ j, (η j).isIt = false) : ∀ j, (upe η b j).isIt = false := by
  induction b generalizing η with
  | nil => exact h
  | cons x r ih =>
    obtain ⟨k, ab⟩ := x
    refine ih (fun y hy => hb y (List.mem_cons_of_mem _ hy)) fun j => ?_
    have := hb (k, ab) (by simp)
    simp only at this ⊢
    split
    · exact this
    · exact h j
theorem YA.noit {P : Program} {q : AO} {p : Nat} {σ : Sg} {η : Et} {v : AV} {b : Ef} {F : List Nat} (h : YA P q p σ η v b F) : ∀ x ∈ b, x.2.isIt = false := by
  rcases h with ⟨_, h, _⟩ | ⟨_, _, rfl, _⟩
  · exact AOp.q_noit h
  · intro x hx; cases hx
/-- In the midst of an unordered part. -/
structure QSt (N n : Nat) (M0 : Mem) (μ0 : Pos) (Hs : Heap) (w0 : World) (nx : Nat) (m : Nat) (ns : Bool) (listed : Array Bool) (σ : Sg) (η : Et) (a : Act) (w : World) : Prop where
  noit : ns = true → ∀ j, (η j).isIt = false
  size : m ≤ listed.size
  ex : ∃ M μ fr H, look fr = σ ∧ H.get = η ∧ H.nx = nx + m ∧ Rel M μ H w ∧ RelF N M μ fr a.tmps ∧ n ≤ nx ∧ Grow n M0 μ0 Hs w0 M μ H w ∧ Marks w0 a.defers μ H w ∧ ∀ i, i < m → listed.getD i false = false → μ (nx + i) = none

section
variable {P : Program} {N n : Nat} {M0 : Mem} {μ0 : Pos} {Hs : Heap} {w0 : World} {nx : Nat} {qs : List AO} {m : Nat} {ns : Bool}

/-- One operation of the unordered part, in a world. -/
theorem q_step {ops : Array Oper} {o : Oper} {q : AO} (hok : okAO P N ops o q = true) {listed : Array Bool} {σ : Sg} {η : Et} {a : Act} {w : World} (S : QSt N n M0 μ0 Hs w0 nx m ns listed σ η a w) {i : Nat} (hi : i < m) (hun : listed.getD i true = false) (hns : q.isSet = true → ns = true)
    {v : AV} {b : Ef} {F0 : List Nat} (hy : YA P q (nx + i) σ η v b F0) {next : Act → World → Prop} {Q : Exit → Act → World → Prop}
    (hnext : ∀ a' w', QSt N n M0 μ0 Hs w0 nx m ns (listed.setIfInBounds i true) (ups σ q.dst v) (upe η b) a' w' → next a' w') :
    if Region.wanted o (yielded ops a.tmps) then o.wp P a w next Q else next (a.put o.dst undef) w := by
  simp only [okAO, Bool.and_eq_true, beq_iff_eq] at hok
  obtain ⟨⟨⟨h1, h2⟩, h3⟩, h4⟩ := hok
  obtain ⟨hit, hsize, M, μ, fr, H, rfl, rfl, hnx, R, F, hn, G0, hd, hfree⟩ := S
  have isz : i < listed.size := Nat.lt_of_lt_of_le hi hsize
  have hun' : listed.getD i false = false := getD_both hun
  have hp : μ (nx + i) = none := hfree i hi hun'
  have hit' : ns = true → ∀ j, (upe H.get b j).isIt = false := fun h => upe_noit hy.noit (hit h)
  have fin : ∀ {M' : Mem} {μ' : Pos} {H' : Heap} {w' : World} {u : Value}, Rel M' μ' H' w' → relV M' v μ' u → Mem.le M M' → Pos.le μ μ' → Grow n M μ H w M' μ' H' w' → H'.get = upe H.get b → H'.nx = H.nx →
      (∀ j, j < m → j ≠ i → listed.getD j false = false → μ' (nx + j) = none) → next (a.put o.dst u) w' := by
    intro M' μ' H' w' u R' hv hM L G hg hnx' hf
    refine hnext _ _ ⟨hit', by simpa using hsize, M', μ', put fr q.dst v, H', by rw [look_put], hg, by rw [hnx', hnx], R', ?_, hn, G0.trans G, by cases o.dst <;> exact hd.step G, fun j hj hl => ?_⟩
    · rw [← h1]; exact (F.mono hM L).put (by rw [h1]; exact h2) hv
    · by_cases hji : j = i
      · subst hji; simp [isz] at hl
      · rw [getD_set_ne false (Ne.symm hji)] at hl
        exact hf j hj hji hl
  have same : ∀ {u : Value}, relV M v μ u → b = [] → next (a.put o.dst u) w := fun hv hb => by
    subst hb
    exact fin R hv (Mem.le_refl _) (Pos.le_refl _) (Grow.refl _ _ _ _ _) rfl rfl fun j hj _ hl => hfree j hj hl
  have move : ∀ {M' : Mem} {μ' : Pos} {H' : Heap} {w' : World} {u : Value}, Rel M' μ' H' w' → relV M' v μ' u → Move M μ H w M' μ' H' w' → H'.get = upe H.get b → H'.nx = H.nx → next (a.put o.dst u) w' := fun R' hv G hg hnx' =>
    fin R' hv G.grow.mem G.le (G.grow.mono (by omega)) hg hnx' fun j hj _ hl => by rw [G.grow.pin _ (by omega)]; exact hfree j hj hl
  have lay : ∀ {l : List AV} {c : Array Value} {el : TypeId}, [(nx + i, AB.cells l)] = b → .ptr (nx + i) 0 = v → relP M μ l c.toList → (execOp a.eval o).run P w = .ok (.value (.pointer (some ⟨w.heap.size, 0, none⟩))) (w.alloc (.cells c el)) → o.wp P a w next Q := by
    intro l c el hb hv hP hrun
    subst hb; subst hv
    obtain ⟨R', L, G⟩ := R.lay (p := nx + i) (el := el) (by omega) hp hP
    simp only [Oper.wp, hrun, Oper.upon]
    refine fin R' (by simp only [relV]; exact ⟨_, _, Pos.put_same _ _ _, rfl⟩) (Mem.le_refl _) L (G n (by omega)) ?_ rfl (fun j hj hji hl => by rw [Pos.put_other _ _ (by omega)]; exact hfree j hj hl)
    funext k; simp only [Heap.get_set, upe]
  have call : ∀ {f : FuncId} {vs : Array Value} {as : List AV}, (execOp a.eval o).run P w = (callFunc f vs).run P w → relL M as μ vs.toList → qcallK P H.get f as (fun r => r = v ∧ [] = b) → o.wp P a w next Q := by
    intro f vs as he hl hc
    obtain ⟨c5, hc⟩ := qcallK_call hc
    unfold Oper.wp
    rw [he, run_callFunc hc.ok]
    simp only [Oper.upon]
    refine (hc.run M μ w vs R hl).mono ?_
    rintro e w' ⟨u, M', μ', H', c, rfl, R', hv, G, rfl, rfl⟩
    subst c5
    exact move R' hv G rfl rfl
  have hop : ∀ {ho : HOp} {K : AV → Heap → Prop}, okH P o.op ho = true → ho.run (AX.ev fr) H K → (∀ c H', K c H' → c = v ∧ H'.get = upe H.get b ∧ H'.nx = H.nx) → o.wp P a w next Q := by
    intro ho K hok hr hK
    obtain ⟨nxt, u, w', e1, e2, M', μ', H', c, R', hv, G, hk⟩ := hop_sound hok R F hr
    obtain ⟨rfl, e3, e4⟩ := hK _ _ hk
    rcases e2 with rfl | ⟨rfl, rfl⟩
    · simp only [Oper.wp, e1, Oper.upon]; exact move R' hv G e3 e4
    · simp only [Oper.wp, e1, Oper.upon]; exact move R' hv G e3 e4
  have wanted : ∀ s want c, q.guard = some (s, want) → look fr s = .bool c → Region.wanted o (yielded ops a.tmps) = (c == want) := by
    intro s want c hg hc
    cases hgo : o.guard with
    | none => simp [hgo, hg, okGuard] at h3
    | some x =>
      obtain ⟨j, b'⟩ := x
      simp only [hgo, hg, okGuard, Bool.and_eq_true, beq_iff_eq] at h3
      obtain ⟨rfl, h3⟩ := h3
      split at h3
      · rename_i oj hoj
        simp at h3
        have := F.slot s
        rw [hc] at this
        have := rel_bool this
        have hs : a.tmps[s]? = some (.bool c) := by
          rw [Array.getD_eq_getD_getElem?] at this
          cases hq : a.tmps[s]? with
          | none => rw [hq] at this; simp [undef] at this
          | some u => rw [hq] at this; simp at this; rw [this]
        have hy : yielded ops a.tmps j = some c := by simp only [yielded, hoj, Option.bind_some, h3]; rw [hs]
        simp only [Region.wanted, hgo, hy]
        cases c <;> cases b' <;> rfl
      · cases h3
  rcases hy with ⟨hg, hq, _⟩ | ⟨⟨s, want, hg, hoff⟩, rfl, rfl, _⟩
  · have hw : Region.wanted o (yielded ops a.tmps) = true := by
      rcases hg with hg | ⟨s, want, hg, hc⟩
      · cases hgo : o.guard with
        | none => exact wanted_none hgo _
        | some x => obtain ⟨j, b'⟩ := x; simp [hgo, hg, okGuard] at h3
      · rw [wanted s want want hg hc]; simp
    rw [if_pos hw]
    rw [evs_look] at hq
    unfold okOp at h4
    split at h4
    · rename_i p hp
      rw [hp] at hq
      simp only [AOp.q] at hq
      have mop : ∀ {K : AV → Heap → Prop}, p.run (AX.ev fr) H K → (∀ c H', K c H' → c = v ∧ H'.get = upe H.get b ∧ H'.nx = H.nx) → o.wp P a w next Q := by
        intro K hr hK
        obtain ⟨nxt, u, w', e1, e2, M', μ', H', c, R', hv, G, hk⟩ := mop_sound h4 R F hr
        obtain ⟨rfl, e3, e4⟩ := hK _ _ hk
        rcases e2 with rfl | ⟨rfl, rfl⟩
        · simp only [Oper.wp, e1, Oper.upon]; exact move R' hv G e3 e4
        · simp only [Oper.wp, e1, Oper.upon]; exact move R' hv G e3 e4
      cases p with
      | mk => exact hq.elim
      | get ok kk zero m k =>
        refine mop (K := fun v' H' => (v' = v ∧ [] = b) ∧ H' = H) ?_ (fun c H' h => by obtain ⟨⟨e1, rfl⟩, rfl⟩ := h; exact ⟨e1, rfl, rfl⟩)
        simp only [MOp.q, MOp.run, mapK, and_true] at hq ⊢
        exact hq
      | len m =>
        refine mop (K := fun v' H' => (v' = v ∧ [] = b) ∧ H' = H) ?_ (fun c H' h => by obtain ⟨⟨e1, rfl⟩, rfl⟩ := h; exact ⟨e1, rfl, rfl⟩)
        simp only [MOp.q, MOp.run, mapK, and_true] at hq ⊢
        exact hq
      | set kk m k x =>
        simp only [MOp.q] at hq
        rcases mapN_spec hq with ⟨hm, h⟩ | ⟨q, es, hm, hes, h⟩
        · exact h.elim
        · simp only at h
          cases hk : (keyOk kk (AX.ev fr k) && noLoc (AX.ev fr x)) <;> simp only [hk, cond_true, cond_false] at h
          obtain ⟨es', hr, h1, h2⟩ := h.ex
          refine mop (K := fun v' H' => v' = .any ∧ H' = H.set q (.map es')) ?_ (fun c H' h => ?_)
          · have hni : noIter H.get q H.nx = true := noIter_of (fun j k l c e => by have := hit (hns (by simp only [AO.isSet, hp])) j; rw [e] at this; cases this) _
            simp only [MOp.run, mapK, hm, mapN, hes, hk, hni, Bool.and_true, cond_true]
            exact ⟨es', hr, by rw [setK_eq]; simp⟩
          · obtain ⟨rfl, rfl⟩ := h
            subst h2
            refine ⟨h1, ?_, rfl⟩
            funext j; simp only [Heap.get_set, upe]
      | del kk m k =>
        simp only [MOp.q] at hq
        rcases mapN_spec hq with ⟨hm, h⟩ | ⟨q, es, hm, hes, h⟩
        · exact h.elim
        · simp only at h
          cases hk : keyOk kk (AX.ev fr k) <;> simp only [hk, cond_true, cond_false] at h
          obtain ⟨es', hr, h1, h2⟩ := h.ex
          refine mop (K := fun v' H' => v' = .tuple [] ∧ H' = H.set q (.map es')) ?_ (fun c H' h => ?_)
          · have hni : noIter H.get q H.nx = true := noIter_of (fun j k l c e => by have := hit (hns (by simp only [AO.isSet, hp])) j; rw [e] at this; cases this) _
            simp only [MOp.run, mapK, hm, mapN, hes, hk, hni, Bool.and_true, cond_true]
            exact ⟨es', hr, by rw [setK_eq]; simp⟩
          · obtain ⟨rfl, rfl⟩ := h
            subst h2
            refine ⟨h1, ?_, rfl⟩
            funext j; simp only [Heap.get_set, upe]
      | range m => exact hq.elim
      | next m => exact hq.elim
      | entry m => exact hq.elim
      | delw _ _ _ _ => exact hq.elim
      | copyS _ _ => exact hq.elim
      | copy e d s =>
        simp only [MOp.q] at hq
        split at hq
        · rename_i k off n cap e' hd
          split at hq
          · rename_i cs hcs
            obtain ⟨ds, m, ⟨he, hbr⟩, h2⟩ := srcK_det hq
            by_cases hmn : m ≤ n
            · obtain ⟨e1, e2, e3⟩ := lputK_spec (hbr.yes (by simpa using hmn))
              refine mop (K := fun v' H' => v' = .int .i64 m ∧ H' = H.set k (.cells (cs.take off ++ ds ++ cs.drop (off + ds.length)))) ?_ (fun c H' h => ?_)
              · simp only [MOp.run, hd, hcs]
                exact srcK_mono (fun _ _ ⟨q1, q2⟩ => by subst q1; subst q2; exact ⟨he, .ofT (by simpa using hmn) (by unfold cpK; exact lputK_eq e1 e2 (by rw [setK_eq]; exact ⟨rfl, rfl⟩))⟩) h2
              · obtain ⟨rfl, rfl⟩ := h
                refine ⟨e3.1, ?_, rfl⟩
                rw [← e3.2]
                funext j; simp only [Heap.get_set, upe]
            · obtain ⟨e1, e2, e3⟩ := lputK_spec (hbr.no (by simpa using hmn))
              refine mop (K := fun v' H' => v' = .int .i64 n ∧ H' = H.set k (.cells (cs.take off ++ ds.take (n * e) ++ cs.drop (off + (ds.take (n * e)).length)))) ?_ (fun c H' h => ?_)
              · simp only [MOp.run, hd, hcs]
                exact srcK_mono (fun _ _ ⟨q1, q2⟩ => by subst q1; subst q2; exact ⟨he, .ofF (by simpa using hmn) (by unfold cpK; exact lputK_eq e1 e2 (by rw [setK_eq]; exact ⟨rfl, rfl⟩))⟩) h2
              · obtain ⟨rfl, rfl⟩ := h
                refine ⟨e3.1, ?_, rfl⟩
                rw [← e3.2]
                funext j; simp only [Heap.get_set, upe]
          · exact hq.elim
        · exact hq.elim
    · rename_i p hp
      rw [hp] at hq
      simp only [AOp.q] at hq
      obtain ⟨u, c, e1, e2, e3, e4⟩ := pop_sound h4 F hq w
      subst e3
      simp only [Oper.wp, e1, Oper.upon]
      exact same e2 e4.symm
    · rename_i p hp
      rw [hp] at hq
      simp only [AOp.q] at hq
      obtain ⟨u, c, e1, e2, e3, e4⟩ := vop_sound h4 F hq w
      subst e3
      simp only [Oper.wp, e1, Oper.upon]
      exact same e2 e4.symm
    · rename_i p hp
      rw [hp] at hq
      simp only [AOp.q] at hq
      cases p with
      | load agg nn x =>
        refine hop (K := fun v' H' => (v' = v ∧ [] = b) ∧ H' = H) h4 ?_ (fun c H' h => by obtain ⟨⟨e1, rfl⟩, rfl⟩ := h; exact ⟨e1, rfl, rfl⟩)
        simp only [HOp.q, HOp.run, and_true] at hq ⊢
        exact hq
      | alloc zero =>
        simp only [HOp.q] at hq
        unfold okH at h4
        split at h4
        · rename_i heq; cases heq
        · rename_i t zero' hop heq
          cases heq
          unfold zeroOk at h4
          split at h4
          · rename_i ti hti
            split at h4
            · rename_i z hz
              refine lay hq.2 hq.1 (c := z.cells) (el := t) (relP_of_relL (rel_okVs h4)) ?_
              simp only [execOp, hop, Instr.alloc, zeroValue, Sem.run_bind, run_typeInfo hti, Result.andThen_ok, hz, Sem.run_pure, newVar, newRow, run_newObj]; rfl
            · cases h4
          · cases h4
        · rename_i heq; cases heq
        · rename_i heq; cases heq
        · cases h4
      | box x =>
        simp only [HOp.q] at hq
        split at hq
        · rename_i l hl
          unfold okH at h4
          split at h4
          · rename_i heq; cases heq
          · rename_i heq; cases heq
          · rename_i t xo x' hop heq
            cases heq
            refine lay hq.2 hq.1 (c := (a.eval xo).cells) (el := t) (relP_of_relL (rel_cellsOf hl (rel_okX F h4))) ?_
            simp only [execOp, hop, Instr.box, Sem.run_bind, Result.andThen_ok, Sem.run_pure, newVar, newRow, run_newObj]; rfl
          · rename_i heq; cases heq
          · cases h4
        · exact hq.elim
      | store nn p x =>
        simp only [HOp.q] at hq
        split at hq
        · rename_i k off hpk
          split at hq
          · rename_i cs hcs
            split at hq
            · rename_i l hl
              refine hop (K := fun v' H' => ∃ cs', (v' = .any ∧ H' = H.set k (.cells cs')) ∧ (AV.any = v ∧ [(k, AB.cells cs')] = b)) h4 ?_ (fun c H' h => ?_)
              · simp only [HOp.run, hpk, hcs, hl]
                cases hb : Nat.beq l.length nn with
                | false => rw [hb] at hq; exact hq.elim
                | true =>
                  rw [hb] at hq
                  simp only [cond_true] at hq ⊢
                  obtain ⟨e1, e2, e3⟩ := lputK_spec hq
                  exact lputK_eq e1 e2 ⟨_, ⟨trivial, rfl⟩, e3⟩
              · obtain ⟨cs', ⟨rfl, rfl⟩, rfl, rfl⟩ := h
                refine ⟨rfl, ?_, rfl⟩
                funext j; simp only [Heap.get_set, upe]
            · exact hq.elim
          · exact hq.elim
        · exact hq.elim
    · rename_i p hp
      rw [hp] at hq
      simp only [AOp.q] at hq
      obtain ⟨v', ⟨rfl, e4⟩, ⟨u, w', M', e1, R', hv, G⟩⟩ := dop_sound h4 F R (Hr := H.get) (fun _ _ h => h) hq
      subst e4
      simp only [Oper.wp, e1, Oper.upon]
      exact move R' hv G rfl rfl
    · rename_i p hp
      rw [hp] at hq
      simp only [AOp.q] at hq
      obtain ⟨v', l, kl, ⟨rfl, e4⟩, ⟨u, w', μ', e1, R', hv, L, G, hj⟩⟩ := lop_sound h4 F R (Hr := H.get) (fun _ _ h => h) (p := nx + i) (by omega) (by assumption) hq
      subst e4
      simp only [Oper.wp, e1, Oper.upon]
      refine fin R' hv (Mem.le_refl _) L (G n (by omega)) ?_ ?_ (fun j hj' hji hl => by rw [hj _ (by omega)]; exact hfree j hj' hl)
      · rw [← get_lay]; cases kl <;> rfl
      · cases kl <;> rfl
    · rename_i g args _ f args' hop hp
      rw [hp] at hq
      simp only [Bool.and_eq_true, beq_iff_eq] at h4
      obtain ⟨rfl, h4⟩ := h4
      simp only [AOp.q, fvs_eq] at hq
      refine call (f := f) (vs := args.map a.eval) ?_ (by simpa using rel_okXs F h4) hq
      simp only [execOp, hop, resolve, Act.eval, Deferred.ofValue, Sem.run_bind, Sem.run_pure, Result.andThen_ok, invoke, Array.empty_append, Array.append_empty]
    · rename_i x args _ x' args' hop hp
      rw [hp] at hq
      simp only [Bool.and_eq_true] at h4
      obtain ⟨h5, h6⟩ := h4
      simp only [AOp.q] at hq
      split at hq
      · rename_i f caps hx
        simp only [fvs_eq] at hq
        have hx' := rel_okX F h5
        rw [hx] at hx'; simp only [relV] at hx'
        obtain ⟨vs, hv, hl⟩ := hx'
        refine call (f := f) (vs := args.map a.eval ++ vs) ?_ (by simpa using relL_append (rel_okXs F h6) hl) hq
        simp only [execOp, hop, resolve, hv, Deferred.ofValue, Sem.run_bind, Sem.run_pure, Result.andThen_ok, invoke, Array.empty_append]
      · exact hq.elim
    · rename_i hp; rw [hp] at hq; exact hq.elim
    · cases h4
  · have hw : Region.wanted o (yielded ops a.tmps) = false := by
      rcases hoff with ⟨c, hc, hne⟩ | hs
      · rw [wanted s want c hg hc]; cases c <;> cases want <;> simp_all
      · exact undef_yields F hs (by rw [← hg]; exact h3)
    rw [hw]
    simp only [Bool.false_eq_true, if_false]
    exact same relV_undef rfl

theorem okAOs_get {ops : Array Oper} : ∀ {l : List Oper} {qs : List AO}, okAOs P N ops l qs = true → l.length = qs.length ∧ ∀ (i : Nat) o q, l[i]? = some o → qs[i]? = some q → okAO P N ops o q = true
  | [], [], _ => ⟨rfl, fun i o q h => by simp at h⟩
  | o :: l, q :: qs, h => by
    simp only [okAOs, Bool.and_eq_true] at h
    obtain ⟨h1, h2⟩ := okAOs_get h.2
    refine ⟨by simp [h1], fun i o' q' ho hq => ?_⟩
    cases i with
    | zero => simp at ho hq; subst ho; subst hq; exact h.1
    | succ i => exact h2 i o' q' (by simpa using ho) (by simpa using hq)
  | [], _ :: _, h => by simp [okAOs] at h
  | _ :: _, [], h => by simp [okAOs] at h
theorem okAOs_drop {ops : Array Oper} : ∀ {l : List Oper} {qs : List AO} (n : Nat), okAOs P N ops l qs = true → okAOs P N ops (l.drop n) (qs.drop n) = true
  | [], [], n, _ => by simp [okAOs]
  | o :: l, q :: qs, 0, h => h
  | o :: l, q :: qs, n + 1, h => by simp only [okAOs, Bool.and_eq_true] at h; exact okAOs_drop n h.2
  | [], _ :: _, _, h => by simp [okAOs] at h
  | _ :: _, [], _, h => by simp [okAOs] at h

theorem wpAny_of_q (r : Option Nat) {dep : List (Nat × Nat)} {md : Region.Mode} {ops : Array Oper} (hok : okAOs P N ops ops.toList qs = true) (hns : ∀ i q, i < m → qs[i]? = some q → q.isSet = true → ns = true) {Q' : Exit → Act → World → Prop} {g : Nat} {T : Array Bool → Sg → Et → Prop}
    (hT : ∀ listed σ η a w, T listed σ η → QSt N n M0 μ0 Hs w0 nx m ns listed σ η a w → wpAnyIn (FR r) 0 P md ops Q' g listed a w) :
    ∀ (f : Nat) (listed : Array Bool) (L : List En) (σ : Sg) (η : Et) (a : Act) (w : World), QSt N n M0 μ0 Hs w0 nx m ns listed σ η a w → qAny P dep md ops nx qs m T f listed L σ η → wpAnyIn (FR r) 0 P md ops Q' (f + g) listed a w
  | 0, listed, L, σ, η, a, w, S, h => by rw [Nat.zero_add]; exact hT _ _ _ _ _ h S
  | f + 1, listed, L, σ, η, a, w, S, h => by
    rw [show f + 1 + g = (f + g) + 1 by omega]
    refine ⟨fun h0 => absurd h0 h.1, fun i hi => ?_⟩
    obtain ⟨him, q, hq, v, b, F, hy, _, hK⟩ := h.2 i hi
    obtain ⟨hun, o, ho, _⟩ := mem_ready.1 hi
    unfold wpOpIn
    simp only [ho]
    have := q_step ((okAOs_get hok).2 i o q (by simpa using ho) hq) S him hun (hns i q him hq) hy (next := wpAnyIn (FR r) 0 P md ops Q' (f + g) (listed.setIfInBounds i true)) (Q := Q') fun a' w' S' => wpAny_of_q r hok hns hT f _ _ _ _ _ _ S' hK
    split at this
    · rename_i hw; rw [if_pos hw]
      refine Oper.wpIn_of_wp ?_ this
      have hok' := (okAOs_get hok).2 i o q (by simpa using ho) hq
      simp only [okAO, Bool.and_eq_true] at hok'
      exact okOp_nd hok'.2
    · rename_i hw; rw [if_neg hw]; exact ⟨fun _ _ => trivial, this⟩

/-- **A REGION THAT DRAWS ITS ORDER**: its first m operations in any order that its edges allow, the rest in that of the text. -/
theorem sound_draw (r : Option Nat) {id : Nat} {ops : Array Oper} {dep : List (Nat × Nat)} (hm : P.follows .mixedOrders = true) (hok : okAOs P N ops ops.toList qs = true) (hd : drawOk .any ops dep qs m = true) {fr : Fr} {H : Heap} {a : Act} {w : World} {K : Fr → Heap → Prop} {Q : Exit → Act → World → Prop}
    (S : St N n M0 μ0 Hs w0 fr H a w) (hsf : setFree (qs.take m) H.get H.nx = true) (hr : qwalk P dep (fun fr H => runOps P K (qs.drop m) fr H) (qs.take m) 0 H.nx [] fr ⟨H.nx + m, H.bs⟩) (hq : ∀ fr' H' a' w', St N n M0 μ0 Hs w0 fr' H' a' w' → K fr' H' → Q .normal a' w') :
    (Code.region id ops true).wpIn (FR r) 0 P Q a w := by
  refine wpIn_region_any hm ?_
  simp only [drawOk, Bool.and_eq_true] at hd
  obtain ⟨⟨hd1, hdep⟩, hd2⟩ := hd
  have hE := early_of hd1
  have hmle : m ≤ ops.size := by
    simp only [Bool.or_eq_true, decide_eq_true_eq, Bool.and_eq_true] at hd1
    rcases hd1 with h | ⟨⟨h, _⟩, _⟩ <;> omega
  have hlen := (okAOs_get hok).1
  simp only [Array.length_toList] at hlen
  obtain ⟨M, μ, R, F, hn, G0, hdef⟩ := S
  have R0 : Rel M μ ⟨H.nx + m, H.bs⟩ { w with drawn := w.drawn + 1 } := by
    have R1 := R.room m
    exact ⟨R1.glob, R1.dom, R1.top, R1.cells, R1.maps, R1.iters, R1.loops, R1.inj, R1.imm, R1.apart⟩
  have S0 : QSt N n M0 μ0 Hs w0 H.nx m ((qs.take m).any AO.isSet) (Array.replicate ops.size false) (look fr) (Heap.get ⟨H.nx + m, H.bs⟩) a { w with drawn := w.drawn + 1 } :=
    ⟨fun hs j => by
      rw [setFree, hs] at hsf
      rcases Nat.lt_or_ge j H.nx with hj | hj
      · exact noIts_spec (η := H.get) (by simpa using hsf) j hj
      · show (H.get j).isIt = false; rw [R.top j hj]; rfl, by simpa using hmle, M, μ, fr, ⟨H.nx + m, H.bs⟩, rfl, rfl, rfl, R0, F, hn, ⟨G0.mem, G0.pin, ⟨G0.keep.os, G0.keep.tape, G0.keep.output, G0.keep.size, G0.keep.block⟩, G0.own, G0.fresh⟩, ⟨hdef.ex⟩, fun i _ _ => R.dom _ (by omega)⟩
  have inv0 : HeadInv .any ops m (Array.replicate ops.size false) :=
    ⟨by simp, fun j oj _ hl => (by rw [getD_replicate_false] at hl; cases hl), fun t _ ht => getD_in (by simpa using ht) (getD_replicate_false _ _)⟩
  have hw := wpQ_of_walk (nx := H.nx + m) (qs.take m) 0 H.nx [] [] fr ⟨H.nx + m, H.bs⟩ rfl (fun e he => by cases he) hr
  have htl : (qs.take m).length = m := by simp; omega
  have hA := qAny_lex (md := .any) (ops := ops) (qs := qs) (m := m) (g := ops.size - m) (depsB_spec hdep) hE (by omega) (qs.take m) 0 (Array.replicate ops.size false) [] (look fr) (Heap.get ⟨H.nx + m, H.bs⟩)
    (fun j hj => by rw [htl] at hj; simp [hj]) (by omega) inv0 (by rw [htl]; exact hd2) hw
  have := wpAny_of_q r (md := .any) (Q' := Q) (g := ops.size - m) hok (fun i q hi hq hs => List.any_eq_true.2 ⟨q, List.mem_of_getElem? (by rw [List.getElem?_take, if_pos hi]; exact hq), hs⟩) (fun listed σ η a' w' hT S' => ?_) _ _ _ _ _ _ _ S0 hA
  · rw [htl, show m + (ops.size - m) = ops.size by omega] at this
    exact this
  · obtain ⟨hseq, fr1, H1, rfl, rfl, hnx1, hrun⟩ := hT
    obtain ⟨_, _, M', μ', fr', H', hl', hg', hnx', R', F', hn', G', hd', _⟩ := S'
    have S1 : St N n M0 μ0 Hs w0 fr1 H1 a' w' := ⟨M', μ', R'.ext hg' (hnx'.trans hnx1.symm), F'.ext hl', by rw [hnx1]; omega, G'.ext hg', hd'.ext hg'⟩
    have hdl : (ops.toList.drop m).length = ops.size - m := by simp
    have hseq' : Region.seqB .any ops (ops.toList.drop m).length m listed = true := by rw [hdl]; exact hseq
    have := wpAnyIn_of_seq (P := P) (r := r) (md := .any) (Q' := Q) (ops.toList.drop m) m listed a' w' (fun j => by simp [List.getElem?_drop]) hseq' (sound_ops r (okAOs_drop m hok) S1 hrun hq)
    rwa [hdl] at this
end
end Go.Eng

namespace Go.Eng
open Go

variable [Globs]
inductive AC where
  | skip
  | ret
  | exit (id : Nat)
  | reg (ops : List AO)
  | draw (m : Nat) (dep : List (Nat × Nat)) (ops : List AO)
  | seq (a b : AC)
  | cond (c : AX) (a b : AC)
  | block (id : Nat) (a : AC)
  | loop (a : AC)
  | ghost (a : AC)
  | scope (a : AC)
  /-- A range over a function: its number, the function, the temporaries that its rounds look at, the parameters, the assignments, the body. -/
  | rangeF (id : Nat) (g : AX) (sl ps : List Nat) (A B : AC)

theorem cond_True {b : Bool} {A : Prop} (h : bif b then A else False) : b = true ∧ A := by
  cases b with
  | true => exact ⟨rfl, h⟩
  | false => exact h.elim
section
variable (P : Program)
def okC (N : Nat) : AC → Code → Bool
  | .ghost a, c => okC N a c
  | .skip, .skip => true
  | .skip, .label _ => true
  | .scope a, .scope x => okC N a x
  | .ret, .ret => true
  | .exit i, .exit j => i == j
  | .reg qs, .region _ ops false => okAOs P N ops ops.toList qs
  | .draw m dep qs, .region _ ops true => P.follows .mixedOrders && okAOs P N ops ops.toList qs && drawOk .any ops dep qs m
  | .seq a b, .seq x y => okC N a x && okC N b y
  | .cond c a b, .cond c' x y => okX c' c && okC N a x && okC N b y
  | .block i a, .block j x => i == j && okC N a x
  | .loop a, .loop x => okC N a x
  | .rangeF _ g _ ps A B, .rangeFunc g' ps' asg bd => okX g' g && ps'.toList == ps && ps.all (Nat.blt · N) && okC N A asg && okC N B bd
  | _, _ => false
/-- Nothing in it is a range over a function. -/
def AC.noRF : AC → Bool
  | .rangeF _ _ _ _ _ _ => false
  | .seq a b => a.noRF && b.noRF
  | .cond _ a b => a.noRF && b.noRF
  | .block _ a => a.noRF
  | .loop a => a.noRF
  | .ghost a => a.noRF
  | .scope a => a.noRF
  | _ => true
/-- The text of a range over a function. -/
def RfIs (N : Nat) (ps : List Nat) (A B : AC) (ps' : List Nat) (asg bd : Code) : Prop := ps' = ps ∧ ps.all (Nat.blt · N) = true ∧ okC P N A asg = true ∧ okC P N B bd = true ∧ A.noRF = true ∧ B.noRF = true
/-- What goes by this number. -/
structure RfAt [Globs] (id : Nat) (ps : List Nat) (A B : AC) : Prop where
  iff : ∀ N ps' asg bd, Globs.rf id N ps' asg bd ↔ RfIs P N ps A B ps' asg bd
/-- Behind the loop. -/
def rangeK (k : Nat) (Q : XA → Fr → Heap → Prop) (fr : Fr) (H : Heap) : Prop := match H.get k with
  | .loop .ready _ _ => setK H k .dead (Q .normal fr)
  | .loop (.done .ret) _ _ => setK H k .dead (Q .ret fr)
  | .loop (.done (.exit i)) _ _ => setK H k .dead (Q (.exit i) fr)
  | _ => False
def selK (fr : Fr) : List Nat → (Fr → Prop) → Prop
  | [], K => K []
  | t :: r, K => fv (look fr t) fun v => selK fr r fun l => K ((t, v) :: l)
def selF (fr : Fr) : List Nat → Fr
  | [] => []
  | t :: r => (t, look fr t) :: selF fr r
theorem selK_eq (fr : Fr) : ∀ (l : List Nat) (K : Fr → Prop), selK fr l K = K (selF fr l)
  | [], _ => rfl
  | t :: r, K => by simp only [selK, fv_eq, selK_eq fr r, selF]
theorem look_selF [Globs] {M : Mem} {μ : Pos} {fr : Fr} {t : Nat} {v : Value} (h : relV M (look fr t) μ v) : ∀ sl : List Nat, relV M (look (selF fr sl) t) μ v
  | [] => by simp only [selF, look, relV]
  | q :: r => by
    simp only [selF, look]
    by_cases hq : q = t
    · subst hq; simpa using h
    · rw [beq_false hq]; exact look_selF h r
def rangeE (id : Nat) (sl ps : List Nat) (A B : AC) (g : AV) (Q : XA → Fr → Heap → Prop) (fr : Fr) (H : Heap) : Prop := match H with
  | ⟨nx, bs⟩ => match g with
    | .func f caps => Side (RfAt P id ps A B ∧ A.noRF = true ∧ B.noRF = true) (selK fr sl fun fr0 => CallA P f (.yld nx :: caps) ⟨nx + 1, (nx, .loop .ready id fr0) :: bs⟩ fun _ H' => rangeK nx Q fr H')
    | _ => False
def roomK (H : Heap) (m : Nat) (K : Nat → Heap → Prop) : Prop := match H with
  | ⟨nx, bs⟩ => K nx ⟨nx + m, bs⟩
def seqK (next : (XA → Fr → Heap → Prop) → Fr → Heap → Prop) (Q : XA → Fr → Heap → Prop) (x : XA) (fr : Fr) (H : Heap) : Prop := match x with
  | .normal => next Q fr H
  | .exit id => Q (.exit id) fr H
  | .ret => Q .ret fr H
def blockK (id : Nat) (Q : XA → Fr → Heap → Prop) (x : XA) (fr : Fr) (H : Heap) : Prop := match x with
  | .normal => Q .normal fr H
  | .exit j => bif Nat.beq j id then Q .normal fr H else Q (.exit j) fr H
  | .ret => Q .ret fr H
theorem rangeE_eq (id : Nat) (sl ps : List Nat) (A B : AC) (g : AV) (Q : XA → Fr → Heap → Prop) (fr : Fr) (H : Heap) : rangeE P id sl ps A B g Q fr H = match g with
    | .func f caps => Side (RfAt P id ps A B ∧ A.noRF = true ∧ B.noRF = true) (CallA P f (.yld H.nx :: caps) (H.push (.loop .ready id (selF fr sl))) fun _ H' => rangeK H.nx Q fr H')
    | _ => False := by
  unfold rangeE
  cases g <;> simp only [selK_eq] <;> rfl
noncomputable def AC.run (n : Nat) (ac : AC) : (XA → Fr → Heap → Prop) → Fr → Heap → Prop := AC.rec (motive := fun _ => (XA → Fr → Heap → Prop) → Fr → Heap → Prop)
  (fun Q fr H => Q .normal fr H)
  (fun Q fr H => Q .ret fr H)
  (fun id Q fr H => Q (.exit id) fr H)
  (fun ops Q fr H => runOps P (Q .normal) ops fr H)
  (fun m dep ops Q fr H => bif setFree (ops.take m) H.get H.nx then roomK H m fun nx H => qwalk P dep (runOps P (Q .normal) (ops.drop m)) (ops.take m) 0 nx [] fr H else False)
  (fun _ _ iha ihb Q fr H => iha (seqK ihb Q) fr H)
  (fun c _ _ iha ihb Q fr H => match c.ev fr with
    | .bool t => Branch t (iha Q fr H) (ihb Q fr H)
    | _ => False)
  (fun id _ ih Q fr H => ih (blockK id Q) fr H)
  (fun _ ih Q fr H => LoopA n ih Q fr H)
  (fun _ ih Q fr H => To n fr H (ih Q))
  (fun _ ih Q fr H => ih Q fr H)
  (fun id g sl ps A B _ _ Q fr H => rangeE P id sl ps A B (g.ev fr) Q fr H) ac
theorem AC.run_cond (n : Nat) (c : AX) (a b : AC) (Q : XA → Fr → Heap → Prop) (fr : Fr) (H : Heap) : AC.run P n (.cond c a b) Q fr H = match c.ev fr with
    | .bool t => Branch t (AC.run P n a Q fr H) (AC.run P n b Q fr H)
    | _ => False := rfl

end

section
variable {P : Program} {N n : Nat} {M0 : Mem} {μ0 : Pos} {H0 : Heap} {w0 : World}
theorem St.into {fr fr' : Fr} {H H' : Heap} {a : Act} {w : World} (S : St N n M0 μ0 H0 w0 fr H a w) (h : Into n fr H fr' H') : St N n M0 μ0 H0 w0 fr' H' a w := by
  obtain ⟨M, μ, R, F, hn, G0, hd⟩ := S
  obtain ⟨M', μ', R', F', hn', G⟩ := h N M μ w a.tmps R F hn
  exact ⟨M', μ', R', F', hn', G0.trans G, hd.step G⟩

theorem end_range {fr fr' : Fr} {H : Heap} {a : Act} {ds : List Deferred} {w : World} {M : Mem} {μ : Pos} {k l s id : Nat} {st : RS} (R : Rel M μ H w) (hμ : μ k = some (l, s)) (F : RelF N M μ fr a.tmps) (hn : n ≤ H.nx) (G0 : Grow n M0 μ0 H0 w0 M μ H w) (md : Marks w0 ds μ H w)
    (hk : H.get k = .loop st id fr') (hne : st ≠ .busy) : ∃ jump w4, (Instr.endLoop l).run P w = .ok jump w4 ∧ St N n M0 μ0 H0 w0 fr (H.set k .dead) { a with defers := ds } w4 ∧ (st = .ready → jump = none) ∧ (∀ j, st = .done j → jump = some j.code) := by
  obtain ⟨b, s', g1, r3, g2, g3, g4, g5⟩ := R.loops _ st id fr' hk
  rw [hμ] at g1; cases g1
  obtain ⟨R4, G4⟩ := R.dropL hk hμ g2 (.loop { r3 with state := .exhausted })
  refine ⟨r3.pending, _, run_endLoop g2 ?_, ⟨M, μ, R4, F, hn, G0.trans (G4.grow.mono hn), md.step G4.grow⟩, fun e => ?_, fun j e => ?_⟩
  · cases st with
    | ready => rw [g3.1]; simp
    | busy => exact absurd rfl hne
    | done j => rw [g3.1]; simp
  · subst e; exact g3.2
  · subst e; exact g3.2
theorem sound_rangeF {id : Nat} {g : AX} {sl ps : List Nat} {A B : AC} {g' : Operand} {ps' : Array Tmp} {asg bd : Code} (h : okC P N (.rangeF id g sl ps A B) (.rangeFunc g' ps' asg bd) = true) {Q : XA → Fr → Heap → Prop} {fr : Fr} {H : Heap} {a : Act} {w : World}
    (S : St N n M0 μ0 H0 w0 fr H a w) (hr : rangeE P id sl ps A B (g.ev fr) Q fr H) : (Code.rangeFunc g' ps' asg bd).wpIn (FR none) 0 P (Post N n M0 μ0 H0 w0 Q) a w := by
  simp only [okC, Bool.and_eq_true, beq_iff_eq] at h
  obtain ⟨⟨⟨⟨hg, hps⟩, hall⟩, hA⟩, hB⟩ := h
  obtain ⟨M, μ, R, F, hn, G0, hd⟩ := S
  rw [rangeE_eq] at hr
  split at hr
  · rename_i f caps hgv
    obtain ⟨⟨hat, hnA, hnB⟩, hc⟩ := hr
    have hgr := rel_okX F hg
    rw [hgv] at hgr; simp only [relV] at hgr
    obtain ⟨vs, hv, hl⟩ := hgr
    refine wpIn_rangeFunc fun fn _ => ?_
    let rec0 : Loop := { state := .ready, pending := none, fn := fn, tmps := a.tmps, params := ps', assign := asg, body := bd, defers := w.heap.size }
    obtain ⟨R1, G1⟩ := (R.aside (.deferred (some []))).pushL (r := rec0) (st := .ready) (id := id) (fr := selF fr sl) ⟨rfl, rfl⟩ ((hat.iff _ _ _ _).2 ⟨hps, by rw [F.size]; exact hall, by rw [F.size]; exact hA, by rw [F.size]; exact hB, hnA, hnB⟩) (fun t => look_selF (F.slot t) sl)
    have hsz : (w.alloc (.deferred (some []))).heap.size = w.heap.size + 1 := by simp
    rw [hsz] at R1 G1
    have hput : (μ.put H.nx (w.heap.size + 1, 0)) H.nx = some (w.heap.size + 1, 0) := Pos.put_same _ _ _
    refine ⟨_, _, _, { target := .fn (.func f) vs, args := #[.func (.yield (w.heap.size + 1)) #[] #[]] }, (w.alloc (.deferred (some []))).alloc (.loop rec0), f, _, _, run_enterLoop_outer fn a.tmps ps' asg bd, ?_, fun _ _ => trivial, run_callFunc hc.ok _ _, fun h0 => (by cases h0), ?_⟩
    · have hcst : a.eval (.const (.func (.yield (w.heap.size + 1)) #[] #[])) = .func (.yield (w.heap.size + 1)) #[] #[] := rfl
      simp only [resolve, rangeCall, hv, Deferred.ofValue, Sem.run_bind, Sem.run_pure, Result.andThen_ok, List.map_toArray, List.map_cons, List.map_nil, hcst, Array.empty_append]
      rfl
    have G00 : Move M μ H w M μ H (w.alloc (.deferred (some []))) := ⟨Pos.le_refl _, ⟨Mem.le_refl _, fun _ _ => rfl, ⟨rfl, rfl, rfl, by simp, fun x hx _ => alloc_heap_lt w _ hx⟩, fun x hx => .inl hx, fun _ _ _ h => .inl h⟩, Nat.le_refl _⟩
    have md1 : Marks w0 (mark w.heap.size :: a.defers) (μ.put H.nx (w.heap.size + 1, 0)) (H.push (.loop .ready id (selF fr sl))) ((w.alloc (.deferred (some []))).alloc (.loop rec0)) := by
      obtain ⟨rs, h1, h2, h3⟩ := (hd.step G00.grow).step G1.grow
      refine ⟨w.heap.size :: rs, by rw [h1]; rfl, List.nodup_cons.2 ⟨fun hm => ?_, h2⟩, fun q hq => ?_⟩
      · obtain ⟨rs', e1, _, e3⟩ := hd
        have : rs = rs' := by
          have := h1.symm.trans e1
          exact (List.map_inj_right (fun x y h => by simpa [mark] using h)).1 this
        subst this
        have := (Array.getElem?_eq_some_iff.1 (e3 _ hm).2.1).1
        omega
      · rcases List.mem_cons.1 hq with rfl | hq
        · refine ⟨G0.keep.size, ?_, fun ho => ?_⟩
          · rw [alloc_heap_lt _ _ (by simp)]; exact alloc_heap_new w _
          · rcases G1.grow.own _ ho with h | h
            · have := R.own_lt h; omega
            · rw [hsz] at h; omega
        · exact h3 q hq
    have hrun := hc.run M _ _ (#[.func (.yield (w.heap.size + 1)) #[] #[]] ++ vs) R1 ?_
    rotate_left
    · simp only [Array.toList_append, List.cons_append, List.nil_append, relL]
      exact ⟨_, _, rfl, by simp only [relV]; exact ⟨_, _, Pos.put_same _ _ _, rfl⟩, relL_mono (Mem.le_refl _) caps G1.le hl⟩
    · refine calls_in (hrun.mono ?_)
      intro e w3 hx
      obtain ⟨v, M3, μ3, H3, c, he, R3, hv3, G3, hk3⟩ := hx
      subst he
      have fin := fun st id' fr' hk hne => end_range (P := P) (fr := fr) (ds := [{ target := .collected w.heap.size, args := #[] }] ++ a.defers) (a := a) R3 (G3.le _ _ hput) (F.mono (Mem.le_trans G1.grow.mem G3.grow.mem) (Pos.le_trans G1.le G3.le)) (Nat.le_trans hn (Nat.le_trans (Nat.le_succ _) G3.nx)) (G0.trans (((G00.trans (G1.trans G3)).grow).mono hn)) (md1.step G3.grow) (st := st) (id := id') (fr' := fr') hk hne
      unfold rangeK at hk3
      simp only [setK_eq] at hk3
      split at hk3
      · rename_i id' fr' hk
        obtain ⟨jump, w4, e1, S4, e2, _⟩ := fin _ _ _ hk (by simp)
        refine ⟨jump, w4, e1, ?_⟩
        rw [e2 rfl]
        exact ⟨.normal, fr, _, rfl, S4, hk3⟩
      · rename_i id' fr' hk
        obtain ⟨jump, w4, e1, S4, _, e2⟩ := fin _ _ _ hk (by simp)
        refine ⟨jump, w4, e1, ?_⟩
        rw [e2 _ rfl]
        exact wpIn_ret ⟨.ret, fr, _, rfl, S4, hk3⟩
      · rename_i i id' fr' hk
        obtain ⟨jump, w4, e1, S4, _, e2⟩ := fin _ _ _ hk (by simp)
        refine ⟨jump, w4, e1, ?_⟩
        rw [e2 _ rfl]
        exact wpIn_exit ⟨.exit i, fr, _, rfl, S4, hk3⟩
      · exact hk3.elim
  · exact hr.elim

theorem sound_C (r : Option Nat) : ∀ {ac : AC} {c : Code}, okC P N ac c = true → (r = none ∨ ac.noRF = true) → ∀ {Q : XA → Fr → Heap → Prop} {fr : Fr} {H : Heap} {a : Act} {w : World}, St N n M0 μ0 H0 w0 fr H a w → ac.run P n Q fr H → c.wpIn (FR r) 0 P (Post N n M0 μ0 H0 w0 Q) a w := by
  intro ac
  induction ac with
  | ghost x ih =>
    intro c h hnr Q fr H a w S hr
    obtain ⟨fr', H', hi, hr⟩ := hr.ex
    have h' : okC P N x c = true := by cases c <;> simpa [okC] using h
    exact ih h' (by simpa [AC.noRF] using hnr) (S.into hi) hr
  | skip =>
    intro c h hnr Q fr H a w S hr
    cases c <;> simp [okC] at h
    · exact wpIn_skip ⟨.normal, fr, H, rfl, S, hr⟩
    · exact wpIn_label ⟨.normal, fr, H, rfl, S, hr⟩
  | scope x ih =>
    intro c h hnr Q fr H a w S hr
    cases c with
    | scope x' =>
      simp only [okC] at h
      refine wpIn_scope_straight (wpIn_mono (ih h (by simpa [AC.noRF] using hnr) S hr) ?_)
      rintro e a' w' ⟨xx, fr', H', he, S', hq⟩
      cases e <;> simp [xa] at he <;> subst he <;> exact ⟨_, fr', H', rfl, S', hq⟩
    | _ => simp [okC] at h
  | ret =>
    intro c h hnr Q fr H a w S hr
    cases c <;> simp [okC] at h
    exact wpIn_ret ⟨.ret, fr, H, rfl, S, hr⟩
  | exit id =>
    intro c h hnr Q fr H a w S hr
    cases c <;> simp [okC] at h
    subst h
    exact wpIn_exit ⟨.exit id, fr, H, rfl, S, hr⟩
  | reg qs =>
    intro c h hnr Q fr H a w S hr
    cases c with
    | region id ops draw =>
      cases draw with
      | true => simp [okC] at h
      | false =>
        simp only [okC] at h
        exact wpIn_region_list (sound_ops r h S hr fun fr' H' a' w' S' hk => ⟨.normal, fr', H', rfl, S', hk⟩)
    | _ => simp [okC] at h
  | draw m dep qs =>
    intro c h hnr Q fr H a w S hr
    cases c with
    | region id ops draw =>
      cases draw with
      | false => simp [okC] at h
      | true =>
        simp only [okC, Bool.and_eq_true] at h
        obtain ⟨hsf, hr⟩ := cond_True hr
        exact sound_draw r h.1.1 h.1.2 h.2 S hsf hr fun fr' H' a' w' S' hk => ⟨.normal, fr', H', rfl, S', hk⟩
    | _ => simp [okC] at h
  | seq x y ihx ihy =>
    intro c h hnr Q fr H a w S hr
    cases c with
    | seq x' y' =>
      simp only [okC, Bool.and_eq_true] at h
      refine wpIn_seq (wpIn_mono (ihx h.1 (hnr.imp id fun h => by simp only [AC.noRF, Bool.and_eq_true] at h; exact h.1) S hr) ?_)
      rintro e a' w' ⟨xx, fr', H', he, S', hq⟩
      cases e <;> simp [xa] at he <;> subst he
      · exact ihy h.2 (hnr.imp id fun h => by simp only [AC.noRF, Bool.and_eq_true] at h; exact h.2) S' hq
      · exact ⟨_, fr', H', rfl, S', hq⟩
      · exact ⟨_, fr', H', rfl, S', hq⟩
    | _ => simp [okC] at h
  | cond c x y ihx ihy =>
    intro c' h hnr Q fr H a w S hr
    cases c' with
    | cond c' x' y' =>
      simp only [okC, Bool.and_eq_true] at h
      rw [AC.run_cond] at hr
      split at hr
      · rename_i t ht
        obtain ⟨M, μ, R, F, _⟩ := S.ex
        have hc := rel_okX F h.1.1
        rw [ht] at hc
        exact wpIn_cond_split (rel_bool hc) (fun e => ihx h.1.2 (hnr.imp id fun h => by simp only [AC.noRF, Bool.and_eq_true] at h; exact h.1) S (hr.yes e)) (fun e => ihy h.2 (hnr.imp id fun h => by simp only [AC.noRF, Bool.and_eq_true] at h; exact h.2) S (hr.no e))
      · exact hr.elim
    | _ => simp [okC] at h
  | block id x ih =>
    intro c h hnr Q fr H a w S hr
    cases c with
    | block j x' =>
      simp only [okC, Bool.and_eq_true, beq_iff_eq] at h
      obtain ⟨rfl, h⟩ := h
      refine wpIn_block (wpIn_mono (ih h (by simpa [AC.noRF] using hnr) S hr) ?_)
      rintro e a' w' ⟨xx, fr', H', he, S', hq⟩
      cases e <;> simp [xa] at he <;> subst he
      · exact ⟨_, fr', H', rfl, S', hq⟩
      · rename_i k
        simp only [Exit.inBlock]
        by_cases hk : k = id
        · subst hk
          simp only [blockK, Nat.beq_refl, cond_true] at hq
          rw [if_pos rfl]
          exact ⟨_, fr', H', rfl, S', hq⟩
        · simp only [blockK, beq_false hk, cond_false] at hq
          rw [if_neg hk]
          exact ⟨_, fr', H', rfl, S', hq⟩
      · exact ⟨_, fr', H', rfl, S', hq⟩
    | _ => simp [okC] at h
  | loop x ih =>
    intro c h hnr Q fr H a w S hr
    cases c with
    | loop x' =>
      simp only [okC] at h
      obtain ⟨I, m0, ⟨fr0, H1, hi, h0⟩, hbody⟩ := hr.ex
      refine wpIn_loop_ghost (fun m a w => ∃ fr H, St N n M0 μ0 H0 w0 fr H a w ∧ I m fr H) m0 ⟨fr0, H1, S.into hi, h0⟩ ?_
      rintro m a' w' ⟨fr', H', S', hI⟩
      refine wpIn_mono (ih h (by simpa [AC.noRF] using hnr) S' (hbody m fr' H' hI)) ?_
      rintro e a'' w'' ⟨xx, fr'', H'', he, S'', hq⟩
      cases e <;> simp [xa] at he <;> subst he
      · obtain ⟨m', hm, fr3, H3, hi3, h3⟩ := hq
        exact ⟨m', hm, fr3, H3, S''.into hi3, h3⟩
      · exact ⟨_, fr'', H'', rfl, S'', hq⟩
      · exact ⟨_, fr'', H'', rfl, S'', hq⟩
    | _ => simp [okC] at h
  | rangeF id g sl ps A B _ _ =>
    intro c h hnr Q fr H a w S hr
    cases c with
    | rangeFunc g' ps' asg bd =>
      have hr0 : r = none := hnr.resolve_right (by simp [AC.noRF])
      subst hr0
      exact sound_rangeF h S hr
    | _ => simp [okC] at h
end
end Go.Eng

