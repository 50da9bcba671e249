/- Part of a proof about the given program: lemmas that the other parts use. -/
import Derived.Test.YtnmgifoihmjjmaaPart1
import Derived.Deep.AppendSrc
import Derived.Deep.DeepAppendWide
import Derived.Deep.LoopGhost
import Derived.StillTail

set_option linter.all false
set_option linter.unusedSimpArgs false
set_option linter.unusedVariables false
namespace Go.Eng
open Go

/-! ### Slices that are made, appended to, cut -/
/-- Data is made, or looked at; what is owned stays as it is. -/
inductive DOp where
  | bslice (e len : Nat) (zero : List AV) (parts : List (Nat × AX))
  | append (e bytes : Nat) (s x : AX)
  | asub (e n : Nat) (x : AX) (lo hi : Option AX)
/-- A block is laid (and another one let go). -/
inductive LOp where
  | bslice (e len : Nat) (zero : List AV) (parts : List (Nat × AX))
  | append (e bytes : Nat) (s x : AX)

/-- What is appended: its cells, and how many elements. -/
def srcK (η : Nat → AB) (e : Nat) (x : AV) (K : List AV → Nat → Prop) : Prop := match x with
  | .dslice cs n _ => Side (n * e ≤ cs.length) (K (cs.take (n * e)) n)
  | .nils => K [] 0
  | .slice k off n _ _ => match η k with
    | .cells cs => Side (off + n * e ≤ cs.length) (K ((cs.drop off).take (n * e)) n)
    | _ => False
  | _ => False
def rep (zero : List AV) : Nat → List AV
  | 0 => []
  | n + 1 => zero ++ rep zero n
def fits (n bytes : Nat) : Prop := (n + n / 4 + 192) * bytes ≤ 281474976710656

def noLocB : List AV → Bool
  | [] => true
  | c :: cs => (match c with | .ptr _ _ | .slice _ _ _ _ _ | .map _ | .func _ _ | .agg _ | .tuple _ => false | _ => true) && noLocB cs
def DOp.run (ev : AX → AV) (η : Nat → AB) (K : AV → Prop) : DOp → Prop
  | .bslice e len zero parts => buildK ev (parts.map fun x => (x.1, e, x.2)) (rep zero len) fun cs => bif noLocB cs then K (.dslice cs len (some len)) else False
  | .append e bytes s x => match ev s, ev x with
    | .dslice cs len cap, .dslice ds n _ => Side (cap = some len ∧ len * e ≤ cs.length ∧ n * e ≤ ds.length ∧ fits (len + n) bytes ∧ ∀ c ∈ ds.take (n * e), scal c = true) (K (.dslice (cs.take (len * e) ++ ds.take (n * e)) (len + n) none))
    | .dslice cs len cap, .nils => Side (cap = some len) (K (.dslice cs len none))
    | .nils, .dslice ds n _ => Side (n * e ≤ ds.length ∧ fits n bytes ∧ ∀ c ∈ ds.take (n * e), scal c = true) (K (.dslice (ds.take (n * e)) n none))
    | _, _ => False
  | .asub e n x lo hi => match ev x with
    | .ptr k off => match η k with
      | .cells cs => optI ev 0 lo fun l => optI ev n hi fun h => Side (0 ≤ l ∧ l < n ∧ l ≤ h ∧ h ≤ n ∧ off + n * e ≤ cs.length) (K (.slice k (off + l.toNat * e) (h - l).toNat (some (n - l.toNat)) e))
      | _ => False
    | .dptr cs => optI ev 0 lo fun l => optI ev n hi fun h => Side (0 ≤ l ∧ l ≤ h ∧ h ≤ n) (K (.dslice ((cs.drop (l.toNat * e)).take ((h - l).toNat * e)) (h - l).toNat (some (n - l.toNat))))
    | _ => False

def okBslice (P : Program) (t : TypeId) (n : Nat) (ps : List (Nat × Operand)) (e len : Nat) (zero : List AV) (parts : List (Nat × AX)) : Bool := n == len && decide (0 < e) && decide (len * e ≤ 16777216) && zero.length == e && (match P.underlying t with
  | some (.slice el) => sized P el e && zeroOk P el zero && okParts P (fun i => some (i * e, e)) ps (parts.map fun x => (x.1, e, x.2))
  | _ => false)
def okAppend (P : Program) (ts : List TypeId) (e bytes : Nat) : Bool := match ts with
  | [t, tx] => isSlice P tx && (match P.underlying t with
    | some (.slice el) => match P.info? el with
      | some i => i.size == e && i.bytes == bytes && (match i.zero with | some z => z.cells.size == e | none => false)
      | none => false
    | _ => false)
  | _ => false
def okAsub (P : Program) (t : TypeId) (e n : Nat) : Bool := match P.underlying t with
  | some (.array m el) => m == n && sized P el e
  | some (.pointer arr) => match P.underlying arr with
    | some (.array m el) => m == n && sized P el e
    | _ => false
  | _ => false
def okD (P : Program) : Op → DOp → Bool
  | .buildSlice t n ps, .bslice e len zero parts => okBslice P t n ps.toList e len zero parts
  | .call c, .append e bytes s x => (match bcall c .append with
    | some ([s', x'], ts) => okAppend P ts e bytes && Nat.blt 0 bytes && okX s' s && okX x' x
    | _ => false)
  | .slice t x lo hi none, .asub e n x' lo' hi' => okAsub P t e n && okX x x' && okOptX lo lo' && okOptX hi hi'
  | _, _ => false
def okL (P : Program) : Op → LOp → Bool
  | .buildSlice t n ps, .bslice e len zero parts => okBslice P t n ps.toList e len zero parts
  | .call c, .append e bytes s x => (match bcall c .append with
    | some ([s', x'], ts) => okAppend P ts e bytes && Nat.blt 0 bytes && okX s' s && okX x' x
    | _ => false)
  | _, _ => false

section
variable {P : Program} {N : Nat} {M : Mem} {μ : Pos} {H : Heap} {fr : Fr} {a : Act} {w : World} {K : AV → Heap → Prop}

/-- A new block of data. -/
def Mem.with (M : Mem) (b : Nat) (c : Array Value) : Mem := fun b' o => if b' = b then c[o]? else M b' o
theorem Rel.data (R : Rel M μ H w) (c : Array Value) (el : TypeId) : Rel (M.with w.heap.size c) μ H (w.alloc (.cells c el)) ∧ Move M μ H w (M.with w.heap.size c) μ H (w.alloc (.cells c el)) := by
  have hle : Mem.le M (M.with w.heap.size c) := fun b o v h => by
    have := R.cell_lt h
    simp only [Mem.with]; rw [if_neg (by omega)]; exact h
  have own : ∀ {j b s}, H.get j ≠ .dead → μ j = some (b, s) → b < w.heap.size := fun hj hx => R.own_lt ⟨_, _, hj, hx⟩
  refine ⟨⟨R.dom, R.top, fun j ds hj => ?_, fun j es hj => ?_, R.inj, fun x o v hv => ?_, fun j x s hj hx o => ?_⟩, ⟨Pos.le_refl _, ⟨hle, fun _ _ => rfl, ⟨rfl, rfl, rfl, by simp, fun x hx _ => alloc_heap_lt w _ hx⟩, fun x hx => .inl hx, fun b o v h => ?_⟩, Nat.le_refl _⟩⟩
  · obtain ⟨b', s', d, el', fz', h1, h2, h3, h4, h5⟩ := R.cells j ds hj
    exact ⟨b', s', d, el', fz', h1, by rw [alloc_heap_lt w _ (own (by rw [hj]; simp) h1)]; exact h2, h3, h4, relP_mono hle (Pos.le_refl _) _ h5⟩
  · obtain ⟨b', s', ents, clock, h1, h2, h3, h4⟩ := R.maps j es hj
    refine ⟨b', s', ents, clock, h1, by rw [alloc_heap_lt w _ (own (by rw [hj]; simp) h1)]; exact h2, ?_, h4⟩
    have : ∀ {es : List (AV × AV)} {ents : List MapEntry}, relE M es ents → relE (M.with w.heap.size c) es ents := by
      intro es
      induction es with
      | nil => intro ents h; exact h
      | cons x r ih => intro ents h; obtain ⟨e, t, h1, h2, h3, h4⟩ := h; exact ⟨e, t, h1, relV_mono hle _ (Pos.le_refl _) h2, relV_mono hle _ (Pos.le_refl _) h3, ih h4⟩
    exact this h3
  · simp only [Mem.with] at hv
    split at hv
    · subst_vars; simpa using hv
    · rw [World.cell?_alloc_lt w _ ⟨x, o, none⟩ (R.cell_lt hv)]; exact R.imm x o v hv
  · have := own hj hx
    simp only [Mem.with]; rw [if_neg (by omega)]; exact R.apart j x s hj hx o
  · simp only [Mem.with] at h
    split at h
    · subst_vars; exact .inr (.inr (Nat.le_refl _))
    · exact .inl h
theorem relM_with {cs : List AV} {c : Array Value} {b : Nat} (hle : Mem.le M (M.with b c)) (h : relP M Pos.none cs c.toList) : relM (M.with b c) cs b 0 :=
  relM_of_get fun i d hi => by
    obtain ⟨v, hv, hr⟩ := relP_get h hi
    exact ⟨v, by simp only [Mem.with, if_true, Nat.zero_add]; simpa using hv, relV_mono hle _ (Pos.le_refl _) hr⟩

/-- A draw changes nothing of what is held. -/
theorem Rel.drew (R : Rel M μ H w) : Rel M μ H w.drew := ⟨R.dom, R.top, R.cells, R.maps, R.inj, R.imm, R.apart⟩
theorem Move.of_drew {M' : Mem} {μ' : Pos} {H' : Heap} {w' : World} (G : Move M μ H w.drew M' μ' H' w') : Move M μ H w M' μ' H' w' :=
  ⟨G.le, ⟨G.grow.mem, G.grow.pin, ⟨G.grow.keep.os, G.grow.keep.tape, G.grow.keep.output, G.grow.keep.size, G.grow.keep.block⟩, G.grow.own, G.grow.fresh⟩, G.nx⟩

theorem rep_length {zero : List AV} {e : Nat} (h : zero.length = e) : ∀ n, (rep zero n).length = n * e
  | 0 => by simp [rep]
  | n + 1 => by simp [rep, rep_length h n, h, Nat.add_mul, Nat.add_comm]
theorem rep_get {zero : List AV} {e : Nat} (h : zero.length = e) : ∀ (n i : Nat), i < n * e → (rep zero n)[i]? = zero[i % e]?
  | 0, i, hi => by simp at hi
  | n + 1, i, hi => by
    simp only [rep]
    by_cases hlt : i < e
    · rw [List.getElem?_append_left (by omega), Nat.mod_eq_of_lt hlt]
    · rw [List.getElem?_append_right (by omega), h, rep_get h n (i - e) (by rw [Nat.add_mul] at hi; omega)]
      congr 1
      rw [← Nat.mod_eq_sub_mod (by omega)]

theorem zeros_rel {zero : List AV} {z : Array Value} {e len : Nat} (hz : relL M zero μ z.toList) (he : zero.length = e) (h0 : 0 < e) : relL M (rep zero len) μ ((Array.range (len * e)).map (z[· % z.size]!)).toList := by
  have hsz : z.size = e := by have := relL_length hz; simp at this; omega
  refine relL_of_get (by simp [rep_length he]) fun i c hi => ?_
  have hi' : i < len * e := by
    rcases Nat.lt_or_ge i (len * e) with h | h
    · exact h
    · rw [List.getElem?_eq_none (by rw [rep_length he]; exact h)] at hi; cases hi
  rw [rep_get he len i hi'] at hi
  obtain ⟨v, hv, hr⟩ := relL_get hz hi
  refine ⟨v, ?_, hr⟩
  have hm : i % e < z.size := by rw [hsz]; exact Nat.mod_lt _ h0
  have hv' : z[i % e] = v := by
    have : z[i % e]? = some v := by simpa using hv
    rw [Array.getElem?_eq_getElem hm] at this
    simpa using this
  simp [hi', hsz]
  rw [getElem!_pos z (i % e) hm, hv']

theorem foldl_size (off : Nat) : ∀ (l : List (Value × Nat)) (vs : Array Value), (l.foldl (fun cs x => cs.setIfInBounds (off + x.2) x.1) vs).size = vs.size
  | [], vs => rfl
  | x :: l, vs => by simp only [List.foldl_cons]; rw [foldl_size off l]; simp
theorem fill_size {place : Nat → Option (Nat × Nat)} : ∀ {l : List (Nat × Value)} {vs us : Array Value}, Instr.fill place vs l = some us → us.size = vs.size
  | [], vs, us, h => by simp only [Instr.fill, Option.some.injEq] at h; rw [h]
  | (i, v) :: l, vs, us, h => by
    simp only [Instr.fill] at h
    split at h
    · cases h
    · split at h
      · cases h
      · rw [fill_size h, ← Array.foldl_toList, foldl_size]
theorem sound_bs {t : TypeId} {n : Nat} {ps : Array (Nat × Operand)} {e len : Nat} {zero : List AV} {parts : List (Nat × AX)} {o : Oper} (ho : o.op = .buildSlice t n ps) (h : okBslice P t n ps.toList e len zero parts = true) (F : RelF N M μ fr a.tmps) {K : List AV → Prop}
    (hr : buildK (AX.ev fr) (parts.map fun x => (x.1, e, x.2)) (rep zero len) K) (w : World) :
    ∃ us ds el, (execOp a.eval o).run P w = .ok (.value (.slice (some ⟨w.heap.size, 0, none⟩) len len)) (w.alloc (.cells us el)) ∧ relL M ds μ us.toList ∧ us.size = len * e ∧ K ds := by
  simp only [okBslice, Bool.and_eq_true, beq_iff_eq, decide_eq_true_eq] at h
  obtain ⟨⟨⟨⟨rfl, h0⟩, hbig⟩, hzl⟩, h⟩ := h
  split at h
  · rename_i el hu
    simp only [Bool.and_eq_true] at h
    obtain ⟨⟨hs, hz⟩, hp⟩ := h
    unfold zeroOk at hz
    split at hz
    · rename_i ti hti
      split at hz
      · rename_i z hzz
        have hlz : relL M zero μ z.cells.toList := rel_okVs hz
        have hmap : (ps.map fun x => (x.1, a.eval x.2)).toList = ps.toList.map fun x => (x.1, a.eval x.2) := by simp
        obtain ⟨us, ds, q1, q2, q3⟩ := fill_run F hp (zeros_rel (len := n) hlz hzl h0) hr
        have husz : us.size = n * e := by
          rw [fill_size q1]; simp
        refine ⟨us, ds, el, ?_, q2, husz, q3⟩
        have hnb : ¬ n * e > 2 ^ 24 := by omega
        by_cases hn : n * e = 0
        · have hz0 : (Array.range (n * e)).map (z.cells[· % z.cells.size]!) = (Array.range (n * e)).map ((#[] : Array Value)[· % (#[] : Array Value).size]!) := by rw [hn]; simp
          rw [hz0] at q1
          simp only [execOp, ho, Instr.buildSlice, Sem.run_bind, run_underlying hu, Result.andThen_ok, run_sizeOf hs, hn, if_true, Sem.run_pure, hmap]
          rw [hn] at q1
          simp only [Sem.run_ite, Sem.run_pure, Result.andThen_ok, q1, newRow, run_newObj, Sem.run_bind]
          first | done | rfl
        · simp only [execOp, ho, Instr.buildSlice, Sem.run_bind, run_underlying hu, Result.andThen_ok, run_sizeOf hs, if_neg hnb, hn, if_false, Sem.run_pure, hmap, zeroValue, run_typeInfo hti, hzz, q1, newRow, run_newObj]
          rfl
      · cases hz
    · cases hz
  · cases h

theorem noLocB_spec : ∀ {cs : List AV}, noLocB cs = true → ∀ {μ μ' : Pos} {vs : List Value}, relL M cs μ vs → relL M cs μ' vs
  | [], _, _, _, _, h => by simpa only [relL] using h
  | c :: cs, hn, μ, μ', vs, h => by
    simp only [noLocB, Bool.and_eq_true] at hn
    simp only [relL] at *
    obtain ⟨v, r, h1, h2, h3⟩ := h
    refine ⟨v, r, h1, ?_, noLocB_spec hn.2 h3⟩
    cases c <;> first | (simp at hn; done) | (simp only [relV] at h2 ⊢; first | done | exact h2)

/-- What an appended slice yields. -/
theorem srcK_spec (R : Rel M μ H w) {e : Nat} {x : AV} {u : Value} (hx : relV M x μ u) {tx : TypeId} (ht : isSlice P tx = true) {K : List AV → Nat → Prop} (hk : srcK H.get e x K) :
    ∃ ds n, K ds n ∧ ds.length = n * e ∧ ∃ news, relL M ds μ news ∧ ((∀ v ∈ news, v.oneCell' = true) → Src P e tx u n news w) := by
  obtain ⟨et, htx⟩ := isSlice_spec ht
  unfold srcK at hk
  split at hk
  · rename_i cs n cap
    simp only [relV] at hx
    rcases hx with ⟨b, q, c, rfl, _, _, hm⟩ | ⟨rfl, rfl, rfl, _⟩
    · obtain ⟨vs, h1, h2, h3⟩ := relM_cells R hm (n * e) hk.l
      exact ⟨_, n, hk.r, by rw [List.length_take]; have := hk.l; omega, vs, h2, fun h1' => Src.ofSlice w htx _ n c vs h1 h3 h1'⟩
    · exact ⟨_, 0, hk.r, by simp, [], by simp [relL], fun _ => Src.ofNil w htx 0⟩
  · simp only [relV] at hx
    subst hx
    exact ⟨[], 0, hk, by simp, [], by simp [relL], fun _ => Src.ofNil w htx 0⟩
  · rename_i k off n cap e'
    simp only [relV] at hx
    obtain ⟨b, sz, c, hμ, rfl, _⟩ := hx
    split at hk
    · rename_i cs hcs
      obtain ⟨vs, h1, h2, h3⟩ := cells_cells R hcs hμ (n * e) hk.l
      exact ⟨_, n, hk.r, by rw [List.length_take, List.length_drop]; have := hk.l; omega, vs, h2, fun h1' => Src.ofSlice w htx _ n c vs h1 h3 h1'⟩
    · exact hk.elim
  · exact hk.elim

theorem okAppend_spec {ts : List TypeId} {e bytes : Nat} (h : okAppend P ts e bytes = true) : ∃ t tx el i z, ts = [t, tx] ∧ isSlice P tx = true ∧ P.underlying t = some (.slice el) ∧ P.info? el = some i ∧ i.size = e ∧ i.bytes = bytes ∧ i.zero = some z ∧ z.cells.size = e := by
  unfold okAppend at h
  split at h
  · rename_i t tx
    simp only [Bool.and_eq_true] at h
    obtain ⟨h1, h2⟩ := h
    split at h2
    · rename_i el hu
      split at h2
      · rename_i i hi
        simp only [Bool.and_eq_true, beq_iff_eq] at h2
        obtain ⟨⟨h3, h4⟩, h5⟩ := h2
        split at h5
        · rename_i z hz
          exact ⟨t, tx, el, i, z, rfl, h1, hu, hi, h3, h4, hz, by simpa using h5⟩
        · cases h5
      · cases h2
    · cases h2
  · cases h

/-- The arm that makes a new array. -/
theorem append_grow {ts : List TypeId} {e bytes : Nat} (h : okAppend P ts e bytes = true) {base : Option Addr} {len cap n : Nat} {olds news : List Value} {x : Value} (hold : (Builtin.firstCells e len (.slice base len cap)).run P w.drew = .ok olds.toArray w.drew)
    (hsrc : ∀ tx, isSlice P tx = true → Src P e tx x n news w) (hg : cap < len + n) (hf : fits (len + n) bytes) (hb : 0 < bytes ∨ len + n ≤ 9223372036854775807) (ty : TypeId) :
    ∃ zs el nc, (Builtin.append_ ts.toArray ty #[.slice base len cap, x]).run P w = .ok (.slice (some ⟨w.heap.size, 0, none⟩) (len + n) nc) (w.drew.alloc (.cells ((olds ++ news).toArray ++ zs) el)) ∧ len + n ≤ nc ∧ (olds.length = len * e → nc * e ≤ ((olds ++ news).toArray ++ zs).size) := by
  obtain ⟨t, tx, el, i, z, rfl, h1, hu, hi, rfl, rfl, hz, hzs⟩ := okAppend_spec h
  have h63 : ((len + n : Nat) : Int) ≤ 9223372036854775807 := by
    rcases hb with hb | hb
    · unfold fits at hf
      have : (len + n + (len + n) / 4 + 192) * 1 ≤ (len + n + (len + n) / 4 + 192) * i.bytes := Nat.mul_le_mul_left _ hb
      omega
    · omega
  have hs := hsrc tx h1
  have := run_append_grow_src w t tx ty el i z hu hi hz base len cap olds hold x n news hs hg h63 (growslice_fits_wide hg hf)
  refine ⟨_, el, _, this, grownCap_ge _ _ _ _, fun hol => ?_⟩
  have hge := grownCap_ge w (len + n) cap el
  have hzc : (Builtin.zeroCells z.cells (grownCap w (len + n) cap el - (len + n))).size = (grownCap w (len + n) cap el - (len + n)) * i.size := by
    simp [Builtin.zeroCells, hzs]
  have hnl := hs.newsLen
  simp only [Array.size_append, List.size_toArray, List.length_append, hzc, hol, hnl]
  rw [← Nat.add_mul, ← Nat.add_mul]
  exact Nat.mul_le_mul_right _ (by omega)

/-- A block is let go. -/
theorem Rel.kill (R : Rel M μ H w) (k : Nat) : Rel M μ (H.set k .dead) w ∧ (∀ b, Own μ (H.set k .dead) b → Own μ H b) := by
  have al : ∀ j, (H.set k .dead).get j ≠ .dead → H.get j ≠ .dead ∧ j ≠ k := fun j hj => by
    rw [Heap.get_set] at hj
    split at hj
    · exact absurd rfl hj
    · rename_i h; exact ⟨hj, Ne.symm h⟩
  have old : ∀ j, (H.set k .dead).get j ≠ .dead → (H.set k .dead).get j = H.get j := fun j hj => by
    rw [Heap.get_set, if_neg (Ne.symm (al j hj).2)]
  refine ⟨⟨R.dom, fun j hj => ?_, fun j cs hj => R.cells j cs (by rw [← old j (by rw [hj]; simp)]; exact hj), fun j es hj => R.maps j es (by rw [← old j (by rw [hj]; simp)]; exact hj),
    fun i j b s t hi hj => R.inj i j b s t (al i hi).1 (al j hj).1, R.imm, fun j b s hj => R.apart j b s (al j hj).1⟩, fun b ⟨j, s, hj, hμ⟩ => ⟨j, s, (al j hj).1, hμ⟩⟩
  rw [Heap.get_set]
  split
  · rfl
  · exact R.top j hj

/-- A block goes to another place, that is free. -/
theorem Rel.shiftTo (R : Rel M μ H w) {k p : Nat} {cs : List AV} {x : Nat × Nat} (hk : H.get k = .cells cs) (hμ : μ k = some x) (hp : p < H.nx) (hfree : μ p = none) :
    Rel M (μ.put p x) ((H.set k .dead).set p (.cells cs)) w ∧ Pos.le μ (μ.put p x) ∧ ∀ n, n ≤ p → Grow n M μ H w M (μ.put p x) ((H.set k .dead).set p (.cells cs)) w := by
  have hkp : k ≠ p := fun e => by subst e; rw [hμ] at hfree; cases hfree
  have hne : H.get k ≠ .dead := by rw [hk]; simp
  have hle : Pos.le μ (μ.put p x) := Pos.le_put hfree x
  have from' : ∀ j, ((H.set k .dead).set p (.cells cs)).get j ≠ .dead → ∃ i, H.get i ≠ .dead ∧ H.get i = ((H.set k .dead).set p (.cells cs)).get j ∧ μ i = (μ.put p x) j ∧ ((j = p ∧ i = k) ∨ (j ≠ p ∧ i = j ∧ i ≠ k)) := by
    intro j hj
    rw [Heap.get_set] at hj
    by_cases h1 : p = j
    · subst h1
      exact ⟨k, hne, by rw [Heap.get_set, if_pos rfl, hk], by rw [Pos.put_same, hμ], .inl ⟨rfl, rfl⟩⟩
    · rw [if_neg h1, Heap.get_set] at hj
      by_cases h2 : k = j
      · rw [if_pos h2] at hj; exact absurd rfl hj
      · rw [if_neg h2] at hj
        exact ⟨j, hj, by rw [Heap.get_set, if_neg h1, Heap.get_set, if_neg h2], by rw [Pos.put_other _ _ (Ne.symm h1)], .inr ⟨Ne.symm h1, rfl, Ne.symm h2⟩⟩
  refine ⟨⟨fun j hj => ?_, fun j hj => ?_, fun j ds hj => ?_, fun j es hj => ?_, fun i j b s t hi hj hx hy => ?_, R.imm, fun j b s hj hx o => ?_⟩, hle, fun n hn => ⟨Mem.le_refl _, fun j hj => Pos.put_other _ _ (by omega), Keep.refl _ _, fun b hb => ?_, fun _ _ _ h => .inl h⟩⟩
  · have hj' : H.nx ≤ j := hj
    rw [Pos.put_other _ _ (by omega)]; exact R.dom j hj'
  · have hj' : H.nx ≤ j := hj
    have := R.pos_lt hμ
    rw [Heap.get_set, if_neg (by omega), Heap.get_set, if_neg (by omega)]
    exact R.top j hj'
  · obtain ⟨i, h1, h2, h3, _⟩ := from' j (by rw [hj]; simp)
    obtain ⟨b, sz, c, el, fz, e1, e2, e3, e4, e5⟩ := R.cells i ds (h2.trans hj)
    exact ⟨b, sz, c, el, fz, by rw [← h3]; exact e1, e2, e3, e4, relP_mono (Mem.le_refl _) hle _ e5⟩
  · obtain ⟨i, h1, h2, h3, _⟩ := from' j (by rw [hj]; simp)
    obtain ⟨b, sz, ents, clock, e1, e2⟩ := R.maps i es (h2.trans hj)
    exact ⟨b, sz, ents, clock, by rw [← h3]; exact e1, e2⟩
  · obtain ⟨i', h1, _, h3, h4⟩ := from' i hi
    obtain ⟨j', g1, _, g3, g4⟩ := from' j hj
    have := R.inj i' j' b s t h1 g1 (h3.trans hx) (g3.trans hy)
    rcases h4 with ⟨q1, q2⟩ | ⟨q1, q2, q3⟩ <;> rcases g4 with ⟨r1, r2⟩ | ⟨r1, r2, r3⟩ <;> omega
  · obtain ⟨i, h1, _, h3, _⟩ := from' j hj
    exact R.apart i b s h1 (h3.trans hx) o
  · obtain ⟨j, s, hj, hx⟩ := hb
    obtain ⟨i, h1, _, h3, _⟩ := from' j hj
    exact .inl ⟨i, s, h1, h3.trans hx⟩

theorem Move.trans {M' M'' : Mem} {μ' μ'' : Pos} {H' H'' : Heap} {w' w'' : World} (a : Move M μ H w M' μ' H' w') (b : Move M' μ' H' w' M'' μ'' H'' w'') : Move M μ H w M'' μ'' H'' w'' :=
  ⟨Pos.le_trans a.le b.le, a.grow.trans (b.grow.mono a.nx), Nat.le_trans a.nx b.nx⟩

/-- The arm that has room. -/
theorem append_room {ts : List TypeId} {e bytes : Nat} (h : okAppend P ts e bytes = true) {b off len cap n : Nat} {news : List Value} {x : Value} {c : Array Value} {el : TypeId} {fz : Nat × Nat}
    (hsrc : ∀ tx, isSlice P tx = true → Src P e tx x n news w) (hroom : len + n ≤ cap) (hb : w.heap[b]? = some (.cells c el fz)) (hfz : fz = (0, 0) ∨ c.size ≤ fz.1) (hsz : off + cap * e ≤ c.size) (ty : TypeId) :
    (Builtin.append_ ts.toArray ty #[.slice (some ⟨b, off, none⟩) len cap, x]).run P w = .ok (.slice (some ⟨b, off, none⟩) (len + n) cap) (w.setRow b (c.toList.take (off + len * e) ++ news ++ c.toList.drop (off + len * e + news.length)).toArray) := by
  obtain ⟨t, tx, el', i, z, rfl, h1, hu, hi, rfl, rfl, hz, hzs⟩ := okAppend_spec h
  have hs := hsrc tx h1
  have hfit : off + len * i.size + news.length ≤ c.size := by
    rw [hs.newsLen, Nat.add_assoc, ← Nat.add_mul]
    exact Nat.le_trans (Nat.add_le_add_left (Nat.mul_le_mul_right _ hroom) _) hsz
  have hst := run_storeCells_fz (P := P) b (off + len * i.size) el fz news 0 c w hb hfz (by omega) hs.one
  simp only [Nat.add_zero] at hst
  rcases hs.kind with ⟨e', hk⟩ | hk <;>
    simp only [Builtin.append_, List.getElem?_toArray, List.getElem?_cons_zero, List.getElem?_cons_succ, Sem.run_bind, Sem.run_pure, run_underlying hu, run_underlying hk, run_sizeOf_i hi, Result.andThen_ok, Bool.false_eq_true, if_false, hs.len, if_pos hroom, Bool.not_false, if_true, hs.cells, add_addr, hst]

theorem run_call_append {c : Call} {s x : Operand} {ts : List TypeId} {o : Oper} (ho : o.op = .call c) (hb : bcall c .append = some ([s, x], ts)) (w : World) :
    (execOp a.eval o).run P w = ((Builtin.append_ ts.toArray o.type #[a.eval s, a.eval x]).run P w).andThen fun v w' => .ok (.value v) w' := by
  rw [bcall_spec hb] at ho
  rw [run_call_builtin ho]
  simp only [builtin, List.map_toArray, List.map_cons, List.map_nil, Sem.run_bind, Sem.run_pure]

theorem firstCells_slice {e len cap : Nat} {b off : Nat} {vs : List Value} (hl : vs.length = len * e) (h : ∀ j v, vs[j]? = some v → w.cell? (Addr.add ⟨b, off, none⟩ j) = some v) : (Builtin.firstCells e len (.slice (some ⟨b, off, none⟩) len cap)).run P w.drew = .ok vs.toArray w.drew := by
  have := run_loadCells_list (P := P) w.drew ⟨b, off, none⟩ vs (by simpa using h)
  simp only [Builtin.firstCells]
  rw [← hl]; exact this

theorem append_nil {ts : List TypeId} {e bytes : Nat} (h : okAppend P ts e bytes = true) {base : Option Addr} {len cap : Nat} {x : Value} (hb : base = none ∨ ∃ b o, base = some ⟨b, o, none⟩) (hsrc : ∀ tx, isSlice P tx = true → Src P e tx x 0 [] w) (hl : len ≤ cap) (ty : TypeId) :
    (Builtin.append_ ts.toArray ty #[.slice base len cap, x]).run P w = .ok (.slice base len cap) w := by
  obtain ⟨t, tx, el', i, z, rfl, h1, hu, hi, rfl, rfl, hz, hzs⟩ := okAppend_spec h
  have hs := hsrc tx h1
  rcases hs.kind with ⟨e', hk⟩ | hk <;> rcases hb with rfl | ⟨b, o, rfl⟩ <;>
    simp only [Builtin.append_, List.getElem?_toArray, List.getElem?_cons_zero, List.getElem?_cons_succ, Sem.run_bind, Sem.run_pure, run_underlying hu, run_underlying hk, run_sizeOf_i hi, Result.andThen_ok, Bool.false_eq_true, if_false, hs.len, Nat.add_zero, if_pos hl, Bool.not_false, if_true, hs.cells, storeCells]

theorem bytes_bound {n bytes : Nat} (h : fits n bytes) (hn : 0 < bytes) : n ≤ 9223372036854775807 := by
  unfold fits at h
  have : (n + n / 4 + 192) * 1 ≤ (n + n / 4 + 192) * bytes := Nat.mul_le_mul_left _ hn
  omega

/-- The result of an operation that lays a block at a free place p (and lets k go). -/
structure Laid (P : Program) (o : Oper) (a : Act) (M : Mem) (μ : Pos) (H : Heap) (w : World) (p : Nat) (v : AV) (H' : Heap) : Prop where
  ex : ∃ u w' μ', (execOp a.eval o).run P w = .ok (.value u) w' ∧ Rel M μ' H' w' ∧ relV M v μ' u ∧ Pos.le μ μ' ∧ (∀ n, n ≤ p → Grow n M μ H w M μ' H' w') ∧ ∀ j, j ≠ p → μ' j = μ j

/-- What an append does, in words of a heap with a free place p. -/
def appK (cur : Nat → AB) (Hr : Nat → AB) (p e bytes : Nat) (s x : AV) (K : AV → List AV → Option Nat → Prop) : Prop := match s with
  | .slice k off len _ e' => match cur k with
    | .cells cs => srcK Hr e x fun ds n => Side (e' = e ∧ off = 0 ∧ cs.length = len * e ∧ fits (len + n) bytes ∧ ∀ c ∈ ds, scal c = true) (K (.slice p 0 (len + n) none e) (cs ++ ds) (some k))
    | _ => False
  | .dslice cs len cap => srcK Hr e x fun ds n => Side (cap = some len ∧ 0 < n ∧ len * e ≤ cs.length ∧ fits (len + n) bytes ∧ ∀ c ∈ ds, scal c = true) (K (.slice p 0 (len + n) none e) (cs.take (len * e) ++ ds) none)
  | .nils => srcK Hr e x fun ds n => Side (0 < n ∧ fits n bytes ∧ ∀ c ∈ ds, scal c = true) (K (.slice p 0 n none e) ds none)
  | _ => False
def killO (H : Heap) : Option Nat → Heap
  | none => H
  | some k => H.set k .dead

theorem relP_app {cs ds : List AV} {olds news : List Value} {zs : Array Value} (o2 : relL M cs μ olds) (hrel : relL M ds μ news) : relP M μ (cs ++ ds) ((olds ++ news).toArray ++ zs).toList :=
  relP_of_get fun i c hi => by
    obtain ⟨v, hv', hr'⟩ := relL_get (relL_append o2 hrel) hi
    have hlt : i < (olds ++ news).length := by
      rcases Nat.lt_or_ge i (olds ++ news).length with h | h
      · exact h
      · rw [List.getElem?_eq_none h] at hv'; cases hv'
    exact ⟨v, by rw [Array.toList_append, List.getElem?_append_left hlt]; exact hv', hr'⟩

theorem Laid.of_new {o : Oper} {p : Nat} {cs : List AV} {c : Array Value} {el : TypeId} {len nc e : Nat} (R : Rel M μ H w) (hp : p < H.nx) (hfree : μ p = none) (kl : Option Nat) (hP : relP M μ cs c.toList)
    (hrun : (execOp a.eval o).run P w = .ok (.value (.slice (some ⟨w.heap.size, 0, none⟩) len nc)) (w.drew.alloc (.cells c el))) (hnc : len ≤ nc) (hsz : nc * e ≤ c.size) :
    Laid P o a M μ H w p (.slice p 0 len none e) ((killO H kl).set p (.cells cs)) := by
  have hk : Rel M μ (killO H kl) w.drew ∧ (∀ b, Own μ (killO H kl) b → Own μ H b) ∧ (killO H kl).nx = H.nx := by
    cases kl with
    | none => exact ⟨R.drew, fun _ h => h, rfl⟩
    | some k => exact ⟨(R.drew.kill k).1, (R.drew.kill k).2, rfl⟩
  obtain ⟨R1, hown, hnx⟩ := hk
  obtain ⟨R2, L, G⟩ := R1.lay (p := p) (el := el) (by omega) hfree hP
  refine ⟨_, _, _, hrun, R2, ?_, L, fun n hn => ?_, fun j hj => Pos.put_other _ _ hj⟩
  · simp only [relV]
    exact ⟨w.heap.size, _, nc, Pos.put_same _ _ _, rfl, hnc, by rw [Nat.zero_add]; exact hsz, fun c0 h0 => by cases h0⟩
  · have G := G n hn
    exact ⟨G.mem, G.pin, ⟨G.keep.os, G.keep.tape, G.keep.output, G.keep.size, fun x hx hno => G.keep.block x hx (fun h => hno (hown x h))⟩, fun x hx => (G.own x hx).imp (hown x) id, fun x o v hx => (G.fresh x o v hx).imp id (Or.imp (hown x) id)⟩

theorem srcK_src {ts : List TypeId} {e bytes : Nat} {x : Operand} (hok : okAppend P ts e bytes = true) {xv : AV} (hx' : relV M xv μ (a.eval x)) (R : Rel M μ H w) {Hr : Nat → AB} (hHr : ∀ k cs, Hr k = .cells cs → H.get k = .cells cs) {K : List AV → Nat → Prop} (hk : srcK Hr e xv K) :
    ∃ ds n, K ds n ∧ ds.length = n * e ∧ ∃ news, relL M ds μ news ∧ ((∀ v ∈ news, v.oneCell' = true) → ∀ tx, isSlice P tx = true → Src P e tx (a.eval x) n news w) := by
  obtain ⟨t, tx, el, i, z, rfl, h1, _⟩ := okAppend_spec hok
  have hk' : srcK H.get e xv K := by
    unfold srcK at hk ⊢
    split at hk
    · exact hk
    · exact hk
    · split at hk
      · rename_i cs hcs; rw [hHr _ _ hcs]; exact hk
      · exact hk.elim
    · exact hk.elim
  obtain ⟨ds, n, q1, q2, news, q3, q4⟩ := srcK_spec R hx' h1 hk'
  refine ⟨ds, n, q1, q2, news, q3, fun h1' tx' htx' => ?_⟩
  obtain ⟨et, het⟩ := isSlice_spec htx'
  have := q4 h1'
  exact ⟨.inl ⟨et, het⟩, this.len, this.cells, this.cellsD, this.newsLen, this.one⟩
theorem append_laid {c : Call} {s x : Operand} {ts : List TypeId} {e bytes : Nat} {o : Oper} (ho : o.op = .call c) (hb : bcall c .append = some ([s, x], ts)) (hok : okAppend P ts e bytes = true) (hby : 0 < bytes) {sv xv : AV} (hs' : relV M sv μ (a.eval s)) (hx' : relV M xv μ (a.eval x))
    (R : Rel M μ H w) {Hr : Nat → AB} (hHr : ∀ k cs, Hr k = .cells cs → H.get k = .cells cs) {p : Nat} (hp : p < H.nx) (hfree : μ p = none) {K : AV → List AV → Option Nat → Prop} (hr : appK H.get Hr p e bytes sv xv K) :
    ∃ v l kl, K v l kl ∧ Laid P o a M μ H w p v ((killO H kl).set p (.cells l)) := by
  have htx : ∀ {K : List AV → Nat → Prop}, srcK Hr e xv K → ∃ ds n, K ds n ∧ ds.length = n * e ∧ ∃ news, relL M ds μ news ∧ ((∀ v ∈ news, v.oneCell' = true) → ∀ tx, isSlice P tx = true → Src P e tx (a.eval x) n news w) := fun hk => srcK_src hok hx' R hHr hk
  unfold appK at hr
  split at hr
  · rename_i k off len cap e'
    simp only [relV] at hs'
    obtain ⟨b, sz, cp, hμ, hv, hlc, hsz, hcap⟩ := hs'
    split at hr
    · rename_i cs hk
      obtain ⟨ds, n, hside, hdl, news, hrel, hsrc⟩ := htx hr
      obtain ⟨⟨rfl, rfl, hcl, hfit, hsc⟩, hkk⟩ := hside
      have hsrc' := hsrc (relL_one (by simpa using hsc) hrel)
      obtain ⟨b', sz', cc, el, fz, q1, q2, q3, q4, q5⟩ := R.cells k cs hk
      rw [hμ] at q1; cases q1
      have hnl : news.length = n * e' := by have := relL_length hrel; omega
      refine ⟨_, _, _, hkk, ?_⟩
      by_cases hroom : len + n ≤ cp
      · -- in place
        have hrun := append_room hok hsrc' hroom q2 (by rw [q3]; exact q4) (by rw [q3]; exact hsz) o.type
        have hP : relP M μ (cs ++ ds) (cc.toList.take (0 + len * e') ++ news ++ cc.toList.drop (0 + len * e' + news.length)) := by
          rw [Nat.zero_add, ← hcl]
          have hple := relP_length q5
          have hmin : (cc.toList.take cs.length).length = cs.length := by rw [List.length_take]; exact Nat.min_eq_left hple
          refine relP_of_get fun i c hi => ?_
          by_cases h1 : i < cs.length
          · rw [List.getElem?_append_left h1] at hi
            obtain ⟨v, hv', hr'⟩ := relP_get q5 hi
            exact ⟨v, by rw [List.append_assoc, List.getElem?_append_left (by rw [hmin]; exact h1), List.getElem?_take_of_lt h1]; exact hv', hr'⟩
          · rw [List.getElem?_append_right (by omega)] at hi
            obtain ⟨v, hv', hr'⟩ := relL_get hrel hi
            have hlt : i - cs.length < news.length := by
              rcases Nat.lt_or_ge (i - cs.length) news.length with h | h
              · exact h
              · rw [List.getElem?_eq_none h] at hv'; cases hv'
            refine ⟨v, ?_, hr'⟩
            rw [List.append_assoc, List.getElem?_append_right (by rw [hmin]; omega), hmin, List.getElem?_append_left hlt]
            exact hv'
        obtain ⟨R1, G1⟩ := R.write hk hμ q2 q4 (cs' := cs ++ ds) (c' := (cc.toList.take (0 + len * e') ++ news ++ cc.toList.drop (0 + len * e' + news.length)).toArray) (by
          have h1 : 0 + len * e' + news.length ≤ cc.size := by
            rw [hnl, q3, Nat.zero_add, ← Nat.add_mul]
            exact Nat.le_trans (Nat.mul_le_mul_right _ hroom) (by omega)
          simp; omega) hP
        obtain ⟨R2, L2, G2⟩ := R1.shiftTo (k := k) (p := p) (cs := cs ++ ds) (x := (b, sz)) (by rw [Heap.get_set, if_pos rfl]) hμ hp hfree
        have hg : (((H.set k (.cells (cs ++ ds))).set k .dead).set p (.cells (cs ++ ds))).get = ((H.set k .dead).set p (.cells (cs ++ ds))).get := by
          funext j
          simp only [Heap.get_set]
          split
          · rfl
          · split <;> rfl
        refine ⟨.slice (some ⟨b, 0, none⟩) (len + n) cp, _, μ.put p (b, sz), ?_, ⟨R2.dom, fun j hj => by show ((H.set k .dead).set p (.cells (cs ++ ds))).get j = .dead; rw [← hg]; exact R2.top j hj, fun j ds' hj => R2.cells j ds' (by rw [hg]; exact hj), fun j es hj => R2.maps j es (by rw [hg]; exact hj), fun i j b s t hi hj => R2.inj i j b s t (by rw [hg]; exact hi) (by rw [hg]; exact hj), R2.imm, fun j b s hj => R2.apart j b s (by rw [hg]; exact hj)⟩, ?_, L2, fun m hm => ?_, fun j hj => Pos.put_other _ _ hj⟩
        · rw [run_call_append ho hb, hv, hrun]; rfl
        · simp only [relV]
          exact ⟨b, sz, cp, Pos.put_same _ _ _, rfl, hroom, hsz, fun c0 h0 => by cases h0⟩
        · have G := (G1.grow.mono (show m ≤ H.nx by omega)).trans (G2 m hm)
          refine ⟨G.mem, G.pin, G.keep, fun b hb => G.own b ?_, G.fresh⟩
          obtain ⟨j, s, hj, hμj⟩ := hb
          exact ⟨j, s, by rw [hg]; exact hj, hμj⟩
      · -- a new array
        obtain ⟨olds, o1, o2, o3⟩ := cells_cells R hk hμ (off := 0) cs.length (by omega)
        simp only [List.drop_zero, List.take_length] at o2
        obtain ⟨zs, el', nc, hrun, hnc, hncs⟩ := append_grow hok (base := some ⟨b, 0, none⟩) (len := len) (cap := cp) (olds := olds) (firstCells_slice (by rw [o1, hcl]) o3) hsrc' (by omega) hfit (.inl hby) o.type
        exact Laid.of_new R hp hfree (some k) (relP_app o2 hrel) (by rw [run_call_append ho hb, hv, hrun]; rfl) hnc (hncs (by rw [o1, hcl]))
    · exact hr.elim
  · rename_i cs len cap
    simp only [relV] at hs'
    obtain ⟨ds, n, hside, hdl, news, hrel, hsrc⟩ := htx hr
    obtain ⟨⟨rfl, hn0, hcl, hfit, hsc⟩, hkk⟩ := hside
    have hsrc' := hsrc (relL_one (by simpa using hsc) hrel)
    refine ⟨_, _, _, hkk, ?_⟩
    rcases hs' with ⟨b, q, cp, hv, hlc, hcap, hm⟩ | ⟨hv, rfl, rfl, _⟩
    · obtain ⟨vs, h1, h2, h3⟩ := relM_cells R hm (len * e) hcl
      have hcp := hcap len rfl
      obtain ⟨zs, el', nc, hrun, hnc, hncs⟩ := append_grow hok (base := some ⟨b, q, none⟩) (len := len) (cap := cp) (olds := vs) (firstCells_slice h1 h3) hsrc' (by omega) hfit (.inl hby) o.type
      exact Laid.of_new R hp hfree none (relP_app h2 hrel) (by rw [run_call_append ho hb, hv, hrun]; rfl) hnc (hncs h1)
    · obtain ⟨zs, el', nc, hrun, hnc, hncs⟩ := append_grow hok (base := none) (len := 0) (cap := 0) (olds := []) (by simp [Builtin.firstCells]) hsrc' (by omega) hfit (.inl hby) o.type
      exact Laid.of_new R hp hfree none (relP_app (by simp [relL]) hrel) (by rw [run_call_append ho hb, hv, hrun]; rfl) hnc (hncs (by simp))
  · simp only [relV] at hs'
    obtain ⟨ds, n, hside, hdl, news, hrel, hsrc⟩ := htx hr
    obtain ⟨⟨hn0, hfit, hsc⟩, hkk⟩ := hside
    have hsrc' := hsrc (relL_one (by simpa using hsc) hrel)
    refine ⟨_, _, _, hkk, ?_⟩
    obtain ⟨zs, el', nc, hrun, hnc, hncs⟩ := append_grow hok (base := none) (len := 0) (cap := 0) (olds := []) (by simp [Builtin.firstCells]) hsrc' (by omega) (by rw [Nat.zero_add]; exact hfit) (.inl hby) o.type
    rw [Nat.zero_add] at hrun hnc
    exact Laid.of_new R hp hfree none (by have := relP_app (zs := zs) (M := M) (μ := μ) (cs := []) (olds := []) (by simp [relL]) hrel; simpa using this) (by rw [run_call_append ho hb, hs', hrun]; rfl) hnc (hncs (by simp))
  · exact hr.elim

/-- The result of an operation that makes data. -/
structure Datum (P : Program) (o : Oper) (a : Act) (M : Mem) (μ : Pos) (H : Heap) (w : World) (v : AV) : Prop where
  ex : ∃ u w' M', (execOp a.eval o).run P w = .ok (.value u) w' ∧ Rel M' μ H w' ∧ relV M' v μ u ∧ Move M μ H w M' μ H w'

theorem datum_new {o : Oper} {c : Array Value} {el : TypeId} {cs : List AV} {len nc : Nat} {cap : Option Nat} (R : Rel M μ H w) (hrun : (execOp a.eval o).run P w = .ok (.value (.slice (some ⟨w.heap.size, 0, none⟩) len nc)) (w.drew.alloc (.cells c el))) (hnc : len ≤ nc)
    (hcap : ∀ c0, cap = some c0 → nc = c0) (hP : relP M Pos.none cs c.toList) : Datum P o a M μ H w (.dslice cs len cap) := by
  obtain ⟨R1, G1⟩ := R.drew.data c el
  refine ⟨_, _, _, hrun, R1, ?_, G1.of_drew⟩
  simp only [relV]
  exact .inl ⟨w.heap.size, 0, nc, rfl, hnc, hcap, relM_with G1.grow.mem hP⟩

theorem Rel.nil {M : Mem} {μ : Pos} {H : Heap} {w : World} (R : Rel M μ H w) : Rel M Pos.none Heap.nil w :=
  ⟨fun _ _ => rfl, fun _ _ => rfl, fun k cs h => by simp [Heap.get, Heap.nil, bget] at h, fun k cs h => by simp [Heap.get, Heap.nil, bget] at h, fun i j b s t h => by simp [Heap.get, Heap.nil, bget] at h, R.imm, fun k b s h => by simp [Heap.get, Heap.nil, bget] at h⟩
theorem own_nil {b : Nat} : ¬ Own Pos.none Heap.nil b := fun ⟨_, _, h, _⟩ => h rfl

theorem relM_list (R : Rel M μ H w) {cs : List AV} {b o n : Nat} (h : relM M cs b o) (hn : n ≤ cs.length) : ∃ vs, vs.length = n ∧ relL M (cs.take n) Pos.none vs ∧ ∀ j v, vs[j]? = some v → w.cell? (Addr.add ⟨b, o, none⟩ j) = some v :=
  relM_cells R.nil h n hn

theorem dop_sound {o : Oper} {q : DOp} (h : okD P o.op q = true) (F : RelF N M μ fr a.tmps) (R : Rel M μ H w) {Hr : Nat → AB} (hHr : ∀ k cs, Hr k = .cells cs → H.get k = .cells cs) {K : AV → Prop} (hr : q.run (AX.ev fr) Hr K) : ∃ v, K v ∧ Datum P o a M μ H w v := by
  unfold okD at h
  split at h
  · rename_i t n ps e len zero parts hop
    simp only [DOp.run] at hr
    obtain ⟨us, ds, el, h1, h2, h3, h4⟩ := sound_bs hop h F hr w
    cases hn : noLocB ds with
    | false => simp [hn] at h4
    | true =>
      simp only [hn, cond_true] at h4
      obtain ⟨R1, G1⟩ := R.data us el
      refine ⟨_, h4, _, _, _, h1, R1, ?_, G1⟩
      simp only [relV]
      exact .inl ⟨w.heap.size, 0, len, rfl, Nat.le_refl _, fun c0 h0 => by cases h0; rfl, relM_with G1.grow.mem (relP_of_relL (noLocB_spec hn h2))⟩
  · rename_i c e bytes s x hop
    split at h
    · rename_i s' x' ts hb
      simp only [Bool.and_eq_true] at h
      obtain ⟨⟨⟨q1, q2⟩, q3⟩, q4⟩ := h
      have hby : 0 < bytes := by simpa [Nat.blt_eq] using q2
      have hs := rel_okX F q3
      have hx := rel_okX F q4
      simp only [DOp.run] at hr
      have src : ∀ {ds : List AV} {n : Nat} {cap : Option Nat}, relV M (.dslice ds n cap) μ (a.eval x') → n * e ≤ ds.length → (∀ c ∈ ds.take (n * e), scal c = true) → ∃ news, relL M (ds.take (n * e)) Pos.none news ∧ news.length = n * e ∧ ∀ tx, isSlice P tx = true → Src P e tx (a.eval x') n news w := by
        intro ds n cap hx hn hsc
        simp only [relV] at hx
        rcases hx with ⟨b, q, c, hv, _, _, hm⟩ | ⟨hv, rfl, rfl, _⟩
        · obtain ⟨vs, h1, h2, h3⟩ := relM_list R hm hn
          refine ⟨vs, h2, h1, fun tx htx => ?_⟩
          obtain ⟨et, het⟩ := isSlice_spec htx
          rw [hv]; exact Src.ofSlice w het _ n c vs h1 h3 (relL_one (by simpa using hsc) h2)
        · refine ⟨[], by simp [relL], by simp, fun tx htx => ?_⟩
          obtain ⟨et, het⟩ := isSlice_spec htx
          rw [hv]; exact Src.ofNil w het 0
      have zero : ∀ {base : Option Addr} {len cp n : Nat} {news : List Value}, news.length = n * e → n = 0 → (∀ tx, isSlice P tx = true → Src P e tx (a.eval x') n news w) → a.eval s' = .slice base len cp → (base = none ∨ ∃ b o, base = some ⟨b, o, none⟩) → len ≤ cp → (execOp a.eval o).run P w = .ok (.value (.slice base len cp)) w := by
        intro base len cp n news hnl hn hsrc hv hb' hl
        subst hn
        have : news = [] := List.eq_nil_of_length_eq_zero (by omega)
        subst this
        rw [run_call_append hop hb, hv, append_nil q1 hb' hsrc hl]; rfl
      split at hr
      · rename_i cs len cap ds n cap2 hcs hds
        rw [hcs] at hs; rw [hds] at hx
        obtain ⟨⟨rfl, hcl, hdl, hfit, hsc⟩, hk⟩ := hr
        obtain ⟨news, hrel, hnl, hsrc⟩ := src hx hdl hsc
        refine ⟨_, hk, ?_⟩
        simp only [relV] at hs
        rcases hs with ⟨b, q, cp, hv, hlc, hcap, hm⟩ | ⟨hv, rfl, rfl, hcap⟩
        · have hcp := hcap len rfl
          by_cases hn0 : n = 0
          · have hrun := zero hnl hn0 hsrc hv (.inr ⟨b, q, rfl⟩) hlc
            refine ⟨_, w, M, hrun, R, ?_, Move.refl _ _ _ _⟩
            simp only [relV]
            refine .inl ⟨b, q, cp, by rw [hn0]; rfl, by omega, fun c0 h0 => (by cases h0), ?_⟩
            have : ds.take (n * e) = [] := by rw [hn0]; simp
            rw [this, List.append_nil]; exact relM_take _ hm
          · obtain ⟨vs, h1, h2, h3⟩ := relM_list R hm hcl
            obtain ⟨zs, el', nc, hrun, hnc, _⟩ := append_grow q1 (base := some ⟨b, q, none⟩) (len := len) (cap := cp) (olds := vs) (firstCells_slice h1 h3) hsrc (by omega) hfit (.inl hby) o.type
            exact datum_new R (by rw [run_call_append hop hb, hv, hrun]; rfl) hnc (fun c0 h0 => by cases h0) (relP_app h2 hrel)
        · by_cases hn0 : n = 0
          · have hrun := zero hnl hn0 hsrc hv (.inl rfl) (Nat.le_refl _)
            refine ⟨_, w, M, hrun, R, ?_, Move.refl _ _ _ _⟩
            simp only [relV]
            exact .inr ⟨trivial, by omega, by rw [hn0]; simp, fun c0 h0 => by cases h0⟩
          · obtain ⟨zs, el', nc, hrun, hnc, _⟩ := append_grow q1 (base := none) (len := 0) (cap := 0) (olds := []) (by simp [Builtin.firstCells]) hsrc (by omega) hfit (.inl hby) o.type
            exact datum_new R (by rw [run_call_append hop hb, hv, hrun]; rfl) hnc (fun c0 h0 => by cases h0) (relP_app (by simp [relL]) hrel)
      · rename_i cs len cap hcs hds
        rw [hcs] at hs; rw [hds] at hx
        obtain ⟨rfl, hk⟩ := hr
        refine ⟨_, hk, ?_⟩
        simp only [relV] at hs hx
        have hsrc : ∀ tx, isSlice P tx = true → Src P e tx (a.eval x') 0 [] w := fun tx htx => by
          obtain ⟨et, het⟩ := isSlice_spec htx
          rw [hx]; exact Src.ofNil w het 0
        rcases hs with ⟨b, q, cp, hv, hlc, hcap, hm⟩ | ⟨hv, rfl, rfl, hcap⟩
        · have hrun := zero (n := 0) (news := []) (by simp) rfl hsrc hv (.inr ⟨b, q, rfl⟩) hlc
          refine ⟨_, w, M, hrun, R, ?_, Move.refl _ _ _ _⟩
          simp only [relV]
          exact .inl ⟨b, q, cp, rfl, hlc, fun c0 h0 => (by cases h0), hm⟩
        · have hrun := zero (n := 0) (news := []) (by simp) rfl hsrc hv (.inl rfl) (Nat.le_refl _)
          refine ⟨_, w, M, hrun, R, ?_, Move.refl _ _ _ _⟩
          simp only [relV]
          exact .inr ⟨trivial, trivial, trivial, fun c0 h0 => (by cases h0)⟩
      · rename_i ds n cap2 hcs hds
        rw [hcs] at hs; rw [hds] at hx
        obtain ⟨⟨hdl, hfit, hsc⟩, hk⟩ := hr
        obtain ⟨news, hrel, hnl, hsrc⟩ := src hx hdl hsc
        refine ⟨_, hk, ?_⟩
        simp only [relV] at hs
        by_cases hn0 : n = 0
        · have hrun := zero hnl hn0 hsrc hs (.inl rfl) (Nat.le_refl _)
          refine ⟨_, w, M, hrun, R, ?_, Move.refl _ _ _ _⟩
          simp only [relV]
          exact .inr ⟨trivial, by omega, by rw [hn0]; simp, fun c0 h0 => by cases h0⟩
        · obtain ⟨zs, el', nc, hrun, hnc, _⟩ := append_grow q1 (base := none) (len := 0) (cap := 0) (olds := []) (by simp [Builtin.firstCells]) hsrc (by omega) (by rw [Nat.zero_add]; exact hfit) (.inl hby) o.type
          rw [Nat.zero_add] at hrun hnc
          exact datum_new R (by rw [run_call_append hop hb, hs, hrun]; rfl) hnc (fun c0 h0 => by cases h0) (by have := relP_app (zs := zs) (M := M) (μ := Pos.none) (cs := []) (olds := []) (by simp [relL]) hrel; simpa using this)
      · exact hr.elim
    · cases h
  · rename_i t x lo hi e n x' lo' hi' hop
    simp only [Bool.and_eq_true] at h
    obtain ⟨⟨⟨q1, q2⟩, q3⟩, q4⟩ := h
    have hx := rel_okX F q2
    have hrun : ∀ {b q : Nat} {l h : Int}, a.eval x = .pointer (some ⟨b, q, none⟩) → ((lo = none ∧ l = 0) ∨ ∃ k, lo.map a.eval = some (.int k l)) → ((hi = none ∧ h = n) ∨ ∃ k, hi.map a.eval = some (.int k h)) → 0 ≤ l ∧ l ≤ h → h ≤ n →
        (execOp a.eval o).run P w = .ok (.value (.slice (some (if n = l.toNat then ⟨b, q, none⟩ else ⟨b, q + l.toNat * e, none⟩)) (h.toNat - l.toNat) (n - l.toNat))) w := by
      intro b q l h hv hl hh h1 h2
      unfold okAsub at q1
      split at q1
      · rename_i m el hu
        simp only [Bool.and_eq_true, beq_iff_eq] at q1
        obtain ⟨rfl, hsz⟩ := q1
        simp only [execOp, hop, hv, Option.map_none, Instr.sliceAt, Instr.sureAddr, Sem.run_bind, run_underlying hu, Result.andThen_ok, Sem.run_pure, run_bounds2 (P := P) (isS := false) (len := m) (cap := m) hl hh h1 h2, run_sizeOf hsz, add_addr]
      · rename_i arr hu
        split at q1
        · rename_i m el hu2
          simp only [Bool.and_eq_true, beq_iff_eq] at q1
          obtain ⟨rfl, hsz⟩ := q1
          simp only [execOp, hop, hv, Option.map_none, Instr.sliceAt, Instr.slice, asAddr, Sem.run_bind, run_underlying hu, run_underlying hu2, Result.andThen_ok, Sem.run_pure, run_bounds2 (P := P) (isS := false) (len := m) (cap := m) hl hh h1 h2, run_sizeOf hsz, add_addr]
        · cases q1
      · cases q1
    simp only [DOp.run] at hr
    split at hr
    · rename_i k off hc
      rw [hc] at hx; simp only [relV] at hx
      obtain ⟨b, sz, hμ, hv⟩ := hx
      split at hr
      · rename_i cs hcs
        obtain ⟨l, hr, hl⟩ := optI_spec q3 F hr
        obtain ⟨h, hr, hh⟩ := optI_spec q4 F hr
        obtain ⟨⟨c1, c2, c3, c4, c5⟩, hk⟩ := hr
        obtain ⟨b', sz', cc, el, fz, r1, r2, r3, r4, r5⟩ := R.cells k cs (hHr _ _ hcs)
        rw [hμ] at r1; cases r1
        have hple := relP_length r5
        refine ⟨_, hk, _, w, M, hrun hv hl hh ⟨c1, c3⟩ c4, R, ?_, Move.refl _ _ _ _⟩
        simp only [relV]
        refine ⟨b, sz, n - l.toNat, hμ, ?_, by omega, ?_, fun c0 h0 => by cases h0; rfl⟩
        · rw [if_neg (by omega)]; simp only [Value.slice.injEq, true_and, and_true]; omega
        · have e1 : (n - l.toNat) * e + l.toNat * e = n * e := by rw [← Nat.add_mul]; congr 1; omega
          simp only [Array.length_toList] at hple
          omega
      · exact hr.elim
    · rename_i cs hc
      rw [hc] at hx; simp only [relV] at hx
      obtain ⟨b, q, hv, hm⟩ := hx
      obtain ⟨l, hr, hl⟩ := optI_spec q3 F hr
      obtain ⟨h, hr, hh⟩ := optI_spec q4 F hr
      obtain ⟨⟨c1, c3, c4⟩, hk⟩ := hr
      refine ⟨_, hk, _, w, M, hrun hv hl hh ⟨c1, c3⟩ c4, R, ?_, Move.refl _ _ _ _⟩
      simp only [relV]
      refine .inl ⟨b, if n = l.toNat then q else q + l.toNat * e, n - l.toNat, ?_, by omega, fun c0 h0 => by cases h0; rfl, ?_⟩
      · split
        · simp only [Value.slice.injEq, true_and, and_true]; omega
        · simp only [Value.slice.injEq, true_and, and_true]; omega
      · split
        · have : (h - l).toNat * e = 0 := by rw [show (h - l).toNat = 0 by omega, Nat.zero_mul]
          rw [this]; simp [relM]
        · exact relM_take _ (relM_drop _ hm)
    · exact hr.elim
  · cases h
end
end Go.Eng

namespace Go.Eng
open Go
section
variable {P : Program} {N : Nat} {M : Mem} {μ : Pos} {H : Heap} {fr : Fr} {a : Act} {w : World} {Hr : Nat → AB}
theorem srcK_det {e : Nat} {x : AV} {K : List AV → Nat → Prop} (h : srcK Hr e x K) : ∃ cs n, K cs n ∧ srcK Hr e x (fun cs' n' => cs' = cs ∧ n' = n) := by
  unfold srcK at h ⊢
  split at h
  · exact ⟨_, _, h.r, h.l, rfl, rfl⟩
  · exact ⟨_, _, h, rfl, rfl⟩
  · split at h
    · exact ⟨_, _, h.r, h.l, rfl, rfl⟩
    · exact h.elim
  · exact h.elim
theorem srcK_mono {e : Nat} {x : AV} {K K' : List AV → Nat → Prop} (hk : ∀ cs n, K cs n → K' cs n) (h : srcK Hr e x K) : srcK Hr e x K' := by
  unfold srcK at h ⊢
  split at h
  · exact ⟨h.l, hk _ _ h.r⟩
  · exact hk _ _ h
  · split at h
    · rename_i hq; exact ⟨h.l, hk _ _ h.r⟩
    · exact h.elim
  · exact h.elim


/-- An append, of nothing too. -/
def appN (cur : Nat → AB) (Hr : Nat → AB) (p e bytes : Nat) (s x : AV) (K : AV → AB → Option Nat → Prop) : Prop := match s with
  | .slice k off len cap e' => appK cur Hr p e bytes (.slice k off len cap e') x fun v l kl => K v (.cells l) kl
  | .dslice cs len cap => srcK Hr e x fun ds n => Branch (decide (n = 0)) (K (.dslice cs len cap) .dead none) (Side (cap = some len ∧ len * e ≤ cs.length ∧ fits (len + n) bytes ∧ ∀ c ∈ ds, scal c = true) (K (.slice p 0 (len + n) none e) (.cells (cs.take (len * e) ++ ds)) none))
  | .nils => srcK Hr e x fun ds n => Branch (decide (n = 0)) (K .nils .dead none) (Side (fits n bytes ∧ ∀ c ∈ ds, scal c = true) (K (.slice p 0 n none e) (.cells ds) none))
  | _ => False
theorem Laid.idle {o : Oper} {p : Nat} {v : AV} {u : Value} (R : Rel M μ H w) (hrun : (execOp a.eval o).run P w = .ok (.value u) w) (hv : relV M v μ u) : Laid P o a M μ H w p v ((killO H none).set p .dead) := by
  obtain ⟨R1, own⟩ := R.kill p
  exact ⟨_, w, μ, hrun, R1, hv, Pos.le_refl _, fun n _ => ⟨Mem.le_refl _, fun _ _ => rfl, Keep.refl _ _, fun b hb => .inl (own b hb), fun _ _ _ h => .inl h⟩, fun _ _ => rfl⟩
theorem appN_laid {c : Call} {s x : Operand} {ts : List TypeId} {e bytes : Nat} {o : Oper} (ho : o.op = .call c) (hb : bcall c .append = some ([s, x], ts)) (hok : okAppend P ts e bytes = true) (hby : 0 < bytes) {sv xv : AV} (hs' : relV M sv μ (a.eval s)) (hx' : relV M xv μ (a.eval x))
    (R : Rel M μ H w) (hHr : ∀ k cs, Hr k = .cells cs → H.get k = .cells cs) {p : Nat} (hp : p < H.nx) (hfree : μ p = none) {K : AV → AB → Option Nat → Prop} (hr : appN H.get Hr p e bytes sv xv K) :
    ∃ v ab kl, K v ab kl ∧ Laid P o a M μ H w p v ((killO H kl).set p ab) := by
  have fin : ∀ {K' : AV → List AV → Option Nat → Prop}, appK H.get Hr p e bytes sv xv K' → (∀ v l kl, K' v l kl → K v (.cells l) kl) → ∃ v ab kl, K v ab kl ∧ Laid P o a M μ H w p v ((killO H kl).set p ab) := by
    intro K' h hk
    obtain ⟨v, l, kl, h1, h2⟩ := append_laid ho hb hok hby hs' hx' R hHr hp hfree h
    exact ⟨v, _, kl, hk _ _ _ h1, h2⟩
  have nil : ∀ {base : Option Addr} {len cp : Nat}, srcK Hr e xv (fun _ n => n = 0) → a.eval s = .slice base len cp → (base = none ∨ ∃ b o, base = some ⟨b, o, none⟩) → len ≤ cp → (execOp a.eval o).run P w = .ok (.value (.slice base len cp)) w := by
    intro base len cp hn hv hb' hl
    obtain ⟨ds, n, hn0, hdl, news, hrel, hsrc⟩ := srcK_src hok hx' R hHr hn
    subst hn0
    have hds : ds = [] := List.eq_nil_of_length_eq_zero (by omega)
    subst hds
    have hnews : news = [] := by simpa [relL] using hrel
    subst hnews
    rw [run_call_append ho hb, hv, append_nil hok hb' (hsrc (by simp)) hl]; rfl
  unfold appN at hr
  split at hr
  · exact fin hr fun _ _ _ h => h
  · rename_i cs len cap
    obtain ⟨ds, n, h1, h2⟩ := srcK_det hr
    by_cases hn : n = 0
    · have hk := h1.yes (by simpa using hn)
      refine ⟨_, _, _, hk, ?_⟩
      have hz : srcK Hr e xv (fun _ n => n = 0) := srcK_mono (fun _ _ ⟨_, e2⟩ => by rw [e2]; exact hn) h2
      have hs := hs'
      simp only [relV] at hs
      rcases hs with ⟨b, q, cp, hv, hlc, hcap, hm⟩ | ⟨hv, rfl, rfl, hcap⟩
      · exact Laid.idle R (nil hz hv (.inr ⟨b, q, rfl⟩) hlc) (by simp only [relV]; exact .inl ⟨b, q, cp, rfl, hlc, hcap, hm⟩)
      · exact Laid.idle R (nil hz hv (.inl rfl) (Nat.le_refl _)) (by simp only [relV]; exact .inr ⟨trivial, trivial, trivial, hcap⟩)
    · have hk := h1.no (by simpa using hn)
      exact fin (K' := fun v l kl => K v (.cells l) kl) (by unfold appK; exact srcK_mono (fun _ _ ⟨e1, e2⟩ => by subst e1; subst e2; exact ⟨⟨hk.l.1, by omega, hk.l.2.1, hk.l.2.2.1, hk.l.2.2.2⟩, hk.r⟩) h2) fun _ _ _ h => h
  · obtain ⟨ds, n, h1, h2⟩ := srcK_det hr
    by_cases hn : n = 0
    · have hk := h1.yes (by simpa using hn)
      refine ⟨_, _, _, hk, ?_⟩
      have hz : srcK Hr e xv (fun _ n => n = 0) := srcK_mono (fun _ _ ⟨_, e2⟩ => by rw [e2]; exact hn) h2
      have hs := hs'
      simp only [relV] at hs
      exact Laid.idle R (nil hz hs (.inl rfl) (Nat.le_refl _)) (by simp only [relV])
    · have hk := h1.no (by simpa using hn)
      exact fin (K' := fun v l kl => K v (.cells l) kl) (by unfold appK; exact srcK_mono (fun _ _ ⟨e1, e2⟩ => by subst e1; subst e2; exact ⟨⟨by omega, hk.l.1, hk.l.2⟩, hk.r⟩) h2) fun _ _ _ h => h
  · exact hr.elim

def LOp.run (ev : AX → AV) (cur : Nat → AB) (Hr : Nat → AB) (p : Nat) (K : AV → AB → Option Nat → Prop) : LOp → Prop
  | .bslice e len zero parts => buildK ev (parts.map fun x => (x.1, e, x.2)) (rep zero len) fun cs => K (.slice p 0 len (some len) e) (.cells cs) none
  | .append e bytes s x => appN cur Hr p e bytes (ev s) (ev x) K

theorem lop_sound {o : Oper} {q : LOp} (h : okL P o.op q = true) (F : RelF N M μ fr a.tmps) (R : Rel M μ H w) {Hr : Nat → AB} (hHr : ∀ k cs, Hr k = .cells cs → H.get k = .cells cs) {p : Nat} (hp : p < H.nx) (hfree : μ p = none) {K : AV → AB → Option Nat → Prop}
    (hr : q.run (AX.ev fr) H.get Hr p K) : ∃ v ab kl, K v ab kl ∧ Laid P o a M μ H w p v ((killO H kl).set p ab) := by
  unfold okL at h
  split at h
  · rename_i t n ps e len zero parts hop
    simp only [LOp.run] at hr
    obtain ⟨us, ds, el, h1, h2, h3, h4⟩ := sound_bs hop h F hr w
    obtain ⟨R2, L, G⟩ := R.lay (p := p) (el := el) hp hfree (relP_of_relL h2)
    refine ⟨_, _, _, h4, _, _, _, h1, R2, ?_, L, fun n hn => G n hn, fun j hj => Pos.put_other _ _ hj⟩
    simp only [relV]
    exact ⟨w.heap.size, _, len, Pos.put_same _ _ _, rfl, Nat.le_refl _, by rw [h3]; omega, fun c0 h0 => by cases h0; rfl⟩
  · rename_i c e bytes s x hop
    split at h
    · rename_i s' x' ts hb
      simp only [Bool.and_eq_true] at h
      obtain ⟨⟨⟨q1, q2⟩, q3⟩, q4⟩ := h
      simp only [LOp.run] at hr
      exact appN_laid hop hb q1 (by simpa [Nat.blt_eq] using q2) (rel_okX F q3) (rel_okX F q4) R hHr hp hfree hr
    · cases h
  · cases h

end
end Go.Eng

namespace Go.Eng
open Go

/-! ### Calls -/
def callable (P : Program) (f : FuncId) : Bool := match P.funcs[f]? with
  | some fn => !(fn.name == "runtime.NumGoroutine") && fn.body.isSome
  | none => false

/-- A call of a function, from every world that holds the abstract heap. -/
structure CallA (P : Program) (f : FuncId) (args : List AV) (H : Heap) (K : AV → Heap → Prop) : Prop where
  ok : callable P f = true
  run : ∀ M μ w (vs : Array Value), Rel M μ H w → relL M args μ vs.toList → Calls P f vs w fun e w' =>
    ∃ v M' μ' H' c, e = .returned v ∧ Rel M' μ' H' w' ∧ relV M' c μ' v ∧ Move M μ H w M' μ' H' w' ∧ K c H'

theorem CallA.mono {P : Program} {f : FuncId} {args : List AV} {H : Heap} {K K' : AV → Heap → Prop} (h : CallA P f args H K) (hk : ∀ v H', K v H' → K' v H') : CallA P f args H K' :=
  ⟨h.ok, fun M μ w vs R hv => (h.run M μ w vs R hv).mono fun _ _ ⟨v, M', μ', H', c, h1, h2, h3, h4, h5⟩ => ⟨v, M', μ', H', c, h1, h2, h3, h4, hk _ _ h5⟩⟩

theorem run_callFunc {P : Program} {f : FuncId} (h : callable P f = true) (args : Array Value) (w : World) : (callFunc f args).run P w = .ok (.enter f args) w := by
  unfold callable at h
  split at h
  · rename_i fn hf
    simp only [Bool.and_eq_true, Bool.not_eq_true'] at h
    obtain ⟨h1, h2⟩ := h
    have h3 : fn.body.isNone = false := by cases hb : fn.body <;> simp_all
    simp only [callFunc, Sem.run_bind, run_program, Result.andThen_ok, hf, h1, Bool.false_eq_true, if_false, h3, Sem.run_pure]
  · cases h

/-! ### Code -/
inductive AOp where
  | p (o : POp)
  | v (o : VOp)
  | h (o : HOp)
  | d (o : DOp)
  | l (o : LOp)
  | call (f : FuncId) (args : List AX)
  | callv (x : AX) (args : List AX)

structure AO where
  dst : Option Nat
  op : AOp
  guard : Option (Nat × Bool)

inductive XA where
  | normal
  | exit (id : Nat)
  | ret

/-- From one abstract state to another that says no more of the same world. -/
def Into (n : Nat) (fr : Fr) (H : Heap) (fr' : Fr) (H' : Heap) : Prop := ∀ N M μ w tmps, Rel M μ H w → RelF N M μ fr tmps → n ≤ H.nx →
  ∃ M' μ', Rel M' μ' H' w ∧ RelF N M' μ' fr' tmps ∧ n ≤ H'.nx ∧ Grow n M μ H w M' μ' H' w
structure To (n : Nat) (fr : Fr) (H : Heap) (J : Fr → Heap → Prop) : Prop where
  ex : ∃ fr' H', Into n fr H fr' H' ∧ J fr' H'
theorem To.refl {n : Nat} {fr : Fr} {H : Heap} {J : Fr → Heap → Prop} (h : J fr H) : To n fr H J :=
  ⟨fr, H, fun _ M μ _ _ R F hn => ⟨M, μ, R, F, hn, Grow.refl _ _ _ _ _⟩, h⟩

/-- A loop: an invariant that bears a number. -/
structure LoopA (n : Nat) (body : (XA → Fr → Heap → Prop) → Fr → Heap → Prop) (Q : XA → Fr → Heap → Prop) (fr : Fr) (H : Heap) : Prop where
  ex : ∃ (I : Nat → Fr → Heap → Prop) (m0 : Nat), To n fr H (I m0) ∧ ∀ m fr H, I m fr H → body (fun x fr' H' => match x with
    | .normal => ∃ m', m' < m ∧ To n fr' H' (I m')
    | x => Q x fr' H') fr H

def newK0 (H : Heap) (ab : AB) (kl : Option Nat) (K : Heap → Prop) : Prop := match H with
  | ⟨nx, bs⟩ => match kl with
    | none => K ⟨nx + 1, (nx, ab) :: bs⟩
    | some k => K ⟨nx + 1, (nx, ab) :: (k, .dead) :: bs⟩
theorem newK0_eq (H : Heap) (ab : AB) (kl : Option Nat) (K : Heap → Prop) : newK0 H ab kl K = K ((killO ⟨H.nx + 1, H.bs⟩ kl).set H.nx ab) := by cases kl <;> rfl
section
variable (P : Program)
def AOp.run (fr : Fr) (H : Heap) (K : AV → Heap → Prop) : AOp → Prop
  | .p o => o.run (AX.ev fr) fun v => K v H
  | .v o => o.run (AX.ev fr) fun v => K v H
  | .h o => o.run (AX.ev fr) H K
  | .d o => o.run (AX.ev fr) H.get fun v => K v H
  | .l o => o.run (AX.ev fr) H.get H.get H.nx fun v ab kl => newK0 H ab kl (K v)
  | .call f args => fvs (args.map (AX.ev fr)) fun vs => CallA P f vs H K
  | .callv x args => match x.ev fr with
    | .func f caps => fvs (args.map (AX.ev fr)) fun vs => CallA P f (vs ++ caps) H K
    | _ => False

def AO.run (fr : Fr) (H : Heap) (K : Fr → Heap → Prop) (o : AO) : Prop := match o.guard with
  | none => o.op.run P fr H fun v H' => putK fr o.dst v fun fr' => K fr' H'
  | some (s, want) => match look fr s with
    | .bool b => match want with
      | true => Branch b (o.op.run P ((s, .bool true) :: fr) H fun v H' => putK ((s, .bool true) :: fr) o.dst v fun fr' => K fr' H') (putK ((s, .bool false) :: fr) o.dst (.tuple []) fun fr' => K fr' H)
      | false => Branch b (putK ((s, .bool true) :: fr) o.dst (.tuple []) fun fr' => K fr' H) (o.op.run P ((s, .bool false) :: fr) H fun v H' => putK ((s, .bool false) :: fr) o.dst v fun fr' => K fr' H')
    | .tuple [] => putK fr o.dst (.tuple []) fun fr' => K fr' H
    | _ => False

/-- (By the recursor itself: so Lean's two evaluators leave the same text behind.) -/
noncomputable def runOps (K : Fr → Heap → Prop) (l : List AO) : Fr → Heap → Prop := List.rec (motive := fun _ => Fr → Heap → Prop) K (fun o _ ih fr H => o.run P fr H ih) l

def okOp (P : Program) : Op → AOp → Bool
  | op, .p q => okP P op q
  | op, .v q => okVop P op q
  | op, .h q => okH P op q
  | op, .d q => okD P op q
  | op, .l q => okL P op q
  | .call { callee := .value (.func g), args, .. }, .call f args' => f == g && okXs args.toList args'
  | .call { callee := .value x, args, .. }, .callv x' args' => okX x x' && okXs args.toList args'
  | _, _ => false
def okGuard (ops : Array Oper) : Option (Nat × Bool) → Option (Nat × Bool) → Bool
  | none, none => true
  | some (j, b), some (s, b') => b == b' && (match ops[j]? with | some o => o.dst == some s | none => false)
  | _, _ => false
def okAO (N : Nat) (ops : Array Oper) (o : Oper) (q : AO) : Bool := o.dst == q.dst && dstOk N q.dst && okGuard ops o.guard q.guard && okOp P o.op q.op
def okAOs (N : Nat) (ops : Array Oper) : List Oper → List AO → Bool
  | [], [] => true
  | o :: os, q :: qs => okAO P N ops o q && okAOs N ops os qs
  | _, _ => false
end

/-! ### Soundness -/
/-- The state of a function that is being run, since it began. -/
structure St (N n : Nat) (M0 : Mem) (μ0 : Pos) (H0 : Heap) (w0 : World) (fr : Fr) (H : Heap) (a : Act) (w : World) : Prop where
  defers : a.defers = []
  ex : ∃ M μ, Rel M μ H w ∧ RelF N M μ fr a.tmps ∧ n ≤ H.nx ∧ Grow n M0 μ0 H0 w0 M μ H w

def xa : Exit → Option XA
  | .normal => some .normal
  | .exit id => some (.exit id)
  | .ret => some .ret
  | _ => none

section
variable {P : Program} {N n : Nat} {M0 : Mem} {μ0 : Pos} {H0 : Heap} {w0 : World}

/-- What is shown at the end of a piece of code. -/
def Post (N n : Nat) (M0 : Mem) (μ0 : Pos) (H0 : Heap) (w0 : World) (Q : XA → Fr → Heap → Prop) : Exit → Act → World → Prop :=
  fun e a w => ∃ x fr H, xa e = some x ∧ St N n M0 μ0 H0 w0 fr H a w ∧ Q x fr H

theorem St.step {fr : Fr} {H : Heap} {a : Act} {w : World} {M M' : Mem} {μ μ' : Pos} {H' : Heap} {w' : World} {d : Option Nat} {v : Value} {c : AV} (hd : a.defers = []) (F : RelF N M μ fr a.tmps) (hn : n ≤ H.nx)
    (G0 : Grow n M0 μ0 H0 w0 M μ H w) (R' : Rel M' μ' H' w') (hv : relV M' c μ' v) (G : Move M μ H w M' μ' H' w') (hdst : dstOk N d = true) :
    St N n M0 μ0 H0 w0 (put fr d c) H' (a.put d v) w' :=
  ⟨by cases d <;> simpa [Act.put] using hd, M', μ', R', (F.mono G.grow.mem G.le).put hdst hv, Nat.le_trans hn G.nx, G0.trans (G.grow.mono hn)⟩

theorem sound_op {o : Oper} {q : AOp} (h : okOp P o.op q = true) {fr : Fr} {H : Heap} {a : Act} {w : World} {K : AV → Heap → Prop} {Q : Exit → Act → World → Prop} (S : St N n M0 μ0 H0 w0 fr H a w) (hdst : dstOk N o.dst = true)
    (hr : q.run P fr H K) {next : Act → World → Prop} (hnext : ∀ c H' a' w', St N n M0 μ0 H0 w0 (put fr o.dst c) H' a' w' → K c H' → next a' w') : o.wp P a w next Q := by
  obtain ⟨hd, M, μ, R, F, hn, G0⟩ := S
  have call : ∀ (f : FuncId) (vs : Array Value) (as : List AV), (execOp a.eval o).run P w = (callFunc f vs).run P w → relL M as μ vs.toList → CallA P f as H K → o.wp P a w next Q := by
    intro f vs as he hl hc
    unfold Oper.wp
    rw [he, run_callFunc hc.ok]
    simp only [Oper.upon]
    refine (hc.run M μ w vs R hl).mono ?_
    rintro e w' ⟨v, M', μ', H', c, rfl, R', hv, G, hk⟩
    exact hnext c H' _ _ (St.step hd F hn G0 R' hv G hdst) hk
  unfold okOp at h
  split at h
  · obtain ⟨v, c, h1, h2, h3⟩ := pop_sound h F hr w
    simp only [Oper.wp, h1, Oper.upon]
    exact hnext c H _ _ (St.step hd F hn G0 R h2 (Move.refl _ _ _ _) hdst) h3
  · obtain ⟨v, c, h1, h2, h3⟩ := vop_sound h F hr w
    simp only [Oper.wp, h1, Oper.upon]
    exact hnext c H _ _ (St.step hd F hn G0 R h2 (Move.refl _ _ _ _) hdst) h3
  · obtain ⟨nx, v, w', h1, h2, M', μ', H', c, R', hv, G, hk⟩ := hop_sound h R F hr
    have := hnext c H' _ _ (St.step (v := v) hd F hn G0 R' hv G hdst) hk
    rcases h2 with rfl | ⟨rfl, rfl⟩
    · simp only [Oper.wp, h1, Oper.upon]; exact this
    · simp only [Oper.wp, h1, Oper.upon]; exact this
  · simp only [AOp.run] at hr
    obtain ⟨v, hk, ⟨u, w', M', h1, R', hv, G⟩⟩ := dop_sound h F R (Hr := H.get) (fun _ _ h => h) hr
    simp only [Oper.wp, h1, Oper.upon]
    exact hnext v H _ _ (St.step hd F hn G0 R' hv G hdst) hk
  · simp only [AOp.run, newK0_eq] at hr
    obtain ⟨v, l, kl, hk, ⟨u, w', μ', h1, R', hv, L, G, _⟩⟩ := lop_sound h F (R.room 1) (Hr := H.get) (fun _ _ h => h) (p := H.nx) (Nat.lt_succ_self _) (R.dom _ (Nat.le_refl _)) hr
    simp only [Oper.wp, h1, Oper.upon]
    have G := G H.nx (Nat.le_refl _)
    refine hnext v _ _ _ (St.step hd F hn G0 R' hv ⟨L, ⟨G.mem, G.pin, G.keep, G.own, G.fresh⟩, ?_⟩ hdst) hk
    cases kl <;> simp [killO, Heap.set]
  · rename_i g args _ f args' hop
    simp only [Bool.and_eq_true, beq_iff_eq] at h
    obtain ⟨rfl, h⟩ := h
    simp only [AOp.run, fvs_eq] at hr
    refine call f (args.map a.eval) _ ?_ (by simpa using rel_okXs F h) hr
    simp only [execOp, hop, resolve, Act.eval, Deferred.ofValue, Sem.run_bind, Sem.run_pure, Result.andThen_ok, invoke, Array.empty_append, Array.append_empty]
  · rename_i x args _ x' args' hop
    simp only [Bool.and_eq_true] at h
    obtain ⟨h1, h2⟩ := h
    simp only [AOp.run] at hr
    split at hr
    · rename_i f caps hx
      simp only [fvs_eq] at hr
      have hx' := rel_okX F h1
      rw [hx] at hx'; simp only [relV] at hx'
      obtain ⟨vs, hv, hl⟩ := hx'
      refine call f (args.map a.eval ++ vs) _ ?_ (by simpa using relL_append (rel_okXs F h2) hl) hr
      simp only [execOp, hop, resolve, hv, Deferred.ofValue, Sem.run_bind, Sem.run_pure, Result.andThen_ok, invoke, Array.empty_append]
    · exact hr.elim
  · cases h

theorem St.know {fr : Fr} {H : Heap} {a : Act} {w : World} {s : Nat} {b b' : Bool} (S : St N n M0 μ0 H0 w0 fr H a w) (h : look fr s = .bool b) (hb : b = b') : St N n M0 μ0 H0 w0 ((s, .bool b') :: fr) H a w := by
  obtain ⟨hd, M, μ, R, F, hn, G0⟩ := S
  refine ⟨hd, M, μ, R, ⟨F.size, fun t => ?_⟩, hn, G0⟩
  simp only [look]
  by_cases ht : s = t
  · subst ht; subst hb
    have := F.slot s
    rw [h] at this
    simpa using this
  · rw [beq_false ht]; exact F.slot t

theorem wanted_none {o : Oper} (h : o.guard = none) (y : Nat → Option Bool) : Region.wanted o y = true := by simp [Region.wanted, h]

theorem relV_undef {M : Mem} {μ : Pos} : relV M (.tuple []) μ undef := by simp only [relV]; exact ⟨#[], rfl, by simp [relL]⟩
theorem undef_yields {ops : Array Oper} {M : Mem} {μ : Pos} {fr : Fr} {tmps : Array Value} {s : Nat} {want : Bool} {o : Oper} (F : RelF N M μ fr tmps) (hs : look fr s = .tuple []) (h : okGuard ops o.guard (some (s, want)) = true) : Region.wanted o (yielded ops tmps) = false := by
  cases hgo : o.guard with
  | none => simp [hgo, okGuard] at h
  | some x =>
    obtain ⟨j, b'⟩ := x
    simp only [hgo, okGuard, Bool.and_eq_true, beq_iff_eq] at h
    obtain ⟨rfl, h⟩ := h
    split at h
    · rename_i oj hoj
      simp at h
      have := F.slot s
      rw [hs] at this
      simp only [relV] at this
      obtain ⟨vs, hv, hl⟩ := this
      have hy : yielded ops tmps j = none := by
        simp only [yielded, hoj, Option.bind_some, h]
        rw [Array.getD_eq_getD_getElem?] at hv
        cases hq : tmps[s]? with
        | none => rfl
        | some u => rw [hq] at hv; simp at hv; rw [hv]
      simp only [Region.wanted, hgo, hy]
      cases b' <;> rfl
    · cases h

theorem sound_AO {ops : Array Oper} {o : Oper} {q : AO} (h : okAO P N ops o q = true) {fr : Fr} {H : Heap} {a : Act} {w : World} {K : Fr → Heap → Prop} {Q : Exit → Act → World → Prop} (S : St N n M0 μ0 H0 w0 fr H a w)
    (hr : q.run P fr H K) {next : Act → World → Prop} (hnext : ∀ fr' H' a' w', St N n M0 μ0 H0 w0 fr' H' a' w' → K fr' H' → next a' w') :
    if Region.wanted o (yielded ops a.tmps) then o.wp P a w next Q else next (a.put o.dst undef) w := by
  simp only [okAO, Bool.and_eq_true, beq_iff_eq] at h
  obtain ⟨⟨⟨h1, h2⟩, h3⟩, h4⟩ := h
  rw [← h1] at h2
  have skip : ∀ fr', St N n M0 μ0 H0 w0 fr' H a w → K (put fr' q.dst (.tuple [])) H → next (a.put o.dst undef) w := fun fr' S hk => by
    obtain ⟨hd, M, μ, R, F, hn, G0⟩ := S
    rw [← h1] at hk
    exact hnext _ _ _ _ (St.step hd F hn G0 R (c := .tuple []) relV_undef (Move.refl _ _ _ _) h2) hk
  have go : ∀ fr', St N n M0 μ0 H0 w0 fr' H a w → (q.op.run P fr' H fun v H' => K (put fr' q.dst v) H') → o.wp P a w next Q := fun fr' S hk => by
    rw [← h1] at hk
    exact sound_op h4 S h2 hk fun c H' a' w' S' hk' => hnext _ _ _ _ S' hk'
  unfold AO.run at hr
  simp only [putK_eq] at hr
  split at hr
  · rename_i hg
    rw [hg] at h3
    have : o.guard = none := by
      cases hgo : o.guard with
      | none => rfl
      | some x => obtain ⟨j, b⟩ := x; simp [hgo, okGuard] at h3
    rw [if_pos (wanted_none this _)]
    exact go fr S hr
  · rename_i s want hg
    split at hr
    · rename_i b hb
      have hy : ∃ j, o.guard = some (j, want) ∧ yielded ops a.tmps j = some b := by
        cases hgo : o.guard with
        | none => simp [hgo, hg, okGuard] at h3
        | some x =>
          obtain ⟨j, b'⟩ := x
          simp only [hgo, hg, okGuard, Bool.and_eq_true, beq_iff_eq] at h3
          obtain ⟨rfl, h3⟩ := h3
          refine ⟨j, rfl, ?_⟩
          split at h3
          · rename_i oj hoj
            simp at h3
            obtain ⟨hd, M, μ, R, F, hn, G0⟩ := S
            have := F.slot s
            rw [hb] at this
            have := rel_bool this
            simp only [yielded, hoj, Option.bind_some, h3]
            have hs : a.tmps[s]? = some (.bool b) := by
              rw [Array.getD_eq_getD_getElem?] at this
              cases hq : a.tmps[s]? with
              | none => rw [hq] at this; simp [undef] at this
              | some u => rw [hq] at this; simp at this; rw [this]
            rw [hs]
          · cases h3
      obtain ⟨j, hgj, hyj⟩ := hy
      have hw : Region.wanted o (yielded ops a.tmps) = (b == want) := by
        simp only [Region.wanted, hgj, hyj]
        cases b <;> cases want <;> rfl
      rw [hw]
      cases want with
      | true =>
        simp only at hr
        cases b with
        | true => rw [if_pos (by simp)]; exact go _ (S.know hb rfl) (hr.yes rfl)
        | false => rw [if_neg (by simp)]; exact skip _ (S.know hb rfl) (hr.no rfl)
      | false =>
        simp only at hr
        cases b with
        | true => rw [if_neg (by simp)]; exact skip _ (S.know hb rfl) (hr.yes rfl)
        | false => rw [if_pos (by simp)]; exact go _ (S.know hb rfl) (hr.no rfl)
    · rename_i hs
      obtain ⟨M, μ, R, F, _⟩ := S.ex
      rw [undef_yields F hs (by rw [← hg]; exact h3)]
      simp only [Bool.false_eq_true, if_false]
      exact skip fr S hr
    · exact hr.elim

theorem sound_ops {ops : Array Oper} {Q : Exit → Act → World → Prop} {K : Fr → Heap → Prop} : ∀ {l : List Oper} {qs : List AO}, okAOs P N ops l qs = true → ∀ {fr : Fr} {H : Heap} {a : Act} {w : World}, St N n M0 μ0 H0 w0 fr H a w → runOps P K qs fr H →
    (∀ fr' H' a' w', St N n M0 μ0 H0 w0 fr' H' a' w' → K fr' H' → Q .normal a' w') → wpList P ops Q l a w
  | [], [], _, fr, H, a, w, S, hr, hq => hq _ _ _ _ S hr
  | o :: l, q :: qs, h, fr, H, a, w, S, hr, hq => by
    simp only [okAOs, Bool.and_eq_true] at h
    refine wpList_step fun K' hK => ?_
    exact sound_AO h.1 S hr fun fr' H' a' w' S' hr' => hK _ _ (sound_ops h.2 S' hr' hq)
  | [], _ :: _, h, _, _, _, _, _, _, _ => by simp [okAOs] at h
  | _ :: _, [], h, _, _, _, _, _, _, _ => by simp [okAOs] at h

end
end Go.Eng

namespace Go.Eng
open Go

mutual
def noLoc : AV → Bool
  | .ptr _ _ | .slice _ _ _ _ _ | .map _ => false
  | .func _ cs | .agg cs | .tuple cs => noLocL cs
  | _ => true
def noLocL : List AV → Bool
  | [] => true
  | c :: cs => noLoc c && noLocL cs
end
section
variable {M : Mem} {μ μ' : Pos}
mutual
theorem relV_data : ∀ (c : AV) {v : Value}, noLoc c = true → relV M c μ v → relV M c μ' v
  | .any, _, _, _ => by simp only [relV]
  | .bool b, _, _, h => by simpa only [relV] using h
  | .int k n, _, _, h => by simpa only [relV] using h
  | .str s, _, _, h => by simpa only [relV] using h
  | .nilp, _, _, h => by simpa only [relV] using h
  | .ptr _ _, _, h, _ => by simp [noLoc] at h
  | .dptr cs, _, _, h => by simpa only [relV] using h
  | .nils, _, _, h => by simpa only [relV] using h
  | .slice _ _ _ _ _, _, h, _ => by simp [noLoc] at h
  | .dslice cs l c, _, _, h => by simpa only [relV] using h
  | .nilm, _, _, h => by simpa only [relV] using h
  | .map _, _, h, _ => by simp [noLoc] at h
  | .nilf, _, _, h => by simpa only [relV] using h
  | .func g cs, _, hn, h => by simp only [relV, noLoc] at *; obtain ⟨vs, h1, h2⟩ := h; exact ⟨vs, h1, relL_data cs hn h2⟩
  | .agg cs, _, hn, h => by simp only [relV, noLoc] at *; obtain ⟨vs, h1, h2⟩ := h; exact ⟨vs, h1, relL_data cs hn h2⟩
  | .tuple cs, _, hn, h => by simp only [relV, noLoc] at *; obtain ⟨vs, h1, h2⟩ := h; exact ⟨vs, h1, relL_data cs hn h2⟩
theorem relL_data : ∀ (cs : List AV) {vs : List Value}, noLocL cs = true → relL M cs μ vs → relL M cs μ' vs
  | [], _, _, h => by simpa only [relL] using h
  | c :: cs, _, hn, h => by
    simp only [relL, noLocL, Bool.and_eq_true] at *; obtain ⟨v, r, h1, h2, h3⟩ := h
    exact ⟨v, r, h1, relV_data c hn.1 h2, relL_data cs hn.2 h3⟩
end
end
/-! ### A function of data alone, called from anywhere -/
/-- The heap is still there after a call that owned none of it. -/
theorem Rel.frame {M M' : Mem} {μ : Pos} {H : Heap} {w w' : World} (R : Rel M μ H w) (hM : Mem.le M M') (himm : ∀ b o v, M' b o = some v → w'.cell? ⟨b, o, none⟩ = some v)
    (hfresh : ∀ b o v, M' b o = some v → M b o = some v ∨ w.heap.size ≤ b) (hkeep : ∀ b, b < w.heap.size → w'.heap[b]? = w.heap[b]?) : Rel M' μ H w' := by
  have lt : ∀ {k b s}, H.get k ≠ .dead → μ k = some (b, s) → b < w.heap.size := fun hk hμ => R.own_lt ⟨_, _, hk, hμ⟩
  refine ⟨R.dom, R.top, fun k cs hk => ?_, fun k es hk => ?_, R.inj, himm, fun k b s hk hμ o => ?_⟩
  · obtain ⟨b, sz, c, el, fz, h1, h2, h3, h4, h5⟩ := R.cells k cs hk
    exact ⟨b, sz, c, el, fz, h1, by rw [hkeep b (lt (by rw [hk]; simp) h1)]; exact h2, h3, h4, relP_mono hM (Pos.le_refl _) cs h5⟩
  · obtain ⟨b, sz, ents, clock, h1, h2, h3, h4⟩ := R.maps k es hk
    refine ⟨b, sz, ents, clock, h1, by rw [hkeep b (lt (by rw [hk]; simp) h1)]; exact h2, ?_, h4⟩
    have : ∀ {es : List (AV × AV)} {ents : List MapEntry}, relE M es ents → relE M' es ents := by
      intro es
      induction es with
      | nil => intro ents h; exact h
      | cons x r ih => intro ents h; obtain ⟨e, t, h1, h2, h3, h4⟩ := h; exact ⟨e, t, h1, relV_mono hM _ (Pos.le_refl _) h2, relV_mono hM _ (Pos.le_refl _) h3, ih h4⟩
    exact this h3
  · cases hm : M' b o with
    | none => rfl
    | some v =>
      rcases hfresh b o v hm with h | h
      · rw [R.apart k b s hk hμ o] at h; cases h
      · have := lt hk hμ; omega

/-- **A contract of a function of data serves in every heap.** -/
theorem CallA.pure {P : Program} {f : FuncId} {args : List AV} {r : AV} (h : CallA P f args Heap.nil fun v H' => v = r ∧ H' = Heap.nil) (ha : noLocL args = true) (hr : noLoc r = true) {H : Heap} {K : AV → Heap → Prop} (hk : K r H) : CallA P f args H K := by
  refine ⟨h.ok, fun M μ w vs R hv => (h.run M Pos.none w vs R.nil (relL_data args ha hv)).mono ?_⟩
  rintro e w' ⟨v, M', μ', H', c, rfl, R', hv', G, rfl, rfl⟩
  have hfresh : ∀ b o u, M' b o = some u → M b o = some u ∨ w.heap.size ≤ b := fun b o u hm => by
    rcases G.grow.fresh b o u hm with h | h | h
    · exact .inl h
    · exact absurd h own_nil
    · exact .inr h
  refine ⟨v, M', μ, H, c, rfl, R.frame G.grow.mem R'.imm hfresh (fun b hb => G.grow.keep.block b hb own_nil), relV_data c hr hv', ⟨Pos.le_refl _, ⟨G.grow.mem, fun _ _ => rfl, ⟨G.grow.keep.os, G.grow.keep.tape, G.grow.keep.output, G.grow.keep.size, fun b hb _ => G.grow.keep.block b hb own_nil⟩, fun b hb => .inl hb, fun b o u hm => ?_⟩, Nat.le_refl _⟩, hk⟩
  rcases hfresh b o u hm with h | h
  · exact .inl h
  · exact .inr (.inr h)
end Go.Eng

namespace Go.Eng
open Go

theorem binI_det {op : BinOp} {i j : Int} {K : AV → Prop} (h : binI op i j K) : ∃ c, K c ∧ binI op i j (fun x => x = c) := by
  cases op <;> simp only [binI] at h ⊢
  case add => exact ⟨_, h.r, h.l, rfl⟩
  case sub => exact ⟨_, h.r, h.l, rfl⟩
  case mul => exact ⟨_, h.r, h.l, rfl⟩
  case quo => exact ⟨_, h.r, h.l, rfl⟩
  case rem => exact ⟨_, h.r, h.l, rfl⟩
  all_goals exact ⟨_, h, rfl⟩
theorem binW_det {op : BinOp} {k : IntKind} {i j : Int} {K : AV → Prop} (h : binW op k i j K) : ∃ c, K c ∧ binW op k i j (fun x => x = c) := by
  cases op <;> simp only [binW] at h ⊢
  case quo => exact ⟨_, h.r, h.l, rfl⟩
  case rem => exact ⟨_, h.r, h.l, rfl⟩
  all_goals exact ⟨_, h, rfl⟩
theorem Branch.det {α : Type} {t : Bool} {A B : (α → Prop) → Prop} {K : α → Prop} (h : Branch t (A K) (B K)) (ha : A K → ∃ c, K c ∧ A (fun x => x = c)) (hb : B K → ∃ c, K c ∧ B (fun x => x = c)) :
    ∃ c, K c ∧ Branch t (A (fun x => x = c)) (B (fun x => x = c)) := by
  cases t with
  | true => obtain ⟨c, h1, h2⟩ := ha (h.yes rfl); exact ⟨c, h1, .ofT rfl h2⟩
  | false => obtain ⟨c, h1, h2⟩ := hb (h.no rfl); exact ⟨c, h1, .ofF rfl h2⟩

theorem POp.det {ev : AX → AV} {K : AV → Prop} {p : POp} (h : p.run ev K) : ∃ c, K c ∧ p.run ev (fun x => x = c) := by
  cases p with
  | mov x => simp only [POp.run, fv_eq] at h ⊢; exact ⟨_, h, rfl⟩
  | pick c a b =>
    simp only [POp.run, fv_eq] at h ⊢
    split at h
    · exact Branch.det (A := fun K => K (ev a)) (B := fun K => K (ev b)) h (fun h => ⟨_, h, rfl⟩) (fun h => ⟨_, h, rfl⟩)
    · exact h.elim
  | bin op x y =>
    simp only [POp.run] at h ⊢
    split at h
    · exact binI_det h
    · cases op <;> first | exact ⟨_, h, rfl⟩ | exact h.elim
    · exact h.elim
  | beq neg x y =>
    simp only [POp.run] at h ⊢
    split at h
    · exact ⟨_, h, rfl⟩
    · exact h.elim
  | binw op x y =>
    simp only [POp.run] at h ⊢
    split at h
    · cases op <;> first | exact ⟨_, h.r, h.l, rfl⟩ | (obtain ⟨c, h1, h2⟩ := binW_det h.r; exact ⟨c, h1, h.l, h2⟩)
    · exact h.elim
  | un op x =>
    simp only [POp.run] at h ⊢
    split at h
    · exact ⟨_, h, rfl⟩
    · exact ⟨_, h.r, h.l, rfl⟩
    · exact ⟨_, h, rfl⟩
    · exact h.elim
  | conv k x =>
    simp only [POp.run] at h ⊢
    split at h
    · exact ⟨_, h.r, h.l, rfl⟩
    · exact h.elim
  | convw k x =>
    simp only [POp.run] at h ⊢
    split at h
    · exact ⟨_, h, rfl⟩
    · exact h.elim
  | fieldA off x =>
    simp only [POp.run] at h ⊢
    split at h
    · exact ⟨_, h, rfl⟩
    · exact ⟨_, h, rfl⟩
    · exact h.elim
  | idxA e arr x i =>
    simp only [POp.run] at h ⊢
    split at h
    · split at h
      · exact ⟨_, h.r, h.l, rfl⟩
      · exact ⟨_, h.r, h.l, rfl⟩
      · exact ⟨_, h.r, h.l, rfl⟩
      · exact ⟨_, h.r, h.l, rfl⟩
      · exact h.elim
    · exact h.elim
  | len str x =>
    simp only [POp.run] at h ⊢
    split at h
    · exact ⟨_, h, rfl⟩
    · exact ⟨_, h, rfl⟩
    · exact ⟨_, h, rfl⟩
    · exact ⟨_, h, rfl⟩
    · exact h.elim
  | extract i x =>
    simp only [POp.run, fv_eq] at h ⊢
    split at h
    · split at h
      · exact ⟨_, h, rfl⟩
      · exact h.elim
    · exact h.elim
  | mkfn f caps => simp only [POp.run, fvs_eq] at h ⊢; exact ⟨_, h, rfl⟩
  | nilchk x =>
    simp only [POp.run] at h ⊢
    split at h
    · exact ⟨_, h, rfl⟩
    · exact ⟨_, h, rfl⟩
    · exact ⟨_, h, rfl⟩
    · exact h.elim
  | mm mx x y =>
    simp only [POp.run] at h ⊢
    split at h
    · exact ⟨_, h, rfl⟩
    · exact h.elim
  | other => simp only [POp.run] at h ⊢; exact ⟨_, h, rfl⟩
end Go.Eng

namespace Go.Eng
open Go

def AV.at : AV → List Nat
  | .ptr k _ => [k]
  | .slice k _ _ _ _ => [k]
  | _ => []
def DOp.foot (ev : AX → AV) : DOp → List Nat
  | .asub _ _ x _ _ => (ev x).at
  | _ => []
def LOp.foot (ev : AX → AV) : LOp → List Nat
  | .append _ _ s x => (ev s).at ++ (ev x).at
  | _ => []
section
variable {ev ev' : AX → AV} {Hr : Nat → AB}
theorem buildK_mono : ∀ {parts : List (Nat × Nat × AX)} {cs : List AV} {K K' : List AV → Prop}, (∀ b, K b → K' b) → buildK ev parts cs K → buildK ev parts cs K' := by
  intro parts
  induction parts with
  | nil => intro cs K K' hk h; exact hk _ h
  | cons q r ih =>
    intro cs K K' hk h
    obtain ⟨off, sz, x⟩ := q
    simp only [buildK] at h ⊢
    split at h
    · cases hn : Nat.beq _ sz with
      | false => simp [hn] at h
      | true =>
        simp only [hn, cond_true] at h ⊢
        obtain ⟨e1, e2, e3⟩ := lputK_spec h
        exact lputK_eq e1 e2 (ih hk e3)
    · exact h.elim
theorem DOp.det {K : AV → Prop} {o : DOp} (h : o.run ev Hr K) : ∃ c, K c ∧ o.run ev Hr (fun x => x = c) := by
  cases o with
  | bslice e len zero parts =>
    simp only [DOp.run] at h ⊢
    obtain ⟨ds, h1, h2⟩ := buildK_det h
    cases hn : noLocB ds with
    | false => simp [hn] at h1
    | true =>
      simp only [hn, cond_true] at h1
      exact ⟨_, h1, buildK_mono (fun b hb => by subst hb; simp [hn]) h2⟩
  | append e bytes s x =>
    simp only [DOp.run] at h ⊢
    split at h
    · exact ⟨_, h.r, h.l, rfl⟩
    · exact ⟨_, h.r, h.l, rfl⟩
    · exact ⟨_, h.r, h.l, rfl⟩
    · exact h.elim
  | asub e n x lo hi =>
    simp only [DOp.run, optI_iff] at h ⊢
    split at h
    · split at h
      · obtain ⟨l, hl, q, hq, h⟩ := h
        exact ⟨_, h.r, l, hl, q, hq, h.l, rfl⟩
      · exact h.elim
    · obtain ⟨l, hl, q, hq, h⟩ := h
      exact ⟨_, h.r, l, hl, q, hq, h.l, rfl⟩
    · exact h.elim
def DOp.xs : DOp → List AX
  | .bslice _ _ _ parts => parts.map (·.2)
  | .append _ _ s x => [s, x]
  | .asub _ _ x lo hi => x :: (lo.toList ++ hi.toList)
theorem DOp.run_congr {K : AV → Prop} {o : DOp} (h : ∀ x ∈ o.xs, ev x = ev' x) : o.run ev Hr K = o.run ev' Hr K := by
  cases o with
  | bslice e len zero parts =>
    simp only [DOp.run]
    exact buildK_congr (by simpa [DOp.xs, List.map_map] using h)
  | append e bytes s x => simp only [DOp.xs, List.mem_cons, List.not_mem_nil, or_false] at h; simp only [DOp.run, h s (.inl rfl), h x (.inr rfl)]
  | asub e n x lo hi =>
    simp only [DOp.xs, List.mem_cons, List.mem_append] at h
    simp only [DOp.run, h x (.inl rfl), optI_congr (x := lo) (fun y hy => h y (.inr (.inl hy))), optI_congr (x := hi) (fun y hy => h y (.inr (.inr hy)))]

def LOp.xs : LOp → List AX
  | .bslice _ _ _ parts => parts.map (·.2)
  | .append _ _ s x => [s, x]
variable {cur : Nat → AB} {p : Nat}
theorem LOp.det {K : AV → AB → Option Nat → Prop} {o : LOp} (h : o.run ev cur Hr p K) : ∃ v l kl, K v l kl ∧ (∀ k, kl = some k → cur k ≠ .dead ∧ k ∈ o.foot ev) ∧ o.run ev cur Hr p (fun v' l' kl' => v' = v ∧ l' = l ∧ kl' = kl) := by
  cases o with
  | bslice e len zero parts =>
    simp only [LOp.run] at h ⊢
    obtain ⟨ds, h1, h2⟩ := buildK_det h
    exact ⟨_, _, _, h1, fun k h => (by cases h), buildK_mono (fun b hb => by subst hb; exact ⟨rfl, rfl, rfl⟩) h2⟩
  | append e bytes s x =>
    simp only [LOp.run] at h ⊢
    have two : ∀ {n : Nat} {A B : (AV → AB → Option Nat → Prop) → Prop}, Branch (decide (n = 0)) (A K) (B K) → (A K → ∃ v l kl, K v l kl ∧ kl = none ∧ A (fun v' l' kl' => v' = v ∧ l' = l ∧ kl' = kl)) → (B K → ∃ v l kl, K v l kl ∧ kl = none ∧ B (fun v' l' kl' => v' = v ∧ l' = l ∧ kl' = kl)) →
        ∃ v l kl, K v l kl ∧ kl = none ∧ Branch (decide (n = 0)) (A (fun v' l' kl' => v' = v ∧ l' = l ∧ kl' = kl)) (B (fun v' l' kl' => v' = v ∧ l' = l ∧ kl' = kl)) := by
      intro n A B h ha hb
      by_cases hn : n = 0
      · obtain ⟨v, l, kl, h1, h2, h3⟩ := ha (h.yes (by simpa using hn))
        exact ⟨v, l, kl, h1, h2, .ofT (by simpa using hn) h3⟩
      · obtain ⟨v, l, kl, h1, h2, h3⟩ := hb (h.no (by simpa using hn))
        exact ⟨v, l, kl, h1, h2, .ofF (by simpa using hn) h3⟩
    unfold appN at h ⊢
    split at h
    · simp only [appK] at h ⊢
      split at h
      · rename_i cs hcs
        obtain ⟨ds, n, h1, h2⟩ := srcK_det h
        exact ⟨_, _, _, h1.r, fun k' hk' => (by cases hk'; exact ⟨by rw [hcs]; simp, by simp [LOp.foot, AV.at, *]⟩), srcK_mono (fun _ _ ⟨e1, e2⟩ => by subst e1; subst e2; exact ⟨h1.l, rfl, rfl, rfl⟩) h2⟩
      · exact h.elim
    · rename_i cs len cap _
      obtain ⟨ds, n, h1, h2⟩ := srcK_det h
      obtain ⟨v, l, kl, g1, g2, g3⟩ := two (A := fun K => K (.dslice cs len cap) .dead none) (B := fun K => Side (cap = some len ∧ len * e ≤ cs.length ∧ fits (len + n) bytes ∧ ∀ c ∈ ds, scal c = true) (K (.slice p 0 (len + n) none e) (.cells (cs.take (len * e) ++ ds)) none)) h1
        (fun h => ⟨_, _, _, h, rfl, rfl, rfl, rfl⟩) (fun h => ⟨_, _, _, h.r, rfl, h.l, rfl, rfl, rfl⟩)
      exact ⟨v, l, kl, g1, fun k hk => (by rw [g2] at hk; cases hk), srcK_mono (fun _ _ ⟨e1, e2⟩ => by subst e1; subst e2; exact g3) h2⟩
    · obtain ⟨ds, n, h1, h2⟩ := srcK_det h
      obtain ⟨v, l, kl, g1, g2, g3⟩ := two (A := fun K => K .nils .dead none) (B := fun K => Side (fits n bytes ∧ ∀ c ∈ ds, scal c = true) (K (.slice p 0 n none e) (.cells ds) none)) h1
        (fun h => ⟨_, _, _, h, rfl, rfl, rfl, rfl⟩) (fun h => ⟨_, _, _, h.r, rfl, h.l, rfl, rfl, rfl⟩)
      exact ⟨v, l, kl, g1, fun k hk => (by rw [g2] at hk; cases hk), srcK_mono (fun _ _ ⟨e1, e2⟩ => by subst e1; subst e2; exact g3) h2⟩
    · exact h.elim
theorem LOp.run_congr {K : AV → AB → Option Nat → Prop} {o : LOp} (h : ∀ x ∈ o.xs, ev x = ev' x) : o.run ev cur Hr p K = o.run ev' cur Hr p K := by
  cases o with
  | bslice e len zero parts =>
    simp only [LOp.run]
    exact buildK_congr (by simpa [LOp.xs, List.map_map] using h)
  | append e bytes s x => simp only [LOp.xs, List.mem_cons, List.not_mem_nil, or_false] at h; simp only [LOp.run, h s (.inl rfl), h x (.inr rfl)]
theorem LOp.mono {K K' : AV → AB → Option Nat → Prop} {o : LOp} (hk : ∀ a b c, K a b c → K' a b c) (h : o.run ev cur Hr p K) : o.run ev cur Hr p K' := by
  cases o with
  | bslice e len zero parts => exact buildK_mono (fun _ h => hk _ _ _ h) h
  | append e bytes s x =>
    simp only [LOp.run] at h ⊢
    unfold appN at h ⊢
    split at h
    · simp only [appK] at h ⊢
      split at h
      · exact srcK_mono (fun _ _ h => ⟨h.l, hk _ _ _ h.r⟩) h
      · exact h.elim
    · exact srcK_mono (fun _ _ h => ⟨fun e => hk _ _ _ (h.yes e), fun e => ⟨(h.no e).l, hk _ _ _ (h.no e).r⟩⟩) h
    · exact srcK_mono (fun _ _ h => ⟨fun e => hk _ _ _ (h.yes e), fun e => ⟨(h.no e).l, hk _ _ _ (h.no e).r⟩⟩) h
    · exact h.elim
theorem srcK_local {η η' : Nat → AB} {e : Nat} {x : AV} {K : List AV → Nat → Prop} (h : ∀ k ∈ AV.at x, η k = η' k) : srcK η e x K = srcK η' e x K := by
  unfold srcK
  split
  · rfl
  · rfl
  · rw [h _ (by simp [AV.at])]
  · rfl
theorem DOp.local {η η' : Nat → AB} {K : AV → Prop} {o : DOp} (h : ∀ k ∈ o.foot ev, η k = η' k) : o.run ev η K = o.run ev η' K := by
  cases o with
  | asub e n x lo hi =>
    simp only [DOp.run]
    split
    · rename_i hx; rw [h _ (by simp [DOp.foot, hx, AV.at])]
    · rfl
    · rfl
  | _ => rfl
theorem LOp.local {η η' : Nat → AB} {K : AV → AB → Option Nat → Prop} {o : LOp} (h : ∀ k ∈ o.foot ev, η k = η' k) : o.run ev η η p K = o.run ev η' η' p K := by
  cases o with
  | append e bytes s x =>
    have h : ∀ k ∈ AV.at (ev s) ++ AV.at (ev x), η k = η' k := h
    have hx : ∀ {K : List AV → Nat → Prop}, srcK η e (ev x) K = srcK η' e (ev x) K := fun {K} => srcK_local fun k hk => h k (List.mem_append_right _ hk)
    simp only [LOp.run]
    unfold appN
    split
    · rename_i hs
      simp only [appK]
      rw [h _ (by simp [hs, AV.at])]
      simp only [hx]
    · simp only [hx]
    · simp only [hx]
    · rfl
  | bslice e len zero parts => rfl
end
end Go.Eng

namespace Go.Eng
open Go

/-! ### Regions that draw their order -/
/-- A call of a function of data, by its one result. -/
structure QCallA (P : Program) (f : FuncId) (vs : List AV) (K : AV → Prop) : Prop where
  ex : ∃ r, noLocL vs = true ∧ noLoc r = true ∧ CallA P f vs Heap.nil (fun v H' => v = r ∧ H' = Heap.nil) ∧ K r
theorem QCallA.of {P : Program} {f : FuncId} {vs : List AV} {r : AV} {K : AV → Prop} (h : CallA P f vs Heap.nil fun v H' => v = r ∧ H' = Heap.nil) (ha : noLocL vs = true) (hr : noLoc r = true) (hk : K r) : QCallA P f vs K := ⟨r, ha, hr, h, hk⟩

/-- What changes: places, with what is there then. -/
abbrev Ef := List (Nat × AB)
def efL (p : Nat) (ab : AB) : Option Nat → Ef
  | none => [(p, ab)]
  | some k => [(k, .dead), (p, ab)]
def HOp.q (ev : AX → AV) (η : Nat → AB) (p : Nat) (K : AV → Ef → Prop) : HOp → Prop
  | .load agg n x => match ev x with
    | .dptr cs => loadK agg n cs fun v => K v []
    | .ptr k off => match η k with
      | .cells cs => loadK agg n (cs.drop off) fun v => K v []
      | _ => False
    | _ => False
  | .alloc zero => K (.ptr p 0) [(p, .cells zero)]
  | .box x => match cellsOf (ev x) with
    | some cs => K (.ptr p 0) [(p, .cells cs)]
    | none => False
  | .store n q x => match ev q with
    | .ptr k off => match η k with
      | .cells cs => match cellsOf (ev x) with
        | some vs => bif Nat.beq vs.length n then lputK cs off vs fun cs' => K .any [(k, .cells cs')] else False
        | none => False
      | _ => False
    | _ => False
def HOp.foot (ev : AX → AV) : HOp → List Nat
  | .load _ _ x => (ev x).at
  | .store _ q _ => (ev q).at
  | _ => []

/-- An operation, over what is held, with a place p for what it makes. -/
def AOp.q (P : Program) (ev : AX → AV) (η : Nat → AB) (p : Nat) (K : AV → Ef → Prop) : AOp → Prop
  | .p o => o.run ev fun v => K v []
  | .v o => o.run ev fun v => K v []
  | .h o => o.q ev η p K
  | .d o => o.run ev η fun v => K v []
  | .l o => o.run ev η η p fun v cs kl => K v (efL p cs kl)
  | .call f args => fvs (args.map ev) fun vs => QCallA P f vs fun r => K r []
  | .callv x args => match ev x with
    | .func f caps => fvs (args.map ev) fun vs => QCallA P f (vs ++ caps) fun r => K r []
    | _ => False
/-- The places it looks at. -/
def AOp.foot (ev : AX → AV) : AOp → List Nat
  | .h o => o.foot ev
  | .d o => o.foot ev
  | .l o => o.foot ev
  | _ => []

def layH (H : Heap) : Ef → Heap
  | [] => H
  | (k, x) :: r => layH (H.set k x) r

/-! #### What may stand in any order -/
structure En where
  i : Nat
  F : List Nat
  W : List Nat
def memN (k : Nat) : List Nat → Bool
  | [] => false
  | j :: r => Nat.beq k j || memN k r
def disj : List Nat → List Nat → Bool
  | [], _ => true
  | k :: r, l => !memN k l && disj r l
def memP (i j : Nat) : List (Nat × Nat) → Bool
  | [] => false
  | (a, b) :: r => (Nat.beq i a && Nat.beq j b) || memP i j r
def okEn (dep : List (Nat × Nat)) (e e' : En) : Bool := (disj e.W e'.F && disj e'.W e.F) || memP e.i e'.i dep || memP e'.i e.i dep
def okLog (dep : List (Nat × Nat)) (e' : En) : List En → Bool
  | [] => true
  | e :: r => okEn dep e e' && okLog dep e' r
def keys : Ef → List Nat
  | [] => []
  | (k, _) :: r => k :: keys r
def logK (dep : List (Nat × Nat)) (i : Nat) (F W : List Nat) (L : List En) (K : List En → Prop) : Prop := match F, W with
  | [], [] => K L
  | F, W => bif okLog dep ⟨i, F, W⟩ L then K (⟨i, F, W⟩ :: L) else False

def layK (K : Heap → Prop) (b : Ef) : Heap → Prop := List.rec (motive := fun _ => Heap → Prop) K (fun x _ ih H => match H with | ⟨nx, bs⟩ => ih ⟨nx, x :: bs⟩) b
theorem layK_eq (K : Heap → Prop) : ∀ (b : Ef) (H : Heap), layK K b H = K (layH H b)
  | [], _ => rfl
  | (k, x) :: r, ⟨nx, bs⟩ => layK_eq K r ⟨nx, (k, x) :: bs⟩
/-- The unordered part, in the order of the text. -/
def qstep (P : Program) (dep : List (Nat × Nat)) (q : AO) (next : Nat → Nat → List En → Fr → Heap → Prop) (i p : Nat) (L : List En) (fr : Fr) (H : Heap) : Prop :=
  q.op.q P (AX.ev fr) H.get p fun v b => logK dep i (q.op.foot (AX.ev fr)) (keys b) L fun L => putK fr q.dst v fun fr => layK (fun H => next (i + 1) (p + 1) L fr H) b H
noncomputable def qwalk (P : Program) (dep : List (Nat × Nat)) (K : Fr → Heap → Prop) (l : List AO) : Nat → Nat → List En → Fr → Heap → Prop :=
  List.rec (motive := fun _ => Nat → Nat → List En → Fr → Heap → Prop) (fun _ _ _ => K) (fun q _ ih i p L fr H => match q.guard with
    | none => qstep P dep q ih i p L fr H
    | some (s, want) => match look fr s with
      | .bool b => match want with
        | true => Branch b (qstep P dep q ih i p L ((s, .bool true) :: fr) H) (putK ((s, .bool false) :: fr) q.dst (.tuple []) fun fr => ih (i + 1) (p + 1) L fr H)
        | false => Branch b (putK ((s, .bool true) :: fr) q.dst (.tuple []) fun fr => ih (i + 1) (p + 1) L fr H) (qstep P dep q ih i p L ((s, .bool false) :: fr) H)
      | .tuple [] => putK fr q.dst (.tuple []) fun fr => ih (i + 1) (p + 1) L fr H
      | _ => False) l
theorem qwalk_cons (P : Program) (dep : List (Nat × Nat)) (K : Fr → Heap → Prop) (q : AO) (r : List AO) (i p : Nat) (L : List En) (fr : Fr) (H : Heap) : qwalk P dep K (q :: r) i p L fr H = match q.guard with
    | none => qstep P dep q (qwalk P dep K r) i p L fr H
    | some (s, want) => match look fr s with
      | .bool b => match want with
        | true => Branch b (qstep P dep q (qwalk P dep K r) i p L ((s, .bool true) :: fr) H) (putK ((s, .bool false) :: fr) q.dst (.tuple []) fun fr => qwalk P dep K r (i + 1) (p + 1) L fr H)
        | false => Branch b (putK ((s, .bool true) :: fr) q.dst (.tuple []) fun fr => qwalk P dep K r (i + 1) (p + 1) L fr H) (qstep P dep q (qwalk P dep K r) i p L ((s, .bool false) :: fr) H)
      | .tuple [] => putK fr q.dst (.tuple []) fun fr => qwalk P dep K r (i + 1) (p + 1) L fr H
      | _ => False := rfl

/-! #### The same over functions -/
abbrev Sg := Nat → AV
abbrev Et := Nat → AB
def AX.evs (σ : Sg) : AX → AV
  | .t n => σ n
  | .c v => v
theorem evs_look (fr : Fr) : AX.evs (look fr) = AX.ev fr := by funext x; cases x <;> rfl
def ups (σ : Sg) (d : Option Nat) (v : AV) : Sg := match d with
  | some t => fun u => if t = u then v else σ u
  | none => σ
def upe (η : Et) : Ef → Et
  | [] => η
  | (k, x) :: r => upe (fun j => if k = j then x else η j) r
theorem get_lay : ∀ (H : Heap) (b : Ef), (layH H b).get = upe H.get b
  | H, [] => rfl
  | H, (k, x) :: r => by
    simp only [layH, upe]
    rw [get_lay]
    congr 1
    funext j; rw [Heap.get_set]
theorem layH_nx : ∀ (H : Heap) (b : Ef), (layH H b).nx = H.nx
  | H, [] => rfl
  | H, (k, x) :: r => by simp only [layH]; rw [layH_nx]; rfl
theorem upe_off : ∀ {b : Ef} {η : Et} {j : Nat}, j ∉ keys b → upe η b j = η j
  | [], _, _, _ => rfl
  | (k, x) :: r, η, j, h => by
    simp only [keys, List.mem_cons, not_or] at h
    simp only [upe]
    rw [upe_off h.2, if_neg (fun e => h.1 e.symm)]
theorem upe_on : ∀ {b : Ef} {η η' : Et} {j : Nat}, (j ∈ keys b ∨ η j = η' j) → upe η b j = upe η' b j
  | [], _, _, _, h => by
    rcases h with h | h
    · simp [keys] at h
    · exact h
  | (k, x) :: r, η, η', j, h => by
    simp only [upe]
    refine upe_on ?_
    by_cases hk : k = j
    · exact .inr (by simp [hk])
    · rcases h with h | h
      · simp only [keys, List.mem_cons] at h
        rcases h with h | h
        · exact absurd h.symm hk
        · exact .inl h
      · exact .inr (by simp [hk, h])
theorem upe_swap {b b' : Ef} (h : ∀ k, k ∈ keys b → k ∈ keys b' → False) (η : Et) : upe (upe η b) b' = upe (upe η b') b := by
  funext j
  by_cases h1 : j ∈ keys b
  · rw [upe_off (fun h2 => h j h1 h2)]
    exact upe_on (.inl h1)
  · rw [upe_off (b := b) (η := upe η b') h1]
    exact upe_on (.inr (upe_off h1))
theorem memN_iff {k : Nat} : ∀ {l : List Nat}, memN k l = true ↔ k ∈ l
  | [] => by simp [memN]
  | j :: r => by simp only [memN, Bool.or_eq_true, List.mem_cons, memN_iff (l := r), Nat.beq_eq]
theorem disj_spec : ∀ {l r : List Nat}, disj l r = true → ∀ k, k ∈ l → k ∈ r → False
  | [], _, _, k, h, _ => by cases h
  | j :: l, r, h, k, h1, h2 => by
    simp only [disj, Bool.and_eq_true, Bool.not_eq_true'] at h
    rcases List.mem_cons.1 h1 with h1 | h1
    · subst h1; rw [memN_iff.2 h2] at h; exact absurd h.1 (by simp)
    · exact disj_spec h.2 k h1 h2
theorem memP_spec {i j : Nat} : ∀ {l : List (Nat × Nat)}, memP i j l = true → (i, j) ∈ l
  | [], h => by simp [memP] at h
  | (a, b) :: r, h => by
    simp only [memP, Bool.or_eq_true, Bool.and_eq_true, Nat.beq_eq] at h
    rcases h with ⟨rfl, rfl⟩ | h
    · simp
    · exact List.mem_cons_of_mem _ (memP_spec h)
theorem okLog_spec {dep : List (Nat × Nat)} {e' : En} : ∀ {L : List En}, okLog dep e' L = true → ∀ e ∈ L, okEn dep e e' = true
  | [], _, _, h => by cases h
  | x :: L, h, e, he => by
    simp only [okLog, Bool.and_eq_true] at h
    rcases List.mem_cons.1 he with rfl | he
    · exact h.1
    · exact okLog_spec h.2 e he
theorem okEn_symm {dep : List (Nat × Nat)} {e e' : En} (h : okEn dep e e' = true) : okEn dep e' e = true := by
  simp only [okEn, Bool.or_eq_true, Bool.and_eq_true] at h ⊢
  rcases h with (⟨h1, h2⟩ | h) | h
  · exact .inl (.inl ⟨h2, h1⟩)
  · exact .inr h
  · exact .inl (.inr h)
theorem disj_nil (l : List Nat) : disj l [] = true := by
  induction l with
  | nil => rfl
  | cons k r ih => simp [disj, memN, ih]
theorem okEn_idle {dep : List (Nat × Nat)} {e e' : En} (h : e.F = [] ∧ e.W = []) : okEn dep e e' = true := by
  simp only [okEn, h.1, h.2, disj_nil, disj, Bool.and_self, Bool.true_or]
theorem logK_spec {dep : List (Nat × Nat)} {i : Nat} {F W : List Nat} {L : List En} {K : List En → Prop} (h : logK dep i F W L K) : (F = [] ∧ W = [] ∧ K L) ∨ ((∀ e ∈ L, okEn dep e ⟨i, F, W⟩ = true) ∧ K (⟨i, F, W⟩ :: L)) := by
  unfold logK at h
  split at h
  · exact .inl ⟨rfl, rfl, h⟩
  · cases hc : okLog dep ⟨i, F, W⟩ L with
    | true => rw [hc] at h; exact .inr ⟨okLog_spec hc, h⟩
    | false => rw [hc] at h; exact h.elim

theorem look_put (fr : Fr) (d : Option Nat) (v : AV) : look (put fr d v) = ups (look fr) d v := by
  cases d with
  | none => rfl
  | some t =>
    funext u
    simp only [put, look, ups]
    by_cases h : t = u
    · subst h; simp
    · rw [beq_false h, if_neg h]; rfl
theorem look_know {fr : Fr} {s : Nat} {b c : Bool} (h : look fr s = .bool b) (hb : b = c) : look ((s, .bool c) :: fr) = look fr := by
  funext u
  simp only [look]
  by_cases hu : s = u
  · subst hu; subst hb; simp [h]
  · rw [beq_false hu]; rfl

theorem HOp.q_det {ev : AX → AV} {η : Et} {p : Nat} {K : AV → Ef → Prop} {o : HOp} (h : o.q ev η p K) : ∃ v b, K v b ∧ (∀ k ∈ keys b, k ∈ o.foot ev ∨ k = p) ∧ o.q ev η p (fun v' b' => v' = v ∧ b' = b) := by
  cases o with
  | load agg n x =>
    simp only [HOp.q] at h ⊢
    have ld : ∀ cs, loadK agg n cs (fun v => K v []) → ∃ v b, K v b ∧ (∀ k ∈ keys b, k ∈ (HOp.load agg n x).foot ev ∨ k = p) ∧ loadK agg n cs (fun v' => v' = v ∧ [] = b) := by
      intro cs h
      rcases loadK_spec h with ⟨rfl, hn, hk⟩ | ⟨rfl, c, r, rfl, hk⟩
      · exact ⟨_, [], hk, (by simp [keys]), by simp only [loadK, takeK_eq n cs _ hn, and_self]⟩
      · exact ⟨_, [], hk, (by simp [keys]), by simp only [loadK_false, fv_eq, and_self]⟩
    split at h
    · exact ld _ h
    · split at h
      · exact ld _ h
      · exact h.elim
    · exact h.elim
  | alloc zero => exact ⟨_, _, h, by simp [keys], rfl, rfl⟩
  | box x =>
    simp only [HOp.q] at h ⊢
    split at h
    · exact ⟨_, _, h, by simp [keys], rfl, rfl⟩
    · exact h.elim
  | store n q x =>
    simp only [HOp.q] at h ⊢
    split at h
    · rename_i k off hq
      split at h
      · split at h
        · rename_i vs hvs
          cases hn : Nat.beq vs.length n with
          | false => simp [hn] at h
          | true =>
            simp only [hn, cond_true] at h ⊢
            obtain ⟨e1, e2, e3⟩ := lputK_spec h
            exact ⟨_, _, e3, by simp [keys, HOp.foot, hq, AV.at], lputK_eq e1 e2 ⟨rfl, rfl⟩⟩
        · exact h.elim
      · exact h.elim
    · exact h.elim
theorem HOp.q_local {ev : AX → AV} {η η' : Et} {p : Nat} {K : AV → Ef → Prop} {o : HOp} (h : ∀ k ∈ o.foot ev, η k = η' k) : o.q ev η p K = o.q ev η' p K := by
  cases o with
  | load agg n x =>
    simp only [HOp.q]
    split
    · rfl
    · rename_i k off hx
      rw [h k (by simp [HOp.foot, hx, AV.at])]
    · rfl
  | alloc zero => rfl
  | box x => rfl
  | store n q x =>
    simp only [HOp.q]
    split
    · rename_i k off hx
      rw [h k (by simp [HOp.foot, hx, AV.at])]
    · rfl

theorem AOp.q_det {P : Program} {ev : AX → AV} {η : Et} {p : Nat} {K : AV → Ef → Prop} {o : AOp} (h : o.q P ev η p K) : ∃ v b, K v b ∧ (∀ k ∈ keys b, k ∈ o.foot ev ∨ k = p) ∧ o.q P ev η p (fun v' b' => v' = v ∧ b' = b) := by
  cases o with
  | p o =>
    simp only [AOp.q] at h
    obtain ⟨c, h1, h2⟩ := POp.det h
    refine ⟨c, [], h1, by simp [keys], ?_⟩
    simp only [AOp.q, and_true]
    exact h2
  | v o =>
    simp only [AOp.q] at h
    obtain ⟨c, h1, h2⟩ := VOp.det h
    refine ⟨c, [], h1, by simp [keys], ?_⟩
    simp only [AOp.q, and_true]
    exact h2
  | h o => exact HOp.q_det h
  | d o =>
    simp only [AOp.q] at h
    obtain ⟨c, h1, h2⟩ := DOp.det h
    refine ⟨c, [], h1, by simp [keys], ?_⟩
    simp only [AOp.q, and_true]
    exact h2
  | l o =>
    simp only [AOp.q] at h
    obtain ⟨v, cs, kl, h1, h3, h2⟩ := LOp.det h
    refine ⟨v, efL p cs kl, h1, ?_, ?_⟩
    · cases kl with
      | none => simp [efL, keys]
      | some k =>
        have h4 := (h3 k rfl).2
        simp only [efL, keys, List.mem_cons, List.not_mem_nil, or_false]
        rintro j (rfl | rfl)
        · exact .inl h4
        · exact .inr rfl
    · simp only [AOp.q]
      have mono : ∀ {K K' : AV → AB → Option Nat → Prop}, (∀ a b c, K a b c → K' a b c) → LOp.run ev η η p K o → LOp.run ev η η p K' o := fun hk h => LOp.mono hk h
      exact mono (fun a b c ⟨e1, e2, e3⟩ => by subst e1; subst e2; subst e3; exact ⟨rfl, rfl⟩) h2
  | call f args =>
    simp only [AOp.q, fvs_eq] at h ⊢
    obtain ⟨r, h1, h2, h3, h4⟩ := h.ex
    exact ⟨r, [], h4, (by simp [keys]), r, h1, h2, h3, rfl, rfl⟩
  | callv x args =>
    simp only [AOp.q, fvs_eq] at h ⊢
    split at h
    · obtain ⟨r, h1, h2, h3, h4⟩ := h.ex
      exact ⟨r, [], h4, (by simp [keys]), r, h1, h2, h3, rfl, rfl⟩
    · exact h.elim
theorem AOp.q_local {P : Program} {ev : AX → AV} {η η' : Et} {p : Nat} {K : AV → Ef → Prop} {o : AOp} (h : ∀ k ∈ o.foot ev, η k = η' k) : o.q P ev η p K = o.q P ev η' p K := by
  cases o with
  | h o => exact HOp.q_local h
  | d o => simp only [AOp.q]; exact DOp.local h
  | l o => simp only [AOp.q]; exact LOp.local h
  | _ => rfl

/-- The guard says no. -/
def Off (a : AV) (want : Bool) : Prop := (∃ c, a = .bool c ∧ c ≠ want) ∨ a = .tuple []
/-- What an operation yields here: or it is passed over. -/
def YA (P : Program) (q : AO) (p : Nat) (σ : Sg) (η : Et) (v : AV) (b : Ef) (F : List Nat) : Prop :=
  ((q.guard = none ∨ ∃ s want, q.guard = some (s, want) ∧ σ s = .bool want) ∧ (q.op.q P (AX.evs σ) η p fun v' b' => v' = v ∧ b' = b) ∧ F = q.op.foot (AX.evs σ)) ∨
  ((∃ s want, q.guard = some (s, want) ∧ Off (σ s) want) ∧ v = .tuple [] ∧ b = [] ∧ F = [])
theorem YA.keys {P : Program} {q : AO} {p : Nat} {σ : Sg} {η : Et} {v : AV} {b : Ef} {F : List Nat} (h : YA P q p σ η v b F) : ∀ k ∈ keys b, k ∈ F ∨ k = p := by
  rcases h with ⟨_, h, rfl⟩ | ⟨_, _, rfl, _⟩
  · obtain ⟨v', b', ⟨rfl, rfl⟩, h2, _⟩ := AOp.q_det h
    exact h2
  · intro k hk; cases hk
theorem YA.local {P : Program} {q : AO} {p : Nat} {σ : Sg} {η η' : Et} {v : AV} {b : Ef} {F : List Nat} (h : YA P q p σ η v b F) (he : ∀ k ∈ F, η k = η' k) : YA P q p σ η' v b F := by
  rcases h with ⟨h1, h2, h3⟩ | h
  · exact .inl ⟨h1, by rw [← AOp.q_local (η := η) (by rw [← h3]; exact he)]; exact h2, h3⟩
  · exact .inr h
def qOp (P : Program) (dep : List (Nat × Nat)) (q : AO) (i p : Nat) (K : List En → Sg → Et → Prop) (L : List En) (σ : Sg) (η : Et) : Prop :=
  ∃ v b F, YA P q p σ η v b F ∧ (∀ e ∈ L, okEn dep e ⟨i, F, keys b⟩ = true) ∧ K (⟨i, F, keys b⟩ :: L) (ups σ q.dst v) (upe η b)

def wpQ (P : Program) (dep : List (Nat × Nat)) (T : Sg → Et → Prop) : List AO → Nat → Nat → List En → Sg → Et → Prop
  | [], _, _, _, σ, η => T σ η
  | q :: r, i, p, L, σ, η => qOp P dep q i p (wpQ P dep T r (i + 1) (p + 1)) L σ η

theorem wpQ_of_walk {P : Program} {dep : List (Nat × Nat)} {K : Fr → Heap → Prop} {nx : Nat} : ∀ (l : List AO) (i p : Nat) (Lw L : List En) (fr : Fr) (H : Heap), H.nx = nx → (∀ e ∈ L, e ∈ Lw ∨ (e.F = [] ∧ e.W = [])) → qwalk P dep K l i p Lw fr H →
    wpQ P dep (fun σ η => ∃ fr H, look fr = σ ∧ H.get = η ∧ H.nx = nx ∧ K fr H) l i p L (look fr) H.get
  | [], _, _, _, _, fr, H, hnx, _, h => ⟨fr, H, rfl, rfl, hnx, h⟩
  | q :: r, i, p, Lw, L, fr, H, hnx, hL, h => by
    have yes : ∀ fr' (_ : look fr' = look fr) (_ : q.guard = none ∨ ∃ s want, q.guard = some (s, want) ∧ look fr s = .bool want), (q.op.q P (AX.ev fr') H.get p fun v b => logK dep i (q.op.foot (AX.ev fr')) (keys b) Lw fun Lw => qwalk P dep K r (i + 1) (p + 1) Lw (put fr' q.dst v) (layH H b)) →
        wpQ P dep (fun σ η => ∃ fr H, look fr = σ ∧ H.get = η ∧ H.nx = nx ∧ K fr H) (q :: r) i p L (look fr) H.get := by
      intro fr' he hg hq
      obtain ⟨v, b, hk, hkeys, hd⟩ := AOp.q_det hq
      have go : ∀ Lw', (∀ e ∈ (⟨i, q.op.foot (AX.ev fr'), keys b⟩ :: L : List En), e ∈ Lw' ∨ (e.F = [] ∧ e.W = [])) → (∀ e ∈ L, okEn dep e ⟨i, q.op.foot (AX.ev fr'), keys b⟩ = true) → qwalk P dep K r (i + 1) (p + 1) Lw' (put fr' q.dst v) (layH H b) →
          wpQ P dep (fun σ η => ∃ fr H, look fr = σ ∧ H.get = η ∧ H.nx = nx ∧ K fr H) (q :: r) i p L (look fr) H.get := by
        intro Lw' h1 h2 h3
        refine ⟨v, b, q.op.foot (AX.ev fr'), .inl ⟨hg, by rw [← he, evs_look]; exact hd, by rw [← he, evs_look]⟩, h2, ?_⟩
        have := wpQ_of_walk r (i + 1) (p + 1) Lw' _ _ (layH H b) ((layH_nx H b).trans hnx) h1 h3
        rw [look_put, get_lay, he] at this
        exact this
      rcases logK_spec hk with ⟨h1, h2, h3⟩ | ⟨h1, h3⟩
      · refine go Lw (fun e he => ?_) (fun e _ => okEn_symm (okEn_idle ⟨h1, h2⟩)) h3
        rcases List.mem_cons.1 he with rfl | he
        · exact .inr ⟨h1, h2⟩
        · exact hL e he
      · refine go _ (fun e he => ?_) (fun e he => ?_) h3
        · rcases List.mem_cons.1 he with rfl | he
          · exact .inl List.mem_cons_self
          · exact (hL e he).imp (List.mem_cons_of_mem _) id
        · rcases hL e he with he | he
          · exact h1 e he
          · exact okEn_idle he
    have no : ∀ fr' (_ : look fr' = look fr), (∃ s want, q.guard = some (s, want) ∧ Off (look fr s) want) → qwalk P dep K r (i + 1) (p + 1) Lw (put fr' q.dst (.tuple [])) H →
        wpQ P dep (fun σ η => ∃ fr H, look fr = σ ∧ H.get = η ∧ H.nx = nx ∧ K fr H) (q :: r) i p L (look fr) H.get := by
      intro fr' he hg hq
      refine ⟨.tuple [], [], [], .inr ⟨hg, rfl, rfl, rfl⟩, fun e _ => okEn_symm (okEn_idle ⟨rfl, rfl⟩), ?_⟩
      have := wpQ_of_walk r (i + 1) (p + 1) Lw (⟨i, [], []⟩ :: L) _ H hnx (fun e he => by
        rcases List.mem_cons.1 he with rfl | he
        · exact .inr ⟨rfl, rfl⟩
        · exact hL e he) hq
      rw [look_put, he] at this
      exact this
    rw [qwalk_cons] at h
    simp only [qstep, layK_eq, putK_eq] at h
    split at h
    · exact yes fr rfl (.inl ‹_›) h
    · rename_i s want hg
      split at h
      · rename_i b hb
        cases want with
        | true =>
          simp only at h
          cases b with
          | true => exact yes _ (look_know hb rfl) (.inr ⟨s, true, hg, hb⟩) (h.yes rfl)
          | false => exact no _ (look_know hb rfl) ⟨s, true, hg, .inl ⟨false, hb, by simp⟩⟩ (h.no rfl)
        | false =>
          simp only at h
          cases b with
          | true => exact no _ (look_know hb rfl) ⟨s, false, hg, .inl ⟨true, hb, by simp⟩⟩ (h.yes rfl)
          | false => exact yes _ (look_know hb rfl) (.inr ⟨s, false, hg, hb⟩) (h.no rfl)
      · rename_i hs
        exact no fr rfl ⟨s, want, hg, .inr hs⟩ h
      · exact h.elim

/-! #### What an operation reads -/
def POp.xs : POp → List AX
  | .mov x | .un _ x | .conv _ x | .convw _ x | .fieldA _ x | .len _ x | .extract _ x | .nilchk x => [x]
  | .pick c a b => [c, a, b]
  | .bin _ x y | .beq _ x y | .binw _ x y | .idxA _ _ x y | .mm _ x y => [x, y]
  | .mkfn _ caps => caps
  | .other => []
def HOp.xs : HOp → List AX
  | .load _ _ x | .box x => [x]
  | .alloc _ => []
  | .store _ p x => [p, x]
def AOp.xs : AOp → List AX
  | .p o => o.xs
  | .v o => o.xs
  | .h o => o.xs
  | .d o => o.xs
  | .l o => o.xs
  | .call _ args => args
  | .callv x args => x :: args
def AX.is (d : Nat) : AX → Bool
  | .t n => n == d
  | .c _ => false
def AO.reads (q : AO) (d : Nat) : Bool := q.op.xs.any (AX.is d) || (match q.guard with | some (s, _) => s == d | none => false)
theorem POp.run_congr {ev ev' : AX → AV} {K : AV → Prop} {o : POp} (h : ∀ x ∈ o.xs, ev x = ev' x) : o.run ev K = o.run ev' K := by
  cases o with
  | mkfn f caps =>
    have h : ∀ x ∈ caps, ev x = ev' x := h
    simp only [POp.run]; rw [List.map_congr_left (f := ev) (g := ev') h]
  | pick c a b => simp only [POp.xs, List.mem_cons, List.not_mem_nil, or_false] at h; simp only [POp.run, h c (.inl rfl), h a (.inr (.inl rfl)), h b (.inr (.inr rfl))]
  | bin op x y => simp only [POp.xs, List.mem_cons, List.not_mem_nil, or_false] at h; simp only [POp.run, h x (.inl rfl), h y (.inr rfl)]
  | beq neg x y => simp only [POp.xs, List.mem_cons, List.not_mem_nil, or_false] at h; simp only [POp.run, h x (.inl rfl), h y (.inr rfl)]
  | binw op x y => simp only [POp.xs, List.mem_cons, List.not_mem_nil, or_false] at h; simp only [POp.run, h x (.inl rfl), h y (.inr rfl)]
  | idxA e arr x y => simp only [POp.xs, List.mem_cons, List.not_mem_nil, or_false] at h; simp only [POp.run, h x (.inl rfl), h y (.inr rfl)]
  | mm mx x y => simp only [POp.xs, List.mem_cons, List.not_mem_nil, or_false] at h; simp only [POp.run, h x (.inl rfl), h y (.inr rfl)]
  | other => rfl
  | mov x => simp only [POp.xs, List.mem_singleton, forall_eq] at h; simp only [POp.run, h]
  | un op x => simp only [POp.xs, List.mem_singleton, forall_eq] at h; simp only [POp.run, h]
  | conv k x => simp only [POp.xs, List.mem_singleton, forall_eq] at h; simp only [POp.run, h]
  | convw k x => simp only [POp.xs, List.mem_singleton, forall_eq] at h; simp only [POp.run, h]
  | fieldA off x => simp only [POp.xs, List.mem_singleton, forall_eq] at h; simp only [POp.run, h]
  | len str x => simp only [POp.xs, List.mem_singleton, forall_eq] at h; simp only [POp.run, h]
  | extract i x => simp only [POp.xs, List.mem_singleton, forall_eq] at h; simp only [POp.run, h]
  | nilchk x => simp only [POp.xs, List.mem_singleton, forall_eq] at h; simp only [POp.run, h]
theorem HOp.q_congr {ev ev' : AX → AV} {η : Et} {p : Nat} {K : AV → Ef → Prop} {o : HOp} (h : ∀ x ∈ o.xs, ev x = ev' x) : o.q ev η p K = o.q ev' η p K ∧ o.foot ev = o.foot ev' := by
  cases o with
  | load agg n x => simp only [HOp.xs, List.mem_singleton, forall_eq] at h; simp only [HOp.q, HOp.foot, h, and_self]
  | alloc zero => exact ⟨rfl, rfl⟩
  | box x => simp only [HOp.xs, List.mem_singleton, forall_eq] at h; simp only [HOp.q, HOp.foot, h, and_self]
  | store n q x => simp only [HOp.xs, List.mem_cons, List.not_mem_nil, or_false] at h; simp only [HOp.q, HOp.foot, h q (.inl rfl), h x (.inr rfl), and_self]
theorem AOp.q_congr {P : Program} {ev ev' : AX → AV} {η : Et} {p : Nat} {K : AV → Ef → Prop} {o : AOp} (h : ∀ x ∈ o.xs, ev x = ev' x) : o.q P ev η p K = o.q P ev' η p K ∧ o.foot ev = o.foot ev' := by
  cases o with
  | p o => simp only [AOp.q]; exact ⟨POp.run_congr h, rfl⟩
  | v o => simp only [AOp.q]; exact ⟨VOp.run_congr h, rfl⟩
  | h o => exact HOp.q_congr h
  | d o =>
    simp only [AOp.q]
    refine ⟨DOp.run_congr h, ?_⟩
    cases o with
    | asub e n x lo hi => simp only [AOp.foot, DOp.foot]; rw [h x (by simp [AOp.xs, DOp.xs])]
    | _ => rfl
  | l o =>
    simp only [AOp.q]
    refine ⟨LOp.run_congr h, ?_⟩
    cases o with
    | append e bytes s x => simp only [AOp.foot, LOp.foot]; rw [h s (by simp [AOp.xs, LOp.xs]), h x (by simp [AOp.xs, LOp.xs])]
    | _ => rfl
  | call f args =>
    have h : ∀ x ∈ args, ev x = ev' x := h
    simp only [AOp.q, AOp.foot, and_true]; rw [List.map_congr_left (f := ev) (g := ev') h]
  | callv x args =>
    simp only [AOp.q, AOp.foot, and_true]
    rw [List.map_congr_left (f := ev) (g := ev') (fun y hy => h y (by simp only [AOp.xs]; exact List.mem_cons_of_mem _ hy)), h x (by simp [AOp.xs])]

theorem YA_put {P : Program} {q : AO} {p d : Nat} {σ : Sg} {η : Et} {u v : AV} {b : Ef} {F : List Nat} (h : q.reads d = false) : YA P q p (ups σ (some d) u) η v b F = YA P q p σ η v b F := by
  simp only [AO.reads, Bool.or_eq_false_iff] at h
  obtain ⟨h1, h2⟩ := h
  have e1 : ∀ x ∈ q.op.xs, AX.evs (ups σ (some d) u) x = AX.evs σ x := fun x hx => by
    have := List.any_eq_false.1 h1 x hx
    cases x with
    | c v => rfl
    | t n =>
      simp [AX.is] at this
      simp only [AX.evs, ups]; rw [if_neg (fun e => this e.symm)]
  have e2 : ∀ s want, q.guard = some (s, want) → ups σ (some d) u s = σ s := fun s want hg => by
    rw [hg] at h2; simp at h2
    simp only [ups]; rw [if_neg (fun e => h2 e.symm)]
  unfold YA
  rw [(AOp.q_congr e1).1, (AOp.q_congr (P := P) (η := η) (p := p) (K := fun _ _ => True) e1).2]
  apply propext
  constructor
  · rintro (⟨hg, hq⟩ | ⟨⟨s, want, h3, h4⟩, h6⟩)
    · refine .inl ⟨?_, hq⟩
      rcases hg with hg | ⟨s, want, h3, h4⟩
      · exact .inl hg
      · exact .inr ⟨s, want, h3, by rw [← e2 s want h3]; exact h4⟩
    · exact .inr ⟨⟨s, want, h3, by rw [← e2 s want h3]; exact h4⟩, h6⟩
  · rintro (⟨hg, hq⟩ | ⟨⟨s, want, h3, h4⟩, h6⟩)
    · refine .inl ⟨?_, hq⟩
      rcases hg with hg | ⟨s, want, h3, h4⟩
      · exact .inl hg
      · exact .inr ⟨s, want, h3, by rw [e2 s want h3]; exact h4⟩
    · exact .inr ⟨⟨s, want, h3, by rw [e2 s want h3]; exact h4⟩, h6⟩

/-- Two operations that do not look at each other's temporaries. -/
def apartA (q r : AO) : Bool := (match q.dst with | some d => !r.reads d && !(r.dst == some d) | none => true) && (match r.dst with | some d => !q.reads d | none => true)
theorem apartA_left {P : Program} {q r : AO} (h : apartA q r = true) {p : Nat} {σ : Sg} {η : Et} {u v : AV} {b : Ef} {F : List Nat} : YA P r p (ups σ q.dst u) η v b F = YA P r p σ η v b F := by
  simp only [apartA, Bool.and_eq_true] at h
  cases hd : q.dst with
  | none => rfl
  | some d => rw [hd] at h; simp at h; exact YA_put h.1.1
theorem apartA_right {P : Program} {q r : AO} (h : apartA q r = true) {p : Nat} {σ : Sg} {η : Et} {u v : AV} {b : Ef} {F : List Nat} : YA P q p (ups σ r.dst u) η v b F = YA P q p σ η v b F := by
  simp only [apartA, Bool.and_eq_true] at h
  cases hd : r.dst with
  | none => rfl
  | some d => rw [hd] at h; simp at h; exact YA_put h.2
theorem apartA_comm {q r : AO} (h : apartA q r = true) (σ : Sg) (u v : AV) : ups (ups σ q.dst u) r.dst v = ups (ups σ r.dst v) q.dst u := by
  simp only [apartA, Bool.and_eq_true] at h
  cases hd : q.dst with
  | none => rfl
  | some d =>
    cases he : r.dst with
    | none => rfl
    | some e =>
      rw [hd, he] at h; simp at h
      funext t
      simp only [ups]
      by_cases h1 : e = t
      · by_cases h2 : d = t
        · exact absurd (h1.trans h2.symm) h.1.2
        · simp [h1, h2]
      · by_cases h2 : d = t <;> simp [h1, h2]
/-! #### All orders -/
section
variable {P : Program} {dep : List (Nat × Nat)} {md : Region.Mode} {ops : Array Oper} {nx : Nat} {qs : List AO} {m : Nat}

/-- What is ready is of the first part, until that is done. -/
def Early (md : Region.Mode) (ops : Array Oper) (m : Nat) : Prop := ∀ listed, HeadInv md ops m listed → ∀ i, i < m → listed.getD i true = false → ∀ t, m ≤ t → t ∉ Region.ready md ops listed
/-- The pairs that are said to be ordered, are. -/
def Deps (md : Region.Mode) (ops : Array Oper) (dep : List (Nat × Nat)) : Prop := ∀ i j, (i, j) ∈ dep → ∃ o, ops[j]? = some o ∧ ∃ e ∈ o.after, Region.binds md e = true ∧ e.on = i

def qAny (P : Program) (dep : List (Nat × Nat)) (md : Region.Mode) (ops : Array Oper) (nx : Nat) (qs : List AO) (m : Nat) (T : Array Bool → Sg → Et → Prop) : Nat → Array Bool → List En → Sg → Et → Prop
  | 0, listed, _, σ, η => T listed σ η
  | f + 1, listed, L, σ, η => Region.ready md ops listed ≠ [] ∧ ∀ i ∈ Region.ready md ops listed, i < m ∧ ∃ q, qs[i]? = some q ∧ qOp P dep q i (nx + i) (qAny P dep md ops nx qs m T f (listed.setIfInBounds i true)) L σ η

theorem qAny_less {T : Array Bool → Sg → Et → Prop} : ∀ (f : Nat) (listed : Array Bool) (L L' : List En) (σ : Sg) (η : Et), (∀ e, e ∈ L → e ∈ L') → qAny P dep md ops nx qs m T f listed L' σ η → qAny P dep md ops nx qs m T f listed L σ η
  | 0, _, _, _, _, _, _, h => h
  | f + 1, listed, L, L', σ, η, hs, h => by
    refine ⟨h.1, fun i hi => ?_⟩
    obtain ⟨h1, q, h2, v, b, F, h3, h4, h5⟩ := h.2 i hi
    refine ⟨h1, q, h2, v, b, F, h3, fun e he => h4 e (hs e he), qAny_less f _ _ _ _ _ (fun e he => ?_) h5⟩
    rcases List.mem_cons.1 he with rfl | he
    · exact List.mem_cons_self
    · exact List.mem_cons_of_mem _ (hs e he)

theorem unordered (hD : Deps md ops dep) {i j : Nat} {listed : Array Bool} (hi : listed.getD i true = false) (hj : j ∈ Region.ready md ops listed) : memP i j dep = false := by
  cases h : memP i j dep with
  | false => rfl
  | true =>
    obtain ⟨o, ho, e, he, hb, hon⟩ := hD i j (memP_spec h)
    obtain ⟨hun, oj, hoj, hall⟩ := mem_ready.1 hj
    rw [ho] at hoj; cases hoj
    have := hall e he hb
    rw [hon, getD_both hi] at this
    cases this

theorem qAny_first {i : Nat} {q : AO} {v : AV} {b : Ef} {F : List Nat} {T : Array Bool → Sg → Et → Prop} (hD : Deps md ops dep) (hq : qs[i]? = some q) (hE : Early md ops m) (hin : i < m)
    (hdone : ∀ listed σ η, T listed σ η → ∀ j ∈ Region.ready md ops listed, m ≤ j) :
    ∀ (f : Nat) (listed : Array Bool) (L : List En) (σ : Sg) (η : Et), HeadInv md ops m listed →
      (∀ j r, qs[j]? = some r → j < m → j ≠ i → listed.getD j true = false → (∀ oj, ops[j]? = some oj → ∀ e ∈ oj.after, Region.binds md e = true → e.on ≠ i) → apartA q r = true) →
      i ∈ Region.ready md ops listed → YA P q (nx + i) σ η v b F → (∀ e ∈ L, okEn dep e ⟨i, F, keys b⟩ = true) →
      qAny P dep md ops nx qs m T f (listed.setIfInBounds i true) (⟨i, F, keys b⟩ :: L) (ups σ q.dst v) (upe η b) → qAny P dep md ops nx qs m T (f + 1) listed L σ η := by
  intro f
  induction f with
  | zero =>
    intro listed L σ η inv _ hr hy hck H
    have hun := (mem_ready.1 hr).1
    refine ⟨fun h => (by rw [h] at hr; cases hr), fun j hj => ?_⟩
    have hjm : j < m := by
      rcases Nat.lt_or_ge j m with h | h
      · exact h
      · exact absurd hj (hE listed inv i hin hun j h)
    refine ⟨hjm, ?_⟩
    by_cases hji : j = i
    · subst hji; exact ⟨q, hq, v, b, F, hy, hck, H⟩
    · have := hdone _ _ _ H j (ready_mono hj hji); omega
  | succ f ih =>
    intro listed L σ η inv hfree hr hy hck H
    have hun := (mem_ready.1 hr).1
    refine ⟨fun h => (by rw [h] at hr; cases hr), fun j hj => ?_⟩
    have hjm : j < m := by
      rcases Nat.lt_or_ge j m with h | h
      · exact h
      · exact absurd hj (hE listed inv i hin hun j h)
    refine ⟨hjm, ?_⟩
    by_cases hji : j = i
    · subst hji; exact ⟨q, hq, v, b, F, hy, hck, H⟩
    · obtain ⟨_, r, hrq, v', b', F', hy', hck', hK⟩ := H.2 j (ready_mono hj hji)
      obtain ⟨hjun, oj, hoj, hall⟩ := mem_ready.1 hj
      have hap : apartA q r = true := hfree j r hrq hjm hji hjun fun oj' hoj' e he hb heq => by
        rw [hoj] at hoj'; cases hoj'
        have h1 := hall e he hb
        rw [heq, getD_both hun] at h1
        cases h1
      have hij := hck' _ List.mem_cons_self
      have hd : disj (keys b) F' = true ∧ disj (keys b') F = true := by
        have := hij
        simp only [okEn, unordered hD hun hj, unordered hD hjun hr, Bool.or_false, Bool.and_eq_true] at this
        exact this
      have hy1 : YA P r (nx + j) σ η v' b' F' := by
        rw [apartA_left hap] at hy'
        exact hy'.local fun k hk => upe_off fun hk' => disj_spec hd.1 k hk' hk
      have hy2 : YA P q (nx + i) (ups σ r.dst v') (upe η b') v b F := by
        rw [apartA_right hap]
        exact hy.local fun k hk => (upe_off fun hk' => disj_spec hd.2 k hk' hk).symm
      have hW : ∀ k, k ∈ keys b → k ∈ keys b' → False := fun k h1 h2 => by
        rcases hy.keys k h1 with h3 | h3
        · exact disj_spec hd.2 k h2 h3
        · rcases hy1.keys k h2 with h4 | h4
          · exact disj_spec hd.1 k h1 h4
          · omega
      refine ⟨r, hrq, v', b', F', hy1, fun e he => hck' e (List.mem_cons_of_mem _ he), ?_⟩
      refine ih (listed.setIfInBounds j true) _ _ _ (inv.set hj hjm) (fun k rk hk hkm hki hkun hno => hfree k rk hk hkm hki ?_ hno) (ready_mono hr (Ne.symm hji)) hy2 ?_ ?_
      · by_cases hjk : j = k
        · subst hjk; exact hjun
        · rw [getD_set_ne true hjk] at hkun; exact hkun
      · intro e he
        rcases List.mem_cons.1 he with rfl | he
        · exact okEn_symm hij
        · exact hck e he
      · rw [Array.setIfInBounds_comm _ _ hji, ← apartA_comm hap, ← upe_swap hW]
        refine qAny_less f _ _ _ _ _ (fun e he => ?_) hK
        simp only [List.mem_cons] at he ⊢
        rcases he with h | h | h
        · exact .inr (.inl h)
        · exact .inl h
        · exact .inr (.inr h)

/-- The check of a region's order, the first m operations unordered but for their edges. -/
def freeQ (md : Region.Mode) (ops : Array Oper) (qs : List AO) (m : Nat) (listed : Array Bool) (i : Nat) : Bool := match qs[i]? with
  | none => false
  | some q => (List.range m).all fun j => j == i || listed.getD j true || (match ops[j]? with
    | some oj => oj.after.any fun e => Region.binds md e && e.on == i
    | none => false) || (match qs[j]? with
    | some r => apartA q r
    | none => true)
theorem freeQ_spec {listed : Array Bool} {i : Nat} {q : AO} (hq : qs[i]? = some q) (h : freeQ md ops qs m listed i = true) (j : Nat) (r : AO) (hr : qs[j]? = some r) (hj : j < m) (hne : j ≠ i) (hun : listed.getD j true = false)
    (hno : ∀ oj, ops[j]? = some oj → ∀ e ∈ oj.after, Region.binds md e = true → e.on ≠ i) : apartA q r = true := by
  simp only [freeQ, hq, List.all_eq_true, List.mem_range] at h
  have h1 := h j hj
  simp only [hr, Bool.or_eq_true, beq_iff_eq, hne, false_or, hun, Bool.false_eq_true] at h1
  rcases h1 with h1 | h1
  · cases hoj : ops[j]? with
    | none => simp [hoj] at h1
    | some oj =>
      simp only [hoj] at h1
      obtain ⟨e, he, hb⟩ := Array.any_eq_true'.1 h1
      simp only [Bool.and_eq_true, beq_iff_eq] at hb
      exact absurd hb.2 (hno oj hoj e he hb.1)
  · exact h1
def lexQ (md : Region.Mode) (ops : Array Oper) (qs : List AO) (m g : Nat) : Nat → Nat → Array Bool → Bool
  | 0, k, listed => Region.seqB md ops g k listed
  | f + 1, k, listed => (Region.ready md ops listed).contains k && freeQ md ops qs m listed k && lexQ md ops qs m g f (k + 1) (listed.setIfInBounds k true)
def depsB (md : Region.Mode) (ops : Array Oper) : List (Nat × Nat) → Bool
  | [] => true
  | (i, j) :: r => (match ops[j]? with
    | some o => o.after.any fun e => Region.binds md e && e.on == i
    | none => false) && depsB md ops r
theorem depsB_spec : ∀ {dep : List (Nat × Nat)}, depsB md ops dep = true → Deps md ops dep
  | [], _, i, j, h => by cases h
  | (a, b) :: r, h, i, j, hm => by
    simp only [depsB, Bool.and_eq_true] at h
    rcases List.mem_cons.1 hm with hm | hm
    · simp only [Prod.mk.injEq] at hm
      obtain ⟨rfl, rfl⟩ := hm
      cases ho : ops[j]? with
      | none => simp [ho] at h
      | some o =>
        simp only [ho] at h
        obtain ⟨e, he, hb⟩ := Array.any_eq_true'.1 h.1
        simp only [Bool.and_eq_true, beq_iff_eq] at hb
        exact ⟨o, rfl, e, he, hb.1, hb.2⟩
    · exact depsB_spec h.2 i j hm
def drawOk (md : Region.Mode) (ops : Array Oper) (dep : List (Nat × Nat)) (qs : List AO) (m : Nat) : Bool :=
  (decide (m = ops.size) || (decide (m < ops.size) && Region.sinkB md ops m && Region.chainB md ops m)) && depsB md ops dep && lexQ md ops qs m (ops.size - m) m 0 (Array.replicate ops.size false)

theorem early_of (h : (decide (m = ops.size) || (decide (m < ops.size) && Region.sinkB md ops m && Region.chainB md ops m)) = true) : Early md ops m := by
  simp only [Bool.or_eq_true, decide_eq_true_eq, Bool.and_eq_true] at h
  intro listed inv i hi hun t ht hr
  rcases h with h | ⟨⟨h1, h2⟩, h3⟩
  · obtain ⟨_, o, ho, _⟩ := mem_ready.1 hr
    have := (Array.getElem?_eq_some_iff.1 ho).1
    omega
  · exact tail_waits h2 h3 h1 inv _ i rfl hi hun t ht hr

theorem qAny_lex {T : Sg → Et → Prop} {g : Nat} (hD : Deps md ops dep) (hE : Early md ops m) (hm : m ≤ qs.length) : ∀ (l : List AO) (k : Nat) (listed : Array Bool) (L : List En) (σ : Sg) (η : Et), (∀ j, j < l.length → l[j]? = qs[k + j]?) → k + l.length = m → HeadInv md ops m listed →
    lexQ md ops qs m g l.length k listed = true → wpQ P dep T l k (nx + k) L σ η →
    qAny P dep md ops nx qs m (fun listed' σ η => Region.seqB md ops g m listed' = true ∧ T σ η) l.length listed L σ η
  | [], k, listed, L, σ, η, _, hk, _, hB, h => by
    have : k = m := by simpa using hk
    subst this
    exact ⟨by simpa [lexQ] using hB, h⟩
  | q :: l, k, listed, L, σ, η, hl, hk, inv, hB, h => by
    have h0 : qs[k]? = some q := by simpa using (hl 0 (by simp)).symm
    simp only [List.length_cons, lexQ, Bool.and_eq_true] at hB
    obtain ⟨⟨hr, hf⟩, hB'⟩ := hB
    have hkm : k < m := by simp only [List.length_cons] at hk; omega
    have hr' : k ∈ Region.ready md ops listed := by simpa using hr
    obtain ⟨v, b, F, hy, hck, hK⟩ := h
    exact qAny_first hD h0 hE hkm (fun listed' _ _ hL => seqB_ready hL.1) l.length listed L σ η inv (freeQ_spec h0 hf) hr' hy hck
      (qAny_lex hD hE hm l (k + 1) _ _ _ _ (fun j hj => by have := hl (j + 1) (by simp; omega); simpa [Nat.add_assoc, Nat.add_comm 1 j] using this) (by simp only [List.length_cons] at hk; omega) (inv.set hr' hkm) hB' (by rw [← Nat.add_assoc]; exact hK))
end
end Go.Eng

namespace Go.Eng
open Go

theorem Own.ext {μ : Pos} {H H' : Heap} (h : H.get = H'.get) {b : Nat} (ho : Own μ H b) : Own μ H' b := by
  obtain ⟨k, s, h1, h2⟩ := ho; exact ⟨k, s, by rw [← h]; exact h1, h2⟩
theorem Rel.ext {M : Mem} {μ : Pos} {H H' : Heap} {w : World} (R : Rel M μ H w) (h : H.get = H'.get) (hn : H.nx = H'.nx) : Rel M μ H' w :=
  ⟨fun k hk => R.dom k (by omega), fun k hk => by rw [← h]; exact R.top k (by omega), fun k cs hk => R.cells k cs (by rw [h]; exact hk), fun k es hk => R.maps k es (by rw [h]; exact hk),
    fun i j b s t hi hj => R.inj i j b s t (by rw [h]; exact hi) (by rw [h]; exact hj), R.imm, fun k b s hk => R.apart k b s (by rw [h]; exact hk)⟩
theorem RelF.ext {N : Nat} {M : Mem} {μ : Pos} {fr fr' : Fr} {tmps : Array Value} (F : RelF N M μ fr tmps) (h : look fr = look fr') : RelF N M μ fr' tmps := ⟨F.size, fun t => by rw [← h]; exact F.slot t⟩
theorem Grow.ext {n : Nat} {M M' : Mem} {μ μ' : Pos} {H H' H'' : Heap} {w w' : World} (G : Grow n M μ H w M' μ' H' w') (h : H'.get = H''.get) : Grow n M μ H w M' μ' H'' w' :=
  ⟨G.mem, G.pin, G.keep, fun b hb => G.own b (hb.ext h.symm), G.fresh⟩

/-- In the midst of an unordered part. -/
structure QSt (N n : Nat) (M0 : Mem) (μ0 : Pos) (Hs : Heap) (w0 : World) (nx : Nat) (m : Nat) (listed : Array Bool) (σ : Sg) (η : Et) (a : Act) (w : World) : Prop where
  defers : a.defers = []
  size : m ≤ listed.size
  ex : ∃ M μ fr H, look fr = σ ∧ H.get = η ∧ H.nx = nx + m ∧ Rel M μ H w ∧ RelF N M μ fr a.tmps ∧ n ≤ nx ∧ Grow n M0 μ0 Hs w0 M μ H w ∧ ∀ i, i < m → listed.getD i false = false → μ (nx + i) = none

section
variable {P : Program} {N n : Nat} {M0 : Mem} {μ0 : Pos} {Hs : Heap} {w0 : World} {nx : Nat} {qs : List AO} {m : Nat}

/-- One operation of the unordered part, in a world. -/
theorem q_step {ops : Array Oper} {o : Oper} {q : AO} (hok : okAO P N ops o q = true) {listed : Array Bool} {σ : Sg} {η : Et} {a : Act} {w : World} (S : QSt N n M0 μ0 Hs w0 nx m listed σ η a w) {i : Nat} (hi : i < m) (hun : listed.getD i true = false)
    {v : AV} {b : Ef} {F0 : List Nat} (hy : YA P q (nx + i) σ η v b F0) {next : Act → World → Prop} {Q : Exit → Act → World → Prop}
    (hnext : ∀ a' w', QSt N n M0 μ0 Hs w0 nx m (listed.setIfInBounds i true) (ups σ q.dst v) (upe η b) a' w' → next a' w') :
    if Region.wanted o (yielded ops a.tmps) then o.wp P a w next Q else next (a.put o.dst undef) w := by
  simp only [okAO, Bool.and_eq_true, beq_iff_eq] at hok
  obtain ⟨⟨⟨h1, h2⟩, h3⟩, h4⟩ := hok
  obtain ⟨hd, hsize, M, μ, fr, H, rfl, rfl, hnx, R, F, hn, G0, hfree⟩ := S
  have isz : i < listed.size := Nat.lt_of_lt_of_le hi hsize
  have hun' : listed.getD i false = false := getD_both hun
  have hp : μ (nx + i) = none := hfree i hi hun'
  have fin : ∀ {M' : Mem} {μ' : Pos} {H' : Heap} {w' : World} {u : Value}, Rel M' μ' H' w' → relV M' v μ' u → Mem.le M M' → Pos.le μ μ' → Grow n M μ H w M' μ' H' w' → H'.get = upe H.get b → H'.nx = H.nx →
      (∀ j, j < m → j ≠ i → listed.getD j false = false → μ' (nx + j) = none) → next (a.put o.dst u) w' := by
    intro M' μ' H' w' u R' hv hM L G hg hnx' hf
    refine hnext _ _ ⟨by cases o.dst <;> simpa [Act.put] using hd, by simpa using hsize, M', μ', put fr q.dst v, H', by rw [look_put], hg, by rw [hnx', hnx], R', ?_, hn, G0.trans G, fun j hj hl => ?_⟩
    · rw [← h1]; exact (F.mono hM L).put (by rw [h1]; exact h2) hv
    · by_cases hji : j = i
      · subst hji; simp [isz] at hl
      · rw [getD_set_ne false (Ne.symm hji)] at hl
        exact hf j hj hji hl
  have same : ∀ {u : Value}, relV M v μ u → b = [] → next (a.put o.dst u) w := fun hv hb => by
    subst hb
    exact fin R hv (Mem.le_refl _) (Pos.le_refl _) (Grow.refl _ _ _ _ _) rfl rfl fun j hj _ hl => hfree j hj hl
  have move : ∀ {M' : Mem} {μ' : Pos} {H' : Heap} {w' : World} {u : Value}, Rel M' μ' H' w' → relV M' v μ' u → Move M μ H w M' μ' H' w' → H'.get = upe H.get b → H'.nx = H.nx → next (a.put o.dst u) w' := fun R' hv G hg hnx' =>
    fin R' hv G.grow.mem G.le (G.grow.mono (by omega)) hg hnx' fun j hj _ hl => by rw [G.grow.pin _ (by omega)]; exact hfree j hj hl
  have lay : ∀ {l : List AV} {c : Array Value} {el : TypeId}, [(nx + i, AB.cells l)] = b → .ptr (nx + i) 0 = v → relP M μ l c.toList → (execOp a.eval o).run P w = .ok (.value (.pointer (some ⟨w.heap.size, 0, none⟩))) (w.alloc (.cells c el)) → o.wp P a w next Q := by
    intro l c el hb hv hP hrun
    subst hb; subst hv
    obtain ⟨R', L, G⟩ := R.lay (p := nx + i) (el := el) (by omega) hp hP
    simp only [Oper.wp, hrun, Oper.upon]
    refine fin R' (by simp only [relV]; exact ⟨_, _, Pos.put_same _ _ _, rfl⟩) (Mem.le_refl _) L (G n (by omega)) ?_ rfl (fun j hj hji hl => by rw [Pos.put_other _ _ (by omega)]; exact hfree j hj hl)
    funext k; simp only [Heap.get_set, upe]
  have call : ∀ {f : FuncId} {vs : Array Value} {as : List AV}, (execOp a.eval o).run P w = (callFunc f vs).run P w → relL M as μ vs.toList → QCallA P f as (fun r => r = v ∧ [] = b) → o.wp P a w next Q := by
    intro f vs as he hl hc
    obtain ⟨r, c1, c2, c3, rfl, c5⟩ := hc.ex
    have hc := CallA.pure c3 c1 c2 (H := H) (K := fun v' H' => v' = r ∧ H' = H) ⟨rfl, rfl⟩
    unfold Oper.wp
    rw [he, run_callFunc hc.ok]
    simp only [Oper.upon]
    refine (hc.run M μ w vs R hl).mono ?_
    rintro e w' ⟨u, M', μ', H', c, rfl, R', hv, G, rfl, rfl⟩
    subst c5
    exact move R' hv G rfl rfl
  have hop : ∀ {ho : HOp} {K : AV → Heap → Prop}, okH P o.op ho = true → ho.run (AX.ev fr) H K → (∀ c H', K c H' → c = v ∧ H'.get = upe H.get b ∧ H'.nx = H.nx) → o.wp P a w next Q := by
    intro ho K hok hr hK
    obtain ⟨nxt, u, w', e1, e2, M', μ', H', c, R', hv, G, hk⟩ := hop_sound hok R F hr
    obtain ⟨rfl, e3, e4⟩ := hK _ _ hk
    rcases e2 with rfl | ⟨rfl, rfl⟩
    · simp only [Oper.wp, e1, Oper.upon]; exact move R' hv G e3 e4
    · simp only [Oper.wp, e1, Oper.upon]; exact move R' hv G e3 e4
  have wanted : ∀ s want c, q.guard = some (s, want) → look fr s = .bool c → Region.wanted o (yielded ops a.tmps) = (c == want) := by
    intro s want c hg hc
    cases hgo : o.guard with
    | none => simp [hgo, hg, okGuard] at h3
    | some x =>
      obtain ⟨j, b'⟩ := x
      simp only [hgo, hg, okGuard, Bool.and_eq_true, beq_iff_eq] at h3
      obtain ⟨rfl, h3⟩ := h3
      split at h3
      · rename_i oj hoj
        simp at h3
        have := F.slot s
        rw [hc] at this
        have := rel_bool this
        have hs : a.tmps[s]? = some (.bool c) := by
          rw [Array.getD_eq_getD_getElem?] at this
          cases hq : a.tmps[s]? with
          | none => rw [hq] at this; simp [undef] at this
          | some u => rw [hq] at this; simp at this; rw [this]
        have hy : yielded ops a.tmps j = some c := by simp only [yielded, hoj, Option.bind_some, h3]; rw [hs]
        simp only [Region.wanted, hgo, hy]
        cases c <;> cases b' <;> rfl
      · cases h3
  rcases hy with ⟨hg, hq, _⟩ | ⟨⟨s, want, hg, hoff⟩, rfl, rfl, _⟩
  · have hw : Region.wanted o (yielded ops a.tmps) = true := by
      rcases hg with hg | ⟨s, want, hg, hc⟩
      · cases hgo : o.guard with
        | none => exact wanted_none hgo _
        | some x => obtain ⟨j, b'⟩ := x; simp [hgo, hg, okGuard] at h3
      · rw [wanted s want want hg hc]; simp
    rw [if_pos hw]
    rw [evs_look] at hq
    unfold okOp at h4
    split at h4
    · rename_i p hp
      rw [hp] at hq
      simp only [AOp.q] at hq
      obtain ⟨u, c, e1, e2, e3, e4⟩ := pop_sound h4 F hq w
      subst e3
      simp only [Oper.wp, e1, Oper.upon]
      exact same e2 e4.symm
    · rename_i p hp
      rw [hp] at hq
      simp only [AOp.q] at hq
      obtain ⟨u, c, e1, e2, e3, e4⟩ := vop_sound h4 F hq w
      subst e3
      simp only [Oper.wp, e1, Oper.upon]
      exact same e2 e4.symm
    · rename_i p hp
      rw [hp] at hq
      simp only [AOp.q] at hq
      cases p with
      | load agg nn x =>
        refine hop (K := fun v' H' => (v' = v ∧ [] = b) ∧ H' = H) h4 ?_ (fun c H' h => by obtain ⟨⟨e1, rfl⟩, rfl⟩ := h; exact ⟨e1, rfl, rfl⟩)
        simp only [HOp.q, HOp.run, and_true] at hq ⊢
        exact hq
      | alloc zero =>
        simp only [HOp.q] at hq
        unfold okH at h4
        split at h4
        · rename_i heq; cases heq
        · rename_i t zero' hop heq
          cases heq
          unfold zeroOk at h4
          split at h4
          · rename_i ti hti
            split at h4
            · rename_i z hz
              refine lay hq.2 hq.1 (c := z.cells) (el := t) (relP_of_relL (rel_okVs h4)) ?_
              simp only [execOp, hop, Instr.alloc, zeroValue, Sem.run_bind, run_typeInfo hti, Result.andThen_ok, hz, Sem.run_pure, newVar, newRow, run_newObj]; rfl
            · cases h4
          · cases h4
        · rename_i heq; cases heq
        · rename_i heq; cases heq
        · cases h4
      | box x =>
        simp only [HOp.q] at hq
        split at hq
        · rename_i l hl
          unfold okH at h4
          split at h4
          · rename_i heq; cases heq
          · rename_i heq; cases heq
          · rename_i t xo x' hop heq
            cases heq
            refine lay hq.2 hq.1 (c := (a.eval xo).cells) (el := t) (relP_of_relL (rel_cellsOf hl (rel_okX F h4))) ?_
            simp only [execOp, hop, Instr.box, Sem.run_bind, Result.andThen_ok, Sem.run_pure, newVar, newRow, run_newObj]; rfl
          · rename_i heq; cases heq
          · cases h4
        · exact hq.elim
      | store nn p x =>
        simp only [HOp.q] at hq
        split at hq
        · rename_i k off hpk
          split at hq
          · rename_i cs hcs
            split at hq
            · rename_i l hl
              refine hop (K := fun v' H' => ∃ cs', (v' = .any ∧ H' = H.set k (.cells cs')) ∧ (AV.any = v ∧ [(k, AB.cells cs')] = b)) h4 ?_ (fun c H' h => ?_)
              · simp only [HOp.run, hpk, hcs, hl]
                cases hb : Nat.beq l.length nn with
                | false => rw [hb] at hq; exact hq.elim
                | true =>
                  rw [hb] at hq
                  simp only [cond_true] at hq ⊢
                  obtain ⟨e1, e2, e3⟩ := lputK_spec hq
                  exact lputK_eq e1 e2 ⟨_, ⟨trivial, rfl⟩, e3⟩
              · obtain ⟨cs', ⟨rfl, rfl⟩, rfl, rfl⟩ := h
                refine ⟨rfl, ?_, rfl⟩
                funext j; simp only [Heap.get_set, upe]
            · exact hq.elim
          · exact hq.elim
        · exact hq.elim
    · rename_i p hp
      rw [hp] at hq
      simp only [AOp.q] at hq
      obtain ⟨v', ⟨rfl, e4⟩, ⟨u, w', M', e1, R', hv, G⟩⟩ := dop_sound h4 F R (Hr := H.get) (fun _ _ h => h) hq
      subst e4
      simp only [Oper.wp, e1, Oper.upon]
      exact move R' hv G rfl rfl
    · rename_i p hp
      rw [hp] at hq
      simp only [AOp.q] at hq
      obtain ⟨v', l, kl, ⟨rfl, e4⟩, ⟨u, w', μ', e1, R', hv, L, G, hj⟩⟩ := lop_sound h4 F R (Hr := H.get) (fun _ _ h => h) (p := nx + i) (by omega) (by assumption) hq
      subst e4
      simp only [Oper.wp, e1, Oper.upon]
      refine fin R' hv (Mem.le_refl _) L (G n (by omega)) ?_ ?_ (fun j hj' hji hl => by rw [hj _ (by omega)]; exact hfree j hj' hl)
      · rw [← get_lay]; cases kl <;> rfl
      · cases kl <;> rfl
    · rename_i g args _ f args' hop hp
      rw [hp] at hq
      simp only [Bool.and_eq_true, beq_iff_eq] at h4
      obtain ⟨rfl, h4⟩ := h4
      simp only [AOp.q, fvs_eq] at hq
      refine call (f := f) (vs := args.map a.eval) ?_ (by simpa using rel_okXs F h4) hq
      simp only [execOp, hop, resolve, Act.eval, Deferred.ofValue, Sem.run_bind, Sem.run_pure, Result.andThen_ok, invoke, Array.empty_append, Array.append_empty]
    · rename_i x args _ x' args' hop hp
      rw [hp] at hq
      simp only [Bool.and_eq_true] at h4
      obtain ⟨h5, h6⟩ := h4
      simp only [AOp.q] at hq
      split at hq
      · rename_i f caps hx
        simp only [fvs_eq] at hq
        have hx' := rel_okX F h5
        rw [hx] at hx'; simp only [relV] at hx'
        obtain ⟨vs, hv, hl⟩ := hx'
        refine call (f := f) (vs := args.map a.eval ++ vs) ?_ (by simpa using relL_append (rel_okXs F h6) hl) hq
        simp only [execOp, hop, resolve, hv, Deferred.ofValue, Sem.run_bind, Sem.run_pure, Result.andThen_ok, invoke, Array.empty_append]
      · exact hq.elim
    · cases h4
  · have hw : Region.wanted o (yielded ops a.tmps) = false := by
      rcases hoff with ⟨c, hc, hne⟩ | hs
      · rw [wanted s want c hg hc]; cases c <;> cases want <;> simp_all
      · exact undef_yields F hs (by rw [← hg]; exact h3)
    rw [hw]
    simp only [Bool.false_eq_true, if_false]
    exact same relV_undef rfl

theorem okAOs_get {ops : Array Oper} : ∀ {l : List Oper} {qs : List AO}, okAOs P N ops l qs = true → l.length = qs.length ∧ ∀ (i : Nat) o q, l[i]? = some o → qs[i]? = some q → okAO P N ops o q = true
  | [], [], _ => ⟨rfl, fun i o q h => by simp at h⟩
  | o :: l, q :: qs, h => by
    simp only [okAOs, Bool.and_eq_true] at h
    obtain ⟨h1, h2⟩ := okAOs_get h.2
    refine ⟨by simp [h1], fun i o' q' ho hq => ?_⟩
    cases i with
    | zero => simp at ho hq; subst ho; subst hq; exact h.1
    | succ i => exact h2 i o' q' (by simpa using ho) (by simpa using hq)
  | [], _ :: _, h => by simp [okAOs] at h
  | _ :: _, [], h => by simp [okAOs] at h
theorem okAOs_drop {ops : Array Oper} : ∀ {l : List Oper} {qs : List AO} (n : Nat), okAOs P N ops l qs = true → okAOs P N ops (l.drop n) (qs.drop n) = true
  | [], [], n, _ => by simp [okAOs]
  | o :: l, q :: qs, 0, h => h
  | o :: l, q :: qs, n + 1, h => by simp only [okAOs, Bool.and_eq_true] at h; exact okAOs_drop n h.2
  | [], _ :: _, _, h => by simp [okAOs] at h
  | _ :: _, [], _, h => by simp [okAOs] at h

theorem wpAny_of_q {dep : List (Nat × Nat)} {md : Region.Mode} {ops : Array Oper} (hok : okAOs P N ops ops.toList qs = true) {Q' : Exit → Act → World → Prop} {g : Nat} {T : Array Bool → Sg → Et → Prop}
    (hT : ∀ listed σ η a w, T listed σ η → QSt N n M0 μ0 Hs w0 nx m listed σ η a w → wpAny P md ops Q' g listed a w) :
    ∀ (f : Nat) (listed : Array Bool) (L : List En) (σ : Sg) (η : Et) (a : Act) (w : World), QSt N n M0 μ0 Hs w0 nx m listed σ η a w → qAny P dep md ops nx qs m T f listed L σ η → wpAny P md ops Q' (f + g) listed a w
  | 0, listed, L, σ, η, a, w, S, h => by rw [Nat.zero_add]; exact hT _ _ _ _ _ h S
  | f + 1, listed, L, σ, η, a, w, S, h => by
    rw [show f + 1 + g = (f + g) + 1 by omega]
    refine ⟨fun h0 => absurd h0 h.1, fun i hi => ?_⟩
    obtain ⟨him, q, hq, v, b, F, hy, _, hK⟩ := h.2 i hi
    obtain ⟨hun, o, ho, _⟩ := mem_ready.1 hi
    unfold wpOp
    simp only [ho]
    have := q_step ((okAOs_get hok).2 i o q (by simpa using ho) hq) S him hun hy (next := wpAny P md ops Q' (f + g) (listed.setIfInBounds i true)) (Q := Q') fun a' w' S' => wpAny_of_q hok hT f _ _ _ _ _ _ S' hK
    split at this
    · rename_i hw; rw [if_pos hw]; exact .inl this
    · rename_i hw; rw [if_neg hw]; exact this

/-- **A REGION THAT DRAWS ITS ORDER**: its first m operations in any order that its edges allow, the rest in that of the text. -/
theorem sound_draw {id : Nat} {ops : Array Oper} {dep : List (Nat × Nat)} (hm : P.follows .mixedOrders = true) (hok : okAOs P N ops ops.toList qs = true) (hd : drawOk .any ops dep qs m = true) {fr : Fr} {H : Heap} {a : Act} {w : World} {K : Fr → Heap → Prop} {Q : Exit → Act → World → Prop}
    (S : St N n M0 μ0 Hs w0 fr H a w) (hr : qwalk P dep (fun fr H => runOps P K (qs.drop m) fr H) (qs.take m) 0 H.nx [] fr ⟨H.nx + m, H.bs⟩) (hq : ∀ fr' H' a' w', St N n M0 μ0 Hs w0 fr' H' a' w' → K fr' H' → Q .normal a' w') :
    (Code.region id ops true).wp P Q a w := by
  refine wp_region_any hm ?_
  simp only [drawOk, Bool.and_eq_true] at hd
  obtain ⟨⟨hd1, hdep⟩, hd2⟩ := hd
  have hE := early_of hd1
  have hmle : m ≤ ops.size := by
    simp only [Bool.or_eq_true, decide_eq_true_eq, Bool.and_eq_true] at hd1
    rcases hd1 with h | ⟨⟨h, _⟩, _⟩ <;> omega
  have hlen := (okAOs_get hok).1
  simp only [Array.length_toList] at hlen
  obtain ⟨hdef, M, μ, R, F, hn, G0⟩ := S
  have R0 : Rel M μ ⟨H.nx + m, H.bs⟩ { w with drawn := w.drawn + 1 } := by
    have R1 := R.room m
    exact ⟨R1.dom, R1.top, R1.cells, R1.maps, R1.inj, R1.imm, R1.apart⟩
  have S0 : QSt N n M0 μ0 Hs w0 H.nx m (Array.replicate ops.size false) (look fr) (Heap.get ⟨H.nx + m, H.bs⟩) a { w with drawn := w.drawn + 1 } :=
    ⟨hdef, by simpa using hmle, M, μ, fr, ⟨H.nx + m, H.bs⟩, rfl, rfl, rfl, R0, F, hn, ⟨G0.mem, G0.pin, ⟨G0.keep.os, G0.keep.tape, G0.keep.output, G0.keep.size, G0.keep.block⟩, G0.own, G0.fresh⟩, fun i _ _ => R.dom _ (by omega)⟩
  have inv0 : HeadInv .any ops m (Array.replicate ops.size false) :=
    ⟨by simp, fun j oj _ hl => (by rw [getD_replicate_false] at hl; cases hl), fun t _ ht => getD_in (by simpa using ht) (getD_replicate_false _ _)⟩
  have hw := wpQ_of_walk (nx := H.nx + m) (qs.take m) 0 H.nx [] [] fr ⟨H.nx + m, H.bs⟩ rfl (fun e he => by cases he) hr
  have htl : (qs.take m).length = m := by simp; omega
  have hA := qAny_lex (md := .any) (ops := ops) (qs := qs) (m := m) (g := ops.size - m) (depsB_spec hdep) hE (by omega) (qs.take m) 0 (Array.replicate ops.size false) [] (look fr) (Heap.get ⟨H.nx + m, H.bs⟩)
    (fun j hj => by rw [htl] at hj; simp [hj]) (by omega) inv0 (by rw [htl]; exact hd2) hw
  have := wpAny_of_q (md := .any) (Q' := Q) (g := ops.size - m) hok (fun listed σ η a' w' hT S' => ?_) _ _ _ _ _ _ _ S0 hA
  · rw [htl, show m + (ops.size - m) = ops.size by omega] at this
    exact this
  · obtain ⟨hseq, fr1, H1, rfl, rfl, hnx1, hrun⟩ := hT
    obtain ⟨hd', _, M', μ', fr', H', hl', hg', hnx', R', F', hn', G', _⟩ := S'
    have S1 : St N n M0 μ0 Hs w0 fr1 H1 a' w' := ⟨hd', M', μ', R'.ext hg' (hnx'.trans hnx1.symm), F'.ext hl', by rw [hnx1]; omega, G'.ext hg'⟩
    have hdl : (ops.toList.drop m).length = ops.size - m := by simp
    have hseq' : Region.seqB .any ops (ops.toList.drop m).length m listed = true := by rw [hdl]; exact hseq
    have := wpAny_of_seq (P := P) (md := .any) (Q' := Q) (ops.toList.drop m) m listed a' w' (fun j => by simp [List.getElem?_drop]) hseq' (sound_ops (okAOs_drop m hok) S1 hrun hq)
    rwa [hdl] at this
end
end Go.Eng

namespace Go.Eng
open Go

inductive AC where
  | skip
  | ret
  | exit (id : Nat)
  | reg (ops : List AO)
  | draw (m : Nat) (dep : List (Nat × Nat)) (ops : List AO)
  | seq (a b : AC)
  | cond (c : AX) (a b : AC)
  | block (id : Nat) (a : AC)
  | loop (a : AC)
  | ghost (a : AC)

section
variable (P : Program)
def roomK (H : Heap) (m : Nat) (K : Nat → Heap → Prop) : Prop := match H with
  | ⟨nx, bs⟩ => K nx ⟨nx + m, bs⟩
def seqK (next : (XA → Fr → Heap → Prop) → Fr → Heap → Prop) (Q : XA → Fr → Heap → Prop) (x : XA) (fr : Fr) (H : Heap) : Prop := match x with
  | .normal => next Q fr H
  | .exit id => Q (.exit id) fr H
  | .ret => Q .ret fr H
def blockK (id : Nat) (Q : XA → Fr → Heap → Prop) (x : XA) (fr : Fr) (H : Heap) : Prop := match x with
  | .normal => Q .normal fr H
  | .exit j => bif Nat.beq j id then Q .normal fr H else Q (.exit j) fr H
  | .ret => Q .ret fr H
noncomputable def AC.run (n : Nat) (ac : AC) : (XA → Fr → Heap → Prop) → Fr → Heap → Prop := AC.rec (motive := fun _ => (XA → Fr → Heap → Prop) → Fr → Heap → Prop)
  (fun Q fr H => Q .normal fr H)
  (fun Q fr H => Q .ret fr H)
  (fun id Q fr H => Q (.exit id) fr H)
  (fun ops Q fr H => runOps P (Q .normal) ops fr H)
  (fun m dep ops Q fr H => roomK H m fun nx H => qwalk P dep (runOps P (Q .normal) (ops.drop m)) (ops.take m) 0 nx [] fr H)
  (fun _ _ iha ihb Q fr H => iha (seqK ihb Q) fr H)
  (fun c _ _ iha ihb Q fr H => match c.ev fr with
    | .bool t => Branch t (iha Q fr H) (ihb Q fr H)
    | _ => False)
  (fun id _ ih Q fr H => ih (blockK id Q) fr H)
  (fun _ ih Q fr H => LoopA n ih Q fr H)
  (fun _ ih Q fr H => To n fr H (ih Q)) ac
theorem AC.run_cond (n : Nat) (c : AX) (a b : AC) (Q : XA → Fr → Heap → Prop) (fr : Fr) (H : Heap) : AC.run P n (.cond c a b) Q fr H = match c.ev fr with
    | .bool t => Branch t (AC.run P n a Q fr H) (AC.run P n b Q fr H)
    | _ => False := rfl

def okC (N : Nat) : AC → Code → Bool
  | .ghost a, c => okC N a c
  | .skip, .skip => true
  | .ret, .ret => true
  | .exit i, .exit j => i == j
  | .reg qs, .region _ ops false => okAOs P N ops ops.toList qs
  | .draw m dep qs, .region _ ops true => P.follows .mixedOrders && okAOs P N ops ops.toList qs && drawOk .any ops dep qs m
  | .seq a b, .seq x y => okC N a x && okC N b y
  | .cond c a b, .cond c' x y => okX c' c && okC N a x && okC N b y
  | .block i a, .block j x => i == j && okC N a x
  | .loop a, .loop x => okC N a x
  | _, _ => false
end

section
variable {P : Program} {N n : Nat} {M0 : Mem} {μ0 : Pos} {H0 : Heap} {w0 : World}
theorem St.into {fr fr' : Fr} {H H' : Heap} {a : Act} {w : World} (S : St N n M0 μ0 H0 w0 fr H a w) (h : Into n fr H fr' H') : St N n M0 μ0 H0 w0 fr' H' a w := by
  obtain ⟨hd, M, μ, R, F, hn, G0⟩ := S
  obtain ⟨M', μ', R', F', hn', G⟩ := h N M μ w a.tmps R F hn
  exact ⟨hd, M', μ', R', F', hn', G0.trans G⟩

theorem sound_C : ∀ {ac : AC} {c : Code}, okC P N ac c = true → ∀ {Q : XA → Fr → Heap → Prop} {fr : Fr} {H : Heap} {a : Act} {w : World}, St N n M0 μ0 H0 w0 fr H a w → ac.run P n Q fr H → c.wp P (Post N n M0 μ0 H0 w0 Q) a w := by
  intro ac
  induction ac with
  | ghost x ih =>
    intro c h Q fr H a w S hr
    obtain ⟨fr', H', hi, hr⟩ := hr.ex
    have h' : okC P N x c = true := by cases c <;> simpa [okC] using h
    exact ih h' (S.into hi) hr
  | skip =>
    intro c h Q fr H a w S hr
    cases c <;> simp [okC] at h
    exact wp_skip ⟨.normal, fr, H, rfl, S, hr⟩
  | ret =>
    intro c h Q fr H a w S hr
    cases c <;> simp [okC] at h
    exact wp_ret ⟨.ret, fr, H, rfl, S, hr⟩
  | exit id =>
    intro c h Q fr H a w S hr
    cases c <;> simp [okC] at h
    subst h
    exact wp_exit ⟨.exit id, fr, H, rfl, S, hr⟩
  | reg qs =>
    intro c h Q fr H a w S hr
    cases c with
    | region id ops draw =>
      cases draw with
      | true => simp [okC] at h
      | false =>
        simp only [okC] at h
        exact wp_region_list (sound_ops h S hr fun fr' H' a' w' S' hk => ⟨.normal, fr', H', rfl, S', hk⟩)
    | _ => simp [okC] at h
  | draw m dep qs =>
    intro c h Q fr H a w S hr
    cases c with
    | region id ops draw =>
      cases draw with
      | false => simp [okC] at h
      | true =>
        simp only [okC, Bool.and_eq_true] at h
        exact sound_draw h.1.1 h.1.2 h.2 S hr fun fr' H' a' w' S' hk => ⟨.normal, fr', H', rfl, S', hk⟩
    | _ => simp [okC] at h
  | seq x y ihx ihy =>
    intro c h Q fr H a w S hr
    cases c with
    | seq x' y' =>
      simp only [okC, Bool.and_eq_true] at h
      refine wp_seq (wp_mono (ihx h.1 S hr) ?_)
      rintro e a' w' ⟨xx, fr', H', he, S', hq⟩
      cases e <;> simp [xa] at he <;> subst he
      · exact ihy h.2 S' hq
      · exact ⟨_, fr', H', rfl, S', hq⟩
      · exact ⟨_, fr', H', rfl, S', hq⟩
    | _ => simp [okC] at h
  | cond c x y ihx ihy =>
    intro c' h Q fr H a w S hr
    cases c' with
    | cond c' x' y' =>
      simp only [okC, Bool.and_eq_true] at h
      rw [AC.run_cond] at hr
      split at hr
      · rename_i t ht
        obtain ⟨M, μ, R, F, _⟩ := S.ex
        have hc := rel_okX F h.1.1
        rw [ht] at hc
        exact wp_cond_split (rel_bool hc) (fun e => ihx h.1.2 S (hr.yes e)) (fun e => ihy h.2 S (hr.no e))
      · exact hr.elim
    | _ => simp [okC] at h
  | block id x ih =>
    intro c h Q fr H a w S hr
    cases c with
    | block j x' =>
      simp only [okC, Bool.and_eq_true, beq_iff_eq] at h
      obtain ⟨rfl, h⟩ := h
      refine wp_block (wp_mono (ih h S hr) ?_)
      rintro e a' w' ⟨xx, fr', H', he, S', hq⟩
      cases e <;> simp [xa] at he <;> subst he
      · exact ⟨_, fr', H', rfl, S', hq⟩
      · rename_i k
        simp only [Exit.inBlock]
        by_cases hk : k = id
        · subst hk
          simp only [blockK, Nat.beq_refl, cond_true] at hq
          rw [if_pos rfl]
          exact ⟨_, fr', H', rfl, S', hq⟩
        · simp only [blockK, beq_false hk, cond_false] at hq
          rw [if_neg hk]
          exact ⟨_, fr', H', rfl, S', hq⟩
      · exact ⟨_, fr', H', rfl, S', hq⟩
    | _ => simp [okC] at h
  | loop x ih =>
    intro c h Q fr H a w S hr
    cases c with
    | loop x' =>
      simp only [okC] at h
      obtain ⟨I, m0, ⟨fr0, H1, hi, h0⟩, hbody⟩ := hr.ex
      refine wp_loop_ghost (fun m a w => ∃ fr H, St N n M0 μ0 H0 w0 fr H a w ∧ I m fr H) m0 ⟨fr0, H1, S.into hi, h0⟩ ?_
      rintro m a' w' ⟨fr', H', S', hI⟩
      refine wp_mono (ih h S' (hbody m fr' H' hI)) ?_
      rintro e a'' w'' ⟨xx, fr'', H'', he, S'', hq⟩
      cases e <;> simp [xa] at he <;> subst he
      · obtain ⟨m', hm, fr3, H3, hi3, h3⟩ := hq
        exact ⟨m', hm, fr3, H3, S''.into hi3, h3⟩
      · exact ⟨_, fr'', H'', rfl, S'', hq⟩
      · exact ⟨_, fr'', H'', rfl, S'', hq⟩
    | _ => simp [okC] at h
end
end Go.Eng

namespace Go.Eng
open Go

/-! ### Whole functions -/
inductive AR where
  | tmp (t : Nat)
  | cell (t : Nat) (agg : Bool) (n : Nat)

def resK (fr : Fr) (H : Heap) : List AR → (List AV → Prop) → Prop
  | [], K => K []
  | .tmp t :: r, K => fv (look fr t) fun v => resK fr H r fun vs => K (v :: vs)
  | .cell t agg n :: r, K => match look fr t with
    | .ptr k off => match H.get k with
      | .cells cs => loadK agg n (cs.drop off) fun v => resK fr H r fun vs => K (v :: vs)
      | _ => False
    | _ => False
def one : List AV → AV
  | [v] => v
  | vs => .tuple vs

/-- What a function hands back: its result, and what of the heap is kept. -/
structure RetA (n : Nat) (K : AV → Heap → Prop) (v : AV) (H : Heap) : Prop where
  ex : ∃ v' H', Into n [(0, v)] H [(0, v')] H' ∧ K v' H'

def frame0 : Nat → List AV → Fr
  | _, [] => []
  | i, v :: r => (i, v) :: frame0 (i + 1) r

def endK (n : Nat) (rs : List AR) (K : AV → Heap → Prop) : XA → Fr → Heap → Prop
  | .exit _, _, _ => False
  | .normal, fr, H => resK fr H rs fun vs => RetA n K (one vs) H
  | .ret, fr, H => resK fr H rs fun vs => RetA n K (one vs) H

def okRes (P : Program) : List ResultVar → List AR → Bool
  | [], [] => true
  | .tmp t :: r, .tmp t' :: r' => t == t' && okRes P r r'
  | .cell a t :: r, .cell a' agg n :: r' => a == a' && shapeOk P t agg n && okRes P r r'
  | _, _ => false

/-- A function's text, held against the program. -/
def okF (P : Program) (f : FuncId) (N : Nat) (ac : AC) (rs : List AR) : Bool := callable P f && (match P.funcs[f]? with
  | some fn => fn.ntmps == N && okRes P fn.results.toList rs && (match fn.body with
    | some c => okC P N ac c
    | none => false)
  | none => false)

section
variable {P : Program}

theorem look_frame0 : ∀ (args : List AV) (i t : Nat), (t < i → look (frame0 i args) t = .any) ∧ (∀ j, t = i + j → look (frame0 i args) t = args.getD j .any)
  | [], i, t => ⟨fun _ => rfl, fun j _ => by simp [frame0, look]⟩
  | v :: r, i, t => by
    obtain ⟨h1, h2⟩ := look_frame0 r (i + 1) t
    refine ⟨fun h => ?_, fun j hj => ?_⟩
    · simp only [frame0, look]; rw [beq_false (by omega)]; exact h1 (by omega)
    · simp only [frame0, look]
      cases j with
      | zero => subst hj; simp
      | succ j => rw [beq_false (by omega)]; simpa using h2 j (by omega)

theorem relF0 {M : Mem} {μ : Pos} {args : List AV} {vs : Array Value} {N : Nat} (h : relL M args μ vs.toList) (hN : args.length ≤ N) : RelF N M μ (frame0 0 args) (vs ++ Array.replicate (N - vs.size) undef) := by
  have hl := relL_length h
  simp only [Array.length_toList] at hl
  refine ⟨by simp; omega, fun t => ?_⟩
  rw [(look_frame0 args 0 t).2 t (by omega)]
  cases ht : args[t]? with
  | none => simp [List.getD, ht, relV]
  | some c =>
    obtain ⟨v, hv, hr⟩ := relL_get h ht
    have : t < vs.size := by
      rcases Nat.lt_or_ge t vs.size with h' | h'
      · exact h'
      · simp [Array.getElem?_eq_none h'] at hv
    simp only [Array.getElem?_toList] at hv
    rw [show args.getD t .any = c by simp [List.getD, ht], Array.getD_eq_getD_getElem?, Array.getElem?_append_left this, hv]
    exact hr

def resOne (tmps : Array Value) : ResultVar → Sem Value
  | .tmp t => pure (tmps.getD t undef)
  | .cell a t => do loadVar t (← asAddr (tmps.getD a undef))
theorem results_eq (fn : Func) (tmps : Array Value) : results fn tmps = (do
    let vs ← fn.results.mapM (resOne tmps)
    pure (if h : vs.size = 1 then vs[0] else .tuple vs)) := by
  unfold results
  congr 1

theorem run_results {N : Nat} {M : Mem} {μ : Pos} {H : Heap} {w : World} {fr : Fr} {tmps : Array Value} (R : Rel M μ H w) (F : RelF N M μ fr tmps) : ∀ {rv : List ResultVar} {rs : List AR}, okRes P rv rs = true → ∀ {K : List AV → Prop}, resK fr H rs K →
    ∃ vs cs, (rv.mapM (resOne tmps)).run P w = .ok vs w ∧ relL M cs μ vs ∧ K cs
  | [], [], _, K, hk => ⟨[], [], by simp, by simp [relL], hk⟩
  | .tmp t :: r, .tmp t' :: r', h, K, hk => by
    simp only [okRes, Bool.and_eq_true, beq_iff_eq] at h
    obtain ⟨rfl, h⟩ := h
    simp only [resK, fv_eq] at hk
    obtain ⟨vs, cs, h1, h2, h3⟩ := run_results R F h hk
    refine ⟨tmps.getD t undef :: vs, look fr t :: cs, ?_, ?_, h3⟩
    · simp only [List.mapM_cons, resOne, Sem.run_bind, Sem.run_pure, Result.andThen_ok, h1]
    · simp only [relL]; exact ⟨_, _, rfl, F.slot t, h2⟩
  | .cell q t :: r, .cell q' agg n :: r', h, K, hk => by
    simp only [okRes, Bool.and_eq_true, beq_iff_eq] at h
    obtain ⟨⟨rfl, hs⟩, h⟩ := h
    simp only [resK] at hk
    split at hk
    · rename_i k off hq
      split at hk
      · rename_i cs hc
        have hx := F.slot q
        rw [hq] at hx; simp only [relV] at hx
        obtain ⟨b, sz, hμ, hv⟩ := hx
        have fin : ∀ c u, (loadVar t ⟨b, off, none⟩).run P w = .ok u w → relV M c μ u → resK fr H r' (fun vs => K (c :: vs)) → ∃ vs cs, (List.mapM (resOne tmps) (.cell q t :: r)).run P w = .ok vs w ∧ relL M cs μ vs ∧ K cs := by
          intro c u hu hr hk
          obtain ⟨vs, cs, h1, h2, h3⟩ := run_results R F h hk
          refine ⟨u :: vs, c :: cs, ?_, ?_, h3⟩
          · simp only [List.mapM_cons, resOne, Sem.run_bind, Sem.run_pure, Result.andThen_ok, hv, asAddr, hu, h1]
          · simp only [relL]; exact ⟨_, _, rfl, hr, h2⟩
        rcases loadK_spec hk with ⟨rfl, hn, hk⟩ | ⟨rfl, c, r2, hcr, hk⟩
        · by_cases hn0 : n = 0
          · subst hn0
            refine fin (.agg []) (.agg #[]) ?_ (by simp only [relV]; exact ⟨_, rfl, by simp [relL]⟩) (by simpa using hk)
            simp only [loadVar, Sem.run_bind, run_isAgg hs, Result.andThen_ok, if_true, run_sizeOf (shapeOk_sized hs), loadCells, loadCellsFrom, Sem.run_pure]
          · obtain ⟨vs, hl1, hl2, hl3⟩ := cells_cells (off := off) R hc hμ n (by simp at hn; omega)
            refine fin _ (.agg vs.toArray) ?_ (by simp only [relV]; exact ⟨_, rfl, hl2⟩) hk
            have := run_loadCells_list (P := P) w ⟨b, off, none⟩ vs hl3
            rw [hl1] at this
            simp only [loadVar, Sem.run_bind, run_isAgg hs, Result.andThen_ok, if_true, run_sizeOf (shapeOk_sized hs), this, Sem.run_pure]
        · have hlen : off + 1 ≤ cs.length := by have := congrArg List.length hcr; simp at this; omega
          obtain ⟨vs, hl1, hl2, hl3⟩ := cells_cells R hc hμ 1 hlen
          rw [hcr] at hl2
          simp only [List.take_succ_cons, List.take_zero, relL] at hl2
          obtain ⟨v, _, rfl, hrel, rfl⟩ := hl2
          have h3 := hl3 0 v rfl
          rw [add_addr] at h3
          simp only [Nat.add_zero] at h3
          refine fin c v ?_ hrel hk
          simp only [loadVar, Sem.run_bind, run_isAgg hs, Result.andThen_ok, Bool.false_eq_true, if_false, run_load, h3]
      · exact hk.elim
    · exact hk.elim
  | [], _ :: _, h, _, _ => by simp [okRes] at h
  | .tmp _ :: _, [], h, _, _ => by simp [okRes] at h
  | .cell _ _ :: _, [], h, _, _ => by simp [okRes] at h
  | .tmp _ :: _, .cell _ _ _ :: _, h, _, _ => by simp [okRes] at h
  | .cell _ _ :: _, .tmp _ :: _, h, _, _ => by simp [okRes] at h

theorem run_results_fn {N : Nat} {M : Mem} {μ : Pos} {H : Heap} {w : World} {fr : Fr} {tmps : Array Value} (R : Rel M μ H w) (F : RelF N M μ fr tmps) {fn : Func} {rs : List AR} (h : okRes P fn.results.toList rs = true) {K : List AV → Prop} (hk : resK fr H rs K) :
    ∃ v cs, (results fn tmps).run P w = .ok v w ∧ relV M (one cs) μ v ∧ K cs := by
  obtain ⟨vs, cs, h1, h2, h3⟩ := run_results R F h hk
  have hl := relL_length h2
  rw [results_eq, Array.mapM_eq_mapM_toList]
  simp only [bind_map_left, Sem.run_bind]
  rw [h1]
  simp only [Result.andThen_ok]
  by_cases h4 : vs.length = 1
  · match vs, cs, h4, hl, h2 with
    | [v], [c], _, _, h2 =>
      simp only [relL] at h2
      obtain ⟨_, _, e, h2, _⟩ := h2
      simp only [List.cons.injEq] at e
      refine ⟨v, [c], by simp, ?_, h3⟩
      simp only [one]; rw [e.1]; exact h2
  · refine ⟨.tuple vs.toArray, cs, by simp [h4], ?_, h3⟩
    have : one cs = .tuple cs := by
      match cs with
      | [] => rfl
      | [c] => simp at hl; omega
      | _ :: _ :: _ => rfl
    rw [this]; simp only [relV]; exact ⟨_, rfl, h2⟩

/-- **A CALL, BY ITS TEXT.** -/
theorem callA_of {f : FuncId} {N : Nat} {ac : AC} {rs : List AR} (hok : okF P f N ac rs = true) {args : List AV} {H : Heap} {K : AV → Heap → Prop} (hN : args.length ≤ N)
    (h : ac.run P H.nx (endK H.nx rs K) (frame0 0 args) H) : CallA P f args H K := by
  unfold okF at hok
  simp only [Bool.and_eq_true] at hok
  obtain ⟨hcall, hok⟩ := hok
  refine ⟨hcall, fun M μ w vs R hv => ?_⟩
  split at hok
  · rename_i fn hf
    simp only [Bool.and_eq_true, beq_iff_eq] at hok
    obtain ⟨⟨hn, hres⟩, hok⟩ := hok
    split at hok
    · rename_i c hb
      refine calls_of_wp hf hb ?_
      rw [hn]
      have S : St N H.nx M μ H w (frame0 0 args) H { tmps := vs ++ Array.replicate (N - vs.size) undef, defers := [] } w :=
        ⟨rfl, M, μ, R, relF0 hv hN, Nat.le_refl _, Grow.refl _ _ _ _ _⟩
      refine wp_mono (sound_C hok S h) ?_
      rintro e a' w' ⟨x, fr', H', hx, S', hq⟩
      have fin : resK fr' H' rs (fun vs => RetA H.nx K (one vs) H') → a'.defers = [] ∧ ∃ v, (results fn a'.tmps).run P w' = .ok v w' ∧
          (∃ v' M' μ' H' c, Ending.returned v = .returned v' ∧ Rel M' μ' H' w' ∧ relV M' c μ' v' ∧ Move M μ H w M' μ' H' w' ∧ K c H') := by
        intro hk
        obtain ⟨hd, M1, μ1, R1, F1, hn1, G1⟩ := S'
        obtain ⟨v, cs, h1, h2, h3⟩ := run_results_fn R1 F1 hres hk
        refine ⟨hd, v, h1, ?_⟩
        obtain ⟨v', H2, hi, hk⟩ := h3.ex
        have F1' : RelF 1 M1 μ1 [(0, one cs)] #[v] := ⟨rfl, fun t => by
          simp only [look]
          by_cases ht : 0 = t
          · subst ht; simpa using h2
          · rw [beq_false ht]; simp only [cond_false, relV]⟩
        obtain ⟨M2, μ2, R2, F2, hn2, G2⟩ := hi 1 M1 μ1 w' #[v] R1 F1' hn1
        refine ⟨v, M2, μ2, H2, v', rfl, R2, ?_, ?_, hk⟩
        · have := F2.slot 0; simpa [look] using this
        · have G := G1.trans G2
          refine ⟨fun k x hx => ?_, G, hn2⟩
          rw [G.pin k (R.pos_lt hx)]; exact hx
      cases e <;> simp [xa] at hx <;> subst hx
      · exact fin hq
      · exact hq.elim
      · exact fin hq
    · cases hok
  · cases hok
end
end Go.Eng

namespace Go.Eng
open Go

mutual
def ren (f : Nat → Option Nat) : AV → AV
  | .ptr k o => match f k with | some j => .ptr j o | none => .any
  | .slice k o l c e => match f k with | some j => .slice j o l c e | none => .any
  | .map k => match f k with | some j => .map j | none => .any
  | .func g cs => .func g (renL f cs)
  | .agg cs => .agg (renL f cs)
  | .tuple cs => .tuple (renL f cs)
  | c => c
def renL (f : Nat → Option Nat) : List AV → List AV
  | [] => []
  | c :: cs => ren f c :: renL f cs
end

section
variable {M : Mem} {μ μ' : Pos}
mutual
theorem relV_ren {f : Nat → Option Nat} (hf : ∀ k j x, f k = some j → μ k = some x → μ' j = some x) : ∀ (c : AV) {v : Value}, relV M c μ v → relV M (ren f c) μ' v
  | .any, _, _ => by simp only [ren, relV]
  | .bool b, _, h => by simpa only [ren, relV] using h
  | .int k n, _, h => by simpa only [ren, relV] using h
  | .str s, _, h => by simpa only [ren, relV] using h
  | .nilp, _, h => by simpa only [ren, relV] using h
  | .ptr k o, _, h => by
    simp only [ren]
    split
    · rename_i j hj; simp only [relV] at *; obtain ⟨b, sz, h1, h2⟩ := h; exact ⟨b, sz, hf k j _ hj h1, h2⟩
    · simp only [relV]
  | .dptr cs, _, h => by simpa only [ren, relV] using h
  | .nils, _, h => by simpa only [ren, relV] using h
  | .slice k o l c e, _, h => by
    simp only [ren]
    split
    · rename_i j hj; simp only [relV] at *; obtain ⟨b, sz, q, h1, h2⟩ := h; exact ⟨b, sz, q, hf k j _ hj h1, h2⟩
    · simp only [relV]
  | .dslice cs l c, _, h => by simpa only [ren, relV] using h
  | .nilm, _, h => by simpa only [ren, relV] using h
  | .map k, _, h => by
    simp only [ren]
    split
    · rename_i j hj; simp only [relV] at *; obtain ⟨b, sz, h1, h2⟩ := h; exact ⟨b, sz, hf k j _ hj h1, h2⟩
    · simp only [relV]
  | .nilf, _, h => by simpa only [ren, relV] using h
  | .func g cs, _, h => by simp only [relV, ren] at *; obtain ⟨vs, h1, h2⟩ := h; exact ⟨vs, h1, relL_ren hf cs h2⟩
  | .agg cs, _, h => by simp only [relV, ren] at *; obtain ⟨vs, h1, h2⟩ := h; exact ⟨vs, h1, relL_ren hf cs h2⟩
  | .tuple cs, _, h => by simp only [relV, ren] at *; obtain ⟨vs, h1, h2⟩ := h; exact ⟨vs, h1, relL_ren hf cs h2⟩
theorem relL_ren {f : Nat → Option Nat} (hf : ∀ k j x, f k = some j → μ k = some x → μ' j = some x) : ∀ (cs : List AV) {vs : List Value}, relL M cs μ vs → relL M (renL f cs) μ' vs
  | [], _, h => by simpa only [relL, renL] using h
  | c :: cs, _, h => by
    simp only [relL, renL] at *; obtain ⟨v, r, h1, h2, h3⟩ := h
    exact ⟨v, r, h1, relV_ren hf c h2, relL_ren hf cs h3⟩
end
theorem relP_ren {f : Nat → Option Nat} (hf : ∀ k j x, f k = some j → μ k = some x → μ' j = some x) : ∀ (cs : List AV) {vs : List Value}, relP M μ cs vs → relP M μ' (renL f cs) vs
  | [], _, _ => by simp [renL, relP]
  | c :: cs, _, h => by obtain ⟨v, r, h1, h2, h3⟩ := h; simp only [renL, relP]; exact ⟨v, r, h1, relV_ren hf c h2, relP_ren hf cs h3⟩
theorem relP_data : ∀ (cs : List AV) {vs : List Value}, (∀ c ∈ cs, noLoc c = true) → relP M μ cs vs → relP M μ' cs vs
  | [], _, _, _ => trivial
  | c :: cs, _, hn, h => by
    obtain ⟨v, r, h1, h2, h3⟩ := h
    exact ⟨v, r, h1, relV_data c (hn c (by simp)) h2, relP_data cs (fun x hx => hn x (by simp [hx])) h3⟩
end

/-! ### What is kept of a heap, under new numbers -/
def posOf (keep : List (Nat × Bool)) (k : Nat) : Option Nat := go keep 0
where
  go : List (Nat × Bool) → Nat → Option Nat
    | [], _ => none
    | (j, _) :: r, i => bif Nat.beq j k then some i else go r (i + 1)
def renB (f : Nat → Option Nat) : AB → AB
  | .cells cs => .cells (renL f cs)
  | b => b
def gcB (f : Nat → Option Nat) (H : Heap) : List (Nat × Bool) → Nat → List (Nat × AB)
  | [], _ => []
  | (k, d) :: r, i => (i, bif d then H.get k else renB f (H.get k)) :: gcB f H r (i + 1)
def gcH (keep : List (Nat × Bool)) (H : Heap) : Heap := ⟨keep.length, gcB (posOf keep) H keep 0⟩
def gcF (keep : List (Nat × Bool)) (fr : Fr) : List Nat → Fr
  | [] => []
  | t :: r => (t, ren (posOf keep) (look fr t)) :: gcF keep fr r
def dataB : AB → Prop
  | .cells cs => ∀ c ∈ cs, noLoc c = true
  | _ => True
def fresh (k : Nat) : List (Nat × Bool) → Bool
  | [] => true
  | (j, _) :: r => !Nat.beq j k && fresh k r
def distinct : List (Nat × Bool) → Bool
  | [] => true
  | (k, _) :: r => fresh k r && distinct r
/-- The first n stay where they are; none is kept twice. -/
def gcOk (n : Nat) (keep : List (Nat × Bool)) : Bool := distinct keep && (go n keep 0)
where
  go : Nat → List (Nat × Bool) → Nat → Bool
    | 0, _, _ => true
    | _ + 1, [], _ => false
    | n + 1, (k, _) :: r, i => Nat.beq k i && go n r (i + 1)
def allData (H : Heap) : List (Nat × Bool) → Prop
  | [] => True
  | (k, true) :: r => dataB (H.get k) ∧ allData H r
  | (_, false) :: r => allData H r

theorem posOf_go : ∀ (keep : List (Nat × Bool)) (k i j : Nat), posOf.go k keep i = some j → ∃ m d, j = i + m ∧ keep[m]? = some (k, d)
  | [], k, i, j, h => by simp [posOf.go] at h
  | (q, d) :: r, k, i, j, h => by
    simp only [posOf.go] at h
    by_cases hq : q = k
    · subst hq; simp at h; exact ⟨0, d, by omega, rfl⟩
    · rw [beq_false hq] at h
      obtain ⟨m, d', h1, h2⟩ := posOf_go r k (i + 1) j (by simpa using h)
      exact ⟨m + 1, d', by omega, by simpa using h2⟩
theorem gcB_get (f : Nat → Option Nat) (H : Heap) : ∀ (keep : List (Nat × Bool)) (i j : Nat), (j < i → bget (gcB f H keep i) j = .dead) ∧ (∀ m, j = i + m → bget (gcB f H keep i) j = match keep[m]? with | some (k, d) => (bif d then H.get k else renB f (H.get k)) | none => .dead)
  | [], i, j => ⟨fun _ => rfl, fun m _ => by simp [gcB, bget]⟩
  | (k, d) :: r, i, j => by
    obtain ⟨h1, h2⟩ := gcB_get f H r (i + 1) j
    refine ⟨fun h => ?_, fun m hm => ?_⟩
    · simp only [gcB, bget]; rw [beq_false (by omega)]; exact h1 (by omega)
    · simp only [gcB, bget]
      cases m with
      | zero => subst hm; simp
      | succ m => rw [beq_false (by omega)]; simpa using h2 m (by omega)
theorem gcH_get (keep : List (Nat × Bool)) (H : Heap) (j : Nat) : (gcH keep H).get j = match keep[j]? with | some (k, d) => (bif d then H.get k else renB (posOf keep) (H.get k)) | none => .dead :=
  (gcB_get _ H keep 0 j).2 j (by omega)
theorem fresh_spec {k : Nat} : ∀ {keep : List (Nat × Bool)}, fresh k keep = true → ∀ j d, (j, d) ∈ keep → j ≠ k
  | [], _, j, d, h => by simp at h
  | (q, e) :: r, hf, j, d, h => by
    simp only [fresh, Bool.and_eq_true, Bool.not_eq_true'] at hf
    rcases List.mem_cons.1 h with h | h
    · simp only [Prod.mk.injEq] at h; obtain ⟨rfl, rfl⟩ := h
      intro e; subst e; simp at hf
    · exact fresh_spec hf.2 j d h
theorem distinct_spec : ∀ {keep : List (Nat × Bool)}, distinct keep = true → ∀ (i j k : Nat) (d e : Bool), keep[i]? = some (k, d) → keep[j]? = some (k, e) → i = j
  | [], _, i, j, k, d, e, h, _ => by simp at h
  | (q, x) :: r, hd, i, j, k, d, e, hi, hj => by
    simp only [distinct, Bool.and_eq_true] at hd
    cases i with
    | zero =>
      cases j with
      | zero => rfl
      | succ j =>
        simp at hi hj
        obtain ⟨rfl, rfl⟩ := hi
        exact absurd rfl (fresh_spec hd.1 q e (List.mem_of_getElem? hj))
    | succ i =>
      cases j with
      | zero =>
        simp at hi hj
        obtain ⟨rfl, rfl⟩ := hj
        exact absurd rfl (fresh_spec hd.1 q d (List.mem_of_getElem? hi))
      | succ j =>
        simp at hi hj
        rw [distinct_spec hd.2 i j k d e hi hj]
theorem gcOk_go : ∀ {n : Nat} {keep : List (Nat × Bool)} {i : Nat}, gcOk.go n keep i = true → n ≤ keep.length ∧ ∀ m, m < n → ∃ d, keep[m]? = some (i + m, d)
  | 0, _, _, _ => ⟨Nat.zero_le _, fun m h => by omega⟩
  | _ + 1, [], _, h => by simp [gcOk.go] at h
  | n + 1, (k, d) :: r, i, h => by
    simp only [gcOk.go, Bool.and_eq_true] at h
    obtain ⟨h1, h2⟩ := gcOk_go h.2
    have hk : k = i := Nat.eq_of_beq_eq_true h.1
    refine ⟨by simp; omega, fun m hm => ?_⟩
    cases m with
    | zero => exact ⟨d, by simp [hk]⟩
    | succ m => obtain ⟨d', h3⟩ := h2 m (by omega); exact ⟨d', by rw [List.getElem?_cons_succ, h3]; congr 2; omega⟩
theorem allData_spec {H : Heap} : ∀ {keep : List (Nat × Bool)}, allData H keep → ∀ (k : Nat), (k, true) ∈ keep → dataB (H.get k)
  | [], _, k, h => by simp at h
  | (q, true) :: r, ha, k, h => by
    rcases List.mem_cons.1 h with h | h
    · simp at h; subst h; exact ha.1
    · exact allData_spec ha.2 k h
  | (q, false) :: r, ha, k, h => by
    rcases List.mem_cons.1 h with h | h
    · simp at h
    · exact allData_spec (keep := r) ha k h

/-- **What is not kept is let go; the rest gets new numbers.** -/
theorem Into.gc {n : Nat} {fr : Fr} {H : Heap} (keep : List (Nat × Bool)) (slots : List Nat) (hok : gcOk n keep = true) (hdata : allData H keep) : Into n fr H (gcF keep fr slots) (gcH keep H) := by
  intro N M μ w tmps R F hn
  simp only [gcOk, Bool.and_eq_true] at hok
  obtain ⟨hdis, hpin⟩ := hok
  obtain ⟨hlen, hpin⟩ := gcOk_go hpin
  let μ' : Pos := fun j => (keep[j]?).bind fun x => μ x.1
  have hμ' : ∀ (j k : Nat) (d : Bool), keep[j]? = some (k, d) → ∀ x, μ k = some x → μ' j = some x := by
    intro j k d hj x hx
    simp only [μ', hj, Option.bind_some, hx]
  have hμ2 : ∀ (j k : Nat) (d : Bool), keep[j]? = some (k, d) → ∀ x, μ' j = some x → μ k = some x := by
    intro j k d hj x hx
    simpa only [μ', hj, Option.bind_some] using hx
  have hf : ∀ k j x, posOf keep k = some j → μ k = some x → μ' j = some x := by
    intro k j x hj hx
    obtain ⟨m, d, h1, h2⟩ := posOf_go keep k 0 j hj
    exact hμ' j k d (by rw [h1, Nat.zero_add]; exact h2) x hx
  have alive : ∀ j, (gcH keep H).get j ≠ .dead → ∃ k d, keep[j]? = some (k, d) ∧ H.get k ≠ .dead := by
    intro j hj
    rw [gcH_get] at hj
    cases hk : keep[j]? with
    | none => rw [hk] at hj; exact absurd rfl hj
    | some x =>
      obtain ⟨k, d⟩ := x
      refine ⟨k, d, rfl, fun h => hj ?_⟩
      simp only [hk, h, renB]; cases d <;> rfl
  have own : ∀ b, Own μ' (gcH keep H) b → Own μ H b := by
    rintro b ⟨j, s, hj, hx⟩
    obtain ⟨k, d, h1, h2⟩ := alive j hj
    exact ⟨k, s, h2, hμ2 j k d h1 _ hx⟩
  refine ⟨M, μ', ⟨fun j hj => ?_, fun j hj => ?_, fun j cs hj => ?_, fun j es hj => ?_, fun i j b s t hi hj hx hy => ?_, R.imm, fun j b s hj hx o => ?_⟩, ⟨F.size, fun t => ?_⟩, by simp [gcH]; omega,
    ⟨Mem.le_refl _, fun k hk => ?_, Keep.refl _ _, fun b hb => .inl (own b hb), fun _ _ _ h => .inl h⟩⟩
  · simp only [μ', List.getElem?_eq_none (show keep.length ≤ j from hj), Option.bind_none]
  · rw [gcH_get, List.getElem?_eq_none (by simpa [gcH] using hj)]
  · rw [gcH_get] at hj
    cases hk : keep[j]? with
    | none => rw [hk] at hj; cases hj
    | some x =>
      obtain ⟨k, d⟩ := x
      rw [hk] at hj
      cases d with
      | true =>
        simp only [cond_true] at hj
        obtain ⟨b, sz, c, el, fz, h1, h2, h3, h4, h5⟩ := R.cells k cs hj
        refine ⟨b, sz, c, el, fz, hμ' j k true hk _ h1, h2, h3, h4, relP_data cs ?_ h5⟩
        have := allData_spec hdata k (List.mem_of_getElem? hk)
        rw [hj] at this; exact this
      | false =>
        simp only [cond_false] at hj
        cases hg : H.get k with
        | cells ds =>
          rw [hg] at hj; simp only [renB, AB.cells.injEq] at hj; subst hj
          obtain ⟨b, sz, c, el, fz, h1, h2, h3, h4, h5⟩ := R.cells k ds hg
          exact ⟨b, sz, c, el, fz, hμ' j k false hk _ h1, h2, h3, h4, relP_ren hf ds h5⟩
        | dead => rw [hg] at hj; simp [renB] at hj
        | map es => rw [hg] at hj; simp [renB] at hj
  · rw [gcH_get] at hj
    cases hk : keep[j]? with
    | none => rw [hk] at hj; cases hj
    | some x =>
      obtain ⟨k, d⟩ := x
      rw [hk] at hj
      have hg : H.get k = .map es := by
        cases d with
        | true => simpa using hj
        | false =>
          have hj : renB (posOf keep) (H.get k) = .map es := hj
          cases hg : H.get k with
          | dead => rw [hg] at hj; cases hj
          | cells cs => rw [hg] at hj; cases hj
          | map es' => rw [hg] at hj; exact hj
      obtain ⟨b, sz, ents, clock, h1, h2⟩ := R.maps k es hg
      exact ⟨b, sz, ents, clock, hμ' j k d hk _ h1, h2⟩
  · obtain ⟨k, d, h1, h2⟩ := alive i hi
    obtain ⟨k', d', h3, h4⟩ := alive j hj
    have := R.inj k k' b s t h2 h4 (hμ2 i k d h1 _ hx) (hμ2 j k' d' h3 _ hy)
    subst this
    exact distinct_spec hdis i j k d d' h1 h3
  · obtain ⟨k, d, h1, h2⟩ := alive j hj
    exact R.apart k b s h2 (hμ2 j k d h1 _ hx) o
  · have key : ∀ (sl : List Nat), relV M (look (gcF keep fr sl) t) μ' (tmps.getD t undef) := by
      intro sl
      induction sl with
      | nil => simp [gcF, look, relV]
      | cons q r ih =>
        simp only [gcF, look]
        by_cases hq : q = t
        · subst hq; simpa using relV_ren hf _ (F.slot q)
        · rw [beq_false hq]; exact ih
    exact key slots
  · obtain ⟨d, h1⟩ := hpin k hk
    rw [Nat.zero_add] at h1
    simp only [μ', h1, Option.bind_some]

theorem To.gc {n : Nat} {fr : Fr} {H : Heap} {J : Fr → Heap → Prop} (keep : List (Nat × Bool)) (slots : List Nat) (hok : gcOk n keep = true) (hdata : allData H keep) (h : J (gcF keep fr slots) (gcH keep H)) : To n fr H J :=
  ⟨_, _, Into.gc keep slots hok hdata, h⟩
theorem RetA.gc {n : Nat} {K : AV → Heap → Prop} {v : AV} {H : Heap} (keep : List (Nat × Bool)) (hok : gcOk n keep = true) (hdata : allData H keep) (h : K (ren (posOf keep) v) (gcH keep H)) : RetA n K v H :=
  ⟨_, _, Into.gc keep [0] hok hdata, h⟩

mutual
theorem ren_data (f : Nat → Option Nat) : ∀ (c : AV), noLoc c = true → ren f c = c
  | .any, _ | .bool _, _ | .int _ _, _ | .str _, _ | .nilp, _ | .dptr _, _ | .nils, _ | .dslice _ _ _, _ | .nilm, _ | .nilf, _ => by simp only [ren]
  | .ptr _ _, h | .slice _ _ _ _ _, h | .map _, h => by simp [noLoc] at h
  | .func g cs, h => by simp only [noLoc] at h; simp only [ren, renL_data f cs h]
  | .agg cs, h => by simp only [noLoc] at h; simp only [ren, renL_data f cs h]
  | .tuple cs, h => by simp only [noLoc] at h; simp only [ren, renL_data f cs h]
theorem renL_data (f : Nat → Option Nat) : ∀ (cs : List AV), noLocL cs = true → renL f cs = cs
  | [], _ => by simp only [renL]
  | c :: cs, h => by simp only [noLocL, Bool.and_eq_true] at h; simp only [renL, ren_data f c h.1, renL_data f cs h.2]
end

/-- A result without places of the heap: nothing is kept. -/
theorem RetA.data {K : AV → Heap → Prop} {v : AV} {H : Heap} (hv : noLoc v = true) (h : K v Heap.nil) : RetA 0 K v H :=
  RetA.gc [] rfl trivial (by rw [ren_data _ v hv]; exact h)

end Go.Eng

