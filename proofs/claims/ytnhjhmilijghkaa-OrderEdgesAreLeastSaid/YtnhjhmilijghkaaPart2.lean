/- Part of a proof about the given program: lemmas that the other parts use. -/
import Derived.Laws.MakeOwn
import Derived.Laws.BytesString
import Derived.Test.YtnhjhmilijghkaaPart1
import Derived.Deep.AppendSrc
import Derived.Deep.DeepAppendWide
import Derived.MapKept
import Derived.Carry
import Derived.WideKeyRuns
import Derived.Maps.RangeRun

set_option linter.all false
set_option linter.unusedSimpArgs false
set_option linter.unusedVariables false
namespace Go.Eng
open Go

variable [Globs]
/-! ### Slices that are made, appended to, cut -/
/-- Data is made, or looked at; what is owned stays as it is. -/
inductive DOp where
  | bslice (e len : Nat) (zero : List AV) (parts : List (Nat × AX))
  | append (e bytes : Nat) (s x : AX)
  | asub (e n : Nat) (x : AX) (lo hi : Option AX)
  | sl2s (x : AX)
/-- A block is laid (and another one let go). -/
inductive LOp where
  | bslice (e len : Nat) (zero : List AV) (parts : List (Nat × AX))
  | append (e bytes : Nat) (s x : AX)
  | make (e bytes : Nat) (zero : List AV) (n : AX)
  | appendS (bytes : Nat) (s x : AX)
  | appendF (e bytes : Nat) (s x : AX)

/-- A string's bytes, as cells. -/
def strCells (s : ByteArray) : List AV := s.data.toList.map fun b => AV.int .u8 b.toNat
theorem strCells_rel {M : Mem} {μ : Pos} (s : ByteArray) : relL M (strCells s) μ (byteCells s) := by
  unfold strCells byteCells
  induction s.data.toList with
  | nil => simp [relL]
  | cons b r ih => simp only [List.map_cons, relL, relV]; exact ⟨_, _, rfl, rfl, ih⟩
theorem strCells_len (s : ByteArray) : (strCells s).length = s.size := by unfold strCells; rw [List.length_map, Array.length_toList]; rfl
def strD : AV → AV
  | .str s => .dslice (strCells s) s.size none
  | _ => .any
/-- What is appended: its cells, and how many elements. -/
def srcK (η : Nat → AB) (e : Nat) (x : AV) (K : List AV → Nat → Prop) : Prop := match x with
  | .dslice cs n _ => Side (n * e ≤ cs.length) (K (cs.take (n * e)) n)
  | .nils => K [] 0
  | .slice k off n _ _ => match η k with
    | .cells cs => Side (off + n * e ≤ cs.length) (K ((cs.drop off).take (n * e)) n)
    | _ => False
  | _ => False
def rep (zero : List AV) : Nat → List AV
  | 0 => []
  | n + 1 => zero ++ rep zero n
def fits (n bytes : Nat) : Prop := (n + n / 4 + 192) * bytes ≤ 281474976710656

def noLocB : List AV → Bool
  | [] => true
  | c :: cs => (match c with | .ptr _ _ | .slice _ _ _ _ _ | .map _ | .func _ _ | .agg _ | .tuple _ | .yld _ => false | _ => true) && noLocB cs
/-- Bytes, read as a string's. -/
def bytesOf : List AV → Option (List Int)
  | [] => some []
  | .int .u8 n :: r => match bytesOf r with
    | some l => some (n :: l)
    | none => none
  | _ :: _ => none
def toBytes (l : List Int) : ByteArray := l.foldl (fun r n => r.push (UInt8.ofNat n.toNat)) ByteArray.empty
structure BRes (r : Option (List Int)) (K : ByteArray → Prop) : Prop where
  ex : ∃ l, r = some l ∧ K (toBytes l)
theorem BRes.det {r : Option (List Int)} {K : ByteArray → Prop} (h : BRes r K) : ∃ l, K l ∧ BRes r (fun x => x = l) := by
  obtain ⟨l, h1, h2⟩ := h.ex
  exact ⟨_, h2, ⟨l, h1, rfl⟩⟩
theorem bytesOf_rel {M : Mem} {μ : Pos} : ∀ {cs : List AV} {l : List Int} {vs : List Value}, bytesOf cs = some l → relL M cs μ vs → vs = l.map (Value.int .u8)
  | [], l, vs, h, hr => by
    simp only [bytesOf, Option.some.injEq] at h; subst h
    simpa [relL] using hr
  | c :: cs, l, vs, h, hr => by
    simp only [relL] at hr
    obtain ⟨v, r, rfl, h1, h2⟩ := hr
    unfold bytesOf at h
    split at h
    · rename_i hh; cases hh
    · rename_i n r' hh
      cases hh
      split at h
      · rename_i l' hl
        cases h
        simp only [relV] at h1
        rw [bytesOf_rel hl h2, h1]; rfl
      · cases h
    · cases h
def DOp.run (ev : AX → AV) (η : Nat → AB) (K : AV → Prop) : DOp → Prop
  | .bslice e len zero parts => buildK ev (parts.map fun x => (x.1, e, x.2)) (rep zero len) fun cs => bif noLocB cs then K (.dslice cs len (some len)) else False
  | .append e bytes s x => match ev s, ev x with
    | .dslice cs len cap, .dslice ds n _ => Side (cap = some len ∧ len * e ≤ cs.length ∧ n * e ≤ ds.length ∧ fits (len + n) bytes ∧ ∀ c ∈ ds.take (n * e), scal c = true) (K (.dslice (cs.take (len * e) ++ ds.take (n * e)) (len + n) none))
    | .dslice cs len cap, .nils => Side (cap = some len) (K (.dslice cs len none))
    | .nils, .dslice ds n _ => Side (n * e ≤ ds.length ∧ fits n bytes ∧ ∀ c ∈ ds.take (n * e), scal c = true) (K (.dslice (ds.take (n * e)) n none))
    | _, _ => False
  | .asub e n x lo hi => match ev x with
    | .ptr k off => match η k with
      | .cells cs => optI ev 0 lo fun l => optI ev n hi fun h => Side (0 ≤ l ∧ l < n ∧ l ≤ h ∧ h ≤ n ∧ off + n * e ≤ cs.length) (K (.slice k (off + l.toNat * e) (h - l).toNat (some (n - l.toNat)) e))
      | _ => False
    | .dptr cs => optI ev 0 lo fun l => optI ev n hi fun h => Side (0 ≤ l ∧ l ≤ h ∧ h ≤ n) (K (.dslice ((cs.drop (l.toNat * e)).take ((h - l).toNat * e)) (h - l).toNat (some (n - l.toNat))))
    | _ => False
  | .sl2s x => srcK η 1 (ev x) fun ds _ => BRes (bytesOf ds) fun s => K (.str s)

def okBslice (P : Program) (t : TypeId) (n : Nat) (ps : List (Nat × Operand)) (e len : Nat) (zero : List AV) (parts : List (Nat × AX)) : Bool := n == len && decide (0 < e) && decide (len * e ≤ 16777216) && zero.length == e && (match P.underlying t with
  | some (.slice el) => sized P el e && zeroOk P el zero && okParts P (fun i => some (i * e, e)) ps (parts.map fun x => (x.1, e, x.2))
  | _ => false)
def okAppendQ (P : Program) (q : TypeId → Bool) (ts : List TypeId) (e bytes : Nat) : Bool := match ts with
  | [t, tx] => q tx && (match P.underlying t with
    | some (.slice el) => match P.info? el with
      | some i => i.size == e && i.bytes == bytes && (match i.zero with | some z => z.cells.size == e | none => false)
      | none => false
    | _ => false)
  | _ => false
abbrev okAppend (P : Program) (ts : List TypeId) (e bytes : Nat) : Bool := okAppendQ P (isSlice P) ts e bytes
def okAsub (P : Program) (t : TypeId) (e n : Nat) : Bool := match P.underlying t with
  | some (.array m el) => m == n && sized P el e
  | some (.pointer arr) => match P.underlying arr with
    | some (.array m el) => m == n && sized P el e
    | _ => false
  | _ => false
def byteSl (P : Program) (t : TypeId) : Bool := match P.underlying t with
  | some (.slice e) => (match P.underlying e with
    | some (.int .u8) => true
    | _ => false)
  | _ => false
def okD (P : Program) : Op → DOp → Bool
  | .buildSlice t n ps, .bslice e len zero parts => okBslice P t n ps.toList e len zero parts
  | .call c, .append e bytes s x => (match bcall c .append with
    | some ([s', x'], ts) => okAppend P ts e bytes && Nat.blt 0 bytes && okX s' s && okX x' x
    | _ => false)
  | .slice t x lo hi none, .asub e n x' lo' hi' => okAsub P t e n && okX x x' && okOptX lo lo' && okOptX hi hi'
  | .convert src dst x, .sl2s x' => byteSl P src && isStr P dst && okX x x'
  | _, _ => false
def okMake (P : Program) (t : TypeId) (e bytes : Nat) (zero : List AV) : Bool := match P.underlying t with
  | some (.slice el) => (match P.info? el with
    | some i => i.size == e && i.bytes == bytes && zero.length == e && (match i.zero with
      | some z => okVs z.cells.toList zero
      | none => false)
    | none => false)
  | _ => false
def okL (P : Program) : Op → LOp → Bool
  | .buildSlice t n ps, .bslice e len zero parts => okBslice P t n ps.toList e len zero parts
  | .call c, .append e bytes s x => (match bcall c .append with
    | some ([s', x'], ts) => okAppend P ts e bytes && Nat.blt 0 bytes && okX s' s && okX x' x
    | _ => false)
  | .call c, .appendS bytes s x => (match bcall c .append with
    | some ([s', x'], ts) => okAppendQ P (isStr P) ts 1 bytes && Nat.blt 0 bytes && okX s' s && okX x' x
    | _ => false)
  | .call c, .appendF e bytes s x => (match bcall c .append with
    | some ([s', x'], ts) => okAppend P ts e bytes && Nat.blt 0 bytes && okX s' s && okX x' x
    | _ => false)
  | .makeSlice t l c, .make e bytes zero n => okMake P t e bytes zero && okX l n && okX c n
  | _, _ => false

section
variable {P : Program} {N : Nat} {M : Mem} {μ : Pos} {H : Heap} {fr : Fr} {a : Act} {w : World} {K : AV → Heap → Prop}

/-- A new block of data. -/
def Mem.with (M : Mem) (b : Nat) (c : Array Value) : Mem := fun b' o => if b' = b then c[o]? else M b' o
theorem Rel.data (R : Rel M μ H w) (c : Array Value) (el : TypeId) : Rel (M.with w.heap.size c) μ H (w.alloc (.cells c el)) ∧ Move M μ H w (M.with w.heap.size c) μ H (w.alloc (.cells c el)) := by
  have hle : Mem.le M (M.with w.heap.size c) := fun b o v h => by
    have := R.cell_lt h
    simp only [Mem.with]; rw [if_neg (by omega)]; exact h
  have own : ∀ {j b s}, H.get j ≠ .dead → μ j = some (b, s) → b < w.heap.size := fun hj hx => R.own_lt ⟨_, _, hj, hx⟩
  refine ⟨⟨R.glob.mono hle, R.dom, R.top, fun j ds hj => ?_, fun j es hj => ?_, R.walks_same hle (fun _ _ _ _ h => ⟨h, fun h => h⟩) (Pos.le_refl _) (fun x hx _ => alloc_heap_lt w _ hx), R.recs_same hle (fun _ _ _ _ h => h) (Pos.le_refl _) (fun x hx _ => alloc_heap_lt w _ hx), R.inj, fun x o v hv => ?_, fun j x s hj hx o => ?_⟩, ⟨Pos.le_refl _, ⟨hle, fun _ _ => rfl, ⟨rfl, rfl, rfl, by simp, fun x hx _ => alloc_heap_lt w _ hx⟩, fun x hx => .inl hx, fun b o v h => ?_⟩, Nat.le_refl _⟩⟩
  · obtain ⟨b', s', d, el', fz', h1, h2, h3, h4, h5⟩ := R.cells j ds hj
    exact ⟨b', s', d, el', fz', h1, by rw [alloc_heap_lt w _ (own (by rw [hj]; simp) h1)]; exact h2, h3, h4, relP_mono hle (Pos.le_refl _) _ h5⟩
  · obtain ⟨b', s', ents, clock, h1, h2, h3, h4⟩ := R.maps j es hj
    refine ⟨b', s', ents, clock, h1, by rw [alloc_heap_lt w _ (own (by rw [hj]; simp) h1)]; exact h2, ?_, h4⟩
    have : ∀ {es : List (AV × AV)} {ents : List MapEntry}, relE M es ents → relE (M.with w.heap.size c) es ents := by
      intro es
      induction es with
      | nil => intro ents h; exact h
      | cons x r ih => intro ents h; obtain ⟨e, t, h1, h2, h3, h4⟩ := h; exact ⟨e, t, h1, relV_mono hle _ (Pos.le_refl _) h2, relV_mono hle _ (Pos.le_refl _) h3, ih h4⟩
    exact this h3
  · simp only [Mem.with] at hv
    split at hv
    · subst_vars; simpa using hv
    · rw [World.cell?_alloc_lt w _ ⟨x, o, none⟩ (R.cell_lt hv)]; exact R.imm x o v hv
  · have := own hj hx
    simp only [Mem.with]; rw [if_neg (by omega)]; exact R.apart j x s hj hx o
  · simp only [Mem.with] at h
    split at h
    · subst_vars; exact .inr (.inr (Nat.le_refl _))
    · exact .inl h
theorem relM_with {cs : List AV} {c : Array Value} {b : Nat} (hle : Mem.le M (M.with b c)) (h : relP M Pos.none cs c.toList) : relM (M.with b c) cs b 0 :=
  relM_of_get fun i d hi => by
    obtain ⟨v, hv, hr⟩ := relP_get h hi
    exact ⟨v, by simp only [Mem.with, if_true, Nat.zero_add]; simpa using hv, relV_mono hle _ (Pos.le_refl _) hr⟩

/-- A draw changes nothing of what is held. -/
theorem Rel.drew (R : Rel M μ H w) : Rel M μ H w.drew := ⟨R.glob, R.dom, R.top, R.cells, R.maps, R.iters, R.loops, R.inj, R.imm, R.apart⟩
theorem Move.of_drew {M' : Mem} {μ' : Pos} {H' : Heap} {w' : World} (G : Move M μ H w.drew M' μ' H' w') : Move M μ H w M' μ' H' w' :=
  ⟨G.le, ⟨G.grow.mem, G.grow.pin, ⟨G.grow.keep.os, G.grow.keep.tape, G.grow.keep.output, G.grow.keep.size, G.grow.keep.block⟩, G.grow.own, G.grow.fresh⟩, G.nx⟩

theorem rep_length {zero : List AV} {e : Nat} (h : zero.length = e) : ∀ n, (rep zero n).length = n * e
  | 0 => by simp [rep]
  | n + 1 => by simp [rep, rep_length h n, h, Nat.add_mul, Nat.add_comm]
theorem rep_get {zero : List AV} {e : Nat} (h : zero.length = e) : ∀ (n i : Nat), i < n * e → (rep zero n)[i]? = zero[i % e]?
  | 0, i, hi => by simp at hi
  | n + 1, i, hi => by
    simp only [rep]
    by_cases hlt : i < e
    · rw [List.getElem?_append_left (by omega), Nat.mod_eq_of_lt hlt]
    · rw [List.getElem?_append_right (by omega), h, rep_get h n (i - e) (by rw [Nat.add_mul] at hi; omega)]
      congr 1
      rw [← Nat.mod_eq_sub_mod (by omega)]

theorem zeros_rel {zero : List AV} {z : Array Value} {e len : Nat} (hz : relL M zero μ z.toList) (he : zero.length = e) (h0 : 0 < e) : relL M (rep zero len) μ ((Array.range (len * e)).map (z[· % z.size]!)).toList := by
  have hsz : z.size = e := by have := relL_length hz; simp at this; omega
  refine relL_of_get (by simp [rep_length he]) fun i c hi => ?_
  have hi' : i < len * e := by
    rcases Nat.lt_or_ge i (len * e) with h | h
    · exact h
    · rw [List.getElem?_eq_none (by rw [rep_length he]; exact h)] at hi; cases hi
  rw [rep_get he len i hi'] at hi
  obtain ⟨v, hv, hr⟩ := relL_get hz hi
  refine ⟨v, ?_, hr⟩
  have hm : i % e < z.size := by rw [hsz]; exact Nat.mod_lt _ h0
  have hv' : z[i % e] = v := by
    have : z[i % e]? = some v := by simpa using hv
    rw [Array.getElem?_eq_getElem hm] at this
    simpa using this
  simp [hi', hsz]
  rw [getElem!_pos z (i % e) hm, hv']

theorem foldl_size (off : Nat) : ∀ (l : List (Value × Nat)) (vs : Array Value), (l.foldl (fun cs x => cs.setIfInBounds (off + x.2) x.1) vs).size = vs.size
  | [], vs => rfl
  | x :: l, vs => by simp only [List.foldl_cons]; rw [foldl_size off l]; simp
theorem fill_size {place : Nat → Option (Nat × Nat)} : ∀ {l : List (Nat × Value)} {vs us : Array Value}, Instr.fill place vs l = some us → us.size = vs.size
  | [], vs, us, h => by simp only [Instr.fill, Option.some.injEq] at h; rw [h]
  | (i, v) :: l, vs, us, h => by
    simp only [Instr.fill] at h
    split at h
    · cases h
    · split at h
      · cases h
      · rw [fill_size h, ← Array.foldl_toList, foldl_size]
theorem sound_bs {t : TypeId} {n : Nat} {ps : Array (Nat × Operand)} {e len : Nat} {zero : List AV} {parts : List (Nat × AX)} {o : Oper} (ho : o.op = .buildSlice t n ps) (h : okBslice P t n ps.toList e len zero parts = true) (F : RelF N M μ fr a.tmps) {K : List AV → Prop}
    (hr : buildK (AX.ev fr) (parts.map fun x => (x.1, e, x.2)) (rep zero len) K) (w : World) :
    ∃ us ds el, (execOp a.eval o).run P w = .ok (.value (.slice (some ⟨w.heap.size, 0, none⟩) len len)) (w.alloc (.cells us el)) ∧ relL M ds μ us.toList ∧ us.size = len * e ∧ K ds := by
  simp only [okBslice, Bool.and_eq_true, beq_iff_eq, decide_eq_true_eq] at h
  obtain ⟨⟨⟨⟨rfl, h0⟩, hbig⟩, hzl⟩, h⟩ := h
  split at h
  · rename_i el hu
    simp only [Bool.and_eq_true] at h
    obtain ⟨⟨hs, hz⟩, hp⟩ := h
    unfold zeroOk at hz
    split at hz
    · rename_i ti hti
      split at hz
      · rename_i z hzz
        have hlz : relL M zero μ z.cells.toList := rel_okVs hz
        have hmap : (ps.map fun x => (x.1, a.eval x.2)).toList = ps.toList.map fun x => (x.1, a.eval x.2) := by simp
        obtain ⟨us, ds, q1, q2, q3⟩ := fill_run F hp (zeros_rel (len := n) hlz hzl h0) hr
        have husz : us.size = n * e := by
          rw [fill_size q1]; simp
        refine ⟨us, ds, el, ?_, q2, husz, q3⟩
        have hnb : ¬ n * e > 2 ^ 24 := by omega
        by_cases hn : n * e = 0
        · have hz0 : (Array.range (n * e)).map (z.cells[· % z.cells.size]!) = (Array.range (n * e)).map ((#[] : Array Value)[· % (#[] : Array Value).size]!) := by rw [hn]; simp
          rw [hz0] at q1
          simp only [execOp, ho, Instr.buildSlice, Sem.run_bind, run_underlying hu, Result.andThen_ok, run_sizeOf hs, hn, if_true, Sem.run_pure, hmap]
          rw [hn] at q1
          simp only [Sem.run_ite, Sem.run_pure, Result.andThen_ok, q1, newRow, run_newObj, Sem.run_bind]
          first | done | rfl
        · simp only [execOp, ho, Instr.buildSlice, Sem.run_bind, run_underlying hu, Result.andThen_ok, run_sizeOf hs, if_neg hnb, hn, if_false, Sem.run_pure, hmap, zeroValue, run_typeInfo hti, hzz, q1, newRow, run_newObj]
          rfl
      · cases hz
    · cases hz
  · cases h

theorem noLocB_spec : ∀ {cs : List AV}, noLocB cs = true → ∀ {μ μ' : Pos} {vs : List Value}, relL M cs μ vs → relL M cs μ' vs
  | [], _, _, _, _, h => by simpa only [relL] using h
  | c :: cs, hn, μ, μ', vs, h => by
    simp only [noLocB, Bool.and_eq_true] at hn
    simp only [relL] at *
    obtain ⟨v, r, h1, h2, h3⟩ := h
    refine ⟨v, r, h1, ?_, noLocB_spec hn.2 h3⟩
    cases c <;> first | (simp at hn; done) | (simp only [relV] at h2 ⊢; first | done | exact h2)

/-- What an appended slice yields. -/
theorem srcK_spec (R : Rel M μ H w) {e : Nat} {x : AV} {u : Value} (hx : relV M x μ u) {tx : TypeId} (ht : isSlice P tx = true) {K : List AV → Nat → Prop} (hk : srcK H.get e x K) :
    ∃ ds n, K ds n ∧ ds.length = n * e ∧ ∃ news, relL M ds μ news ∧ ((∀ v ∈ news, v.oneCell' = true) → Src P e tx u n news w) := by
  obtain ⟨et, htx⟩ := isSlice_spec ht
  unfold srcK at hk
  split at hk
  · rename_i cs n cap
    simp only [relV] at hx
    rcases hx with ⟨b, q, c, rfl, _, _, hm⟩ | ⟨rfl, rfl, rfl, _⟩ | ⟨b, q, s, c, rfl, rfl, rfl, _⟩
    · obtain ⟨vs, h1, h2, h3⟩ := relM_cells R hm (n * e) hk.l
      exact ⟨_, n, hk.r, by rw [List.length_take]; have := hk.l; omega, vs, h2, fun h1' => Src.ofSlice w htx _ n c vs h1 h3 h1'⟩
    · exact ⟨_, 0, hk.r, by simp, [], by simp [relL], fun _ => Src.ofNil w htx 0⟩
    · exact ⟨_, 0, hk.r, by simp, [], by simp [relL], fun h1' => Src.ofSlice w htx _ 0 c [] (by simp) (fun j u h => by simp at h) h1'⟩
  · simp only [relV] at hx
    subst hx
    exact ⟨[], 0, hk, by simp, [], by simp [relL], fun _ => Src.ofNil w htx 0⟩
  · rename_i k off n cap e'
    simp only [relV] at hx
    obtain ⟨b, sz, c, hμ, rfl, _⟩ := hx
    split at hk
    · rename_i cs hcs
      obtain ⟨vs, h1, h2, h3⟩ := cells_cells R hcs hμ (n * e) hk.l
      exact ⟨_, n, hk.r, by rw [List.length_take, List.length_drop]; have := hk.l; omega, vs, h2, fun h1' => Src.ofSlice w htx _ n c vs h1 h3 h1'⟩
    · exact hk.elim
  · exact hk.elim

theorem okAppend_spec {q0 : TypeId → Bool} {ts : List TypeId} {e bytes : Nat} (h : okAppendQ P q0 ts e bytes = true) : ∃ t tx el i z, ts = [t, tx] ∧ q0 tx = true ∧ P.underlying t = some (.slice el) ∧ P.info? el = some i ∧ i.size = e ∧ i.bytes = bytes ∧ i.zero = some z ∧ z.cells.size = e := by
  unfold okAppendQ at h
  split at h
  · rename_i t tx
    simp only [Bool.and_eq_true] at h
    obtain ⟨h1, h2⟩ := h
    split at h2
    · rename_i el hu
      split at h2
      · rename_i i hi
        simp only [Bool.and_eq_true, beq_iff_eq] at h2
        obtain ⟨⟨h3, h4⟩, h5⟩ := h2
        split at h5
        · rename_i z hz
          exact ⟨t, tx, el, i, z, rfl, h1, hu, hi, h3, h4, hz, by simpa using h5⟩
        · cases h5
      · cases h2
    · cases h2
  · cases h

/-- The arm that makes a new array. -/
theorem append_grow {q0 : TypeId → Bool} {ts : List TypeId} {e bytes : Nat} (h : okAppendQ P q0 ts e bytes = true) {base : Option Addr} {len cap n : Nat} {olds news : List Value} {x : Value} (hold : (Builtin.firstCells e len (.slice base len cap)).run P w.drew = .ok olds.toArray w.drew)
    (hsrc : ∀ tx, q0 tx = true → Src P e tx x n news w) (hg : cap < len + n) (hf : fits (len + n) bytes) (hb : 0 < bytes ∨ len + n ≤ 9223372036854775807) (ty : TypeId) :
    ∃ zs el nc, (Builtin.append_ ts.toArray ty #[.slice base len cap, x]).run P w = .ok (.slice (some ⟨w.heap.size, 0, none⟩) (len + n) nc) (w.drew.alloc (.cells ((olds ++ news).toArray ++ zs) el)) ∧ len + n ≤ nc ∧ (olds.length = len * e → nc * e ≤ ((olds ++ news).toArray ++ zs).size) := by
  obtain ⟨t, tx, el, i, z, rfl, h1, hu, hi, rfl, rfl, hz, hzs⟩ := okAppend_spec h
  have h63 : ((len + n : Nat) : Int) ≤ 9223372036854775807 := by
    rcases hb with hb | hb
    · unfold fits at hf
      have : (len + n + (len + n) / 4 + 192) * 1 ≤ (len + n + (len + n) / 4 + 192) * i.bytes := Nat.mul_le_mul_left _ hb
      omega
    · omega
  have hs := hsrc tx h1
  have := run_append_grow_src w t tx ty el i z hu hi hz base len cap olds hold x n news hs hg h63 (growslice_fits_wide hg hf)
  refine ⟨_, el, _, this, grownCap_ge _ _ _ _, fun hol => ?_⟩
  have hge := grownCap_ge w (len + n) cap el
  have hzc : (Builtin.zeroCells z.cells (grownCap w (len + n) cap el - (len + n))).size = (grownCap w (len + n) cap el - (len + n)) * i.size := by
    simp [Builtin.zeroCells, hzs]
  have hnl := hs.newsLen
  simp only [Array.size_append, List.size_toArray, List.length_append, hzc, hol, hnl]
  rw [← Nat.add_mul, ← Nat.add_mul]
  exact Nat.mul_le_mul_right _ (by omega)

/-- A block is let go. -/
theorem Rel.kill (R : Rel M μ H w) (k : Nat) (hnm : ∀ es, H.get k ≠ .map es) : Rel M μ (H.set k .dead) w ∧ (∀ b, Own μ (H.set k .dead) b → Own μ H b) := by
  have al : ∀ j, (H.set k .dead).get j ≠ .dead → H.get j ≠ .dead ∧ j ≠ k := fun j hj => by
    rw [Heap.get_set] at hj
    split at hj
    · exact absurd rfl hj
    · rename_i h; exact ⟨hj, Ne.symm h⟩
  have old : ∀ j, (H.set k .dead).get j ≠ .dead → (H.set k .dead).get j = H.get j := fun j hj => by
    rw [Heap.get_set, if_neg (Ne.symm (al j hj).2)]
  refine ⟨⟨R.glob, R.dom, fun j hj => ?_, fun j cs hj => R.cells j cs (by rw [← old j (by rw [hj]; simp)]; exact hj), fun j es hj => R.maps j es (by rw [← old j (by rw [hj]; simp)]; exact hj),
    R.walks_same (Mem.le_refl _) (fun j k' left cur hj => ⟨by rw [← old j (by rw [hj]; simp)]; exact hj, fun _ => by
      have hj' : H.get j = .iter k' left cur := by rw [← old j (by rw [hj]; simp)]; exact hj
      obtain ⟨es, he⟩ := R.iter_map hj'
      rw [Heap.get_set, if_neg (fun e => hnm es (by rw [e]; exact he)), he]; simp⟩) (Pos.le_refl _) (fun _ _ _ => rfl),
    R.recs_same (Mem.le_refl _) (fun j st id fr hj => by rw [← old j (by rw [hj]; simp)]; exact hj) (Pos.le_refl _) (fun _ _ _ => rfl),
    fun i j b s t hi hj => R.inj i j b s t (al i hi).1 (al j hj).1, R.imm, fun j b s hj => R.apart j b s (al j hj).1⟩, fun b ⟨j, s, hj, hμ⟩ => ⟨j, s, (al j hj).1, hμ⟩⟩
  rw [Heap.get_set]
  split
  · rfl
  · exact R.top j hj

/-- A block goes to another place, that is free. -/
theorem Rel.shiftTo (R : Rel M μ H w) {k p : Nat} {cs : List AV} {x : Nat × Nat} (hk : H.get k = .cells cs) (hμ : μ k = some x) (hp : p < H.nx) (hfree : μ p = none) :
    Rel M (μ.put p x) ((H.set k .dead).set p (.cells cs)) w ∧ Pos.le μ (μ.put p x) ∧ ∀ n, n ≤ p → Grow n M μ H w M (μ.put p x) ((H.set k .dead).set p (.cells cs)) w := by
  have hkp : k ≠ p := fun e => by subst e; rw [hμ] at hfree; cases hfree
  have hne : H.get k ≠ .dead := by rw [hk]; simp
  have hle : Pos.le μ (μ.put p x) := Pos.le_put hfree x
  have from' : ∀ j, ((H.set k .dead).set p (.cells cs)).get j ≠ .dead → ∃ i, H.get i ≠ .dead ∧ H.get i = ((H.set k .dead).set p (.cells cs)).get j ∧ μ i = (μ.put p x) j ∧ ((j = p ∧ i = k) ∨ (j ≠ p ∧ i = j ∧ i ≠ k)) := by
    intro j hj
    rw [Heap.get_set] at hj
    by_cases h1 : p = j
    · subst h1
      exact ⟨k, hne, by rw [Heap.get_set, if_pos rfl, hk], by rw [Pos.put_same, hμ], .inl ⟨rfl, rfl⟩⟩
    · rw [if_neg h1, Heap.get_set] at hj
      by_cases h2 : k = j
      · rw [if_pos h2] at hj; exact absurd rfl hj
      · rw [if_neg h2] at hj
        exact ⟨j, hj, by rw [Heap.get_set, if_neg h1, Heap.get_set, if_neg h2], by rw [Pos.put_other _ _ (Ne.symm h1)], .inr ⟨Ne.symm h1, rfl, Ne.symm h2⟩⟩
  refine ⟨⟨R.glob, fun j hj => ?_, fun j hj => ?_, fun j ds hj => ?_, fun j es hj => ?_, R.walks (Mem.le_refl _) (fun j k' left cur hj => ?_), R.recs (Mem.le_refl _) (fun j st id fr hj => ?_), fun i j b s t hi hj hx hy => ?_, R.imm, fun j b s hj hx o => ?_⟩, hle, fun n hn => ⟨Mem.le_refl _, fun j hj => Pos.put_other _ _ (by omega), Keep.refl _ _, fun b hb => ?_, fun _ _ _ h => .inl h⟩⟩
  · have hj' : H.nx ≤ j := hj
    rw [Pos.put_other _ _ (by omega)]; exact R.dom j hj'
  · have hj' : H.nx ≤ j := hj
    have := R.pos_lt hμ
    rw [Heap.get_set, if_neg (by omega), Heap.get_set, if_neg (by omega)]
    exact R.top j hj'
  · obtain ⟨i, h1, h2, h3, _⟩ := from' j (by rw [hj]; simp)
    obtain ⟨b, sz, c, el, fz, e1, e2, e3, e4, e5⟩ := R.cells i ds (h2.trans hj)
    exact ⟨b, sz, c, el, fz, by rw [← h3]; exact e1, e2, e3, e4, relP_mono (Mem.le_refl _) hle _ e5⟩
  · obtain ⟨i, h1, h2, h3, _⟩ := from' j (by rw [hj]; simp)
    obtain ⟨b, sz, ents, clock, e1, e2⟩ := R.maps i es (h2.trans hj)
    exact ⟨b, sz, ents, clock, by rw [← h3]; exact e1, e2⟩
  · obtain ⟨i, h1, h2, h3, _⟩ := from' j (by rw [hj]; simp)
    have hi := h2.trans hj
    obtain ⟨es, he⟩ := R.iter_map hi
    have hk1 : k ≠ k' := fun e => by subst e; rw [hk] at he; cases he
    refine ⟨i, k', hi, ?_, fun x hx => by rw [← h3]; exact hx, fun x hx => hle _ _ hx, fun _ _ _ _ => rfl, fun _ _ _ _ => rfl⟩
    rw [Heap.get_set]
    split
    · simp
    · rw [Heap.get_set, if_neg hk1, he]; simp
  · obtain ⟨i, h1, h2, h3, _⟩ := from' j (by rw [hj]; simp)
    exact ⟨i, fr, h2.trans hj, fun x hx => by rw [← h3]; exact hx, fun t v hv => relV_mono (Mem.le_refl _) _ hle hv, fun _ _ _ _ => rfl⟩
  · obtain ⟨i', h1, _, h3, h4⟩ := from' i hi
    obtain ⟨j', g1, _, g3, g4⟩ := from' j hj
    have := R.inj i' j' b s t h1 g1 (h3.trans hx) (g3.trans hy)
    rcases h4 with ⟨q1, q2⟩ | ⟨q1, q2, q3⟩ <;> rcases g4 with ⟨r1, r2⟩ | ⟨r1, r2, r3⟩ <;> omega
  · obtain ⟨i, h1, _, h3, _⟩ := from' j hj
    exact R.apart i b s h1 (h3.trans hx) o
  · obtain ⟨j, s, hj, hx⟩ := hb
    obtain ⟨i, h1, _, h3, _⟩ := from' j hj
    exact .inl ⟨i, s, h1, h3.trans hx⟩

theorem Move.trans {M' M'' : Mem} {μ' μ'' : Pos} {H' H'' : Heap} {w' w'' : World} (a : Move M μ H w M' μ' H' w') (b : Move M' μ' H' w' M'' μ'' H'' w'') : Move M μ H w M'' μ'' H'' w'' :=
  ⟨Pos.le_trans a.le b.le, a.grow.trans (b.grow.mono a.nx), Nat.le_trans a.nx b.nx⟩

/-- The arm that has room. -/
theorem append_room {q0 : TypeId → Bool} {ts : List TypeId} {e bytes : Nat} (h : okAppendQ P q0 ts e bytes = true) {b off len cap n : Nat} {news : List Value} {x : Value} {c : Array Value} {el : TypeId} {fz : Nat × Nat}
    (hsrc : ∀ tx, q0 tx = true → Src P e tx x n news w) (hroom : len + n ≤ cap) (hb : w.heap[b]? = some (.cells c el fz)) (hfz : fz = (0, 0) ∨ c.size ≤ fz.1) (hsz : off + cap * e ≤ c.size) (ty : TypeId) :
    (Builtin.append_ ts.toArray ty #[.slice (some ⟨b, off, none⟩) len cap, x]).run P w = .ok (.slice (some ⟨b, off, none⟩) (len + n) cap) (w.setRow b (c.toList.take (off + len * e) ++ news ++ c.toList.drop (off + len * e + news.length)).toArray) := by
  obtain ⟨t, tx, el', i, z, rfl, h1, hu, hi, rfl, rfl, hz, hzs⟩ := okAppend_spec h
  have hs := hsrc tx h1
  have hfit : off + len * i.size + news.length ≤ c.size := by
    rw [hs.newsLen, Nat.add_assoc, ← Nat.add_mul]
    exact Nat.le_trans (Nat.add_le_add_left (Nat.mul_le_mul_right _ hroom) _) hsz
  have hst := run_storeCells_fz (P := P) b (off + len * i.size) el fz news 0 c w hb hfz (by omega) hs.one
  simp only [Nat.add_zero] at hst
  rcases hs.kind with ⟨e', hk⟩ | hk <;>
    simp only [Builtin.append_, List.getElem?_toArray, List.getElem?_cons_zero, List.getElem?_cons_succ, Sem.run_bind, Sem.run_pure, run_underlying hu, run_underlying hk, run_sizeOf_i hi, Result.andThen_ok, Bool.false_eq_true, if_false, hs.len, if_pos hroom, Bool.not_false, if_true, hs.cells, add_addr, hst]

theorem run_call_append {c : Call} {s x : Operand} {ts : List TypeId} {o : Oper} (ho : o.op = .call c) (hb : bcall c .append = some ([s, x], ts)) (w : World) :
    (execOp a.eval o).run P w = ((Builtin.append_ ts.toArray o.type #[a.eval s, a.eval x]).run P w).andThen fun v w' => .ok (.value v) w' := by
  rw [bcall_spec hb] at ho
  rw [run_call_builtin ho]
  simp only [builtin, List.map_toArray, List.map_cons, List.map_nil, Sem.run_bind, Sem.run_pure]

theorem firstCells_slice {e len cap : Nat} {b off : Nat} {vs : List Value} (hl : vs.length = len * e) (h : ∀ j v, vs[j]? = some v → w.cell? (Addr.add ⟨b, off, none⟩ j) = some v) : (Builtin.firstCells e len (.slice (some ⟨b, off, none⟩) len cap)).run P w.drew = .ok vs.toArray w.drew := by
  have := run_loadCells_list (P := P) w.drew ⟨b, off, none⟩ vs (by simpa using h)
  simp only [Builtin.firstCells]
  rw [← hl]; exact this

theorem firstCells_none {e cap : Nat} (a : Addr) : (Builtin.firstCells e 0 (.slice (some a) 0 cap)).run P w.drew = .ok #[] w.drew := by
  have := run_loadCells_list (P := P) w.drew a [] (by simp)
  simp only [Builtin.firstCells, Nat.zero_mul]
  exact this
theorem append_nil {q0 : TypeId → Bool} {ts : List TypeId} {e bytes : Nat} (h : okAppendQ P q0 ts e bytes = true) {base : Option Addr} {len cap : Nat} {x : Value} (hb : base = none ∨ ∃ a, base = some a) (hsrc : ∀ tx, q0 tx = true → Src P e tx x 0 [] w) (hl : len ≤ cap) (ty : TypeId) :
    (Builtin.append_ ts.toArray ty #[.slice base len cap, x]).run P w = .ok (.slice base len cap) w := by
  obtain ⟨t, tx, el', i, z, rfl, h1, hu, hi, rfl, rfl, hz, hzs⟩ := okAppend_spec h
  have hs := hsrc tx h1
  rcases hs.kind with ⟨e', hk⟩ | hk <;> rcases hb with rfl | ⟨b, rfl⟩ <;>
    simp only [Builtin.append_, List.getElem?_toArray, List.getElem?_cons_zero, List.getElem?_cons_succ, Sem.run_bind, Sem.run_pure, run_underlying hu, run_underlying hk, run_sizeOf_i hi, Result.andThen_ok, Bool.false_eq_true, if_false, hs.len, Nat.add_zero, if_pos hl, Bool.not_false, if_true, hs.cells, storeCells]

theorem bytes_bound {n bytes : Nat} (h : fits n bytes) (hn : 0 < bytes) : n ≤ 9223372036854775807 := by
  unfold fits at h
  have : (n + n / 4 + 192) * 1 ≤ (n + n / 4 + 192) * bytes := Nat.mul_le_mul_left _ hn
  omega

/-- The result of an operation that lays a block at a free place p (and lets k go). -/
structure Laid (P : Program) (o : Oper) (a : Act) (M : Mem) (μ : Pos) (H : Heap) (w : World) (p : Nat) (v : AV) (H' : Heap) : Prop where
  ex : ∃ u w' μ', (execOp a.eval o).run P w = .ok (.value u) w' ∧ Rel M μ' H' w' ∧ relV M v μ' u ∧ Pos.le μ μ' ∧ (∀ n, n ≤ p → Grow n M μ H w M μ' H' w') ∧ ∀ j, j ≠ p → μ' j = μ j

/-- What an append does, in words of a heap with a free place p. -/
def appK (cur : Nat → AB) (Hr : Nat → AB) (p e bytes : Nat) (s x : AV) (K : AV → List AV → Option Nat → Prop) : Prop := match s with
  | .slice k off len _ e' => match cur k with
    | .cells cs => srcK Hr e x fun ds n => Side (e' = e ∧ off = 0 ∧ cs.length = len * e ∧ fits (len + n) bytes ∧ ∀ c ∈ ds, scal c = true) (K (.slice p 0 (len + n) none e) (cs ++ ds) (some k))
    | _ => False
  | .dslice cs len cap => srcK Hr e x fun ds n => Side (cap = some len ∧ 0 < n ∧ len * e ≤ cs.length ∧ fits (len + n) bytes ∧ ∀ c ∈ ds, scal c = true) (K (.slice p 0 (len + n) none e) (cs.take (len * e) ++ ds) none)
  | .nils => srcK Hr e x fun ds n => Side (0 < n ∧ fits n bytes ∧ ∀ c ∈ ds, scal c = true) (K (.slice p 0 n none e) ds none)
  | _ => False
def killO (H : Heap) : Option Nat → Heap
  | none => H
  | some k => H.set k .dead

theorem relP_app {cs ds : List AV} {olds news : List Value} {zs : Array Value} (o2 : relL M cs μ olds) (hrel : relL M ds μ news) : relP M μ (cs ++ ds) ((olds ++ news).toArray ++ zs).toList :=
  relP_of_get fun i c hi => by
    obtain ⟨v, hv', hr'⟩ := relL_get (relL_append o2 hrel) hi
    have hlt : i < (olds ++ news).length := by
      rcases Nat.lt_or_ge i (olds ++ news).length with h | h
      · exact h
      · rw [List.getElem?_eq_none h] at hv'; cases hv'
    exact ⟨v, by rw [Array.toList_append, List.getElem?_append_left hlt]; exact hv', hr'⟩

theorem Laid.of_new {o : Oper} {p : Nat} {cs : List AV} {c : Array Value} {el : TypeId} {len nc e : Nat} (R : Rel M μ H w) (hp : p < H.nx) (hfree : μ p = none) (kl : Option Nat) (hkl : ∀ k, kl = some k → ∀ es, H.get k ≠ .map es) (hP : relP M μ cs c.toList)
    (hrun : (execOp a.eval o).run P w = .ok (.value (.slice (some ⟨w.heap.size, 0, none⟩) len nc)) (w.drew.alloc (.cells c el))) (hnc : len ≤ nc) (hsz : nc * e ≤ c.size) :
    Laid P o a M μ H w p (.slice p 0 len none e) ((killO H kl).set p (.cells cs)) := by
  have hk : Rel M μ (killO H kl) w.drew ∧ (∀ b, Own μ (killO H kl) b → Own μ H b) ∧ (killO H kl).nx = H.nx := by
    cases kl with
    | none => exact ⟨R.drew, fun _ h => h, rfl⟩
    | some k => exact ⟨(R.drew.kill k (hkl k rfl)).1, (R.drew.kill k (hkl k rfl)).2, rfl⟩
  obtain ⟨R1, hown, hnx⟩ := hk
  obtain ⟨R2, L, G⟩ := R1.lay (p := p) (el := el) (by omega) hfree hP
  refine ⟨_, _, _, hrun, R2, ?_, L, fun n hn => ?_, fun j hj => Pos.put_other _ _ hj⟩
  · simp only [relV]
    exact ⟨w.heap.size, _, nc, Pos.put_same _ _ _, rfl, hnc, by rw [Nat.zero_add]; exact hsz, fun c0 h0 => by cases h0⟩
  · have G := G n hn
    exact ⟨G.mem, G.pin, ⟨G.keep.os, G.keep.tape, G.keep.output, G.keep.size, fun x hx hno => G.keep.block x hx (fun h => hno (hown x h))⟩, fun x hx => (G.own x hx).imp (hown x) id, fun x o v hx => (G.fresh x o v hx).imp id (Or.imp (hown x) id)⟩

theorem srcK_src {ts : List TypeId} {e bytes : Nat} {x : Operand} (hok : okAppend P ts e bytes = true) {xv : AV} (hx' : relV M xv μ (a.eval x)) (R : Rel M μ H w) {Hr : Nat → AB} (hHr : ∀ k cs, Hr k = .cells cs → H.get k = .cells cs) {K : List AV → Nat → Prop} (hk : srcK Hr e xv K) :
    ∃ ds n, K ds n ∧ ds.length = n * e ∧ ∃ news, relL M ds μ news ∧ ((∀ v ∈ news, v.oneCell' = true) → ∀ tx, isSlice P tx = true → Src P e tx (a.eval x) n news w) := by
  obtain ⟨t, tx, el, i, z, rfl, h1, _⟩ := okAppend_spec hok
  have hk' : srcK H.get e xv K := by
    unfold srcK at hk ⊢
    split at hk
    · exact hk
    · exact hk
    · split at hk
      · rename_i cs hcs; rw [hHr _ _ hcs]; exact hk
      · exact hk.elim
    · exact hk.elim
  obtain ⟨ds, n, q1, q2, news, q3, q4⟩ := srcK_spec R hx' h1 hk'
  refine ⟨ds, n, q1, q2, news, q3, fun h1' tx' htx' => ?_⟩
  obtain ⟨et, het⟩ := isSlice_spec htx'
  have := q4 h1'
  exact ⟨.inl ⟨et, het⟩, this.len, this.cells, this.cellsD, this.newsLen, this.one⟩
theorem append_laid {q0 : TypeId → Bool} {c : Call} {s x : Operand} {ts : List TypeId} {e bytes : Nat} {o : Oper} (ho : o.op = .call c) (hb : bcall c .append = some ([s, x], ts)) (hok : okAppendQ P q0 ts e bytes = true) (hby : 0 < bytes) {Hr : Nat → AB} {sv xv : AV} (hs' : relV M sv μ (a.eval s)) (htx : ∀ {K : List AV → Nat → Prop}, srcK Hr e xv K → ∃ ds n, K ds n ∧ ds.length = n * e ∧ ∃ news, relL M ds μ news ∧ ((∀ v ∈ news, v.oneCell' = true) → ∀ tx, q0 tx = true → Src P e tx (a.eval x) n news w))
    (R : Rel M μ H w) {p : Nat} (hp : p < H.nx) (hfree : μ p = none) {K : AV → List AV → Option Nat → Prop} (hr : appK H.get Hr p e bytes sv xv K) :
    ∃ v l kl, K v l kl ∧ Laid P o a M μ H w p v ((killO H kl).set p (.cells l)) := by
  unfold appK at hr
  split at hr
  · rename_i k off len cap e'
    simp only [relV] at hs'
    obtain ⟨b, sz, cp, hμ, hv, hlc, hsz, hcap⟩ := hs'
    split at hr
    · rename_i cs hk
      obtain ⟨ds, n, hside, hdl, news, hrel, hsrc⟩ := htx hr
      obtain ⟨⟨rfl, rfl, hcl, hfit, hsc⟩, hkk⟩ := hside
      have hsrc' := hsrc (relL_one (by simpa using hsc) hrel)
      obtain ⟨b', sz', cc, el, fz, q1, q2, q3, q4, q5⟩ := R.cells k cs hk
      rw [hμ] at q1; cases q1
      have hnl : news.length = n * e' := by have := relL_length hrel; omega
      refine ⟨_, _, _, hkk, ?_⟩
      by_cases hroom : len + n ≤ cp
      · -- in place
        have hrun := append_room hok hsrc' hroom q2 (by rw [q3]; exact q4) (by rw [q3]; exact hsz) o.type
        have hP : relP M μ (cs ++ ds) (cc.toList.take (0 + len * e') ++ news ++ cc.toList.drop (0 + len * e' + news.length)) := by
          rw [Nat.zero_add, ← hcl]
          have hple := relP_length q5
          have hmin : (cc.toList.take cs.length).length = cs.length := by rw [List.length_take]; exact Nat.min_eq_left hple
          refine relP_of_get fun i c hi => ?_
          by_cases h1 : i < cs.length
          · rw [List.getElem?_append_left h1] at hi
            obtain ⟨v, hv', hr'⟩ := relP_get q5 hi
            exact ⟨v, by rw [List.append_assoc, List.getElem?_append_left (by rw [hmin]; exact h1), List.getElem?_take_of_lt h1]; exact hv', hr'⟩
          · rw [List.getElem?_append_right (by omega)] at hi
            obtain ⟨v, hv', hr'⟩ := relL_get hrel hi
            have hlt : i - cs.length < news.length := by
              rcases Nat.lt_or_ge (i - cs.length) news.length with h | h
              · exact h
              · rw [List.getElem?_eq_none h] at hv'; cases hv'
            refine ⟨v, ?_, hr'⟩
            rw [List.append_assoc, List.getElem?_append_right (by rw [hmin]; omega), hmin, List.getElem?_append_left hlt]
            exact hv'
        obtain ⟨R1, G1⟩ := R.write hk hμ q2 q4 (cs' := cs ++ ds) (c' := (cc.toList.take (0 + len * e') ++ news ++ cc.toList.drop (0 + len * e' + news.length)).toArray) (by
          have h1 : 0 + len * e' + news.length ≤ cc.size := by
            rw [hnl, q3, Nat.zero_add, ← Nat.add_mul]
            exact Nat.le_trans (Nat.mul_le_mul_right _ hroom) (by omega)
          simp; omega) hP
        obtain ⟨R2, L2, G2⟩ := R1.shiftTo (k := k) (p := p) (cs := cs ++ ds) (x := (b, sz)) (by rw [Heap.get_set, if_pos rfl]) hμ hp hfree
        have hg : (((H.set k (.cells (cs ++ ds))).set k .dead).set p (.cells (cs ++ ds))).get = ((H.set k .dead).set p (.cells (cs ++ ds))).get := by
          funext j
          simp only [Heap.get_set]
          split
          · rfl
          · split <;> rfl
        refine ⟨.slice (some ⟨b, 0, none⟩) (len + n) cp, _, μ.put p (b, sz), ?_, ⟨R2.glob, R2.dom, fun j hj => by show ((H.set k .dead).set p (.cells (cs ++ ds))).get j = .dead; rw [← hg]; exact R2.top j hj, fun j ds' hj => R2.cells j ds' (by rw [hg]; exact hj), fun j es hj => R2.maps j es (by rw [hg]; exact hj), fun j k l c hj => have h := R2.iters j k l c (by rw [hg]; exact hj); ⟨fun e => h.1 (by rw [hg]; exact e), h.2⟩, fun j st id fr hj => R2.loops j st id fr (by rw [hg]; exact hj), fun i j b s t hi hj => R2.inj i j b s t (by rw [hg]; exact hi) (by rw [hg]; exact hj), R2.imm, fun j b s hj => R2.apart j b s (by rw [hg]; exact hj)⟩, ?_, L2, fun m hm => ?_, fun j hj => Pos.put_other _ _ hj⟩
        · rw [run_call_append ho hb, hv, hrun]; rfl
        · simp only [relV]
          exact ⟨b, sz, cp, Pos.put_same _ _ _, rfl, hroom, hsz, fun c0 h0 => by cases h0⟩
        · have G := (G1.grow.mono (show m ≤ H.nx by omega)).trans (G2 m hm)
          refine ⟨G.mem, G.pin, G.keep, fun b hb => G.own b ?_, G.fresh⟩
          obtain ⟨j, s, hj, hμj⟩ := hb
          exact ⟨j, s, by rw [hg]; exact hj, hμj⟩
      · -- a new array
        obtain ⟨olds, o1, o2, o3⟩ := cells_cells R hk hμ (off := 0) cs.length (by omega)
        simp only [List.drop_zero, List.take_length] at o2
        obtain ⟨zs, el', nc, hrun, hnc, hncs⟩ := append_grow hok (base := some ⟨b, 0, none⟩) (len := len) (cap := cp) (olds := olds) (firstCells_slice (by rw [o1, hcl]) o3) hsrc' (by omega) hfit (.inl hby) o.type
        exact Laid.of_new R hp hfree (some k) (fun _ e es => by cases e; rw [hk]; simp) (relP_app o2 hrel) (by rw [run_call_append ho hb, hv, hrun]; rfl) hnc (hncs (by rw [o1, hcl]))
    · exact hr.elim
  · rename_i cs len cap
    simp only [relV] at hs'
    obtain ⟨ds, n, hside, hdl, news, hrel, hsrc⟩ := htx hr
    obtain ⟨⟨rfl, hn0, hcl, hfit, hsc⟩, hkk⟩ := hside
    have hsrc' := hsrc (relL_one (by simpa using hsc) hrel)
    refine ⟨_, _, _, hkk, ?_⟩
    rcases hs' with ⟨b, q, cp, hv, hlc, hcap, hm⟩ | ⟨hv, rfl, rfl, _⟩ | ⟨b, q, sp, cp, hv, rfl, rfl, hcap⟩
    · obtain ⟨vs, h1, h2, h3⟩ := relM_cells R hm (len * e) hcl
      have hcp := hcap len rfl
      obtain ⟨zs, el', nc, hrun, hnc, hncs⟩ := append_grow hok (base := some ⟨b, q, none⟩) (len := len) (cap := cp) (olds := vs) (firstCells_slice h1 h3) hsrc' (by omega) hfit (.inl hby) o.type
      exact Laid.of_new R hp hfree none (fun _ e => by cases e) (relP_app h2 hrel) (by rw [run_call_append ho hb, hv, hrun]; rfl) hnc (hncs h1)
    · obtain ⟨zs, el', nc, hrun, hnc, hncs⟩ := append_grow hok (base := none) (len := 0) (cap := 0) (olds := []) (by simp [Builtin.firstCells]) hsrc' (by omega) hfit (.inl hby) o.type
      exact Laid.of_new R hp hfree none (fun _ e => by cases e) (relP_app (by simp [relL]) hrel) (by rw [run_call_append ho hb, hv, hrun]; rfl) hnc (hncs (by simp))
    · have hc0 := hcap 0 rfl
      obtain ⟨zs, el', nc, hrun, hnc, hncs⟩ := append_grow hok (base := some ⟨b, q, some sp⟩) (len := 0) (cap := cp) (olds := []) (firstCells_none _) hsrc' (by omega) hfit (.inl hby) o.type
      exact Laid.of_new R hp hfree none (fun _ e => by cases e) (relP_app (by simp [relL]) hrel) (by rw [run_call_append ho hb, hv, hrun]; rfl) hnc (hncs (by simp))
  · simp only [relV] at hs'
    obtain ⟨ds, n, hside, hdl, news, hrel, hsrc⟩ := htx hr
    obtain ⟨⟨hn0, hfit, hsc⟩, hkk⟩ := hside
    have hsrc' := hsrc (relL_one (by simpa using hsc) hrel)
    refine ⟨_, _, _, hkk, ?_⟩
    obtain ⟨zs, el', nc, hrun, hnc, hncs⟩ := append_grow hok (base := none) (len := 0) (cap := 0) (olds := []) (by simp [Builtin.firstCells]) hsrc' (by omega) (by rw [Nat.zero_add]; exact hfit) (.inl hby) o.type
    rw [Nat.zero_add] at hrun hnc
    exact Laid.of_new R hp hfree none (fun _ e => by cases e) (by have := relP_app (zs := zs) (M := M) (μ := μ) (cs := []) (olds := []) (by simp [relL]) hrel; simpa using this) (by rw [run_call_append ho hb, hs', hrun]; rfl) hnc (hncs (by simp))
  · exact hr.elim

/-- The result of an operation that makes data. -/
structure Datum (P : Program) (o : Oper) (a : Act) (M : Mem) (μ : Pos) (H : Heap) (w : World) (v : AV) : Prop where
  ex : ∃ u w' M', (execOp a.eval o).run P w = .ok (.value u) w' ∧ Rel M' μ H w' ∧ relV M' v μ u ∧ Move M μ H w M' μ H w'

theorem datum_new {o : Oper} {c : Array Value} {el : TypeId} {cs : List AV} {len nc : Nat} {cap : Option Nat} (R : Rel M μ H w) (hrun : (execOp a.eval o).run P w = .ok (.value (.slice (some ⟨w.heap.size, 0, none⟩) len nc)) (w.drew.alloc (.cells c el))) (hnc : len ≤ nc)
    (hcap : ∀ c0, cap = some c0 → nc = c0) (hP : relP M Pos.none cs c.toList) : Datum P o a M μ H w (.dslice cs len cap) := by
  obtain ⟨R1, G1⟩ := R.drew.data c el
  refine ⟨_, _, _, hrun, R1, ?_, G1.of_drew⟩
  simp only [relV]
  exact .inl ⟨w.heap.size, 0, nc, rfl, hnc, hcap, relM_with G1.grow.mem hP⟩

theorem Rel.nil {M : Mem} {μ : Pos} {H : Heap} {w : World} (R : Rel M μ H w) : Rel M Pos.none Heap.nil w :=
  ⟨R.glob, fun _ _ => rfl, fun _ _ => rfl, fun k cs h => by simp [Heap.get, Heap.nil, bget] at h, fun k cs h => by simp [Heap.get, Heap.nil, bget] at h, fun j k l c h => by simp [Heap.get, Heap.nil, bget] at h, fun j st id fr h => by simp [Heap.get, Heap.nil, bget] at h, fun i j b s t h => by simp [Heap.get, Heap.nil, bget] at h, R.imm, fun k b s h => by simp [Heap.get, Heap.nil, bget] at h⟩
theorem own_nil {b : Nat} : ¬ Own Pos.none Heap.nil b := fun ⟨_, _, h, _⟩ => h rfl

theorem relM_list (R : Rel M μ H w) {cs : List AV} {b o n : Nat} (h : relM M cs b o) (hn : n ≤ cs.length) : ∃ vs, vs.length = n ∧ relL M (cs.take n) Pos.none vs ∧ ∀ j v, vs[j]? = some v → w.cell? (Addr.add ⟨b, o, none⟩ j) = some v :=
  relM_cells R.nil h n hn

theorem byteSl_spec {t : TypeId} (h : byteSl P t = true) : ∃ e, P.underlying t = some (.slice e) ∧ P.underlying e = some (.int .u8) := by
  unfold byteSl at h
  split at h
  · rename_i e he
    split at h
    · rename_i he2; exact ⟨e, he, he2⟩
    · cases h
  · cases h
theorem run_convert_bytes {src dst : TypeId} (h1 : byteSl P src = true) (h2 : isStr P dst = true) {v : Value} (hv : ∃ a n c, v = .slice a n c) (w : World) : (convert src dst v).run P w = (Conv.bytesToString v).run P w := by
  obtain ⟨e, he, he2⟩ := byteSl_spec h1
  obtain ⟨a, n, c, rfl⟩ := hv
  simp only [convert, Sem.run_bind, run_underlying he, run_underlying (isStr_spec h2), run_underlying he2, Result.andThen_ok]
theorem sound_sl2s {src dst : TypeId} {x : Operand} {x' : AX} {o : Oper} (ho : o.op = .convert src dst x) (h1 : byteSl P src = true) (h2 : isStr P dst = true) (h3 : okX x x' = true) (F : RelF N M μ fr a.tmps) (R : Rel M μ H w) {Hr : Nat → AB} (hHr : ∀ k cs, Hr k = .cells cs → H.get k = .cells cs) {K : AV → Prop}
    (hr : (DOp.sl2s x').run (AX.ev fr) Hr K) : ∃ v, K v ∧ Datum P o a M μ H w v := by
  have hx := rel_okX F h3
  have fin : ∀ {l : List Int} {ad : Option Addr} {n c : Nat}, a.eval x = .slice ad n c → K (.str (toBytes l)) → (Conv.bytesToString (.slice ad n c)).run P w = .ok (.string (toBytes l)) w → ∃ v, K v ∧ Datum P o a M μ H w v := by
    intro l ad n c hv hk hrun
    refine ⟨_, hk, .string (toBytes l), w, M, ?_, R, by simp only [relV], Move.refl _ _ _ _⟩
    simp only [execOp, ho, hv, Sem.run_bind, run_convert_bytes h1 h2 ⟨ad, n, c, rfl⟩, hrun, Result.andThen_ok, Sem.run_pure]
  have some' : ∀ {l : List Int} {ad : Addr} {n c : Nat} {vs : List Value}, a.eval x = .slice (some ad) n c → vs.length = n → vs = l.map (Value.int .u8) → (∀ j v, vs[j]? = some v → w.cell? (ad.add j) = some v) → K (.str (toBytes l)) → ∃ v, K v ∧ Datum P o a M μ H w v := by
    intro l ad n c vs hv hl hvs hc hk
    refine fin hv hk ?_
    have := run_loadCells_list (P := P) w ad vs hc
    rw [hl, hvs] at this
    exact run_bytesToString w ad n c l this
  simp only [DOp.run] at hr
  unfold srcK at hr
  split at hr
  · rename_i cs n cap hc
    rw [hc] at hx; simp only [relV] at hx
    obtain ⟨hn, hb⟩ := hr
    rw [Nat.mul_one] at hn hb
    obtain ⟨l, h4, hk⟩ := hb.ex
    rcases hx with ⟨b, q, c, hv, _, _, hm⟩ | ⟨hv, rfl, rfl, _⟩ | ⟨b, q, sp, c, hv, rfl, rfl, _⟩
    · obtain ⟨vs, q1, q2, q3⟩ := relM_list R hm hn
      exact some' hv q1 (bytesOf_rel h4 q2) q3 hk
    · simp [bytesOf] at h4; subst h4
      exact fin hv hk (by simp only [Conv.bytesToString, Sem.run_pure]; rfl)
    · simp [bytesOf] at h4; subst h4
      exact some' (vs := []) hv rfl rfl (fun j v h => by simp at h) hk
  · rename_i hc
    rw [hc] at hx; simp only [relV] at hx
    obtain ⟨l, h4, hk⟩ := hr.ex
    simp [bytesOf] at h4; subst h4
    exact fin hx hk (by simp only [Conv.bytesToString, Sem.run_pure]; rfl)
  · rename_i k off n cap e' hc
    rw [hc] at hx; simp only [relV] at hx
    obtain ⟨b, sz, c, hμ, hv, _⟩ := hx
    split at hr
    · rename_i cs hcs
      obtain ⟨hn, hb⟩ := hr
      obtain ⟨l, h4, hk⟩ := hb.ex
      obtain ⟨vs, q1, q2, q3⟩ := cells_cells R (hHr _ _ hcs) hμ (n * 1) hn
      exact some' hv (by rw [q1, Nat.mul_one]) (bytesOf_rel h4 q2) q3 hk
    · exact hr.elim
  · exact hr.elim
theorem dop_sound {o : Oper} {q : DOp} (h : okD P o.op q = true) (F : RelF N M μ fr a.tmps) (R : Rel M μ H w) {Hr : Nat → AB} (hHr : ∀ k cs, Hr k = .cells cs → H.get k = .cells cs) {K : AV → Prop} (hr : q.run (AX.ev fr) Hr K) : ∃ v, K v ∧ Datum P o a M μ H w v := by
  unfold okD at h
  split at h
  · rename_i t n ps e len zero parts hop
    simp only [DOp.run] at hr
    obtain ⟨us, ds, el, h1, h2, h3, h4⟩ := sound_bs hop h F hr w
    cases hn : noLocB ds with
    | false => simp [hn] at h4
    | true =>
      simp only [hn, cond_true] at h4
      obtain ⟨R1, G1⟩ := R.data us el
      refine ⟨_, h4, _, _, _, h1, R1, ?_, G1⟩
      simp only [relV]
      exact .inl ⟨w.heap.size, 0, len, rfl, Nat.le_refl _, fun c0 h0 => by cases h0; rfl, relM_with G1.grow.mem (relP_of_relL (noLocB_spec hn h2))⟩
  · rename_i c e bytes s x hop
    split at h
    · rename_i s' x' ts hb
      simp only [Bool.and_eq_true] at h
      obtain ⟨⟨⟨q1, q2⟩, q3⟩, q4⟩ := h
      have hby : 0 < bytes := by simpa [Nat.blt_eq] using q2
      have hs := rel_okX F q3
      have hx := rel_okX F q4
      simp only [DOp.run] at hr
      have src : ∀ {ds : List AV} {n : Nat} {cap : Option Nat}, relV M (.dslice ds n cap) μ (a.eval x') → n * e ≤ ds.length → (∀ c ∈ ds.take (n * e), scal c = true) → ∃ news, relL M (ds.take (n * e)) Pos.none news ∧ news.length = n * e ∧ ∀ tx, isSlice P tx = true → Src P e tx (a.eval x') n news w := by
        intro ds n cap hx hn hsc
        simp only [relV] at hx
        rcases hx with ⟨b, q, c, hv, _, _, hm⟩ | ⟨hv, rfl, rfl, _⟩ | ⟨b, q, sp, c, hv, rfl, rfl, _⟩
        · obtain ⟨vs, h1, h2, h3⟩ := relM_list R hm hn
          refine ⟨vs, h2, h1, fun tx htx => ?_⟩
          obtain ⟨et, het⟩ := isSlice_spec htx
          rw [hv]; exact Src.ofSlice w het _ n c vs h1 h3 (relL_one (by simpa using hsc) h2)
        · refine ⟨[], by simp [relL], by simp, fun tx htx => ?_⟩
          obtain ⟨et, het⟩ := isSlice_spec htx
          rw [hv]; exact Src.ofNil w het 0
        · refine ⟨[], by simp [relL], by simp, fun tx htx => ?_⟩
          obtain ⟨et, het⟩ := isSlice_spec htx
          rw [hv]; exact Src.ofSlice w het _ 0 c [] (by simp) (fun j u h => by simp at h) (fun v hv => by cases hv)
      have zero : ∀ {base : Option Addr} {len cp n : Nat} {news : List Value}, news.length = n * e → n = 0 → (∀ tx, isSlice P tx = true → Src P e tx (a.eval x') n news w) → a.eval s' = .slice base len cp → (base = none ∨ ∃ a, base = some a) → len ≤ cp → (execOp a.eval o).run P w = .ok (.value (.slice base len cp)) w := by
        intro base len cp n news hnl hn hsrc hv hb' hl
        subst hn
        have : news = [] := List.eq_nil_of_length_eq_zero (by omega)
        subst this
        rw [run_call_append hop hb, hv, append_nil q1 hb' hsrc hl]; rfl
      split at hr
      · rename_i cs len cap ds n cap2 hcs hds
        rw [hcs] at hs; rw [hds] at hx
        obtain ⟨⟨rfl, hcl, hdl, hfit, hsc⟩, hk⟩ := hr
        obtain ⟨news, hrel, hnl, hsrc⟩ := src hx hdl hsc
        refine ⟨_, hk, ?_⟩
        simp only [relV] at hs
        rcases hs with ⟨b, q, cp, hv, hlc, hcap, hm⟩ | ⟨hv, rfl, rfl, hcap⟩ | ⟨b, q, sp, cp, hv, rfl, rfl, hcap⟩
        · have hcp := hcap len rfl
          by_cases hn0 : n = 0
          · have hrun := zero hnl hn0 hsrc hv (.inr ⟨_, rfl⟩) hlc
            refine ⟨_, w, M, hrun, R, ?_, Move.refl _ _ _ _⟩
            simp only [relV]
            refine .inl ⟨b, q, cp, by rw [hn0]; rfl, by omega, fun c0 h0 => (by cases h0), ?_⟩
            have : ds.take (n * e) = [] := by rw [hn0]; simp
            rw [this, List.append_nil]; exact relM_take _ hm
          · obtain ⟨vs, h1, h2, h3⟩ := relM_list R hm hcl
            obtain ⟨zs, el', nc, hrun, hnc, _⟩ := append_grow q1 (base := some ⟨b, q, none⟩) (len := len) (cap := cp) (olds := vs) (firstCells_slice h1 h3) hsrc (by omega) hfit (.inl hby) o.type
            exact datum_new R (by rw [run_call_append hop hb, hv, hrun]; rfl) hnc (fun c0 h0 => by cases h0) (relP_app h2 hrel)
        · by_cases hn0 : n = 0
          · have hrun := zero hnl hn0 hsrc hv (.inl rfl) (Nat.le_refl _)
            refine ⟨_, w, M, hrun, R, ?_, Move.refl _ _ _ _⟩
            simp only [relV]
            exact .inr (.inl ⟨trivial, by omega, by rw [hn0]; simp, fun c0 h0 => by cases h0⟩)
          · obtain ⟨zs, el', nc, hrun, hnc, _⟩ := append_grow q1 (base := none) (len := 0) (cap := 0) (olds := []) (by simp [Builtin.firstCells]) hsrc (by omega) hfit (.inl hby) o.type
            exact datum_new R (by rw [run_call_append hop hb, hv, hrun]; rfl) hnc (fun c0 h0 => by cases h0) (relP_app (by simp [relL]) hrel)
        · have hcp := hcap 0 rfl
          by_cases hn0 : n = 0
          · have hrun := zero hnl hn0 hsrc hv (.inr ⟨_, rfl⟩) (Nat.zero_le _)
            refine ⟨_, w, M, hrun, R, ?_, Move.refl _ _ _ _⟩
            simp only [relV]
            exact .inr (.inr ⟨b, q, sp, cp, rfl, by omega, by rw [hn0]; simp, fun c0 h0 => by cases h0⟩)
          · obtain ⟨zs, el', nc, hrun, hnc, _⟩ := append_grow q1 (base := some ⟨b, q, some sp⟩) (len := 0) (cap := cp) (olds := []) (firstCells_none _) hsrc (by omega) hfit (.inl hby) o.type
            exact datum_new R (by rw [run_call_append hop hb, hv, hrun]; rfl) hnc (fun c0 h0 => by cases h0) (relP_app (by simp [relL]) hrel)
      · rename_i cs len cap hcs hds
        rw [hcs] at hs; rw [hds] at hx
        obtain ⟨rfl, hk⟩ := hr
        refine ⟨_, hk, ?_⟩
        simp only [relV] at hs hx
        have hsrc : ∀ tx, isSlice P tx = true → Src P e tx (a.eval x') 0 [] w := fun tx htx => by
          obtain ⟨et, het⟩ := isSlice_spec htx
          rw [hx]; exact Src.ofNil w het 0
        rcases hs with ⟨b, q, cp, hv, hlc, hcap, hm⟩ | ⟨hv, rfl, rfl, hcap⟩ | ⟨b, q, sp, cp, hv, rfl, rfl, hcap⟩
        · have hrun := zero (n := 0) (news := []) (by simp) rfl hsrc hv (.inr ⟨_, rfl⟩) hlc
          refine ⟨_, w, M, hrun, R, ?_, Move.refl _ _ _ _⟩
          simp only [relV]
          exact .inl ⟨b, q, cp, rfl, hlc, fun c0 h0 => (by cases h0), hm⟩
        · have hrun := zero (n := 0) (news := []) (by simp) rfl hsrc hv (.inl rfl) (Nat.le_refl _)
          refine ⟨_, w, M, hrun, R, ?_, Move.refl _ _ _ _⟩
          simp only [relV]
          exact .inr (.inl ⟨trivial, trivial, trivial, fun c0 h0 => (by cases h0)⟩)
        · have hrun := zero (n := 0) (news := []) (by simp) rfl hsrc hv (.inr ⟨_, rfl⟩) (Nat.zero_le _)
          refine ⟨_, w, M, hrun, R, ?_, Move.refl _ _ _ _⟩
          simp only [relV]
          exact .inr (.inr ⟨b, q, sp, cp, rfl, trivial, trivial, fun c0 h0 => (by cases h0)⟩)
      · rename_i ds n cap2 hcs hds
        rw [hcs] at hs; rw [hds] at hx
        obtain ⟨⟨hdl, hfit, hsc⟩, hk⟩ := hr
        obtain ⟨news, hrel, hnl, hsrc⟩ := src hx hdl hsc
        refine ⟨_, hk, ?_⟩
        simp only [relV] at hs
        by_cases hn0 : n = 0
        · have hrun := zero hnl hn0 hsrc hs (.inl rfl) (Nat.le_refl _)
          refine ⟨_, w, M, hrun, R, ?_, Move.refl _ _ _ _⟩
          simp only [relV]
          exact .inr (.inl ⟨trivial, by omega, by rw [hn0]; simp, fun c0 h0 => by cases h0⟩)
        · obtain ⟨zs, el', nc, hrun, hnc, _⟩ := append_grow q1 (base := none) (len := 0) (cap := 0) (olds := []) (by simp [Builtin.firstCells]) hsrc (by omega) (by rw [Nat.zero_add]; exact hfit) (.inl hby) o.type
          rw [Nat.zero_add] at hrun hnc
          exact datum_new R (by rw [run_call_append hop hb, hs, hrun]; rfl) hnc (fun c0 h0 => by cases h0) (by have := relP_app (zs := zs) (M := M) (μ := Pos.none) (cs := []) (olds := []) (by simp [relL]) hrel; simpa using this)
      · exact hr.elim
    · cases h
  · rename_i t x lo hi e n x' lo' hi' hop
    simp only [Bool.and_eq_true] at h
    obtain ⟨⟨⟨q1, q2⟩, q3⟩, q4⟩ := h
    have hx := rel_okX F q2
    have hrun : ∀ {b q : Nat} {l h : Int}, a.eval x = .pointer (some ⟨b, q, none⟩) → ((lo = none ∧ l = 0) ∨ ∃ k, lo.map a.eval = some (.int k l)) → ((hi = none ∧ h = n) ∨ ∃ k, hi.map a.eval = some (.int k h)) → 0 ≤ l ∧ l ≤ h → h ≤ n →
        (execOp a.eval o).run P w = .ok (.value (.slice (some (if n = l.toNat then ⟨b, q, none⟩ else ⟨b, q + l.toNat * e, none⟩)) (h.toNat - l.toNat) (n - l.toNat))) w := by
      intro b q l h hv hl hh h1 h2
      unfold okAsub at q1
      split at q1
      · rename_i m el hu
        simp only [Bool.and_eq_true, beq_iff_eq] at q1
        obtain ⟨rfl, hsz⟩ := q1
        simp only [execOp, hop, hv, Option.map_none, Instr.sliceAt, Instr.sureAddr, Sem.run_bind, run_underlying hu, Result.andThen_ok, Sem.run_pure, run_bounds2 (P := P) (isS := false) (len := m) (cap := m) hl hh h1 h2, run_sizeOf hsz, add_addr]
      · rename_i arr hu
        split at q1
        · rename_i m el hu2
          simp only [Bool.and_eq_true, beq_iff_eq] at q1
          obtain ⟨rfl, hsz⟩ := q1
          simp only [execOp, hop, hv, Option.map_none, Instr.sliceAt, Instr.slice, asAddr, Sem.run_bind, run_underlying hu, run_underlying hu2, Result.andThen_ok, Sem.run_pure, run_bounds2 (P := P) (isS := false) (len := m) (cap := m) hl hh h1 h2, run_sizeOf hsz, add_addr]
        · cases q1
      · cases q1
    simp only [DOp.run] at hr
    split at hr
    · rename_i k off hc
      rw [hc] at hx; simp only [relV] at hx
      obtain ⟨b, sz, hμ, hv⟩ := hx
      split at hr
      · rename_i cs hcs
        obtain ⟨l, hr, hl⟩ := optI_spec q3 F hr
        obtain ⟨h, hr, hh⟩ := optI_spec q4 F hr
        obtain ⟨⟨c1, c2, c3, c4, c5⟩, hk⟩ := hr
        obtain ⟨b', sz', cc, el, fz, r1, r2, r3, r4, r5⟩ := R.cells k cs (hHr _ _ hcs)
        rw [hμ] at r1; cases r1
        have hple := relP_length r5
        refine ⟨_, hk, _, w, M, hrun hv hl hh ⟨c1, c3⟩ c4, R, ?_, Move.refl _ _ _ _⟩
        simp only [relV]
        refine ⟨b, sz, n - l.toNat, hμ, ?_, by omega, ?_, fun c0 h0 => by cases h0; rfl⟩
        · rw [if_neg (by omega)]; simp only [Value.slice.injEq, true_and, and_true]; omega
        · have e1 : (n - l.toNat) * e + l.toNat * e = n * e := by rw [← Nat.add_mul]; congr 1; omega
          simp only [Array.length_toList] at hple
          omega
      · exact hr.elim
    · rename_i cs hc
      rw [hc] at hx; simp only [relV] at hx
      obtain ⟨b, q, hv, hm⟩ := hx
      obtain ⟨l, hr, hl⟩ := optI_spec q3 F hr
      obtain ⟨h, hr, hh⟩ := optI_spec q4 F hr
      obtain ⟨⟨c1, c3, c4⟩, hk⟩ := hr
      refine ⟨_, hk, _, w, M, hrun hv hl hh ⟨c1, c3⟩ c4, R, ?_, Move.refl _ _ _ _⟩
      simp only [relV]
      refine .inl ⟨b, if n = l.toNat then q else q + l.toNat * e, n - l.toNat, ?_, by omega, fun c0 h0 => by cases h0; rfl, ?_⟩
      · split
        · simp only [Value.slice.injEq, true_and, and_true]; omega
        · simp only [Value.slice.injEq, true_and, and_true]; omega
      · split
        · have : (h - l).toNat * e = 0 := by rw [show (h - l).toNat = 0 by omega, Nat.zero_mul]
          rw [this]; simp [relM]
        · exact relM_take _ (relM_drop _ hm)
    · exact hr.elim
  · simp only [Bool.and_eq_true] at h
    exact sound_sl2s ‹_› h.1.1 h.1.2 h.2 F R hHr hr
  · cases h
end
end Go.Eng

namespace Go.Eng
open Go
variable [Globs]
section
variable {P : Program} {N : Nat} {M : Mem} {μ : Pos} {H : Heap} {fr : Fr} {a : Act} {w : World} {Hr : Nat → AB}
theorem srcK_det {e : Nat} {x : AV} {K : List AV → Nat → Prop} (h : srcK Hr e x K) : ∃ cs n, K cs n ∧ srcK Hr e x (fun cs' n' => cs' = cs ∧ n' = n) := by
  unfold srcK at h ⊢
  split at h
  · exact ⟨_, _, h.r, h.l, rfl, rfl⟩
  · exact ⟨_, _, h, rfl, rfl⟩
  · split at h
    · exact ⟨_, _, h.r, h.l, rfl, rfl⟩
    · exact h.elim
  · exact h.elim
theorem srcK_mono {e : Nat} {x : AV} {K K' : List AV → Nat → Prop} (hk : ∀ cs n, K cs n → K' cs n) (h : srcK Hr e x K) : srcK Hr e x K' := by
  unfold srcK at h ⊢
  split at h
  · exact ⟨h.l, hk _ _ h.r⟩
  · exact hk _ _ h
  · split at h
    · rename_i hq; exact ⟨h.l, hk _ _ h.r⟩
    · exact h.elim
  · exact h.elim


/-- An append, of nothing too. -/
def appN (cur : Nat → AB) (Hr : Nat → AB) (p e bytes : Nat) (s x : AV) (K : AV → AB → Option Nat → Prop) : Prop := match s with
  | .slice k off len cap e' => appK cur Hr p e bytes (.slice k off len cap e') x fun v l kl => K v (.cells l) kl
  | .dslice cs len cap => srcK Hr e x fun ds n => Branch (decide (n = 0)) (K (.dslice cs len cap) .dead none) (Side (cap = some len ∧ len * e ≤ cs.length ∧ fits (len + n) bytes ∧ ∀ c ∈ ds, scal c = true) (K (.slice p 0 (len + n) none e) (.cells (cs.take (len * e) ++ ds)) none))
  | .nils => srcK Hr e x fun ds n => Branch (decide (n = 0)) (K .nils .dead none) (Side (fits n bytes ∧ ∀ c ∈ ds, scal c = true) (K (.slice p 0 n none e) (.cells ds) none))
  | _ => False
theorem Laid.idle {o : Oper} {p : Nat} {v : AV} {u : Value} (R : Rel M μ H w) (hfree : μ p = none) (hrun : (execOp a.eval o).run P w = .ok (.value u) w) (hv : relV M v μ u) : Laid P o a M μ H w p v ((killO H none).set p .dead) := by
  obtain ⟨R1, own⟩ := R.kill p (fun es h => by obtain ⟨_, _, _, _, h1, _⟩ := R.maps p es h; rw [hfree] at h1; cases h1)
  exact ⟨_, w, μ, hrun, R1, hv, Pos.le_refl _, fun n _ => ⟨Mem.le_refl _, fun _ _ => rfl, Keep.refl _ _, fun b hb => .inl (own b hb), fun _ _ _ h => .inl h⟩, fun _ _ => rfl⟩
theorem appN_laid {q0 : TypeId → Bool} {c : Call} {s x : Operand} {ts : List TypeId} {e bytes : Nat} {o : Oper} (ho : o.op = .call c) (hb : bcall c .append = some ([s, x], ts)) (hok : okAppendQ P q0 ts e bytes = true) (hby : 0 < bytes) {sv xv : AV} (hs' : relV M sv μ (a.eval s)) (htx : ∀ {K : List AV → Nat → Prop}, srcK Hr e xv K → ∃ ds n, K ds n ∧ ds.length = n * e ∧ ∃ news, relL M ds μ news ∧ ((∀ v ∈ news, v.oneCell' = true) → ∀ tx, q0 tx = true → Src P e tx (a.eval x) n news w))
    (R : Rel M μ H w) {p : Nat} (hp : p < H.nx) (hfree : μ p = none) {K : AV → AB → Option Nat → Prop} (hr : appN H.get Hr p e bytes sv xv K) :
    ∃ v ab kl, K v ab kl ∧ Laid P o a M μ H w p v ((killO H kl).set p ab) := by
  have fin : ∀ {K' : AV → List AV → Option Nat → Prop}, appK H.get Hr p e bytes sv xv K' → (∀ v l kl, K' v l kl → K v (.cells l) kl) → ∃ v ab kl, K v ab kl ∧ Laid P o a M μ H w p v ((killO H kl).set p ab) := by
    intro K' h hk
    obtain ⟨v, l, kl, h1, h2⟩ := append_laid ho hb hok hby hs' htx R hp hfree h
    exact ⟨v, _, kl, hk _ _ _ h1, h2⟩
  have nil : ∀ {base : Option Addr} {len cp : Nat}, srcK Hr e xv (fun _ n => n = 0) → a.eval s = .slice base len cp → (base = none ∨ ∃ a, base = some a) → len ≤ cp → (execOp a.eval o).run P w = .ok (.value (.slice base len cp)) w := by
    intro base len cp hn hv hb' hl
    obtain ⟨ds, n, hn0, hdl, news, hrel, hsrc⟩ := htx hn
    subst hn0
    have hds : ds = [] := List.eq_nil_of_length_eq_zero (by omega)
    subst hds
    have hnews : news = [] := by simpa [relL] using hrel
    subst hnews
    rw [run_call_append ho hb, hv, append_nil hok hb' (hsrc (by simp)) hl]; rfl
  unfold appN at hr
  split at hr
  · exact fin hr fun _ _ _ h => h
  · rename_i cs len cap
    obtain ⟨ds, n, h1, h2⟩ := srcK_det hr
    by_cases hn : n = 0
    · have hk := h1.yes (by simpa using hn)
      refine ⟨_, _, _, hk, ?_⟩
      have hz : srcK Hr e xv (fun _ n => n = 0) := srcK_mono (fun _ _ ⟨_, e2⟩ => by rw [e2]; exact hn) h2
      have hs := hs'
      simp only [relV] at hs
      rcases hs with ⟨b, q, cp, hv, hlc, hcap, hm⟩ | ⟨hv, rfl, rfl, hcap⟩ | ⟨b, q, sp, cp, hv, rfl, rfl, hcap⟩
      · exact Laid.idle R hfree (nil hz hv (.inr ⟨_, rfl⟩) hlc) (by simp only [relV]; exact .inl ⟨b, q, cp, rfl, hlc, hcap, hm⟩)
      · exact Laid.idle R hfree (nil hz hv (.inl rfl) (Nat.le_refl _)) (by simp only [relV]; exact .inr (.inl ⟨trivial, trivial, trivial, hcap⟩))
      · exact Laid.idle R hfree (nil hz hv (.inr ⟨_, rfl⟩) (Nat.zero_le _)) (by simp only [relV]; exact .inr (.inr ⟨b, q, sp, cp, rfl, trivial, trivial, hcap⟩))
    · have hk := h1.no (by simpa using hn)
      exact fin (K' := fun v l kl => K v (.cells l) kl) (by unfold appK; exact srcK_mono (fun _ _ ⟨e1, e2⟩ => by subst e1; subst e2; exact ⟨⟨hk.l.1, by omega, hk.l.2.1, hk.l.2.2.1, hk.l.2.2.2⟩, hk.r⟩) h2) fun _ _ _ h => h
  · obtain ⟨ds, n, h1, h2⟩ := srcK_det hr
    by_cases hn : n = 0
    · have hk := h1.yes (by simpa using hn)
      refine ⟨_, _, _, hk, ?_⟩
      have hz : srcK Hr e xv (fun _ n => n = 0) := srcK_mono (fun _ _ ⟨_, e2⟩ => by rw [e2]; exact hn) h2
      have hs := hs'
      simp only [relV] at hs
      exact Laid.idle R hfree (nil hz hs (.inl rfl) (Nat.le_refl _)) (by simp only [relV])
    · have hk := h1.no (by simpa using hn)
      exact fin (K' := fun v l kl => K v (.cells l) kl) (by unfold appK; exact srcK_mono (fun _ _ ⟨e1, e2⟩ => by subst e1; subst e2; exact ⟨⟨by omega, hk.l.1, hk.l.2⟩, hk.r⟩) h2) fun _ _ _ h => h
  · exact hr.elim

/-- A full slice in the midst of a block grows: a new array, and the old one stays. -/
def appF (cur : Nat → AB) (Hr : Nat → AB) (p e bytes : Nat) (s x : AV) (K : AV → AB → Option Nat → Prop) : Prop := match s with
  | .slice k off len (some c) e' => match cur k with
    | .cells cs => srcK Hr e x fun ds n => Side (e' = e ∧ c = len ∧ 0 < n ∧ off + len * e ≤ cs.length ∧ fits (len + n) bytes ∧ ∀ c ∈ ds, scal c = true) (K (.slice p 0 (len + n) none e) (.cells ((cs.drop off).take (len * e) ++ ds)) none)
    | _ => False
  | _ => False
theorem appF_laid {q0 : TypeId → Bool} {c : Call} {s x : Operand} {ts : List TypeId} {e bytes : Nat} {o : Oper} (ho : o.op = .call c) (hb : bcall c .append = some ([s, x], ts)) (hok : okAppendQ P q0 ts e bytes = true) (hby : 0 < bytes) {sv xv : AV} (hs' : relV M sv μ (a.eval s)) (htx : ∀ {K : List AV → Nat → Prop}, srcK Hr e xv K → ∃ ds n, K ds n ∧ ds.length = n * e ∧ ∃ news, relL M ds μ news ∧ ((∀ v ∈ news, v.oneCell' = true) → ∀ tx, q0 tx = true → Src P e tx (a.eval x) n news w))
    (R : Rel M μ H w) {p : Nat} (hp : p < H.nx) (hfree : μ p = none) {K : AV → AB → Option Nat → Prop} (hr : appF H.get Hr p e bytes sv xv K) :
    ∃ v ab kl, K v ab kl ∧ Laid P o a M μ H w p v ((killO H kl).set p ab) := by
  unfold appF at hr
  split at hr
  · rename_i k off len c0 e'
    simp only [relV] at hs'
    obtain ⟨b, sz, cp, hμ, hv, hlc, hsz, hcap⟩ := hs'
    split at hr
    · rename_i cs hk
      obtain ⟨ds, n, hside, hdl, news, hrel, hsrc⟩ := htx hr
      obtain ⟨⟨rfl, rfl, hn0, hcl, hfit, hsc⟩, hkk⟩ := hside
      have hsrc' := hsrc (relL_one (by simpa using hsc) hrel)
      have hcp := hcap _ rfl
      refine ⟨_, _, _, hkk, ?_⟩
      obtain ⟨olds, o1, o2, o3⟩ := cells_cells R hk hμ (off := off) (c0 * e') hcl
      obtain ⟨zs, el', nc, hrun, hnc, hncs⟩ := append_grow hok (base := some ⟨b, off, none⟩) (len := c0) (cap := cp) (olds := olds) (firstCells_slice o1 o3) hsrc' (by omega) hfit (.inl hby) o.type
      exact Laid.of_new R hp hfree none (fun _ e => by cases e) (relP_app o2 hrel) (by rw [run_call_append ho hb, hv, hrun]; rfl) hnc (hncs o1)
    · exact hr.elim
  · exact hr.elim

def LOp.run (ev : AX → AV) (cur : Nat → AB) (Hr : Nat → AB) (p : Nat) (K : AV → AB → Option Nat → Prop) : LOp → Prop
  | .bslice e len zero parts => buildK ev (parts.map fun x => (x.1, e, x.2)) (rep zero len) fun cs => K (.slice p 0 len (some len) e) (.cells cs) none
  | .append e bytes s x => appN cur Hr p e bytes (ev s) (ev x) K
  | .appendS bytes s x => appN cur Hr p 1 bytes (ev s) (strD (ev x)) K
  | .appendF e bytes s x => appF cur Hr p e bytes (ev s) (ev x) K
  | .make e bytes zero n => match ev n with
    | .int _ i => Side (0 ≤ i ∧ (bytes : Int) * i ≤ 281474976710656 ∧ i ≤ 9223372036854775807) (K (.slice p 0 i.toNat (some i.toNat) e) (.cells (rep zero i.toNat)) none)
    | _ => False
theorem rep_len {zero : List AV} : ∀ n, (rep zero n).length = n * zero.length
  | 0 => by simp [rep]
  | n + 1 => by simp only [rep, List.length_append, rep_len n, Nat.add_mul]; omega
theorem relP_made {M : Mem} {μ : Pos} {zero : List AV} {z : Array Value} (h : relL M zero μ z.toList) (n : Nat) : relP M μ (rep zero n) (madeCells z (n * zero.length)).toList := by
  refine relP_of_get fun i c hi => ?_
  have hz : z.size = zero.length := by have := relL_length h; simpa using this
  have hlt : i < n * zero.length := by
    have := (List.getElem?_eq_some_iff.1 hi).1
    rwa [rep_len] at this
  have h0 : 0 < zero.length := by
    rcases Nat.eq_zero_or_pos zero.length with e | e
    · rw [e] at hlt; simp at hlt
    · exact e
  rw [rep_get rfl n i hlt] at hi
  obtain ⟨v, hv, hr⟩ := relL_get h hi
  refine ⟨v, ?_, hr⟩
  have hm : i % z.size < z.size := Nat.mod_lt _ (by omega)
  have hv' : z[i % z.size]? = some v := by rw [hz]; simpa using hv
  have hget : z[i % z.size]! = v := by
    rw [getElem!_pos z (i % z.size) hm]
    exact Option.some.inj ((getElem?_pos z (i % z.size) hm).symm.trans hv')
  simp only [madeCells, Array.toList_map, Array.toList_range, List.getElem?_map]
  rw [List.getElem?_range hlt]
  simp [hget]
theorem sound_make {t : TypeId} {l c : Operand} {e bytes : Nat} {zero : List AV} {n : AX} {o : Oper} (ho : o.op = .makeSlice t l c) (h1 : okMake P t e bytes zero = true) (h2 : okX l n = true) (h3 : okX c n = true) (F : RelF N M μ fr a.tmps) (R : Rel M μ H w) {p : Nat} (hp : p < H.nx) (hfree : μ p = none) {K : AV → AB → Option Nat → Prop}
    (hr : (LOp.make e bytes zero n).run (AX.ev fr) H.get Hr p K) : ∃ v ab kl, K v ab kl ∧ Laid P o a M μ H w p v ((killO H kl).set p ab) := by
  have hl := rel_okX F h2
  have hc := rel_okX F h3
  simp only [LOp.run] at hr
  split at hr
  · rename_i k i hn
    rw [hn] at hl hc
    have hl := rel_int hl
    have hc := rel_int hc
    obtain ⟨⟨q1, q2, q3⟩, hk⟩ := hr
    unfold okMake at h1
    split at h1
    · rename_i el hu
      split at h1
      · rename_i inf hi
        simp only [Bool.and_eq_true, beq_iff_eq] at h1
        obtain ⟨⟨⟨rfl, rfl⟩, hz⟩, h1⟩ := h1
        split at h1
        · rename_i z hzz
          have hrel : relL M zero μ z.cells.toList := rel_okVs h1
          have hrun := run_make (P := P) w t el inf z hu hi hzz k k i i q1 (Int.le_refl _) q2 q3
          rw [← hz] at hrun
          obtain ⟨R2, L, G⟩ := R.lay (p := p) (el := el) hp hfree (relP_made hrel i.toNat)
          have hrun2 : (execOp a.eval o).run P w = .ok (.value (.slice (some ⟨w.heap.size, 0, none⟩) i.toNat i.toNat)) (w.alloc (.cells (madeCells z.cells (i.toNat * zero.length)) el)) := by
            simp only [execOp, ho, hl, hc, Sem.run_bind, hrun, Result.andThen_ok, Sem.run_pure]
          refine ⟨_, _, _, hk, _, _, _, hrun2, R2, ?_, L, fun n hn => G n hn, fun j hj => Pos.put_other _ _ hj⟩
          simp only [relV]
          exact ⟨w.heap.size, _, i.toNat, Pos.put_same _ _ _, rfl, Nat.le_refl _, by rw [size_madeCells, hz]; omega, fun c0 h0 => by cases h0; rfl⟩
        · cases h1
      · cases h1
    · cases h1
  · exact hr.elim

theorem srcK_str {x : Operand} {xv : AV} (hx : relV M xv μ (a.eval x)) {K : List AV → Nat → Prop} (hk : srcK Hr 1 (strD xv) K) : ∃ ds n, K ds n ∧ ds.length = n * 1 ∧ ∃ news, relL M ds μ news ∧ ((∀ v ∈ news, v.oneCell' = true) → ∀ tx, isStr P tx = true → Src P 1 tx (a.eval x) n news w) := by
  unfold srcK strD at hk
  cases xv <;> simp only at hk
  rename_i s
  have hv := rel_str hx
  refine ⟨_, s.size, hk.r, ?_, byteCells s, ?_, fun _ tx htx => by rw [hv]; exact Src.ofString w (isStr_spec htx) s⟩
  · rw [List.length_take, strCells_len]; omega
  · rw [List.take_of_length_le (by rw [strCells_len]; omega)]; exact strCells_rel s
theorem lop_sound {o : Oper} {q : LOp} (h : okL P o.op q = true) (F : RelF N M μ fr a.tmps) (R : Rel M μ H w) {Hr : Nat → AB} (hHr : ∀ k cs, Hr k = .cells cs → H.get k = .cells cs) {p : Nat} (hp : p < H.nx) (hfree : μ p = none) {K : AV → AB → Option Nat → Prop}
    (hr : q.run (AX.ev fr) H.get Hr p K) : ∃ v ab kl, K v ab kl ∧ Laid P o a M μ H w p v ((killO H kl).set p ab) := by
  unfold okL at h
  split at h
  · rename_i t n ps e len zero parts hop
    simp only [LOp.run] at hr
    obtain ⟨us, ds, el, h1, h2, h3, h4⟩ := sound_bs hop h F hr w
    obtain ⟨R2, L, G⟩ := R.lay (p := p) (el := el) hp hfree (relP_of_relL h2)
    refine ⟨_, _, _, h4, _, _, _, h1, R2, ?_, L, fun n hn => G n hn, fun j hj => Pos.put_other _ _ hj⟩
    simp only [relV]
    exact ⟨w.heap.size, _, len, Pos.put_same _ _ _, rfl, Nat.le_refl _, by rw [h3]; omega, fun c0 h0 => by cases h0; rfl⟩
  · rename_i c e bytes s x hop
    split at h
    · rename_i s' x' ts hb
      simp only [Bool.and_eq_true] at h
      obtain ⟨⟨⟨q1, q2⟩, q3⟩, q4⟩ := h
      simp only [LOp.run] at hr
      exact appN_laid hop hb q1 (by simpa [Nat.blt_eq] using q2) (rel_okX F q3) (fun hk => srcK_src q1 (rel_okX F q4) R hHr hk) R hp hfree hr
    · cases h
  · rename_i c bytes s x hop
    split at h
    · rename_i s' x' ts hb
      simp only [Bool.and_eq_true] at h
      obtain ⟨⟨⟨q1, q2⟩, q3⟩, q4⟩ := h
      simp only [LOp.run] at hr
      exact appN_laid hop hb q1 (by simpa [Nat.blt_eq] using q2) (rel_okX F q3) (fun hk => srcK_str (rel_okX F q4) hk) R hp hfree hr
    · cases h
  · rename_i c e bytes s x hop
    split at h
    · rename_i s' x' ts hb
      simp only [Bool.and_eq_true] at h
      obtain ⟨⟨⟨q1, q2⟩, q3⟩, q4⟩ := h
      simp only [LOp.run] at hr
      exact appF_laid hop hb q1 (by simpa [Nat.blt_eq] using q2) (rel_okX F q3) (fun hk => srcK_src q1 (rel_okX F q4) R hHr hk) R hp hfree hr
    · cases h
  · simp only [Bool.and_eq_true] at h
    exact sound_make ‹_› h.1.1 h.1.2 h.2 F R hp hfree hr
  · cases h

end
end Go.Eng

namespace Go.Eng
open Go

variable [Globs]
/-! ### Walks over maps -/
section
variable {P : Program} {M : Mem} {μ : Pos} {H : Heap} {w : World}
theorem Rel.layI (R : Rel M μ H w) {p : Nat} (hp : p < H.nx) (hfree : μ p = none) {k bm sz : Nat} {es0 : List (AV × AV)} {ents : Array MapEntry} {clock : Nat} (hk : H.get k = .map es0) (hμ : μ k = some (bm, sz)) (hb : w.heap[bm]? = some (.map ents clock)) (hE : relE M es0 ents.toList) (hc1 : ∀ e ∈ ents.toList, e.born < clock) (hc2 : (ents.toList.map (·.born)).Nodup) :
    Rel M (μ.put p (w.heap.size, 0)) (H.set p (.iter k es0 none)) (w.alloc (.mapIter (some bm) clock #[] clock)) ∧ Pos.le μ (μ.put p (w.heap.size, 0)) ∧
      (∀ n, n ≤ p → Grow n M μ H w M (μ.put p (w.heap.size, 0)) (H.set p (.iter k es0 none)) (w.alloc (.mapIter (some bm) clock #[] clock))) := by
  have hle : Pos.le μ (μ.put p (w.heap.size, 0)) := Pos.le_put hfree _
  have hdead : H.get p = .dead := by
    cases hg : H.get p with
    | dead => rfl
    | cells ds => obtain ⟨b, sz, _, _, _, h, _⟩ := R.cells p ds hg; rw [hfree] at h; cases h
    | map es => obtain ⟨b, sz, _, _, h, _⟩ := R.maps p es hg; rw [hfree] at h; cases h
    | iter k left cur => obtain ⟨_, b, sz, h, _⟩ := R.iters p k left cur hg; rw [hfree] at h; cases h
    | loop st id fr => obtain ⟨b, sz, h, _⟩ := R.loops p st id fr hg; rw [hfree] at h; cases h
  have old : ∀ j b s, H.get j ≠ .dead → (μ.put p (w.heap.size, 0)) j = some (b, s) → μ j = some (b, s) ∧ b < w.heap.size := fun j b s hj hx => by
    have hjp : j ≠ p := fun e => hj (e ▸ hdead)
    rw [Pos.put_other μ _ hjp] at hx
    exact ⟨hx, R.own_lt ⟨j, s, hj, hx⟩⟩
  have new : ∀ b s, (μ.put p (w.heap.size, 0)) p = some (b, s) → b = w.heap.size := fun b s hx => by
    rw [Pos.put_same] at hx; simp at hx; exact hx.1.symm
  have ownlt : ∀ {j b s}, H.get j ≠ .dead → μ j = some (b, s) → b < w.heap.size := fun hj hx => R.own_lt ⟨_, _, hj, hx⟩
  have alive : ∀ j, (H.set p (.iter k es0 none)).get j ≠ .dead → j ≠ p → H.get j ≠ .dead := fun j hj hjp => by
    rw [Heap.get_set, if_neg (Ne.symm hjp)] at hj; exact hj
  refine ⟨⟨R.glob, fun k hk => ?_, fun j hj => ?_, fun j ds hj => ?_, fun j es hj => ?_, fun j k' left cur hj => ?_, R.recs_same (Mem.le_refl _) (fun j st id fr hj => ?_) hle (fun x hx _ => alloc_heap_lt w _ hx), fun i j x s t hi hj hx hy => ?_, fun x o v hv => ?_, fun j x s hj hx o => ?_⟩, hle, fun n hn => ⟨Mem.le_refl _, fun k hk => Pos.put_other μ _ (by omega), ⟨rfl, rfl, rfl, by simp, fun x hx _ => alloc_heap_lt w _ hx⟩, fun x hx => ?_, fun _ _ _ h => .inl h⟩⟩
  · have hk' : H.nx ≤ k := hk
    rw [Pos.put_other μ _ (by omega)]; exact R.dom k hk'
  · have hj' : H.nx ≤ j := hj
    rw [Heap.get_set, if_neg (by omega)]; exact R.top j hj'
  · rw [Heap.get_set] at hj
    split at hj
    · cases hj
    · obtain ⟨b', s', d, el', fz', h1, h2, h3, h4, h5⟩ := R.cells j ds hj
      exact ⟨b', s', d, el', fz', hle _ _ h1, by rw [alloc_heap_lt w _ (ownlt (by rw [hj]; simp) h1)]; exact h2, h3, h4, relP_mono (Mem.le_refl _) hle _ h5⟩
  · rw [Heap.get_set] at hj
    split at hj
    · cases hj
    · obtain ⟨b', s', ents, clock, h1, h2, h3, h4⟩ := R.maps j es hj
      exact ⟨b', s', ents, clock, hle _ _ h1, by rw [alloc_heap_lt w _ (ownlt (by rw [hj]; simp) h1)]; exact h2, h3, h4⟩
  · have hkp : p ≠ k := fun e => by rw [e, hμ] at hfree; cases hfree
    rw [Heap.get_set] at hj
    split at hj
    · rename_i hpj; subst hpj; cases hj
      refine ⟨?_, w.heap.size, 0, Pos.put_same _ _ _, bm, sz, ents, clock, clock, #[], clock, hle _ _ hμ, alloc_heap_new w _, by rw [alloc_heap_lt w _ (ownlt (by rw [hk]; simp) hμ)]; exact hb, hc1, ⟨Nat.le_refl _, Nat.le_refl _⟩, hc2, ?_, fun c hc => by cases hc⟩
      · rw [Heap.get_set, if_neg hkp, hk]; simp
      · have : ents.toList.filter (fun e => !(#[] : Array Nat).contains e.born) = ents.toList := by simp
        rw [this]; exact hE
    · have hal := (R.iters j k' left cur hj).1
      obtain ⟨_, b, s, g1, bm', s2, ents', clock', since, seen, last, g2, g3, g4, g5⟩ := R.iters j k' left cur hj
      refine ⟨?_, b, s, hle _ _ g1, bm', s2, ents', clock', since, seen, last, hle _ _ g2, by rw [alloc_heap_lt w _ (ownlt (by rw [hj]; simp) g1)]; exact g3, by rw [alloc_heap_lt w _ (ownlt hal g2)]; exact g4, g5⟩
      rw [Heap.get_set]; split
      · simp
      · exact hal
  · rw [Heap.get_set] at hj
    split at hj
    · cases hj
    · exact hj
  · by_cases hi' : i = p
    · by_cases hj' : j = p
      · omega
      · subst hi'
        have := new x s hx
        have := (old j x t (alive j hj hj') hy).2
        omega
    · by_cases hj' : j = p
      · subst hj'
        have := new x t hy
        have := (old i x s (alive i hi hi') hx).2
        omega
      · exact R.inj i j x s t (alive i hi hi') (alive j hj hj') (old i x s (alive i hi hi') hx).1 (old j x t (alive j hj hj') hy).1
  · rw [World.cell?_alloc_lt w _ ⟨x, o, none⟩ (R.cell_lt hv)]; exact R.imm x o v hv
  · by_cases hj' : j = p
    · subst hj'
      have hb := new x s hx
      cases hm : M x o with
      | none => rfl
      | some v => have := R.cell_lt hm; omega
    · exact R.apart j x s (alive j hj hj') (old j x s (alive j hj hj') hx).1 o
  · obtain ⟨k, s, hk, hμ⟩ := hx
    by_cases hk' : k = p
    · subst hk'; have := new x s hμ; exact .inr (by omega)
    · exact .inl ⟨k, s, alive k hk hk', (old k x s (alive k hk hk') hμ).1⟩



theorem Rel.pushI (R : Rel M μ H w) {k bm sz : Nat} {es0 : List (AV × AV)} {ents : Array MapEntry} {clock : Nat} (hk : H.get k = .map es0) (hμ : μ k = some (bm, sz)) (hb : w.heap[bm]? = some (.map ents clock)) (hE : relE M es0 ents.toList) (hc1 : ∀ e ∈ ents.toList, e.born < clock) (hc2 : (ents.toList.map (·.born)).Nodup) :
    Rel M (μ.put H.nx (w.heap.size, 0)) (H.push (.iter k es0 none)) (w.alloc (.mapIter (some bm) clock #[] clock)) ∧ Move M μ H w M (μ.put H.nx (w.heap.size, 0)) (H.push (.iter k es0 none)) (w.alloc (.mapIter (some bm) clock #[] clock)) := by
  have R1 := R.room 1
  obtain ⟨h1, h2, h3⟩ := R1.layI (p := H.nx) (Nat.lt_succ_self _) (R.dom _ (Nat.le_refl _)) hk hμ hb hE hc1 hc2
  have G := h3 H.nx (Nat.le_refl _)
  exact ⟨h1, h2, ⟨G.mem, G.pin, G.keep, G.own, G.fresh⟩, Nat.le_succ _⟩
theorem relE_mem : ∀ {es : List (AV × AV)} {l : List MapEntry} {e : MapEntry}, relE M es l → e ∈ l → ∃ l1 a b l2 L1 L2, es = l1 ++ (a, b) :: l2 ∧ l = L1 ++ e :: L2 ∧ relV M a Pos.none e.key ∧ relV M b Pos.none e.val ∧ relE M (l1 ++ l2) (L1 ++ L2)
  | [], l, e, h, he => by simp only [relE] at h; subst h; simp at he
  | (k, v) :: r, l, e, h, he => by
    simp only [relE] at h
    obtain ⟨e0, t, rfl, h1, h2, h3⟩ := h
    rcases List.mem_cons.1 he with rfl | he
    · exact ⟨[], k, v, r, [], t, rfl, rfl, h1, h2, h3⟩
    · obtain ⟨l1, a, b, l2, L1, L2, rfl, rfl, g1, g2, g3⟩ := relE_mem h3 he
      refine ⟨(k, v) :: l1, a, b, l2, e0 :: L1, L2, rfl, rfl, g1, g2, ?_⟩
      simp only [List.cons_append, relE]
      exact ⟨e0, _, rfl, h1, h2, g3⟩
theorem left_step {es L1 L2 : List MapEntry} {seen : Array Nat} {e : MapEntry} (hn : (es.map (·.born)).Nodup) (h : es.filter (fun x => !seen.contains x.born) = L1 ++ e :: L2) : es.filter (fun x => !(seen.push e.born).contains x.born) = L1 ++ L2 := by
  have h1 : es.filter (fun x => !(seen.push e.born).contains x.born) = (es.filter (fun x => !seen.contains x.born)).filter (fun x => x.born != e.born) := by
    rw [List.filter_filter]
    refine List.filter_congr fun x _ => ?_
    simp only [Array.contains_push]
    cases seen.contains x.born <;> simp [bne, Bool.beq_comm, eq_comm]
  rw [h1, h]
  have hs : (List.map (·.born) (L1 ++ e :: L2)).Nodup := by
    rw [← h]; exact List.Sublist.nodup (List.Sublist.map _ List.filter_sublist) hn
  simp only [List.map_append, List.map_cons, List.nodup_append, List.nodup_cons, List.mem_map, List.mem_cons] at hs
  have f1 : L1.filter (fun x => x.born != e.born) = L1 := by
    rw [List.filter_eq_self]
    intro x hx
    have := hs.2.2 x.born ⟨x, hx, rfl⟩ e.born (.inl rfl)
    simpa using this
  have f2 : L2.filter (fun x => x.born != e.born) = L2 := by
    rw [List.filter_eq_self]
    intro x hx
    have := hs.2.1.1
    simp only [bne_iff_ne, ne_eq]
    exact fun h => this ⟨x, hx, h⟩
  rw [List.filter_append, List.filter_cons, f1, f2]
  simp
theorem Rel.stepI (R : Rel M μ H w) {j0 k r s0 bm s2 : Nat} {left l' : List (AV × AV)} {cur : Option (AV × AV)} {o0 : Obj} {ents : Array MapEntry} {clock since : Nat} {seen : Array Nat} {e : MapEntry} {p : AV × AV} (hj0 : H.get j0 = .iter k left cur) (hμ : μ j0 = some (r, s0)) (hμk : μ k = some (bm, s2)) (hb : w.heap[r]? = some o0) (hbm : w.heap[bm]? = some (.map ents clock))
    (h5 : ∀ e ∈ ents.toList, e.born < since) (h6 : since ≤ clock) (h7 : (ents.toList.map (·.born)).Nodup) (hE : relE M l' (ents.toList.filter fun x => !(seen.push e.born).contains x.born)) (he : e ∈ ents.toList) (hp1 : relV M p.1 Pos.none e.key) (hp2 : relV M p.2 Pos.none e.val) :
    Rel M μ (H.set j0 (.iter k l' (some p))) { w with heap := w.heap.setIfInBounds r (.mapIter (some bm) since (seen.push e.born) clock) } ∧ Move M μ H w M μ (H.set j0 (.iter k l' (some p))) { w with heap := w.heap.setIfInBounds r (.mapIter (some bm) since (seen.push e.born) clock) } := by
  have hne : H.get j0 ≠ .dead := by rw [hj0]; simp
  obtain ⟨esk, hesk⟩ := R.iter_map hj0
  have hkj : k ≠ j0 := fun e => by rw [e, hj0] at hesk; cases hesk
  have other : ∀ j b' s, H.get j ≠ .dead → μ j = some (b', s) → j ≠ j0 → b' ≠ r := fun j b' s hj hμ' hjk e => hjk (R.inj j j0 r s s0 hj hne (e ▸ hμ') hμ)
  refine ⟨⟨R.glob, R.dom, fun j hj => ?_, fun j ds hj => ?_, fun j es hj => ?_, fun j k' left cur hj => ?_, R.recs (Mem.le_refl _) (fun j st id fr hj => ?_), fun i j x s t hi hj hx hy => ?_, fun x o v hv => ?_, fun j x s hj hx o => ?_⟩, ⟨Pos.le_refl _, ⟨Mem.le_refl _, fun _ _ => rfl, ⟨rfl, rfl, rfl, by simp, fun x hx hno => (MapKept.heap_set hb).2 x (fun e => hno (e ▸ ⟨j0, s0, hne, hμ⟩))⟩, fun x hx => .inl (Own.set hne hx), fun _ _ _ h => .inl h⟩, Nat.le_refl _⟩⟩
  · rw [Heap.get_set]
    have := R.pos_lt hμ
    simp only [Heap.set] at hj
    rw [if_neg (by omega)]; exact R.top j hj
  · rw [Heap.get_set] at hj
    split at hj
    · cases hj
    · rename_i hjk
      obtain ⟨b', s', d, el', fz', h1, h2, h3, h4, h5⟩ := R.cells j ds hj
      exact ⟨b', s', d, el', fz', h1, by rw [(MapKept.heap_set hb).2 b' (other j b' s' (by rw [hj]; simp) h1 (Ne.symm hjk))]; exact h2, h3, h4, h5⟩
  · rw [Heap.get_set] at hj
    split at hj
    · cases hj
    · rename_i hjk
      obtain ⟨b', s', ents, clock, h1, h2, h3, h4⟩ := R.maps j es hj
      exact ⟨b', s', ents, clock, h1, by rw [(MapKept.heap_set hb).2 b' (other j b' s' (by rw [hj]; simp) h1 (Ne.symm hjk))]; exact h2, h3, h4⟩
  · rw [Heap.get_set] at hj
    split at hj
    · rename_i h; subst h; cases hj
      refine ⟨by rw [Heap.get_set, if_neg (Ne.symm hkj), hesk]; simp, r, s0, hμ, bm, s2, ents, clock, since, seen.push e.born, clock, hμk, (MapKept.heap_set hb).1, ?_, h5, ⟨h6, h6⟩, h7, hE, fun c hc => ?_⟩
      · rw [(MapKept.heap_set hb).2 bm (other k bm s2 (by rw [hesk]; simp) hμk hkj)]; exact hbm
      · cases hc; exact ⟨e, seen, rfl, rfl, he, hp1, hp2⟩
    · rename_i hjk
      obtain ⟨esk', hesk'⟩ := R.iter_map hj
      have hk' : k' ≠ j0 := fun e => by rw [e, hj0] at hesk'; cases hesk'
      obtain ⟨_, b, s, g1, bm', s2', ents', clock', since', seen', last, g2, g3, g4, g5⟩ := R.iters j k' left cur hj
      refine ⟨?_, b, s, g1, bm', s2', ents', clock', since', seen', last, g2, ?_, ?_, g5⟩
      · rw [Heap.get_set, if_neg (Ne.symm hk'), hesk']; simp
      · rw [(MapKept.heap_set hb).2 b (other j b s (by rw [hj]; simp) g1 (Ne.symm hjk))]; exact g3
      · rw [(MapKept.heap_set hb).2 bm' (other k' bm' s2' (by rw [hesk']; simp) g2 hk')]; exact g4
  · rw [Heap.get_set] at hj
    split at hj
    · cases hj
    · rename_i hjk
      exact ⟨j, fr, hj, fun x hx => hx, fun t v hv => hv, fun b2 s2 hx _ => (MapKept.heap_set hb).2 b2 (other j b2 s2 (by rw [hj]; simp) hx (Ne.symm hjk))⟩
  · have al : ∀ j, (H.set j0 (.iter k l' (some p))).get j ≠ .dead → H.get j ≠ .dead := fun j hj => by
      rw [Heap.get_set] at hj; split at hj
      · subst_vars; exact hne
      · exact hj
    exact R.inj i j x s t (al i hi) (al j hj) hx hy
  · rw [World.cell?_of_block (w := w) (a := ⟨x, o, none⟩) ((MapKept.heap_set hb).2 x (fun e => by
      have := R.apart j0 r s0 hne hμ o
      rw [e] at hv; rw [hv] at this; cases this))]
    exact R.imm x o v hv
  · have : H.get j ≠ .dead := by
      rw [Heap.get_set] at hj; split at hj
      · subst_vars; exact hne
      · exact hj
    exact R.apart j x s this hx o

end
end Go.Eng

namespace Go.Eng
open Go

variable [Globs]
/-! ### Data, whatever the places -/
mutual
def noLoc : AV → Bool
  | .ptr _ _ | .slice _ _ _ _ _ | .map _ | .yld _ => false
  | .func _ cs | .agg cs | .tuple cs => noLocL cs
  | _ => true
def noLocL : List AV → Bool
  | [] => true
  | c :: cs => noLoc c && noLocL cs
end
section
variable {M : Mem} {μ μ' : Pos}
mutual
theorem relV_data : ∀ (c : AV) {v : Value}, noLoc c = true → relV M c μ v → relV M c μ' v
  | .any, _, _, _ => by simp only [relV]
  | .bool b, _, _, h => by simpa only [relV] using h
  | .int k n, _, _, h => by simpa only [relV] using h
  | .str s, _, _, h => by simpa only [relV] using h
  | .nilp, _, _, h => by simpa only [relV] using h
  | .ptr _ _, _, h, _ => by simp [noLoc] at h
  | .dptr cs, _, _, h => by simpa only [relV] using h
  | .nils, _, _, h => by simpa only [relV] using h
  | .slice _ _ _ _ _, _, h, _ => by simp [noLoc] at h
  | .dslice cs l c, _, _, h => by simpa only [relV] using h
  | .nilm, _, _, h => by simpa only [relV] using h
  | .map _, _, h, _ => by simp [noLoc] at h
  | .yld _, _, h, _ => by simp [noLoc] at h
  | .nilf, _, _, h => by simpa only [relV] using h
  | .func g cs, _, hn, h => by simp only [relV, noLoc] at *; obtain ⟨vs, h1, h2⟩ := h; exact ⟨vs, h1, relL_data cs hn h2⟩
  | .agg cs, _, hn, h => by simp only [relV, noLoc] at *; obtain ⟨vs, h1, h2⟩ := h; exact ⟨vs, h1, relL_data cs hn h2⟩
  | .tuple cs, _, hn, h => by simp only [relV, noLoc] at *; obtain ⟨vs, h1, h2⟩ := h; exact ⟨vs, h1, relL_data cs hn h2⟩
theorem relL_data : ∀ (cs : List AV) {vs : List Value}, noLocL cs = true → relL M cs μ vs → relL M cs μ' vs
  | [], _, _, h => by simpa only [relL] using h
  | c :: cs, _, hn, h => by
    simp only [relL, noLocL, Bool.and_eq_true] at *; obtain ⟨v, r, h1, h2, h3⟩ := h
    exact ⟨v, r, h1, relV_data c hn.1 h2, relL_data cs hn.2 h3⟩
end
end
/-! ### Maps, by keys of one cell -/
/-- What a key is: one cell, or a struct of whole numbers. -/
inductive KK where
  | c (s : Sc)
  | f (ks : List Sc)
def cellOk : Sc → AV → Bool
  | .b, .bool _ => true
  | .i k, .int j _ => j == k
  | _, _ => false
def cellsOk : List Sc → List AV → Bool
  | [], [] => true
  | .i k :: ks, .int j _ :: cs => j == k && cellsOk ks cs
  | _, _ => false
def keyOk : KK → AV → Bool
  | .c s, v => cellOk s v
  | .f ks, .agg cs => cellsOk ks cs
  | _, _ => false
def eqL : List Sc → List AV → List AV → Option Bool
  | [], [], [] => some true
  | .i k :: ks, .int j a :: cs, .int j' b :: ds => bif (j == k && j' == k) then (match eqL ks cs ds with
    | some r => some (decide (a = b) && r)
    | none => none) else none
  | _, _, _ => none
def eqK : KK → AV → AV → Option Bool
  | .c s, a, b => eqOne s a b
  | .f ks, .agg cs, .agg ds => eqL ks cs ds
  | _, _, _ => none
def mfind (kk : KK) (key : AV) : List (AV × AV) → Option (Option AV)
  | [] => some none
  | (k, v) :: r => match eqK kk key k with
    | some true => some (some v)
    | some false => mfind kk key r
    | none => none
def mput (kk : KK) (key v : AV) : List (AV × AV) → Option (List (AV × AV))
  | [] => some [(key, v)]
  | (k, u) :: r => match eqK kk key k with
    | some true => some ((key, v) :: r)
    | some false => match mput kk key v r with
      | some r' => some ((k, u) :: r')
      | none => none
    | none => none
def mdel (kk : KK) (key : AV) : List (AV × AV) → Option (List (AV × AV))
  | [] => some []
  | (k, u) :: r => match eqK kk key k with
    | some true => some r
    | some false => match mdel kk key r with
      | some r' => some ((k, u) :: r')
      | none => none
    | none => none
structure MRes {α : Type} (r : Option α) (K : α → Prop) : Prop where
  ex : ∃ x, r = some x ∧ K x
inductive MOp where
  | mk
  | get (ok : Bool) (kk : KK) (zero : AV) (m k : AX)
  | set (kk : KK) (m k v : AX)
  | del (kk : KK) (m k : AX)
  | len (m : AX)
  | range (m : AX)
  | next (it : AX)
  | entry (it : AX)
  | delw (kk : KK) (m k it : AX)
  | copy (e : Nat) (d s : AX)
  | copyS (d s : AX)
def mval (ok : Bool) (zero : AV) (r : Option AV) : AV := match ok, r with
  | true, some v => .tuple [v, .bool true]
  | true, none => .tuple [zero, .bool false]
  | false, some v => v
  | false, none => zero
def mkMapK (H : Heap) (K : AV → Heap → Prop) : Prop := match H with
  | ⟨nx, bs⟩ => K (.map nx) ⟨nx + 1, (nx, .map []) :: bs⟩
theorem mkMapK_eq (H : Heap) (K : AV → Heap → Prop) : mkMapK H K = K (.map H.nx) (H.push (.map [])) := rfl
/-- No block walks over the map at place p. -/
def noIter (η : Nat → AB) (p n : Nat) : Bool := Nat.rec true (fun i ih => match η i with
  | .iter k _ _ => bif Nat.beq k p then false else ih
  | _ => ih) n
theorem noIter_succ (η : Nat → AB) (p n : Nat) : noIter η p (n + 1) = match η n with
  | .iter k _ _ => bif Nat.beq k p then false else noIter η p n
  | _ => noIter η p n := rfl
theorem noIter_spec {η : Nat → AB} {p : Nat} : ∀ {n : Nat}, noIter η p n = true → ∀ j, j < n → ∀ l c, η j ≠ .iter p l c
  | 0, _, j, hj, _, _ => by omega
  | n + 1, h, j, hj, l, c => by
    rw [noIter_succ] at h
    intro e
    rcases Nat.lt_or_eq_of_le (Nat.le_of_lt_succ hj) with h1 | h1
    · refine noIter_spec ?_ j h1 l c e
      split at h
      · rename_i k _ _ _
        cases hk : Nat.beq k p <;> simp only [hk, cond_true, cond_false] at h
        · exact h
        · cases h
      · exact h
    · subst h1; rw [e] at h; simp at h
theorem noIter_of {η : Nat → AB} {p : Nat} (h : ∀ j k l c, η j ≠ .iter k l c) : ∀ n, noIter η p n = true
  | 0 => rfl
  | n + 1 => by
    rw [noIter_succ]
    split
    · rename_i k l c e; exact absurd e (h n k l c)
    · exact noIter_of h n
/-- The map that a value is. -/
def mapN (η : Nat → AB) (m : AV) (K : Option Nat → List (AV × AV) → Prop) : Prop := match m with
  | .nilm => K none []
  | .map p => match η p with
    | .map es => K (some p) es
    | _ => False
  | _ => False
theorem mapN_spec {η : Nat → AB} {m : AV} {K : Option Nat → List (AV × AV) → Prop} (h : mapN η m K) : (m = .nilm ∧ K none []) ∨ ∃ p es, m = .map p ∧ η p = .map es ∧ K (some p) es := by
  unfold mapN at h
  split at h
  · exact .inl ⟨rfl, h⟩
  · split at h
    · exact .inr ⟨_, _, rfl, by assumption, h⟩
    · exact h.elim
  · exact h.elim
def mapK (H : Heap) (m : AV) (K : Option Nat → List (AV × AV) → Prop) : Prop := mapN H.get m K
/-- A walk over a map begins. -/
def iterK (H : Heap) (p : Nat) (es : List (AV × AV)) (K : AV → Heap → Prop) : Prop := match H with
  | ⟨nx, bs⟩ => K (.ptr nx 0) ⟨nx + 1, (nx, .iter p es none) :: bs⟩
theorem iterK_eq (H : Heap) (p : Nat) (es : List (AV × AV)) (K : AV → Heap → Prop) : iterK H p es K = K (.ptr H.nx 0) (H.push (.iter p es none)) := rfl
/-- The next one: none is left, or any that is. -/
structure NextA (left : List (AV × AV)) (K0 : Prop) (K1 : AV → AV → List (AV × AV) → Prop) : Prop where
  done : left = [] → K0
  step : ∀ l1 a b l2, left = l1 ++ (a, b) :: l2 → K1 a b (l1 ++ l2)
def noIterBut (η : Nat → AB) (p j0 n : Nat) : Bool := Nat.rec true (fun i ih => match η i with
  | .iter k _ _ => bif Nat.beq k p && !Nat.beq i j0 then false else ih
  | _ => ih) n
theorem noIterBut_succ (η : Nat → AB) (p j0 n : Nat) : noIterBut η p j0 (n + 1) = match η n with
  | .iter k _ _ => bif Nat.beq k p && !Nat.beq n j0 then false else noIterBut η p j0 n
  | _ => noIterBut η p j0 n := rfl
theorem noIterBut_spec {η : Nat → AB} {p j0 : Nat} : ∀ {n : Nat}, noIterBut η p j0 n = true → ∀ j, j < n → j ≠ j0 → ∀ l c, η j ≠ .iter p l c
  | 0, _, j, hj, _, _, _ => by omega
  | n + 1, h, j, hj, hne, l, c => by
    rw [noIterBut_succ] at h
    intro e
    rcases Nat.lt_or_eq_of_le (Nat.le_of_lt_succ hj) with h1 | h1
    · refine noIterBut_spec ?_ j h1 hne l c e
      split at h
      · rename_i k _ _ _
        cases hk : (Nat.beq k p && !Nat.beq n j0) <;> simp only [hk, cond_true, cond_false] at h
        · exact h
        · cases h
      · exact h
    · subst h1; rw [e] at h; simp [beq_false hne] at h
def cpK (H : Heap) (k off : Nat) (cs ds : List AV) (m : Int) (K : AV → Heap → Prop) : Prop := lputK cs off ds fun cs' => setK H k (.cells cs') (K (.int .i64 m))
def MOp.run (ev : AX → AV) (H : Heap) (K : AV → Heap → Prop) : MOp → Prop
  | .mk => mkMapK H K
  | .get ok kk zero m k => mapK H (ev m) fun _ es => bif keyOk kk (ev k) then MRes (mfind kk (ev k) es) fun r => K (mval ok zero r) H else False
  | .set kk m k v => mapK H (ev m) fun p es => match p with
    | some p => bif keyOk kk (ev k) && noLoc (ev v) && noIter H.get p H.nx then MRes (mput kk (ev k) (ev v) es) fun es' => setK H p (.map es') (K .any) else False
    | none => False
  | .del kk m k => mapK H (ev m) fun p es => match p with
    | some p => bif keyOk kk (ev k) && noIter H.get p H.nx then MRes (mdel kk (ev k) es) fun es' => setK H p (.map es') (K (.tuple [])) else False
    | none => False
  | .len m => mapK H (ev m) fun _ es => K (.int .i64 es.length) H
  | .range m => mapK H (ev m) fun p es => match p with
    | some p => iterK H p es K
    | none => False
  | .next it => match ev it with
    | .ptr j 0 => match H.get j with
      | .iter k left _ => NextA left (K (.tuple [.bool false]) H) fun a b l => setK H j (.iter k l (some (a, b))) (K (.tuple [.bool true, a, b]))
      | _ => False
    | _ => False
  | .entry it => match ev it with
    | .ptr j 0 => match H.get j with
      | .iter _ _ (some (a, b)) => K (.tuple [a, b]) H
      | _ => False
    | _ => False
  | .delw kk m k it => mapK H (ev m) fun p es => match p with
    | some p => match ev it with
      | .ptr j 0 => match H.get j with
        | .iter p' left _ => bif keyOk kk (ev k) && (Nat.beq p' p && noIterBut H.get p j H.nx) then MRes (mfind kk (ev k) left) fun r => Side (r = none) (MRes (mdel kk (ev k) es) fun es' => setK H p (.map es') fun H1 => setK H1 j (.iter p left none) (K (.tuple []))) else False
        | _ => False
      | _ => False
    | none => False
  | .copy e d s => match ev d with
    | .slice k off n _ e' => match H.get k with
      | .cells cs => srcK H.get e (ev s) fun ds m => Side (e' = e) (Branch (decide (m ≤ n)) (cpK H k off cs ds m K) (cpK H k off cs (ds.take (n * e)) n K))
      | _ => False
    | _ => False
  | .copyS d s => match ev d with
    | .slice k off n _ e' => match H.get k with
      | .cells cs => srcK H.get 1 (strD (ev s)) fun ds m => Side (e' = 1) (Branch (decide (m ≤ n)) (cpK H k off cs ds m K) (cpK H k off cs (ds.take (n * 1)) n K))
      | _ => False
    | _ => False

def scDesc : Sc → TypeDesc
  | .b => .bool
  | .i k => .int k
  | .s => .string
def fieldsInt (P : Program) : List Field → Nat → List Sc → Bool
  | [], _, [] => true
  | f :: r, off, .i k :: ks => f.name != "_" && f.offset == off && (match P.underlying f.type with
    | some (.int j) => j == k
    | _ => false) && fieldsInt P r (off + 1) ks
  | _, _, _ => false
def keyIs (P : Program) (t : TypeId) (kk : KK) : Bool := match kk with
  | .c .b => (match P.underlying t with
    | some .bool => true
    | _ => false)
  | .c (.i j) => (match P.underlying t with
    | some (.int k) => k == j
    | _ => false)
  | .c .s => false
  | .f ks => (match P.underlying t with
    | some (.struct fs) => fieldsInt P fs.toList 0 ks && aggT P t && decide (flatSc P 20 t = some ks)
    | _ => false)
def okM (P : Program) : Op → MOp → Bool
  | .makeMap t none, .mk => (match P.underlying t with
    | some (.map _ _) => true
    | _ => false)
  | .lookup t m k ok, .get ok' kk zero m' k' => (match P.underlying t with
    | some (.map kt et) => keyIs P kt kk && (match P.info? et with
      | some i => (match i.zero with
        | some z => okV z zero && noLoc zero
        | none => false)
      | none => false)
    | _ => false) && ok == ok' && okX m m' && okX k k'
  | .mapUpdate t m k v, .set kk m' k' v' => (match P.underlying t with
    | some (.map kt _) => keyIs P kt kk
    | _ => false) && okX m m' && okX k k' && okX v v'
  | .call c, .del kk m' k' => (match bcall c .delete with
    | some ([m, k], [t, _]) => (match P.underlying t with
      | some (.map kt _) => keyIs P kt kk
      | _ => false) && okX m m' && okX k k'
    | _ => false)
  | .call c, .len m' => (match bcall c .len with
    | some ([m], [t]) => (match P.underlying t with
      | some (.map _ _) => okX m m'
      | _ => false)
    | _ => false)
  | .range t m, .range m' => (match P.underlying t with
    | some (.map _ _) => okX m m'
    | _ => false)
  | .next it false, .next it' => okX it it'
  | .call c, .delw kk m' k' _ => (match bcall c .delete with
    | some ([m, k], [t, _]) => (match P.underlying t with
      | some (.map kt _) => keyIs P kt kk
      | _ => false) && okX m m' && okX k k'
    | _ => false)
  | .call c, .copy e d' s' => (match bcall c .copy with
    | some ([d, s], [t, tx]) => sliceOf P t e && isSlice P tx && okX d d' && okX s s'
    | _ => false)
  | .call c, .copyS d' s' => (match bcall c .copy with
    | some ([d, s], [t, tx]) => sliceOf P t 1 && isStr P tx && okX d d' && okX s s'
    | _ => false)
  | .entry it, .entry it' => okX it it'
  | _, _ => false

section
variable {P : Program} {M : Mem} {μ : Pos} {H : Heap} {w : World}
/-- One comparison, and a search, as the machine does them. -/
def Cmp (P : Program) (kt : TypeId) (kk : KK) (u v : Value) (b : Bool) : Prop := match kk with
  | .c s => Instr.sameNow (scDesc s) u v = some b
  | .f _ => ∀ w, (Op.equal kt u v).run P w = .ok b w
def Ask (P : Program) (kt : TypeId) (kk : KK) (u : Value) (l : List MapEntry) (i : Nat) (r : Option (Nat × Value)) : Prop := match kk with
  | .c s => Instr.findNow (scDesc s) u l i = some r
  | .f _ => ∀ w, (Instr.findAsking kt u l i).run P w = .ok r w
theorem ask_nil {kt : TypeId} {kk : KK} {u : Value} {i : Nat} : Ask P kt kk u [] i none := by
  cases kk with
  | c s => rfl
  | f ks => intro w; simp [Instr.findAsking]
theorem ask_yes {kt : TypeId} {kk : KK} {u : Value} {e : MapEntry} {l : List MapEntry} {i : Nat} (h : Cmp P kt kk u e.key true) : Ask P kt kk u (e :: l) i (some (i, e.val)) := by
  cases kk with
  | c s => simp only [Cmp] at h; simp [Ask, Instr.findNow, h]
  | f ks => intro w; simp [Instr.findAsking, h w]
theorem ask_no {kt : TypeId} {kk : KK} {u : Value} {e : MapEntry} {l : List MapEntry} {i : Nat} {r : Option (Nat × Value)} (h : Cmp P kt kk u e.key false) (h2 : Ask P kt kk u l (i + 1) r) : Ask P kt kk u (e :: l) i r := by
  cases kk with
  | c s => simp only [Cmp] at h; simp only [Ask] at h2; simp [Ask, Instr.findNow, h, h2]
  | f ks => intro w; simp only [Ask] at h2; simp [Instr.findAsking, h w, h2 w]
theorem keyIs_c {t : TypeId} {s : Sc} (h : keyIs P t (.c s) = true) : P.underlying t = some (scDesc s) := by
  unfold keyIs at h
  cases s <;> simp only at h
  · split at h
    · assumption
    · cases h
  · split at h
    · rename_i hu; simp at h; subst h; exact hu
    · cases h
  · cases h
theorem ask_run {kt : TypeId} {kk : KK} {u : Value} {l : List MapEntry} {r : Option (Nat × Value)} (hk : keyIs P kt kk = true) (h : Ask P kt kk u l 0 r) (w : World) : (Instr.findKey kt u l).run P w = .ok r w := by
  cases kk with
  | c s => exact MapKept.run_findKey (keyIs_c hk) h
  | f ks =>
    unfold keyIs at hk
    simp only at hk
    split at hk
    · rename_i fs hfs
      rw [run_findKey_eq w (by simp [hfs])]
      exact h w
    · cases hk
theorem isKey_of {s : Sc} {c : AV} {v : Value} (h : cellOk s c = true) (hr : relV M c μ v) : MapKept.IsKey (scDesc s) v := by
  unfold cellOk at h
  split at h
  · have := rel_bool hr; subst this; trivial
  · have := rel_int hr; subst this; simp at h; subst h; rfl
  · cases h
theorem eqL_spec : ∀ {ks : List Sc} {cs ds : List AV} {r : Bool} {xs ys : List Value} {μ' : Pos}, eqL ks cs ds = some r → relL M cs μ xs → relL M ds μ' ys → confEq ks xs ys = some r ∧ (r = true → xs = ys)
  | [], [], [], r, xs, ys, _, h, hx, hy => by
    simp only [relL] at hx hy; subst hx; subst hy
    simp only [eqL] at h; cases h
    exact ⟨rfl, fun _ => rfl⟩
  | .i k :: ks, .int j a :: cs, .int j' b :: ds, r, xs, ys, _, h, hx, hy => by
    simp only [relL] at hx hy
    obtain ⟨v, t, rfl, h1, h2⟩ := hx
    obtain ⟨v', t', rfl, h3, h4⟩ := hy
    have e1 := rel_int h1; have e2 := rel_int h3; subst e1; subst e2
    simp only [eqL] at h
    cases hc : (j == k && j' == k) <;> simp only [hc, cond_true, cond_false] at h
    · cases h
    · simp only [Bool.and_eq_true, beq_iff_eq] at hc
      obtain ⟨rfl, rfl⟩ := hc
      split at h
      · rename_i r' hr'
        cases h
        obtain ⟨q1, q2⟩ := eqL_spec hr' h2 h4
        refine ⟨by simp [confEq, q1], fun hr => ?_⟩
        simp only [Bool.and_eq_true, decide_eq_true_eq] at hr
        rw [hr.1, q2 hr.2]
      · cases h
/-- One comparison of keys. -/
theorem same_of {kt : TypeId} {kk : KK} {a b : AV} {u v : Value} {r : Bool} (hki : keyIs P kt kk = true) (hok : keyOk kk a = true) (h : eqK kk a b = some r) (ha : relV M a μ u) {μ' : Pos} (hb : relV M b μ' v) : Cmp P kt kk u v r ∧ (r = true → u = v) := by
  cases kk with
  | f ks =>
    unfold eqK at h
    split at h <;> try (cases h; done)
    · rename_i heq; cases heq
    · rename_i heq
      cases heq
      simp only [relV] at ha hb
      obtain ⟨xs, rfl, hx⟩ := ha
      obtain ⟨ys, rfl, hy⟩ := hb
      obtain ⟨q1, q2⟩ := eqL_spec h hx hy
      unfold keyIs at hki
      simp only at hki
      split at hki
      · simp only [Bool.and_eq_true, decide_eq_true_eq] at hki
        refine ⟨fun w => ?_, fun hr => by have := q2 hr; rw [Array.toList_inj.1 this]⟩
        exact (eq_flat 20 kt ks hki.2).1 hki.1.2 9980 xs ys r w q1
      · cases hki
  | c s =>
    simp only [eqK] at h
    simp only [keyOk] at hok
    unfold eqOne at h
    split at h
    · have e1 := rel_bool ha; have e2 := rel_bool hb; subst e1; subst e2
      cases h
      exact ⟨rfl, fun hr => by simp at hr; rw [hr]⟩
    · have e1 := rel_int ha; have e2 := rel_int hb; subst e1; subst e2
      rename_i k j a j' b
      cases hc : (j == k && j' == k) <;> simp only [hc, cond_true, cond_false] at h
      · cases h
      · simp only [Bool.and_eq_true, beq_iff_eq] at hc
        obtain ⟨rfl, rfl⟩ := hc
        cases h
        exact ⟨by simp [Cmp, scDesc, Instr.sameNow, beq_int], fun hr => by simp at hr; rw [hr]⟩
    · simp [cellOk] at hok
    · cases h
theorem check_fields (em : Bool) (n : Nat) (w : World) (xs : Array Value) : ∀ (fs : List Field) (off : Nat) (ks : List Sc) (cs : List AV), fieldsInt P fs off ks = true → cellsOk ks cs = true → relL M cs μ (xs.toList.drop off) →
    (forIn fs PUnit.unit fun f _ => (
      if f.name ≠ "_" then (do
        let x ← part f.type xs f.offset
        Instr.checkKey em (n + 1) f.type x
        pure (ForInStep.yield PUnit.unit)) else
      pure (ForInStep.yield PUnit.unit)) : Sem PUnit).run P w = .ok PUnit.unit w
  | [], _, _, _, _, _, _ => by simp
  | f :: fs, off, ks, cs, h, hc, hr => by
    cases ks with
    | nil => simp [fieldsInt] at h
    | cons s ks =>
      cases s <;> simp only [fieldsInt] at h <;> try (cases h; done)
      rename_i k
      simp only [Bool.and_eq_true, bne_iff_ne, ne_eq, beq_iff_eq] at h
      obtain ⟨⟨⟨h1, h2⟩, h3⟩, h4⟩ := h
      split at h3
      · rename_i j hu
        simp at h3; subst h3
        cases cs with
        | nil => simp [cellsOk] at hc
        | cons c cs =>
          cases c <;> simp only [cellsOk] at hc <;> try (cases hc; done)
          simp only [Bool.and_eq_true, beq_iff_eq] at hc
          obtain ⟨rfl, hc⟩ := hc
          simp only [relL] at hr
          obtain ⟨v, t, ht, hv, hr⟩ := hr
          have hv := rel_int hv
          subst hv
          have hpart := part_scal hu (by simp) (by simp) (drop_head ht) w
          have ht2 : t = xs.toList.drop (off + 1) := by
            have := congrArg List.tail ht
            simpa using this.symm
          rename_i kq nq
          have hck : (Instr.checkKey em (n + 1) f.type (.int kq nq)).run P w = .ok () w := MapKept.run_checkKey (k := .int kq nq) hu rfl em n
          simp only [List.forIn_cons, Sem.run_bind, ne_eq, h1, h2, not_false_eq_true, if_true, hpart, Result.andThen_ok, hck, Sem.run_pure]
          exact check_fields em n w xs fs (off + 1) ks cs h4 hc (ht2 ▸ hr)
      · cases h3
theorem check_run {kt : TypeId} {kk : KK} {a : AV} {u : Value} (hki : keyIs P kt kk = true) (hok : keyOk kk a = true) (ha : relV M a μ u) (em : Bool) (w : World) : (Instr.checkKey em 10000 kt u).run P w = .ok () w := by
  cases kk with
  | c s => exact MapKept.run_checkKey (keyIs_c hki) (isKey_of hok ha) em 9999
  | f ks =>
    cases a <;> simp only [keyOk] at hok <;> try (cases hok; done)
    simp only [relV] at ha
    obtain ⟨xs, rfl, hx⟩ := ha
    unfold keyIs at hki
    simp only at hki
    split at hki
    · rename_i fs hfs
      simp only [Bool.and_eq_true] at hki
      rw [Instr.checkKey]
      simp only [Sem.run_bind, run_underlying hfs, Result.andThen_ok]
      rw [← Array.forIn_toList]
      have := check_fields em 9998 w xs fs.toList 0 ks _ hki.1.1 hok (by simpa using hx)
      exact (congrArg (fun r => r.andThen fun a w' => Sem.run P (pure ()) w') this).trans rfl
    · cases hki
theorem relE_length : ∀ {es : List (AV × AV)} {l : List MapEntry}, relE M es l → l.length = es.length
  | [], _, h => by simp only [relE] at h; subst h; rfl
  | (k, v) :: r, _, h => by simp only [relE] at h; obtain ⟨e, t, rfl, _, _, h⟩ := h; simp [relE_length h]
/-- What the search finds. -/
theorem mfind_find {kt : TypeId} {kk : KK} {key : AV} {u : Value} (hki : keyIs P kt kk = true) (hok : keyOk kk key = true) (hu : relV M key μ u) : ∀ {es : List (AV × AV)} {l : List MapEntry} {r : Option AV} (i : Nat), mfind kk key es = some r → relE M es l →
    (r = none ∧ Ask P kt kk u l i none) ∨ (∃ j v e, r = some v ∧ l[j]? = some e ∧ e.key = u ∧ relV M v Pos.none e.val ∧ Ask P kt kk u l i (some (i + j, e.val)))
  | [], _, r, i, h, hr => by
    simp only [relE] at hr; subst hr
    simp only [mfind] at h; cases h
    exact .inl ⟨rfl, ask_nil⟩
  | (k, v) :: es, _, r, i, h, hr => by
    simp only [relE] at hr
    obtain ⟨e, t, rfl, h1, h2, h3⟩ := hr
    simp only [mfind] at h
    split at h
    · rename_i hq
      cases h
      obtain ⟨s1, s2⟩ := same_of hki hok hq hu h1
      exact .inr ⟨0, v, e, rfl, rfl, (s2 rfl).symm, h2, ask_yes s1⟩
    · rename_i hq
      obtain ⟨s1, _⟩ := same_of hki hok hq hu h1
      rcases mfind_find hki hok hu (i + 1) h h3 with ⟨rfl, h4⟩ | ⟨j, v', e', rfl, h4, h5, h6, h7⟩
      · exact .inl ⟨rfl, ask_no s1 h4⟩
      · exact .inr ⟨j + 1, v', e', rfl, by simpa using h4, h5, h6, ask_no s1 (by rw [show i + 1 + j = i + (j + 1) by omega] at h7; exact h7)⟩
    · cases h
/-! #### Blocks of maps -/
theorem Rel.writeM (R : Rel M μ H w) {k b sz : Nat} {es es' : List (AV × AV)} {ents ents' : Array MapEntry} {clock clock' : Nat} (hk : H.get k = .map es) (hμ : μ k = some (b, sz)) (hb : w.heap[b]? = some (.map ents clock))
    (hE : relE M es' ents'.toList) (hc1 : ∀ e ∈ ents'.toList, e.born < clock') (hc2 : (ents'.toList.map (·.born)).Nodup) (hno : ∀ j l c, H.get j ≠ .iter k l c) :
    Rel M μ (H.set k (.map es')) { w with heap := w.heap.setIfInBounds b (.map ents' clock') } ∧ Move M μ H w M μ (H.set k (.map es')) { w with heap := w.heap.setIfInBounds b (.map ents' clock') } := by
  have hne : H.get k ≠ .dead := by rw [hk]; simp
  have other : ∀ j b' s, H.get j ≠ .dead → μ j = some (b', s) → j ≠ k → b' ≠ b := fun j b' s hj hμ' hjk e => hjk (R.inj j k b s sz hj hne (e ▸ hμ') hμ)
  refine ⟨⟨R.glob, R.dom, fun j hj => ?_, fun j ds hj => ?_, fun j es hj => ?_, R.walks (Mem.le_refl _) (fun j k' left cur hj => ?_), R.recs (Mem.le_refl _) (fun j st id fr hj => ?_), fun i j x s t hi hj hx hy => ?_, fun x o v hv => ?_, fun j x s hj hx o => ?_⟩, ⟨Pos.le_refl _, ⟨Mem.le_refl _, fun _ _ => rfl, ⟨rfl, rfl, rfl, by simp, fun x hx hno => (MapKept.heap_set hb).2 x (fun e => hno (e ▸ ⟨k, sz, hne, hμ⟩))⟩, fun x hx => .inl (Own.set hne hx), fun _ _ _ h => .inl h⟩, Nat.le_refl _⟩⟩
  · rw [Heap.get_set]
    have := R.pos_lt hμ
    simp only [Heap.set] at hj
    rw [if_neg (by omega)]; exact R.top j hj
  · rw [Heap.get_set] at hj
    split at hj
    · cases hj
    · rename_i hjk
      obtain ⟨b', s', d, el', fz', h1, h2, h3, h4, h5⟩ := R.cells j ds hj
      exact ⟨b', s', d, el', fz', h1, by rw [(MapKept.heap_set hb).2 b' (other j b' s' (by rw [hj]; simp) h1 (Ne.symm hjk))]; exact h2, h3, h4, h5⟩
  · rw [Heap.get_set] at hj
    split at hj
    · rename_i h; subst h
      simp only [AB.map.injEq] at hj; subst hj
      exact ⟨b, sz, ents', clock', hμ, (MapKept.heap_set hb).1, hE, hc1, hc2⟩
    · rename_i hjk
      obtain ⟨b', s', ents, clock, h1, h2, h3, h4⟩ := R.maps j es hj
      exact ⟨b', s', ents, clock, h1, by rw [(MapKept.heap_set hb).2 b' (other j b' s' (by rw [hj]; simp) h1 (Ne.symm hjk))]; exact h2, h3, h4⟩
  · rw [Heap.get_set] at hj
    split at hj
    · cases hj
    · rename_i hjk
      have hkk : k' ≠ k := fun e => hno j left cur (e ▸ hj)
      have hal := (R.iters j k' left cur hj).1
      refine ⟨j, k', hj, ?_, fun x hx => hx, fun x hx => hx, fun b2 s2 hx _ => (MapKept.heap_set hb).2 b2 (other j b2 s2 (by rw [hj]; simp) hx (Ne.symm hjk)), fun b2 s2 hx _ => (MapKept.heap_set hb).2 b2 (other k' b2 s2 hal hx hkk)⟩
      rw [Heap.get_set, if_neg (Ne.symm hkk)]; exact hal
  · rw [Heap.get_set] at hj
    split at hj
    · cases hj
    · rename_i hjk
      exact ⟨j, fr, hj, fun x hx => hx, fun t v hv => hv, fun b2 s2 hx _ => (MapKept.heap_set hb).2 b2 (other j b2 s2 (by rw [hj]; simp) hx (Ne.symm hjk))⟩
  · have al : ∀ j, (H.set k (.map es')).get j ≠ .dead → H.get j ≠ .dead := fun j hj => by
      rw [Heap.get_set] at hj; split at hj
      · subst_vars; exact hne
      · exact hj
    exact R.inj i j x s t (al i hi) (al j hj) hx hy
  · rw [World.cell?_of_block (w := w) (a := ⟨x, o, none⟩) ((MapKept.heap_set hb).2 x (fun e => by
      have := R.apart k b sz hne hμ o
      rw [e] at hv; rw [hv] at this; cases this))]
    exact R.imm x o v hv
  · have : H.get j ≠ .dead := by
      rw [Heap.get_set] at hj; split at hj
      · subst_vars; exact hne
      · exact hj
    exact R.apart j x s this hx o

theorem Rel.layM (R : Rel M μ H w) {p : Nat} (hp : p < H.nx) (hfree : μ p = none) :
    Rel M (μ.put p (w.heap.size, 0)) (H.set p (.map [])) (w.alloc (.map #[] 0)) ∧ Pos.le μ (μ.put p (w.heap.size, 0)) ∧
      (∀ n, n ≤ p → Grow n M μ H w M (μ.put p (w.heap.size, 0)) (H.set p (.map [])) (w.alloc (.map #[] 0))) := by
  have hle : Pos.le μ (μ.put p (w.heap.size, 0)) := Pos.le_put hfree _
  have hdead : H.get p = .dead := by
    cases hg : H.get p with
    | dead => rfl
    | cells ds => obtain ⟨b, sz, _, _, _, h, _⟩ := R.cells p ds hg; rw [hfree] at h; cases h
    | map es => obtain ⟨b, sz, _, _, h, _⟩ := R.maps p es hg; rw [hfree] at h; cases h
    | iter k left cur => obtain ⟨_, b, sz, h, _⟩ := R.iters p k left cur hg; rw [hfree] at h; cases h
    | loop st id fr => obtain ⟨b, sz, h, _⟩ := R.loops p st id fr hg; rw [hfree] at h; cases h
  have old : ∀ j b s, H.get j ≠ .dead → (μ.put p (w.heap.size, 0)) j = some (b, s) → μ j = some (b, s) ∧ b < w.heap.size := fun j b s hj hx => by
    have hjp : j ≠ p := fun e => hj (e ▸ hdead)
    rw [Pos.put_other μ _ hjp] at hx
    exact ⟨hx, R.own_lt ⟨j, s, hj, hx⟩⟩
  have new : ∀ b s, (μ.put p (w.heap.size, 0)) p = some (b, s) → b = w.heap.size := fun b s hx => by
    rw [Pos.put_same] at hx; simp at hx; exact hx.1.symm
  have ownlt : ∀ {j b s}, H.get j ≠ .dead → μ j = some (b, s) → b < w.heap.size := fun hj hx => R.own_lt ⟨_, _, hj, hx⟩
  have alive : ∀ j, (H.set p (.map [])).get j ≠ .dead → j ≠ p → H.get j ≠ .dead := fun j hj hjp => by
    rw [Heap.get_set, if_neg (Ne.symm hjp)] at hj; exact hj
  refine ⟨⟨R.glob, fun k hk => ?_, fun j hj => ?_, fun j ds hj => ?_, fun j es hj => ?_, R.walks_same (Mem.le_refl _) (fun j k' left cur hj => ?_) hle (fun x hx _ => alloc_heap_lt w _ hx), R.recs_same (Mem.le_refl _) (fun j st id fr hj => ?_) hle (fun x hx _ => alloc_heap_lt w _ hx), fun i j x s t hi hj hx hy => ?_, fun x o v hv => ?_, fun j x s hj hx o => ?_⟩, hle, fun n hn => ⟨Mem.le_refl _, fun k hk => Pos.put_other μ _ (by omega), ⟨rfl, rfl, rfl, by simp, fun x hx _ => alloc_heap_lt w _ hx⟩, fun x hx => ?_, fun _ _ _ h => .inl h⟩⟩
  · have hk' : H.nx ≤ k := hk
    rw [Pos.put_other μ _ (by omega)]; exact R.dom k hk'
  · have hj' : H.nx ≤ j := hj
    rw [Heap.get_set, if_neg (by omega)]; exact R.top j hj'
  · rw [Heap.get_set] at hj
    split at hj
    · cases hj
    · obtain ⟨b', s', d, el', fz', h1, h2, h3, h4, h5⟩ := R.cells j ds hj
      exact ⟨b', s', d, el', fz', hle _ _ h1, by rw [alloc_heap_lt w _ (ownlt (by rw [hj]; simp) h1)]; exact h2, h3, h4, relP_mono (Mem.le_refl _) hle _ h5⟩
  · rw [Heap.get_set] at hj
    split at hj
    · rename_i h; subst h
      simp only [AB.map.injEq] at hj; subst hj
      exact ⟨w.heap.size, 0, #[], 0, Pos.put_same _ _ _, alloc_heap_new w _, by simp [relE], by simp, by simp⟩
    · obtain ⟨b', s', ents, clock, h1, h2, h3, h4⟩ := R.maps j es hj
      exact ⟨b', s', ents, clock, hle _ _ h1, by rw [alloc_heap_lt w _ (ownlt (by rw [hj]; simp) h1)]; exact h2, h3, h4⟩
  · rw [Heap.get_set] at hj
    split at hj
    · cases hj
    · refine ⟨hj, fun h => ?_⟩
      rw [Heap.get_set]; split
      · simp
      · exact h
  · rw [Heap.get_set] at hj
    split at hj
    · cases hj
    · exact hj
  · by_cases hi' : i = p
    · by_cases hj' : j = p
      · omega
      · subst hi'
        have := new x s hx
        have := (old j x t (alive j hj hj') hy).2
        omega
    · by_cases hj' : j = p
      · subst hj'
        have := new x t hy
        have := (old i x s (alive i hi hi') hx).2
        omega
      · exact R.inj i j x s t (alive i hi hi') (alive j hj hj') (old i x s (alive i hi hi') hx).1 (old j x t (alive j hj hj') hy).1
  · rw [World.cell?_alloc_lt w _ ⟨x, o, none⟩ (R.cell_lt hv)]; exact R.imm x o v hv
  · by_cases hj' : j = p
    · subst hj'
      have hb := new x s hx
      cases hm : M x o with
      | none => rfl
      | some v => have := R.cell_lt hm; omega
    · exact R.apart j x s (alive j hj hj') (old j x s (alive j hj hj') hx).1 o
  · obtain ⟨k, s, hk, hμ⟩ := hx
    by_cases hk' : k = p
    · subst hk'; have := new x s hμ; exact .inr (by omega)
    · exact .inl ⟨k, s, alive k hk hk', (old k x s (alive k hk hk') hμ).1⟩


theorem Rel.pushM (R : Rel M μ H w) : Rel M (μ.put H.nx (w.heap.size, 0)) (H.push (.map [])) (w.alloc (.map #[] 0)) ∧ Move M μ H w M (μ.put H.nx (w.heap.size, 0)) (H.push (.map [])) (w.alloc (.map #[] 0)) := by
  have R1 := R.room 1
  obtain ⟨h1, h2, h3⟩ := R1.layM (p := H.nx) (Nat.lt_succ_self _) (R.dom _ (Nat.le_refl _))
  have G := h3 H.nx (Nat.le_refl _)
  exact ⟨h1, h2, ⟨G.mem, G.pin, G.keep, G.own, G.fresh⟩, Nat.le_succ _⟩

/-! #### The operations -/
theorem cellsOk_data : ∀ {ks : List Sc} {cs : List AV}, cellsOk ks cs = true → noLocL cs = true
  | [], [], _ => rfl
  | s :: ks, c :: cs, h => by
    cases s <;> cases c <;> simp only [cellsOk] at h <;> try (cases h; done)
    simp only [Bool.and_eq_true] at h
    simp only [noLocL, noLoc, Bool.true_and]; exact cellsOk_data h.2
  | [], _ :: _, h => by simp [cellsOk] at h
  | s :: _, [], h => by cases s <;> simp [cellsOk] at h
theorem relV_scalar {kk : KK} {key : AV} (hok : keyOk kk key = true) : noLoc key = true := by
  cases kk with
  | c s =>
    simp only [keyOk] at hok
    unfold cellOk at hok
    split at hok <;> first | rfl | cases hok
  | f ks =>
    cases key <;> simp only [keyOk] at hok <;> try (cases hok; done)
    simp only [noLoc]; exact cellsOk_data hok
theorem mput_find {kt : TypeId} {kk : KK} {key v : AV} {u x : Value} (hki : keyIs P kt kk = true) (hok : keyOk kk key = true) (hu : relV M key Pos.none u) (hx : relV M v Pos.none x) : ∀ {es es' : List (AV × AV)} {l : List MapEntry} (i : Nat), mput kk key v es = some es' → relE M es l →
    (es' = es ++ [(key, v)] ∧ Ask P kt kk u l i none) ∨ (∃ j e, l[j]? = some e ∧ e.key = u ∧ Ask P kt kk u l i (some (i + j, e.val)) ∧ ∀ f : MapEntry → MapEntry, (∀ e, (f e).key = u ∧ (f e).val = x) → relE M es' (l.modify j f))
  | [], es', l, i, h, hr => by
    simp only [relE] at hr; subst hr
    simp only [mput] at h; cases h
    exact .inl ⟨rfl, ask_nil⟩
  | (k, y) :: es, es', l, i, h, hr => by
    simp only [relE] at hr
    obtain ⟨e, t, rfl, h1, h2, h3⟩ := hr
    simp only [mput] at h
    split at h
    · rename_i hq
      cases h
      obtain ⟨s1, s2⟩ := same_of hki hok hq hu h1
      refine .inr ⟨0, e, rfl, (s2 rfl).symm, ask_yes s1, fun f hf => ?_⟩
      simp only [List.modify_zero_cons, relE]
      exact ⟨f e, t, rfl, by rw [(hf e).1]; exact hu, by rw [(hf e).2]; exact hx, h3⟩
    · rename_i hq
      obtain ⟨s1, _⟩ := same_of hki hok hq hu h1
      split at h
      · rename_i r' hr'
        cases h
        rcases mput_find hki hok hu hx (i + 1) hr' h3 with ⟨rfl, h4⟩ | ⟨j, e', h4, h5, h6, h7⟩
        · exact .inl ⟨rfl, ask_no s1 h4⟩
        · refine .inr ⟨j + 1, e', by simpa using h4, h5, ask_no s1 (by rw [show i + 1 + j = i + (j + 1) by omega] at h6; exact h6), fun f hf => ?_⟩
          simp only [List.modify_succ_cons, relE]
          exact ⟨e, _, rfl, h1, h2, h7 f hf⟩
      · cases h
    · cases h
theorem mdel_find {kt : TypeId} {kk : KK} {key : AV} {u : Value} (hki : keyIs P kt kk = true) (hok : keyOk kk key = true) (hu : relV M key μ u) : ∀ {es es' : List (AV × AV)} {l : List MapEntry} (i : Nat), mdel kk key es = some es' → relE M es l →
    (relE M es' l ∧ Ask P kt kk u l i none) ∨ (∃ j e, l[j]? = some e ∧ Ask P kt kk u l i (some (i + j, e.val)) ∧ relE M es' (l.eraseIdx j))
  | [], es', l, i, h, hr => by
    simp only [relE] at hr; subst hr
    simp only [mdel] at h; cases h
    exact .inl ⟨by simp [relE], ask_nil⟩
  | (k, y) :: es, es', l, i, h, hr => by
    simp only [relE] at hr
    obtain ⟨e, t, rfl, h1, h2, h3⟩ := hr
    simp only [mdel] at h
    split at h
    · rename_i hq
      cases h
      obtain ⟨s1, _⟩ := same_of hki hok hq hu h1
      exact .inr ⟨0, e, rfl, ask_yes s1, by simpa using h3⟩
    · rename_i hq
      obtain ⟨s1, _⟩ := same_of hki hok hq hu h1
      split at h
      · rename_i r' hr'
        cases h
        rcases mdel_find hki hok hu (i + 1) hr' h3 with ⟨h4, h5⟩ | ⟨j, e', h4, h5, h6⟩
        · exact .inl ⟨by simp only [relE]; exact ⟨e, t, rfl, h1, h2, h4⟩, ask_no s1 h5⟩
        · exact .inr ⟨j + 1, e', by simpa using h4, ask_no s1 (by rw [show i + 1 + j = i + (j + 1) by omega] at h5; exact h5), by simp only [List.eraseIdx_cons_succ, relE]; exact ⟨e, _, rfl, h1, h2, h6⟩⟩
      · cases h
    · cases h
theorem relE_snoc : ∀ {es : List (AV × AV)} {l : List MapEntry} {k v : AV} {e : MapEntry}, relE M es l → relV M k Pos.none e.key → relV M v Pos.none e.val → relE M (es ++ [(k, v)]) (l ++ [e])
  | [], l, k, v, e, h, h1, h2 => by simp only [relE] at h; subst h; simp only [List.nil_append, relE]; exact ⟨e, [], rfl, h1, h2, rfl⟩
  | (k', v') :: es, l, k, v, e, h, h1, h2 => by
    simp only [relE] at h
    obtain ⟨e', t, rfl, q1, q2, q3⟩ := h
    simp only [List.cons_append, relE]
    exact ⟨e', t ++ [e], rfl, q1, q2, relE_snoc q3 h1 h2⟩
theorem mapK_spec {m : AV} {v : Value} {K : Option Nat → List (AV × AV) → Prop} (R : Rel M μ H w) (hv : relV M m μ v) (h : mapK H m K) :
    (v = .map none ∧ K none []) ∨ (∃ p b sz es ents clock, v = .map (some b) ∧ m = .map p ∧ H.get p = .map es ∧ μ p = some (b, sz) ∧ w.heap[b]? = some (.map ents clock) ∧ relE M es ents.toList ∧ (∀ e ∈ ents.toList, e.born < clock) ∧ (ents.toList.map (·.born)).Nodup ∧ K (some p) es) := by
  unfold mapK mapN at h
  split at h
  · simp only [relV] at hv; exact .inl ⟨hv, h⟩
  · rename_i p
    split at h
    · rename_i es hes
      simp only [relV] at hv
      obtain ⟨b, sz, h1, rfl⟩ := hv
      obtain ⟨b', sz', ents, clock, h2, h3, h4, h5, h6⟩ := R.maps p es hes
      rw [h1] at h2; cases h2
      exact .inr ⟨p, b, sz, es, ents, clock, rfl, rfl, hes, h1, h3, h4, h5, h6, h⟩
    · exact h.elim
  · exact h.elim

theorem run_zeroValue {t : TypeId} {i : TypeInfo} {z : Value} (hi : P.info? t = some i) (hz : i.zero = some z) (w : World) : (zeroValue t).run P w = .ok z w := by
  simp only [zeroValue, Sem.run_bind, run_typeInfo hi, Result.andThen_ok, hz, Sem.run_pure]
theorem run_lookup {t kt et : TypeId} {kk : KK} {μ : Pos} {ka : AV} {i : TypeInfo} {z u : Value} {ok : Bool} {x : Value} {l : Array MapEntry} {a : Option (Nat × Value)} (ht : P.underlying t = some (.map kt et)) (hki : keyIs P kt kk = true) (hi : P.info? et = some i) (hz : i.zero = some z)
    (hx : (x = .map none ∧ l = #[]) ∨ ∃ b clock, x = .map (some b) ∧ w.heap[b]? = some (.map l clock)) (hko : keyOk kk ka = true) (hka : relV M ka μ u) (hf : Ask P kt kk u l.toList 0 a) :
    (Instr.lookup t x u ok).run P w = .ok (match a with
      | some (_, v) => if ok then .tuple #[v, .bool true] else v
      | none => if ok then .tuple #[z, .bool false] else z) w := by
  have hc : ∀ e, (Instr.checkKey e 10000 kt u).run P w = .ok () w := fun e => check_run hki hko hka e w
  have hf' : (Instr.findKey kt u l.toList).run P w = .ok a w := ask_run hki hf w
  rcases hx with ⟨rfl, rfl⟩ | ⟨b, clock, rfl, hb⟩
  · simp only [Instr.lookup, Sem.run_bind, run_underlying ht, Result.andThen_ok, Sem.run_pure, hc, hf']
    cases a with
    | none => simp only [Sem.run_bind, run_zeroValue hi hz, Result.andThen_ok, Sem.run_pure]
    | some q => simp only [Sem.run_bind, Sem.run_pure, Result.andThen_ok]
  · simp only [Instr.lookup, Sem.run_bind, run_underlying ht, Result.andThen_ok, Sem.run_pure, MapKept.run_getObj_map hb, hc, hf']
    cases a with
    | none => simp only [Sem.run_bind, run_zeroValue hi hz, Result.andThen_ok, Sem.run_pure]
    | some q => simp only [Sem.run_bind, Sem.run_pure, Result.andThen_ok]
variable {N : Nat} {fr : Fr} {a : Act} {K : AV → Heap → Prop}
theorem pairR {c : AV} {v : Value} (h : relV M c μ v) (b : Bool) : relV M (.tuple [c, .bool b]) μ (.tuple #[v, .bool b]) := by
  simp only [relV, relL]
  exact ⟨#[v, .bool b], rfl, v, [.bool b], rfl, h, .bool b, [], rfl, rfl, rfl⟩
theorem sound_mget {t : TypeId} {m k : Operand} {ok : Bool} {kk : KK} {zero : AV} {m' k' : AX} {o : Oper} (ho : o.op = .lookup t m k ok) (h : okM P o.op (.get ok kk zero m' k') = true) (R : Rel M μ H w) (F : RelF N M μ fr a.tmps)
    (hr : (MOp.get ok kk zero m' k').run (AX.ev fr) H K) : Yields2 P o a M μ H K w := by
  rw [ho] at h
  simp only [okM, Bool.and_eq_true] at h
  obtain ⟨⟨⟨h1, _⟩, h3⟩, h4⟩ := h
  split at h1
  · rename_i kt et ht
    simp only [Bool.and_eq_true] at h1
    obtain ⟨hk1, h1⟩ := h1
    split at h1
    · rename_i i hi
      split at h1
      · rename_i z hz
        simp only [Bool.and_eq_true] at h1
        have hzr : relV M zero μ z := rel_okV h1.1
        have hm := rel_okX F h3
        have hkv := rel_okX F h4
        simp only [MOp.run] at hr
        have fin : ∀ (l : Array MapEntry) (es : List (AV × AV)), ((a.eval m = .map none ∧ l = #[]) ∨ ∃ b clock, a.eval m = .map (some b) ∧ w.heap[b]? = some (.map l clock)) → relE M es l.toList →
            (bif keyOk kk (AX.ev fr k') then MRes (mfind kk (AX.ev fr k') es) fun r => K (mval ok zero r) H else False) → Yields2 P o a M μ H K w := by
          intro l es hx hE hr
          cases hko : keyOk kk (AX.ev fr k') <;> simp only [hko, cond_true, cond_false] at hr
          obtain ⟨r, hr, hK⟩ := hr.ex
          rcases mfind_find hk1 hko hkv 0 hr hE with ⟨rfl, h5⟩ | ⟨j, v, e, rfl, h5, h6, h7, h8⟩
          · have hrun := run_lookup (ok := ok) ht hk1 hi hz hx hko hkv h5
            cases ok
            · exact yields2_same R (by simp only [execOp, ho, Sem.run_bind, hrun, Result.andThen_ok, Sem.run_pure]; rfl) hzr hK
            · exact yields2_same R (by simp only [execOp, ho, Sem.run_bind, hrun, Result.andThen_ok, Sem.run_pure]; rfl) (pairR hzr _) hK
          · have hrun := run_lookup (ok := ok) ht hk1 hi hz hx hko hkv h8
            have hvr : relV M v μ e.val := relV_mono (Mem.le_refl _) v (Pos.none_le _) h7
            cases ok
            · exact yields2_same R (by simp only [execOp, ho, Sem.run_bind, hrun, Result.andThen_ok, Sem.run_pure]; rfl) hvr hK
            · exact yields2_same R (by simp only [execOp, ho, Sem.run_bind, hrun, Result.andThen_ok, Sem.run_pure]; rfl) (pairR hvr _) hK
        rcases mapK_spec R hm hr with ⟨hv, hr⟩ | ⟨p, b, sz, es, ents, clock, hv, _, _, _, hb, hE, _, _, hr⟩
        · exact fin #[] [] (.inl ⟨hv, rfl⟩) (by simp [relE]) hr
        · exact fin ents es (.inr ⟨b, clock, hv, hb⟩) hE hr
      · cases h1
    · cases h1
  · cases h1

theorem sound_mk {t : TypeId} {o : Oper} (ho : o.op = .makeMap t none) (R : Rel M μ H w) (hr : MOp.mk.run (AX.ev fr) H K) : Yields2 P o a M μ H K w := by
  obtain ⟨R', G⟩ := R.pushM
  simp only [MOp.run, mkMapK_eq] at hr
  refine ⟨_, .map (some w.heap.size), _, ?_, .inl rfl, _, _, _, _, R', ?_, G, hr⟩
  · simp only [execOp, ho, Option.map_none, Sem.run_bind, RowKit.run_makeMap, Result.andThen_ok, Sem.run_pure]
  · simp only [relV]; exact ⟨w.heap.size, 0, Pos.put_same _ _ _, rfl⟩
theorem modify_born (l : List MapEntry) (j : Nat) (f : MapEntry → MapEntry) (hf : ∀ e, (f e).born = e.born) : (l.modify j f).map (·.born) = l.map (·.born) := by
  induction l generalizing j with
  | nil => simp
  | cons e l ih => cases j <;> simp [hf, ih]
theorem born_mem {l : List MapEntry} {clock : Nat} : (∀ e ∈ l, e.born < clock) ↔ ∀ n ∈ l.map (·.born), n < clock := by simp
theorem bits_list : ∀ {ks : List Sc} {cs : List AV} {xs : List Value}, cellsOk ks cs = true → relL M cs μ xs → (xs.zip xs).all (fun (x, y) => Instr.sameBits 9999 x y) = true
  | [], [], xs, _, h => by simp only [relL] at h; subst h; rfl
  | s :: ks, c :: cs, xs, h, hr => by
    cases s <;> cases c <;> simp only [cellsOk] at h <;> try (cases h; done)
    simp only [Bool.and_eq_true] at h
    simp only [relL] at hr
    obtain ⟨v, t, rfl, hv, hr⟩ := hr
    have hv := rel_int hv
    subst hv
    simp only [List.zip_cons_cons, List.all_cons, Bool.and_eq_true]
    exact ⟨by simp [Instr.sameBits], bits_list h.2 hr⟩
  | [], _ :: _, _, h, _ => by simp [cellsOk] at h
  | s :: _, [], _, h, _ => by cases s <;> simp [cellsOk] at h
theorem same_bits {kk : KK} {ka : AV} {u : Value} (hok : keyOk kk ka = true) (hr : relV M ka μ u) : Instr.sameBits 10000 u u = true := by
  cases kk with
  | c s =>
    simp only [keyOk] at hok
    unfold cellOk at hok
    split at hok
    · have := rel_bool hr; subst this; simp [Instr.sameBits]
    · have := rel_int hr; subst this; simp [Instr.sameBits]
    · cases hok
  | f ks =>
    cases ka <;> simp only [keyOk] at hok <;> try (cases hok; done)
    simp only [relV] at hr
    obtain ⟨xs, rfl, hx⟩ := hr
    simp only [Instr.sameBits, BEq.rfl, Bool.true_and]
    exact bits_list hok hx
theorem sound_mset {t : TypeId} {m k v : Operand} {kk : KK} {m' k' v' : AX} {o : Oper} (ho : o.op = .mapUpdate t m k v) (h : okM P o.op (.set kk m' k' v') = true) (R : Rel M μ H w) (F : RelF N M μ fr a.tmps)
    (hr : (MOp.set kk m' k' v').run (AX.ev fr) H K) : Yields2 P o a M μ H K w := by
  rw [ho] at h
  simp only [okM, Bool.and_eq_true] at h
  obtain ⟨⟨⟨h1, h2⟩, h3⟩, h4⟩ := h
  split at h1
  · rename_i kt et ht
    have hm := rel_okX F h2
    have hkv := rel_okX F h3
    have hvv := rel_okX F h4
    simp only [MOp.run] at hr
    rcases mapK_spec R hm hr with ⟨hv, hr⟩ | ⟨p, b, sz, es, ents, clock, hv, hmp, hes, hμ, hb, hE, hc1, hc2, hr⟩
    · exact hr.elim
    · simp only at hr
      cases hko : (keyOk kk (AX.ev fr k') && noLoc (AX.ev fr v') && noIter H.get p H.nx) <;> simp only [hko, cond_true, cond_false] at hr
      simp only [Bool.and_eq_true] at hko
      obtain ⟨hko, hni⟩ := hko
      have hno : ∀ j l c, H.get j ≠ .iter p l c := fun j l c e => by
        rcases Nat.lt_or_ge j H.nx with hj | hj
        · exact noIter_spec hni j hj l c e
        · rw [R.top j hj] at e; cases e
      obtain ⟨es', hes', hK⟩ := hr.ex
      rw [setK_eq] at hK
      have hkn := relV_data (μ' := Pos.none) _ (relV_scalar hko.1) hkv
      have hvn := relV_data (μ' := Pos.none) _ hko.2 hvv
      have hck : (Instr.checkKey false 10000 kt (a.eval k)).run P w = .ok () w := check_run h1 hko.1 hkv false w
      have fin : ∀ (ents' : Array MapEntry) (clock' : Nat), (Instr.mapUpdate t (a.eval m) (a.eval k) (a.eval v)).run P w = .ok () { w with heap := w.heap.setIfInBounds b (.map ents' clock') } →
          relE M es' ents'.toList → (∀ e ∈ ents'.toList, e.born < clock') → (ents'.toList.map (·.born)).Nodup → Yields2 P o a M μ H K w := by
        intro ents' clock' hrun q1 q2 q3
        obtain ⟨R', G⟩ := R.writeM hes hμ hb q1 q2 q3 hno
        exact ⟨.skip, undef, _, by simp only [execOp, ho, Sem.run_bind, hrun, Result.andThen_ok, Sem.run_pure], .inr ⟨rfl, rfl⟩, M, μ, _, .any, R', by simp only [relV], G, hK⟩
      rcases mput_find h1 hko.1 hkn hvn 0 hes' hE with ⟨rfl, h5⟩ | ⟨j, e, h5, h6, h7, h8⟩
      · refine fin (ents.push { key := a.eval k, val := a.eval v, born := clock }) (clock + 1) ?_ (by simp only [Array.toList_push]; exact relE_snoc hE hkn hvn) ?_ ?_
        · have hf : (Instr.findKey kt (a.eval k) ents.toList).run P w = .ok none w := ask_run h1 h5 w
          rw [hv]
          simp only [Instr.mapUpdate, Sem.run_bind, run_underlying ht, Result.andThen_ok, MapKept.run_getObj_map hb, hck, hf, MapKept.run_setObj_map _ hb]
        · intro e he
          simp only [Array.toList_push, List.mem_append, List.mem_singleton] at he
          rcases he with he | rfl
          · exact Nat.lt_succ_of_lt (hc1 e he)
          · exact Nat.lt_succ_self _
        · simp only [Array.toList_push, List.map_append, List.map_cons, List.map_nil]
          rw [List.nodup_append]
          refine ⟨hc2, by simp, ?_⟩
          intro x hx y hy
          simp only [List.mem_singleton] at hy
          subst hy
          have := born_mem.1 hc1 x hx
          omega
      · have hkey : (Instr.keyThatStays e.key (a.eval k)).run P w = .ok (a.eval k) w := by
          have hs : Instr.sameBits 10000 e.key (a.eval k) = true := by rw [h6]; exact same_bits hko.1 hkv
          simp only [Instr.keyThatStays, hs, if_true, Sem.run_pure]
        have hget : ents[j]? = some e := by simpa using h5
        refine fin (ents.modify j fun e => { e with key := a.eval k, val := a.eval v }) clock ?_ (by rw [Array.toList_modify]; exact h8 _ fun e => ⟨rfl, rfl⟩) ?_ ?_
        · have hf : (Instr.findKey kt (a.eval k) ents.toList).run P w = .ok (some (j, e.val)) w := ask_run h1 (by rw [Nat.zero_add] at h7; exact h7) w
          rw [hv]
          simp only [Instr.mapUpdate, Sem.run_bind, run_underlying ht, Result.andThen_ok, MapKept.run_getObj_map hb, hck, hf, hget, Option.map_some, Option.getD_some, hkey, MapKept.run_setObj_map _ hb]
        · rw [born_mem, Array.toList_modify, modify_born ents.toList j (fun e => { e with key := a.eval k, val := a.eval v }) (fun _ => rfl)]; exact born_mem.1 hc1
        · rw [Array.toList_modify, modify_born ents.toList j (fun e => { e with key := a.eval k, val := a.eval v }) (fun _ => rfl)]; exact hc2
  · cases h1

theorem run_maplen {t : TypeId} {kt et : TypeId} {m : Operand} {o : Oper} {l : Array MapEntry} (ho : o.op = .call { callee := .builtin .len, args := #[m], argTypes := #[t] }) (ht : P.underlying t = some (.map kt et)) (hx : (a.eval m = .map none ∧ l = #[]) ∨ ∃ b clock, a.eval m = .map (some b) ∧ w.heap[b]? = some (.map l clock)) :
    (execOp a.eval o).run P w = .ok (.value (.int .i64 l.size)) w := by
  rw [run_call_builtin ho]
  rcases hx with ⟨hv, rfl⟩ | ⟨b, clock, hv, hb⟩
  · simp [builtin, Builtin.len_, hv, run_underlying ht, goInt]
  · simp [builtin, Builtin.len_, hv, run_underlying ht, goInt, MapKept.run_getObj_map hb]

theorem sound_mlen {c : Call} {m' : AX} {o : Oper} (ho : o.op = .call c) (h : okM P (.call c) (.len m') = true) (R : Rel M μ H w) (F : RelF N M μ fr a.tmps)
    (hr : (MOp.len m').run (AX.ev fr) H K) : Yields2 P o a M μ H K w := by
  simp only [okM] at h
  split at h
  · rename_i m t hb
    have hc := bcall_spec hb
    subst hc
    split at h
    · rename_i kt et ht
      have hm := rel_okX F h
      simp only [MOp.run] at hr
      have fin : ∀ (l : Array MapEntry) (es : List (AV × AV)), ((a.eval m = .map none ∧ l = #[]) ∨ ∃ b clock, a.eval m = .map (some b) ∧ w.heap[b]? = some (.map l clock)) → relE M es l.toList → K (.int .i64 es.length) H → Yields2 P o a M μ H K w := by
        intro l es hx hE hK
        have hrun := run_maplen (a := a) (o := o) (l := l) ho ht hx
        have hl : l.size = es.length := by rw [← relE_length hE]; simp
        rw [hl] at hrun
        exact yields2_same R hrun (mk_int _ _) hK
      rcases mapK_spec R hm hr with ⟨hv, hr⟩ | ⟨p, b, sz, es, ents, clock, hv, _, _, _, hb, hE, _, _, hr⟩
      · exact fin #[] [] (.inl ⟨hv, rfl⟩) (by simp [relE]) hr
      · exact fin ents es (.inr ⟨b, clock, hv, hb⟩) hE hr
    · cases h
  · cases h
theorem erase_born {l : List MapEntry} {j : Nat} : ∀ n ∈ (l.eraseIdx j).map (·.born), n ∈ l.map (·.born) := fun n hn => by
  obtain ⟨e, he, rfl⟩ := List.mem_map.1 hn
  exact List.mem_map_of_mem (List.mem_of_mem_eraseIdx he)
theorem sound_mdel {c : Call} {kk : KK} {m' k' : AX} {o : Oper} (ho : o.op = .call c) (h : okM P (.call c) (.del kk m' k') = true) (R : Rel M μ H w) (F : RelF N M μ fr a.tmps)
    (hr : (MOp.del kk m' k').run (AX.ev fr) H K) : Yields2 P o a M μ H K w := by
  simp only [okM] at h
  split at h
  · rename_i m k t t2 hb
    have hc := bcall_spec hb
    subst hc
    simp only [Bool.and_eq_true] at h
    obtain ⟨⟨h1, h2⟩, h3⟩ := h
    split at h1
    · rename_i kt et ht
      have hm := rel_okX F h2
      have hkv := rel_okX F h3
      simp only [MOp.run] at hr
      rcases mapK_spec R hm hr with ⟨hv, hr⟩ | ⟨p, b, sz, es, ents, clock, hv, hmp, hes, hμ, hb, hE, hc1, hc2, hr⟩
      · exact hr.elim
      · simp only at hr
        cases hko : (keyOk kk (AX.ev fr k') && noIter H.get p H.nx) <;> simp only [hko, cond_true, cond_false] at hr
        simp only [Bool.and_eq_true] at hko
        obtain ⟨hko, hni⟩ := hko
        have hno : ∀ j l c, H.get j ≠ .iter p l c := fun j l c e => by
          rcases Nat.lt_or_ge j H.nx with hj | hj
          · exact noIter_spec hni j hj l c e
          · rw [R.top j hj] at e; cases e
        obtain ⟨es', hes', hK⟩ := hr.ex
        rw [setK_eq] at hK
        have hck : (Instr.checkKey ents.isEmpty 10000 kt (a.eval k)).run P w = .ok () w := check_run h1 hko hkv _ w
        have fin : ∀ (ents' : Array MapEntry), (execOp a.eval o).run P w = .ok (.value (.tuple #[])) { w with heap := w.heap.setIfInBounds b (.map ents' clock) } →
            relE M es' ents'.toList → (∀ e ∈ ents'.toList, e.born < clock) → (ents'.toList.map (·.born)).Nodup → Yields2 P o a M μ H K w := by
          intro ents' hrun q1 q2 q3
          obtain ⟨R', G⟩ := R.writeM hes hμ hb q1 q2 q3 hno
          exact ⟨_, .tuple #[], _, hrun, .inl rfl, M, μ, _, .tuple [], R', by simp only [relV]; exact ⟨#[], rfl, by simp [relL]⟩, G, hK⟩
        rcases mdel_find h1 hko hkv 0 hes' hE with ⟨h5, h6⟩ | ⟨j, e, h5, h6, h7⟩
        · have hf : (Instr.findKey kt (a.eval k) ents.toList).run P w = .ok none w := ask_run h1 h6 w
          refine fin ents ?_ h5 hc1 hc2
          rw [run_call_builtin ho]
          simp [builtin, Builtin.delete_, hv, run_underlying ht, MapKept.run_getObj_map hb, hck, hf, MapKept.run_setObj_map _ hb]
        · have hf : (Instr.findKey kt (a.eval k) ents.toList).run P w = .ok (some (j, e.val)) w := ask_run h1 (by rw [Nat.zero_add] at h6; exact h6) w
          have hjl : j < ents.size := by have := (List.getElem?_eq_some_iff.1 h5).1; simpa using this
          have htl : (ents.eraseIdxIfInBounds j).toList = ents.toList.eraseIdx j := by simp
          refine fin (ents.eraseIdxIfInBounds j) ?_ (by rw [htl]; exact h7) ?_ ?_
          · rw [run_call_builtin ho]
            simp [builtin, Builtin.delete_, hv, run_underlying ht, MapKept.run_getObj_map hb, hck, hf, MapKept.run_setObj_map _ hb]
          · rw [htl, born_mem]; exact fun n hn => born_mem.1 hc1 n (erase_born n hn)
          · rw [htl]; exact List.Sublist.nodup (List.Sublist.map _ (List.eraseIdx_sublist ..)) hc2
    · cases h1
  · cases h
theorem sound_range {t : TypeId} {m : Operand} {m' : AX} {o : Oper} (ho : o.op = .range t m) (h : okM P (.range t m) (.range m') = true) (R : Rel M μ H w) (F : RelF N M μ fr a.tmps)
    (hr : (MOp.range m').run (AX.ev fr) H K) : Yields2 P o a M μ H K w := by
  simp only [okM] at h
  split at h
  · rename_i kt et ht
    have hm := rel_okX F h
    simp only [MOp.run] at hr
    rcases mapK_spec R hm hr with ⟨hv, hr⟩ | ⟨p, b, sz, es, ents, clock, hv, hmp, hes, hμ, hb, hE, hc1, hc2, hr⟩
    · exact hr.elim
    · simp only [iterK_eq] at hr
      obtain ⟨R', G⟩ := R.pushI hes hμ hb hE hc1 hc2
      refine ⟨_, .pointer (some ⟨w.heap.size, 0, none⟩), _, ?_, .inl rfl, _, _, _, _, R', ?_, G, hr⟩
      · simp only [execOp, ho, hv, Sem.run_bind, run_range_map w t kt et b ents clock ht hb, Result.andThen_ok, Sem.run_pure]
      · simp only [relV]; exact ⟨w.heap.size, 0, Pos.put_same _ _ _, rfl⟩
  · cases h
theorem relE_nil : ∀ {es : List (AV × AV)}, relE M es [] → es = []
  | [], _ => rfl
  | (_, _) :: _, h => by simp [relE] at h
theorem sound_next {it : Operand} {it' : AX} {o : Oper} (ho : o.op = .next it false) (h : okX it it' = true) (R : Rel M μ H w) (F : RelF N M μ fr a.tmps)
    (hr : (MOp.next it').run (AX.ev fr) H K) : Yields2 P o a M μ H K w := by
  have hi := rel_okX F h
  simp only [MOp.run] at hr
  split at hr
  · rename_i j hev
    rw [hev] at hi
    simp only [relV] at hi
    obtain ⟨r, s0, hμj, hv⟩ := hi
    split at hr
    · rename_i k left cur hj
      obtain ⟨_, b, s, g1, bm, s2, ents, clock, since, seen, last, g2, g3, g4, g5, ⟨g6, g6'⟩, g7, g8, _⟩ := R.iters j k left cur hj
      rw [hμj] at g1; cases g1
      have hleft : (leftOf ents seen).toList = ents.toList.filter fun e => !seen.contains e.born := by simp [leftOf]
      rcases run_next_at (P := P) w o.type r bm since last seen ents clock g3 g4 g5 g6 with ⟨hz, hrun⟩ | ⟨e, he, w1, hw1, hrun⟩
      · have h0 : ents.toList.filter (fun e => !seen.contains e.born) = [] := by
          rw [← hleft]; exact List.length_eq_zero_iff.1 (by simpa using hz)
        rw [h0] at g8
        exact ⟨_, .tuple #[.bool false], w, by simp only [execOp, ho, hv, Sem.run_bind, hrun, Result.andThen_ok, Sem.run_pure], .inl rfl, M, μ, H, _, R, by simp only [relV]; exact ⟨#[.bool false], rfl, by simp [relL, relV]⟩, Move.refl _ _ _ _, hr.done (relE_nil g8)⟩
      · rw [hleft] at he
        obtain ⟨l1, x, y, l2, L1, L2, rfl, hL, q1, q2, q3⟩ := relE_mem g8 he
        have hK := hr.step l1 x y l2 rfl
        rw [setK_eq] at hK
        have hst := left_step g7 hL
        have hem : e ∈ ents.toList := (List.mem_filter.1 he).1
        have fin : ∀ w1 : World, Rel M μ H w1 → w1.heap = w.heap → (Instr.next (.pointer (some ⟨r, 0, none⟩)) false o.type).run P w = .ok (.tuple #[.bool true, e.key, e.val]) (Go.ChangeMaps.setBlock w1 r (.mapIter (some bm) since (seen.push e.born) clock)) →
            (∀ {M' : Mem} {μ' : Pos} {H' : Heap} {w' : World}, Move M μ H w1 M' μ' H' w' → Move M μ H w M' μ' H' w') → Yields2 P o a M μ H K w := by
          intro w1 R1 hh hrun hG
          obtain ⟨R', G⟩ := R1.stepI (p := (x, y)) (l' := l1 ++ l2) (since := since) (seen := seen) (e := e) hj hμj g2 (by rw [hh]; exact g3) (by rw [hh]; exact g4) g5 g6' g7 (by rw [hst]; exact q3) hem q1 q2
          refine ⟨_, .tuple #[.bool true, e.key, e.val], Go.ChangeMaps.setBlock w1 r (.mapIter (some bm) since (seen.push e.born) clock), by simp only [execOp, ho, hv, Sem.run_bind, hrun, Result.andThen_ok, Sem.run_pure], .inl rfl, M, μ, _, _, R', ?_, hG G, hK⟩
          simp only [relV]
          refine ⟨#[.bool true, e.key, e.val], rfl, ?_⟩
          have hn : Pos.le Pos.none μ := fun _ _ h => by cases h
          simp only [relL, relV]
          exact ⟨_, _, rfl, rfl, _, _, rfl, relV_mono (Mem.le_refl _) _ hn q1, _, _, rfl, relV_mono (Mem.le_refl _) _ hn q2, rfl⟩
        rcases hw1 with rfl | rfl
        · exact fin _ R rfl hrun id
        · exact fin _ R.drew rfl hrun Move.of_drew
    · exact hr.elim
  · exact hr.elim
theorem sound_entry {it : Operand} {it' : AX} {o : Oper} (ho : o.op = .entry it) (h : okX it it' = true) (R : Rel M μ H w) (F : RelF N M μ fr a.tmps)
    (hr : (MOp.entry it').run (AX.ev fr) H K) : Yields2 P o a M μ H K w := by
  have hi := rel_okX F h
  simp only [MOp.run] at hr
  split at hr
  · rename_i j hev
    rw [hev] at hi
    simp only [relV] at hi
    obtain ⟨r, s0, hμj, hv⟩ := hi
    split at hr
    · rename_i k left x y hj
      obtain ⟨_, b, s, g1, bm, s2, ents, clock, since, seen, last, g2, g3, g4, g5, ⟨g6, g6'⟩, g7, g8, g9⟩ := R.iters j k left _ hj
      rw [hμj] at g1; cases g1
      obtain ⟨e, seen0, rfl, rfl, e3, e4, e5⟩ := g9 (x, y) rfl
      have hrun := run_entry_at (P := P) w r bm since seen0 ents last e g3 g4 e3 g7
      refine ⟨_, .tuple #[e.key, e.val], w, by simp only [execOp, ho, hv, Sem.run_bind, hrun, Result.andThen_ok, Sem.run_pure], .inl rfl, M, μ, H, _, R, ?_, Move.refl _ _ _ _, hr⟩
      simp only [relV]
      refine ⟨#[e.key, e.val], rfl, ?_⟩
      have hn : Pos.le Pos.none μ := fun _ _ h => by cases h
      simp only [relL]
      exact ⟨_, _, rfl, relV_mono (Mem.le_refl _) _ hn e4, _, _, rfl, relV_mono (Mem.le_refl _) _ hn e5, rfl⟩
    · exact hr.elim
  · exact hr.elim
theorem eraseIdx_filter {α : Type} {p : α → Bool} : ∀ {l : List α} {j : Nat} {e : α}, l[j]? = some e → p e = false → (l.eraseIdx j).filter p = l.filter p
  | [], j, e, h, _ => by simp at h
  | x :: l, 0, e, h, hp => by simp at h; subst h; simp [hp]
  | x :: l, j + 1, e, h, hp => by
    simp only [List.eraseIdx_cons_succ, List.filter_cons]
    rw [eraseIdx_filter (by simpa using h) hp]
theorem mdel_find2 {kt : TypeId} {kk : KK} {key : AV} {u : Value} (hki : keyIs P kt kk = true) (hok : keyOk kk key = true) (hu : relV M key μ u) : ∀ {es es' : List (AV × AV)} {l : List MapEntry} (i : Nat), mdel kk key es = some es' → relE M es l →
    (relE M es' l ∧ Ask P kt kk u l i none) ∨ (∃ j e, l[j]? = some e ∧ Cmp P kt kk u e.key true ∧ Ask P kt kk u l i (some (i + j, e.val)) ∧ relE M es' (l.eraseIdx j))
  | [], es', l, i, h, hr => by
    simp only [relE] at hr; subst hr
    simp only [mdel] at h; cases h
    exact .inl ⟨by simp [relE], ask_nil⟩
  | (k, y) :: es, es', l, i, h, hr => by
    simp only [relE] at hr
    obtain ⟨e, t, rfl, h1, h2, h3⟩ := hr
    simp only [mdel] at h
    split at h
    · rename_i hq
      cases h
      obtain ⟨s1, _⟩ := same_of hki hok hq hu h1
      exact .inr ⟨0, e, rfl, s1, ask_yes s1, by simpa using h3⟩
    · rename_i hq
      obtain ⟨s1, _⟩ := same_of hki hok hq hu h1
      split at h
      · rename_i r' hr'
        cases h
        rcases mdel_find2 hki hok hu (i + 1) hr' h3 with ⟨h4, h5⟩ | ⟨j, e', h4, h4', h5, h6⟩
        · exact .inl ⟨by simp only [relE]; exact ⟨e, t, rfl, h1, h2, h4⟩, ask_no s1 h5⟩
        · exact .inr ⟨j + 1, e', by simpa using h4, h4', ask_no s1 (by rw [show i + 1 + j = i + (j + 1) by omega] at h5; exact h5), by simp only [List.eraseIdx_cons_succ, relE]; exact ⟨e, _, rfl, h1, h2, h6⟩⟩
      · cases h
    · cases h
theorem cmp_det {kt : TypeId} {kk : KK} {u v : Value} (h1 : Cmp P kt kk u v true) (h2 : Cmp P kt kk u v false) (w : World) : False := by
  cases kk with
  | c s => simp only [Cmp] at h1 h2; rw [h1] at h2; cases h2
  | f ks => have a := h1 w; rw [h2 w] at a; cases a
theorem mfind_none {kt : TypeId} {kk : KK} {key : AV} {u : Value} (hki : keyIs P kt kk = true) (hok : keyOk kk key = true) (hu : relV M key μ u) : ∀ {es : List (AV × AV)} {l : List MapEntry}, mfind kk key es = some none → relE M es l → ∀ e ∈ l, Cmp P kt kk u e.key false
  | [], l, _, hr, e, he => by simp only [relE] at hr; subst hr; cases he
  | (k, y) :: es, l, h, hr, e, he => by
    simp only [relE] at hr
    obtain ⟨e0, t, rfl, h1, h2, h3⟩ := hr
    simp only [mfind] at h
    split at h
    · cases h
    · rename_i hq
      obtain ⟨s1, _⟩ := same_of hki hok hq hu h1
      rcases List.mem_cons.1 he with rfl | he
      · exact s1
      · exact mfind_none hki hok hu h h3 e he
    · cases h
/-- A walk, taken up again. -/
theorem Rel.addI (R : Rel M μ H w) {j k r s : Nat} {left : List (AV × AV)} {cur : Option (AV × AV)} (hk : H.get k ≠ .dead) (hj : H.get j = .dead) (hμ : μ j = some (r, s)) (hu : ∀ i s', H.get i ≠ .dead → μ i ≠ some (r, s')) (hap : ∀ o, M r o = none) (hI : IterAt M μ w k left cur r) : Rel M μ (H.set j (.iter k left cur)) w := by
  have hjk : j ≠ k := fun e => by subst e; exact hk hj
  have al : ∀ i, (H.set j (.iter k left cur)).get i ≠ .dead → i = j ∨ H.get i ≠ .dead := fun i hi => by
    rw [Heap.get_set] at hi; split at hi
    · rename_i e; exact .inl e.symm
    · exact .inr hi
  refine ⟨R.glob, R.dom, fun i hi => ?_, fun i ds hi => ?_, fun i es hi => ?_, fun i k' l c hi => ?_, R.recs_same (Mem.le_refl _) (fun i st id fr hi => ?_) (Pos.le_refl _) (fun _ _ _ => rfl), fun i i' x s1 t hi hi' hx hy => ?_, R.imm, fun i x s1 hi hx o => ?_⟩
  · rw [Heap.get_set]
    have := R.pos_lt hμ
    simp only [Heap.set] at hi
    rw [if_neg (by omega)]; exact R.top i hi
  · rw [Heap.get_set] at hi
    split at hi
    · cases hi
    · exact R.cells i ds hi
  · rw [Heap.get_set] at hi
    split at hi
    · cases hi
    · exact R.maps i es hi
  · rw [Heap.get_set] at hi
    split at hi
    · rename_i e; subst e
      cases hi
      exact ⟨by rw [Heap.get_set, if_neg hjk]; exact hk, r, s, hμ, hI⟩
    · rename_i hij
      obtain ⟨h1, h2⟩ := R.iters i k' l c hi
      refine ⟨?_, h2⟩
      rw [Heap.get_set]; split
      · simp
      · exact h1
  · rw [Heap.get_set] at hi
    split at hi
    · cases hi
    · exact hi
  · rcases al i hi with rfl | h1 <;> rcases al i' hi' with rfl | h2
    · rfl
    · rw [hμ] at hx; cases hx; exact absurd hy (hu _ _ h2)
    · rw [hμ] at hy; cases hy; exact absurd hx (hu _ _ h1)
    · exact R.inj i i' x s1 t h1 h2 hx hy
  · rcases al i hi with rfl | h1
    · rw [hμ] at hx; cases hx; exact hap o
    · exact R.apart i x s1 h1 hx o
theorem sound_delw {c : Call} {kk : KK} {m' k' it : AX} {o : Oper} (ho : o.op = .call c) (h : okM P (.call c) (.delw kk m' k' it) = true) (R : Rel M μ H w) (F : RelF N M μ fr a.tmps)
    (hr : (MOp.delw kk m' k' it).run (AX.ev fr) H K) : Yields2 P o a M μ H K w := by
  simp only [okM] at h
  split at h
  · rename_i m k t t2 hb
    have hc := bcall_spec hb
    subst hc
    simp only [Bool.and_eq_true] at h
    obtain ⟨⟨h1, h2⟩, h3⟩ := h
    split at h1
    · rename_i kt et ht
      have hm := rel_okX F h2
      have hkv := rel_okX F h3
      simp only [MOp.run] at hr
      rcases mapK_spec R hm hr with ⟨hv, hr⟩ | ⟨p, b, sz, es, ents, clock, hv, hmp, hes, hμ, hb, hE, hc1, hc2, hr⟩
      · exact hr.elim
      · simp only at hr
        split at hr
        · rename_i j hit
          split at hr
          · rename_i p' left cur hj
            cases hko : (keyOk kk (AX.ev fr k') && (Nat.beq p' p && noIterBut H.get p j H.nx)) <;> simp only [hko, cond_true, cond_false] at hr
            simp only [Bool.and_eq_true] at hko
            obtain ⟨hko, hpp, hni⟩ := hko
            have hpp := Nat.eq_of_beq_eq_true hpp
            subst hpp
            obtain ⟨r0, hf0, hr0, hr⟩ := hr.ex
            subst hr0
            obtain ⟨es', hes', hK⟩ := hr.ex
            simp only [setK_eq] at hK
            obtain ⟨_, r, s, g1, bm, s2, ents2, clock2, since, seen, last, g2, g3, g4, g5, g6, g7, g8, g9⟩ := R.iters j p' left cur hj
            rw [hμ] at g2; cases g2
            rw [hb] at g4; cases g4
            have hjp : j ≠ p' := fun e => by subst e; rw [hes] at hj; cases hj
            have hrb : r ≠ b := fun e => hjp (R.inj j p' r s sz (by rw [hj]; simp) (by rw [hes]; simp) g1 (by rw [e]; exact hμ))
            -- without the walk
            obtain ⟨R0, own0⟩ := R.kill j (fun es2 e => by rw [hj] at e; cases e)
            have hes0 : (H.set j .dead).get p' = .map es := by rw [Heap.get_set, if_neg hjp]; exact hes
            have hno : ∀ i l c, (H.set j .dead).get i ≠ .iter p' l c := fun i l c e => by
              rw [Heap.get_set] at e
              split at e
              · cases e
              · rename_i hij
                rcases Nat.lt_or_ge i H.nx with hi | hi
                · exact noIterBut_spec hni i hi (Ne.symm hij) l c e
                · rw [R.top i hi] at e; cases e
            have hck : (Instr.checkKey ents.isEmpty 10000 kt (a.eval k)).run P w = .ok () w := check_run h1 hko hkv _ w
            have unseen := mfind_none h1 hko hkv hf0 g8
            have fin : ∀ (ents' : Array MapEntry), (execOp a.eval o).run P w = .ok (.value (.tuple #[])) { w with heap := w.heap.setIfInBounds b (.map ents' clock) } →
                relE M es' ents'.toList → (∀ e ∈ ents'.toList, e.born < clock) → (ents'.toList.map (·.born)).Nodup → (∀ e ∈ ents'.toList, e.born < since) → (ents'.toList.filter (fun e => !seen.contains e.born)) = (ents.toList.filter fun e => !seen.contains e.born) → Yields2 P o a M μ H K w := by
              intro ents' hrun q1 q2 q3 q4 q5
              obtain ⟨R1, G1⟩ := R0.writeM hes0 hμ hb q1 q2 q3 hno
              have R2 := R1.addI (j := j) (k := p') (r := r) (s := s) (left := left) (cur := none) (by rw [Heap.get_set, if_pos rfl]; simp) (by rw [Heap.get_set, if_neg (Ne.symm hjp), Heap.get_set, if_pos rfl]) g1 (fun i s' hi hx => by
                  have hij : i ≠ j := fun e => by subst e; rw [Heap.get_set, if_neg (Ne.symm hjp), Heap.get_set, if_pos rfl] at hi; exact hi rfl
                  have hi' : H.get i ≠ .dead := by
                    rw [Heap.get_set] at hi; split at hi
                    · rename_i e; subst e; rw [hes]; simp
                    · rw [Heap.get_set, if_neg (Ne.symm hij)] at hi; exact hi
                  exact hij (R.inj i j r s' s hi' (by rw [hj]; simp) hx g1)) (R.apart j r s (by rw [hj]; simp) g1)
                ⟨b, sz, ents', clock, since, seen, last, hμ, by rw [(MapKept.heap_set hb).2 r hrb]; exact g3, (MapKept.heap_set hb).1, q4, g6, q3, by rw [q5]; exact g8, fun c hc => by cases hc⟩
              have hget : (((H.set j .dead).set p' (.map es')).set j (.iter p' left none)).get = ((H.set p' (.map es')).set j (.iter p' left none)).get := by
                funext i
                simp only [Heap.get_set]
                by_cases q1 : j = i <;> by_cases q2 : p' = i <;> simp [q1, q2]
              have own2 : ∀ x, Own μ ((H.set p' (.map es')).set j (.iter p' left none)) x → Own μ H x := fun x ⟨i, s', hi, hx⟩ => ⟨i, s', by
                  rw [Heap.get_set] at hi; split at hi
                  · rename_i e; subst e; rw [hj]; simp
                  · rw [Heap.get_set] at hi; split at hi
                    · rename_i e; subst e; rw [hes]; simp
                    · exact hi, hx⟩
              have R3 : Rel M μ ((H.set p' (.map es')).set j (.iter p' left none)) { w with heap := w.heap.setIfInBounds b (.map ents' clock) } := by
                refine ⟨R2.glob, R2.dom, fun i hi => by rw [← hget]; exact R2.top i hi, fun i ds hi => R2.cells i ds (by rw [hget]; exact hi), fun i es2 hi => R2.maps i es2 (by rw [hget]; exact hi), fun i k2 l c2 hi => ?_, fun i st id fr hi => R2.loops i st id fr (by rw [hget]; exact hi), fun i i' x s1 t1 hi hi' => R2.inj i i' x s1 t1 (by rw [hget]; exact hi) (by rw [hget]; exact hi'), R2.imm, fun i x s1 hi => R2.apart i x s1 (by rw [hget]; exact hi)⟩
                have hh := R2.iters i k2 l c2 (by rw [hget]; exact hi)
                exact ⟨by rw [← hget]; exact hh.1, hh.2⟩
              exact ⟨_, .tuple #[], _, hrun, .inl rfl, M, μ, _, .tuple [], R3, by simp only [relV]; exact ⟨#[], rfl, by simp [relL]⟩, ⟨Pos.le_refl _, ⟨Mem.le_refl _, fun _ _ => rfl, ⟨rfl, rfl, rfl, by simp, fun x hx hn => (MapKept.heap_set hb).2 x (fun e => hn ⟨p', sz, by rw [hes]; simp, by rw [e]; exact hμ⟩)⟩, fun x hx => .inl (own2 x hx), fun _ _ _ h => .inl h⟩, Nat.le_refl _⟩, hK⟩
            rcases mdel_find2 h1 hko hkv 0 hes' hE with ⟨h5, h6⟩ | ⟨q, e, h5, h5', h6, h7⟩
            · have hf : (Instr.findKey kt (a.eval k) ents.toList).run P w = .ok none w := ask_run h1 h6 w
              refine fin ents ?_ h5 hc1 hc2 g5 rfl
              rw [run_call_builtin ho]
              simp [builtin, Builtin.delete_, hv, run_underlying ht, MapKept.run_getObj_map hb, hck, hf, MapKept.run_setObj_map _ hb]
            · have hf : (Instr.findKey kt (a.eval k) ents.toList).run P w = .ok (some (q, e.val)) w := ask_run h1 (by rw [Nat.zero_add] at h6; exact h6) w
              have htl : (ents.eraseIdxIfInBounds q).toList = ents.toList.eraseIdx q := by simp
              have hnot : (fun e : MapEntry => !seen.contains e.born) e = false := by
                cases hs : (fun e : MapEntry => !seen.contains e.born) e with
                | false => rfl
                | true => exact (cmp_det h5' (unseen e (List.mem_filter.2 ⟨List.mem_of_getElem? h5, hs⟩)) w).elim
              refine fin (ents.eraseIdxIfInBounds q) ?_ (by rw [htl]; exact h7) ?_ ?_ ?_ ?_
              · rw [run_call_builtin ho]
                simp [builtin, Builtin.delete_, hv, run_underlying ht, MapKept.run_getObj_map hb, hck, hf, MapKept.run_setObj_map _ hb]
              · rw [htl, born_mem]; exact fun n hn => born_mem.1 hc1 n (erase_born n hn)
              · rw [htl]; exact List.Sublist.nodup (List.Sublist.map _ (List.eraseIdx_sublist ..)) hc2
              · rw [htl]; exact fun e he => g5 e (List.mem_of_mem_eraseIdx he)
              · rw [htl]; exact eraseIdx_filter h5 hnot
          · exact hr.elim
        · exact hr.elim
    · cases h1
  · cases h
theorem srcK_upto (R : Rel M μ H w) {e : Nat} {x : AV} {u : Value} (hx : relV M x μ u) {K : List AV → Nat → Prop} (hk : srcK H.get e x K) :
    ∃ ds m, K ds m ∧ ds.length = m * e ∧ (∃ ad c, u = .slice ad m c) ∧ ∃ news, news.length = m * e ∧ relL M ds μ news ∧ ∀ q, q ≤ m → (Builtin.firstCells e q u).run P w = .ok (news.take (q * e)).toArray w := by
  have some' : ∀ {ad : Addr} {m c : Nat} {vs : List Value}, vs.length = m * e → (∀ j v, vs[j]? = some v → w.cell? (ad.add j) = some v) → ∀ q, q ≤ m → (Builtin.firstCells e q (.slice (some ad) m c)).run P w = .ok (vs.take (q * e)).toArray w := by
    intro ad m c vs hl hc q hq
    have hlen : (vs.take (q * e)).length = q * e := by rw [List.length_take, hl]; exact Nat.min_eq_left (Nat.mul_le_mul_right _ hq)
    have := run_loadCells_list (P := P) w ad (vs.take (q * e)) (fun j v hj => by
      have hj2 : j < q * e := by rw [← hlen]; exact (List.getElem?_eq_some_iff.1 hj).1
      rw [List.getElem?_take_of_lt hj2] at hj
      exact hc j v hj)
    rw [hlen] at this
    simpa only [Builtin.firstCells] using this
  unfold srcK at hk
  split at hk
  · rename_i cs n cap
    simp only [relV] at hx
    rcases hx with ⟨b, q, c, rfl, _, _, hm⟩ | ⟨rfl, rfl, rfl, _⟩ | ⟨b, q, s, c, rfl, rfl, rfl, _⟩
    · obtain ⟨vs, h1, h2, h3⟩ := relM_cells R hm (n * e) hk.l
      exact ⟨_, n, hk.r, by rw [List.length_take]; have := hk.l; omega, ⟨_, _, rfl⟩, vs, h1, h2, some' h1 h3⟩
    · exact ⟨_, 0, hk.r, by simp, ⟨_, _, rfl⟩, [], by simp, by simp [relL], fun q hq => by simp [Builtin.firstCells]⟩
    · exact ⟨_, 0, hk.r, by simp, ⟨_, _, rfl⟩, [], by simp, by simp [relL], some' (by simp) (fun j v h => by simp at h)⟩
  · simp only [relV] at hx
    subst hx
    exact ⟨[], 0, hk, by simp, ⟨_, _, rfl⟩, [], by simp, by simp [relL], fun q hq => by simp [Builtin.firstCells]⟩
  · rename_i k off n cap e'
    simp only [relV] at hx
    obtain ⟨b, sz, c, hμ, rfl, _⟩ := hx
    split at hk
    · rename_i cs hcs
      obtain ⟨vs, h1, h2, h3⟩ := cells_cells R hcs hμ (n * e) hk.l
      exact ⟨_, n, hk.r, by rw [List.length_take, List.length_drop]; have := hk.l; omega, ⟨_, _, rfl⟩, vs, h1, h2, some' h1 h3⟩
    · exact hk.elim
  · exact hk.elim
theorem copy_core {d s : Operand} {t tx : TypeId} {e : Nat} {dv xv : AV} {o : Oper} {el : TypeId} (ho : o.op = .call { callee := .builtin .copy, args := #[d, s], argTypes := #[t, tx] }) (hu : P.underlying t = some (.slice el)) (hsz : sized P el e = true) (hd : relV M dv μ (a.eval d)) (R : Rel M μ H w)
    (hsrc : ∀ {K : List AV → Nat → Prop}, srcK H.get e xv K → ∃ ds m, K ds m ∧ ds.length = m * e ∧ (Builtin.lenOf (a.eval s)).run P w = .ok m w ∧ ∃ news, news.length = m * e ∧ relL M ds μ news ∧ ∀ q, q ≤ m → (Builtin.firstCells e q (a.eval s)).run P w = .ok (news.take (q * e)).toArray w)
    (hr : match dv with
    | .slice k off n _ e' => match H.get k with
      | .cells cs => srcK H.get e xv fun ds m => Side (e' = e) (Branch (decide (m ≤ n)) (cpK H k off cs ds m K) (cpK H k off cs (ds.take (n * e)) n K))
      | _ => False
    | _ => False) : Yields2 P o a M μ H K w := by
  split at hr
  · rename_i k off n cap e'
    simp only [relV] at hd
    obtain ⟨b, sz, cp, hμ, hv, hlc, hroom, _⟩ := hd
    split at hr
    · rename_i cs hk
      obtain ⟨ds, m, hside, hdl, hlen2, news, hnl, hrel, hcells⟩ := hsrc hr
      obtain ⟨he, hbr⟩ := hside
      subst he
      obtain ⟨b', sz', cc, el', fz, q1, q2, q3, q4, q5⟩ := R.cells k cs hk
      rw [hμ] at q1; cases q1
      have fin : ∀ (ms : Nat) (l : List AV) (vs : List Value), ms ≤ n → ms ≤ m → Nat.min m n = ms → relL M l μ vs → vs.length = ms * e' → (Builtin.firstCells e' ms (a.eval s)).run P w = .ok vs.toArray w → cpK H k off cs l ms K → Yields2 P o a M μ H K w := by
        intro ms l vs hms _ hmin hrl hvl hfc hK
        unfold cpK at hK
        obtain ⟨e1, e2, e3⟩ := lputK_spec hK
        rw [setK_eq] at e3
        have hle : ms * e' ≤ cp * e' := Nat.mul_le_mul_right _ (by omega)
        have hst := run_storeCells_fz (P := P) b off el' fz vs 0 cc w q2 (by rw [q3]; exact q4) (by rw [hvl, q3]; omega) (relL_one e2 hrl)
        simp only [Nat.add_zero] at hst
        have hple := relP_length q5
        simp only [Array.length_toList] at hple
        obtain ⟨R', G⟩ := R.write (c' := (cc.toList.take off ++ vs ++ cc.toList.drop (off + vs.length)).toArray) hk hμ q2 q4
          (by simp; omega) (relP_put q5 hrl e1)
        refine ⟨_, .int .i64 ms, _, ?_, .inl rfl, M, μ, _, .int .i64 ms, R', by simp only [relV], G, e3⟩
        rw [run_call_builtin ho]
        simp only [builtin, List.map_toArray, List.map_cons, List.map_nil, hv, Builtin.copy_, List.getElem?_toArray, List.getElem?_cons_zero, List.getElem?_cons_succ, Sem.run_bind, run_underlying hu, Result.andThen_ok, hlen2, Sem.run_pure, run_sizeOf hsz, goInt]
        rw [hmin]
        simp only [hfc, Result.andThen_ok, hst]
      by_cases hmn : m ≤ n
      · exact fin m ds news hmn (Nat.le_refl _) (Nat.min_eq_left hmn) hrel hnl (by have := hcells m (Nat.le_refl _); rwa [List.take_of_length_le (by omega)] at this) (hbr.yes (by simpa using hmn))
      · have hnm : n ≤ m := by omega
        have hle2 : n * e' ≤ m * e' := Nat.mul_le_mul_right _ hnm
        exact fin n (ds.take (n * e')) (news.take (n * e')) (Nat.le_refl _) hnm (Nat.min_eq_right hnm) (relP_take _ (by omega) (relP_of_relL hrel)) (by rw [List.length_take]; omega) (hcells n hnm) (hbr.no (by simpa using hmn))
    · exact hr.elim
  · exact hr.elim
theorem sound_copy {c : Call} {e : Nat} {d' s' : AX} {o : Oper} (ho : o.op = .call c) (h : okM P (.call c) (.copy e d' s') = true) (R : Rel M μ H w) (F : RelF N M μ fr a.tmps)
    (hr : (MOp.copy e d' s').run (AX.ev fr) H K) : Yields2 P o a M μ H K w := by
  simp only [okM] at h
  split at h
  · rename_i d s t tx hb
    have hc := bcall_spec hb
    subst hc
    simp only [Bool.and_eq_true] at h
    obtain ⟨⟨⟨h1, h2⟩, h3⟩, h4⟩ := h
    obtain ⟨el, hu, hsz⟩ : ∃ el, P.underlying t = some (.slice el) ∧ sized P el e = true := by
      unfold sliceOf at h1
      split at h1
      · rename_i el hu; exact ⟨el, hu, h1⟩
      · cases h1
    have hd := rel_okX F h3
    have hs := rel_okX F h4
    simp only [MOp.run] at hr
    exact copy_core ho hu hsz hd R (fun hk => by
      obtain ⟨ds, m, h5, h6, ⟨ad, c0, hu2⟩, h7⟩ := srcK_upto (P := P) R hs hk
      exact ⟨ds, m, h5, h6, by rw [hu2]; simp only [Builtin.lenOf, Sem.run_pure], h7⟩) hr
  · cases h
theorem sound_copyS {c : Call} {d' s' : AX} {o : Oper} (ho : o.op = .call c) (h : okM P (.call c) (.copyS d' s') = true) (R : Rel M μ H w) (F : RelF N M μ fr a.tmps)
    (hr : (MOp.copyS d' s').run (AX.ev fr) H K) : Yields2 P o a M μ H K w := by
  simp only [okM] at h
  split at h
  · rename_i d s t tx hb
    have hc := bcall_spec hb
    subst hc
    simp only [Bool.and_eq_true] at h
    obtain ⟨⟨⟨h1, h2⟩, h3⟩, h4⟩ := h
    obtain ⟨el, hu, hsz⟩ : ∃ el, P.underlying t = some (.slice el) ∧ sized P el 1 = true := by
      unfold sliceOf at h1
      split at h1
      · rename_i el hu; exact ⟨el, hu, h1⟩
      · cases h1
    have hd := rel_okX F h3
    have hs := rel_okX F h4
    simp only [MOp.run] at hr
    refine copy_core ho hu hsz hd R (fun {K} hk => ?_) hr
    generalize AX.ev fr s' = xv at hs hk
    unfold srcK strD at hk
    cases xv <;> simp only at hk
    rename_i st
    have hv := rel_str hs
    refine ⟨_, st.size, hk.r, by rw [List.length_take, strCells_len]; omega, by rw [hv]; simp only [Builtin.lenOf, Sem.run_pure], byteCells st, by rw [byteCells_length]; omega, by rw [List.take_of_length_le (by rw [strCells_len]; omega)]; exact strCells_rel st, fun q hq => ?_⟩
    rw [hv, Nat.mul_one]
    simp only [Builtin.firstCells, Sem.run_pure]
    congr 1
    apply Array.ext'
    simp [byteCells, ByteArray.extract, ByteArray.copySlice, List.map_take]
  · cases h
theorem mop_sound {o : Oper} {p : MOp} (h : okM P o.op p = true) (R : Rel M μ H w) (F : RelF N M μ fr a.tmps) (hr : p.run (AX.ev fr) H K) : Yields2 P o a M μ H K w := by
  cases hop : o.op <;> cases p <;> rw [hop] at h <;> try (simp [okM] at h; done)
  case makeMap.mk t r =>
    cases r with
    | none => exact sound_mk hop R hr
    | some x => simp [okM] at h
  case lookup.get t m k ok ok' kk zero m' k' =>
    have : ok = ok' := by simp only [okM, Bool.and_eq_true, beq_iff_eq] at h; exact h.1.1.2
    subst this
    exact sound_mget hop (by rw [hop]; exact h) R F hr
  case mapUpdate.set => exact sound_mset hop (by rw [hop]; exact h) R F hr
  case call.del => exact sound_mdel hop h R F hr
  case call.len => exact sound_mlen hop h R F hr
  case range.range => exact sound_range hop h R F hr
  case next.next it str it' =>
    cases str with
    | true => simp [okM] at h
    | false => exact sound_next hop (by simpa only [okM] using h) R F hr
  case call.delw => exact sound_delw hop h R F hr
  case call.copy => exact sound_copy hop h R F hr
  case call.copyS => exact sound_copyS hop h R F hr
  case entry.entry => exact sound_entry hop (by simpa only [okM] using h) R F hr
end
end Go.Eng

