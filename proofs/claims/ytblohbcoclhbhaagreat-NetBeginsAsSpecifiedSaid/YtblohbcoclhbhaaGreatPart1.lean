/- Part of a proof about the given program: lemmas that the other parts use. -/
import Derived.Tactics
import Derived.Below
import Derived.Laws.Sem
import Derived.Laws.World
import Derived.Laws.Entries
import Derived.IntWalk
import Derived.Laws.Strings
import Derived.Laws.Wrap64
import Derived.Laws.Small
import Derived.Laws.CopyRow
import Derived.Laws.StructEq
import Derived.ChangeKeysEq
import Derived.Laws.Cover3
import Derived.Laws.Pointers
import Derived.Laws.MakeOwn
import Derived.Laws.BytesString
import Derived.Deep.AppendSrc
import Derived.Deep.DeepAppendWide
import Derived.Laws.IdiomStrings
import Derived.MapKept
import Derived.Carry
import Derived.WideKeyRuns
import Derived.Maps.RangeRun

set_option linter.all false
set_option linter.unusedSimpArgs false
set_option linter.unusedVariables false
namespace Go.Eng
open Go
inductive AV where
 | any
 | bool (b : Bool)
 | int (k : IntKind) (n : Int)
 | str (s : ByteArray)
 | nilp
 | ptr (k off : Nat)
 | dptr (cs : List AV)
 | nils
 | slice (k off len : Nat) (cap : Option Nat) (e : Nat)
 | dslice (cs : List AV) (len : Nat) (cap : Option Nat)
 | nilm
 | map (k : Nat)
 | nilf
 | func (f : FuncId) (caps : List AV)
 | agg (cs : List AV)
 | tuple (cs : List AV)
 | yld (k : Nat)
 | nili
 | ifc (t : TypeId) (c : AV)
 | meth (f : FuncId) (bs : List AV)
abbrev Mem := Nat → Nat → Option Value
abbrev Pos := Nat → Option (Nat × Nat)
def Pos.none : Pos := fun _ => Option.none
mutual
def relS : AV → Value → Prop
 | .bool b, v => v = .bool b
 | .int k n, v => v = .int k n
 | .str s, v => v = .string s
 | .agg cs, v => ∃ vs, v = .agg vs ∧ relSL cs vs.toList
 | _, _ => False
def relSL : List AV → List Value → Prop
 | [], vs => vs = []
 | c :: cs, vs => ∃ v r, vs = v :: r ∧ relS c v ∧ relSL cs r
end
mutual
def relV (M : Mem) : AV → Pos → Value → Prop
 | .any, _, _ => True
 | .bool b, _, v => v = .bool b
 | .int k n, _, v => v = .int k n
 | .str s, _, v => v = .string s
 | .nilp, _, v => v = .pointer none
 | .ptr k off, μ, v => ∃ b sz, μ k = some (b, sz) ∧ v = .pointer (some ⟨b, off, none⟩)
 | .dptr cs, _, v => ∃ b o, v = .pointer (some ⟨b, o, none⟩) ∧ relM M cs b o
 | .nils, _, v => v = .slice none 0 0
 | .slice k off len cap e, μ, v => ∃ b sz c, μ k = some (b, sz) ∧ v = .slice (some ⟨b, off, none⟩) len c ∧ len ≤ c ∧ off + c * e ≤ sz ∧ (∀ c0, cap = some c0 → c = c0)
 | .dslice cs len cap, _, v => (∃ b o c, v = .slice (some ⟨b, o, none⟩) len c ∧ len ≤ c ∧ (∀ c0, cap = some c0 → c = c0) ∧ relM M cs b o) ∨ (v = .slice none 0 0 ∧ len = 0 ∧ cs = [] ∧ (∀ c0, cap = some c0 → c0 = 0)) ∨ (∃ b o s c, v = .slice (some ⟨b, o, some s⟩) 0 c ∧ len = 0 ∧ cs = [] ∧ (∀ c0, cap = some c0 → c = c0))
 | .nilm, _, v => v = .map none
 | .map k, μ, v => ∃ b sz, μ k = some (b, sz) ∧ v = .map (some b)
 | .nilf, _, v => v = .nilFunc
 | .func f caps, μ, v => ∃ vs, v = .func (.func f) #[] vs ∧ relL M caps μ vs.toList
 | .agg cs, μ, v => ∃ vs, v = .agg vs ∧ relL M cs μ vs.toList
 | .tuple cs, μ, v => ∃ vs, v = .tuple vs ∧ relL M cs μ vs.toList
 | .yld k, μ, v => ∃ b sz, μ k = some (b, sz) ∧ v = .func (.yield b) #[] #[]
 | .nili, _, v => v = .nilIface
 | .ifc t c, μ, v => ∃ x, v = .iface t x ∧ relV M c μ x
 | .meth f bs, μ, v => ∃ vs, v = .func (.func f) vs #[] ∧ relL M bs μ vs.toList
def relL (M : Mem) : List AV → Pos → List Value → Prop
 | [], _, vs => vs = []
 | c :: cs, μ, vs => ∃ v r, vs = v :: r ∧ relV M c μ v ∧ relL M cs μ r
def relM (M : Mem) : List AV → Nat → Nat → Prop
 | [], _, _ => True
 | c :: cs, b, o => (∃ u, M b o = some u ∧ relV M c Pos.none u) ∧ relM M cs b (o + 1)
end
mutual
def flatV : AV → Bool
 | .ptr _ _ | .slice _ _ _ _ _ | .map _ | .dptr _ | .dslice _ _ _ | .yld _ => false
 | .func _ cs | .agg cs | .tuple cs | .meth _ cs => flatL cs
 | .ifc _ c => flatV c
 | _ => true
def flatL : List AV → Bool
 | [] => true
 | c :: cs => flatV c && flatL cs
end
section
variable {M M' : Mem} {μ μ' : Pos}
mutual
theorem relV_flat : ∀ (c : AV) {v : Value}, flatV c = true → relV M c μ v → relV M' c μ' v
 | .any, _, _, _ => by simp only [relV]
 | .bool b, _, _, h => by simpa only [relV] using h
 | .int k n, _, _, h => by simpa only [relV] using h
 | .str s, _, _, h => by simpa only [relV] using h
 | .nilp, _, _, h => by simpa only [relV] using h
 | .nils, _, _, h => by simpa only [relV] using h
 | .nilm, _, _, h => by simpa only [relV] using h
 | .nilf, _, _, h => by simpa only [relV] using h
 | .nili, _, _, h => by simpa only [relV] using h
 | .ifc t c, _, hn, h => by simp only [relV, flatV] at *; obtain ⟨x, h1, h2⟩ := h; exact ⟨x, h1, relV_flat c hn h2⟩
 | .ptr _ _, _, h, _ | .slice _ _ _ _ _, _, h, _ | .map _, _, h, _ | .dptr _, _, h, _ | .dslice _ _ _, _, h, _ | .yld _, _, h, _ => by simp [flatV] at h
 | .func g cs, _, hn, h => by simp only [relV, flatV] at *; obtain ⟨vs, h1, h2⟩ := h; exact ⟨vs, h1, relL_flat cs hn h2⟩
 | .meth g cs, _, hn, h => by simp only [relV, flatV] at *; obtain ⟨vs, h1, h2⟩ := h; exact ⟨vs, h1, relL_flat cs hn h2⟩
 | .agg cs, _, hn, h => by simp only [relV, flatV] at *; obtain ⟨vs, h1, h2⟩ := h; exact ⟨vs, h1, relL_flat cs hn h2⟩
 | .tuple cs, _, hn, h => by simp only [relV, flatV] at *; obtain ⟨vs, h1, h2⟩ := h; exact ⟨vs, h1, relL_flat cs hn h2⟩
theorem relL_flat : ∀ (cs : List AV) {vs : List Value}, flatL cs = true → relL M cs μ vs → relL M' cs μ' vs
 | [], _, _, h => by simpa only [relL] using h
 | c :: cs, _, hn, h => by
  simp only [relL, flatL, Bool.and_eq_true] at *; obtain ⟨v, r, h1, h2, h3⟩ := h
  exact ⟨v, r, h1, relV_flat c hn.1 h2, relL_flat cs hn.2 h3⟩
end
end
def relP (M : Mem) (μ : Pos) : List AV → List Value → Prop
 | [], _ => True
 | c :: cs, vs => ∃ v r, vs = v :: r ∧ relV M c μ v ∧ relP M μ cs r
def Mem.le (M M' : Mem) : Prop := ∀ b o v, M b o = some v → M' b o = some v
theorem Mem.le_refl (M : Mem) : Mem.le M M := fun _ _ _ h => h
theorem Mem.le_trans {A B C : Mem} (h : Mem.le A B) (k : Mem.le B C) : Mem.le A C := fun b o v x => k b o v (h b o v x)
def Pos.le (μ μ' : Pos) : Prop := ∀ (k : Nat) (x : Nat × Nat), μ k = some x → μ' k = some x
theorem Pos.le_refl (μ : Pos) : Pos.le μ μ := fun _ _ h => h
theorem Pos.le_trans {a b c : Pos} (h : Pos.le a b) (k : Pos.le b c) : Pos.le a c := fun i x e => k i x (h i x e)
theorem Pos.none_le (μ : Pos) : Pos.le Pos.none μ := fun k x h => by cases h
def Pos.put (μ : Pos) (k : Nat) (x : Nat × Nat) : Pos := fun j => if j = k then some x else μ j
theorem Pos.put_same (μ : Pos) (k : Nat) (x : Nat × Nat) : μ.put k x k = some x := by simp [Pos.put]
theorem Pos.put_other (μ : Pos) {k j : Nat} (x : Nat × Nat) (h : j ≠ k) : μ.put k x j = μ j := by simp [Pos.put, h]
theorem Pos.le_put {μ : Pos} {k : Nat} (h : μ k = Option.none) (x : Nat × Nat) : Pos.le μ (μ.put k x) := fun j y hy => by
 by_cases hj : j = k
 · subst hj; rw [h] at hy; cases hy
 · rw [Pos.put_other μ x hj]; exact hy
mutual
theorem relV_mono {M M' : Mem} (hM : Mem.le M M') : ∀ (c : AV) {μ μ' : Pos} (_ : Pos.le μ μ') {v : Value}, relV M c μ v → relV M' c μ' v
 | .any, _, _, _, _, h => by simp only [relV]
 | .bool b, _, _, _, _, h => by simp only [relV] at *; exact h
 | .int k n, _, _, _, _, h => by simp only [relV] at *; exact h
 | .str s, _, _, _, _, h => by simp only [relV] at *; exact h
 | .nilp, _, _, _, _, h => by simp only [relV] at *; exact h
 | .ptr k off, _, _, hμ, _, h => by simp only [relV] at *; obtain ⟨b, sz, h1, h2⟩ := h; exact ⟨b, sz, hμ _ _ h1, h2⟩
 | .dptr cs, _, _, hμ, _, h => by simp only [relV] at *; obtain ⟨b, o, h1, h2⟩ := h; exact ⟨b, o, h1, relM_mono hM cs h2⟩
 | .nils, _, _, _, _, h => by simp only [relV] at *; exact h
 | .slice k off len cap e, _, _, hμ, _, h => by simp only [relV] at *; obtain ⟨b, sz, c, h1, h2⟩ := h; exact ⟨b, sz, c, hμ _ _ h1, h2⟩
 | .dslice cs len cap, _, _, hμ, _, h => by
  simp only [relV] at *
  rcases h with ⟨b, o, c, h1, h2, h3, h4⟩ | h
  · exact .inl ⟨b, o, c, h1, h2, h3, relM_mono hM cs h4⟩
  · exact .inr h
 | .nilm, _, _, _, _, h => by simp only [relV] at *; exact h
 | .map k, _, _, hμ, _, h => by simp only [relV] at *; obtain ⟨b, sz, h1, h2⟩ := h; exact ⟨b, sz, hμ _ _ h1, h2⟩
 | .nilf, _, _, _, _, h => by simp only [relV] at *; exact h
 | .func f caps, _, _, hμ, _, h => by simp only [relV] at *; obtain ⟨vs, h1, h2⟩ := h; exact ⟨vs, h1, relL_mono hM caps hμ h2⟩
 | .agg cs, _, _, hμ, _, h => by simp only [relV] at *; obtain ⟨vs, h1, h2⟩ := h; exact ⟨vs, h1, relL_mono hM cs hμ h2⟩
 | .tuple cs, _, _, hμ, _, h => by simp only [relV] at *; obtain ⟨vs, h1, h2⟩ := h; exact ⟨vs, h1, relL_mono hM cs hμ h2⟩
 | .yld k, _, _, hμ, _, h => by simp only [relV] at *; obtain ⟨b, sz, h1, h2⟩ := h; exact ⟨b, sz, hμ _ _ h1, h2⟩
 | .nili, _, _, _, _, h => by simp only [relV] at *; exact h
 | .ifc t c, _, _, hμ, _, h => by simp only [relV] at *; obtain ⟨x, h1, h2⟩ := h; exact ⟨x, h1, relV_mono hM c hμ h2⟩
 | .meth f bs, _, _, hμ, _, h => by simp only [relV] at *; obtain ⟨vs, h1, h2⟩ := h; exact ⟨vs, h1, relL_mono hM bs hμ h2⟩
theorem relL_mono {M M' : Mem} (hM : Mem.le M M') : ∀ (cs : List AV) {μ μ' : Pos} (_ : Pos.le μ μ') {vs : List Value}, relL M cs μ vs → relL M' cs μ' vs
 | [], _, _, _, _, h => by simp only [relL] at *; exact h
 | c :: cs, _, _, hμ, _, h => by
  simp only [relL] at *; obtain ⟨v, r, h1, h2, h3⟩ := h; exact ⟨v, r, h1, relV_mono hM c hμ h2, relL_mono hM cs hμ h3⟩
theorem relM_mono {M M' : Mem} (hM : Mem.le M M') : ∀ (cs : List AV) {b o : Nat}, relM M cs b o → relM M' cs b o
 | [], _, _, h => by simp only [relM]
 | c :: cs, _, _, h => by
  simp only [relM] at *; obtain ⟨⟨u, h1, h2⟩, h3⟩ := h
  exact ⟨⟨u, hM _ _ _ h1, relV_mono hM c (Pos.le_refl _) h2⟩, relM_mono hM cs h3⟩
end
theorem relP_mono {M M' : Mem} (hM : Mem.le M M') {μ μ' : Pos} (hμ : Pos.le μ μ') : ∀ (cs : List AV) {vs : List Value}, relP M μ cs vs → relP M' μ' cs vs
 | [], _, _ => trivial
 | c :: cs, _, h => by obtain ⟨v, r, h1, h2, h3⟩ := h; exact ⟨v, r, h1, relV_mono hM c hμ h2, relP_mono hM hμ cs h3⟩
theorem relL_length {M : Mem} {μ : Pos} : ∀ {cs : List AV} {vs : List Value}, relL M cs μ vs → vs.length = cs.length
 | [], _, h => by simp only [relL] at h; subst h; rfl
 | c :: cs, _, h => by simp only [relL] at h; obtain ⟨v, r, rfl, _, h3⟩ := h; simp [relL_length h3]
theorem relL_get {M : Mem} {μ : Pos} : ∀ {cs : List AV} {vs : List Value} {i : Nat} {c : AV}, relL M cs μ vs → cs[i]? = some c → ∃ v, vs[i]? = some v ∧ relV M c μ v
 | [], _, _, _, _, h => by simp at h
 | c :: cs, _, 0, c', h, hi => by
  simp only [relL] at h; obtain ⟨v, r, rfl, h2, _⟩ := h; simp at hi; subst hi; exact ⟨v, rfl, h2⟩
 | c :: cs, _, i + 1, c', h, hi => by
  simp only [relL] at h; obtain ⟨v, r, rfl, _, h3⟩ := h
  simp at hi; obtain ⟨u, hu, hr⟩ := relL_get h3 hi; exact ⟨u, by simpa using hu, hr⟩
theorem relL_of_get {M : Mem} {μ : Pos} : ∀ {cs : List AV} {vs : List Value}, vs.length = cs.length → (∀ (i : Nat) c, cs[i]? = some c → ∃ v, vs[i]? = some v ∧ relV M c μ v) → relL M cs μ vs
 | [], [], _, _ => by simp only [relL]
 | c :: cs, v :: vs, hl, h => by
  simp only [relL]
  refine ⟨v, vs, rfl, ?_, relL_of_get (by simpa using hl) fun i c' hi => ?_⟩
  · obtain ⟨u, hu, hr⟩ := h 0 c rfl; simp at hu; subst hu; exact hr
  · obtain ⟨u, hu, hr⟩ := h (i + 1) c' (by simpa using hi); exact ⟨u, by simpa using hu, hr⟩
 | [], _ :: _, hl, _ => by simp at hl
 | _ :: _, [], hl, _ => by simp at hl
theorem relL_append {M : Mem} {μ : Pos} : ∀ {cs : List AV} {vs : List Value} {ds : List AV} {us : List Value}, relL M cs μ vs → relL M ds μ us → relL M (cs ++ ds) μ (vs ++ us)
 | [], _, _, _, h, k => by simp only [relL] at h; subst h; simpa using k
 | c :: cs, _, _, _, h, k => by
  simp only [relL, List.cons_append] at *; obtain ⟨v, r, rfl, h2, h3⟩ := h; exact ⟨v, r ++ _, by simp, h2, relL_append h3 k⟩
theorem relP_of_relL {M : Mem} {μ : Pos} : ∀ {cs : List AV} {vs : List Value}, relL M cs μ vs → relP M μ cs vs
 | [], _, _ => trivial
 | c :: cs, _, h => by simp only [relL] at h; obtain ⟨v, r, h1, h2, h3⟩ := h; exact ⟨v, r, h1, h2, relP_of_relL h3⟩
theorem relP_length {M : Mem} {μ : Pos} : ∀ {cs : List AV} {vs : List Value}, relP M μ cs vs → cs.length ≤ vs.length
 | [], _, _ => by simp
 | c :: cs, _, h => by obtain ⟨v, r, rfl, _, h3⟩ := h; simp [relP_length h3]
theorem relP_drop {M : Mem} {μ : Pos} : ∀ {cs : List AV} {vs : List Value} (n : Nat), relP M μ cs vs → relP M μ (cs.drop n) (vs.drop n)
 | cs, vs, 0, h => by simpa using h
 | [], _, _ + 1, _ => by simp [relP]
 | c :: cs, _, n + 1, h => by obtain ⟨v, r, rfl, _, h3⟩ := h; simpa using relP_drop n h3
theorem relP_take {M : Mem} {μ : Pos} : ∀ {cs : List AV} {vs : List Value} (n : Nat), n ≤ cs.length → relP M μ cs vs → relL M (cs.take n) μ (vs.take n)
 | cs, vs, 0, _, h => by simp [relL]
 | [], _, _ + 1, hn, _ => by simp at hn
 | c :: cs, _, n + 1, hn, h => by
  obtain ⟨v, r, rfl, h2, h3⟩ := h
  simp only [List.take_succ_cons, relL]
  exact ⟨v, _, rfl, h2, relP_take n (by simpa using hn) h3⟩
theorem relP_get {M : Mem} {μ : Pos} : ∀ {cs : List AV} {vs : List Value} {i : Nat} {c : AV}, relP M μ cs vs → cs[i]? = some c → ∃ v, vs[i]? = some v ∧ relV M c μ v
 | [], _, _, _, _, h => by simp at h
 | c :: cs, _, 0, c', h, hi => by obtain ⟨v, r, rfl, h2, _⟩ := h; simp at hi; subst hi; exact ⟨v, rfl, h2⟩
 | c :: cs, _, i + 1, c', h, hi => by
  obtain ⟨v, r, rfl, _, h3⟩ := h
  simp at hi; obtain ⟨u, hu, hr⟩ := relP_get h3 hi; exact ⟨u, by simpa using hu, hr⟩
theorem relP_of_get {M : Mem} {μ : Pos} : ∀ {cs : List AV} {vs : List Value}, (∀ (i : Nat) c, cs[i]? = some c → ∃ v, vs[i]? = some v ∧ relV M c μ v) → relP M μ cs vs
 | [], _, _ => trivial
 | c :: cs, [], h => by obtain ⟨u, hu, _⟩ := h 0 c rfl; simp at hu
 | c :: cs, v :: vs, h => by
  refine ⟨v, vs, rfl, ?_, relP_of_get fun i c' hi => ?_⟩
  · obtain ⟨u, hu, hr⟩ := h 0 c rfl; simp at hu; subst hu; exact hr
  · obtain ⟨u, hu, hr⟩ := h (i + 1) c' (by simpa using hi); exact ⟨u, by simpa using hu, hr⟩
theorem relM_get {M : Mem} : ∀ {cs : List AV} {b o i : Nat} {c : AV}, relM M cs b o → cs[i]? = some c → ∃ u, M b (o + i) = some u ∧ relV M c Pos.none u
 | [], _, _, _, _, _, h => by simp at h
 | c :: cs, _, _, 0, c', h, hi => by simp only [relM] at h; simp at hi; subst hi; exact h.1
 | c :: cs, b, o, i + 1, c', h, hi => by
  simp only [relM] at h; simp at hi
  obtain ⟨u, hu, hr⟩ := relM_get h.2 hi; exact ⟨u, by rw [← hu]; congr 1; omega, hr⟩
theorem relM_drop {M : Mem} : ∀ {cs : List AV} {b o : Nat} (n : Nat), relM M cs b o → relM M (cs.drop n) b (o + n)
 | cs, _, _, 0, h => by simpa using h
 | [], _, _, _ + 1, _ => by simp [relM]
 | c :: cs, b, o, n + 1, h => by
  simp only [relM] at h; have := relM_drop (o := o + 1) n h.2; simpa [Nat.add_assoc, Nat.add_comm 1 n] using this
theorem relM_of_get {M : Mem} : ∀ {cs : List AV} {b o : Nat}, (∀ (i : Nat) c, cs[i]? = some c → ∃ u, M b (o + i) = some u ∧ relV M c Pos.none u) → relM M cs b o
 | [], _, _, _ => by simp [relM]
 | c :: cs, b, o, h => by
  simp only [relM]
  refine ⟨by simpa using h 0 c rfl, relM_of_get fun i c' hi => ?_⟩
  obtain ⟨u, hu, hr⟩ := h (i + 1) c' (by simpa using hi)
  exact ⟨u, by rw [← hu]; congr 1; omega, hr⟩

abbrev Fr := List (Nat × AV)
def look : Fr → Nat → AV
 | [], _ => .any
 | (t, v) :: r, n => bif Nat.beq t n then v else look r n
inductive RJ where
 | ret
 | exit (id : Nat)
def RJ.code : RJ → Code
 | .ret => .ret
 | .exit id => .exit id
inductive RS where
 | ready
 | busy
 | done (j : RJ)
def RS.ok : RS → Loop → Prop
 | .ready, r => r.state = .ready ∧ r.pending = none
 | .busy, r => r.state = .busy
 | .done j, r => r.state = .done ∧ r.pending = some j.code
inductive AB where
 | dead
 | cells (cs : List AV)
 | map (es : List (AV × AV))
 | iter (k : Nat) (left : List (AV × AV)) (cur : Option (AV × AV))
 | loop (st : RS) (id : Nat) (fr : Fr)
def AB.isIt : AB → Bool
 | .iter _ _ _ => true
 | _ => false
structure Heap where
 nx : Nat
 bs : List (Nat × AB)
def bget : List (Nat × AB) → Nat → AB
 | [], _ => .dead
 | (k, b) :: r, n => bif Nat.beq k n then b else bget r n
def Heap.get (H : Heap) (k : Nat) : AB := bget H.bs k
def Heap.set (H : Heap) (k : Nat) (b : AB) : Heap := ⟨H.nx, (k, b) :: H.bs⟩
def Heap.push (H : Heap) (b : AB) : Heap := ⟨H.nx + 1, (H.nx, b) :: H.bs⟩
def Heap.nil : Heap := ⟨0, []⟩
theorem beq_false {a b : Nat} (h : a ≠ b) : Nat.beq a b = false := by
 cases hb : Nat.beq a b with
 | false => rfl
 | true => exact absurd (Nat.eq_of_beq_eq_true hb) h
theorem Heap.get_set (H : Heap) (k j : Nat) (b : AB) : (H.set k b).get j = if k = j then b else H.get j := by
 simp only [Heap.get, Heap.set, bget]
 by_cases h : k = j
 · subst h; simp
 · have : Nat.beq k j = false := beq_false h
   simp [this, h]
theorem Heap.get_push (H : Heap) (j : Nat) (b : AB) : (H.push b).get j = if H.nx = j then b else H.get j := by
 simp only [Heap.get, Heap.push, bget]
 by_cases h : H.nx = j
 · subst h; simp
 · have : Nat.beq H.nx j = false := beq_false h
   simp [this, h]
def relE (M : Mem) (μ : Pos) : List (AV × AV) → List MapEntry → Prop
 | [], es => es = []
 | (k, v) :: r, es => ∃ e t, es = e :: t ∧ relV M k Pos.none e.key ∧ relV M v μ e.val ∧ relE M μ r t
theorem relE_mono {M M' : Mem} {μ μ' : Pos} (hM : Mem.le M M') (hμ : Pos.le μ μ') : ∀ {es : List (AV × AV)} {ents : List MapEntry}, relE M μ es ents → relE M' μ' es ents
 | [], _, h => h
 | (_, _) :: _, _, ⟨e, t, h1, h2, h3, h4⟩ => ⟨e, t, h1, relV_mono hM _ (Pos.le_refl _) h2, relV_mono hM _ hμ h3, relE_mono hM hμ h4⟩
def IterAt (M : Mem) (μ : Pos) (w : World) (k : Nat) (left : List (AV × AV)) (cur : Option (AV × AV)) (b : Nat) : Prop :=
 ∃ bm s ents clock since seen last, μ k = some (bm, s) ∧ w.heap[b]? = some (.mapIter (some bm) since seen last) ∧ w.heap[bm]? = some (.map ents clock) ∧ (∀ e ∈ ents.toList, e.born < since) ∧ (since ≤ last ∧ since ≤ clock) ∧ (ents.toList.map (·.born)).Nodup ∧
  relE M Pos.none left (ents.toList.filter fun e => !seen.contains e.born) ∧ ∀ c, cur = some c → ∃ (e : MapEntry) (seen0 : Array Nat), last = clock ∧ seen = seen0.push e.born ∧ e ∈ ents.toList ∧ relV M c.1 Pos.none e.key ∧ relV M c.2 Pos.none e.val
class Globs where
 l : List (Nat × List AV)
 rf : Nat → Nat → List Nat → Code → Code → Prop := fun _ _ _ _ _ => False
def gfind : List (Nat × List AV) → Nat → List AV
 | [], _ => []
 | (k, cs) :: r, n => bif Nat.beq k n then cs else gfind r n
def globOf [Globs] (n : Nat) : List AV := gfind Globs.l n
def GlobM [Globs] (M : Mem) : Prop := ∀ n, relM M (globOf n) n 0
theorem GlobM.mono [Globs] {M M' : Mem} (h : GlobM M) (hM : Mem.le M M') : GlobM M' := fun n => relM_mono hM _ (h n)
variable [Globs]
def LoopAt (M : Mem) (μ : Pos) (w : World) (st : RS) (id : Nat) (fr : Fr) (b : Nat) : Prop :=
 ∃ r : Loop, w.heap[b]? = some (.loop r) ∧ st.ok r ∧ Globs.rf id r.tmps.size r.params.toList r.assign r.body ∧ ∀ t, relV M (look fr t) μ (r.tmps.getD t undef)
structure Rel (M : Mem) (μ : Pos) (H : Heap) (w : World) : Prop where
 glob : GlobM M
 dom : ∀ k, H.nx ≤ k → μ k = Option.none
 top : ∀ k, H.nx ≤ k → H.get k = .dead
 cells : ∀ k cs, H.get k = .cells cs → ∃ b sz c el fz, μ k = some (b, sz) ∧ w.heap[b]? = some (.cells c el fz) ∧ c.size = sz ∧ (fz = (0, 0) ∨ sz ≤ fz.1) ∧ relP M μ cs c.toList
 maps : ∀ k es, H.get k = .map es → ∃ b sz ents clock, μ k = some (b, sz) ∧ w.heap[b]? = some (.map ents clock) ∧ relE M μ es ents.toList ∧ (∀ e ∈ ents.toList, e.born < clock) ∧ (ents.toList.map (·.born)).Nodup
 iters : ∀ j k left cur, H.get j = .iter k left cur → H.get k ≠ .dead ∧ ∃ b s, μ j = some (b, s) ∧ IterAt M μ w k left cur b
 loops : ∀ j st id fr, H.get j = .loop st id fr → ∃ b s, μ j = some (b, s) ∧ LoopAt M μ w st id fr b
 inj : ∀ i j b s t, H.get i ≠ .dead → H.get j ≠ .dead → μ i = some (b, s) → μ j = some (b, t) → i = j
 imm : ∀ b o v, M b o = some v → w.cell? ⟨b, o, none⟩ = some v
 apart : ∀ k b s, H.get k ≠ .dead → μ k = some (b, s) → ∀ o, M b o = none
def Own (μ : Pos) (H : Heap) (b : Nat) : Prop := ∃ k s, H.get k ≠ .dead ∧ μ k = some (b, s)
structure Keep (F : Nat → Prop) (w w' : World) : Prop where
 os : w'.os = w.os
 tape : w'.tape = w.tape
 output : w'.output = w.output
 size : w.heap.size ≤ w'.heap.size
 block : ∀ b, b < w.heap.size → ¬ F b → w'.heap[b]? = w.heap[b]?
structure Grow (n : Nat) (M : Mem) (μ : Pos) (H : Heap) (w : World) (M' : Mem) (μ' : Pos) (H' : Heap) (w' : World) : Prop where
 mem : Mem.le M M'
 pin : ∀ k, k < n → μ' k = μ k
 keep : Keep (Own μ H) w w'
 own : ∀ b, Own μ' H' b → Own μ H b ∨ w.heap.size ≤ b
 fresh : ∀ b o v, M' b o = some v → M b o = some v ∨ Own μ H b ∨ w.heap.size ≤ b
structure Move (M : Mem) (μ : Pos) (H : Heap) (w : World) (M' : Mem) (μ' : Pos) (H' : Heap) (w' : World) : Prop where
 le : Pos.le μ μ'
 grow : Grow H.nx M μ H w M' μ' H' w'
 nx : H.nx ≤ H'.nx
theorem Keep.refl (F : Nat → Prop) (w : World) : Keep F w w := ⟨rfl, rfl, rfl, Nat.le_refl _, fun _ _ _ => rfl⟩
theorem Grow.refl (n : Nat) (M : Mem) (μ : Pos) (H : Heap) (w : World) : Grow n M μ H w M μ H w :=
 ⟨Mem.le_refl _, fun _ _ => rfl, Keep.refl _ _, fun _ h => .inl h, fun _ _ _ h => .inl h⟩
theorem Grow.trans {n : Nat} {M M' M'' : Mem} {μ μ' μ'' : Pos} {H H' H'' : Heap} {w w' w'' : World} (a : Grow n M μ H w M' μ' H' w') (b : Grow n M' μ' H' w' M'' μ'' H'' w'') : Grow n M μ H w M'' μ'' H'' w'' := by
 refine ⟨Mem.le_trans a.mem b.mem, fun k hk => (b.pin k hk).trans (a.pin k hk), ⟨b.keep.os.trans a.keep.os, b.keep.tape.trans a.keep.tape, b.keep.output.trans a.keep.output, Nat.le_trans a.keep.size b.keep.size, fun x hx hn => ?_⟩, fun x hx => ?_, fun x o v hx => ?_⟩
 · rw [b.keep.block x (Nat.lt_of_lt_of_le hx a.keep.size) (fun h => ?_), a.keep.block x hx hn]
   rcases a.own x h with h | h
   · exact hn h
   · omega
 · rcases b.own x hx with h | h
   · exact a.own x h
   · exact .inr (Nat.le_trans a.keep.size h)
 · rcases b.fresh x o v hx with h | h | h
   · exact a.fresh x o v h
   · exact .inr (a.own x h)
   · exact .inr (.inr (Nat.le_trans a.keep.size h))
theorem Grow.mono {n m : Nat} {M M' : Mem} {μ μ' : Pos} {H H' : Heap} {w w' : World} (a : Grow n M μ H w M' μ' H' w') (h : m ≤ n) : Grow m M μ H w M' μ' H' w' :=
 ⟨a.mem, fun k hk => a.pin k (Nat.lt_of_lt_of_le hk h), a.keep, a.own, a.fresh⟩
theorem Move.refl (M : Mem) (μ : Pos) (H : Heap) (w : World) : Move M μ H w M μ H w := ⟨Pos.le_refl _, Grow.refl _ _ _ _ _, Nat.le_refl _⟩
theorem Rel.cell_lt {M : Mem} {μ : Pos} {H : Heap} {w : World} (R : Rel M μ H w) {b o : Nat} {v : Value} (h : M b o = some v) : b < w.heap.size := World.block_lt_of_cell? w (a := ⟨b, o, none⟩) (R.imm b o v h)
theorem Rel.own_lt {M : Mem} {μ : Pos} {H : Heap} {w : World} (R : Rel M μ H w) {b : Nat} (h : Own μ H b) : b < w.heap.size := by
 obtain ⟨k, s, hk, hμ⟩ := h
 cases hg : H.get k with
 | dead => exact absurd hg hk
 | cells cs =>
  obtain ⟨b', sz, c, el, fz, h1, h2, _⟩ := R.cells k cs hg
  rw [hμ] at h1; cases h1
  exact (Array.getElem?_eq_some_iff.1 h2).1
 | map es =>
  obtain ⟨b', sz, c, el, h1, h2, _⟩ := R.maps k es hg
  rw [hμ] at h1; cases h1
  exact (Array.getElem?_eq_some_iff.1 h2).1
 | iter k' left cur =>
  obtain ⟨_, b', sz, h1, _, _, _, _, _, _, _, _, h2, _⟩ := R.iters k k' left cur hg
  rw [hμ] at h1; cases h1
  exact (Array.getElem?_eq_some_iff.1 h2).1
 | loop st id fr =>
  obtain ⟨b', sz, h1, r, h2, _⟩ := R.loops k st id fr hg
  rw [hμ] at h1; cases h1
  exact (Array.getElem?_eq_some_iff.1 h2).1
theorem Rel.iter_map {M : Mem} {μ : Pos} {H : Heap} {w : World} (R : Rel M μ H w) {j k : Nat} {left : List (AV × AV)} {cur : Option (AV × AV)} (h : H.get j = .iter k left cur) : ∃ es, H.get k = .map es := by
 obtain ⟨hk, b, s, g1, bm, s2, ents, clock, since, seen, last, g2, g3, g4, _⟩ := R.iters j k left cur h
 cases hg : H.get k with
 | dead => exact absurd hg hk
 | map es => exact ⟨es, rfl⟩
 | cells cs => obtain ⟨_, _, _, _, _, h1, h2, _⟩ := R.cells k cs hg; rw [g2] at h1; cases h1; rw [g4] at h2; cases h2
 | iter k' l c => obtain ⟨_, _, _, h1, _, _, _, _, _, _, _, _, h2, _⟩ := R.iters k k' l c hg; rw [g2] at h1; cases h1; rw [g4] at h2; cases h2
 | loop st id fr => obtain ⟨_, _, h1, r, h2, _⟩ := R.loops k st id fr hg; rw [g2] at h1; cases h1; rw [g4] at h2; cases h2
theorem Rel.walks {M M' : Mem} {μ μ' : Pos} {H H' : Heap} {w w' : World} (R : Rel M μ H w) (hM : Mem.le M M')
 (h : ∀ j k left cur, H'.get j = .iter k left cur → ∃ j0 k0, H.get j0 = .iter k0 left cur ∧ H'.get k ≠ .dead ∧ (∀ x, μ j0 = some x → μ' j = some x) ∧ (∀ x, μ k0 = some x → μ' k = some x) ∧
   (∀ b s, μ j0 = some (b, s) → (∀ c el fz, w.heap[b]? ≠ some (.cells c el fz)) → w'.heap[b]? = w.heap[b]?) ∧ (∀ b s, μ k0 = some (b, s) → (∀ c el fz, w.heap[b]? ≠ some (.cells c el fz)) → w'.heap[b]? = w.heap[b]?)) :
 ∀ j k left cur, H'.get j = .iter k left cur → H'.get k ≠ .dead ∧ ∃ b s, μ' j = some (b, s) ∧ IterAt M' μ' w' k left cur b := by
 intro j k left cur hj
 obtain ⟨j0, k0, h1, h2, h3, h4, h5, h6⟩ := h j k left cur hj
 obtain ⟨_, b, s, g1, bm, s2, ents, clock, since, seen, last, g2, g3, g4, g5, g6, g7, g8, g9⟩ := R.iters j0 k0 left cur h1
 refine ⟨h2, b, s, h3 _ g1, bm, s2, ents, clock, since, seen, last, h4 _ g2, ?_, ?_, g5, g6, g7, relE_mono hM (Pos.le_refl _) g8, fun c hc => ?_⟩
 · rw [h5 b s g1 (by rw [g3]; simp)]; exact g3
 · rw [h6 bm s2 g2 (by rw [g4]; simp)]; exact g4
 · obtain ⟨e, seen0, e1, e2, e3, e4, e5⟩ := g9 c hc
   exact ⟨e, seen0, e1, e2, e3, relV_mono hM _ (Pos.le_refl _) e4, relV_mono hM _ (Pos.le_refl _) e5⟩
theorem Rel.walks_same {M M' : Mem} {μ μ' : Pos} {H H' : Heap} {w w' : World} (R : Rel M μ H w) (hM : Mem.le M M')
 (h : ∀ j k left cur, H'.get j = .iter k left cur → H.get j = .iter k left cur ∧ (H.get k ≠ .dead → H'.get k ≠ .dead)) (hμ : Pos.le μ μ')
 (hb : ∀ b, b < w.heap.size → (∀ c el fz, w.heap[b]? ≠ some (.cells c el fz)) → w'.heap[b]? = w.heap[b]?) :
 ∀ j k left cur, H'.get j = .iter k left cur → H'.get k ≠ .dead ∧ ∃ b s, μ' j = some (b, s) ∧ IterAt M' μ' w' k left cur b :=
 R.walks hM fun j k left cur hj => by
  obtain ⟨h1, h2⟩ := h j k left cur hj
  have hk := (R.iters j k left cur h1).1
  exact ⟨j, k, h1, h2 hk, fun x hx => hμ j x hx, fun x hx => hμ k x hx, fun b s hx => hb b (R.own_lt ⟨j, s, by rw [h1]; simp, hx⟩), fun b s hx => hb b (R.own_lt ⟨k, s, hk, hx⟩)⟩
theorem Rel.recs {M M' : Mem} {μ μ' : Pos} {H H' : Heap} {w w' : World} (R : Rel M μ H w) (hM : Mem.le M M')
 (h : ∀ j st id fr, H'.get j = .loop st id fr → ∃ j0 fr0, H.get j0 = .loop st id fr0 ∧ (∀ x, μ j0 = some x → μ' j = some x) ∧ (∀ t v, relV M (look fr0 t) μ v → relV M (look fr t) μ' v) ∧
   (∀ b s, μ j0 = some (b, s) → (∀ c el fz, w.heap[b]? ≠ some (.cells c el fz)) → w'.heap[b]? = w.heap[b]?)) :
 ∀ j st id fr, H'.get j = .loop st id fr → ∃ b s, μ' j = some (b, s) ∧ LoopAt M' μ' w' st id fr b := by
 intro j st id fr hj
 obtain ⟨j0, fr0, h1, h2, h3, h4⟩ := h j st id fr hj
 obtain ⟨b, s, g1, r, g2, g3, g4, g5⟩ := R.loops j0 st id fr0 h1
 exact ⟨b, s, h2 _ g1, r, by rw [h4 b s g1 (by rw [g2]; simp)]; exact g2, g3, g4, fun t => relV_mono hM _ (Pos.le_refl _) (h3 t _ (g5 t))⟩
theorem Rel.recs_same {M M' : Mem} {μ μ' : Pos} {H H' : Heap} {w w' : World} (R : Rel M μ H w) (hM : Mem.le M M')
 (h : ∀ j st id fr, H'.get j = .loop st id fr → H.get j = .loop st id fr) (hμ : Pos.le μ μ')
 (hb : ∀ b, b < w.heap.size → (∀ c el fz, w.heap[b]? ≠ some (.cells c el fz)) → w'.heap[b]? = w.heap[b]?) :
 ∀ j st id fr, H'.get j = .loop st id fr → ∃ b s, μ' j = some (b, s) ∧ LoopAt M' μ' w' st id fr b :=
 R.recs hM fun j st id fr hj => by
  have h1 := h j st id fr hj
  exact ⟨j, fr, h1, fun x hx => hμ j x hx, fun t v hv => relV_mono (Mem.le_refl _) _ hμ hv, fun b s hx => hb b (R.own_lt ⟨j, s, by rw [h1]; simp, hx⟩)⟩
end Go.Eng

namespace Go.Eng
open Go
variable [Globs]

structure Side (A B : Prop) : Prop where
 l : A
 r : B
structure SideD (A : Prop) (ds : List AV) (K : List AV → Prop) : Prop where
 l : A
 r : K ds
theorem SideD.at {A : Prop} {l ds : List AV} {K : List AV → Prop} (a : A) (e : l = ds) (k : K ds) : SideD A l K := ⟨a, e ▸ k⟩
structure Branch (t : Bool) (A B : Prop) : Prop where
 yes : t = true → A
 no : t = false → B
theorem Branch.ofT {t : Bool} {A B : Prop} (h : t = true) (a : A) : Branch t A B := ⟨fun _ => a, fun h' => by rw [h] at h'; cases h'⟩
theorem Branch.ofF {t : Bool} {A B : Prop} (h : t = false) (b : B) : Branch t A B := ⟨fun h' => (by rw [h] at h'; cases h'), fun _ => b⟩

inductive AX where
 | t (n : Nat)
 | c (v : AV)
 | g (n : Nat)
def AX.ev (fr : Fr) : AX → AV
 | .t n => look fr n
 | .c v => v
 | .g n => .dptr (globOf n)
structure RelF (N : Nat) (M : Mem) (μ : Pos) (fr : Fr) (tmps : Array Value) : Prop where
 glob : GlobM M
 size : tmps.size = N
 slot : ∀ t, relV M (look fr t) μ (tmps.getD t undef)
def okV1 : Value → AV → Bool
 | _, .any => true
 | .bool a, .bool b => a == b
 | .int j a, .int k b => j == k && a == b
 | .string a, .str b => decide (a = b)
 | .pointer none, .nilp => true
 | .slice none 0 0, .nils => true
 | .slice none 0 0, .dslice [] 0 none => true
 | .map none, .nilm => true
 | .nilFunc, .nilf => true
 | .nilIface, .nili => true
 | .func (.func f) a b, .func g [] => f == g && a.isEmpty && b.isEmpty
 | _, _ => false
def okVs : List Value → List AV → Bool
 | [], [] => true
 | v :: vs, c :: cs => okV1 v c && okVs vs cs
 | _, _ => false
def okV : Value → AV → Bool
 | .agg vs, .agg cs => okVs vs.toList cs
 | v, c => okV1 v c
def okX : Operand → AX → Bool
 | .tmp t, .t n => t == n
 | .const v, .c c => okV v c
 | .func f, .c (.func g []) => f == g
 | .global g, .g n => g == n
 | _, _ => false
def okXs : List Operand → List AX → Bool
 | [], [] => true
 | x :: xs, y :: ys => okX x y && okXs xs ys
 | _, _ => false
theorem rel_okV1 {M : Mem} {μ : Pos} {v : Value} {c : AV} (h : okV1 v c = true) : relV M c μ v := by
 unfold okV1 at h
 split at h <;> simp_all [relV, relL]
theorem rel_okVs {M : Mem} {μ : Pos} : ∀ {vs : List Value} {cs : List AV}, okVs vs cs = true → relL M cs μ vs
 | [], [], _ => by simp [relL]
 | v :: vs, c :: cs, h => by
  simp only [okVs, Bool.and_eq_true] at h
  simp only [relL]; exact ⟨v, vs, rfl, rel_okV1 h.1, rel_okVs h.2⟩
 | [], _ :: _, h => by simp [okVs] at h
 | _ :: _, [], h => by simp [okVs] at h
theorem rel_okV {M : Mem} {μ : Pos} {v : Value} {c : AV} (h : okV v c = true) : relV M c μ v := by
 unfold okV at h
 split at h
 · simp only [relV]; exact ⟨_, rfl, rel_okVs h⟩
 · exact rel_okV1 h
theorem rel_okX {N : Nat} {M : Mem} {μ : Pos} {fr : Fr} {a : Act} (F : RelF N M μ fr a.tmps) {x : Operand} {y : AX} (h : okX x y = true) : relV M (y.ev fr) μ (a.eval x) := by
 unfold okX at h
 split at h
 · simp at h; subst h; exact F.slot _
 · exact rel_okV h
 · simp at h; subst h; simp [AX.ev, Act.eval, relV, relL]
 · rename_i g n
   simp at h; subst h
   simp only [AX.ev, Act.eval, relV]
   exact ⟨_, 0, rfl, F.glob _⟩
 · simp at h
theorem rel_okXs {N : Nat} {M : Mem} {μ : Pos} {fr : Fr} {a : Act} (F : RelF N M μ fr a.tmps) : ∀ {xs : List Operand} {ys : List AX}, okXs xs ys = true → relL M (ys.map (AX.ev fr)) μ (xs.map a.eval)
 | [], [], _ => by simp [relL]
 | x :: xs, y :: ys, h => by
  simp only [okXs, Bool.and_eq_true] at h
  simp only [List.map_cons, relL]; exact ⟨_, _, rfl, rel_okX F h.1, rel_okXs F h.2⟩
 | [], _ :: _, h => by simp [okXs] at h
 | _ :: _, [], h => by simp [okXs] at h
def put (fr : Fr) (d : Option Nat) (v : AV) : Fr := match d with
 | some t => (t, v) :: fr
 | none => fr
def putK (fr : Fr) (d : Option Nat) (v : AV) (K : Fr → Prop) : Prop := match d with
 | some t => K ((t, v) :: fr)
 | none => K fr
theorem putK_eq (fr : Fr) (d : Option Nat) (v : AV) (K : Fr → Prop) : putK fr d v K = K (put fr d v) := by cases d <;> rfl
def pushK (H : Heap) (b : AB) (K : AV → Heap → Prop) : Prop := match H with
 | ⟨nx, bs⟩ => K (.ptr nx 0) ⟨nx + 1, (nx, b) :: bs⟩
theorem pushK_eq (H : Heap) (b : AB) (K : AV → Heap → Prop) : pushK H b K = K (.ptr H.nx 0) (H.push b) := rfl
def setK (H : Heap) (k : Nat) (b : AB) (K : Heap → Prop) : Prop := match H with
 | ⟨nx, bs⟩ => K ⟨nx, (k, b) :: bs⟩
theorem setK_eq (H : Heap) (k : Nat) (b : AB) (K : Heap → Prop) : setK H k b K = K (H.set k b) := rfl
def dstOk (N : Nat) : Option Nat → Bool
 | some t => Nat.blt t N
 | none => true
theorem RelF.put {N : Nat} {M : Mem} {μ : Pos} {fr : Fr} {a : Act} (F : RelF N M μ fr a.tmps) {d : Option Nat} (hd : dstOk N d = true) {c : AV} {v : Value} (h : relV M c μ v) : RelF N M μ (put fr d c) (a.put d v).tmps := by
 cases d with
 | none => exact F
 | some t =>
  have ht : t < N := by simpa [dstOk, Nat.blt_eq] using hd
  refine ⟨F.glob, by simp [Act.put, F.size], fun u => ?_⟩
  simp only [Eng.put, look, Act.put]
  by_cases hu : t = u
  · subst hu
    have : t < a.tmps.size := by rw [F.size]; exact ht
    simpa [this] using h
  · rw [beq_false hu]
    have := F.slot u
    simpa [Array.getElem?_setIfInBounds, hu, Array.getD_eq_getD_getElem?] using this
theorem RelF.any {N : Nat} {M : Mem} {μ : Pos} {fr : Fr} {a : Act} (F : RelF N M μ fr a.tmps) {d : Option Nat} (hd : dstOk N d = true) (v : Value) : RelF N M μ (Eng.put fr d .any) (a.put d v).tmps := F.put hd (by simp [relV])
theorem RelF.mono {N : Nat} {M M' : Mem} {μ μ' : Pos} {fr : Fr} {tmps : Array Value} (F : RelF N M μ fr tmps) (hM : Mem.le M M') (hμ : Pos.le μ μ') : RelF N M' μ' fr tmps :=
 ⟨F.glob.mono hM, F.size, fun t => relV_mono hM _ hμ (F.slot t)⟩
def fv (v : AV) (K : AV → Prop) : Prop := match v with
 | .any => K .any
 | .bool b => K (.bool b)
 | .int k n => K (.int k n)
 | .str s => K (.str s)
 | .nilp => K .nilp
 | .ptr k o => K (.ptr k o)
 | .dptr cs => K (.dptr cs)
 | .nils => K .nils
 | .slice k o l c e => K (.slice k o l c e)
 | .dslice cs l c => K (.dslice cs l c)
 | .nilm => K .nilm
 | .map k => K (.map k)
 | .nilf => K .nilf
 | .func f cs => K (.func f cs)
 | .meth f cs => K (.meth f cs)
 | .agg cs => K (.agg cs)
 | .tuple cs => K (.tuple cs)
 | .yld k => K (.yld k)
 | .nili => K .nili
 | .ifc t c => K (.ifc t c)
theorem fv_eq (v : AV) (K : AV → Prop) : fv v K = K v := by cases v <;> rfl
def fvs : List AV → (List AV → Prop) → Prop
 | [], K => K []
 | v :: r, K => fv v fun v => fvs r fun r => K (v :: r)
theorem fvs_eq : ∀ (l : List AV) (K : List AV → Prop), fvs l K = K l
 | [], _ => rfl
 | v :: r, K => by simp only [fvs, fv_eq, fvs_eq]
def isSlice (P : Program) (t : TypeId) : Bool := match P.underlying t with | some (.slice _) => true | _ => false
def isStr (P : Program) (t : TypeId) : Bool := match P.underlying t with | some .string => true | _ => false
def isInt (P : Program) (t : TypeId) : Bool := match P.underlying t with | some (.int _) => true | _ => false
def isBool (P : Program) (t : TypeId) : Bool := match P.underlying t with | some .bool => true | _ => false
def intKind (P : Program) (t : TypeId) (k : IntKind) : Bool := match P.underlying t with | some (.int j) => j == k | _ => false
def isConcrete (P : Program) (t : TypeId) : Bool := match P.underlying t with | some (.interface _) => false | some _ => true | none => false
def sized (P : Program) (t : TypeId) (n : Nat) : Bool := match P.info? t with | some i => i.size == n | none => false
def fieldOk (P : Program) (s : TypeId) (f off : Nat) : Bool := match P.underlying s with
 | some (.struct fs) => match fs[f]? with
  | some fd => fd.offset == off && (match P.info? fd.type with | some i => !(i.size == 0) | none => false)
  | none => false
 | _ => false
def elemSize (P : Program) (t : TypeId) (arr : Option Nat) (e : Nat) : Bool := match P.underlying t, arr with
 | some (.array n el), some m => n == m && sized P el e
 | some (.slice el), none => sized P el e
 | _, _ => false

inductive POp where
 | mov (x : AX)
 | pick (c a b : AX)
 | bin (op : BinOp) (x y : AX)
 | beq (neg : Bool) (x y : AX)
 | binw (op : BinOp) (x y : AX)
 | un (op : UnOp) (x : AX)
 | conv (k : IntKind) (x : AX)
 | convw (k : IntKind) (x : AX)
 | fieldA (off : Nat) (x : AX)
 | idxA (e : Nat) (arr : Option Nat) (x i : AX)
 | len (str : Bool) (x : AX)
 | extract (i : Nat) (x : AX)
 | mkfn (f : FuncId) (caps : List AX)
 | mkme (f : FuncId) (bs : List AX)
 | nilchk (x : AX)
 | mm (max : Bool) (x y : AX)
 | other      -- a value of which nothing is known
 | panic      -- never reached
def lo64 : Int := -9223372036854775808
def hi64 : Int := 9223372036854775807
def binI (op : BinOp) (a b : Int) (K : AV → Prop) : Prop := match op with
 | .add => Side (-9223372036854775808 ≤ a + b ∧ a + b ≤ 9223372036854775807) (K (.int .i64 (a + b)))
 | .sub => Side (-9223372036854775808 ≤ a - b ∧ a - b ≤ 9223372036854775807) (K (.int .i64 (a - b)))
 | .mul => Side (-9223372036854775808 ≤ a * b ∧ a * b ≤ 9223372036854775807) (K (.int .i64 (a * b)))
 | .quo => Side (0 ≤ a ∧ a ≤ 9223372036854775807 ∧ 0 < b) (K (.int .i64 (a / b)))
 | .rem => Side (0 ≤ a ∧ 0 < b) (K (.int .i64 (a % b)))
 | .lss => K (.bool (decide (a < b)))
 | .leq => K (.bool (decide (a ≤ b)))
 | .gtr => K (.bool (decide (b < a)))
 | .geq => K (.bool (decide (b ≤ a)))
 | .eql => K (.bool (decide (a = b)))
 | .neq => K (.bool (!decide (a = b)))
 | _ => False
def binW (op : BinOp) (k : IntKind) (a b : Int) (K : AV → Prop) : Prop := match op with
 | .add => K (.int k (k.wrap (a + b)))
 | .sub => K (.int k (k.wrap (a - b)))
 | .mul => K (.int k (k.wrap (a * b)))
 | .quo => Side (b ≠ 0) (K (.int k (k.wrap (a.tdiv b))))
 | .rem => Side (b ≠ 0) (K (.int k (a.tmod b)))
 | .and => K (.int k (k.wrap (BitVec.ofInt k.bits a &&& BitVec.ofInt k.bits b).toNat))
 | .or => K (.int k (k.wrap (BitVec.ofInt k.bits a ||| BitVec.ofInt k.bits b).toNat))
 | .xor => K (.int k (k.wrap (BitVec.ofInt k.bits a ^^^ BitVec.ofInt k.bits b).toNat))
 | .andNot => K (.int k (k.wrap (BitVec.ofInt k.bits a &&& ~~~(BitVec.ofInt k.bits b)).toNat))
 | .lss => K (.bool (decide (a < b)))
 | .leq => K (.bool (decide (a ≤ b)))
 | .gtr => K (.bool (decide (b < a)))
 | .geq => K (.bool (decide (b ≤ a)))
 | .eql => K (.bool (decide (a = b)))
 | .neq => K (.bool (!decide (a = b)))
 | _ => False
def POp.run (ev : AX → AV) (K : AV → Prop) : POp → Prop
 | .mov x => fv (ev x) K
 | .pick c a b => match ev c with
  | .bool t => Branch t (fv (ev a) K) (fv (ev b) K)
  | _ => False
 | .bin op x y => match ev x, ev y with
  | .int .i64 a, .int .i64 b => binI op a b K
  | .str a, .str b => match op with
   | .eql => K (.bool (decide (a = b)))
   | .neq => K (.bool (!decide (a = b)))
   | .add => Side (((a.size + b.size : Nat) : Int) ≤ 9223372036854775807) (K (.str (a ++ b)))
   | _ => False
  | _, _ => False
 | .beq neg x y => match ev x, ev y with
  | .bool a, .bool b => K (.bool (if neg then !(a == b) else a == b))
  | _, _ => False
 | .binw op x y => match ev x, ev y with
  | .int k a, .int k' b => match op with
   | .shl => Side (0 ≤ b) (K (.int k (k.wrap (a * 2 ^ min b.toNat k.bits))))
   | .shr => Side (0 ≤ b) (K (.int k (a.fdiv (2 ^ min b.toNat k.bits))))
   | op => Side (k = k') (binW op k a b K)
  | _, _ => False
 | .un op x => match op, ev x with
  | .not, .bool b => K (.bool (!b))
  | .neg, .int .i64 n => Side (-9223372036854775807 ≤ n ∧ n ≤ 9223372036854775807) (K (.int .i64 (-n)))
  | .xor, .int k n => K (.int k (k.wrap (BitVec.ofInt k.bits (if k.signed then -1 else k.max) ^^^ BitVec.ofInt k.bits n).toNat))
  | _, _ => False
 | .conv k x => match ev x with
  | .int _ n => Side (k.min ≤ n ∧ n ≤ k.max) (K (.int k n))
  | _ => False
 | .convw k x => match ev x with
  | .int _ n => K (.int k (k.wrap n))
  | _ => False
 | .fieldA off x => match ev x with
  | .dptr cs => K (.dptr (cs.drop off))
  | .ptr k o => K (.ptr k (o + off))
  | _ => False
 | .idxA e arr x i => match ev i with
  | .int _ i => match arr, ev x with
   | some n, .dptr cs => SideD (0 ≤ i ∧ i < n) (cs.drop (i.toNat * e)) fun ds => K (.dptr ds)
   | some n, .ptr k o => Side (0 ≤ i ∧ i < n) (K (.ptr k (o + i.toNat * e)))
   | none, .dslice cs n _ => SideD (0 ≤ i ∧ i < n) (cs.drop (i.toNat * e)) fun ds => K (.dptr ds)
   | none, .slice k o n _ _ => Side (0 ≤ i ∧ i < n) (K (.ptr k (o + i.toNat * e)))
   | _, _ => False
  | _ => False
 | .len str x => match str, ev x with
  | false, .dslice _ n _ => K (.int .i64 n)
  | false, .slice _ _ n _ _ => K (.int .i64 n)
  | false, .nils => K (.int .i64 0)
  | true, .str s => K (.int .i64 s.size)
  | _, _ => False
 | .extract i x => match ev x with
  | .tuple cs => match cs[i]? with
   | some v => fv v K
   | none => False
  | _ => False
 | .mkfn f caps => fvs (caps.map ev) fun cs => K (.func f cs)
 | .mkme f bs => fvs (bs.map ev) fun cs => K (.meth f cs)
 | .nilchk x => match ev x with
  | .ptr k o => K (.ptr k o)
  | .dptr cs => K (.dptr cs)
  | .func f cs => K (.func f cs)
  | _ => False
 | .mm mx x y => match ev x, ev y with
  | .int k a, .int _ b => K (.int k (if mx then (if b > a then b else a) else (if b < a then b else a)))
  | _, _ => False
 | .other => K .any
 | .panic => False
def bcall (c : Call) (b : Builtin) : Option (List Operand × List TypeId) := match c.callee with
 | .builtin b' => if b' = b then some (c.args.toList, c.argTypes.toList) else none
 | _ => none
theorem bcall_spec {c : Call} {b : Builtin} {xs : List Operand} {ts : List TypeId} (h : bcall c b = some (xs, ts)) : c = { callee := .builtin b, args := xs.toArray, argTypes := ts.toArray } := by
 obtain ⟨ca, args, tys⟩ := c
 unfold bcall at h
 dsimp only at h
 split at h
 · split at h
   · simp only [Option.some.injEq, Prod.mk.injEq] at h
     obtain ⟨rfl, rfl⟩ := h
     subst_vars
     rfl
   · cases h
 · cases h
def okP (P : Program) : Op → POp → Bool
 | .move x, .mov y => okX x y
 | .assign x, .mov y => okX x y
 | .pick c a b, .pick c' a' b' => okX c c' && okX a a' && okX b b'
 | .binOp op t x y _, .beq neg x' y' => okX x x' && okX y y' && isBool P t && decide (op = if neg then BinOp.neq else BinOp.eql)
 | .binOp op _ x y _, .bin op' x' y' => decide (op = op') && okX x x' && okX y y'
 | .binOp op _ x y _, .binw op' x' y' => decide (op = op') && okX x x' && okX y y'
 | .unOp op _ x, .un op' x' => decide (op = op') && okX x x'
 | .convert src dst x, .conv k x' => isInt P src && intKind P dst k && okX x x'
 | .convert src dst x, .convw k x' => isInt P src && intKind P dst k && okX x x'
 | .fieldAddr s x f, .fieldA off x' => fieldOk P s f off && okX x x'
 | .indexAddr t x i, .idxA e arr x' i' => elemSize P t arr e && okX x x' && okX i i'
 | .call c, .len str x' => (match bcall c .len with
  | some ([x], [t]) => okX x x' && (if str then isStr P t else isSlice P t)
  | _ => false)
 | .call c, .mm mx x' y' => (match bcall c (if mx then .max else .min) with
  | some ([x, y], _) => okX x x' && okX y y'
  | _ => false)
 | .extract x i, .extract i' x' => i == i' && okX x x'
 | .makeFunc (.func f) first captured, .mkfn f' caps => f == f' && first.isEmpty && okXs captured.toList caps
 | .makeFunc (.func f) first captured, .mkme f' bs => f == f' && captured.isEmpty && okXs first.toList bs
 | .nilCheck x, .nilchk x' => okX x x'
 | .makeInterface t _, .other => isConcrete P t
 | .defer _, .panic => false
 | _, .panic => true
 | _, _ => false
end Go.Eng

namespace Go.Eng
open Go
variable [Globs]
def Yields1 (P : Program) (o : Oper) (a : Act) (M : Mem) (μ : Pos) (K : AV → Prop) (w : World) : Prop :=
 ∃ v c, (execOp a.eval o).run P w = .ok (.value v) w ∧ relV M c μ v ∧ K c
section
variable {P : Program} {N : Nat} {M : Mem} {μ : Pos} {fr : Fr} {a : Act} {K : AV → Prop}
theorem run_underlying {t : TypeId} {d : TypeDesc} (h : P.underlying t = some d) (w : World) : (underlying t).run P w = .ok d w := by
 simp [underlying, h]
theorem run_typeInfo {t : TypeId} {i : TypeInfo} (h : P.info? t = some i) (w : World) : (typeInfo t).run P w = .ok i w := by
 simp [typeInfo, h]
theorem run_sizeOf {t : TypeId} {n : Nat} (h : sized P t n = true) (w : World) : (sizeOf t).run P w = .ok n w := by
 unfold sized at h
 split at h
 · rename_i i hi; simp at h; simp [sizeOf, run_typeInfo hi, h]
 · cases h
theorem rel_int {k : IntKind} {n : Int} {v : Value} (h : relV M (.int k n) μ v) : v = .int k n := by simpa only [relV] using h
theorem rel_bool {b : Bool} {v : Value} (h : relV M (.bool b) μ v) : v = .bool b := by simpa only [relV] using h
theorem rel_str {s : ByteArray} {v : Value} (h : relV M (.str s) μ v) : v = .string s := by simpa only [relV] using h
theorem mk_int (k : IntKind) (n : Int) : relV M (.int k n) μ (.int k n) := by simp only [relV]
theorem mk_bool (b : Bool) : relV M (.bool b) μ (.bool b) := by simp only [relV]
theorem sound_mov {x : Operand} {y : AX} {o : Oper} (ho : o.op = .move x ∨ o.op = .assign x) (h : okX x y = true) (F : RelF N M μ fr a.tmps) (hr : (POp.mov y).run (AX.ev fr) K) (w : World) :
 Yields1 P o a M μ K w := by
 simp only [POp.run, fv_eq] at hr
 rcases ho with ho | ho <;> exact ⟨_, _, by simp [execOp, ho], rel_okX F h, hr⟩
theorem sound_pick {c x y : Operand} {c' x' y' : AX} {o : Oper} (ho : o.op = .pick c x y) (h : okX c c' = true) (h1 : okX x x' = true) (h2 : okX y y' = true) (F : RelF N M μ fr a.tmps)
 (hr : (POp.pick c' x' y').run (AX.ev fr) K) (w : World) : Yields1 P o a M μ K w := by
 have hc := rel_okX F h
 simp only [POp.run, fv_eq] at hr
 split at hr
 · rename_i t ht
   rw [ht] at hc
   have := rel_bool hc
   cases t
   · exact ⟨_, _, by simp [execOp, ho, this, asBool], rel_okX F h2, hr.no rfl⟩
   · exact ⟨_, _, by simp [execOp, ho, this, asBool], rel_okX F h1, hr.yes rfl⟩
 · exact hr.elim
theorem eqGuard_scalar {op : BinOp} {t : TypeId} {x y : Operand} {u v : Value} (hu : ∀ cs, u ≠ .agg cs) (hn : u ≠ .nilIface) (w : World) : (eqGuard op t x y u v).run P w = .ok () w := by
 cases u <;> first | exact absurd rfl hn | exact absurd rfl (hu _) | (cases op <;> rfl)
theorem beq_int (i j : Int) : (i == j) = decide (i = j) := by rw [Bool.eq_iff_iff]; simp
theorem bne_int (i j : Int) : (i != j) = !decide (i = j) := by rw [bne, beq_int]
theorem binI_sound {op : BinOp} {i j : Int} (hr : binI op i j K) (t : TypeId) (w : World) :
 ∃ v c, (binOp op t (.int .i64 i) (.int .i64 j)).run P w = .ok v w ∧ relV M c μ v ∧ K c := by
 have wr : ∀ n : Int, (-9223372036854775808 ≤ n ∧ n ≤ 9223372036854775807) → IntKind.i64.wrap n = n := fun n h => IntWalk.i64_in n h
 cases op <;> simp only [binI] at hr
 case add => exact ⟨_, _, by simp [binOp, Op.intArith, wr _ hr.l], mk_int _ _, hr.r⟩
 case sub => exact ⟨_, _, by simp [binOp, Op.intArith, wr _ hr.l], mk_int _ _, hr.r⟩
 case mul => exact ⟨_, _, by simp [binOp, Op.intArith, wr _ hr.l], mk_int _ _, hr.r⟩
 case quo =>
  obtain ⟨⟨h0, h1, h2⟩, hr⟩ := hr
  have hj : j ≠ 0 := by omega
  exact ⟨_, _, by simp [binOp, Op.intDiv, hj, IntWalk.i64_quo i j ⟨h0, h1, by omega⟩], mk_int _ _, hr⟩
 case rem =>
  obtain ⟨⟨h0, h2⟩, hr⟩ := hr
  have hj : j ≠ 0 := by omega
  exact ⟨_, _, by simp [binOp, Op.intDiv, hj, IntWalk.rem_in i j h0], mk_int _ _, hr⟩
 case eql => exact ⟨_, _, by simp [binOp, Op.intCmp, beq_int], mk_bool _, hr⟩
 case neq => exact ⟨_, _, by simp [binOp, Op.intCmp, bne_int], mk_bool _, hr⟩
 case lss => exact ⟨_, _, by simp [binOp, Op.intCmp], mk_bool _, hr⟩
 case leq => exact ⟨_, _, by simp [binOp, Op.intCmp], mk_bool _, hr⟩
 case gtr => exact ⟨_, _, by simp [binOp, Op.intCmp], mk_bool _, hr⟩
 case geq => exact ⟨_, _, by simp [binOp, Op.intCmp], mk_bool _, hr⟩
theorem binW_sound {op : BinOp} {k : IntKind} {i j : Int} (hr : binW op k i j K) (t : TypeId) (w : World) :
 ∃ v c, (binOp op t (.int k i) (.int k j)).run P w = .ok v w ∧ relV M c μ v ∧ K c := by
 cases op <;> simp only [binW] at hr
 case quo => exact ⟨_, _, by simp [binOp, Op.intDiv, hr.l], mk_int _ _, hr.r⟩
 case rem => exact ⟨_, _, by simp [binOp, Op.intDiv, hr.l], mk_int _ _, hr.r⟩
 case eql => exact ⟨_, _, by simp [binOp, Op.intCmp, beq_int], mk_bool _, hr⟩
 case neq => exact ⟨_, _, by simp [binOp, Op.intCmp, bne_int], mk_bool _, hr⟩
 case lss => exact ⟨_, _, by simp [binOp, Op.intCmp], mk_bool _, hr⟩
 case leq => exact ⟨_, _, by simp [binOp, Op.intCmp], mk_bool _, hr⟩
 case gtr => exact ⟨_, _, by simp [binOp, Op.intCmp], mk_bool _, hr⟩
 case geq => exact ⟨_, _, by simp [binOp, Op.intCmp], mk_bool _, hr⟩
 all_goals exact ⟨_, _, by show (if k ≠ k then _ else _ : Sem Value).run P w = _; rw [if_neg (by simp)]; rfl, mk_int _ _, hr⟩
theorem sound_binop {op : BinOp} {t : TypeId} {x y : Operand} {yt : TypeId} {o : Oper} (ho : o.op = .binOp op t x y yt) {u : Value} (hu : a.eval x = u) (h1 : ∀ cs, u ≠ .agg cs) (h2 : u ≠ .nilIface) {w : World}
 (h : ∃ v c, (binOp op t u (a.eval y)).run P w = .ok v w ∧ relV M c μ v ∧ K c) : Yields1 P o a M μ K w := by
 obtain ⟨v, c, hv, hc, hk⟩ := h
 refine ⟨v, c, ?_, hc, hk⟩
 simp only [execOp, ho, hu, Sem.run_bind, eqGuard_scalar h1 h2, Result.andThen_ok, hv, Sem.run_pure]
theorem sound_bin {op : BinOp} {t : TypeId} {x y : Operand} {x' y' : AX} {yt : TypeId} {o : Oper} (ho : o.op = .binOp op t x y yt) (h1 : okX x x' = true) (h2 : okX y y' = true) (F : RelF N M μ fr a.tmps)
 (hr : (POp.bin op x' y').run (AX.ev fr) K) (w : World) : Yields1 P o a M μ K w := by
 have hx := rel_okX F h1
 have hy := rel_okX F h2
 simp only [POp.run] at hr
 split at hr
 · rename_i i j hi hj
   rw [hi] at hx; rw [hj] at hy
   refine sound_binop ho (rel_int hx) (by simp) (by simp) ?_
   rw [rel_int hy]
   exact binI_sound hr t w
 · rename_i i j hi hj
   rw [hi] at hx; rw [hj] at hy
   refine sound_binop ho (rel_str hx) (by simp) (by simp) ?_
   rw [rel_str hy]
   have e : (i.toList == j.toList) = decide (i = j) := by
    rw [Bool.eq_iff_iff]
    simp only [beq_iff_eq, decide_eq_true_eq, ByteArray.toList_eq]
    constructor
    · intro h; cases i; cases j; simp only [ByteArray.mk.injEq]; exact Array.toList_inj.1 h
    · intro h; rw [h]
   cases op <;> simp only [] at hr
   case eql => exact ⟨_, _, by simp [binOp, Op.stringOp, e], mk_bool _, hr⟩
   case neq => exact ⟨_, _, by simp [binOp, Op.stringOp, e], mk_bool _, hr⟩
   case add =>
    refine ⟨.string (i ++ j), .str (i ++ j), ?_, by simp only [relV], hr.r⟩
    have := hr.l
    have hn : ¬ (((i.size + j.size : Nat) : Int) > IntKind.i64.max) := by
     have : IntKind.i64.max = 9223372036854775807 := by decide
     omega
    simp only [binOp, Op.stringOp]
    rw [if_neg hn]; rfl
 · exact hr.elim
theorem sound_beq {op : BinOp} {neg : Bool} {t : TypeId} {x y : Operand} {x' y' : AX} {yt : TypeId} {o : Oper} (ho : o.op = .binOp op t x y yt) (h1 : okX x x' = true) (h2 : okX y y' = true) (h3 : isBool P t = true)
 (h4 : op = if neg then BinOp.neq else BinOp.eql) (F : RelF N M μ fr a.tmps)
 (hr : (POp.beq neg x' y').run (AX.ev fr) K) (w : World) : Yields1 P o a M μ K w := by
 have hx := rel_okX F h1
 have hy := rel_okX F h2
 simp only [POp.run] at hr
 split at hr
 · rename_i i j hi hj
   rw [hi] at hx; rw [hj] at hy
   refine sound_binop ho (rel_bool hx) (by simp) (by simp) ?_
   rw [rel_bool hy]
   have hu : P.underlying t = some .bool := by
    unfold isBool at h3; split at h3
    · assumption
    · cases h3
   have he : ∀ w, (Op.equal t (.bool i) (.bool j)).run P w = .ok (i == j) w := fun w => run_equal_bool w t i j hu
   subst h4
   cases neg
   · exact ⟨_, _, by simp [binOp, he], mk_bool _, hr⟩
   · exact ⟨_, _, by simp [binOp, he], mk_bool _, hr⟩
 · exact hr.elim
theorem sound_binw {op : BinOp} {t : TypeId} {x y : Operand} {x' y' : AX} {yt : TypeId} {o : Oper} (ho : o.op = .binOp op t x y yt) (h1 : okX x x' = true) (h2 : okX y y' = true) (F : RelF N M μ fr a.tmps)
 (hr : (POp.binw op x' y').run (AX.ev fr) K) (w : World) : Yields1 P o a M μ K w := by
 have hx := rel_okX F h1
 have hy := rel_okX F h2
 simp only [POp.run] at hr
 split at hr
 · rename_i k i k' j hi hj
   rw [hi] at hx; rw [hj] at hy
   refine sound_binop ho (rel_int hx) (by simp) (by simp) ?_
   rw [rel_int hy]
   split at hr
   · have hn : ¬ j < 0 := by have := hr.l; omega
     exact ⟨_, _, by simp [binOp, Op.shift, hn], mk_int _ _, hr.r⟩
   · have hn : ¬ j < 0 := by have := hr.l; omega
     exact ⟨_, _, by simp [binOp, Op.shift, hn], mk_int _ _, hr.r⟩
   · obtain ⟨hk, hr⟩ := hr
     subst hk
     exact binW_sound hr t w
 · exact hr.elim
theorem sound_un {op : UnOp} {t : TypeId} {x : Operand} {x' : AX} {o : Oper} (ho : o.op = .unOp op t x) (h1 : okX x x' = true) (F : RelF N M μ fr a.tmps)
 (hr : (POp.un op x').run (AX.ev fr) K) (w : World) : Yields1 P o a M μ K w := by
 have hx := rel_okX F h1
 simp only [POp.run] at hr
 split at hr
 · rename_i b hb
   rw [hb] at hx
   exact ⟨_, _, by simp [execOp, ho, rel_bool hx, Op.unary], mk_bool _, hr⟩
 · rename_i n hb
   rw [hb] at hx
   have := hr.l
   exact ⟨_, _, by simp [execOp, ho, rel_int hx, Op.unary, Op.intArith, IntWalk.i64_in (-n) (by omega)], mk_int _ _, hr.r⟩
 · rename_i k n hb
   rw [hb] at hx
   exact ⟨_, _, by simp only [execOp, ho, rel_int hx, Op.unary]; rfl, mk_int _ _, hr⟩
 · exact hr.elim
theorem wrap_in {k : IntKind} {n : Int} (h : k.min ≤ n ∧ n ≤ k.max) : k.wrap n = n := by
 cases k
 · exact IntWalk.i8_in n (by simpa [IntKind.min, IntKind.max, IntKind.signed, IntKind.bits] using h)
 · exact IntWalk.i16_in n (by simpa [IntKind.min, IntKind.max, IntKind.signed, IntKind.bits] using h)
 · exact IntWalk.i32_in n (by simpa [IntKind.min, IntKind.max, IntKind.signed, IntKind.bits] using h)
 · exact IntWalk.i64_in n (by simpa [IntKind.min, IntKind.max, IntKind.signed, IntKind.bits] using h)
 · exact IntWalk.u8_in n (by simpa [IntKind.min, IntKind.max, IntKind.signed, IntKind.bits] using h)
 · exact IntWalk.u16_in n (by simpa [IntKind.min, IntKind.max, IntKind.signed, IntKind.bits] using h)
 · exact IntWalk.u32_in n (by simpa [IntKind.min, IntKind.max, IntKind.signed, IntKind.bits] using h)
 · exact IntWalk.u64_in n (by simpa [IntKind.min, IntKind.max, IntKind.signed, IntKind.bits] using h)
theorem isInt_spec {t : TypeId} (h : isInt P t = true) : ∃ k, P.underlying t = some (.int k) := by
 unfold isInt at h; split at h
 · rename_i k hk; exact ⟨k, hk⟩
 · cases h
theorem intKind_spec {t : TypeId} {k : IntKind} (h : intKind P t k = true) : P.underlying t = some (.int k) := by
 unfold intKind at h; split at h
 · rename_i j hj; simp at h; subst h; exact hj
 · cases h
theorem run_convert_int {src dst : TypeId} {k j : IntKind} {n : Int} (h1 : isInt P src = true) (h2 : intKind P dst k = true) (w : World) : (convert src dst (.int j n)).run P w = .ok (.int k (k.wrap n)) w := by
 obtain ⟨q, hq⟩ := isInt_spec h1
 simp only [convert, Sem.run_bind, run_underlying hq, run_underlying (intKind_spec h2), Result.andThen_ok]
 rfl
theorem sound_conv {src dst : TypeId} {k : IntKind} {x : Operand} {x' : AX} {o : Oper} (ho : o.op = .convert src dst x) (h1 : isInt P src = true) (h2 : intKind P dst k = true) (h3 : okX x x' = true) (F : RelF N M μ fr a.tmps)
 (hr : (POp.conv k x').run (AX.ev fr) K) (w : World) : Yields1 P o a M μ K w := by
 have hx := rel_okX F h3
 simp only [POp.run] at hr
 split at hr
 · rename_i j n hb
   rw [hb] at hx
   exact ⟨_, _, by simp only [execOp, ho, rel_int hx, Sem.run_bind, run_convert_int h1 h2, Result.andThen_ok, Sem.run_pure, wrap_in hr.l], mk_int _ _, hr.r⟩
 · exact hr.elim
theorem sound_convw {src dst : TypeId} {k : IntKind} {x : Operand} {x' : AX} {o : Oper} (ho : o.op = .convert src dst x) (h1 : isInt P src = true) (h2 : intKind P dst k = true) (h3 : okX x x' = true) (F : RelF N M μ fr a.tmps)
 (hr : (POp.convw k x').run (AX.ev fr) K) (w : World) : Yields1 P o a M μ K w := by
 have hx := rel_okX F h3
 simp only [POp.run] at hr
 split at hr
 · rename_i j n hb
   rw [hb] at hx
   exact ⟨_, _, by simp only [execOp, ho, rel_int hx, Sem.run_bind, run_convert_int h1 h2, Result.andThen_ok, Sem.run_pure], mk_int _ _, hr⟩
 · exact hr.elim
theorem add_addr (b o n : Nat) : (⟨b, o, none⟩ : Addr).add n = ⟨b, o + n, none⟩ := by
 unfold Addr.add; split
 · subst_vars; rfl
 · rfl
theorem sound_fieldA {s : TypeId} {f off : Nat} {x : Operand} {x' : AX} {o : Oper} (ho : o.op = .fieldAddr s x f) (h1 : fieldOk P s f off = true) (h3 : okX x x' = true) (F : RelF N M μ fr a.tmps)
 (hr : (POp.fieldA off x').run (AX.ev fr) K) (w : World) : Yields1 P o a M μ K w := by
 have hx := rel_okX F h3
 have hrun : ∀ (b q : Nat) (w : World), (Instr.fieldAt s (.pointer (some ⟨b, q, none⟩)) f).run P w = .ok (.pointer (some ⟨b, q + off, none⟩)) w := by
  intro b q w
  unfold fieldOk at h1
  split at h1
  · rename_i fs hs
    split at h1
    · rename_i fd hf
      simp only [Bool.and_eq_true, beq_iff_eq] at h1
      obtain ⟨h1, h4⟩ := h1
      split at h4
      · rename_i i hi
        simp at h4
        simp only [Instr.fieldAt, Sem.run_bind, run_underlying hs, Result.andThen_ok, hf, Instr.sureAddr, Sem.run_pure, fieldPlace, sizeOf, run_typeInfo hi, h4, Sem.run_ite, if_false, h1, add_addr]
      · cases h4
    · cases h1
  · cases h1
 simp only [POp.run] at hr
 split at hr
 · rename_i cs hb
   rw [hb] at hx
   simp only [relV] at hx
   obtain ⟨b, q, hv, hm⟩ := hx
   refine ⟨_, _, by simp only [execOp, ho, hv, Sem.run_bind, hrun, Result.andThen_ok, Sem.run_pure]; rfl, ?_, hr⟩
   simp only [relV]; exact ⟨b, q + off, rfl, relM_drop off hm⟩
 · rename_i k q hb
   rw [hb] at hx
   simp only [relV] at hx
   obtain ⟨b, sz, h5, hv⟩ := hx
   refine ⟨_, _, by simp only [execOp, ho, hv, Sem.run_bind, hrun, Result.andThen_ok, Sem.run_pure]; rfl, ?_, hr⟩
   simp only [relV]; exact ⟨b, sz, h5, rfl⟩
 · exact hr.elim
theorem elemSize_spec {t : TypeId} {arr : Option Nat} {e : Nat} (h : elemSize P t arr e = true) :
 (∃ n el, P.underlying t = some (.array n el) ∧ arr = some n ∧ sized P el e = true) ∨ (∃ el, P.underlying t = some (.slice el) ∧ arr = none ∧ sized P el e = true) := by
 unfold elemSize at h
 cases hu : P.underlying t with
 | none => simp [hu] at h
 | some d =>
  cases arr with
  | none => cases d <;> simp [hu] at h; exact .inr ⟨_, rfl, rfl, h⟩
  | some m => cases d <;> simp [hu] at h; exact .inl ⟨_, _, rfl, by rw [h.1], h.2⟩
theorem run_indexAt {t : TypeId} {arr : Option Nat} {e : Nat} (h : elemSize P t arr e = true) {v : Value} {b q n : Nat} {j : IntKind} {i : Int}
 (hv : match arr with | some m => m = n ∧ v = .pointer (some ⟨b, q, none⟩) | none => ∃ c, v = .slice (some ⟨b, q, none⟩) n c) (h0 : 0 ≤ i ∧ i < n) (w : World) :
 (Instr.indexAt t v (.int j i)).run P w = .ok (.pointer (some ⟨b, q + i.toNat * e, none⟩)) w := by
 rcases elemSize_spec h with ⟨m, el, hu, rfl, h2⟩ | ⟨el, hu, rfl, h2⟩
 · obtain ⟨h3, rfl⟩ := hv
   subst h3
   simp only [Instr.indexAt, asIntOf, Sem.run_bind, Sem.run_pure, Result.andThen_ok, run_underlying hu, Instr.sureAddr, h0.1, h0.2, and_self, if_true, run_sizeOf h2, add_addr]
 · obtain ⟨c, rfl⟩ := hv
   simp only [Instr.indexAt, asIntOf, Sem.run_bind, Sem.run_pure, Result.andThen_ok, run_underlying hu, h0.1, h0.2, and_self, if_true, run_sizeOf h2, add_addr]
theorem sound_idxA {t : TypeId} {x i : Operand} {e : Nat} {arr : Option Nat} {x' i' : AX} {o : Oper} (ho : o.op = .indexAddr t x i) (h1 : elemSize P t arr e = true) (h2 : okX x x' = true) (h3 : okX i i' = true) (F : RelF N M μ fr a.tmps)
 (hr : (POp.idxA e arr x' i').run (AX.ev fr) K) (w : World) : Yields1 P o a M μ K w := by
 have hx := rel_okX F h2
 have hi := rel_okX F h3
 simp only [POp.run] at hr
 split at hr
 · rename_i j q hb
   rw [hb] at hi
   have hi := rel_int hi
   split at hr
   · rename_i n cs hc
     rw [hc] at hx; simp only [relV] at hx
     obtain ⟨b, p, hv, hm⟩ := hx
     refine ⟨_, _, by simp only [execOp, ho, hi, hv, Sem.run_bind, run_indexAt h1 (n := n) ⟨rfl, rfl⟩ hr.l, Result.andThen_ok, Sem.run_pure]; rfl, ?_, hr.r⟩
     simp only [relV]; exact ⟨b, _, rfl, relM_drop _ hm⟩
   · rename_i n k p hc
     rw [hc] at hx; simp only [relV] at hx
     obtain ⟨b, sz, h5, hv⟩ := hx
     refine ⟨_, _, by simp only [execOp, ho, hi, hv, Sem.run_bind, run_indexAt h1 (n := n) ⟨rfl, rfl⟩ hr.l, Result.andThen_ok, Sem.run_pure]; rfl, ?_, hr.r⟩
     simp only [relV]; exact ⟨b, sz, h5, rfl⟩
   · rename_i cs n cap hc
     rw [hc] at hx; simp only [relV] at hx
     rcases hx with ⟨b, p, c, hv, _, _, hm⟩ | ⟨_, hn, _⟩ | ⟨_, _, _, _, _, hn, _⟩
     · refine ⟨_, _, by simp only [execOp, ho, hi, hv, Sem.run_bind, run_indexAt h1 (n := n) ⟨c, rfl⟩ hr.l, Result.andThen_ok, Sem.run_pure]; rfl, ?_, hr.r⟩
       simp only [relV]; exact ⟨b, _, rfl, relM_drop _ hm⟩
     · have := hr.l; omega
     · have := hr.l; omega
   · rename_i k p n cap e' hc
     rw [hc] at hx; simp only [relV] at hx
     obtain ⟨b, sz, c, h5, hv, _⟩ := hx
     refine ⟨_, _, by simp only [execOp, ho, hi, hv, Sem.run_bind, run_indexAt h1 (n := n) ⟨c, rfl⟩ hr.l, Result.andThen_ok, Sem.run_pure]; rfl, ?_, hr.r⟩
     simp only [relV]; exact ⟨b, sz, h5, rfl⟩
   · exact hr.elim
 · exact hr.elim
theorem isSlice_spec {t : TypeId} (h : isSlice P t = true) : ∃ e, P.underlying t = some (.slice e) := by
 unfold isSlice at h; split at h
 · rename_i k hk; exact ⟨k, hk⟩
 · cases h
theorem isStr_spec {t : TypeId} (h : isStr P t = true) : P.underlying t = some .string := by
 unfold isStr at h; split at h
 · assumption
 · cases h
theorem run_call_builtin {o : Oper} {b : Builtin} {args : Array Operand} {ts : Array TypeId} (ho : o.op = .call { callee := .builtin b, args, argTypes := ts }) (w : World) :
 (execOp a.eval o).run P w = (builtin b ts o.type (args.map fun | .const _ => true | _ => false) (args.map a.eval)).run P w := by
 simp only [execOp, ho, resolve, Sem.run_bind, Sem.run_pure, Result.andThen_ok, invoke]; rfl
theorem sound_len {str : Bool} {x : Operand} {t : TypeId} {x' : AX} {o : Oper} (ho : o.op = .call { callee := .builtin .len, args := #[x], argTypes := #[t] }) (h1 : okX x x' = true) (h2 : (if str then isStr P t else isSlice P t) = true) (F : RelF N M μ fr a.tmps)
 (hr : (POp.len str x').run (AX.ev fr) K) (w : World) : Yields1 P o a M μ K w := by
 have hx := rel_okX F h1
 have hslice : ∀ (e : TypeId) (b : Option Addr) (n c : Nat), P.underlying t = some (.slice e) → a.eval x = .slice b n c → (execOp a.eval o).run P w = .ok (.value (.int .i64 n)) w := by
  intro e b n c hu hv
  rw [run_call_builtin ho]
  simp only [builtin, List.map_toArray, List.map_cons, List.map_nil, hv, Builtin.len_, List.getElem?_toArray, List.getElem?_cons_zero, Sem.run_bind, run_underlying hu, Result.andThen_ok, goInt, Sem.run_pure]
 simp only [POp.run] at hr
 split at hr
 · rename_i cs n cap hc
   rw [hc] at hx; simp only [relV] at hx
   obtain ⟨e, hu⟩ := isSlice_spec (by simpa using h2)
   rcases hx with ⟨b, p, c, hv, _⟩ | ⟨hv, hn, _⟩ | ⟨_, _, _, _, hv, hn, _⟩
   · exact ⟨_, _, hslice _ _ _ _ hu hv, mk_int _ _, hr⟩
   · subst hn; exact ⟨_, _, hslice _ _ _ _ hu hv, mk_int _ _, hr⟩
   · subst hn; exact ⟨_, _, hslice _ _ _ _ hu hv, mk_int _ _, hr⟩
 · rename_i k p n cap e' hc
   rw [hc] at hx; simp only [relV] at hx
   obtain ⟨e, hu⟩ := isSlice_spec (by simpa using h2)
   obtain ⟨b, sz, c, _, hv, _⟩ := hx
   exact ⟨_, _, hslice _ _ _ _ hu hv, mk_int _ _, hr⟩
 · rename_i hc
   rw [hc] at hx; simp only [relV] at hx
   obtain ⟨e, hu⟩ := isSlice_spec (by simpa using h2)
   exact ⟨_, _, hslice _ _ _ _ hu hx, mk_int _ _, hr⟩
 · rename_i s hc
   rw [hc] at hx
   have hu := isStr_spec (by simpa using h2)
   refine ⟨_, _, ?_, mk_int _ _, hr⟩
   rw [run_call_builtin ho]
   simp only [builtin, List.map_toArray, List.map_cons, List.map_nil, rel_str hx, Builtin.len_, List.getElem?_toArray, List.getElem?_cons_zero, Sem.run_bind, run_underlying hu, Result.andThen_ok, goInt, Sem.run_pure]
 · exact hr.elim
theorem sound_extract {i : Nat} {x : Operand} {x' : AX} {o : Oper} (ho : o.op = .extract x i) (h1 : okX x x' = true) (F : RelF N M μ fr a.tmps)
 (hr : (POp.extract i x').run (AX.ev fr) K) (w : World) : Yields1 P o a M μ K w := by
 have hx := rel_okX F h1
 simp only [POp.run, fv_eq] at hr
 split at hr
 · rename_i cs hc
   split at hr
   · rename_i c hi
     rw [hc] at hx; simp only [relV] at hx
     obtain ⟨vs, hv, hl⟩ := hx
     obtain ⟨u, hu, hrel⟩ := relL_get hl hi
     refine ⟨u, c, ?_, hrel, hr⟩
     simp only [execOp, ho, hv, Instr.extract, show vs[i]? = some u by simpa using hu, Sem.run_bind, Sem.run_pure, Result.andThen_ok]
   · exact hr.elim
 · exact hr.elim
theorem sound_mkfn {f : FuncId} {captured : Array Operand} {caps : List AX} {o : Oper} {first : Array Operand} (ho : o.op = .makeFunc (.func f) first captured) (hf : first = #[]) (h1 : okXs captured.toList caps = true) (F : RelF N M μ fr a.tmps)
 (hr : (POp.mkfn f caps).run (AX.ev fr) K) (w : World) : Yields1 P o a M μ K w := by
 have hx := rel_okXs F h1
 simp only [POp.run, fvs_eq] at hr
 refine ⟨_, _, by simp only [execOp, ho, hf, Instr.makeFunc, Sem.run_bind, Sem.run_pure, Result.andThen_ok, Array.map_empty]; rfl, ?_, hr⟩
 simp only [relV]
 exact ⟨_, rfl, by simpa using hx⟩
theorem sound_mkme {f : FuncId} {captured : Array Operand} {bs : List AX} {o : Oper} {first : Array Operand} (ho : o.op = .makeFunc (.func f) first captured) (hf : captured = #[]) (h1 : okXs first.toList bs = true) (F : RelF N M μ fr a.tmps)
 (hr : (POp.mkme f bs).run (AX.ev fr) K) (w : World) : Yields1 P o a M μ K w := by
 have hx := rel_okXs F h1
 simp only [POp.run, fvs_eq] at hr
 refine ⟨_, _, by simp only [execOp, ho, hf, Instr.makeFunc, Sem.run_bind, Sem.run_pure, Result.andThen_ok, Array.map_empty]; rfl, ?_, hr⟩
 simp only [relV]
 exact ⟨_, rfl, by simpa using hx⟩
theorem sound_nilchk {x : Operand} {x' : AX} {o : Oper} (ho : o.op = .nilCheck x) (h1 : okX x x' = true) (F : RelF N M μ fr a.tmps)
 (hr : (POp.nilchk x').run (AX.ev fr) K) (w : World) : Yields1 P o a M μ K w := by
 have hx := rel_okX F h1
 simp only [POp.run] at hr
 split at hr
 · rename_i k q hc
   rw [hc] at hx
   have hx' := hx
   simp only [relV] at hx; obtain ⟨b, sz, _, hv⟩ := hx
   exact ⟨_, _, by simp only [execOp, ho, hv]; rfl, by rw [← hv]; exact hx', hr⟩
 · rename_i cs hc
   rw [hc] at hx
   have hx' := hx
   simp only [relV] at hx; obtain ⟨b, q, hv, _⟩ := hx
   exact ⟨_, _, by simp only [execOp, ho, hv]; rfl, by rw [← hv]; exact hx', hr⟩
 · rename_i f cs hc
   rw [hc] at hx
   have hx' := hx
   simp only [relV] at hx; obtain ⟨vs, hv, _⟩ := hx
   exact ⟨_, _, by simp only [execOp, ho, hv]; rfl, by rw [← hv]; exact hx', hr⟩
 · exact hr.elim
theorem sound_max {x y : Operand} {ts : Array TypeId} {x' y' : AX} {o : Oper} (ho : o.op = .call { callee := .builtin .max, args := #[x, y], argTypes := ts }) (h1 : okX x x' = true) (h2 : okX y y' = true) (F : RelF N M μ fr a.tmps)
 (hr : (POp.mm true x' y').run (AX.ev fr) K) (w : World) : Yields1 P o a M μ K w := by
 have hx := rel_okX F h1
 have hy := rel_okX F h2
 simp only [POp.run] at hr
 split at hr
 · rename_i k i k' j hi hj
   rw [hi] at hx; rw [hj] at hy
   refine ⟨_, _, ?_, mk_int _ _, hr⟩
   rw [run_call_builtin ho]
   simp only [builtin, List.map_toArray, List.map_cons, List.map_nil, rel_int hx, rel_int hy, Builtin.max_, List.foldlM, Builtin.max2, Sem.run_bind, Sem.run_pure, Result.andThen_ok, if_true]
 · exact hr.elim
theorem sound_min {x y : Operand} {ts : Array TypeId} {x' y' : AX} {o : Oper} (ho : o.op = .call { callee := .builtin .min, args := #[x, y], argTypes := ts }) (h1 : okX x x' = true) (h2 : okX y y' = true) (F : RelF N M μ fr a.tmps)
 (hr : (POp.mm false x' y').run (AX.ev fr) K) (w : World) : Yields1 P o a M μ K w := by
 have hx := rel_okX F h1
 have hy := rel_okX F h2
 simp only [POp.run] at hr
 split at hr
 · rename_i k i k' j hi hj
   rw [hi] at hx; rw [hj] at hy
   refine ⟨_, _, ?_, mk_int _ _, hr⟩
   rw [run_call_builtin ho]
   simp only [builtin, List.map_toArray, List.map_cons, List.map_nil, rel_int hx, rel_int hy, Builtin.min_, List.foldlM, Builtin.min2, Sem.run_bind, Sem.run_pure, Result.andThen_ok, Bool.false_eq_true, if_false]
 · exact hr.elim
theorem sound_iface {t : TypeId} {x : Operand} {o : Oper} (ho : o.op = .makeInterface t x) (h1 : isConcrete P t = true) (hr : (POp.other).run (AX.ev fr) K) (w : World) : Yields1 P o a M μ K w := by
 simp only [POp.run] at hr
 refine ⟨.iface t (a.eval x), _, ?_, by simp only [relV], hr⟩
 unfold isConcrete at h1
 split at h1
 · cases h1
 · rename_i d hn hd
   simp only [execOp, ho, Instr.makeInterface, Sem.run_bind, run_underlying hd, Result.andThen_ok]
   rfl
 · cases h1
theorem pop_sound {o : Oper} {p : POp} (h : okP P o.op p = true) (F : RelF N M μ fr a.tmps) (hr : p.run (AX.ev fr) K) (w : World) : Yields1 P o a M μ K w := by
 unfold okP at h
 split at h
 · exact sound_mov (.inl ‹_›) h F hr w
 · exact sound_mov (.inr ‹_›) h F hr w
 · simp only [Bool.and_eq_true] at h; exact sound_pick ‹_› h.1.1 h.1.2 h.2 F hr w
 · simp only [Bool.and_eq_true, decide_eq_true_eq] at h; exact sound_beq ‹_› h.1.1.1 h.1.1.2 h.1.2 h.2 F hr w
 · simp only [Bool.and_eq_true, decide_eq_true_eq] at h; obtain ⟨⟨rfl, h1⟩, h2⟩ := h; exact sound_bin ‹_› h1 h2 F hr w
 · simp only [Bool.and_eq_true, decide_eq_true_eq] at h; obtain ⟨⟨rfl, h1⟩, h2⟩ := h; exact sound_binw ‹_› h1 h2 F hr w
 · simp only [Bool.and_eq_true, decide_eq_true_eq] at h; obtain ⟨rfl, h1⟩ := h; exact sound_un ‹_› h1 F hr w
 · simp only [Bool.and_eq_true] at h; exact sound_conv ‹_› h.1.1 h.1.2 h.2 F hr w
 · simp only [Bool.and_eq_true] at h; exact sound_convw ‹_› h.1.1 h.1.2 h.2 F hr w
 · simp only [Bool.and_eq_true] at h; exact sound_fieldA ‹_› h.1 h.2 F hr w
 · simp only [Bool.and_eq_true] at h; exact sound_idxA ‹_› h.1.1 h.1.2 h.2 F hr w
 · split at h
   · rename_i hop _ _ _ hb
     simp only [Bool.and_eq_true] at h
     rw [bcall_spec hb] at hop
     exact sound_len hop h.1 h.2 F hr w
   · cases h
 · split at h
   · rename_i mx _ _ hop _ _ _ _ hb
     simp only [Bool.and_eq_true] at h
     rw [bcall_spec hb] at hop
     cases mx
     · exact sound_min hop h.1 h.2 F hr w
     · exact sound_max hop h.1 h.2 F hr w
   · cases h
 · simp only [Bool.and_eq_true, beq_iff_eq] at h; obtain ⟨rfl, h1⟩ := h; exact sound_extract ‹_› h1 F hr w
 · simp only [Bool.and_eq_true, beq_iff_eq] at h; obtain ⟨⟨rfl, h0⟩, h1⟩ := h; exact sound_mkfn ‹_› (by simpa using h0) h1 F hr w
 · simp only [Bool.and_eq_true, beq_iff_eq] at h; obtain ⟨⟨rfl, h0⟩, h1⟩ := h; exact sound_mkme ‹_› (by simpa using h0) h1 F hr w
 · exact sound_nilchk ‹_› h F hr w
 · exact sound_iface ‹_› h hr w
 · cases h
 · simp only [POp.run] at hr
 · cases h
end
end Go.Eng

namespace Go.Eng
open Go
variable [Globs]

def scal : AV → Bool
 | .any | .agg _ | .tuple _ => false
 | _ => true
theorem scal_one {M : Mem} {μ : Pos} {c : AV} {v : Value} (h : scal c = true) (hr : relV M c μ v) : v.oneCell' = true := by
 cases c <;> simp [scal] at h <;> simp only [relV] at hr
 case dslice cs len cap => rcases hr with ⟨_, _, _, rfl, _⟩ | ⟨rfl, _⟩ | ⟨_, _, _, _, rfl, _⟩ <;> rfl
 all_goals first
  | (subst hr; rfl)
  | (obtain ⟨_, _, _, rfl⟩ := hr; rfl)
  | (obtain ⟨_, _, rfl, _⟩ := hr; rfl)
  | (obtain ⟨_, _, _, _, rfl, _⟩ := hr; rfl)
  | (obtain ⟨_, rfl, _⟩ := hr; rfl)
theorem one_cells {v : Value} (h : v.oneCell' = true) : v.cells = #[v] := by cases v <;> simp_all [Value.oneCell', Value.cells]
section
variable {M : Mem} {μ : Pos} {H : Heap} {w : World}
theorem Rel.pos_lt (R : Rel M μ H w) {k : Nat} {x : Nat × Nat} (h : μ k = some x) : k < H.nx := by
 rcases Nat.lt_or_ge k H.nx with h' | h'
 · exact h'
 · rw [R.dom k h'] at h; cases h
theorem Own.set {k : Nat} {b : AB} (h : H.get k ≠ .dead) {x : Nat} (ho : Own μ (H.set k b) x) : Own μ H x := by
 obtain ⟨j, s, hj, hμ⟩ := ho
 rw [Heap.get_set] at hj
 split at hj
 · subst_vars; exact ⟨j, s, h, hμ⟩
 · exact ⟨j, s, hj, hμ⟩
theorem Rel.write (R : Rel M μ H w) {k b sz : Nat} {cs cs' : List AV} {c c' : Array Value} {el : TypeId} {fz : Nat × Nat} (hk : H.get k = .cells cs) (hμ : μ k = some (b, sz)) (hb : w.heap[b]? = some (.cells c el fz))
 (hfz : fz = (0, 0) ∨ sz ≤ fz.1) (hsz : c'.size = sz) (hP : relP M μ cs' c'.toList) :
 Rel M μ (H.set k (.cells cs')) (w.setRow b c') ∧ Move M μ H w M μ (H.set k (.cells cs')) (w.setRow b c') := by
 have hne : H.get k ≠ .dead := by rw [hk]; simp
 have other : ∀ j b' s, H.get j ≠ .dead → μ j = some (b', s) → j ≠ k → b' ≠ b := fun j b' s hj hμ' hjk e => hjk (R.inj j k b s sz hj hne (e ▸ hμ') hμ)
 refine ⟨⟨R.glob, R.dom, fun j hj => ?_, fun j ds hj => ?_, fun j es hj => ?_, R.walks_same (Mem.le_refl _) (fun j k' left cur hj => ?_) (Pos.le_refl _) (fun x hx hnc => setRow_other w b x c' (fun e => hnc _ _ _ (e ▸ hb))), R.recs_same (Mem.le_refl _) (fun j st id fr hj => ?_) (Pos.le_refl _) (fun x hx hnc => setRow_other w b x c' (fun e => hnc _ _ _ (e ▸ hb))), fun i j x s t hi hj hx hy => ?_, fun x o v hv => ?_, fun j x s hj hx o => ?_⟩, ⟨Pos.le_refl _, ⟨Mem.le_refl _, fun _ _ => rfl, ⟨rfl, rfl, rfl, by simp, fun x hx hno => setRow_other w b x c' (fun e => hno (e ▸ ⟨k, sz, hne, hμ⟩))⟩, fun x hx => .inl (Own.set hne hx), fun _ _ _ h => .inl h⟩, Nat.le_refl _⟩⟩
 · rw [Heap.get_set]
   have := R.pos_lt hμ
   simp only [Heap.set] at hj
   rw [if_neg (by omega)]; exact R.top j hj
 · rw [Heap.get_set] at hj
   split at hj
   · rename_i h; subst h
     simp only [AB.cells.injEq] at hj; subst hj
     exact ⟨b, sz, c', el, fz, hμ, setRow_heap w b c c' el fz hb, hsz, hfz, hP⟩
   · rename_i hjk
     obtain ⟨b', s', d, el', fz', h1, h2, h3, h4, h5⟩ := R.cells j ds hj
     exact ⟨b', s', d, el', fz', h1, by rw [setRow_other w b b' c' (other j b' s' (by rw [hj]; simp) h1 (Ne.symm hjk))]; exact h2, h3, h4, h5⟩
 · rw [Heap.get_set] at hj
   split at hj
   · cases hj
   · rename_i hjk
     obtain ⟨b', s', ents, clock, h1, h2, h3, h4⟩ := R.maps j es hj
     exact ⟨b', s', ents, clock, h1, by rw [setRow_other w b b' c' (other j b' s' (by rw [hj]; simp) h1 (Ne.symm hjk))]; exact h2, h3, h4⟩
 · rw [Heap.get_set] at hj
   split at hj
   · cases hj
   · refine ⟨hj, fun h => ?_⟩
     rw [Heap.get_set]; split
     · simp
     · exact h
 · rw [Heap.get_set] at hj
   split at hj
   · cases hj
   · exact hj
 · have al : ∀ j, (H.set k (.cells cs')).get j ≠ .dead → H.get j ≠ .dead := fun j hj => by
    rw [Heap.get_set] at hj; split at hj
    · subst_vars; exact hne
    · exact hj
   exact R.inj i j x s t (al i hi) (al j hj) hx hy
 · rw [cell_setRow_other w b c' ⟨x, o, none⟩ (fun e => by
    have := R.apart k b sz hne hμ o
    rw [show x = b from e] at hv; rw [hv] at this; cases this)]
   exact R.imm x o v hv
 · have : H.get j ≠ .dead := by
    rw [Heap.get_set] at hj; split at hj
    · subst_vars; exact hne
    · exact hj
   exact R.apart j x s this hx o
theorem alloc_heap_lt (w : World) (o : Obj) {b : Nat} (h : b < w.heap.size) : (w.alloc o).heap[b]? = w.heap[b]? := by
 simp only [World.alloc, Array.getElem?_push]; rw [if_neg (by omega)]
theorem alloc_heap_new (w : World) (o : Obj) : (w.alloc o).heap[w.heap.size]? = some o := by show (w.heap.push o)[w.heap.size]? = some o; simp
theorem Rel.layF (R : Rel M μ H w) {p : Nat} (hp : p < H.nx) (hfree : μ p = none) {cs : List AV} {c : Array Value} {el : TypeId} {fz : Nat × Nat} (hfz : fz = (0, 0) ∨ c.size ≤ fz.1) (hP : relP M μ cs c.toList) :
 Rel M (μ.put p (w.heap.size, c.size)) (H.set p (.cells cs)) (w.alloc (.cells c el fz)) ∧ Pos.le μ (μ.put p (w.heap.size, c.size)) ∧
  (∀ n, n ≤ p → Grow n M μ H w M (μ.put p (w.heap.size, c.size)) (H.set p (.cells cs)) (w.alloc (.cells c el fz))) := by
 have hle : Pos.le μ (μ.put p (w.heap.size, c.size)) := Pos.le_put hfree _
 have hdead : H.get p = .dead := by
  cases hg : H.get p with
  | dead => rfl
  | cells ds => obtain ⟨b, sz, _, _, _, h, _⟩ := R.cells p ds hg; rw [hfree] at h; cases h
  | map es => obtain ⟨b, sz, _, _, h, _⟩ := R.maps p es hg; rw [hfree] at h; cases h
  | iter k left cur => obtain ⟨_, b, sz, h, _⟩ := R.iters p k left cur hg; rw [hfree] at h; cases h
  | loop st id fr => obtain ⟨b, sz, h, _⟩ := R.loops p st id fr hg; rw [hfree] at h; cases h
 have old : ∀ j b s, H.get j ≠ .dead → (μ.put p (w.heap.size, c.size)) j = some (b, s) → μ j = some (b, s) ∧ b < w.heap.size := fun j b s hj hx => by
  have hjp : j ≠ p := fun e => hj (e ▸ hdead)
  rw [Pos.put_other μ _ hjp] at hx
  exact ⟨hx, R.own_lt ⟨j, s, hj, hx⟩⟩
 have new : ∀ b s, (μ.put p (w.heap.size, c.size)) p = some (b, s) → b = w.heap.size := fun b s hx => by
  rw [Pos.put_same] at hx; simp at hx; exact hx.1.symm
 have ownlt : ∀ {j b s}, H.get j ≠ .dead → μ j = some (b, s) → b < w.heap.size := fun hj hx => R.own_lt ⟨_, _, hj, hx⟩
 have alive : ∀ j, (H.set p (.cells cs)).get j ≠ .dead → j ≠ p → H.get j ≠ .dead := fun j hj hjp => by
  rw [Heap.get_set, if_neg (Ne.symm hjp)] at hj; exact hj
 refine ⟨⟨R.glob, fun k hk => ?_, fun j hj => ?_, fun j ds hj => ?_, fun j es hj => ?_, R.walks_same (Mem.le_refl _) (fun j k' left cur hj => ?_) hle (fun x hx _ => alloc_heap_lt w _ hx), R.recs_same (Mem.le_refl _) (fun j st id fr hj => ?_) hle (fun x hx _ => alloc_heap_lt w _ hx), fun i j x s t hi hj hx hy => ?_, fun x o v hv => ?_, fun j x s hj hx o => ?_⟩, hle, fun n hn => ⟨Mem.le_refl _, fun k hk => Pos.put_other μ _ (by omega), ⟨rfl, rfl, rfl, by simp, fun x hx _ => alloc_heap_lt w _ hx⟩, fun x hx => ?_, fun _ _ _ h => .inl h⟩⟩
 · have hk' : H.nx ≤ k := hk
   rw [Pos.put_other μ _ (by omega)]; exact R.dom k hk'
 · have hj' : H.nx ≤ j := hj
   rw [Heap.get_set, if_neg (by omega)]; exact R.top j hj'
 · rw [Heap.get_set] at hj
   split at hj
   · rename_i h; subst h
     simp only [AB.cells.injEq] at hj; subst hj
     exact ⟨w.heap.size, c.size, c, el, fz, Pos.put_same _ _ _, alloc_heap_new w _, rfl, hfz, relP_mono (Mem.le_refl _) hle _ hP⟩
   · obtain ⟨b', s', d, el', fz', h1, h2, h3, h4, h5⟩ := R.cells j ds hj
     exact ⟨b', s', d, el', fz', hle _ _ h1, by rw [alloc_heap_lt w _ (ownlt (by rw [hj]; simp) h1)]; exact h2, h3, h4, relP_mono (Mem.le_refl _) hle _ h5⟩
 · rw [Heap.get_set] at hj
   split at hj
   · cases hj
   · obtain ⟨b', s', ents, clock, h1, h2, h3, h4⟩ := R.maps j es hj
     exact ⟨b', s', ents, clock, hle _ _ h1, by rw [alloc_heap_lt w _ (ownlt (by rw [hj]; simp) h1)]; exact h2, relE_mono (Mem.le_refl _) hle h3, h4⟩
 · rw [Heap.get_set] at hj
   split at hj
   · cases hj
   · refine ⟨hj, fun h => ?_⟩
     rw [Heap.get_set]; split
     · simp
     · exact h
 · rw [Heap.get_set] at hj
   split at hj
   · cases hj
   · exact hj
 · by_cases hi' : i = p
   · by_cases hj' : j = p
     · omega
     · subst hi'
       have := new x s hx
       have := (old j x t (alive j hj hj') hy).2
       omega
   · by_cases hj' : j = p
     · subst hj'
       have := new x t hy
       have := (old i x s (alive i hi hi') hx).2
       omega
     · exact R.inj i j x s t (alive i hi hi') (alive j hj hj') (old i x s (alive i hi hi') hx).1 (old j x t (alive j hj hj') hy).1
 · rw [World.cell?_alloc_lt w _ ⟨x, o, none⟩ (R.cell_lt hv)]; exact R.imm x o v hv
 · by_cases hj' : j = p
   · subst hj'
     have hb := new x s hx
     cases hm : M x o with
     | none => rfl
     | some v => have := R.cell_lt hm; omega
   · exact R.apart j x s (alive j hj hj') (old j x s (alive j hj hj') hx).1 o
 · obtain ⟨k, s, hk, hμ⟩ := hx
   by_cases hk' : k = p
   · subst hk'; have := new x s hμ; exact .inr (by omega)
   · exact .inl ⟨k, s, alive k hk hk', (old k x s (alive k hk hk') hμ).1⟩
theorem Rel.lay (R : Rel M μ H w) {p : Nat} (hp : p < H.nx) (hfree : μ p = none) {cs : List AV} {c : Array Value} {el : TypeId} (hP : relP M μ cs c.toList) :
 Rel M (μ.put p (w.heap.size, c.size)) (H.set p (.cells cs)) (w.alloc (.cells c el)) ∧ Pos.le μ (μ.put p (w.heap.size, c.size)) ∧
  (∀ n, n ≤ p → Grow n M μ H w M (μ.put p (w.heap.size, c.size)) (H.set p (.cells cs)) (w.alloc (.cells c el))) :=
 R.layF hp hfree (.inl rfl) hP
theorem Rel.room (R : Rel M μ H w) (m : Nat) : Rel M μ ⟨H.nx + m, H.bs⟩ w :=
 ⟨R.glob, fun k hk => R.dom k (by simp only at hk; omega), fun k hk => R.top k (by simp only at hk; omega), R.cells, R.maps, R.iters, R.loops, R.inj, R.imm, R.apart⟩
theorem Rel.push (R : Rel M μ H w) {cs : List AV} {c : Array Value} {el : TypeId} (hP : relP M μ cs c.toList) :
 Rel M (μ.put H.nx (w.heap.size, c.size)) (H.push (.cells cs)) (w.alloc (.cells c el)) ∧ Move M μ H w M (μ.put H.nx (w.heap.size, c.size)) (H.push (.cells cs)) (w.alloc (.cells c el)) := by
 have R1 := R.room 1
 obtain ⟨h1, h2, h3⟩ := R1.lay (p := H.nx) (el := el) (Nat.lt_succ_self _) (R.dom _ (Nat.le_refl _)) hP
 have G := h3 H.nx (Nat.le_refl _)
 exact ⟨h1, h2, ⟨G.mem, G.pin, G.keep, G.own, G.fresh⟩, Nat.le_succ _⟩

theorem run_storeCells_fz {P : Program} (g o : Nat) (t : TypeId) (fz : Nat × Nat) : ∀ (vs : List Value) (i : Nat) (cur : Array Value) (w : World), w.heap[g]? = some (.cells cur t fz) → (fz = (0, 0) ∨ cur.size ≤ fz.1) → o + i + vs.length ≤ cur.size → (∀ v ∈ vs, v.oneCell' = true) →
 (storeCells ⟨g, o, none⟩ vs i).run P w = .ok () (w.setRow g (cur.toList.take (o + i) ++ vs ++ cur.toList.drop (o + i + vs.length)).toArray)
 | [], i, cur, w, hg, _, _, _ => by
  simp only [storeCells, List.append_nil, List.length_nil, Nat.add_zero, List.take_append_drop, Array.toArray_toList]
  rw [setRow_self w g cur t fz hg]
  rfl
 | v :: rest, i, cur, w, hg, hfz, hl, h1 => by
  have hi : o + i < cur.size := by simp at hl; omega
  have hcell : w.cell? ⟨g, o + i, none⟩ = some cur[o + i] := by simp [World.cell?, hg, hi]
  have hfro : w.frozen? ⟨g, o + i, none⟩ = false := by
   obtain ⟨lo, hi'⟩ := fz
   simp only [World.frozen?, hg, Bool.and_eq_false_iff, decide_eq_false_iff_not]
   rcases hfz with h | h
   · simp only [Prod.mk.injEq] at h; right; omega
   · simp only at h; left; omega
  have hst : (store ((⟨g, o, none⟩ : Addr).add i) v).run P w = .ok () (w.setRow g (cur.setIfInBounds (o + i) v)) := by
   rw [add_addr, run_store P w _ v _ (h1 v (by simp)), hcell]
   simp [hfro, setCell_eq_setRow w g (o + i) cur t fz v hg]
  have ih := run_storeCells_fz (P := P) g o t fz rest (i + 1) (cur.setIfInBounds (o + i) v) (w.setRow g (cur.setIfInBounds (o + i) v)) (setRow_heap w g cur _ t _ hg) (by simpa using hfz) (by simp at hl ⊢; omega) (fun x hx => h1 x (by simp [hx]))
  simp only [storeCells, Sem.run_bind, hst, Result.andThen_ok, ih, setRow_setRow]
  congr 3
  have e := list_seg_step cur.toList (o + i) v rest (by simp at hl ⊢; omega)
  simpa [Array.toList_setIfInBounds, Nat.add_assoc] using e
def shapeOk (P : Program) (t : TypeId) (agg : Bool) (n : Nat) : Bool := sized P t n && (match P.underlying t with
 | some (.struct _) => agg
 | some (.array _ _) => agg
 | some _ => !agg
 | none => false)
theorem run_isAgg {P : Program} {t : TypeId} {agg : Bool} {n : Nat} (h : shapeOk P t agg n = true) (w : World) : (isAgg t).run P w = .ok agg w := by
 unfold shapeOk at h
 simp only [Bool.and_eq_true] at h
 have h := h.2
 split at h
 · rename_i hu; simp [isAgg, run_underlying hu, h]
 · rename_i hu; simp [isAgg, run_underlying hu, h]
 · rename_i d h1 h2 hu
   simp only [isAgg, Sem.run_bind, run_underlying hu, Result.andThen_ok]
   cases agg <;> simp at h
   cases d <;> first | rfl | exact absurd rfl (h1 _) | exact absurd rfl (h2 _ _)
 · cases h
theorem shapeOk_sized {P : Program} {t : TypeId} {agg : Bool} {n : Nat} (h : shapeOk P t agg n = true) : sized P t n = true := by
 unfold shapeOk at h; simp only [Bool.and_eq_true] at h; exact h.1
theorem relM_cells (R : Rel M μ H w) {cs : List AV} {b o : Nat} (h : relM M cs b o) : ∀ n, n ≤ cs.length → ∃ vs, vs.length = n ∧ relL M (cs.take n) μ vs ∧ ∀ j v, vs[j]? = some v → w.cell? (Addr.add ⟨b, o, none⟩ j) = some v := by
 induction cs generalizing o with
 | nil => intro n hn; simp at hn; subst hn; exact ⟨[], rfl, by simp [relL], fun j v h => by simp at h⟩
 | cons c cs ih =>
  intro n hn
  cases n with
  | zero => exact ⟨[], rfl, by simp [relL], fun j v h => by simp at h⟩
  | succ n =>
   simp only [relM] at h
   obtain ⟨⟨u, hu, hc⟩, h⟩ := h
   obtain ⟨vs, h1, h2, h3⟩ := ih h n (by simpa using hn)
   refine ⟨u :: vs, by simp [h1], ?_, fun j v hj => ?_⟩
   · simp only [List.take_succ_cons, relL]; exact ⟨u, vs, rfl, relV_mono (Mem.le_refl _) _ (Pos.none_le _) hc, h2⟩
   · cases j with
     | zero => simp at hj; subst hj; rw [add_addr]; exact R.imm b o u hu
     | succ j =>
      simp at hj
      have := h3 j v hj
      rw [add_addr] at this ⊢
      rw [← this]; congr 2; omega
theorem cells_cells (R : Rel M μ H w) {k b sz off : Nat} {cs : List AV} (hk : H.get k = .cells cs) (hμ : μ k = some (b, sz)) (n : Nat) (hn : off + n ≤ cs.length) :
 ∃ vs, vs.length = n ∧ relL M ((cs.drop off).take n) μ vs ∧ ∀ j v, vs[j]? = some v → w.cell? (Addr.add ⟨b, off, none⟩ j) = some v := by
 obtain ⟨b', sz', c, el, fz, h1, h2, h3, h4, h5⟩ := R.cells k cs hk
 rw [hμ] at h1; cases h1
 have hl := relP_length h5
 refine ⟨(c.toList.drop off).take n, by simp at hl ⊢; omega, relP_take n (by simp; omega) (relP_drop off h5), fun j v hj => ?_⟩
 rw [add_addr]
 simp only [World.cell?, h2]
 rw [List.getElem?_take] at hj
 split at hj
 · simpa using hj
 · cases hj
end
end Go.Eng

namespace Go.Eng
open Go
variable [Globs]
def takeK : Nat → List AV → (List AV → Prop) → Prop
 | 0, _, K => K []
 | n + 1, c :: r, K => fv c fun c => takeK n r fun l => K (c :: l)
 | _ + 1, [], _ => False
theorem takeK_eq : ∀ (n : Nat) (cs : List AV) (K : List AV → Prop), n ≤ cs.length → takeK n cs K = K (cs.take n)
 | 0, _, _, _ => by simp [takeK]
 | n + 1, c :: r, K, h => by simp only [takeK, fv_eq, List.take_succ_cons]; rw [takeK_eq n r _ (by simpa using h)]
 | _ + 1, [], _, h => by simp at h
theorem takeK_len : ∀ {n : Nat} {cs : List AV} {K : List AV → Prop}, takeK n cs K → n ≤ cs.length ∧ K (cs.take n)
 | 0, _, _, h => by simpa [takeK] using h
 | n + 1, c :: r, K, h => by
  simp only [takeK, fv_eq] at h; have := takeK_len h; exact ⟨by simpa using this.1, by simpa using this.2⟩
 | _ + 1, [], _, h => h.elim
def lputK : List AV → Nat → List AV → (List AV → Prop) → Prop
 | cs, 0, [], K => K cs
 | _ :: cs, 0, v :: l, K => bif scal v then lputK cs 0 l fun r => K (v :: r) else False
 | c :: cs, off + 1, l, K => lputK cs off l fun r => K (c :: r)
 | [], 0, _ :: _, _ => False
 | [], _ + 1, _, _ => False
theorem lputK_spec : ∀ {cs : List AV} {off : Nat} {l : List AV} {K : List AV → Prop}, lputK cs off l K → off + l.length ≤ cs.length ∧ l.all scal = true ∧ K (cs.take off ++ l ++ cs.drop (off + l.length))
 | [], 0, [], K, h => by simpa [lputK] using h
 | c :: cs, 0, [], K, h => by simpa [lputK] using h
 | _ :: cs, 0, v :: l, K, h => by
  simp only [lputK] at h
  cases hv : scal v with
  | false => simp [hv] at h
  | true =>
   simp only [hv, cond_true] at h
   obtain ⟨h1, h2, h3⟩ := lputK_spec h
   refine ⟨by simp at h1 ⊢; omega, by simp [hv] at h2 ⊢; exact h2, by simpa using h3⟩
 | c :: cs, off + 1, [], K, h => by
  simp only [lputK] at h; obtain ⟨h1, h2, h3⟩ := lputK_spec h
  exact ⟨by simp at h1 ⊢; omega, h2, by simpa [Nat.add_right_comm] using h3⟩
 | c :: cs, off + 1, v :: l, K, h => by
  simp only [lputK] at h; obtain ⟨h1, h2, h3⟩ := lputK_spec h
  refine ⟨by simp at h1 ⊢; omega, h2, ?_⟩
  rw [show off + 1 + (v :: l).length = off + (v :: l).length + 1 by omega]; simpa using h3
 | [], 0, _ :: _, _, h => h.elim
 | [], _ + 1, _, _, h => h.elim
theorem lputK_eq {cs : List AV} {off : Nat} {l : List AV} {K : List AV → Prop} (h : off + l.length ≤ cs.length) (hs : l.all scal = true) (hk : K (cs.take off ++ l ++ cs.drop (off + l.length))) : lputK cs off l K := by
 induction cs generalizing off l K with
 | nil =>
  simp at h; obtain ⟨rfl, rfl⟩ := h
  simpa [lputK] using hk
 | cons c cs ih =>
  cases off with
  | zero =>
   cases l with
   | nil => simpa [lputK] using hk
   | cons v l =>
    simp only [List.all_cons, Bool.and_eq_true] at hs
    simp only [lputK, hs.1, cond_true]
    exact ih (by simp at h ⊢; omega) hs.2 (by simpa using hk)
  | succ off =>
   simp only [lputK]
   refine ih (by simp at h ⊢; omega) hs ?_
   rw [show off + 1 + l.length = off + l.length + 1 by omega] at hk
   simpa using hk
def cellsOf : AV → Option (List AV)
 | .agg l => some l
 | .any => none
 | .tuple _ => none
 | .bool b => some [.bool b]
 | .int k n => some [.int k n]
 | .str s => some [.str s]
 | .nilp => some [.nilp]
 | .ptr k o => some [.ptr k o]
 | .dptr cs => some [.dptr cs]
 | .nils => some [.nils]
 | .slice k o l c e => some [.slice k o l c e]
 | .dslice cs l c => some [.dslice cs l c]
 | .nilm => some [.nilm]
 | .map k => some [.map k]
 | .nilf => some [.nilf]
 | .func f cs => some [.func f cs]
 | .meth f cs => some [.meth f cs]
 | .yld k => some [.yld k]
 | .nili => some [.nili]
 | .ifc t c => some [.ifc t c]
theorem rel_cellsOf {M : Mem} {μ : Pos} {c : AV} {v : Value} {l : List AV} (h : cellsOf c = some l) (hr : relV M c μ v) : relL M l μ v.cells.toList := by
 cases c <;> simp [cellsOf] at h
 case agg cs => subst h; simp only [relV] at hr; obtain ⟨vs, rfl, hl⟩ := hr; exact hl
 all_goals
  subst h
  have h1 := scal_one (by rfl) hr
  rw [one_cells h1]
  simp only [relL]
  exact ⟨_, _, rfl, hr, rfl⟩
inductive HOp where
 | load (agg : Bool) (n : Nat) (x : AX)
 | alloc (zero : List AV)
 | box (x : AX)
 | store (n : Nat) (p x : AX)
def nthK : Nat → List AV → (AV → Prop) → Prop
 | 0, c :: _, K => fv c K
 | n + 1, _ :: r, K => nthK n r K
 | _, [], _ => False
def loadK (agg : Bool) (n : Nat) (cs : List AV) (K : AV → Prop) : Prop := match agg with
 | true => takeK n cs fun l => K (.agg l)
 | false => nthK 0 cs K
theorem loadK_false (n : Nat) (cs : List AV) (K : AV → Prop) : loadK false n cs K = match cs with
 | c :: _ => fv c K
 | [] => False := by cases cs <;> rfl
def HOp.run (ev : AX → AV) (H : Heap) (K : AV → Heap → Prop) : HOp → Prop
 | .load agg n x => match ev x with
  | .dptr cs => loadK agg n cs fun v => K v H
  | .ptr k off => match H.get k with
   | .cells cs => loadK agg n (cs.drop off) fun v => K v H
   | _ => False
  | _ => False
 | .alloc zero => pushK H (.cells zero) K
 | .box x => match cellsOf (ev x) with
  | some l => pushK H (.cells l) K
  | none => False
 | .store n p x => match ev p with
  | .ptr k off => match H.get k with
   | .cells cs => match cellsOf (ev x) with
    | some l => bif Nat.beq l.length n then lputK cs off l fun cs' => setK H k (.cells cs') (K .any) else False
    | none => False
   | _ => False
  | _ => False
def Yields2 (P : Program) (o : Oper) (a : Act) (M : Mem) (μ : Pos) (H : Heap) (K : AV → Heap → Prop) (w : World) : Prop :=
 ∃ nx v w', (execOp a.eval o).run P w = .ok nx w' ∧ (nx = .value v ∨ nx = .skip ∧ v = undef) ∧
  ∃ M' μ' H' c, Rel M' μ' H' w' ∧ relV M' c μ' v ∧ Move M μ H w M' μ' H' w' ∧ K c H'
def zeroOk (P : Program) (t : TypeId) (zero : List AV) : Bool := match P.info? t with
 | some i => match i.zero with
  | some z => okVs z.cells.toList zero
  | none => false
 | none => false
def okH (P : Program) : Op → HOp → Bool
 | .load t x, .load agg n x' => shapeOk P t agg n && okX x x'
 | .alloc t, .alloc zero => zeroOk P t zero
 | .box _ x, .box x' => okX x x'
 | .store t p x, .store n p' x' => sized P t n && okX p p' && okX x x'
 | _, _ => false
section
variable {P : Program} {N : Nat} {M : Mem} {μ : Pos} {H : Heap} {fr : Fr} {a : Act} {w : World} {K : AV → Heap → Prop}
theorem yields2_same {o : Oper} {v : Value} {c : AV} (R : Rel M μ H w) (hrun : (execOp a.eval o).run P w = .ok (.value v) w) (hc : relV M c μ v) (hk : K c H) : Yields2 P o a M μ H K w :=
 ⟨_, v, w, hrun, .inl rfl, M, μ, H, c, R, hc, Move.refl _ _ _ _, hk⟩
theorem loadK_spec {agg : Bool} {n : Nat} {cs : List AV} {K : AV → Prop} (h : loadK agg n cs K) : (agg = true ∧ n ≤ cs.length ∧ K (.agg (cs.take n))) ∨ (agg = false ∧ ∃ c r, cs = c :: r ∧ K c) := by
 cases agg with
 | true => exact .inl ⟨rfl, takeK_len h⟩
 | false =>
  simp only [loadK_false, fv_eq] at h
  cases cs with
  | nil => exact h.elim
  | cons c r => exact .inr ⟨rfl, c, r, rfl, h⟩
theorem sound_load {t : TypeId} {x : Operand} {agg : Bool} {n : Nat} {x' : AX} {o : Oper} (ho : o.op = .load t x) (h1 : shapeOk P t agg n = true) (h2 : okX x x' = true) (R : Rel M μ H w) (F : RelF N M μ fr a.tmps)
 (hr : (HOp.load agg n x').run (AX.ev fr) H K) : Yields2 P o a M μ H K w := by
 have hx := rel_okX F h2
 have key : ∀ (b off : Nat) (cs : List AV), a.eval x = .pointer (some ⟨b, off, none⟩) →
  (∀ m, m ≤ cs.length → ∃ vs, vs.length = m ∧ relL M (cs.take m) μ vs ∧ ∀ j v, vs[j]? = some v → w.cell? (Addr.add ⟨b, off, none⟩ j) = some v) →
  loadK agg n cs (fun v => K v H) → Yields2 P o a M μ H K w := by
  intro b off cs hv hcells hl
  rcases loadK_spec hl with ⟨rfl, hn, hk⟩ | ⟨rfl, c, r, rfl, hk⟩
  · obtain ⟨vs, hl1, hl2, hl3⟩ := hcells n hn
    refine yields2_same R (v := .agg vs.toArray) ?_ ?_ hk
    · have := run_loadCells_list (P := P) w ⟨b, off, none⟩ vs hl3
      rw [hl1] at this
      simp only [execOp, ho, hv, Instr.loadAt, Instr.sureAddr, loadVar, Sem.run_bind, Sem.run_pure, Result.andThen_ok, run_isAgg h1, if_true, run_sizeOf (shapeOk_sized h1), this]
    · simp only [relV]; exact ⟨_, rfl, hl2⟩
  · obtain ⟨vs, hl1, hl2, hl3⟩ := hcells 1 (by simp)
    simp only [List.take_succ_cons, List.take_zero, relL] at hl2
    obtain ⟨v, _, rfl, hrel, rfl⟩ := hl2
    have h3 := hl3 0 v rfl
    rw [add_addr] at h3
    refine yields2_same R (v := v) ?_ hrel hk
    simp only [execOp, ho, hv, Instr.loadAt, Instr.sureAddr, loadVar, Sem.run_bind, Sem.run_pure, Result.andThen_ok, run_isAgg h1, Bool.false_eq_true, if_false, run_load]
    simp only [Nat.add_zero] at h3
    simp only [h3, Result.andThen_ok]
 simp only [HOp.run] at hr
 split at hr
 · rename_i cs hc
   rw [hc] at hx; simp only [relV] at hx
   obtain ⟨b, off, hv, hm⟩ := hx
   exact key b off cs hv (fun m hm' => relM_cells R hm m hm') hr
 · rename_i k off hc
   rw [hc] at hx; simp only [relV] at hx
   obtain ⟨b, sz, hμ, hv⟩ := hx
   split at hr
   · rename_i cs hk
     refine key b off (cs.drop off) hv (fun m hm' => ?_) hr
     by_cases hm0 : m = 0
     · subst hm0; exact ⟨[], rfl, by simp [relL], fun j v h => by simp at h⟩
     · exact cells_cells R hk hμ m (by simp at hm'; omega)
   · exact hr.elim
 · exact hr.elim
theorem sound_alloc {t : TypeId} {zero : List AV} {o : Oper} (ho : o.op = .alloc t) (h1 : zeroOk P t zero = true) (R : Rel M μ H w) (hr : (HOp.alloc zero).run (AX.ev fr) H K) : Yields2 P o a M μ H K w := by
 unfold zeroOk at h1
 split at h1
 · rename_i i hi
   split at h1
   · rename_i z hz
     have hP : relP M μ zero z.cells.toList := relP_of_relL (rel_okVs h1)
     obtain ⟨R', G⟩ := R.push (el := t) hP
     refine ⟨_, .pointer (some ⟨w.heap.size, 0, none⟩), _, ?_, .inl rfl, _, _, _, _, R', ?_, G, hr⟩
     · simp only [execOp, ho, Instr.alloc, zeroValue, Sem.run_bind, run_typeInfo hi, Result.andThen_ok, hz, Sem.run_pure, newVar, newRow, run_newObj]; rfl
     · simp only [relV]; exact ⟨w.heap.size, _, Pos.put_same _ _ _, rfl⟩
   · cases h1
 · cases h1
theorem sound_box {t : TypeId} {x : Operand} {x' : AX} {o : Oper} (ho : o.op = .box t x) (h1 : okX x x' = true) (R : Rel M μ H w) (F : RelF N M μ fr a.tmps) (hr : (HOp.box x').run (AX.ev fr) H K) : Yields2 P o a M μ H K w := by
 have hx := rel_okX F h1
 simp only [HOp.run] at hr
 split at hr
 · rename_i l hl
   have hP : relP M μ l (a.eval x).cells.toList := relP_of_relL (rel_cellsOf hl hx)
   obtain ⟨R', G⟩ := R.push (el := t) hP
   refine ⟨_, .pointer (some ⟨w.heap.size, 0, none⟩), _, ?_, .inl rfl, _, _, _, _, R', ?_, G, hr⟩
   · simp only [execOp, ho, Instr.box, Sem.run_bind, Result.andThen_ok, Sem.run_pure, newVar, newRow, run_newObj]; rfl
   · simp only [relV]; exact ⟨w.heap.size, _, Pos.put_same _ _ _, rfl⟩
 · exact hr.elim
theorem relP_put {cs l : List AV} {vs us : List Value} {off : Nat} (h : relP M μ cs vs) (k : relL M l μ us) (hn : off + l.length ≤ cs.length) : relP M μ (cs.take off ++ l ++ cs.drop (off + l.length)) (vs.take off ++ us ++ vs.drop (off + us.length)) := by
 have hlen := relL_length k
 have hle := relP_length h
 rw [hlen]
 refine relP_of_get fun i c hi => ?_
 by_cases h1 : i < off
 · rw [List.append_assoc, List.getElem?_append_left (by simp; omega), List.getElem?_take_of_lt h1] at hi
   obtain ⟨v, hv, hr⟩ := relP_get h hi
   exact ⟨v, by rw [List.append_assoc, List.getElem?_append_left (by simp; omega), List.getElem?_take_of_lt h1]; exact hv, hr⟩
 · by_cases h2 : i < off + l.length
   · rw [List.append_assoc, List.getElem?_append_right (by simp; omega), List.getElem?_append_left (by simp; omega)] at hi
     obtain ⟨v, hv, hr⟩ := relL_get k hi
     refine ⟨v, ?_, hr⟩
     rw [List.append_assoc, List.getElem?_append_right (by simp; omega), List.getElem?_append_left (by simp; omega), ← hv]
     congr 1; simp; omega
   · rw [List.getElem?_append_right (by simp; omega), List.getElem?_drop] at hi
     obtain ⟨v, hv, hr⟩ := relP_get h hi
     refine ⟨v, ?_, hr⟩
     rw [List.getElem?_append_right (by simp; omega), List.getElem?_drop, ← hv]
     congr 1; simp; omega
theorem relL_one {cs : List AV} {vs : List Value} (hs : cs.all scal = true) (h : relL M cs μ vs) : ∀ v ∈ vs, v.oneCell' = true := by
 induction cs generalizing vs with
 | nil => simp only [relL] at h; subst h; simp
 | cons c cs ih =>
  simp only [relL] at h; obtain ⟨v, r, rfl, h2, h3⟩ := h
  simp only [List.all_cons, Bool.and_eq_true] at hs
  intro u hu
  rcases List.mem_cons.1 hu with rfl | hu
  · exact scal_one hs.1 h2
  · exact ih hs.2 h3 u hu
theorem sound_store {t : TypeId} {p x : Operand} {n : Nat} {p' x' : AX} {o : Oper} (ho : o.op = .store t p x) (h0 : sized P t n = true) (h1 : okX p p' = true) (h2 : okX x x' = true) (R : Rel M μ H w) (F : RelF N M μ fr a.tmps)
 (hr : (HOp.store n p' x').run (AX.ev fr) H K) : Yields2 P o a M μ H K w := by
 have hp := rel_okX F h1
 have hx := rel_okX F h2
 simp only [HOp.run] at hr
 split at hr
 · rename_i k off hc
   rw [hc] at hp; simp only [relV] at hp
   obtain ⟨b, sz, hμ, hv⟩ := hp
   split at hr
   · rename_i cs hk
     split at hr
     · rename_i l hl
       cases hn : Nat.beq l.length n with
       | false => simp [hn] at hr
       | true =>
        simp only [hn, cond_true] at hr
        have hn := Nat.eq_of_beq_eq_true hn
        obtain ⟨e1, e2, e3⟩ := lputK_spec hr
        have hrel := rel_cellsOf hl hx
        obtain ⟨b', sz', c, el, fz, q1, q2, q3, q4, q5⟩ := R.cells k cs hk
        rw [hμ] at q1; cases q1
        have hlen := relL_length hrel
        have hple := relP_length q5
        simp only [Array.length_toList] at hple hlen
        have hst := run_storeCells_fz (P := P) b off el fz (a.eval x).cells.toList 0 c w q2 (by rw [q3]; exact q4) (by simp; omega) (relL_one e2 hrel)
        simp only [Nat.add_zero] at hst
        obtain ⟨R', G⟩ := R.write (c' := (c.toList.take off ++ (a.eval x).cells.toList ++ c.toList.drop (off + (a.eval x).cells.toList.length)).toArray) hk hμ q2 q4
         (by simp; omega) (relP_put q5 hrel e1)
        refine ⟨.skip, undef, _, ?_, .inr ⟨rfl, rfl⟩, M, μ, _, .any, R', by simp only [relV], G, e3⟩
        have hsz : ¬ ((a.eval x).cells.size ≠ n) := by rw [hlen, hn]; simp
        simp only [execOp, ho, hv, Instr.storeAt, Instr.sureAddr, storeVar, Sem.run_bind, Sem.run_pure, Result.andThen_ok, run_sizeOf h0, if_neg hsz, hst]
     · exact hr.elim
   · exact hr.elim
 · exact hr.elim
theorem hop_sound {o : Oper} {p : HOp} (h : okH P o.op p = true) (R : Rel M μ H w) (F : RelF N M μ fr a.tmps) (hr : p.run (AX.ev fr) H K) : Yields2 P o a M μ H K w := by
 unfold okH at h
 split at h
 · simp only [Bool.and_eq_true] at h; exact sound_load ‹_› h.1 h.2 R F hr
 · exact sound_alloc (fr := fr) ‹_› h R hr
 · exact sound_box ‹_› h R F hr
 · simp only [Bool.and_eq_true] at h; exact sound_store ‹_› h.1.1 h.1.2 h.2 R F hr
 · cases h
end
end Go.Eng

namespace Go.Eng
open Go
variable [Globs]

inductive Sc where
 | b
 | i (k : IntKind)
 | s
 deriving DecidableEq
inductive VOp where
 | field (agg : Bool) (off n : Nat) (x : AX)
 | idx (agg : Bool) (e len : Nat) (x i : AX)
 | sidx (x i : AX)
 | build (zero : List AV) (parts : List (Nat × Nat × AX))
 | eqa (neg : Bool) (ks : List Sc) (x y : AX)
 | isnil (p neg : Bool) (x y : AX)
 | sub (e : Nat) (x : AX) (lo hi mx : Option AX)
 | ssub (x : AX) (lo hi : Option AX)
 | s2a (n : Nat) (x : AX)
 | mkI (t : TypeId) (x : AX)
 | tas (t : TypeId) (zero : AV) (x : AX)
 | isni (neg : Bool) (x : AX)
def eqOne : Sc → AV → AV → Option Bool
 | .b, .bool a, .bool b => some (a == b)
 | .i k, .int j a, .int j' b => bif (j == k && j' == k) then some (decide (a = b)) else none
 | .s, .str a, .str b => some (decide (a = b))
 | _, _, _ => none
def eqCells : List Sc → List AV → List AV → (Bool → Prop) → Prop
 | [], [], [], K => K true
 | k :: ks, c :: cs, d :: ds, K => match eqOne k c d with
  | some q => eqCells ks cs ds fun r => K (q && r)
  | none => False
 | _, _, _, _ => False
def buildK (ev : AX → AV) : List (Nat × Nat × AX) → List AV → (List AV → Prop) → Prop
 | [], cs, K => K cs
 | (off, sz, x) :: r, cs, K => match cellsOf (ev x) with
  | some l => bif Nat.beq l.length sz then lputK cs off l fun cs => buildK ev r cs K else False
  | none => False
def optI (ev : AX → AV) (d : Int) (x : Option AX) (K : Int → Prop) : Prop := match x with
 | none => K d
 | some x => match ev x with
  | .int _ i => K i
  | _ => False
def VOp.run (ev : AX → AV) (K : AV → Prop) : VOp → Prop
 | .field agg off n x => match ev x with
  | .agg cs => loadK agg n (cs.drop off) K
  | _ => False
 | .idx agg e len x i => match ev x, ev i with
  | .agg cs, .int _ i => Side (0 ≤ i ∧ i < len) (loadK agg e (cs.drop (i.toNat * e)) K)
  | _, _ => False
 | .sidx x i => match ev x, ev i with
  | .str s, .int _ i => Side (0 ≤ i ∧ i < s.size) (K (.int .u8 ((s.data.getD i.toNat 0).toNat : Nat)))
  | _, _ => False
 | .build zero parts => buildK ev parts zero fun cs => K (.agg cs)
 | .eqa neg ks x y => match ev x, ev y with
  | .agg cs, .agg ds => eqCells ks cs ds fun r => K (.bool (if neg then !r else r))
  | _, _ => False
 | .isnil p neg x y => match p, ev x, ev y with
  | false, .nils, .nils => K (.bool (!neg))
  | false, .slice _ _ _ _ _, .nils => K (.bool neg)
  | false, .dslice _ n _, .nils => Side (0 < n) (K (.bool neg))
  | true, .nilp, .nilp => K (.bool (!neg))
  | true, .ptr _ _, .nilp => K (.bool neg)
  | true, .dptr _, .nilp => K (.bool neg)
  | _, _, _ => False
 | .sub e x lo hi mx => match ev x with
  | .dslice cs len cap => optI ev 0 lo fun l => optI ev len hi fun h => match mx with
   | none => Side (0 ≤ l ∧ l ≤ h ∧ h ≤ len) (K (.dslice ((cs.drop (l.toNat * e)).take ((h - l).toNat * e)) (h - l).toNat (cap.map (· - l.toNat))))
   | some mx => match ev mx with
    | .int _ m => Side (0 ≤ l ∧ l ≤ h ∧ h ≤ m ∧ m ≤ len) (K (.dslice ((cs.drop (l.toNat * e)).take ((h - l).toNat * e)) (h - l).toNat (some (m - l).toNat)))
    | _ => False
  | .nils => optI ev 0 lo fun l => optI ev 0 hi fun h => match mx with
   | none => Side (l = 0 ∧ h = 0) (K .nils)
   | some mx => match ev mx with
    | .int _ m => Side (l = 0 ∧ h = 0 ∧ m = 0) (K .nils)
    | _ => False
  | .slice k off len cap e' => optI ev 0 lo fun l => optI ev len hi fun h => match mx with
   | none => Side (e = e') ((Side (0 ≤ l ∧ l < h ∧ h ≤ len) (K (.slice k (off + l.toNat * e) (h - l).toNat (cap.map (· - l.toNat)) e))) ∨ (Side (0 ≤ l ∧ l = h ∧ h ≤ len) (K (.dslice [] 0 none))))
   | some mx => match ev mx with
    | .int _ m => Side (e = e' ∧ 0 ≤ l ∧ l < h ∧ h ≤ m ∧ m ≤ len) (K (.slice k (off + l.toNat * e) (h - l).toNat (some (m - l).toNat) e))
    | _ => False
  | _ => False
 | .ssub x lo hi => match ev x with
  | .str s => optI ev 0 lo fun l => optI ev s.size hi fun h => Side (0 ≤ l ∧ l ≤ h ∧ h ≤ s.size) (K (.str (s.extract l.toNat h.toNat)))
  | _ => False
 | .s2a n x => match ev x with
  | .dslice cs len _ => Side (0 < n ∧ n ≤ len) (K (.dptr cs))
  | .slice k off len _ _ => Side (n ≤ len) (K (.ptr k off))
  | _ => False
 | .mkI t x => fv (ev x) fun c => K (.ifc t c)
 | .tas t zero x => match ev x with
  | .nili => K (.tuple [zero, .bool false])
  | .ifc t' c => bif Nat.beq t' t then K (.tuple [c, .bool true]) else K (.tuple [zero, .bool false])
  | _ => False
 | .isni neg x => match ev x with
  | .nili => K (.bool (!neg))
  | .ifc _ _ => K (.bool neg)
  | _ => False

def aggT (P : Program) (t : TypeId) : Bool := match P.underlying t with
 | some (.struct _) | some (.array _ _) => true
 | _ => false
def okFieldV (P : Program) (s : TypeId) (f : Nat) (agg : Bool) (off n : Nat) : Bool := match P.underlying s with
 | some (.struct fs) => match fs[f]? with
  | some fd => fd.offset == off && shapeOk P fd.type agg n
  | none => false
 | _ => false
def okIdxV (P : Program) (t : TypeId) (agg : Bool) (e len : Nat) : Bool := match P.underlying t with
 | some (.array n el) => n == len && shapeOk P el agg e
 | _ => false
def okParts (P : Program) (place : Nat → Option (Nat × Nat)) : List (Nat × Operand) → List (Nat × Nat × AX) → Bool
 | [], [] => true
 | (i, x) :: r, (off, sz, y) :: r' => (place i == some (off, sz)) && okX x y && okParts P place r r'
 | _, _ => false
def sizesOf (P : Program) (fs : List Field) : Option (List (Nat × Nat)) := fs.mapM fun f => (P.info? f.type).map fun i => (f.offset, i.size)
def okBuild (P : Program) (t : TypeId) (ps : List (Nat × Operand)) (zero : List AV) (parts : List (Nat × Nat × AX)) : Bool := zeroOk P t zero && (match P.underlying t with
 | some (.struct fs) => match sizesOf P fs.toList with
  | some l => okParts P (fun i => l[i]?) ps parts
  | none => false
 | some (.array _ el) => match P.info? el with
  | some i => okParts P (fun j => some (j * i.size, i.size)) ps parts
  | none => false
 | _ => false)
def flatFs (P : Program) (g : TypeId → Option (List Sc)) : Nat → List Field → Option (List Sc)
 | _, [] => some []
 | off, fd :: r => if fd.name = "_" ∨ fd.offset ≠ off then none else match g fd.type with
  | some l => if sized P fd.type l.length then match flatFs P g (off + l.length) r with
   | some r' => some (l ++ r')
   | none => none
   else none
  | none => none
def flatSc (P : Program) : Nat → TypeId → Option (List Sc)
 | 0, _ => none
 | f + 1, t => match P.underlying t with
  | some .bool => some [.b]
  | some (.int k) => some [.i k]
  | some .string => some [.s]
  | some (.struct fs) => if P.stoodInHeld t then none else flatFs P (flatSc P f) 0 fs.toList
  | some (.array n el) => match flatSc P f el with
   | some l => if sized P el l.length then some (List.replicate n l).flatten else none
   | none => none
  | _ => none
def okOptX : Option Operand → Option AX → Bool
 | none, none => true
 | some x, some y => okX x y
 | _, _ => false
def isPtr (P : Program) (t : TypeId) : Bool := match P.underlying t with
 | some (.pointer _) => true
 | _ => false
def sliceOf (P : Program) (t : TypeId) (e : Nat) : Bool := match P.underlying t with
 | some (.slice el) => sized P el e
 | _ => false
def arrLen (P : Program) (t : TypeId) (n : Nat) : Bool := match P.underlying t with
 | some (.array m _) => m == n
 | _ => false
def zeroV (P : Program) (t : TypeId) (zero : AV) : Bool := match P.info? t with
 | some i => match i.zero with
  | some z => okV z zero
  | none => false
 | none => false
def isIfc (P : Program) (t : TypeId) : Bool := match P.underlying t with
 | some (.interface _) => true
 | _ => false
def okVop (P : Program) : Op → VOp → Bool
 | .field s x f, .field agg off n x' => okFieldV P s f agg off n && okX x x'
 | .index t x i, .idx agg e len x' i' => okIdxV P t agg e len && okX x x' && okX i i'
 | .index t x i, .sidx x' i' => isStr P t && okX x x' && okX i i'
 | .build t ps, .build zero parts => okBuild P t ps.toList zero parts
 | .binOp op t x y _, .eqa neg ks x' y' => decide (op = if neg then BinOp.neq else BinOp.eql) && decide (flatSc P 9 t = some ks) && aggT P t && !(P.eqGuardType P.depth t) && okX x x' && okX y y'
 | .binOp op t x y _, .isnil p neg x' y' => decide (op = if neg then BinOp.neq else BinOp.eql) && (if p then isPtr P t else isSlice P t) && okX x x' && okX y y'
 | .slice t x lo hi mx, .sub e x' lo' hi' mx' => sliceOf P t e && okX x x' && okOptX lo lo' && okOptX hi hi' && okOptX mx mx' && (mx'.isNone || hi'.isSome)
 | .slice t x lo hi none, .ssub x' lo' hi' => isStr P t && okX x x' && okOptX lo lo' && okOptX hi hi'
 | .sliceToArrayPointer t x, .s2a n x' => arrLen P t n && okX x x'
 | .makeInterface t x, .mkI t' x' => isConcrete P t && Nat.beq t t' && okX x x'
 | .typeAssert x _ t true, .tas t' zero x' => isConcrete P t && Nat.beq t t' && zeroV P t zero && okX x x'
 | .binOp op t x (.const .nilIface) _, .isni neg x' => decide (op = if neg then BinOp.neq else BinOp.eql) && isIfc P t && okX x x'
 | _, _ => false
section
variable {P : Program} {N : Nat} {M : Mem} {μ : Pos} {fr : Fr} {a : Act} {K : AV → Prop}
theorem run_part {t : TypeId} {agg : Bool} {n off : Nat} (h : shapeOk P t agg n = true) {cs : List AV} {vs : Array Value} (hl : relL M cs μ vs.toList) (hk : loadK agg n (cs.drop off) K) (w : World) :
 ∃ v c, (part t vs off).run P w = .ok v w ∧ relV M c μ v ∧ K c := by
 have hlen := relL_length hl
 rcases loadK_spec hk with ⟨rfl, hn, hk⟩ | ⟨rfl, c, r, hcr, hk⟩
 · refine ⟨.agg (vs.extract off (off + n)), _, ?_, ?_, hk⟩
   · simp only [part, Sem.run_bind, run_isAgg h, Result.andThen_ok, if_true, run_sizeOf (shapeOk_sized h), Sem.run_pure]
   · simp only [relV]
     refine ⟨_, rfl, ?_⟩
     have : (vs.extract off (off + n)).toList = (vs.toList.drop off).take n := by
      simp [Array.toList_extract, List.extract_eq_take_drop]
     rw [this]
     exact relP_take n hn (relP_drop off (relP_of_relL hl))
 · have h0 : cs[off]? = some c := by
    have := congrArg (·[0]?) hcr
    simpa using this
   obtain ⟨v, hv, hr⟩ := relL_get hl h0
   refine ⟨v, c, ?_, hr, hk⟩
   simp only [part, Sem.run_bind, run_isAgg h, Result.andThen_ok, Bool.false_eq_true, if_false]
   rw [show vs[off]? = some v by simpa using hv]; rfl
theorem sound_field {s : TypeId} {x : Operand} {f : Nat} {agg : Bool} {off n : Nat} {x' : AX} {o : Oper} (ho : o.op = .field s x f) (h1 : okFieldV P s f agg off n = true) (h2 : okX x x' = true) (F : RelF N M μ fr a.tmps)
 (hr : (VOp.field agg off n x').run (AX.ev fr) K) (w : World) : Yields1 P o a M μ K w := by
 have hx := rel_okX F h2
 simp only [VOp.run] at hr
 split at hr
 · rename_i cs hc
   rw [hc] at hx; simp only [relV] at hx
   obtain ⟨vs, hv, hl⟩ := hx
   unfold okFieldV at h1
   split at h1
   · rename_i fs hs
     split at h1
     · rename_i fd hf
       simp only [Bool.and_eq_true, beq_iff_eq] at h1
       obtain ⟨v, c, e1, e2, e3⟩ := run_part h1.2 hl hr w
       refine ⟨v, c, ?_, e2, e3⟩
       simp only [execOp, ho, hv, Instr.field, Sem.run_bind, run_underlying hs, Result.andThen_ok, hf, asAgg, Sem.run_pure, h1.1, e1]
     · cases h1
   · cases h1
 · exact hr.elim
theorem sound_idx {t : TypeId} {x i : Operand} {agg : Bool} {e len : Nat} {x' i' : AX} {o : Oper} (ho : o.op = .index t x i) (h1 : okIdxV P t agg e len = true) (h2 : okX x x' = true) (h3 : okX i i' = true) (F : RelF N M μ fr a.tmps)
 (hr : (VOp.idx agg e len x' i').run (AX.ev fr) K) (w : World) : Yields1 P o a M μ K w := by
 have hx := rel_okX F h2
 have hi := rel_okX F h3
 simp only [VOp.run] at hr
 split at hr
 · rename_i cs k j hc hj
   rw [hc] at hx; rw [hj] at hi; simp only [relV] at hx
   obtain ⟨vs, hv, hl⟩ := hx
   have hi := rel_int hi
   unfold okIdxV at h1
   split at h1
   · rename_i n el hu
     simp only [Bool.and_eq_true, beq_iff_eq] at h1
     obtain ⟨rfl, h1⟩ := h1
     obtain ⟨v, c, e1, e2, e3⟩ := run_part h1 hl hr.r w
     refine ⟨v, c, ?_, e2, e3⟩
     simp only [execOp, ho, hv, hi, Instr.index, asIntOf, Sem.run_bind, Sem.run_pure, run_underlying hu, Result.andThen_ok, hr.l.1, hr.l.2, and_self, if_true, run_sizeOf (shapeOk_sized h1), e1]
   · cases h1
 · exact hr.elim
theorem sound_sidx {t : TypeId} {x i : Operand} {x' i' : AX} {o : Oper} (ho : o.op = .index t x i) (h1 : isStr P t = true) (h2 : okX x x' = true) (h3 : okX i i' = true) (F : RelF N M μ fr a.tmps)
 (hr : (VOp.sidx x' i').run (AX.ev fr) K) (w : World) : Yields1 P o a M μ K w := by
 have hx := rel_okX F h2
 have hi := rel_okX F h3
 simp only [VOp.run] at hr
 split at hr
 · rename_i s k j hc hj
   rw [hc] at hx; rw [hj] at hi
   have hx := rel_str hx
   have hi := rel_int hi
   have hlt : j.toNat < s.size := by have := hr.l; omega
   have hb : s[j.toNat]? = some (s.data.getD j.toNat 0) := by
    have hlt' : j.toNat < s.data.size := hlt
    rw [Array.getD_eq_getD_getElem?, Array.getElem?_eq_getElem hlt', Option.getD_some]
    rw [getElem?_pos s j.toNat hlt]
    rfl
   refine ⟨_, _, ?_, mk_int _ _, hr.r⟩
   simp only [execOp, ho, hx, hi, Instr.index, asIntOf, Sem.run_bind, Sem.run_pure, run_underlying (isStr_spec h1), Result.andThen_ok, hr.l.1, if_true, hb]
 · exact hr.elim
theorem foldl_put (l : List Value) : ∀ (k off : Nat) (cs : Array Value), off + k + l.length ≤ cs.size → ((l.zipIdx k).foldl (fun cs (x : Value × Nat) => cs.setIfInBounds (off + x.2) x.1) cs).toList = cs.toList.take (off + k) ++ l ++ cs.toList.drop (off + k + l.length) := by
 induction l with
 | nil => intro k off cs h; simp
 | cons v l ih =>
  intro k off cs h
  simp only [List.length_cons] at h
  simp only [List.zipIdx_cons, List.foldl_cons]
  rw [ih (k + 1) off _ (by simp; omega)]
  have := list_seg_step cs.toList (off + k) v l (by simp; omega)
  simp only [Array.toList_setIfInBounds]
  rw [← Nat.add_assoc off k 1, this, List.length_cons]
theorem fill_run {place : Nat → Option (Nat × Nat)} (F : RelF N M μ fr a.tmps) : ∀ {ps : List (Nat × Operand)} {parts : List (Nat × Nat × AX)}, okParts P place ps parts = true → ∀ {cs : List AV} {vs : Array Value} {K : List AV → Prop}, relL M cs μ vs.toList → buildK (AX.ev fr) parts cs K →
 ∃ us ds, Instr.fill place vs (ps.map fun x => (x.1, a.eval x.2)) = some us ∧ relL M ds μ us.toList ∧ K ds
 | [], [], _, cs, vs, K, hl, hk => ⟨vs, cs, rfl, hl, hk⟩
 | (i, x) :: ps, (off, sz, y) :: parts, h, cs, vs, K, hl, hk => by
  simp only [okParts, Bool.and_eq_true, beq_iff_eq] at h
  obtain ⟨⟨h1, h2⟩, h3⟩ := h
  simp only [buildK] at hk
  split at hk
  · rename_i l hc
    cases hn : Nat.beq l.length sz with
    | false => simp [hn] at hk
    | true =>
     simp only [hn, cond_true] at hk
     have hn := Nat.eq_of_beq_eq_true hn
     obtain ⟨e1, e2, e3⟩ := lputK_spec hk
     have hrel := rel_cellsOf hc (rel_okX F h2)
     have hlen := relL_length hrel
     have hlen2 := relL_length hl
     simp only [Array.length_toList] at hlen hlen2
     have hput := foldl_put (a.eval x).cells.toList 0 off vs (by simp; omega)
     simp only [Nat.add_zero] at hput
     have hfold : ((a.eval x).cells.zipIdx.foldl (fun cs x => cs.setIfInBounds (off + x.2) x.1) vs).toList = vs.toList.take off ++ (a.eval x).cells.toList ++ vs.toList.drop (off + (a.eval x).cells.toList.length) := by
      rw [← hput, ← Array.foldl_toList, Array.toList_zipIdx]
     have hrel' : relL M (cs.take off ++ l ++ cs.drop (off + l.length)) μ ((a.eval x).cells.zipIdx.foldl (fun cs x => cs.setIfInBounds (off + x.2) x.1) vs).toList := by
      rw [hfold]
      refine relL_of_get (by simp; omega) fun j c hj => ?_
      exact relP_get (relP_put (relP_of_relL hl) hrel e1) hj
     obtain ⟨us, ds, q1, q2, q3⟩ := fill_run F h3 hrel' e3
     refine ⟨us, ds, ?_, q2, q3⟩
     simp only [List.map_cons, Instr.fill, h1]
     have hc1 : ¬ ((a.eval x).cells.size ≠ sz || off + (a.eval x).cells.size > vs.size) = true := by
      simp; omega
     rw [if_neg hc1]
     exact q1
  · exact hk.elim
 | [], _ :: _, h, _, _, _, _, _ => by simp [okParts] at h
 | _ :: _, [], h, _, _, _, _, _ => by simp [okParts] at h
theorem run_sizeOf_i {t : TypeId} {i : TypeInfo} (h : P.info? t = some i) (w : World) : (sizeOf t).run P w = .ok i.size w := by simp only [sizeOf, Sem.run_bind, run_typeInfo h, Result.andThen_ok, Sem.run_pure]
theorem sizesOf_run : ∀ {fs : List Field} {l : List (Nat × Nat)}, sizesOf P fs = some l → ∀ w, (fs.mapM fun (f : Field) => (do pure (f.offset, ← sizeOf f.type) : Sem (Nat × Nat))).run P w = .ok l w
 | [], l, h, w => by simp [sizesOf] at h; subst h; simp
 | f :: fs, l, h, w => by
  simp only [sizesOf, List.mapM_cons, bind, Option.bind_eq_some_iff, Option.map_eq_some_iff, pure, Option.some.injEq] at h
  obtain ⟨p, ⟨i, hi, rfl⟩, r, hr, rfl⟩ := h
  have := sizesOf_run (fs := fs) (l := r) hr w
  simp only [List.mapM_cons, Sem.run_bind, run_sizeOf_i hi, Result.andThen_ok, Sem.run_pure, this]
theorem sound_build {t : TypeId} {ps : Array (Nat × Operand)} {zero : List AV} {parts : List (Nat × Nat × AX)} {o : Oper} (ho : o.op = .build t ps) (h : okBuild P t ps.toList zero parts = true) (F : RelF N M μ fr a.tmps)
 (hr : (VOp.build zero parts).run (AX.ev fr) K) (w : World) : Yields1 P o a M μ K w := by
 simp only [okBuild, Bool.and_eq_true] at h
 obtain ⟨hz, h⟩ := h
 unfold zeroOk at hz
 split at hz
 · rename_i ti hti
   split at hz
   · rename_i z hzz
     have hl : relL M zero μ z.cells.toList := rel_okVs hz
     have hmap : (ps.map fun x => (x.1, a.eval x.2)).toList = ps.toList.map fun x => (x.1, a.eval x.2) := by simp
     simp only [VOp.run] at hr
     have fin : ∀ place, okParts P place ps.toList parts = true → ∃ us ds, Instr.fill place z.cells (ps.map fun x => (x.1, a.eval x.2)).toList = some us ∧ relL M ds μ us.toList ∧ K (.agg ds) := fun place hp => by
      rw [hmap]; exact fill_run F hp hl hr
     split at h
     · rename_i fs hs
       split at h
       · rename_i l hsz
         obtain ⟨us, ds, q1, q2, q3⟩ := fin _ h
         refine ⟨.agg us, .agg ds, ?_, by simp only [relV]; exact ⟨_, rfl, q2⟩, q3⟩
         simp only [execOp, ho, Instr.build, zeroValue, Sem.run_bind, run_typeInfo hti, Result.andThen_ok, hzz, Sem.run_pure, run_underlying hs, Array.mapM_eq_mapM_toList, Sem.run_map, sizesOf_run hsz]
         have e : (fun i : Nat => l.toArray[i]?) = fun i : Nat => l[i]? := by funext i; simp
         rw [e, q1]
         simp only [Sem.run_pure, Result.andThen_ok]
       · cases h
     · rename_i n el hs
       split at h
       · rename_i i hi
         obtain ⟨us, ds, q1, q2, q3⟩ := fin _ h
         refine ⟨.agg us, .agg ds, ?_, by simp only [relV]; exact ⟨_, rfl, q2⟩, q3⟩
         simp only [execOp, ho, Instr.build, zeroValue, sizeOf, Sem.run_bind, run_typeInfo hti, Result.andThen_ok, hzz, Sem.run_pure, run_underlying hs, run_typeInfo hi, q1]
       · cases h
     · cases h
   · cases hz
 · cases hz

def confEq : List Sc → List Value → List Value → Option Bool
 | [], _, _ => some true
 | .b :: ks, .bool a :: us, .bool b :: vs => (confEq ks us vs).map ((a == b) && ·)
 | .i k :: ks, .int j a :: us, .int j' b :: vs => if j = k ∧ j' = k then (confEq ks us vs).map (decide (a = b) && ·) else none
 | .s :: ks, .string a :: us, .string b :: vs => (confEq ks us vs).map (decide (a = b) && ·)
 | _, _, _ => none
theorem confEq_append : ∀ (k1 k2 : List Sc) (us vs : List Value) (r : Bool), confEq (k1 ++ k2) us vs = some r → ∃ r1 r2, confEq k1 us vs = some r1 ∧ confEq k2 (us.drop k1.length) (vs.drop k1.length) = some r2 ∧ r = (r1 && r2)
 | [], k2, us, vs, r, h => ⟨true, r, rfl, by simpa using h, by simp⟩
 | c :: k1, k2, us, vs, r, h => by
  rw [List.cons_append] at h
  unfold confEq at h
  split at h
  · rename_i heq; cases heq
  · rename_i ks a us b vs heq
    cases heq
    simp only [Option.map_eq_some_iff] at h
    obtain ⟨q, hq, rfl⟩ := h
    obtain ⟨r1, r2, h1, h2, rfl⟩ := confEq_append k1 k2 us vs q hq
    exact ⟨(a == b) && r1, r2, by simp [confEq, h1], by simpa using h2, by rw [Bool.and_assoc]⟩
  · rename_i k ks j a us j' b vs heq
    cases heq
    split at h
    · rename_i hj
      simp only [Option.map_eq_some_iff] at h
      obtain ⟨q, hq, rfl⟩ := h
      obtain ⟨r1, r2, h1, h2, rfl⟩ := confEq_append k1 k2 us vs q hq
      exact ⟨decide (a = b) && r1, r2, by simp [confEq, h1, hj], by simpa using h2, by rw [Bool.and_assoc]⟩
    · cases h
  · rename_i ks a us b vs heq
    cases heq
    simp only [Option.map_eq_some_iff] at h
    obtain ⟨q, hq, rfl⟩ := h
    obtain ⟨r1, r2, h1, h2, rfl⟩ := confEq_append k1 k2 us vs q hq
    exact ⟨decide (a = b) && r1, r2, by simp [confEq, h1], by simpa using h2, by rw [Bool.and_assoc]⟩
  · cases h
theorem confEq_take : ∀ (ks : List Sc) (us vs : List Value) (n : Nat), ks.length ≤ n → confEq ks (us.take n) (vs.take n) = confEq ks us vs
 | [], us, vs, n, _ => by simp [confEq]
 | c :: ks, us, vs, 0, h => by simp at h
 | c :: ks, us, vs, n + 1, h => by
  have ih := fun us vs => confEq_take ks us vs n (by simpa using h)
  cases us with
  | nil => simp only [List.take_nil]; cases c <;> simp [confEq]
  | cons u us =>
   cases vs with
   | nil => simp only [List.take_nil]; cases c <;> cases u <;> simp [confEq]
   | cons v vs => simp only [List.take_succ_cons]; cases c <;> cases u <;> cases v <;> simp [confEq, ih]
def AggEq (P : Program) (f : Nat) (t : TypeId) (ks : List Sc) : Prop := aggT P t = true → ∀ (d : Nat) (xs ys : Array Value) (r : Bool) (w : World), confEq ks xs.toList ys.toList = some r → (Op.equalIn (d + f) t (.agg xs) (.agg ys)).run P w = .ok r w
def PartEq (P : Program) (f : Nat) (t : TypeId) (ks : List Sc) : Prop := sized P t ks.length = true → ∀ (d : Nat) (xs ys : Array Value) (off : Nat) (r : Bool) (w : World), confEq ks (xs.toList.drop off) (ys.toList.drop off) = some r →
 ∃ u v, (part t xs off).run P w = .ok u w ∧ (part t ys off).run P w = .ok v w ∧ (Op.equalIn (d + f) t u v).run P w = .ok r w
theorem partEq_of_agg {f : Nat} {t : TypeId} {ks : List Sc} (ha : aggT P t = true) (h : AggEq P f t ks) : PartEq P f t ks := by
 intro hs d xs ys off r w hc
 have hsh : shapeOk P t true ks.length = true := by
  unfold shapeOk; rw [hs]; unfold aggT at ha; split at ha <;> simp_all
 refine ⟨.agg (xs.extract off (off + ks.length)), .agg (ys.extract off (off + ks.length)), ?_, ?_, h ha d _ _ r w ?_⟩
 · simp only [part, Sem.run_bind, run_isAgg hsh, Result.andThen_ok, if_true, run_sizeOf hs, Sem.run_pure]
 · simp only [part, Sem.run_bind, run_isAgg hsh, Result.andThen_ok, if_true, run_sizeOf hs, Sem.run_pure]
 · have e : ∀ zs : Array Value, (zs.extract off (off + ks.length)).toList = (zs.toList.drop off).take ks.length := fun zs => by simp [Array.toList_extract, List.extract_eq_take_drop]
   rw [e, e, confEq_take _ _ _ _ (Nat.le_refl _)]; exact hc
theorem part_scal {t : TypeId} {d : TypeDesc} (hu : P.underlying t = some d) (h1 : ∀ fs, d ≠ .struct fs) (h2 : ∀ n e, d ≠ .array n e) {xs : Array Value} {off : Nat} {u : Value} (h : xs.toList[off]? = some u) (w : World) : (part t xs off).run P w = .ok u w := by
 have ha : (isAgg t).run P w = .ok false w := by
  simp only [isAgg, Sem.run_bind, run_underlying hu, Result.andThen_ok]
  cases d <;> first | rfl | exact absurd rfl (h1 _) | exact absurd rfl (h2 _ _)
 simp only [part, Sem.run_bind, ha, Result.andThen_ok, Bool.false_eq_true, if_false]
 rw [show xs[off]? = some u by simpa using h]; rfl
theorem drop_head {α : Type} {l : List α} {n : Nat} {c : α} {r : List α} (h : l.drop n = c :: r) : l[n]? = some c := by
 have := congrArg (·[0]?) h; simpa using this
theorem eq_flat : ∀ (f : Nat) (t : TypeId) (ks : List Sc), flatSc P f t = some ks → AggEq P f t ks ∧ PartEq P f t ks
 | 0, _, _, h => by simp [flatSc] at h
 | f + 1, t, ks, h => by
  have scal : ∀ {d : TypeDesc}, P.underlying t = some d → (∀ fs, d ≠ .struct fs) → (∀ n e, d ≠ .array n e) →
   (∀ (d : Nat) (us vs : List Value) (r : Bool) (w : World), confEq ks us vs = some r → ∃ u us' v vs', us = u :: us' ∧ vs = v :: vs' ∧ (Op.equalIn (d + (f + 1)) t u v).run P w = .ok r w) → AggEq P (f + 1) t ks ∧ PartEq P (f + 1) t ks := by
   intro d hu h1 h2 h3
   refine ⟨fun ha => ?_, fun hs d' xs ys off r w hc => ?_⟩
   · unfold aggT at ha
     split at ha
     · rename_i fs hfs; rw [hu] at hfs; cases hfs; exact absurd rfl (h1 _)
     · rename_i n e hfs; rw [hu] at hfs; cases hfs; exact absurd rfl (h2 _ _)
     · cases ha
   · obtain ⟨u, us', v, vs', hus, hvs, he⟩ := h3 d' _ _ r w hc
     exact ⟨u, v, part_scal hu h1 h2 (drop_head hus) w, part_scal hu h1 h2 (drop_head hvs) w, he⟩
  unfold flatSc at h
  split at h
  · rename_i hu
    simp only [Option.some.injEq] at h; subst h
    refine scal hu (by simp) (by simp) fun d us vs r w hc => ?_
    unfold confEq at hc
    split at hc <;> try (cases hc; done)
    all_goals rename_i heq
    all_goals cases heq
    rename_i a us b vs
    simp [confEq] at hc
    subst hc
    exact ⟨_, _, _, _, rfl, rfl, run_equalIn_bool w (d + f) t a b hu⟩
  · rename_i k hu
    simp only [Option.some.injEq] at h; subst h
    refine scal hu (by simp) (by simp) fun d us vs r w hc => ?_
    unfold confEq at hc
    split at hc <;> try (cases hc; done)
    all_goals rename_i heq
    all_goals cases heq
    rename_i j a us j' b vs
    split at hc
    · rename_i hj
      obtain ⟨rfl, rfl⟩ := hj
      simp [confEq] at hc
      subst hc
      exact ⟨_, _, _, _, rfl, rfl, by rw [show d + (f + 1) = (d + f) + 1 by omega, run_equalIn_int w (d + f) t _ _ a b hu, beq_int]⟩
    · cases hc
  · rename_i hu
    simp only [Option.some.injEq] at h; subst h
    refine scal hu (by simp) (by simp) fun d us vs r w hc => ?_
    unfold confEq at hc
    split at hc <;> try (cases hc; done)
    all_goals rename_i heq
    all_goals cases heq
    rename_i a us b vs
    simp [confEq] at hc
    subst hc
    refine ⟨_, _, _, _, rfl, rfl, ?_⟩
    rw [show d + (f + 1) = (d + f) + 1 by omega, run_equalIn_string w (d + f) t a b hu]
    congr 1
    rw [Bool.eq_iff_iff]
    simp only [beq_iff_eq, decide_eq_true_eq, ByteArray.toList_eq]
    constructor
    · intro h; cases a; cases b; simp only [ByteArray.mk.injEq]; exact Array.toList_inj.1 h
    · intro h; rw [h]
  · rename_i fs hu
    split at h
    · cases h
    · rename_i hst
      have hst : P.stoodInHeld t = false := by simpa using hst
      have ha : aggT P t = true := by unfold aggT; rw [hu]
      have fields : ∀ (l : List Field) (off : Nat) (ks : List Sc), flatFs P (flatSc P f) off l = some ks → ∀ (d : Nat) (xs ys : Array Value) (r : Bool) (w : World), confEq ks (xs.toList.drop off) (ys.toList.drop off) = some r → (Op.eqFields (d + f) xs ys l).run P w = .ok r w := by
       intro l
       induction l with
       | nil => intro off ks h d xs ys r w hc; simp [flatFs] at h; subst h; simp [confEq] at hc; subst hc; simp [Op.eqFields]
       | cons fd l ih =>
        intro off ks h d xs ys r w hc
        unfold flatFs at h
        split at h
        · cases h
        · rename_i hn
          have hn1 : fd.name ≠ "_" := fun e => hn (.inl e)
          have hn2 : fd.offset = off := Classical.byContradiction fun e => hn (.inr e)
          split at h
          · rename_i k1 hk1
            split at h
            · rename_i hsz
              split at h
              · rename_i k2 hk2
                simp only [Option.some.injEq] at h; subst h
                obtain ⟨r1, r2, q1, q2, rfl⟩ := confEq_append k1 k2 _ _ r hc
                rw [List.drop_drop, List.drop_drop] at q2
                obtain ⟨u, v, p1, p2, p3⟩ := (eq_flat f fd.type k1 hk1).2 hsz d xs ys off r1 w q1
                have := ih _ _ hk2 d xs ys r2 w q2
                simp only [Op.eqFields, hn1, ne_eq, not_false_eq_true, if_true, hn2, Sem.run_bind, p1, p2, p3, Result.andThen_ok]
                cases r1
                · simp
                · simpa using this
              · cases h
            · cases h
          · cases h
      have hagg : AggEq P (f + 1) t ks := by
       intro _ d xs ys r w hc
       have hfs : P.fieldsOf t = fs := by simp [Program.fieldsOf, hu]
       rw [show d + (f + 1) = (d + f) + 1 by omega, run_equalIn_struct w (d + f) t xs ys (by rw [hfs]; exact hu) hst, hfs]
       exact fields fs.toList 0 ks h d xs ys r w (by simpa using hc)
      exact ⟨hagg, partEq_of_agg ha hagg⟩
  · rename_i n el hu
    split at h
    · rename_i l hl
      split at h
      · rename_i hsz
        simp only [Option.some.injEq] at h; subst h
        have ha : aggT P t = true := by unfold aggT; rw [hu]
        have hinfo : ∃ i, P.info? el = some i ∧ i.size = l.length := by
         unfold sized at hsz; split at hsz
         · rename_i i hi; exact ⟨i, hi, by simpa using hsz⟩
         · cases hsz
        obtain ⟨i, hi, hisz⟩ := hinfo
        have hcells : P.cellsOf el = l.length := by simp [Program.cellsOf, hi, hisz]
        have items : ∀ (m s : Nat) (d : Nat) (xs ys : Array Value) (r : Bool) (w : World), confEq (List.replicate m l).flatten (xs.toList.drop (s * l.length)) (ys.toList.drop (s * l.length)) = some r → (Op.eqItems (d + f) el (P.cellsOf el) xs ys (List.range' s m)).run P w = .ok r w := by
         intro m
         induction m with
         | zero => intro s d xs ys r w hc; simp [confEq] at hc; subst hc; simp [Op.eqItems]
         | succ m ih =>
          intro s d xs ys r w hc
          rw [List.replicate_succ, List.flatten_cons] at hc
          obtain ⟨r1, r2, q1, q2, rfl⟩ := confEq_append l _ _ _ r hc
          rw [List.drop_drop, List.drop_drop] at q2
          obtain ⟨u, v, p1, p2, p3⟩ := (eq_flat f el l hl).2 hsz d xs ys _ r1 w q1
          have := ih (s + 1) d xs ys r2 w (by rw [show (s + 1) * l.length = s * l.length + l.length by rw [Nat.add_mul, Nat.one_mul]]; exact q2)
          rw [List.range'_succ]
          simp only [Op.eqItems, hcells, Sem.run_bind, p1, p2, p3, Result.andThen_ok]
          rw [hcells] at this
          cases r1
          · simp
          · simpa using this
        have hagg : AggEq P (f + 1) t (List.replicate n l).flatten := by
         intro _ d xs ys r w hc
         rw [show d + (f + 1) = (d + f) + 1 by omega, run_equalIn_array w (d + f) xs ys hu hi, List.range_eq_range']
         exact items n 0 d xs ys r w (by simpa using hc)
        exact ⟨hagg, partEq_of_agg ha hagg⟩
      · cases h
    · cases h
  · cases h
end
end Go.Eng

namespace Go.Eng
open Go
variable [Globs]
section
variable {P : Program} {N : Nat} {M : Mem} {μ : Pos} {fr : Fr} {a : Act} {K : AV → Prop}
theorem eqOne_spec {k : Sc} {c d : AV} {q : Bool} (h : eqOne k c d = some q) {u v : Value} (hu : relV M c μ u) (hv : relV M d μ v) {ks : List Sc} {us vs : List Value} {r : Bool} (hr : confEq ks us vs = some r) : confEq (k :: ks) (u :: us) (v :: vs) = some (q && r) := by
 unfold eqOne at h
 split at h
 · simp only [Option.some.injEq] at h; subst h
   rw [rel_bool hu, rel_bool hv]; simp [confEq, hr]
 · rename_i k j x j' y
   cases hj : (j == k && j' == k) with
   | false => simp [hj] at h
   | true =>
    simp only [hj, cond_true, Option.some.injEq] at h; subst h
    simp only [Bool.and_eq_true, beq_iff_eq] at hj
    rw [rel_int hu, rel_int hv]; simp [confEq, hr, hj]
 · simp only [Option.some.injEq] at h; subst h
   rw [rel_str hu, rel_str hv]; simp [confEq, hr]
 · cases h
theorem eqCells_spec : ∀ {ks : List Sc} {cs ds : List AV} {K : Bool → Prop}, eqCells ks cs ds K → ∃ r, K r ∧ ∀ us vs, relL M cs μ us → relL M ds μ vs → confEq ks us vs = some r
 | [], [], [], K, h => ⟨true, h, fun us vs _ _ => rfl⟩
 | k :: ks, c :: cs, d :: ds, K, h => by
  simp only [eqCells] at h
  split at h
  · rename_i q hq
    obtain ⟨r, h1, h2⟩ := eqCells_spec h
    refine ⟨_, h1, fun us vs hu hv => ?_⟩
    simp only [relL] at hu hv
    obtain ⟨u, us, rfl, hu1, hu2⟩ := hu
    obtain ⟨v, vs, rfl, hv1, hv2⟩ := hv
    exact eqOne_spec hq hu1 hv1 (h2 us vs hu2 hv2)
  · exact h.elim
 | [], _ :: _, _, _, h | [], [], _ :: _, _, h | _ :: _, [], _, _, h | _ :: _, _ :: _, [], _, h => by simp [eqCells] at h
theorem sound_eqa {op : BinOp} {neg : Bool} {t : TypeId} {ks : List Sc} {x y : Operand} {x' y' : AX} {yt : TypeId} {o : Oper} (ho : o.op = .binOp op t x y yt) (h0 : op = if neg then BinOp.neq else BinOp.eql) (h1 : flatSc P 9 t = some ks) (hagg : aggT P t = true) (h2 : P.eqGuardType P.depth t = false)
 (h3 : okX x x' = true) (h4 : okX y y' = true) (F : RelF N M μ fr a.tmps) (hr : (VOp.eqa neg ks x' y').run (AX.ev fr) K) (w : World) : Yields1 P o a M μ K w := by
 have hx := rel_okX F h3
 have hy := rel_okX F h4
 simp only [VOp.run] at hr
 split at hr
 · rename_i cs ds hc hd
   rw [hc] at hx; rw [hd] at hy; simp only [relV] at hx hy
   obtain ⟨us, hu, hul⟩ := hx
   obtain ⟨vs, hv, hvl⟩ := hy
   obtain ⟨r, hk, he⟩ := eqCells_spec (M := M) (μ := μ) hr
   have hconf := he us.toList vs.toList hul hvl
   have hg : ∀ op, (eqGuard op t x y (.agg us) (.agg vs)).run P w = .ok () w := by
    intro op
    unfold eqGuard
    have : (if (!P.eqGuardType P.depth t) = true then (pure () : Sem Unit) else do
     if ← Op.eqGuardIn Op.maxDepth t (.agg us) (.agg vs) then unsupported (.noEntry "binop/eql: two nil values of an interface type with methods, in a part of a struct or an array")).run P w = .ok () w := by
     rw [if_pos (by simp [h2])]; rfl
    cases op <;> first | rfl | (simp [h2]; done) | exact this
   have heq : (Op.equal t (.agg us) (.agg vs)).run P w = .ok r w := (eq_flat 9 t ks h1).1 hagg 9991 us vs r w hconf
   refine ⟨.bool (if neg then !r else r), _, ?_, mk_bool _, hk⟩
   subst h0
   simp only [execOp, ho, hu, hv, Sem.run_bind, hg, Result.andThen_ok]
   cases neg <;> simp [binOp, heq]
 · exact hr.elim
theorem run_nil_eq {t : TypeId} {x y : Operand} {yt : TypeId} {o : Oper} {neg r : Bool} (ho : o.op = .binOp (if neg then BinOp.neq else BinOp.eql) t x y yt) {u v : Value} (hu : a.eval x = u) (hv : a.eval y = v)
 (h1 : ∀ cs, u ≠ .agg cs) (h2 : u ≠ .nilIface) (w : World) (hb : (binOp .eql t u v).run P w = ((Op.equal t u v).run P w).andThen fun q w' => .ok (.bool q) w')
 (hb' : (binOp .neq t u v).run P w = ((Op.equal t u v).run P w).andThen fun q w' => .ok (.bool (!q)) w') (he : (Op.equal t u v).run P w = .ok r w) :
 (execOp a.eval o).run P w = .ok (.value (.bool (if neg then !r else r))) w := by
 simp only [execOp, ho, hu, hv, Sem.run_bind, eqGuard_scalar h1 h2, Result.andThen_ok]
 cases neg
 · simp only [Bool.false_eq_true, if_false, hb, he]; rfl
 · simp only [if_true, hb', he]; rfl
theorem isPtr_spec {t : TypeId} (h : isPtr P t = true) : P.underlying t = some (.pointer (P.pointee t)) := by
 unfold isPtr at h
 split at h
 · rename_i e he; simp [Program.pointee, he]
 · cases h
theorem sound_isnil {p neg : Bool} {op : BinOp} {t : TypeId} {x y : Operand} {x' y' : AX} {yt : TypeId} {o : Oper} (ho : o.op = .binOp op t x y yt) (h0 : op = if neg then BinOp.neq else BinOp.eql) (h2 : (if p then isPtr P t else isSlice P t) = true)
 (h3 : okX x x' = true) (h4 : okX y y' = true) (F : RelF N M μ fr a.tmps) (hr : (VOp.isnil p neg x' y').run (AX.ev fr) K) (w : World) : Yields1 P o a M μ K w := by
 subst h0
 have hx := rel_okX F h3
 have hy := rel_okX F h4
 have hs : ∀ (el : TypeId) (b : Option Addr) (l c : Nat), P.underlying t = some (.slice el) → a.eval x = .slice b l c → a.eval y = .slice none 0 0 → K (.bool (if neg then !b.isNone else b.isNone)) → Yields1 P o a M μ K w := by
  intro el b l c hu e1 e2 hk
  exact ⟨_, _, run_nil_eq ho e1 e2 (by simp) (by simp) w (by simp [binOp]) (by simp [binOp]) (run_equal_slice_nil w t el b l c hu), mk_bool _, hk⟩
 have hp : ∀ (b : Option Addr), P.underlying t = some (.pointer (P.pointee t)) → a.eval x = .pointer b → a.eval y = .pointer none → K (.bool (if neg then !b.isNone else b.isNone)) → Yields1 P o a M μ K w := by
  intro b hu e1 e2 hk
  exact ⟨_, _, run_nil_eq ho e1 e2 (by simp) (by simp) w (by simp [binOp]) (by simp [binOp]) (run_equal_pointer_nil w t b hu), mk_bool _, hk⟩
 simp only [VOp.run] at hr
 split at hr
 · rename_i hc hd
   rw [hc] at hx; rw [hd] at hy; simp only [relV] at hx hy
   obtain ⟨el, hu⟩ := isSlice_spec (by simpa using h2)
   exact hs el none 0 0 hu hx hy (by cases neg <;> exact hr)
 · rename_i hc hd
   rw [hc] at hx; rw [hd] at hy; simp only [relV] at hx hy
   obtain ⟨b, sz, c, _, hv, _⟩ := hx
   obtain ⟨el, hu⟩ := isSlice_spec (by simpa using h2)
   exact hs el _ _ c hu hv hy (by cases neg <;> exact hr)
 · rename_i hc hd
   rw [hc] at hx; rw [hd] at hy; simp only [relV] at hx hy
   obtain ⟨el, hu⟩ := isSlice_spec (by simpa using h2)
   have hpos := hr.l
   rcases hx with ⟨b, q, c, hv, _⟩ | ⟨_, h0, _⟩ | ⟨_, _, _, _, _, h0, _⟩
   · exact hs el _ _ c hu hv hy (by cases neg <;> exact hr.r)
   · omega
   · omega
 · rename_i hc hd
   rw [hc] at hx; rw [hd] at hy; simp only [relV] at hx hy
   exact hp none (isPtr_spec (by simpa using h2)) hx hy (by cases neg <;> exact hr)
 · rename_i hc hd
   rw [hc] at hx; rw [hd] at hy; simp only [relV] at hx hy
   obtain ⟨b, sz, _, hv⟩ := hx
   exact hp _ (isPtr_spec (by simpa using h2)) hv hy (by cases neg <;> exact hr)
 · rename_i hc hd
   rw [hc] at hx; rw [hd] at hy; simp only [relV] at hx hy
   obtain ⟨b, q, hv, _⟩ := hx
   exact hp _ (isPtr_spec (by simpa using h2)) hv hy (by cases neg <;> exact hr)
 · exact hr.elim
theorem sound_nq {neg : Bool} {op : BinOp} {t : TypeId} {x y : Operand} {x' y' : AX} {yt : TypeId} {o : Oper} (ho : o.op = .binOp op t x y yt) (h0 : op = if neg then BinOp.neq else BinOp.eql) (h2 : isSlice P t = true)
 (h3 : okX x x' = true) (h4 : okX y y' = true) (hy' : y'.ev fr = .nils) (F : RelF N M μ fr a.tmps) {A : Prop} {n : Nat} {cs : List AV} {cap : Option Nat} (hx' : x'.ev fr = .dslice cs n cap) (h5 : n = 0 → K (.bool (!neg))) (h6 : K (.bool neg)) (w : World) : Yields1 P o a M μ K w := by
 subst h0
 have hx := rel_okX F h3
 have hy := rel_okX F h4
 have hs : ∀ (el : TypeId) (b : Option Addr) (l c : Nat), P.underlying t = some (.slice el) → a.eval x = .slice b l c → a.eval y = .slice none 0 0 → K (.bool (if neg then !b.isNone else b.isNone)) → Yields1 P o a M μ K w := by
  intro el b l c hu e1 e2 hk
  exact ⟨_, _, run_nil_eq ho e1 e2 (by simp) (by simp) w (by simp [binOp]) (by simp [binOp]) (run_equal_slice_nil w t el b l c hu), mk_bool _, hk⟩
 rw [hx'] at hx; rw [hy'] at hy; simp only [relV] at hx hy
 obtain ⟨el, hu⟩ := isSlice_spec h2
 rcases hx with ⟨b, q, c, hv, _⟩ | ⟨hv, h0, _⟩ | ⟨_, _, _, _, hv, h0, _⟩
 · exact hs el _ _ c hu hv hy (by cases neg <;> exact h6)
 · exact hs el none 0 0 hu hv hy (by have := h5 h0; cases neg <;> exact this)
 · exact hs el _ _ _ hu hv hy (by cases neg <;> exact h6)

theorem optI_spec {d : Int} {x : Option Operand} {x' : Option AX} (h : okOptX x x' = true) (F : RelF N M μ fr a.tmps) {K : Int → Prop} (hk : optI (AX.ev fr) d x' K) : ∃ i, K i ∧ ((x = none ∧ i = d) ∨ ∃ k, x.map a.eval = some (.int k i)) := by
 cases x with
 | none => cases x' with
  | none => exact ⟨d, hk, .inl ⟨rfl, rfl⟩⟩
  | some _ => simp [okOptX] at h
 | some x => cases x' with
  | none => simp [okOptX] at h
  | some x' =>
   simp only [optI] at hk
   split at hk
   · rename_i k i hx
     have := rel_okX F (show okX x x' = true from h)
     rw [hx] at this
     exact ⟨i, hk, .inr ⟨k, by simp [rel_int this]⟩⟩
   · exact hk.elim
theorem run_sliceBound' {k : IntKind} {i : Int} {y : Nat} {code : BoundsCode} (h0 : 0 ≤ i) (h1 : i ≤ y) (w : World) : (Instr.sliceBound (.int k i) y code).run P w = .ok i.toNat w := by
 simp only [Instr.sliceBound, asIntOf, Sem.run_bind, Sem.run_pure, Result.andThen_ok, h0, h1, and_self, if_true]
theorem run_bounds2 {isS : Bool} {len cap : Nat} {lo hi : Option Operand} {l h : Int} (hl : (lo = none ∧ l = 0) ∨ ∃ k, lo.map a.eval = some (.int k l)) (hh : (hi = none ∧ h = len) ∨ ∃ k, hi.map a.eval = some (.int k h)) (h1 : 0 ≤ l ∧ l ≤ h) (h2 : h ≤ cap) (w : World) :
 (Instr.sliceBounds isS len cap (lo.map a.eval) (hi.map a.eval) none).run P w = .ok (l.toNat, h.toNat, cap) w := by
 have e1 : ∀ w, (Instr.sliceBounds isS len cap (lo.map a.eval) (hi.map a.eval) none).run P w = ((match lo.map a.eval with | some v => Instr.sliceBound v h.toNat .sliceB | none => pure 0 : Sem Nat).run P w).andThen fun q w' => .ok (q, h.toNat, cap) w' := by
  intro w
  rcases hh with ⟨rfl, rfl⟩ | ⟨k, hk⟩
  · simp only [Option.map_none, Instr.sliceBounds, Sem.run_bind, Sem.run_pure, Result.andThen_ok, Option.isSome_none, Bool.false_eq_true, if_false, Int.toNat_natCast]
    cases lo.map a.eval <;> simp only [Sem.run_bind, Sem.run_pure, Result.andThen_ok]
  · rw [hk]
    cases isS <;> simp only [Instr.sliceBounds, Sem.run_bind, Sem.run_pure, Result.andThen_ok, Option.isSome_none, Bool.false_eq_true, if_false, if_true, run_sliceBound' (P := P) (k := k) (by omega : (0:Int) ≤ h) h2] <;> cases lo.map a.eval <;> simp only [Sem.run_bind, Sem.run_pure, Result.andThen_ok]
 rw [e1]
 rcases hl with ⟨rfl, rfl⟩ | ⟨k, hk⟩
 · simp
 · rw [hk]
   simp only [run_sliceBound' (P := P) (k := k) h1.1 (show l ≤ (h.toNat : Int) by omega), Result.andThen_ok]
theorem run_bounds3 {len cap : Nat} {lo hi : Option Operand} {mx : Operand} {l h m : Int} {km : IntKind} (hm : a.eval mx = .int km m) (hl : (lo = none ∧ l = 0) ∨ ∃ k, lo.map a.eval = some (.int k l)) (hh : ∃ k, hi.map a.eval = some (.int k h))
 (h1 : 0 ≤ l ∧ l ≤ h ∧ h ≤ m ∧ m ≤ cap) (w : World) : (Instr.sliceBounds true len cap (lo.map a.eval) (hi.map a.eval) (some (a.eval mx))).run P w = .ok (l.toNat, h.toNat, m.toNat) w := by
 obtain ⟨k, hk⟩ := hh
 rw [hm, hk]
 simp only [Instr.sliceBounds, Sem.run_bind, if_true, run_sliceBound' (P := P) (k := km) (by omega : (0:Int) ≤ m) h1.2.2.2, Result.andThen_ok, run_sliceBound' (P := P) (k := k) (by omega : (0:Int) ≤ h) (show h ≤ (m.toNat : Int) by omega), Option.isSome_some]
 rcases hl with ⟨rfl, rfl⟩ | ⟨k', hk'⟩
 · simp
 · rw [hk']
   simp only [Sem.run_bind, run_sliceBound' (P := P) (k := k') h1.1 (show l ≤ (h.toNat : Int) by omega), Result.andThen_ok, Sem.run_pure]
theorem sliceOf_spec {t : TypeId} {e : Nat} (h : sliceOf P t e = true) : ∃ el, P.underlying t = some (.slice el) ∧ sized P el e = true := by
 unfold sliceOf at h
 split at h
 · rename_i el hu; exact ⟨el, hu, h⟩
 · cases h
theorem relM_take {cs : List AV} {b o : Nat} (n : Nat) (h : relM M cs b o) : relM M (cs.take n) b o :=
 relM_of_get fun i c hi => by
  rw [List.getElem?_take] at hi
  split at hi
  · exact relM_get h hi
  · cases hi
theorem run_sub {t : TypeId} {e : Nat} (h : sliceOf P t e = true) {b : Option Addr} {len cap : Nat} {lo hi mx : Option Value} {l h' m : Nat} {w : World} (hb : (Instr.sliceBounds true len cap lo hi mx).run P w = .ok (l, h', m) w) :
 (Instr.sliceAt t (.slice b len cap) lo hi mx).run P w = .ok (.slice (if m = l then b else b.map (·.add (l * e))) (h' - l) (m - l)) w := by
 obtain ⟨el, hu, hs⟩ := sliceOf_spec h
 simp only [Instr.sliceAt, Instr.slice, Sem.run_bind, run_underlying hu, Result.andThen_ok, hb, run_sizeOf hs, Sem.run_pure]
theorem sound_sub {t : TypeId} {x : Operand} {lo hi mx : Option Operand} {e : Nat} {x' : AX} {lo' hi' mx' : Option AX} {o : Oper} (ho : o.op = .slice t x lo hi mx) (h1 : sliceOf P t e = true) (h2 : okX x x' = true) (h3 : okOptX lo lo' = true) (h4 : okOptX hi hi' = true) (h5 : okOptX mx mx' = true) (h6 : (mx'.isNone || hi'.isSome) = true)
 (F : RelF N M μ fr a.tmps) (hr : (VOp.sub e x' lo' hi' mx').run (AX.ev fr) K) (w : World) : Yields1 P o a M μ K w := by
 have hx := rel_okX F h2
 simp only [VOp.run] at hr
 have none2 : ∀ {len cap : Nat} {l h : Int} {b : Option Addr}, mx = none → ((lo = none ∧ l = 0) ∨ ∃ k, lo.map a.eval = some (.int k l)) → ((hi = none ∧ h = len) ∨ ∃ k, hi.map a.eval = some (.int k h)) → 0 ≤ l ∧ l ≤ h → h ≤ cap → a.eval x = .slice b len cap →
  (execOp a.eval o).run P w = .ok (.value (.slice (if cap = l.toNat then b else b.map (·.add (l.toNat * e))) (h.toNat - l.toNat) (cap - l.toNat))) w := by
  intro len cap l h b hmx hl hh h01 hc hv
  subst hmx
  simp only [execOp, ho, hv, Option.map_none, Sem.run_bind, run_sub h1 (run_bounds2 hl hh h01 hc w), Result.andThen_ok, Sem.run_pure]
 have mxv : ∀ {mq : AX} {km : IntKind} {m : Int}, AX.ev fr mq = .int km m → okOptX mx (some mq) = true → ∃ q, mx = some q ∧ a.eval q = .int km m := by
  intro mq km m hmv h5
  cases mx with
  | none => simp [okOptX] at h5
  | some q =>
   have := rel_okX F (show okX q mq = true from h5)
   rw [hmv] at this
   exact ⟨q, rfl, rel_int this⟩
 have hiv : ∀ {d h : Int}, ((hi = none ∧ h = d) ∨ ∃ k, hi.map a.eval = some (.int k h)) → hi'.isSome = true → okOptX hi hi' = true → ∃ k, hi.map a.eval = some (.int k h) := by
  rintro d h (⟨rfl, rfl⟩ | hh) h6 h4
  · cases hi' with
    | none => simp at h6
    | some _ => simp [okOptX] at h4
  · exact hh
 have run3 : ∀ {q : Operand} {km : IntKind} {len cp : Nat} {l h m : Int} {b : Option Addr}, mx = some q → a.eval q = .int km m → ((lo = none ∧ l = 0) ∨ ∃ k, lo.map a.eval = some (.int k l)) → (∃ k, hi.map a.eval = some (.int k h)) → 0 ≤ l ∧ l ≤ h ∧ h ≤ m → m ≤ cp → a.eval x = .slice b len cp →
  (execOp a.eval o).run P w = .ok (.value (.slice (if m.toNat = l.toNat then b else b.map (·.add (l.toNat * e))) (h.toNat - l.toNat) (m.toNat - l.toNat))) w := by
  intro q km len cp l h m b hmx hq hl hh hb hmc hv
  subst hmx
  simp only [execOp, ho, hv, Option.map_some, Sem.run_bind, run_sub h1 (run_bounds3 hq hl hh ⟨hb.1, hb.2.1, hb.2.2, hmc⟩ w), Result.andThen_ok, Sem.run_pure]
 split at hr
 · rename_i cs len cap hc
   rw [hc] at hx; simp only [relV] at hx
   obtain ⟨l, hr, hl⟩ := optI_spec h3 F hr
   obtain ⟨h, hr, hh⟩ := optI_spec h4 F hr
   cases mx' with
   | none =>
    have hmx : mx = none := by cases mx with | none => rfl | some _ => simp [okOptX] at h5
    obtain ⟨⟨b0, b1, b2⟩, hk⟩ := hr
    rcases hx with ⟨b, q, c, hv, hlc, hcap, hm⟩ | ⟨hv, hn, rfl, hcap⟩ | ⟨b, q, s, c, hv, hn, rfl, hcap⟩
    · refine ⟨_, _, none2 hmx hl hh ⟨b0, b1⟩ (by omega) hv, ?_, hk⟩
      simp only [relV]
      refine .inl ⟨b, if c = l.toNat then q else q + l.toNat * e, c - l.toNat, ?_, by omega, ?_, ?_⟩
      · split
        · simp only [Value.slice.injEq, true_and, and_true]; omega
        · simp only [Option.map_some, add_addr, Value.slice.injEq, true_and, and_true]; omega
      · intro c0 hc0
        simp only [Option.map_eq_some_iff] at hc0
        obtain ⟨c1, hc1, rfl⟩ := hc0
        rw [hcap c1 hc1]
      · split
        · have : (h - l).toNat * e = 0 := by rw [show (h - l).toNat = 0 by omega, Nat.zero_mul]
          rw [this]; simp [relM]
        · exact relM_take _ (relM_drop _ hm)
    · subst hn
      have hl0 : l = 0 := by omega
      have hh0 : h = 0 := by omega
      refine ⟨_, _, none2 hmx hl hh ⟨b0, b1⟩ (by omega) hv, ?_, hk⟩
      simp only [relV]
      refine .inr (.inl ⟨by rw [hl0, hh0]; simp, by omega, by simp, fun c0 hc0 => ?_⟩)
      simp only [Option.map_eq_some_iff] at hc0
      obtain ⟨c1, hc1, rfl⟩ := hc0
      rw [hcap c1 hc1]; omega
    · subst hn
      have hl0 : l = 0 := by omega
      have hh0 : h = 0 := by omega
      refine ⟨_, _, none2 hmx hl hh ⟨b0, b1⟩ (by omega) hv, ?_, hk⟩
      simp only [relV]
      refine .inr (.inr ⟨b, q, s, c, by rw [hl0, hh0]; simp [Addr.add], by omega, by simp, fun c0 hc0 => ?_⟩)
      simp only [Option.map_eq_some_iff] at hc0
      obtain ⟨c1, hc1, rfl⟩ := hc0
      rw [hcap c1 hc1]; omega
   | some mq =>
    simp only at hr
    split at hr
    · rename_i km m hmv
      have hmx : ∃ q, mx = some q ∧ a.eval q = .int km m := by
       cases mx with
       | none => simp [okOptX] at h5
       | some q =>
        have := rel_okX F (show okX q mq = true from h5)
        rw [hmv] at this
        exact ⟨q, rfl, rel_int this⟩
      obtain ⟨q, rfl, hq⟩ := hmx
      obtain ⟨⟨b0, b1, b2, b3⟩, hk⟩ := hr
      rcases hh with ⟨rfl, rfl⟩ | hh
      · exfalso
        cases hi' with
        | none => simp at h6
        | some _ => simp [okOptX] at h4
      · have run3 : ∀ {cp : Nat} {b : Option Addr}, m ≤ cp → a.eval x = .slice b len cp → (execOp a.eval o).run P w = .ok (.value (.slice (if m.toNat = l.toNat then b else b.map (·.add (l.toNat * e))) (h.toNat - l.toNat) (m.toNat - l.toNat))) w := by
         intro cp b hmc hv
         simp only [execOp, ho, hv, Option.map_some, Sem.run_bind, run_sub h1 (run_bounds3 hq hl hh ⟨b0, b1, b2, hmc⟩ w), Result.andThen_ok, Sem.run_pure]
        rcases hx with ⟨b, p, c, hv, hlc, hcap, hm⟩ | ⟨hv, hn, rfl, hcap⟩ | ⟨b, p, s, c, hv, hn, rfl, hcap⟩
        · refine ⟨_, _, run3 (by omega) hv, ?_, hk⟩
          simp only [relV]
          refine .inl ⟨b, if m.toNat = l.toNat then p else p + l.toNat * e, m.toNat - l.toNat, ?_, by omega, ?_, ?_⟩
          · split
            · simp only [Value.slice.injEq, true_and, and_true]; omega
            · simp only [Option.map_some, add_addr, Value.slice.injEq, true_and, and_true]; omega
          · intro c0 hc0
            simp only [Option.some.injEq] at hc0; omega
          · split
            · have : (h - l).toNat * e = 0 := by rw [show (h - l).toNat = 0 by omega, Nat.zero_mul]
              rw [this]; simp [relM]
            · exact relM_take _ (relM_drop _ hm)
        · subst hn
          have hl0 : l = 0 := by omega
          have hm0 : m = 0 := by omega
          have hh0 : h = 0 := by omega
          refine ⟨_, _, run3 (by omega) hv, ?_, hk⟩
          simp only [relV]
          refine .inr (.inl ⟨by rw [hl0, hh0, hm0]; simp, by omega, by simp, fun c0 hc0 => ?_⟩)
          simp only [Option.some.injEq] at hc0; omega
        · subst hn
          have hl0 : l = 0 := by omega
          have hm0 : m = 0 := by omega
          have hh0 : h = 0 := by omega
          refine ⟨_, _, run3 (by omega) hv, ?_, hk⟩
          simp only [relV]
          refine .inr (.inr ⟨b, p, s, 0, by rw [hl0, hh0, hm0]; simp, by omega, by simp, fun c0 hc0 => ?_⟩)
          simp only [Option.some.injEq] at hc0; omega
    · exact hr.elim
 · rename_i hc
   rw [hc] at hx; simp only [relV] at hx
   obtain ⟨l, hr, hl⟩ := optI_spec h3 F hr
   obtain ⟨h, hr, hh⟩ := optI_spec h4 F hr
   cases mx' with
   | none =>
    have hmx : mx = none := by cases mx with | none => rfl | some _ => simp [okOptX] at h5
    obtain ⟨⟨e1, e2⟩, hk⟩ := hr
    refine ⟨_, _, none2 (len := 0) (cap := 0) hmx hl (by rcases hh with ⟨q1, q2⟩ | q; exact .inl ⟨q1, by omega⟩; exact .inr q) ⟨by omega, by omega⟩ (by omega) hx, ?_, hk⟩
    subst e1; subst e2
    simp [relV]
   | some mq =>
    simp only at hr
    split at hr
    · rename_i km m hmv
      obtain ⟨q, hmx, hq⟩ := mxv hmv h5
      obtain ⟨⟨e1, e2, e3⟩, hk⟩ := hr
      have hh' : ∃ k, hi.map a.eval = some (.int k h) := hiv hh (by simpa using h6) h4
      refine ⟨_, .nils, run3 (len := 0) hmx hq hl hh' (by omega) (cp := 0) (by omega) hx, ?_, hk⟩
      subst e1; subst e2; subst e3
      simp [relV]
    · exact hr.elim
 · rename_i k off len cap e' hc
   rw [hc] at hx; simp only [relV] at hx
   obtain ⟨b, sz, c, hμ, hv, hlc, hsz, hcap⟩ := hx
   obtain ⟨l, hr, hl⟩ := optI_spec h3 F hr
   obtain ⟨h, hr, hh⟩ := optI_spec h4 F hr
   cases mx' with
   | none =>
    have hmx : mx = none := by cases mx with | none => rfl | some _ => simp [okOptX] at h5
    have he := hr.l
    have hr1 := hr.r
    subst he
    rcases hr1 with ⟨⟨b0, b1, b2⟩, hk⟩ | ⟨⟨b0, b1, b2⟩, hk⟩
    · refine ⟨_, _, none2 hmx hl hh ⟨b0, by omega⟩ (by omega) hv, ?_, hk⟩
      simp only [relV]
      refine ⟨b, sz, c - l.toNat, hμ, ?_, by omega, ?_, ?_⟩
      · rw [if_neg (by omega)]
        simp only [Option.map_some, add_addr, Value.slice.injEq, true_and, and_true]; omega
      · have : (c - l.toNat) * e + l.toNat * e = c * e := by rw [← Nat.add_mul]; congr 1; omega
        omega
      · intro c0 hc0
        simp only [Option.map_eq_some_iff] at hc0
        obtain ⟨c1, hc1, rfl⟩ := hc0
        rw [hcap c1 hc1]
    · subst b1
      refine ⟨_, _, none2 hmx hl hh ⟨b0, by omega⟩ (by omega) hv, ?_, hk⟩
      simp only [relV]
      refine .inl ⟨b, if c = l.toNat then off else off + l.toNat * e, c - l.toNat, ?_, by omega, by simp, by simp [relM]⟩
      split
      · simp
      · simp [add_addr]
   | some mq =>
    simp only at hr
    split at hr
    · rename_i km m hmv
      obtain ⟨q, hmx, hq⟩ := mxv hmv h5
      obtain ⟨⟨rfl, b0, b1, b2, b3⟩, hk⟩ := hr
      have hh' : ∃ k, hi.map a.eval = some (.int k h) := hiv hh (by simpa using h6) h4
      refine ⟨_, _, run3 hmx hq hl hh' ⟨b0, by omega, b2⟩ (by omega) hv, ?_, hk⟩
      simp only [relV]
      refine ⟨b, sz, m.toNat - l.toNat, hμ, ?_, by omega, ?_, ?_⟩
      · rw [if_neg (by omega)]
        simp only [Option.map_some, add_addr, Value.slice.injEq, true_and, and_true]; omega
      · have e1 : (m.toNat - l.toNat) * e + l.toNat * e = m.toNat * e := by rw [← Nat.add_mul]; congr 1; omega
        have e2 : m.toNat * e ≤ c * e := Nat.mul_le_mul_right _ (by omega)
        omega
      · intro c0 hc0; cases hc0; omega
    · exact hr.elim
 · exact hr.elim
theorem sound_ssub {t : TypeId} {x : Operand} {lo hi : Option Operand} {x' : AX} {lo' hi' : Option AX} {o : Oper} (ho : o.op = .slice t x lo hi none) (h1 : isStr P t = true) (h2 : okX x x' = true) (h3 : okOptX lo lo' = true) (h4 : okOptX hi hi' = true)
 (F : RelF N M μ fr a.tmps) (hr : (VOp.ssub x' lo' hi').run (AX.ev fr) K) (w : World) : Yields1 P o a M μ K w := by
 have hx := rel_okX F h2
 simp only [VOp.run] at hr
 split at hr
 · rename_i s hc
   rw [hc] at hx
   obtain ⟨l, hr, hl⟩ := optI_spec h3 F hr
   obtain ⟨h, hr, hh⟩ := optI_spec h4 F hr
   refine ⟨.string (s.extract l.toNat h.toNat), _, ?_, by simp only [relV], hr.r⟩
   simp only [execOp, ho, rel_str hx, Option.map_none, Instr.sliceAt, Instr.slice, Sem.run_bind, run_underlying (isStr_spec h1), Result.andThen_ok, Option.isSome_none, Bool.false_eq_true, if_false, run_bounds2 (P := P) (isS := false) (cap := s.size) hl hh ⟨hr.l.1, hr.l.2.1⟩ hr.l.2.2, Sem.run_pure]
 · exact hr.elim
theorem sound_s2a {t : TypeId} {x : Operand} {n : Nat} {x' : AX} {o : Oper} (ho : o.op = .sliceToArrayPointer t x) (h1 : arrLen P t n = true) (h2 : okX x x' = true) (F : RelF N M μ fr a.tmps)
 (hr : (VOp.s2a n x').run (AX.ev fr) K) (w : World) : Yields1 P o a M μ K w := by
 have hx := rel_okX F h2
 obtain ⟨e, hu⟩ : ∃ e, P.underlying t = some (.array n e) := by
  unfold arrLen at h1
  split at h1
  · rename_i m e hu; simp only [beq_iff_eq] at h1; subst h1; exact ⟨e, hu⟩
  · cases h1
 simp only [VOp.run] at hr
 split at hr
 · rename_i cs len cap hc
   rw [hc] at hx; simp only [relV] at hx
   obtain ⟨⟨h3, h4⟩, hk⟩ := hr
   rcases hx with ⟨b, q, c, hv, _, _, hm⟩ | ⟨_, hn, _⟩ | ⟨_, _, _, _, _, hn, _⟩
   · refine ⟨_, _, by simp only [execOp, ho, Instr.arrayAt, hv, Sem.run_bind, run_underlying hu, Result.andThen_ok, if_neg (show ¬ len < n by omega), Sem.run_pure]; rfl, ?_, hk⟩
     simp only [relV]; exact ⟨b, q, rfl, hm⟩
   · omega
   · omega
 · rename_i k off len cap e' hc
   rw [hc] at hx; simp only [relV] at hx
   obtain ⟨b, sz, c, hμ, hv, _⟩ := hx
   have h4 := hr.l
   refine ⟨_, _, by simp only [execOp, ho, Instr.arrayAt, hv, Sem.run_bind, run_underlying hu, Result.andThen_ok, if_neg (show ¬ len < n by omega), Sem.run_pure]; rfl, ?_, hr.r⟩
   simp only [relV]; exact ⟨b, sz, hμ, rfl⟩
 · exact hr.elim
theorem isConcrete_spec {t : TypeId} (h : isConcrete P t = true) : ∃ d, P.underlying t = some d ∧ ∀ q, d ≠ .interface q := by
 unfold isConcrete at h
 split at h
 · cases h
 · rename_i d hd hu; exact ⟨d, hu, fun q e => hd q e⟩
 · cases h
theorem sound_mkI {t t' : TypeId} {x : Operand} {x' : AX} {o : Oper} (ho : o.op = .makeInterface t x) (h1 : isConcrete P t = true) (h2 : t = t') (h3 : okX x x' = true) (F : RelF N M μ fr a.tmps)
 (hr : (VOp.mkI t' x').run (AX.ev fr) K) (w : World) : Yields1 P o a M μ K w := by
 subst h2
 have hx := rel_okX F h3
 simp only [VOp.run, fv_eq] at hr
 obtain ⟨d, hu, hd⟩ := isConcrete_spec h1
 refine ⟨.iface t (a.eval x), _, ?_, by simp only [relV]; exact ⟨_, rfl, hx⟩, hr⟩
 simp only [execOp, ho, Instr.makeInterface, Sem.run_bind, run_underlying hu, Result.andThen_ok]
 cases d <;> first | rfl | exact absurd rfl (hd _)
theorem sound_tas {t t' xt : TypeId} {z : AV} {x : Operand} {x' : AX} {o : Oper} (ho : o.op = .typeAssert x xt t true) (h1 : isConcrete P t = true) (h2 : t = t') (hz : zeroV P t z = true) (h3 : okX x x' = true) (F : RelF N M μ fr a.tmps)
 (hr : (VOp.tas t' z x').run (AX.ev fr) K) (w : World) : Yields1 P o a M μ K w := by
 subst h2
 have hx := rel_okX F h3
 obtain ⟨d, hu, hd⟩ := isConcrete_spec h1
 unfold zeroV at hz
 split at hz
 · rename_i i hi
   split at hz
   · rename_i zv hzv
     have hzr : relV M z μ zv := rel_okV hz
     have no : ∀ v, ((.tuple [z, .bool false] : AV) = v) → relV M v μ (.tuple #[zv, .bool false]) := fun v e => by
      subst e; simp only [relV, relL]; exact ⟨_, rfl, zv, _, rfl, hzr, _, _, rfl, rfl, rfl⟩
     have hrun : (zeroValue t).run P w = .ok zv w := by simp only [zeroValue, Sem.run_bind, run_typeInfo hi, Result.andThen_ok, hzv, Sem.run_pure]
     simp only [VOp.run] at hr
     split at hr
     · rename_i hc
       rw [hc] at hx; simp only [relV] at hx
       refine ⟨_, _, ?_, no _ rfl, hr⟩
       simp only [execOp, ho, hx, Instr.typeAssert, Sem.run_bind, run_underlying hu, Result.andThen_ok]
       cases d <;> first | exact absurd rfl (hd _) | simp only [if_true, Sem.run_bind, hrun, Result.andThen_ok, Sem.run_pure]
     · rename_i t' c hc
       rw [hc] at hx; simp only [relV] at hx
       obtain ⟨y, hy, hrel⟩ := hx
       by_cases ht : t' = t
       · subst ht
         simp only [Nat.beq_refl, cond_true] at hr
         refine ⟨.tuple #[y, .bool true], _, ?_, ?_, hr⟩
         · simp only [execOp, ho, hy, Instr.typeAssert, Sem.run_bind, run_underlying hu, Result.andThen_ok]
           cases d <;> first | exact absurd rfl (hd _) | simp only [if_true, Sem.run_pure, Result.andThen_ok]
         · simp only [relV, relL]; exact ⟨_, rfl, y, _, rfl, hrel, _, _, rfl, rfl, rfl⟩
       · rw [beq_false ht] at hr; simp only [cond_false] at hr
         refine ⟨_, _, ?_, no _ rfl, hr⟩
         simp only [execOp, ho, hy, Instr.typeAssert, Sem.run_bind, run_underlying hu, Result.andThen_ok]
         cases d <;> first | exact absurd rfl (hd _) | simp only [if_neg ht, if_true, Sem.run_bind, hrun, Result.andThen_ok, Sem.run_pure]
     · exact hr.elim
   · cases hz
 · cases hz
theorem run_ifc_nil {d : Nat} {t : TypeId} {q : Array (String × TypeId)} (hu : P.underlying t = some (.interface q)) (w : World) : (Op.equalIn (d + 1) t .nilIface .nilIface).run P w = .ok true w := by
 simp only [Op.equalIn, Sem.run_bind, run_underlying hu, Result.andThen_ok, Sem.run_pure]
theorem run_ifc_some {d : Nat} {t t' : TypeId} {y : Value} {q : Array (String × TypeId)} (hu : P.underlying t = some (.interface q)) (w : World) : (Op.equalIn (d + 1) t (.iface t' y) .nilIface).run P w = .ok false w := by
 simp only [Op.equalIn, Sem.run_bind, run_underlying hu, Result.andThen_ok, Sem.run_pure]
theorem equal_at (t : TypeId) (x y : Value) : Op.equal t x y = Op.equalIn (9999 + 1) t x y := rfl
theorem sound_isni {op : BinOp} {neg : Bool} {t : TypeId} {x : Operand} {x' : AX} {yt : TypeId} {o : Oper} (ho : o.op = .binOp op t x (.const .nilIface) yt) (h0 : op = if neg then BinOp.neq else BinOp.eql) (h1 : isIfc P t = true) (h3 : okX x x' = true) (F : RelF N M μ fr a.tmps)
 (hr : (VOp.isni neg x').run (AX.ev fr) K) (w : World) : Yields1 P o a M μ K w := by
 subst h0
 have hx := rel_okX F h3
 obtain ⟨q, hu⟩ : ∃ q, P.underlying t = some (.interface q) := by
  unfold isIfc at h1; split at h1
  · exact ⟨_, ‹_›⟩
  · cases h1
 simp only [VOp.run] at hr
 have hc : a.eval (.const .nilIface) = .nilIface := rfl
 split at hr
 · rename_i hv
   rw [hv] at hx; simp only [relV] at hx
   refine ⟨_, _, ?_, mk_bool _, hr⟩
   simp only [execOp, ho, hx, hc, Sem.run_bind, eqGuard_nil_constR, Sem.run_pure, Result.andThen_ok]
   cases neg <;> simp only [if_true, if_false, Bool.false_eq_true, binOp, equal_at, Sem.run_bind, run_ifc_nil hu, Result.andThen_ok, Sem.run_pure] <;> rfl
 · rename_i t' c hv
   rw [hv] at hx; simp only [relV] at hx
   obtain ⟨y, hy, _⟩ := hx
   refine ⟨_, _, ?_, mk_bool _, hr⟩
   have hg : ∀ op, (eqGuard op t x (.const .nilIface) (.iface t' y) .nilIface).run P w = .ok () w := fun op => by cases op <;> rfl
   simp only [execOp, ho, hy, hc, Sem.run_bind, hg, Result.andThen_ok]
   cases neg <;> simp only [if_true, if_false, Bool.false_eq_true, binOp, equal_at, Sem.run_bind, run_ifc_some hu, Result.andThen_ok, Sem.run_pure] <;> rfl
 · exact hr.elim
theorem vop_sound {o : Oper} {p : VOp} (h : okVop P o.op p = true) (F : RelF N M μ fr a.tmps) (hr : p.run (AX.ev fr) K) (w : World) : Yields1 P o a M μ K w := by
 unfold okVop at h
 split at h
 · simp only [Bool.and_eq_true] at h; exact sound_field ‹_› h.1 h.2 F hr w
 · simp only [Bool.and_eq_true] at h; exact sound_idx ‹_› h.1.1 h.1.2 h.2 F hr w
 · simp only [Bool.and_eq_true] at h; exact sound_sidx ‹_› h.1.1 h.1.2 h.2 F hr w
 · exact sound_build ‹_› h F hr w
 · simp only [Bool.and_eq_true, decide_eq_true_eq, Bool.not_eq_true'] at h; exact sound_eqa ‹_› h.1.1.1.1.1 h.1.1.1.1.2 h.1.1.1.2 h.1.1.2 h.1.2 h.2 F hr w
 · simp only [Bool.and_eq_true, decide_eq_true_eq] at h; exact sound_isnil ‹_› h.1.1.1 h.1.1.2 h.1.2 h.2 F hr w
 · simp only [Bool.and_eq_true] at h; exact sound_sub ‹_› h.1.1.1.1.1 h.1.1.1.1.2 h.1.1.1.2 h.1.1.2 h.1.2 h.2 F hr w
 · simp only [Bool.and_eq_true] at h; exact sound_ssub ‹_› h.1.1.1 h.1.1.2 h.1.2 h.2 F hr w
 · simp only [Bool.and_eq_true] at h; exact sound_s2a ‹_› h.1 h.2 F hr w
 · simp only [Bool.and_eq_true] at h; exact sound_mkI ‹_› h.1.1 (Nat.eq_of_beq_eq_true h.1.2) h.2 F hr w
 · simp only [Bool.and_eq_true] at h; exact sound_tas ‹_› h.1.1.1 (Nat.eq_of_beq_eq_true h.1.1.2) h.1.2 h.2 F hr w
 · simp only [Bool.and_eq_true, decide_eq_true_eq] at h; exact sound_isni ‹_› h.1.1 h.1.2 h.2 F hr w
 · cases h
theorem loadK_det {agg : Bool} {n : Nat} {cs : List AV} {K : AV → Prop} (h : loadK agg n cs K) : ∃ c, K c ∧ loadK agg n cs (fun x => x = c) := by
 rcases loadK_spec h with ⟨rfl, hn, hk⟩ | ⟨rfl, c, r, rfl, hk⟩
 · exact ⟨_, hk, by simp only [loadK, takeK_eq n cs _ hn]⟩
 · exact ⟨_, hk, by simp only [loadK_false, fv_eq]⟩
theorem buildK_det {ev : AX → AV} : ∀ {parts : List (Nat × Nat × AX)} {cs : List AV} {K : List AV → Prop}, buildK ev parts cs K → ∃ ds, K ds ∧ buildK ev parts cs (fun x => x = ds)
 | [], cs, K, h => ⟨cs, h, rfl⟩
 | (off, sz, x) :: r, cs, K, h => by
  simp only [buildK] at h ⊢
  split at h
  · cases hn : Nat.beq _ sz with
    | false => simp [hn] at h
    | true =>
     simp only [hn, cond_true] at h ⊢
     obtain ⟨e1, e2, e3⟩ := lputK_spec h
     obtain ⟨ds, h1, h2⟩ := buildK_det e3
     exact ⟨ds, h1, lputK_eq e1 e2 h2⟩
  · exact h.elim
theorem eqCells_det : ∀ {ks : List Sc} {cs ds : List AV} {K : Bool → Prop}, eqCells ks cs ds K → ∃ r, K r ∧ eqCells ks cs ds (fun x => x = r)
 | [], [], [], K, h => ⟨true, h, rfl⟩
 | k :: ks, c :: cs, d :: ds, K, h => by
  simp only [eqCells] at h ⊢
  split at h
  · rename_i q hq
    obtain ⟨r, h1, h2⟩ := eqCells_det h
    refine ⟨_, h1, ?_⟩
    obtain ⟨r', h3, h4⟩ := eqCells_spec (M := fun _ _ => none) (μ := Pos.none) h2
    subst h3
    have mono : ∀ {ks : List Sc} {cs ds : List AV} {K K' : Bool → Prop}, (∀ b, K b → K' b) → eqCells ks cs ds K → eqCells ks cs ds K' := by
     intro ks
     induction ks with
     | nil => intro cs ds K K' hk h; cases cs <;> cases ds <;> simp only [eqCells] at h ⊢; exact hk _ h
     | cons k ks ih =>
      intro cs ds K K' hk h
      cases cs <;> cases ds <;> simp only [eqCells] at h ⊢
      split at h
      · exact ih (fun b hb => hk _ hb) h
      · exact h.elim
    exact mono (fun b hb => by rw [hb]) h2
  · exact h.elim
 | [], _ :: _, _, _, h | [], [], _ :: _, _, h | _ :: _, [], _, _, h | _ :: _, _ :: _, [], _, h => by simp [eqCells] at h
def optV (ev : AX → AV) (d : Int) (x : Option AX) : Option Int := match x with
 | none => some d
 | some x => match ev x with
  | .int _ i => some i
  | _ => none
theorem optI_iff {ev : AX → AV} {d : Int} {x : Option AX} {F : Int → Prop} : optI ev d x F ↔ ∃ i, optV ev d x = some i ∧ F i := by
 cases x with
 | none => simp [optI, optV]
 | some x =>
  simp only [optI, optV]
  cases ev x <;> simp
theorem Side.det {α : Type} {A : Prop} {B : (α → Prop) → Prop} {K : α → Prop} (h : Side A (B K)) (hB : B K → ∃ c, K c ∧ B (fun x => x = c)) : ∃ c, K c ∧ Side A (B (fun x => x = c)) := by
 obtain ⟨c, h1, h2⟩ := hB h.r; exact ⟨c, h1, h.l, h2⟩
theorem VOp.det {ev : AX → AV} {p : VOp} (h : p.run ev K) : ∃ c, K c ∧ p.run ev (fun x => x = c) := by
 cases p with
 | field agg off n x =>
  simp only [VOp.run] at h ⊢
  split at h
  · exact loadK_det h
  · exact h.elim
 | idx agg e len x i =>
  simp only [VOp.run] at h ⊢
  split at h
  · exact Side.det (B := fun K => loadK agg e _ K) h loadK_det
  · exact h.elim
 | sidx x i =>
  simp only [VOp.run] at h ⊢
  split at h
  · exact ⟨_, h.r, h.l, rfl⟩
  · exact h.elim
 | build zero parts =>
  simp only [VOp.run] at h ⊢
  obtain ⟨ds, h1, h2⟩ := buildK_det h
  obtain ⟨es, h3, h4⟩ := buildK_det (K := fun cs => AV.agg cs = AV.agg ds) (by
   have mono : ∀ {parts : List (Nat × Nat × AX)} {cs : List AV} {K K' : List AV → Prop}, (∀ b, K b → K' b) → buildK ev parts cs K → buildK ev parts cs K' := by
    intro parts
    induction parts with
    | nil => intro cs K K' hk h; exact hk _ h
    | cons q r ih =>
     intro cs K K' hk h
     obtain ⟨off, sz, x⟩ := q
     simp only [buildK] at h ⊢
     split at h
     · cases hn : Nat.beq _ sz with
       | false => simp [hn] at h
       | true =>
        simp only [hn, cond_true] at h ⊢
        obtain ⟨e1, e2, e3⟩ := lputK_spec h
        exact lputK_eq e1 e2 (ih hk e3)
     · exact h.elim
   exact mono (fun b hb => by rw [hb]) h2)
  refine ⟨_, h1, ?_⟩
  have mono : ∀ {parts : List (Nat × Nat × AX)} {cs : List AV} {K K' : List AV → Prop}, (∀ b, K b → K' b) → buildK ev parts cs K → buildK ev parts cs K' := by
   intro parts
   induction parts with
   | nil => intro cs K K' hk h; exact hk _ h
   | cons q r ih =>
    intro cs K K' hk h
    obtain ⟨off, sz, x⟩ := q
    simp only [buildK] at h ⊢
    split at h
    · cases hn : Nat.beq _ sz with
      | false => simp [hn] at h
      | true =>
       simp only [hn, cond_true] at h ⊢
       obtain ⟨e1, e2, e3⟩ := lputK_spec h
       exact lputK_eq e1 e2 (ih hk e3)
    · exact h.elim
  exact mono (fun b hb => by rw [hb]) h2
 | eqa neg ks x y =>
  simp only [VOp.run] at h ⊢
  split at h
  · obtain ⟨r, h1, h2⟩ := eqCells_det h
    refine ⟨_, h1, ?_⟩
    have mono : ∀ {ks : List Sc} {cs ds : List AV} {K K' : Bool → Prop}, (∀ b, K b → K' b) → eqCells ks cs ds K → eqCells ks cs ds K' := by
     intro ks
     induction ks with
     | nil => intro cs ds K K' hk h; cases cs <;> cases ds <;> simp only [eqCells] at h ⊢; exact hk _ h
     | cons k ks ih =>
      intro cs ds K K' hk h
      cases cs <;> cases ds <;> simp only [eqCells] at h ⊢
      split at h
      · exact ih (fun b hb => hk _ hb) h
      · exact h.elim
    exact mono (fun b hb => by rw [hb]) h2
  · exact h.elim
 | isnil p neg x y =>
  simp only [VOp.run] at h ⊢
  split at h <;> first | exact ⟨_, h, rfl⟩ | exact ⟨_, h.r, h.l, rfl⟩ | exact h.elim
 | sub e x lo hi mx =>
  simp only [VOp.run, optI_iff] at h ⊢
  split at h
  · obtain ⟨l, hl, q, hq, h⟩ := h
    cases mx with
    | none => exact ⟨_, h.r, l, hl, q, hq, h.l, rfl⟩
    | some mx =>
     simp only at h ⊢
     split at h
     · rename_i m hm; exact ⟨_, h.r, l, hl, q, hq, h.l, rfl⟩
     · exact h.elim
  · obtain ⟨l, hl, q, hq, h⟩ := h
    cases mx with
    | none => exact ⟨_, h.r, l, hl, q, hq, h.l, rfl⟩
    | some mx =>
     simp only at h ⊢
     split at h
     · rename_i m hm; exact ⟨_, h.r, l, hl, q, hq, h.l, rfl⟩
     · exact h.elim
  · obtain ⟨l, hl, q, hq, h⟩ := h
    cases mx with
    | none =>
     obtain ⟨he, h⟩ := h
     rcases h with h | h
     · exact ⟨_, h.r, l, hl, q, hq, he, .inl ⟨h.l, rfl⟩⟩
     · exact ⟨_, h.r, l, hl, q, hq, he, .inr ⟨h.l, rfl⟩⟩
    | some mx =>
     simp only at h ⊢
     split at h
     · rename_i m hm; exact ⟨_, h.r, l, hl, q, hq, h.l, rfl⟩
     · exact h.elim
  · exact h.elim
 | ssub x lo hi =>
  simp only [VOp.run, optI_iff] at h ⊢
  split at h
  · obtain ⟨l, hl, q, hq, h⟩ := h
    exact ⟨_, h.r, l, hl, q, hq, h.l, rfl⟩
  · exact h.elim
 | s2a n x =>
  simp only [VOp.run] at h ⊢
  split at h
  · exact ⟨_, h.r, h.l, rfl⟩
  · exact ⟨_, h.r, h.l, rfl⟩
  · exact h.elim
 | mkI t x => simp only [VOp.run, fv_eq] at h ⊢; exact ⟨_, h, rfl⟩
 | tas t z x =>
  simp only [VOp.run] at h ⊢
  split at h
  · exact ⟨_, h, rfl⟩
  · rename_i t' c _
    cases hb : Nat.beq t' t <;> rw [hb] at h <;> exact ⟨_, h, rfl⟩
  · exact h.elim
 | isni neg x =>
  simp only [VOp.run] at h ⊢
  split at h <;> first | exact ⟨_, h, rfl⟩ | exact h.elim
theorem nq_sound {neg : Bool} {x' : AX} {o : Oper} (h : okVop P o.op (.isnil false neg x' (.c .nils)) = true) (F : RelF N M μ fr a.tmps) {n : Nat} {cs : List AV} {cap : Option Nat} (hx' : x'.ev fr = .dslice cs n cap) (h5 : n = 0 → K (.bool (!neg))) (h6 : K (.bool neg)) (w : World) : Yields1 P o a M μ K w := by
 unfold okVop at h
 split at h <;> rename_i hq <;> try (cases hq; done)
 · cases hq
   simp only [Bool.and_eq_true, decide_eq_true_eq, Bool.false_eq_true, if_false] at h
   exact sound_nq ‹_› h.1.1.1 h.1.1.2 h.1.2 h.2 rfl F hx' (A := True) h5 h6 w
 · cases h

def VOp.xs : VOp → List AX
 | .field _ _ _ x => [x]
 | .idx _ _ _ x i | .sidx x i | .eqa _ _ x i | .isnil _ _ x i => [x, i]
 | .build _ parts => parts.map (·.2.2)
 | .sub _ x lo hi mx => x :: (lo.toList ++ hi.toList ++ mx.toList)
 | .ssub x lo hi => x :: (lo.toList ++ hi.toList)
 | .s2a _ x => [x]
 | .mkI _ x | .tas _ _ x | .isni _ x => [x]
theorem optI_congr {ev ev' : AX → AV} {d : Int} {x : Option AX} (h : ∀ y ∈ x.toList, ev y = ev' y) (F : Int → Prop) : optI ev d x F = optI ev' d x F := by
 cases x with
 | none => rfl
 | some x => simp only [optI]; rw [h x (by simp)]
theorem buildK_congr {ev ev' : AX → AV} : ∀ {parts : List (Nat × Nat × AX)} (_ : ∀ y ∈ parts.map (·.2.2), ev y = ev' y) {cs : List AV} {K : List AV → Prop}, buildK ev parts cs K = buildK ev' parts cs K
 | [], _, _, _ => rfl
 | (off, sz, x) :: r, h, cs, K => by
  simp only [buildK]
  rw [h x (by simp)]
  split
  · congr 1
    congr 1
    funext cs
    exact buildK_congr (parts := r) (fun y hy => h y (by simp only [List.map_cons, List.mem_cons]; exact .inr hy))
  · rfl
theorem VOp.run_congr {ev ev' : AX → AV} {K : AV → Prop} {o : VOp} (h : ∀ x ∈ o.xs, ev x = ev' x) : o.run ev K = o.run ev' K := by
 cases o with
 | field agg off n x => simp only [VOp.xs, List.mem_singleton, forall_eq] at h; simp only [VOp.run, h]
 | idx agg e len x i => simp only [VOp.xs, List.mem_cons, List.not_mem_nil, or_false] at h; simp only [VOp.run, h x (.inl rfl), h i (.inr rfl)]
 | sidx x i => simp only [VOp.xs, List.mem_cons, List.not_mem_nil, or_false] at h; simp only [VOp.run, h x (.inl rfl), h i (.inr rfl)]
 | eqa neg ks x i => simp only [VOp.xs, List.mem_cons, List.not_mem_nil, or_false] at h; simp only [VOp.run, h x (.inl rfl), h i (.inr rfl)]
 | isnil p neg x i => simp only [VOp.xs, List.mem_cons, List.not_mem_nil, or_false] at h; simp only [VOp.run, h x (.inl rfl), h i (.inr rfl)]
 | build zero parts => simp only [VOp.run]; exact buildK_congr h
 | sub e x lo hi mx =>
  simp only [VOp.xs, List.mem_cons, List.mem_append] at h
  simp only [VOp.run, h x (.inl rfl), optI_congr (x := lo) (fun y hy => h y (.inr (.inl (.inl hy)))), optI_congr (x := hi) (fun y hy => h y (.inr (.inl (.inr hy))))]
  cases mx with
  | none => rfl
  | some mx => simp only [h mx (.inr (.inr (by simp)))]
 | ssub x lo hi =>
  simp only [VOp.xs, List.mem_cons, List.mem_append] at h
  simp only [VOp.run, h x (.inl rfl), optI_congr (x := lo) (fun y hy => h y (.inr (.inl hy))), optI_congr (x := hi) (fun y hy => h y (.inr (.inr hy)))]
 | s2a n x => simp only [VOp.xs, List.mem_singleton, forall_eq] at h; simp only [VOp.run, h]
 | mkI t x => simp only [VOp.xs, List.mem_singleton, forall_eq] at h; simp only [VOp.run, h]
 | tas t z x => simp only [VOp.xs, List.mem_singleton, forall_eq] at h; simp only [VOp.run, h]
 | isni neg x => simp only [VOp.xs, List.mem_singleton, forall_eq] at h; simp only [VOp.run, h]
end
end Go.Eng

namespace Go.Eng
open Go
variable [Globs]

inductive DOp where
 | bslice (e len : Nat) (zero : List AV) (parts : List (Nat × AX))
 | append (e bytes : Nat) (s x : AX)
 | asub (e n : Nat) (x : AX) (lo hi : Option AX)
 | sl2s (x : AX)
inductive LOp where
 | bslice (e len : Nat) (zero : List AV) (parts : List (Nat × AX))
 | append (e bytes : Nat) (s x : AX)
 | make (e bytes : Nat) (zero : List AV) (n : AX)
 | appendS (bytes : Nat) (s x : AX)
 | appendF (e bytes : Nat) (s x : AX)
 | makec (e bytes : Nat) (zero : List AV) (n c : AX)
 | s2b (x : AX)
def strCells (s : ByteArray) : List AV := s.data.toList.map fun b => AV.int .u8 b.toNat
theorem strCells_rel {M : Mem} {μ : Pos} (s : ByteArray) : relL M (strCells s) μ (byteCells s) := by
 unfold strCells byteCells
 induction s.data.toList with
 | nil => simp [relL]
 | cons b r ih => simp only [List.map_cons, relL, relV]; exact ⟨_, _, rfl, rfl, ih⟩
theorem strCells_len (s : ByteArray) : (strCells s).length = s.size := by unfold strCells; rw [List.length_map, Array.length_toList]; rfl
def strD : AV → AV
 | .str s => .dslice (strCells s) s.size none
 | _ => .any
def srcK (η : Nat → AB) (e : Nat) (x : AV) (K : List AV → Nat → Prop) : Prop := match x with
 | .dslice cs n _ => Side (n * e ≤ cs.length) (K (cs.take (n * e)) n)
 | .nils => K [] 0
 | .slice k off n _ _ => match η k with
  | .cells cs => Side (off + n * e ≤ cs.length) (K ((cs.drop off).take (n * e)) n)
  | _ => False
 | _ => False
def rep (zero : List AV) : Nat → List AV
 | 0 => []
 | n + 1 => zero ++ rep zero n
def fits (n bytes : Nat) : Prop := (n + n / 4 + 192) * bytes ≤ 281474976710656
def noLocB : List AV → Bool
 | [] => true
 | c :: cs => (match c with | .ptr _ _ | .slice _ _ _ _ _ | .map _ | .func _ _ | .agg _ | .tuple _ | .yld _ | .ifc _ _ | .meth _ _ => false | _ => true) && noLocB cs
def bytesOf : List AV → Option (List Int)
 | [] => some []
 | .int .u8 n :: r => match bytesOf r with
  | some l => some (n :: l)
  | none => none
 | _ :: _ => none
def toBytes (l : List Int) : ByteArray := l.foldl (fun r n => r.push (UInt8.ofNat n.toNat)) ByteArray.empty
structure BRes (r : Option (List Int)) (K : ByteArray → Prop) : Prop where
 ex : ∃ l, r = some l ∧ K (toBytes l)
theorem BRes.det {r : Option (List Int)} {K : ByteArray → Prop} (h : BRes r K) : ∃ l, K l ∧ BRes r (fun x => x = l) := by
 obtain ⟨l, h1, h2⟩ := h.ex
 exact ⟨_, h2, ⟨l, h1, rfl⟩⟩
theorem bytesOf_rel {M : Mem} {μ : Pos} : ∀ {cs : List AV} {l : List Int} {vs : List Value}, bytesOf cs = some l → relL M cs μ vs → vs = l.map (Value.int .u8)
 | [], l, vs, h, hr => by
  simp only [bytesOf, Option.some.injEq] at h; subst h
  simpa [relL] using hr
 | c :: cs, l, vs, h, hr => by
  simp only [relL] at hr
  obtain ⟨v, r, rfl, h1, h2⟩ := hr
  unfold bytesOf at h
  split at h
  · rename_i hh; cases hh
  · rename_i n r' hh
    cases hh
    split at h
    · rename_i l' hl
      cases h
      simp only [relV] at h1
      rw [bytesOf_rel hl h2, h1]; rfl
    · cases h
  · cases h
def DOp.run (ev : AX → AV) (η : Nat → AB) (K : AV → Prop) : DOp → Prop
 | .bslice e len zero parts => buildK ev (parts.map fun x => (x.1, e, x.2)) (rep zero len) fun cs => bif noLocB cs then K (.dslice cs len (some len)) else False
 | .append e bytes s x => match ev s, ev x with
  | .dslice cs len cap, .dslice ds n _ => Side (cap = some len ∧ len * e ≤ cs.length ∧ n * e ≤ ds.length ∧ fits (len + n) bytes ∧ ∀ c ∈ ds.take (n * e), scal c = true) (K (.dslice (cs.take (len * e) ++ ds.take (n * e)) (len + n) none))
  | .dslice cs len cap, .nils => Side (cap = some len) (K (.dslice cs len none))
  | .nils, .dslice ds n _ => Side (n * e ≤ ds.length ∧ fits n bytes ∧ ∀ c ∈ ds.take (n * e), scal c = true) (K (.dslice (ds.take (n * e)) n none))
  | _, _ => False
 | .asub e n x lo hi => match ev x with
  | .ptr k off => match η k with
   | .cells cs => optI ev 0 lo fun l => optI ev n hi fun h => Side (0 ≤ l ∧ l < n ∧ l ≤ h ∧ h ≤ n ∧ off + n * e ≤ cs.length) (K (.slice k (off + l.toNat * e) (h - l).toNat (some (n - l.toNat)) e))
   | _ => False
  | .dptr cs => optI ev 0 lo fun l => optI ev n hi fun h => Side (0 ≤ l ∧ l ≤ h ∧ h ≤ n) (K (.dslice ((cs.drop (l.toNat * e)).take ((h - l).toNat * e)) (h - l).toNat (some (n - l.toNat))))
  | _ => False
 | .sl2s x => srcK η 1 (ev x) fun ds _ => BRes (bytesOf ds) fun s => K (.str s)
def okBslice (P : Program) (t : TypeId) (n : Nat) (ps : List (Nat × Operand)) (e len : Nat) (zero : List AV) (parts : List (Nat × AX)) : Bool := n == len && decide (0 < e) && decide (len * e ≤ 16777216) && zero.length == e && (match P.underlying t with
 | some (.slice el) => sized P el e && zeroOk P el zero && okParts P (fun i => some (i * e, e)) ps (parts.map fun x => (x.1, e, x.2))
 | _ => false)
def okAppendQ (P : Program) (q : TypeId → Bool) (ts : List TypeId) (e bytes : Nat) : Bool := match ts with
 | [t, tx] => q tx && (match P.underlying t with
  | some (.slice el) => match P.info? el with
   | some i => i.size == e && i.bytes == bytes && (match i.zero with | some z => z.cells.size == e | none => false)
   | none => false
  | _ => false)
 | _ => false
abbrev okAppend (P : Program) (ts : List TypeId) (e bytes : Nat) : Bool := okAppendQ P (isSlice P) ts e bytes
def okAsub (P : Program) (t : TypeId) (e n : Nat) : Bool := match P.underlying t with
 | some (.array m el) => m == n && sized P el e
 | some (.pointer arr) => match P.underlying arr with
  | some (.array m el) => m == n && sized P el e
  | _ => false
 | _ => false
def byteSl (P : Program) (t : TypeId) : Bool := match P.underlying t with
 | some (.slice e) => (match P.underlying e with
  | some (.int .u8) => true
  | _ => false)
 | _ => false
def okD (P : Program) : Op → DOp → Bool
 | .buildSlice t n ps, .bslice e len zero parts => okBslice P t n ps.toList e len zero parts
 | .call c, .append e bytes s x => (match bcall c .append with
  | some ([s', x'], ts) => okAppend P ts e bytes && Nat.blt 0 bytes && okX s' s && okX x' x
  | _ => false)
 | .slice t x lo hi none, .asub e n x' lo' hi' => okAsub P t e n && okX x x' && okOptX lo lo' && okOptX hi hi'
 | .convert src dst x, .sl2s x' => byteSl P src && isStr P dst && okX x x'
 | _, _ => false
def okMake (P : Program) (t : TypeId) (e bytes : Nat) (zero : List AV) : Bool := match P.underlying t with
 | some (.slice el) => (match P.info? el with
  | some i => i.size == e && i.bytes == bytes && zero.length == e && (match i.zero with
   | some z => okVs z.cells.toList zero
   | none => false)
  | none => false)
 | _ => false
def okL (P : Program) : Op → LOp → Bool
 | .buildSlice t n ps, .bslice e len zero parts => okBslice P t n ps.toList e len zero parts
 | .call c, .append e bytes s x => (match bcall c .append with
  | some ([s', x'], ts) => okAppend P ts e bytes && Nat.blt 0 bytes && okX s' s && okX x' x
  | _ => false)
 | .call c, .appendS bytes s x => (match bcall c .append with
  | some ([s', x'], ts) => okAppendQ P (isStr P) ts 1 bytes && Nat.blt 0 bytes && okX s' s && okX x' x
  | _ => false)
 | .call c, .appendF e bytes s x => (match bcall c .append with
  | some ([s', x'], ts) => okAppend P ts e bytes && Nat.blt 0 bytes && okX s' s && okX x' x
  | _ => false)
 | .makeSlice t l c, .make e bytes zero n => okMake P t e bytes zero && okX l n && okX c n
 | .makeSlice t l c, .makec e bytes zero n c' => okMake P t e bytes zero && okX l n && okX c c'
 | .convert src dst x, .s2b x' => isStr P src && byteSl P dst && okX x x'
 | _, _ => false
section
variable {P : Program} {N : Nat} {M : Mem} {μ : Pos} {H : Heap} {fr : Fr} {a : Act} {w : World} {K : AV → Heap → Prop}
def Mem.with (M : Mem) (b : Nat) (c : Array Value) : Mem := fun b' o => if b' = b then c[o]? else M b' o
theorem Rel.data (R : Rel M μ H w) (c : Array Value) (el : TypeId) : Rel (M.with w.heap.size c) μ H (w.alloc (.cells c el)) ∧ Move M μ H w (M.with w.heap.size c) μ H (w.alloc (.cells c el)) := by
 have hle : Mem.le M (M.with w.heap.size c) := fun b o v h => by
  have := R.cell_lt h
  simp only [Mem.with]; rw [if_neg (by omega)]; exact h
 have own : ∀ {j b s}, H.get j ≠ .dead → μ j = some (b, s) → b < w.heap.size := fun hj hx => R.own_lt ⟨_, _, hj, hx⟩
 refine ⟨⟨R.glob.mono hle, R.dom, R.top, fun j ds hj => ?_, fun j es hj => ?_, R.walks_same hle (fun _ _ _ _ h => ⟨h, fun h => h⟩) (Pos.le_refl _) (fun x hx _ => alloc_heap_lt w _ hx), R.recs_same hle (fun _ _ _ _ h => h) (Pos.le_refl _) (fun x hx _ => alloc_heap_lt w _ hx), R.inj, fun x o v hv => ?_, fun j x s hj hx o => ?_⟩, ⟨Pos.le_refl _, ⟨hle, fun _ _ => rfl, ⟨rfl, rfl, rfl, by simp, fun x hx _ => alloc_heap_lt w _ hx⟩, fun x hx => .inl hx, fun b o v h => ?_⟩, Nat.le_refl _⟩⟩
 · obtain ⟨b', s', d, el', fz', h1, h2, h3, h4, h5⟩ := R.cells j ds hj
   exact ⟨b', s', d, el', fz', h1, by rw [alloc_heap_lt w _ (own (by rw [hj]; simp) h1)]; exact h2, h3, h4, relP_mono hle (Pos.le_refl _) _ h5⟩
 · obtain ⟨b', s', ents, clock, h1, h2, h3, h4⟩ := R.maps j es hj
   refine ⟨b', s', ents, clock, h1, by rw [alloc_heap_lt w _ (own (by rw [hj]; simp) h1)]; exact h2, ?_, h4⟩
   exact relE_mono hle (Pos.le_refl _) h3
 · simp only [Mem.with] at hv
   split at hv
   · subst_vars; simpa using hv
   · rw [World.cell?_alloc_lt w _ ⟨x, o, none⟩ (R.cell_lt hv)]; exact R.imm x o v hv
 · have := own hj hx
   simp only [Mem.with]; rw [if_neg (by omega)]; exact R.apart j x s hj hx o
 · simp only [Mem.with] at h
   split at h
   · subst_vars; exact .inr (.inr (Nat.le_refl _))
   · exact .inl h
theorem relM_with {cs : List AV} {c : Array Value} {b : Nat} (hle : Mem.le M (M.with b c)) (h : relP M Pos.none cs c.toList) : relM (M.with b c) cs b 0 :=
 relM_of_get fun i d hi => by
  obtain ⟨v, hv, hr⟩ := relP_get h hi
  exact ⟨v, by simp only [Mem.with, if_true, Nat.zero_add]; simpa using hv, relV_mono hle _ (Pos.le_refl _) hr⟩
theorem Rel.drew (R : Rel M μ H w) : Rel M μ H w.drew := ⟨R.glob, R.dom, R.top, R.cells, R.maps, R.iters, R.loops, R.inj, R.imm, R.apart⟩
theorem Move.of_drew {M' : Mem} {μ' : Pos} {H' : Heap} {w' : World} (G : Move M μ H w.drew M' μ' H' w') : Move M μ H w M' μ' H' w' :=
 ⟨G.le, ⟨G.grow.mem, G.grow.pin, ⟨G.grow.keep.os, G.grow.keep.tape, G.grow.keep.output, G.grow.keep.size, G.grow.keep.block⟩, G.grow.own, G.grow.fresh⟩, G.nx⟩
theorem rep_length {zero : List AV} {e : Nat} (h : zero.length = e) : ∀ n, (rep zero n).length = n * e
 | 0 => by simp [rep]
 | n + 1 => by simp [rep, rep_length h n, h, Nat.add_mul, Nat.add_comm]
theorem rep_get {zero : List AV} {e : Nat} (h : zero.length = e) : ∀ (n i : Nat), i < n * e → (rep zero n)[i]? = zero[i % e]?
 | 0, i, hi => by simp at hi
 | n + 1, i, hi => by
  simp only [rep]
  by_cases hlt : i < e
  · rw [List.getElem?_append_left (by omega), Nat.mod_eq_of_lt hlt]
  · rw [List.getElem?_append_right (by omega), h, rep_get h n (i - e) (by rw [Nat.add_mul] at hi; omega)]
    congr 1
    rw [← Nat.mod_eq_sub_mod (by omega)]
theorem zeros_rel {zero : List AV} {z : Array Value} {e len : Nat} (hz : relL M zero μ z.toList) (he : zero.length = e) (h0 : 0 < e) : relL M (rep zero len) μ ((Array.range (len * e)).map (z[· % z.size]!)).toList := by
 have hsz : z.size = e := by have := relL_length hz; simp at this; omega
 refine relL_of_get (by simp [rep_length he]) fun i c hi => ?_
 have hi' : i < len * e := by
  rcases Nat.lt_or_ge i (len * e) with h | h
  · exact h
  · rw [List.getElem?_eq_none (by rw [rep_length he]; exact h)] at hi; cases hi
 rw [rep_get he len i hi'] at hi
 obtain ⟨v, hv, hr⟩ := relL_get hz hi
 refine ⟨v, ?_, hr⟩
 have hm : i % e < z.size := by rw [hsz]; exact Nat.mod_lt _ h0
 have hv' : z[i % e] = v := by
  have : z[i % e]? = some v := by simpa using hv
  rw [Array.getElem?_eq_getElem hm] at this
  simpa using this
 simp [hi', hsz]
 rw [getElem!_pos z (i % e) hm, hv']
theorem foldl_size (off : Nat) : ∀ (l : List (Value × Nat)) (vs : Array Value), (l.foldl (fun cs x => cs.setIfInBounds (off + x.2) x.1) vs).size = vs.size
 | [], vs => rfl
 | x :: l, vs => by simp only [List.foldl_cons]; rw [foldl_size off l]; simp
theorem fill_size {place : Nat → Option (Nat × Nat)} : ∀ {l : List (Nat × Value)} {vs us : Array Value}, Instr.fill place vs l = some us → us.size = vs.size
 | [], vs, us, h => by simp only [Instr.fill, Option.some.injEq] at h; rw [h]
 | (i, v) :: l, vs, us, h => by
  simp only [Instr.fill] at h
  split at h
  · cases h
  · split at h
    · cases h
    · rw [fill_size h, ← Array.foldl_toList, foldl_size]
theorem sound_bs {t : TypeId} {n : Nat} {ps : Array (Nat × Operand)} {e len : Nat} {zero : List AV} {parts : List (Nat × AX)} {o : Oper} (ho : o.op = .buildSlice t n ps) (h : okBslice P t n ps.toList e len zero parts = true) (F : RelF N M μ fr a.tmps) {K : List AV → Prop}
 (hr : buildK (AX.ev fr) (parts.map fun x => (x.1, e, x.2)) (rep zero len) K) (w : World) :
 ∃ us ds el, (execOp a.eval o).run P w = .ok (.value (.slice (some ⟨w.heap.size, 0, none⟩) len len)) (w.alloc (.cells us el)) ∧ relL M ds μ us.toList ∧ us.size = len * e ∧ K ds := by
 simp only [okBslice, Bool.and_eq_true, beq_iff_eq, decide_eq_true_eq] at h
 obtain ⟨⟨⟨⟨rfl, h0⟩, hbig⟩, hzl⟩, h⟩ := h
 split at h
 · rename_i el hu
   simp only [Bool.and_eq_true] at h
   obtain ⟨⟨hs, hz⟩, hp⟩ := h
   unfold zeroOk at hz
   split at hz
   · rename_i ti hti
     split at hz
     · rename_i z hzz
       have hlz : relL M zero μ z.cells.toList := rel_okVs hz
       have hmap : (ps.map fun x => (x.1, a.eval x.2)).toList = ps.toList.map fun x => (x.1, a.eval x.2) := by simp
       obtain ⟨us, ds, q1, q2, q3⟩ := fill_run F hp (zeros_rel (len := n) hlz hzl h0) hr
       have husz : us.size = n * e := by
        rw [fill_size q1]; simp
       refine ⟨us, ds, el, ?_, q2, husz, q3⟩
       have hnb : ¬ n * e > 2 ^ 24 := by omega
       by_cases hn : n * e = 0
       · have hz0 : (Array.range (n * e)).map (z.cells[· % z.cells.size]!) = (Array.range (n * e)).map ((#[] : Array Value)[· % (#[] : Array Value).size]!) := by rw [hn]; simp
         rw [hz0] at q1
         simp only [execOp, ho, Instr.buildSlice, Sem.run_bind, run_underlying hu, Result.andThen_ok, run_sizeOf hs, hn, if_true, Sem.run_pure, hmap]
         rw [hn] at q1
         simp only [Sem.run_ite, Sem.run_pure, Result.andThen_ok, q1, newRow, run_newObj, Sem.run_bind]
         first | done | rfl
       · simp only [execOp, ho, Instr.buildSlice, Sem.run_bind, run_underlying hu, Result.andThen_ok, run_sizeOf hs, if_neg hnb, hn, if_false, Sem.run_pure, hmap, zeroValue, run_typeInfo hti, hzz, q1, newRow, run_newObj]
         rfl
     · cases hz
   · cases hz
 · cases h
theorem noLocB_spec : ∀ {cs : List AV}, noLocB cs = true → ∀ {μ μ' : Pos} {vs : List Value}, relL M cs μ vs → relL M cs μ' vs
 | [], _, _, _, _, h => by simpa only [relL] using h
 | c :: cs, hn, μ, μ', vs, h => by
  simp only [noLocB, Bool.and_eq_true] at hn
  simp only [relL] at *
  obtain ⟨v, r, h1, h2, h3⟩ := h
  refine ⟨v, r, h1, ?_, noLocB_spec hn.2 h3⟩
  cases c <;> first | (simp at hn; done) | (simp only [relV] at h2 ⊢; first | done | exact h2)
theorem srcK_spec (R : Rel M μ H w) {e : Nat} {x : AV} {u : Value} (hx : relV M x μ u) {tx : TypeId} (ht : isSlice P tx = true) {K : List AV → Nat → Prop} (hk : srcK H.get e x K) :
 ∃ ds n, K ds n ∧ ds.length = n * e ∧ ∃ news, relL M ds μ news ∧ ((∀ v ∈ news, v.oneCell' = true) → Src P e tx u n news w) := by
 obtain ⟨et, htx⟩ := isSlice_spec ht
 unfold srcK at hk
 split at hk
 · rename_i cs n cap
   simp only [relV] at hx
   rcases hx with ⟨b, q, c, rfl, _, _, hm⟩ | ⟨rfl, rfl, rfl, _⟩ | ⟨b, q, s, c, rfl, rfl, rfl, _⟩
   · obtain ⟨vs, h1, h2, h3⟩ := relM_cells R hm (n * e) hk.l
     exact ⟨_, n, hk.r, by rw [List.length_take]; have := hk.l; omega, vs, h2, fun h1' => Src.ofSlice w htx _ n c vs h1 h3 h1'⟩
   · exact ⟨_, 0, hk.r, by simp, [], by simp [relL], fun _ => Src.ofNil w htx 0⟩
   · exact ⟨_, 0, hk.r, by simp, [], by simp [relL], fun h1' => Src.ofSlice w htx _ 0 c [] (by simp) (fun j u h => by simp at h) h1'⟩
 · simp only [relV] at hx
   subst hx
   exact ⟨[], 0, hk, by simp, [], by simp [relL], fun _ => Src.ofNil w htx 0⟩
 · rename_i k off n cap e'
   simp only [relV] at hx
   obtain ⟨b, sz, c, hμ, rfl, _⟩ := hx
   split at hk
   · rename_i cs hcs
     obtain ⟨vs, h1, h2, h3⟩ := cells_cells R hcs hμ (n * e) hk.l
     exact ⟨_, n, hk.r, by rw [List.length_take, List.length_drop]; have := hk.l; omega, vs, h2, fun h1' => Src.ofSlice w htx _ n c vs h1 h3 h1'⟩
   · exact hk.elim
 · exact hk.elim
theorem okAppend_spec {q0 : TypeId → Bool} {ts : List TypeId} {e bytes : Nat} (h : okAppendQ P q0 ts e bytes = true) : ∃ t tx el i z, ts = [t, tx] ∧ q0 tx = true ∧ P.underlying t = some (.slice el) ∧ P.info? el = some i ∧ i.size = e ∧ i.bytes = bytes ∧ i.zero = some z ∧ z.cells.size = e := by
 unfold okAppendQ at h
 split at h
 · rename_i t tx
   simp only [Bool.and_eq_true] at h
   obtain ⟨h1, h2⟩ := h
   split at h2
   · rename_i el hu
     split at h2
     · rename_i i hi
       simp only [Bool.and_eq_true, beq_iff_eq] at h2
       obtain ⟨⟨h3, h4⟩, h5⟩ := h2
       split at h5
       · rename_i z hz
         exact ⟨t, tx, el, i, z, rfl, h1, hu, hi, h3, h4, hz, by simpa using h5⟩
       · cases h5
     · cases h2
   · cases h2
 · cases h
theorem append_grow {q0 : TypeId → Bool} {ts : List TypeId} {e bytes : Nat} (h : okAppendQ P q0 ts e bytes = true) {base : Option Addr} {len cap n : Nat} {olds news : List Value} {x : Value} (hold : (Builtin.firstCells e len (.slice base len cap)).run P w.drew = .ok olds.toArray w.drew)
 (hsrc : ∀ tx, q0 tx = true → Src P e tx x n news w) (hg : cap < len + n) (hf : fits (len + n) bytes) (hb : 0 < bytes ∨ len + n ≤ 9223372036854775807) (ty : TypeId) :
 ∃ zs el nc, (Builtin.append_ ts.toArray ty #[.slice base len cap, x]).run P w = .ok (.slice (some ⟨w.heap.size, 0, none⟩) (len + n) nc) (w.drew.alloc (.cells ((olds ++ news).toArray ++ zs) el)) ∧ len + n ≤ nc ∧ (olds.length = len * e → nc * e ≤ ((olds ++ news).toArray ++ zs).size) := by
 obtain ⟨t, tx, el, i, z, rfl, h1, hu, hi, rfl, rfl, hz, hzs⟩ := okAppend_spec h
 have h63 : ((len + n : Nat) : Int) ≤ 9223372036854775807 := by
  rcases hb with hb | hb
  · unfold fits at hf
    have : (len + n + (len + n) / 4 + 192) * 1 ≤ (len + n + (len + n) / 4 + 192) * i.bytes := Nat.mul_le_mul_left _ hb
    omega
  · omega
 have hs := hsrc tx h1
 have := run_append_grow_src w t tx ty el i z hu hi hz base len cap olds hold x n news hs hg h63 (growslice_fits_wide hg hf)
 refine ⟨_, el, _, this, grownCap_ge _ _ _ _, fun hol => ?_⟩
 have hge := grownCap_ge w (len + n) cap el
 have hzc : (Builtin.zeroCells z.cells (grownCap w (len + n) cap el - (len + n))).size = (grownCap w (len + n) cap el - (len + n)) * i.size := by
  simp [Builtin.zeroCells, hzs]
 have hnl := hs.newsLen
 simp only [Array.size_append, List.size_toArray, List.length_append, hzc, hol, hnl]
 rw [← Nat.add_mul, ← Nat.add_mul]
 exact Nat.mul_le_mul_right _ (by omega)
theorem Rel.kill (R : Rel M μ H w) (k : Nat) (hnm : ∀ es, H.get k ≠ .map es) : Rel M μ (H.set k .dead) w ∧ (∀ b, Own μ (H.set k .dead) b → Own μ H b) := by
 have al : ∀ j, (H.set k .dead).get j ≠ .dead → H.get j ≠ .dead ∧ j ≠ k := fun j hj => by
  rw [Heap.get_set] at hj
  split at hj
  · exact absurd rfl hj
  · rename_i h; exact ⟨hj, Ne.symm h⟩
 have old : ∀ j, (H.set k .dead).get j ≠ .dead → (H.set k .dead).get j = H.get j := fun j hj => by
  rw [Heap.get_set, if_neg (Ne.symm (al j hj).2)]
 refine ⟨⟨R.glob, R.dom, fun j hj => ?_, fun j cs hj => R.cells j cs (by rw [← old j (by rw [hj]; simp)]; exact hj), fun j es hj => R.maps j es (by rw [← old j (by rw [hj]; simp)]; exact hj),
  R.walks_same (Mem.le_refl _) (fun j k' left cur hj => ⟨by rw [← old j (by rw [hj]; simp)]; exact hj, fun _ => by
   have hj' : H.get j = .iter k' left cur := by rw [← old j (by rw [hj]; simp)]; exact hj
   obtain ⟨es, he⟩ := R.iter_map hj'
   rw [Heap.get_set, if_neg (fun e => hnm es (by rw [e]; exact he)), he]; simp⟩) (Pos.le_refl _) (fun _ _ _ => rfl),
  R.recs_same (Mem.le_refl _) (fun j st id fr hj => by rw [← old j (by rw [hj]; simp)]; exact hj) (Pos.le_refl _) (fun _ _ _ => rfl),
  fun i j b s t hi hj => R.inj i j b s t (al i hi).1 (al j hj).1, R.imm, fun j b s hj => R.apart j b s (al j hj).1⟩, fun b ⟨j, s, hj, hμ⟩ => ⟨j, s, (al j hj).1, hμ⟩⟩
 rw [Heap.get_set]
 split
 · rfl
 · exact R.top j hj
theorem Rel.shiftTo (R : Rel M μ H w) {k p : Nat} {cs : List AV} {x : Nat × Nat} (hk : H.get k = .cells cs) (hμ : μ k = some x) (hp : p < H.nx) (hfree : μ p = none) :
 Rel M (μ.put p x) ((H.set k .dead).set p (.cells cs)) w ∧ Pos.le μ (μ.put p x) ∧ ∀ n, n ≤ p → Grow n M μ H w M (μ.put p x) ((H.set k .dead).set p (.cells cs)) w := by
 have hkp : k ≠ p := fun e => by subst e; rw [hμ] at hfree; cases hfree
 have hne : H.get k ≠ .dead := by rw [hk]; simp
 have hle : Pos.le μ (μ.put p x) := Pos.le_put hfree x
 have from' : ∀ j, ((H.set k .dead).set p (.cells cs)).get j ≠ .dead → ∃ i, H.get i ≠ .dead ∧ H.get i = ((H.set k .dead).set p (.cells cs)).get j ∧ μ i = (μ.put p x) j ∧ ((j = p ∧ i = k) ∨ (j ≠ p ∧ i = j ∧ i ≠ k)) := by
  intro j hj
  rw [Heap.get_set] at hj
  by_cases h1 : p = j
  · subst h1
    exact ⟨k, hne, by rw [Heap.get_set, if_pos rfl, hk], by rw [Pos.put_same, hμ], .inl ⟨rfl, rfl⟩⟩
  · rw [if_neg h1, Heap.get_set] at hj
    by_cases h2 : k = j
    · rw [if_pos h2] at hj; exact absurd rfl hj
    · rw [if_neg h2] at hj
      exact ⟨j, hj, by rw [Heap.get_set, if_neg h1, Heap.get_set, if_neg h2], by rw [Pos.put_other _ _ (Ne.symm h1)], .inr ⟨Ne.symm h1, rfl, Ne.symm h2⟩⟩
 refine ⟨⟨R.glob, fun j hj => ?_, fun j hj => ?_, fun j ds hj => ?_, fun j es hj => ?_, R.walks (Mem.le_refl _) (fun j k' left cur hj => ?_), R.recs (Mem.le_refl _) (fun j st id fr hj => ?_), fun i j b s t hi hj hx hy => ?_, R.imm, fun j b s hj hx o => ?_⟩, hle, fun n hn => ⟨Mem.le_refl _, fun j hj => Pos.put_other _ _ (by omega), Keep.refl _ _, fun b hb => ?_, fun _ _ _ h => .inl h⟩⟩
 · have hj' : H.nx ≤ j := hj
   rw [Pos.put_other _ _ (by omega)]; exact R.dom j hj'
 · have hj' : H.nx ≤ j := hj
   have := R.pos_lt hμ
   rw [Heap.get_set, if_neg (by omega), Heap.get_set, if_neg (by omega)]
   exact R.top j hj'
 · obtain ⟨i, h1, h2, h3, _⟩ := from' j (by rw [hj]; simp)
   obtain ⟨b, sz, c, el, fz, e1, e2, e3, e4, e5⟩ := R.cells i ds (h2.trans hj)
   exact ⟨b, sz, c, el, fz, by rw [← h3]; exact e1, e2, e3, e4, relP_mono (Mem.le_refl _) hle _ e5⟩
 · obtain ⟨i, h1, h2, h3, _⟩ := from' j (by rw [hj]; simp)
   obtain ⟨b, sz, ents, clock, e1, e2, e3, e4⟩ := R.maps i es (h2.trans hj)
   exact ⟨b, sz, ents, clock, by rw [← h3]; exact e1, e2, relE_mono (Mem.le_refl _) hle e3, e4⟩
 · obtain ⟨i, h1, h2, h3, _⟩ := from' j (by rw [hj]; simp)
   have hi := h2.trans hj
   obtain ⟨es, he⟩ := R.iter_map hi
   have hk1 : k ≠ k' := fun e => by subst e; rw [hk] at he; cases he
   refine ⟨i, k', hi, ?_, fun x hx => by rw [← h3]; exact hx, fun x hx => hle _ _ hx, fun _ _ _ _ => rfl, fun _ _ _ _ => rfl⟩
   rw [Heap.get_set]
   split
   · simp
   · rw [Heap.get_set, if_neg hk1, he]; simp
 · obtain ⟨i, h1, h2, h3, _⟩ := from' j (by rw [hj]; simp)
   exact ⟨i, fr, h2.trans hj, fun x hx => by rw [← h3]; exact hx, fun t v hv => relV_mono (Mem.le_refl _) _ hle hv, fun _ _ _ _ => rfl⟩
 · obtain ⟨i', h1, _, h3, h4⟩ := from' i hi
   obtain ⟨j', g1, _, g3, g4⟩ := from' j hj
   have := R.inj i' j' b s t h1 g1 (h3.trans hx) (g3.trans hy)
   rcases h4 with ⟨q1, q2⟩ | ⟨q1, q2, q3⟩ <;> rcases g4 with ⟨r1, r2⟩ | ⟨r1, r2, r3⟩ <;> omega
 · obtain ⟨i, h1, _, h3, _⟩ := from' j hj
   exact R.apart i b s h1 (h3.trans hx) o
 · obtain ⟨j, s, hj, hx⟩ := hb
   obtain ⟨i, h1, _, h3, _⟩ := from' j hj
   exact .inl ⟨i, s, h1, h3.trans hx⟩
theorem Move.trans {M' M'' : Mem} {μ' μ'' : Pos} {H' H'' : Heap} {w' w'' : World} (a : Move M μ H w M' μ' H' w') (b : Move M' μ' H' w' M'' μ'' H'' w'') : Move M μ H w M'' μ'' H'' w'' :=
 ⟨Pos.le_trans a.le b.le, a.grow.trans (b.grow.mono a.nx), Nat.le_trans a.nx b.nx⟩
theorem append_room {q0 : TypeId → Bool} {ts : List TypeId} {e bytes : Nat} (h : okAppendQ P q0 ts e bytes = true) {b off len cap n : Nat} {news : List Value} {x : Value} {c : Array Value} {el : TypeId} {fz : Nat × Nat}
 (hsrc : ∀ tx, q0 tx = true → Src P e tx x n news w) (hroom : len + n ≤ cap) (hb : w.heap[b]? = some (.cells c el fz)) (hfz : fz = (0, 0) ∨ c.size ≤ fz.1) (hsz : off + cap * e ≤ c.size) (ty : TypeId) :
 (Builtin.append_ ts.toArray ty #[.slice (some ⟨b, off, none⟩) len cap, x]).run P w = .ok (.slice (some ⟨b, off, none⟩) (len + n) cap) (w.setRow b (c.toList.take (off + len * e) ++ news ++ c.toList.drop (off + len * e + news.length)).toArray) := by
 obtain ⟨t, tx, el', i, z, rfl, h1, hu, hi, rfl, rfl, hz, hzs⟩ := okAppend_spec h
 have hs := hsrc tx h1
 have hfit : off + len * i.size + news.length ≤ c.size := by
  rw [hs.newsLen, Nat.add_assoc, ← Nat.add_mul]
  exact Nat.le_trans (Nat.add_le_add_left (Nat.mul_le_mul_right _ hroom) _) hsz
 have hst := run_storeCells_fz (P := P) b (off + len * i.size) el fz news 0 c w hb hfz (by omega) hs.one
 simp only [Nat.add_zero] at hst
 rcases hs.kind with ⟨e', hk⟩ | hk <;>
  simp only [Builtin.append_, List.getElem?_toArray, List.getElem?_cons_zero, List.getElem?_cons_succ, Sem.run_bind, Sem.run_pure, run_underlying hu, run_underlying hk, run_sizeOf_i hi, Result.andThen_ok, Bool.false_eq_true, if_false, hs.len, if_pos hroom, Bool.not_false, if_true, hs.cells, add_addr, hst]
theorem run_call_append {c : Call} {s x : Operand} {ts : List TypeId} {o : Oper} (ho : o.op = .call c) (hb : bcall c .append = some ([s, x], ts)) (w : World) :
 (execOp a.eval o).run P w = ((Builtin.append_ ts.toArray o.type #[a.eval s, a.eval x]).run P w).andThen fun v w' => .ok (.value v) w' := by
 rw [bcall_spec hb] at ho
 rw [run_call_builtin ho]
 simp only [builtin, List.map_toArray, List.map_cons, List.map_nil, Sem.run_bind, Sem.run_pure]
theorem firstCells_slice {e len cap : Nat} {b off : Nat} {vs : List Value} (hl : vs.length = len * e) (h : ∀ j v, vs[j]? = some v → w.cell? (Addr.add ⟨b, off, none⟩ j) = some v) : (Builtin.firstCells e len (.slice (some ⟨b, off, none⟩) len cap)).run P w.drew = .ok vs.toArray w.drew := by
 have := run_loadCells_list (P := P) w.drew ⟨b, off, none⟩ vs (by simpa using h)
 simp only [Builtin.firstCells]
 rw [← hl]; exact this
theorem firstCells_none {e cap : Nat} (a : Addr) : (Builtin.firstCells e 0 (.slice (some a) 0 cap)).run P w.drew = .ok #[] w.drew := by
 have := run_loadCells_list (P := P) w.drew a [] (by simp)
 simp only [Builtin.firstCells, Nat.zero_mul]
 exact this
theorem append_nil {q0 : TypeId → Bool} {ts : List TypeId} {e bytes : Nat} (h : okAppendQ P q0 ts e bytes = true) {base : Option Addr} {len cap : Nat} {x : Value} (hb : base = none ∨ ∃ a, base = some a) (hsrc : ∀ tx, q0 tx = true → Src P e tx x 0 [] w) (hl : len ≤ cap) (ty : TypeId) :
 (Builtin.append_ ts.toArray ty #[.slice base len cap, x]).run P w = .ok (.slice base len cap) w := by
 obtain ⟨t, tx, el', i, z, rfl, h1, hu, hi, rfl, rfl, hz, hzs⟩ := okAppend_spec h
 have hs := hsrc tx h1
 rcases hs.kind with ⟨e', hk⟩ | hk <;> rcases hb with rfl | ⟨b, rfl⟩ <;>
  simp only [Builtin.append_, List.getElem?_toArray, List.getElem?_cons_zero, List.getElem?_cons_succ, Sem.run_bind, Sem.run_pure, run_underlying hu, run_underlying hk, run_sizeOf_i hi, Result.andThen_ok, Bool.false_eq_true, if_false, hs.len, Nat.add_zero, if_pos hl, Bool.not_false, if_true, hs.cells, storeCells]
structure Laid (P : Program) (o : Oper) (a : Act) (M : Mem) (μ : Pos) (H : Heap) (w : World) (p : Nat) (v : AV) (H' : Heap) : Prop where
 ex : ∃ u w' μ', (execOp a.eval o).run P w = .ok (.value u) w' ∧ Rel M μ' H' w' ∧ relV M v μ' u ∧ Pos.le μ μ' ∧ (∀ n, n ≤ p → Grow n M μ H w M μ' H' w') ∧ ∀ j, j ≠ p → μ' j = μ j
def appK (cur : Nat → AB) (Hr : Nat → AB) (p e bytes : Nat) (s x : AV) (K : AV → List AV → Option Nat → Prop) : Prop := match s with
 | .slice k off len _ e' => match cur k with
  | .cells cs => srcK Hr e x fun ds n => Side (e' = e ∧ off = 0 ∧ cs.length = len * e ∧ fits (len + n) bytes ∧ ∀ c ∈ ds, scal c = true) (K (.slice p 0 (len + n) none e) (cs ++ ds) (some k))
  | _ => False
 | .dslice cs len cap => srcK Hr e x fun ds n => Side (cap = some len ∧ 0 < n ∧ len * e ≤ cs.length ∧ fits (len + n) bytes ∧ ∀ c ∈ ds, scal c = true) (K (.slice p 0 (len + n) none e) (cs.take (len * e) ++ ds) none)
 | .nils => srcK Hr e x fun ds n => Side (0 < n ∧ fits n bytes ∧ ∀ c ∈ ds, scal c = true) (K (.slice p 0 n none e) ds none)
 | _ => False
def killO (H : Heap) : Option Nat → Heap
 | none => H
 | some k => H.set k .dead
theorem relP_app {cs ds : List AV} {olds news : List Value} {zs : Array Value} (o2 : relL M cs μ olds) (hrel : relL M ds μ news) : relP M μ (cs ++ ds) ((olds ++ news).toArray ++ zs).toList :=
 relP_of_get fun i c hi => by
  obtain ⟨v, hv', hr'⟩ := relL_get (relL_append o2 hrel) hi
  have hlt : i < (olds ++ news).length := by
   rcases Nat.lt_or_ge i (olds ++ news).length with h | h
   · exact h
   · rw [List.getElem?_eq_none h] at hv'; cases hv'
  exact ⟨v, by rw [Array.toList_append, List.getElem?_append_left hlt]; exact hv', hr'⟩
theorem Laid.of_new {o : Oper} {p : Nat} {cs : List AV} {c : Array Value} {el : TypeId} {len nc e : Nat} (R : Rel M μ H w) (hp : p < H.nx) (hfree : μ p = none) (kl : Option Nat) (hkl : ∀ k, kl = some k → ∀ es, H.get k ≠ .map es) (hP : relP M μ cs c.toList)
 (hrun : (execOp a.eval o).run P w = .ok (.value (.slice (some ⟨w.heap.size, 0, none⟩) len nc)) (w.drew.alloc (.cells c el))) (hnc : len ≤ nc) (hsz : nc * e ≤ c.size) :
 Laid P o a M μ H w p (.slice p 0 len none e) ((killO H kl).set p (.cells cs)) := by
 have hk : Rel M μ (killO H kl) w.drew ∧ (∀ b, Own μ (killO H kl) b → Own μ H b) ∧ (killO H kl).nx = H.nx := by
  cases kl with
  | none => exact ⟨R.drew, fun _ h => h, rfl⟩
  | some k => exact ⟨(R.drew.kill k (hkl k rfl)).1, (R.drew.kill k (hkl k rfl)).2, rfl⟩
 obtain ⟨R1, hown, hnx⟩ := hk
 obtain ⟨R2, L, G⟩ := R1.lay (p := p) (el := el) (by omega) hfree hP
 refine ⟨_, _, _, hrun, R2, ?_, L, fun n hn => ?_, fun j hj => Pos.put_other _ _ hj⟩
 · simp only [relV]
   exact ⟨w.heap.size, _, nc, Pos.put_same _ _ _, rfl, hnc, by rw [Nat.zero_add]; exact hsz, fun c0 h0 => by cases h0⟩
 · have G := G n hn
   exact ⟨G.mem, G.pin, ⟨G.keep.os, G.keep.tape, G.keep.output, G.keep.size, fun x hx hno => G.keep.block x hx (fun h => hno (hown x h))⟩, fun x hx => (G.own x hx).imp (hown x) id, fun x o v hx => (G.fresh x o v hx).imp id (Or.imp (hown x) id)⟩
theorem srcK_src {ts : List TypeId} {e bytes : Nat} {x : Operand} (hok : okAppend P ts e bytes = true) {xv : AV} (hx' : relV M xv μ (a.eval x)) (R : Rel M μ H w) {Hr : Nat → AB} (hHr : ∀ k cs, Hr k = .cells cs → H.get k = .cells cs) {K : List AV → Nat → Prop} (hk : srcK Hr e xv K) :
 ∃ ds n, K ds n ∧ ds.length = n * e ∧ ∃ news, relL M ds μ news ∧ ((∀ v ∈ news, v.oneCell' = true) → ∀ tx, isSlice P tx = true → Src P e tx (a.eval x) n news w) := by
 obtain ⟨t, tx, el, i, z, rfl, h1, _⟩ := okAppend_spec hok
 have hk' : srcK H.get e xv K := by
  unfold srcK at hk ⊢
  split at hk
  · exact hk
  · exact hk
  · split at hk
    · rename_i cs hcs; rw [hHr _ _ hcs]; exact hk
    · exact hk.elim
  · exact hk.elim
 obtain ⟨ds, n, q1, q2, news, q3, q4⟩ := srcK_spec R hx' h1 hk'
 refine ⟨ds, n, q1, q2, news, q3, fun h1' tx' htx' => ?_⟩
 obtain ⟨et, het⟩ := isSlice_spec htx'
 have := q4 h1'
 exact ⟨.inl ⟨et, het⟩, this.len, this.cells, this.cellsD, this.newsLen, this.one⟩
theorem append_laid {q0 : TypeId → Bool} {c : Call} {s x : Operand} {ts : List TypeId} {e bytes : Nat} {o : Oper} (ho : o.op = .call c) (hb : bcall c .append = some ([s, x], ts)) (hok : okAppendQ P q0 ts e bytes = true) (hby : 0 < bytes) {Hr : Nat → AB} {sv xv : AV} (hs' : relV M sv μ (a.eval s)) (htx : ∀ {K : List AV → Nat → Prop}, srcK Hr e xv K → ∃ ds n, K ds n ∧ ds.length = n * e ∧ ∃ news, relL M ds μ news ∧ ((∀ v ∈ news, v.oneCell' = true) → ∀ tx, q0 tx = true → Src P e tx (a.eval x) n news w))
 (R : Rel M μ H w) {p : Nat} (hp : p < H.nx) (hfree : μ p = none) {K : AV → List AV → Option Nat → Prop} (hr : appK H.get Hr p e bytes sv xv K) :
 ∃ v l kl, K v l kl ∧ Laid P o a M μ H w p v ((killO H kl).set p (.cells l)) := by
 unfold appK at hr
 split at hr
 · rename_i k off len cap e'
   simp only [relV] at hs'
   obtain ⟨b, sz, cp, hμ, hv, hlc, hsz, hcap⟩ := hs'
   split at hr
   · rename_i cs hk
     obtain ⟨ds, n, hside, hdl, news, hrel, hsrc⟩ := htx hr
     obtain ⟨⟨rfl, rfl, hcl, hfit, hsc⟩, hkk⟩ := hside
     have hsrc' := hsrc (relL_one (by simpa using hsc) hrel)
     obtain ⟨b', sz', cc, el, fz, q1, q2, q3, q4, q5⟩ := R.cells k cs hk
     rw [hμ] at q1; cases q1
     have hnl : news.length = n * e' := by have := relL_length hrel; omega
     refine ⟨_, _, _, hkk, ?_⟩
     by_cases hroom : len + n ≤ cp
     · -- in place
       have hrun := append_room hok hsrc' hroom q2 (by rw [q3]; exact q4) (by rw [q3]; exact hsz) o.type
       have hP : relP M μ (cs ++ ds) (cc.toList.take (0 + len * e') ++ news ++ cc.toList.drop (0 + len * e' + news.length)) := by
        rw [Nat.zero_add, ← hcl]
        have hple := relP_length q5
        have hmin : (cc.toList.take cs.length).length = cs.length := by rw [List.length_take]; exact Nat.min_eq_left hple
        refine relP_of_get fun i c hi => ?_
        by_cases h1 : i < cs.length
        · rw [List.getElem?_append_left h1] at hi
          obtain ⟨v, hv', hr'⟩ := relP_get q5 hi
          exact ⟨v, by rw [List.append_assoc, List.getElem?_append_left (by rw [hmin]; exact h1), List.getElem?_take_of_lt h1]; exact hv', hr'⟩
        · rw [List.getElem?_append_right (by omega)] at hi
          obtain ⟨v, hv', hr'⟩ := relL_get hrel hi
          have hlt : i - cs.length < news.length := by
           rcases Nat.lt_or_ge (i - cs.length) news.length with h | h
           · exact h
           · rw [List.getElem?_eq_none h] at hv'; cases hv'
          refine ⟨v, ?_, hr'⟩
          rw [List.append_assoc, List.getElem?_append_right (by rw [hmin]; omega), hmin, List.getElem?_append_left hlt]
          exact hv'
       obtain ⟨R1, G1⟩ := R.write hk hμ q2 q4 (cs' := cs ++ ds) (c' := (cc.toList.take (0 + len * e') ++ news ++ cc.toList.drop (0 + len * e' + news.length)).toArray) (by
        have h1 : 0 + len * e' + news.length ≤ cc.size := by
         rw [hnl, q3, Nat.zero_add, ← Nat.add_mul]
         exact Nat.le_trans (Nat.mul_le_mul_right _ hroom) (by omega)
        simp; omega) hP
       obtain ⟨R2, L2, G2⟩ := R1.shiftTo (k := k) (p := p) (cs := cs ++ ds) (x := (b, sz)) (by rw [Heap.get_set, if_pos rfl]) hμ hp hfree
       have hg : (((H.set k (.cells (cs ++ ds))).set k .dead).set p (.cells (cs ++ ds))).get = ((H.set k .dead).set p (.cells (cs ++ ds))).get := by
        funext j
        simp only [Heap.get_set]
        split
        · rfl
        · split <;> rfl
       refine ⟨.slice (some ⟨b, 0, none⟩) (len + n) cp, _, μ.put p (b, sz), ?_, ⟨R2.glob, R2.dom, fun j hj => by show ((H.set k .dead).set p (.cells (cs ++ ds))).get j = .dead; rw [← hg]; exact R2.top j hj, fun j ds' hj => R2.cells j ds' (by rw [hg]; exact hj), fun j es hj => R2.maps j es (by rw [hg]; exact hj), fun j k l c hj => have h := R2.iters j k l c (by rw [hg]; exact hj); ⟨fun e => h.1 (by rw [hg]; exact e), h.2⟩, fun j st id fr hj => R2.loops j st id fr (by rw [hg]; exact hj), fun i j b s t hi hj => R2.inj i j b s t (by rw [hg]; exact hi) (by rw [hg]; exact hj), R2.imm, fun j b s hj => R2.apart j b s (by rw [hg]; exact hj)⟩, ?_, L2, fun m hm => ?_, fun j hj => Pos.put_other _ _ hj⟩
       · rw [run_call_append ho hb, hv, hrun]; rfl
       · simp only [relV]
         exact ⟨b, sz, cp, Pos.put_same _ _ _, rfl, hroom, hsz, fun c0 h0 => by cases h0⟩
       · have G := (G1.grow.mono (show m ≤ H.nx by omega)).trans (G2 m hm)
         refine ⟨G.mem, G.pin, G.keep, fun b hb => G.own b ?_, G.fresh⟩
         obtain ⟨j, s, hj, hμj⟩ := hb
         exact ⟨j, s, by rw [hg]; exact hj, hμj⟩
     · -- a new array
       obtain ⟨olds, o1, o2, o3⟩ := cells_cells R hk hμ (off := 0) cs.length (by omega)
       simp only [List.drop_zero, List.take_length] at o2
       obtain ⟨zs, el', nc, hrun, hnc, hncs⟩ := append_grow hok (base := some ⟨b, 0, none⟩) (len := len) (cap := cp) (olds := olds) (firstCells_slice (by rw [o1, hcl]) o3) hsrc' (by omega) hfit (.inl hby) o.type
       exact Laid.of_new R hp hfree (some k) (fun _ e es => by cases e; rw [hk]; simp) (relP_app o2 hrel) (by rw [run_call_append ho hb, hv, hrun]; rfl) hnc (hncs (by rw [o1, hcl]))
   · exact hr.elim
 · rename_i cs len cap
   simp only [relV] at hs'
   obtain ⟨ds, n, hside, hdl, news, hrel, hsrc⟩ := htx hr
   obtain ⟨⟨rfl, hn0, hcl, hfit, hsc⟩, hkk⟩ := hside
   have hsrc' := hsrc (relL_one (by simpa using hsc) hrel)
   refine ⟨_, _, _, hkk, ?_⟩
   rcases hs' with ⟨b, q, cp, hv, hlc, hcap, hm⟩ | ⟨hv, rfl, rfl, _⟩ | ⟨b, q, sp, cp, hv, rfl, rfl, hcap⟩
   · obtain ⟨vs, h1, h2, h3⟩ := relM_cells R hm (len * e) hcl
     have hcp := hcap len rfl
     obtain ⟨zs, el', nc, hrun, hnc, hncs⟩ := append_grow hok (base := some ⟨b, q, none⟩) (len := len) (cap := cp) (olds := vs) (firstCells_slice h1 h3) hsrc' (by omega) hfit (.inl hby) o.type
     exact Laid.of_new R hp hfree none (fun _ e => by cases e) (relP_app h2 hrel) (by rw [run_call_append ho hb, hv, hrun]; rfl) hnc (hncs h1)
   · obtain ⟨zs, el', nc, hrun, hnc, hncs⟩ := append_grow hok (base := none) (len := 0) (cap := 0) (olds := []) (by simp [Builtin.firstCells]) hsrc' (by omega) hfit (.inl hby) o.type
     exact Laid.of_new R hp hfree none (fun _ e => by cases e) (relP_app (by simp [relL]) hrel) (by rw [run_call_append ho hb, hv, hrun]; rfl) hnc (hncs (by simp))
   · have hc0 := hcap 0 rfl
     obtain ⟨zs, el', nc, hrun, hnc, hncs⟩ := append_grow hok (base := some ⟨b, q, some sp⟩) (len := 0) (cap := cp) (olds := []) (firstCells_none _) hsrc' (by omega) hfit (.inl hby) o.type
     exact Laid.of_new R hp hfree none (fun _ e => by cases e) (relP_app (by simp [relL]) hrel) (by rw [run_call_append ho hb, hv, hrun]; rfl) hnc (hncs (by simp))
 · simp only [relV] at hs'
   obtain ⟨ds, n, hside, hdl, news, hrel, hsrc⟩ := htx hr
   obtain ⟨⟨hn0, hfit, hsc⟩, hkk⟩ := hside
   have hsrc' := hsrc (relL_one (by simpa using hsc) hrel)
   refine ⟨_, _, _, hkk, ?_⟩
   obtain ⟨zs, el', nc, hrun, hnc, hncs⟩ := append_grow hok (base := none) (len := 0) (cap := 0) (olds := []) (by simp [Builtin.firstCells]) hsrc' (by omega) (by rw [Nat.zero_add]; exact hfit) (.inl hby) o.type
   rw [Nat.zero_add] at hrun hnc
   exact Laid.of_new R hp hfree none (fun _ e => by cases e) (by have := relP_app (zs := zs) (M := M) (μ := μ) (cs := []) (olds := []) (by simp [relL]) hrel; simpa using this) (by rw [run_call_append ho hb, hs', hrun]; rfl) hnc (hncs (by simp))
 · exact hr.elim
structure Datum (P : Program) (o : Oper) (a : Act) (M : Mem) (μ : Pos) (H : Heap) (w : World) (v : AV) : Prop where
 ex : ∃ u w' M', (execOp a.eval o).run P w = .ok (.value u) w' ∧ Rel M' μ H w' ∧ relV M' v μ u ∧ Move M μ H w M' μ H w'
theorem datum_new {o : Oper} {c : Array Value} {el : TypeId} {cs : List AV} {len nc : Nat} {cap : Option Nat} (R : Rel M μ H w) (hrun : (execOp a.eval o).run P w = .ok (.value (.slice (some ⟨w.heap.size, 0, none⟩) len nc)) (w.drew.alloc (.cells c el))) (hnc : len ≤ nc)
 (hcap : ∀ c0, cap = some c0 → nc = c0) (hP : relP M Pos.none cs c.toList) : Datum P o a M μ H w (.dslice cs len cap) := by
 obtain ⟨R1, G1⟩ := R.drew.data c el
 refine ⟨_, _, _, hrun, R1, ?_, G1.of_drew⟩
 simp only [relV]
 exact .inl ⟨w.heap.size, 0, nc, rfl, hnc, hcap, relM_with G1.grow.mem hP⟩
theorem Rel.nil {M : Mem} {μ : Pos} {H : Heap} {w : World} (R : Rel M μ H w) : Rel M Pos.none Heap.nil w :=
 ⟨R.glob, fun _ _ => rfl, fun _ _ => rfl, fun k cs h => by simp [Heap.get, Heap.nil, bget] at h, fun k cs h => by simp [Heap.get, Heap.nil, bget] at h, fun j k l c h => by simp [Heap.get, Heap.nil, bget] at h, fun j st id fr h => by simp [Heap.get, Heap.nil, bget] at h, fun i j b s t h => by simp [Heap.get, Heap.nil, bget] at h, R.imm, fun k b s h => by simp [Heap.get, Heap.nil, bget] at h⟩
theorem own_nil {b : Nat} : ¬ Own Pos.none Heap.nil b := fun ⟨_, _, h, _⟩ => h rfl
theorem relM_list (R : Rel M μ H w) {cs : List AV} {b o n : Nat} (h : relM M cs b o) (hn : n ≤ cs.length) : ∃ vs, vs.length = n ∧ relL M (cs.take n) Pos.none vs ∧ ∀ j v, vs[j]? = some v → w.cell? (Addr.add ⟨b, o, none⟩ j) = some v :=
 relM_cells R.nil h n hn
theorem byteSl_spec {t : TypeId} (h : byteSl P t = true) : ∃ e, P.underlying t = some (.slice e) ∧ P.underlying e = some (.int .u8) := by
 unfold byteSl at h
 split at h
 · rename_i e he
   split at h
   · rename_i he2; exact ⟨e, he, he2⟩
   · cases h
 · cases h
theorem run_convert_bytes {src dst : TypeId} (h1 : byteSl P src = true) (h2 : isStr P dst = true) {v : Value} (hv : ∃ a n c, v = .slice a n c) (w : World) : (convert src dst v).run P w = (Conv.bytesToString v).run P w := by
 obtain ⟨e, he, he2⟩ := byteSl_spec h1
 obtain ⟨a, n, c, rfl⟩ := hv
 simp only [convert, Sem.run_bind, run_underlying he, run_underlying (isStr_spec h2), run_underlying he2, Result.andThen_ok]
theorem sound_sl2s {src dst : TypeId} {x : Operand} {x' : AX} {o : Oper} (ho : o.op = .convert src dst x) (h1 : byteSl P src = true) (h2 : isStr P dst = true) (h3 : okX x x' = true) (F : RelF N M μ fr a.tmps) (R : Rel M μ H w) {Hr : Nat → AB} (hHr : ∀ k cs, Hr k = .cells cs → H.get k = .cells cs) {K : AV → Prop}
 (hr : (DOp.sl2s x').run (AX.ev fr) Hr K) : ∃ v, K v ∧ Datum P o a M μ H w v := by
 have hx := rel_okX F h3
 have fin : ∀ {l : List Int} {ad : Option Addr} {n c : Nat}, a.eval x = .slice ad n c → K (.str (toBytes l)) → (Conv.bytesToString (.slice ad n c)).run P w = .ok (.string (toBytes l)) w → ∃ v, K v ∧ Datum P o a M μ H w v := by
  intro l ad n c hv hk hrun
  refine ⟨_, hk, .string (toBytes l), w, M, ?_, R, by simp only [relV], Move.refl _ _ _ _⟩
  simp only [execOp, ho, hv, Sem.run_bind, run_convert_bytes h1 h2 ⟨ad, n, c, rfl⟩, hrun, Result.andThen_ok, Sem.run_pure]
 have some' : ∀ {l : List Int} {ad : Addr} {n c : Nat} {vs : List Value}, a.eval x = .slice (some ad) n c → vs.length = n → vs = l.map (Value.int .u8) → (∀ j v, vs[j]? = some v → w.cell? (ad.add j) = some v) → K (.str (toBytes l)) → ∃ v, K v ∧ Datum P o a M μ H w v := by
  intro l ad n c vs hv hl hvs hc hk
  refine fin hv hk ?_
  have := run_loadCells_list (P := P) w ad vs hc
  rw [hl, hvs] at this
  exact run_bytesToString w ad n c l this
 simp only [DOp.run] at hr
 unfold srcK at hr
 split at hr
 · rename_i cs n cap hc
   rw [hc] at hx; simp only [relV] at hx
   obtain ⟨hn, hb⟩ := hr
   rw [Nat.mul_one] at hn hb
   obtain ⟨l, h4, hk⟩ := hb.ex
   rcases hx with ⟨b, q, c, hv, _, _, hm⟩ | ⟨hv, rfl, rfl, _⟩ | ⟨b, q, sp, c, hv, rfl, rfl, _⟩
   · obtain ⟨vs, q1, q2, q3⟩ := relM_list R hm hn
     exact some' hv q1 (bytesOf_rel h4 q2) q3 hk
   · simp [bytesOf] at h4; subst h4
     exact fin hv hk (by simp only [Conv.bytesToString, Sem.run_pure]; rfl)
   · simp [bytesOf] at h4; subst h4
     exact some' (vs := []) hv rfl rfl (fun j v h => by simp at h) hk
 · rename_i hc
   rw [hc] at hx; simp only [relV] at hx
   obtain ⟨l, h4, hk⟩ := hr.ex
   simp [bytesOf] at h4; subst h4
   exact fin hx hk (by simp only [Conv.bytesToString, Sem.run_pure]; rfl)
 · rename_i k off n cap e' hc
   rw [hc] at hx; simp only [relV] at hx
   obtain ⟨b, sz, c, hμ, hv, _⟩ := hx
   split at hr
   · rename_i cs hcs
     obtain ⟨hn, hb⟩ := hr
     obtain ⟨l, h4, hk⟩ := hb.ex
     obtain ⟨vs, q1, q2, q3⟩ := cells_cells R (hHr _ _ hcs) hμ (n * 1) hn
     exact some' hv (by rw [q1, Nat.mul_one]) (bytesOf_rel h4 q2) q3 hk
   · exact hr.elim
 · exact hr.elim
theorem dop_sound {o : Oper} {q : DOp} (h : okD P o.op q = true) (F : RelF N M μ fr a.tmps) (R : Rel M μ H w) {Hr : Nat → AB} (hHr : ∀ k cs, Hr k = .cells cs → H.get k = .cells cs) {K : AV → Prop} (hr : q.run (AX.ev fr) Hr K) : ∃ v, K v ∧ Datum P o a M μ H w v := by
 unfold okD at h
 split at h
 · rename_i t n ps e len zero parts hop
   simp only [DOp.run] at hr
   obtain ⟨us, ds, el, h1, h2, h3, h4⟩ := sound_bs hop h F hr w
   cases hn : noLocB ds with
   | false => simp [hn] at h4
   | true =>
    simp only [hn, cond_true] at h4
    obtain ⟨R1, G1⟩ := R.data us el
    refine ⟨_, h4, _, _, _, h1, R1, ?_, G1⟩
    simp only [relV]
    exact .inl ⟨w.heap.size, 0, len, rfl, Nat.le_refl _, fun c0 h0 => by cases h0; rfl, relM_with G1.grow.mem (relP_of_relL (noLocB_spec hn h2))⟩
 · rename_i c e bytes s x hop
   split at h
   · rename_i s' x' ts hb
     simp only [Bool.and_eq_true] at h
     obtain ⟨⟨⟨q1, q2⟩, q3⟩, q4⟩ := h
     have hby : 0 < bytes := by simpa [Nat.blt_eq] using q2
     have hs := rel_okX F q3
     have hx := rel_okX F q4
     simp only [DOp.run] at hr
     have src : ∀ {ds : List AV} {n : Nat} {cap : Option Nat}, relV M (.dslice ds n cap) μ (a.eval x') → n * e ≤ ds.length → (∀ c ∈ ds.take (n * e), scal c = true) → ∃ news, relL M (ds.take (n * e)) Pos.none news ∧ news.length = n * e ∧ ∀ tx, isSlice P tx = true → Src P e tx (a.eval x') n news w := by
      intro ds n cap hx hn hsc
      simp only [relV] at hx
      rcases hx with ⟨b, q, c, hv, _, _, hm⟩ | ⟨hv, rfl, rfl, _⟩ | ⟨b, q, sp, c, hv, rfl, rfl, _⟩
      · obtain ⟨vs, h1, h2, h3⟩ := relM_list R hm hn
        refine ⟨vs, h2, h1, fun tx htx => ?_⟩
        obtain ⟨et, het⟩ := isSlice_spec htx
        rw [hv]; exact Src.ofSlice w het _ n c vs h1 h3 (relL_one (by simpa using hsc) h2)
      · refine ⟨[], by simp [relL], by simp, fun tx htx => ?_⟩
        obtain ⟨et, het⟩ := isSlice_spec htx
        rw [hv]; exact Src.ofNil w het 0
      · refine ⟨[], by simp [relL], by simp, fun tx htx => ?_⟩
        obtain ⟨et, het⟩ := isSlice_spec htx
        rw [hv]; exact Src.ofSlice w het _ 0 c [] (by simp) (fun j u h => by simp at h) (fun v hv => by cases hv)
     have zero : ∀ {base : Option Addr} {len cp n : Nat} {news : List Value}, news.length = n * e → n = 0 → (∀ tx, isSlice P tx = true → Src P e tx (a.eval x') n news w) → a.eval s' = .slice base len cp → (base = none ∨ ∃ a, base = some a) → len ≤ cp → (execOp a.eval o).run P w = .ok (.value (.slice base len cp)) w := by
      intro base len cp n news hnl hn hsrc hv hb' hl
      subst hn
      have : news = [] := List.eq_nil_of_length_eq_zero (by omega)
      subst this
      rw [run_call_append hop hb, hv, append_nil q1 hb' hsrc hl]; rfl
     split at hr
     · rename_i cs len cap ds n cap2 hcs hds
       rw [hcs] at hs; rw [hds] at hx
       obtain ⟨⟨rfl, hcl, hdl, hfit, hsc⟩, hk⟩ := hr
       obtain ⟨news, hrel, hnl, hsrc⟩ := src hx hdl hsc
       refine ⟨_, hk, ?_⟩
       simp only [relV] at hs
       rcases hs with ⟨b, q, cp, hv, hlc, hcap, hm⟩ | ⟨hv, rfl, rfl, hcap⟩ | ⟨b, q, sp, cp, hv, rfl, rfl, hcap⟩
       · have hcp := hcap len rfl
         by_cases hn0 : n = 0
         · have hrun := zero hnl hn0 hsrc hv (.inr ⟨_, rfl⟩) hlc
           refine ⟨_, w, M, hrun, R, ?_, Move.refl _ _ _ _⟩
           simp only [relV]
           refine .inl ⟨b, q, cp, by rw [hn0]; rfl, by omega, fun c0 h0 => (by cases h0), ?_⟩
           have : ds.take (n * e) = [] := by rw [hn0]; simp
           rw [this, List.append_nil]; exact relM_take _ hm
         · obtain ⟨vs, h1, h2, h3⟩ := relM_list R hm hcl
           obtain ⟨zs, el', nc, hrun, hnc, _⟩ := append_grow q1 (base := some ⟨b, q, none⟩) (len := len) (cap := cp) (olds := vs) (firstCells_slice h1 h3) hsrc (by omega) hfit (.inl hby) o.type
           exact datum_new R (by rw [run_call_append hop hb, hv, hrun]; rfl) hnc (fun c0 h0 => by cases h0) (relP_app h2 hrel)
       · by_cases hn0 : n = 0
         · have hrun := zero hnl hn0 hsrc hv (.inl rfl) (Nat.le_refl _)
           refine ⟨_, w, M, hrun, R, ?_, Move.refl _ _ _ _⟩
           simp only [relV]
           exact .inr (.inl ⟨trivial, by omega, by rw [hn0]; simp, fun c0 h0 => by cases h0⟩)
         · obtain ⟨zs, el', nc, hrun, hnc, _⟩ := append_grow q1 (base := none) (len := 0) (cap := 0) (olds := []) (by simp [Builtin.firstCells]) hsrc (by omega) hfit (.inl hby) o.type
           exact datum_new R (by rw [run_call_append hop hb, hv, hrun]; rfl) hnc (fun c0 h0 => by cases h0) (relP_app (by simp [relL]) hrel)
       · have hcp := hcap 0 rfl
         by_cases hn0 : n = 0
         · have hrun := zero hnl hn0 hsrc hv (.inr ⟨_, rfl⟩) (Nat.zero_le _)
           refine ⟨_, w, M, hrun, R, ?_, Move.refl _ _ _ _⟩
           simp only [relV]
           exact .inr (.inr ⟨b, q, sp, cp, rfl, by omega, by rw [hn0]; simp, fun c0 h0 => by cases h0⟩)
         · obtain ⟨zs, el', nc, hrun, hnc, _⟩ := append_grow q1 (base := some ⟨b, q, some sp⟩) (len := 0) (cap := cp) (olds := []) (firstCells_none _) hsrc (by omega) hfit (.inl hby) o.type
           exact datum_new R (by rw [run_call_append hop hb, hv, hrun]; rfl) hnc (fun c0 h0 => by cases h0) (relP_app (by simp [relL]) hrel)
     · rename_i cs len cap hcs hds
       rw [hcs] at hs; rw [hds] at hx
       obtain ⟨rfl, hk⟩ := hr
       refine ⟨_, hk, ?_⟩
       simp only [relV] at hs hx
       have hsrc : ∀ tx, isSlice P tx = true → Src P e tx (a.eval x') 0 [] w := fun tx htx => by
        obtain ⟨et, het⟩ := isSlice_spec htx
        rw [hx]; exact Src.ofNil w het 0
       rcases hs with ⟨b, q, cp, hv, hlc, hcap, hm⟩ | ⟨hv, rfl, rfl, hcap⟩ | ⟨b, q, sp, cp, hv, rfl, rfl, hcap⟩
       · have hrun := zero (n := 0) (news := []) (by simp) rfl hsrc hv (.inr ⟨_, rfl⟩) hlc
         refine ⟨_, w, M, hrun, R, ?_, Move.refl _ _ _ _⟩
         simp only [relV]
         exact .inl ⟨b, q, cp, rfl, hlc, fun c0 h0 => (by cases h0), hm⟩
       · have hrun := zero (n := 0) (news := []) (by simp) rfl hsrc hv (.inl rfl) (Nat.le_refl _)
         refine ⟨_, w, M, hrun, R, ?_, Move.refl _ _ _ _⟩
         simp only [relV]
         exact .inr (.inl ⟨trivial, trivial, trivial, fun c0 h0 => (by cases h0)⟩)
       · have hrun := zero (n := 0) (news := []) (by simp) rfl hsrc hv (.inr ⟨_, rfl⟩) (Nat.zero_le _)
         refine ⟨_, w, M, hrun, R, ?_, Move.refl _ _ _ _⟩
         simp only [relV]
         exact .inr (.inr ⟨b, q, sp, cp, rfl, trivial, trivial, fun c0 h0 => (by cases h0)⟩)
     · rename_i ds n cap2 hcs hds
       rw [hcs] at hs; rw [hds] at hx
       obtain ⟨⟨hdl, hfit, hsc⟩, hk⟩ := hr
       obtain ⟨news, hrel, hnl, hsrc⟩ := src hx hdl hsc
       refine ⟨_, hk, ?_⟩
       simp only [relV] at hs
       by_cases hn0 : n = 0
       · have hrun := zero hnl hn0 hsrc hs (.inl rfl) (Nat.le_refl _)
         refine ⟨_, w, M, hrun, R, ?_, Move.refl _ _ _ _⟩
         simp only [relV]
         exact .inr (.inl ⟨trivial, by omega, by rw [hn0]; simp, fun c0 h0 => by cases h0⟩)
       · obtain ⟨zs, el', nc, hrun, hnc, _⟩ := append_grow q1 (base := none) (len := 0) (cap := 0) (olds := []) (by simp [Builtin.firstCells]) hsrc (by omega) (by rw [Nat.zero_add]; exact hfit) (.inl hby) o.type
         rw [Nat.zero_add] at hrun hnc
         exact datum_new R (by rw [run_call_append hop hb, hs, hrun]; rfl) hnc (fun c0 h0 => by cases h0) (by have := relP_app (zs := zs) (M := M) (μ := Pos.none) (cs := []) (olds := []) (by simp [relL]) hrel; simpa using this)
     · exact hr.elim
   · cases h
 · rename_i t x lo hi e n x' lo' hi' hop
   simp only [Bool.and_eq_true] at h
   obtain ⟨⟨⟨q1, q2⟩, q3⟩, q4⟩ := h
   have hx := rel_okX F q2
   have hrun : ∀ {b q : Nat} {l h : Int}, a.eval x = .pointer (some ⟨b, q, none⟩) → ((lo = none ∧ l = 0) ∨ ∃ k, lo.map a.eval = some (.int k l)) → ((hi = none ∧ h = n) ∨ ∃ k, hi.map a.eval = some (.int k h)) → 0 ≤ l ∧ l ≤ h → h ≤ n →
    (execOp a.eval o).run P w = .ok (.value (.slice (some (if n = l.toNat then ⟨b, q, none⟩ else ⟨b, q + l.toNat * e, none⟩)) (h.toNat - l.toNat) (n - l.toNat))) w := by
    intro b q l h hv hl hh h1 h2
    unfold okAsub at q1
    split at q1
    · rename_i m el hu
      simp only [Bool.and_eq_true, beq_iff_eq] at q1
      obtain ⟨rfl, hsz⟩ := q1
      simp only [execOp, hop, hv, Option.map_none, Instr.sliceAt, Instr.sureAddr, Sem.run_bind, run_underlying hu, Result.andThen_ok, Sem.run_pure, run_bounds2 (P := P) (isS := false) (len := m) (cap := m) hl hh h1 h2, run_sizeOf hsz, add_addr]
    · rename_i arr hu
      split at q1
      · rename_i m el hu2
        simp only [Bool.and_eq_true, beq_iff_eq] at q1
        obtain ⟨rfl, hsz⟩ := q1
        simp only [execOp, hop, hv, Option.map_none, Instr.sliceAt, Instr.slice, asAddr, Sem.run_bind, run_underlying hu, run_underlying hu2, Result.andThen_ok, Sem.run_pure, run_bounds2 (P := P) (isS := false) (len := m) (cap := m) hl hh h1 h2, run_sizeOf hsz, add_addr]
      · cases q1
    · cases q1
   simp only [DOp.run] at hr
   split at hr
   · rename_i k off hc
     rw [hc] at hx; simp only [relV] at hx
     obtain ⟨b, sz, hμ, hv⟩ := hx
     split at hr
     · rename_i cs hcs
       obtain ⟨l, hr, hl⟩ := optI_spec q3 F hr
       obtain ⟨h, hr, hh⟩ := optI_spec q4 F hr
       obtain ⟨⟨c1, c2, c3, c4, c5⟩, hk⟩ := hr
       obtain ⟨b', sz', cc, el, fz, r1, r2, r3, r4, r5⟩ := R.cells k cs (hHr _ _ hcs)
       rw [hμ] at r1; cases r1
       have hple := relP_length r5
       refine ⟨_, hk, _, w, M, hrun hv hl hh ⟨c1, c3⟩ c4, R, ?_, Move.refl _ _ _ _⟩
       simp only [relV]
       refine ⟨b, sz, n - l.toNat, hμ, ?_, by omega, ?_, fun c0 h0 => by cases h0; rfl⟩
       · rw [if_neg (by omega)]; simp only [Value.slice.injEq, true_and, and_true]; omega
       · have e1 : (n - l.toNat) * e + l.toNat * e = n * e := by rw [← Nat.add_mul]; congr 1; omega
         simp only [Array.length_toList] at hple
         omega
     · exact hr.elim
   · rename_i cs hc
     rw [hc] at hx; simp only [relV] at hx
     obtain ⟨b, q, hv, hm⟩ := hx
     obtain ⟨l, hr, hl⟩ := optI_spec q3 F hr
     obtain ⟨h, hr, hh⟩ := optI_spec q4 F hr
     obtain ⟨⟨c1, c3, c4⟩, hk⟩ := hr
     refine ⟨_, hk, _, w, M, hrun hv hl hh ⟨c1, c3⟩ c4, R, ?_, Move.refl _ _ _ _⟩
     simp only [relV]
     refine .inl ⟨b, if n = l.toNat then q else q + l.toNat * e, n - l.toNat, ?_, by omega, fun c0 h0 => by cases h0; rfl, ?_⟩
     · split
       · simp only [Value.slice.injEq, true_and, and_true]; omega
       · simp only [Value.slice.injEq, true_and, and_true]; omega
     · split
       · have : (h - l).toNat * e = 0 := by rw [show (h - l).toNat = 0 by omega, Nat.zero_mul]
         rw [this]; simp [relM]
       · exact relM_take _ (relM_drop _ hm)
   · exact hr.elim
 · simp only [Bool.and_eq_true] at h
   exact sound_sl2s ‹_› h.1.1 h.1.2 h.2 F R hHr hr
 · cases h
end
end Go.Eng

namespace Go.Eng
open Go
variable [Globs]
section
variable {P : Program} {N : Nat} {M : Mem} {μ : Pos} {H : Heap} {fr : Fr} {a : Act} {w : World} {Hr : Nat → AB}
theorem srcK_det {e : Nat} {x : AV} {K : List AV → Nat → Prop} (h : srcK Hr e x K) : ∃ cs n, K cs n ∧ srcK Hr e x (fun cs' n' => cs' = cs ∧ n' = n) := by
 unfold srcK at h ⊢
 split at h
 · exact ⟨_, _, h.r, h.l, rfl, rfl⟩
 · exact ⟨_, _, h, rfl, rfl⟩
 · split at h
   · exact ⟨_, _, h.r, h.l, rfl, rfl⟩
   · exact h.elim
 · exact h.elim
theorem srcK_mono {e : Nat} {x : AV} {K K' : List AV → Nat → Prop} (hk : ∀ cs n, K cs n → K' cs n) (h : srcK Hr e x K) : srcK Hr e x K' := by
 unfold srcK at h ⊢
 split at h
 · exact ⟨h.l, hk _ _ h.r⟩
 · exact hk _ _ h
 · split at h
   · rename_i hq; exact ⟨h.l, hk _ _ h.r⟩
   · exact h.elim
 · exact h.elim
def appN (cur : Nat → AB) (Hr : Nat → AB) (p e bytes : Nat) (s x : AV) (K : AV → AB → Option Nat → Prop) : Prop := match s with
 | .slice k off len cap e' => appK cur Hr p e bytes (.slice k off len cap e') x fun v l kl => K v (.cells l) kl
 | .dslice cs len cap => srcK Hr e x fun ds n => Branch (decide (n = 0)) (K (.dslice cs len cap) .dead none) (Side (cap = some len ∧ len * e ≤ cs.length ∧ fits (len + n) bytes ∧ ∀ c ∈ ds, scal c = true) (K (.slice p 0 (len + n) none e) (.cells (cs.take (len * e) ++ ds)) none))
 | .nils => srcK Hr e x fun ds n => Branch (decide (n = 0)) (K .nils .dead none) (Side (fits n bytes ∧ ∀ c ∈ ds, scal c = true) (K (.slice p 0 n none e) (.cells ds) none))
 | _ => False
theorem Laid.idle {o : Oper} {p : Nat} {v : AV} {u : Value} (R : Rel M μ H w) (hfree : μ p = none) (hrun : (execOp a.eval o).run P w = .ok (.value u) w) (hv : relV M v μ u) : Laid P o a M μ H w p v ((killO H none).set p .dead) := by
 obtain ⟨R1, own⟩ := R.kill p (fun es h => by obtain ⟨_, _, _, _, h1, _⟩ := R.maps p es h; rw [hfree] at h1; cases h1)
 exact ⟨_, w, μ, hrun, R1, hv, Pos.le_refl _, fun n _ => ⟨Mem.le_refl _, fun _ _ => rfl, Keep.refl _ _, fun b hb => .inl (own b hb), fun _ _ _ h => .inl h⟩, fun _ _ => rfl⟩
theorem appN_laid {q0 : TypeId → Bool} {c : Call} {s x : Operand} {ts : List TypeId} {e bytes : Nat} {o : Oper} (ho : o.op = .call c) (hb : bcall c .append = some ([s, x], ts)) (hok : okAppendQ P q0 ts e bytes = true) (hby : 0 < bytes) {sv xv : AV} (hs' : relV M sv μ (a.eval s)) (htx : ∀ {K : List AV → Nat → Prop}, srcK Hr e xv K → ∃ ds n, K ds n ∧ ds.length = n * e ∧ ∃ news, relL M ds μ news ∧ ((∀ v ∈ news, v.oneCell' = true) → ∀ tx, q0 tx = true → Src P e tx (a.eval x) n news w))
 (R : Rel M μ H w) {p : Nat} (hp : p < H.nx) (hfree : μ p = none) {K : AV → AB → Option Nat → Prop} (hr : appN H.get Hr p e bytes sv xv K) :
 ∃ v ab kl, K v ab kl ∧ Laid P o a M μ H w p v ((killO H kl).set p ab) := by
 have fin : ∀ {K' : AV → List AV → Option Nat → Prop}, appK H.get Hr p e bytes sv xv K' → (∀ v l kl, K' v l kl → K v (.cells l) kl) → ∃ v ab kl, K v ab kl ∧ Laid P o a M μ H w p v ((killO H kl).set p ab) := by
  intro K' h hk
  obtain ⟨v, l, kl, h1, h2⟩ := append_laid ho hb hok hby hs' htx R hp hfree h
  exact ⟨v, _, kl, hk _ _ _ h1, h2⟩
 have nil : ∀ {base : Option Addr} {len cp : Nat}, srcK Hr e xv (fun _ n => n = 0) → a.eval s = .slice base len cp → (base = none ∨ ∃ a, base = some a) → len ≤ cp → (execOp a.eval o).run P w = .ok (.value (.slice base len cp)) w := by
  intro base len cp hn hv hb' hl
  obtain ⟨ds, n, hn0, hdl, news, hrel, hsrc⟩ := htx hn
  subst hn0
  have hds : ds = [] := List.eq_nil_of_length_eq_zero (by omega)
  subst hds
  have hnews : news = [] := by simpa [relL] using hrel
  subst hnews
  rw [run_call_append ho hb, hv, append_nil hok hb' (hsrc (by simp)) hl]; rfl
 unfold appN at hr
 split at hr
 · exact fin hr fun _ _ _ h => h
 · rename_i cs len cap
   obtain ⟨ds, n, h1, h2⟩ := srcK_det hr
   by_cases hn : n = 0
   · have hk := h1.yes (by simpa using hn)
     refine ⟨_, _, _, hk, ?_⟩
     have hz : srcK Hr e xv (fun _ n => n = 0) := srcK_mono (fun _ _ ⟨_, e2⟩ => by rw [e2]; exact hn) h2
     have hs := hs'
     simp only [relV] at hs
     rcases hs with ⟨b, q, cp, hv, hlc, hcap, hm⟩ | ⟨hv, rfl, rfl, hcap⟩ | ⟨b, q, sp, cp, hv, rfl, rfl, hcap⟩
     · exact Laid.idle R hfree (nil hz hv (.inr ⟨_, rfl⟩) hlc) (by simp only [relV]; exact .inl ⟨b, q, cp, rfl, hlc, hcap, hm⟩)
     · exact Laid.idle R hfree (nil hz hv (.inl rfl) (Nat.le_refl _)) (by simp only [relV]; exact .inr (.inl ⟨trivial, trivial, trivial, hcap⟩))
     · exact Laid.idle R hfree (nil hz hv (.inr ⟨_, rfl⟩) (Nat.zero_le _)) (by simp only [relV]; exact .inr (.inr ⟨b, q, sp, cp, rfl, trivial, trivial, hcap⟩))
   · have hk := h1.no (by simpa using hn)
     exact fin (K' := fun v l kl => K v (.cells l) kl) (by unfold appK; exact srcK_mono (fun _ _ ⟨e1, e2⟩ => by subst e1; subst e2; exact ⟨⟨hk.l.1, by omega, hk.l.2.1, hk.l.2.2.1, hk.l.2.2.2⟩, hk.r⟩) h2) fun _ _ _ h => h
 · obtain ⟨ds, n, h1, h2⟩ := srcK_det hr
   by_cases hn : n = 0
   · have hk := h1.yes (by simpa using hn)
     refine ⟨_, _, _, hk, ?_⟩
     have hz : srcK Hr e xv (fun _ n => n = 0) := srcK_mono (fun _ _ ⟨_, e2⟩ => by rw [e2]; exact hn) h2
     have hs := hs'
     simp only [relV] at hs
     exact Laid.idle R hfree (nil hz hs (.inl rfl) (Nat.le_refl _)) (by simp only [relV])
   · have hk := h1.no (by simpa using hn)
     exact fin (K' := fun v l kl => K v (.cells l) kl) (by unfold appK; exact srcK_mono (fun _ _ ⟨e1, e2⟩ => by subst e1; subst e2; exact ⟨⟨by omega, hk.l.1, hk.l.2⟩, hk.r⟩) h2) fun _ _ _ h => h
 · exact hr.elim
def appF0 (cur : Nat → AB) (Hr : Nat → AB) (p e bytes : Nat) (s x : AV) (K : AV → AB → Option Nat → Prop) : Prop := match s with
 | .slice k off len (some c) e' => match cur k with
  | .cells cs => srcK Hr e x fun ds n => Side (e' = e ∧ c = len ∧ 0 < n ∧ off + len * e ≤ cs.length ∧ fits (len + n) bytes ∧ ∀ c ∈ ds, scal c = true) (K (.slice p 0 (len + n) none e) (.cells ((cs.drop off).take (len * e) ++ ds)) none)
  | _ => False
 | _ => False
theorem appF0_laid {q0 : TypeId → Bool} {c : Call} {s x : Operand} {ts : List TypeId} {e bytes : Nat} {o : Oper} (ho : o.op = .call c) (hb : bcall c .append = some ([s, x], ts)) (hok : okAppendQ P q0 ts e bytes = true) (hby : 0 < bytes) {sv xv : AV} (hs' : relV M sv μ (a.eval s)) (htx : ∀ {K : List AV → Nat → Prop}, srcK Hr e xv K → ∃ ds n, K ds n ∧ ds.length = n * e ∧ ∃ news, relL M ds μ news ∧ ((∀ v ∈ news, v.oneCell' = true) → ∀ tx, q0 tx = true → Src P e tx (a.eval x) n news w))
 (R : Rel M μ H w) {p : Nat} (hp : p < H.nx) (hfree : μ p = none) {K : AV → AB → Option Nat → Prop} (hr : appF0 H.get Hr p e bytes sv xv K) :
 ∃ v ab kl, K v ab kl ∧ Laid P o a M μ H w p v ((killO H kl).set p ab) := by
 unfold appF0 at hr
 split at hr
 · rename_i k off len c0 e'
   simp only [relV] at hs'
   obtain ⟨b, sz, cp, hμ, hv, hlc, hsz, hcap⟩ := hs'
   split at hr
   · rename_i cs hk
     obtain ⟨ds, n, hside, hdl, news, hrel, hsrc⟩ := htx hr
     obtain ⟨⟨rfl, rfl, hn0, hcl, hfit, hsc⟩, hkk⟩ := hside
     have hsrc' := hsrc (relL_one (by simpa using hsc) hrel)
     have hcp := hcap _ rfl
     refine ⟨_, _, _, hkk, ?_⟩
     obtain ⟨olds, o1, o2, o3⟩ := cells_cells R hk hμ (off := off) (c0 * e') hcl
     obtain ⟨zs, el', nc, hrun, hnc, hncs⟩ := append_grow hok (base := some ⟨b, off, none⟩) (len := c0) (cap := cp) (olds := olds) (firstCells_slice o1 o3) hsrc' (by omega) hfit (.inl hby) o.type
     exact Laid.of_new R hp hfree none (fun _ e => by cases e) (relP_app o2 hrel) (by rw [run_call_append ho hb, hv, hrun]; rfl) hnc (hncs o1)
   · exact hr.elim
 · exact hr.elim
def appF (cur : Nat → AB) (Hr : Nat → AB) (p e bytes : Nat) (s x : AV) (K : AV → AB → Option Nat → Prop) : Prop := appN cur Hr p e bytes s x K ∨ appF0 cur Hr p e bytes s x K
theorem appF_laid {q0 : TypeId → Bool} {c : Call} {s x : Operand} {ts : List TypeId} {e bytes : Nat} {o : Oper} (ho : o.op = .call c) (hb : bcall c .append = some ([s, x], ts)) (hok : okAppendQ P q0 ts e bytes = true) (hby : 0 < bytes) {sv xv : AV} (hs' : relV M sv μ (a.eval s)) (htx : ∀ {K : List AV → Nat → Prop}, srcK Hr e xv K → ∃ ds n, K ds n ∧ ds.length = n * e ∧ ∃ news, relL M ds μ news ∧ ((∀ v ∈ news, v.oneCell' = true) → ∀ tx, q0 tx = true → Src P e tx (a.eval x) n news w))
 (R : Rel M μ H w) {p : Nat} (hp : p < H.nx) (hfree : μ p = none) {K : AV → AB → Option Nat → Prop} (hr : appF H.get Hr p e bytes sv xv K) :
 ∃ v ab kl, K v ab kl ∧ Laid P o a M μ H w p v ((killO H kl).set p ab) := by
 rcases hr with hr | hr
 · exact appN_laid ho hb hok hby hs' htx R hp hfree hr
 · exact appF0_laid ho hb hok hby hs' htx R hp hfree hr
def LOp.run (ev : AX → AV) (cur : Nat → AB) (Hr : Nat → AB) (p : Nat) (K : AV → AB → Option Nat → Prop) : LOp → Prop
 | .bslice e len zero parts => buildK ev (parts.map fun x => (x.1, e, x.2)) (rep zero len) fun cs => K (.slice p 0 len (some len) e) (.cells cs) none
 | .append e bytes s x => appN cur Hr p e bytes (ev s) (ev x) K
 | .appendS bytes s x => appN cur Hr p 1 bytes (ev s) (strD (ev x)) K
 | .appendF e bytes s x => appF cur Hr p e bytes (ev s) (ev x) K
 | .make e bytes zero n => match ev n with
  | .int _ i => Side (0 ≤ i ∧ (bytes : Int) * i ≤ 281474976710656 ∧ i ≤ 9223372036854775807) (K (.slice p 0 i.toNat (some i.toNat) e) (.cells (rep zero i.toNat)) none)
  | _ => False
 | .makec e bytes zero n c => match ev n, ev c with
  | .int _ i, .int _ j => Side (0 ≤ i ∧ i ≤ j ∧ (bytes : Int) * j ≤ 281474976710656 ∧ j ≤ 9223372036854775807) (K (.slice p 0 i.toNat (some j.toNat) e) (.cells (rep zero j.toNat)) none)
  | _, _ => False
 | .s2b x => match ev x with
  | .str s => K (.slice p 0 s.size none 1) (.cells (strCells s)) none
  | _ => False
theorem rep_len {zero : List AV} : ∀ n, (rep zero n).length = n * zero.length
 | 0 => by simp [rep]
 | n + 1 => by simp only [rep, List.length_append, rep_len n, Nat.add_mul]; omega
theorem relP_made {M : Mem} {μ : Pos} {zero : List AV} {z : Array Value} (h : relL M zero μ z.toList) (n : Nat) : relP M μ (rep zero n) (madeCells z (n * zero.length)).toList := by
 refine relP_of_get fun i c hi => ?_
 have hz : z.size = zero.length := by have := relL_length h; simpa using this
 have hlt : i < n * zero.length := by
  have := (List.getElem?_eq_some_iff.1 hi).1
  rwa [rep_len] at this
 have h0 : 0 < zero.length := by
  rcases Nat.eq_zero_or_pos zero.length with e | e
  · rw [e] at hlt; simp at hlt
  · exact e
 rw [rep_get rfl n i hlt] at hi
 obtain ⟨v, hv, hr⟩ := relL_get h hi
 refine ⟨v, ?_, hr⟩
 have hm : i % z.size < z.size := Nat.mod_lt _ (by omega)
 have hv' : z[i % z.size]? = some v := by rw [hz]; simpa using hv
 have hget : z[i % z.size]! = v := by
  rw [getElem!_pos z (i % z.size) hm]
  exact Option.some.inj ((getElem?_pos z (i % z.size) hm).symm.trans hv')
 simp only [madeCells, Array.toList_map, Array.toList_range, List.getElem?_map]
 rw [List.getElem?_range hlt]
 simp [hget]
theorem sound_make {t : TypeId} {l c : Operand} {e bytes : Nat} {zero : List AV} {n : AX} {o : Oper} (ho : o.op = .makeSlice t l c) (h1 : okMake P t e bytes zero = true) (h2 : okX l n = true) (h3 : okX c n = true) (F : RelF N M μ fr a.tmps) (R : Rel M μ H w) {p : Nat} (hp : p < H.nx) (hfree : μ p = none) {K : AV → AB → Option Nat → Prop}
 (hr : (LOp.make e bytes zero n).run (AX.ev fr) H.get Hr p K) : ∃ v ab kl, K v ab kl ∧ Laid P o a M μ H w p v ((killO H kl).set p ab) := by
 have hl := rel_okX F h2
 have hc := rel_okX F h3
 simp only [LOp.run] at hr
 split at hr
 · rename_i k i hn
   rw [hn] at hl hc
   have hl := rel_int hl
   have hc := rel_int hc
   obtain ⟨⟨q1, q2, q3⟩, hk⟩ := hr
   unfold okMake at h1
   split at h1
   · rename_i el hu
     split at h1
     · rename_i inf hi
       simp only [Bool.and_eq_true, beq_iff_eq] at h1
       obtain ⟨⟨⟨rfl, rfl⟩, hz⟩, h1⟩ := h1
       split at h1
       · rename_i z hzz
         have hrel : relL M zero μ z.cells.toList := rel_okVs h1
         have hrun := run_make (P := P) w t el inf z hu hi hzz k k i i q1 (Int.le_refl _) q2 q3
         rw [← hz] at hrun
         obtain ⟨R2, L, G⟩ := R.lay (p := p) (el := el) hp hfree (relP_made hrel i.toNat)
         have hrun2 : (execOp a.eval o).run P w = .ok (.value (.slice (some ⟨w.heap.size, 0, none⟩) i.toNat i.toNat)) (w.alloc (.cells (madeCells z.cells (i.toNat * zero.length)) el)) := by
          simp only [execOp, ho, hl, hc, Sem.run_bind, hrun, Result.andThen_ok, Sem.run_pure]
         refine ⟨_, _, _, hk, _, _, _, hrun2, R2, ?_, L, fun n hn => G n hn, fun j hj => Pos.put_other _ _ hj⟩
         simp only [relV]
         exact ⟨w.heap.size, _, i.toNat, Pos.put_same _ _ _, rfl, Nat.le_refl _, by rw [size_madeCells, hz]; omega, fun c0 h0 => by cases h0; rfl⟩
       · cases h1
     · cases h1
   · cases h1
 · exact hr.elim
theorem sound_makec {t : TypeId} {l c : Operand} {e bytes : Nat} {zero : List AV} {n c' : AX} {o : Oper} (ho : o.op = .makeSlice t l c) (h1 : okMake P t e bytes zero = true) (h2 : okX l n = true) (h3 : okX c c' = true) (F : RelF N M μ fr a.tmps) (R : Rel M μ H w) {p : Nat} (hp : p < H.nx) (hfree : μ p = none) {K : AV → AB → Option Nat → Prop}
 (hr : (LOp.makec e bytes zero n c').run (AX.ev fr) H.get Hr p K) : ∃ v ab kl, K v ab kl ∧ Laid P o a M μ H w p v ((killO H kl).set p ab) := by
 have hl := rel_okX F h2
 have hc := rel_okX F h3
 simp only [LOp.run] at hr
 split at hr
 · rename_i k i k' jj hn hn'
   rw [hn] at hl
   rw [hn'] at hc
   have hl := rel_int hl
   have hc := rel_int hc
   obtain ⟨⟨q1, q4, q2, q3⟩, hk⟩ := hr
   unfold okMake at h1
   split at h1
   · rename_i el hu
     split at h1
     · rename_i inf hi
       simp only [Bool.and_eq_true, beq_iff_eq] at h1
       obtain ⟨⟨⟨rfl, rfl⟩, hz⟩, h1⟩ := h1
       split at h1
       · rename_i z hzz
         have hrel : relL M zero μ z.cells.toList := rel_okVs h1
         have hrun := run_make (P := P) w t el inf z hu hi hzz k k' i jj q1 q4 q2 q3
         rw [← hz] at hrun
         obtain ⟨R2, L, G⟩ := R.lay (p := p) (el := el) hp hfree (relP_made hrel jj.toNat)
         have hrun2 : (execOp a.eval o).run P w = .ok (.value (.slice (some ⟨w.heap.size, 0, none⟩) i.toNat jj.toNat)) (w.alloc (.cells (madeCells z.cells (jj.toNat * zero.length)) el)) := by
          simp only [execOp, ho, hl, hc, Sem.run_bind, hrun, Result.andThen_ok, Sem.run_pure]
         refine ⟨_, _, _, hk, _, _, _, hrun2, R2, ?_, L, fun n hn => G n hn, fun j hj => Pos.put_other _ _ hj⟩
         simp only [relV]
         exact ⟨w.heap.size, _, jj.toNat, Pos.put_same _ _ _, rfl, by omega, by rw [size_madeCells, hz]; omega, fun c0 h0 => by cases h0; rfl⟩
       · cases h1
     · cases h1
   · cases h1
 · exact hr.elim
theorem sound_s2b {src dst : TypeId} {x : Operand} {x' : AX} {o : Oper} (ho : o.op = .convert src dst x) (h1 : isStr P src = true) (h2 : byteSl P dst = true) (h3 : okX x x' = true) (F : RelF N M μ fr a.tmps) (R : Rel M μ H w) {p : Nat} (hp : p < H.nx) (hfree : μ p = none) {K : AV → AB → Option Nat → Prop}
 (hr : (LOp.s2b x').run (AX.ev fr) H.get Hr p K) : ∃ v ab kl, K v ab kl ∧ Laid P o a M μ H w p v ((killO H kl).set p ab) := by
 have hx := rel_okX F h3
 simp only [LOp.run] at hr
 split at hr
 · rename_i s hs
   rw [hs] at hx
   have hx := rel_str hx
   unfold byteSl at h2
   split at h2
   · rename_i e he
     have hq : P.underlying e = some (.int .u8) := by
      split at h2
      · assumption
      · cases h2
     have hrun := run_bytes_of_string (P := P) w src dst e s (isStr_spec h1) he hq
     have hrel : relP M μ (strCells s) (bytesRow s (grownCap w s.size 0 e)).toList := by
      have := strCells_rel (M := M) (μ := μ) s
      refine relP_of_get fun i c hi => ?_
      obtain ⟨v, hv, hr⟩ := relL_get this hi
      refine ⟨v, ?_, hr⟩
      have e1 : (bytesRow s (grownCap w s.size 0 e)).toList = byteCells s ++ List.replicate (grownCap w s.size 0 e - s.size) (.int .u8 0) := by
       simp [bytesRow, byteCells]
      rw [e1, List.getElem?_append_left]
      · exact hv
      · rcases Nat.lt_or_ge i (byteCells s).length with h | h
        · exact h
        · rw [List.getElem?_eq_none h] at hv; cases hv
     obtain ⟨R2, L, G⟩ := R.drew.layF (p := p) (el := e) (fz := ((bytesRow s (grownCap w s.size 0 e)).size, (bytesRow s (grownCap w s.size 0 e)).size + 1)) hp hfree (.inr (Nat.le_refl _)) hrel
     have hcap : s.size ≤ grownCap w s.size 0 e := by simp only [grownCap, Question.cut]; omega
     have hsz : (bytesRow s (grownCap w s.size 0 e)).size = grownCap w s.size 0 e := by
      have : s.data.size = s.size := rfl
      simp only [bytesRow, Array.size_append, Array.size_map, Array.size_replicate, this]; omega
     refine ⟨_, _, _, hr, .slice (some ⟨w.heap.size, 0, none⟩) s.size (grownCap w s.size 0 e), _, _, ?_, R2, ?_, L, fun n hn => ?_, fun j hj => Pos.put_other _ _ hj⟩
     · simp only [execOp, ho, hx, Sem.run_bind, hrun, Result.andThen_ok, Sem.run_pure]
     · simp only [relV]
       exact ⟨w.heap.size, _, grownCap w s.size 0 e, Pos.put_same _ _ _, rfl, hcap, by rw [hsz]; omega, fun c0 h0 => by cases h0⟩
     · have G := G n hn
       exact ⟨G.mem, G.pin, ⟨G.keep.os, G.keep.tape, G.keep.output, G.keep.size, G.keep.block⟩, G.own, G.fresh⟩
   · cases h2
 · exact hr.elim
theorem srcK_str {x : Operand} {xv : AV} (hx : relV M xv μ (a.eval x)) {K : List AV → Nat → Prop} (hk : srcK Hr 1 (strD xv) K) : ∃ ds n, K ds n ∧ ds.length = n * 1 ∧ ∃ news, relL M ds μ news ∧ ((∀ v ∈ news, v.oneCell' = true) → ∀ tx, isStr P tx = true → Src P 1 tx (a.eval x) n news w) := by
 unfold srcK strD at hk
 cases xv <;> simp only at hk
 rename_i s
 have hv := rel_str hx
 refine ⟨_, s.size, hk.r, ?_, byteCells s, ?_, fun _ tx htx => by rw [hv]; exact Src.ofString w (isStr_spec htx) s⟩
 · rw [List.length_take, strCells_len]; omega
 · rw [List.take_of_length_le (by rw [strCells_len]; omega)]; exact strCells_rel s
theorem lop_sound {o : Oper} {q : LOp} (h : okL P o.op q = true) (F : RelF N M μ fr a.tmps) (R : Rel M μ H w) {Hr : Nat → AB} (hHr : ∀ k cs, Hr k = .cells cs → H.get k = .cells cs) {p : Nat} (hp : p < H.nx) (hfree : μ p = none) {K : AV → AB → Option Nat → Prop}
 (hr : q.run (AX.ev fr) H.get Hr p K) : ∃ v ab kl, K v ab kl ∧ Laid P o a M μ H w p v ((killO H kl).set p ab) := by
 unfold okL at h
 split at h
 · rename_i t n ps e len zero parts hop
   simp only [LOp.run] at hr
   obtain ⟨us, ds, el, h1, h2, h3, h4⟩ := sound_bs hop h F hr w
   obtain ⟨R2, L, G⟩ := R.lay (p := p) (el := el) hp hfree (relP_of_relL h2)
   refine ⟨_, _, _, h4, _, _, _, h1, R2, ?_, L, fun n hn => G n hn, fun j hj => Pos.put_other _ _ hj⟩
   simp only [relV]
   exact ⟨w.heap.size, _, len, Pos.put_same _ _ _, rfl, Nat.le_refl _, by rw [h3]; omega, fun c0 h0 => by cases h0; rfl⟩
 · rename_i c e bytes s x hop
   split at h
   · rename_i s' x' ts hb
     simp only [Bool.and_eq_true] at h
     obtain ⟨⟨⟨q1, q2⟩, q3⟩, q4⟩ := h
     simp only [LOp.run] at hr
     exact appN_laid hop hb q1 (by simpa [Nat.blt_eq] using q2) (rel_okX F q3) (fun hk => srcK_src q1 (rel_okX F q4) R hHr hk) R hp hfree hr
   · cases h
 · rename_i c bytes s x hop
   split at h
   · rename_i s' x' ts hb
     simp only [Bool.and_eq_true] at h
     obtain ⟨⟨⟨q1, q2⟩, q3⟩, q4⟩ := h
     simp only [LOp.run] at hr
     exact appN_laid hop hb q1 (by simpa [Nat.blt_eq] using q2) (rel_okX F q3) (fun hk => srcK_str (rel_okX F q4) hk) R hp hfree hr
   · cases h
 · rename_i c e bytes s x hop
   split at h
   · rename_i s' x' ts hb
     simp only [Bool.and_eq_true] at h
     obtain ⟨⟨⟨q1, q2⟩, q3⟩, q4⟩ := h
     simp only [LOp.run] at hr
     exact appF_laid hop hb q1 (by simpa [Nat.blt_eq] using q2) (rel_okX F q3) (fun hk => srcK_src q1 (rel_okX F q4) R hHr hk) R hp hfree hr
   · cases h
 · simp only [Bool.and_eq_true] at h
   exact sound_make ‹_› h.1.1 h.1.2 h.2 F R hp hfree hr
 · simp only [Bool.and_eq_true] at h
   exact sound_makec ‹_› h.1.1 h.1.2 h.2 F R hp hfree hr
 · simp only [Bool.and_eq_true] at h
   exact sound_s2b ‹_› h.1.1 h.1.2 h.2 F R hp hfree hr
 · cases h
end
end Go.Eng

namespace Go.Eng
open Go
variable [Globs]

section
variable {P : Program} {M : Mem} {μ : Pos} {H : Heap} {w : World}
theorem Rel.layI (R : Rel M μ H w) {p : Nat} (hp : p < H.nx) (hfree : μ p = none) {k bm sz : Nat} {es0 : List (AV × AV)} {ents : Array MapEntry} {clock : Nat} (hk : H.get k = .map es0) (hμ : μ k = some (bm, sz)) (hb : w.heap[bm]? = some (.map ents clock)) (hE : relE M Pos.none es0 ents.toList) (hc1 : ∀ e ∈ ents.toList, e.born < clock) (hc2 : (ents.toList.map (·.born)).Nodup) :
 Rel M (μ.put p (w.heap.size, 0)) (H.set p (.iter k es0 none)) (w.alloc (.mapIter (some bm) clock #[] clock)) ∧ Pos.le μ (μ.put p (w.heap.size, 0)) ∧
  (∀ n, n ≤ p → Grow n M μ H w M (μ.put p (w.heap.size, 0)) (H.set p (.iter k es0 none)) (w.alloc (.mapIter (some bm) clock #[] clock))) := by
 have hle : Pos.le μ (μ.put p (w.heap.size, 0)) := Pos.le_put hfree _
 have hdead : H.get p = .dead := by
  cases hg : H.get p with
  | dead => rfl
  | cells ds => obtain ⟨b, sz, _, _, _, h, _⟩ := R.cells p ds hg; rw [hfree] at h; cases h
  | map es => obtain ⟨b, sz, _, _, h, _⟩ := R.maps p es hg; rw [hfree] at h; cases h
  | iter k left cur => obtain ⟨_, b, sz, h, _⟩ := R.iters p k left cur hg; rw [hfree] at h; cases h
  | loop st id fr => obtain ⟨b, sz, h, _⟩ := R.loops p st id fr hg; rw [hfree] at h; cases h
 have old : ∀ j b s, H.get j ≠ .dead → (μ.put p (w.heap.size, 0)) j = some (b, s) → μ j = some (b, s) ∧ b < w.heap.size := fun j b s hj hx => by
  have hjp : j ≠ p := fun e => hj (e ▸ hdead)
  rw [Pos.put_other μ _ hjp] at hx
  exact ⟨hx, R.own_lt ⟨j, s, hj, hx⟩⟩
 have new : ∀ b s, (μ.put p (w.heap.size, 0)) p = some (b, s) → b = w.heap.size := fun b s hx => by
  rw [Pos.put_same] at hx; simp at hx; exact hx.1.symm
 have ownlt : ∀ {j b s}, H.get j ≠ .dead → μ j = some (b, s) → b < w.heap.size := fun hj hx => R.own_lt ⟨_, _, hj, hx⟩
 have alive : ∀ j, (H.set p (.iter k es0 none)).get j ≠ .dead → j ≠ p → H.get j ≠ .dead := fun j hj hjp => by
  rw [Heap.get_set, if_neg (Ne.symm hjp)] at hj; exact hj
 refine ⟨⟨R.glob, fun k hk => ?_, fun j hj => ?_, fun j ds hj => ?_, fun j es hj => ?_, fun j k' left cur hj => ?_, R.recs_same (Mem.le_refl _) (fun j st id fr hj => ?_) hle (fun x hx _ => alloc_heap_lt w _ hx), fun i j x s t hi hj hx hy => ?_, fun x o v hv => ?_, fun j x s hj hx o => ?_⟩, hle, fun n hn => ⟨Mem.le_refl _, fun k hk => Pos.put_other μ _ (by omega), ⟨rfl, rfl, rfl, by simp, fun x hx _ => alloc_heap_lt w _ hx⟩, fun x hx => ?_, fun _ _ _ h => .inl h⟩⟩
 · have hk' : H.nx ≤ k := hk
   rw [Pos.put_other μ _ (by omega)]; exact R.dom k hk'
 · have hj' : H.nx ≤ j := hj
   rw [Heap.get_set, if_neg (by omega)]; exact R.top j hj'
 · rw [Heap.get_set] at hj
   split at hj
   · cases hj
   · obtain ⟨b', s', d, el', fz', h1, h2, h3, h4, h5⟩ := R.cells j ds hj
     exact ⟨b', s', d, el', fz', hle _ _ h1, by rw [alloc_heap_lt w _ (ownlt (by rw [hj]; simp) h1)]; exact h2, h3, h4, relP_mono (Mem.le_refl _) hle _ h5⟩
 · rw [Heap.get_set] at hj
   split at hj
   · cases hj
   · obtain ⟨b', s', ents, clock, h1, h2, h3, h4⟩ := R.maps j es hj
     exact ⟨b', s', ents, clock, hle _ _ h1, by rw [alloc_heap_lt w _ (ownlt (by rw [hj]; simp) h1)]; exact h2, relE_mono (Mem.le_refl _) hle h3, h4⟩
 · have hkp : p ≠ k := fun e => by rw [e, hμ] at hfree; cases hfree
   rw [Heap.get_set] at hj
   split at hj
   · rename_i hpj; subst hpj; cases hj
     refine ⟨?_, w.heap.size, 0, Pos.put_same _ _ _, bm, sz, ents, clock, clock, #[], clock, hle _ _ hμ, alloc_heap_new w _, by rw [alloc_heap_lt w _ (ownlt (by rw [hk]; simp) hμ)]; exact hb, hc1, ⟨Nat.le_refl _, Nat.le_refl _⟩, hc2, ?_, fun c hc => by cases hc⟩
     · rw [Heap.get_set, if_neg hkp, hk]; simp
     · have : ents.toList.filter (fun e => !(#[] : Array Nat).contains e.born) = ents.toList := by simp
       rw [this]; exact hE
   · have hal := (R.iters j k' left cur hj).1
     obtain ⟨_, b, s, g1, bm', s2, ents', clock', since, seen, last, g2, g3, g4, g5⟩ := R.iters j k' left cur hj
     refine ⟨?_, b, s, hle _ _ g1, bm', s2, ents', clock', since, seen, last, hle _ _ g2, by rw [alloc_heap_lt w _ (ownlt (by rw [hj]; simp) g1)]; exact g3, by rw [alloc_heap_lt w _ (ownlt hal g2)]; exact g4, g5⟩
     rw [Heap.get_set]; split
     · simp
     · exact hal
 · rw [Heap.get_set] at hj
   split at hj
   · cases hj
   · exact hj
 · by_cases hi' : i = p
   · by_cases hj' : j = p
     · omega
     · subst hi'
       have := new x s hx
       have := (old j x t (alive j hj hj') hy).2
       omega
   · by_cases hj' : j = p
     · subst hj'
       have := new x t hy
       have := (old i x s (alive i hi hi') hx).2
       omega
     · exact R.inj i j x s t (alive i hi hi') (alive j hj hj') (old i x s (alive i hi hi') hx).1 (old j x t (alive j hj hj') hy).1
 · rw [World.cell?_alloc_lt w _ ⟨x, o, none⟩ (R.cell_lt hv)]; exact R.imm x o v hv
 · by_cases hj' : j = p
   · subst hj'
     have hb := new x s hx
     cases hm : M x o with
     | none => rfl
     | some v => have := R.cell_lt hm; omega
   · exact R.apart j x s (alive j hj hj') (old j x s (alive j hj hj') hx).1 o
 · obtain ⟨k, s, hk, hμ⟩ := hx
   by_cases hk' : k = p
   · subst hk'; have := new x s hμ; exact .inr (by omega)
   · exact .inl ⟨k, s, alive k hk hk', (old k x s (alive k hk hk') hμ).1⟩
theorem Rel.pushI (R : Rel M μ H w) {k bm sz : Nat} {es0 : List (AV × AV)} {ents : Array MapEntry} {clock : Nat} (hk : H.get k = .map es0) (hμ : μ k = some (bm, sz)) (hb : w.heap[bm]? = some (.map ents clock)) (hE : relE M Pos.none es0 ents.toList) (hc1 : ∀ e ∈ ents.toList, e.born < clock) (hc2 : (ents.toList.map (·.born)).Nodup) :
 Rel M (μ.put H.nx (w.heap.size, 0)) (H.push (.iter k es0 none)) (w.alloc (.mapIter (some bm) clock #[] clock)) ∧ Move M μ H w M (μ.put H.nx (w.heap.size, 0)) (H.push (.iter k es0 none)) (w.alloc (.mapIter (some bm) clock #[] clock)) := by
 have R1 := R.room 1
 obtain ⟨h1, h2, h3⟩ := R1.layI (p := H.nx) (Nat.lt_succ_self _) (R.dom _ (Nat.le_refl _)) hk hμ hb hE hc1 hc2
 have G := h3 H.nx (Nat.le_refl _)
 exact ⟨h1, h2, ⟨G.mem, G.pin, G.keep, G.own, G.fresh⟩, Nat.le_succ _⟩
theorem relE_mem {ρ : Pos} : ∀ {es : List (AV × AV)} {l : List MapEntry} {e : MapEntry}, relE M ρ es l → e ∈ l → ∃ l1 a b l2 L1 L2, es = l1 ++ (a, b) :: l2 ∧ l = L1 ++ e :: L2 ∧ relV M a Pos.none e.key ∧ relV M b ρ e.val ∧ relE M ρ (l1 ++ l2) (L1 ++ L2)
 | [], l, e, h, he => by simp only [relE] at h; subst h; simp at he
 | (k, v) :: r, l, e, h, he => by
  simp only [relE] at h
  obtain ⟨e0, t, rfl, h1, h2, h3⟩ := h
  rcases List.mem_cons.1 he with rfl | he
  · exact ⟨[], k, v, r, [], t, rfl, rfl, h1, h2, h3⟩
  · obtain ⟨l1, a, b, l2, L1, L2, rfl, rfl, g1, g2, g3⟩ := relE_mem h3 he
    refine ⟨(k, v) :: l1, a, b, l2, e0 :: L1, L2, rfl, rfl, g1, g2, ?_⟩
    simp only [List.cons_append, relE]
    exact ⟨e0, _, rfl, h1, h2, g3⟩
theorem left_step {es L1 L2 : List MapEntry} {seen : Array Nat} {e : MapEntry} (hn : (es.map (·.born)).Nodup) (h : es.filter (fun x => !seen.contains x.born) = L1 ++ e :: L2) : es.filter (fun x => !(seen.push e.born).contains x.born) = L1 ++ L2 := by
 have h1 : es.filter (fun x => !(seen.push e.born).contains x.born) = (es.filter (fun x => !seen.contains x.born)).filter (fun x => x.born != e.born) := by
  rw [List.filter_filter]
  refine List.filter_congr fun x _ => ?_
  simp only [Array.contains_push]
  cases seen.contains x.born <;> simp [bne, Bool.beq_comm, eq_comm]
 rw [h1, h]
 have hs : (List.map (·.born) (L1 ++ e :: L2)).Nodup := by
  rw [← h]; exact List.Sublist.nodup (List.Sublist.map _ List.filter_sublist) hn
 simp only [List.map_append, List.map_cons, List.nodup_append, List.nodup_cons, List.mem_map, List.mem_cons] at hs
 have f1 : L1.filter (fun x => x.born != e.born) = L1 := by
  rw [List.filter_eq_self]
  intro x hx
  have := hs.2.2 x.born ⟨x, hx, rfl⟩ e.born (.inl rfl)
  simpa using this
 have f2 : L2.filter (fun x => x.born != e.born) = L2 := by
  rw [List.filter_eq_self]
  intro x hx
  have := hs.2.1.1
  simp only [bne_iff_ne, ne_eq]
  exact fun h => this ⟨x, hx, h⟩
 rw [List.filter_append, List.filter_cons, f1, f2]
 simp
theorem Rel.stepI (R : Rel M μ H w) {j0 k r s0 bm s2 : Nat} {left l' : List (AV × AV)} {cur : Option (AV × AV)} {o0 : Obj} {ents : Array MapEntry} {clock since : Nat} {seen : Array Nat} {e : MapEntry} {p : AV × AV} (hj0 : H.get j0 = .iter k left cur) (hμ : μ j0 = some (r, s0)) (hμk : μ k = some (bm, s2)) (hb : w.heap[r]? = some o0) (hbm : w.heap[bm]? = some (.map ents clock))
 (h5 : ∀ e ∈ ents.toList, e.born < since) (h6 : since ≤ clock) (h7 : (ents.toList.map (·.born)).Nodup) (hE : relE M Pos.none l' (ents.toList.filter fun x => !(seen.push e.born).contains x.born)) (he : e ∈ ents.toList) (hp1 : relV M p.1 Pos.none e.key) (hp2 : relV M p.2 Pos.none e.val) :
 Rel M μ (H.set j0 (.iter k l' (some p))) { w with heap := w.heap.setIfInBounds r (.mapIter (some bm) since (seen.push e.born) clock) } ∧ Move M μ H w M μ (H.set j0 (.iter k l' (some p))) { w with heap := w.heap.setIfInBounds r (.mapIter (some bm) since (seen.push e.born) clock) } := by
 have hne : H.get j0 ≠ .dead := by rw [hj0]; simp
 obtain ⟨esk, hesk⟩ := R.iter_map hj0
 have hkj : k ≠ j0 := fun e => by rw [e, hj0] at hesk; cases hesk
 have other : ∀ j b' s, H.get j ≠ .dead → μ j = some (b', s) → j ≠ j0 → b' ≠ r := fun j b' s hj hμ' hjk e => hjk (R.inj j j0 r s s0 hj hne (e ▸ hμ') hμ)
 refine ⟨⟨R.glob, R.dom, fun j hj => ?_, fun j ds hj => ?_, fun j es hj => ?_, fun j k' left cur hj => ?_, R.recs (Mem.le_refl _) (fun j st id fr hj => ?_), fun i j x s t hi hj hx hy => ?_, fun x o v hv => ?_, fun j x s hj hx o => ?_⟩, ⟨Pos.le_refl _, ⟨Mem.le_refl _, fun _ _ => rfl, ⟨rfl, rfl, rfl, by simp, fun x hx hno => (MapKept.heap_set hb).2 x (fun e => hno (e ▸ ⟨j0, s0, hne, hμ⟩))⟩, fun x hx => .inl (Own.set hne hx), fun _ _ _ h => .inl h⟩, Nat.le_refl _⟩⟩
 · rw [Heap.get_set]
   have := R.pos_lt hμ
   simp only [Heap.set] at hj
   rw [if_neg (by omega)]; exact R.top j hj
 · rw [Heap.get_set] at hj
   split at hj
   · cases hj
   · rename_i hjk
     obtain ⟨b', s', d, el', fz', h1, h2, h3, h4, h5⟩ := R.cells j ds hj
     exact ⟨b', s', d, el', fz', h1, by rw [(MapKept.heap_set hb).2 b' (other j b' s' (by rw [hj]; simp) h1 (Ne.symm hjk))]; exact h2, h3, h4, h5⟩
 · rw [Heap.get_set] at hj
   split at hj
   · cases hj
   · rename_i hjk
     obtain ⟨b', s', ents, clock, h1, h2, h3, h4⟩ := R.maps j es hj
     exact ⟨b', s', ents, clock, h1, by rw [(MapKept.heap_set hb).2 b' (other j b' s' (by rw [hj]; simp) h1 (Ne.symm hjk))]; exact h2, h3, h4⟩
 · rw [Heap.get_set] at hj
   split at hj
   · rename_i h; subst h; cases hj
     refine ⟨by rw [Heap.get_set, if_neg (Ne.symm hkj), hesk]; simp, r, s0, hμ, bm, s2, ents, clock, since, seen.push e.born, clock, hμk, (MapKept.heap_set hb).1, ?_, h5, ⟨h6, h6⟩, h7, hE, fun c hc => ?_⟩
     · rw [(MapKept.heap_set hb).2 bm (other k bm s2 (by rw [hesk]; simp) hμk hkj)]; exact hbm
     · cases hc; exact ⟨e, seen, rfl, rfl, he, hp1, hp2⟩
   · rename_i hjk
     obtain ⟨esk', hesk'⟩ := R.iter_map hj
     have hk' : k' ≠ j0 := fun e => by rw [e, hj0] at hesk'; cases hesk'
     obtain ⟨_, b, s, g1, bm', s2', ents', clock', since', seen', last, g2, g3, g4, g5⟩ := R.iters j k' left cur hj
     refine ⟨?_, b, s, g1, bm', s2', ents', clock', since', seen', last, g2, ?_, ?_, g5⟩
     · rw [Heap.get_set, if_neg (Ne.symm hk'), hesk']; simp
     · rw [(MapKept.heap_set hb).2 b (other j b s (by rw [hj]; simp) g1 (Ne.symm hjk))]; exact g3
     · rw [(MapKept.heap_set hb).2 bm' (other k' bm' s2' (by rw [hesk']; simp) g2 hk')]; exact g4
 · rw [Heap.get_set] at hj
   split at hj
   · cases hj
   · rename_i hjk
     exact ⟨j, fr, hj, fun x hx => hx, fun t v hv => hv, fun b2 s2 hx _ => (MapKept.heap_set hb).2 b2 (other j b2 s2 (by rw [hj]; simp) hx (Ne.symm hjk))⟩
 · have al : ∀ j, (H.set j0 (.iter k l' (some p))).get j ≠ .dead → H.get j ≠ .dead := fun j hj => by
    rw [Heap.get_set] at hj; split at hj
    · subst_vars; exact hne
    · exact hj
   exact R.inj i j x s t (al i hi) (al j hj) hx hy
 · rw [World.cell?_of_block (w := w) (a := ⟨x, o, none⟩) ((MapKept.heap_set hb).2 x (fun e => by
    have := R.apart j0 r s0 hne hμ o
    rw [e] at hv; rw [hv] at this; cases this))]
   exact R.imm x o v hv
 · have : H.get j ≠ .dead := by
    rw [Heap.get_set] at hj; split at hj
    · subst_vars; exact hne
    · exact hj
   exact R.apart j x s this hx o
end
end Go.Eng

