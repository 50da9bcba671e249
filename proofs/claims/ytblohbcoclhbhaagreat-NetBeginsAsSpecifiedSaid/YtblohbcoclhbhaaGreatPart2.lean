/- Part of a proof about the given program: lemmas that the other parts use. -/
import Derived.Test.YtblohbcoclhbhaaGreatPart1
import Derived.StillTail
import Derived.Scope
import Derived.RangeFuncRecord
import Derived.OrdersIn
import Derived.TacticsIn
import Derived.Sort.LoopGhostIn

set_option linter.all false
set_option linter.unusedSimpArgs false
set_option linter.unusedVariables false
namespace Go.Eng
open Go
variable [Globs]

mutual
def noLoc : AV → Bool
 | .ptr _ _ | .slice _ _ _ _ _ | .map _ | .yld _ => false
 | .func _ cs | .agg cs | .tuple cs | .meth _ cs => noLocL cs
 | .ifc _ c => noLoc c
 | _ => true
def noLocL : List AV → Bool
 | [] => true
 | c :: cs => noLoc c && noLocL cs
end
section
variable {M : Mem} {μ μ' : Pos}
mutual
theorem relV_data : ∀ (c : AV) {v : Value}, noLoc c = true → relV M c μ v → relV M c μ' v
 | .any, _, _, _ => by simp only [relV]
 | .bool b, _, _, h => by simpa only [relV] using h
 | .int k n, _, _, h => by simpa only [relV] using h
 | .str s, _, _, h => by simpa only [relV] using h
 | .nilp, _, _, h => by simpa only [relV] using h
 | .ptr _ _, _, h, _ => by simp [noLoc] at h
 | .dptr cs, _, _, h => by simpa only [relV] using h
 | .nils, _, _, h => by simpa only [relV] using h
 | .slice _ _ _ _ _, _, h, _ => by simp [noLoc] at h
 | .dslice cs l c, _, _, h => by simpa only [relV] using h
 | .nilm, _, _, h => by simpa only [relV] using h
 | .map _, _, h, _ => by simp [noLoc] at h
 | .yld _, _, h, _ => by simp [noLoc] at h
 | .nilf, _, _, h => by simpa only [relV] using h
 | .nili, _, _, h => by simpa only [relV] using h
 | .ifc t c, _, hn, h => by simp only [relV, noLoc] at *; obtain ⟨x, h1, h2⟩ := h; exact ⟨x, h1, relV_data c hn h2⟩
 | .meth g cs, _, hn, h => by simp only [relV, noLoc] at *; obtain ⟨vs, h1, h2⟩ := h; exact ⟨vs, h1, relL_data cs hn h2⟩
 | .func g cs, _, hn, h => by simp only [relV, noLoc] at *; obtain ⟨vs, h1, h2⟩ := h; exact ⟨vs, h1, relL_data cs hn h2⟩
 | .agg cs, _, hn, h => by simp only [relV, noLoc] at *; obtain ⟨vs, h1, h2⟩ := h; exact ⟨vs, h1, relL_data cs hn h2⟩
 | .tuple cs, _, hn, h => by simp only [relV, noLoc] at *; obtain ⟨vs, h1, h2⟩ := h; exact ⟨vs, h1, relL_data cs hn h2⟩
theorem relL_data : ∀ (cs : List AV) {vs : List Value}, noLocL cs = true → relL M cs μ vs → relL M cs μ' vs
 | [], _, _, h => by simpa only [relL] using h
 | c :: cs, _, hn, h => by
  simp only [relL, noLocL, Bool.and_eq_true] at *; obtain ⟨v, r, h1, h2, h3⟩ := h
  exact ⟨v, r, h1, relV_data c hn.1 h2, relL_data cs hn.2 h3⟩
end
end

inductive KK where
 | c (s : Sc)
 | f (ks : List Sc)
def cellOk : Sc → AV → Bool
 | .b, .bool _ => true
 | .i k, .int j _ => j == k
 | _, _ => false
def cellsOk : List Sc → List AV → Bool
 | [], [] => true
 | .i k :: ks, .int j _ :: cs => j == k && cellsOk ks cs
 | _, _ => false
def keyOk : KK → AV → Bool
 | .c s, v => cellOk s v
 | .f ks, .agg cs => cellsOk ks cs
 | _, _ => false
def eqL : List Sc → List AV → List AV → Option Bool
 | [], [], [] => some true
 | .i k :: ks, .int j a :: cs, .int j' b :: ds => bif (j == k && j' == k) then (match eqL ks cs ds with
  | some r => some (decide (a = b) && r)
  | none => none) else none
 | _, _, _ => none
def eqK : KK → AV → AV → Option Bool
 | .c s, a, b => eqOne s a b
 | .f ks, .agg cs, .agg ds => eqL ks cs ds
 | _, _, _ => none
def mfind (kk : KK) (key : AV) : List (AV × AV) → Option (Option AV)
 | [] => some none
 | (k, v) :: r => match eqK kk key k with
  | some true => some (some v)
  | some false => mfind kk key r
  | none => none
def mput (kk : KK) (key v : AV) : List (AV × AV) → Option (List (AV × AV))
 | [] => some [(key, v)]
 | (k, u) :: r => match eqK kk key k with
  | some true => some ((key, v) :: r)
  | some false => match mput kk key v r with
   | some r' => some ((k, u) :: r')
   | none => none
  | none => none
def mdel (kk : KK) (key : AV) : List (AV × AV) → Option (List (AV × AV))
 | [] => some []
 | (k, u) :: r => match eqK kk key k with
  | some true => some r
  | some false => match mdel kk key r with
   | some r' => some ((k, u) :: r')
   | none => none
  | none => none
structure MRes {α : Type} (r : Option α) (K : α → Prop) : Prop where
 ex : ∃ x, r = some x ∧ K x
inductive MOp where
 | mk
 | get (ok : Bool) (kk : KK) (zero : AV) (m k : AX)
 | set (kk : KK) (m k v : AX)
 | del (kk : KK) (m k : AX)
 | len (m : AX)
 | range (m : AX)
 | next (it : AX)
 | entry (it : AX)
 | delw (kk : KK) (m k it : AX)
 | copy (e : Nat) (d s : AX)
 | copyS (d s : AX)
def mval (ok : Bool) (zero : AV) (r : Option AV) : AV := match ok, r with
 | true, some v => .tuple [v, .bool true]
 | true, none => .tuple [zero, .bool false]
 | false, some v => v
 | false, none => zero
def mkMapK (H : Heap) (K : AV → Heap → Prop) : Prop := match H with
 | ⟨nx, bs⟩ => K (.map nx) ⟨nx + 1, (nx, .map []) :: bs⟩
theorem mkMapK_eq (H : Heap) (K : AV → Heap → Prop) : mkMapK H K = K (.map H.nx) (H.push (.map [])) := rfl
def noIter (η : Nat → AB) (p n : Nat) : Bool := Nat.rec true (fun i ih => match η i with
 | .iter k _ _ => bif Nat.beq k p then false else ih
 | _ => ih) n
theorem noIter_succ (η : Nat → AB) (p n : Nat) : noIter η p (n + 1) = match η n with
 | .iter k _ _ => bif Nat.beq k p then false else noIter η p n
 | _ => noIter η p n := rfl
theorem noIter_spec {η : Nat → AB} {p : Nat} : ∀ {n : Nat}, noIter η p n = true → ∀ j, j < n → ∀ l c, η j ≠ .iter p l c
 | 0, _, j, hj, _, _ => by omega
 | n + 1, h, j, hj, l, c => by
  rw [noIter_succ] at h
  intro e
  rcases Nat.lt_or_eq_of_le (Nat.le_of_lt_succ hj) with h1 | h1
  · refine noIter_spec ?_ j h1 l c e
    split at h
    · rename_i k _ _ _
      cases hk : Nat.beq k p <;> simp only [hk, cond_true, cond_false] at h
      · exact h
      · cases h
    · exact h
  · subst h1; rw [e] at h; simp at h
theorem noIter_of {η : Nat → AB} {p : Nat} (h : ∀ j k l c, η j ≠ .iter k l c) : ∀ n, noIter η p n = true
 | 0 => rfl
 | n + 1 => by
  rw [noIter_succ]
  split
  · rename_i k l c e; exact absurd e (h n k l c)
  · exact noIter_of h n
def mapN (η : Nat → AB) (m : AV) (K : Option Nat → List (AV × AV) → Prop) : Prop := match m with
 | .nilm => K none []
 | .map p => match η p with
  | .map es => K (some p) es
  | _ => False
 | _ => False
theorem mapN_spec {η : Nat → AB} {m : AV} {K : Option Nat → List (AV × AV) → Prop} (h : mapN η m K) : (m = .nilm ∧ K none []) ∨ ∃ p es, m = .map p ∧ η p = .map es ∧ K (some p) es := by
 unfold mapN at h
 split at h
 · exact .inl ⟨rfl, h⟩
 · split at h
   · exact .inr ⟨_, _, rfl, by assumption, h⟩
   · exact h.elim
 · exact h.elim
def mapK (H : Heap) (m : AV) (K : Option Nat → List (AV × AV) → Prop) : Prop := mapN H.get m K
def iterK (H : Heap) (p : Nat) (es : List (AV × AV)) (K : AV → Heap → Prop) : Prop := match H with
 | ⟨nx, bs⟩ => K (.ptr nx 0) ⟨nx + 1, (nx, .iter p es none) :: bs⟩
theorem iterK_eq (H : Heap) (p : Nat) (es : List (AV × AV)) (K : AV → Heap → Prop) : iterK H p es K = K (.ptr H.nx 0) (H.push (.iter p es none)) := rfl
structure Dat (es : List (AV × AV)) (K : Prop) : Prop where
 d : ∀ x ∈ es, noLoc x.2 = true
 r : K
theorem relE_data : ∀ {es : List (AV × AV)} {l : List MapEntry} {M : Mem} {μ μ' : Pos}, (∀ x ∈ es, noLoc x.2 = true) → relE M μ es l → relE M μ' es l
 | [], _, _, _, _, _, h => h
 | (_, _) :: _, _, _, _, _, hd, ⟨e, t, h1, h2, h3, h4⟩ => ⟨e, t, h1, h2, relV_data _ (hd _ List.mem_cons_self) h3, relE_data (fun x hx => hd x (List.mem_cons_of_mem _ hx)) h4⟩
structure NextA (left : List (AV × AV)) (K0 : Prop) (K1 : AV → AV → List (AV × AV) → Prop) : Prop where
 done : left = [] → K0
 step : ∀ l1 a b l2, left = l1 ++ (a, b) :: l2 → K1 a b (l1 ++ l2)
def noIterBut (η : Nat → AB) (p j0 n : Nat) : Bool := Nat.rec true (fun i ih => match η i with
 | .iter k _ _ => bif Nat.beq k p && !Nat.beq i j0 then false else ih
 | _ => ih) n
theorem noIterBut_succ (η : Nat → AB) (p j0 n : Nat) : noIterBut η p j0 (n + 1) = match η n with
 | .iter k _ _ => bif Nat.beq k p && !Nat.beq n j0 then false else noIterBut η p j0 n
 | _ => noIterBut η p j0 n := rfl
theorem noIterBut_spec {η : Nat → AB} {p j0 : Nat} : ∀ {n : Nat}, noIterBut η p j0 n = true → ∀ j, j < n → j ≠ j0 → ∀ l c, η j ≠ .iter p l c
 | 0, _, j, hj, _, _, _ => by omega
 | n + 1, h, j, hj, hne, l, c => by
  rw [noIterBut_succ] at h
  intro e
  rcases Nat.lt_or_eq_of_le (Nat.le_of_lt_succ hj) with h1 | h1
  · refine noIterBut_spec ?_ j h1 hne l c e
    split at h
    · rename_i k _ _ _
      cases hk : (Nat.beq k p && !Nat.beq n j0) <;> simp only [hk, cond_true, cond_false] at h
      · exact h
      · cases h
    · exact h
  · subst h1; rw [e] at h; simp [beq_false hne] at h
def cpK (H : Heap) (k off : Nat) (cs ds : List AV) (m : Int) (K : AV → Heap → Prop) : Prop := lputK cs off ds fun cs' => setK H k (.cells cs') (K (.int .i64 m))
def MOp.run (ev : AX → AV) (H : Heap) (K : AV → Heap → Prop) : MOp → Prop
 | .mk => mkMapK H K
 | .get ok kk zero m k => mapK H (ev m) fun _ es => bif keyOk kk (ev k) then MRes (mfind kk (ev k) es) fun r => K (mval ok zero r) H else False
 | .set kk m k v => mapK H (ev m) fun p es => match p with
  | some p => bif keyOk kk (ev k) && noIter H.get p H.nx then MRes (mput kk (ev k) (ev v) es) fun es' => setK H p (.map es') (K .any) else False
  | none => False
 | .del kk m k => mapK H (ev m) fun p es => match p with
  | some p => bif keyOk kk (ev k) && noIter H.get p H.nx then MRes (mdel kk (ev k) es) fun es' => setK H p (.map es') (K (.tuple [])) else False
  | none => False
 | .len m => mapK H (ev m) fun _ es => K (.int .i64 es.length) H
 | .range m => mapK H (ev m) fun p es => match p with
  | some p => Dat es (iterK H p es K)
  | none => False
 | .next it => match ev it with
  | .ptr j 0 => match H.get j with
   | .iter k left _ => NextA left (K (.tuple [.bool false]) H) fun a b l => setK H j (.iter k l (some (a, b))) (K (.tuple [.bool true, a, b]))
   | _ => False
  | _ => False
 | .entry it => match ev it with
  | .ptr j 0 => match H.get j with
   | .iter _ _ (some (a, b)) => K (.tuple [a, b]) H
   | _ => False
  | _ => False
 | .delw kk m k it => mapK H (ev m) fun p es => match p with
  | some p => match ev it with
   | .ptr j 0 => match H.get j with
    | .iter p' left _ => bif keyOk kk (ev k) && (Nat.beq p' p && noIterBut H.get p j H.nx) then MRes (mfind kk (ev k) left) fun r => Side (r = none) (MRes (mdel kk (ev k) es) fun es' => setK H p (.map es') fun H1 => setK H1 j (.iter p left none) (K (.tuple []))) else False
    | _ => False
   | _ => False
  | none => False
 | .copy e d s => match ev d with
  | .slice k off n _ e' => match H.get k with
   | .cells cs => srcK H.get e (ev s) fun ds m => Side (e' = e) (Branch (decide (m ≤ n)) (cpK H k off cs ds m K) (cpK H k off cs (ds.take (n * e)) n K))
   | _ => False
  | _ => False
 | .copyS d s => match ev d with
  | .slice k off n _ e' => match H.get k with
   | .cells cs => srcK H.get 1 (strD (ev s)) fun ds m => Side (e' = 1) (Branch (decide (m ≤ n)) (cpK H k off cs ds m K) (cpK H k off cs (ds.take (n * 1)) n K))
   | _ => False
  | _ => False
def scDesc : Sc → TypeDesc
 | .b => .bool
 | .i k => .int k
 | .s => .string
def fieldsInt (P : Program) : List Field → Nat → List Sc → Bool
 | [], _, [] => true
 | f :: r, off, .i k :: ks => f.name != "_" && f.offset == off && (match P.underlying f.type with
  | some (.int j) => j == k
  | _ => false) && fieldsInt P r (off + 1) ks
 | _, _, _ => false
def keyIs (P : Program) (t : TypeId) (kk : KK) : Bool := match kk with
 | .c .b => (match P.underlying t with
  | some .bool => true
  | _ => false)
 | .c (.i j) => (match P.underlying t with
  | some (.int k) => k == j
  | _ => false)
 | .c .s => false
 | .f ks => (match P.underlying t with
  | some (.struct fs) => fieldsInt P fs.toList 0 ks && aggT P t && decide (flatSc P 20 t = some ks)
  | _ => false)
def okM (P : Program) : Op → MOp → Bool
 | .makeMap t none, .mk => (match P.underlying t with
  | some (.map _ _) => true
  | _ => false)
 | .lookup t m k ok, .get ok' kk zero m' k' => (match P.underlying t with
  | some (.map kt et) => keyIs P kt kk && (match P.info? et with
   | some i => (match i.zero with
    | some z => okV z zero && noLoc zero
    | none => false)
   | none => false)
  | _ => false) && ok == ok' && okX m m' && okX k k'
 | .mapUpdate t m k v, .set kk m' k' v' => (match P.underlying t with
  | some (.map kt _) => keyIs P kt kk
  | _ => false) && okX m m' && okX k k' && okX v v'
 | .insert t m k v, .set kk m' k' v' => (match P.underlying t with
  | some (.map kt _) => keyIs P kt kk
  | _ => false) && okX m m' && okX k k' && okX v v'
 | .call c, .del kk m' k' => (match bcall c .delete with
  | some ([m, k], [t, _]) => (match P.underlying t with
   | some (.map kt _) => keyIs P kt kk
   | _ => false) && okX m m' && okX k k'
  | _ => false)
 | .call c, .len m' => (match bcall c .len with
  | some ([m], [t]) => (match P.underlying t with
   | some (.map _ _) => okX m m'
   | _ => false)
  | _ => false)
 | .range t m, .range m' => (match P.underlying t with
  | some (.map _ _) => okX m m'
  | _ => false)
 | .next it false, .next it' => okX it it'
 | .call c, .delw kk m' k' _ => (match bcall c .delete with
  | some ([m, k], [t, _]) => (match P.underlying t with
   | some (.map kt _) => keyIs P kt kk
   | _ => false) && okX m m' && okX k k'
  | _ => false)
 | .call c, .copy e d' s' => (match bcall c .copy with
  | some ([d, s], [t, tx]) => sliceOf P t e && isSlice P tx && okX d d' && okX s s'
  | _ => false)
 | .call c, .copyS d' s' => (match bcall c .copy with
  | some ([d, s], [t, tx]) => sliceOf P t 1 && isStr P tx && okX d d' && okX s s'
  | _ => false)
 | .entry it, .entry it' => okX it it'
 | _, _ => false
section
variable {P : Program} {M : Mem} {μ : Pos} {H : Heap} {w : World}
def Cmp (P : Program) (kt : TypeId) (kk : KK) (u v : Value) (b : Bool) : Prop := match kk with
 | .c s => Instr.sameNow (scDesc s) u v = some b
 | .f _ => ∀ w, (Op.equal kt u v).run P w = .ok b w
def Ask (P : Program) (kt : TypeId) (kk : KK) (u : Value) (l : List MapEntry) (i : Nat) (r : Option (Nat × Value)) : Prop := match kk with
 | .c s => Instr.findNow (scDesc s) u l i = some r
 | .f _ => ∀ w, (Instr.findAsking kt u l i).run P w = .ok r w
theorem ask_nil {kt : TypeId} {kk : KK} {u : Value} {i : Nat} : Ask P kt kk u [] i none := by
 cases kk with
 | c s => rfl
 | f ks => intro w; simp [Instr.findAsking]
theorem ask_yes {kt : TypeId} {kk : KK} {u : Value} {e : MapEntry} {l : List MapEntry} {i : Nat} (h : Cmp P kt kk u e.key true) : Ask P kt kk u (e :: l) i (some (i, e.val)) := by
 cases kk with
 | c s => simp only [Cmp] at h; simp [Ask, Instr.findNow, h]
 | f ks => intro w; simp [Instr.findAsking, h w]
theorem ask_no {kt : TypeId} {kk : KK} {u : Value} {e : MapEntry} {l : List MapEntry} {i : Nat} {r : Option (Nat × Value)} (h : Cmp P kt kk u e.key false) (h2 : Ask P kt kk u l (i + 1) r) : Ask P kt kk u (e :: l) i r := by
 cases kk with
 | c s => simp only [Cmp] at h; simp only [Ask] at h2; simp [Ask, Instr.findNow, h, h2]
 | f ks => intro w; simp only [Ask] at h2; simp [Instr.findAsking, h w, h2 w]
theorem keyIs_c {t : TypeId} {s : Sc} (h : keyIs P t (.c s) = true) : P.underlying t = some (scDesc s) := by
 unfold keyIs at h
 cases s <;> simp only at h
 · split at h
   · assumption
   · cases h
 · split at h
   · rename_i hu; simp at h; subst h; exact hu
   · cases h
 · cases h
theorem ask_run {kt : TypeId} {kk : KK} {u : Value} {l : List MapEntry} {r : Option (Nat × Value)} (hk : keyIs P kt kk = true) (h : Ask P kt kk u l 0 r) (w : World) : (Instr.findKey kt u l).run P w = .ok r w := by
 cases kk with
 | c s => exact MapKept.run_findKey (keyIs_c hk) h
 | f ks =>
  unfold keyIs at hk
  simp only at hk
  split at hk
  · rename_i fs hfs
    rw [run_findKey_eq w (by simp [hfs])]
    exact h w
  · cases hk
theorem isKey_of {s : Sc} {c : AV} {v : Value} (h : cellOk s c = true) (hr : relV M c μ v) : MapKept.IsKey (scDesc s) v := by
 unfold cellOk at h
 split at h
 · have := rel_bool hr; subst this; trivial
 · have := rel_int hr; subst this; simp at h; subst h; rfl
 · cases h
theorem eqL_spec : ∀ {ks : List Sc} {cs ds : List AV} {r : Bool} {xs ys : List Value} {μ' : Pos}, eqL ks cs ds = some r → relL M cs μ xs → relL M ds μ' ys → confEq ks xs ys = some r ∧ (r = true → xs = ys)
 | [], [], [], r, xs, ys, _, h, hx, hy => by
  simp only [relL] at hx hy; subst hx; subst hy
  simp only [eqL] at h; cases h
  exact ⟨rfl, fun _ => rfl⟩
 | .i k :: ks, .int j a :: cs, .int j' b :: ds, r, xs, ys, _, h, hx, hy => by
  simp only [relL] at hx hy
  obtain ⟨v, t, rfl, h1, h2⟩ := hx
  obtain ⟨v', t', rfl, h3, h4⟩ := hy
  have e1 := rel_int h1; have e2 := rel_int h3; subst e1; subst e2
  simp only [eqL] at h
  cases hc : (j == k && j' == k) <;> simp only [hc, cond_true, cond_false] at h
  · cases h
  · simp only [Bool.and_eq_true, beq_iff_eq] at hc
    obtain ⟨rfl, rfl⟩ := hc
    split at h
    · rename_i r' hr'
      cases h
      obtain ⟨q1, q2⟩ := eqL_spec hr' h2 h4
      refine ⟨by simp [confEq, q1], fun hr => ?_⟩
      simp only [Bool.and_eq_true, decide_eq_true_eq] at hr
      rw [hr.1, q2 hr.2]
    · cases h
theorem same_of {kt : TypeId} {kk : KK} {a b : AV} {u v : Value} {r : Bool} (hki : keyIs P kt kk = true) (hok : keyOk kk a = true) (h : eqK kk a b = some r) (ha : relV M a μ u) {μ' : Pos} (hb : relV M b μ' v) : Cmp P kt kk u v r ∧ (r = true → u = v) := by
 cases kk with
 | f ks =>
  unfold eqK at h
  split at h <;> try (cases h; done)
  · rename_i heq; cases heq
  · rename_i heq
    cases heq
    simp only [relV] at ha hb
    obtain ⟨xs, rfl, hx⟩ := ha
    obtain ⟨ys, rfl, hy⟩ := hb
    obtain ⟨q1, q2⟩ := eqL_spec h hx hy
    unfold keyIs at hki
    simp only at hki
    split at hki
    · simp only [Bool.and_eq_true, decide_eq_true_eq] at hki
      refine ⟨fun w => ?_, fun hr => by have := q2 hr; rw [Array.toList_inj.1 this]⟩
      exact (eq_flat 20 kt ks hki.2).1 hki.1.2 9980 xs ys r w q1
    · cases hki
 | c s =>
  simp only [eqK] at h
  simp only [keyOk] at hok
  unfold eqOne at h
  split at h
  · have e1 := rel_bool ha; have e2 := rel_bool hb; subst e1; subst e2
    cases h
    exact ⟨rfl, fun hr => by simp at hr; rw [hr]⟩
  · have e1 := rel_int ha; have e2 := rel_int hb; subst e1; subst e2
    rename_i k j a j' b
    cases hc : (j == k && j' == k) <;> simp only [hc, cond_true, cond_false] at h
    · cases h
    · simp only [Bool.and_eq_true, beq_iff_eq] at hc
      obtain ⟨rfl, rfl⟩ := hc
      cases h
      exact ⟨by simp [Cmp, scDesc, Instr.sameNow, beq_int], fun hr => by simp at hr; rw [hr]⟩
  · simp [cellOk] at hok
  · cases h
theorem check_fields (em : Bool) (n : Nat) (w : World) (xs : Array Value) : ∀ (fs : List Field) (off : Nat) (ks : List Sc) (cs : List AV), fieldsInt P fs off ks = true → cellsOk ks cs = true → relL M cs μ (xs.toList.drop off) →
 (forIn fs PUnit.unit fun f _ => (
   if f.name ≠ "_" then (do
    let x ← part f.type xs f.offset
    Instr.checkKey em (n + 1) f.type x
    pure (ForInStep.yield PUnit.unit)) else
   pure (ForInStep.yield PUnit.unit)) : Sem PUnit).run P w = .ok PUnit.unit w
 | [], _, _, _, _, _, _ => by simp
 | f :: fs, off, ks, cs, h, hc, hr => by
  cases ks with
  | nil => simp [fieldsInt] at h
  | cons s ks =>
   cases s <;> simp only [fieldsInt] at h <;> try (cases h; done)
   rename_i k
   simp only [Bool.and_eq_true, bne_iff_ne, ne_eq, beq_iff_eq] at h
   obtain ⟨⟨⟨h1, h2⟩, h3⟩, h4⟩ := h
   split at h3
   · rename_i j hu
     simp at h3; subst h3
     cases cs with
     | nil => simp [cellsOk] at hc
     | cons c cs =>
      cases c <;> simp only [cellsOk] at hc <;> try (cases hc; done)
      simp only [Bool.and_eq_true, beq_iff_eq] at hc
      obtain ⟨rfl, hc⟩ := hc
      simp only [relL] at hr
      obtain ⟨v, t, ht, hv, hr⟩ := hr
      have hv := rel_int hv
      subst hv
      have hpart := part_scal hu (by simp) (by simp) (drop_head ht) w
      have ht2 : t = xs.toList.drop (off + 1) := by
       have := congrArg List.tail ht
       simpa using this.symm
      rename_i kq nq
      have hck : (Instr.checkKey em (n + 1) f.type (.int kq nq)).run P w = .ok () w := MapKept.run_checkKey (k := .int kq nq) hu rfl em n
      simp only [List.forIn_cons, Sem.run_bind, ne_eq, h1, h2, not_false_eq_true, if_true, hpart, Result.andThen_ok, hck, Sem.run_pure]
      exact check_fields em n w xs fs (off + 1) ks cs h4 hc (ht2 ▸ hr)
   · cases h3
theorem check_run {kt : TypeId} {kk : KK} {a : AV} {u : Value} (hki : keyIs P kt kk = true) (hok : keyOk kk a = true) (ha : relV M a μ u) (em : Bool) (w : World) : (Instr.checkKey em 10000 kt u).run P w = .ok () w := by
 cases kk with
 | c s => exact MapKept.run_checkKey (keyIs_c hki) (isKey_of hok ha) em 9999
 | f ks =>
  cases a <;> simp only [keyOk] at hok <;> try (cases hok; done)
  simp only [relV] at ha
  obtain ⟨xs, rfl, hx⟩ := ha
  unfold keyIs at hki
  simp only at hki
  split at hki
  · rename_i fs hfs
    simp only [Bool.and_eq_true] at hki
    rw [Instr.checkKey]
    simp only [Sem.run_bind, run_underlying hfs, Result.andThen_ok]
    rw [← Array.forIn_toList]
    have := check_fields em 9998 w xs fs.toList 0 ks _ hki.1.1 hok (by simpa using hx)
    exact (congrArg (fun r => r.andThen fun a w' => Sem.run P (pure ()) w') this).trans rfl
  · cases hki
theorem relE_length {ρ : Pos} : ∀ {es : List (AV × AV)} {l : List MapEntry}, relE M ρ es l → l.length = es.length
 | [], _, h => by simp only [relE] at h; subst h; rfl
 | (k, v) :: r, _, h => by simp only [relE] at h; obtain ⟨e, t, rfl, _, _, h⟩ := h; simp [relE_length h]
theorem mfind_find {kt : TypeId} {kk : KK} {key : AV} {u : Value} (hki : keyIs P kt kk = true) (hok : keyOk kk key = true) (hu : relV M key μ u) {ρ : Pos} : ∀ {es : List (AV × AV)} {l : List MapEntry} {r : Option AV} (i : Nat), mfind kk key es = some r → relE M ρ es l →
 (r = none ∧ Ask P kt kk u l i none) ∨ (∃ j v e, r = some v ∧ l[j]? = some e ∧ e.key = u ∧ relV M v ρ e.val ∧ Ask P kt kk u l i (some (i + j, e.val)))
 | [], _, r, i, h, hr => by
  simp only [relE] at hr; subst hr
  simp only [mfind] at h; cases h
  exact .inl ⟨rfl, ask_nil⟩
 | (k, v) :: es, _, r, i, h, hr => by
  simp only [relE] at hr
  obtain ⟨e, t, rfl, h1, h2, h3⟩ := hr
  simp only [mfind] at h
  split at h
  · rename_i hq
    cases h
    obtain ⟨s1, s2⟩ := same_of hki hok hq hu h1
    exact .inr ⟨0, v, e, rfl, rfl, (s2 rfl).symm, h2, ask_yes s1⟩
  · rename_i hq
    obtain ⟨s1, _⟩ := same_of hki hok hq hu h1
    rcases mfind_find hki hok hu (i + 1) h h3 with ⟨rfl, h4⟩ | ⟨j, v', e', rfl, h4, h5, h6, h7⟩
    · exact .inl ⟨rfl, ask_no s1 h4⟩
    · exact .inr ⟨j + 1, v', e', rfl, by simpa using h4, h5, h6, ask_no s1 (by rw [show i + 1 + j = i + (j + 1) by omega] at h7; exact h7)⟩
  · cases h

theorem Rel.writeM (R : Rel M μ H w) {k b sz : Nat} {es es' : List (AV × AV)} {ents ents' : Array MapEntry} {clock clock' : Nat} (hk : H.get k = .map es) (hμ : μ k = some (b, sz)) (hb : w.heap[b]? = some (.map ents clock))
 (hE : relE M μ es' ents'.toList) (hc1 : ∀ e ∈ ents'.toList, e.born < clock') (hc2 : (ents'.toList.map (·.born)).Nodup) (hno : ∀ j l c, H.get j ≠ .iter k l c) :
 Rel M μ (H.set k (.map es')) { w with heap := w.heap.setIfInBounds b (.map ents' clock') } ∧ Move M μ H w M μ (H.set k (.map es')) { w with heap := w.heap.setIfInBounds b (.map ents' clock') } := by
 have hne : H.get k ≠ .dead := by rw [hk]; simp
 have other : ∀ j b' s, H.get j ≠ .dead → μ j = some (b', s) → j ≠ k → b' ≠ b := fun j b' s hj hμ' hjk e => hjk (R.inj j k b s sz hj hne (e ▸ hμ') hμ)
 refine ⟨⟨R.glob, R.dom, fun j hj => ?_, fun j ds hj => ?_, fun j es hj => ?_, R.walks (Mem.le_refl _) (fun j k' left cur hj => ?_), R.recs (Mem.le_refl _) (fun j st id fr hj => ?_), fun i j x s t hi hj hx hy => ?_, fun x o v hv => ?_, fun j x s hj hx o => ?_⟩, ⟨Pos.le_refl _, ⟨Mem.le_refl _, fun _ _ => rfl, ⟨rfl, rfl, rfl, by simp, fun x hx hno => (MapKept.heap_set hb).2 x (fun e => hno (e ▸ ⟨k, sz, hne, hμ⟩))⟩, fun x hx => .inl (Own.set hne hx), fun _ _ _ h => .inl h⟩, Nat.le_refl _⟩⟩
 · rw [Heap.get_set]
   have := R.pos_lt hμ
   simp only [Heap.set] at hj
   rw [if_neg (by omega)]; exact R.top j hj
 · rw [Heap.get_set] at hj
   split at hj
   · cases hj
   · rename_i hjk
     obtain ⟨b', s', d, el', fz', h1, h2, h3, h4, h5⟩ := R.cells j ds hj
     exact ⟨b', s', d, el', fz', h1, by rw [(MapKept.heap_set hb).2 b' (other j b' s' (by rw [hj]; simp) h1 (Ne.symm hjk))]; exact h2, h3, h4, h5⟩
 · rw [Heap.get_set] at hj
   split at hj
   · rename_i h; subst h
     simp only [AB.map.injEq] at hj; subst hj
     exact ⟨b, sz, ents', clock', hμ, (MapKept.heap_set hb).1, hE, hc1, hc2⟩
   · rename_i hjk
     obtain ⟨b', s', ents, clock, h1, h2, h3, h4⟩ := R.maps j es hj
     exact ⟨b', s', ents, clock, h1, by rw [(MapKept.heap_set hb).2 b' (other j b' s' (by rw [hj]; simp) h1 (Ne.symm hjk))]; exact h2, h3, h4⟩
 · rw [Heap.get_set] at hj
   split at hj
   · cases hj
   · rename_i hjk
     have hkk : k' ≠ k := fun e => hno j left cur (e ▸ hj)
     have hal := (R.iters j k' left cur hj).1
     refine ⟨j, k', hj, ?_, fun x hx => hx, fun x hx => hx, fun b2 s2 hx _ => (MapKept.heap_set hb).2 b2 (other j b2 s2 (by rw [hj]; simp) hx (Ne.symm hjk)), fun b2 s2 hx _ => (MapKept.heap_set hb).2 b2 (other k' b2 s2 hal hx hkk)⟩
     rw [Heap.get_set, if_neg (Ne.symm hkk)]; exact hal
 · rw [Heap.get_set] at hj
   split at hj
   · cases hj
   · rename_i hjk
     exact ⟨j, fr, hj, fun x hx => hx, fun t v hv => hv, fun b2 s2 hx _ => (MapKept.heap_set hb).2 b2 (other j b2 s2 (by rw [hj]; simp) hx (Ne.symm hjk))⟩
 · have al : ∀ j, (H.set k (.map es')).get j ≠ .dead → H.get j ≠ .dead := fun j hj => by
    rw [Heap.get_set] at hj; split at hj
    · subst_vars; exact hne
    · exact hj
   exact R.inj i j x s t (al i hi) (al j hj) hx hy
 · rw [World.cell?_of_block (w := w) (a := ⟨x, o, none⟩) ((MapKept.heap_set hb).2 x (fun e => by
    have := R.apart k b sz hne hμ o
    rw [e] at hv; rw [hv] at this; cases this))]
   exact R.imm x o v hv
 · have : H.get j ≠ .dead := by
    rw [Heap.get_set] at hj; split at hj
    · subst_vars; exact hne
    · exact hj
   exact R.apart j x s this hx o
theorem Rel.layM (R : Rel M μ H w) {p : Nat} (hp : p < H.nx) (hfree : μ p = none) :
 Rel M (μ.put p (w.heap.size, 0)) (H.set p (.map [])) (w.alloc (.map #[] 0)) ∧ Pos.le μ (μ.put p (w.heap.size, 0)) ∧
  (∀ n, n ≤ p → Grow n M μ H w M (μ.put p (w.heap.size, 0)) (H.set p (.map [])) (w.alloc (.map #[] 0))) := by
 have hle : Pos.le μ (μ.put p (w.heap.size, 0)) := Pos.le_put hfree _
 have hdead : H.get p = .dead := by
  cases hg : H.get p with
  | dead => rfl
  | cells ds => obtain ⟨b, sz, _, _, _, h, _⟩ := R.cells p ds hg; rw [hfree] at h; cases h
  | map es => obtain ⟨b, sz, _, _, h, _⟩ := R.maps p es hg; rw [hfree] at h; cases h
  | iter k left cur => obtain ⟨_, b, sz, h, _⟩ := R.iters p k left cur hg; rw [hfree] at h; cases h
  | loop st id fr => obtain ⟨b, sz, h, _⟩ := R.loops p st id fr hg; rw [hfree] at h; cases h
 have old : ∀ j b s, H.get j ≠ .dead → (μ.put p (w.heap.size, 0)) j = some (b, s) → μ j = some (b, s) ∧ b < w.heap.size := fun j b s hj hx => by
  have hjp : j ≠ p := fun e => hj (e ▸ hdead)
  rw [Pos.put_other μ _ hjp] at hx
  exact ⟨hx, R.own_lt ⟨j, s, hj, hx⟩⟩
 have new : ∀ b s, (μ.put p (w.heap.size, 0)) p = some (b, s) → b = w.heap.size := fun b s hx => by
  rw [Pos.put_same] at hx; simp at hx; exact hx.1.symm
 have ownlt : ∀ {j b s}, H.get j ≠ .dead → μ j = some (b, s) → b < w.heap.size := fun hj hx => R.own_lt ⟨_, _, hj, hx⟩
 have alive : ∀ j, (H.set p (.map [])).get j ≠ .dead → j ≠ p → H.get j ≠ .dead := fun j hj hjp => by
  rw [Heap.get_set, if_neg (Ne.symm hjp)] at hj; exact hj
 refine ⟨⟨R.glob, fun k hk => ?_, fun j hj => ?_, fun j ds hj => ?_, fun j es hj => ?_, R.walks_same (Mem.le_refl _) (fun j k' left cur hj => ?_) hle (fun x hx _ => alloc_heap_lt w _ hx), R.recs_same (Mem.le_refl _) (fun j st id fr hj => ?_) hle (fun x hx _ => alloc_heap_lt w _ hx), fun i j x s t hi hj hx hy => ?_, fun x o v hv => ?_, fun j x s hj hx o => ?_⟩, hle, fun n hn => ⟨Mem.le_refl _, fun k hk => Pos.put_other μ _ (by omega), ⟨rfl, rfl, rfl, by simp, fun x hx _ => alloc_heap_lt w _ hx⟩, fun x hx => ?_, fun _ _ _ h => .inl h⟩⟩
 · have hk' : H.nx ≤ k := hk
   rw [Pos.put_other μ _ (by omega)]; exact R.dom k hk'
 · have hj' : H.nx ≤ j := hj
   rw [Heap.get_set, if_neg (by omega)]; exact R.top j hj'
 · rw [Heap.get_set] at hj
   split at hj
   · cases hj
   · obtain ⟨b', s', d, el', fz', h1, h2, h3, h4, h5⟩ := R.cells j ds hj
     exact ⟨b', s', d, el', fz', hle _ _ h1, by rw [alloc_heap_lt w _ (ownlt (by rw [hj]; simp) h1)]; exact h2, h3, h4, relP_mono (Mem.le_refl _) hle _ h5⟩
 · rw [Heap.get_set] at hj
   split at hj
   · rename_i h; subst h
     simp only [AB.map.injEq] at hj; subst hj
     exact ⟨w.heap.size, 0, #[], 0, Pos.put_same _ _ _, alloc_heap_new w _, by simp [relE], by simp, by simp⟩
   · obtain ⟨b', s', ents, clock, h1, h2, h3, h4⟩ := R.maps j es hj
     exact ⟨b', s', ents, clock, hle _ _ h1, by rw [alloc_heap_lt w _ (ownlt (by rw [hj]; simp) h1)]; exact h2, relE_mono (Mem.le_refl _) hle h3, h4⟩
 · rw [Heap.get_set] at hj
   split at hj
   · cases hj
   · refine ⟨hj, fun h => ?_⟩
     rw [Heap.get_set]; split
     · simp
     · exact h
 · rw [Heap.get_set] at hj
   split at hj
   · cases hj
   · exact hj
 · by_cases hi' : i = p
   · by_cases hj' : j = p
     · omega
     · subst hi'
       have := new x s hx
       have := (old j x t (alive j hj hj') hy).2
       omega
   · by_cases hj' : j = p
     · subst hj'
       have := new x t hy
       have := (old i x s (alive i hi hi') hx).2
       omega
     · exact R.inj i j x s t (alive i hi hi') (alive j hj hj') (old i x s (alive i hi hi') hx).1 (old j x t (alive j hj hj') hy).1
 · rw [World.cell?_alloc_lt w _ ⟨x, o, none⟩ (R.cell_lt hv)]; exact R.imm x o v hv
 · by_cases hj' : j = p
   · subst hj'
     have hb := new x s hx
     cases hm : M x o with
     | none => rfl
     | some v => have := R.cell_lt hm; omega
   · exact R.apart j x s (alive j hj hj') (old j x s (alive j hj hj') hx).1 o
 · obtain ⟨k, s, hk, hμ⟩ := hx
   by_cases hk' : k = p
   · subst hk'; have := new x s hμ; exact .inr (by omega)
   · exact .inl ⟨k, s, alive k hk hk', (old k x s (alive k hk hk') hμ).1⟩
theorem Rel.pushM (R : Rel M μ H w) : Rel M (μ.put H.nx (w.heap.size, 0)) (H.push (.map [])) (w.alloc (.map #[] 0)) ∧ Move M μ H w M (μ.put H.nx (w.heap.size, 0)) (H.push (.map [])) (w.alloc (.map #[] 0)) := by
 have R1 := R.room 1
 obtain ⟨h1, h2, h3⟩ := R1.layM (p := H.nx) (Nat.lt_succ_self _) (R.dom _ (Nat.le_refl _))
 have G := h3 H.nx (Nat.le_refl _)
 exact ⟨h1, h2, ⟨G.mem, G.pin, G.keep, G.own, G.fresh⟩, Nat.le_succ _⟩

theorem cellsOk_data : ∀ {ks : List Sc} {cs : List AV}, cellsOk ks cs = true → noLocL cs = true
 | [], [], _ => rfl
 | s :: ks, c :: cs, h => by
  cases s <;> cases c <;> simp only [cellsOk] at h <;> try (cases h; done)
  simp only [Bool.and_eq_true] at h
  simp only [noLocL, noLoc, Bool.true_and]; exact cellsOk_data h.2
 | [], _ :: _, h => by simp [cellsOk] at h
 | s :: _, [], h => by cases s <;> simp [cellsOk] at h
theorem relV_scalar {kk : KK} {key : AV} (hok : keyOk kk key = true) : noLoc key = true := by
 cases kk with
 | c s =>
  simp only [keyOk] at hok
  unfold cellOk at hok
  split at hok <;> first | rfl | cases hok
 | f ks =>
  cases key <;> simp only [keyOk] at hok <;> try (cases hok; done)
  simp only [noLoc]; exact cellsOk_data hok
theorem mput_find {kt : TypeId} {kk : KK} {key v : AV} {u x : Value} (hki : keyIs P kt kk = true) (hok : keyOk kk key = true) (hu : relV M key Pos.none u) {ρ : Pos} (hx : relV M v ρ x) : ∀ {es es' : List (AV × AV)} {l : List MapEntry} (i : Nat), mput kk key v es = some es' → relE M ρ es l →
 (es' = es ++ [(key, v)] ∧ Ask P kt kk u l i none) ∨ (∃ j e, l[j]? = some e ∧ e.key = u ∧ Ask P kt kk u l i (some (i + j, e.val)) ∧ ∀ f : MapEntry → MapEntry, (∀ e, (f e).key = u ∧ (f e).val = x) → relE M ρ es' (l.modify j f))
 | [], es', l, i, h, hr => by
  simp only [relE] at hr; subst hr
  simp only [mput] at h; cases h
  exact .inl ⟨rfl, ask_nil⟩
 | (k, y) :: es, es', l, i, h, hr => by
  simp only [relE] at hr
  obtain ⟨e, t, rfl, h1, h2, h3⟩ := hr
  simp only [mput] at h
  split at h
  · rename_i hq
    cases h
    obtain ⟨s1, s2⟩ := same_of hki hok hq hu h1
    refine .inr ⟨0, e, rfl, (s2 rfl).symm, ask_yes s1, fun f hf => ?_⟩
    simp only [List.modify_zero_cons, relE]
    exact ⟨f e, t, rfl, by rw [(hf e).1]; exact hu, by rw [(hf e).2]; exact hx, h3⟩
  · rename_i hq
    obtain ⟨s1, _⟩ := same_of hki hok hq hu h1
    split at h
    · rename_i r' hr'
      cases h
      rcases mput_find hki hok hu hx (i + 1) hr' h3 with ⟨rfl, h4⟩ | ⟨j, e', h4, h5, h6, h7⟩
      · exact .inl ⟨rfl, ask_no s1 h4⟩
      · refine .inr ⟨j + 1, e', by simpa using h4, h5, ask_no s1 (by rw [show i + 1 + j = i + (j + 1) by omega] at h6; exact h6), fun f hf => ?_⟩
        simp only [List.modify_succ_cons, relE]
        exact ⟨e, _, rfl, h1, h2, h7 f hf⟩
    · cases h
  · cases h
theorem mdel_find {kt : TypeId} {kk : KK} {key : AV} {u : Value} (hki : keyIs P kt kk = true) (hok : keyOk kk key = true) (hu : relV M key μ u) {ρ : Pos} : ∀ {es es' : List (AV × AV)} {l : List MapEntry} (i : Nat), mdel kk key es = some es' → relE M ρ es l →
 (relE M ρ es' l ∧ Ask P kt kk u l i none) ∨ (∃ j e, l[j]? = some e ∧ Ask P kt kk u l i (some (i + j, e.val)) ∧ relE M ρ es' (l.eraseIdx j))
 | [], es', l, i, h, hr => by
  simp only [relE] at hr; subst hr
  simp only [mdel] at h; cases h
  exact .inl ⟨by simp [relE], ask_nil⟩
 | (k, y) :: es, es', l, i, h, hr => by
  simp only [relE] at hr
  obtain ⟨e, t, rfl, h1, h2, h3⟩ := hr
  simp only [mdel] at h
  split at h
  · rename_i hq
    cases h
    obtain ⟨s1, _⟩ := same_of hki hok hq hu h1
    exact .inr ⟨0, e, rfl, ask_yes s1, by simpa using h3⟩
  · rename_i hq
    obtain ⟨s1, _⟩ := same_of hki hok hq hu h1
    split at h
    · rename_i r' hr'
      cases h
      rcases mdel_find hki hok hu (i + 1) hr' h3 with ⟨h4, h5⟩ | ⟨j, e', h4, h5, h6⟩
      · exact .inl ⟨by simp only [relE]; exact ⟨e, t, rfl, h1, h2, h4⟩, ask_no s1 h5⟩
      · exact .inr ⟨j + 1, e', by simpa using h4, ask_no s1 (by rw [show i + 1 + j = i + (j + 1) by omega] at h5; exact h5), by simp only [List.eraseIdx_cons_succ, relE]; exact ⟨e, _, rfl, h1, h2, h6⟩⟩
    · cases h
  · cases h
theorem relE_snoc {ρ : Pos} : ∀ {es : List (AV × AV)} {l : List MapEntry} {k v : AV} {e : MapEntry}, relE M ρ es l → relV M k Pos.none e.key → relV M v ρ e.val → relE M ρ (es ++ [(k, v)]) (l ++ [e])
 | [], l, k, v, e, h, h1, h2 => by simp only [relE] at h; subst h; simp only [List.nil_append, relE]; exact ⟨e, [], rfl, h1, h2, rfl⟩
 | (k', v') :: es, l, k, v, e, h, h1, h2 => by
  simp only [relE] at h
  obtain ⟨e', t, rfl, q1, q2, q3⟩ := h
  simp only [List.cons_append, relE]
  exact ⟨e', t ++ [e], rfl, q1, q2, relE_snoc q3 h1 h2⟩
theorem mapK_spec {m : AV} {v : Value} {K : Option Nat → List (AV × AV) → Prop} (R : Rel M μ H w) (hv : relV M m μ v) (h : mapK H m K) :
 (v = .map none ∧ K none []) ∨ (∃ p b sz es ents clock, v = .map (some b) ∧ m = .map p ∧ H.get p = .map es ∧ μ p = some (b, sz) ∧ w.heap[b]? = some (.map ents clock) ∧ relE M μ es ents.toList ∧ (∀ e ∈ ents.toList, e.born < clock) ∧ (ents.toList.map (·.born)).Nodup ∧ K (some p) es) := by
 unfold mapK mapN at h
 split at h
 · simp only [relV] at hv; exact .inl ⟨hv, h⟩
 · rename_i p
   split at h
   · rename_i es hes
     simp only [relV] at hv
     obtain ⟨b, sz, h1, rfl⟩ := hv
     obtain ⟨b', sz', ents, clock, h2, h3, h4, h5, h6⟩ := R.maps p es hes
     rw [h1] at h2; cases h2
     exact .inr ⟨p, b, sz, es, ents, clock, rfl, rfl, hes, h1, h3, h4, h5, h6, h⟩
   · exact h.elim
 · exact h.elim
theorem run_zeroValue {t : TypeId} {i : TypeInfo} {z : Value} (hi : P.info? t = some i) (hz : i.zero = some z) (w : World) : (zeroValue t).run P w = .ok z w := by
 simp only [zeroValue, Sem.run_bind, run_typeInfo hi, Result.andThen_ok, hz, Sem.run_pure]
theorem run_lookup {t kt et : TypeId} {kk : KK} {μ : Pos} {ka : AV} {i : TypeInfo} {z u : Value} {ok : Bool} {x : Value} {l : Array MapEntry} {a : Option (Nat × Value)} (ht : P.underlying t = some (.map kt et)) (hki : keyIs P kt kk = true) (hi : P.info? et = some i) (hz : i.zero = some z)
 (hx : (x = .map none ∧ l = #[]) ∨ ∃ b clock, x = .map (some b) ∧ w.heap[b]? = some (.map l clock)) (hko : keyOk kk ka = true) (hka : relV M ka μ u) (hf : Ask P kt kk u l.toList 0 a) :
 (Instr.lookup t x u ok).run P w = .ok (match a with
   | some (_, v) => if ok then .tuple #[v, .bool true] else v
   | none => if ok then .tuple #[z, .bool false] else z) w := by
 have hc : ∀ e, (Instr.checkKey e 10000 kt u).run P w = .ok () w := fun e => check_run hki hko hka e w
 have hf' : (Instr.findKey kt u l.toList).run P w = .ok a w := ask_run hki hf w
 rcases hx with ⟨rfl, rfl⟩ | ⟨b, clock, rfl, hb⟩
 · simp only [Instr.lookup, Sem.run_bind, run_underlying ht, Result.andThen_ok, Sem.run_pure, hc, hf']
   cases a with
   | none => simp only [Sem.run_bind, run_zeroValue hi hz, Result.andThen_ok, Sem.run_pure]
   | some q => simp only [Sem.run_bind, Sem.run_pure, Result.andThen_ok]
 · simp only [Instr.lookup, Sem.run_bind, run_underlying ht, Result.andThen_ok, Sem.run_pure, MapKept.run_getObj_map hb, hc, hf']
   cases a with
   | none => simp only [Sem.run_bind, run_zeroValue hi hz, Result.andThen_ok, Sem.run_pure]
   | some q => simp only [Sem.run_bind, Sem.run_pure, Result.andThen_ok]
variable {N : Nat} {fr : Fr} {a : Act} {K : AV → Heap → Prop}
theorem pairR {c : AV} {v : Value} (h : relV M c μ v) (b : Bool) : relV M (.tuple [c, .bool b]) μ (.tuple #[v, .bool b]) := by
 simp only [relV, relL]
 exact ⟨#[v, .bool b], rfl, v, [.bool b], rfl, h, .bool b, [], rfl, rfl, rfl⟩
theorem sound_mget {t : TypeId} {m k : Operand} {ok : Bool} {kk : KK} {zero : AV} {m' k' : AX} {o : Oper} (ho : o.op = .lookup t m k ok) (h : okM P o.op (.get ok kk zero m' k') = true) (R : Rel M μ H w) (F : RelF N M μ fr a.tmps)
 (hr : (MOp.get ok kk zero m' k').run (AX.ev fr) H K) : Yields2 P o a M μ H K w := by
 rw [ho] at h
 simp only [okM, Bool.and_eq_true] at h
 obtain ⟨⟨⟨h1, _⟩, h3⟩, h4⟩ := h
 split at h1
 · rename_i kt et ht
   simp only [Bool.and_eq_true] at h1
   obtain ⟨hk1, h1⟩ := h1
   split at h1
   · rename_i i hi
     split at h1
     · rename_i z hz
       simp only [Bool.and_eq_true] at h1
       have hzr : relV M zero μ z := rel_okV h1.1
       have hm := rel_okX F h3
       have hkv := rel_okX F h4
       simp only [MOp.run] at hr
       have fin : ∀ (l : Array MapEntry) (es : List (AV × AV)), ((a.eval m = .map none ∧ l = #[]) ∨ ∃ b clock, a.eval m = .map (some b) ∧ w.heap[b]? = some (.map l clock)) → relE M μ es l.toList →
        (bif keyOk kk (AX.ev fr k') then MRes (mfind kk (AX.ev fr k') es) fun r => K (mval ok zero r) H else False) → Yields2 P o a M μ H K w := by
        intro l es hx hE hr
        cases hko : keyOk kk (AX.ev fr k') <;> simp only [hko, cond_true, cond_false] at hr
        obtain ⟨r, hr, hK⟩ := hr.ex
        rcases mfind_find hk1 hko hkv 0 hr hE with ⟨rfl, h5⟩ | ⟨j, v, e, rfl, h5, h6, h7, h8⟩
        · have hrun := run_lookup (ok := ok) ht hk1 hi hz hx hko hkv h5
          cases ok
          · exact yields2_same R (by simp only [execOp, ho, Sem.run_bind, hrun, Result.andThen_ok, Sem.run_pure]; rfl) hzr hK
          · exact yields2_same R (by simp only [execOp, ho, Sem.run_bind, hrun, Result.andThen_ok, Sem.run_pure]; rfl) (pairR hzr _) hK
        · have hrun := run_lookup (ok := ok) ht hk1 hi hz hx hko hkv h8
          have hvr : relV M v μ e.val := h7
          cases ok
          · exact yields2_same R (by simp only [execOp, ho, Sem.run_bind, hrun, Result.andThen_ok, Sem.run_pure]; rfl) hvr hK
          · exact yields2_same R (by simp only [execOp, ho, Sem.run_bind, hrun, Result.andThen_ok, Sem.run_pure]; rfl) (pairR hvr _) hK
       rcases mapK_spec R hm hr with ⟨hv, hr⟩ | ⟨p, b, sz, es, ents, clock, hv, _, _, _, hb, hE, _, _, hr⟩
       · exact fin #[] [] (.inl ⟨hv, rfl⟩) (by simp [relE]) hr
       · exact fin ents es (.inr ⟨b, clock, hv, hb⟩) hE hr
     · cases h1
   · cases h1
 · cases h1
theorem sound_mk {t : TypeId} {o : Oper} (ho : o.op = .makeMap t none) (R : Rel M μ H w) (hr : MOp.mk.run (AX.ev fr) H K) : Yields2 P o a M μ H K w := by
 obtain ⟨R', G⟩ := R.pushM
 simp only [MOp.run, mkMapK_eq] at hr
 refine ⟨_, .map (some w.heap.size), _, ?_, .inl rfl, _, _, _, _, R', ?_, G, hr⟩
 · simp only [execOp, ho, Option.map_none, Sem.run_bind, RowKit.run_makeMap, Result.andThen_ok, Sem.run_pure]
 · simp only [relV]; exact ⟨w.heap.size, 0, Pos.put_same _ _ _, rfl⟩
theorem modify_born (l : List MapEntry) (j : Nat) (f : MapEntry → MapEntry) (hf : ∀ e, (f e).born = e.born) : (l.modify j f).map (·.born) = l.map (·.born) := by
 induction l generalizing j with
 | nil => simp
 | cons e l ih => cases j <;> simp [hf, ih]
theorem born_mem {l : List MapEntry} {clock : Nat} : (∀ e ∈ l, e.born < clock) ↔ ∀ n ∈ l.map (·.born), n < clock := by simp
theorem bits_list : ∀ {ks : List Sc} {cs : List AV} {xs : List Value}, cellsOk ks cs = true → relL M cs μ xs → (xs.zip xs).all (fun (x, y) => Instr.sameBits 9999 x y) = true
 | [], [], xs, _, h => by simp only [relL] at h; subst h; rfl
 | s :: ks, c :: cs, xs, h, hr => by
  cases s <;> cases c <;> simp only [cellsOk] at h <;> try (cases h; done)
  simp only [Bool.and_eq_true] at h
  simp only [relL] at hr
  obtain ⟨v, t, rfl, hv, hr⟩ := hr
  have hv := rel_int hv
  subst hv
  simp only [List.zip_cons_cons, List.all_cons, Bool.and_eq_true]
  exact ⟨by simp [Instr.sameBits], bits_list h.2 hr⟩
 | [], _ :: _, _, h, _ => by simp [cellsOk] at h
 | s :: _, [], _, h, _ => by cases s <;> simp [cellsOk] at h
theorem same_bits {kk : KK} {ka : AV} {u : Value} (hok : keyOk kk ka = true) (hr : relV M ka μ u) : Instr.sameBits 10000 u u = true := by
 cases kk with
 | c s =>
  simp only [keyOk] at hok
  unfold cellOk at hok
  split at hok
  · have := rel_bool hr; subst this; simp [Instr.sameBits]
  · have := rel_int hr; subst this; simp [Instr.sameBits]
  · cases hok
 | f ks =>
  cases ka <;> simp only [keyOk] at hok <;> try (cases hok; done)
  simp only [relV] at hr
  obtain ⟨xs, rfl, hx⟩ := hr
  simp only [Instr.sameBits, BEq.rfl, Bool.true_and]
  exact bits_list hok hx
theorem sound_mset {t : TypeId} {m k v : Operand} {kk : KK} {m' k' v' : AX} {o : Oper} (ho : o.op = .mapUpdate t m k v ∨ o.op = .insert t m k v) (h : okM P o.op (.set kk m' k' v') = true) (R : Rel M μ H w) (F : RelF N M μ fr a.tmps)
 (hr : (MOp.set kk m' k' v').run (AX.ev fr) H K) : Yields2 P o a M μ H K w := by
 have h : (((match P.underlying t with
  | some (.map kt _) => keyIs P kt kk
  | _ => false) && okX m m' && okX k k' && okX v v') = true) := by rcases ho with ho | ho <;> (rw [ho] at h; exact h)
 simp only [Bool.and_eq_true] at h
 obtain ⟨⟨⟨h1, h2⟩, h3⟩, h4⟩ := h
 split at h1
 · rename_i kt et ht
   have hm := rel_okX F h2
   have hkv := rel_okX F h3
   have hvv := rel_okX F h4
   simp only [MOp.run] at hr
   rcases mapK_spec R hm hr with ⟨hv, hr⟩ | ⟨p, b, sz, es, ents, clock, hv, hmp, hes, hμ, hb, hE, hc1, hc2, hr⟩
   · exact hr.elim
   · simp only at hr
     cases hko : (keyOk kk (AX.ev fr k') && noIter H.get p H.nx) <;> simp only [hko, cond_true, cond_false] at hr
     simp only [Bool.and_eq_true] at hko
     obtain ⟨hko, hni⟩ := hko
     have hno : ∀ j l c, H.get j ≠ .iter p l c := fun j l c e => by
      rcases Nat.lt_or_ge j H.nx with hj | hj
      · exact noIter_spec hni j hj l c e
      · rw [R.top j hj] at e; cases e
     obtain ⟨es', hes', hK⟩ := hr.ex
     rw [setK_eq] at hK
     have hkn := relV_data (μ' := Pos.none) _ (relV_scalar hko) hkv
     have hvn := hvv
     have hck : (Instr.checkKey false 10000 kt (a.eval k)).run P w = .ok () w := check_run h1 hko hkv false w
     have fin : ∀ (ents' : Array MapEntry) (clock' : Nat), (Instr.mapUpdate t (a.eval m) (a.eval k) (a.eval v)).run P w = .ok () { w with heap := w.heap.setIfInBounds b (.map ents' clock') } →
      relE M μ es' ents'.toList → (∀ e ∈ ents'.toList, e.born < clock') → (ents'.toList.map (·.born)).Nodup → Yields2 P o a M μ H K w := by
      intro ents' clock' hrun q1 q2 q3
      obtain ⟨R', G⟩ := R.writeM hes hμ hb q1 q2 q3 hno
      exact ⟨.skip, undef, _, by rcases ho with ho | ho <;> simp only [execOp, ho, Sem.run_bind, hrun, Result.andThen_ok, Sem.run_pure], .inr ⟨rfl, rfl⟩, M, μ, _, .any, R', by simp only [relV], G, hK⟩
     rcases mput_find h1 hko hkn hvn 0 hes' hE with ⟨rfl, h5⟩ | ⟨j, e, h5, h6, h7, h8⟩
     · refine fin (ents.push { key := a.eval k, val := a.eval v, born := clock }) (clock + 1) ?_ (by simp only [Array.toList_push]; exact relE_snoc hE hkn hvn) ?_ ?_
       · have hf : (Instr.findKey kt (a.eval k) ents.toList).run P w = .ok none w := ask_run h1 h5 w
         rw [hv]
         simp only [Instr.mapUpdate, Sem.run_bind, run_underlying ht, Result.andThen_ok, MapKept.run_getObj_map hb, hck, hf, MapKept.run_setObj_map _ hb]
       · intro e he
         simp only [Array.toList_push, List.mem_append, List.mem_singleton] at he
         rcases he with he | rfl
         · exact Nat.lt_succ_of_lt (hc1 e he)
         · exact Nat.lt_succ_self _
       · simp only [Array.toList_push, List.map_append, List.map_cons, List.map_nil]
         rw [List.nodup_append]
         refine ⟨hc2, by simp, ?_⟩
         intro x hx y hy
         simp only [List.mem_singleton] at hy
         subst hy
         have := born_mem.1 hc1 x hx
         omega
     · have hkey : (Instr.keyThatStays e.key (a.eval k)).run P w = .ok (a.eval k) w := by
        have hs : Instr.sameBits 10000 e.key (a.eval k) = true := by rw [h6]; exact same_bits hko hkv
        simp only [Instr.keyThatStays, hs, if_true, Sem.run_pure]
       have hget : ents[j]? = some e := by simpa using h5
       refine fin (ents.modify j fun e => { e with key := a.eval k, val := a.eval v }) clock ?_ (by rw [Array.toList_modify]; exact h8 _ fun e => ⟨rfl, rfl⟩) ?_ ?_
       · have hf : (Instr.findKey kt (a.eval k) ents.toList).run P w = .ok (some (j, e.val)) w := ask_run h1 (by rw [Nat.zero_add] at h7; exact h7) w
         rw [hv]
         simp only [Instr.mapUpdate, Sem.run_bind, run_underlying ht, Result.andThen_ok, MapKept.run_getObj_map hb, hck, hf, hget, Option.map_some, Option.getD_some, hkey, MapKept.run_setObj_map _ hb]
       · rw [born_mem, Array.toList_modify, modify_born ents.toList j (fun e => { e with key := a.eval k, val := a.eval v }) (fun _ => rfl)]; exact born_mem.1 hc1
       · rw [Array.toList_modify, modify_born ents.toList j (fun e => { e with key := a.eval k, val := a.eval v }) (fun _ => rfl)]; exact hc2
 · cases h1
theorem run_maplen {t : TypeId} {kt et : TypeId} {m : Operand} {o : Oper} {l : Array MapEntry} (ho : o.op = .call { callee := .builtin .len, args := #[m], argTypes := #[t] }) (ht : P.underlying t = some (.map kt et)) (hx : (a.eval m = .map none ∧ l = #[]) ∨ ∃ b clock, a.eval m = .map (some b) ∧ w.heap[b]? = some (.map l clock)) :
 (execOp a.eval o).run P w = .ok (.value (.int .i64 l.size)) w := by
 rw [run_call_builtin ho]
 rcases hx with ⟨hv, rfl⟩ | ⟨b, clock, hv, hb⟩
 · simp [builtin, Builtin.len_, hv, run_underlying ht, goInt]
 · simp [builtin, Builtin.len_, hv, run_underlying ht, goInt, MapKept.run_getObj_map hb]
theorem sound_mlen {c : Call} {m' : AX} {o : Oper} (ho : o.op = .call c) (h : okM P (.call c) (.len m') = true) (R : Rel M μ H w) (F : RelF N M μ fr a.tmps)
 (hr : (MOp.len m').run (AX.ev fr) H K) : Yields2 P o a M μ H K w := by
 simp only [okM] at h
 split at h
 · rename_i m t hb
   have hc := bcall_spec hb
   subst hc
   split at h
   · rename_i kt et ht
     have hm := rel_okX F h
     simp only [MOp.run] at hr
     have fin : ∀ (l : Array MapEntry) (es : List (AV × AV)), ((a.eval m = .map none ∧ l = #[]) ∨ ∃ b clock, a.eval m = .map (some b) ∧ w.heap[b]? = some (.map l clock)) → relE M μ es l.toList → K (.int .i64 es.length) H → Yields2 P o a M μ H K w := by
      intro l es hx hE hK
      have hrun := run_maplen (a := a) (o := o) (l := l) ho ht hx
      have hl : l.size = es.length := by rw [← relE_length hE]; simp
      rw [hl] at hrun
      exact yields2_same R hrun (mk_int _ _) hK
     rcases mapK_spec R hm hr with ⟨hv, hr⟩ | ⟨p, b, sz, es, ents, clock, hv, _, _, _, hb, hE, _, _, hr⟩
     · exact fin #[] [] (.inl ⟨hv, rfl⟩) (by simp [relE]) hr
     · exact fin ents es (.inr ⟨b, clock, hv, hb⟩) hE hr
   · cases h
 · cases h
theorem erase_born {l : List MapEntry} {j : Nat} : ∀ n ∈ (l.eraseIdx j).map (·.born), n ∈ l.map (·.born) := fun n hn => by
 obtain ⟨e, he, rfl⟩ := List.mem_map.1 hn
 exact List.mem_map_of_mem (List.mem_of_mem_eraseIdx he)
theorem sound_mdel {c : Call} {kk : KK} {m' k' : AX} {o : Oper} (ho : o.op = .call c) (h : okM P (.call c) (.del kk m' k') = true) (R : Rel M μ H w) (F : RelF N M μ fr a.tmps)
 (hr : (MOp.del kk m' k').run (AX.ev fr) H K) : Yields2 P o a M μ H K w := by
 simp only [okM] at h
 split at h
 · rename_i m k t t2 hb
   have hc := bcall_spec hb
   subst hc
   simp only [Bool.and_eq_true] at h
   obtain ⟨⟨h1, h2⟩, h3⟩ := h
   split at h1
   · rename_i kt et ht
     have hm := rel_okX F h2
     have hkv := rel_okX F h3
     simp only [MOp.run] at hr
     rcases mapK_spec R hm hr with ⟨hv, hr⟩ | ⟨p, b, sz, es, ents, clock, hv, hmp, hes, hμ, hb, hE, hc1, hc2, hr⟩
     · exact hr.elim
     · simp only at hr
       cases hko : (keyOk kk (AX.ev fr k') && noIter H.get p H.nx) <;> simp only [hko, cond_true, cond_false] at hr
       simp only [Bool.and_eq_true] at hko
       obtain ⟨hko, hni⟩ := hko
       have hno : ∀ j l c, H.get j ≠ .iter p l c := fun j l c e => by
        rcases Nat.lt_or_ge j H.nx with hj | hj
        · exact noIter_spec hni j hj l c e
        · rw [R.top j hj] at e; cases e
       obtain ⟨es', hes', hK⟩ := hr.ex
       rw [setK_eq] at hK
       have hck : (Instr.checkKey ents.isEmpty 10000 kt (a.eval k)).run P w = .ok () w := check_run h1 hko hkv _ w
       have fin : ∀ (ents' : Array MapEntry), (execOp a.eval o).run P w = .ok (.value (.tuple #[])) { w with heap := w.heap.setIfInBounds b (.map ents' clock) } →
        relE M μ es' ents'.toList → (∀ e ∈ ents'.toList, e.born < clock) → (ents'.toList.map (·.born)).Nodup → Yields2 P o a M μ H K w := by
        intro ents' hrun q1 q2 q3
        obtain ⟨R', G⟩ := R.writeM hes hμ hb q1 q2 q3 hno
        exact ⟨_, .tuple #[], _, hrun, .inl rfl, M, μ, _, .tuple [], R', by simp only [relV]; exact ⟨#[], rfl, by simp [relL]⟩, G, hK⟩
       rcases mdel_find h1 hko hkv 0 hes' hE with ⟨h5, h6⟩ | ⟨j, e, h5, h6, h7⟩
       · have hf : (Instr.findKey kt (a.eval k) ents.toList).run P w = .ok none w := ask_run h1 h6 w
         refine fin ents ?_ h5 hc1 hc2
         rw [run_call_builtin ho]
         simp [builtin, Builtin.delete_, hv, run_underlying ht, MapKept.run_getObj_map hb, hck, hf, MapKept.run_setObj_map _ hb]
       · have hf : (Instr.findKey kt (a.eval k) ents.toList).run P w = .ok (some (j, e.val)) w := ask_run h1 (by rw [Nat.zero_add] at h6; exact h6) w
         have hjl : j < ents.size := by have := (List.getElem?_eq_some_iff.1 h5).1; simpa using this
         have htl : (ents.eraseIdxIfInBounds j).toList = ents.toList.eraseIdx j := by simp
         refine fin (ents.eraseIdxIfInBounds j) ?_ (by rw [htl]; exact h7) ?_ ?_
         · rw [run_call_builtin ho]
           simp [builtin, Builtin.delete_, hv, run_underlying ht, MapKept.run_getObj_map hb, hck, hf, MapKept.run_setObj_map _ hb]
         · rw [htl, born_mem]; exact fun n hn => born_mem.1 hc1 n (erase_born n hn)
         · rw [htl]; exact List.Sublist.nodup (List.Sublist.map _ (List.eraseIdx_sublist ..)) hc2
   · cases h1
 · cases h
theorem sound_range {t : TypeId} {m : Operand} {m' : AX} {o : Oper} (ho : o.op = .range t m) (h : okM P (.range t m) (.range m') = true) (R : Rel M μ H w) (F : RelF N M μ fr a.tmps)
 (hr : (MOp.range m').run (AX.ev fr) H K) : Yields2 P o a M μ H K w := by
 simp only [okM] at h
 split at h
 · rename_i kt et ht
   have hm := rel_okX F h
   simp only [MOp.run] at hr
   rcases mapK_spec R hm hr with ⟨hv, hr⟩ | ⟨p, b, sz, es, ents, clock, hv, hmp, hes, hμ, hb, hE, hc1, hc2, hr⟩
   · exact hr.elim
   · obtain ⟨hd, hr⟩ := hr
     simp only [iterK_eq] at hr
     obtain ⟨R', G⟩ := R.pushI hes hμ hb (relE_data hd hE) hc1 hc2
     refine ⟨_, .pointer (some ⟨w.heap.size, 0, none⟩), _, ?_, .inl rfl, _, _, _, _, R', ?_, G, hr⟩
     · simp only [execOp, ho, hv, Sem.run_bind, run_range_map w t kt et b ents clock ht hb, Result.andThen_ok, Sem.run_pure]
     · simp only [relV]; exact ⟨w.heap.size, 0, Pos.put_same _ _ _, rfl⟩
 · cases h
theorem relE_nil {ρ : Pos} : ∀ {es : List (AV × AV)}, relE M ρ es [] → es = []
 | [], _ => rfl
 | (_, _) :: _, h => by simp [relE] at h
theorem sound_next {it : Operand} {it' : AX} {o : Oper} (ho : o.op = .next it false) (h : okX it it' = true) (R : Rel M μ H w) (F : RelF N M μ fr a.tmps)
 (hr : (MOp.next it').run (AX.ev fr) H K) : Yields2 P o a M μ H K w := by
 have hi := rel_okX F h
 simp only [MOp.run] at hr
 split at hr
 · rename_i j hev
   rw [hev] at hi
   simp only [relV] at hi
   obtain ⟨r, s0, hμj, hv⟩ := hi
   split at hr
   · rename_i k left cur hj
     obtain ⟨_, b, s, g1, bm, s2, ents, clock, since, seen, last, g2, g3, g4, g5, ⟨g6, g6'⟩, g7, g8, _⟩ := R.iters j k left cur hj
     rw [hμj] at g1; cases g1
     have hleft : (leftOf ents seen).toList = ents.toList.filter fun e => !seen.contains e.born := by simp [leftOf]
     rcases run_next_at (P := P) w o.type r bm since last seen ents clock g3 g4 g5 g6 with ⟨hz, hrun⟩ | ⟨e, he, w1, hw1, hrun⟩
     · have h0 : ents.toList.filter (fun e => !seen.contains e.born) = [] := by
        rw [← hleft]; exact List.length_eq_zero_iff.1 (by simpa using hz)
       rw [h0] at g8
       exact ⟨_, .tuple #[.bool false], w, by simp only [execOp, ho, hv, Sem.run_bind, hrun, Result.andThen_ok, Sem.run_pure], .inl rfl, M, μ, H, _, R, by simp only [relV]; exact ⟨#[.bool false], rfl, by simp [relL, relV]⟩, Move.refl _ _ _ _, hr.done (relE_nil g8)⟩
     · rw [hleft] at he
       obtain ⟨l1, x, y, l2, L1, L2, rfl, hL, q1, q2, q3⟩ := relE_mem g8 he
       have hK := hr.step l1 x y l2 rfl
       rw [setK_eq] at hK
       have hst := left_step g7 hL
       have hem : e ∈ ents.toList := (List.mem_filter.1 he).1
       have fin : ∀ w1 : World, Rel M μ H w1 → w1.heap = w.heap → (Instr.next (.pointer (some ⟨r, 0, none⟩)) false o.type).run P w = .ok (.tuple #[.bool true, e.key, e.val]) (Go.ChangeMaps.setBlock w1 r (.mapIter (some bm) since (seen.push e.born) clock)) →
        (∀ {M' : Mem} {μ' : Pos} {H' : Heap} {w' : World}, Move M μ H w1 M' μ' H' w' → Move M μ H w M' μ' H' w') → Yields2 P o a M μ H K w := by
        intro w1 R1 hh hrun hG
        obtain ⟨R', G⟩ := R1.stepI (p := (x, y)) (l' := l1 ++ l2) (since := since) (seen := seen) (e := e) hj hμj g2 (by rw [hh]; exact g3) (by rw [hh]; exact g4) g5 g6' g7 (by rw [hst]; exact q3) hem q1 q2
        refine ⟨_, .tuple #[.bool true, e.key, e.val], Go.ChangeMaps.setBlock w1 r (.mapIter (some bm) since (seen.push e.born) clock), by simp only [execOp, ho, hv, Sem.run_bind, hrun, Result.andThen_ok, Sem.run_pure], .inl rfl, M, μ, _, _, R', ?_, hG G, hK⟩
        simp only [relV]
        refine ⟨#[.bool true, e.key, e.val], rfl, ?_⟩
        have hn : Pos.le Pos.none μ := fun _ _ h => by cases h
        simp only [relL, relV]
        exact ⟨_, _, rfl, rfl, _, _, rfl, relV_mono (Mem.le_refl _) _ hn q1, _, _, rfl, relV_mono (Mem.le_refl _) _ hn q2, rfl⟩
       rcases hw1 with rfl | rfl
       · exact fin _ R rfl hrun id
       · exact fin _ R.drew rfl hrun Move.of_drew
   · exact hr.elim
 · exact hr.elim
theorem sound_entry {it : Operand} {it' : AX} {o : Oper} (ho : o.op = .entry it) (h : okX it it' = true) (R : Rel M μ H w) (F : RelF N M μ fr a.tmps)
 (hr : (MOp.entry it').run (AX.ev fr) H K) : Yields2 P o a M μ H K w := by
 have hi := rel_okX F h
 simp only [MOp.run] at hr
 split at hr
 · rename_i j hev
   rw [hev] at hi
   simp only [relV] at hi
   obtain ⟨r, s0, hμj, hv⟩ := hi
   split at hr
   · rename_i k left x y hj
     obtain ⟨_, b, s, g1, bm, s2, ents, clock, since, seen, last, g2, g3, g4, g5, ⟨g6, g6'⟩, g7, g8, g9⟩ := R.iters j k left _ hj
     rw [hμj] at g1; cases g1
     obtain ⟨e, seen0, rfl, rfl, e3, e4, e5⟩ := g9 (x, y) rfl
     have hrun := run_entry_at (P := P) w r bm since seen0 ents last e g3 g4 e3 g7
     refine ⟨_, .tuple #[e.key, e.val], w, by simp only [execOp, ho, hv, Sem.run_bind, hrun, Result.andThen_ok, Sem.run_pure], .inl rfl, M, μ, H, _, R, ?_, Move.refl _ _ _ _, hr⟩
     simp only [relV]
     refine ⟨#[e.key, e.val], rfl, ?_⟩
     have hn : Pos.le Pos.none μ := fun _ _ h => by cases h
     simp only [relL]
     exact ⟨_, _, rfl, relV_mono (Mem.le_refl _) _ hn e4, _, _, rfl, relV_mono (Mem.le_refl _) _ hn e5, rfl⟩
   · exact hr.elim
 · exact hr.elim
theorem eraseIdx_filter {α : Type} {p : α → Bool} : ∀ {l : List α} {j : Nat} {e : α}, l[j]? = some e → p e = false → (l.eraseIdx j).filter p = l.filter p
 | [], j, e, h, _ => by simp at h
 | x :: l, 0, e, h, hp => by simp at h; subst h; simp [hp]
 | x :: l, j + 1, e, h, hp => by
  simp only [List.eraseIdx_cons_succ, List.filter_cons]
  rw [eraseIdx_filter (by simpa using h) hp]
theorem mdel_find2 {kt : TypeId} {kk : KK} {key : AV} {u : Value} (hki : keyIs P kt kk = true) (hok : keyOk kk key = true) (hu : relV M key μ u) {ρ : Pos} : ∀ {es es' : List (AV × AV)} {l : List MapEntry} (i : Nat), mdel kk key es = some es' → relE M ρ es l →
 (relE M ρ es' l ∧ Ask P kt kk u l i none) ∨ (∃ j e, l[j]? = some e ∧ Cmp P kt kk u e.key true ∧ Ask P kt kk u l i (some (i + j, e.val)) ∧ relE M ρ es' (l.eraseIdx j))
 | [], es', l, i, h, hr => by
  simp only [relE] at hr; subst hr
  simp only [mdel] at h; cases h
  exact .inl ⟨by simp [relE], ask_nil⟩
 | (k, y) :: es, es', l, i, h, hr => by
  simp only [relE] at hr
  obtain ⟨e, t, rfl, h1, h2, h3⟩ := hr
  simp only [mdel] at h
  split at h
  · rename_i hq
    cases h
    obtain ⟨s1, _⟩ := same_of hki hok hq hu h1
    exact .inr ⟨0, e, rfl, s1, ask_yes s1, by simpa using h3⟩
  · rename_i hq
    obtain ⟨s1, _⟩ := same_of hki hok hq hu h1
    split at h
    · rename_i r' hr'
      cases h
      rcases mdel_find2 hki hok hu (i + 1) hr' h3 with ⟨h4, h5⟩ | ⟨j, e', h4, h4', h5, h6⟩
      · exact .inl ⟨by simp only [relE]; exact ⟨e, t, rfl, h1, h2, h4⟩, ask_no s1 h5⟩
      · exact .inr ⟨j + 1, e', by simpa using h4, h4', ask_no s1 (by rw [show i + 1 + j = i + (j + 1) by omega] at h5; exact h5), by simp only [List.eraseIdx_cons_succ, relE]; exact ⟨e, _, rfl, h1, h2, h6⟩⟩
    · cases h
  · cases h
theorem cmp_det {kt : TypeId} {kk : KK} {u v : Value} (h1 : Cmp P kt kk u v true) (h2 : Cmp P kt kk u v false) (w : World) : False := by
 cases kk with
 | c s => simp only [Cmp] at h1 h2; rw [h1] at h2; cases h2
 | f ks => have a := h1 w; rw [h2 w] at a; cases a
theorem mfind_none {kt : TypeId} {kk : KK} {key : AV} {u : Value} (hki : keyIs P kt kk = true) (hok : keyOk kk key = true) (hu : relV M key μ u) {ρ : Pos} : ∀ {es : List (AV × AV)} {l : List MapEntry}, mfind kk key es = some none → relE M ρ es l → ∀ e ∈ l, Cmp P kt kk u e.key false
 | [], l, _, hr, e, he => by simp only [relE] at hr; subst hr; cases he
 | (k, y) :: es, l, h, hr, e, he => by
  simp only [relE] at hr
  obtain ⟨e0, t, rfl, h1, h2, h3⟩ := hr
  simp only [mfind] at h
  split at h
  · cases h
  · rename_i hq
    obtain ⟨s1, _⟩ := same_of hki hok hq hu h1
    rcases List.mem_cons.1 he with rfl | he
    · exact s1
    · exact mfind_none hki hok hu h h3 e he
  · cases h
theorem Rel.addI (R : Rel M μ H w) {j k r s : Nat} {left : List (AV × AV)} {cur : Option (AV × AV)} (hk : H.get k ≠ .dead) (hj : H.get j = .dead) (hμ : μ j = some (r, s)) (hu : ∀ i s', H.get i ≠ .dead → μ i ≠ some (r, s')) (hap : ∀ o, M r o = none) (hI : IterAt M μ w k left cur r) : Rel M μ (H.set j (.iter k left cur)) w := by
 have hjk : j ≠ k := fun e => by subst e; exact hk hj
 have al : ∀ i, (H.set j (.iter k left cur)).get i ≠ .dead → i = j ∨ H.get i ≠ .dead := fun i hi => by
  rw [Heap.get_set] at hi; split at hi
  · rename_i e; exact .inl e.symm
  · exact .inr hi
 refine ⟨R.glob, R.dom, fun i hi => ?_, fun i ds hi => ?_, fun i es hi => ?_, fun i k' l c hi => ?_, R.recs_same (Mem.le_refl _) (fun i st id fr hi => ?_) (Pos.le_refl _) (fun _ _ _ => rfl), fun i i' x s1 t hi hi' hx hy => ?_, R.imm, fun i x s1 hi hx o => ?_⟩
 · rw [Heap.get_set]
   have := R.pos_lt hμ
   simp only [Heap.set] at hi
   rw [if_neg (by omega)]; exact R.top i hi
 · rw [Heap.get_set] at hi
   split at hi
   · cases hi
   · exact R.cells i ds hi
 · rw [Heap.get_set] at hi
   split at hi
   · cases hi
   · exact R.maps i es hi
 · rw [Heap.get_set] at hi
   split at hi
   · rename_i e; subst e
     cases hi
     exact ⟨by rw [Heap.get_set, if_neg hjk]; exact hk, r, s, hμ, hI⟩
   · rename_i hij
     obtain ⟨h1, h2⟩ := R.iters i k' l c hi
     refine ⟨?_, h2⟩
     rw [Heap.get_set]; split
     · simp
     · exact h1
 · rw [Heap.get_set] at hi
   split at hi
   · cases hi
   · exact hi
 · rcases al i hi with rfl | h1 <;> rcases al i' hi' with rfl | h2
   · rfl
   · rw [hμ] at hx; cases hx; exact absurd hy (hu _ _ h2)
   · rw [hμ] at hy; cases hy; exact absurd hx (hu _ _ h1)
   · exact R.inj i i' x s1 t h1 h2 hx hy
 · rcases al i hi with rfl | h1
   · rw [hμ] at hx; cases hx; exact hap o
   · exact R.apart i x s1 h1 hx o
theorem sound_delw {c : Call} {kk : KK} {m' k' it : AX} {o : Oper} (ho : o.op = .call c) (h : okM P (.call c) (.delw kk m' k' it) = true) (R : Rel M μ H w) (F : RelF N M μ fr a.tmps)
 (hr : (MOp.delw kk m' k' it).run (AX.ev fr) H K) : Yields2 P o a M μ H K w := by
 simp only [okM] at h
 split at h
 · rename_i m k t t2 hb
   have hc := bcall_spec hb
   subst hc
   simp only [Bool.and_eq_true] at h
   obtain ⟨⟨h1, h2⟩, h3⟩ := h
   split at h1
   · rename_i kt et ht
     have hm := rel_okX F h2
     have hkv := rel_okX F h3
     simp only [MOp.run] at hr
     rcases mapK_spec R hm hr with ⟨hv, hr⟩ | ⟨p, b, sz, es, ents, clock, hv, hmp, hes, hμ, hb, hE, hc1, hc2, hr⟩
     · exact hr.elim
     · simp only at hr
       split at hr
       · rename_i j hit
         split at hr
         · rename_i p' left cur hj
           cases hko : (keyOk kk (AX.ev fr k') && (Nat.beq p' p && noIterBut H.get p j H.nx)) <;> simp only [hko, cond_true, cond_false] at hr
           simp only [Bool.and_eq_true] at hko
           obtain ⟨hko, hpp, hni⟩ := hko
           have hpp := Nat.eq_of_beq_eq_true hpp
           subst hpp
           obtain ⟨r0, hf0, hr0, hr⟩ := hr.ex
           subst hr0
           obtain ⟨es', hes', hK⟩ := hr.ex
           simp only [setK_eq] at hK
           obtain ⟨_, r, s, g1, bm, s2, ents2, clock2, since, seen, last, g2, g3, g4, g5, g6, g7, g8, g9⟩ := R.iters j p' left cur hj
           rw [hμ] at g2; cases g2
           rw [hb] at g4; cases g4
           have hjp : j ≠ p' := fun e => by subst e; rw [hes] at hj; cases hj
           have hrb : r ≠ b := fun e => hjp (R.inj j p' r s sz (by rw [hj]; simp) (by rw [hes]; simp) g1 (by rw [e]; exact hμ))
           -- without the walk
           obtain ⟨R0, own0⟩ := R.kill j (fun es2 e => by rw [hj] at e; cases e)
           have hes0 : (H.set j .dead).get p' = .map es := by rw [Heap.get_set, if_neg hjp]; exact hes
           have hno : ∀ i l c, (H.set j .dead).get i ≠ .iter p' l c := fun i l c e => by
            rw [Heap.get_set] at e
            split at e
            · cases e
            · rename_i hij
              rcases Nat.lt_or_ge i H.nx with hi | hi
              · exact noIterBut_spec hni i hi (Ne.symm hij) l c e
              · rw [R.top i hi] at e; cases e
           have hck : (Instr.checkKey ents.isEmpty 10000 kt (a.eval k)).run P w = .ok () w := check_run h1 hko hkv _ w
           have unseen := mfind_none h1 hko hkv hf0 g8
           have fin : ∀ (ents' : Array MapEntry), (execOp a.eval o).run P w = .ok (.value (.tuple #[])) { w with heap := w.heap.setIfInBounds b (.map ents' clock) } →
            relE M μ es' ents'.toList → (∀ e ∈ ents'.toList, e.born < clock) → (ents'.toList.map (·.born)).Nodup → (∀ e ∈ ents'.toList, e.born < since) → (ents'.toList.filter (fun e => !seen.contains e.born)) = (ents.toList.filter fun e => !seen.contains e.born) → Yields2 P o a M μ H K w := by
            intro ents' hrun q1 q2 q3 q4 q5
            obtain ⟨R1, G1⟩ := R0.writeM hes0 hμ hb q1 q2 q3 hno
            have R2 := R1.addI (j := j) (k := p') (r := r) (s := s) (left := left) (cur := none) (by rw [Heap.get_set, if_pos rfl]; simp) (by rw [Heap.get_set, if_neg (Ne.symm hjp), Heap.get_set, if_pos rfl]) g1 (fun i s' hi hx => by
             have hij : i ≠ j := fun e => by subst e; rw [Heap.get_set, if_neg (Ne.symm hjp), Heap.get_set, if_pos rfl] at hi; exact hi rfl
             have hi' : H.get i ≠ .dead := by
              rw [Heap.get_set] at hi; split at hi
              · rename_i e; subst e; rw [hes]; simp
              · rw [Heap.get_set, if_neg (Ne.symm hij)] at hi; exact hi
             exact hij (R.inj i j r s' s hi' (by rw [hj]; simp) hx g1)) (R.apart j r s (by rw [hj]; simp) g1)
             ⟨b, sz, ents', clock, since, seen, last, hμ, by rw [(MapKept.heap_set hb).2 r hrb]; exact g3, (MapKept.heap_set hb).1, q4, g6, q3, by rw [q5]; exact g8, fun c hc => by cases hc⟩
            have hget : (((H.set j .dead).set p' (.map es')).set j (.iter p' left none)).get = ((H.set p' (.map es')).set j (.iter p' left none)).get := by
             funext i
             simp only [Heap.get_set]
             by_cases q1 : j = i <;> by_cases q2 : p' = i <;> simp [q1, q2]
            have own2 : ∀ x, Own μ ((H.set p' (.map es')).set j (.iter p' left none)) x → Own μ H x := fun x ⟨i, s', hi, hx⟩ => ⟨i, s', by
             rw [Heap.get_set] at hi; split at hi
             · rename_i e; subst e; rw [hj]; simp
             · rw [Heap.get_set] at hi; split at hi
               · rename_i e; subst e; rw [hes]; simp
               · exact hi, hx⟩
            have R3 : Rel M μ ((H.set p' (.map es')).set j (.iter p' left none)) { w with heap := w.heap.setIfInBounds b (.map ents' clock) } := by
             refine ⟨R2.glob, R2.dom, fun i hi => by rw [← hget]; exact R2.top i hi, fun i ds hi => R2.cells i ds (by rw [hget]; exact hi), fun i es2 hi => R2.maps i es2 (by rw [hget]; exact hi), fun i k2 l c2 hi => ?_, fun i st id fr hi => R2.loops i st id fr (by rw [hget]; exact hi), fun i i' x s1 t1 hi hi' => R2.inj i i' x s1 t1 (by rw [hget]; exact hi) (by rw [hget]; exact hi'), R2.imm, fun i x s1 hi => R2.apart i x s1 (by rw [hget]; exact hi)⟩
             have hh := R2.iters i k2 l c2 (by rw [hget]; exact hi)
             exact ⟨by rw [← hget]; exact hh.1, hh.2⟩
            exact ⟨_, .tuple #[], _, hrun, .inl rfl, M, μ, _, .tuple [], R3, by simp only [relV]; exact ⟨#[], rfl, by simp [relL]⟩, ⟨Pos.le_refl _, ⟨Mem.le_refl _, fun _ _ => rfl, ⟨rfl, rfl, rfl, by simp, fun x hx hn => (MapKept.heap_set hb).2 x (fun e => hn ⟨p', sz, by rw [hes]; simp, by rw [e]; exact hμ⟩)⟩, fun x hx => .inl (own2 x hx), fun _ _ _ h => .inl h⟩, Nat.le_refl _⟩, hK⟩
           rcases mdel_find2 h1 hko hkv 0 hes' hE with ⟨h5, h6⟩ | ⟨q, e, h5, h5', h6, h7⟩
           · have hf : (Instr.findKey kt (a.eval k) ents.toList).run P w = .ok none w := ask_run h1 h6 w
             refine fin ents ?_ h5 hc1 hc2 g5 rfl
             rw [run_call_builtin ho]
             simp [builtin, Builtin.delete_, hv, run_underlying ht, MapKept.run_getObj_map hb, hck, hf, MapKept.run_setObj_map _ hb]
           · have hf : (Instr.findKey kt (a.eval k) ents.toList).run P w = .ok (some (q, e.val)) w := ask_run h1 (by rw [Nat.zero_add] at h6; exact h6) w
             have htl : (ents.eraseIdxIfInBounds q).toList = ents.toList.eraseIdx q := by simp
             have hnot : (fun e : MapEntry => !seen.contains e.born) e = false := by
              cases hs : (fun e : MapEntry => !seen.contains e.born) e with
              | false => rfl
              | true => exact (cmp_det h5' (unseen e (List.mem_filter.2 ⟨List.mem_of_getElem? h5, hs⟩)) w).elim
             refine fin (ents.eraseIdxIfInBounds q) ?_ (by rw [htl]; exact h7) ?_ ?_ ?_ ?_
             · rw [run_call_builtin ho]
               simp [builtin, Builtin.delete_, hv, run_underlying ht, MapKept.run_getObj_map hb, hck, hf, MapKept.run_setObj_map _ hb]
             · rw [htl, born_mem]; exact fun n hn => born_mem.1 hc1 n (erase_born n hn)
             · rw [htl]; exact List.Sublist.nodup (List.Sublist.map _ (List.eraseIdx_sublist ..)) hc2
             · rw [htl]; exact fun e he => g5 e (List.mem_of_mem_eraseIdx he)
             · rw [htl]; exact eraseIdx_filter h5 hnot
         · exact hr.elim
       · exact hr.elim
   · cases h1
 · cases h
theorem srcK_upto (R : Rel M μ H w) {e : Nat} {x : AV} {u : Value} (hx : relV M x μ u) {K : List AV → Nat → Prop} (hk : srcK H.get e x K) :
 ∃ ds m, K ds m ∧ ds.length = m * e ∧ (∃ ad c, u = .slice ad m c) ∧ ∃ news, news.length = m * e ∧ relL M ds μ news ∧ ∀ q, q ≤ m → (Builtin.firstCells e q u).run P w = .ok (news.take (q * e)).toArray w := by
 have some' : ∀ {ad : Addr} {m c : Nat} {vs : List Value}, vs.length = m * e → (∀ j v, vs[j]? = some v → w.cell? (ad.add j) = some v) → ∀ q, q ≤ m → (Builtin.firstCells e q (.slice (some ad) m c)).run P w = .ok (vs.take (q * e)).toArray w := by
  intro ad m c vs hl hc q hq
  have hlen : (vs.take (q * e)).length = q * e := by rw [List.length_take, hl]; exact Nat.min_eq_left (Nat.mul_le_mul_right _ hq)
  have := run_loadCells_list (P := P) w ad (vs.take (q * e)) (fun j v hj => by
   have hj2 : j < q * e := by rw [← hlen]; exact (List.getElem?_eq_some_iff.1 hj).1
   rw [List.getElem?_take_of_lt hj2] at hj
   exact hc j v hj)
  rw [hlen] at this
  simpa only [Builtin.firstCells] using this
 unfold srcK at hk
 split at hk
 · rename_i cs n cap
   simp only [relV] at hx
   rcases hx with ⟨b, q, c, rfl, _, _, hm⟩ | ⟨rfl, rfl, rfl, _⟩ | ⟨b, q, s, c, rfl, rfl, rfl, _⟩
   · obtain ⟨vs, h1, h2, h3⟩ := relM_cells R hm (n * e) hk.l
     exact ⟨_, n, hk.r, by rw [List.length_take]; have := hk.l; omega, ⟨_, _, rfl⟩, vs, h1, h2, some' h1 h3⟩
   · exact ⟨_, 0, hk.r, by simp, ⟨_, _, rfl⟩, [], by simp, by simp [relL], fun q hq => by simp [Builtin.firstCells]⟩
   · exact ⟨_, 0, hk.r, by simp, ⟨_, _, rfl⟩, [], by simp, by simp [relL], some' (by simp) (fun j v h => by simp at h)⟩
 · simp only [relV] at hx
   subst hx
   exact ⟨[], 0, hk, by simp, ⟨_, _, rfl⟩, [], by simp, by simp [relL], fun q hq => by simp [Builtin.firstCells]⟩
 · rename_i k off n cap e'
   simp only [relV] at hx
   obtain ⟨b, sz, c, hμ, rfl, _⟩ := hx
   split at hk
   · rename_i cs hcs
     obtain ⟨vs, h1, h2, h3⟩ := cells_cells R hcs hμ (n * e) hk.l
     exact ⟨_, n, hk.r, by rw [List.length_take, List.length_drop]; have := hk.l; omega, ⟨_, _, rfl⟩, vs, h1, h2, some' h1 h3⟩
   · exact hk.elim
 · exact hk.elim
theorem copy_core {d s : Operand} {t tx : TypeId} {e : Nat} {dv xv : AV} {o : Oper} {el : TypeId} (ho : o.op = .call { callee := .builtin .copy, args := #[d, s], argTypes := #[t, tx] }) (hu : P.underlying t = some (.slice el)) (hsz : sized P el e = true) (hd : relV M dv μ (a.eval d)) (R : Rel M μ H w)
 (hsrc : ∀ {K : List AV → Nat → Prop}, srcK H.get e xv K → ∃ ds m, K ds m ∧ ds.length = m * e ∧ (Builtin.lenOf (a.eval s)).run P w = .ok m w ∧ ∃ news, news.length = m * e ∧ relL M ds μ news ∧ ∀ q, q ≤ m → (Builtin.firstCells e q (a.eval s)).run P w = .ok (news.take (q * e)).toArray w)
 (hr : match dv with
 | .slice k off n _ e' => match H.get k with
  | .cells cs => srcK H.get e xv fun ds m => Side (e' = e) (Branch (decide (m ≤ n)) (cpK H k off cs ds m K) (cpK H k off cs (ds.take (n * e)) n K))
  | _ => False
 | _ => False) : Yields2 P o a M μ H K w := by
 split at hr
 · rename_i k off n cap e'
   simp only [relV] at hd
   obtain ⟨b, sz, cp, hμ, hv, hlc, hroom, _⟩ := hd
   split at hr
   · rename_i cs hk
     obtain ⟨ds, m, hside, hdl, hlen2, news, hnl, hrel, hcells⟩ := hsrc hr
     obtain ⟨he, hbr⟩ := hside
     subst he
     obtain ⟨b', sz', cc, el', fz, q1, q2, q3, q4, q5⟩ := R.cells k cs hk
     rw [hμ] at q1; cases q1
     have fin : ∀ (ms : Nat) (l : List AV) (vs : List Value), ms ≤ n → ms ≤ m → Nat.min m n = ms → relL M l μ vs → vs.length = ms * e' → (Builtin.firstCells e' ms (a.eval s)).run P w = .ok vs.toArray w → cpK H k off cs l ms K → Yields2 P o a M μ H K w := by
      intro ms l vs hms _ hmin hrl hvl hfc hK
      unfold cpK at hK
      obtain ⟨e1, e2, e3⟩ := lputK_spec hK
      rw [setK_eq] at e3
      have hle : ms * e' ≤ cp * e' := Nat.mul_le_mul_right _ (by omega)
      have hst := run_storeCells_fz (P := P) b off el' fz vs 0 cc w q2 (by rw [q3]; exact q4) (by rw [hvl, q3]; omega) (relL_one e2 hrl)
      simp only [Nat.add_zero] at hst
      have hple := relP_length q5
      simp only [Array.length_toList] at hple
      obtain ⟨R', G⟩ := R.write (c' := (cc.toList.take off ++ vs ++ cc.toList.drop (off + vs.length)).toArray) hk hμ q2 q4
       (by simp; omega) (relP_put q5 hrl e1)
      refine ⟨_, .int .i64 ms, _, ?_, .inl rfl, M, μ, _, .int .i64 ms, R', by simp only [relV], G, e3⟩
      rw [run_call_builtin ho]
      simp only [builtin, List.map_toArray, List.map_cons, List.map_nil, hv, Builtin.copy_, List.getElem?_toArray, List.getElem?_cons_zero, List.getElem?_cons_succ, Sem.run_bind, run_underlying hu, Result.andThen_ok, hlen2, Sem.run_pure, run_sizeOf hsz, goInt]
      rw [hmin]
      simp only [hfc, Result.andThen_ok, hst]
     by_cases hmn : m ≤ n
     · exact fin m ds news hmn (Nat.le_refl _) (Nat.min_eq_left hmn) hrel hnl (by have := hcells m (Nat.le_refl _); rwa [List.take_of_length_le (by omega)] at this) (hbr.yes (by simpa using hmn))
     · have hnm : n ≤ m := by omega
       have hle2 : n * e' ≤ m * e' := Nat.mul_le_mul_right _ hnm
       exact fin n (ds.take (n * e')) (news.take (n * e')) (Nat.le_refl _) hnm (Nat.min_eq_right hnm) (relP_take _ (by omega) (relP_of_relL hrel)) (by rw [List.length_take]; omega) (hcells n hnm) (hbr.no (by simpa using hmn))
   · exact hr.elim
 · exact hr.elim
theorem sound_copy {c : Call} {e : Nat} {d' s' : AX} {o : Oper} (ho : o.op = .call c) (h : okM P (.call c) (.copy e d' s') = true) (R : Rel M μ H w) (F : RelF N M μ fr a.tmps)
 (hr : (MOp.copy e d' s').run (AX.ev fr) H K) : Yields2 P o a M μ H K w := by
 simp only [okM] at h
 split at h
 · rename_i d s t tx hb
   have hc := bcall_spec hb
   subst hc
   simp only [Bool.and_eq_true] at h
   obtain ⟨⟨⟨h1, h2⟩, h3⟩, h4⟩ := h
   obtain ⟨el, hu, hsz⟩ : ∃ el, P.underlying t = some (.slice el) ∧ sized P el e = true := by
    unfold sliceOf at h1
    split at h1
    · rename_i el hu; exact ⟨el, hu, h1⟩
    · cases h1
   have hd := rel_okX F h3
   have hs := rel_okX F h4
   simp only [MOp.run] at hr
   exact copy_core ho hu hsz hd R (fun hk => by
    obtain ⟨ds, m, h5, h6, ⟨ad, c0, hu2⟩, h7⟩ := srcK_upto (P := P) R hs hk
    exact ⟨ds, m, h5, h6, by rw [hu2]; simp only [Builtin.lenOf, Sem.run_pure], h7⟩) hr
 · cases h
theorem sound_copyS {c : Call} {d' s' : AX} {o : Oper} (ho : o.op = .call c) (h : okM P (.call c) (.copyS d' s') = true) (R : Rel M μ H w) (F : RelF N M μ fr a.tmps)
 (hr : (MOp.copyS d' s').run (AX.ev fr) H K) : Yields2 P o a M μ H K w := by
 simp only [okM] at h
 split at h
 · rename_i d s t tx hb
   have hc := bcall_spec hb
   subst hc
   simp only [Bool.and_eq_true] at h
   obtain ⟨⟨⟨h1, h2⟩, h3⟩, h4⟩ := h
   obtain ⟨el, hu, hsz⟩ : ∃ el, P.underlying t = some (.slice el) ∧ sized P el 1 = true := by
    unfold sliceOf at h1
    split at h1
    · rename_i el hu; exact ⟨el, hu, h1⟩
    · cases h1
   have hd := rel_okX F h3
   have hs := rel_okX F h4
   simp only [MOp.run] at hr
   refine copy_core ho hu hsz hd R (fun {K} hk => ?_) hr
   generalize AX.ev fr s' = xv at hs hk
   unfold srcK strD at hk
   cases xv <;> simp only at hk
   rename_i st
   have hv := rel_str hs
   refine ⟨_, st.size, hk.r, by rw [List.length_take, strCells_len]; omega, by rw [hv]; simp only [Builtin.lenOf, Sem.run_pure], byteCells st, by rw [byteCells_length]; omega, by rw [List.take_of_length_le (by rw [strCells_len]; omega)]; exact strCells_rel st, fun q hq => ?_⟩
   rw [hv, Nat.mul_one]
   simp only [Builtin.firstCells, Sem.run_pure]
   congr 1
   apply Array.ext'
   simp [byteCells, ByteArray.extract, ByteArray.copySlice, List.map_take]
 · cases h
theorem mop_sound {o : Oper} {p : MOp} (h : okM P o.op p = true) (R : Rel M μ H w) (F : RelF N M μ fr a.tmps) (hr : p.run (AX.ev fr) H K) : Yields2 P o a M μ H K w := by
 cases hop : o.op <;> cases p <;> rw [hop] at h <;> try (simp [okM] at h; done)
 case makeMap.mk t r =>
  cases r with
  | none => exact sound_mk hop R hr
  | some x => simp [okM] at h
 case lookup.get t m k ok ok' kk zero m' k' =>
  have : ok = ok' := by simp only [okM, Bool.and_eq_true, beq_iff_eq] at h; exact h.1.1.2
  subst this
  exact sound_mget hop (by rw [hop]; exact h) R F hr
 case mapUpdate.set => exact sound_mset (.inl hop) (by rw [hop]; exact h) R F hr
 case insert.set => exact sound_mset (.inr hop) (by rw [hop]; exact h) R F hr
 case call.del => exact sound_mdel hop h R F hr
 case call.len => exact sound_mlen hop h R F hr
 case range.range => exact sound_range hop h R F hr
 case next.next it str it' =>
  cases str with
  | true => simp [okM] at h
  | false => exact sound_next hop (by simpa only [okM] using h) R F hr
 case call.delw => exact sound_delw hop h R F hr
 case call.copy => exact sound_copy hop h R F hr
 case call.copyS => exact sound_copyS hop h R F hr
 case entry.entry => exact sound_entry hop (by simpa only [okM] using h) R F hr
end
end Go.Eng

namespace Go.Eng
open Go

def FR (r : Option Nat) : Fence := { fn := fun _ => True, depth := none, alive := false, round := r }
theorem fenced_FR (P : Program) (r : Option Nat) (m : Machine) : m.fenced P (FR r) := fenced_wide P m
section
variable {P : Program} {r : Option Nat} {a : Act} {w : World}
theorem rows_in {row : String} {args : Array Value} {R : Value → World → Prop} (h : Rows P row args w R) : RowsIn (FR r) 0 P row args w R := by
 intro c cs _
 obtain ⟨v, w', hr, hs⟩ := h c cs
 exact ⟨v, w', hr, StepsIn.mono (fun m _ => fenced_FR P r m) (StepsIn.of_steps hs)⟩
theorem calls_in {f : FuncId} {args : Array Value} {R : Ending → World → Prop} (h : Calls P f args w R) : CallsIn (FR r) 0 P f args w R := (callsIn_wide (n := 0)).2 h
theorem Oper.wpIn_of_wp {o : Oper} (hd : ∀ c, o.op ≠ .defer c) {next : Act → World → Prop} {Q : Exit → Act → World → Prop} (h : o.wp P a w next Q) : o.wpIn (FR r) 0 P a w next Q := by
 refine ⟨fun _ _ => trivial, ?_⟩
 rw [Oper.semAt_eq _ _ _ hd]
 unfold Oper.wp at h
 generalize (execOp a.eval o).run P w = res at h ⊢
 cases res with
 | ok x w' =>
  cases x with
  | value v => exact h
  | skip => exact h
  | defer d => exact h
  | enter f args => exact ⟨fun h0 => (by cases h0), calls_in h⟩
  | row row args => exact ⟨fun h0 => (by cases h0), rows_in h⟩
  | _ => exact h.elim
 | halt x w' => cases x <;> first | exact h | exact h.elim
theorem stepR_scope {b : Frame} {k : List Item} {cs : List Frame} {c : Code} : step P (lone (b.atR a (.code (.scope c) :: k)) cs w) = .next (lone (b.atR a (.code c :: .inScope c :: k)) cs w) :=
 step_lone_go (by simp [stepG, stepG.exec, Frame.atR])
theorem stepR_inScope {b : Frame} {k : List Item} {cs : List Frame} {c : Code} : step P (lone (b.atR a (.inScope c :: k)) cs w) = .next (lone (b.atR a k) cs w) :=
 step_lone_go (by simp [stepG, stepG.exec, Frame.atR])
theorem wpIn_scope_straight {Q : Exit → Act → World → Prop} {c : Code} (h : c.wpIn (FR r) 0 P (Exit.noGoto Q) a w) : (Code.scope c).wpIn (FR r) 0 P Q a w := by
 intro b k cs hro hb hr
 obtain ⟨e, a₁, w₁, hq, harr⟩ := h b (.inScope c :: k) cs hro hb hr
 have one : StepsIn (Machine.fenced P (FR r)) P (lone (b.atR a (.code (.scope c) :: k)) cs w) (lone (b.atR a (.code c :: .inScope c :: k)) cs w) := .one (fenced_FR P r _) stepR_scope
 cases e with
 | normal => exact ⟨.normal, a₁, w₁, hq, one.trans (StepsIn.trans harr (.one (fenced_FR P r _) stepR_inScope))⟩
 | exit id =>
  have hx : exitTo id (.inScope c :: k) = exitTo id k := by simp [exitTo]
  exact ⟨.exit id, a₁, w₁, hq, fun k' hk => one.trans (harr.1 k' (by rw [hx]; exact hk)), fun hr' hk => let ⟨k₁, h1, h2⟩ := harr.2 hr' (by rw [hx]; exact hk); ⟨k₁, h1, one.trans h2⟩⟩
 | goto l => exact hq.elim
 | ret => exact ⟨_, a₁, w₁, hq, .of_steps one harr⟩
 | panic ch => exact ⟨_, a₁, w₁, hq, .of_steps one harr⟩
 | outgrown => exact ⟨_, a₁, w₁, hq, .of_steps one harr⟩
theorem wpAnyIn_of_seq {md : Region.Mode} {ops : Array Oper} {Q' : Exit → Act → World → Prop} : ∀ (l : List Oper) (k : Nat) (listed : Array Bool) (a : Act) (w : World), (∀ j, l[j]? = ops[k + j]?) →
 Region.seqB md ops l.length k listed = true → wpListIn (FR r) 0 P ops Q' l a w → wpAnyIn (FR r) 0 P md ops Q' l.length listed a w
 | [], _, _, _, _, _, hB, h => ⟨by simpa [Region.seqB] using hB, h⟩
 | o :: l, k, listed, a, w, hl, hB, h => by
  have h0 : ops[k]? = some o := by simpa using (hl 0).symm
  simp only [List.length_cons, Region.seqB, Bool.and_eq_true, decide_eq_true_eq] at hB
  refine ⟨fun h1 => (by rw [hB.1] at h1; cases h1), fun i hi => ?_⟩
  rw [hB.1] at hi
  have hik : i = k := by simpa using hi
  subst hik
  have hw : wpOpIn (FR r) 0 P ops Q' i (wpListIn (FR r) 0 P ops Q' l) a w := by unfold wpOpIn; simp only [h0]; exact h
  exact wpOpIn_mono (fun a' w' h' => wpAnyIn_of_seq l (i + 1) _ a' w' (fun j => by have := hl (j + 1); simpa [Nat.add_assoc, Nat.add_comm 1 j] using this) hB.2 h') hw
end
class Pend where
 D : List Deferred
 nm : Bool := false
variable [Globs]

def mark (r : Nat) : Deferred := { target := .collected r, args := #[] }
structure Marks [Pend] (w0 : World) (ds : List Deferred) (μ : Pos) (H : Heap) (w : World) : Prop where
 ex : ∃ rs : List Nat, ds = rs.map mark ++ Pend.D ∧ rs.Nodup ∧ ∀ r ∈ rs, w0.heap.size ≤ r ∧ w.heap[r]? = some (.deferred (some [])) ∧ ¬ Own μ H r
 nm : Pend.nm = true → ds = Pend.D
theorem Marks.nil [Pend] {w0 w : World} {μ : Pos} {H : Heap} : Marks w0 Pend.D μ H w := ⟨⟨[], rfl, List.nodup_nil, fun _ h => by cases h⟩, fun _ => rfl⟩
theorem Marks.step [Pend] {w0 w w' : World} {ds : List Deferred} {n : Nat} {M M' : Mem} {μ μ' : Pos} {H H' : Heap} (h : Marks w0 ds μ H w) (G : Grow n M μ H w M' μ' H' w') : Marks w0 ds μ' H' w' := by
 obtain ⟨⟨rs, h1, h2, h3⟩, h4⟩ := h
 refine ⟨⟨rs, h1, h2, fun r hr => ?_⟩, h4⟩
 obtain ⟨a, b, c⟩ := h3 r hr
 have hlt : r < w.heap.size := (Array.getElem?_eq_some_iff.1 b).1
 refine ⟨a, by rw [G.keep.block r hlt c]; exact b, fun ho => ?_⟩
 rcases G.own r ho with h | h
 · exact c h
 · omega
theorem Rel.off {M : Mem} {μ : Pos} {H : Heap} {w w' : World} (R : Rel M μ H w) (h : ∀ b, Own μ H b → w'.heap[b]? = w.heap[b]?) (hi : ∀ b o v, M b o = some v → w'.heap[b]? = w.heap[b]?) : Rel M μ H w' := by
 have own : ∀ {k b s}, H.get k ≠ .dead → μ k = some (b, s) → w'.heap[b]? = w.heap[b]? := fun hk hμ => h _ ⟨_, _, hk, hμ⟩
 refine ⟨R.glob, R.dom, R.top, fun k cs hk => ?_, fun k es hk => ?_, fun j k left cur hj => ?_, fun j st id fr hj => ?_, R.inj, fun b o v hv => ?_, R.apart⟩
 · obtain ⟨b, sz, c, el, fz, h1, h2, h3⟩ := R.cells k cs hk
   exact ⟨b, sz, c, el, fz, h1, by rw [own (by rw [hk]; simp) h1]; exact h2, h3⟩
 · obtain ⟨b, sz, ents, clock, h1, h2, h3⟩ := R.maps k es hk
   exact ⟨b, sz, ents, clock, h1, by rw [own (by rw [hk]; simp) h1]; exact h2, h3⟩
 · obtain ⟨hk, b, s, g1, bm, s2, ents, clock, since, seen, last, g2, g3, g4, g5⟩ := R.iters j k left cur hj
   exact ⟨hk, b, s, g1, bm, s2, ents, clock, since, seen, last, g2, by rw [own (by rw [hj]; simp) g1]; exact g3, by rw [own hk g2]; exact g4, g5⟩
 · obtain ⟨b, s, g1, r, g2, g3⟩ := R.loops j st id fr hj
   exact ⟨b, s, g1, r, by rw [own (by rw [hj]; simp) g1]; exact g2, g3⟩
 · have := R.imm b o v hv
   simp only [World.cell?] at this ⊢
   rw [hi b o v hv]; exact this
theorem Rel.no_mem {M : Mem} {μ : Pos} {H : Heap} {w : World} (R : Rel M μ H w) {b o : Nat} {x : Obj} (h : w.heap[b]? = some x) (hx : ∀ c el fz, x ≠ .cells c el fz) {v : Value} : M b o ≠ some v := fun hm => by
 have := R.imm b o v hm
 simp only [World.cell?, h] at this
 cases x <;> simp_all

theorem putObj_heap {w : World} {b : Nat} {o o0 : Obj} (h : w.heap[b]? = some o0) (x : Nat) : (w.putObj b o).heap[x]? = if x = b then some o else w.heap[x]? := by
 by_cases e : x = b
 · subst e; rw [if_pos rfl]; exact World.putObj_heap_same (Array.getElem?_eq_some_iff.1 h).1
 · rw [if_neg e]; exact World.putObj_heap_other e
section
variable {M : Mem} {μ : Pos} {H : Heap} {w : World}
theorem Rel.aside (R : Rel M μ H w) (o : Obj) : Rel M μ H (w.alloc o) :=
 R.off (fun _ hb => alloc_heap_lt w o (R.own_lt hb)) (fun _ _ _ hv => alloc_heap_lt w o (R.cell_lt hv))
theorem Rel.pushL (R : Rel M μ H w) {r : Loop} {st : RS} {id : Nat} {fr : Fr} (hst : st.ok r) (hrf : Globs.rf id r.tmps.size r.params.toList r.assign r.body) (hfr : ∀ t, relV M (look fr t) μ (r.tmps.getD t undef)) :
 Rel M (μ.put H.nx (w.heap.size, 0)) (H.push (.loop st id fr)) (w.alloc (.loop r)) ∧ Move M μ H w M (μ.put H.nx (w.heap.size, 0)) (H.push (.loop st id fr)) (w.alloc (.loop r)) := by
 have hfree : μ H.nx = none := R.dom _ (Nat.le_refl _)
 have hle : Pos.le μ (μ.put H.nx (w.heap.size, 0)) := Pos.le_put hfree _
 have hdead : H.get H.nx = .dead := R.top _ (Nat.le_refl _)
 have R1 : Rel M μ H (w.alloc (.loop r)) := R.aside _
 have alive : ∀ j, (H.push (.loop st id fr)).get j ≠ .dead → j = H.nx ∨ (j ≠ H.nx ∧ H.get j ≠ .dead) := fun j hj => by
  rw [Heap.get_push] at hj
  split at hj
  · rename_i e; exact .inl e.symm
  · rename_i e; exact .inr ⟨Ne.symm e, hj⟩
 have new : (w.alloc (.loop r)).heap[w.heap.size]? = some (.loop r) := alloc_heap_new w _
 have oldlt : ∀ {j b s}, H.get j ≠ .dead → μ j = some (b, s) → b < w.heap.size := fun hj hx => R.own_lt ⟨_, _, hj, hx⟩
 have other : ∀ {j}, j ≠ H.nx → (μ.put H.nx (w.heap.size, 0)) j = μ j := fun h => Pos.put_other μ _ h
 refine ⟨⟨R.glob, fun k hk => ?_, fun j hj => ?_, fun j ds hj => ?_, fun j es hj => ?_, fun j k' left cur hj => ?_, fun j st' id' fr' hj => ?_, fun i j x s t hi hj hx hy => ?_, R1.imm, fun j x s hj hx o => ?_⟩, ⟨hle, ⟨Mem.le_refl _, fun k hk => other (by omega), ⟨rfl, rfl, rfl, by simp, fun x hx _ => alloc_heap_lt w _ hx⟩, fun x hx => ?_, fun _ _ _ h => .inl h⟩, Nat.le_succ _⟩⟩
 · have hk' : H.nx + 1 ≤ k := hk
   rw [other (by omega)]; exact R.dom k (by omega)
 · have hj' : H.nx + 1 ≤ j := hj
   rw [Heap.get_push, if_neg (by omega)]; exact R.top j (by omega)
 · rw [Heap.get_push] at hj
   split at hj
   · cases hj
   · rename_i e
     obtain ⟨b', s', d, el', fz', h1, h2, h3, h4, h5⟩ := R1.cells j ds hj
     exact ⟨b', s', d, el', fz', hle _ _ h1, h2, h3, h4, relP_mono (Mem.le_refl _) hle _ h5⟩
 · rw [Heap.get_push] at hj
   split at hj
   · cases hj
   · obtain ⟨b', s', ents, clock, h1, h2, h3, h4⟩ := R1.maps j es hj
     exact ⟨b', s', ents, clock, hle _ _ h1, h2, relE_mono (Mem.le_refl _) hle h3, h4⟩
 · rw [Heap.get_push] at hj
   split at hj
   · cases hj
   · obtain ⟨hal, b, s, g1, bm', s2', ents', clock', since, seen, last, g2, g3⟩ := R1.iters j k' left cur hj
     refine ⟨?_, b, s, hle _ _ g1, bm', s2', ents', clock', since, seen, last, hle _ _ g2, g3⟩
     rw [Heap.get_push]; split
     · simp
     · exact hal
 · rw [Heap.get_push] at hj
   split at hj
   · rename_i e; subst e; cases hj
     exact ⟨w.heap.size, 0, Pos.put_same _ _ _, r, new, hst, hrf, fun t => relV_mono (Mem.le_refl _) _ hle (hfr t)⟩
   · obtain ⟨b, s, g1, r', g2, g3, g4, g5⟩ := R1.loops j st' id' fr' hj
     exact ⟨b, s, hle _ _ g1, r', g2, g3, g4, fun t => relV_mono (Mem.le_refl _) _ hle (g5 t)⟩
 · rcases alive i hi with rfl | ⟨h1, h2⟩ <;> rcases alive j hj with rfl | ⟨h3, h4⟩
   · rfl
   · rw [Pos.put_same] at hx; cases hx; rw [other h3] at hy; have := oldlt h4 hy; omega
   · rw [Pos.put_same] at hy; cases hy; rw [other h1] at hx; have := oldlt h2 hx; omega
   · rw [other h1] at hx; rw [other h3] at hy; exact R.inj i j x s t h2 h4 hx hy
 · rcases alive j hj with rfl | ⟨h1, h2⟩
   · rw [Pos.put_same] at hx; cases hx
     cases hm : M w.heap.size o with
     | none => rfl
     | some v => have := R.cell_lt hm; omega
   · rw [other h1] at hx; exact R.apart j x s h2 hx o
 · obtain ⟨j, s, hj, hx⟩ := hx
   rcases alive j hj with rfl | ⟨h1, h2⟩
   · rw [Pos.put_same] at hx; cases hx; exact .inr (Nat.le_refl _)
   · rw [other h1] at hx; exact .inl ⟨j, s, h2, hx⟩
theorem Rel.setL (R : Rel M μ H w) {k b s id : Nat} {st st' : RS} {fr : Fr} {r r' : Loop} (hk : H.get k = .loop st id fr) (hμ : μ k = some (b, s)) (hb : w.heap[b]? = some (.loop r)) (hst : st'.ok r') (ht : r'.tmps = r.tmps) (hp : r'.params = r.params) (ha : r'.assign = r.assign) (hbd : r'.body = r.body) :
 Rel M μ (H.set k (.loop st' id fr)) (w.putObj b (.loop r')) ∧ Move M μ H w M μ (H.set k (.loop st' id fr)) (w.putObj b (.loop r')) := by
 have hne : H.get k ≠ .dead := by rw [hk]; simp
 have hh := putObj_heap (o := .loop r') hb
 have other : ∀ j b' s', H.get j ≠ .dead → μ j = some (b', s') → j ≠ k → b' ≠ b := fun j b' s' hj hμ' hjk e => hjk (R.inj j k b s' s hj hne (e ▸ hμ') hμ)
 have al : ∀ j, (H.set k (.loop st' id fr)).get j ≠ .dead → H.get j ≠ .dead := fun j hj => by
  rw [Heap.get_set] at hj; split at hj
  · subst_vars; exact hne
  · exact hj
 refine ⟨⟨R.glob, R.dom, fun j hj => ?_, fun j ds hj => ?_, fun j es hj => ?_, R.walks (Mem.le_refl _) (fun j k' left cur hj => ?_), fun j st2 id2 fr2 hj => ?_, fun i j x s t hi hj hx hy => R.inj i j x s t (al i hi) (al j hj) hx hy, fun x o v hv => ?_, fun j x s hj hx o => R.apart j x s (al j hj) hx o⟩,
  ⟨Pos.le_refl _, ⟨Mem.le_refl _, fun _ _ => rfl, ⟨rfl, rfl, rfl, by simp, fun x hx hno => by rw [hh, if_neg (fun e => hno ⟨k, s, hne, by rw [e]; exact hμ⟩)]⟩, fun x hx => .inl (Own.set hne hx), fun _ _ _ h => .inl h⟩, Nat.le_refl _⟩⟩
 · rw [Heap.get_set]
   have := R.pos_lt hμ
   simp only [Heap.set] at hj
   rw [if_neg (by omega)]; exact R.top j hj
 · rw [Heap.get_set] at hj
   split at hj
   · cases hj
   · rename_i hjk
     obtain ⟨b', s', d, el', fz', h1, h2, h3⟩ := R.cells j ds hj
     exact ⟨b', s', d, el', fz', h1, by rw [hh, if_neg (other j b' s' (by rw [hj]; simp) h1 (Ne.symm hjk))]; exact h2, h3⟩
 · rw [Heap.get_set] at hj
   split at hj
   · cases hj
   · rename_i hjk
     obtain ⟨b', s', ents, clock, h1, h2, h3⟩ := R.maps j es hj
     exact ⟨b', s', ents, clock, h1, by rw [hh, if_neg (other j b' s' (by rw [hj]; simp) h1 (Ne.symm hjk))]; exact h2, h3⟩
 · rw [Heap.get_set] at hj
   split at hj
   · cases hj
   · rename_i hjk
     have hal := (R.iters j k' left cur hj).1
     obtain ⟨es, hes⟩ := R.iter_map hj
     have hkk : k' ≠ k := fun e => by subst e; rw [hk] at hes; cases hes
     refine ⟨j, k', hj, ?_, fun x hx => hx, fun x hx => hx, fun b2 s2 hx _ => by rw [hh, if_neg (other j b2 s2 (by rw [hj]; simp) hx (Ne.symm hjk))], fun b2 s2 hx _ => by rw [hh, if_neg (other k' b2 s2 hal hx hkk)]⟩
     rw [Heap.get_set, if_neg (Ne.symm hkk)]; exact hal
 · rw [Heap.get_set] at hj
   split at hj
   · rename_i e; subst e; cases hj
     obtain ⟨b2, s2, g1, r2, g2, g3, g4, g5⟩ := R.loops k st id fr hk
     rw [hμ] at g1; cases g1
     rw [hb] at g2; cases g2
     exact ⟨b, s, hμ, r', by rw [hh, if_pos rfl], hst, by rw [ht, hp, ha, hbd]; exact g4, fun t => by rw [ht]; exact g5 t⟩
   · rename_i hjk
     obtain ⟨b2, s2, g1, r2, g2, g3⟩ := R.loops j st2 id2 fr2 hj
     exact ⟨b2, s2, g1, r2, by rw [hh, if_neg (other j b2 s2 (by rw [hj]; simp) g1 (Ne.symm hjk))]; exact g2, g3⟩
 · have := R.imm x o v hv
   have hx : x ≠ b := fun e => by have h2 := R.apart k b s hne hμ o; rw [e] at hv; rw [hv] at h2; cases h2
   simp only [World.cell?] at this ⊢
   rw [hh, if_neg hx]; exact this
theorem Rel.dropL (R : Rel M μ H w) {k b s id : Nat} {st : RS} {fr : Fr} {r : Loop} (hk : H.get k = .loop st id fr) (hμ : μ k = some (b, s)) (hb : w.heap[b]? = some (.loop r)) (o : Obj) :
 Rel M μ (H.set k .dead) (w.putObj b o) ∧ Move M μ H w M μ (H.set k .dead) (w.putObj b o) := by
 have hne : H.get k ≠ .dead := by rw [hk]; simp
 have hh := putObj_heap (o := o) hb
 obtain ⟨R1, own1⟩ := R.kill k (fun es e => by rw [hk] at e; cases e)
 refine ⟨R1.off (fun x hx => ?_) (fun x q v hv => ?_), ⟨Pos.le_refl _, ⟨Mem.le_refl _, fun _ _ => rfl, ⟨rfl, rfl, rfl, by simp, fun x hx hno => by rw [hh, if_neg (fun e => hno ⟨k, s, hne, by rw [e]; exact hμ⟩)]⟩, fun x hx => .inl (own1 x hx), fun _ _ _ h => .inl h⟩, Nat.le_refl _⟩⟩
 · rw [hh, if_neg]
   rintro rfl
   obtain ⟨j, s', hj, hx⟩ := hx
   rw [Heap.get_set] at hj
   split at hj
   · exact hj rfl
   · rename_i e; exact e (R.inj k j x s s' hne hj hμ hx)
 · rw [hh, if_neg]
   rintro rfl
   have h2 := R.apart k x s hne hμ q; rw [hv] at h2; cases h2
end

def takeAll : List Nat → World → World
 | [], w => w
 | r :: rs, w => takeAll rs (w.putObj r (.deferred none))
theorem takeAll_size : ∀ (rs : List Nat) (w : World), (takeAll rs w).heap.size = w.heap.size
 | [], _ => rfl
 | r :: rs, w => by rw [takeAll, takeAll_size rs, World.putObj_size]
theorem takeAll_rest : ∀ (rs : List Nat) (w : World), (takeAll rs w).os = w.os ∧ (takeAll rs w).tape = w.tape ∧ (takeAll rs w).output = w.output
 | [], _ => ⟨rfl, rfl, rfl⟩
 | r :: rs, w => takeAll_rest rs (w.putObj r (.deferred none))
theorem takeAll_heap : ∀ (rs : List Nat) (w : World) (b : Nat), b ∉ rs → (takeAll rs w).heap[b]? = w.heap[b]?
 | [], _, _, _ => rfl
 | r :: rs, w, b, h => by
  rw [takeAll, takeAll_heap rs _ b (fun hb => h (List.mem_cons_of_mem _ hb)), World.putObj_heap_other (fun e => h (by rw [e]; exact List.mem_cons_self ..))]
theorem leaves_all {P : Program} {F : Fence} {n : Nat} {fn : Func} {tmps : Array Value} {R : Ending → World → Prop} : ∀ (rs : List Nat) (w : World), (∀ r ∈ rs, w.heap[r]? = some (.deferred (some []))) → rs.Nodup →
 (∃ v, (results fn tmps).run P (takeAll rs w) = .ok v (takeAll rs w) ∧ R (.returned v) (takeAll rs w)) → LeavesInM F n P fn tmps R (rs.map mark) .returning w
 | [], w, _, _, h => h
 | r :: rs, w, h1, h2, h => by
  refine ⟨by simp, .inl ⟨r, w.putObj r (.deferred none), rfl, run_takeDeferred (h1 r (List.mem_cons_self ..)), ?_⟩⟩
  have h2 := List.nodup_cons.1 h2
  refine leaves_all rs _ (fun q hq => ?_) h2.2 h
  rw [World.putObj_heap_other (fun e => h2.1 (by rw [← e]; exact hq))]
  exact h1 q (List.mem_cons_of_mem _ hq)
theorem leaves_marks {P : Program} {F : Fence} {n : Nat} {fn : Func} {tmps : Array Value} {R : Ending → World → Prop} {u : FrameMode} (hu : u ≠ .run) {D : List Deferred} : ∀ (rs : List Nat) (w : World), (∀ r ∈ rs, w.heap[r]? = some (.deferred (some []))) → rs.Nodup →
 LeavesInM F n P fn tmps R D u (takeAll rs w) → LeavesInM F n P fn tmps R (rs.map mark ++ D) u w
 | [], w, _, _, h => h
 | r :: rs, w, h1, h2, h => by
  refine ⟨hu, .inl ⟨r, w.putObj r (.deferred none), rfl, run_takeDeferred (h1 r (List.mem_cons_self ..)), ?_⟩⟩
  have h2 := List.nodup_cons.1 h2
  refine leaves_marks hu rs _ (fun q hq => ?_) h2.2 h
  rw [World.putObj_heap_other (fun e => h2.1 (by rw [← e]; exact hq))]
  exact h1 q (List.mem_cons_of_mem _ hq)
theorem Marks.out {n : Nat} {M0 M : Mem} {μ0 μ : Pos} {H0 H : Heap} {w0 w : World} {rs : List Nat} (h : ∀ r ∈ rs, w0.heap.size ≤ r ∧ w.heap[r]? = some (.deferred (some [])) ∧ ¬ Own μ H r) (R : Rel M μ H w) (G : Grow n M0 μ0 H0 w0 M μ H w) :
 Rel M μ H (takeAll rs w) ∧ Grow n M0 μ0 H0 w0 M μ H (takeAll rs w) := by
 refine ⟨R.off (fun b hb => takeAll_heap rs w b fun hm => (h b hm).2.2 hb) (fun b o v hv => takeAll_heap rs w b fun hm => R.no_mem (h b hm).2.1 (fun _ _ _ e => by cases e) hv), G.mem, G.pin, ⟨(takeAll_rest rs w).1.trans G.keep.os, (takeAll_rest rs w).2.1.trans G.keep.tape, (takeAll_rest rs w).2.2.trans G.keep.output, by rw [takeAll_size]; exact G.keep.size, fun b hb hn => ?_⟩, G.own, G.fresh⟩
 rw [takeAll_heap rs w b (fun hm => by have := (h b hm).1; omega)]
 exact G.keep.block b hb hn
end Go.Eng

namespace Go.Eng
open Go
variable [Globs]

def callable (P : Program) (f : FuncId) : Bool := match P.funcs[f]? with
 | some fn => !(fn.name == "runtime.NumGoroutine") && fn.body.isSome
 | none => false
structure CallA (P : Program) (f : FuncId) (args : List AV) (H : Heap) (K : AV → Heap → Prop) : Prop where
 ok : callable P f = true
 run : ∀ M μ w (vs : Array Value), Rel M μ H w → relL M args μ vs.toList → Calls P f vs w fun e w' =>
  ∃ v M' μ' H' c, e = .returned v ∧ Rel M' μ' H' w' ∧ relV M' c μ' v ∧ Move M μ H w M' μ' H' w' ∧ K c H'
theorem CallA.mono {P : Program} {f : FuncId} {args : List AV} {H : Heap} {K K' : AV → Heap → Prop} (h : CallA P f args H K) (hk : ∀ v H', K v H' → K' v H') : CallA P f args H K' :=
 ⟨h.ok, fun M μ w vs R hv => (h.run M μ w vs R hv).mono fun _ _ ⟨v, M', μ', H', c, h1, h2, h3, h4, h5⟩ => ⟨v, M', μ', H', c, h1, h2, h3, h4, hk _ _ h5⟩⟩
theorem run_callFunc {P : Program} {f : FuncId} (h : callable P f = true) (args : Array Value) (w : World) : (callFunc f args).run P w = .ok (.enter f args) w := by
 unfold callable at h
 split at h
 · rename_i fn hf
   simp only [Bool.and_eq_true, Bool.not_eq_true'] at h
   obtain ⟨h1, h2⟩ := h
   have h3 : fn.body.isNone = false := by cases hb : fn.body <;> simp_all
   simp only [callFunc, Sem.run_bind, run_program, Result.andThen_ok, hf, h1, Bool.false_eq_true, if_false, h3, Sem.run_pure]
 · cases h
structure YieldA (P : Program) (k : Nat) (args : List AV) (H : Heap) (K : AV → Heap → Prop) : Prop where
 run : ∀ M μ w (vs : Array Value), Rel M μ H w → relL M args μ vs.toList → ∀ b s, μ k = some (b, s) → ∃ fn tmps assign body, (Instr.yield b vs).run P w = .ok (.round b fn tmps assign body) w ∧
  RoundIn (FR none) 0 P b fn tmps assign body w fun e w' => ∃ v M' μ' H' c, e = .returned v ∧ Rel M' μ' H' w' ∧ relV M' c μ' v ∧ Move M μ H w M' μ' H' w' ∧ K c H'
theorem YieldA.mono {P : Program} {k : Nat} {args : List AV} {H : Heap} {K K' : AV → Heap → Prop} (h : YieldA P k args H K) (hk : ∀ v H', K v H' → K' v H') : YieldA P k args H K' :=
 ⟨fun M μ w vs R hv b s hμ => let ⟨fn, tmps, assign, body, h1, h2⟩ := h.run M μ w vs R hv b s hμ; ⟨fn, tmps, assign, body, h1, h2.mono fun _ _ ⟨v, M', μ', H', c, h1, h2, h3, h4, h5⟩ => ⟨v, M', μ', H', c, h1, h2, h3, h4, hk _ _ h5⟩⟩⟩
def relPan (c : AV) (v : Value) : Prop := ∀ M μ, relV M c μ v
structure CallX (P : Program) (f : FuncId) (args : List AV) (H : Heap) (K Kp : AV → Heap → Prop) : Prop where
 ok : callable P f = true
 run : ∀ M μ w (vs : Array Value), Rel M μ H w → relL M args μ vs.toList → Calls P f vs w fun e w' =>
  ∃ v M' μ' H' c, Rel M' μ' H' w' ∧ Move M μ H w M' μ' H' w' ∧ ((e = .returned v ∧ relV M' c μ' v ∧ K c H') ∨ (e = .panicked [{ v, recovered := false }] ∧ relPan c v ∧ Kp c H'))
theorem CallX.mono {P : Program} {f : FuncId} {args : List AV} {H : Heap} {K Kp K' Kp' : AV → Heap → Prop} (h : CallX P f args H K Kp) (hk : ∀ v H', K v H' → K' v H') (hp : ∀ v H', Kp v H' → Kp' v H') : CallX P f args H K' Kp' :=
 ⟨h.ok, fun M μ w vs R hv => (h.run M μ w vs R hv).mono fun _ _ ⟨v, M', μ', H', c, h1, h2, h3⟩ => ⟨v, M', μ', H', c, h1, h2, h3.imp (fun ⟨a, b, d⟩ => ⟨a, b, hk _ _ d⟩) (fun ⟨a, b, d⟩ => ⟨a, b, hp _ _ d⟩)⟩⟩
theorem CallA.toX {P : Program} {f : FuncId} {args : List AV} {H : Heap} {K Kp : AV → Heap → Prop} (h : CallA P f args H K) : CallX P f args H K Kp :=
 ⟨h.ok, fun M μ w vs R hv => (h.run M μ w vs R hv).mono fun _ _ ⟨v, M', μ', H', c, h1, h2, h3, h4, h5⟩ => ⟨v, M', μ', H', c, h2, h4, .inl ⟨h1, h3, h5⟩⟩⟩
theorem CallX.toA {P : Program} {f : FuncId} {args : List AV} {H : Heap} {K : AV → Heap → Prop} (h : CallX P f args H K fun _ _ => False) : CallA P f args H K :=
 ⟨h.ok, fun M μ w vs R hv => (h.run M μ w vs R hv).mono fun _ _ ⟨v, M', μ', H', c, h1, h2, h3⟩ => h3.elim (fun ⟨a, b, d⟩ => ⟨v, M', μ', H', c, a, h1, b, h2, d⟩) (fun q => q.2.2.elim)⟩

inductive AOp where
 | m (o : MOp)
 | p (o : POp)
 | v (o : VOp)
 | h (o : HOp)
 | d (o : DOp)
 | l (o : LOp)
 | call (f : FuncId) (args : List AX)
 | callo (f : FuncId) (args : List AX)
 | callv (x : AX) (args : List AX)
 | nq (neg : Bool) (x : AX)
 | callx (f : FuncId) (args : List AX)
 | callvx (x : AX) (args : List AX)
 | calli (tbl : List (TypeId × FuncId)) (x : AX) (args : List AX)
 | pan (x : AX)
structure Unk (n : Nat) (A B : Prop) : Prop where
 nil : n = 0 → A
 some : B
theorem Unk.pos {n : Nat} {A B : Prop} (h : 0 < n) (hb : B) : Unk n A B := ⟨fun h0 => absurd h0 (by omega), hb⟩
structure AO where
 dst : Option Nat
 op : AOp
 guard : Option (Nat × Bool)
inductive XA where
 | normal
 | exit (id : Nat)
 | ret
 | pan (c : AV)
def Into (n : Nat) (fr : Fr) (H : Heap) (fr' : Fr) (H' : Heap) : Prop := ∀ N M μ w tmps, Rel M μ H w → RelF N M μ fr tmps → n ≤ H.nx →
 ∃ M' μ', Rel M' μ' H' w ∧ RelF N M' μ' fr' tmps ∧ n ≤ H'.nx ∧ Grow n M μ H w M' μ' H' w
structure To (n : Nat) (fr : Fr) (H : Heap) (J : Fr → Heap → Prop) : Prop where
 ex : ∃ fr' H', Into n fr H fr' H' ∧ J fr' H'
theorem To.refl {n : Nat} {fr : Fr} {H : Heap} {J : Fr → Heap → Prop} (h : J fr H) : To n fr H J :=
 ⟨fr, H, fun _ M μ _ _ R F hn => ⟨M, μ, R, F, hn, Grow.refl _ _ _ _ _⟩, h⟩
structure LoopA (n : Nat) (body : (XA → Fr → Heap → Prop) → Fr → Heap → Prop) (Q : XA → Fr → Heap → Prop) (fr : Fr) (H : Heap) : Prop where
 ex : ∃ (I : Nat → Fr → Heap → Prop) (m0 : Nat), To n fr H (I m0) ∧ ∀ m fr H, I m fr H → body (fun x fr' H' => match x with
  | .normal => ∃ m', m' < m ∧ To n fr' H' (I m')
  | x => Q x fr' H') fr H
def newK0 (H : Heap) (ab : AB) (kl : Option Nat) (K : Heap → Prop) : Prop := match H with
 | ⟨nx, bs⟩ => match kl with
  | none => K ⟨nx + 1, (nx, ab) :: bs⟩
  | some k => K ⟨nx + 1, (nx, ab) :: (k, .dead) :: bs⟩
theorem newK0_eq (H : Heap) (ab : AB) (kl : Option Nat) (K : Heap → Prop) : newK0 H ab kl K = K ((killO ⟨H.nx + 1, H.bs⟩ kl).set H.nx ab) := by cases kl <;> rfl
def tfind : List (TypeId × FuncId) → TypeId → Option FuncId
 | [], _ => none
 | (u, f) :: r, t => bif Nat.beq u t then some f else tfind r t
theorem tfind_mem : ∀ {l : List (TypeId × FuncId)} {t : TypeId} {f : FuncId}, tfind l t = some f → (t, f) ∈ l
 | [], _, _, h => by simp [tfind] at h
 | (u, g) :: r, t, f, h => by
  simp only [tfind] at h
  cases hb : Nat.beq u t <;> simp only [hb, cond_true, cond_false] at h
  · exact List.mem_cons_of_mem _ (tfind_mem h)
  · cases h; rw [Nat.eq_of_beq_eq_true hb]; exact List.mem_cons_self ..
def isPtrT (P : Program) (t : TypeId) : Bool := match P.underlying t with
 | some (.pointer _) => true
 | _ => false
def methOk (P : Program) (name : String) (t : TypeId) (f : FuncId) : Bool := isConcrete P t && !isPtrT P t && (match P.info? t with
 | some i => (match i.methods.find? (·.name == name) with
  | some m => m.path.isEmpty && decide (m.func = some (f, false))
  | none => false)
 | none => false)
section
variable (P : Program)
def AOp.run (fr : Fr) (H : Heap) (K Kp : AV → Heap → Prop) : AOp → Prop
 | .m o => o.run (AX.ev fr) H K
 | .p o => o.run (AX.ev fr) fun v => K v H
 | .v o => o.run (AX.ev fr) fun v => K v H
 | .h o => o.run (AX.ev fr) H K
 | .d o => o.run (AX.ev fr) H.get fun v => K v H
 | .l o => o.run (AX.ev fr) H.get H.get H.nx fun v ab kl => newK0 H ab kl (K v)
 | .call f args => fvs (args.map (AX.ev fr)) fun vs => CallA P f vs H K
 | .callo f args => fvs (args.map (AX.ev fr)) fun vs => CallA P f vs H K
 | .callv x args => match x.ev fr with
  | .func f caps => fvs (args.map (AX.ev fr)) fun vs => CallA P f (vs ++ caps) H K
  | .meth f bs => fvs (args.map (AX.ev fr)) fun vs => CallA P f (bs ++ vs) H K
  | .yld k => fvs (args.map (AX.ev fr)) fun vs => YieldA P k vs H K
  | _ => False
 | .nq neg x => match x.ev fr with
  | .dslice _ n _ => Unk n (K (.bool (!neg)) H) (K (.bool neg) H)
  | .nils => K (.bool (!neg)) H
  | .slice _ _ _ _ _ => K (.bool neg) H
  | _ => False
 | .callx f args => fvs (args.map (AX.ev fr)) fun vs => CallX P f vs H K Kp
 | .callvx x args => match x.ev fr with
  | .func f caps => fvs (args.map (AX.ev fr)) fun vs => CallX P f (vs ++ caps) H K Kp
  | .meth f bs => fvs (args.map (AX.ev fr)) fun vs => CallX P f (bs ++ vs) H K Kp
  | _ => False
 | .calli tbl x args => match x.ev fr with
  | .ifc t c => match tfind tbl t with
   | some f => fvs (args.map (AX.ev fr)) fun vs => CallA P f (c :: vs) H K
   | none => False
  | _ => False
 | .pan x => match x.ev fr with
  | .ifc t c => bif flatV c then Kp (.ifc t c) H else False
  | _ => False
def AO.run (fr : Fr) (H : Heap) (K : Fr → Heap → Prop) (Kp : AV → Fr → Heap → Prop) (o : AO) : Prop := match o.guard with
 | none => o.op.run P fr H (fun v H' => putK fr o.dst v fun fr' => K fr' H') (fun c H' => Kp c fr H')
 | some (s, want) => match look fr s with
  | .bool b => match want with
   | true => Branch b (o.op.run P ((s, .bool true) :: fr) H (fun v H' => putK ((s, .bool true) :: fr) o.dst v fun fr' => K fr' H') (fun c H' => Kp c ((s, .bool true) :: fr) H')) (putK ((s, .bool false) :: fr) o.dst (.tuple []) fun fr' => K fr' H)
   | false => Branch b (putK ((s, .bool true) :: fr) o.dst (.tuple []) fun fr' => K fr' H) (o.op.run P ((s, .bool false) :: fr) H (fun v H' => putK ((s, .bool false) :: fr) o.dst v fun fr' => K fr' H') (fun c H' => Kp c ((s, .bool false) :: fr) H'))
  | .tuple [] => putK fr o.dst (.tuple []) fun fr' => K fr' H
  | _ => False
noncomputable def runOps (K : Fr → Heap → Prop) (Kp : AV → Fr → Heap → Prop) (l : List AO) : Fr → Heap → Prop := List.rec (motive := fun _ => Fr → Heap → Prop) K (fun o _ ih fr H => o.run P fr H ih Kp) l
def okOp (P : Program) : Op → AOp → Bool
 | op, .m q => okM P op q
 | op, .p q => okP P op q
 | op, .v q => okVop P op q
 | op, .h q => okH P op q
 | op, .d q => okD P op q
 | op, .l q => okL P op q
 | .call { callee := .value (.func g), args, .. }, .call f args' => f == g && okXs args.toList args'
 | .call { callee := .value (.func g), args, .. }, .callo f args' => f == g && okXs args.toList args'
 | .call { callee := .value x, args, .. }, .callv x' args' => okX x x' && okXs args.toList args'
 | op, .nq neg x => okVop P op (.isnil false neg x (.c .nils))
 | .call { callee := .value (.func g), args, .. }, .callx f args' => f == g && okXs args.toList args'
 | .call { callee := .value x, args, .. }, .callvx x' args' => okX x x' && okXs args.toList args'
 | .call { callee := .invoke recv name, args, .. }, .calli tbl x' args' => okX recv x' && okXs args.toList args' && tbl.all fun e => methOk P name e.1 e.2
 | .panic x, .pan x' => okX x x'
 | _, _ => false
def okGuard (ops : Array Oper) : Option (Nat × Bool) → Option (Nat × Bool) → Bool
 | none, none => true
 | some (j, b), some (s, b') => b == b' && (match ops[j]? with | some o => o.dst == some s | none => false)
 | _, _ => false
def okAO (N : Nat) (ops : Array Oper) (o : Oper) (q : AO) : Bool := o.dst == q.dst && dstOk N q.dst && okGuard ops o.guard q.guard && okOp P o.op q.op
def okAOs (N : Nat) (ops : Array Oper) : List Oper → List AO → Bool
 | [], [] => true
 | o :: os, q :: qs => okAO P N ops o q && okAOs N ops os qs
 | _, _ => false
end

theorem run_method {P : Program} {name : String} {t : TypeId} {f : FuncId} (h : methOk P name t f = true) (y : Value) (args : Array Value) (w : World) : (callMethod (.iface t y) name args).run P w = (callFunc f (#[y] ++ args)).run P w := by
 unfold methOk at h
 simp only [Bool.and_eq_true, Bool.not_eq_true'] at h
 obtain ⟨⟨hc, hp⟩, h⟩ := h
 split at h
 · rename_i i hi
   split at h
   · rename_i m hm
     simp only [Bool.and_eq_true, decide_eq_true_eq] at h
     obtain ⟨d, hu, hd⟩ := isConcrete_spec hc
     have hpath : m.path.toList = [] := by have := h.1; simpa using this
     have hrec : (receiverAt t (.val y) false (if m.path.isEmpty then some ((name.splitOn ".").getLastD name) else none)).run P w = .ok y w := by
      unfold isPtrT at hp
      rw [hu] at hp
      simp only [receiverAt, Sem.run_bind, run_underlying hu, Result.andThen_ok]
      cases d <;> first | (simp only [Place.get, Sem.run_pure]; done) | cases hp
     simp only [callMethod, Sem.run_bind, run_program, Result.andThen_ok]
     obtain ⟨k, hk⟩ : ∃ k, P.types.size + Made.depth = k + 1 := ⟨_, rfl⟩
     rw [hk]
     simp only [method, Sem.run_bind, run_typeInfo hi, Result.andThen_ok, hm, hpath, follow, Sem.run_pure, h.2, hrec]
   · cases h
 · cases h
theorem okOp_nd {P : Program} {op : Op} {q : AOp} (h : okOp P op q = true) : ∀ c, op ≠ .defer c := by
 rintro c rfl
 cases q <;> rename_i q <;> try (simp [okOp] at h; done)
 all_goals (cases q <;> simp [okOp, okM, okP, okVop, okH, okD, okL] at h)
structure St [Pend] (N n : Nat) (M0 : Mem) (μ0 : Pos) (H0 : Heap) (w0 : World) (fr : Fr) (H : Heap) (a : Act) (w : World) : Prop where
 ex : ∃ M μ, Rel M μ H w ∧ RelF N M μ fr a.tmps ∧ n ≤ H.nx ∧ Grow n M0 μ0 H0 w0 M μ H w ∧ Marks w0 a.defers μ H w
def xa : Exit → Option XA
 | .normal => some .normal
 | .exit id => some (.exit id)
 | .ret => some .ret
 | _ => none
section
variable [Pend] {P : Program} {N n : Nat} {M0 : Mem} {μ0 : Pos} {H0 : Heap} {w0 : World}
def Post (N n : Nat) (M0 : Mem) (μ0 : Pos) (H0 : Heap) (w0 : World) (Q : XA → Fr → Heap → Prop) : Exit → Act → World → Prop :=
 fun e a w => (∃ x fr H, xa e = some x ∧ St N n M0 μ0 H0 w0 fr H a w ∧ Q x fr H) ∨ (∃ c v fr H, e = .panic [{ v, recovered := false }] ∧ relPan c v ∧ St N n M0 μ0 H0 w0 fr H a w ∧ Q (.pan c) fr H)
theorem St.step {fr : Fr} {H : Heap} {a : Act} {w : World} {M M' : Mem} {μ μ' : Pos} {H' : Heap} {w' : World} {d : Option Nat} {v : Value} {c : AV} (hd : Marks w0 a.defers μ H w) (F : RelF N M μ fr a.tmps) (hn : n ≤ H.nx)
 (G0 : Grow n M0 μ0 H0 w0 M μ H w) (R' : Rel M' μ' H' w') (hv : relV M' c μ' v) (G : Move M μ H w M' μ' H' w') (hdst : dstOk N d = true) :
 St N n M0 μ0 H0 w0 (put fr d c) H' (a.put d v) w' :=
 ⟨M', μ', R', (F.mono G.grow.mem G.le).put hdst hv, Nat.le_trans hn G.nx, G0.trans (G.grow.mono hn), by cases d <;> exact hd.step G.grow⟩
theorem sound_op {o : Oper} {q : AOp} (h : okOp P o.op q = true) {fr : Fr} {H : Heap} {a : Act} {w : World} {K Kp : AV → Heap → Prop} {Q : Exit → Act → World → Prop} (S : St N n M0 μ0 H0 w0 fr H a w) (hdst : dstOk N o.dst = true)
 (hr : q.run P fr H K Kp) (hpan : ∀ c v H' w', St N n M0 μ0 H0 w0 fr H' a w' → relPan c v → Kp c H' → Q (.panic [{ v, recovered := false }]) a w') {next : Act → World → Prop} (hnext : ∀ c H' a' w', St N n M0 μ0 H0 w0 (put fr o.dst c) H' a' w' → K c H' → next a' w') (r : Option Nat) : o.wpIn (FR r) 0 P a w next Q := by
 obtain ⟨M, μ, R, F, hn, G0, hd⟩ := S
 have nd := okOp_nd h
 have up : o.wp P a w next Q → o.wpIn (FR r) 0 P a w next Q := Oper.wpIn_of_wp nd
 have call : ∀ (f : FuncId) (vs : Array Value) (as : List AV), (execOp a.eval o).run P w = (callFunc f vs).run P w → relL M as μ vs.toList → CallA P f as H K → o.wp P a w next Q := by
  intro f vs as he hl hc
  unfold Oper.wp
  rw [he, run_callFunc hc.ok]
  simp only [Oper.upon]
  refine (hc.run M μ w vs R hl).mono ?_
  rintro e w' ⟨v, M', μ', H', c, rfl, R', hv, G, hk⟩
  exact hnext c H' _ _ (St.step hd F hn G0 R' hv G hdst) hk
 have callX : ∀ (f : FuncId) (vs : Array Value) (as : List AV), (execOp a.eval o).run P w = (callFunc f vs).run P w → relL M as μ vs.toList → CallX P f as H K Kp → o.wp P a w next Q := by
  intro f vs as he hl hc
  unfold Oper.wp
  rw [he, run_callFunc hc.ok]
  simp only [Oper.upon]
  refine (hc.run M μ w vs R hl).mono ?_
  rintro e w' ⟨v, M', μ', H', c, R', G, ⟨rfl, hv, hk⟩ | ⟨rfl, hv, hk⟩⟩
  · exact hnext c H' _ _ (St.step hd F hn G0 R' hv G hdst) hk
  · exact hpan c v H' w' ⟨M', μ', R', F.mono G.grow.mem G.le, Nat.le_trans hn G.nx, G0.trans (G.grow.mono hn), hd.step G.grow⟩ hv hk
 unfold okOp at h
 split at h
 · obtain ⟨nx, v, w', h1, h2, M', μ', H', c, R', hv, G, hk⟩ := mop_sound h R F hr
   refine up ?_
   have := hnext c H' _ _ (St.step (v := v) hd F hn G0 R' hv G hdst) hk
   rcases h2 with rfl | ⟨rfl, rfl⟩
   · simp only [Oper.wp, h1, Oper.upon]; exact this
   · simp only [Oper.wp, h1, Oper.upon]; exact this
 · obtain ⟨v, c, h1, h2, h3⟩ := pop_sound h F hr w
   refine up ?_
   simp only [Oper.wp, h1, Oper.upon]
   exact hnext c H _ _ (St.step hd F hn G0 R h2 (Move.refl _ _ _ _) hdst) h3
 · obtain ⟨v, c, h1, h2, h3⟩ := vop_sound h F hr w
   refine up ?_
   simp only [Oper.wp, h1, Oper.upon]
   exact hnext c H _ _ (St.step hd F hn G0 R h2 (Move.refl _ _ _ _) hdst) h3
 · obtain ⟨nx, v, w', h1, h2, M', μ', H', c, R', hv, G, hk⟩ := hop_sound h R F hr
   refine up ?_
   have := hnext c H' _ _ (St.step (v := v) hd F hn G0 R' hv G hdst) hk
   rcases h2 with rfl | ⟨rfl, rfl⟩
   · simp only [Oper.wp, h1, Oper.upon]; exact this
   · simp only [Oper.wp, h1, Oper.upon]; exact this
 · simp only [AOp.run] at hr
   obtain ⟨v, hk, ⟨u, w', M', h1, R', hv, G⟩⟩ := dop_sound h F R (Hr := H.get) (fun _ _ h => h) hr
   refine up ?_
   simp only [Oper.wp, h1, Oper.upon]
   exact hnext v H _ _ (St.step hd F hn G0 R' hv G hdst) hk
 · simp only [AOp.run, newK0_eq] at hr
   obtain ⟨v, l, kl, hk, ⟨u, w', μ', h1, R', hv, L, G, _⟩⟩ := lop_sound h F (R.room 1) (Hr := H.get) (fun _ _ h => h) (p := H.nx) (Nat.lt_succ_self _) (R.dom _ (Nat.le_refl _)) hr
   refine up ?_
   simp only [Oper.wp, h1, Oper.upon]
   have G := G H.nx (Nat.le_refl _)
   refine hnext v _ _ _ (St.step hd F hn G0 R' hv ⟨L, ⟨G.mem, G.pin, G.keep, G.own, G.fresh⟩, ?_⟩ hdst) hk
   cases kl <;> simp [killO, Heap.set]
 · rename_i g args _ f args' hop
   simp only [Bool.and_eq_true, beq_iff_eq] at h
   obtain ⟨rfl, h⟩ := h
   simp only [AOp.run, fvs_eq] at hr
   refine up (call f (args.map a.eval) _ ?_ (by simpa using rel_okXs F h) hr)
   simp only [execOp, hop, resolve, Act.eval, Deferred.ofValue, Sem.run_bind, Sem.run_pure, Result.andThen_ok, invoke, Array.empty_append, Array.append_empty]
 · rename_i g args _ f args' hop
   simp only [Bool.and_eq_true, beq_iff_eq] at h
   obtain ⟨rfl, h⟩ := h
   simp only [AOp.run, fvs_eq] at hr
   refine up (call f (args.map a.eval) _ ?_ (by simpa using rel_okXs F h) hr)
   simp only [execOp, hop, resolve, Act.eval, Deferred.ofValue, Sem.run_bind, Sem.run_pure, Result.andThen_ok, invoke, Array.empty_append, Array.append_empty]
 · rename_i x args _ x' args' hop
   simp only [Bool.and_eq_true] at h
   obtain ⟨h1, h2⟩ := h
   simp only [AOp.run] at hr
   split at hr
   · rename_i f caps hx
     simp only [fvs_eq] at hr
     have hx' := rel_okX F h1
     rw [hx] at hx'; simp only [relV] at hx'
     obtain ⟨vs, hv, hl⟩ := hx'
     refine up (call f (args.map a.eval ++ vs) _ ?_ (by simpa using relL_append (rel_okXs F h2) hl) hr)
     simp only [execOp, hop, resolve, hv, Deferred.ofValue, Sem.run_bind, Sem.run_pure, Result.andThen_ok, invoke, Array.empty_append]
   · rename_i f bs hx
     simp only [fvs_eq] at hr
     have hx' := rel_okX F h1
     rw [hx] at hx'; simp only [relV] at hx'
     obtain ⟨vs, hv, hl⟩ := hx'
     refine up (call f (vs ++ args.map a.eval) _ ?_ (by simpa using relL_append hl (rel_okXs F h2)) hr)
     simp only [execOp, hop, resolve, hv, Deferred.ofValue, Sem.run_bind, Sem.run_pure, Result.andThen_ok, invoke, Array.append_empty]
   · rename_i k hx
     simp only [fvs_eq] at hr
     have hx' := rel_okX F h1
     rw [hx] at hx'; simp only [relV] at hx'
     obtain ⟨b, sz, hμ, hv⟩ := hx'
     obtain ⟨fn, tmps, assign, body, hy, hR⟩ := hr.run M μ w (args.map a.eval) R (by simpa using rel_okXs F h2) b sz hμ
     refine ⟨fun _ _ => trivial, ?_⟩
     have he : (execOp a.eval o).run P w = .ok (.round b fn tmps assign body) w := by
      simp only [execOp, hop, resolve, hv, Deferred.ofValue, Sem.run_bind, Sem.run_pure, Result.andThen_ok, invoke, Array.empty_append]
      exact hy
     rw [Oper.semAt_eq _ _ _ nd, he]
     refine ⟨fun h0 => (by cases h0), ?_⟩
     refine RoundIn.mono (R := fun e w' => ∃ v M' μ' H' c, e = .returned v ∧ Rel M' μ' H' w' ∧ relV M' c μ' v ∧ Move M μ H w M' μ' H' w' ∧ K c H') hR ?_
     rintro e w' ⟨v, M', μ', H', c, rfl, R', hv', G, hk⟩
     exact hnext c H' _ _ (St.step hd F hn G0 R' hv' G hdst) hk
   · exact hr.elim
 · rename_i neg x'
   simp only [AOp.run] at hr
   have fin : ∀ {K' : AV → Prop}, Yields1 P o a M μ K' w → (∀ c, K' c → K c H) → o.wpIn (FR r) 0 P a w next Q := by
    rintro K' ⟨v, c, h1, h2, h3⟩ hk
    refine up ?_
    simp only [Oper.wp, h1, Oper.upon]
    exact hnext c H _ _ (St.step hd F hn G0 R h2 (Move.refl _ _ _ _) hdst) (hk _ h3)
   split at hr
   · rename_i cs n cap hx
     exact fin (K' := fun c => K c H) (nq_sound h F hx hr.nil hr.some w) fun _ h => h
   · rename_i hx
     exact fin (K' := fun c => K c H) (vop_sound h F (show VOp.run (AX.ev fr) _ (.isnil false neg x' (.c .nils)) by simp only [VOp.run]; rw [hx]; exact hr) w) fun _ h => h
   · rename_i hx
     exact fin (K' := fun c => K c H) (vop_sound h F (show VOp.run (AX.ev fr) _ (.isnil false neg x' (.c .nils)) by simp only [VOp.run]; rw [hx]; exact hr) w) fun _ h => h
   · exact hr.elim
 · rename_i g args _ f args' hop
   simp only [Bool.and_eq_true, beq_iff_eq] at h
   obtain ⟨rfl, h⟩ := h
   simp only [AOp.run, fvs_eq] at hr
   refine up (callX f (args.map a.eval) _ ?_ (by simpa using rel_okXs F h) hr)
   simp only [execOp, hop, resolve, Act.eval, Deferred.ofValue, Sem.run_bind, Sem.run_pure, Result.andThen_ok, invoke, Array.empty_append, Array.append_empty]
 · rename_i x args _ x' args' hop
   simp only [Bool.and_eq_true] at h
   obtain ⟨h1, h2⟩ := h
   simp only [AOp.run] at hr
   split at hr
   · rename_i f caps hx
     simp only [fvs_eq] at hr
     have hx' := rel_okX F h1
     rw [hx] at hx'; simp only [relV] at hx'
     obtain ⟨vs, hv, hl⟩ := hx'
     refine up (callX f (args.map a.eval ++ vs) _ ?_ (by simpa using relL_append (rel_okXs F h2) hl) hr)
     simp only [execOp, hop, resolve, hv, Deferred.ofValue, Sem.run_bind, Sem.run_pure, Result.andThen_ok, invoke, Array.empty_append]
   · rename_i f bs hx
     simp only [fvs_eq] at hr
     have hx' := rel_okX F h1
     rw [hx] at hx'; simp only [relV] at hx'
     obtain ⟨vs, hv, hl⟩ := hx'
     refine up (callX f (vs ++ args.map a.eval) _ ?_ (by simpa using relL_append hl (rel_okXs F h2)) hr)
     simp only [execOp, hop, resolve, hv, Deferred.ofValue, Sem.run_bind, Sem.run_pure, Result.andThen_ok, invoke, Array.append_empty]
   · exact hr.elim
 · rename_i recv name args _ tbl x' args' hop
   simp only [Bool.and_eq_true] at h
   obtain ⟨⟨h1, h2⟩, h3⟩ := h
   simp only [AOp.run] at hr
   split at hr
   · rename_i t c hx
     split at hr
     · rename_i f hf
       simp only [fvs_eq] at hr
       have hx' := rel_okX F h1
       rw [hx] at hx'; simp only [relV] at hx'
       obtain ⟨y, hy, hl⟩ := hx'
       have hm := List.all_eq_true.1 h3 _ (tfind_mem hf)
       refine up (call f (#[y] ++ args.map a.eval) _ ?_ (by simp only [Array.toList_append, Array.toList_map, List.cons_append, List.nil_append, relL]; exact ⟨y, _, rfl, hl, rel_okXs F h2⟩) hr)
       simp only [execOp, hop, resolve, hy, Sem.run_bind, Sem.run_pure, Result.andThen_ok, invoke]
       have e0 : (#[Value.iface t y] ++ args.map a.eval)[0]? = some (Value.iface t y) := by rw [Array.getElem?_append_left (by simp)]; rfl
       have e1 : (#[Value.iface t y] ++ args.map a.eval).extract 1 (#[Value.iface t y] ++ args.map a.eval).size = args.map a.eval := by
        apply Array.ext'; simp [List.take_of_length_le]
       simp only [e0, e1]
       exact run_method hm y _ w
     · exact hr.elim
   · exact hr.elim
 · rename_i x x' hop
   simp only [AOp.run] at hr
   split at hr
   · rename_i t c hx
     have hx' := rel_okX F h
     rw [hx] at hx'
     cases hfl : flatV c with
     | false => rw [hfl] at hr; exact hr.elim
     | true =>
     rw [hfl] at hr; simp only [cond_true] at hr
     have hrel : relPan (.ifc t c) (a.eval x) := fun M1 μ1 => relV_flat (.ifc t c) (by simp only [flatV]; exact hfl) hx'
     simp only [relV] at hx'
     obtain ⟨y, hy, _⟩ := hx'
     refine up ?_
     have he : (execOp a.eval o).run P w = .halt (.panic (a.eval x)) w := by
      simp only [execOp, hop, hy]
      rfl
     simp only [Oper.wp, he, Oper.upon]
     exact hpan _ _ H w ⟨M, μ, R, F, hn, G0, hd⟩ hrel hr
   · exact hr.elim
 · cases h
theorem St.know {fr : Fr} {H : Heap} {a : Act} {w : World} {s : Nat} {b b' : Bool} (S : St N n M0 μ0 H0 w0 fr H a w) (h : look fr s = .bool b) (hb : b = b') : St N n M0 μ0 H0 w0 ((s, .bool b') :: fr) H a w := by
 obtain ⟨M, μ, R, F, hn, G0, hd⟩ := S
 refine ⟨M, μ, R, ⟨F.glob, F.size, fun t => ?_⟩, hn, G0, hd⟩
 simp only [look]
 by_cases ht : s = t
 · subst ht; subst hb
   have := F.slot s
   rw [h] at this
   simpa using this
 · rw [beq_false ht]; exact F.slot t
theorem wanted_none {o : Oper} (h : o.guard = none) (y : Nat → Option Bool) : Region.wanted o y = true := by simp [Region.wanted, h]
theorem relV_undef {M : Mem} {μ : Pos} : relV M (.tuple []) μ undef := by simp only [relV]; exact ⟨#[], rfl, by simp [relL]⟩
theorem undef_yields {ops : Array Oper} {M : Mem} {μ : Pos} {fr : Fr} {tmps : Array Value} {s : Nat} {want : Bool} {o : Oper} (F : RelF N M μ fr tmps) (hs : look fr s = .tuple []) (h : okGuard ops o.guard (some (s, want)) = true) : Region.wanted o (yielded ops tmps) = false := by
 cases hgo : o.guard with
 | none => simp [hgo, okGuard] at h
 | some x =>
  obtain ⟨j, b'⟩ := x
  simp only [hgo, okGuard, Bool.and_eq_true, beq_iff_eq] at h
  obtain ⟨rfl, h⟩ := h
  split at h
  · rename_i oj hoj
    simp at h
    have := F.slot s
    rw [hs] at this
    simp only [relV] at this
    obtain ⟨vs, hv, hl⟩ := this
    have hy : yielded ops tmps j = none := by
     simp only [yielded, hoj, Option.bind_some, h]
     rw [Array.getD_eq_getD_getElem?] at hv
     cases hq : tmps[s]? with
     | none => rfl
     | some u => rw [hq] at hv; simp at hv; rw [hv]
    simp only [Region.wanted, hgo, hy]
    cases b' <;> rfl
  · cases h
theorem sound_AO {ops : Array Oper} {o : Oper} {q : AO} (h : okAO P N ops o q = true) {fr : Fr} {H : Heap} {a : Act} {w : World} {K : Fr → Heap → Prop} {Kp : AV → Fr → Heap → Prop} {Q : Exit → Act → World → Prop} (S : St N n M0 μ0 H0 w0 fr H a w)
 (hr : q.run P fr H K Kp) (hpan : ∀ c v fr' H' w', St N n M0 μ0 H0 w0 fr' H' a w' → relPan c v → Kp c fr' H' → Q (.panic [{ v, recovered := false }]) a w') {next : Act → World → Prop} (hnext : ∀ fr' H' a' w', St N n M0 μ0 H0 w0 fr' H' a' w' → K fr' H' → next a' w') (r : Option Nat) :
 if Region.wanted o (yielded ops a.tmps) then o.wpIn (FR r) 0 P a w next Q else (∀ f, o.about P w a.eval = some f → (FR r).fn f) ∧ next (a.put o.dst undef) w := by
 simp only [okAO, Bool.and_eq_true, beq_iff_eq] at h
 obtain ⟨⟨⟨h1, h2⟩, h3⟩, h4⟩ := h
 rw [← h1] at h2
 have skip : ∀ fr', St N n M0 μ0 H0 w0 fr' H a w → K (put fr' q.dst (.tuple [])) H → (∀ f, o.about P w a.eval = some f → (FR r).fn f) ∧ next (a.put o.dst undef) w := fun fr' S hk => by
  obtain ⟨M, μ, R, F, hn, G0, hd⟩ := S
  refine ⟨fun _ _ => trivial, ?_⟩
  rw [← h1] at hk
  exact hnext _ _ _ _ (St.step hd F hn G0 R (c := .tuple []) relV_undef (Move.refl _ _ _ _) h2) hk
 have go : ∀ fr', St N n M0 μ0 H0 w0 fr' H a w → (q.op.run P fr' H (fun v H' => K (put fr' q.dst v) H') (fun c H' => Kp c fr' H')) → o.wpIn (FR r) 0 P a w next Q := fun fr' S hk => by
  rw [← h1] at hk
  exact sound_op h4 S h2 hk (fun c v H' w' S' hv hp => hpan c v _ H' w' S' hv hp) (fun c H' a' w' S' hk' => hnext _ _ _ _ S' hk') r
 unfold AO.run at hr
 simp only [putK_eq] at hr
 split at hr
 · rename_i hg
   rw [hg] at h3
   have : o.guard = none := by
    cases hgo : o.guard with
    | none => rfl
    | some x => obtain ⟨j, b⟩ := x; simp [hgo, okGuard] at h3
   rw [if_pos (wanted_none this _)]
   exact go fr S hr
 · rename_i s want hg
   split at hr
   · rename_i b hb
     have hy : ∃ j, o.guard = some (j, want) ∧ yielded ops a.tmps j = some b := by
      cases hgo : o.guard with
      | none => simp [hgo, hg, okGuard] at h3
      | some x =>
       obtain ⟨j, b'⟩ := x
       simp only [hgo, hg, okGuard, Bool.and_eq_true, beq_iff_eq] at h3
       obtain ⟨rfl, h3⟩ := h3
       refine ⟨j, rfl, ?_⟩
       split at h3
       · rename_i oj hoj
         simp at h3
         obtain ⟨M, μ, R, F, hn, G0, hd⟩ := S
         have := F.slot s
         rw [hb] at this
         have := rel_bool this
         simp only [yielded, hoj, Option.bind_some, h3]
         have hs : a.tmps[s]? = some (.bool b) := by
          rw [Array.getD_eq_getD_getElem?] at this
          cases hq : a.tmps[s]? with
          | none => rw [hq] at this; simp [undef] at this
          | some u => rw [hq] at this; simp at this; rw [this]
         rw [hs]
       · cases h3
     obtain ⟨j, hgj, hyj⟩ := hy
     have hw : Region.wanted o (yielded ops a.tmps) = (b == want) := by
      simp only [Region.wanted, hgj, hyj]
      cases b <;> cases want <;> rfl
     rw [hw]
     cases want with
     | true =>
      simp only at hr
      cases b with
      | true => rw [if_pos (by simp)]; exact go _ (S.know hb rfl) (hr.yes rfl)
      | false => rw [if_neg (by simp)]; exact skip _ (S.know hb rfl) (hr.no rfl)
     | false =>
      simp only at hr
      cases b with
      | true => rw [if_neg (by simp)]; exact skip _ (S.know hb rfl) (hr.yes rfl)
      | false => rw [if_pos (by simp)]; exact go _ (S.know hb rfl) (hr.no rfl)
   · rename_i hs
     obtain ⟨M, μ, R, F, _⟩ := S.ex
     rw [undef_yields F hs (by rw [← hg]; exact h3)]
     simp only [Bool.false_eq_true, if_false]
     exact skip fr S hr
   · exact hr.elim
theorem sound_ops {ops : Array Oper} {Q : Exit → Act → World → Prop} {K : Fr → Heap → Prop} {Kp : AV → Fr → Heap → Prop} (r : Option Nat) : ∀ {l : List Oper} {qs : List AO}, okAOs P N ops l qs = true → ∀ {fr : Fr} {H : Heap} {a : Act} {w : World}, St N n M0 μ0 H0 w0 fr H a w → runOps P K Kp qs fr H →
 (∀ fr' H' a' w', St N n M0 μ0 H0 w0 fr' H' a' w' → K fr' H' → Q .normal a' w') → (∀ c v fr' H' a' w', St N n M0 μ0 H0 w0 fr' H' a' w' → relPan c v → Kp c fr' H' → Q (.panic [{ v, recovered := false }]) a' w') → wpListIn (FR r) 0 P ops Q l a w
 | [], [], _, fr, H, a, w, S, hr, hq, _ => hq _ _ _ _ S hr
 | o :: l, q :: qs, h, fr, H, a, w, S, hr, hq, hp => by
  simp only [okAOs, Bool.and_eq_true] at h
  refine wpListIn_step fun K' hK => ?_
  exact sound_AO h.1 S hr (fun c v fr' H' w' S' hv hk => hp c v fr' H' _ w' S' hv hk) (fun fr' H' a' w' S' hr' => hK _ _ (sound_ops r h.2 S' hr' hq hp)) r
 | [], _ :: _, h, _, _, _, _, _, _, _, _ => by simp [okAOs] at h
 | _ :: _, [], h, _, _, _, _, _, _, _, _ => by simp [okAOs] at h
end
end Go.Eng

namespace Go.Eng
open Go
variable [Globs]

theorem Rel.frame {M M' : Mem} {μ : Pos} {H : Heap} {w w' : World} (R : Rel M μ H w) (hM : Mem.le M M') (himm : ∀ b o v, M' b o = some v → w'.cell? ⟨b, o, none⟩ = some v)
 (hfresh : ∀ b o v, M' b o = some v → M b o = some v ∨ w.heap.size ≤ b) (hkeep : ∀ b, b < w.heap.size → w'.heap[b]? = w.heap[b]?) : Rel M' μ H w' := by
 have lt : ∀ {k b s}, H.get k ≠ .dead → μ k = some (b, s) → b < w.heap.size := fun hk hμ => R.own_lt ⟨_, _, hk, hμ⟩
 refine ⟨R.glob.mono hM, R.dom, R.top, fun k cs hk => ?_, fun k es hk => ?_, R.walks_same hM (fun _ _ _ _ h => ⟨h, fun h => h⟩) (Pos.le_refl _) (fun b hb _ => hkeep b hb), R.recs_same hM (fun _ _ _ _ h => h) (Pos.le_refl _) (fun b hb _ => hkeep b hb), R.inj, himm, fun k b s hk hμ o => ?_⟩
 · obtain ⟨b, sz, c, el, fz, h1, h2, h3, h4, h5⟩ := R.cells k cs hk
   exact ⟨b, sz, c, el, fz, h1, by rw [hkeep b (lt (by rw [hk]; simp) h1)]; exact h2, h3, h4, relP_mono hM (Pos.le_refl _) cs h5⟩
 · obtain ⟨b, sz, ents, clock, h1, h2, h3, h4⟩ := R.maps k es hk
   refine ⟨b, sz, ents, clock, h1, by rw [hkeep b (lt (by rw [hk]; simp) h1)]; exact h2, ?_, h4⟩
   exact relE_mono hM (Pos.le_refl _) h3
 · cases hm : M' b o with
   | none => rfl
   | some v =>
    rcases hfresh b o v hm with h | h
    · rw [R.apart k b s hk hμ o] at h; cases h
    · have := lt hk hμ; omega
theorem CallA.pure {P : Program} {f : FuncId} {args : List AV} {r : AV} (h : CallA P f args Heap.nil fun v H' => v = r ∧ H' = Heap.nil) (ha : noLocL args = true) (hr : noLoc r = true) {H : Heap} {K : AV → Heap → Prop} (hk : K r H) : CallA P f args H K := by
 refine ⟨h.ok, fun M μ w vs R hv => (h.run M Pos.none w vs R.nil (relL_data args ha hv)).mono ?_⟩
 rintro e w' ⟨v, M', μ', H', c, rfl, R', hv', G, rfl, rfl⟩
 have hfresh : ∀ b o u, M' b o = some u → M b o = some u ∨ w.heap.size ≤ b := fun b o u hm => by
  rcases G.grow.fresh b o u hm with h | h | h
  · exact .inl h
  · exact absurd h own_nil
  · exact .inr h
 refine ⟨v, M', μ, H, c, rfl, R.frame G.grow.mem R'.imm hfresh (fun b hb => G.grow.keep.block b hb own_nil), relV_data c hr hv', ⟨Pos.le_refl _, ⟨G.grow.mem, fun _ _ => rfl, ⟨G.grow.keep.os, G.grow.keep.tape, G.grow.keep.output, G.grow.keep.size, fun b hb _ => G.grow.keep.block b hb own_nil⟩, fun b hb => .inl hb, fun b o u hm => ?_⟩, Nat.le_refl _⟩, hk⟩
 rcases hfresh b o u hm with h | h
 · exact .inl h
 · exact .inr (.inr h)
end Go.Eng

namespace Go.Eng
open Go
variable [Globs]
theorem binI_det {op : BinOp} {i j : Int} {K : AV → Prop} (h : binI op i j K) : ∃ c, K c ∧ binI op i j (fun x => x = c) := by
 cases op <;> simp only [binI] at h ⊢
 case add => exact ⟨_, h.r, h.l, rfl⟩
 case sub => exact ⟨_, h.r, h.l, rfl⟩
 case mul => exact ⟨_, h.r, h.l, rfl⟩
 case quo => exact ⟨_, h.r, h.l, rfl⟩
 case rem => exact ⟨_, h.r, h.l, rfl⟩
 all_goals exact ⟨_, h, rfl⟩
theorem binW_det {op : BinOp} {k : IntKind} {i j : Int} {K : AV → Prop} (h : binW op k i j K) : ∃ c, K c ∧ binW op k i j (fun x => x = c) := by
 cases op <;> simp only [binW] at h ⊢
 case quo => exact ⟨_, h.r, h.l, rfl⟩
 case rem => exact ⟨_, h.r, h.l, rfl⟩
 all_goals exact ⟨_, h, rfl⟩
theorem Branch.det {α : Type} {t : Bool} {A B : (α → Prop) → Prop} {K : α → Prop} (h : Branch t (A K) (B K)) (ha : A K → ∃ c, K c ∧ A (fun x => x = c)) (hb : B K → ∃ c, K c ∧ B (fun x => x = c)) :
 ∃ c, K c ∧ Branch t (A (fun x => x = c)) (B (fun x => x = c)) := by
 cases t with
 | true => obtain ⟨c, h1, h2⟩ := ha (h.yes rfl); exact ⟨c, h1, .ofT rfl h2⟩
 | false => obtain ⟨c, h1, h2⟩ := hb (h.no rfl); exact ⟨c, h1, .ofF rfl h2⟩
theorem POp.det {ev : AX → AV} {K : AV → Prop} {p : POp} (h : p.run ev K) : ∃ c, K c ∧ p.run ev (fun x => x = c) := by
 cases p with
 | mov x => simp only [POp.run, fv_eq] at h ⊢; exact ⟨_, h, rfl⟩
 | pick c a b =>
  simp only [POp.run, fv_eq] at h ⊢
  split at h
  · exact Branch.det (A := fun K => K (ev a)) (B := fun K => K (ev b)) h (fun h => ⟨_, h, rfl⟩) (fun h => ⟨_, h, rfl⟩)
  · exact h.elim
 | bin op x y =>
  simp only [POp.run] at h ⊢
  split at h
  · exact binI_det h
  · cases op <;> first | exact ⟨_, h, rfl⟩ | first | exact h.elim | exact ⟨_, h.r, h.l, rfl⟩
  · exact h.elim
 | beq neg x y =>
  simp only [POp.run] at h ⊢
  split at h
  · exact ⟨_, h, rfl⟩
  · exact h.elim
 | binw op x y =>
  simp only [POp.run] at h ⊢
  split at h
  · cases op <;> first | exact ⟨_, h.r, h.l, rfl⟩ | (obtain ⟨c, h1, h2⟩ := binW_det h.r; exact ⟨c, h1, h.l, h2⟩)
  · exact h.elim
 | un op x =>
  simp only [POp.run] at h ⊢
  split at h
  · exact ⟨_, h, rfl⟩
  · exact ⟨_, h.r, h.l, rfl⟩
  · exact ⟨_, h, rfl⟩
  · exact h.elim
 | conv k x =>
  simp only [POp.run] at h ⊢
  split at h
  · exact ⟨_, h.r, h.l, rfl⟩
  · exact h.elim
 | convw k x =>
  simp only [POp.run] at h ⊢
  split at h
  · exact ⟨_, h, rfl⟩
  · exact h.elim
 | fieldA off x =>
  simp only [POp.run] at h ⊢
  split at h
  · exact ⟨_, h, rfl⟩
  · exact ⟨_, h, rfl⟩
  · exact h.elim
 | idxA e arr x i =>
  simp only [POp.run] at h ⊢
  split at h
  · split at h
    · exact ⟨_, h.r, h.l, rfl⟩
    · exact ⟨_, h.r, h.l, rfl⟩
    · exact ⟨_, h.r, h.l, rfl⟩
    · exact ⟨_, h.r, h.l, rfl⟩
    · exact h.elim
  · exact h.elim
 | len str x =>
  simp only [POp.run] at h ⊢
  split at h
  · exact ⟨_, h, rfl⟩
  · exact ⟨_, h, rfl⟩
  · exact ⟨_, h, rfl⟩
  · exact ⟨_, h, rfl⟩
  · exact h.elim
 | extract i x =>
  simp only [POp.run, fv_eq] at h ⊢
  split at h
  · split at h
    · exact ⟨_, h, rfl⟩
    · exact h.elim
  · exact h.elim
 | mkfn f caps => simp only [POp.run, fvs_eq] at h ⊢; exact ⟨_, h, rfl⟩
 | mkme f bs => simp only [POp.run, fvs_eq] at h ⊢; exact ⟨_, h, rfl⟩
 | nilchk x =>
  simp only [POp.run] at h ⊢
  split at h
  · exact ⟨_, h, rfl⟩
  · exact ⟨_, h, rfl⟩
  · exact ⟨_, h, rfl⟩
  · exact h.elim
 | mm mx x y =>
  simp only [POp.run] at h ⊢
  split at h
  · exact ⟨_, h, rfl⟩
  · exact h.elim
 | other => simp only [POp.run] at h ⊢; exact ⟨_, h, rfl⟩
 | panic => simp only [POp.run] at h
end Go.Eng

namespace Go.Eng
open Go
variable [Globs]
def AV.at : AV → List Nat
 | .ptr k _ => [k]
 | .slice k _ _ _ _ => [k]
 | .map k => [k]
 | _ => []
def DOp.foot (ev : AX → AV) : DOp → List Nat
 | .asub _ _ x _ _ => (ev x).at
 | .sl2s x => (ev x).at
 | _ => []
def LOp.foot (ev : AX → AV) : LOp → List Nat
 | .append _ _ s x => (ev s).at ++ (ev x).at
 | .appendS _ s _ => (ev s).at
 | .appendF _ _ s x => (ev s).at ++ (ev x).at
 | _ => []
section
variable {ev ev' : AX → AV} {Hr : Nat → AB}
theorem buildK_mono : ∀ {parts : List (Nat × Nat × AX)} {cs : List AV} {K K' : List AV → Prop}, (∀ b, K b → K' b) → buildK ev parts cs K → buildK ev parts cs K' := by
 intro parts
 induction parts with
 | nil => intro cs K K' hk h; exact hk _ h
 | cons q r ih =>
  intro cs K K' hk h
  obtain ⟨off, sz, x⟩ := q
  simp only [buildK] at h ⊢
  split at h
  · cases hn : Nat.beq _ sz with
    | false => simp [hn] at h
    | true =>
     simp only [hn, cond_true] at h ⊢
     obtain ⟨e1, e2, e3⟩ := lputK_spec h
     exact lputK_eq e1 e2 (ih hk e3)
  · exact h.elim
theorem DOp.det {K : AV → Prop} {o : DOp} (h : o.run ev Hr K) : ∃ c, K c ∧ o.run ev Hr (fun x => x = c) := by
 cases o with
 | bslice e len zero parts =>
  simp only [DOp.run] at h ⊢
  obtain ⟨ds, h1, h2⟩ := buildK_det h
  cases hn : noLocB ds with
  | false => simp [hn] at h1
  | true =>
   simp only [hn, cond_true] at h1
   exact ⟨_, h1, buildK_mono (fun b hb => by subst hb; simp [hn]) h2⟩
 | append e bytes s x =>
  simp only [DOp.run] at h ⊢
  split at h
  · exact ⟨_, h.r, h.l, rfl⟩
  · exact ⟨_, h.r, h.l, rfl⟩
  · exact ⟨_, h.r, h.l, rfl⟩
  · exact h.elim
 | asub e n x lo hi =>
  simp only [DOp.run, optI_iff] at h ⊢
  split at h
  · split at h
    · obtain ⟨l, hl, q, hq, h⟩ := h
      exact ⟨_, h.r, l, hl, q, hq, h.l, rfl⟩
    · exact h.elim
  · obtain ⟨l, hl, q, hq, h⟩ := h
    exact ⟨_, h.r, l, hl, q, hq, h.l, rfl⟩
  · exact h.elim
 | sl2s x =>
  simp only [DOp.run] at h ⊢
  obtain ⟨ds, n, h1, h2⟩ := srcK_det h
  obtain ⟨s, h3, h4⟩ := h1.det
  exact ⟨_, h3, srcK_mono (fun _ _ ⟨e1, e2⟩ => by subst e1; subst e2; obtain ⟨l, q1, q2⟩ := h4.ex; exact ⟨l, q1, by rw [q2]⟩) h2⟩
def DOp.xs : DOp → List AX
 | .bslice _ _ _ parts => parts.map (·.2)
 | .append _ _ s x => [s, x]
 | .asub _ _ x lo hi => x :: (lo.toList ++ hi.toList)
 | .sl2s x => [x]
theorem DOp.run_congr {K : AV → Prop} {o : DOp} (h : ∀ x ∈ o.xs, ev x = ev' x) : o.run ev Hr K = o.run ev' Hr K := by
 cases o with
 | bslice e len zero parts =>
  simp only [DOp.run]
  exact buildK_congr (by simpa [DOp.xs, List.map_map] using h)
 | append e bytes s x => simp only [DOp.xs, List.mem_cons, List.not_mem_nil, or_false] at h; simp only [DOp.run, h s (.inl rfl), h x (.inr rfl)]
 | asub e n x lo hi =>
  simp only [DOp.xs, List.mem_cons, List.mem_append] at h
  simp only [DOp.run, h x (.inl rfl), optI_congr (x := lo) (fun y hy => h y (.inr (.inl hy))), optI_congr (x := hi) (fun y hy => h y (.inr (.inr hy)))]
 | sl2s x => simp only [DOp.xs, List.mem_singleton, forall_eq] at h; simp only [DOp.run, h]
def LOp.xs : LOp → List AX
 | .bslice _ _ _ parts => parts.map (·.2)
 | .append _ _ s x => [s, x]
 | .make _ _ _ n => [n]
 | .makec _ _ _ n c => [n, c]
 | .s2b x => [x]
 | .appendS _ s x => [s, x]
 | .appendF _ _ s x => [s, x]
variable {cur : Nat → AB} {p : Nat}
theorem appN_det {K : AV → AB → Option Nat → Prop} {e bytes : Nat} {sv xv : AV} (h : appN cur Hr p e bytes sv xv K) : ∃ v l kl, K v l kl ∧ (∀ k, kl = some k → cur k ≠ .dead ∧ k ∈ AV.at sv) ∧ appN cur Hr p e bytes sv xv (fun v' l' kl' => v' = v ∧ l' = l ∧ kl' = kl) := by
 have two : ∀ {n : Nat} {A B : (AV → AB → Option Nat → Prop) → Prop}, Branch (decide (n = 0)) (A K) (B K) → (A K → ∃ v l kl, K v l kl ∧ kl = none ∧ A (fun v' l' kl' => v' = v ∧ l' = l ∧ kl' = kl)) → (B K → ∃ v l kl, K v l kl ∧ kl = none ∧ B (fun v' l' kl' => v' = v ∧ l' = l ∧ kl' = kl)) →
  ∃ v l kl, K v l kl ∧ kl = none ∧ Branch (decide (n = 0)) (A (fun v' l' kl' => v' = v ∧ l' = l ∧ kl' = kl)) (B (fun v' l' kl' => v' = v ∧ l' = l ∧ kl' = kl)) := by
  intro n A B h ha hb
  by_cases hn : n = 0
  · obtain ⟨v, l, kl, h1, h2, h3⟩ := ha (h.yes (by simpa using hn))
    exact ⟨v, l, kl, h1, h2, .ofT (by simpa using hn) h3⟩
  · obtain ⟨v, l, kl, h1, h2, h3⟩ := hb (h.no (by simpa using hn))
    exact ⟨v, l, kl, h1, h2, .ofF (by simpa using hn) h3⟩
 unfold appN at h ⊢
 split at h
 · simp only [appK] at h ⊢
   split at h
   · rename_i cs hcs
     obtain ⟨ds, n, h1, h2⟩ := srcK_det h
     exact ⟨_, _, _, h1.r, fun k' hk' => (by cases hk'; exact ⟨by rw [hcs]; simp, by simp [AV.at]⟩), srcK_mono (fun _ _ ⟨e1, e2⟩ => by subst e1; subst e2; exact ⟨h1.l, rfl, rfl, rfl⟩) h2⟩
   · exact h.elim
 · rename_i cs len cap
   obtain ⟨ds, n, h1, h2⟩ := srcK_det h
   obtain ⟨v, l, kl, g1, g2, g3⟩ := two (A := fun K => K (.dslice cs len cap) .dead none) (B := fun K => Side (cap = some len ∧ len * e ≤ cs.length ∧ fits (len + n) bytes ∧ ∀ c ∈ ds, scal c = true) (K (.slice p 0 (len + n) none e) (.cells (cs.take (len * e) ++ ds)) none)) h1
    (fun h => ⟨_, _, _, h, rfl, rfl, rfl, rfl⟩) (fun h => ⟨_, _, _, h.r, rfl, h.l, rfl, rfl, rfl⟩)
   exact ⟨v, l, kl, g1, fun k hk => (by rw [g2] at hk; cases hk), srcK_mono (fun _ _ ⟨e1, e2⟩ => by subst e1; subst e2; exact g3) h2⟩
 · obtain ⟨ds, n, h1, h2⟩ := srcK_det h
   obtain ⟨v, l, kl, g1, g2, g3⟩ := two (A := fun K => K .nils .dead none) (B := fun K => Side (fits n bytes ∧ ∀ c ∈ ds, scal c = true) (K (.slice p 0 n none e) (.cells ds) none)) h1
    (fun h => ⟨_, _, _, h, rfl, rfl, rfl, rfl⟩) (fun h => ⟨_, _, _, h.r, rfl, h.l, rfl, rfl, rfl⟩)
   exact ⟨v, l, kl, g1, fun k hk => (by rw [g2] at hk; cases hk), srcK_mono (fun _ _ ⟨e1, e2⟩ => by subst e1; subst e2; exact g3) h2⟩
 · exact h.elim
theorem appF0_det {K : AV → AB → Option Nat → Prop} {e bytes : Nat} {sv xv : AV} (h : appF0 cur Hr p e bytes sv xv K) : ∃ v l, K v (.cells l) none ∧ appF0 cur Hr p e bytes sv xv (fun v' l' kl' => v' = v ∧ l' = .cells l ∧ kl' = none) := by
 unfold appF0 at h ⊢
 split at h
 · split at h
   · rename_i cs hcs
     obtain ⟨ds, n, h1, h2⟩ := srcK_det h
     simp only [hcs]
     exact ⟨_, _, h1.r, srcK_mono (fun _ _ ⟨e1, e2⟩ => by subst e1; subst e2; exact ⟨h1.l, by simp⟩) h2⟩
   · exact h.elim
 · exact h.elim
theorem appF_det {K : AV → AB → Option Nat → Prop} {e bytes : Nat} {sv xv : AV} (h : appF cur Hr p e bytes sv xv K) : ∃ v l kl, K v l kl ∧ (∀ k, kl = some k → cur k ≠ .dead ∧ k ∈ AV.at sv) ∧ appF cur Hr p e bytes sv xv (fun v' l' kl' => v' = v ∧ l' = l ∧ kl' = kl) := by
 rcases h with h | h
 · obtain ⟨v, l, kl, h1, h2, h3⟩ := appN_det h
   exact ⟨v, l, kl, h1, h2, .inl h3⟩
 · obtain ⟨v, l, h1, h2⟩ := appF0_det h
   exact ⟨v, _, none, h1, fun k h => (by cases h), .inr h2⟩
theorem LOp.det {K : AV → AB → Option Nat → Prop} {o : LOp} (h : o.run ev cur Hr p K) : ∃ v l kl, K v l kl ∧ (∀ k, kl = some k → cur k ≠ .dead ∧ k ∈ o.foot ev) ∧ o.run ev cur Hr p (fun v' l' kl' => v' = v ∧ l' = l ∧ kl' = kl) := by
 cases o with
 | bslice e len zero parts =>
  simp only [LOp.run] at h ⊢
  obtain ⟨ds, h1, h2⟩ := buildK_det h
  exact ⟨_, _, _, h1, fun k h => (by cases h), buildK_mono (fun b hb => by subst hb; exact ⟨rfl, rfl, rfl⟩) h2⟩
 | append e bytes s x =>
  simp only [LOp.run] at h ⊢
  obtain ⟨v, l, kl, h1, h2, h3⟩ := appN_det h
  exact ⟨v, l, kl, h1, fun k hk => ⟨(h2 k hk).1, by simp only [LOp.foot]; exact List.mem_append_left _ (h2 k hk).2⟩, h3⟩
 | appendS bytes s x =>
  simp only [LOp.run] at h ⊢
  obtain ⟨v, l, kl, h1, h2, h3⟩ := appN_det h
  exact ⟨v, l, kl, h1, fun k hk => ⟨(h2 k hk).1, by simp only [LOp.foot]; exact (h2 k hk).2⟩, h3⟩
 | appendF e bytes s x =>
  simp only [LOp.run] at h ⊢
  obtain ⟨v, l, kl, h1, h2, h3⟩ := appF_det h
  exact ⟨v, l, kl, h1, fun k hk => ⟨(h2 k hk).1, by simp only [LOp.foot]; exact List.mem_append_left _ (h2 k hk).2⟩, h3⟩
 | make e bytes zero n =>
  simp only [LOp.run] at h ⊢
  split at h
  · exact ⟨_, _, _, h.r, fun k h => (by cases h), h.l, rfl, rfl, rfl⟩
  · exact h.elim
 | makec e bytes zero n c =>
  simp only [LOp.run] at h ⊢
  split at h
  · exact ⟨_, _, _, h.r, fun k h => (by cases h), h.l, rfl, rfl, rfl⟩
  · exact h.elim
 | s2b x =>
  simp only [LOp.run] at h ⊢
  split at h
  · exact ⟨_, _, _, h, fun k h => (by cases h), rfl, rfl, rfl⟩
  · exact h.elim
theorem LOp.run_congr {K : AV → AB → Option Nat → Prop} {o : LOp} (h : ∀ x ∈ o.xs, ev x = ev' x) : o.run ev cur Hr p K = o.run ev' cur Hr p K := by
 cases o with
 | bslice e len zero parts =>
  simp only [LOp.run]
  exact buildK_congr (by simpa [LOp.xs, List.map_map] using h)
 | append e bytes s x => simp only [LOp.xs, List.mem_cons, List.not_mem_nil, or_false] at h; simp only [LOp.run, h s (.inl rfl), h x (.inr rfl)]
 | make e bytes zero n => simp only [LOp.xs, List.mem_singleton, forall_eq] at h; simp only [LOp.run, h]
 | makec e bytes zero n c => simp only [LOp.xs, List.mem_cons, List.not_mem_nil, or_false] at h; simp only [LOp.run, h n (.inl rfl), h c (.inr rfl)]
 | s2b x => simp only [LOp.xs, List.mem_singleton, forall_eq] at h; simp only [LOp.run, h]
 | appendS bytes s x => simp only [LOp.xs, List.mem_cons, List.not_mem_nil, or_false] at h; simp only [LOp.run, h s (.inl rfl), h x (.inr rfl)]
 | appendF e bytes s x => simp only [LOp.xs, List.mem_cons, List.not_mem_nil, or_false] at h; simp only [LOp.run, h s (.inl rfl), h x (.inr rfl)]
theorem appN_mono {K K' : AV → AB → Option Nat → Prop} {e bytes : Nat} {sv xv : AV} (hk : ∀ a b c, K a b c → K' a b c) (h : appN cur Hr p e bytes sv xv K) : appN cur Hr p e bytes sv xv K' := by
 unfold appN at h ⊢
 split at h
 · simp only [appK] at h ⊢
   split at h
   · exact srcK_mono (fun _ _ h => ⟨h.l, hk _ _ _ h.r⟩) h
   · exact h.elim
 · exact srcK_mono (fun _ _ h => ⟨fun e => hk _ _ _ (h.yes e), fun e => ⟨(h.no e).l, hk _ _ _ (h.no e).r⟩⟩) h
 · exact srcK_mono (fun _ _ h => ⟨fun e => hk _ _ _ (h.yes e), fun e => ⟨(h.no e).l, hk _ _ _ (h.no e).r⟩⟩) h
 · exact h.elim
theorem LOp.mono {K K' : AV → AB → Option Nat → Prop} {o : LOp} (hk : ∀ a b c, K a b c → K' a b c) (h : o.run ev cur Hr p K) : o.run ev cur Hr p K' := by
 cases o with
 | bslice e len zero parts => exact buildK_mono (fun _ h => hk _ _ _ h) h
 | append e bytes s x => simp only [LOp.run] at h ⊢; exact appN_mono hk h
 | appendS bytes s x => simp only [LOp.run] at h ⊢; exact appN_mono hk h
 | appendF e bytes s x =>
  simp only [LOp.run, appF] at h ⊢
  refine h.imp (appN_mono hk) fun h => ?_
  simp only [appF0] at h ⊢
  split at h
  · split at h
    · exact srcK_mono (fun _ _ h => ⟨h.l, hk _ _ _ h.r⟩) h
    · exact h.elim
  · exact h.elim
 | make e bytes zero n =>
  simp only [LOp.run] at h ⊢
  split at h
  · exact ⟨h.l, hk _ _ _ h.r⟩
  · exact h.elim
 | makec e bytes zero n c =>
  simp only [LOp.run] at h ⊢
  split at h
  · exact ⟨h.l, hk _ _ _ h.r⟩
  · exact h.elim
 | s2b x =>
  simp only [LOp.run] at h ⊢
  split at h
  · exact hk _ _ _ h
  · exact h.elim
theorem srcK_local {η η' : Nat → AB} {e : Nat} {x : AV} {K : List AV → Nat → Prop} (h : ∀ k ∈ AV.at x, η k = η' k) : srcK η e x K = srcK η' e x K := by
 unfold srcK
 split
 · rfl
 · rfl
 · rw [h _ (by simp [AV.at])]
 · rfl
theorem DOp.local {η η' : Nat → AB} {K : AV → Prop} {o : DOp} (h : ∀ k ∈ o.foot ev, η k = η' k) : o.run ev η K = o.run ev η' K := by
 cases o with
 | asub e n x lo hi =>
  simp only [DOp.run]
  split
  · rename_i hx; rw [h _ (by simp [DOp.foot, hx, AV.at])]
  · rfl
  · rfl
 | sl2s x => simp only [DOp.run]; exact srcK_local h
 | _ => rfl
theorem appN_local {η η' : Nat → AB} {K : AV → AB → Option Nat → Prop} {e bytes : Nat} {sv xv : AV} (h1 : ∀ k ∈ AV.at sv, η k = η' k) (h2 : ∀ k ∈ AV.at xv, η k = η' k) : appN η η p e bytes sv xv K = appN η' η' p e bytes sv xv K := by
 have hx : ∀ {K : List AV → Nat → Prop}, srcK η e xv K = srcK η' e xv K := fun {K} => srcK_local h2
 unfold appN
 split
 · simp only [appK]
   rw [h1 _ (by simp [AV.at])]
   simp only [hx]
 · simp only [hx]
 · simp only [hx]
 · rfl
theorem LOp.local {η η' : Nat → AB} {K : AV → AB → Option Nat → Prop} {o : LOp} (h : ∀ k ∈ o.foot ev, η k = η' k) : o.run ev η η p K = o.run ev η' η' p K := by
 cases o with
 | append e bytes s x =>
  have h : ∀ k ∈ AV.at (ev s) ++ AV.at (ev x), η k = η' k := h
  simp only [LOp.run]
  exact appN_local (fun k hk => h k (List.mem_append_left _ hk)) fun k hk => h k (List.mem_append_right _ hk)
 | appendS bytes s x =>
  have h : ∀ k ∈ AV.at (ev s), η k = η' k := h
  simp only [LOp.run]
  exact appN_local h fun k hk => by unfold strD at hk; split at hk <;> simp [AV.at] at hk
 | appendF e bytes s x =>
  have h : ∀ k ∈ AV.at (ev s) ++ AV.at (ev x), η k = η' k := h
  have hx : ∀ {K : List AV → Nat → Prop}, srcK η e (ev x) K = srcK η' e (ev x) K := fun {K} => srcK_local fun k hk => h k (List.mem_append_right _ hk)
  simp only [LOp.run, appF]
  rw [appN_local (fun k hk => h k (List.mem_append_left _ hk)) fun k hk => h k (List.mem_append_right _ hk)]
  refine congrArg _ ?_
  simp only [appF0]
  split
  · rename_i hs
    rw [h _ (by rw [hs]; simp [AV.at])]
    simp only [hx]
  · rfl
 | bslice e len zero parts => rfl
 | make e bytes zero n => rfl
 | makec e bytes zero n c => rfl
 | s2b x => rfl
end
end Go.Eng

namespace Go.Eng
open Go
variable [Globs]
section
variable {M : Mem} {μ μ' : Pos}
theorem relP_data : ∀ (cs : List AV) {vs : List Value}, (∀ c ∈ cs, noLoc c = true) → relP M μ cs vs → relP M μ' cs vs
 | [], _, _, _ => trivial
 | c :: cs, _, hn, h => by
  obtain ⟨v, r, h1, h2, h3⟩ := h
  exact ⟨v, r, h1, relV_data c (hn c (by simp)) h2, relP_data cs (fun x hx => hn x (by simp [hx])) h3⟩
end

mutual
def pubV (k : Nat) (ds : List AV) : AV → AV
 | .ptr j o => bif Nat.beq j k then .dptr (ds.drop o) else .ptr j o
 | .slice j o l c e => bif Nat.beq j k then .dslice ((ds.drop o).take (l * e)) l c else .slice j o l c e
 | .func g cs => .func g (pubL k ds cs)
 | .meth g cs => .meth g (pubL k ds cs)
 | .ifc t c => .ifc t (pubV k ds c)
 | .agg cs => .agg (pubL k ds cs)
 | .tuple cs => .tuple (pubL k ds cs)
 | c => c
def pubL (k : Nat) (ds : List AV) : List AV → List AV
 | [] => []
 | c :: cs => pubV k ds c :: pubL k ds cs
end
def pubM (k : Nat) (ds : List AV) : List (AV × AV) → List (AV × AV)
 | [] => []
 | (a, b) :: r => (a, pubV k ds b) :: pubM k ds r
def pubB (k : Nat) (ds : List AV) : AB → AB
 | .cells cs => .cells (pubL k ds cs)
 | .map es => .map (pubM k ds es)
 | b => b
def pubBs (k : Nat) (ds : List AV) : List (Nat × AB) → List (Nat × AB)
 | [] => []
 | (j, b) :: r => (j, pubB k ds b) :: pubBs k ds r
def pubH (k : Nat) (ds : List AV) (H : Heap) : Heap := Heap.set ⟨H.nx, pubBs k ds H.bs⟩ k .dead
def pubF (k : Nat) (ds : List AV) (fr : Fr) : List Nat → Fr
 | [] => []
 | t :: r => (t, pubV k ds (look fr t)) :: pubF k ds fr r
theorem pubBs_get {k : Nat} {ds : List AV} (j : Nat) : ∀ bs : List (Nat × AB), bget (pubBs k ds bs) j = pubB k ds (bget bs j)
 | [] => rfl
 | (i, b) :: r => by
  simp only [pubBs, bget]
  cases Nat.beq i j with
  | true => rfl
  | false => exact pubBs_get j r
theorem pubH_get {k : Nat} {ds : List AV} (H : Heap) (j : Nat) : (pubH k ds H).get j = if k = j then .dead else pubB k ds (H.get j) := by
 simp only [pubH, Heap.get_set]
 split
 · rfl
 · exact pubBs_get j H.bs
section
variable {M M' : Mem} {μ : Pos} {k b sz : Nat} {ds : List AV}
mutual
theorem relV_pub (hM : Mem.le M M') (hk : μ k = some (b, sz)) (hd : ∀ o, relM M' (ds.drop o) b o) : ∀ (c : AV) {v : Value}, relV M c μ v → relV M' (pubV k ds c) μ v
 | .any, _, _ => by simp only [pubV, relV]
 | .bool b, _, h => by simpa only [pubV, relV] using h
 | .int k n, _, h => by simpa only [pubV, relV] using h
 | .str s, _, h => by simpa only [pubV, relV] using h
 | .nilp, _, h => by simpa only [pubV, relV] using h
 | .nils, _, h => by simpa only [pubV, relV] using h
 | .nilm, _, h => by simpa only [pubV, relV] using h
 | .nilf, _, h => by simpa only [pubV, relV] using h
 | .nili, _, h => by simpa only [pubV, relV] using h
 | .ifc t c, _, h => by simp only [pubV, relV] at *; obtain ⟨x, h1, h2⟩ := h; exact ⟨x, h1, relV_pub hM hk hd c h2⟩
 | .meth g cs, _, h => by simp only [pubV, relV] at *; obtain ⟨vs, h1, h2⟩ := h; exact ⟨vs, h1, relL_pub hM hk hd cs h2⟩
 | .map j, _, h => by simpa only [pubV, relV] using h
 | .yld j, _, h => by simpa only [pubV, relV] using h
 | .dptr cs, _, h => by simp only [pubV]; exact relV_mono hM _ (Pos.le_refl _) h
 | .dslice cs l c, _, h => by simp only [pubV]; exact relV_mono hM _ (Pos.le_refl _) h
 | .ptr j o, v, h => by
  simp only [pubV]
  by_cases hj : j = k
  · subst hj
    simp only [Nat.beq_refl, cond_true, relV] at h ⊢
    obtain ⟨b', s', h1, h2⟩ := h
    rw [hk] at h1; cases h1
    exact ⟨b, o, h2, hd o⟩
  · rw [beq_false hj]; simp only [cond_false, relV] at h ⊢; exact h
 | .slice j o l c e, v, h => by
  simp only [pubV]
  by_cases hj : j = k
  · subst hj
    simp only [Nat.beq_refl, cond_true, relV] at h ⊢
    obtain ⟨b', s', cc, h1, h2, h3, h4, h5⟩ := h
    rw [hk] at h1; cases h1
    exact .inl ⟨b, o, cc, h2, h3, h5, relM_take _ (hd o)⟩
  · rw [beq_false hj]; simp only [cond_false, relV] at h ⊢; exact h
 | .func g cs, _, h => by simp only [pubV, relV] at *; obtain ⟨vs, h1, h2⟩ := h; exact ⟨vs, h1, relL_pub hM hk hd cs h2⟩
 | .agg cs, _, h => by simp only [pubV, relV] at *; obtain ⟨vs, h1, h2⟩ := h; exact ⟨vs, h1, relL_pub hM hk hd cs h2⟩
 | .tuple cs, _, h => by simp only [pubV, relV] at *; obtain ⟨vs, h1, h2⟩ := h; exact ⟨vs, h1, relL_pub hM hk hd cs h2⟩
theorem relL_pub (hM : Mem.le M M') (hk : μ k = some (b, sz)) (hd : ∀ o, relM M' (ds.drop o) b o) : ∀ (cs : List AV) {vs : List Value}, relL M cs μ vs → relL M' (pubL k ds cs) μ vs
 | [], _, h => by simpa only [pubL, relL] using h
 | c :: cs, _, h => by
  simp only [pubL, relL] at *; obtain ⟨v, r, h1, h2, h3⟩ := h
  exact ⟨v, r, h1, relV_pub hM hk hd c h2, relL_pub hM hk hd cs h3⟩
end
theorem relP_pub (hM : Mem.le M M') (hk : μ k = some (b, sz)) (hd : ∀ o, relM M' (ds.drop o) b o) : ∀ (cs : List AV) {vs : List Value}, relP M μ cs vs → relP M' μ (pubL k ds cs) vs
 | [], _, _ => by simp only [pubL]; trivial
 | c :: cs, _, h => by
  obtain ⟨v, r, h1, h2, h3⟩ := h
  simp only [pubL]
  exact ⟨v, r, h1, relV_pub hM hk hd c h2, relP_pub hM hk hd cs h3⟩
end
theorem relE_pub {M M' : Mem} {μ : Pos} {k b sz : Nat} {ds : List AV} (hM : Mem.le M M') (hk : μ k = some (b, sz)) (hd : ∀ o, relM M' (ds.drop o) b o) : ∀ {es : List (AV × AV)} {l : List MapEntry}, relE M μ es l → relE M' μ (pubM k ds es) l
 | [], _, h => h
 | (_, _) :: _, _, ⟨e, t, h1, h2, h3, h4⟩ => ⟨e, t, h1, relV_mono hM _ (Pos.le_refl _) h2, relV_pub hM hk hd _ h3, relE_pub hM hk hd h4⟩
theorem Rel.pub {M : Mem} {μ : Pos} {H : Heap} {w : World} (R : Rel M μ H w) (k : Nat) {ds : List AV} (hk : H.get k = .cells ds) (hdata : ∀ c ∈ ds, noLoc c = true) :
 ∃ M', Rel M' μ (pubH k ds H) w ∧ (∀ c v, relV M c μ v → relV M' (pubV k ds c) μ v) ∧ ∀ n, Grow n M μ H w M' μ (pubH k ds H) w := by
 obtain ⟨b, sz, c, el, fz, h1, h2, h3, h4, h5⟩ := R.cells k ds hk
 let M' : Mem := fun b' o => if b' = b then c[o]? else M b' o
 have hne : H.get k ≠ .dead := by rw [hk]; simp
 have hM : Mem.le M M' := fun b' o v hv => by
  simp only [M']
  split
  · rename_i e; rw [e, R.apart k b sz hne h1 o] at hv; cases hv
  · exact hv
 have h6 : relP M Pos.none ds c.toList := relP_data ds hdata h5
 have hd : ∀ o, relM M' (ds.drop o) b o := fun o => relM_of_get fun i d hi => by
  rw [List.getElem?_drop] at hi
  obtain ⟨v, hv, hr⟩ := relP_get h6 hi
  exact ⟨v, by simp only [M', if_true]; simpa using hv, relV_mono hM _ (Pos.le_refl _) hr⟩
 have alive : ∀ j, (pubH k ds H).get j ≠ .dead → H.get j ≠ .dead ∧ j ≠ k := by
  intro j hj
  rw [pubH_get] at hj
  by_cases e : k = j
  · rw [if_pos e] at hj; exact absurd rfl hj
  · rw [if_neg e] at hj; exact ⟨fun h => hj (by rw [h]; rfl), Ne.symm e⟩
 have own : ∀ x, Own μ (pubH k ds H) x → Own μ H x := fun x ⟨j, s, hj, hx⟩ => ⟨j, s, (alive j hj).1, hx⟩
 refine ⟨M', ⟨R.glob.mono hM, R.dom, fun j hj => ?_, fun j cs hj => ?_, fun j es hj => ?_, R.walks_same hM (fun j k' left cur hj => ?_) (Pos.le_refl _) (fun _ _ _ => rfl), R.recs_same hM (fun j st id fr hj => ?_) (Pos.le_refl _) (fun _ _ _ => rfl), fun i j b s t hi hj hx hy => R.inj i j b s t (alive i hi).1 (alive j hj).1 hx hy, fun b' o v hv => ?_, fun j b' s hj hx o => ?_⟩, fun c v h => relV_pub hM h1 hd c h,
  fun n => ⟨hM, fun _ _ => rfl, Keep.refl _ _, fun x hx => .inl (own x hx), fun b' o v hv => ?_⟩⟩
 · rw [pubH_get]
   split
   · rfl
   · rw [R.top j hj]; rfl
 · rw [pubH_get] at hj
   split at hj
   · cases hj
   · cases hg : H.get j with
     | dead => rw [hg] at hj; simp [pubB] at hj
     | map es => rw [hg] at hj; simp [pubB] at hj
     | iter k' l c => rw [hg] at hj; simp [pubB] at hj
     | loop st id fr => rw [hg] at hj; simp [pubB] at hj
     | cells xs =>
      rw [hg] at hj; simp only [pubB, AB.cells.injEq] at hj; subst hj
      obtain ⟨b2, sz2, c2, el2, fz2, g1, g2, g3, g4, g5⟩ := R.cells j xs hg
      exact ⟨b2, sz2, c2, el2, fz2, g1, g2, g3, g4, relP_pub hM h1 hd xs g5⟩
 · rw [pubH_get] at hj
   split at hj
   · cases hj
   · cases hg : H.get j with
     | dead => rw [hg] at hj; simp [pubB] at hj
     | cells xs => rw [hg] at hj; simp [pubB] at hj
     | iter k' l c => rw [hg] at hj; simp [pubB] at hj
     | loop st id fr => rw [hg] at hj; simp [pubB] at hj
     | map xs =>
      rw [hg] at hj; simp only [pubB, AB.map.injEq] at hj; subst hj
      obtain ⟨b2, sz2, ents, clock, g1, g2, g3, g4⟩ := R.maps j xs hg
      refine ⟨b2, sz2, ents, clock, g1, g2, ?_, g4⟩
      exact relE_pub hM h1 hd g3
 · have hit : H.get j = .iter k' left cur := by
    rw [pubH_get] at hj
    split at hj
    · cases hj
    · cases hg : H.get j with
      | dead => rw [hg] at hj; simp [pubB] at hj
      | cells xs => rw [hg] at hj; simp [pubB] at hj
      | map xs => rw [hg] at hj; simp [pubB] at hj
      | iter k2 l2 c2 => rw [hg] at hj; simpa [pubB] using hj
      | loop st id fr => rw [hg] at hj; simp [pubB] at hj
   refine ⟨hit, fun _ => ?_⟩
   obtain ⟨es, hes⟩ := R.iter_map hit
   rw [pubH_get, if_neg (fun e => by subst e; rw [hk] at hes; cases hes), hes]
   simp [pubB]
 · rw [pubH_get] at hj
   split at hj
   · cases hj
   · cases hg : H.get j with
     | dead => rw [hg] at hj; simp [pubB] at hj
     | cells xs => rw [hg] at hj; simp [pubB] at hj
     | map xs => rw [hg] at hj; simp [pubB] at hj
     | iter k2 l2 c2 => rw [hg] at hj; simp [pubB] at hj
     | loop st2 id2 fr2 => rw [hg] at hj; simpa [pubB] using hj
 · simp only [M'] at hv
   split at hv
   · rename_i e; subst e
     simp only [World.cell?, h2]; simpa using hv
   · exact R.imm b' o v hv
 · have hj' := alive j hj
   have hne' : b' ≠ b := fun e => by subst e; exact hj'.2 (R.inj j k b' s sz hj'.1 hne hx h1)
   simp only [M']; rw [if_neg hne']; exact R.apart j b' s hj'.1 hx o
 · simp only [M'] at hv
   split at hv
   · rename_i e; exact .inr (.inl ⟨k, sz, hne, by rw [e]; exact h1⟩)
   · exact .inl hv

structure CallS (P : Program) (f : FuncId) (args : List AV) (H : Heap) (r : AV) : Prop where
 ok : callable P f = true
 run : ∀ M μ w (vs : Array Value), Rel M μ H w → relL M args μ vs.toList → Calls P f vs w fun e w' =>
  ∃ v, e = .returned v ∧ relV (fun _ _ => none) r Pos.none v ∧ w'.os = w.os ∧ w'.tape = w.tape ∧ w'.output = w.output ∧ w.heap.size ≤ w'.heap.size ∧ ∀ b, b < w.heap.size → w'.heap[b]? = w.heap[b]?
theorem CallS.of {P : Program} {f : FuncId} {args : List AV} {H : Heap} {r : AV} (h : CallA P f args Heap.nil fun v H' => v = r ∧ H' = Heap.nil) (hr : flatV r = true) (ha : noLocL args = true) : CallS P f args H r :=
 ⟨h.ok, fun M μ w vs R hv => (h.run M Pos.none w vs R.nil (relL_data args ha hv)).mono fun e w' ⟨v, M', μ', H', c, he, R', hv', G, hc, hH⟩ => by
  subst hc
  exact ⟨v, he, relV_flat _ hr hv', G.grow.keep.os, G.grow.keep.tape, G.grow.keep.output, G.grow.keep.size, fun b hb => G.grow.keep.block b hb own_nil⟩⟩
theorem CallS.peek {P : Program} {f : FuncId} {args : List AV} {H : Heap} {r : AV} (k : Nat) {ds : List AV} (hk : H.get k = .cells ds) (hdata : ∀ c ∈ ds, noLoc c = true) (h : CallS P f (pubL k ds args) (pubH k ds H) r) : CallS P f args H r := by
 refine ⟨h.ok, fun M μ w vs R hv => ?_⟩
 obtain ⟨M', R', hV, G⟩ := R.pub k hk hdata
 have hl : ∀ {cs : List AV} {us : List Value}, relL M cs μ us → relL M' (pubL k ds cs) μ us := by
  intro cs
  induction cs with
  | nil => intro us h; simpa only [pubL, relL] using h
  | cons c cs ih => intro us h; simp only [pubL, relL] at h ⊢; obtain ⟨v, r, h1, h2, h3⟩ := h; exact ⟨v, r, h1, hV c v h2, ih h3⟩
 exact h.run M' μ w vs R' (hl hv)
theorem CallS.call {P : Program} {f : FuncId} {args : List AV} {H : Heap} {r : AV} {K : AV → Heap → Prop} (h : CallS P f args H r) (hr : flatV r = true) (hk : K r H) : CallA P f args H K := by
 refine ⟨h.ok, fun M μ w vs R hv => (h.run M μ w vs R hv).mono fun e w' ⟨v, he, hv', h1, h2, h3, h4, h5⟩ => ?_⟩
 have himm : ∀ b o u, M b o = some u → w'.cell? ⟨b, o, none⟩ = some u := fun b o u hm => by
  have hb := R.cell_lt hm
  have := R.imm b o u hm
  simp only [World.cell?] at this ⊢
  rw [h5 b hb]; exact this
 exact ⟨v, M, μ, H, r, he, R.frame (Mem.le_refl _) himm (fun b o u h => .inl h) h5, relV_flat r hr hv', ⟨Pos.le_refl _, ⟨Mem.le_refl _, fun _ _ => rfl, ⟨h1, h2, h3, h4, fun b hb _ => h5 b hb⟩, fun b hb => .inl hb, fun b o u h => .inl h⟩, Nat.le_refl _⟩, hk⟩
section
variable {k : Nat} {ds : List AV}
mutual
theorem pubV_data : ∀ (c : AV), noLoc c = true → pubV k ds c = c
 | .any, _ | .bool _, _ | .int _ _, _ | .str _, _ | .nilp, _ | .nils, _ | .nilm, _ | .nilf, _ | .nili, _ | .dptr _, _ | .dslice _ _ _, _ => by simp only [pubV]
 | .ptr _ _, h | .slice _ _ _ _ _, h | .map _, h | .yld _, h => by simp [noLoc] at h
 | .func g cs, h => by simp only [noLoc] at h; simp only [pubV, pubL_data0 cs h]
 | .meth g cs, h => by simp only [noLoc] at h; simp only [pubV, pubL_data0 cs h]
 | .ifc t c, h => by simp only [noLoc] at h; simp only [pubV, pubV_data c h]
 | .agg cs, h => by simp only [noLoc] at h; simp only [pubV, pubL_data0 cs h]
 | .tuple cs, h => by simp only [noLoc] at h; simp only [pubV, pubL_data0 cs h]
theorem pubL_data0 : ∀ (cs : List AV), noLocL cs = true → pubL k ds cs = cs
 | [], _ => by simp only [pubL]
 | c :: cs, h => by
  simp only [noLocL, Bool.and_eq_true] at h
  simp only [pubL, pubV_data c h.1, pubL_data0 cs h.2]
end
theorem pubL_data : ∀ {cs : List AV}, (∀ c ∈ cs, noLoc c = true) → pubL k ds cs = cs
 | [], _ => by simp only [pubL]
 | c :: cs, h => by simp only [pubL, pubV_data c (h c List.mem_cons_self), pubL_data fun d hd => h d (List.mem_cons_of_mem _ hd)]
end

structure QCallA (P : Program) (f : FuncId) (vs : List AV) (K : AV → Prop) : Prop where
 ex : ∃ r, noLocL vs = true ∧ noLoc r = true ∧ CallA P f vs Heap.nil (fun v H' => v = r ∧ H' = Heap.nil) ∧ K r
theorem QCallA.of {P : Program} {f : FuncId} {vs : List AV} {r : AV} {K : AV → Prop} (h : CallA P f vs Heap.nil fun v H' => v = r ∧ H' = Heap.nil) (ha : noLocL vs = true) (hr : noLoc r = true) (hk : K r) : QCallA P f vs K := ⟨r, ha, hr, h, hk⟩
def consN (k : Nat) (l : List Nat) : List Nat := bif l.any (Nat.beq k) then l else k :: l
structure OCallA (P : Program) (f : FuncId) (vs : List AV) (K : Nat → Option Nat → Nat → List AV → Prop) : Prop where
 ex : ∃ k n cp e cs, noLocL vs = true ∧ noLocL cs = true ∧ CallA P f vs Heap.nil (fun v H' => v = .slice k 0 n cp e ∧ H'.get k = .cells cs) ∧ K n cp e cs
theorem OCallA.of {P : Program} {f : FuncId} {vs : List AV} {K : Nat → Option Nat → Nat → List AV → Prop} {n : Nat} {cp : Option Nat} {e : Nat} {cs : List AV} (h : CallA P f vs Heap.nil fun v H' => v = .slice 0 0 n cp e ∧ H' = ⟨1, [(0, .cells cs)]⟩) (ha : noLocL vs = true) (hr : noLocL cs = true) (hk : K n cp e cs) : OCallA P f vs K :=
 ⟨0, n, cp, e, cs, ha, hr, h.mono fun v H' hv => ⟨hv.1, by rw [hv.2]; rfl⟩, hk⟩
theorem OCallA.mono {P : Program} {f : FuncId} {vs : List AV} {K K' : Nat → Option Nat → Nat → List AV → Prop} (hk : ∀ n c e cs, K n c e cs → K' n c e cs) (h : OCallA P f vs K) : OCallA P f vs K' := by
 obtain ⟨k, n, c, e, cs, h1, h2, h3, h4⟩ := h.ex
 exact ⟨k, n, c, e, cs, h1, h2, h3, hk _ _ _ _ h4⟩
theorem OCallA.det {P : Program} {f : FuncId} {vs : List AV} {K : Nat → Option Nat → Nat → List AV → Prop} (h : OCallA P f vs K) : ∃ n c e cs, K n c e cs ∧ OCallA P f vs fun n' c' e' cs' => n' = n ∧ c' = c ∧ e' = e ∧ cs' = cs := by
 obtain ⟨k, n, c, e, cs, h1, h2, h3, h4⟩ := h.ex
 exact ⟨n, c, e, cs, h4, k, n, c, e, cs, h1, h2, h3, rfl, rfl, rfl, rfl⟩
def atL : List AV → List Nat
 | [] => []
 | c :: r => match c.at with
  | [] => atL r
  | k :: _ => consN k (atL r)
def frz (η : Nat → AB) : List Nat → List AV → List AV
 | [], vs => vs
 | k :: ks, vs => match η k with
  | .cells ds => bif ds.all noLoc then frz η ks (pubL k ds vs) else frz η ks vs
  | _ => frz η ks vs
def qcallK (P : Program) (η : Nat → AB) (f : FuncId) (vs : List AV) (K : AV → Prop) : Prop := match atL vs with
 | [] => QCallA P f vs K
 | k :: ks => fvs (frz η (k :: ks) vs) fun us => QCallA P f us fun r => bif flatV r then K r else False
theorem QCallA.det {P : Program} {f : FuncId} {vs : List AV} {K : AV → Prop} (h : QCallA P f vs K) : ∃ r, K r ∧ QCallA P f vs fun r' => r' = r := by
 obtain ⟨r, h1, h2, h3, h4⟩ := h.ex
 exact ⟨r, h4, r, h1, h2, h3, rfl⟩
theorem QCallA.mono {P : Program} {f : FuncId} {vs : List AV} {K K' : AV → Prop} (hk : ∀ r, K r → K' r) (h : QCallA P f vs K) : QCallA P f vs K' := by
 obtain ⟨r, h1, h2, h3, h4⟩ := h.ex
 exact ⟨r, h1, h2, h3, hk r h4⟩
theorem qcallK_det {P : Program} {η : Nat → AB} {f : FuncId} {vs : List AV} {K : AV → Prop} (h : qcallK P η f vs K) : ∃ r, K r ∧ qcallK P η f vs fun r' => r' = r := by
 unfold qcallK at h ⊢
 split at h
 · exact h.det
 · simp only [fvs_eq] at h ⊢
   obtain ⟨r, h1, h2⟩ := h.det
   cases hf : flatV r with
   | false => rw [hf] at h1; exact h1.elim
   | true =>
    rw [hf] at h1
    exact ⟨r, h1, h2.mono fun r' e => by subst e; rw [hf]; rfl⟩
theorem frz_local {η η' : Nat → AB} : ∀ {ks : List Nat} {vs : List AV}, (∀ k ∈ ks, η k = η' k) → frz η ks vs = frz η' ks vs
 | [], _, _ => rfl
 | k :: ks, vs, h => by
  have ih : ∀ vs, frz η ks vs = frz η' ks vs := fun vs => frz_local fun j hj => h j (List.mem_cons_of_mem _ hj)
  simp only [frz, h k List.mem_cons_self, ih]
theorem qcallK_local {P : Program} {η η' : Nat → AB} {f : FuncId} {vs : List AV} {K : AV → Prop} (h : ∀ k ∈ atL vs, η k = η' k) : qcallK P η f vs K = qcallK P η' f vs K := by
 unfold qcallK
 split
 · rfl
 · rename_i hk
   rw [frz_local (η := η) (η' := η') (fun j hj => h j (by rw [hk]; exact hj))]
theorem consN_nodup {k : Nat} {l : List Nat} (h : l.Nodup) : (consN k l).Nodup := by
 unfold consN
 cases hb : l.any (Nat.beq k) with
 | true => exact h
 | false =>
  refine List.nodup_cons.2 ⟨fun hm => ?_, h⟩
  have : l.any (Nat.beq k) = true := List.any_eq_true.2 ⟨k, hm, by simp⟩
  rw [hb] at this; cases this
theorem atL_nodup : ∀ vs : List AV, (atL vs).Nodup
 | [] => List.nodup_nil
 | c :: r => by
  simp only [atL]
  split
  · exact atL_nodup r
  · exact consN_nodup (atL_nodup r)
theorem CallS.frz {P : Program} {f : FuncId} {r : AV} : ∀ {ks : List Nat} {vs : List AV} {H : Heap} {η : Nat → AB}, ks.Nodup → (∀ k ∈ ks, ∀ ds, η k = .cells ds → ds.all noLoc = true → H.get k = .cells ds) → (∀ H', CallS P f (Eng.frz η ks vs) H' r) → CallS P f vs H r
 | [], vs, H, η, _, _, h => h H
 | k :: ks, vs, H, η, hn, hH, h => by
  have hn' := List.nodup_cons.1 hn
  simp only [Eng.frz] at h
  have pass : (∀ H', CallS P f (Eng.frz η ks vs) H' r) → CallS P f vs H r := fun h => CallS.frz hn'.2 (fun j hj => hH j (List.mem_cons_of_mem _ hj)) h
  split at h
  · rename_i ds hds
    cases hd : ds.all noLoc with
    | false => rw [hd] at h; exact pass h
    | true =>
     rw [hd] at h
     simp only [cond_true] at h
     have hdata : ∀ c ∈ ds, noLoc c = true := by simpa using hd
     have hk := hH k List.mem_cons_self ds hds hd
     refine CallS.peek k hk hdata (CallS.frz hn'.2 (fun j hj es he hes => ?_) h)
     have hjk : k ≠ j := fun e => by subst e; exact hn'.1 hj
     rw [pubH_get, if_neg hjk, hH j (List.mem_cons_of_mem _ hj) es he hes]
     simp only [pubB]
     congr 1
     have hes' : ∀ c ∈ es, noLoc c = true := by simpa using hes
     exact pubL_data hes'
  · exact pass h
theorem qcallK_call {P : Program} {f : FuncId} {vs : List AV} {H : Heap} {r : AV} {b : Prop} (h : qcallK P H.get f vs fun r' => r' = r ∧ b) : b ∧ CallA P f vs H fun v' H' => v' = r ∧ H' = H := by
 unfold qcallK at h
 split at h
 · obtain ⟨r', c1, c2, c3, rfl, c5⟩ := h.ex
   exact ⟨c5, CallA.pure c3 c1 c2 ⟨rfl, rfl⟩⟩
 · rename_i k ks hks
   simp only [fvs_eq] at h
   obtain ⟨r', c1, c2, c3, c4⟩ := h.ex
   cases hf : flatV r' with
   | false => rw [hf] at c4; exact c4.elim
   | true =>
    rw [hf] at c4
    obtain ⟨rfl, c5⟩ := c4
    refine ⟨c5, CallS.call (CallS.frz (η := H.get) (ks := k :: ks) (by rw [← hks]; exact atL_nodup vs) (fun _ _ _ h _ => h) fun H' => ?_) hf ⟨rfl, rfl⟩⟩
    exact CallS.of c3 hf c1
end Go.Eng

namespace Go.Eng
open Go
variable [Globs]

abbrev Ef := List (Nat × AB)
def efL (p : Nat) (ab : AB) : Option Nat → Ef
 | none => [(p, ab)]
 | some k => [(k, .dead), (p, ab)]
def HOp.q (ev : AX → AV) (η : Nat → AB) (p : Nat) (K : AV → Ef → Prop) : HOp → Prop
 | .load agg n x => match ev x with
  | .dptr cs => loadK agg n cs fun v => K v []
  | .ptr k off => match η k with
   | .cells cs => loadK agg n (cs.drop off) fun v => K v []
   | _ => False
  | _ => False
 | .alloc zero => K (.ptr p 0) [(p, .cells zero)]
 | .box x => match cellsOf (ev x) with
  | some cs => K (.ptr p 0) [(p, .cells cs)]
  | none => False
 | .store n q x => match ev q with
  | .ptr k off => match η k with
   | .cells cs => match cellsOf (ev x) with
    | some vs => bif Nat.beq vs.length n then lputK cs off vs fun cs' => K .any [(k, .cells cs')] else False
    | none => False
   | _ => False
  | _ => False
def HOp.foot (ev : AX → AV) : HOp → List Nat
 | .load _ _ x => (ev x).at
 | .store _ q _ => (ev q).at
 | _ => []
def MOp.q (ev : AX → AV) (η : Nat → AB) (K : AV → Ef → Prop) : MOp → Prop
 | .mk => False
 | .get ok kk zero m k => mapN η (ev m) fun _ es => bif keyOk kk (ev k) then MRes (mfind kk (ev k) es) fun r => K (mval ok zero r) [] else False
 | .set kk m k v => mapN η (ev m) fun p es => match p with
  | some p => bif keyOk kk (ev k) then MRes (mput kk (ev k) (ev v) es) fun es' => K .any [(p, .map es')] else False
  | none => False
 | .del kk m k => mapN η (ev m) fun p es => match p with
  | some p => bif keyOk kk (ev k) then MRes (mdel kk (ev k) es) fun es' => K (.tuple []) [(p, .map es')] else False
  | none => False
 | .range _ => False
 | .next _ => False
 | .entry _ => False
 | .delw _ _ _ _ => False
 | .copyS _ _ => False
 | .copy e d s => match ev d with
  | .slice k off n _ e' => match η k with
   | .cells cs => srcK η e (ev s) fun ds m => Side (e' = e) (Branch (decide (m ≤ n)) (lputK cs off ds fun cs' => K (.int .i64 m) [(k, .cells cs')]) (lputK cs off (ds.take (n * e)) fun cs' => K (.int .i64 n) [(k, .cells cs')]))
   | _ => False
  | _ => False
 | .len m => mapN η (ev m) fun _ es => K (.int .i64 es.length) []
def MOp.foot (ev : AX → AV) : MOp → List Nat
 | .mk => []
 | .get _ _ _ m _ => (ev m).at
 | .set _ m _ _ => (ev m).at
 | .del _ m _ => (ev m).at
 | .len m => (ev m).at
 | .range m => (ev m).at
 | .next it => (ev it).at
 | .entry it => (ev it).at
 | .delw _ m _ it => (ev m).at ++ (ev it).at
 | .copy _ d s => (ev d).at ++ (ev s).at
 | .copyS d _ => (ev d).at
def AOp.q (P : Program) (ev : AX → AV) (η : Nat → AB) (p : Nat) (K : AV → Ef → Prop) : AOp → Prop
 | .m o => o.q ev η K
 | .p o => o.run ev fun v => K v []
 | .v o => o.run ev fun v => K v []
 | .h o => o.q ev η p K
 | .d o => o.run ev η fun v => K v []
 | .l o => o.run ev η η p fun v cs kl => K v (efL p cs kl)
 | .call f args => fvs (args.map ev) fun vs => qcallK P η f vs fun r => K r []
 | .callo f args => fvs (args.map ev) fun vs => OCallA P f vs fun n cp e cs => K (.slice p 0 n cp e) [(p, .cells cs)]
 | .callv x args => match ev x with
  | .func f caps => fvs (args.map ev ++ caps) fun vs => qcallK P η f vs fun r => K r []
  | .meth f bs => fvs (bs ++ args.map ev) fun vs => qcallK P η f vs fun r => K r []
  | _ => False
 | .nq _ _ => False
 | .callx _ _ => False
 | .callvx _ _ => False
 | .calli _ _ _ => False
 | .pan _ => False
def AOp.foot (ev : AX → AV) : AOp → List Nat
 | .m o => o.foot ev
 | .h o => o.foot ev
 | .d o => o.foot ev
 | .l o => o.foot ev
 | .call _ args => atL (args.map ev)
 | .callv x args => match ev x with
  | .func _ caps => atL (args.map ev ++ caps)
  | .meth _ bs => atL (bs ++ args.map ev)
  | _ => []
 | _ => []
def layH (H : Heap) : Ef → Heap
 | [] => H
 | (k, x) :: r => layH (H.set k x) r

structure En where
 i : Nat
 F : List Nat
 W : List Nat
def memN (k : Nat) : List Nat → Bool
 | [] => false
 | j :: r => Nat.beq k j || memN k r
def disj : List Nat → List Nat → Bool
 | [], _ => true
 | k :: r, l => !memN k l && disj r l
def memP (i j : Nat) : List (Nat × Nat) → Bool
 | [] => false
 | (a, b) :: r => (Nat.beq i a && Nat.beq j b) || memP i j r
def okEn (dep : List (Nat × Nat)) (e e' : En) : Bool := (disj e.W e'.F && disj e'.W e.F) || memP e.i e'.i dep || memP e'.i e.i dep
def okLog (dep : List (Nat × Nat)) (e' : En) : List En → Bool
 | [] => true
 | e :: r => okEn dep e e' && okLog dep e' r
def keys : Ef → List Nat
 | [] => []
 | (k, _) :: r => k :: keys r
def logK (dep : List (Nat × Nat)) (i : Nat) (F W : List Nat) (L : List En) (K : List En → Prop) : Prop := match F, W with
 | [], [] => K L
 | F, W => bif okLog dep ⟨i, F, W⟩ L then K (⟨i, F, W⟩ :: L) else False
def layK (K : Heap → Prop) (b : Ef) : Heap → Prop := List.rec (motive := fun _ => Heap → Prop) K (fun x _ ih H => match H with | ⟨nx, bs⟩ => ih ⟨nx, x :: bs⟩) b
theorem layK_eq (K : Heap → Prop) : ∀ (b : Ef) (H : Heap), layK K b H = K (layH H b)
 | [], _ => rfl
 | (k, x) :: r, ⟨nx, bs⟩ => layK_eq K r ⟨nx, (k, x) :: bs⟩
def qstep (P : Program) (dep : List (Nat × Nat)) (q : AO) (next : Nat → Nat → List En → Fr → Heap → Prop) (i p : Nat) (L : List En) (fr : Fr) (H : Heap) : Prop :=
 q.op.q P (AX.ev fr) H.get p fun v b => logK dep i (q.op.foot (AX.ev fr)) (keys b) L fun L => putK fr q.dst v fun fr => layK (fun H => next (i + 1) (p + 1) L fr H) b H
noncomputable def qwalk (P : Program) (dep : List (Nat × Nat)) (K : Fr → Heap → Prop) (l : List AO) : Nat → Nat → List En → Fr → Heap → Prop :=
 List.rec (motive := fun _ => Nat → Nat → List En → Fr → Heap → Prop) (fun _ _ _ => K) (fun q _ ih i p L fr H => match q.guard with
  | none => qstep P dep q ih i p L fr H
  | some (s, want) => match look fr s with
   | .bool b => match want with
    | true => Branch b (qstep P dep q ih i p L ((s, .bool true) :: fr) H) (putK ((s, .bool false) :: fr) q.dst (.tuple []) fun fr => ih (i + 1) (p + 1) L fr H)
    | false => Branch b (putK ((s, .bool true) :: fr) q.dst (.tuple []) fun fr => ih (i + 1) (p + 1) L fr H) (qstep P dep q ih i p L ((s, .bool false) :: fr) H)
   | .tuple [] => putK fr q.dst (.tuple []) fun fr => ih (i + 1) (p + 1) L fr H
   | _ => False) l
theorem qwalk_cons (P : Program) (dep : List (Nat × Nat)) (K : Fr → Heap → Prop) (q : AO) (r : List AO) (i p : Nat) (L : List En) (fr : Fr) (H : Heap) : qwalk P dep K (q :: r) i p L fr H = match q.guard with
 | none => qstep P dep q (qwalk P dep K r) i p L fr H
 | some (s, want) => match look fr s with
  | .bool b => match want with
   | true => Branch b (qstep P dep q (qwalk P dep K r) i p L ((s, .bool true) :: fr) H) (putK ((s, .bool false) :: fr) q.dst (.tuple []) fun fr => qwalk P dep K r (i + 1) (p + 1) L fr H)
   | false => Branch b (putK ((s, .bool true) :: fr) q.dst (.tuple []) fun fr => qwalk P dep K r (i + 1) (p + 1) L fr H) (qstep P dep q (qwalk P dep K r) i p L ((s, .bool false) :: fr) H)
  | .tuple [] => putK fr q.dst (.tuple []) fun fr => qwalk P dep K r (i + 1) (p + 1) L fr H
  | _ => False := rfl

abbrev Sg := Nat → AV
abbrev Et := Nat → AB
def AX.evs (σ : Sg) : AX → AV
 | .t n => σ n
 | .c v => v
 | .g n => .dptr (globOf n)
theorem evs_look (fr : Fr) : AX.evs (look fr) = AX.ev fr := by funext x; cases x <;> rfl
def ups (σ : Sg) (d : Option Nat) (v : AV) : Sg := match d with
 | some t => fun u => if t = u then v else σ u
 | none => σ
def upe (η : Et) : Ef → Et
 | [] => η
 | (k, x) :: r => upe (fun j => if k = j then x else η j) r
theorem get_lay : ∀ (H : Heap) (b : Ef), (layH H b).get = upe H.get b
 | H, [] => rfl
 | H, (k, x) :: r => by
  simp only [layH, upe]
  rw [get_lay]
  congr 1
  funext j; rw [Heap.get_set]
theorem layH_nx : ∀ (H : Heap) (b : Ef), (layH H b).nx = H.nx
 | H, [] => rfl
 | H, (k, x) :: r => by simp only [layH]; rw [layH_nx]; rfl
theorem upe_off : ∀ {b : Ef} {η : Et} {j : Nat}, j ∉ keys b → upe η b j = η j
 | [], _, _, _ => rfl
 | (k, x) :: r, η, j, h => by
  simp only [keys, List.mem_cons, not_or] at h
  simp only [upe]
  rw [upe_off h.2, if_neg (fun e => h.1 e.symm)]
theorem upe_on : ∀ {b : Ef} {η η' : Et} {j : Nat}, (j ∈ keys b ∨ η j = η' j) → upe η b j = upe η' b j
 | [], _, _, _, h => by
  rcases h with h | h
  · simp [keys] at h
  · exact h
 | (k, x) :: r, η, η', j, h => by
  simp only [upe]
  refine upe_on ?_
  by_cases hk : k = j
  · exact .inr (by simp [hk])
  · rcases h with h | h
    · simp only [keys, List.mem_cons] at h
      rcases h with h | h
      · exact absurd h.symm hk
      · exact .inl h
    · exact .inr (by simp [hk, h])
theorem upe_swap {b b' : Ef} (h : ∀ k, k ∈ keys b → k ∈ keys b' → False) (η : Et) : upe (upe η b) b' = upe (upe η b') b := by
 funext j
 by_cases h1 : j ∈ keys b
 · rw [upe_off (fun h2 => h j h1 h2)]
   exact upe_on (.inl h1)
 · rw [upe_off (b := b) (η := upe η b') h1]
   exact upe_on (.inr (upe_off h1))
theorem memN_iff {k : Nat} : ∀ {l : List Nat}, memN k l = true ↔ k ∈ l
 | [] => by simp [memN]
 | j :: r => by simp only [memN, Bool.or_eq_true, List.mem_cons, memN_iff (l := r), Nat.beq_eq]
theorem disj_spec : ∀ {l r : List Nat}, disj l r = true → ∀ k, k ∈ l → k ∈ r → False
 | [], _, _, k, h, _ => by cases h
 | j :: l, r, h, k, h1, h2 => by
  simp only [disj, Bool.and_eq_true, Bool.not_eq_true'] at h
  rcases List.mem_cons.1 h1 with h1 | h1
  · subst h1; rw [memN_iff.2 h2] at h; exact absurd h.1 (by simp)
  · exact disj_spec h.2 k h1 h2
theorem memP_spec {i j : Nat} : ∀ {l : List (Nat × Nat)}, memP i j l = true → (i, j) ∈ l
 | [], h => by simp [memP] at h
 | (a, b) :: r, h => by
  simp only [memP, Bool.or_eq_true, Bool.and_eq_true, Nat.beq_eq] at h
  rcases h with ⟨rfl, rfl⟩ | h
  · simp
  · exact List.mem_cons_of_mem _ (memP_spec h)
theorem okLog_spec {dep : List (Nat × Nat)} {e' : En} : ∀ {L : List En}, okLog dep e' L = true → ∀ e ∈ L, okEn dep e e' = true
 | [], _, _, h => by cases h
 | x :: L, h, e, he => by
  simp only [okLog, Bool.and_eq_true] at h
  rcases List.mem_cons.1 he with rfl | he
  · exact h.1
  · exact okLog_spec h.2 e he
theorem okEn_symm {dep : List (Nat × Nat)} {e e' : En} (h : okEn dep e e' = true) : okEn dep e' e = true := by
 simp only [okEn, Bool.or_eq_true, Bool.and_eq_true] at h ⊢
 rcases h with (⟨h1, h2⟩ | h) | h
 · exact .inl (.inl ⟨h2, h1⟩)
 · exact .inr h
 · exact .inl (.inr h)
theorem disj_nil (l : List Nat) : disj l [] = true := by
 induction l with
 | nil => rfl
 | cons k r ih => simp [disj, memN, ih]
theorem okEn_idle {dep : List (Nat × Nat)} {e e' : En} (h : e.F = [] ∧ e.W = []) : okEn dep e e' = true := by
 simp only [okEn, h.1, h.2, disj_nil, disj, Bool.and_self, Bool.true_or]
theorem logK_spec {dep : List (Nat × Nat)} {i : Nat} {F W : List Nat} {L : List En} {K : List En → Prop} (h : logK dep i F W L K) : (F = [] ∧ W = [] ∧ K L) ∨ ((∀ e ∈ L, okEn dep e ⟨i, F, W⟩ = true) ∧ K (⟨i, F, W⟩ :: L)) := by
 unfold logK at h
 split at h
 · exact .inl ⟨rfl, rfl, h⟩
 · cases hc : okLog dep ⟨i, F, W⟩ L with
   | true => rw [hc] at h; exact .inr ⟨okLog_spec hc, h⟩
   | false => rw [hc] at h; exact h.elim
theorem look_put (fr : Fr) (d : Option Nat) (v : AV) : look (put fr d v) = ups (look fr) d v := by
 cases d with
 | none => rfl
 | some t =>
  funext u
  simp only [put, look, ups]
  by_cases h : t = u
  · subst h; simp
  · rw [beq_false h, if_neg h]; rfl
theorem look_know {fr : Fr} {s : Nat} {b c : Bool} (h : look fr s = .bool b) (hb : b = c) : look ((s, .bool c) :: fr) = look fr := by
 funext u
 simp only [look]
 by_cases hu : s = u
 · subst hu; subst hb; simp [h]
 · rw [beq_false hu]; rfl
theorem HOp.q_det {ev : AX → AV} {η : Et} {p : Nat} {K : AV → Ef → Prop} {o : HOp} (h : o.q ev η p K) : ∃ v b, K v b ∧ (∀ k ∈ keys b, k ∈ o.foot ev ∨ k = p) ∧ o.q ev η p (fun v' b' => v' = v ∧ b' = b) := by
 cases o with
 | load agg n x =>
  simp only [HOp.q] at h ⊢
  have ld : ∀ cs, loadK agg n cs (fun v => K v []) → ∃ v b, K v b ∧ (∀ k ∈ keys b, k ∈ (HOp.load agg n x).foot ev ∨ k = p) ∧ loadK agg n cs (fun v' => v' = v ∧ [] = b) := by
   intro cs h
   rcases loadK_spec h with ⟨rfl, hn, hk⟩ | ⟨rfl, c, r, rfl, hk⟩
   · exact ⟨_, [], hk, (by simp [keys]), by simp only [loadK, takeK_eq n cs _ hn, and_self]⟩
   · exact ⟨_, [], hk, (by simp [keys]), by simp only [loadK_false, fv_eq, and_self]⟩
  split at h
  · exact ld _ h
  · split at h
    · exact ld _ h
    · exact h.elim
  · exact h.elim
 | alloc zero => exact ⟨_, _, h, by simp [keys], rfl, rfl⟩
 | box x =>
  simp only [HOp.q] at h ⊢
  split at h
  · exact ⟨_, _, h, by simp [keys], rfl, rfl⟩
  · exact h.elim
 | store n q x =>
  simp only [HOp.q] at h ⊢
  split at h
  · rename_i k off hq
    split at h
    · split at h
      · rename_i vs hvs
        cases hn : Nat.beq vs.length n with
        | false => simp [hn] at h
        | true =>
         simp only [hn, cond_true] at h ⊢
         obtain ⟨e1, e2, e3⟩ := lputK_spec h
         exact ⟨_, _, e3, by simp [keys, HOp.foot, hq, AV.at], lputK_eq e1 e2 ⟨rfl, rfl⟩⟩
      · exact h.elim
    · exact h.elim
  · exact h.elim
theorem HOp.q_local {ev : AX → AV} {η η' : Et} {p : Nat} {K : AV → Ef → Prop} {o : HOp} (h : ∀ k ∈ o.foot ev, η k = η' k) : o.q ev η p K = o.q ev η' p K := by
 cases o with
 | load agg n x =>
  simp only [HOp.q]
  split
  · rfl
  · rename_i k off hx
    rw [h k (by simp [HOp.foot, hx, AV.at])]
  · rfl
 | alloc zero => rfl
 | box x => rfl
 | store n q x =>
  simp only [HOp.q]
  split
  · rename_i k off hx
    rw [h k (by simp [HOp.foot, hx, AV.at])]
  · rfl
theorem MOp.q_det {ev : AX → AV} {η : Et} {p : Nat} {K : AV → Ef → Prop} {o : MOp} (h : o.q ev η K) : ∃ v b, K v b ∧ (∀ k ∈ keys b, k ∈ o.foot ev ∨ k = p) ∧ o.q ev η (fun v' b' => v' = v ∧ b' = b) := by
 cases o with
 | mk => exact h.elim
 | get ok kk zero m k =>
  simp only [MOp.q] at h ⊢
  rcases mapN_spec h with ⟨hm, h⟩ | ⟨q, es, hm, hes, h⟩
  · cases hk : keyOk kk (ev k) <;> simp only [hk, cond_true, cond_false] at h
    obtain ⟨r, hr, hK⟩ := h.ex
    exact ⟨_, _, hK, by simp [keys], by simp only [hm, mapN, hk, cond_true]; exact ⟨r, hr, by simp⟩⟩
  · cases hk : keyOk kk (ev k) <;> simp only [hk, cond_true, cond_false] at h
    obtain ⟨r, hr, hK⟩ := h.ex
    exact ⟨_, _, hK, by simp [keys], by simp only [hm, mapN, hes, hk, cond_true]; exact ⟨r, hr, by simp⟩⟩
 | set kk m k v =>
  simp only [MOp.q] at h ⊢
  rcases mapN_spec h with ⟨hm, h⟩ | ⟨q, es, hm, hes, h⟩
  · exact h.elim
  · simp only at h
    cases hk : (keyOk kk (ev k)) <;> simp only [hk, cond_true, cond_false] at h
    obtain ⟨r, hr, hK⟩ := h.ex
    exact ⟨_, _, hK, by simp [keys, MOp.foot, hm, AV.at], by simp only [hm, mapN, hes, hk, cond_true]; exact ⟨r, hr, by simp⟩⟩
 | del kk m k =>
  simp only [MOp.q] at h ⊢
  rcases mapN_spec h with ⟨hm, h⟩ | ⟨q, es, hm, hes, h⟩
  · exact h.elim
  · simp only at h
    cases hk : keyOk kk (ev k) <;> simp only [hk, cond_true, cond_false] at h
    obtain ⟨r, hr, hK⟩ := h.ex
    exact ⟨_, _, hK, by simp [keys, MOp.foot, hm, AV.at], by simp only [hm, mapN, hes, hk, cond_true]; exact ⟨r, hr, by simp⟩⟩
 | range m => exact h.elim
 | next m => exact h.elim
 | entry m => exact h.elim
 | delw _ _ _ _ => exact h.elim
 | copyS _ _ => exact h.elim
 | copy e d s =>
  simp only [MOp.q] at h ⊢
  split at h
  · rename_i k off n cap e' hd
    split at h
    · rename_i cs hcs
      obtain ⟨ds, m, ⟨he, hbr⟩, h2⟩ := srcK_det h
      by_cases hmn : m ≤ n
      · obtain ⟨e1, e2, e3⟩ := lputK_spec (hbr.yes (by simpa using hmn))
        exact ⟨_, _, e3, by simp [keys, MOp.foot, hd, AV.at], srcK_mono (fun _ _ ⟨q1, q2⟩ => by subst q1; subst q2; exact ⟨he, .ofT (by simpa using hmn) (lputK_eq e1 e2 ⟨rfl, rfl⟩)⟩) h2⟩
      · obtain ⟨e1, e2, e3⟩ := lputK_spec (hbr.no (by simpa using hmn))
        exact ⟨_, _, e3, by simp [keys, MOp.foot, hd, AV.at], srcK_mono (fun _ _ ⟨q1, q2⟩ => by subst q1; subst q2; exact ⟨he, .ofF (by simpa using hmn) (lputK_eq e1 e2 ⟨rfl, rfl⟩)⟩) h2⟩
    · exact h.elim
  · exact h.elim
 | len m =>
  simp only [MOp.q] at h ⊢
  rcases mapN_spec h with ⟨hm, h⟩ | ⟨q, es, hm, hes, h⟩
  · exact ⟨_, _, h, by simp [keys], by simp [hm, mapN]⟩
  · exact ⟨_, _, h, by simp [keys], by simp [hm, mapN, hes]⟩
theorem mapN_local {η η' : Nat → AB} {m : AV} {K : Option Nat → List (AV × AV) → Prop} (h : ∀ k ∈ m.at, η k = η' k) : mapN η m K = mapN η' m K := by
 unfold mapN
 split
 · rfl
 · rw [h _ (by simp [AV.at])]
 · rfl
theorem MOp.q_local {ev : AX → AV} {η η' : Et} {K : AV → Ef → Prop} {o : MOp} (h : ∀ k ∈ o.foot ev, η k = η' k) : o.q ev η K = o.q ev η' K := by
 cases o with
 | mk => rfl
 | get ok kk zero m k => simp only [MOp.q]; exact mapN_local h
 | set kk m k v => simp only [MOp.q]; exact mapN_local h
 | del kk m k => simp only [MOp.q]; exact mapN_local h
 | range m => rfl
 | next m => rfl
 | entry m => rfl
 | delw _ _ _ _ => rfl
 | copyS _ _ => rfl
 | copy e d s =>
  have h : ∀ k ∈ AV.at (ev d) ++ AV.at (ev s), η k = η' k := h
  simp only [MOp.q]
  split
  · rename_i k off n cap e' hd
    rw [h k (by simp [hd, AV.at])]
    split
    · exact srcK_local fun k hk => h k (List.mem_append_right _ hk)
    · rfl
  · rfl
 | len m => simp only [MOp.q]; exact mapN_local h
theorem AOp.q_det {P : Program} {ev : AX → AV} {η : Et} {p : Nat} {K : AV → Ef → Prop} {o : AOp} (h : o.q P ev η p K) : ∃ v b, K v b ∧ (∀ k ∈ keys b, k ∈ o.foot ev ∨ k = p) ∧ o.q P ev η p (fun v' b' => v' = v ∧ b' = b) := by
 cases o with
 | m o => exact MOp.q_det h
 | p o =>
  simp only [AOp.q] at h
  obtain ⟨c, h1, h2⟩ := POp.det h
  refine ⟨c, [], h1, by simp [keys], ?_⟩
  simp only [AOp.q, and_true]
  exact h2
 | v o =>
  simp only [AOp.q] at h
  obtain ⟨c, h1, h2⟩ := VOp.det h
  refine ⟨c, [], h1, by simp [keys], ?_⟩
  simp only [AOp.q, and_true]
  exact h2
 | nq _ _ => exact absurd h id
 | callx _ _ => exact absurd h id
 | callvx _ _ => exact absurd h id
 | calli _ _ _ => exact absurd h id
 | pan _ => exact absurd h id
 | h o => exact HOp.q_det h
 | d o =>
  simp only [AOp.q] at h
  obtain ⟨c, h1, h2⟩ := DOp.det h
  refine ⟨c, [], h1, by simp [keys], ?_⟩
  simp only [AOp.q, and_true]
  exact h2
 | l o =>
  simp only [AOp.q] at h
  obtain ⟨v, cs, kl, h1, h3, h2⟩ := LOp.det h
  refine ⟨v, efL p cs kl, h1, ?_, ?_⟩
  · cases kl with
    | none => simp [efL, keys]
    | some k =>
     have h4 := (h3 k rfl).2
     simp only [efL, keys, List.mem_cons, List.not_mem_nil, or_false]
     rintro j (rfl | rfl)
     · exact .inl h4
     · exact .inr rfl
  · simp only [AOp.q]
    have mono : ∀ {K K' : AV → AB → Option Nat → Prop}, (∀ a b c, K a b c → K' a b c) → LOp.run ev η η p K o → LOp.run ev η η p K' o := fun hk h => LOp.mono hk h
    exact mono (fun a b c ⟨e1, e2, e3⟩ => by subst e1; subst e2; subst e3; exact ⟨rfl, rfl⟩) h2
 | call f args =>
  simp only [AOp.q, fvs_eq, and_true] at h ⊢
  obtain ⟨r, h1, h2⟩ := qcallK_det h
  exact ⟨r, [], h1, (by simp [keys]), by simpa using h2⟩
 | callo f args =>
  simp only [AOp.q, fvs_eq] at h ⊢
  obtain ⟨n, c, e, cs, h1, h2⟩ := h.det
  exact ⟨_, _, h1, (by simp [keys]), h2.mono fun n' c' e' cs' ⟨e1, e2, e3, e4⟩ => by subst e1; subst e2; subst e3; subst e4; exact ⟨rfl, rfl⟩⟩
 | callv x args =>
  simp only [AOp.q, fvs_eq] at h ⊢
  split at h
  · obtain ⟨r, h1, h2⟩ := qcallK_det h
    exact ⟨r, [], h1, (by simp [keys]), by simpa using h2⟩
  · obtain ⟨r, h1, h2⟩ := qcallK_det h
    exact ⟨r, [], h1, (by simp [keys]), by simpa using h2⟩
  · exact h.elim
theorem appN_noit {cur Hr : Nat → AB} {p : Nat} {K : AV → AB → Option Nat → Prop} {e bytes : Nat} {sv xv : AV} (h : appN cur Hr p e bytes sv xv K) : ∃ v ab kl, K v ab kl ∧ ab.isIt = false := by
 unfold appN at h
 split at h
 · simp only [appK] at h
   split at h
   · obtain ⟨ds, n, h1, _⟩ := srcK_det h
     exact ⟨_, _, _, h1.r, rfl⟩
   · exact h.elim
 · obtain ⟨ds, n, h1, _⟩ := srcK_det h
   by_cases hn : n = 0
   · exact ⟨_, _, _, h1.yes (by simpa using hn), rfl⟩
   · exact ⟨_, _, _, (h1.no (by simpa using hn)).r, rfl⟩
 · obtain ⟨ds, n, h1, _⟩ := srcK_det h
   by_cases hn : n = 0
   · exact ⟨_, _, _, h1.yes (by simpa using hn), rfl⟩
   · exact ⟨_, _, _, (h1.no (by simpa using hn)).r, rfl⟩
 · exact h.elim
theorem LOp.noit {ev : AX → AV} {cur Hr : Nat → AB} {p : Nat} {K : AV → AB → Option Nat → Prop} {o : LOp} (h : o.run ev cur Hr p K) : ∃ v ab kl, K v ab kl ∧ ab.isIt = false := by
 cases o with
 | bslice e len zero parts =>
  simp only [LOp.run] at h
  obtain ⟨ds, h1, _⟩ := buildK_det h
  exact ⟨_, _, _, h1, rfl⟩
 | make e bytes zero n =>
  simp only [LOp.run] at h
  split at h
  · exact ⟨_, _, _, h.r, rfl⟩
  · exact h.elim
 | makec e bytes zero n c =>
  simp only [LOp.run] at h
  split at h
  · exact ⟨_, _, _, h.r, rfl⟩
  · exact h.elim
 | s2b x =>
  simp only [LOp.run] at h
  split at h
  · exact ⟨_, _, _, h, rfl⟩
  · exact h.elim
 | append e bytes s x => simp only [LOp.run] at h; exact appN_noit h
 | appendS bytes s x => simp only [LOp.run] at h; exact appN_noit h
 | appendF e bytes s x =>
  simp only [LOp.run] at h
  rcases h with h | h
  · exact appN_noit h
  · obtain ⟨v, l, h1, _⟩ := appF0_det h; exact ⟨v, _, none, h1, rfl⟩
theorem AOp.q_noit {P : Program} {ev : AX → AV} {η : Et} {p : Nat} {o : AOp} {v : AV} {b : Ef} (h : o.q P ev η p (fun v' b' => v' = v ∧ b' = b)) : ∀ x ∈ b, x.2.isIt = false := by
 have nil : [] = b → ∀ x ∈ b, x.2.isIt = false := fun e x hx => by subst e; cases hx
 have one : ∀ {k : Nat} {ab : AB}, [(k, ab)] = b → ab.isIt = false → ∀ x ∈ b, x.2.isIt = false := fun e h2 x hx => by subst e; simp at hx; subst hx; exact h2
 cases o with
 | m o =>
  simp only [AOp.q] at h
  cases o with
  | mk => exact h.elim
  | delw _ _ _ _ => exact h.elim
  | copyS _ _ => exact h.elim
  | copy e d s =>
   simp only [MOp.q] at h
   split at h
   · split at h
     · obtain ⟨ds, m, ⟨he, hbr⟩, h2⟩ := srcK_det h
       rename_i n _ _ _ _ _ _
       by_cases hmn : m ≤ n
       · obtain ⟨e1, e2, e3⟩ := lputK_spec (hbr.yes (by simpa using hmn))
         exact one e3.2 rfl
       · obtain ⟨e1, e2, e3⟩ := lputK_spec (hbr.no (by simpa using hmn))
         exact one e3.2 rfl
     · exact h.elim
   · exact h.elim
  | get ok kk zero m k =>
   simp only [MOp.q] at h
   rcases mapN_spec h with ⟨hm, h⟩ | ⟨q, es, hm, hes, h⟩
   · cases hk : keyOk kk (ev k) <;> simp only [hk, cond_true, cond_false] at h
     obtain ⟨r, hr, hK⟩ := h.ex
     exact nil hK.2
   · cases hk : keyOk kk (ev k) <;> simp only [hk, cond_true, cond_false] at h
     obtain ⟨r, hr, hK⟩ := h.ex
     exact nil hK.2
  | set kk m k v =>
   simp only [MOp.q] at h
   rcases mapN_spec h with ⟨hm, h⟩ | ⟨q, es, hm, hes, h⟩
   · exact h.elim
   · simp only at h
     cases hk : (keyOk kk (ev k)) <;> simp only [hk, cond_true, cond_false] at h
     obtain ⟨r, hr, hK⟩ := h.ex
     exact one hK.2 rfl
  | del kk m k =>
   simp only [MOp.q] at h
   rcases mapN_spec h with ⟨hm, h⟩ | ⟨q, es, hm, hes, h⟩
   · exact h.elim
   · simp only at h
     cases hk : keyOk kk (ev k) <;> simp only [hk, cond_true, cond_false] at h
     obtain ⟨r, hr, hK⟩ := h.ex
     exact one hK.2 rfl
  | len m =>
   simp only [MOp.q] at h
   rcases mapN_spec h with ⟨hm, h⟩ | ⟨q, es, hm, hes, h⟩
   · exact nil h.2
   · exact nil h.2
  | range m => exact h.elim
  | next m => exact h.elim
  | entry m => exact h.elim
 | p o => simp only [AOp.q] at h; obtain ⟨c, h1, _⟩ := POp.det h; exact nil h1.2
 | v o => simp only [AOp.q] at h; obtain ⟨c, h1, _⟩ := VOp.det h; exact nil h1.2
 | nq _ _ => exact absurd h id
 | callx _ _ => exact absurd h id
 | callvx _ _ => exact absurd h id
 | calli _ _ _ => exact absurd h id
 | pan _ => exact absurd h id
 | h o =>
  simp only [AOp.q] at h
  cases o with
  | load agg n x =>
   have ld : ∀ cs, loadK agg n cs (fun v' => v' = v ∧ [] = b) → [] = b := by
    intro cs h
    rcases loadK_spec h with ⟨_, _, hk⟩ | ⟨_, c, r, _, hk⟩
    · exact hk.2
    · exact hk.2
   simp only [HOp.q] at h
   split at h
   · exact nil (ld _ h)
   · split at h
     · exact nil (ld _ h)
     · exact h.elim
   · exact h.elim
  | alloc zero => simp only [HOp.q] at h; exact one h.2 rfl
  | box x =>
   simp only [HOp.q] at h
   split at h
   · exact one h.2 rfl
   · exact h.elim
  | store n q x =>
   simp only [HOp.q] at h
   split at h
   · split at h
     · split at h
       · rename_i vs hvs
         cases hn : Nat.beq vs.length n with
         | false => simp [hn] at h
         | true =>
          simp only [hn, cond_true] at h
          obtain ⟨e1, e2, e3⟩ := lputK_spec h
          exact one e3.2 rfl
       · exact h.elim
     · exact h.elim
   · exact h.elim
 | d o => simp only [AOp.q] at h; obtain ⟨c, h1, _⟩ := DOp.det h; exact nil h1.2
 | l o =>
  simp only [AOp.q] at h
  obtain ⟨v, ab, kl, ⟨_, e⟩, h2⟩ := LOp.noit h
  intro x hx
  subst e
  cases kl with
  | none => simp [efL] at hx; subst hx; exact h2
  | some k => simp [efL] at hx; rcases hx with rfl | rfl <;> first | rfl | exact h2
 | call f args =>
  simp only [AOp.q, fvs_eq] at h
  obtain ⟨r, h4, _⟩ := qcallK_det h
  exact nil h4.2
 | callo f args =>
  simp only [AOp.q, fvs_eq] at h
  obtain ⟨n, c, e, cs, ⟨_, h4⟩, _⟩ := h.det
  intro x hx
  rw [← h4, List.mem_singleton] at hx; subst hx; rfl
 | callv x args =>
  simp only [AOp.q, fvs_eq] at h
  split at h
  · obtain ⟨r, h4, _⟩ := qcallK_det h; exact nil h4.2
  · obtain ⟨r, h4, _⟩ := qcallK_det h; exact nil h4.2
  · exact h.elim
theorem AOp.q_local {P : Program} {ev : AX → AV} {η η' : Et} {p : Nat} {K : AV → Ef → Prop} {o : AOp} (h : ∀ k ∈ o.foot ev, η k = η' k) : o.q P ev η p K = o.q P ev η' p K := by
 cases o with
 | m o => exact MOp.q_local h
 | h o => exact HOp.q_local h
 | d o => simp only [AOp.q]; exact DOp.local h
 | l o => simp only [AOp.q]; exact LOp.local h
 | call f args => simp only [AOp.q, fvs_eq]; exact qcallK_local h
 | callv x args =>
  simp only [AOp.q, fvs_eq]
  split
  · rename_i f caps hx
    refine qcallK_local fun k hk => h k ?_
    simp only [AOp.foot, hx]; exact hk
  · rename_i f bs hx
    refine qcallK_local fun k hk => h k ?_
    simp only [AOp.foot, hx]; exact hk
  · rfl
 | _ => rfl
def Off (a : AV) (want : Bool) : Prop := (∃ c, a = .bool c ∧ c ≠ want) ∨ a = .tuple []
def YA (P : Program) (q : AO) (p : Nat) (σ : Sg) (η : Et) (v : AV) (b : Ef) (F : List Nat) : Prop :=
 ((q.guard = none ∨ ∃ s want, q.guard = some (s, want) ∧ σ s = .bool want) ∧ (q.op.q P (AX.evs σ) η p fun v' b' => v' = v ∧ b' = b) ∧ F = q.op.foot (AX.evs σ)) ∨
 ((∃ s want, q.guard = some (s, want) ∧ Off (σ s) want) ∧ v = .tuple [] ∧ b = [] ∧ F = [])
theorem YA.keys {P : Program} {q : AO} {p : Nat} {σ : Sg} {η : Et} {v : AV} {b : Ef} {F : List Nat} (h : YA P q p σ η v b F) : ∀ k ∈ keys b, k ∈ F ∨ k = p := by
 rcases h with ⟨_, h, rfl⟩ | ⟨_, _, rfl, _⟩
 · obtain ⟨v', b', ⟨rfl, rfl⟩, h2, _⟩ := AOp.q_det h
   exact h2
 · intro k hk; cases hk
theorem YA.local {P : Program} {q : AO} {p : Nat} {σ : Sg} {η η' : Et} {v : AV} {b : Ef} {F : List Nat} (h : YA P q p σ η v b F) (he : ∀ k ∈ F, η k = η' k) : YA P q p σ η' v b F := by
 rcases h with ⟨h1, h2, h3⟩ | h
 · exact .inl ⟨h1, by rw [← AOp.q_local (η := η) (by rw [← h3]; exact he)]; exact h2, h3⟩
 · exact .inr h
def qOp (P : Program) (dep : List (Nat × Nat)) (q : AO) (i p : Nat) (K : List En → Sg → Et → Prop) (L : List En) (σ : Sg) (η : Et) : Prop :=
 ∃ v b F, YA P q p σ η v b F ∧ (∀ e ∈ L, okEn dep e ⟨i, F, keys b⟩ = true) ∧ K (⟨i, F, keys b⟩ :: L) (ups σ q.dst v) (upe η b)
def wpQ (P : Program) (dep : List (Nat × Nat)) (T : Sg → Et → Prop) : List AO → Nat → Nat → List En → Sg → Et → Prop
 | [], _, _, _, σ, η => T σ η
 | q :: r, i, p, L, σ, η => qOp P dep q i p (wpQ P dep T r (i + 1) (p + 1)) L σ η
theorem wpQ_of_walk {P : Program} {dep : List (Nat × Nat)} {K : Fr → Heap → Prop} {nx : Nat} : ∀ (l : List AO) (i p : Nat) (Lw L : List En) (fr : Fr) (H : Heap), H.nx = nx → (∀ e ∈ L, e ∈ Lw ∨ (e.F = [] ∧ e.W = [])) → qwalk P dep K l i p Lw fr H →
 wpQ P dep (fun σ η => ∃ fr H, look fr = σ ∧ H.get = η ∧ H.nx = nx ∧ K fr H) l i p L (look fr) H.get
 | [], _, _, _, _, fr, H, hnx, _, h => ⟨fr, H, rfl, rfl, hnx, h⟩
 | q :: r, i, p, Lw, L, fr, H, hnx, hL, h => by
  have yes : ∀ fr' (_ : look fr' = look fr) (_ : q.guard = none ∨ ∃ s want, q.guard = some (s, want) ∧ look fr s = .bool want), (q.op.q P (AX.ev fr') H.get p fun v b => logK dep i (q.op.foot (AX.ev fr')) (keys b) Lw fun Lw => qwalk P dep K r (i + 1) (p + 1) Lw (put fr' q.dst v) (layH H b)) →
   wpQ P dep (fun σ η => ∃ fr H, look fr = σ ∧ H.get = η ∧ H.nx = nx ∧ K fr H) (q :: r) i p L (look fr) H.get := by
   intro fr' he hg hq
   obtain ⟨v, b, hk, hkeys, hd⟩ := AOp.q_det hq
   have go : ∀ Lw', (∀ e ∈ (⟨i, q.op.foot (AX.ev fr'), keys b⟩ :: L : List En), e ∈ Lw' ∨ (e.F = [] ∧ e.W = [])) → (∀ e ∈ L, okEn dep e ⟨i, q.op.foot (AX.ev fr'), keys b⟩ = true) → qwalk P dep K r (i + 1) (p + 1) Lw' (put fr' q.dst v) (layH H b) →
    wpQ P dep (fun σ η => ∃ fr H, look fr = σ ∧ H.get = η ∧ H.nx = nx ∧ K fr H) (q :: r) i p L (look fr) H.get := by
    intro Lw' h1 h2 h3
    refine ⟨v, b, q.op.foot (AX.ev fr'), .inl ⟨hg, by rw [← he, evs_look]; exact hd, by rw [← he, evs_look]⟩, h2, ?_⟩
    have := wpQ_of_walk r (i + 1) (p + 1) Lw' _ _ (layH H b) ((layH_nx H b).trans hnx) h1 h3
    rw [look_put, get_lay, he] at this
    exact this
   rcases logK_spec hk with ⟨h1, h2, h3⟩ | ⟨h1, h3⟩
   · refine go Lw (fun e he => ?_) (fun e _ => okEn_symm (okEn_idle ⟨h1, h2⟩)) h3
     rcases List.mem_cons.1 he with rfl | he
     · exact .inr ⟨h1, h2⟩
     · exact hL e he
   · refine go _ (fun e he => ?_) (fun e he => ?_) h3
     · rcases List.mem_cons.1 he with rfl | he
       · exact .inl List.mem_cons_self
       · exact (hL e he).imp (List.mem_cons_of_mem _) id
     · rcases hL e he with he | he
       · exact h1 e he
       · exact okEn_idle he
  have no : ∀ fr' (_ : look fr' = look fr), (∃ s want, q.guard = some (s, want) ∧ Off (look fr s) want) → qwalk P dep K r (i + 1) (p + 1) Lw (put fr' q.dst (.tuple [])) H →
   wpQ P dep (fun σ η => ∃ fr H, look fr = σ ∧ H.get = η ∧ H.nx = nx ∧ K fr H) (q :: r) i p L (look fr) H.get := by
   intro fr' he hg hq
   refine ⟨.tuple [], [], [], .inr ⟨hg, rfl, rfl, rfl⟩, fun e _ => okEn_symm (okEn_idle ⟨rfl, rfl⟩), ?_⟩
   have := wpQ_of_walk r (i + 1) (p + 1) Lw (⟨i, [], []⟩ :: L) _ H hnx (fun e he => by
    rcases List.mem_cons.1 he with rfl | he
    · exact .inr ⟨rfl, rfl⟩
    · exact hL e he) hq
   rw [look_put, he] at this
   exact this
  rw [qwalk_cons] at h
  simp only [qstep, layK_eq, putK_eq] at h
  split at h
  · exact yes fr rfl (.inl ‹_›) h
  · rename_i s want hg
    split at h
    · rename_i b hb
      cases want with
      | true =>
       simp only at h
       cases b with
       | true => exact yes _ (look_know hb rfl) (.inr ⟨s, true, hg, hb⟩) (h.yes rfl)
       | false => exact no _ (look_know hb rfl) ⟨s, true, hg, .inl ⟨false, hb, by simp⟩⟩ (h.no rfl)
      | false =>
       simp only at h
       cases b with
       | true => exact no _ (look_know hb rfl) ⟨s, false, hg, .inl ⟨true, hb, by simp⟩⟩ (h.yes rfl)
       | false => exact yes _ (look_know hb rfl) (.inr ⟨s, false, hg, hb⟩) (h.no rfl)
    · rename_i hs
      exact no fr rfl ⟨s, want, hg, .inr hs⟩ h
    · exact h.elim

def POp.xs : POp → List AX
 | .mov x | .un _ x | .conv _ x | .convw _ x | .fieldA _ x | .len _ x | .extract _ x | .nilchk x => [x]
 | .pick c a b => [c, a, b]
 | .bin _ x y | .beq _ x y | .binw _ x y | .idxA _ _ x y | .mm _ x y => [x, y]
 | .mkfn _ caps => caps
 | .mkme _ bs => bs
 | .other => []
 | .panic => []
def HOp.xs : HOp → List AX
 | .load _ _ x | .box x => [x]
 | .alloc _ => []
 | .store _ p x => [p, x]
def MOp.xs : MOp → List AX
 | .mk => []
 | .get _ _ _ m k => [m, k]
 | .set _ m k v => [m, k, v]
 | .del _ m k => [m, k]
 | .len m => [m]
 | .range m => [m]
 | .next m => [m]
 | .entry m => [m]
 | .delw _ m k it => [m, k, it]
 | .copy _ d s => [d, s]
 | .copyS d s => [d, s]
def AOp.xs : AOp → List AX
 | .m o => o.xs
 | .p o => o.xs
 | .v o => o.xs
 | .h o => o.xs
 | .d o => o.xs
 | .l o => o.xs
 | .call _ args => args
 | .callo _ args => args
 | .callv x args => x :: args
 | .nq _ x => [x]
 | .callx _ args => args
 | .callvx x args => x :: args
 | .calli _ x args => x :: args
 | .pan x => [x]
def AX.is (d : Nat) : AX → Bool
 | .t n => n == d
 | .c _ => false
 | .g _ => false
def AO.reads (q : AO) (d : Nat) : Bool := q.op.xs.any (AX.is d) || (match q.guard with | some (s, _) => s == d | none => false)
theorem POp.run_congr {ev ev' : AX → AV} {K : AV → Prop} {o : POp} (h : ∀ x ∈ o.xs, ev x = ev' x) : o.run ev K = o.run ev' K := by
 cases o with
 | mkfn f caps =>
  have h : ∀ x ∈ caps, ev x = ev' x := h
  simp only [POp.run]; rw [List.map_congr_left (f := ev) (g := ev') h]
 | mkme f bs =>
  have h : ∀ x ∈ bs, ev x = ev' x := h
  simp only [POp.run]; rw [List.map_congr_left (f := ev) (g := ev') h]
 | pick c a b => simp only [POp.xs, List.mem_cons, List.not_mem_nil, or_false] at h; simp only [POp.run, h c (.inl rfl), h a (.inr (.inl rfl)), h b (.inr (.inr rfl))]
 | bin op x y => simp only [POp.xs, List.mem_cons, List.not_mem_nil, or_false] at h; simp only [POp.run, h x (.inl rfl), h y (.inr rfl)]
 | beq neg x y => simp only [POp.xs, List.mem_cons, List.not_mem_nil, or_false] at h; simp only [POp.run, h x (.inl rfl), h y (.inr rfl)]
 | binw op x y => simp only [POp.xs, List.mem_cons, List.not_mem_nil, or_false] at h; simp only [POp.run, h x (.inl rfl), h y (.inr rfl)]
 | idxA e arr x y => simp only [POp.xs, List.mem_cons, List.not_mem_nil, or_false] at h; simp only [POp.run, h x (.inl rfl), h y (.inr rfl)]
 | mm mx x y => simp only [POp.xs, List.mem_cons, List.not_mem_nil, or_false] at h; simp only [POp.run, h x (.inl rfl), h y (.inr rfl)]
 | other => rfl
 | panic => rfl
 | mov x => simp only [POp.xs, List.mem_singleton, forall_eq] at h; simp only [POp.run, h]
 | un op x => simp only [POp.xs, List.mem_singleton, forall_eq] at h; simp only [POp.run, h]
 | conv k x => simp only [POp.xs, List.mem_singleton, forall_eq] at h; simp only [POp.run, h]
 | convw k x => simp only [POp.xs, List.mem_singleton, forall_eq] at h; simp only [POp.run, h]
 | fieldA off x => simp only [POp.xs, List.mem_singleton, forall_eq] at h; simp only [POp.run, h]
 | len str x => simp only [POp.xs, List.mem_singleton, forall_eq] at h; simp only [POp.run, h]
 | extract i x => simp only [POp.xs, List.mem_singleton, forall_eq] at h; simp only [POp.run, h]
 | nilchk x => simp only [POp.xs, List.mem_singleton, forall_eq] at h; simp only [POp.run, h]
theorem HOp.q_congr {ev ev' : AX → AV} {η : Et} {p : Nat} {K : AV → Ef → Prop} {o : HOp} (h : ∀ x ∈ o.xs, ev x = ev' x) : o.q ev η p K = o.q ev' η p K ∧ o.foot ev = o.foot ev' := by
 cases o with
 | load agg n x => simp only [HOp.xs, List.mem_singleton, forall_eq] at h; simp only [HOp.q, HOp.foot, h, and_self]
 | alloc zero => exact ⟨rfl, rfl⟩
 | box x => simp only [HOp.xs, List.mem_singleton, forall_eq] at h; simp only [HOp.q, HOp.foot, h, and_self]
 | store n q x => simp only [HOp.xs, List.mem_cons, List.not_mem_nil, or_false] at h; simp only [HOp.q, HOp.foot, h q (.inl rfl), h x (.inr rfl), and_self]
theorem MOp.q_congr {ev ev' : AX → AV} {η : Et} {K : AV → Ef → Prop} {o : MOp} (h : ∀ x ∈ o.xs, ev x = ev' x) : o.q ev η K = o.q ev' η K ∧ o.foot ev = o.foot ev' := by
 cases o with
 | mk => exact ⟨rfl, rfl⟩
 | get ok kk zero m k => simp only [MOp.xs, List.mem_cons, List.not_mem_nil, or_false] at h; simp only [MOp.q, MOp.foot, h m (.inl rfl), h k (.inr rfl), and_self]
 | set kk m k v => simp only [MOp.xs, List.mem_cons, List.not_mem_nil, or_false] at h; simp only [MOp.q, MOp.foot, h m (.inl rfl), h k (.inr (.inl rfl)), h v (.inr (.inr rfl)), and_self]
 | del kk m k => simp only [MOp.xs, List.mem_cons, List.not_mem_nil, or_false] at h; simp only [MOp.q, MOp.foot, h m (.inl rfl), h k (.inr rfl), and_self]
 | len m => simp only [MOp.xs, List.mem_singleton, forall_eq] at h; simp only [MOp.q, MOp.foot, h, and_self]
 | range m => simp only [MOp.xs, List.mem_singleton, forall_eq] at h; simp only [MOp.q, MOp.foot, h, and_self]
 | next m => simp only [MOp.xs, List.mem_singleton, forall_eq] at h; simp only [MOp.q, MOp.foot, h, and_self]
 | entry m => simp only [MOp.xs, List.mem_singleton, forall_eq] at h; simp only [MOp.q, MOp.foot, h, and_self]
 | delw kk m k it => simp only [MOp.xs, List.mem_cons, List.not_mem_nil, or_false] at h; simp only [MOp.q, MOp.foot, h m (.inl rfl), h it (.inr (.inr rfl)), and_self]
 | copyS d s => simp only [MOp.xs, List.mem_cons, List.not_mem_nil, or_false] at h; simp only [MOp.q, MOp.foot, h d (.inl rfl), and_self]
 | copy e d s => simp only [MOp.xs, List.mem_cons, List.not_mem_nil, or_false] at h; simp only [MOp.q, MOp.foot, h d (.inl rfl), h s (.inr rfl), and_self]
theorem AOp.q_congr {P : Program} {ev ev' : AX → AV} {η : Et} {p : Nat} {K : AV → Ef → Prop} {o : AOp} (h : ∀ x ∈ o.xs, ev x = ev' x) : o.q P ev η p K = o.q P ev' η p K ∧ o.foot ev = o.foot ev' := by
 cases o with
 | m o => exact MOp.q_congr h
 | p o => simp only [AOp.q]; exact ⟨POp.run_congr h, rfl⟩
 | v o => simp only [AOp.q]; exact ⟨VOp.run_congr h, rfl⟩
 | nq _ _ => exact ⟨rfl, rfl⟩
 | callx _ _ => exact ⟨rfl, rfl⟩
 | callvx _ _ => exact ⟨rfl, rfl⟩
 | calli _ _ _ => exact ⟨rfl, rfl⟩
 | pan _ => exact ⟨rfl, rfl⟩
 | h o => exact HOp.q_congr h
 | d o =>
  simp only [AOp.q]
  refine ⟨DOp.run_congr h, ?_⟩
  cases o with
  | asub e n x lo hi => simp only [AOp.foot, DOp.foot]; rw [h x (by simp [AOp.xs, DOp.xs])]
  | sl2s x => simp only [AOp.foot, DOp.foot]; rw [h x (by simp [AOp.xs, DOp.xs])]
  | _ => rfl
 | l o =>
  simp only [AOp.q]
  refine ⟨LOp.run_congr h, ?_⟩
  cases o with
  | append e bytes s x => simp only [AOp.foot, LOp.foot]; rw [h s (by simp [AOp.xs, LOp.xs]), h x (by simp [AOp.xs, LOp.xs])]
  | appendS bytes s x => simp only [AOp.foot, LOp.foot]; rw [h s (by simp [AOp.xs, LOp.xs])]
  | appendF e bytes s x => simp only [AOp.foot, LOp.foot]; rw [h s (by simp [AOp.xs, LOp.xs]), h x (by simp [AOp.xs, LOp.xs])]
  | _ => rfl
 | call f args =>
  have h : ∀ x ∈ args, ev x = ev' x := h
  simp only [AOp.q, AOp.foot]; rw [List.map_congr_left (f := ev) (g := ev') h]; exact ⟨rfl, rfl⟩
 | callo f args =>
  have h : ∀ x ∈ args, ev x = ev' x := h
  simp only [AOp.q, AOp.foot]; rw [List.map_congr_left (f := ev) (g := ev') h]; exact ⟨rfl, trivial⟩
 | callv x args =>
  simp only [AOp.q, AOp.foot]
  rw [List.map_congr_left (f := ev) (g := ev') (fun y hy => h y (by simp only [AOp.xs]; exact List.mem_cons_of_mem _ hy)), h x (by simp [AOp.xs])]
  exact ⟨rfl, rfl⟩
theorem YA_put {P : Program} {q : AO} {p d : Nat} {σ : Sg} {η : Et} {u v : AV} {b : Ef} {F : List Nat} (h : q.reads d = false) : YA P q p (ups σ (some d) u) η v b F = YA P q p σ η v b F := by
 simp only [AO.reads, Bool.or_eq_false_iff] at h
 obtain ⟨h1, h2⟩ := h
 have e1 : ∀ x ∈ q.op.xs, AX.evs (ups σ (some d) u) x = AX.evs σ x := fun x hx => by
  have := List.any_eq_false.1 h1 x hx
  cases x with
  | c v => rfl
  | g n => rfl
  | t n =>
   simp [AX.is] at this
   simp only [AX.evs, ups]; rw [if_neg (fun e => this e.symm)]
 have e2 : ∀ s want, q.guard = some (s, want) → ups σ (some d) u s = σ s := fun s want hg => by
  rw [hg] at h2; simp at h2
  simp only [ups]; rw [if_neg (fun e => h2 e.symm)]
 unfold YA
 rw [(AOp.q_congr e1).1, (AOp.q_congr (P := P) (η := η) (p := p) (K := fun _ _ => True) e1).2]
 apply propext
 constructor
 · rintro (⟨hg, hq⟩ | ⟨⟨s, want, h3, h4⟩, h6⟩)
   · refine .inl ⟨?_, hq⟩
     rcases hg with hg | ⟨s, want, h3, h4⟩
     · exact .inl hg
     · exact .inr ⟨s, want, h3, by rw [← e2 s want h3]; exact h4⟩
   · exact .inr ⟨⟨s, want, h3, by rw [← e2 s want h3]; exact h4⟩, h6⟩
 · rintro (⟨hg, hq⟩ | ⟨⟨s, want, h3, h4⟩, h6⟩)
   · refine .inl ⟨?_, hq⟩
     rcases hg with hg | ⟨s, want, h3, h4⟩
     · exact .inl hg
     · exact .inr ⟨s, want, h3, by rw [e2 s want h3]; exact h4⟩
   · exact .inr ⟨⟨s, want, h3, by rw [e2 s want h3]; exact h4⟩, h6⟩
def apartA (q r : AO) : Bool := (match q.dst with | some d => !r.reads d && !(r.dst == some d) | none => true) && (match r.dst with | some d => !q.reads d | none => true)
theorem apartA_left {P : Program} {q r : AO} (h : apartA q r = true) {p : Nat} {σ : Sg} {η : Et} {u v : AV} {b : Ef} {F : List Nat} : YA P r p (ups σ q.dst u) η v b F = YA P r p σ η v b F := by
 simp only [apartA, Bool.and_eq_true] at h
 cases hd : q.dst with
 | none => rfl
 | some d => rw [hd] at h; simp at h; exact YA_put h.1.1
theorem apartA_right {P : Program} {q r : AO} (h : apartA q r = true) {p : Nat} {σ : Sg} {η : Et} {u v : AV} {b : Ef} {F : List Nat} : YA P q p (ups σ r.dst u) η v b F = YA P q p σ η v b F := by
 simp only [apartA, Bool.and_eq_true] at h
 cases hd : r.dst with
 | none => rfl
 | some d => rw [hd] at h; simp at h; exact YA_put h.2
theorem apartA_comm {q r : AO} (h : apartA q r = true) (σ : Sg) (u v : AV) : ups (ups σ q.dst u) r.dst v = ups (ups σ r.dst v) q.dst u := by
 simp only [apartA, Bool.and_eq_true] at h
 cases hd : q.dst with
 | none => rfl
 | some d =>
  cases he : r.dst with
  | none => rfl
  | some e =>
   rw [hd, he] at h; simp at h
   funext t
   simp only [ups]
   by_cases h1 : e = t
   · by_cases h2 : d = t
     · exact absurd (h1.trans h2.symm) h.1.2
     · simp [h1, h2]
   · by_cases h2 : d = t <;> simp [h1, h2]

section
variable {P : Program} {dep : List (Nat × Nat)} {md : Region.Mode} {ops : Array Oper} {nx : Nat} {qs : List AO} {m : Nat}
def Early (md : Region.Mode) (ops : Array Oper) (m : Nat) : Prop := ∀ listed, HeadInv md ops m listed → ∀ i, i < m → listed.getD i true = false → ∀ t, m ≤ t → t ∉ Region.ready md ops listed
def Deps (md : Region.Mode) (ops : Array Oper) (m : Nat) (dep : List (Nat × Nat)) : Prop := ∀ i j, (i, j) ∈ dep → ∀ listed, HeadInv md ops m listed → j ∈ Region.ready md ops listed → listed.getD i false = true
def qAny (P : Program) (dep : List (Nat × Nat)) (md : Region.Mode) (ops : Array Oper) (nx : Nat) (qs : List AO) (m : Nat) (T : Array Bool → Sg → Et → Prop) : Nat → Array Bool → List En → Sg → Et → Prop
 | 0, listed, _, σ, η => T listed σ η
 | f + 1, listed, L, σ, η => Region.ready md ops listed ≠ [] ∧ ∀ i ∈ Region.ready md ops listed, i < m ∧ ∃ q, qs[i]? = some q ∧ qOp P dep q i (nx + i) (qAny P dep md ops nx qs m T f (listed.setIfInBounds i true)) L σ η
theorem qAny_less {T : Array Bool → Sg → Et → Prop} : ∀ (f : Nat) (listed : Array Bool) (L L' : List En) (σ : Sg) (η : Et), (∀ e, e ∈ L → e ∈ L') → qAny P dep md ops nx qs m T f listed L' σ η → qAny P dep md ops nx qs m T f listed L σ η
 | 0, _, _, _, _, _, _, h => h
 | f + 1, listed, L, L', σ, η, hs, h => by
  refine ⟨h.1, fun i hi => ?_⟩
  obtain ⟨h1, q, h2, v, b, F, h3, h4, h5⟩ := h.2 i hi
  refine ⟨h1, q, h2, v, b, F, h3, fun e he => h4 e (hs e he), qAny_less f _ _ _ _ _ (fun e he => ?_) h5⟩
  rcases List.mem_cons.1 he with rfl | he
  · exact List.mem_cons_self
  · exact List.mem_cons_of_mem _ (hs e he)
theorem unordered (hD : Deps md ops m dep) {i j : Nat} {listed : Array Bool} (inv : HeadInv md ops m listed) (hi : listed.getD i true = false) (hj : j ∈ Region.ready md ops listed) : memP i j dep = false := by
 cases h : memP i j dep with
 | false => rfl
 | true =>
  have := hD i j (memP_spec h) listed inv hj
  rw [getD_both hi] at this
  cases this
theorem qAny_first {i : Nat} {q : AO} {v : AV} {b : Ef} {F : List Nat} {T : Array Bool → Sg → Et → Prop} (hD : Deps md ops m dep) (hq : qs[i]? = some q) (hE : Early md ops m) (hin : i < m)
 (hdone : ∀ listed σ η, T listed σ η → ∀ j ∈ Region.ready md ops listed, m ≤ j) :
 ∀ (f : Nat) (listed : Array Bool) (L : List En) (σ : Sg) (η : Et), HeadInv md ops m listed →
  (∀ j r, qs[j]? = some r → j < m → j ≠ i → listed.getD j true = false → (∀ oj, ops[j]? = some oj → ∀ e ∈ oj.after, Region.binds md e = true → e.on ≠ i) → apartA q r = true) →
  i ∈ Region.ready md ops listed → YA P q (nx + i) σ η v b F → (∀ e ∈ L, okEn dep e ⟨i, F, keys b⟩ = true) →
  qAny P dep md ops nx qs m T f (listed.setIfInBounds i true) (⟨i, F, keys b⟩ :: L) (ups σ q.dst v) (upe η b) → qAny P dep md ops nx qs m T (f + 1) listed L σ η := by
 intro f
 induction f with
 | zero =>
  intro listed L σ η inv _ hr hy hck H
  have hun := (mem_ready.1 hr).1
  refine ⟨fun h => (by rw [h] at hr; cases hr), fun j hj => ?_⟩
  have hjm : j < m := by
   rcases Nat.lt_or_ge j m with h | h
   · exact h
   · exact absurd hj (hE listed inv i hin hun j h)
  refine ⟨hjm, ?_⟩
  by_cases hji : j = i
  · subst hji; exact ⟨q, hq, v, b, F, hy, hck, H⟩
  · have := hdone _ _ _ H j (ready_mono hj hji); omega
 | succ f ih =>
  intro listed L σ η inv hfree hr hy hck H
  have hun := (mem_ready.1 hr).1
  refine ⟨fun h => (by rw [h] at hr; cases hr), fun j hj => ?_⟩
  have hjm : j < m := by
   rcases Nat.lt_or_ge j m with h | h
   · exact h
   · exact absurd hj (hE listed inv i hin hun j h)
  refine ⟨hjm, ?_⟩
  by_cases hji : j = i
  · subst hji; exact ⟨q, hq, v, b, F, hy, hck, H⟩
  · obtain ⟨_, r, hrq, v', b', F', hy', hck', hK⟩ := H.2 j (ready_mono hj hji)
    obtain ⟨hjun, oj, hoj, hall⟩ := mem_ready.1 hj
    have hap : apartA q r = true := hfree j r hrq hjm hji hjun fun oj' hoj' e he hb heq => by
     rw [hoj] at hoj'; cases hoj'
     have h1 := hall e he hb
     rw [heq, getD_both hun] at h1
     cases h1
    have hij := hck' _ List.mem_cons_self
    have hd : disj (keys b) F' = true ∧ disj (keys b') F = true := by
     have := hij
     simp only [okEn, unordered hD inv hun hj, unordered hD inv hjun hr, Bool.or_false, Bool.and_eq_true] at this
     exact this
    have hy1 : YA P r (nx + j) σ η v' b' F' := by
     rw [apartA_left hap] at hy'
     exact hy'.local fun k hk => upe_off fun hk' => disj_spec hd.1 k hk' hk
    have hy2 : YA P q (nx + i) (ups σ r.dst v') (upe η b') v b F := by
     rw [apartA_right hap]
     exact hy.local fun k hk => (upe_off fun hk' => disj_spec hd.2 k hk' hk).symm
    have hW : ∀ k, k ∈ keys b → k ∈ keys b' → False := fun k h1 h2 => by
     rcases hy.keys k h1 with h3 | h3
     · exact disj_spec hd.2 k h2 h3
     · rcases hy1.keys k h2 with h4 | h4
       · exact disj_spec hd.1 k h1 h4
       · omega
    refine ⟨r, hrq, v', b', F', hy1, fun e he => hck' e (List.mem_cons_of_mem _ he), ?_⟩
    refine ih (listed.setIfInBounds j true) _ _ _ (inv.set hj hjm) (fun k rk hk hkm hki hkun hno => hfree k rk hk hkm hki ?_ hno) (ready_mono hr (Ne.symm hji)) hy2 ?_ ?_
    · by_cases hjk : j = k
      · subst hjk; exact hjun
      · rw [getD_set_ne true hjk] at hkun; exact hkun
    · intro e he
      rcases List.mem_cons.1 he with rfl | he
      · exact okEn_symm hij
      · exact hck e he
    · rw [Array.setIfInBounds_comm _ _ hji, ← apartA_comm hap, ← upe_swap hW]
      refine qAny_less f _ _ _ _ _ (fun e he => ?_) hK
      simp only [List.mem_cons] at he ⊢
      rcases he with h | h | h
      · exact .inr (.inl h)
      · exact .inl h
      · exact .inr (.inr h)
def freeQ (md : Region.Mode) (ops : Array Oper) (qs : List AO) (m : Nat) (listed : Array Bool) (i : Nat) : Bool := match qs[i]? with
 | none => false
 | some q => (List.range m).all fun j => j == i || listed.getD j true || (match ops[j]? with
  | some oj => oj.after.any fun e => Region.binds md e && e.on == i
  | none => false) || (match qs[j]? with
  | some r => apartA q r
  | none => true)
theorem freeQ_spec {listed : Array Bool} {i : Nat} {q : AO} (hq : qs[i]? = some q) (h : freeQ md ops qs m listed i = true) (j : Nat) (r : AO) (hr : qs[j]? = some r) (hj : j < m) (hne : j ≠ i) (hun : listed.getD j true = false)
 (hno : ∀ oj, ops[j]? = some oj → ∀ e ∈ oj.after, Region.binds md e = true → e.on ≠ i) : apartA q r = true := by
 simp only [freeQ, hq, List.all_eq_true, List.mem_range] at h
 have h1 := h j hj
 simp only [hr, Bool.or_eq_true, beq_iff_eq, hne, false_or, hun, Bool.false_eq_true] at h1
 rcases h1 with h1 | h1
 · cases hoj : ops[j]? with
   | none => simp [hoj] at h1
   | some oj =>
    simp only [hoj] at h1
    obtain ⟨e, he, hb⟩ := Array.any_eq_true'.1 h1
    simp only [Bool.and_eq_true, beq_iff_eq] at hb
    exact absurd hb.2 (hno oj hoj e he hb.1)
 · exact h1
def lexQ (md : Region.Mode) (ops : Array Oper) (qs : List AO) (m g : Nat) : Nat → Nat → Array Bool → Bool
 | 0, k, listed => Region.seqB md ops g k listed
 | f + 1, k, listed => (Region.ready md ops listed).contains k && freeQ md ops qs m listed k && lexQ md ops qs m g f (k + 1) (listed.setIfInBounds k true)
def reachB (md : Region.Mode) (ops : Array Oper) (i : Nat) : Nat → Nat → Bool
 | 0, _ => false
 | f + 1, j => match ops[j]? with
  | some o => o.after.any fun e => Region.binds md e && (e.on == i || reachB md ops i f e.on)
  | none => false
def depsB (md : Region.Mode) (ops : Array Oper) : List (Nat × Nat) → Bool
 | [] => true
 | (i, j) :: r => reachB md ops i 8 j && depsB md ops r
theorem reachB_listed {i : Nat} {listed : Array Bool} (inv : HeadInv md ops m listed) : ∀ {f j : Nat}, reachB md ops i f j = true → listed.getD j false = true → listed.getD i false = true
 | 0, _, h, _ => by simp [reachB] at h
 | f + 1, j, h, hj => by
  simp only [reachB] at h
  cases ho : ops[j]? with
  | none => simp [ho] at h
  | some o =>
   simp only [ho] at h
   obtain ⟨e, he, hb⟩ := Array.any_eq_true'.1 h
   simp only [Bool.and_eq_true, Bool.or_eq_true, beq_iff_eq] at hb
   have hl := inv.closed j o ho hj e he hb.1
   rcases hb.2 with rfl | hb
   · exact hl
   · exact reachB_listed inv hb hl
theorem depsB_spec : ∀ {dep : List (Nat × Nat)}, depsB md ops dep = true → Deps md ops m dep
 | [], _, i, j, h => by cases h
 | (a, b) :: r, h, i, j, hm => by
  simp only [depsB, Bool.and_eq_true] at h
  rcases List.mem_cons.1 hm with hm | hm
  · simp only [Prod.mk.injEq] at hm
    obtain ⟨rfl, rfl⟩ := hm
    intro listed inv hj
    obtain ⟨_, o, ho, hall⟩ := mem_ready.1 hj
    have h1 : (o.after.any fun e => Region.binds md e && (e.on == i || reachB md ops i 7 e.on)) = true := by
     have := h.1
     rw [reachB, ho] at this
     exact this
    obtain ⟨e, he, hb⟩ := Array.any_eq_true'.1 h1
    simp only [Bool.and_eq_true, Bool.or_eq_true, beq_iff_eq] at hb
    have hl := hall e he hb.1
    rcases hb.2 with rfl | hb
    · exact hl
    · exact reachB_listed inv hb hl
  · exact depsB_spec h.2 i j hm
def drawOk (md : Region.Mode) (ops : Array Oper) (dep : List (Nat × Nat)) (qs : List AO) (m : Nat) : Bool :=
 (decide (m = ops.size) || (decide (m < ops.size) && Region.sinkB md ops m && Region.chainB md ops m)) && depsB md ops dep && lexQ md ops qs m (ops.size - m) m 0 (Array.replicate ops.size false)
theorem early_of (h : (decide (m = ops.size) || (decide (m < ops.size) && Region.sinkB md ops m && Region.chainB md ops m)) = true) : Early md ops m := by
 simp only [Bool.or_eq_true, decide_eq_true_eq, Bool.and_eq_true] at h
 intro listed inv i hi hun t ht hr
 rcases h with h | ⟨⟨h1, h2⟩, h3⟩
 · obtain ⟨_, o, ho, _⟩ := mem_ready.1 hr
   have := (Array.getElem?_eq_some_iff.1 ho).1
   omega
 · exact tail_waits h2 h3 h1 inv _ i rfl hi hun t ht hr
theorem qAny_lex {T : Sg → Et → Prop} {g : Nat} (hD : Deps md ops m dep) (hE : Early md ops m) (hm : m ≤ qs.length) : ∀ (l : List AO) (k : Nat) (listed : Array Bool) (L : List En) (σ : Sg) (η : Et), (∀ j, j < l.length → l[j]? = qs[k + j]?) → k + l.length = m → HeadInv md ops m listed →
 lexQ md ops qs m g l.length k listed = true → wpQ P dep T l k (nx + k) L σ η →
 qAny P dep md ops nx qs m (fun listed' σ η => Region.seqB md ops g m listed' = true ∧ T σ η) l.length listed L σ η
 | [], k, listed, L, σ, η, _, hk, _, hB, h => by
  have : k = m := by simpa using hk
  subst this
  exact ⟨by simpa [lexQ] using hB, h⟩
 | q :: l, k, listed, L, σ, η, hl, hk, inv, hB, h => by
  have h0 : qs[k]? = some q := by simpa using (hl 0 (by simp)).symm
  simp only [List.length_cons, lexQ, Bool.and_eq_true] at hB
  obtain ⟨⟨hr, hf⟩, hB'⟩ := hB
  have hkm : k < m := by simp only [List.length_cons] at hk; omega
  have hr' : k ∈ Region.ready md ops listed := by simpa using hr
  obtain ⟨v, b, F, hy, hck, hK⟩ := h
  exact qAny_first hD h0 hE hkm (fun listed' _ _ hL => seqB_ready hL.1) l.length listed L σ η inv (freeQ_spec h0 hf) hr' hy hck
   (qAny_lex hD hE hm l (k + 1) _ _ _ _ (fun j hj => by have := hl (j + 1) (by simp; omega); simpa [Nat.add_assoc, Nat.add_comm 1 j] using this) (by simp only [List.length_cons] at hk; omega) (inv.set hr' hkm) hB' (by rw [← Nat.add_assoc]; exact hK))
end
end Go.Eng

namespace Go.Eng
open Go
variable [Globs]
theorem Own.ext {μ : Pos} {H H' : Heap} (h : H.get = H'.get) {b : Nat} (ho : Own μ H b) : Own μ H' b := by
 obtain ⟨k, s, h1, h2⟩ := ho; exact ⟨k, s, by rw [← h]; exact h1, h2⟩
theorem Rel.ext {M : Mem} {μ : Pos} {H H' : Heap} {w : World} (R : Rel M μ H w) (h : H.get = H'.get) (hn : H.nx = H'.nx) : Rel M μ H' w :=
 ⟨R.glob, fun k hk => R.dom k (by omega), fun k hk => by rw [← h]; exact R.top k (by omega), fun k cs hk => R.cells k cs (by rw [h]; exact hk), fun k es hk => R.maps k es (by rw [h]; exact hk), fun j k l c hj => by rw [← h]; exact R.iters j k l c (by rw [h]; exact hj), fun j st id fr hj => R.loops j st id fr (by rw [h]; exact hj),
  fun i j b s t hi hj => R.inj i j b s t (by rw [h]; exact hi) (by rw [h]; exact hj), R.imm, fun k b s hk => R.apart k b s (by rw [h]; exact hk)⟩
theorem Marks.ext [Pend] {w0 w : World} {ds : List Deferred} {μ : Pos} {H H' : Heap} (m : Marks w0 ds μ H w) (h : H.get = H'.get) : Marks w0 ds μ H' w := by
 obtain ⟨⟨rs, h1, h2, h3⟩, h4⟩ := m
 exact ⟨⟨rs, h1, h2, fun r hr => ⟨(h3 r hr).1, (h3 r hr).2.1, fun ho => (h3 r hr).2.2 (ho.ext h.symm)⟩⟩, h4⟩
theorem RelF.ext {N : Nat} {M : Mem} {μ : Pos} {fr fr' : Fr} {tmps : Array Value} (F : RelF N M μ fr tmps) (h : look fr = look fr') : RelF N M μ fr' tmps := ⟨F.glob, F.size, fun t => by rw [← h]; exact F.slot t⟩
theorem Grow.ext {n : Nat} {M M' : Mem} {μ μ' : Pos} {H H' H'' : Heap} {w w' : World} (G : Grow n M μ H w M' μ' H' w') (h : H'.get = H''.get) : Grow n M μ H w M' μ' H'' w' :=
 ⟨G.mem, G.pin, G.keep, fun b hb => G.own b (hb.ext h.symm), G.fresh⟩
def AO.isSet (q : AO) : Bool := match q.op with
 | .m (.set ..) => true
 | .m (.del ..) => true
 | _ => false
def noIts (η : Nat → AB) (n : Nat) : Bool := Nat.rec true (fun i ih => match η i with
 | .iter _ _ _ => false
 | _ => ih) n
theorem noIts_succ (η : Nat → AB) (n : Nat) : noIts η (n + 1) = match η n with
 | .iter _ _ _ => false
 | _ => noIts η n := rfl
theorem noIts_spec {η : Nat → AB} : ∀ {n : Nat}, noIts η n = true → ∀ j, j < n → (η j).isIt = false
 | 0, _, j, hj => by omega
 | n + 1, h, j, hj => by
  rw [noIts_succ] at h
  split at h
  · cases h
  · rename_i hne
    rcases Nat.lt_or_eq_of_le (Nat.le_of_lt_succ hj) with h1 | h1
    · exact noIts_spec h j h1
    · subst h1
      cases he : η j with
      | iter k l c => exact absurd he (hne k l c)
      | _ => rfl
theorem noIts_of {η : Nat → AB} (h : ∀ j, (η j).isIt = false) : ∀ n, noIts η n = true
 | 0 => rfl
 | n + 1 => by
  rw [noIts_succ]
  split
  · rename_i he; have := h n; rw [he] at this; cases this
  · exact noIts_of h n
def setFree (qs : List AO) (η : Nat → AB) (n : Nat) : Bool := !(qs.any AO.isSet) || noIts η n
theorem upe_noit {η : Et} {b : Ef} (hb : ∀ x ∈ b, x.2.isIt = false) (h : ∀ j, (η j).isIt = false) : ∀ j, (upe η b j).isIt = false := by
 induction b generalizing η with
 | nil => exact h
 | cons x r ih =>
  obtain ⟨k, ab⟩ := x
  refine ih (fun y hy => hb y (List.mem_cons_of_mem _ hy)) fun j => ?_
  have := hb (k, ab) (by simp)
  simp only at this ⊢
  split
  · exact this
  · exact h j
theorem YA.noit {P : Program} {q : AO} {p : Nat} {σ : Sg} {η : Et} {v : AV} {b : Ef} {F : List Nat} (h : YA P q p σ η v b F) : ∀ x ∈ b, x.2.isIt = false := by
 rcases h with ⟨_, h, _⟩ | ⟨_, _, rfl, _⟩
 · exact AOp.q_noit h
 · intro x hx; cases hx
theorem noLocL_all : ∀ {l : List AV}, noLocL l = true → ∀ c ∈ l, noLoc c = true
 | [], _, _, h => by cases h
 | d :: r, h, c, hc => by
  simp only [noLocL, Bool.and_eq_true] at h
  rcases List.mem_cons.1 hc with rfl | hc
  · exact h.1
  · exact noLocL_all h.2 c hc
theorem Rel.give {M : Mem} {μ : Pos} {H : Heap} {w : World} (R : Rel M μ H w) {p b : Nat} (hp : p < H.nx) (hfree : μ p = none) {cs : List AV} {c : Array Value} {el : TypeId} {fz : Nat × Nat} (hb : w.heap[b]? = some (.cells c el fz)) (hfz : fz = (0, 0) ∨ c.size ≤ fz.1) (hP : relP M μ cs c.toList) (hno : ¬ Own μ H b) (hM : ∀ o, M b o = none) :
 Rel M (μ.put p (b, c.size)) (H.set p (.cells cs)) w ∧ Pos.le μ (μ.put p (b, c.size)) ∧ (∀ x, Own (μ.put p (b, c.size)) (H.set p (.cells cs)) x → Own μ H x ∨ x = b) := by
 have hle : Pos.le μ (μ.put p (b, c.size)) := Pos.le_put hfree _
 have hdead : H.get p = .dead := by
  cases hg : H.get p with
  | dead => rfl
  | cells ds => obtain ⟨b, sz, _, _, _, h, _⟩ := R.cells p ds hg; rw [hfree] at h; cases h
  | map es => obtain ⟨b, sz, _, _, h, _⟩ := R.maps p es hg; rw [hfree] at h; cases h
  | iter k left cur => obtain ⟨_, b, sz, h, _⟩ := R.iters p k left cur hg; rw [hfree] at h; cases h
  | loop st id fr => obtain ⟨b, sz, h, _⟩ := R.loops p st id fr hg; rw [hfree] at h; cases h
 have old : ∀ j x s, H.get j ≠ .dead → (μ.put p (b, c.size)) j = some (x, s) → μ j = some (x, s) ∧ x ≠ b := fun j x s hj hx => by
  have hjp : j ≠ p := fun e => hj (e ▸ hdead)
  rw [Pos.put_other μ _ hjp] at hx
  exact ⟨hx, fun e => hno (e ▸ ⟨j, s, hj, hx⟩)⟩
 have new : ∀ x s, (μ.put p (b, c.size)) p = some (x, s) → x = b := fun x s hx => by
  rw [Pos.put_same] at hx; simp at hx; exact hx.1.symm
 have alive : ∀ j, (H.set p (.cells cs)).get j ≠ .dead → j ≠ p → H.get j ≠ .dead := fun j hj hjp => by
  rw [Heap.get_set, if_neg (Ne.symm hjp)] at hj; exact hj
 refine ⟨⟨R.glob, fun k hk => ?_, fun j hj => ?_, fun j ds hj => ?_, fun j es hj => ?_, R.walks_same (Mem.le_refl _) (fun j k' left cur hj => ?_) hle (fun x hx _ => rfl), R.recs_same (Mem.le_refl _) (fun j st id fr hj => ?_) hle (fun x hx _ => rfl), fun i j x s t hi hj hx hy => ?_, R.imm, fun j x s hj hx o => ?_⟩, hle, fun x hx => ?_⟩
 · have hk' : H.nx ≤ k := hk
   rw [Pos.put_other μ _ (by omega)]; exact R.dom k hk'
 · have hj' : H.nx ≤ j := hj
   rw [Heap.get_set, if_neg (by omega)]; exact R.top j hj'
 · rw [Heap.get_set] at hj
   split at hj
   · rename_i h; subst h
     simp only [AB.cells.injEq] at hj; subst hj
     exact ⟨b, c.size, c, el, fz, Pos.put_same _ _ _, hb, rfl, hfz, relP_mono (Mem.le_refl _) hle _ hP⟩
   · obtain ⟨b', s', d, el', fz', h1, h2, h3, h4, h5⟩ := R.cells j ds hj
     exact ⟨b', s', d, el', fz', hle _ _ h1, h2, h3, h4, relP_mono (Mem.le_refl _) hle _ h5⟩
 · rw [Heap.get_set] at hj
   split at hj
   · cases hj
   · obtain ⟨b', s', ents, clock, h1, h2, h3, h4⟩ := R.maps j es hj
     exact ⟨b', s', ents, clock, hle _ _ h1, h2, relE_mono (Mem.le_refl _) hle h3, h4⟩
 · rw [Heap.get_set] at hj
   split at hj
   · cases hj
   · refine ⟨hj, fun h => ?_⟩
     rw [Heap.get_set]; split
     · simp
     · exact h
 · rw [Heap.get_set] at hj
   split at hj
   · cases hj
   · exact hj
 · by_cases hi' : i = p
   · by_cases hj' : j = p
     · omega
     · subst hi'
       have := new x s hx
       exact absurd this (old j x t (alive j hj hj') hy).2
   · by_cases hj' : j = p
     · subst hj'
       have := new x t hy
       exact absurd this (old i x s (alive i hi hi') hx).2
     · exact R.inj i j x s t (alive i hi hi') (alive j hj hj') (old i x s (alive i hi hi') hx).1 (old j x t (alive j hj hj') hy).1
 · by_cases hj' : j = p
   · subst hj'
     have hb := new x s hx
     subst hb; exact hM o
   · exact R.apart j x s (alive j hj hj') (old j x s (alive j hj hj') hx).1 o
 · obtain ⟨k, s, hk, hμ⟩ := hx
   by_cases hk' : k = p
   · subst hk'; have := new x s hμ; exact .inr this
   · exact .inl ⟨k, s, alive k hk hk', (old k x s (alive k hk hk') hμ).1⟩
structure QSt [Pend] (N n : Nat) (M0 : Mem) (μ0 : Pos) (Hs : Heap) (w0 : World) (nx : Nat) (m : Nat) (ns : Bool) (listed : Array Bool) (σ : Sg) (η : Et) (a : Act) (w : World) : Prop where
 noit : ns = true → ∀ j, (η j).isIt = false
 size : m ≤ listed.size
 ex : ∃ M μ fr H, look fr = σ ∧ H.get = η ∧ H.nx = nx + m ∧ Rel M μ H w ∧ RelF N M μ fr a.tmps ∧ n ≤ nx ∧ Grow n M0 μ0 Hs w0 M μ H w ∧ Marks w0 a.defers μ H w ∧ ∀ i, i < m → listed.getD i false = false → μ (nx + i) = none
section
variable [Pend] {P : Program} {N n : Nat} {M0 : Mem} {μ0 : Pos} {Hs : Heap} {w0 : World} {nx : Nat} {qs : List AO} {m : Nat} {ns : Bool}
theorem q_step {ops : Array Oper} {o : Oper} {q : AO} (hok : okAO P N ops o q = true) {listed : Array Bool} {σ : Sg} {η : Et} {a : Act} {w : World} (S : QSt N n M0 μ0 Hs w0 nx m ns listed σ η a w) {i : Nat} (hi : i < m) (hun : listed.getD i true = false) (hns : q.isSet = true → ns = true)
 {v : AV} {b : Ef} {F0 : List Nat} (hy : YA P q (nx + i) σ η v b F0) {next : Act → World → Prop} {Q : Exit → Act → World → Prop}
 (hnext : ∀ a' w', QSt N n M0 μ0 Hs w0 nx m ns (listed.setIfInBounds i true) (ups σ q.dst v) (upe η b) a' w' → next a' w') :
 if Region.wanted o (yielded ops a.tmps) then o.wp P a w next Q else next (a.put o.dst undef) w := by
 simp only [okAO, Bool.and_eq_true, beq_iff_eq] at hok
 obtain ⟨⟨⟨h1, h2⟩, h3⟩, h4⟩ := hok
 obtain ⟨hit, hsize, M, μ, fr, H, rfl, rfl, hnx, R, F, hn, G0, hd, hfree⟩ := S
 have isz : i < listed.size := Nat.lt_of_lt_of_le hi hsize
 have hun' : listed.getD i false = false := getD_both hun
 have hp : μ (nx + i) = none := hfree i hi hun'
 have hp0 := hp
 have hit' : ns = true → ∀ j, (upe H.get b j).isIt = false := fun h => upe_noit hy.noit (hit h)
 have fin : ∀ {M' : Mem} {μ' : Pos} {H' : Heap} {w' : World} {u : Value}, Rel M' μ' H' w' → relV M' v μ' u → Mem.le M M' → Pos.le μ μ' → Grow n M μ H w M' μ' H' w' → H'.get = upe H.get b → H'.nx = H.nx →
  (∀ j, j < m → j ≠ i → listed.getD j false = false → μ' (nx + j) = none) → next (a.put o.dst u) w' := by
  intro M' μ' H' w' u R' hv hM L G hg hnx' hf
  refine hnext _ _ ⟨hit', by simpa using hsize, M', μ', put fr q.dst v, H', by rw [look_put], hg, by rw [hnx', hnx], R', ?_, hn, G0.trans G, by cases o.dst <;> exact hd.step G, fun j hj hl => ?_⟩
  · rw [← h1]; exact (F.mono hM L).put (by rw [h1]; exact h2) hv
  · by_cases hji : j = i
    · subst hji; simp [isz] at hl
    · rw [getD_set_ne false (Ne.symm hji)] at hl
      exact hf j hj hji hl
 have same : ∀ {u : Value}, relV M v μ u → b = [] → next (a.put o.dst u) w := fun hv hb => by
  subst hb
  exact fin R hv (Mem.le_refl _) (Pos.le_refl _) (Grow.refl _ _ _ _ _) rfl rfl fun j hj _ hl => hfree j hj hl
 have move : ∀ {M' : Mem} {μ' : Pos} {H' : Heap} {w' : World} {u : Value}, Rel M' μ' H' w' → relV M' v μ' u → Move M μ H w M' μ' H' w' → H'.get = upe H.get b → H'.nx = H.nx → next (a.put o.dst u) w' := fun R' hv G hg hnx' =>
  fin R' hv G.grow.mem G.le (G.grow.mono (by omega)) hg hnx' fun j hj _ hl => by rw [G.grow.pin _ (by omega)]; exact hfree j hj hl
 have lay : ∀ {l : List AV} {c : Array Value} {el : TypeId}, [(nx + i, AB.cells l)] = b → .ptr (nx + i) 0 = v → relP M μ l c.toList → (execOp a.eval o).run P w = .ok (.value (.pointer (some ⟨w.heap.size, 0, none⟩))) (w.alloc (.cells c el)) → o.wp P a w next Q := by
  intro l c el hb hv hP hrun
  subst hb; subst hv
  obtain ⟨R', L, G⟩ := R.lay (p := nx + i) (el := el) (by omega) hp hP
  simp only [Oper.wp, hrun, Oper.upon]
  refine fin R' (by simp only [relV]; exact ⟨_, _, Pos.put_same _ _ _, rfl⟩) (Mem.le_refl _) L (G n (by omega)) ?_ rfl (fun j hj hji hl => by rw [Pos.put_other _ _ (by omega)]; exact hfree j hj hl)
  funext k; simp only [Heap.get_set, upe]
 have call : ∀ {f : FuncId} {vs : Array Value} {as : List AV}, (execOp a.eval o).run P w = (callFunc f vs).run P w → relL M as μ vs.toList → qcallK P H.get f as (fun r => r = v ∧ [] = b) → o.wp P a w next Q := by
  intro f vs as he hl hc
  obtain ⟨c5, hc⟩ := qcallK_call hc
  unfold Oper.wp
  rw [he, run_callFunc hc.ok]
  simp only [Oper.upon]
  refine (hc.run M μ w vs R hl).mono ?_
  rintro e w' ⟨u, M', μ', H', c, rfl, R', hv, G, rfl, rfl⟩
  subst c5
  exact move R' hv G rfl rfl
 have hop : ∀ {ho : HOp} {K : AV → Heap → Prop}, okH P o.op ho = true → ho.run (AX.ev fr) H K → (∀ c H', K c H' → c = v ∧ H'.get = upe H.get b ∧ H'.nx = H.nx) → o.wp P a w next Q := by
  intro ho K hok hr hK
  obtain ⟨nxt, u, w', e1, e2, M', μ', H', c, R', hv, G, hk⟩ := hop_sound hok R F hr
  obtain ⟨rfl, e3, e4⟩ := hK _ _ hk
  rcases e2 with rfl | ⟨rfl, rfl⟩
  · simp only [Oper.wp, e1, Oper.upon]; exact move R' hv G e3 e4
  · simp only [Oper.wp, e1, Oper.upon]; exact move R' hv G e3 e4
 have wanted : ∀ s want c, q.guard = some (s, want) → look fr s = .bool c → Region.wanted o (yielded ops a.tmps) = (c == want) := by
  intro s want c hg hc
  cases hgo : o.guard with
  | none => simp [hgo, hg, okGuard] at h3
  | some x =>
   obtain ⟨j, b'⟩ := x
   simp only [hgo, hg, okGuard, Bool.and_eq_true, beq_iff_eq] at h3
   obtain ⟨rfl, h3⟩ := h3
   split at h3
   · rename_i oj hoj
     simp at h3
     have := F.slot s
     rw [hc] at this
     have := rel_bool this
     have hs : a.tmps[s]? = some (.bool c) := by
      rw [Array.getD_eq_getD_getElem?] at this
      cases hq : a.tmps[s]? with
      | none => rw [hq] at this; simp [undef] at this
      | some u => rw [hq] at this; simp at this; rw [this]
     have hy : yielded ops a.tmps j = some c := by simp only [yielded, hoj, Option.bind_some, h3]; rw [hs]
     simp only [Region.wanted, hgo, hy]
     cases c <;> cases b' <;> rfl
   · cases h3
 rcases hy with ⟨hg, hq, _⟩ | ⟨⟨s, want, hg, hoff⟩, rfl, rfl, _⟩
 · have hw : Region.wanted o (yielded ops a.tmps) = true := by
    rcases hg with hg | ⟨s, want, hg, hc⟩
    · cases hgo : o.guard with
      | none => exact wanted_none hgo _
      | some x => obtain ⟨j, b'⟩ := x; simp [hgo, hg, okGuard] at h3
    · rw [wanted s want want hg hc]; simp
   rw [if_pos hw]
   rw [evs_look] at hq
   unfold okOp at h4
   split at h4
   · rename_i p hp
     rw [hp] at hq
     simp only [AOp.q] at hq
     have mop : ∀ {K : AV → Heap → Prop}, p.run (AX.ev fr) H K → (∀ c H', K c H' → c = v ∧ H'.get = upe H.get b ∧ H'.nx = H.nx) → o.wp P a w next Q := by
      intro K hr hK
      obtain ⟨nxt, u, w', e1, e2, M', μ', H', c, R', hv, G, hk⟩ := mop_sound h4 R F hr
      obtain ⟨rfl, e3, e4⟩ := hK _ _ hk
      rcases e2 with rfl | ⟨rfl, rfl⟩
      · simp only [Oper.wp, e1, Oper.upon]; exact move R' hv G e3 e4
      · simp only [Oper.wp, e1, Oper.upon]; exact move R' hv G e3 e4
     cases p with
     | mk => exact hq.elim
     | get ok kk zero m k =>
      refine mop (K := fun v' H' => (v' = v ∧ [] = b) ∧ H' = H) ?_ (fun c H' h => by obtain ⟨⟨e1, rfl⟩, rfl⟩ := h; exact ⟨e1, rfl, rfl⟩)
      simp only [MOp.q, MOp.run, mapK, and_true] at hq ⊢
      exact hq
     | len m =>
      refine mop (K := fun v' H' => (v' = v ∧ [] = b) ∧ H' = H) ?_ (fun c H' h => by obtain ⟨⟨e1, rfl⟩, rfl⟩ := h; exact ⟨e1, rfl, rfl⟩)
      simp only [MOp.q, MOp.run, mapK, and_true] at hq ⊢
      exact hq
     | set kk m k x =>
      simp only [MOp.q] at hq
      rcases mapN_spec hq with ⟨hm, h⟩ | ⟨q, es, hm, hes, h⟩
      · exact h.elim
      · simp only at h
        cases hk : (keyOk kk (AX.ev fr k)) <;> simp only [hk, cond_true, cond_false] at h
        obtain ⟨es', hr, h1, h2⟩ := h.ex
        refine mop (K := fun v' H' => v' = .any ∧ H' = H.set q (.map es')) ?_ (fun c H' h => ?_)
        · have hni : noIter H.get q H.nx = true := noIter_of (fun j k l c e => by have := hit (hns (by simp only [AO.isSet, hp])) j; rw [e] at this; cases this) _
          simp only [MOp.run, mapK, hm, mapN, hes, hk, hni, Bool.and_true, Bool.and_self, cond_true]
          exact ⟨es', hr, by rw [setK_eq]; simp⟩
        · obtain ⟨rfl, rfl⟩ := h
          subst h2
          refine ⟨h1, ?_, rfl⟩
          funext j; simp only [Heap.get_set, upe]
     | del kk m k =>
      simp only [MOp.q] at hq
      rcases mapN_spec hq with ⟨hm, h⟩ | ⟨q, es, hm, hes, h⟩
      · exact h.elim
      · simp only at h
        cases hk : keyOk kk (AX.ev fr k) <;> simp only [hk, cond_true, cond_false] at h
        obtain ⟨es', hr, h1, h2⟩ := h.ex
        refine mop (K := fun v' H' => v' = .tuple [] ∧ H' = H.set q (.map es')) ?_ (fun c H' h => ?_)
        · have hni : noIter H.get q H.nx = true := noIter_of (fun j k l c e => by have := hit (hns (by simp only [AO.isSet, hp])) j; rw [e] at this; cases this) _
          simp only [MOp.run, mapK, hm, mapN, hes, hk, hni, Bool.and_true, Bool.and_self, cond_true]
          exact ⟨es', hr, by rw [setK_eq]; simp⟩
        · obtain ⟨rfl, rfl⟩ := h
          subst h2
          refine ⟨h1, ?_, rfl⟩
          funext j; simp only [Heap.get_set, upe]
     | range m => exact hq.elim
     | next m => exact hq.elim
     | entry m => exact hq.elim
     | delw _ _ _ _ => exact hq.elim
     | copyS _ _ => exact hq.elim
     | copy e d s =>
      simp only [MOp.q] at hq
      split at hq
      · rename_i k off n cap e' hd
        split at hq
        · rename_i cs hcs
          obtain ⟨ds, m, ⟨he, hbr⟩, h2⟩ := srcK_det hq
          by_cases hmn : m ≤ n
          · obtain ⟨e1, e2, e3⟩ := lputK_spec (hbr.yes (by simpa using hmn))
            refine mop (K := fun v' H' => v' = .int .i64 m ∧ H' = H.set k (.cells (cs.take off ++ ds ++ cs.drop (off + ds.length)))) ?_ (fun c H' h => ?_)
            · simp only [MOp.run, hd, hcs]
              exact srcK_mono (fun _ _ ⟨q1, q2⟩ => by subst q1; subst q2; exact ⟨he, .ofT (by simpa using hmn) (by unfold cpK; exact lputK_eq e1 e2 (by rw [setK_eq]; exact ⟨rfl, rfl⟩))⟩) h2
            · obtain ⟨rfl, rfl⟩ := h
              refine ⟨e3.1, ?_, rfl⟩
              rw [← e3.2]
              funext j; simp only [Heap.get_set, upe]
          · obtain ⟨e1, e2, e3⟩ := lputK_spec (hbr.no (by simpa using hmn))
            refine mop (K := fun v' H' => v' = .int .i64 n ∧ H' = H.set k (.cells (cs.take off ++ ds.take (n * e) ++ cs.drop (off + (ds.take (n * e)).length)))) ?_ (fun c H' h => ?_)
            · simp only [MOp.run, hd, hcs]
              exact srcK_mono (fun _ _ ⟨q1, q2⟩ => by subst q1; subst q2; exact ⟨he, .ofF (by simpa using hmn) (by unfold cpK; exact lputK_eq e1 e2 (by rw [setK_eq]; exact ⟨rfl, rfl⟩))⟩) h2
            · obtain ⟨rfl, rfl⟩ := h
              refine ⟨e3.1, ?_, rfl⟩
              rw [← e3.2]
              funext j; simp only [Heap.get_set, upe]
        · exact hq.elim
      · exact hq.elim
   · rename_i p hp
     rw [hp] at hq
     simp only [AOp.q] at hq
     obtain ⟨u, c, e1, e2, e3, e4⟩ := pop_sound h4 F hq w
     subst e3
     simp only [Oper.wp, e1, Oper.upon]
     exact same e2 e4.symm
   · rename_i p hp
     rw [hp] at hq
     simp only [AOp.q] at hq
     obtain ⟨u, c, e1, e2, e3, e4⟩ := vop_sound h4 F hq w
     subst e3
     simp only [Oper.wp, e1, Oper.upon]
     exact same e2 e4.symm
   · rename_i p hp
     rw [hp] at hq
     simp only [AOp.q] at hq
     cases p with
     | load agg nn x =>
      refine hop (K := fun v' H' => (v' = v ∧ [] = b) ∧ H' = H) h4 ?_ (fun c H' h => by obtain ⟨⟨e1, rfl⟩, rfl⟩ := h; exact ⟨e1, rfl, rfl⟩)
      simp only [HOp.q, HOp.run, and_true] at hq ⊢
      exact hq
     | alloc zero =>
      simp only [HOp.q] at hq
      unfold okH at h4
      split at h4
      · rename_i heq; cases heq
      · rename_i t zero' hop heq
        cases heq
        unfold zeroOk at h4
        split at h4
        · rename_i ti hti
          split at h4
          · rename_i z hz
            refine lay hq.2 hq.1 (c := z.cells) (el := t) (relP_of_relL (rel_okVs h4)) ?_
            simp only [execOp, hop, Instr.alloc, zeroValue, Sem.run_bind, run_typeInfo hti, Result.andThen_ok, hz, Sem.run_pure, newVar, newRow, run_newObj]; rfl
          · cases h4
        · cases h4
      · rename_i heq; cases heq
      · rename_i heq; cases heq
      · cases h4
     | box x =>
      simp only [HOp.q] at hq
      split at hq
      · rename_i l hl
        unfold okH at h4
        split at h4
        · rename_i heq; cases heq
        · rename_i heq; cases heq
        · rename_i t xo x' hop heq
          cases heq
          refine lay hq.2 hq.1 (c := (a.eval xo).cells) (el := t) (relP_of_relL (rel_cellsOf hl (rel_okX F h4))) ?_
          simp only [execOp, hop, Instr.box, Sem.run_bind, Result.andThen_ok, Sem.run_pure, newVar, newRow, run_newObj]; rfl
        · rename_i heq; cases heq
        · cases h4
      · exact hq.elim
     | store nn p x =>
      simp only [HOp.q] at hq
      split at hq
      · rename_i k off hpk
        split at hq
        · rename_i cs hcs
          split at hq
          · rename_i l hl
            refine hop (K := fun v' H' => ∃ cs', (v' = .any ∧ H' = H.set k (.cells cs')) ∧ (AV.any = v ∧ [(k, AB.cells cs')] = b)) h4 ?_ (fun c H' h => ?_)
            · simp only [HOp.run, hpk, hcs, hl]
              cases hb : Nat.beq l.length nn with
              | false => rw [hb] at hq; exact hq.elim
              | true =>
               rw [hb] at hq
               simp only [cond_true] at hq ⊢
               obtain ⟨e1, e2, e3⟩ := lputK_spec hq
               exact lputK_eq e1 e2 ⟨_, ⟨trivial, rfl⟩, e3⟩
            · obtain ⟨cs', ⟨rfl, rfl⟩, rfl, rfl⟩ := h
              refine ⟨rfl, ?_, rfl⟩
              funext j; simp only [Heap.get_set, upe]
          · exact hq.elim
        · exact hq.elim
      · exact hq.elim
   · rename_i p hp
     rw [hp] at hq
     simp only [AOp.q] at hq
     obtain ⟨v', ⟨rfl, e4⟩, ⟨u, w', M', e1, R', hv, G⟩⟩ := dop_sound h4 F R (Hr := H.get) (fun _ _ h => h) hq
     subst e4
     simp only [Oper.wp, e1, Oper.upon]
     exact move R' hv G rfl rfl
   · rename_i p hp
     rw [hp] at hq
     simp only [AOp.q] at hq
     obtain ⟨v', l, kl, ⟨rfl, e4⟩, ⟨u, w', μ', e1, R', hv, L, G, hj⟩⟩ := lop_sound h4 F R (Hr := H.get) (fun _ _ h => h) (p := nx + i) (by omega) (by assumption) hq
     subst e4
     simp only [Oper.wp, e1, Oper.upon]
     refine fin R' hv (Mem.le_refl _) L (G n (by omega)) ?_ ?_ (fun j hj' hji hl => by rw [hj _ (by omega)]; exact hfree j hj' hl)
     · rw [← get_lay]; cases kl <;> rfl
     · cases kl <;> rfl
   · rename_i g args _ f args' hop hp
     rw [hp] at hq
     simp only [Bool.and_eq_true, beq_iff_eq] at h4
     obtain ⟨rfl, h4⟩ := h4
     simp only [AOp.q, fvs_eq] at hq
     refine call (f := f) (vs := args.map a.eval) ?_ (by simpa using rel_okXs F h4) hq
     simp only [execOp, hop, resolve, Act.eval, Deferred.ofValue, Sem.run_bind, Sem.run_pure, Result.andThen_ok, invoke, Array.empty_append, Array.append_empty]
   · rename_i g args _ f args' hopx hp
     rw [hp] at hq
     simp only [Bool.and_eq_true, beq_iff_eq] at h4
     obtain ⟨rfl, h4⟩ := h4
     simp only [AOp.q, fvs_eq] at hq
     obtain ⟨kk, nn, cp, e, cs, ha, hcs, hc, rfl, hb⟩ := hq.ex
     subst hb
     have he : (execOp a.eval o).run P w = (callFunc f (args.map a.eval)).run P w := by
      simp only [execOp, hopx, resolve, Act.eval, Deferred.ofValue, Sem.run_bind, Sem.run_pure, Result.andThen_ok, invoke, Array.empty_append, Array.append_empty]
     have hl : relL M (args'.map (AX.ev fr)) μ (args.map a.eval).toList := by simpa using rel_okXs F h4
     unfold Oper.wp
     rw [he, run_callFunc hc.ok]
     simp only [Oper.upon]
     refine (hc.run M Pos.none w (args.map a.eval) R.nil (relL_data _ ha hl)).mono ?_
     rintro e' w' ⟨u, M', μs, Hs, c0, rfl, R', hv, G, rfl, hget⟩
     have hfresh : ∀ b o u, M' b o = some u → M b o = some u ∨ w.heap.size ≤ b := fun b o u hm => by
      rcases G.grow.fresh b o u hm with h | h | h
      · exact .inl h
      · exact absurd h own_nil
      · exact .inr h
     have R1 := R.frame G.grow.mem R'.imm hfresh (fun b hb => G.grow.keep.block b hb own_nil)
     obtain ⟨b, sz, c, el, fz, g1, g2, g3, g4, g5⟩ := R'.cells kk cs hget
     have hbnew : w.heap.size ≤ b := by
      rcases G.grow.own b ⟨kk, sz, by rw [hget]; simp, g1⟩ with h | h
      · exact absurd h own_nil
      · exact h
     have hno : ¬ Own μ H b := fun ⟨k, s, h1, h2⟩ => by
      have := R.own_lt ⟨k, s, h1, h2⟩; omega
     obtain ⟨R2, L2, O2⟩ := R1.give (p := nx + i) (by omega) hp0 g2 (by rw [g3]; exact g4) (relP_data cs (noLocL_all hcs) g5) hno (R'.apart kk b sz (by rw [hget]; simp) g1)
     simp only [relV] at hv
     obtain ⟨b2, sz2, c2, e1, rfl, e3, e4, e5⟩ := hv
     rw [g1] at e1; cases e1
     refine fin R2 (by simp only [relV]; exact ⟨b, c.size, c2, Pos.put_same _ _ _, rfl, e3, by omega, e5⟩) G.grow.mem L2 ⟨G.grow.mem, fun k hk => Pos.put_other μ _ (by omega), ⟨G.grow.keep.os, G.grow.keep.tape, G.grow.keep.output, G.grow.keep.size, fun b hb _ => G.grow.keep.block b hb own_nil⟩, fun x hx => ?_, fun b o u hm => ?_⟩ ?_ rfl (fun j hj hji hl => by rw [Pos.put_other _ _ (by omega)]; exact hfree j hj hl)
     · rcases O2 x hx with h | h
       · exact .inl h
       · exact .inr (by omega)
     · rcases hfresh b o u hm with h | h
       · exact .inl h
       · exact .inr (.inr h)
     · funext k; simp only [Heap.get_set, upe]
   · rename_i x args _ x' args' hop hp
     rw [hp] at hq
     simp only [Bool.and_eq_true] at h4
     obtain ⟨h5, h6⟩ := h4
     simp only [AOp.q] at hq
     split at hq
     · rename_i f caps hx
       simp only [fvs_eq] at hq
       have hx' := rel_okX F h5
       rw [hx] at hx'; simp only [relV] at hx'
       obtain ⟨vs, hv, hl⟩ := hx'
       refine call (f := f) (vs := args.map a.eval ++ vs) ?_ (by simpa using relL_append (rel_okXs F h6) hl) hq
       simp only [execOp, hop, resolve, hv, Deferred.ofValue, Sem.run_bind, Sem.run_pure, Result.andThen_ok, invoke, Array.empty_append]
     · rename_i f bs hx
       simp only [fvs_eq] at hq
       have hx' := rel_okX F h5
       rw [hx] at hx'; simp only [relV] at hx'
       obtain ⟨vs, hv, hl⟩ := hx'
       refine call (f := f) (vs := vs ++ args.map a.eval) ?_ (by simpa using relL_append hl (rel_okXs F h6)) hq
       simp only [execOp, hop, resolve, hv, Deferred.ofValue, Sem.run_bind, Sem.run_pure, Result.andThen_ok, invoke, Array.append_empty]
     · exact hq.elim
   · rename_i hp; rw [hp] at hq; exact hq.elim
   · rename_i hp; rw [hp] at hq; exact hq.elim
   · rename_i hp; rw [hp] at hq; exact hq.elim
   · rename_i hp; rw [hp] at hq; exact hq.elim
   · rename_i hp; rw [hp] at hq; exact hq.elim
   · cases h4
 · have hw : Region.wanted o (yielded ops a.tmps) = false := by
    rcases hoff with ⟨c, hc, hne⟩ | hs
    · rw [wanted s want c hg hc]; cases c <;> cases want <;> simp_all
    · exact undef_yields F hs (by rw [← hg]; exact h3)
   rw [hw]
   simp only [Bool.false_eq_true, if_false]
   exact same relV_undef rfl
theorem okAOs_get {ops : Array Oper} : ∀ {l : List Oper} {qs : List AO}, okAOs P N ops l qs = true → l.length = qs.length ∧ ∀ (i : Nat) o q, l[i]? = some o → qs[i]? = some q → okAO P N ops o q = true
 | [], [], _ => ⟨rfl, fun i o q h => by simp at h⟩
 | o :: l, q :: qs, h => by
  simp only [okAOs, Bool.and_eq_true] at h
  obtain ⟨h1, h2⟩ := okAOs_get h.2
  refine ⟨by simp [h1], fun i o' q' ho hq => ?_⟩
  cases i with
  | zero => simp at ho hq; subst ho; subst hq; exact h.1
  | succ i => exact h2 i o' q' (by simpa using ho) (by simpa using hq)
 | [], _ :: _, h => by simp [okAOs] at h
 | _ :: _, [], h => by simp [okAOs] at h
theorem okAOs_drop {ops : Array Oper} : ∀ {l : List Oper} {qs : List AO} (n : Nat), okAOs P N ops l qs = true → okAOs P N ops (l.drop n) (qs.drop n) = true
 | [], [], n, _ => by simp [okAOs]
 | o :: l, q :: qs, 0, h => h
 | o :: l, q :: qs, n + 1, h => by simp only [okAOs, Bool.and_eq_true] at h; exact okAOs_drop n h.2
 | [], _ :: _, _, h => by simp [okAOs] at h
 | _ :: _, [], _, h => by simp [okAOs] at h
theorem wpAny_of_q (r : Option Nat) {dep : List (Nat × Nat)} {md : Region.Mode} {ops : Array Oper} (hok : okAOs P N ops ops.toList qs = true) (hns : ∀ i q, i < m → qs[i]? = some q → q.isSet = true → ns = true) {Q' : Exit → Act → World → Prop} {g : Nat} {T : Array Bool → Sg → Et → Prop}
 (hT : ∀ listed σ η a w, T listed σ η → QSt N n M0 μ0 Hs w0 nx m ns listed σ η a w → wpAnyIn (FR r) 0 P md ops Q' g listed a w) :
 ∀ (f : Nat) (listed : Array Bool) (L : List En) (σ : Sg) (η : Et) (a : Act) (w : World), QSt N n M0 μ0 Hs w0 nx m ns listed σ η a w → qAny P dep md ops nx qs m T f listed L σ η → wpAnyIn (FR r) 0 P md ops Q' (f + g) listed a w
 | 0, listed, L, σ, η, a, w, S, h => by rw [Nat.zero_add]; exact hT _ _ _ _ _ h S
 | f + 1, listed, L, σ, η, a, w, S, h => by
  rw [show f + 1 + g = (f + g) + 1 by omega]
  refine ⟨fun h0 => absurd h0 h.1, fun i hi => ?_⟩
  obtain ⟨him, q, hq, v, b, F, hy, _, hK⟩ := h.2 i hi
  obtain ⟨hun, o, ho, _⟩ := mem_ready.1 hi
  unfold wpOpIn
  simp only [ho]
  have := q_step ((okAOs_get hok).2 i o q (by simpa using ho) hq) S him hun (hns i q him hq) hy (next := wpAnyIn (FR r) 0 P md ops Q' (f + g) (listed.setIfInBounds i true)) (Q := Q') fun a' w' S' => wpAny_of_q r hok hns hT f _ _ _ _ _ _ S' hK
  split at this
  · rename_i hw; rw [if_pos hw]
    refine Oper.wpIn_of_wp ?_ this
    have hok' := (okAOs_get hok).2 i o q (by simpa using ho) hq
    simp only [okAO, Bool.and_eq_true] at hok'
    exact okOp_nd hok'.2
  · rename_i hw; rw [if_neg hw]; exact ⟨fun _ _ => trivial, this⟩
theorem sound_draw (r : Option Nat) {id : Nat} {ops : Array Oper} {dep : List (Nat × Nat)} (hm : P.follows .mixedOrders = true) (hok : okAOs P N ops ops.toList qs = true) (hd : drawOk .any ops dep qs m = true) {fr : Fr} {H : Heap} {a : Act} {w : World} {K : Fr → Heap → Prop} {Kp : AV → Fr → Heap → Prop} {Q : Exit → Act → World → Prop}
 (S : St N n M0 μ0 Hs w0 fr H a w) (hsf : setFree (qs.take m) H.get H.nx = true) (hr : qwalk P dep (fun fr H => runOps P K Kp (qs.drop m) fr H) (qs.take m) 0 H.nx [] fr ⟨H.nx + m, H.bs⟩) (hq : ∀ fr' H' a' w', St N n M0 μ0 Hs w0 fr' H' a' w' → K fr' H' → Q .normal a' w') (hpan : ∀ c v fr' H' a' w', St N n M0 μ0 Hs w0 fr' H' a' w' → relPan c v → Kp c fr' H' → Q (.panic [{ v, recovered := false }]) a' w') :
 (Code.region id ops true).wpIn (FR r) 0 P Q a w := by
 refine wpIn_region_any hm ?_
 simp only [drawOk, Bool.and_eq_true] at hd
 obtain ⟨⟨hd1, hdep⟩, hd2⟩ := hd
 have hE := early_of hd1
 have hmle : m ≤ ops.size := by
  simp only [Bool.or_eq_true, decide_eq_true_eq, Bool.and_eq_true] at hd1
  rcases hd1 with h | ⟨⟨h, _⟩, _⟩ <;> omega
 have hlen := (okAOs_get hok).1
 simp only [Array.length_toList] at hlen
 obtain ⟨M, μ, R, F, hn, G0, hdef⟩ := S
 have R0 : Rel M μ ⟨H.nx + m, H.bs⟩ { w with drawn := w.drawn + 1 } := by
  have R1 := R.room m
  exact ⟨R1.glob, R1.dom, R1.top, R1.cells, R1.maps, R1.iters, R1.loops, R1.inj, R1.imm, R1.apart⟩
 have S0 : QSt N n M0 μ0 Hs w0 H.nx m ((qs.take m).any AO.isSet) (Array.replicate ops.size false) (look fr) (Heap.get ⟨H.nx + m, H.bs⟩) a { w with drawn := w.drawn + 1 } :=
  ⟨fun hs j => by
   rw [setFree, hs] at hsf
   rcases Nat.lt_or_ge j H.nx with hj | hj
   · exact noIts_spec (η := H.get) (by simpa using hsf) j hj
   · show (H.get j).isIt = false; rw [R.top j hj]; rfl, by simpa using hmle, M, μ, fr, ⟨H.nx + m, H.bs⟩, rfl, rfl, rfl, R0, F, hn, ⟨G0.mem, G0.pin, ⟨G0.keep.os, G0.keep.tape, G0.keep.output, G0.keep.size, G0.keep.block⟩, G0.own, G0.fresh⟩, ⟨hdef.ex, hdef.nm⟩, fun i _ _ => R.dom _ (by omega)⟩
 have inv0 : HeadInv .any ops m (Array.replicate ops.size false) :=
  ⟨by simp, fun j oj _ hl => (by rw [getD_replicate_false] at hl; cases hl), fun t _ ht => getD_in (by simpa using ht) (getD_replicate_false _ _)⟩
 have hw := wpQ_of_walk (nx := H.nx + m) (qs.take m) 0 H.nx [] [] fr ⟨H.nx + m, H.bs⟩ rfl (fun e he => by cases he) hr
 have htl : (qs.take m).length = m := by simp; omega
 have hA := qAny_lex (md := .any) (ops := ops) (qs := qs) (m := m) (g := ops.size - m) (depsB_spec hdep) hE (by omega) (qs.take m) 0 (Array.replicate ops.size false) [] (look fr) (Heap.get ⟨H.nx + m, H.bs⟩)
  (fun j hj => by rw [htl] at hj; simp [hj]) (by omega) inv0 (by rw [htl]; exact hd2) hw
 have := wpAny_of_q r (md := .any) (Q' := Q) (g := ops.size - m) hok (fun i q hi hq hs => List.any_eq_true.2 ⟨q, List.mem_of_getElem? (by rw [List.getElem?_take, if_pos hi]; exact hq), hs⟩) (fun listed σ η a' w' hT S' => ?_) _ _ _ _ _ _ _ S0 hA
 · rw [htl, show m + (ops.size - m) = ops.size by omega] at this
   exact this
 · obtain ⟨hseq, fr1, H1, rfl, rfl, hnx1, hrun⟩ := hT
   obtain ⟨_, _, M', μ', fr', H', hl', hg', hnx', R', F', hn', G', hd', _⟩ := S'
   have S1 : St N n M0 μ0 Hs w0 fr1 H1 a' w' := ⟨M', μ', R'.ext hg' (hnx'.trans hnx1.symm), F'.ext hl', by rw [hnx1]; omega, G'.ext hg', hd'.ext hg'⟩
   have hdl : (ops.toList.drop m).length = ops.size - m := by simp
   have hseq' : Region.seqB .any ops (ops.toList.drop m).length m listed = true := by rw [hdl]; exact hseq
   have := wpAnyIn_of_seq (P := P) (r := r) (md := .any) (Q' := Q) (ops.toList.drop m) m listed a' w' (fun j => by simp [List.getElem?_drop]) hseq' (sound_ops r (okAOs_drop m hok) S1 hrun hq hpan)
   rwa [hdl] at this
end
end Go.Eng

