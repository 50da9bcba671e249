/- Part of a proof about the given program: lemmas that the other parts use. -/
import Derived.Test.YtnmgifoihmjjmaaPart5
import Derived.Test.YtnmgifoihmjjmaaPart3
import Derived.Test.YtnmgifoihmjjmaaPart4

set_option linter.all false
set_option linter.unusedSimpArgs false
set_option linter.unusedVariables false
namespace Go.Eng
open Go

/-! #### The heap and the frame of a run -/
structure EH where
  nx : Nat
  bs : BT AB
def EH.get (T : EH) (k : Nat) : AB := match T.bs.get k with
  | some b => b
  | none => .dead
def EH.nil : EH := ⟨0, .nil⟩
def EH.put (T : EH) (k : Nat) (b : AB) : Option EH := bif b.isIt then none else (match BT.set b 40 T.bs k with
  | some bs => some ⟨T.nx, bs⟩
  | none => none)
def EH.push (T : EH) (b : AB) : Option EH := bif b.isIt then none else (match BT.set b 40 T.bs T.nx with
  | some bs => forceN (T.nx + 1) fun n => some ⟨n, bs⟩
  | none => none)
def AB.noit : AB → Prop
  | .iter _ _ _ => False
  | _ => True
theorem isIt_of {b : AB} (h : b.noit) : b.isIt = false := by cases b <;> first | rfl | exact h.elim
theorem noit_of {b : AB} (h : b.isIt = false) : b.noit := by cases b <;> first | trivial | cases h
structure RepH (T : EH) (H : Heap) : Prop where
  nx : H.nx = T.nx
  get : H.get = T.get
  noit : ∀ j, (H.get j).noit
theorem RepH.free {T : EH} {H : Heap} (R : RepH T H) (p n : Nat) : noIter T.get p n = true := noIter_of (fun j k l c e => by have := R.noit j; rw [R.get, e] at this; exact this) n
theorem RepH.nil : RepH EH.nil Heap.nil := ⟨rfl, rfl, fun _ => trivial⟩
theorem RepH.put {T T' : EH} {H : Heap} {k : Nat} {b : AB} (h : T.put k b = some T') (R : RepH T H) : RepH T' (H.set k b) := by
  unfold EH.put at h
  cases hb : b.isIt <;> simp only [hb, cond_true, cond_false, reduceCtorEq] at h
  split at h
  · rename_i bs hbs
    cases h
    refine ⟨R.nx, funext fun j => ?_, fun j => by rw [Heap.get_set]; split; exact noit_of hb; exact R.noit j⟩
    rw [Heap.get_set, R.get]
    simp only [EH.get, BT.get_set b hbs j]
    by_cases e : k = j <;> simp [e]
  · cases h
theorem RepH.push {T T' : EH} {H : Heap} {b : AB} (h : T.push b = some T') (R : RepH T H) : RepH T' (H.push b) := by
  unfold EH.push at h
  cases hb : b.isIt <;> simp only [hb, cond_true, cond_false, reduceCtorEq] at h
  split at h
  · rename_i bs hbs
    rw [forceN_eq] at h; cases h
    refine ⟨by simp [Heap.push, R.nx], funext fun j => ?_, fun j => by rw [Heap.get_push]; split; exact noit_of hb; exact R.noit j⟩
    rw [Heap.get_push, R.get, R.nx]
    simp only [EH.get, BT.get_set b hbs j]
    by_cases e : T.nx = j <;> simp [e]
  · cases h
structure RepF (F : BT AV) (fr : Fr) : Prop where
  get : ∀ t, look fr t = (F.get t).getD .any
def AX.eF (F : BT AV) : AX → AV
  | .t n => match F.get n with
    | some v => v
    | none => .any
  | .c v => v
theorem RepF.ev {F : BT AV} {fr : Fr} (R : RepF F fr) : AX.ev fr = AX.eF F := by
  funext x
  cases x with
  | t n => simp only [AX.ev, AX.eF, R.get]; cases F.get n <;> rfl
  | c v => rfl
def putE (F : BT AV) (d : Option Nat) (v : AV) : Option (BT AV) := match d with
  | none => some F
  | some t => fvE v fun v => BT.set v 24 F t
theorem RepF.put {F F' : BT AV} {fr : Fr} {d : Option Nat} {v : AV} (h : putE F d v = some F') (R : RepF F fr) : RepF F' (put fr d v) := by
  cases d with
  | none => simp only [putE, Option.some.injEq] at h; subst h; exact R
  | some t =>
    simp only [putE, fvE_eq] at h
    refine ⟨fun u => ?_⟩
    rw [BT.get_set v h u]
    simp only [Eng.put, look]
    by_cases e : t = u
    · subst e; simp
    · rw [beq_false e, if_neg e]; exact R.get u
theorem RepF.know {F : BT AV} {fr : Fr} {s : Nat} {b : Bool} (R : RepF F fr) (h : look fr s = .bool b) : RepF F ((s, .bool b) :: fr) :=
  ⟨fun u => by
    simp only [look]
    by_cases e : s = u
    · subst e; rw [← R.get, h]; simp
    · rw [beq_false e]; exact R.get u⟩

/-! #### Operations on the heap -/
def HOp.e (ev : AX → AV) (T : EH) : HOp → Option (AV × EH)
  | .load agg n x => match ev x with
    | .dptr cs => match loadE agg n cs with
      | some v => some (v, T)
      | none => none
    | .ptr k off => match T.get k with
      | .cells cs => match loadE agg n (cs.drop off) with
        | some v => some (v, T)
        | none => none
      | _ => none
    | _ => none
  | .alloc zero => match T.push (.cells zero) with
    | some T' => some (.ptr T.nx 0, T')
    | none => none
  | .box x => match cellsOf (ev x) with
    | some l => match T.push (.cells l) with
      | some T' => some (.ptr T.nx 0, T')
      | none => none
    | none => none
  | .store n p x => match ev p with
    | .ptr k off => match T.get k with
      | .cells cs => match cellsOf (ev x) with
        | some l => bif Nat.beq l.length n then (match lputE cs off l with
          | some cs' => match T.put k (.cells cs') with
            | some T' => some (.any, T')
            | none => none
          | none => none) else none
        | none => none
      | _ => none
    | _ => none
theorem HOp.e_run {ev : AX → AV} {T T' : EH} {H : Heap} {o : HOp} {v : AV} (h : o.e ev T = some (v, T')) (R : RepH T H) : ∃ H', RepH T' H' ∧ ∀ K : AV → Heap → Prop, K v H' → o.run ev H K := by
  cases o <;> simp only [HOp.e, HOp.run, R.get, pushK_eq, setK_eq] at h ⊢
  case load agg n x =>
    generalize ev x = vx at h ⊢
    split at h
    · split at h
      · rename_i u hu; cases h; exact ⟨H, R, fun K hk => loadE_run hu hk⟩
      · cases h
    · split at h
      · rename_i cs hcs
        split at h
        · rename_i u hu; cases h; refine ⟨H, R, fun K hk => ?_⟩
          simp only [hcs]; exact loadE_run hu hk
        · cases h
      · cases h
    · cases h
  case alloc zero =>
    split at h
    · rename_i T2 hT; cases h
      exact ⟨_, R.push hT, fun K hk => by rw [R.nx]; exact hk⟩
    · cases h
  case box x =>
    split at h
    · rename_i l hl
      split at h
      · rename_i T2 hT; cases h
        exact ⟨_, R.push hT, fun K hk => by simp only [hl]; rw [R.nx]; exact hk⟩
      · cases h
    · cases h
  case store n p x =>
    generalize ev p = vp at h ⊢
    split at h
    · split at h
      · rename_i cs hcs
        split at h
        · rename_i l hl
          cases hb : Nat.beq l.length n <;> simp only [hb, cond_true, cond_false] at h
          · cases h
          · split at h
            · rename_i cs' hp
              split at h
              · rename_i T2 hT; cases h
                exact ⟨_, R.put hT, fun K hk => by simp only [hcs, hl, hb, cond_true]; exact lputE_run hp hk⟩
              · cases h
            · cases h
        · cases h
      · cases h
    · cases h

def mapE0 (η : Nat → AB) (m : AV) : Option (Option Nat × List (AV × AV)) := match m with
  | .nilm => some (none, [])
  | .map p => match η p with
    | .map es => some (some p, es)
    | _ => none
  | _ => none
theorem mapE0_run {η : Nat → AB} {m : AV} {p : Option Nat} {es : List (AV × AV)} {K : Option Nat → List (AV × AV) → Prop} (h : mapE0 η m = some (p, es)) (hk : K p es) : mapN η m K := by
  unfold mapE0 at h; unfold mapN
  split at h
  · cases h; exact hk
  · split at h
    · rename_i hes; cases h; simp only [hes]; exact hk
    · cases h
  · cases h
def MOp.e (ev : AX → AV) (T : EH) : MOp → Option (AV × EH)
  | .mk => match T.push (.map []) with
    | some T' => some (.map T.nx, T')
    | none => none
  | .get ok kk zero m k => match mapE0 T.get (ev m) with
    | some (_, es) => bif keyOk kk (ev k) then (match mfind kk (ev k) es with
      | some r => some (mval ok zero r, T)
      | none => none) else none
    | none => none
  | .set kk m k v => match mapE0 T.get (ev m) with
    | some (some p, es) => bif keyOk kk (ev k) && noLoc (ev v) then (fvE (ev v) fun v => match mput kk (ev k) v es with
      | some es' => match T.put p (.map es') with
        | some T' => some (.any, T')
        | none => none
      | none => none) else none
    | _ => none
  | .del kk m k => match mapE0 T.get (ev m) with
    | some (some p, es) => bif keyOk kk (ev k) then (match mdel kk (ev k) es with
      | some es' => match T.put p (.map es') with
        | some T' => some (.tuple [], T')
        | none => none
      | none => none) else none
    | _ => none
  | .len m => match mapE0 T.get (ev m) with
    | some (_, es) => some (.int .i64 es.length, T)
    | none => none
  | .range _ => none
  | .next _ => none
  | .entry _ => none
theorem MOp.e_run {ev : AX → AV} {T T' : EH} {H : Heap} {o : MOp} {v : AV} (h : o.e ev T = some (v, T')) (R : RepH T H) : ∃ H', RepH T' H' ∧ ∀ K : AV → Heap → Prop, K v H' → o.run ev H K := by
  cases o <;> simp only [MOp.e, MOp.run, mkMapK_eq, mapK, setK_eq, R.get, fvE_eq, R.free, Bool.and_true] at h ⊢
  case mk =>
    split at h
    · rename_i T2 hT; cases h
      exact ⟨_, R.push hT, fun K hk => by rw [R.nx]; exact hk⟩
    · cases h
  case get ok kk zero m k =>
    split at h
    · rename_i p es hm
      cases hb : keyOk kk (ev k) <;> simp only [hb, cond_true, cond_false] at h
      · cases h
      · split at h
        · rename_i r hr; cases h
          exact ⟨H, R, fun K hk => mapE0_run hm (by simp only [cond_true]; exact ⟨r, hr, hk⟩)⟩
        · cases h
    · cases h
  case set kk m k x =>
    split at h
    · rename_i p es hm
      cases hb : (keyOk kk (ev k) && noLoc (ev x)) <;> simp only [hb, cond_true, cond_false] at h
      · cases h
      · split at h
        · rename_i es' hr
          split at h
          · rename_i T2 hT; cases h
            exact ⟨_, R.put hT, fun K hk => mapE0_run hm (by simp only [cond_true]; exact ⟨es', hr, hk⟩)⟩
          · cases h
        · cases h
    · cases h
  case del kk m k =>
    split at h
    · rename_i p es hm
      cases hb : keyOk kk (ev k) <;> simp only [hb, cond_true, cond_false] at h
      · cases h
      · split at h
        · rename_i es' hr
          split at h
          · rename_i T2 hT; cases h
            exact ⟨_, R.put hT, fun K hk => mapE0_run hm (by simp only [cond_true]; exact ⟨es', hr, hk⟩)⟩
          · cases h
        · cases h
    · cases h
  case range m => cases h
  case next m => cases h
  case entry m => cases h
  case len m =>
    split at h
    · rename_i p es hm; cases h
      exact ⟨H, R, fun K hk => mapE0_run hm hk⟩
    · cases h

def srcE (η : Nat → AB) (e : Nat) (x : AV) : Option (List AV × Nat) := match x with
  | .dslice cs n _ => if n * e ≤ cs.length then some (cs.take (n * e), n) else none
  | .nils => some ([], 0)
  | .slice k off n _ _ => match η k with
    | .cells cs => if off + n * e ≤ cs.length then some ((cs.drop off).take (n * e), n) else none
    | _ => none
  | _ => none
theorem srcE_run {η : Nat → AB} {e n : Nat} {x : AV} {l : List AV} {K : List AV → Nat → Prop} (h : srcE η e x = some (l, n)) (hk : K l n) : srcK η e x K := by
  unfold srcE at h; unfold srcK
  split at h
  · split at h
    · cases h; exact ⟨‹_›, hk⟩
    · cases h
  · cases h; exact hk
  · split at h
    · split at h
      · rename_i hcs _; cases h; simp only [hcs]; exact ⟨‹_›, hk⟩
      · cases h
    · cases h
  · cases h
instance (n bytes : Nat) : Decidable (fits n bytes) := by unfold fits; infer_instance
theorem all_scal {l : List AV} (h : l.all scal = true) : ∀ c ∈ l, scal c = true := by simpa using h
def DOp.e (ev : AX → AV) (η : Nat → AB) : DOp → Option AV
  | .bslice e len zero parts => match buildE ev (parts.map fun x => (x.1, e, x.2)) (rep zero len) with
    | some cs => bif noLocB cs then some (.dslice cs len (some len)) else none
    | none => none
  | .append e bytes s x => match ev s, ev x with
    | .dslice cs len cap, .dslice ds n _ => if cap = some len ∧ len * e ≤ cs.length ∧ n * e ≤ ds.length ∧ fits (len + n) bytes ∧ (ds.take (n * e)).all scal = true then some (.dslice (cs.take (len * e) ++ ds.take (n * e)) (len + n) none) else none
    | .dslice cs len cap, .nils => if cap = some len then some (.dslice cs len none) else none
    | .nils, .dslice ds n _ => if n * e ≤ ds.length ∧ fits n bytes ∧ (ds.take (n * e)).all scal = true then some (.dslice (ds.take (n * e)) n none) else none
    | _, _ => none
  | .asub e n x lo hi => match ev x with
    | .ptr k off => match η k with
      | .cells cs => match optE ev 0 lo, optE ev n hi with
        | some l, some h => if 0 ≤ l ∧ l < n ∧ l ≤ h ∧ h ≤ n ∧ off + n * e ≤ cs.length then some (.slice k (off + l.toNat * e) (h - l).toNat (some (n - l.toNat)) e) else none
        | _, _ => none
      | _ => none
    | .dptr cs => match optE ev 0 lo, optE ev n hi with
      | some l, some h => if 0 ≤ l ∧ l ≤ h ∧ h ≤ n then some (.dslice ((cs.drop (l.toNat * e)).take ((h - l).toNat * e)) (h - l).toNat (some (n - l.toNat))) else none
      | _, _ => none
    | _ => none
theorem DOp.e_run {ev : AX → AV} {η : Nat → AB} {o : DOp} {v : AV} {K : AV → Prop} (h : o.e ev η = some v) (hk : K v) : o.run ev η K := by
  cases o <;> simp only [DOp.e, DOp.run] at h ⊢
  case bslice e len zero parts =>
    split at h
    · rename_i cs hcs
      cases hb : noLocB cs <;> simp only [hb, cond_true, cond_false] at h
      · cases h
      · cases h; exact buildE_run hcs (by simp only [hb, cond_true]; exact hk)
    · cases h
  case append e bytes s x =>
    generalize ev s = vs at h ⊢
    generalize ev x = vx at h ⊢
    split at h
    · split at h
      · rename_i hp; cases h; exact ⟨⟨hp.1, hp.2.1, hp.2.2.1, hp.2.2.2.1, all_scal hp.2.2.2.2⟩, hk⟩
      · cases h
    · split at h
      · cases h; exact ⟨‹_›, hk⟩
      · cases h
    · split at h
      · rename_i hp; cases h; exact ⟨⟨hp.1, hp.2.1, all_scal hp.2.2⟩, hk⟩
      · cases h
    · cases h
  case asub e n x lo hi =>
    generalize hev : ev x = vx at h ⊢
    split at h
    · split at h
      · rename_i cs hcs
        split at h
        · rename_i l hh h1 h2
          split at h
          · cases h; simp only [hcs]; exact optE_run h1 (optE_run h2 ⟨‹_›, hk⟩)
          · cases h
        · cases h
      · cases h
    · split at h
      · rename_i l hh h1 h2
        split at h
        · cases h; exact optE_run h1 (optE_run h2 ⟨‹_›, hk⟩)
        · cases h
      · cases h
    · cases h

def LOp.e (ev : AX → AV) (cur : Nat → AB) (p : Nat) : LOp → Option (AV × AB × Option Nat)
  | .bslice e len zero parts => match buildE ev (parts.map fun x => (x.1, e, x.2)) (rep zero len) with
    | some cs => some (.slice p 0 len (some len) e, .cells cs, none)
    | none => none
  | .append e bytes s x => match srcE cur e (ev x) with
    | some (ds, n) => match ev s with
      | .slice k off len _ e' => match cur k with
        | .cells cs => if e' = e ∧ off = 0 ∧ cs.length = len * e ∧ fits (len + n) bytes ∧ ds.all scal = true then some (.slice p 0 (len + n) none e, .cells (cs ++ ds), some k) else none
        | _ => none
      | .dslice cs len cap => bif Nat.beq n 0 then some (.dslice cs len cap, .dead, none) else if cap = some len ∧ len * e ≤ cs.length ∧ fits (len + n) bytes ∧ ds.all scal = true then some (.slice p 0 (len + n) none e, .cells (cs.take (len * e) ++ ds), none) else none
      | .nils => bif Nat.beq n 0 then some (.nils, .dead, none) else if fits n bytes ∧ ds.all scal = true then some (.slice p 0 n none e, .cells ds, none) else none
      | _ => none
    | none => none
theorem LOp.e_run {ev : AX → AV} {cur : Nat → AB} {p : Nat} {o : LOp} {v : AV} {ab : AB} {kl : Option Nat} {K : AV → AB → Option Nat → Prop} (h : o.e ev cur p = some (v, ab, kl)) (hk : K v ab kl) : o.run ev cur cur p K := by
  cases o <;> simp only [LOp.e, LOp.run] at h ⊢
  case bslice e len zero parts =>
    split at h
    · rename_i cs hcs; cases h; exact buildE_run hcs hk
    · cases h
  case append e bytes s x =>
    split at h
    · rename_i ds n hsrc
      generalize ev s = vs at h ⊢
      unfold appN
      split at h
      · split at h
        · rename_i cs hcs
          split at h
          · rename_i hp; cases h
            simp only [appK, hcs]
            exact srcE_run hsrc ⟨⟨hp.1, hp.2.1, hp.2.2.1, hp.2.2.2.1, all_scal hp.2.2.2.2⟩, hk⟩
          · cases h
        · cases h
      · cases hb : Nat.beq n 0 <;> simp only [hb, cond_true, cond_false] at h
        · split at h
          · rename_i hp; cases h
            exact srcE_run hsrc (Branch.ofF (decide_eq_false (fun e => by subst e; cases hb)) ⟨⟨hp.1, hp.2.1, hp.2.2.1, all_scal hp.2.2.2⟩, hk⟩)
          · cases h
        · cases h
          exact srcE_run hsrc (Branch.ofT (decide_eq_true (Nat.eq_of_beq_eq_true hb)) hk)
      · cases hb : Nat.beq n 0 <;> simp only [hb, cond_true, cond_false] at h
        · split at h
          · rename_i hp; cases h
            exact srcE_run hsrc (Branch.ofF (decide_eq_false (fun e => by subst e; cases hb)) ⟨⟨hp.1, all_scal hp.2⟩, hk⟩)
          · cases h
        · cases h
          exact srcE_run hsrc (Branch.ofT (decide_eq_true (Nat.eq_of_beq_eq_true hb)) hk)
      · cases h
    · cases h
end Go.Eng

namespace Go.Eng
open Go

/-! #### Calls, guards, regions, code -/
abbrev CallE := FuncId → List AV → EH → Option (AV × EH)
structure CallOK (P : Program) (call : CallE) : Prop where
  ok : ∀ f vs T r T', call f vs T = some (r, T') → ∀ H, RepH T H → ∃ H', RepH T' H' ∧ ∀ K : AV → Heap → Prop, K r H' → CallA P f vs H K
def callD (call : CallE) (f : FuncId) (vs : List AV) : Option AV := match call f vs EH.nil with
  | some (r, T) => match pubE T.get 8 r with
    | some r' => bif noLocL vs && noLoc r' then some r' else none
    | none => none
  | none => none
theorem callD_run {P : Program} {call : CallE} (hc : CallOK P call) {f : FuncId} {vs : List AV} {r : AV} (h : callD call f vs = some r) {K : AV → Prop} (hk : K r) : QCallA P f vs K := by
  unfold callD at h
  split at h
  · rename_i r' T' hcall
    split at h
    · rename_i r2 hp
      cases hb : (noLocL vs && noLoc r2) <;> simp only [hb, cond_true, cond_false] at h
      · cases h
      · cases h
        simp only [Bool.and_eq_true] at hb
        obtain ⟨H', R', hK⟩ := hc.ok _ _ _ _ _ hcall _ RepH.nil
        refine QCallA.of (CallA.out 8 (hK (fun v H => v = r' ∧ H = H') ⟨rfl, rfl⟩) ?_) hb.1 hb.2 hk
        rintro v H ⟨rfl, rfl⟩
        exact ⟨_, by rw [R'.get]; exact hp, rfl, rfl⟩
    · cases h
  · cases h

section
variable (call : CallE)
def AOp.e (F : BT AV) (T : EH) : AOp → Option (AV × EH)
  | .m o => o.e (AX.eF F) T
  | .p o => match o.e (AX.eF F) with
    | some u => some (u, T)
    | none => none
  | .v o => match o.e (AX.eF F) with
    | some u => some (u, T)
    | none => none
  | .h o => o.e (AX.eF F) T
  | .d o => match o.e (AX.eF F) T.get with
    | some u => some (u, T)
    | none => none
  | .l o => match o.e (AX.eF F) T.get T.nx with
    | some (u, ab, kl) => forceN (T.nx + 1) fun n => match kl with
      | none => match EH.put ⟨n, T.bs⟩ T.nx ab with
        | some T' => some (u, T')
        | none => none
      | some k => match EH.put ⟨n, T.bs⟩ k .dead with
        | some T1 => match T1.put T.nx ab with
          | some T' => some (u, T')
          | none => none
        | none => none
    | none => none
  | .call f args => call f (mapE (AX.eF F) args) T
  | .callv x args => match x.eF F with
    | .func f caps => call f (mapE (AX.eF F) args ++ caps) T
    | _ => none
def AO.e (o : AO) (F : BT AV) (T : EH) : Option (BT AV × EH) := match o.guard with
  | none => match o.op.e call F T with
    | some (v, T') => match putE F o.dst v with
      | some F' => some (F', T')
      | none => none
    | none => none
  | some (s, want) => match AX.eF F (.t s) with
    | .bool b => bif b == want then (match o.op.e call F T with
      | some (v, T') => match putE F o.dst v with
        | some F' => some (F', T')
        | none => none
      | none => none) else (match putE F o.dst (.tuple []) with
      | some F' => some (F', T)
      | none => none)
    | .tuple [] => match putE F o.dst (.tuple []) with
      | some F' => some (F', T)
      | none => none
    | _ => none
def opsE : List AO → BT AV → EH → Option (BT AV × EH)
  | [], F, T => some (F, T)
  | o :: r, F, T => match o.e call F T with
    | some (F', T') => opsE r F' T'
    | none => none

def HOp.qe (ev : AX → AV) (η : Nat → AB) (p : Nat) : HOp → Option (AV × Ef)
  | .load agg n x => match ev x with
    | .dptr cs => match loadE agg n cs with
      | some v => some (v, [])
      | none => none
    | .ptr k off => match η k with
      | .cells cs => match loadE agg n (cs.drop off) with
        | some v => some (v, [])
        | none => none
      | _ => none
    | _ => none
  | .alloc zero => some (.ptr p 0, [(p, .cells zero)])
  | .box x => match cellsOf (ev x) with
    | some cs => some (.ptr p 0, [(p, .cells cs)])
    | none => none
  | .store n q x => match ev q with
    | .ptr k off => match η k with
      | .cells cs => match cellsOf (ev x) with
        | some vs => bif Nat.beq vs.length n then (match lputE cs off vs with
          | some cs' => some (.any, [(k, .cells cs')])
          | none => none) else none
        | none => none
      | _ => none
    | _ => none
def MOp.qe (ev : AX → AV) (η : Nat → AB) : MOp → Option (AV × Ef)
  | .mk => none
  | .get ok kk zero m k => match mapE0 η (ev m) with
    | some (_, es) => bif keyOk kk (ev k) then (match mfind kk (ev k) es with
      | some r => some (mval ok zero r, [])
      | none => none) else none
    | none => none
  | .set kk m k v => match mapE0 η (ev m) with
    | some (some p, es) => bif keyOk kk (ev k) && noLoc (ev v) then (match mput kk (ev k) (ev v) es with
      | some es' => some (.any, [(p, .map es')])
      | none => none) else none
    | _ => none
  | .del kk m k => match mapE0 η (ev m) with
    | some (some p, es) => bif keyOk kk (ev k) then (match mdel kk (ev k) es with
      | some es' => some (.tuple [], [(p, .map es')])
      | none => none) else none
    | _ => none
  | .range _ => none
  | .next _ => none
  | .entry _ => none
  | .len m => match mapE0 η (ev m) with
    | some (_, es) => some (.int .i64 es.length, [])
    | none => none
def AOp.qe (ev : AX → AV) (η : Nat → AB) (p : Nat) : AOp → Option (AV × Ef)
  | .m o => o.qe ev η
  | .p o => match o.e ev with
    | some u => some (u, [])
    | none => none
  | .v o => match o.e ev with
    | some u => some (u, [])
    | none => none
  | .h o => o.qe ev η p
  | .d o => match o.e ev η with
    | some u => some (u, [])
    | none => none
  | .l o => match o.e ev η p with
    | some (u, cs, kl) => some (u, efL p cs kl)
    | none => none
  | .call f args => match callD call f (mapE ev args) with
    | some r => some (r, [])
    | none => none
  | .callv x args => match ev x with
    | .func f caps => match callD call f (mapE ev args ++ caps) with
      | some r => some (r, [])
      | none => none
    | _ => none
def layE (T : EH) : Ef → Option EH
  | [] => some T
  | (k, x) :: r => match T.put k x with
    | some T' => layE T' r
    | none => none
def logE (dep : List (Nat × Nat)) (i : Nat) (F W : List Nat) (L : List En) : Option (List En) := match F, W with
  | [], [] => some L
  | F, W => bif okLog dep ⟨i, F, W⟩ L then some (⟨i, F, W⟩ :: L) else none
def qwalkE (dep : List (Nat × Nat)) : List AO → Nat → Nat → List En → BT AV → EH → Option (BT AV × EH)
  | [], _, _, _, F, T => some (F, T)
  | q :: r, i, p, L, F, T => match (match q.guard with
      | none => some true
      | some (s, want) => match AX.eF F (.t s) with
        | .bool b => some (b == want)
        | .tuple [] => some false
        | _ => none) with
    | some true => match q.op.qe call (AX.eF F) T.get p with
      | some (v, b) => match logE dep i (q.op.foot (AX.eF F)) (keys b) L with
        | some L' => match putE F q.dst v with
          | some F' => match layE T b with
            | some T' => forceN (i + 1) fun i' => forceN (p + 1) fun p' => qwalkE dep r i' p' L' F' T'
            | none => none
          | none => none
        | none => none
      | none => none
    | some false => match putE F q.dst (.tuple []) with
      | some F' => forceN (i + 1) fun i' => forceN (p + 1) fun p' => qwalkE dep r i' p' L F' T
      | none => none
    | none => none

def loopE (step : BT AV → EH → Option (XA × BT AV × EH)) : Nat → BT AV → EH → Option (XA × BT AV × EH)
  | 0, _, _ => none
  | k + 1, F, T => match step F T with
    | some (.normal, F', T') => loopE step k F' T'
    | r => r
def AC.e (lf : Nat) : AC → BT AV → EH → Option (XA × BT AV × EH)
  | .skip, F, T => some (.normal, F, T)
  | .ret, F, T => some (.ret, F, T)
  | .exit id, F, T => some (.exit id, F, T)
  | .reg ops, F, T => match opsE call ops F T with
    | some (F', T') => some (.normal, F', T')
    | none => none
  | .draw m dep ops, F, T => forceN (T.nx + m) fun n => match qwalkE call dep (ops.take m) 0 T.nx [] F ⟨n, T.bs⟩ with
    | some (F', T') => match opsE call (ops.drop m) F' T' with
      | some (F'', T'') => some (.normal, F'', T'')
      | none => none
    | none => none
  | .seq a b, F, T => match a.e lf F T with
    | some (.normal, F', T') => b.e lf F' T'
    | r => r
  | .cond c a b, F, T => match c.eF F with
    | .bool t => match t with
      | true => a.e lf F T
      | false => b.e lf F T
    | _ => none
  | .block id a, F, T => match a.e lf F T with
    | some (.exit j, F', T') => bif Nat.beq j id then some (.normal, F', T') else some (.exit j, F', T')
    | r => r
  | .loop a, F, T => loopE (fun F T => a.e lf F T) lf F T
  | .ghost a, F, T => a.e lf F T
def resE (F : BT AV) (T : EH) : List AR → Option (List AV)
  | [] => some []
  | .tmp t :: r => match resE F T r with
    | some vs => some (AX.eF F (.t t) :: vs)
    | none => none
  | .cell t agg n :: r => match AX.eF F (.t t) with
    | .ptr k off => match T.get k with
      | .cells cs => match loadE agg n (cs.drop off) with
        | some v => match resE F T r with
          | some vs => some (v :: vs)
          | none => none
        | none => none
      | _ => none
    | _ => none
def frameE : Nat → List AV → Option (BT AV)
  | _, [] => some .nil
  | i, v :: r => match frameE (i + 1) r with
    | some F => putE F (some i) v
    | none => none
end

/-- A function's text, by number. -/
structure FE where
  f : FuncId
  N : Nat
  ac : AC
  rs : List AR
def findE : List FE → FuncId → Option FE
  | [], _ => none
  | e :: r, f => bif Nat.beq e.f f then some e else findE r f
def runE (tbl : List FE) (lf : Nat) : Nat → CallE
  | 0, _, _, _ => none
  | n + 1, f, vs, T => match findE tbl f with
    | some e => bif Nat.ble vs.length e.N then (match frameE 0 vs with
      | some F => match e.ac.e (runE tbl lf n) lf F T with
        | some (.exit _, _, _) => none
        | some (_, F', T') => match resE F' T' e.rs with
          | some rs => some (one rs, T')
          | none => none
        | none => none
      | none => none) else none
    | none => none

/-! #### Soundness -/
section
variable {P : Program} {call : CallE}
theorem AOp.e_run (hc : CallOK P call) {F : BT AV} {fr : Fr} {T T' : EH} {H : Heap} {o : AOp} {v : AV} (h : o.e call F T = some (v, T')) (RF : RepF F fr) (R : RepH T H) : ∃ H', RepH T' H' ∧ ∀ K : AV → Heap → Prop, K v H' → o.run P fr H K := by
  cases o <;> simp only [AOp.e, AOp.run, newK0_eq, RF.ev, fvs_eq, mapE_eq] at h ⊢
  case m o => exact MOp.e_run h R
  case p o =>
    split at h
    · rename_i u hu; cases h; exact ⟨H, R, fun K hk => o.e_run hu hk⟩
    · cases h
  case v o =>
    split at h
    · rename_i u hu; cases h; exact ⟨H, R, fun K hk => o.e_run hu hk⟩
    · cases h
  case h o => exact HOp.e_run h R
  case d o =>
    split at h
    · rename_i u hu; cases h; exact ⟨H, R, fun K hk => by rw [R.get]; exact o.e_run hu hk⟩
    · cases h
  case l o =>
    split at h
    · rename_i u ab kl hu
      rw [forceN_eq] at h
      have R1 : RepH ⟨T.nx + 1, T.bs⟩ ⟨H.nx + 1, H.bs⟩ := ⟨by simp [R.nx], R.get, R.noit⟩
      split at h
      · split at h
        · rename_i T2 hp; cases h
          refine ⟨_, R1.put hp, fun K hk => ?_⟩
          rw [R.get, R.nx]
          refine LOp.e_run hu ?_
          rw [← R.nx] at hk ⊢; exact hk
        · cases h
      · split at h
        · rename_i T1 h1
          split at h
          · rename_i T2 h2; cases h
            refine ⟨_, (R1.put h1).put h2, fun K hk => ?_⟩
            rw [R.get, R.nx]
            refine LOp.e_run hu ?_
            rw [← R.nx] at hk ⊢; exact hk
          · cases h
        · cases h
    · cases h
  case call f args =>
    obtain ⟨H', R', hK⟩ := hc.ok _ _ _ _ _ h H R
    exact ⟨H', R', hK⟩
  case callv x args =>
    rw [← RF.ev] at h
    rw [← RF.ev]
    generalize AX.ev fr x = vx at h ⊢
    split at h
    · obtain ⟨H', R', hK⟩ := hc.ok _ _ _ _ _ h H R
      exact ⟨H', R', hK⟩
    · cases h
theorem AX.eF_look {F : BT AV} {fr : Fr} (RF : RepF F fr) (s : Nat) : AX.eF F (.t s) = look fr s := by
  have := congrFun RF.ev (.t s); exact this.symm
theorem AO.e_run (hc : CallOK P call) {F F' : BT AV} {fr : Fr} {T T' : EH} {H : Heap} {o : AO} (h : o.e call F T = some (F', T')) (RF : RepF F fr) (R : RepH T H) :
    ∃ fr' H', RepF F' fr' ∧ RepH T' H' ∧ ∀ K : Fr → Heap → Prop, K fr' H' → o.run P fr H K := by
  unfold AO.e at h; unfold AO.run
  simp only [putK_eq]
  split at h
  · rename_i hg
    split at h
    · rename_i v T1 hv
      split at h
      · rename_i F1 hF; cases h
        obtain ⟨H', R', hK⟩ := AOp.e_run hc hv RF R
        exact ⟨_, H', RF.put hF, R', fun K hk => by simp only [hg]; exact hK _ hk⟩
      · cases h
    · cases h
  · rename_i s want hg
    rw [AX.eF_look RF] at h
    split at h
    · rename_i b hb
      cases hw : b == want <;> simp only [hw, cond_true, cond_false] at h
      · split at h
        · rename_i F1 hF; cases h
          refine ⟨_, H, (RF.know hb).put hF, R, fun K hk => ?_⟩
          simp only [hg, hb]
          cases b <;> cases want <;> first | (cases hw; done) | exact Branch.ofT rfl hk | exact Branch.ofF rfl hk
        · cases h
      · split at h
        · rename_i v T1 hv
          split at h
          · rename_i F1 hF; cases h
            obtain ⟨H', R', hK⟩ := AOp.e_run hc hv (RF.know hb) R
            refine ⟨_, H', (RF.know hb).put hF, R', fun K hk => ?_⟩
            simp only [hg, hb]
            cases b <;> cases want <;> first | (cases hw; done) | exact Branch.ofT rfl (hK _ hk) | exact Branch.ofF rfl (hK _ hk)
          · cases h
        · cases h
    · rename_i hb
      split at h
      · rename_i F1 hF; cases h
        exact ⟨_, H, RF.put hF, R, fun K hk => by simp only [hg, hb]; exact hk⟩
      · cases h
    · cases h
theorem opsE_run (hc : CallOK P call) : ∀ {l : List AO} {F F' : BT AV} {fr : Fr} {T T' : EH} {H : Heap}, opsE call l F T = some (F', T') → RepF F fr → RepH T H →
    ∃ fr' H', RepF F' fr' ∧ RepH T' H' ∧ ∀ K : Fr → Heap → Prop, K fr' H' → runOps P K l fr H
  | [], F, F', fr, T, T', H, h, RF, R => by
    simp only [opsE] at h; cases h; exact ⟨fr, H, RF, R, fun K hk => hk⟩
  | o :: r, F, F', fr, T, T', H, h, RF, R => by
    simp only [opsE] at h
    split at h
    · rename_i F1 T1 h1
      obtain ⟨fr1, H1, RF1, R1, hK1⟩ := AO.e_run hc h1 RF R
      obtain ⟨fr2, H2, RF2, R2, hK2⟩ := opsE_run hc h RF1 R1
      exact ⟨fr2, H2, RF2, R2, fun K hk => hK1 _ (hK2 K hk)⟩
    · cases h
theorem HOp.qe_run {ev : AX → AV} {η : Nat → AB} {p : Nat} {o : HOp} {v : AV} {b : Ef} (h : o.qe ev η p = some (v, b)) {K : AV → Ef → Prop} (hk : K v b) : o.q ev η p K := by
  cases o <;> simp only [HOp.qe, HOp.q] at h ⊢
  case load agg n x =>
    generalize ev x = vx at h ⊢
    split at h
    · split at h
      · rename_i u hu; cases h; exact loadE_run hu hk
      · cases h
    · split at h
      · rename_i cs hcs
        split at h
        · rename_i u hu; cases h
          simp only [hcs]; exact loadE_run hu hk
        · cases h
      · cases h
    · cases h
  case alloc zero => cases h; exact hk
  case box x =>
    split at h
    · rename_i l hl; cases h; simp only [hl]; exact hk
    · cases h
  case store n q x =>
    generalize ev q = vp at h ⊢
    split at h
    · split at h
      · rename_i cs hcs
        split at h
        · rename_i l hl
          cases hb : Nat.beq l.length n <;> simp only [hb, cond_true, cond_false] at h
          · cases h
          · split at h
            · rename_i cs' hp; cases h
              simp only [hcs, hl, hb, cond_true]; exact lputE_run hp hk
            · cases h
        · cases h
      · cases h
    · cases h
theorem MOp.qe_run {ev : AX → AV} {η : Nat → AB} {o : MOp} {v : AV} {b : Ef} (h : o.qe ev η = some (v, b)) {K : AV → Ef → Prop} (hk : K v b) : o.q ev η K := by
  cases o <;> simp only [MOp.qe, MOp.q] at h ⊢
  case mk => cases h
  case get ok kk zero m k =>
    split at h
    · rename_i p es hm
      cases hb : keyOk kk (ev k) <;> simp only [hb, cond_true, cond_false] at h
      · cases h
      · split at h
        · rename_i r hr; cases h
          exact mapE0_run hm (by simp only [cond_true]; exact ⟨r, hr, hk⟩)
        · cases h
    · cases h
  case set kk m k x =>
    split at h
    · rename_i p es hm
      cases hb : (keyOk kk (ev k) && noLoc (ev x)) <;> simp only [hb, cond_true, cond_false] at h
      · cases h
      · split at h
        · rename_i es' hr; cases h
          exact mapE0_run hm (by simp only [cond_true]; exact ⟨es', hr, hk⟩)
        · cases h
    · cases h
  case del kk m k =>
    split at h
    · rename_i p es hm
      cases hb : keyOk kk (ev k) <;> simp only [hb, cond_true, cond_false] at h
      · cases h
      · split at h
        · rename_i es' hr; cases h
          exact mapE0_run hm (by simp only [cond_true]; exact ⟨es', hr, hk⟩)
        · cases h
    · cases h
  case range m => cases h
  case next m => cases h
  case entry m => cases h
  case len m =>
    split at h
    · rename_i p es hm; cases h
      exact mapE0_run hm hk
    · cases h
theorem AOp.qe_run (hc : CallOK P call) {ev : AX → AV} {η : Nat → AB} {p : Nat} {o : AOp} {v : AV} {b : Ef} (h : o.qe call ev η p = some (v, b)) {K : AV → Ef → Prop} (hk : K v b) : o.q P ev η p K := by
  cases o <;> simp only [AOp.qe, AOp.q, fvs_eq, mapE_eq] at h ⊢
  case m o => exact MOp.qe_run h hk
  case p o =>
    split at h
    · rename_i u hu; cases h; exact o.e_run hu hk
    · cases h
  case v o =>
    split at h
    · rename_i u hu; cases h; exact o.e_run hu hk
    · cases h
  case h o => exact HOp.qe_run h hk
  case d o =>
    split at h
    · rename_i u hu; cases h; exact o.e_run hu hk
    · cases h
  case l o =>
    split at h
    · rename_i u cs kl hu; cases h; exact LOp.e_run hu hk
    · cases h
  case call f args =>
    split at h
    · rename_i r hr; cases h; exact callD_run hc hr hk
    · cases h
  case callv x args =>
    generalize ev x = vx at h ⊢
    split at h
    · split at h
      · rename_i r hr; cases h; exact callD_run hc hr hk
      · cases h
    · cases h
theorem layE_run : ∀ {b : Ef} {T T' : EH} {H : Heap}, layE T b = some T' → RepH T H → RepH T' (layH H b)
  | [], T, T', H, h, R => by simp only [layE] at h; cases h; exact R
  | (k, x) :: r, T, T', H, h, R => by
    simp only [layE] at h
    split at h
    · rename_i T1 h1; exact layE_run (H := H.set k x) h (R.put h1)
    · cases h
theorem logE_run {dep : List (Nat × Nat)} {i : Nat} {F W : List Nat} {L L' : List En} (h : logE dep i F W L = some L') {K : List En → Prop} (hk : K L') : logK dep i F W L K := by
  unfold logE at h; unfold logK
  split at h
  · cases h; exact hk
  · split
    · rename_i hn; exact absurd rfl (hn rfl)
    · cases hb : okLog dep ⟨i, F, W⟩ L <;> simp only [hb, cond_true, cond_false] at h ⊢
      · cases h
      · cases h; exact hk
theorem qwalkE_run (hc : CallOK P call) {dep : List (Nat × Nat)} : ∀ {l : List AO} {i p : Nat} {L : List En} {F F' : BT AV} {fr : Fr} {T T' : EH} {H : Heap}, qwalkE call dep l i p L F T = some (F', T') → RepF F fr → RepH T H →
    ∃ fr' H', RepF F' fr' ∧ RepH T' H' ∧ ∀ K : Fr → Heap → Prop, K fr' H' → qwalk P dep K l i p L fr H
  | [], i, p, L, F, F', fr, T, T', H, h, RF, R => by
    simp only [qwalkE] at h; cases h; exact ⟨fr, H, RF, R, fun K hk => hk⟩
  | q :: r, i, p, L, F, F', fr, T, T', H, h, RF, R => by
    simp only [qwalkE, AX.eF_look RF] at h
    -- an operation that is done
    have go : ∀ fr0, RepF F fr0 → (match q.op.qe call (AX.eF F) T.get p with
      | some (v, b) => match logE dep i (q.op.foot (AX.eF F)) (keys b) L with
        | some L' => match putE F q.dst v with
          | some F' => match layE T b with
            | some T' => forceN (i + 1) fun i' => forceN (p + 1) fun p' => qwalkE call dep r i' p' L' F' T'
            | none => none
          | none => none
        | none => none
      | none => none) = some (F', T') → ∃ fr' H', RepF F' fr' ∧ RepH T' H' ∧ ∀ K : Fr → Heap → Prop, K fr' H' →
        q.op.q P (AX.ev fr0) H.get p fun v b => logK dep i (q.op.foot (AX.ev fr0)) (keys b) L fun L => qwalk P dep K r (i + 1) (p + 1) L (put fr0 q.dst v) (layH H b) := by
      intro fr0 RF0 h
      split at h
      · rename_i v b hv
        split at h
        · rename_i L1 hL
          split at h
          · rename_i F1 hF
            split at h
            · rename_i T1 hT
              simp only [forceN_eq] at h
              obtain ⟨fr2, H2, RF2, R2, hK⟩ := qwalkE_run hc h (RF0.put hF) (layE_run hT R)
              refine ⟨fr2, H2, RF2, R2, fun K hk => ?_⟩
              rw [RF0.ev, R.get]
              exact AOp.qe_run hc hv (logE_run hL (hK K hk))
            · cases h
          · cases h
        · cases h
      · cases h
    have skip : ∀ fr0, RepF F fr0 → (match putE F q.dst (.tuple []) with
      | some F' => forceN (i + 1) fun i' => forceN (p + 1) fun p' => qwalkE call dep r i' p' L F' T
      | none => none) = some (F', T') → ∃ fr' H', RepF F' fr' ∧ RepH T' H' ∧ ∀ K : Fr → Heap → Prop, K fr' H' →
        qwalk P dep K r (i + 1) (p + 1) L (put fr0 q.dst (.tuple [])) H := by
      intro fr0 RF0 h
      split at h
      · rename_i F1 hF
        simp only [forceN_eq] at h
        exact qwalkE_run hc h (RF0.put hF) R
      · cases h
    simp only [qwalk_cons, qstep, layK_eq, putK_eq]
    cases hg : q.guard with
    | none =>
      simp only [hg] at h
      obtain ⟨fr', H', a, b, hK⟩ := go fr RF h
      exact ⟨fr', H', a, b, hK⟩
    | some sw =>
      obtain ⟨s, want⟩ := sw
      simp only [hg] at h
      cases hb : look fr s <;> simp only [hb] at h ⊢ <;> try (cases h; done)
      case bool b =>
        cases b <;> cases want <;> simp only [show (false == false) = true from rfl, show (true == true) = true from rfl, show (false == true) = false from rfl, show (true == false) = false from rfl] at h
        · obtain ⟨fr', H', a, b, hK⟩ := go _ (RF.know hb) h
          exact ⟨fr', H', a, b, fun K hk => Branch.ofF rfl (hK K hk)⟩
        · obtain ⟨fr', H', a, b, hK⟩ := skip _ (RF.know hb) h
          exact ⟨fr', H', a, b, fun K hk => Branch.ofF rfl (hK K hk)⟩
        · obtain ⟨fr', H', a, b, hK⟩ := skip _ (RF.know hb) h
          exact ⟨fr', H', a, b, fun K hk => Branch.ofT rfl (hK K hk)⟩
        · obtain ⟨fr', H', a, b, hK⟩ := go _ (RF.know hb) h
          exact ⟨fr', H', a, b, fun K hk => Branch.ofT rfl (hK K hk)⟩
      case tuple cs =>
        cases cs with
        | nil =>
          simp only at h ⊢
          obtain ⟨fr', H', a, b, hK⟩ := skip _ RF h
          exact ⟨fr', H', a, b, hK⟩
        | cons c cs => simp only at h; cases h
theorem loopE_run {n : Nat} {body : (XA → Fr → Heap → Prop) → Fr → Heap → Prop} {step : BT AV → EH → Option (XA × BT AV × EH)}
    (hs : ∀ F T x F' T', step F T = some (x, F', T') → ∀ fr H, RepF F fr → RepH T H → ∃ fr' H', RepF F' fr' ∧ RepH T' H' ∧ ∀ Q : XA → Fr → Heap → Prop, Q x fr' H' → body Q fr H) :
    ∀ (k : Nat) {F F' : BT AV} {fr : Fr} {T T' : EH} {H : Heap} {x : XA}, loopE step k F T = some (x, F', T') → RepF F fr → RepH T H →
      ∃ j fr' H', k = j + 1 ∧ RepF F' fr' ∧ RepH T' H' ∧ ∀ Q : XA → Fr → Heap → Prop, Q x fr' H' → body (lpost n Q j (LoopI n body Q j)) fr H
  | 0, _, _, _, _, _, _, _, h, _, _ => by simp [loopE] at h
  | k + 1, F, F', fr, T, T', H, x, h, RF, R => by
    simp only [loopE] at h
    split at h
    · rename_i F1 T1 h1
      obtain ⟨fr1, H1, RF1, R1, hK1⟩ := hs _ _ _ _ _ h1 fr H RF R
      obtain ⟨j, fr2, H2, rfl, RF2, R2, hK2⟩ := loopE_run (n := n) hs k h RF1 R1
      refine ⟨j + 1, fr2, H2, rfl, RF2, R2, fun Q hq => hK1 _ ?_⟩
      exact ⟨j, Nat.lt_succ_self _, To.refl (.inl ⟨rfl, hK2 Q hq⟩)⟩
    · rename_i hne
      obtain ⟨fr1, H1, RF1, R1, hK1⟩ := hs _ _ _ _ _ h fr H RF R
      refine ⟨k, fr1, H1, rfl, RF1, R1, fun Q hq => hK1 _ ?_⟩
      cases x with
      | normal => exact absurd h (hne _ _)
      | exit id => exact hq
      | ret => exact hq
theorem AC.e_run (hc : CallOK P call) {n lf : Nat} : ∀ (ac : AC) {F F' : BT AV} {fr : Fr} {T T' : EH} {H : Heap} {x : XA}, ac.e call lf F T = some (x, F', T') → RepF F fr → RepH T H →
    ∃ fr' H', RepF F' fr' ∧ RepH T' H' ∧ ∀ Q : XA → Fr → Heap → Prop, Q x fr' H' → ac.run P n Q fr H
  | .skip, _, _, fr, _, _, H, _, h, RF, R => by simp only [AC.e] at h; cases h; exact ⟨fr, H, RF, R, fun Q hq => hq⟩
  | .ret, _, _, fr, _, _, H, _, h, RF, R => by simp only [AC.e] at h; cases h; exact ⟨fr, H, RF, R, fun Q hq => hq⟩
  | .exit id, _, _, fr, _, _, H, _, h, RF, R => by simp only [AC.e] at h; cases h; exact ⟨fr, H, RF, R, fun Q hq => hq⟩
  | .reg ops, _, _, fr, _, _, H, _, h, RF, R => by
    simp only [AC.e] at h
    split at h
    · rename_i F1 T1 h1; cases h
      obtain ⟨fr1, H1, RF1, R1, hK⟩ := opsE_run hc h1 RF R
      exact ⟨fr1, H1, RF1, R1, fun Q hq => hK (Q .normal) hq⟩
    · cases h
  | .draw m dep ops, _, _, fr, T, _, H, _, h, RF, R => by
    simp only [AC.e, forceN_eq] at h
    split at h
    · rename_i F1 T1 h1
      split at h
      · rename_i F2 T2 h2; cases h
        obtain ⟨fr1, H1, RF1, R1, hK1⟩ := qwalkE_run hc h1 RF (H := ⟨H.nx + m, H.bs⟩) ⟨by simp [R.nx], R.get, R.noit⟩
        obtain ⟨fr2, H2, RF2, R2, hK2⟩ := opsE_run hc h2 RF1 R1
        refine ⟨fr2, H2, RF2, R2, fun Q hq => ?_⟩
        have := hK1 (fun fr H => runOps P (Q .normal) (ops.drop m) fr H) (hK2 _ hq)
        rw [← R.nx] at this
        have hsf : setFree (ops.take m) H.get H.nx = true := by
          rw [setFree, noIts_of (fun j => isIt_of (R.noit j))]; simp
        show (bif setFree (ops.take m) H.get H.nx then _ else False)
        rw [hsf]
        exact this
      · cases h
    · cases h
  | .seq a b, _, _, fr, _, _, H, x, h, RF, R => by
    simp only [AC.e] at h
    split at h
    · rename_i F1 T1 h1
      obtain ⟨fr1, H1, RF1, R1, hK1⟩ := AC.e_run hc a h1 RF R
      obtain ⟨fr2, H2, RF2, R2, hK2⟩ := AC.e_run hc b h RF1 R1
      exact ⟨fr2, H2, RF2, R2, fun Q hq => hK1 _ (hK2 Q hq)⟩
    · rename_i hne
      obtain ⟨fr1, H1, RF1, R1, hK1⟩ := AC.e_run hc a h RF R
      refine ⟨fr1, H1, RF1, R1, fun Q hq => hK1 _ ?_⟩
      cases x with
      | normal => exact absurd h (hne _ _)
      | exit id => exact hq
      | ret => exact hq
  | .cond c a b, F, _, fr, _, _, H, _, h, RF, R => by
    simp only [AC.e] at h
    simp only [AC.run_cond, RF.ev]
    generalize AX.eF F c = vc at h ⊢
    cases vc <;> simp only at h ⊢ <;> try (cases h; done)
    rename_i t
    cases t <;> simp only at h
    · obtain ⟨fr1, H1, RF1, R1, hK1⟩ := AC.e_run hc b h RF R
      exact ⟨fr1, H1, RF1, R1, fun Q hq => Branch.ofF rfl (hK1 Q hq)⟩
    · obtain ⟨fr1, H1, RF1, R1, hK1⟩ := AC.e_run hc a h RF R
      exact ⟨fr1, H1, RF1, R1, fun Q hq => Branch.ofT rfl (hK1 Q hq)⟩
  | .block id a, _, _, fr, _, _, H, x, h, RF, R => by
    simp only [AC.e] at h
    split at h
    · rename_i j F1 T1 h1
      obtain ⟨fr1, H1, RF1, R1, hK1⟩ := AC.e_run hc a h1 RF R
      cases hb : Nat.beq j id <;> simp only [hb, cond_true, cond_false] at h <;> cases h
      · exact ⟨fr1, H1, RF1, R1, fun Q hq => hK1 (blockK id Q) (by simp only [blockK, hb, cond_false]; exact hq)⟩
      · exact ⟨fr1, H1, RF1, R1, fun Q hq => hK1 (blockK id Q) (by simp only [blockK, hb, cond_true]; exact hq)⟩
    · rename_i hne
      obtain ⟨fr1, H1, RF1, R1, hK1⟩ := AC.e_run hc a h RF R
      refine ⟨fr1, H1, RF1, R1, fun Q hq => hK1 _ ?_⟩
      cases x with
      | normal => exact hq
      | exit id => exact absurd h (hne _ _ _)
      | ret => exact hq
  | .loop a, _, _, fr, _, _, H, _, h, RF, R => by
    simp only [AC.e] at h
    obtain ⟨j, fr1, H1, _, RF1, R1, hK⟩ := loopE_run (n := n) (body := a.run P n) (fun F T x F' T' hs fr H RF R => AC.e_run hc a hs RF R) lf h RF R
    exact ⟨fr1, H1, RF1, R1, fun Q hq => LoopA.unroll n (a.run P n) Q j (hK Q hq)⟩
  | .ghost a, _, _, fr, _, _, H, _, h, RF, R => by
    simp only [AC.e] at h
    obtain ⟨fr1, H1, RF1, R1, hK1⟩ := AC.e_run hc a h RF R
    exact ⟨fr1, H1, RF1, R1, fun Q hq => To.refl (hK1 Q hq)⟩
theorem resE_run {F : BT AV} {fr : Fr} {T : EH} {H : Heap} (RF : RepF F fr) (R : RepH T H) : ∀ {rs : List AR} {vs : List AV}, resE F T rs = some vs → ∀ {K : List AV → Prop}, K vs → resK fr H rs K
  | [], _, h, K, hk => by simp only [resE] at h; cases h; exact hk
  | .tmp t :: r, _, h, K, hk => by
    simp only [resE, AX.eF_look RF] at h
    split at h
    · rename_i vs hv; cases h
      simp only [resK, fv_eq]
      exact resE_run RF R hv hk
    · cases h
  | .cell t agg n :: r, _, h, K, hk => by
    simp only [resE, AX.eF_look RF] at h
    simp only [resK]
    generalize look fr t = vt at h ⊢
    cases vt <;> simp only at h ⊢ <;> try (cases h; done)
    rw [← R.get] at h
    rename_i k off
    generalize H.get k = b at h ⊢
    cases b <;> simp only at h ⊢ <;> try (cases h; done)
    split at h
    · rename_i v hv
      split at h
      · rename_i vs hvs; cases h
        exact loadE_run hv (resE_run RF R hvs hk)
      · cases h
    · cases h
theorem frameE_rep : ∀ {vs : List AV} {i : Nat} {F : BT AV}, frameE i vs = some F → RepF F (frame0 i vs)
  | [], _, _, h => by simp only [frameE] at h; cases h; exact ⟨fun _ => rfl⟩
  | v :: r, i, F, h => by
    simp only [frameE] at h
    split at h
    · rename_i F1 h1; exact (frameE_rep h1).put h
    · cases h
theorem findE_spec : ∀ {tbl : List FE} {f : FuncId} {e : FE}, findE tbl f = some e → e ∈ tbl ∧ e.f = f
  | [], _, _, h => by simp [findE] at h
  | e :: r, f, e', h => by
    simp only [findE] at h
    cases hb : Nat.beq e.f f <;> simp only [hb, cond_true, cond_false] at h
    · have := findE_spec h; exact ⟨List.mem_cons_of_mem _ this.1, this.2⟩
    · cases h; exact ⟨List.mem_cons_self .., Nat.eq_of_beq_eq_true hb⟩
/-- **A RUN BY COMPUTING STANDS FOR A CALL.** -/
theorem runE_ok {tbl : List FE} (htbl : ∀ e ∈ tbl, okF P e.f e.N e.ac e.rs = true) (lf : Nat) : ∀ n, CallOK P (runE tbl lf n)
  | 0 => ⟨fun f vs T r T' h => by simp [runE] at h⟩
  | n + 1 => ⟨fun f vs T r T' h H R => by
    simp only [runE] at h
    split at h
    · rename_i e he
      obtain ⟨hm, rfl⟩ := findE_spec he
      cases hb : Nat.ble vs.length e.N <;> simp only [hb, cond_true, cond_false] at h
      · cases h
      · split at h
        · rename_i F hF
          have hc := runE_ok htbl lf n
          split at h
          · cases h
          · rename_i x F' T1 hne hx
            split at h
            · rename_i rs hrs; cases h
              obtain ⟨fr1, H1, RF1, R1, hK⟩ := AC.e_run hc (n := H.nx) e.ac hx (frameE_rep hF) R
              refine ⟨H1, R1, fun K hk => callA_of (htbl e hm) (Nat.le_of_ble_eq_true hb) (hK _ ?_)⟩
              cases x with
              | normal => exact resE_run RF1 R1 hrs (RetA.same hk)
              | exit id => exact (hne _ rfl).elim
              | ret => exact resE_run RF1 R1 hrs (RetA.same hk)
            · cases h
          · cases h
        · cases h
    · cases h⟩
def okAll (P : Program) : List FE → Prop
  | [] => True
  | e :: r => okF P e.f e.N e.ac e.rs = true ∧ okAll P r
theorem okAll_spec : ∀ {tbl : List FE}, okAll P tbl → ∀ e ∈ tbl, okF P e.f e.N e.ac e.rs = true
  | [], _, e, he => by cases he
  | e :: r, h, e', he => by
    rcases List.mem_cons.1 he with rfl | he
    · exact h.1
    · exact okAll_spec h.2 e' he
/-- A run's result, of data alone. -/
def resultE (tbl : List FE) (lf n : Nat) (f : FuncId) (vs : List AV) : Option AV := match runE tbl lf n f vs EH.nil with
  | some (r, T) => pubE T.get 8 r
  | none => none
theorem CallA.computed {tbl : List FE} (htbl : okAll P tbl) (lf n : Nat) {f : FuncId} {vs : List AV} {r : AV} (h : resultE tbl lf n f vs = some r) :
    CallA P f vs Heap.nil fun v H' => v = r ∧ H' = Heap.nil := by
  unfold resultE at h
  split at h
  · rename_i r' T' hrun
    obtain ⟨H', R', hK⟩ := (runE_ok (okAll_spec htbl) lf n).ok _ _ _ _ _ hrun _ RepH.nil
    refine CallA.out 8 (hK (fun v H => v = r' ∧ H = H') ⟨rfl, rfl⟩) ?_
    rintro v H ⟨rfl, rfl⟩
    exact ⟨_, by rw [R'.get]; exact h, rfl, rfl⟩
  · cases h
end
end Go.Eng

set_option maxRecDepth 100000
set_option maxHeartbeats 0
namespace Go.Proofs
open Go Go.Eng
def tkTbl : List FE := [⟨8, 164, ac8, rs8⟩, ⟨11, 37, ac11, rs11⟩, ⟨12, 55, ac12, rs12⟩, ⟨13, 17, ac13, rs13⟩, ⟨14, 25, ac14, rs14⟩, ⟨15, 13, ac15, rs15⟩, ⟨17, 147, ac17, rs17⟩, ⟨23, 113, ac23, rs23⟩, ⟨30, 18, ac30, rs30⟩, ⟨31, 18, ac31, rs31⟩, ⟨32, 4, ac32, rs32⟩, ⟨35, 35, ac35, rs35⟩, ⟨36, 26, ac36, rs36⟩, ⟨37, 14, ac37, rs37⟩, ⟨41, 11, ac41, rs41⟩, ⟨42, 134, ac42, rs42⟩, ⟨43, 8, ac43, rs43⟩, ⟨44, 49, ac44, rs44⟩, ⟨50, 17, ac50, rs50⟩, ⟨54, 25, ac54, rs54⟩, ⟨60, 6, ac60, rs60⟩]
theorem tkOk : okAll Try.prog tkTbl := ⟨ok8, ok11, ok12, ok13, ok14, ok15, ok17, ok23, ok30, ok31, ok32, ok35, ok36, ok37, ok41, ok42, ok43, ok44, ok50, ok54, ok60, trivial⟩
theorem san : CallA Try.prog 8 [] Heap.nil fun v H' => v = .bool true ∧ H' = Heap.nil := CallA.computed tkOk 1000000 100 (by kernel_rfl)
end Go.Proofs

namespace Go.Proofs
open Go Go.Eng
set_option maxRecDepth 100000
set_option maxHeartbeats 4000000
def I16 (id : Int) (l : List Kep) (cap : Option Nat) (m : Nat) (fr : Fr) (H : Heap) : Prop := ∃ i : Nat, i ≤ l.length ∧ m = l.length - i ∧ (∀ j (hj : j < l.length), j < i → okK l j l[j] = true) ∧ fr = [(1, .ptr 0 0), (3, I i)] ∧ H = ⟨1, [(0, .cells (wav id l cap))]⟩
theorem c16 (id : Int) (l : List Kep) (cap : Option Nat) (hb : l.length ≤ 1000000) : CallA Try.prog 16 [.agg (wav id l cap)] Heap.nil fun v H' => v = .bool (validB id l) ∧ H' = Heap.nil := by
  refine callA_of ok16 (Nat.le_of_ble_eq_true rfl) ?_
  repeat' ((conv => whnf); first
      | refine Branch.ofT rfl ?_
      | refine Branch.ofF rfl ?_
      | refine Branch.dec (fun h => ?_) (fun h => ?_)
      | refine Branch.negdec (fun h => ?_) (fun h => ?_)
      | refine Branch.neg (fun h => ?_) (fun h => ?_)
      | refine Branch.mk (fun h => ?_) (fun h => ?_)
      | (refine Side.mk ?_ ?_; · first | omega | decide)
      | (refine SideD.mk ?_ ?_; · first | omega | decide)
      | refine ⟨_, Nat.lt_succ_self _, To.refl (.inl ⟨rfl, ?_⟩)⟩
      | (refine Side.mk ?_ ?_; · (simp; done))
      | fail
      )
  all_goals (conv => whnf)
  · refine RetA.data rfl ⟨?_, rfl⟩
    simp [one, validB]; omega
  · refine RetA.data rfl ⟨?_, rfl⟩
    simp [one, validB]; omega
  · refine RetA.data rfl ⟨?_, rfl⟩
    simp [one, validB]; omega
  refine ⟨I16 id l cap, l.length, To.gc [(0, true)] [1, 3] rfl ⟨wav_noLoc id l cap, trivial⟩ ⟨0, by omega, by omega, by omega, rfl, rfl⟩, ?_⟩
  rintro m fr H ⟨i, hi, rfl, hall, rfl, rfl⟩
  (conv => whnf)
  refine Branch.dec (fun h => ?_) (fun h => ?_)
  · have h' : i < l.length := by omega
    have fin : ∀ b : Bool, okK l i l[i] = b → (b = true → ∀ j (hj : j < l.length), j < i + 1 → okK l j l[j] = true) := by
      intro b hb hbt j hj hji
      rcases Nat.lt_or_eq_of_le (Nat.le_of_lt_succ hji) with e | e
      · exact hall j hj e
      · subst e; rw [hb, hbt]
    by_cases h0 : i = 0
    · subst h0
      repeat' ((conv => whnf); first
          | refine Branch.ofT rfl ?_
          | refine Branch.ofF rfl ?_
          | refine SideD.at (by omega) (kcells_at h') ?_
          | refine Branch.ofF (decide_eq_false (by omega)) ?_
          | refine Branch.dec (fun h => ?_) (fun h => ?_)
          | refine Branch.negdec (fun h => ?_) (fun h => ?_)
          | refine Branch.neg (fun h => ?_) (fun h => ?_)
          | refine Branch.mk (fun h => ?_) (fun h => ?_)
          | (refine Side.mk ?_ ?_; · first | omega | decide)
          | (refine SideD.mk ?_ ?_; · first | omega | decide)
          | refine ⟨_, Nat.lt_succ_self _, To.refl (.inl ⟨rfl, ?_⟩)⟩
          | refine QCallA.of (c33 _) rfl rfl ?_
          | refine QCallA.of (c34 _) rfl rfl ?_
          | (refine Side.mk ?_ ?_; · (simp; done))
          | fail
          )
      all_goals (conv => whnf)
      all_goals first
        | (refine ⟨l.length - (0 + 1), by omega, To.gc [(0, true)] [1, 3] rfl ⟨wav_noLoc id l cap, trivial⟩ ⟨0 + 1, by omega, rfl, fin true (by simp_all [okK]) rfl, rfl, rfl⟩⟩)
        | (refine RetA.data rfl ⟨?_, rfl⟩; simp only [one]; congr 1; symm; apply valid_no h'; simp_all [okK])
    · obtain ⟨hp, hpm⟩ := prev_at h' (by omega)
      repeat' ((conv => whnf); first
          | refine Branch.ofT rfl ?_
          | refine Branch.ofF rfl ?_
          | refine SideD.at (by omega) (kcells_at h') ?_
          | refine SideD.at (by omega) (kcells_at1 hp (by omega)) ?_
          | refine Branch.ofT (decide_eq_true (by omega)) ?_
          | refine Branch.dec (fun h => ?_) (fun h => ?_)
          | refine Branch.negdec (fun h => ?_) (fun h => ?_)
          | refine Branch.neg (fun h => ?_) (fun h => ?_)
          | refine Branch.mk (fun h => ?_) (fun h => ?_)
          | (refine Side.mk ?_ ?_; · first | omega | decide)
          | (refine SideD.mk ?_ ?_; · first | omega | decide)
          | refine ⟨_, Nat.lt_succ_self _, To.refl (.inl ⟨rfl, ?_⟩)⟩
          | refine QCallA.of (c33 _) rfl rfl ?_
          | refine QCallA.of (c34 _) rfl rfl ?_
          | (refine Side.mk ?_ ?_; · (simp; done))
          | fail
          )
      all_goals (conv => whnf)
      all_goals first
        | (refine ⟨l.length - (i + 1), by omega, To.gc [(0, true)] [1, 3] rfl ⟨wav_noLoc id l cap, trivial⟩ ⟨i + 1, by omega, rfl, fin true (by simp_all [okK]) rfl, rfl, rfl⟩⟩)
        | (refine RetA.data rfl ⟨?_, rfl⟩; simp only [one]; congr 1; symm; apply valid_no h'; simp_all [okK])
  · (conv => whnf)
    refine RetA.data rfl ⟨?_, rfl⟩
    simp only [one]; congr 1; symm
    exact valid_yes (by omega) (by omega) (by omega) fun j hj => hall j hj (by omega)

/-! ### What valid witnesses are, and stay -/
def fK (k : Kep) : Prop := numB k.m = true ∧ numB k.e = true ∧ numB k.h = true ∧ serB k.u = true
structure ValidP (id : Int) (l : List Kep) : Prop where
  lo : 0 ≤ id
  hi : id < 3
  len : l.length ≤ 64
  each : ∀ k ∈ l, fK k
  asc : (l.map Kep.m).Pairwise (· < ·)
theorem valid_get {id : Int} {l : List Kep} (h : validB id l = true) : 0 ≤ id ∧ id < 3 ∧ l.length ≤ 64 ∧ ∀ j (hj : j < l.length), okK l j l[j] = true := by
  simp only [validB, Bool.and_eq_true, decide_eq_true_eq, List.all_eq_true, List.mem_range] at h
  exact ⟨h.1.1.1, h.1.1.2, h.1.2, fun j hj => by rw [← okAt_get hj]; exact h.2 j hj⟩
theorem okK_f {l : List Kep} {j : Nat} {k : Kep} (h : okK l j k = true) : fK k ∧ (j = 0 ∨ prevM l j < k.m) := by
  simp only [okK, Bool.and_eq_true, Bool.or_eq_true, decide_eq_true_eq] at h
  exact ⟨⟨h.1.1.1.1, h.1.1.1.2, h.1.1.2, h.1.2⟩, h.2⟩
theorem validP_of {id : Int} {l : List Kep} (h : validB id l = true) : ValidP id l := by
  obtain ⟨h1, h2, h3, h4⟩ := valid_get h
  refine ⟨h1, h2, h3, fun k hk => ?_, ?_⟩
  · obtain ⟨j, hj, rfl⟩ := List.getElem_of_mem hk
    exact (okK_f (h4 j hj)).1
  · have step : ∀ j (hj : j + 1 < l.length), l[j].m < l[j + 1].m := fun j hj => by
      have := (okK_f (h4 (j + 1) hj)).2
      simp only [prevM, Nat.add_sub_cancel, List.getElem?_eq_getElem (show j < l.length by omega), Option.getD_some] at this
      omega
    have all : ∀ d i (hi : i < l.length) (hj : i + d + 1 < l.length), l[i].m < l[i + d + 1].m := by
      intro d
      induction d with
      | zero => exact fun i _ hj => step i hj
      | succ d ih =>
        intro i hi hj
        have h1 := ih i hi (by omega)
        have h2 := step (i + d + 1) (by omega)
        exact Int.lt_trans h1 h2
    rw [List.pairwise_iff_getElem]
    intro i j hi hj hij
    simp only [List.length_map] at hi hj
    simp only [List.getElem_map]
    have := all (j - i - 1) i hi (by omega)
    simp only [show i + (j - i - 1) + 1 = j by omega] at this
    exact this
theorem valid_of {id : Int} {l : List Kep} (h : ValidP id l) : validB id l = true := by
  refine valid_yes h.lo h.hi h.len fun j hj => ?_
  obtain ⟨f1, f2, f3, f4⟩ := h.each l[j] (List.getElem_mem hj)
  simp only [okK, f1, f2, f3, f4, Bool.and_self, Bool.true_and, Bool.or_eq_true, decide_eq_true_eq]
  by_cases h0 : j = 0
  · exact .inl h0
  · refine .inr ?_
    have := List.pairwise_iff_getElem.1 h.asc (j - 1) j (by simp; omega) (by simpa using hj) (by omega)
    simp only [List.getElem_map] at this
    simpa [prevM, List.getElem?_eq_getElem (show j - 1 < l.length by omega)] using this
theorem kept_of {id : Int} {l : List Kep} (h : ValidP id l) : Kept1 l := by
  refine ⟨h.len, fun i j hi hj hij => ?_⟩
  have := List.pairwise_iff_getElem.1 h.asc i j (by simpa using hi) (by simpa using hj) hij
  simpa using this
theorem upto_of {id : Int} {l : List Kep} (h : ValidP id l) : ∀ j (hj : j < l.length), 0 ≤ l[j].u := fun j hj => by
  have := (h.each l[j] (List.getElem_mem hj)).2.2.2
  unfold serB at this; simp at this; exact this.1
theorem numB_mk {n : Int} (h : 1 ≤ n ∧ n ≤ 1073741824) : numB n = true := by unfold numB; simp [h]
theorem serB_mk {n : Int} (h : 0 ≤ n ∧ n ≤ 1099511627776) : serB n = true := by unfold serB; simp [h]
theorem serB_get {n : Int} (h : serB n = true) : 0 ≤ n ∧ n ≤ 1099511627776 := by unfold serB at h; simpa using h
theorem ok_fields (p : Ple) (h : p.ok = true) : numB p.m = true ∧ numB p.h = true ∧ numB p.e = true ∧ serB p.u = true := by
  unfold Ple.ok at h; simp at h; exact ⟨h.1.1.1.1.2, h.1.1.1.2, h.1.1.2, h.1.2⟩
theorem mx_ser {a b : Int} (ha : serB a = true) (hb : serB b = true) : serB (mx a b) = true := by unfold mx; split <;> assumption
theorem newK_m (k : Kep) (p : Ple) : (newK k p).m = k.m := by
  simp only [newK, uptK, hearK]; split <;> split <;> rfl
theorem newK_f {k : Kep} {p : Ple} (hp : p.ok = true) (hk : fK k) : fK (newK k p) := by
  obtain ⟨p1, p2, p3, p4⟩ := ok_fields p hp
  obtain ⟨k1, k2, k3, k4⟩ := hk
  refine ⟨by rw [newK_m]; exact k1, ?_, ?_, ?_⟩
  · simp only [newK, uptK, hearK]; split <;> split <;> assumption
  · simp only [newK, uptK, hearK]; split <;> split <;> assumption
  · simp only [newK, uptK, hearK]; split <;> split <;> first | exact mx_ser k4 p4 | assumption
theorem newK_fresh {p : Ple} (hp : p.ok = true) (h1 : p.k = 1) : fK (newK ⟨p.m, 0, 0, 0⟩ p) := by
  obtain ⟨p1, p2, p3, p4⟩ := ok_fields p hp
  obtain ⟨_, q2, _⟩ := ok_cases p hp
  have : newK ⟨p.m, 0, 0, 0⟩ p = ⟨p.m, p.e, p.h, mx 0 p.u⟩ := by
    apply kep_eq <;> (simp only [newK, uptK, hearK, agrK, mx]; grind)
  rw [this]
  exact ⟨p1, p3, p2, mx_ser (serB_mk (by omega)) p4⟩
theorem valid_hear {id : Int} {l : List Kep} {cap : Option Nat} {p : Ple} (h : ValidP id l) : ValidP id (hearW id l cap p (rank l p.m)).l := by
  have hl := kept_of h
  cases hok : p.ok with
  | false => simpa [hearW, hok] using h
  | true =>
    have hf := found_rank l p.m hl
    rcases plc_cases (m := p.m) hl with ⟨hlt, hm, _⟩ | ⟨hu, _⟩
    · rw [hearW_known hok hlt hm]
      have hsame : (l.take (rank l p.m) ++ newK l[rank l p.m] p :: l.drop (rank l p.m + 1)).map Kep.m = l.map Kep.m := by
        have e : l = l.take (rank l p.m) ++ l[rank l p.m] :: l.drop (rank l p.m + 1) := by
          rw [← List.drop_eq_getElem_cons hlt, List.take_append_drop]
        have e' := congrArg (List.map Kep.m) e
        rw [e']
        simp only [List.map_append, List.map_cons, newK_m]
      refine ⟨h.lo, h.hi, by have := congrArg List.length hsame; simp at this ⊢; have := h.len; omega, fun k hk => ?_, by rw [hsame]; exact h.asc⟩
      simp only [List.mem_append, List.mem_cons] at hk
      rcases hk with hk | rfl | hk
      · exact h.each k (List.mem_of_mem_take hk)
      · exact newK_f hok (h.each _ (List.getElem_mem hlt))
      · exact h.each k (List.mem_of_mem_drop hk)
    · have hu' : unk l p (rank l p.m) := fun h => hu _ h
      by_cases h64 : (64 : Int) ≤ (l.length : Int)
      · rw [hearW_limit hok hu' h64]; exact h
      · by_cases h2 : p.k = 2
        · rw [hearW_conf hok hu' h64 h2]; exact h
        · rw [hearW_new hok hu' h64 h2]
          obtain ⟨q1, _, _⟩ := ok_cases p hok
          refine ⟨h.lo, h.hi, by have := hf.le; simp; omega, fun k hk => ?_, ?_⟩
          · simp only [List.mem_append, List.mem_cons] at hk
            rcases hk with hk | rfl | hk
            · exact h.each k (List.mem_of_mem_take hk)
            · exact newK_fresh hok (by omega)
            · exact h.each k (List.mem_of_mem_drop hk)
          · have hs : (l.map Kep.m).Pairwise (· < ·) := h.asc
            have hsplit : l.map Kep.m = (l.take (rank l p.m)).map Kep.m ++ (l.drop (rank l p.m)).map Kep.m := by rw [← List.map_append, List.take_append_drop]
            rw [hsplit, List.pairwise_append] at hs
            simp only [List.map_append, List.map_cons, newK_m]
            rw [List.pairwise_append]
            have hlow : ∀ x ∈ (l.take (rank l p.m)).map Kep.m, x < p.m := by
              intro x hx
              obtain ⟨k, hk, rfl⟩ := List.mem_map.1 hx
              obtain ⟨i, hi, rfl⟩ := List.getElem_of_mem hk
              simp only [List.length_take] at hi
              simp only [List.getElem_take]
              exact hf.lo i (by omega) (by omega)
            have hhigh : ∀ x ∈ (l.drop (rank l p.m)).map Kep.m, p.m < x := by
              intro x hx
              obtain ⟨k, hk, rfl⟩ := List.mem_map.1 hx
              obtain ⟨i, hi, rfl⟩ := List.getElem_of_mem hk
              simp only [List.length_drop] at hi
              simp only [List.getElem_drop]
              have h1 := hf.hi (rank l p.m + i) (by omega) (by omega)
              have h2 := hu (rank l p.m + i) (by omega)
              omega
            refine ⟨hs.1, List.pairwise_cons.2 ⟨hhigh, hs.2.1⟩, fun a ha b hb => ?_⟩
            rcases List.mem_cons.1 hb with rfl | hb
            · exact hlow a ha
            · exact hs.2.2 a ha b hb
theorem c7g (id : Int) (l : List Kep) (p : Ple) (l' : List Kep) (cap' : Option Nat) (g : Gra) (e : Int) (hlen : l.length ≤ 64) (hlen' : l'.length ≤ 64)
    (h27 : CallA Try.prog 27 [.agg (wav id l none)] Heap.nil fun v H' => v = .bool true ∧ H' = Heap.nil) (h16 : CallA Try.prog 16 [.agg (wav id l none)] Heap.nil fun v H' => v = .bool true ∧ H' = Heap.nil)
    (h17 : CallA Try.prog 17 [.agg (wav id l none), .agg p.av] Heap.nil fun v H' => v = .tuple [.agg (wav id l' cap'), .agg g.av, I e] ∧ H' = Heap.nil)
    (h28 : CallA Try.prog 28 [.agg (wav id l none), .agg p.av] Heap.nil fun v H' => v = .agg (wav id l' cap' ++ g.av ++ [I e]) ∧ H' = Heap.nil)
    (h27' : CallA Try.prog 27 [.agg (wav id l' cap')] Heap.nil fun v H' => v = .bool true ∧ H' = Heap.nil) :
    CallA Try.prog 7 [.agg (wav id l none), .agg p.av] Heap.nil fun v H' => v = .bool true ∧ H' = Heap.nil := by
  refine callA_of ok7 (Nat.le_of_ble_eq_true rfl) ?_
  have h18 := c18 id l' cap' cap' (by omega)
  repeat' ((conv => whnf); first
      | refine Branch.ofT rfl ?_
      | refine Branch.ofF rfl ?_
      | refine Branch.ofF (decide_eq_false (by omega)) ?_
      | refine Branch.ofT (by simp; done) ?_
      | refine Branch.dec (fun h => ?_) (fun h => ?_)
      | refine Branch.negdec (fun h => ?_) (fun h => ?_)
      | refine Branch.neg (fun h => ?_) (fun h => ?_)
      | refine Branch.mk (fun h => ?_) (fun h => ?_)
      | (refine Side.mk ?_ ?_; · first | omega | decide)
      | (refine SideD.mk ?_ ?_; · first | omega | decide)
      | refine ⟨_, Nat.lt_succ_self _, To.refl (.inl ⟨rfl, ?_⟩)⟩
      | refine QCallA.of h27 rfl rfl ?_
      | refine QCallA.of h16 rfl rfl ?_
      | refine CallA.pure h16 rfl rfl ?_
      | refine CallA.pure h17 rfl rfl ?_
      | refine CallA.pure h28 rfl rfl ?_
      | refine CallA.pure san rfl rfl ?_
      | refine CallA.pure h18 rfl rfl ?_
      | refine CallA.pure h27' rfl rfl ?_
      | (refine Side.mk ?_ ?_; · (simp; done))
      | fail
      )
  all_goals (conv => whnf)
  all_goals exact RetA.data rfl ⟨rfl, rfl⟩
theorem c7 (id : Int) (l : List Kep) (p : Ple) (hb : l.length ≤ 9223372036854775807) : CallA Try.prog 7 [.agg (wav id l none), .agg p.av] Heap.nil fun v H' => v = .bool true ∧ H' = Heap.nil := by
  by_cases h70 : (70 : Int) < l.length
  · refine callA_of ok7 (Nat.le_of_ble_eq_true rfl) ?_
    repeat' ((conv => whnf); first
        | refine Branch.ofT rfl ?_
        | refine Branch.ofF rfl ?_
        | refine Branch.ofT (decide_eq_true (by omega)) ?_
        | refine Branch.dec (fun h => ?_) (fun h => ?_)
        | refine Branch.negdec (fun h => ?_) (fun h => ?_)
        | refine Branch.neg (fun h => ?_) (fun h => ?_)
        | refine Branch.mk (fun h => ?_) (fun h => ?_)
        | (refine Side.mk ?_ ?_; · first | omega | decide)
        | (refine SideD.mk ?_ ?_; · first | omega | decide)
        | refine ⟨_, Nat.lt_succ_self _, To.refl (.inl ⟨rfl, ?_⟩)⟩
        | refine CallA.pure san rfl rfl ?_
        | (refine Side.mk ?_ ?_; · (simp; done))
        | fail
        )
    all_goals (conv => whnf)
    all_goals exact RetA.data rfl ⟨rfl, rfl⟩
  · have h27 := c27 id l none (by omega)
    have h16 := c16 id l none (by omega)
    cases hval : validB id l with
    | false =>
      rw [hval] at h27 h16
      refine callA_of ok7 (Nat.le_of_ble_eq_true rfl) ?_
      repeat' ((conv => whnf); first
          | refine Branch.ofT rfl ?_
          | refine Branch.ofF rfl ?_
          | refine Branch.ofF (decide_eq_false (by omega)) ?_
          | refine Branch.dec (fun h => ?_) (fun h => ?_)
          | refine Branch.negdec (fun h => ?_) (fun h => ?_)
          | refine Branch.neg (fun h => ?_) (fun h => ?_)
          | refine Branch.mk (fun h => ?_) (fun h => ?_)
          | (refine Side.mk ?_ ?_; · first | omega | decide)
          | (refine SideD.mk ?_ ?_; · first | omega | decide)
          | refine ⟨_, Nat.lt_succ_self _, To.refl (.inl ⟨rfl, ?_⟩)⟩
          | refine QCallA.of h27 rfl rfl ?_
          | refine QCallA.of h16 rfl rfl ?_
          | refine CallA.pure h16 rfl rfl ?_
          | refine CallA.pure san rfl rfl ?_
          | (refine Side.mk ?_ ?_; · (simp; done))
          | fail
          )
      all_goals (conv => whnf)
      all_goals exact RetA.data rfl ⟨rfl, rfl⟩
    | true =>
      rw [hval] at h27 h16
      have hv := validP_of hval
      have hl := kept_of hv
      have h17 := c17 id l none p hl
      have h28 := c28 id l none p hl (upto_of hv)
      have hv' := valid_hear (cap := none) (p := p) hv
      have h27' := c27 id (hearW id l none p (rank l p.m)).l (hearW id l none p (rank l p.m)).cap (by have := hv'.len; omega)
      rw [valid_of hv'] at h27'
      exact c7g id l p _ _ (hearW id l none p (rank l p.m)).g _ hv.len hv'.len h27 h16 h17 h28 h27'
end Go.Proofs

