/- Part of a proof about the given program: lemmas that the other parts use. -/
import Derived.Test.YtligaclbjnccgaaDoorRPart5
import Derived.Test.YtligaclbjnccgaaDoorRPart4
import Derived.KernelRfl

set_option linter.all false
set_option linter.unusedSimpArgs false
set_option linter.unusedVariables false
namespace Go.Eng
open Go

variable [Globs]
/-! #### The heap and the frame of a run -/
structure EH where
  nx : Nat
  bs : BT AB
def EH.get (T : EH) (k : Nat) : AB := match T.bs.get k with
  | some b => b
  | none => .dead
def EH.nil : EH := ⟨0, .nil⟩
def EH.put (T : EH) (k : Nat) (b : AB) : Option EH := bif b.isIt then none else (match BT.set b 40 T.bs k with
  | some bs => some ⟨T.nx, bs⟩
  | none => none)
def EH.push (T : EH) (b : AB) : Option EH := bif b.isIt then none else (match BT.set b 40 T.bs T.nx with
  | some bs => forceN (T.nx + 1) fun n => some ⟨n, bs⟩
  | none => none)
def AB.noit : AB → Prop
  | .iter _ _ _ => False
  | _ => True
theorem isIt_of {b : AB} (h : b.noit) : b.isIt = false := by cases b <;> first | rfl | exact h.elim
theorem noit_of {b : AB} (h : b.isIt = false) : b.noit := by cases b <;> first | trivial | cases h
structure RepH (T : EH) (H : Heap) : Prop where
  nx : H.nx = T.nx
  get : H.get = T.get
  noit : ∀ j, (H.get j).noit
theorem RepH.free {T : EH} {H : Heap} (R : RepH T H) (p n : Nat) : noIter T.get p n = true := noIter_of (fun j k l c e => by have := R.noit j; rw [R.get, e] at this; exact this) n
theorem RepH.nil : RepH EH.nil Heap.nil := ⟨rfl, rfl, fun _ => trivial⟩
theorem RepH.put {T T' : EH} {H : Heap} {k : Nat} {b : AB} (h : T.put k b = some T') (R : RepH T H) : RepH T' (H.set k b) := by
  unfold EH.put at h
  cases hb : b.isIt <;> simp only [hb, cond_true, cond_false, reduceCtorEq] at h
  split at h
  · rename_i bs hbs
    cases h
    refine ⟨R.nx, funext fun j => ?_, fun j => by rw [Heap.get_set]; split; exact noit_of hb; exact R.noit j⟩
    rw [Heap.get_set, R.get]
    simp only [EH.get, BT.get_set b hbs j]
    by_cases e : k = j <;> simp [e]
  · cases h
theorem RepH.push {T T' : EH} {H : Heap} {b : AB} (h : T.push b = some T') (R : RepH T H) : RepH T' (H.push b) := by
  unfold EH.push at h
  cases hb : b.isIt <;> simp only [hb, cond_true, cond_false, reduceCtorEq] at h
  split at h
  · rename_i bs hbs
    rw [forceN_eq] at h; cases h
    refine ⟨by simp [Heap.push, R.nx], funext fun j => ?_, fun j => by rw [Heap.get_push]; split; exact noit_of hb; exact R.noit j⟩
    rw [Heap.get_push, R.get, R.nx]
    simp only [EH.get, BT.get_set b hbs j]
    by_cases e : T.nx = j <;> simp [e]
  · cases h
structure RepF (F : BT AV) (fr : Fr) : Prop where
  get : ∀ t, look fr t = (F.get t).getD .any
def AX.eF (F : BT AV) : AX → AV
  | .t n => match F.get n with
    | some v => v
    | none => .any
  | .c v => v
  | .g n => .dptr (globOf n)
theorem RepF.ev {F : BT AV} {fr : Fr} (R : RepF F fr) : AX.ev fr = AX.eF F := by
  funext x
  cases x with
  | t n => simp only [AX.ev, AX.eF, R.get]; cases F.get n <;> rfl
  | c v => rfl
  | g n => rfl
def putE (F : BT AV) (d : Option Nat) (v : AV) : Option (BT AV) := match d with
  | none => some F
  | some t => fvE v fun v => BT.set v 24 F t
theorem RepF.put {F F' : BT AV} {fr : Fr} {d : Option Nat} {v : AV} (h : putE F d v = some F') (R : RepF F fr) : RepF F' (put fr d v) := by
  cases d with
  | none => simp only [putE, Option.some.injEq] at h; subst h; exact R
  | some t =>
    simp only [putE, fvE_eq] at h
    refine ⟨fun u => ?_⟩
    rw [BT.get_set v h u]
    simp only [Eng.put, look]
    by_cases e : t = u
    · subst e; simp
    · rw [beq_false e, if_neg e]; exact R.get u
theorem RepF.know {F : BT AV} {fr : Fr} {s : Nat} {b : Bool} (R : RepF F fr) (h : look fr s = .bool b) : RepF F ((s, .bool b) :: fr) :=
  ⟨fun u => by
    simp only [look]
    by_cases e : s = u
    · subst e; rw [← R.get, h]; simp
    · rw [beq_false e]; exact R.get u⟩

/-! #### Operations on the heap -/
def HOp.e (ev : AX → AV) (T : EH) : HOp → Option (AV × EH)
  | .load agg n x => match ev x with
    | .dptr cs => match loadE agg n cs with
      | some v => some (v, T)
      | none => none
    | .ptr k off => match T.get k with
      | .cells cs => match loadE agg n (cs.drop off) with
        | some v => some (v, T)
        | none => none
      | _ => none
    | _ => none
  | .alloc zero => match T.push (.cells zero) with
    | some T' => some (.ptr T.nx 0, T')
    | none => none
  | .box x => match cellsOf (ev x) with
    | some l => match T.push (.cells l) with
      | some T' => some (.ptr T.nx 0, T')
      | none => none
    | none => none
  | .store n p x => match ev p with
    | .ptr k off => match T.get k with
      | .cells cs => match cellsOf (ev x) with
        | some l => bif Nat.beq l.length n then (match lputE cs off l with
          | some cs' => match T.put k (.cells cs') with
            | some T' => some (.any, T')
            | none => none
          | none => none) else none
        | none => none
      | _ => none
    | _ => none
theorem HOp.e_run {ev : AX → AV} {T T' : EH} {H : Heap} {o : HOp} {v : AV} (h : o.e ev T = some (v, T')) (R : RepH T H) : ∃ H', RepH T' H' ∧ ∀ K : AV → Heap → Prop, K v H' → o.run ev H K := by
  cases o <;> simp only [HOp.e, HOp.run, R.get, pushK_eq, setK_eq] at h ⊢
  case load agg n x =>
    generalize ev x = vx at h ⊢
    split at h
    · split at h
      · rename_i u hu; cases h; exact ⟨H, R, fun K hk => loadE_run hu hk⟩
      · cases h
    · split at h
      · rename_i cs hcs
        split at h
        · rename_i u hu; cases h; refine ⟨H, R, fun K hk => ?_⟩
          simp only [hcs]; exact loadE_run hu hk
        · cases h
      · cases h
    · cases h
  case alloc zero =>
    split at h
    · rename_i T2 hT; cases h
      exact ⟨_, R.push hT, fun K hk => by rw [R.nx]; exact hk⟩
    · cases h
  case box x =>
    split at h
    · rename_i l hl
      split at h
      · rename_i T2 hT; cases h
        exact ⟨_, R.push hT, fun K hk => by simp only [hl]; rw [R.nx]; exact hk⟩
      · cases h
    · cases h
  case store n p x =>
    generalize ev p = vp at h ⊢
    split at h
    · split at h
      · rename_i cs hcs
        split at h
        · rename_i l hl
          cases hb : Nat.beq l.length n <;> simp only [hb, cond_true, cond_false] at h
          · cases h
          · split at h
            · rename_i cs' hp
              split at h
              · rename_i T2 hT; cases h
                exact ⟨_, R.put hT, fun K hk => by simp only [hcs, hl, hb, cond_true]; exact lputE_run hp hk⟩
              · cases h
            · cases h
        · cases h
      · cases h
    · cases h

def mapE0 (η : Nat → AB) (m : AV) : Option (Option Nat × List (AV × AV)) := match m with
  | .nilm => some (none, [])
  | .map p => match η p with
    | .map es => some (some p, es)
    | _ => none
  | _ => none
theorem mapE0_run {η : Nat → AB} {m : AV} {p : Option Nat} {es : List (AV × AV)} {K : Option Nat → List (AV × AV) → Prop} (h : mapE0 η m = some (p, es)) (hk : K p es) : mapN η m K := by
  unfold mapE0 at h; unfold mapN
  split at h
  · cases h; exact hk
  · split at h
    · rename_i hes; cases h; simp only [hes]; exact hk
    · cases h
  · cases h
def srcE (η : Nat → AB) (e : Nat) (x : AV) : Option (List AV × Nat) := match x with
  | .dslice cs n _ => if n * e ≤ cs.length then some (cs.take (n * e), n) else none
  | .nils => some ([], 0)
  | .slice k off n _ _ => match η k with
    | .cells cs => if off + n * e ≤ cs.length then some ((cs.drop off).take (n * e), n) else none
    | _ => none
  | _ => none
theorem srcE_run {η : Nat → AB} {e n : Nat} {x : AV} {l : List AV} {K : List AV → Nat → Prop} (h : srcE η e x = some (l, n)) (hk : K l n) : srcK η e x K := by
  unfold srcE at h; unfold srcK
  split at h
  · split at h
    · cases h; exact ⟨‹_›, hk⟩
    · cases h
  · cases h; exact hk
  · split at h
    · split at h
      · rename_i hcs _; cases h; simp only [hcs]; exact ⟨‹_›, hk⟩
      · cases h
    · cases h
  · cases h
instance (n bytes : Nat) : Decidable (fits n bytes) := by unfold fits; infer_instance
theorem all_scal {l : List AV} (h : l.all scal = true) : ∀ c ∈ l, scal c = true := by simpa using h
def MOp.e (ev : AX → AV) (T : EH) : MOp → Option (AV × EH)
  | .mk => match T.push (.map []) with
    | some T' => some (.map T.nx, T')
    | none => none
  | .get ok kk zero m k => match mapE0 T.get (ev m) with
    | some (_, es) => bif keyOk kk (ev k) then (match mfind kk (ev k) es with
      | some r => some (mval ok zero r, T)
      | none => none) else none
    | none => none
  | .set kk m k v => match mapE0 T.get (ev m) with
    | some (some p, es) => bif keyOk kk (ev k) && noLoc (ev v) then (fvE (ev v) fun v => match mput kk (ev k) v es with
      | some es' => match T.put p (.map es') with
        | some T' => some (.any, T')
        | none => none
      | none => none) else none
    | _ => none
  | .del kk m k => match mapE0 T.get (ev m) with
    | some (some p, es) => bif keyOk kk (ev k) then (match mdel kk (ev k) es with
      | some es' => match T.put p (.map es') with
        | some T' => some (.tuple [], T')
        | none => none
      | none => none) else none
    | _ => none
  | .len m => match mapE0 T.get (ev m) with
    | some (_, es) => some (.int .i64 es.length, T)
    | none => none
  | .range _ => none
  | .next _ => none
  | .entry _ => none
  | .delw _ _ _ _ => none
  | .copyS d s => match ev d with
    | .slice k off n _ e' => match T.get k with
      | .cells cs => match srcE T.get 1 (strD (ev s)) with
        | some (ds, m) => if e' = 1 then (bif Nat.ble m n then (match lputE cs off ds with
          | some cs' => match T.put k (.cells cs') with
            | some T' => some (.int .i64 m, T')
            | none => none
          | none => none) else (match lputE cs off (ds.take (n * 1)) with
          | some cs' => match T.put k (.cells cs') with
            | some T' => some (.int .i64 n, T')
            | none => none
          | none => none)) else none
        | none => none
      | _ => none
    | _ => none
  | .copy e d s => match ev d with
    | .slice k off n _ e' => match T.get k with
      | .cells cs => match srcE T.get e (ev s) with
        | some (ds, m) => if e' = e then (bif Nat.ble m n then (match lputE cs off ds with
          | some cs' => match T.put k (.cells cs') with
            | some T' => some (.int .i64 m, T')
            | none => none
          | none => none) else (match lputE cs off (ds.take (n * e)) with
          | some cs' => match T.put k (.cells cs') with
            | some T' => some (.int .i64 n, T')
            | none => none
          | none => none)) else none
        | none => none
      | _ => none
    | _ => none
theorem MOp.e_run {ev : AX → AV} {T T' : EH} {H : Heap} {o : MOp} {v : AV} (h : o.e ev T = some (v, T')) (R : RepH T H) : ∃ H', RepH T' H' ∧ ∀ K : AV → Heap → Prop, K v H' → o.run ev H K := by
  cases o <;> simp only [MOp.e, MOp.run, mkMapK_eq, mapK, setK_eq, R.get, fvE_eq, R.free, Bool.and_true] at h ⊢
  case mk =>
    split at h
    · rename_i T2 hT; cases h
      exact ⟨_, R.push hT, fun K hk => by rw [R.nx]; exact hk⟩
    · cases h
  case get ok kk zero m k =>
    split at h
    · rename_i p es hm
      cases hb : keyOk kk (ev k) <;> simp only [hb, cond_true, cond_false] at h
      · cases h
      · split at h
        · rename_i r hr; cases h
          exact ⟨H, R, fun K hk => mapE0_run hm (by simp only [cond_true]; exact ⟨r, hr, hk⟩)⟩
        · cases h
    · cases h
  case set kk m k x =>
    split at h
    · rename_i p es hm
      cases hb : (keyOk kk (ev k) && noLoc (ev x)) <;> simp only [hb, cond_true, cond_false] at h
      · cases h
      · split at h
        · rename_i es' hr
          split at h
          · rename_i T2 hT; cases h
            exact ⟨_, R.put hT, fun K hk => mapE0_run hm (by simp only [cond_true]; exact ⟨es', hr, hk⟩)⟩
          · cases h
        · cases h
    · cases h
  case del kk m k =>
    split at h
    · rename_i p es hm
      cases hb : keyOk kk (ev k) <;> simp only [hb, cond_true, cond_false] at h
      · cases h
      · split at h
        · rename_i es' hr
          split at h
          · rename_i T2 hT; cases h
            exact ⟨_, R.put hT, fun K hk => mapE0_run hm (by simp only [cond_true]; exact ⟨es', hr, hk⟩)⟩
          · cases h
        · cases h
    · cases h
  case range m => cases h
  case next m => cases h
  case entry m => cases h
  case delw _ _ _ _ => cases h
  case copy e d s =>
    generalize ev d = vd at h ⊢
    split at h
    · rename_i k off n cap e'
      split at h
      · rename_i cs hcs
        split at h
        · rename_i ds m hs
          split at h
          · rename_i he
            cases hb : Nat.ble m n <;> simp only [hb, cond_true, cond_false] at h
            · split at h
              · rename_i cs' hl
                split at h
                · rename_i T2 hT; cases h
                  refine ⟨_, R.put hT, fun K hk => ?_⟩
                  simp only [hcs]
                  exact srcE_run hs ⟨he, .ofF (decide_eq_false (fun e => by have := Nat.ble_eq_true_of_le e; rw [this] at hb; cases hb)) (by unfold cpK; exact lputE_run hl (by rw [setK_eq]; exact hk))⟩
                · cases h
              · cases h
            · split at h
              · rename_i cs' hl
                split at h
                · rename_i T2 hT; cases h
                  refine ⟨_, R.put hT, fun K hk => ?_⟩
                  simp only [hcs]
                  exact srcE_run hs ⟨he, .ofT (decide_eq_true (Nat.le_of_ble_eq_true hb)) (by unfold cpK; exact lputE_run hl (by rw [setK_eq]; exact hk))⟩
                · cases h
              · cases h
          · cases h
        · cases h
      · cases h
    · cases h
  case copyS d s =>
    generalize ev d = vd at h ⊢
    split at h
    · rename_i k off n cap e'
      split at h
      · rename_i cs hcs
        split at h
        · rename_i ds m hs
          split at h
          · rename_i he
            cases hb : Nat.ble m n <;> simp only [hb, cond_true, cond_false] at h
            · split at h
              · rename_i cs' hl
                split at h
                · rename_i T2 hT; cases h
                  refine ⟨_, R.put hT, fun K hk => ?_⟩
                  simp only [hcs]
                  exact srcE_run hs ⟨he, .ofF (decide_eq_false (fun e => by have := Nat.ble_eq_true_of_le e; rw [this] at hb; cases hb)) (by unfold cpK; exact lputE_run hl (by rw [setK_eq]; exact hk))⟩
                · cases h
              · cases h
            · split at h
              · rename_i cs' hl
                split at h
                · rename_i T2 hT; cases h
                  refine ⟨_, R.put hT, fun K hk => ?_⟩
                  simp only [hcs]
                  exact srcE_run hs ⟨he, .ofT (decide_eq_true (Nat.le_of_ble_eq_true hb)) (by unfold cpK; exact lputE_run hl (by rw [setK_eq]; exact hk))⟩
                · cases h
              · cases h
          · cases h
        · cases h
      · cases h
    · cases h
  case len m =>
    split at h
    · rename_i p es hm; cases h
      exact ⟨H, R, fun K hk => mapE0_run hm hk⟩
    · cases h

def DOp.e (ev : AX → AV) (η : Nat → AB) : DOp → Option AV
  | .bslice e len zero parts => match buildE ev (parts.map fun x => (x.1, e, x.2)) (rep zero len) with
    | some cs => bif noLocB cs then some (.dslice cs len (some len)) else none
    | none => none
  | .append e bytes s x => match ev s, ev x with
    | .dslice cs len cap, .dslice ds n _ => if cap = some len ∧ len * e ≤ cs.length ∧ n * e ≤ ds.length ∧ fits (len + n) bytes ∧ (ds.take (n * e)).all scal = true then some (.dslice (cs.take (len * e) ++ ds.take (n * e)) (len + n) none) else none
    | .dslice cs len cap, .nils => if cap = some len then some (.dslice cs len none) else none
    | .nils, .dslice ds n _ => if n * e ≤ ds.length ∧ fits n bytes ∧ (ds.take (n * e)).all scal = true then some (.dslice (ds.take (n * e)) n none) else none
    | _, _ => none
  | .asub e n x lo hi => match ev x with
    | .ptr k off => match η k with
      | .cells cs => match optE ev 0 lo, optE ev n hi with
        | some l, some h => if 0 ≤ l ∧ l < n ∧ l ≤ h ∧ h ≤ n ∧ off + n * e ≤ cs.length then some (.slice k (off + l.toNat * e) (h - l).toNat (some (n - l.toNat)) e) else none
        | _, _ => none
      | _ => none
    | .dptr cs => match optE ev 0 lo, optE ev n hi with
      | some l, some h => if 0 ≤ l ∧ l ≤ h ∧ h ≤ n then some (.dslice ((cs.drop (l.toNat * e)).take ((h - l).toNat * e)) (h - l).toNat (some (n - l.toNat))) else none
      | _, _ => none
    | _ => none
  | .sl2s x => match srcE η 1 (ev x) with
    | some (ds, _) => match bytesOf ds with
      | some l => some (.str (toBytes l))
      | none => none
    | none => none
theorem DOp.e_run {ev : AX → AV} {η : Nat → AB} {o : DOp} {v : AV} {K : AV → Prop} (h : o.e ev η = some v) (hk : K v) : o.run ev η K := by
  cases o <;> simp only [DOp.e, DOp.run] at h ⊢
  case bslice e len zero parts =>
    split at h
    · rename_i cs hcs
      cases hb : noLocB cs <;> simp only [hb, cond_true, cond_false] at h
      · cases h
      · cases h; exact buildE_run hcs (by simp only [hb, cond_true]; exact hk)
    · cases h
  case append e bytes s x =>
    generalize ev s = vs at h ⊢
    generalize ev x = vx at h ⊢
    split at h
    · split at h
      · rename_i hp; cases h; exact ⟨⟨hp.1, hp.2.1, hp.2.2.1, hp.2.2.2.1, all_scal hp.2.2.2.2⟩, hk⟩
      · cases h
    · split at h
      · cases h; exact ⟨‹_›, hk⟩
      · cases h
    · split at h
      · rename_i hp; cases h; exact ⟨⟨hp.1, hp.2.1, all_scal hp.2.2⟩, hk⟩
      · cases h
    · cases h
  case asub e n x lo hi =>
    generalize hev : ev x = vx at h ⊢
    split at h
    · split at h
      · rename_i cs hcs
        split at h
        · rename_i l hh h1 h2
          split at h
          · cases h; simp only [hcs]; exact optE_run h1 (optE_run h2 ⟨‹_›, hk⟩)
          · cases h
        · cases h
      · cases h
    · split at h
      · rename_i l hh h1 h2
        split at h
        · cases h; exact optE_run h1 (optE_run h2 ⟨‹_›, hk⟩)
        · cases h
      · cases h
    · cases h
  case sl2s x =>
    split at h
    · rename_i ds n hs
      split at h
      · rename_i l hl; cases h; exact srcE_run hs ⟨l, hl, hk⟩
      · cases h
    · cases h

def appE (cur : Nat → AB) (p e bytes : Nat) (sv xv : AV) : Option (AV × AB × Option Nat) := match srcE cur e xv with
  | some (ds, n) => match sv with
    | .slice k off len _ e' => match cur k with
      | .cells cs => if e' = e ∧ off = 0 ∧ cs.length = len * e ∧ fits (len + n) bytes ∧ ds.all scal = true then some (.slice p 0 (len + n) none e, .cells (cs ++ ds), some k) else none
      | _ => none
    | .dslice cs len cap => bif Nat.beq n 0 then some (.dslice cs len cap, .dead, none) else if cap = some len ∧ len * e ≤ cs.length ∧ fits (len + n) bytes ∧ ds.all scal = true then some (.slice p 0 (len + n) none e, .cells (cs.take (len * e) ++ ds), none) else none
    | .nils => bif Nat.beq n 0 then some (.nils, .dead, none) else if fits n bytes ∧ ds.all scal = true then some (.slice p 0 n none e, .cells ds, none) else none
    | _ => none
  | none => none
def LOp.e (ev : AX → AV) (cur : Nat → AB) (p : Nat) : LOp → Option (AV × AB × Option Nat)
  | .make e bytes zero n => match ev n with
    | .int _ i => if 0 ≤ i ∧ (bytes : Int) * i ≤ 281474976710656 ∧ i ≤ 9223372036854775807 then some (.slice p 0 i.toNat (some i.toNat) e, .cells (rep zero i.toNat), none) else none
    | _ => none
  | .bslice e len zero parts => match buildE ev (parts.map fun x => (x.1, e, x.2)) (rep zero len) with
    | some cs => some (.slice p 0 len (some len) e, .cells cs, none)
    | none => none
  | .append e bytes s x => appE cur p e bytes (ev s) (ev x)
  | .appendS bytes s x => appE cur p 1 bytes (ev s) (strD (ev x))
  | .appendF e bytes s x => match ev s with
    | .slice k off len (some c) e' => match cur k with
      | .cells cs => match srcE cur e (ev x) with
        | some (ds, n) => if e' = e ∧ c = len ∧ 0 < n ∧ off + len * e ≤ cs.length ∧ fits (len + n) bytes ∧ ds.all scal = true then some (.slice p 0 (len + n) none e, .cells ((cs.drop off).take (len * e) ++ ds), none) else none
        | none => none
      | _ => none
    | _ => none
theorem appE_run {cur : Nat → AB} {p e bytes : Nat} {sv xv : AV} {v : AV} {ab : AB} {kl : Option Nat} {K : AV → AB → Option Nat → Prop} (h : appE cur p e bytes sv xv = some (v, ab, kl)) (hk : K v ab kl) : appN cur cur p e bytes sv xv K := by
  unfold appE at h
  split at h
  · rename_i ds n hsrc
    unfold appN
    split at h
    · split at h
      · rename_i cs hcs
        split at h
        · rename_i hp; cases h
          simp only [appK, hcs]
          exact srcE_run hsrc ⟨⟨hp.1, hp.2.1, hp.2.2.1, hp.2.2.2.1, all_scal hp.2.2.2.2⟩, hk⟩
        · cases h
      · cases h
    · cases hb : Nat.beq n 0 <;> simp only [hb, cond_true, cond_false] at h
      · split at h
        · rename_i hp; cases h
          exact srcE_run hsrc (Branch.ofF (decide_eq_false (fun e => by subst e; cases hb)) ⟨⟨hp.1, hp.2.1, hp.2.2.1, all_scal hp.2.2.2⟩, hk⟩)
        · cases h
      · cases h
        exact srcE_run hsrc (Branch.ofT (decide_eq_true (Nat.eq_of_beq_eq_true hb)) hk)
    · cases hb : Nat.beq n 0 <;> simp only [hb, cond_true, cond_false] at h
      · split at h
        · rename_i hp; cases h
          exact srcE_run hsrc (Branch.ofF (decide_eq_false (fun e => by subst e; cases hb)) ⟨⟨hp.1, all_scal hp.2⟩, hk⟩)
        · cases h
      · cases h
        exact srcE_run hsrc (Branch.ofT (decide_eq_true (Nat.eq_of_beq_eq_true hb)) hk)
    · cases h
  · cases h
theorem LOp.e_run {ev : AX → AV} {cur : Nat → AB} {p : Nat} {o : LOp} {v : AV} {ab : AB} {kl : Option Nat} {K : AV → AB → Option Nat → Prop} (h : o.e ev cur p = some (v, ab, kl)) (hk : K v ab kl) : o.run ev cur cur p K := by
  cases o <;> simp only [LOp.e, LOp.run] at h ⊢
  case make e bytes zero n =>
    generalize ev n = vn at h ⊢
    split at h
    · rename_i k i
      split at h
      · cases h; exact ⟨‹_›, hk⟩
      · cases h
    · cases h
  case bslice e len zero parts =>
    split at h
    · rename_i cs hcs; cases h; exact buildE_run hcs hk
    · cases h
  case append e bytes s x => exact appE_run h hk
  case appendS bytes s x => exact appE_run h hk
  case appendF e bytes s x =>
    unfold appF
    split at h
    · rename_i k off len c e' hs
      split at h
      · rename_i cs hcs
        split at h
        · rename_i ds n hsrc
          split at h
          · rename_i hp; cases h
            simp only [hs, hcs]
            exact srcE_run hsrc ⟨⟨hp.1, hp.2.1, hp.2.2.1, hp.2.2.2.1, hp.2.2.2.2.1, all_scal hp.2.2.2.2.2⟩, hk⟩
          · cases h
        · cases h
      · cases h
    · cases h
end Go.Eng

namespace Go.Eng
open Go

variable [Globs]
/-! #### Calls, guards, regions, code -/
abbrev CallE := FuncId → List AV → EH → Option (AV × EH)
structure CallOK (P : Program) (call : CallE) : Prop where
  ok : ∀ f vs T r T', call f vs T = some (r, T') → ∀ H, RepH T H → ∃ H', RepH T' H' ∧ ∀ K : AV → Heap → Prop, K r H' → CallA P f vs H K
def callD (call : CallE) (f : FuncId) (vs : List AV) : Option AV := match call f vs EH.nil with
  | some (r, T) => match pubE T.get 8 r with
    | some r' => bif noLocL vs && noLoc r' then some r' else none
    | none => none
  | none => none
theorem callD_run {P : Program} {call : CallE} (hc : CallOK P call) {f : FuncId} {vs : List AV} {r : AV} (h : callD call f vs = some r) {K : AV → Prop} (hk : K r) : QCallA P f vs K := by
  unfold callD at h
  split at h
  · rename_i r' T' hcall
    split at h
    · rename_i r2 hp
      cases hb : (noLocL vs && noLoc r2) <;> simp only [hb, cond_true, cond_false] at h
      · cases h
      · cases h
        simp only [Bool.and_eq_true] at hb
        obtain ⟨H', R', hK⟩ := hc.ok _ _ _ _ _ hcall _ RepH.nil
        refine QCallA.of (CallA.out 8 (hK (fun v H => v = r' ∧ H = H') ⟨rfl, rfl⟩) ?_) hb.1 hb.2 hk
        rintro v H ⟨rfl, rfl⟩
        exact ⟨_, by rw [R'.get]; exact hp, rfl, rfl⟩
    · cases h
  · cases h

def callQ (call : CallE) (η : Nat → AB) (f : FuncId) (vs : List AV) : Option AV := match atL vs with
  | [] => callD call f vs
  | k :: ks => match callD call f (frz η (k :: ks) vs) with
    | some r => bif flatV r then some r else none
    | none => none
theorem callQ_run {P : Program} {call : CallE} (hc : CallOK P call) {η : Nat → AB} {f : FuncId} {vs : List AV} {r : AV} (h : callQ call η f vs = some r) {K : AV → Prop} (hk : K r) : qcallK P η f vs K := by
  unfold callQ at h; unfold qcallK
  cases he : atL vs with
  | nil => rw [he] at h; exact callD_run hc h hk
  | cons k ks =>
    rw [he] at h
    simp only [fvs_eq] at h ⊢
    split at h
    · rename_i r' hr
      cases hf : flatV r' <;> simp only [hf, cond_true, cond_false, reduceCtorEq] at h
      cases h
      exact callD_run hc hr (by rw [hf]; exact hk)
    · cases h

section
variable (call : CallE)
def AOp.e (F : BT AV) (T : EH) : AOp → Option (AV × EH)
  | .m o => o.e (AX.eF F) T
  | .p o => match o.e (AX.eF F) with
    | some u => some (u, T)
    | none => none
  | .v o => match o.e (AX.eF F) with
    | some u => some (u, T)
    | none => none
  | .h o => o.e (AX.eF F) T
  | .d o => match o.e (AX.eF F) T.get with
    | some u => some (u, T)
    | none => none
  | .l o => match o.e (AX.eF F) T.get T.nx with
    | some (u, ab, kl) => forceN (T.nx + 1) fun n => match kl with
      | none => match EH.put ⟨n, T.bs⟩ T.nx ab with
        | some T' => some (u, T')
        | none => none
      | some k => match EH.put ⟨n, T.bs⟩ k .dead with
        | some T1 => match T1.put T.nx ab with
          | some T' => some (u, T')
          | none => none
        | none => none
    | none => none
  | .call f args => call f (mapE (AX.eF F) args) T
  | .callv x args => match x.eF F with
    | .func f caps => call f (mapE (AX.eF F) args ++ caps) T
    | _ => none
def AO.e (o : AO) (F : BT AV) (T : EH) : Option (BT AV × EH) := match o.guard with
  | none => match o.op.e call F T with
    | some (v, T') => match putE F o.dst v with
      | some F' => some (F', T')
      | none => none
    | none => none
  | some (s, want) => match AX.eF F (.t s) with
    | .bool b => bif b == want then (match o.op.e call F T with
      | some (v, T') => match putE F o.dst v with
        | some F' => some (F', T')
        | none => none
      | none => none) else (match putE F o.dst (.tuple []) with
      | some F' => some (F', T)
      | none => none)
    | .tuple [] => match putE F o.dst (.tuple []) with
      | some F' => some (F', T)
      | none => none
    | _ => none
def opsE : List AO → BT AV → EH → Option (BT AV × EH)
  | [], F, T => some (F, T)
  | o :: r, F, T => match o.e call F T with
    | some (F', T') => opsE r F' T'
    | none => none

def HOp.qe (ev : AX → AV) (η : Nat → AB) (p : Nat) : HOp → Option (AV × Ef)
  | .load agg n x => match ev x with
    | .dptr cs => match loadE agg n cs with
      | some v => some (v, [])
      | none => none
    | .ptr k off => match η k with
      | .cells cs => match loadE agg n (cs.drop off) with
        | some v => some (v, [])
        | none => none
      | _ => none
    | _ => none
  | .alloc zero => some (.ptr p 0, [(p, .cells zero)])
  | .box x => match cellsOf (ev x) with
    | some cs => some (.ptr p 0, [(p, .cells cs)])
    | none => none
  | .store n q x => match ev q with
    | .ptr k off => match η k with
      | .cells cs => match cellsOf (ev x) with
        | some vs => bif Nat.beq vs.length n then (match lputE cs off vs with
          | some cs' => some (.any, [(k, .cells cs')])
          | none => none) else none
        | none => none
      | _ => none
    | _ => none
def MOp.qe (ev : AX → AV) (η : Nat → AB) : MOp → Option (AV × Ef)
  | .mk => none
  | .get ok kk zero m k => match mapE0 η (ev m) with
    | some (_, es) => bif keyOk kk (ev k) then (match mfind kk (ev k) es with
      | some r => some (mval ok zero r, [])
      | none => none) else none
    | none => none
  | .set kk m k v => match mapE0 η (ev m) with
    | some (some p, es) => bif keyOk kk (ev k) && noLoc (ev v) then (match mput kk (ev k) (ev v) es with
      | some es' => some (.any, [(p, .map es')])
      | none => none) else none
    | _ => none
  | .del kk m k => match mapE0 η (ev m) with
    | some (some p, es) => bif keyOk kk (ev k) then (match mdel kk (ev k) es with
      | some es' => some (.tuple [], [(p, .map es')])
      | none => none) else none
    | _ => none
  | .range _ => none
  | .next _ => none
  | .entry _ => none
  | .delw _ _ _ _ => none
  | .copyS _ _ => none
  | .copy e d s => match ev d with
    | .slice k off n _ e' => match η k with
      | .cells cs => match srcE η e (ev s) with
        | some (ds, m) => if e' = e then (bif Nat.ble m n then (match lputE cs off ds with
          | some cs' => some (.int .i64 m, [(k, .cells cs')])
          | none => none) else (match lputE cs off (ds.take (n * e)) with
          | some cs' => some (.int .i64 n, [(k, .cells cs')])
          | none => none)) else none
        | none => none
      | _ => none
    | _ => none
  | .len m => match mapE0 η (ev m) with
    | some (_, es) => some (.int .i64 es.length, [])
    | none => none
def AOp.qe (ev : AX → AV) (η : Nat → AB) (p : Nat) : AOp → Option (AV × Ef)
  | .m o => o.qe ev η
  | .p o => match o.e ev with
    | some u => some (u, [])
    | none => none
  | .v o => match o.e ev with
    | some u => some (u, [])
    | none => none
  | .h o => o.qe ev η p
  | .d o => match o.e ev η with
    | some u => some (u, [])
    | none => none
  | .l o => match o.e ev η p with
    | some (u, cs, kl) => some (u, efL p cs kl)
    | none => none
  | .call f args => match callQ call η f (mapE ev args) with
    | some r => some (r, [])
    | none => none
  | .callv x args => match ev x with
    | .func f caps => match callQ call η f (mapE ev args ++ caps) with
      | some r => some (r, [])
      | none => none
    | _ => none
def layE (T : EH) : Ef → Option EH
  | [] => some T
  | (k, x) :: r => match T.put k x with
    | some T' => layE T' r
    | none => none
def logE (dep : List (Nat × Nat)) (i : Nat) (F W : List Nat) (L : List En) : Option (List En) := match F, W with
  | [], [] => some L
  | F, W => bif okLog dep ⟨i, F, W⟩ L then some (⟨i, F, W⟩ :: L) else none
def qwalkE (dep : List (Nat × Nat)) : List AO → Nat → Nat → List En → BT AV → EH → Option (BT AV × EH)
  | [], _, _, _, F, T => some (F, T)
  | q :: r, i, p, L, F, T => match (match q.guard with
      | none => some true
      | some (s, want) => match AX.eF F (.t s) with
        | .bool b => some (b == want)
        | .tuple [] => some false
        | _ => none) with
    | some true => match q.op.qe call (AX.eF F) T.get p with
      | some (v, b) => match logE dep i (q.op.foot (AX.eF F)) (keys b) L with
        | some L' => match putE F q.dst v with
          | some F' => match layE T b with
            | some T' => forceN (i + 1) fun i' => forceN (p + 1) fun p' => qwalkE dep r i' p' L' F' T'
            | none => none
          | none => none
        | none => none
      | none => none
    | some false => match putE F q.dst (.tuple []) with
      | some F' => forceN (i + 1) fun i' => forceN (p + 1) fun p' => qwalkE dep r i' p' L F' T
      | none => none
    | none => none

def loopE (step : BT AV → EH → Option (XA × BT AV × EH)) : Nat → BT AV → EH → Option (XA × BT AV × EH)
  | 0, _, _ => none
  | k + 1, F, T => match step F T with
    | some (.normal, F', T') => loopE step k F' T'
    | r => r
def AC.e (lf : Nat) : AC → BT AV → EH → Option (XA × BT AV × EH)
  | .skip, F, T => some (.normal, F, T)
  | .ret, F, T => some (.ret, F, T)
  | .exit id, F, T => some (.exit id, F, T)
  | .reg ops, F, T => match opsE call ops F T with
    | some (F', T') => some (.normal, F', T')
    | none => none
  | .draw m dep ops, F, T => forceN (T.nx + m) fun n => match qwalkE call dep (ops.take m) 0 T.nx [] F ⟨n, T.bs⟩ with
    | some (F', T') => match opsE call (ops.drop m) F' T' with
      | some (F'', T'') => some (.normal, F'', T'')
      | none => none
    | none => none
  | .seq a b, F, T => match a.e lf F T with
    | some (.normal, F', T') => b.e lf F' T'
    | r => r
  | .cond c a b, F, T => match c.eF F with
    | .bool t => match t with
      | true => a.e lf F T
      | false => b.e lf F T
    | _ => none
  | .block id a, F, T => match a.e lf F T with
    | some (.exit j, F', T') => bif Nat.beq j id then some (.normal, F', T') else some (.exit j, F', T')
    | r => r
  | .loop a, F, T => loopE (fun F T => a.e lf F T) lf F T
  | .ghost a, F, T => a.e lf F T
  | .scope a, F, T => a.e lf F T
def resE (F : BT AV) (T : EH) : List AR → Option (List AV)
  | [] => some []
  | .tmp t :: r => match resE F T r with
    | some vs => some (AX.eF F (.t t) :: vs)
    | none => none
  | .cell t agg n :: r => match AX.eF F (.t t) with
    | .ptr k off => match T.get k with
      | .cells cs => match loadE agg n (cs.drop off) with
        | some v => match resE F T r with
          | some vs => some (v :: vs)
          | none => none
        | none => none
      | _ => none
    | _ => none
def frameE : Nat → List AV → Option (BT AV)
  | _, [] => some .nil
  | i, v :: r => match frameE (i + 1) r with
    | some F => putE F (some i) v
    | none => none
end

/-- A function's text, by number. -/
structure FE where
  f : FuncId
  N : Nat
  ac : AC
  rs : List AR
def findE : List FE → FuncId → Option FE
  | [], _ => none
  | e :: r, f => bif Nat.beq e.f f then some e else findE r f
def runO (ov : CallE) (tbl : List FE) (lf : Nat) : Nat → CallE
  | 0, _, _, _ => none
  | n + 1, f, vs, T => match findE tbl f with
    | none => ov f vs T
    | some e => bif Nat.ble vs.length e.N then (match frameE 0 vs with
      | some F => match e.ac.e (runO ov tbl lf n) lf F T with
        | some (.exit _, _, _) => none
        | some (_, F', T') => match resE F' T' e.rs with
          | some rs => some (one rs, T')
          | none => none
        | none => none
      | none => none) else none
def runE (tbl : List FE) (lf : Nat) : Nat → CallE := runO (fun _ _ _ => none) tbl lf

/-! #### Soundness -/
section
variable {P : Program} {call : CallE}
theorem AOp.e_run (hc : CallOK P call) {F : BT AV} {fr : Fr} {T T' : EH} {H : Heap} {o : AOp} {v : AV} (h : o.e call F T = some (v, T')) (RF : RepF F fr) (R : RepH T H) : ∃ H', RepH T' H' ∧ ∀ K : AV → Heap → Prop, K v H' → o.run P fr H K := by
  cases o <;> simp only [AOp.e, AOp.run, newK0_eq, RF.ev, fvs_eq, mapE_eq] at h ⊢
  case m o => exact MOp.e_run h R
  case p o =>
    split at h
    · rename_i u hu; cases h; exact ⟨H, R, fun K hk => o.e_run hu hk⟩
    · cases h
  case v o =>
    split at h
    · rename_i u hu; cases h; exact ⟨H, R, fun K hk => o.e_run hu hk⟩
    · cases h
  case h o => exact HOp.e_run h R
  case d o =>
    split at h
    · rename_i u hu; cases h; exact ⟨H, R, fun K hk => by rw [R.get]; exact o.e_run hu hk⟩
    · cases h
  case l o =>
    split at h
    · rename_i u ab kl hu
      rw [forceN_eq] at h
      have R1 : RepH ⟨T.nx + 1, T.bs⟩ ⟨H.nx + 1, H.bs⟩ := ⟨by simp [R.nx], R.get, R.noit⟩
      split at h
      · split at h
        · rename_i T2 hp; cases h
          refine ⟨_, R1.put hp, fun K hk => ?_⟩
          rw [R.get, R.nx]
          refine LOp.e_run hu ?_
          rw [← R.nx] at hk ⊢; exact hk
        · cases h
      · split at h
        · rename_i T1 h1
          split at h
          · rename_i T2 h2; cases h
            refine ⟨_, (R1.put h1).put h2, fun K hk => ?_⟩
            rw [R.get, R.nx]
            refine LOp.e_run hu ?_
            rw [← R.nx] at hk ⊢; exact hk
          · cases h
        · cases h
    · cases h
  case call f args =>
    obtain ⟨H', R', hK⟩ := hc.ok _ _ _ _ _ h H R
    exact ⟨H', R', hK⟩
  case callv x args =>
    rw [← RF.ev] at h
    rw [← RF.ev]
    generalize AX.ev fr x = vx at h ⊢
    split at h
    · obtain ⟨H', R', hK⟩ := hc.ok _ _ _ _ _ h H R
      exact ⟨H', R', hK⟩
    · cases h
theorem AX.eF_look {F : BT AV} {fr : Fr} (RF : RepF F fr) (s : Nat) : AX.eF F (.t s) = look fr s := by
  have := congrFun RF.ev (.t s); exact this.symm
theorem AO.e_run (hc : CallOK P call) {F F' : BT AV} {fr : Fr} {T T' : EH} {H : Heap} {o : AO} (h : o.e call F T = some (F', T')) (RF : RepF F fr) (R : RepH T H) :
    ∃ fr' H', RepF F' fr' ∧ RepH T' H' ∧ ∀ K : Fr → Heap → Prop, K fr' H' → o.run P fr H K := by
  unfold AO.e at h; unfold AO.run
  simp only [putK_eq]
  split at h
  · rename_i hg
    split at h
    · rename_i v T1 hv
      split at h
      · rename_i F1 hF; cases h
        obtain ⟨H', R', hK⟩ := AOp.e_run hc hv RF R
        exact ⟨_, H', RF.put hF, R', fun K hk => by simp only [hg]; exact hK _ hk⟩
      · cases h
    · cases h
  · rename_i s want hg
    rw [AX.eF_look RF] at h
    split at h
    · rename_i b hb
      cases hw : b == want <;> simp only [hw, cond_true, cond_false] at h
      · split at h
        · rename_i F1 hF; cases h
          refine ⟨_, H, (RF.know hb).put hF, R, fun K hk => ?_⟩
          simp only [hg, hb]
          cases b <;> cases want <;> first | (cases hw; done) | exact Branch.ofT rfl hk | exact Branch.ofF rfl hk
        · cases h
      · split at h
        · rename_i v T1 hv
          split at h
          · rename_i F1 hF; cases h
            obtain ⟨H', R', hK⟩ := AOp.e_run hc hv (RF.know hb) R
            refine ⟨_, H', (RF.know hb).put hF, R', fun K hk => ?_⟩
            simp only [hg, hb]
            cases b <;> cases want <;> first | (cases hw; done) | exact Branch.ofT rfl (hK _ hk) | exact Branch.ofF rfl (hK _ hk)
          · cases h
        · cases h
    · rename_i hb
      split at h
      · rename_i F1 hF; cases h
        exact ⟨_, H, RF.put hF, R, fun K hk => by simp only [hg, hb]; exact hk⟩
      · cases h
    · cases h
theorem opsE_run (hc : CallOK P call) : ∀ {l : List AO} {F F' : BT AV} {fr : Fr} {T T' : EH} {H : Heap}, opsE call l F T = some (F', T') → RepF F fr → RepH T H →
    ∃ fr' H', RepF F' fr' ∧ RepH T' H' ∧ ∀ K : Fr → Heap → Prop, K fr' H' → runOps P K l fr H
  | [], F, F', fr, T, T', H, h, RF, R => by
    simp only [opsE] at h; cases h; exact ⟨fr, H, RF, R, fun K hk => hk⟩
  | o :: r, F, F', fr, T, T', H, h, RF, R => by
    simp only [opsE] at h
    split at h
    · rename_i F1 T1 h1
      obtain ⟨fr1, H1, RF1, R1, hK1⟩ := AO.e_run hc h1 RF R
      obtain ⟨fr2, H2, RF2, R2, hK2⟩ := opsE_run hc h RF1 R1
      exact ⟨fr2, H2, RF2, R2, fun K hk => hK1 _ (hK2 K hk)⟩
    · cases h
theorem HOp.qe_run {ev : AX → AV} {η : Nat → AB} {p : Nat} {o : HOp} {v : AV} {b : Ef} (h : o.qe ev η p = some (v, b)) {K : AV → Ef → Prop} (hk : K v b) : o.q ev η p K := by
  cases o <;> simp only [HOp.qe, HOp.q] at h ⊢
  case load agg n x =>
    generalize ev x = vx at h ⊢
    split at h
    · split at h
      · rename_i u hu; cases h; exact loadE_run hu hk
      · cases h
    · split at h
      · rename_i cs hcs
        split at h
        · rename_i u hu; cases h
          simp only [hcs]; exact loadE_run hu hk
        · cases h
      · cases h
    · cases h
  case alloc zero => cases h; exact hk
  case box x =>
    split at h
    · rename_i l hl; cases h; simp only [hl]; exact hk
    · cases h
  case store n q x =>
    generalize ev q = vp at h ⊢
    split at h
    · split at h
      · rename_i cs hcs
        split at h
        · rename_i l hl
          cases hb : Nat.beq l.length n <;> simp only [hb, cond_true, cond_false] at h
          · cases h
          · split at h
            · rename_i cs' hp; cases h
              simp only [hcs, hl, hb, cond_true]; exact lputE_run hp hk
            · cases h
        · cases h
      · cases h
    · cases h
theorem MOp.qe_run {ev : AX → AV} {η : Nat → AB} {o : MOp} {v : AV} {b : Ef} (h : o.qe ev η = some (v, b)) {K : AV → Ef → Prop} (hk : K v b) : o.q ev η K := by
  cases o <;> simp only [MOp.qe, MOp.q] at h ⊢
  case mk => cases h
  case get ok kk zero m k =>
    split at h
    · rename_i p es hm
      cases hb : keyOk kk (ev k) <;> simp only [hb, cond_true, cond_false] at h
      · cases h
      · split at h
        · rename_i r hr; cases h
          exact mapE0_run hm (by simp only [cond_true]; exact ⟨r, hr, hk⟩)
        · cases h
    · cases h
  case set kk m k x =>
    split at h
    · rename_i p es hm
      cases hb : (keyOk kk (ev k) && noLoc (ev x)) <;> simp only [hb, cond_true, cond_false] at h
      · cases h
      · split at h
        · rename_i es' hr; cases h
          exact mapE0_run hm (by simp only [cond_true]; exact ⟨es', hr, hk⟩)
        · cases h
    · cases h
  case del kk m k =>
    split at h
    · rename_i p es hm
      cases hb : keyOk kk (ev k) <;> simp only [hb, cond_true, cond_false] at h
      · cases h
      · split at h
        · rename_i es' hr; cases h
          exact mapE0_run hm (by simp only [cond_true]; exact ⟨es', hr, hk⟩)
        · cases h
    · cases h
  case range m => cases h
  case next m => cases h
  case entry m => cases h
  case delw _ _ _ _ => cases h
  case copyS _ _ => cases h
  case copy e d s =>
    generalize ev d = vd at h ⊢
    split at h
    · rename_i k off n cap e'
      split at h
      · rename_i cs hcs
        split at h
        · rename_i ds m hs
          split at h
          · rename_i he
            cases hb : Nat.ble m n <;> simp only [hb, cond_true, cond_false] at h
            · split at h
              · rename_i cs' hl; cases h
                simp only [hcs]
                exact srcE_run hs ⟨he, .ofF (decide_eq_false (fun e => by have := Nat.ble_eq_true_of_le e; rw [this] at hb; cases hb)) (lputE_run hl hk)⟩
              · cases h
            · split at h
              · rename_i cs' hl; cases h
                simp only [hcs]
                exact srcE_run hs ⟨he, .ofT (decide_eq_true (Nat.le_of_ble_eq_true hb)) (lputE_run hl hk)⟩
              · cases h
          · cases h
        · cases h
      · cases h
    · cases h
  case len m =>
    split at h
    · rename_i p es hm; cases h
      exact mapE0_run hm hk
    · cases h
theorem AOp.qe_run (hc : CallOK P call) {ev : AX → AV} {η : Nat → AB} {p : Nat} {o : AOp} {v : AV} {b : Ef} (h : o.qe call ev η p = some (v, b)) {K : AV → Ef → Prop} (hk : K v b) : o.q P ev η p K := by
  cases o <;> simp only [AOp.qe, AOp.q, fvs_eq, mapE_eq] at h ⊢
  case m o => exact MOp.qe_run h hk
  case p o =>
    split at h
    · rename_i u hu; cases h; exact o.e_run hu hk
    · cases h
  case v o =>
    split at h
    · rename_i u hu; cases h; exact o.e_run hu hk
    · cases h
  case h o => exact HOp.qe_run h hk
  case d o =>
    split at h
    · rename_i u hu; cases h; exact o.e_run hu hk
    · cases h
  case l o =>
    split at h
    · rename_i u cs kl hu; cases h; exact LOp.e_run hu hk
    · cases h
  case call f args =>
    split at h
    · rename_i r hr; cases h; exact callQ_run hc hr hk
    · cases h
  case callv x args =>
    generalize ev x = vx at h ⊢
    split at h
    · split at h
      · rename_i r hr; cases h; exact callQ_run hc hr hk
      · cases h
    · cases h
theorem layE_run : ∀ {b : Ef} {T T' : EH} {H : Heap}, layE T b = some T' → RepH T H → RepH T' (layH H b)
  | [], T, T', H, h, R => by simp only [layE] at h; cases h; exact R
  | (k, x) :: r, T, T', H, h, R => by
    simp only [layE] at h
    split at h
    · rename_i T1 h1; exact layE_run (H := H.set k x) h (R.put h1)
    · cases h
theorem logE_run {dep : List (Nat × Nat)} {i : Nat} {F W : List Nat} {L L' : List En} (h : logE dep i F W L = some L') {K : List En → Prop} (hk : K L') : logK dep i F W L K := by
  unfold logE at h; unfold logK
  split at h
  · cases h; exact hk
  · split
    · rename_i hn; exact absurd rfl (hn rfl)
    · cases hb : okLog dep ⟨i, F, W⟩ L <;> simp only [hb, cond_true, cond_false] at h ⊢
      · cases h
      · cases h; exact hk
theorem qwalkE_run (hc : CallOK P call) {dep : List (Nat × Nat)} : ∀ {l : List AO} {i p : Nat} {L : List En} {F F' : BT AV} {fr : Fr} {T T' : EH} {H : Heap}, qwalkE call dep l i p L F T = some (F', T') → RepF F fr → RepH T H →
    ∃ fr' H', RepF F' fr' ∧ RepH T' H' ∧ ∀ K : Fr → Heap → Prop, K fr' H' → qwalk P dep K l i p L fr H
  | [], i, p, L, F, F', fr, T, T', H, h, RF, R => by
    simp only [qwalkE] at h; cases h; exact ⟨fr, H, RF, R, fun K hk => hk⟩
  | q :: r, i, p, L, F, F', fr, T, T', H, h, RF, R => by
    simp only [qwalkE, AX.eF_look RF] at h
    -- an operation that is done
    have go : ∀ fr0, RepF F fr0 → (match q.op.qe call (AX.eF F) T.get p with
      | some (v, b) => match logE dep i (q.op.foot (AX.eF F)) (keys b) L with
        | some L' => match putE F q.dst v with
          | some F' => match layE T b with
            | some T' => forceN (i + 1) fun i' => forceN (p + 1) fun p' => qwalkE call dep r i' p' L' F' T'
            | none => none
          | none => none
        | none => none
      | none => none) = some (F', T') → ∃ fr' H', RepF F' fr' ∧ RepH T' H' ∧ ∀ K : Fr → Heap → Prop, K fr' H' →
        q.op.q P (AX.ev fr0) H.get p fun v b => logK dep i (q.op.foot (AX.ev fr0)) (keys b) L fun L => qwalk P dep K r (i + 1) (p + 1) L (put fr0 q.dst v) (layH H b) := by
      intro fr0 RF0 h
      split at h
      · rename_i v b hv
        split at h
        · rename_i L1 hL
          split at h
          · rename_i F1 hF
            split at h
            · rename_i T1 hT
              simp only [forceN_eq] at h
              obtain ⟨fr2, H2, RF2, R2, hK⟩ := qwalkE_run hc h (RF0.put hF) (layE_run hT R)
              refine ⟨fr2, H2, RF2, R2, fun K hk => ?_⟩
              rw [RF0.ev, R.get]
              exact AOp.qe_run hc hv (logE_run hL (hK K hk))
            · cases h
          · cases h
        · cases h
      · cases h
    have skip : ∀ fr0, RepF F fr0 → (match putE F q.dst (.tuple []) with
      | some F' => forceN (i + 1) fun i' => forceN (p + 1) fun p' => qwalkE call dep r i' p' L F' T
      | none => none) = some (F', T') → ∃ fr' H', RepF F' fr' ∧ RepH T' H' ∧ ∀ K : Fr → Heap → Prop, K fr' H' →
        qwalk P dep K r (i + 1) (p + 1) L (put fr0 q.dst (.tuple [])) H := by
      intro fr0 RF0 h
      split at h
      · rename_i F1 hF
        simp only [forceN_eq] at h
        exact qwalkE_run hc h (RF0.put hF) R
      · cases h
    simp only [qwalk_cons, qstep, layK_eq, putK_eq]
    cases hg : q.guard with
    | none =>
      simp only [hg] at h
      obtain ⟨fr', H', a, b, hK⟩ := go fr RF h
      exact ⟨fr', H', a, b, hK⟩
    | some sw =>
      obtain ⟨s, want⟩ := sw
      simp only [hg] at h
      cases hb : look fr s <;> simp only [hb] at h ⊢ <;> try (cases h; done)
      case bool b =>
        cases b <;> cases want <;> simp only [show (false == false) = true from rfl, show (true == true) = true from rfl, show (false == true) = false from rfl, show (true == false) = false from rfl] at h
        · obtain ⟨fr', H', a, b, hK⟩ := go _ (RF.know hb) h
          exact ⟨fr', H', a, b, fun K hk => Branch.ofF rfl (hK K hk)⟩
        · obtain ⟨fr', H', a, b, hK⟩ := skip _ (RF.know hb) h
          exact ⟨fr', H', a, b, fun K hk => Branch.ofF rfl (hK K hk)⟩
        · obtain ⟨fr', H', a, b, hK⟩ := skip _ (RF.know hb) h
          exact ⟨fr', H', a, b, fun K hk => Branch.ofT rfl (hK K hk)⟩
        · obtain ⟨fr', H', a, b, hK⟩ := go _ (RF.know hb) h
          exact ⟨fr', H', a, b, fun K hk => Branch.ofT rfl (hK K hk)⟩
      case tuple cs =>
        cases cs with
        | nil =>
          simp only at h ⊢
          obtain ⟨fr', H', a, b, hK⟩ := skip _ RF h
          exact ⟨fr', H', a, b, hK⟩
        | cons c cs => simp only at h; cases h
theorem loopE_run {n : Nat} {body : (XA → Fr → Heap → Prop) → Fr → Heap → Prop} {step : BT AV → EH → Option (XA × BT AV × EH)}
    (hs : ∀ F T x F' T', step F T = some (x, F', T') → ∀ fr H, RepF F fr → RepH T H → ∃ fr' H', RepF F' fr' ∧ RepH T' H' ∧ ∀ Q : XA → Fr → Heap → Prop, Q x fr' H' → body Q fr H) :
    ∀ (k : Nat) {F F' : BT AV} {fr : Fr} {T T' : EH} {H : Heap} {x : XA}, loopE step k F T = some (x, F', T') → RepF F fr → RepH T H →
      ∃ j fr' H', k = j + 1 ∧ RepF F' fr' ∧ RepH T' H' ∧ ∀ Q : XA → Fr → Heap → Prop, Q x fr' H' → body (lpost n Q j (LoopI n body Q j)) fr H
  | 0, _, _, _, _, _, _, _, h, _, _ => by simp [loopE] at h
  | k + 1, F, F', fr, T, T', H, x, h, RF, R => by
    simp only [loopE] at h
    split at h
    · rename_i F1 T1 h1
      obtain ⟨fr1, H1, RF1, R1, hK1⟩ := hs _ _ _ _ _ h1 fr H RF R
      obtain ⟨j, fr2, H2, rfl, RF2, R2, hK2⟩ := loopE_run (n := n) hs k h RF1 R1
      refine ⟨j + 1, fr2, H2, rfl, RF2, R2, fun Q hq => hK1 _ ?_⟩
      exact ⟨j, Nat.lt_succ_self _, To.refl (.inl ⟨rfl, hK2 Q hq⟩)⟩
    · rename_i hne
      obtain ⟨fr1, H1, RF1, R1, hK1⟩ := hs _ _ _ _ _ h fr H RF R
      refine ⟨k, fr1, H1, rfl, RF1, R1, fun Q hq => hK1 _ ?_⟩
      cases x with
      | normal => exact absurd h (hne _ _)
      | exit id => exact hq
      | ret => exact hq
theorem AC.e_run (hc : CallOK P call) {n lf : Nat} : ∀ (ac : AC) {F F' : BT AV} {fr : Fr} {T T' : EH} {H : Heap} {x : XA}, ac.e call lf F T = some (x, F', T') → RepF F fr → RepH T H →
    ∃ fr' H', RepF F' fr' ∧ RepH T' H' ∧ ∀ Q : XA → Fr → Heap → Prop, Q x fr' H' → ac.run P n Q fr H
  | .skip, _, _, fr, _, _, H, _, h, RF, R => by simp only [AC.e] at h; cases h; exact ⟨fr, H, RF, R, fun Q hq => hq⟩
  | .ret, _, _, fr, _, _, H, _, h, RF, R => by simp only [AC.e] at h; cases h; exact ⟨fr, H, RF, R, fun Q hq => hq⟩
  | .exit id, _, _, fr, _, _, H, _, h, RF, R => by simp only [AC.e] at h; cases h; exact ⟨fr, H, RF, R, fun Q hq => hq⟩
  | .reg ops, _, _, fr, _, _, H, _, h, RF, R => by
    simp only [AC.e] at h
    split at h
    · rename_i F1 T1 h1; cases h
      obtain ⟨fr1, H1, RF1, R1, hK⟩ := opsE_run hc h1 RF R
      exact ⟨fr1, H1, RF1, R1, fun Q hq => hK (Q .normal) hq⟩
    · cases h
  | .draw m dep ops, _, _, fr, T, _, H, _, h, RF, R => by
    simp only [AC.e, forceN_eq] at h
    split at h
    · rename_i F1 T1 h1
      split at h
      · rename_i F2 T2 h2; cases h
        obtain ⟨fr1, H1, RF1, R1, hK1⟩ := qwalkE_run hc h1 RF (H := ⟨H.nx + m, H.bs⟩) ⟨by simp [R.nx], R.get, R.noit⟩
        obtain ⟨fr2, H2, RF2, R2, hK2⟩ := opsE_run hc h2 RF1 R1
        refine ⟨fr2, H2, RF2, R2, fun Q hq => ?_⟩
        have := hK1 (fun fr H => runOps P (Q .normal) (ops.drop m) fr H) (hK2 _ hq)
        rw [← R.nx] at this
        have hsf : setFree (ops.take m) H.get H.nx = true := by
          rw [setFree, noIts_of (fun j => isIt_of (R.noit j))]; simp
        show (bif setFree (ops.take m) H.get H.nx then _ else False)
        rw [hsf]
        exact this
      · cases h
    · cases h
  | .seq a b, _, _, fr, _, _, H, x, h, RF, R => by
    simp only [AC.e] at h
    split at h
    · rename_i F1 T1 h1
      obtain ⟨fr1, H1, RF1, R1, hK1⟩ := AC.e_run hc a h1 RF R
      obtain ⟨fr2, H2, RF2, R2, hK2⟩ := AC.e_run hc b h RF1 R1
      exact ⟨fr2, H2, RF2, R2, fun Q hq => hK1 _ (hK2 Q hq)⟩
    · rename_i hne
      obtain ⟨fr1, H1, RF1, R1, hK1⟩ := AC.e_run hc a h RF R
      refine ⟨fr1, H1, RF1, R1, fun Q hq => hK1 _ ?_⟩
      cases x with
      | normal => exact absurd h (hne _ _)
      | exit id => exact hq
      | ret => exact hq
  | .cond c a b, F, _, fr, _, _, H, _, h, RF, R => by
    simp only [AC.e] at h
    simp only [AC.run_cond, RF.ev]
    generalize AX.eF F c = vc at h ⊢
    cases vc <;> simp only at h ⊢ <;> try (cases h; done)
    rename_i t
    cases t <;> simp only at h
    · obtain ⟨fr1, H1, RF1, R1, hK1⟩ := AC.e_run hc b h RF R
      exact ⟨fr1, H1, RF1, R1, fun Q hq => Branch.ofF rfl (hK1 Q hq)⟩
    · obtain ⟨fr1, H1, RF1, R1, hK1⟩ := AC.e_run hc a h RF R
      exact ⟨fr1, H1, RF1, R1, fun Q hq => Branch.ofT rfl (hK1 Q hq)⟩
  | .block id a, _, _, fr, _, _, H, x, h, RF, R => by
    simp only [AC.e] at h
    split at h
    · rename_i j F1 T1 h1
      obtain ⟨fr1, H1, RF1, R1, hK1⟩ := AC.e_run hc a h1 RF R
      cases hb : Nat.beq j id <;> simp only [hb, cond_true, cond_false] at h <;> cases h
      · exact ⟨fr1, H1, RF1, R1, fun Q hq => hK1 (blockK id Q) (by simp only [blockK, hb, cond_false]; exact hq)⟩
      · exact ⟨fr1, H1, RF1, R1, fun Q hq => hK1 (blockK id Q) (by simp only [blockK, hb, cond_true]; exact hq)⟩
    · rename_i hne
      obtain ⟨fr1, H1, RF1, R1, hK1⟩ := AC.e_run hc a h RF R
      refine ⟨fr1, H1, RF1, R1, fun Q hq => hK1 _ ?_⟩
      cases x with
      | normal => exact hq
      | exit id => exact absurd h (hne _ _ _)
      | ret => exact hq
  | .loop a, _, _, fr, _, _, H, _, h, RF, R => by
    simp only [AC.e] at h
    obtain ⟨j, fr1, H1, _, RF1, R1, hK⟩ := loopE_run (n := n) (body := a.run P n) (fun F T x F' T' hs fr H RF R => AC.e_run hc a hs RF R) lf h RF R
    exact ⟨fr1, H1, RF1, R1, fun Q hq => LoopA.unroll n (a.run P n) Q j (hK Q hq)⟩
  | .ghost a, _, _, fr, _, _, H, _, h, RF, R => by
    simp only [AC.e] at h
    obtain ⟨fr1, H1, RF1, R1, hK1⟩ := AC.e_run hc a h RF R
    exact ⟨fr1, H1, RF1, R1, fun Q hq => To.refl (hK1 Q hq)⟩
  | .scope a, _, _, fr, _, _, H, _, h, RF, R => by
    simp only [AC.e] at h
    obtain ⟨fr1, H1, RF1, R1, hK1⟩ := AC.e_run hc a h RF R
    exact ⟨fr1, H1, RF1, R1, fun Q hq => hK1 Q hq⟩
theorem resE_run {F : BT AV} {fr : Fr} {T : EH} {H : Heap} (RF : RepF F fr) (R : RepH T H) : ∀ {rs : List AR} {vs : List AV}, resE F T rs = some vs → ∀ {K : List AV → Prop}, K vs → resK fr H rs K
  | [], _, h, K, hk => by simp only [resE] at h; cases h; exact hk
  | .tmp t :: r, _, h, K, hk => by
    simp only [resE, AX.eF_look RF] at h
    split at h
    · rename_i vs hv; cases h
      simp only [resK, fv_eq]
      exact resE_run RF R hv hk
    · cases h
  | .cell t agg n :: r, _, h, K, hk => by
    simp only [resE, AX.eF_look RF] at h
    simp only [resK]
    generalize look fr t = vt at h ⊢
    cases vt <;> simp only at h ⊢ <;> try (cases h; done)
    rw [← R.get] at h
    rename_i k off
    generalize H.get k = b at h ⊢
    cases b <;> simp only at h ⊢ <;> try (cases h; done)
    split at h
    · rename_i v hv
      split at h
      · rename_i vs hvs; cases h
        exact loadE_run hv (resE_run RF R hvs hk)
      · cases h
    · cases h
theorem frameE_rep : ∀ {vs : List AV} {i : Nat} {F : BT AV}, frameE i vs = some F → RepF F (frame0 i vs)
  | [], _, _, h => by simp only [frameE] at h; cases h; exact ⟨fun _ => rfl⟩
  | v :: r, i, F, h => by
    simp only [frameE] at h
    split at h
    · rename_i F1 h1; exact (frameE_rep h1).put h
    · cases h
theorem findE_spec : ∀ {tbl : List FE} {f : FuncId} {e : FE}, findE tbl f = some e → e ∈ tbl ∧ e.f = f
  | [], _, _, h => by simp [findE] at h
  | e :: r, f, e', h => by
    simp only [findE] at h
    cases hb : Nat.beq e.f f <;> simp only [hb, cond_true, cond_false] at h
    · have := findE_spec h; exact ⟨List.mem_cons_of_mem _ this.1, this.2⟩
    · cases h; exact ⟨List.mem_cons_self .., Nat.eq_of_beq_eq_true hb⟩
/-- **A RUN BY COMPUTING STANDS FOR A CALL.** -/
theorem runO_ok {ov : CallE} (hov : CallOK P ov) {tbl : List FE} (htbl : ∀ e ∈ tbl, okF P e.f e.N e.ac e.rs = true) (lf : Nat) : ∀ n, CallOK P (runO ov tbl lf n)
  | 0 => ⟨fun f vs T r T' h => by simp [runO] at h⟩
  | n + 1 => ⟨fun f vs T r T' h H R => by
    simp only [runO] at h
    split at h
    · exact hov.ok _ _ _ _ _ h H R
    · rename_i e he
      obtain ⟨hm, rfl⟩ := findE_spec he
      cases hb : Nat.ble vs.length e.N <;> simp only [hb, cond_true, cond_false] at h
      · cases h
      · split at h
        · rename_i F hF
          have hc := runO_ok hov htbl lf n
          split at h
          · cases h
          · rename_i x F' T1 hne hx
            split at h
            · rename_i rs hrs; cases h
              obtain ⟨fr1, H1, RF1, R1, hK⟩ := AC.e_run hc (n := H.nx) e.ac hx (frameE_rep hF) R
              refine ⟨H1, R1, fun K hk => callA_of (htbl e hm) (Nat.le_of_ble_eq_true hb) (hK _ ?_)⟩
              cases x with
              | normal => exact resE_run RF1 R1 hrs (RetA.same hk)
              | exit id => exact (hne _ rfl).elim
              | ret => exact resE_run RF1 R1 hrs (RetA.same hk)
            · cases h
          · cases h
        · cases h⟩
theorem runE_ok {tbl : List FE} (htbl : ∀ e ∈ tbl, okF P e.f e.N e.ac e.rs = true) (lf : Nat) (n : Nat) : CallOK P (runE tbl lf n) := runO_ok ⟨fun _ _ _ _ _ h => by cases h⟩ htbl lf n
def okAll (P : Program) : List FE → Prop
  | [] => True
  | e :: r => okF P e.f e.N e.ac e.rs = true ∧ okAll P r
theorem okAll_spec : ∀ {tbl : List FE}, okAll P tbl → ∀ e ∈ tbl, okF P e.f e.N e.ac e.rs = true
  | [], _, e, he => by cases he
  | e :: r, h, e', he => by
    rcases List.mem_cons.1 he with rfl | he
    · exact h.1
    · exact okAll_spec h.2 e' he
/-- A run's result, of data alone. -/
def resultE (tbl : List FE) (lf n : Nat) (f : FuncId) (vs : List AV) : Option AV := match runE tbl lf n f vs EH.nil with
  | some (r, T) => pubE T.get 8 r
  | none => none
theorem CallA.computed {tbl : List FE} (htbl : okAll P tbl) (lf n : Nat) {f : FuncId} {vs : List AV} {r : AV} (h : resultE tbl lf n f vs = some r) :
    CallA P f vs Heap.nil fun v H' => v = r ∧ H' = Heap.nil := by
  unfold resultE at h
  split at h
  · rename_i r' T' hrun
    obtain ⟨H', R', hK⟩ := (runE_ok (okAll_spec htbl) lf n).ok _ _ _ _ _ hrun _ RepH.nil
    refine CallA.out 8 (hK (fun v H => v = r' ∧ H = H') ⟨rfl, rfl⟩) ?_
    rintro v H ⟨rfl, rfl⟩
    exact ⟨_, by rw [R'.get]; exact h, rfl, rfl⟩
  · cases h
def resultO (ov : CallE) (tbl : List FE) (lf n : Nat) (f : FuncId) (vs : List AV) : Option AV := match runO ov tbl lf n f vs EH.nil with
  | some (r, T) => pubE T.get 8 r
  | none => none
/-- A run by computing, with contracts for some functions. -/
theorem CallA.computedO {ov : CallE} (hov : CallOK P ov) {tbl : List FE} (htbl : okAll P tbl) (lf n : Nat) {f : FuncId} {vs : List AV} {r : AV} (h : resultO ov tbl lf n f vs = some r) :
    CallA P f vs Heap.nil fun v H' => v = r ∧ H' = Heap.nil := by
  unfold resultO at h
  split at h
  · rename_i r' T' hrun
    obtain ⟨H', R', hK⟩ := (runO_ok hov (okAll_spec htbl) lf n).ok _ _ _ _ _ hrun _ RepH.nil
    refine CallA.out 8 (hK (fun v H => v = r' ∧ H = H') ⟨rfl, rfl⟩) ?_
    rintro v H ⟨rfl, rfl⟩
    exact ⟨_, by rw [R'.get]; exact h, rfl, rfl⟩
  · cases h
end
end Go.Eng

namespace Go.Proofs
open Go Go.Eng
set_option maxRecDepth 100000
set_option maxHeartbeats 2000000
/-! ### Contracts, computed -/
def seqN {β : Type} (m : Nat) (K : Nat → β) : β := match m with
  | 0 => K 0
  | n + 1 => K (n + 1)
theorem seqN_eq {β : Type} (m : Nat) (K : Nat → β) : seqN m K = K m := by cases m <;> rfl
def words16 : List Nat → List Nat → List Nat
  | b0 :: b1 :: b2 :: b3 :: r, out => seqN (word b0 b1 b2 b3) fun w => words16 r (w :: out)
  | _, out => out
def extF : Nat → List Nat → List Nat
  | 0, r => r
  | n + 1, r => seqN (r.getD 14 0) fun p => seqN (r.getD 1 0) fun q => seqN ((((r.getD 15 0 + sg0 p) % 4294967296 + r.getD 6 0) % 4294967296 + sg1 q) % 4294967296) fun w => extF n (w :: r)
def roundsF : List Nat → List Nat → S8 → S8
  | k :: ks, w :: ws, s => seqN (t1N s k w) fun x => seqN ((x + t2N s) % 4294967296) fun a => seqN ((s.d + x) % 4294967296) fun e => roundsF ks ws ⟨a, s.a, s.b, s.c, e, s.e, s.f, s.g⟩
  | _, _, s => s
def revF : List Nat → List Nat → List Nat
  | [], o => o
  | a :: r, o => revF r (a :: o)
def compF (s : S8) (bs : List Nat) : S8 := s.add (roundsF KS (revF (extF 48 (words16 bs [])) []) s)
theorem revF_eq : ∀ (l o : List Nat), revF l o = l.reverse ++ o
  | [], o => rfl
  | a :: r, o => by rw [revF, revF_eq r]; simp
theorem words16_eq {bs : List Nat} : ∀ (n t : Nat), t + n = 16 → bs.length = 64 → words16 (bs.drop (4 * t)) (sched bs t).reverse = (sched bs 16).reverse
  | 0, t, h, hl => by
    have : t = 16 := by omega
    subst this
    rw [List.drop_eq_nil_of_le (by omega)]; rfl
  | n + 1, t, h, hl => by
    have e : bs.drop (4 * t) = bs.getD (4 * t) 0 :: bs.getD (4 * t + 1) 0 :: bs.getD (4 * t + 2) 0 :: bs.getD (4 * t + 3) 0 :: bs.drop (4 * (t + 1)) := by
      have st : ∀ i, i < bs.length → bs.drop i = bs.getD i 0 :: bs.drop (i + 1) := fun i hi => by
        rw [List.drop_eq_getElem_cons hi]; congr 1
        simp [List.getD_eq_getElem?_getD, List.getElem?_eq_getElem hi]
      rw [st (4 * t) (by omega), st (4 * t + 1) (by omega), st (4 * t + 2) (by omega), st (4 * t + 3) (by omega)]; rfl
    rw [e, words16, seqN_eq]
    have : (word (bs.getD (4 * t) 0) (bs.getD (4 * t + 1) 0) (bs.getD (4 * t + 2) 0) (bs.getD (4 * t + 3) 0)) :: (sched bs t).reverse = (sched bs (t + 1)).reverse := by
      show _ = (sched bs t ++ [nxt bs (sched bs t) t]).reverse
      rw [List.reverse_append]; unfold nxt; rw [if_pos (by omega)]; rfl
    rw [this]
    exact words16_eq n (t + 1) (by omega) hl
theorem getD_rev (l : List Nat) (i : Nat) (h : i < l.length) : l.reverse.getD i 0 = l.getD (l.length - 1 - i) 0 := by
  rw [List.getD_eq_getElem?_getD, List.getD_eq_getElem?_getD, List.getElem?_reverse h]
theorem extF_eq {bs : List Nat} : ∀ (n t : Nat), 16 ≤ t → extF n (sched bs t).reverse = (sched bs (t + n)).reverse
  | 0, t, _ => rfl
  | n + 1, t, h => by
    have sl := sched_len bs t
    have g : ∀ i, i < t → (sched bs t).reverse.getD i 0 = (sched bs t).getD (t - 1 - i) 0 := fun i hi => by rw [getD_rev _ _ (by omega), sl]
    simp only [extF, seqN_eq]
    rw [g 14 (by omega), g 1 (by omega), g 15 (by omega), g 6 (by omega)]
    have : ((((sched bs t).getD (t - 1 - 15) 0 + sg0 ((sched bs t).getD (t - 1 - 14) 0)) % 4294967296 + (sched bs t).getD (t - 1 - 6) 0) % 4294967296 + sg1 ((sched bs t).getD (t - 1 - 1) 0)) % 4294967296 :: (sched bs t).reverse = (sched bs (t + 1)).reverse := by
      show _ = (sched bs t ++ [nxt bs (sched bs t) t]).reverse
      rw [List.reverse_append]; unfold nxt; rw [if_neg (by omega)]; rfl
    rw [this, extF_eq n (t + 1) (by omega)]
    congr 2; omega
theorem roundsF_eq {ws : List Nat} (s : S8) (hw : ws.length = 64) : ∀ (n t : Nat), t + n = 64 → roundsF (KS.drop t) (ws.drop t) (rounds ws s t) = rounds ws s 64
  | 0, t, h => by
    have : t = 64 := by omega
    subst this
    rw [List.drop_eq_nil_of_le (by rw [ks_len]; omega), roundsF]
    intros; contradiction
  | n + 1, t, h => by
    have st : ∀ (l : List Nat) i, i < l.length → l.drop i = l.getD i 0 :: l.drop (i + 1) := fun l i hi => by
      rw [List.drop_eq_getElem_cons hi]; congr 1
      simp [List.getD_eq_getElem?_getD, List.getElem?_eq_getElem hi]
    rw [st KS t (by rw [ks_len]; omega), st ws t (by omega), roundsF]
    simp only [seqN_eq]
    exact roundsF_eq s hw n (t + 1) (by omega)
theorem words16_0 {bs : List Nat} (h : bs.length = 64) : words16 bs [] = (sched bs 16).reverse := words16_eq 16 0 rfl h
attribute [local irreducible] sched rounds roundsF extF words16 in
theorem compF_eq (s : S8) {bs : List Nat} (h : bs.length = 64) : compF s bs = compN s bs := by
  unfold compF compN
  rw [words16_0 h, extF_eq 48 16 (by omega), revF_eq, List.reverse_reverse, List.append_nil]
  have h2 := roundsF_eq s (sched_len bs 64) 64 0 rfl
  rw [List.drop_zero, List.drop_zero, rounds_zero] at h2
  rw [show 16 + 48 = 64 from rfl, h2]
def natsOf (k : IntKind) (b : Nat) : List AV → Option (List Nat)
  | [] => some []
  | .int j (.ofNat n) :: r => if j = k then bif Nat.blt n b then (match natsOf k b r with
    | some l => some (n :: l)
    | none => none) else none else none
  | _ => none
theorem natsOf_spec {k : IntKind} {b : Nat} : ∀ {l : List AV} {ns : List Nat}, natsOf k b l = some ns → l = ns.map (fun n : Nat => AV.int k (n : Int)) ∧ ∀ n ∈ ns, n < b
  | [], ns, h => by simp only [natsOf] at h; cases h; exact ⟨rfl, fun _ h => by cases h⟩
  | c :: r, ns, h => by
    cases c <;> try (simp [natsOf] at h; done)
    rename_i j n
    cases n with
    | negSucc m => simp [natsOf] at h
    | ofNat m =>
      simp only [natsOf] at h
      split at h
      · rename_i hj
        subst hj
        cases hb : Nat.blt m b <;> simp only [hb, cond_true, cond_false] at h
        · cases h
        · split at h
          · rename_i l hl
            cases h
            obtain ⟨h1, h2⟩ := natsOf_spec hl
            refine ⟨by rw [List.map_cons, ← h1]; rfl, fun n hn => ?_⟩
            rcases List.mem_cons.1 hn with rfl | hn
            · simpa [Nat.blt_eq] using hb
            · exact h2 n hn
          · cases h
      · cases h
def ov57 (vs : List AV) : Option AV := match vs with
  | [.agg s, .dslice b 64 _] => match natsOf .u32 4294967296 s with
    | some [a, bb, c, d, e, f, g, h] => match natsOf .u8 256 b with
      | some bs => bif Nat.beq bs.length 64 then (match compF ⟨a, bb, c, d, e, f, g, h⟩ bs with
        | ⟨a, b, c, d, e, f, g, h⟩ => seqN a fun a => seqN b fun b => seqN c fun c => seqN d fun d => seqN e fun e => seqN f fun f => seqN g fun g => seqN h fun h => some (.agg [.int .u32 (.ofNat a), .int .u32 (.ofNat b), .int .u32 (.ofNat c), .int .u32 (.ofNat d), .int .u32 (.ofNat e), .int .u32 (.ofNat f), .int .u32 (.ofNat g), .int .u32 (.ofNat h)])) else none
      | none => none
    | _ => none
  | _ => none
attribute [local irreducible] compF compN in
theorem ov57_run {vs : List AV} {r : AV} (h : ov57 vs = some r) {H : Heap} {K : AV → Heap → Prop} (hk : K r H) : CallA Tryd.prog 57 vs H K := by
  unfold ov57 at h
  split at h
  · rename_i s b cap
    split at h
    · rename_i a bb c d e f g hh hs
      split at h
      · rename_i bs hb
        obtain ⟨rfl, h1⟩ := natsOf_spec hs
        obtain ⟨rfl, h2⟩ := natsOf_spec hb
        cases hl : Nat.beq bs.length 64 <;> simp only [hl, cond_true, cond_false] at h
        · cases h
        · have hl := Nat.eq_of_beq_eq_true hl
          have ho : S8.ok ⟨a, bb, c, d, e, f, g, hh⟩ := ⟨h1 _ (by simp), h1 _ (by simp), h1 _ (by simp), h1 _ (by simp), h1 _ (by simp), h1 _ (by simp), h1 _ (by simp), h1 _ (by simp)⟩
          have hc := c57 _ bs cap ho hl h2
          simp only [seqN_eq, compF_eq _ hl] at h
          generalize compN ⟨a, bb, c, d, e, f, g, hh⟩ bs = q at h hc
          cases h
          exact CallA.pure hc rfl rfl hk
      · cases h
    · cases h
  · cases h
end Go.Proofs

namespace Go.Proofs
open Go Go.Eng
set_option maxRecDepth 100000
set_option maxHeartbeats 2000000
def unmap : List (AV × AV) → Option (List (Nat × List AV))
  | [] => some []
  | (.int .i64 (.ofNat i), .dslice c 1 none) :: r => match unmap r with
    | some l => some ((i, c) :: l)
    | none => none
  | _ => none
theorem unmap_spec : ∀ {es : List (AV × AV)} {ls : List (Nat × List AV)}, unmap es = some ls → es = emap ls
  | [], ls, h => by simp only [unmap] at h; cases h; rfl
  | (a, b) :: r, ls, h => by
    unfold unmap at h
    split at h
    · rename_i e; cases e
    · rename_i i c r' e
      cases e
      split at h
      · rename_i l hl; cases h
        rw [unmap_spec hl]; rfl
      · cases h
    · cases h
def chunkN : Nat → List AV → Option (List (List AV))
  | 0, [] => some []
  | 0, _ => none
  | n + 1, cs => bif Nat.beq (cs.take 65).length 65 then (match chunkN n (cs.drop 65) with
    | some l => some (cs.take 65 :: l)
    | none => none) else none
theorem chunkN_spec : ∀ {n : Nat} {cs : List AV} {ch : List (List AV)}, chunkN n cs = some ch → cs = ch.flatten ∧ ch.length = n ∧ ∀ c ∈ ch, c.length = 65
  | 0, [], ch, h => by simp only [chunkN] at h; cases h; exact ⟨rfl, rfl, fun _ h => by cases h⟩
  | 0, _ :: _, ch, h => by simp [chunkN] at h
  | n + 1, cs, ch, h => by
    simp only [chunkN] at h
    cases hb : Nat.beq (cs.take 65).length 65 <;> simp only [hb, cond_true, cond_false] at h
    · cases h
    · split at h
      · rename_i l hl; cases h
        obtain ⟨h1, h2, h3⟩ := chunkN_spec hl
        refine ⟨by rw [List.flatten_cons, ← h1, List.take_append_drop], by simp [h2], fun c hc => ?_⟩
        rcases List.mem_cons.1 hc with rfl | hc
        · exact Nat.eq_of_beq_eq_true hb
        · exact h3 c hc
      · cases h
def nodupN : List Nat → Bool
  | [] => true
  | a :: r => !memN a r && nodupN r
theorem nodupN_spec : ∀ {l : List Nat}, nodupN l = true → l.Nodup
  | [], _ => List.nodup_nil
  | a :: r, h => by
    simp only [nodupN, Bool.and_eq_true, Bool.not_eq_true'] at h
    exact List.nodup_cons.2 ⟨fun hm => (by rw [memN_iff.2 hm] at h; exact absurd h.1 (by simp)), nodupN_spec h.2⟩
theorem OkS.all {n : Nat} {ch : List (List AV)} : ∀ {ls : List (Nat × List AV)}, OkS n ch ls → OkS n (fin ch ls) []
  | [], h => h
  | x :: ls, h => (OkS.out (l1 := []) h).all
def okSb (n : Nat) (ch : List (List AV)) (ls : List (Nat × List AV)) : Bool :=
  Nat.blt 0 n && ch.all (fun c => c.all noLoc) && nodupN (ls.map (·.1)) && ls.all fun x => Nat.blt x.1 n && Nat.beq x.2.length 64 && x.2.all scal && x.2.all noLoc
theorem okSb_spec {n : Nat} {ch : List (List AV)} {ls : List (Nat × List AV)} (h : okSb n ch ls = true) (h1 : ch.length = n) (h2 : ∀ c ∈ ch, c.length = 65) : OkS n ch ls := by
  simp only [okSb, Bool.and_eq_true, List.all_eq_true, Nat.blt_eq, Nat.beq_eq] at h
  obtain ⟨⟨⟨a, b⟩, c⟩, d⟩ := h
  exact ⟨h1, a, fun x hx => ⟨h2 x hx, fun y hy => b x hx y hy⟩, nodupN_spec c, fun x hx => (d x hx).1.1.1, fun x hx => ⟨(d x hx).1.1.2, (d x hx).1.2, (d x hx).2⟩⟩
def forceL {β : Type} : List AV → (List AV → Option β) → Option β
  | [], K => K []
  | c :: r, K => fvE c fun c => forceL r fun r => K (c :: r)
theorem forceL_eq {β : Type} : ∀ (l : List AV) (K : List AV → Option β), forceL l K = K l
  | [], _ => rfl
  | c :: r, K => by rw [forceL, fvE_eq, forceL_eq r]
def ov38 (vs : List AV) (T : EH) : Option (AV × EH) := match vs with
  | [.ptr kd 0] => match T.get kd with
    | .cells [.slice kc 0 n (some n') 65, .map km, .int .i64 (.ofNat st), .int .i64 (.negSucc 0), .bool false] =>
      bif Nat.beq n' n && !Nat.beq kd kc && !Nat.beq kd km && !Nat.beq kc km && Nat.blt kd T.nx && Nat.blt kc T.nx && Nat.blt km T.nx && Nat.blt n 1000000 && Nat.blt st 1000000 then (match T.get kc with
        | .cells cs => match T.get km with
          | .map es => match unmap es with
            | some ls => match chunkN n cs with
              | some ch => bif okSb n ch ls then (forceL (fin ch ls).flatten fun cs' => seqN (st + 1) fun st' => match T.put kd (.cells [.slice kc 0 n (some n) 65, .map km, .int .i64 (.ofNat st'), .int .i64 (.negSucc 0), .bool false]) with
                | some T1 => match T1.put kc (.cells cs') with
                  | some T2 => match T2.put km (.map []) with
                    | some T3 => some (.int .i64 (.ofNat 0), T3)
                    | none => none
                  | none => none
                | none => none) else none
              | none => none
            | none => none
          | _ => none
        | _ => none) else none
    | _ => none
  | _ => none
theorem lentOk_of {keep : List (Nat × Bool)} {η : Nat → AB} (h : ∀ j, (η j).noit) : ∀ n, lentOk keep η n = true
  | 0 => rfl
  | n + 1 => by
    rw [lentOk_succ]
    have := h n
    split
    · rename_i k l c e; rw [e] at this; exact this.elim
    · exact lentOk_of h n
theorem sync_at {H : Heap} {kd kc km n st : Nat} {ch : List (List AV)} {ls : List (Nat × List AV)} (hkd : H.get kd = .cells [.slice kc 0 n (some n) 65, .map km, .int .i64 (.ofNat st), .int .i64 (.negSucc 0), .bool false])
    (hkc : H.get kc = .cells ch.flatten) (hkm : H.get km = .map (emap ls)) (e1 : Nat.beq kd kc = false) (e2 : Nat.beq kd km = false) (e3 : Nat.beq kc km = false) (b1 : Nat.blt kd H.nx = true) (b2 : Nat.blt kc H.nx = true) (b3 : Nat.blt km H.nx = true) (hno : ∀ j, (H.get j).noit)
    (hO : OkS n ch ls) (hn : n < 1000000) (hs : st < 1000000) {K : AV → Heap → Prop} (hk : K (.int .i64 (.ofNat 0)) (((H.set kd (.cells [.slice kc 0 n (some n) 65, .map km, .int .i64 (.ofNat (st + 1)), .int .i64 (.negSucc 0), .bool false])).set kc (.cells (fin ch ls).flatten)).set km (.map []))) : CallA Tryd.prog 38 [.ptr kd 0] H K := by
  have e1' : Nat.beq kc kd = false := by
    rw [Bool.eq_false_iff] at e1 ⊢; intro h; exact e1 (by rw [Nat.eq_of_beq_eq_true h]; simp)
  have e2' : Nat.beq km kd = false := by
    rw [Bool.eq_false_iff] at e2 ⊢; intro h; exact e2 (by rw [Nat.eq_of_beq_eq_true h]; simp)
  have e3' : Nat.beq km kc = false := by
    rw [Bool.eq_false_iff] at e3 ⊢; intro h; exact e3 (by rw [Nat.eq_of_beq_eq_true h]; simp)
  have n1 : kd ≠ kc := fun h => by subst h; simp at e1
  have n2 : kd ≠ km := fun h => by subst h; simp at e2
  have n3 : kc ≠ km := fun h => by subst h; simp at e3
  have c := c38 (n := n) (st := st) hO hn (by omega) (by omega)
  have hrn : renL (posOf [(kd, false), (kc, true), (km, true)]) [.ptr kd 0] = [.ptr 0 0] := by
    simp [renL, ren, posOf, posOf.go]
  have hp : gcH [(kd, false), (kc, true), (km, true)] H = hS n st ch ls := by
    simp only [gcH, gcB, hkd, hkc, hkm, cond_true, cond_false, renB, renL, ren, posOf, posOf.go, Nat.beq_refl, e1, e2, e3, e1', e2', e3']
    rfl
  have hO' : OkS n (fin ch ls) [] := hO.all
  refine CallA.ext (K := fun v H' => v = .int .i64 (.ofNat 0) ∧ H' = lendH [(kd, false), (kc, true), (km, true)] H (hS n (st + 1) (fin ch ls) [])) (CallA.lend [(kd, false), (kc, true), (km, true)] (by rw [hrn, hp]; exact c) ?_ ?_ ?_ ?_ (lentOk_of hno _)) ?_
  · simp only [Eng.distinct, Eng.fresh, e1', e2', e3', Bool.not_false, Bool.and_self, Bool.and_true]
  · exact ⟨by rw [hkc]; exact hO.dat, by rw [hkm]; trivial, trivial⟩
  · simp only [List.all_cons, List.all_nil, b1, b2, b3, Bool.and_self]
  · rintro v H' ⟨rfl, rfl⟩
    exact ⟨⟨hO'.dat, trivial, trivial⟩, rfl, rfl⟩
  · rintro v H' ⟨rfl, rfl⟩
    refine ⟨_, ?_, ?_, hk⟩
    · rfl
    · rfl
theorem ov38_run {vs : List AV} {T T' : EH} {r : AV} (h : ov38 vs T = some (r, T')) {H : Heap} (R : RepH T H) : ∃ H', RepH T' H' ∧ ∀ K : AV → Heap → Prop, K r H' → CallA Tryd.prog 38 vs H K := by
  unfold ov38 at h
  split at h
  · rename_i kd
    split at h
    · rename_i kc n n' km st hkd
      cases hb : (Nat.beq n' n && !Nat.beq kd kc && !Nat.beq kd km && !Nat.beq kc km && Nat.blt kd T.nx && Nat.blt kc T.nx && Nat.blt km T.nx && Nat.blt n 1000000 && Nat.blt st 1000000) <;> simp only [hb, cond_true, cond_false] at h
      · cases h
      · simp only [Bool.and_eq_true, Bool.not_eq_true'] at hb
        obtain ⟨⟨⟨⟨⟨⟨⟨⟨e1, e2⟩, e3⟩, e4⟩, b1⟩, b2⟩, b3⟩, b4⟩, b5⟩ := hb
        have e1 := Nat.eq_of_beq_eq_true e1
        subst e1
        simp only [Nat.blt_eq] at b4 b5
        split at h
        · rename_i cs hkc
          split at h
          · rename_i es hkm
            split at h
            · rename_i ls hls
              split at h
              · rename_i ch hch
                cases ho : okSb n' ch ls <;> simp only [ho, cond_true, cond_false] at h
                · cases h
                · simp only [forceL_eq, seqN_eq] at h
                  obtain ⟨c1, c2, c3⟩ := chunkN_spec hch
                  have hO := okSb_spec ho c2 c3
                  have hE := unmap_spec hls
                  subst c1 hE
                  split at h
                  · rename_i T1 h1
                    split at h
                    · rename_i T2 h2
                      split at h
                      · rename_i T3 h3
                        cases h
                        have R3 := ((R.put h1).put h2).put h3
                        refine ⟨_, R3, fun K hk => ?_⟩
                        exact sync_at (by rw [R.get]; exact hkd) (by rw [R.get]; exact hkc) (by rw [R.get]; exact hkm) e2 e3 e4 (by rw [R.nx]; exact b1) (by rw [R.nx]; exact b2) (by rw [R.nx]; exact b3) R.noit hO b4 b5 hk
                      · cases h
                    · cases h
                  · cases h
              · cases h
            · cases h
          · cases h
        · cases h
    · cases h
  · cases h
/-- The contracts. -/
def ovB : CallE := fun f vs T => bif Nat.beq f 57 then (match ov57 vs with
    | some r => some (r, T)
    | none => none)
  else bif Nat.beq f 38 then ov38 vs T else none
theorem ovB_ok : CallOK Tryd.prog ovB := ⟨fun f vs T r T' h H R => by
  unfold ovB at h
  cases h1 : Nat.beq f 57 <;> simp only [h1, cond_true, cond_false] at h
  · cases h2 : Nat.beq f 38 <;> simp only [h2, cond_true, cond_false] at h
    · cases h
    · have := Nat.eq_of_beq_eq_true h2; subst this
      exact ov38_run h R
  · have := Nat.eq_of_beq_eq_true h1; subst this
    split at h
    · rename_i r' hr; cases h
      exact ⟨H, R, fun K hk => ov57_run hr hk⟩
    · cases h⟩
end Go.Proofs

set_option maxRecDepth 100000
namespace Go.Proofs
open Go Go.Eng
def tblS : List FE := [⟨8, 223, ac8, rs8⟩, ⟨9, 31, ac9, rs9⟩, ⟨12, 70, ac12, rs12⟩, ⟨14, 59, ac14, rs14⟩, ⟨15, 58, ac15, rs15⟩, ⟨16, 44, ac16, rs16⟩, ⟨20, 23, ac20, rs20⟩, ⟨22, 14, ac22, rs22⟩, ⟨23, 7, ac23, rs23⟩, ⟨24, 65, ac24, rs24⟩, ⟨25, 19, ac25, rs25⟩, ⟨27, 68, ac27, rs27⟩, ⟨30, 9, ac30, rs30⟩, ⟨31, 48, ac31, rs31⟩, ⟨33, 9, ac33, rs33⟩, ⟨34, 8, ac34, rs34⟩, ⟨36, 34, ac36, rs36⟩, ⟨37, 32, ac37, rs37⟩, ⟨39, 22, ac39, rs39⟩, ⟨40, 47, ac40, rs40⟩, ⟨42, 8, ac42, rs42⟩, ⟨43, 30, ac43, rs43⟩, ⟨44, 19, ac44, rs44⟩, ⟨45, 32, ac45, rs45⟩, ⟨46, 32, ac46, rs46⟩, ⟨49, 17, ac49, rs49⟩, ⟨50, 51, ac50, rs50⟩, ⟨51, 3, ac51, rs51⟩, ⟨52, 38, ac52, rs52⟩, ⟨53, 8, ac53, rs53⟩, ⟨54, 58, ac54, rs54⟩, ⟨58, 27, ac58, rs58⟩]
theorem tblS_ok : okAll Tryd.prog tblS := ⟨ok8, ok9, ok12, ok14, ok15, ok16, ok20, ok22, ok23, ok24, ok25, ok27, ok30, ok31, ok33, ok34, ok36, ok37, ok39, ok40, ok42, ok43, ok44, ok45, ok46, ok49, ok50, ok51, ok52, ok53, ok54, ok58, trivial⟩
end Go.Proofs

set_option maxRecDepth 1000000
namespace Go.Proofs
open Go Go.Eng
theorem san_run : resultO ovB tblS 200 40 8 [] = some (.bool true) := by kernel_rfl
theorem c8 : CallA Tryd.prog 8 [] Heap.nil fun v H' => v = .bool true ∧ H' = Heap.nil := CallA.computedO ovB_ok tblS_ok 200 40 san_run
end Go.Proofs

namespace Go.Proofs
open Go Go.Eng
set_option maxRecDepth 100000
set_option maxHeartbeats 2000000
/-- A page's place. -/
structure Pl where
  (s n : Int)
def pc : List Pl → List AV
  | [] => []
  | x :: r => I x.s :: I x.n :: pc r
def pgs (l : List Pl) (cap : Option Nat) : AV := .agg [.dslice (pc l) l.length cap]
theorem pc_at : ∀ (i : Nat) (l : List Pl) (h : i < l.length), (pc l).drop (i * 2) = I (l[i].s) :: I (l[i].n) :: pc (l.drop (i + 1))
  | 0, x :: r, _ => rfl
  | i + 1, x :: r, h => by
    have e : (i + 1) * 2 = i * 2 + 2 := by omega
    rw [e]
    show (pc r).drop (i * 2) = _
    rw [pc_at i r (by simpa using h)]
    rfl
theorem pc_noLoc : ∀ (l : List Pl), ∀ c ∈ pc l, noLoc c = true
  | [], c, h => by cases h
  | x :: r, c, h => by
    simp only [pc, List.mem_cons] at h
    rcases h with rfl | rfl | h
    · rfl
    · rfl
    · exact pc_noLoc r c h
theorem pc_scal : ∀ (l : List Pl), ∀ c ∈ pc l, scal c = true
  | [], c, h => by cases h
  | x :: r, c, h => by
    simp only [pc, List.mem_cons] at h
    rcases h with rfl | rfl | h
    · rfl
    · rfl
    · exact pc_scal r c h
theorem pc_len : ∀ (l : List Pl), (pc l).length = l.length * 2
  | [] => rfl
  | x :: r => by simp only [pc, List.length_cons, pc_len r]; omega
theorem pc_app : ∀ (a b : List Pl), pc (a ++ b) = pc a ++ pc b
  | [], b => rfl
  | x :: a, b => by simp only [List.cons_append, pc, pc_app a b]
/-- The place at an index. -/
theorem nthA {cs : List AV} {a b : AV} {r : List AV} {K : AV → Prop} (e : cs = a :: b :: r) (h : fv a K) : nthK 0 cs K := by subst e; exact h
theorem nthB {cs : List AV} {a b : AV} {r : List AV} {K : AV → Prop} (e : cs = a :: b :: r) (h : fv b K) : nthK 0 (cs.drop (0 + 1)) K := by subst e; exact h
theorem tk2 {cs : List AV} {a b : AV} {r : List AV} {K : List AV → Prop} (e : cs = a :: b :: r) (h : K [a, b]) : takeK 2 cs K := by
  subst e
  rw [takeK_eq _ _ _ (by simp)]; exact h
def cnt (l : List Pl) (st : Int) : Nat := (l.filter fun x => decide (x.s = st)).length
def L20 (l : List Pl) (cap : Option Nat) (st : Int) (m : Nat) (fr : Fr) (H : Heap) : Prop := ∃ i : Nat, i ≤ l.length ∧ m = l.length - i ∧ fr = [(1, I st), (5, I (cnt (l.take i) st)), (9, .dslice (pc l) l.length cap), (10, I l.length), (11, I i)] ∧ H = Heap.nil
theorem cnt_succ (l : List Pl) (st : Int) (i : Nat) (h : i < l.length) : cnt (l.take (i + 1)) st = cnt (l.take i) st + if l[i].s = st then 1 else 0 := by
  unfold cnt
  rw [List.take_succ, List.getElem?_eq_getElem h, List.filter_append, List.length_append]
  by_cases e : l[i].s = st <;> simp [e]
theorem cnt_le (l : List Pl) (st : Int) : cnt l st ≤ l.length := List.length_filter_le _ _
theorem c20 (l : List Pl) (cap : Option Nat) (st : Int) (hl : l.length ≤ 1000) : CallA Tryd.prog 20 [pgs l cap, I st] Heap.nil fun v H' => v = I (cnt l st) ∧ H' = Heap.nil := by
  refine callA_of ok20 (Nat.le_of_ble_eq_true rfl) ?_
  repeat' ((conv => whnf); first
      | refine Branch.ofT rfl ?_
      | refine Branch.ofF rfl ?_
      | refine Branch.dec (fun h => ?_) (fun h => ?_)
      | refine Branch.negdec (fun h => ?_) (fun h => ?_)
      | refine Branch.neg (fun h => ?_) (fun h => ?_)
      | refine Branch.mk (fun h => ?_) (fun h => ?_)
      | (refine Side.mk ?_ ?_; · first | omega | decide)
      | (refine SideD.mk ?_ ?_; · first | omega | decide)
      | refine ⟨_, Nat.lt_succ_self _, To.refl (.inl ⟨rfl, ?_⟩)⟩
      | (refine Side.mk ?_ ?_; · (simp; done))
      | fail
      )
  all_goals (conv => whnf)
  refine ⟨L20 l cap st, l.length, To.gc [] [1, 5, 9, 10, 11] rfl trivial ⟨0, by omega, by omega, by simp [cnt]; rfl, rfl⟩, ?_⟩
  rintro m fr H ⟨i, hi, rfl, rfl, rfl⟩
  have hle := cnt_le (l.take i) st
  rw [List.length_take] at hle
  by_cases hil : i < l.length
  · have hat := pc_at i l hil
    have hs := cnt_succ l st i hil
    repeat' ((conv => whnf); first
        | refine Branch.ofT rfl ?_
        | refine Branch.ofF rfl ?_
        | refine Branch.ofT (decide_eq_true (by omega)) ?_
        | refine Branch.dec (fun h => ?_) (fun h => ?_)
        | refine Branch.negdec (fun h => ?_) (fun h => ?_)
        | refine Branch.neg (fun h => ?_) (fun h => ?_)
        | refine Branch.mk (fun h => ?_) (fun h => ?_)
        | (refine Side.mk ?_ ?_; · first | omega | decide)
        | (refine SideD.mk ?_ ?_; · first | omega | decide)
        | refine ⟨_, Nat.lt_succ_self _, To.refl (.inl ⟨rfl, ?_⟩)⟩
        | refine tk2 hat ?_
        | (refine Side.mk ?_ ?_; · (simp; done))
        | fail
        )
    all_goals (conv => whnf)
    · exact ⟨l.length - (i + 1), by omega, To.gc [] [1, 5, 9, 10, 11] rfl trivial ⟨i + 1, by omega, rfl, by rw [hs, if_pos h]; rfl, rfl⟩⟩
    · exact ⟨l.length - (i + 1), by omega, To.gc [] [1, 5, 9, 10, 11] rfl trivial ⟨i + 1, by omega, rfl, by rw [hs, if_neg h]; rfl, rfl⟩⟩
  · have : i = l.length := by omega
    subst this
    repeat' ((conv => whnf); first
        | refine Branch.ofT rfl ?_
        | refine Branch.ofF rfl ?_
        | refine Branch.ofF (decide_eq_false (by omega)) ?_
        | refine Branch.dec (fun h => ?_) (fun h => ?_)
        | refine Branch.negdec (fun h => ?_) (fun h => ?_)
        | refine Branch.neg (fun h => ?_) (fun h => ?_)
        | refine Branch.mk (fun h => ?_) (fun h => ?_)
        | (refine Side.mk ?_ ?_; · first | omega | decide)
        | (refine SideD.mk ?_ ?_; · first | omega | decide)
        | refine ⟨_, Nat.lt_succ_self _, To.refl (.inl ⟨rfl, ?_⟩)⟩
        | (refine Side.mk ?_ ?_; · (simp; done))
        | fail
        )
    all_goals (conv => whnf)
    rw [List.take_length]
    exact RetA.data rfl ⟨rfl, rfl⟩
def HP (l : List Pl) (cap : Option Nat) : Heap := ⟨1, [(0, .cells [.dslice (pc l) l.length cap])]⟩
def L21 (l : List Pl) (cap : Option Nat) (st : Int) (m : Nat) (fr : Fr) (H : Heap) : Prop := ∃ i : Nat, i ≤ l.length ∧ m = l.length - i ∧ fr = [(1, I st), (2, .ptr 0 0), (5, I (cnt (l.take i) st)), (6, I i)] ∧ H = HP l cap
theorem c21 (l : List Pl) (cap : Option Nat) (st : Int) (hl : l.length ≤ 1000) : CallA Tryd.prog 21 [pgs l cap, I st] Heap.nil fun v H' => v = I (cnt l st) ∧ H' = Heap.nil := by
  refine callA_of ok21 (Nat.le_of_ble_eq_true rfl) ?_
  repeat' ((conv => whnf); first
      | refine Branch.ofT rfl ?_
      | refine Branch.ofF rfl ?_
      | refine Branch.dec (fun h => ?_) (fun h => ?_)
      | refine Branch.negdec (fun h => ?_) (fun h => ?_)
      | refine Branch.neg (fun h => ?_) (fun h => ?_)
      | refine Branch.mk (fun h => ?_) (fun h => ?_)
      | (refine Side.mk ?_ ?_; · first | omega | decide)
      | (refine SideD.mk ?_ ?_; · first | omega | decide)
      | refine ⟨_, Nat.lt_succ_self _, To.refl (.inl ⟨rfl, ?_⟩)⟩
      | (refine Side.mk ?_ ?_; · (simp; done))
      | fail
      )
  all_goals (conv => whnf)
  refine ⟨L21 l cap st, l.length, To.gc [(0, true)] [1, 2, 5, 6] rfl ⟨dat rfl, trivial⟩ ⟨0, by omega, by omega, by simp [cnt]; rfl, rfl⟩, ?_⟩
  rintro m fr H ⟨i, hi, rfl, rfl, rfl⟩
  have hle := cnt_le (l.take i) st
  rw [List.length_take] at hle
  by_cases hil : i < l.length
  · have hat := pc_at i l hil
    have hs := cnt_succ l st i hil
    repeat' ((conv => whnf); first
        | refine Branch.ofT rfl ?_
        | refine Branch.ofF rfl ?_
        | refine Branch.ofT (decide_eq_true (by omega)) ?_
        | refine Branch.dec (fun h => ?_) (fun h => ?_)
        | refine Branch.negdec (fun h => ?_) (fun h => ?_)
        | refine Branch.neg (fun h => ?_) (fun h => ?_)
        | refine Branch.mk (fun h => ?_) (fun h => ?_)
        | (refine Side.mk ?_ ?_; · first | omega | decide)
        | (refine SideD.mk ?_ ?_; · first | omega | decide)
        | refine ⟨_, Nat.lt_succ_self _, To.refl (.inl ⟨rfl, ?_⟩)⟩
        | refine nthA hat ?_
        | (refine Side.mk ?_ ?_; · (simp; done))
        | fail
        )
    all_goals (conv => whnf)
    · exact ⟨l.length - (i + 1), by omega, To.gc [(0, true)] [1, 2, 5, 6] rfl ⟨dat rfl, trivial⟩ ⟨i + 1, by omega, rfl, by rw [hs, if_pos h]; rfl, rfl⟩⟩
    · exact ⟨l.length - (i + 1), by omega, To.gc [(0, true)] [1, 2, 5, 6] rfl ⟨dat rfl, trivial⟩ ⟨i + 1, by omega, rfl, by rw [hs, if_neg h]; rfl, rfl⟩⟩
  · have : i = l.length := by omega
    subst this
    repeat' ((conv => whnf); first
        | refine Branch.ofT rfl ?_
        | refine Branch.ofF rfl ?_
        | refine Branch.ofF (decide_eq_false (by omega)) ?_
        | refine Branch.dec (fun h => ?_) (fun h => ?_)
        | refine Branch.negdec (fun h => ?_) (fun h => ?_)
        | refine Branch.neg (fun h => ?_) (fun h => ?_)
        | refine Branch.mk (fun h => ?_) (fun h => ?_)
        | (refine Side.mk ?_ ?_; · first | omega | decide)
        | (refine SideD.mk ?_ ?_; · first | omega | decide)
        | refine ⟨_, Nat.lt_succ_self _, To.refl (.inl ⟨rfl, ?_⟩)⟩
        | (refine Side.mk ?_ ?_; · (simp; done))
        | fail
        )
    all_goals (conv => whnf)
    rw [List.take_length]
    exact RetA.data rfl ⟨rfl, rfl⟩
/-- The page that is in a slot. -/
def hold : List Pl → Int → Nat → Int
  | [], _, _ => -1
  | x :: r, slot, i => if x.s = 3 ∧ x.n = slot then (i : Int) else hold r slot (i + 1)
theorem hold_at (l : List Pl) (slot : Int) (i : Nat) (h : i < l.length) : hold (l.drop i) slot i = if l[i].s = 3 ∧ l[i].n = slot then (i : Int) else hold (l.drop (i + 1)) slot (i + 1) := by
  rw [List.drop_eq_getElem_cons h, hold]
def L32 (l : List Pl) (cap : Option Nat) (slot : Int) (m : Nat) (fr : Fr) (H : Heap) : Prop := ∃ i : Nat, i ≤ l.length ∧ m = l.length - i ∧ hold (l.drop i) slot i = hold l slot 0 ∧ fr = [(1, I slot), (2, .ptr 0 0), (5, I i)] ∧ H = HP l cap
theorem c32 (l : List Pl) (cap : Option Nat) (slot : Int) (hl : l.length ≤ 1000) : CallA Tryd.prog 32 [pgs l cap, I slot] Heap.nil fun v H' => v = I (hold l slot 0) ∧ H' = Heap.nil := by
  refine callA_of ok32 (Nat.le_of_ble_eq_true rfl) ?_
  repeat' ((conv => whnf); first
      | refine Branch.ofT rfl ?_
      | refine Branch.ofF rfl ?_
      | refine Branch.dec (fun h => ?_) (fun h => ?_)
      | refine Branch.negdec (fun h => ?_) (fun h => ?_)
      | refine Branch.neg (fun h => ?_) (fun h => ?_)
      | refine Branch.mk (fun h => ?_) (fun h => ?_)
      | (refine Side.mk ?_ ?_; · first | omega | decide)
      | (refine SideD.mk ?_ ?_; · first | omega | decide)
      | refine ⟨_, Nat.lt_succ_self _, To.refl (.inl ⟨rfl, ?_⟩)⟩
      | (refine Side.mk ?_ ?_; · (simp; done))
      | fail
      )
  all_goals (conv => whnf)
  refine ⟨L32 l cap slot, l.length, To.gc [(0, true)] [1, 2, 5] rfl ⟨dat rfl, trivial⟩ ⟨0, by omega, by omega, by rw [List.drop_zero], rfl, rfl⟩, ?_⟩
  rintro m fr H ⟨i, hi, rfl, hI, rfl, rfl⟩
  by_cases hil : i < l.length
  · have hat := pc_at i l hil
    have hs := hold_at l slot i hil
    repeat' ((conv => whnf); first
        | refine Branch.ofT rfl ?_
        | refine Branch.ofF rfl ?_
        | refine Branch.ofT (decide_eq_true (by omega)) ?_
        | refine Branch.dec (fun h => ?_) (fun h => ?_)
        | refine Branch.negdec (fun h => ?_) (fun h => ?_)
        | refine Branch.neg (fun h => ?_) (fun h => ?_)
        | refine Branch.mk (fun h => ?_) (fun h => ?_)
        | (refine Side.mk ?_ ?_; · first | omega | decide)
        | (refine SideD.mk ?_ ?_; · first | omega | decide)
        | refine ⟨_, Nat.lt_succ_self _, To.refl (.inl ⟨rfl, ?_⟩)⟩
        | refine nthA hat ?_
        | refine nthB hat ?_
        | (refine Side.mk ?_ ?_; · (simp; done))
        | fail
        )
    all_goals (conv => whnf)
    · rw [hs, if_pos ⟨‹l[i].s = 3›, h⟩] at hI
      rw [← hI]
      exact RetA.data rfl ⟨rfl, rfl⟩
    · rw [hs, if_neg (fun e => h e.2)] at hI
      exact ⟨l.length - (i + 1), by omega, To.gc [(0, true)] [1, 2, 5] rfl ⟨dat rfl, trivial⟩ ⟨i + 1, by omega, rfl, hI, rfl, rfl⟩⟩
    · rw [hs, if_neg (fun e => h e.1)] at hI
      exact ⟨l.length - (i + 1), by omega, To.gc [(0, true)] [1, 2, 5] rfl ⟨dat rfl, trivial⟩ ⟨i + 1, by omega, rfl, hI, rfl, rfl⟩⟩
  · have : i = l.length := by omega
    subst this
    repeat' ((conv => whnf); first
        | refine Branch.ofT rfl ?_
        | refine Branch.ofF rfl ?_
        | refine Branch.ofF (decide_eq_false (by omega)) ?_
        | refine Branch.dec (fun h => ?_) (fun h => ?_)
        | refine Branch.negdec (fun h => ?_) (fun h => ?_)
        | refine Branch.neg (fun h => ?_) (fun h => ?_)
        | refine Branch.mk (fun h => ?_) (fun h => ?_)
        | (refine Side.mk ?_ ?_; · first | omega | decide)
        | (refine SideD.mk ?_ ?_; · first | omega | decide)
        | refine ⟨_, Nat.lt_succ_self _, To.refl (.inl ⟨rfl, ?_⟩)⟩
        | (refine Side.mk ?_ ?_; · (simp; done))
        | fail
        )
    all_goals (conv => whnf)
    rw [List.drop_length, hold] at hI
    rw [← hI]
    exact RetA.data rfl ⟨rfl, rfl⟩
/-! ### What valid places are -/
def Pl.ok (x : Pl) : Prop := ¬ x.s < 1 ∧ ¬ x.s > 4 ∧ ¬ x.n < 0 ∧ (x.s ≠ 3 → x.n = 0)
structure RV (l : List Pl) : Prop where
  one : 1 ≤ l.length
  many : l.length ≤ 64
  all : ∀ i (h : i < l.length), l[i].ok ∧ (l[i].s = 3 → hold l l[i].n 0 = i)
open Classical in
noncomputable def rvB (l : List Pl) : Bool := decide (RV l)
theorem rvB_t {l : List Pl} (h : RV l) : rvB l = true := by unfold rvB; simpa using h
theorem rvB_f {l : List Pl} (h : ¬ RV l) : rvB l = false := by unfold rvB; simpa using h
def L13 (l : List Pl) (cap : Option Nat) (m : Nat) (fr : Fr) (H : Heap) : Prop := ∃ i : Nat, i ≤ l.length ∧ m = l.length - i ∧ (∀ j (h : j < l.length), j < i → l[j].ok ∧ (l[j].s = 3 → hold l l[j].n 0 = j)) ∧ fr = [(1, .ptr 0 0), (3, I i)] ∧ H = HP l cap
theorem c13 (l : List Pl) (cap : Option Nat) : CallA Tryd.prog 13 [pgs l cap] Heap.nil fun v H' => v = .bool (rvB l) ∧ H' = Heap.nil := by
  by_cases h1 : 1 ≤ l.length ∧ l.length ≤ 64
  · refine callA_of ok13 (Nat.le_of_ble_eq_true rfl) ?_
    repeat' ((conv => whnf); first
        | refine Branch.ofT rfl ?_
        | refine Branch.ofF rfl ?_
        | refine Branch.ofF (decide_eq_false (by omega)) ?_
        | refine Branch.dec (fun h => ?_) (fun h => ?_)
        | refine Branch.negdec (fun h => ?_) (fun h => ?_)
        | refine Branch.neg (fun h => ?_) (fun h => ?_)
        | refine Branch.mk (fun h => ?_) (fun h => ?_)
        | (refine Side.mk ?_ ?_; · first | omega | decide)
        | (refine SideD.mk ?_ ?_; · first | omega | decide)
        | refine ⟨_, Nat.lt_succ_self _, To.refl (.inl ⟨rfl, ?_⟩)⟩
        | (refine Side.mk ?_ ?_; · (simp; done))
        | fail
        )
    all_goals (conv => whnf)
    refine ⟨L13 l cap, l.length, To.gc [(0, true)] [1, 3] rfl ⟨dat rfl, trivial⟩ ⟨0, by omega, by omega, fun j h hj => by omega, rfl, rfl⟩, ?_⟩
    rintro m fr H ⟨i, hi, rfl, hI, rfl, rfl⟩
    by_cases hil : i < l.length
    · have hat := pc_at i l hil
      have h32 := c32 l cap l[i].n (by omega)
      repeat' ((conv => whnf); first
          | refine Branch.ofT rfl ?_
          | refine Branch.ofF rfl ?_
          | refine Branch.ofT (decide_eq_true (by omega)) ?_
          | refine Branch.dec (fun h => ?_) (fun h => ?_)
          | refine Branch.negdec (fun h => ?_) (fun h => ?_)
          | refine Branch.neg (fun h => ?_) (fun h => ?_)
          | refine Branch.mk (fun h => ?_) (fun h => ?_)
          | (refine Side.mk ?_ ?_; · first | omega | decide)
          | (refine SideD.mk ?_ ?_; · first | omega | decide)
          | refine ⟨_, Nat.lt_succ_self _, To.refl (.inl ⟨rfl, ?_⟩)⟩
          | refine tk2 hat ?_
          | refine CallA.pure h32 rfl rfl ?_
          | (refine Side.mk ?_ ?_; · (simp; done))
          | fail
          )
      all_goals (conv => whnf)
      all_goals first
        | (rw [rvB_f (fun hv => by have o := hv.all i hil; have o5 := o.2; obtain ⟨o1, o2, o3, o4⟩ := o.1; omega)]; exact RetA.data rfl ⟨rfl, rfl⟩)
        | exact ⟨l.length - (i + 1), by omega, To.gc [(0, true)] [1, 3] rfl ⟨dat rfl, trivial⟩ ⟨i + 1, by omega, rfl, fun j hj hji => by
            rcases Nat.lt_succ_iff_lt_or_eq.1 hji with q | rfl
            · exact hI j hj q
            · exact ⟨⟨by omega, by omega, by omega, fun _ => by omega⟩, fun _ => by omega⟩, rfl, rfl⟩⟩
    · have : i = l.length := by omega
      subst this
      repeat' ((conv => whnf); first
          | refine Branch.ofT rfl ?_
          | refine Branch.ofF rfl ?_
          | refine Branch.ofF (decide_eq_false (by omega)) ?_
          | refine Branch.dec (fun h => ?_) (fun h => ?_)
          | refine Branch.negdec (fun h => ?_) (fun h => ?_)
          | refine Branch.neg (fun h => ?_) (fun h => ?_)
          | refine Branch.mk (fun h => ?_) (fun h => ?_)
          | (refine Side.mk ?_ ?_; · first | omega | decide)
          | (refine SideD.mk ?_ ?_; · first | omega | decide)
          | refine ⟨_, Nat.lt_succ_self _, To.refl (.inl ⟨rfl, ?_⟩)⟩
          | (refine Side.mk ?_ ?_; · (simp; done))
          | fail
          )
      all_goals (conv => whnf)
      rw [rvB_t ⟨h1.1, h1.2, fun j h => hI j h h⟩]
      exact RetA.data rfl ⟨rfl, rfl⟩
  · rw [rvB_f (fun h => h1 ⟨h.one, h.many⟩)]
    refine callA_of ok13 (Nat.le_of_ble_eq_true rfl) ?_
    repeat' ((conv => whnf); first
        | refine Branch.ofT rfl ?_
        | refine Branch.ofF rfl ?_
        | refine Branch.dec (fun h => ?_) (fun h => ?_)
        | refine Branch.negdec (fun h => ?_) (fun h => ?_)
        | refine Branch.neg (fun h => ?_) (fun h => ?_)
        | refine Branch.mk (fun h => ?_) (fun h => ?_)
        | (refine Side.mk ?_ ?_; · first | omega | decide)
        | (refine SideD.mk ?_ ?_; · first | omega | decide)
        | refine ⟨_, Nat.lt_succ_self _, To.refl (.inl ⟨rfl, ?_⟩)⟩
        | (refine Side.mk ?_ ?_; · (simp; done))
        | fail
        )
    all_goals (conv => whnf)
    all_goals first | exact RetA.data rfl ⟨rfl, rfl⟩ | omega
end Go.Proofs

namespace Go.Proofs
open Go Go.Eng
set_option maxRecDepth 100000
set_option maxHeartbeats 2000000
/-! ### A map from slots to marks -/
def bmap (ms : List (Int × Bool)) : List (AV × AV) := ms.map fun x => (I x.1, .bool x.2)
def bget (k : Int) : List (Int × Bool) → Option Bool
  | [] => none
  | (a, b) :: r => if k = a then some b else bget k r
def bput (k : Int) (v : Bool) : List (Int × Bool) → List (Int × Bool)
  | [] => [(k, v)]
  | (a, b) :: r => if k = a then (k, v) :: r else (a, b) :: bput k v r
theorem mfind_b (k : Int) : ∀ ms, mfind (.c (.i .i64)) (I k) (bmap ms) = some ((bget k ms).map AV.bool)
  | [] => rfl
  | (a, b) :: r => by
    show mfind (.c (.i .i64)) (I k) ((I a, .bool b) :: bmap r) = _
    rw [mfind, eqI, bget]
    by_cases h : k = a
    · rw [decide_eq_true h, if_pos h]; rfl
    · rw [decide_eq_false h, if_neg h]; exact mfind_b k r
theorem mput_b (k : Int) (v : Bool) : ∀ ms, mput (.c (.i .i64)) (I k) (.bool v) (bmap ms) = some (bmap (bput k v ms))
  | [] => rfl
  | (a, b) :: r => by
    show mput (.c (.i .i64)) (I k) (.bool v) ((I a, .bool b) :: bmap r) = _
    rw [mput, eqI, bput]
    by_cases h : k = a
    · rw [decide_eq_true h, if_pos h]; rfl
    · rw [decide_eq_false h, if_neg h]
      simp only [mput_b k v r]; rfl
theorem bget_put (k j : Int) (v : Bool) : ∀ ms, bget j (bput k v ms) = if j = k then some v else bget j ms
  | [] => by simp only [bput, bget]
  | (a, b) :: r => by
    simp only [bput]
    by_cases h : k = a
    · subst h
      simp only [if_true, bget]
      by_cases hj : j = k <;> simp [hj]
    · rw [if_neg h]
      simp only [bget, bget_put k j v r]
      by_cases hj : j = a
      · subst hj; simp [Ne.symm h]
      · simp [hj]
def mk0 (o : Option Bool) : Bool := match o with
  | some b => b
  | none => false
theorem hold_first : ∀ (l : List Pl) (slot : Int) (a i : Nat) (h : i < l.length), l[i].s = 3 → l[i].n = slot → (∀ j (hj : j < l.length), j < i → ¬ (l[j].s = 3 ∧ l[j].n = slot)) → hold l slot a = ((a + i : Nat) : Int)
  | [], _, _, _, h, _, _, _ => by simp at h
  | x :: r, slot, a, 0, h, h1, h2, _ => by
    simp only [List.getElem_cons_zero] at h1 h2
    rw [hold, if_pos ⟨h1, h2⟩]; rfl
  | x :: r, slot, a, i + 1, h, h1, h2, h3 => by
    have := h3 0 (by simp) (by omega)
    simp only [List.getElem_cons_zero] at this
    rw [hold, if_neg this, hold_first r slot (a + 1) i (by simpa using h) (by simpa using h1) (by simpa using h2) (fun j hj hji => by
      have := h3 (j + 1) (by simpa using hj) (by omega)
      simpa using this)]
    congr 1; omega
theorem hold_before : ∀ (l : List Pl) (slot : Int) (a j : Nat) (h : j < l.length), l[j].s = 3 → l[j].n = slot → ∃ i, i ≤ j ∧ hold l slot a = ((a + i : Nat) : Int)
  | [], _, _, _, h, _, _ => by simp at h
  | x :: r, slot, a, 0, h, h1, h2 => by
    simp only [List.getElem_cons_zero] at h1 h2
    exact ⟨0, by omega, by rw [hold, if_pos ⟨h1, h2⟩]; rfl⟩
  | x :: r, slot, a, j + 1, h, h1, h2 => by
    by_cases hx : x.s = 3 ∧ x.n = slot
    · exact ⟨0, by omega, by rw [hold, if_pos hx]; rfl⟩
    · obtain ⟨i, h3, h4⟩ := hold_before r slot (a + 1) j (by simpa using h) (by simpa using h1) (by simpa using h2)
      exact ⟨i + 1, by omega, by rw [hold, if_neg hx, h4]; congr 1; omega⟩
def Marks (l : List Pl) (i : Nat) (ms : List (Int × Bool)) : Prop := ∀ k, mk0 (bget k ms) = true ↔ ∃ j, ∃ h : j < l.length, j < i ∧ l[j].s = 3 ∧ l[j].n = k
theorem mark_step {l : List Pl} {i : Nat} {ms : List (Int × Bool)} (h : i < l.length) (hM : Marks l i ms) {v : Bool} (hv : v = true ↔ (mk0 (bget l[i].n ms) = true ∨ l[i].s = 3)) : Marks l (i + 1) (bput l[i].n v ms) := by
  intro k
  rw [bget_put]
  by_cases hk : k = l[i].n
  · subst hk
    simp only [if_true, mk0]
    rw [hv, hM]
    constructor
    · rintro (⟨j, hj, h1, h2, h3⟩ | h3)
      · exact ⟨j, hj, by omega, h2, h3⟩
      · exact ⟨i, h, by omega, h3, rfl⟩
    · rintro ⟨j, hj, h1, h2, h3⟩
      rcases Nat.lt_succ_iff_lt_or_eq.1 h1 with q | rfl
      · exact .inl ⟨j, hj, q, h2, h3⟩
      · exact .inr h2
  · rw [if_neg hk, hM]
    constructor
    · rintro ⟨j, hj, h1, h2, h3⟩; exact ⟨j, hj, by omega, h2, h3⟩
    · rintro ⟨j, hj, h1, h2, h3⟩
      rcases Nat.lt_succ_iff_lt_or_eq.1 h1 with q | rfl
      · exact ⟨j, hj, q, h2, h3⟩
      · exact absurd h3.symm hk
theorem hold_new {l : List Pl} {i : Nat} {ms : List (Int × Bool)} (h : i < l.length) (hM : Marks l i ms) (h3 : l[i].s = 3) (hn : mk0 (bget l[i].n ms) = false) : hold l l[i].n 0 = i := by
  have := hold_first l l[i].n 0 i h h3 rfl (fun j hj hji hc => by
    have := (hM l[i].n).2 ⟨j, hj, hji, hc.1, hc.2⟩
    rw [hn] at this; cases this)
  rw [this]; congr 1; omega
theorem hold_old {l : List Pl} {i : Nat} {ms : List (Int × Bool)} (hM : Marks l i ms) (h : i < l.length) (hn : mk0 (bget l[i].n ms) = true) : hold l l[i].n 0 ≠ i := by
  obtain ⟨j, hj, h1, h2, h3⟩ := (hM l[i].n).1 hn
  obtain ⟨i', h4, h5⟩ := hold_before l l[i].n 0 j hj h2 h3
  rw [h5]; omega
def H12 (l : List Pl) (cap : Option Nat) (ms : List (Int × Bool)) : Heap := ⟨2, [(0, .cells [.dslice (pc l) l.length cap]), (1, .map (bmap ms))]⟩
def L12 (l : List Pl) (cap : Option Nat) (m : Nat) (fr : Fr) (H : Heap) : Prop := ∃ (i : Nat) (ms : List (Int × Bool)), i ≤ l.length ∧ m = l.length - i ∧ (∀ j (h : j < l.length), j < i → l[j].ok ∧ (l[j].s = 3 → hold l l[j].n 0 = j)) ∧
  Marks l i ms ∧ fr = [(1, .ptr 0 0), (3, .map 1), (9, .dslice (pc l) l.length cap), (10, I l.length), (11, I i)] ∧ H = H12 l cap ms
theorem c12 (l : List Pl) (cap : Option Nat) (hl : l.length ≤ 1000) : CallA Tryd.prog 12 [pgs l cap] Heap.nil fun v H' => v = .bool (rvB l) ∧ H' = Heap.nil := by
  refine callA_of ok12 (Nat.le_of_ble_eq_true rfl) ?_
  repeat' ((conv => whnf); first
      | refine Branch.ofT rfl ?_
      | refine Branch.ofF rfl ?_
      | refine Branch.dec (fun h => ?_) (fun h => ?_)
      | refine Branch.negdec (fun h => ?_) (fun h => ?_)
      | refine Branch.neg (fun h => ?_) (fun h => ?_)
      | refine Branch.mk (fun h => ?_) (fun h => ?_)
      | (refine Side.mk ?_ ?_; · first | omega | decide)
      | (refine SideD.mk ?_ ?_; · first | omega | decide)
      | refine ⟨_, Nat.lt_succ_self _, To.refl (.inl ⟨rfl, ?_⟩)⟩
      | (refine Side.mk ?_ ?_; · (simp; done))
      | fail
      )
  all_goals (conv => whnf)
  refine ⟨L12 l cap, l.length, To.gc [(0, true), (1, true)] [1, 3, 9, 10, 11] rfl ⟨dat rfl, trivial, trivial⟩ ⟨0, [], by omega, by omega, fun j h hj => by omega, fun k => ⟨fun h => (by cases h), fun ⟨j, _, hj, _⟩ => (by omega)⟩, rfl, rfl⟩, ?_⟩
  rintro m fr H ⟨i, ms, hi, rfl, hI, hM, rfl, rfl⟩
  by_cases hil : i < l.length
  · have hat := pc_at i l hil
    have ext : (l[i].ok ∧ (l[i].s = 3 → hold l l[i].n 0 = i)) → ∀ j (h : j < l.length), j < i + 1 → l[j].ok ∧ (l[j].s = 3 → hold l l[j].n 0 = j) := fun h1 j hj hji => by
      rcases Nat.lt_succ_iff_lt_or_eq.1 hji with q | rfl
      · exact hI j hj q
      · exact h1
    have ms1 := fun v => mark_step (v := v) hil hM
    have hnew := hold_new hil hM
    have hold' := hold_old hM hil
    have hfb := mfind_b l[i].n ms
    have hpb := fun v => mput_b l[i].n v ms
    rcases hb : bget l[i].n ms with _ | b
    · rw [hb] at hfb hnew hold' ms1
      replace hfb : mfind (.c (.i .i64)) (I l[i].n) (bmap ms) = some none := hfb
      repeat' ((conv => whnf); first
          | refine Branch.ofT rfl ?_
          | refine Branch.ofF rfl ?_
          | refine Branch.ofT (decide_eq_true (by omega)) ?_
          | refine Branch.dec (fun h => ?_) (fun h => ?_)
          | refine Branch.negdec (fun h => ?_) (fun h => ?_)
          | refine Branch.neg (fun h => ?_) (fun h => ?_)
          | refine Branch.mk (fun h => ?_) (fun h => ?_)
          | (refine Side.mk ?_ ?_; · first | omega | decide)
          | (refine SideD.mk ?_ ?_; · first | omega | decide)
          | refine ⟨_, Nat.lt_succ_self _, To.refl (.inl ⟨rfl, ?_⟩)⟩
          | refine tk2 hat ?_
          | refine MRes.mk ⟨_, hfb, ?_⟩
          | refine MRes.mk ⟨_, hpb _, ?_⟩
          | (refine Side.mk ?_ ?_; · (simp; done))
          | fail
          )
      all_goals (conv => whnf)
      all_goals first
        | (rw [rvB_f (fun hv => by have o := hv.all i hil; have o5 := o.2; obtain ⟨o1, o2, o3, o4⟩ := o.1; first | omega | exact hold' rfl (o5 (by assumption)))]; exact RetA.data rfl ⟨rfl, rfl⟩)
        | (refine ⟨l.length - (i + 1), by omega, To.gc [(0, true), (1, true)] [1, 3, 9, 10, 11] rfl ⟨dat rfl, trivial, trivial⟩ ⟨i + 1, _, by omega, rfl, ext ⟨⟨by omega, by omega, by omega, fun _ => by omega⟩, fun h3 => ?_⟩, ms1 _ ?_, rfl, rfl⟩⟩
           · first | exact hnew h3 rfl | exact absurd h3 (by assumption)
           · simp_all [mk0])
    · cases b with
      | false =>
        rw [hb] at hfb hnew hold' ms1
        replace hfb : mfind (.c (.i .i64)) (I l[i].n) (bmap ms) = some (some (.bool false)) := hfb
        repeat' ((conv => whnf); first
            | refine Branch.ofT rfl ?_
            | refine Branch.ofF rfl ?_
            | refine Branch.ofT (decide_eq_true (by omega)) ?_
            | refine Branch.dec (fun h => ?_) (fun h => ?_)
            | refine Branch.negdec (fun h => ?_) (fun h => ?_)
            | refine Branch.neg (fun h => ?_) (fun h => ?_)
            | refine Branch.mk (fun h => ?_) (fun h => ?_)
            | (refine Side.mk ?_ ?_; · first | omega | decide)
            | (refine SideD.mk ?_ ?_; · first | omega | decide)
            | refine ⟨_, Nat.lt_succ_self _, To.refl (.inl ⟨rfl, ?_⟩)⟩
            | refine tk2 hat ?_
            | refine MRes.mk ⟨_, hfb, ?_⟩
            | refine MRes.mk ⟨_, hpb _, ?_⟩
            | (refine Side.mk ?_ ?_; · (simp; done))
            | fail
            )
        all_goals (conv => whnf)
        all_goals first
          | (rw [rvB_f (fun hv => by have o := hv.all i hil; have o5 := o.2; obtain ⟨o1, o2, o3, o4⟩ := o.1; first | omega | exact hold' rfl (o5 (by assumption)))]; exact RetA.data rfl ⟨rfl, rfl⟩)
          | (refine ⟨l.length - (i + 1), by omega, To.gc [(0, true), (1, true)] [1, 3, 9, 10, 11] rfl ⟨dat rfl, trivial, trivial⟩ ⟨i + 1, _, by omega, rfl, ext ⟨⟨by omega, by omega, by omega, fun _ => by omega⟩, fun h3 => ?_⟩, ms1 _ ?_, rfl, rfl⟩⟩
             · first | exact hnew h3 rfl | exact absurd h3 (by assumption)
             · simp_all [mk0])
      | true =>
        rw [hb] at hfb hnew hold' ms1
        replace hfb : mfind (.c (.i .i64)) (I l[i].n) (bmap ms) = some (some (.bool true)) := hfb
        repeat' ((conv => whnf); first
            | refine Branch.ofT rfl ?_
            | refine Branch.ofF rfl ?_
            | refine Branch.ofT (decide_eq_true (by omega)) ?_
            | refine Branch.dec (fun h => ?_) (fun h => ?_)
            | refine Branch.negdec (fun h => ?_) (fun h => ?_)
            | refine Branch.neg (fun h => ?_) (fun h => ?_)
            | refine Branch.mk (fun h => ?_) (fun h => ?_)
            | (refine Side.mk ?_ ?_; · first | omega | decide)
            | (refine SideD.mk ?_ ?_; · first | omega | decide)
            | refine ⟨_, Nat.lt_succ_self _, To.refl (.inl ⟨rfl, ?_⟩)⟩
            | refine tk2 hat ?_
            | refine MRes.mk ⟨_, hfb, ?_⟩
            | refine MRes.mk ⟨_, hpb _, ?_⟩
            | (refine Side.mk ?_ ?_; · (simp; done))
            | fail
            )
        all_goals (conv => whnf)
        all_goals first
          | (rw [rvB_f (fun hv => by have o := hv.all i hil; have o5 := o.2; obtain ⟨o1, o2, o3, o4⟩ := o.1; first | omega | exact hold' rfl (o5 (by assumption)))]; exact RetA.data rfl ⟨rfl, rfl⟩)
          | (refine ⟨l.length - (i + 1), by omega, To.gc [(0, true), (1, true)] [1, 3, 9, 10, 11] rfl ⟨dat rfl, trivial, trivial⟩ ⟨i + 1, _, by omega, rfl, ext ⟨⟨by omega, by omega, by omega, fun _ => by omega⟩, fun h3 => ?_⟩, ms1 _ ?_, rfl, rfl⟩⟩
             · first | exact hnew h3 rfl | exact absurd h3 (by assumption)
             · simp_all [mk0])
  · have : i = l.length := by omega
    subst this
    have hall : 1 ≤ l.length → l.length ≤ 64 → RV l := fun h1 h2 => ⟨h1, h2, fun j h => hI j h h⟩
    repeat' ((conv => whnf); first
        | refine Branch.ofT rfl ?_
        | refine Branch.ofF rfl ?_
        | refine Branch.ofF (decide_eq_false (by omega)) ?_
        | refine Branch.dec (fun h => ?_) (fun h => ?_)
        | refine Branch.negdec (fun h => ?_) (fun h => ?_)
        | refine Branch.neg (fun h => ?_) (fun h => ?_)
        | refine Branch.mk (fun h => ?_) (fun h => ?_)
        | (refine Side.mk ?_ ?_; · first | omega | decide)
        | (refine SideD.mk ?_ ?_; · first | omega | decide)
        | refine ⟨_, Nat.lt_succ_self _, To.refl (.inl ⟨rfl, ?_⟩)⟩
        | (refine Side.mk ?_ ?_; · (simp; done))
        | fail
        )
    all_goals (conv => whnf)
    · refine RetA.data rfl ⟨?_, rfl⟩
      by_cases h2 : l.length ≤ 64
      · rw [rvB_t (hall (by omega) h2), decide_eq_true (by omega)]; rfl
      · rw [rvB_f (fun hv => h2 hv.many), decide_eq_false (by omega)]; rfl
    · rw [rvB_f (fun hv => h (by have := hv.one; omega))]
      exact RetA.data rfl ⟨rfl, rfl⟩
end Go.Proofs

namespace Go.Proofs
open Go Go.Eng
set_option maxRecDepth 100000
set_option maxHeartbeats 2000000
theorem pc_take (l : List Pl) : (pc l).take (l.length * 2) = pc l := by rw [← pc_len]; exact List.take_length
def L44 (l : List Pl) (cap : Option Nat) (slot : Int) (m : Nat) (fr : Fr) (H : Heap) : Prop := ∃ i : Nat, i ≤ l.length ∧ m = l.length - i ∧ hold (l.drop i) slot i = hold l slot 0 ∧ fr = [(0, .dslice (pc l) l.length cap), (3, .ptr 0 0), (7, I l.length), (8, I i)] ∧ H = ⟨1, [(0, .cells [I 3, I slot])]⟩
theorem c44 (l : List Pl) (cap : Option Nat) (slot : Int) (hl : l.length ≤ 1000) : CallA Tryd.prog 44 [.dslice (pc l) l.length cap, .agg [I 3, I slot]] Heap.nil fun v H' => v = I (hold l slot 0) ∧ H' = Heap.nil := by
  refine callA_of ok44 (Nat.le_of_ble_eq_true rfl) ?_
  repeat' ((conv => whnf); first
      | refine Branch.ofT rfl ?_
      | refine Branch.ofF rfl ?_
      | refine Branch.dec (fun h => ?_) (fun h => ?_)
      | refine Branch.negdec (fun h => ?_) (fun h => ?_)
      | refine Branch.neg (fun h => ?_) (fun h => ?_)
      | refine Branch.mk (fun h => ?_) (fun h => ?_)
      | (refine Side.mk ?_ ?_; · first | omega | decide)
      | (refine SideD.mk ?_ ?_; · first | omega | decide)
      | refine ⟨_, Nat.lt_succ_self _, To.refl (.inl ⟨rfl, ?_⟩)⟩
      | (refine Side.mk ?_ ?_; · (simp; done))
      | fail
      )
  all_goals (conv => whnf)
  refine ⟨L44 l cap slot, l.length, To.gc [(0, true)] [0, 3, 7, 8] rfl ⟨dat rfl, trivial⟩ ⟨0, by omega, by omega, by rw [List.drop_zero], rfl, rfl⟩, ?_⟩
  rintro m fr H ⟨i, hi, rfl, hI, rfl, rfl⟩
  by_cases hil : i < l.length
  · have hat := pc_at i l hil
    have hs := hold_at l slot i hil
    repeat' ((conv => whnf); first
        | refine Branch.ofT rfl ?_
        | refine Branch.ofF rfl ?_
        | refine Branch.ofT (decide_eq_true (by omega)) ?_
        | refine Branch.dec (fun h => ?_) (fun h => ?_)
        | refine Branch.negdec (fun h => ?_) (fun h => ?_)
        | refine Branch.neg (fun h => ?_) (fun h => ?_)
        | refine Branch.mk (fun h => ?_) (fun h => ?_)
        | (refine Side.mk ?_ ?_; · first | omega | decide)
        | (refine SideD.mk ?_ ?_; · first | omega | decide)
        | refine ⟨_, Nat.lt_succ_self _, To.refl (.inl ⟨rfl, ?_⟩)⟩
        | refine tk2 hat ?_
        | (refine Side.mk ?_ ?_; · (simp; done))
        | fail
        )
    all_goals (conv => whnf)
    · simp only [Bool.and_true, Bool.and_eq_true, decide_eq_true_eq, Bool.false_eq_true, if_false] at h
      rw [hs, if_pos ⟨h.1.symm, h.2.symm⟩] at hI
      rw [← hI]
      exact RetA.data rfl ⟨rfl, rfl⟩
    · simp only [Bool.and_true, Bool.and_eq_false_iff, decide_eq_false_iff_not, Bool.false_eq_true, if_false] at h
      rw [hs, if_neg (fun e => by rcases h with h | h; exact h e.1.symm; exact h e.2.symm)] at hI
      exact ⟨l.length - (i + 1), by omega, To.gc [(0, true)] [0, 3, 7, 8] rfl ⟨dat rfl, trivial⟩ ⟨i + 1, by omega, rfl, hI, rfl, rfl⟩⟩
  · have : i = l.length := by omega
    subst this
    repeat' ((conv => whnf); first
        | refine Branch.ofT rfl ?_
        | refine Branch.ofF rfl ?_
        | refine Branch.ofF (decide_eq_false (by omega)) ?_
        | refine Branch.dec (fun h => ?_) (fun h => ?_)
        | refine Branch.negdec (fun h => ?_) (fun h => ?_)
        | refine Branch.neg (fun h => ?_) (fun h => ?_)
        | refine Branch.mk (fun h => ?_) (fun h => ?_)
        | (refine Side.mk ?_ ?_; · first | omega | decide)
        | (refine SideD.mk ?_ ?_; · first | omega | decide)
        | refine ⟨_, Nat.lt_succ_self _, To.refl (.inl ⟨rfl, ?_⟩)⟩
        | (refine Side.mk ?_ ?_; · (simp; done))
        | fail
        )
    all_goals (conv => whnf)
    rw [List.drop_length, hold] at hI
    rw [← hI]
    exact RetA.data rfl ⟨rfl, rfl⟩
theorem c33 (l : List Pl) (cap : Option Nat) (slot : Int) (hl : l.length ≤ 1000) : CallA Tryd.prog 33 [.dslice (pc l) l.length cap, .agg [I 3, I slot]] Heap.nil fun v H' => v = .bool (decide (0 ≤ hold l slot 0)) ∧ H' = Heap.nil := by
  refine callA_of ok33 (Nat.le_of_ble_eq_true rfl) ?_
  repeat' ((conv => whnf); first
      | refine Branch.ofT rfl ?_
      | refine Branch.ofF rfl ?_
      | refine Branch.dec (fun h => ?_) (fun h => ?_)
      | refine Branch.negdec (fun h => ?_) (fun h => ?_)
      | refine Branch.neg (fun h => ?_) (fun h => ?_)
      | refine Branch.mk (fun h => ?_) (fun h => ?_)
      | (refine Side.mk ?_ ?_; · first | omega | decide)
      | (refine SideD.mk ?_ ?_; · first | omega | decide)
      | refine ⟨_, Nat.lt_succ_self _, To.refl (.inl ⟨rfl, ?_⟩)⟩
      | refine CallA.pure (c44 l cap slot hl) rfl rfl ?_
      | (refine Side.mk ?_ ?_; · (simp; done))
      | fail
      )
  all_goals (conv => whnf)
  exact RetA.data rfl ⟨rfl, rfl⟩
theorem fits16 {n : Nat} (h : n ≤ 1000) : fits (0 + n) 16 := by unfold fits; omega
theorem okApp {l : List Pl} (hl : l.length ≤ 1000) : 2 = 2 ∧ 0 = 0 ∧ (rep [AV.int IntKind.i64 0, AV.int IntKind.i64 0] 0).length = 0 * 2 ∧ fits (0 + l.length) 16 ∧ ∀ (c : AV), c ∈ List.take (l.length * 2) (pc l) → scal c = true :=
  ⟨rfl, rfl, rfl, fits16 hl, fun c hc => pc_scal l c (List.mem_of_mem_take hc)⟩
theorem c34 (l : List Pl) (cap : Option Nat) (h0 : 0 < l.length) (hl : l.length ≤ 1000) : CallA Tryd.prog 34 [.dslice (pc l) l.length cap] Heap.nil fun v H' => v = .slice 0 0 l.length none 2 ∧ H' = ⟨1, [(0, .cells (pc l))]⟩ := by
  refine callA_of ok34 (Nat.le_of_ble_eq_true rfl) ?_
  have e1 := pc_len l
  repeat' ((conv => whnf); first
      | refine Branch.ofT rfl ?_
      | refine Branch.ofF rfl ?_
      | refine Branch.dec (fun h => ?_) (fun h => ?_)
      | refine Branch.negdec (fun h => ?_) (fun h => ?_)
      | refine Branch.neg (fun h => ?_) (fun h => ?_)
      | refine Branch.mk (fun h => ?_) (fun h => ?_)
      | (refine Side.mk ?_ ?_; · first | omega | decide)
      | (refine SideD.mk ?_ ?_; · first | omega | decide)
      | refine ⟨_, Nat.lt_succ_self _, To.refl (.inl ⟨rfl, ?_⟩)⟩
      | refine Side.mk (okApp hl) ?_
      | (refine Side.mk ?_ ?_; · (simp; done))
      | fail
      )
  all_goals (conv => whnf)
  rw [pc_take l]
  refine RetA.gc [(1, true)] rfl ⟨pc_noLoc l, trivial⟩ ⟨?_, rfl⟩
  show AV.slice 0 0 (0 + l.length) none 2 = _
  rw [Nat.zero_add]
theorem lentOk_nil (η : Nat → AB) : ∀ n, lentOk [] η n = true
  | 0 => rfl
  | n + 1 => by
    rw [lentOk_succ]
    split
    · exact lentOk_nil η n
    · exact lentOk_nil η n
theorem noLocL_pc (l : List Pl) : noLocL (pc l) = true := by
  have := pc_noLoc l
  generalize pc l = cs at this
  induction cs with
  | nil => rfl
  | cons c r ih => simp [noLocL, this c (by simp), ih fun d hd => this d (by simp [hd])]
theorem c34at (l : List Pl) (cap : Option Nat) (h0 : 0 < l.length) (hl : l.length ≤ 1000) {H : Heap} {K : AV → Heap → Prop} (hk : K (.slice H.nx 0 l.length none 2) ⟨H.nx + 1, (H.nx, .cells (pc l)) :: H.bs⟩) : CallA Tryd.prog 34 [.dslice (pc l) l.length cap] H K := by
  refine CallA.lend [] (c34 l cap h0 hl) rfl trivial rfl ?_ (lentOk_nil _ _)
  rintro c H' ⟨rfl, rfl⟩
  refine ⟨trivial, ?_⟩
  have e : lendH [] H ⟨1, [(0, .cells (pc l))]⟩ = ⟨H.nx + 1, (H.nx, .cells (renL (fun j => some (backK [] H.nx j)) (pc l))) :: H.bs⟩ := rfl
  rw [e, renL_data _ _ (noLocL_pc l)]
  exact hk
theorem lputP : ∀ {l : List Pl} {i : Nat} {a b : Int} {K : List AV → Prop}, i < l.length → K (pc (l.set i ⟨a, b⟩)) → lputK (pc l) (i * 2) [I a, I b] K
  | [], _, _, _, _, h, _ => by simp at h
  | x :: r, 0, a, b, K, _, hk => lputK_eq (by simp [pc]) rfl (by simpa [pc] using hk)
  | x :: r, i + 1, a, b, K, h, hk => by
    have e : (i + 1) * 2 = (i * 2 + 1) + 1 := by omega
    rw [e]
    exact lputP (l := r) (by simpa using h) hk
theorem stP {l : List Pl} {pg off : Nat} {a b : Int} {K : List AV → Prop} (h : pg < l.length) (e : off = pg * 2) (hk : K (pc (l.set pg ⟨a, b⟩))) : lputK (rep [AV.int IntKind.i64 0, AV.int IntKind.i64 0] 0 ++ List.take (l.length * 2) (pc l)) off [I a, I b] K := by
  subst e
  rw [pc_take]
  exact lputP h hk
theorem c35 (l : List Pl) (cap : Option Nat) (pg : Nat) (x : Pl) (h0 : pg < l.length) (hl : l.length ≤ 1000) : CallA Tryd.prog 35 [pgs l cap, I pg, .agg [I x.s, I x.n]] Heap.nil fun v H' => v = pgs (l.set pg x) none ∧ H' = Heap.nil := by
  refine callA_of ok35 (Nat.le_of_ble_eq_true rfl) ?_
  have e1 := pc_len l
  repeat' ((conv => whnf); first
      | refine Branch.ofT rfl ?_
      | refine Branch.ofF rfl ?_
      | refine Branch.dec (fun h => ?_) (fun h => ?_)
      | refine Branch.negdec (fun h => ?_) (fun h => ?_)
      | refine Branch.neg (fun h => ?_) (fun h => ?_)
      | refine Branch.mk (fun h => ?_) (fun h => ?_)
      | (refine Side.mk ?_ ?_; · first | omega | decide)
      | (refine SideD.mk ?_ ?_; · first | omega | decide)
      | refine ⟨_, Nat.lt_succ_self _, To.refl (.inl ⟨rfl, ?_⟩)⟩
      | refine Side.mk (okApp hl) ?_
      | refine stP h0 (by omega) ?_
      | (refine Side.mk ?_ ?_; · (simp; done))
      | fail
      )
  all_goals (conv => whnf)
  refine RetA.pub 4 rfl (pc_noLoc _) ?_
  refine RetA.data rfl ⟨?_, rfl⟩
  show AV.agg [.dslice (((pc (l.set pg x)).drop 0).take ((0 + l.length) * 2)) (0 + l.length) none] = pgs (l.set pg x) none
  have e2 := pc_take (l.set pg x)
  rw [List.length_set] at e2
  rw [Nat.zero_add, List.drop_zero, e2]
  unfold pgs
  rw [List.length_set]
theorem Pl.ext {x y : Pl} (h : x.s = y.s) (k : x.n = y.n) : x = y := by cases x; cases y; simp_all
/-! ### The same places -/
def same (l k : List Pl) : Bool := decide (l.length = k.length) && (List.zip l k).all fun x => decide (x.1.s = x.2.s) && decide (x.1.n = x.2.n)
structure Eqs (l k : List Pl) (i : Nat) : Prop where
  eq : ∀ j (h : j < l.length) (h' : j < k.length), j < i → l[j] = k[j]
def H11 (l k : List Pl) (cap cap' : Option Nat) : Heap := ⟨2, [(0, .cells [.dslice (pc l) l.length cap]), (1, .cells [.dslice (pc k) k.length cap'])]⟩
def L11 (l k : List Pl) (cap cap' : Option Nat) (m : Nat) (fr : Fr) (H : Heap) : Prop := ∃ i : Nat, i ≤ l.length ∧ m = l.length - i ∧ Eqs l k i ∧ fr = [(2, .ptr 0 0), (3, .ptr 1 0), (5, I i)] ∧ H = H11 l k cap cap'
open Classical in
noncomputable def sameB (l k : List Pl) : Bool := decide (l = k)
theorem sameB_t {l k : List Pl} (h : l = k) : sameB l k = true := by unfold sameB; simpa using h
theorem sameB_f {l k : List Pl} (h : l ≠ k) : sameB l k = false := by unfold sameB; simpa using h
theorem c11 (l k : List Pl) (cap cap' : Option Nat) (hl : l.length ≤ 1000) (hk : k.length ≤ 1000) : CallA Tryd.prog 11 [pgs l cap, pgs k cap'] Heap.nil fun v H' => v = .bool (sameB l k) ∧ H' = Heap.nil := by
  refine callA_of ok11 (Nat.le_of_ble_eq_true rfl) ?_
  by_cases hlk : l.length = k.length
  · repeat' ((conv => whnf); first
        | refine Branch.ofT rfl ?_
        | refine Branch.ofF rfl ?_
        | refine Branch.negdec (fun hn => absurd (show (l.length : Int) = k.length by omega) hn) (fun _ => ?_)
        | refine Branch.dec (fun h => ?_) (fun h => ?_)
        | refine Branch.negdec (fun h => ?_) (fun h => ?_)
        | refine Branch.neg (fun h => ?_) (fun h => ?_)
        | refine Branch.mk (fun h => ?_) (fun h => ?_)
        | (refine Side.mk ?_ ?_; · first | omega | decide)
        | (refine SideD.mk ?_ ?_; · first | omega | decide)
        | refine ⟨_, Nat.lt_succ_self _, To.refl (.inl ⟨rfl, ?_⟩)⟩
        | (refine Side.mk ?_ ?_; · (simp; done))
        | fail
        )
    all_goals (conv => whnf)
    refine ⟨L11 l k cap cap', l.length, To.gc [(0, true), (1, true)] [2, 3, 5] rfl ⟨dat rfl, dat rfl, trivial⟩ ⟨0, by omega, by omega, ⟨fun j h h' hj => by omega⟩, rfl, rfl⟩, ?_⟩
    rintro m fr H ⟨i, hi, rfl, hE, rfl, rfl⟩
    by_cases hil : i < l.length
    · have hat := pc_at i l hil
      have hat' := pc_at i k (by omega)
      repeat' ((conv => whnf); first
          | refine Branch.ofT rfl ?_
          | refine Branch.ofF rfl ?_
          | refine Branch.ofT (decide_eq_true (by omega)) ?_
          | refine Branch.dec (fun h => ?_) (fun h => ?_)
          | refine Branch.negdec (fun h => ?_) (fun h => ?_)
          | refine Branch.neg (fun h => ?_) (fun h => ?_)
          | refine Branch.mk (fun h => ?_) (fun h => ?_)
          | (refine Side.mk ?_ ?_; · first | omega | decide)
          | (refine SideD.mk ?_ ?_; · first | omega | decide)
          | refine ⟨_, Nat.lt_succ_self _, To.refl (.inl ⟨rfl, ?_⟩)⟩
          | refine tk2 hat ?_
          | refine tk2 hat' ?_
          | (refine Side.mk ?_ ?_; · (simp; done))
          | fail
          )
      all_goals (conv => whnf)
      · simp only [Bool.and_true, Bool.and_eq_false_iff, decide_eq_false_iff_not] at h
        rw [sameB_f (fun e => by subst e; simp at h)]
        exact RetA.data rfl ⟨rfl, rfl⟩
      · simp only [Bool.and_true, Bool.and_eq_true, decide_eq_true_eq] at h
        have hx : l[i] = k[i] := Pl.ext h.1 h.2
        exact ⟨l.length - (i + 1), by omega, To.gc [(0, true), (1, true)] [2, 3, 5] rfl ⟨dat rfl, dat rfl, trivial⟩ ⟨i + 1, by omega, rfl, ⟨fun j hj hj' hji => by
          rcases Nat.lt_succ_iff_lt_or_eq.1 hji with q | rfl
          · exact hE.eq j hj hj' q
          · exact hx⟩, rfl, rfl⟩⟩
    · have : i = l.length := by omega
      subst this
      repeat' ((conv => whnf); first
          | refine Branch.ofT rfl ?_
          | refine Branch.ofF rfl ?_
          | refine Branch.ofF (decide_eq_false (by omega)) ?_
          | refine Branch.dec (fun h => ?_) (fun h => ?_)
          | refine Branch.negdec (fun h => ?_) (fun h => ?_)
          | refine Branch.neg (fun h => ?_) (fun h => ?_)
          | refine Branch.mk (fun h => ?_) (fun h => ?_)
          | (refine Side.mk ?_ ?_; · first | omega | decide)
          | (refine SideD.mk ?_ ?_; · first | omega | decide)
          | refine ⟨_, Nat.lt_succ_self _, To.refl (.inl ⟨rfl, ?_⟩)⟩
          | (refine Side.mk ?_ ?_; · (simp; done))
          | fail
          )
      all_goals (conv => whnf)
      rw [sameB_t (List.ext_getElem hlk fun j h h' => hE.eq j h h' h)]
      exact RetA.data rfl ⟨rfl, rfl⟩
  · rw [sameB_f (fun e => hlk (by rw [e]))]
    repeat' ((conv => whnf); first
        | refine Branch.ofT rfl ?_
        | refine Branch.ofF rfl ?_
        | refine Branch.negdec (fun hn => ?_) (fun hn => absurd (show l.length = k.length by omega) hlk)
        | refine Branch.dec (fun h => ?_) (fun h => ?_)
        | refine Branch.negdec (fun h => ?_) (fun h => ?_)
        | refine Branch.neg (fun h => ?_) (fun h => ?_)
        | refine Branch.mk (fun h => ?_) (fun h => ?_)
        | (refine Side.mk ?_ ?_; · first | omega | decide)
        | (refine SideD.mk ?_ ?_; · first | omega | decide)
        | refine ⟨_, Nat.lt_succ_self _, To.refl (.inl ⟨rfl, ?_⟩)⟩
        | (refine Side.mk ?_ ?_; · (simp; done))
        | fail
        )
    all_goals (conv => whnf)
    all_goals exact RetA.data rfl ⟨rfl, rfl⟩
end Go.Proofs

namespace Go.Proofs
open Go Go.Eng
set_option maxRecDepth 100000
set_option maxHeartbeats 4000000
/-! ### Give and Take -/
def to (slot : Int) : Pl := if slot < 0 then ⟨2, 0⟩ else ⟨3, slot⟩
open Classical in
noncomputable def giveE (l : List Pl) (pg slot : Int) : Int :=
  if pg < 0 ∨ l.length ≤ pg then 5 else if slot < -1 ∨ (0 ≤ slot ∧ 0 ≤ hold l slot 0) then 1 else if (l.getD pg.toNat ⟨0, 0⟩).s ≠ 1 then 4 else 0
noncomputable def giveP (l : List Pl) (pg slot : Int) : List Pl := if giveE l pg slot = 0 then l.set pg.toNat (to slot) else l
noncomputable def giveC (l : List Pl) (cap : Option Nat) (pg slot : Int) : Option Nat := if giveE l pg slot = 0 then none else cap
theorem getD_at {l : List Pl} {i : Nat} (h : i < l.length) : l.getD i ⟨0, 0⟩ = l[i] := by
  rw [List.getD_eq_getElem?_getD, List.getElem?_eq_getElem h]; rfl
theorem give_err {l : List Pl} {cap : Option Nat} {pg slot e : Int} (h : giveE l pg slot = e) (h0 : e ≠ 0) : giveP l pg slot = l ∧ giveC l cap pg slot = cap := by
  unfold giveP giveC; rw [h, if_neg h0, if_neg h0]; exact ⟨rfl, rfl⟩
theorem give_ok {l : List Pl} {cap : Option Nat} {pg slot : Int} (h : giveE l pg slot = 0) : giveP l pg slot = l.set pg.toNat (to slot) ∧ giveC l cap pg slot = none := by
  unfold giveP giveC; rw [h, if_pos rfl, if_pos rfl]; exact ⟨rfl, rfl⟩
theorem pgs_set (l : List Pl) (i : Nat) (x : Pl) : AV.agg [.dslice (((pc (l.set i x)).drop 0).take (l.length * 2)) l.length none] = pgs (l.set i x) none := by
  have e2 := pc_take (l.set i x)
  rw [List.length_set] at e2
  rw [List.drop_zero, e2]
  unfold pgs
  rw [List.length_set]
theorem stQ {l : List Pl} {pg off : Nat} {a b : Int} {K : List AV → Prop} (h : pg < l.length) (e : off = pg * 2) (hk : K (pc (l.set pg ⟨a, b⟩))) : lputK (pc l) off [I a, I b] K := by
  subst e; exact lputP h hk
theorem c15 (l : List Pl) (cap : Option Nat) (pg slot : Int) (hl : l.length ≤ 1000) : CallA Tryd.prog 15 [pgs l cap, I pg, I slot] Heap.nil fun v H' => v = .tuple [pgs (giveP l pg slot) (giveC l cap pg slot), I (giveE l pg slot)] ∧ H' = Heap.nil := by
  refine callA_of ok15 (Nat.le_of_ble_eq_true rfl) ?_
  have h33 := c33 l cap slot hl
  by_cases hA : pg < 0 ∨ l.length ≤ pg
  · have e : giveE l pg slot = 5 := by unfold giveE; rw [if_pos hA]
    rw [(give_err (cap := cap) e (by decide)).1, (give_err (cap := cap) e (by decide)).2, e]
    repeat' ((conv => whnf); first
        | refine Branch.ofT rfl ?_
        | refine Branch.ofF rfl ?_
        | refine Branch.ofT (decide_eq_true (by omega)) ?_
        | refine Branch.ofF (decide_eq_false (by omega)) ?_
        | refine Branch.dec (fun h => ?_) (fun h => ?_)
        | refine Branch.negdec (fun h => ?_) (fun h => ?_)
        | refine Branch.neg (fun h => ?_) (fun h => ?_)
        | refine Branch.mk (fun h => ?_) (fun h => ?_)
        | (refine Side.mk ?_ ?_; · first | omega | decide)
        | (refine SideD.mk ?_ ?_; · first | omega | decide)
        | refine ⟨_, Nat.lt_succ_self _, To.refl (.inl ⟨rfl, ?_⟩)⟩
        | (refine Side.mk ?_ ?_; · (simp; done))
        | fail
        )
    all_goals (conv => whnf)
    all_goals exact RetA.data rfl ⟨rfl, rfl⟩
  · have hpg : pg.toNat < l.length := by omega
    have hat := pc_at pg.toNat l hpg
    have hgd := getD_at hpg
    have hpos : 0 < l.length := by omega
    by_cases hB : slot < -1 ∨ (0 ≤ slot ∧ 0 ≤ hold l slot 0)
    · have e : giveE l pg slot = 1 := by unfold giveE; rw [if_neg hA, if_pos hB]
      rw [(give_err (cap := cap) e (by decide)).1, (give_err (cap := cap) e (by decide)).2, e]
      repeat' ((conv => whnf); first
          | refine Branch.ofT rfl ?_
          | refine Branch.ofF rfl ?_
          | refine Branch.ofT (decide_eq_true (by omega)) ?_
          | refine Branch.ofF (decide_eq_false (by omega)) ?_
          | refine Branch.dec (fun h => ?_) (fun h => ?_)
          | refine Branch.negdec (fun h => ?_) (fun h => ?_)
          | refine Branch.neg (fun h => ?_) (fun h => ?_)
          | refine Branch.mk (fun h => ?_) (fun h => ?_)
          | (refine Side.mk ?_ ?_; · first | omega | decide)
          | (refine SideD.mk ?_ ?_; · first | omega | decide)
          | refine ⟨_, Nat.lt_succ_self _, To.refl (.inl ⟨rfl, ?_⟩)⟩
          | refine CallA.pure h33 rfl rfl ?_
          | (refine Side.mk ?_ ?_; · (simp; done))
          | fail
          )
      all_goals (conv => whnf)
      all_goals exact RetA.data rfl ⟨rfl, rfl⟩
    · by_cases hC : l[pg.toNat].s = 1
      · have e : giveE l pg slot = 0 := by unfold giveE; rw [if_neg hA, if_neg hB, if_neg (by rw [hgd]; simpa using hC)]
        rw [(give_ok (cap := cap) e).1, (give_ok (cap := cap) e).2, e]
        by_cases hs : slot < 0
        · have ht : to slot = ⟨2, 0⟩ := if_pos hs
          rw [ht]
          repeat' ((conv => whnf); first
              | refine Branch.ofT rfl ?_
              | refine Branch.ofF rfl ?_
              | refine Branch.ofT (decide_eq_true (by omega)) ?_
              | refine Branch.ofF (decide_eq_false (by omega)) ?_
              | refine Branch.negdec (fun hn => absurd hC hn) (fun _ => ?_)
              | refine Branch.dec (fun h => ?_) (fun h => ?_)
              | refine Branch.negdec (fun h => ?_) (fun h => ?_)
              | refine Branch.neg (fun h => ?_) (fun h => ?_)
              | refine Branch.mk (fun h => ?_) (fun h => ?_)
              | (refine Side.mk ?_ ?_; · first | omega | decide)
              | (refine SideD.mk ?_ ?_; · first | omega | decide)
              | refine ⟨_, Nat.lt_succ_self _, To.refl (.inl ⟨rfl, ?_⟩)⟩
              | refine nthA hat ?_
              | refine CallA.pure h33 rfl rfl ?_
              | refine c34at l cap hpos hl ?_
              | refine stQ hpg (by omega) ?_
              | (refine Side.mk ?_ ?_; · (simp; done))
              | fail
              )
          all_goals (conv => whnf)
          refine RetA.pub 3 rfl (pc_noLoc _) ?_
          refine RetA.data rfl ⟨?_, rfl⟩
          show AV.tuple [AV.agg [.dslice (((pc (l.set pg.toNat _)).drop 0).take (l.length * 2)) l.length none], I 0] = _
          rw [pgs_set]
        · have ht : to slot = ⟨3, slot⟩ := if_neg hs
          rw [ht]
          repeat' ((conv => whnf); first
              | refine Branch.ofT rfl ?_
              | refine Branch.ofF rfl ?_
              | refine Branch.ofT (decide_eq_true (by omega)) ?_
              | refine Branch.ofF (decide_eq_false (by omega)) ?_
              | refine Branch.negdec (fun hn => absurd hC hn) (fun _ => ?_)
              | refine Branch.dec (fun h => ?_) (fun h => ?_)
              | refine Branch.negdec (fun h => ?_) (fun h => ?_)
              | refine Branch.neg (fun h => ?_) (fun h => ?_)
              | refine Branch.mk (fun h => ?_) (fun h => ?_)
              | (refine Side.mk ?_ ?_; · first | omega | decide)
              | (refine SideD.mk ?_ ?_; · first | omega | decide)
              | refine ⟨_, Nat.lt_succ_self _, To.refl (.inl ⟨rfl, ?_⟩)⟩
              | refine nthA hat ?_
              | refine CallA.pure h33 rfl rfl ?_
              | refine c34at l cap hpos hl ?_
              | refine stQ hpg (by omega) ?_
              | (refine Side.mk ?_ ?_; · (simp; done))
              | fail
              )
          all_goals (conv => whnf)
          refine RetA.pub 3 rfl (pc_noLoc _) ?_
          refine RetA.data rfl ⟨?_, rfl⟩
          show AV.tuple [AV.agg [.dslice (((pc (l.set pg.toNat _)).drop 0).take (l.length * 2)) l.length none], I 0] = _
          rw [pgs_set]
      · have e : giveE l pg slot = 4 := by unfold giveE; rw [if_neg hA, if_neg hB, if_pos (by rw [hgd]; exact hC)]
        rw [(give_err (cap := cap) e (by decide)).1, (give_err (cap := cap) e (by decide)).2, e]
        repeat' ((conv => whnf); first
            | refine Branch.ofT rfl ?_
            | refine Branch.ofF rfl ?_
            | refine Branch.ofT (decide_eq_true (by omega)) ?_
            | refine Branch.ofF (decide_eq_false (by omega)) ?_
            | refine Branch.negdec (fun _ => ?_) (fun hn => absurd hn hC)
            | refine Branch.dec (fun h => ?_) (fun h => ?_)
            | refine Branch.negdec (fun h => ?_) (fun h => ?_)
            | refine Branch.neg (fun h => ?_) (fun h => ?_)
            | refine Branch.mk (fun h => ?_) (fun h => ?_)
            | (refine Side.mk ?_ ?_; · first | omega | decide)
            | (refine SideD.mk ?_ ?_; · first | omega | decide)
            | refine ⟨_, Nat.lt_succ_self _, To.refl (.inl ⟨rfl, ?_⟩)⟩
            | refine nthA hat ?_
            | refine CallA.pure h33 rfl rfl ?_
            | (refine Side.mk ?_ ?_; · (simp; done))
            | fail
            )
        all_goals (conv => whnf)
        all_goals exact RetA.data rfl ⟨rfl, rfl⟩
theorem c18 (l : List Pl) (cap : Option Nat) (pg slot : Int) (hl : l.length ≤ 1000) : CallA Tryd.prog 18 [pgs l cap, I pg, I slot] Heap.nil fun v H' => v = .agg [.dslice (pc (giveP l pg slot)) (giveP l pg slot).length (giveC l cap pg slot), I 0, I 0, I (giveE l pg slot)] ∧ H' = Heap.nil := by
  refine callA_of ok18 (Nat.le_of_ble_eq_true rfl) ?_
  have h32 := c32 l cap slot hl
  by_cases hA : pg < 0 ∨ l.length ≤ pg
  · have e : giveE l pg slot = 5 := by unfold giveE; rw [if_pos hA]
    rw [(give_err (cap := cap) e (by decide)).1, (give_err (cap := cap) e (by decide)).2, e]
    repeat' ((conv => whnf); first
        | refine Branch.ofT rfl ?_
        | refine Branch.ofF rfl ?_
        | refine Branch.ofT (decide_eq_true (by omega)) ?_
        | refine Branch.ofF (decide_eq_false (by omega)) ?_
        | refine Branch.dec (fun h => ?_) (fun h => ?_)
        | refine Branch.negdec (fun h => ?_) (fun h => ?_)
        | refine Branch.neg (fun h => ?_) (fun h => ?_)
        | refine Branch.mk (fun h => ?_) (fun h => ?_)
        | (refine Side.mk ?_ ?_; · first | omega | decide)
        | (refine SideD.mk ?_ ?_; · first | omega | decide)
        | refine ⟨_, Nat.lt_succ_self _, To.refl (.inl ⟨rfl, ?_⟩)⟩
        | (refine Side.mk ?_ ?_; · (simp; done))
        | fail
        )
    all_goals (conv => whnf)
    all_goals exact RetA.data rfl ⟨rfl, rfl⟩
  · have hpg : pg.toNat < l.length := by omega
    have hat := pc_at pg.toNat l hpg
    have hgd := getD_at hpg
    have h35 := fun x => c35 l cap pg.toNat x hpg hl
    rw [Int.toNat_of_nonneg (by omega)] at h35
    by_cases hB : slot < -1 ∨ (0 ≤ slot ∧ 0 ≤ hold l slot 0)
    · have e : giveE l pg slot = 1 := by unfold giveE; rw [if_neg hA, if_pos hB]
      rw [(give_err (cap := cap) e (by decide)).1, (give_err (cap := cap) e (by decide)).2, e]
      repeat' ((conv => whnf); first
          | refine Branch.ofT rfl ?_
          | refine Branch.ofF rfl ?_
          | refine Branch.ofT (decide_eq_true (by omega)) ?_
          | refine Branch.ofF (decide_eq_false (by omega)) ?_
          | refine Branch.dec (fun h => ?_) (fun h => ?_)
          | refine Branch.negdec (fun h => ?_) (fun h => ?_)
          | refine Branch.neg (fun h => ?_) (fun h => ?_)
          | refine Branch.mk (fun h => ?_) (fun h => ?_)
          | (refine Side.mk ?_ ?_; · first | omega | decide)
          | (refine SideD.mk ?_ ?_; · first | omega | decide)
          | refine ⟨_, Nat.lt_succ_self _, To.refl (.inl ⟨rfl, ?_⟩)⟩
          | refine CallA.pure h32 rfl rfl ?_
          | (refine Side.mk ?_ ?_; · (simp; done))
          | fail
          )
      all_goals (conv => whnf)
      all_goals exact RetA.data rfl ⟨rfl, rfl⟩
    · by_cases hC : l[pg.toNat].s = 1
      · have e : giveE l pg slot = 0 := by unfold giveE; rw [if_neg hA, if_neg hB, if_neg (by rw [hgd]; simpa using hC)]
        rw [(give_ok (cap := cap) e).1, (give_ok (cap := cap) e).2, e]
        by_cases hs : slot < 0
        · have ht : to slot = ⟨2, 0⟩ := if_pos hs
          rw [ht]
          repeat' ((conv => whnf); first
              | refine Branch.ofT rfl ?_
              | refine Branch.ofF rfl ?_
              | refine Branch.ofT (decide_eq_true (by omega)) ?_
              | refine Branch.ofF (decide_eq_false (by omega)) ?_
              | refine Branch.negdec (fun hn => absurd hC hn) (fun _ => ?_)
              | refine Branch.dec (fun h => ?_) (fun h => ?_)
              | refine Branch.negdec (fun h => ?_) (fun h => ?_)
              | refine Branch.neg (fun h => ?_) (fun h => ?_)
              | refine Branch.mk (fun h => ?_) (fun h => ?_)
              | (refine Side.mk ?_ ?_; · first | omega | decide)
              | (refine SideD.mk ?_ ?_; · first | omega | decide)
              | refine ⟨_, Nat.lt_succ_self _, To.refl (.inl ⟨rfl, ?_⟩)⟩
              | refine nthA hat ?_
              | refine CallA.pure h32 rfl rfl ?_
              | refine CallA.pure (h35 ⟨2, 0⟩) rfl rfl ?_
              | (refine Side.mk ?_ ?_; · (simp; done))
              | fail
              )
          all_goals (conv => whnf)
          all_goals exact RetA.data rfl ⟨rfl, rfl⟩
        · have ht : to slot = ⟨3, slot⟩ := if_neg hs
          rw [ht]
          repeat' ((conv => whnf); first
              | refine Branch.ofT rfl ?_
              | refine Branch.ofF rfl ?_
              | refine Branch.ofT (decide_eq_true (by omega)) ?_
              | refine Branch.ofF (decide_eq_false (by omega)) ?_
              | refine Branch.negdec (fun hn => absurd hC hn) (fun _ => ?_)
              | refine Branch.dec (fun h => ?_) (fun h => ?_)
              | refine Branch.negdec (fun h => ?_) (fun h => ?_)
              | refine Branch.neg (fun h => ?_) (fun h => ?_)
              | refine Branch.mk (fun h => ?_) (fun h => ?_)
              | (refine Side.mk ?_ ?_; · first | omega | decide)
              | (refine SideD.mk ?_ ?_; · first | omega | decide)
              | refine ⟨_, Nat.lt_succ_self _, To.refl (.inl ⟨rfl, ?_⟩)⟩
              | refine nthA hat ?_
              | refine CallA.pure h32 rfl rfl ?_
              | refine CallA.pure (h35 ⟨3, slot⟩) rfl rfl ?_
              | (refine Side.mk ?_ ?_; · (simp; done))
              | fail
              )
          all_goals (conv => whnf)
          all_goals exact RetA.data rfl ⟨rfl, rfl⟩
      · have e : giveE l pg slot = 4 := by unfold giveE; rw [if_neg hA, if_neg hB, if_pos (by rw [hgd]; exact hC)]
        rw [(give_err (cap := cap) e (by decide)).1, (give_err (cap := cap) e (by decide)).2, e]
        repeat' ((conv => whnf); first
            | refine Branch.ofT rfl ?_
            | refine Branch.ofF rfl ?_
            | refine Branch.ofT (decide_eq_true (by omega)) ?_
            | refine Branch.ofF (decide_eq_false (by omega)) ?_
            | refine Branch.negdec (fun _ => ?_) (fun hn => absurd hn hC)
            | refine Branch.dec (fun h => ?_) (fun h => ?_)
            | refine Branch.negdec (fun h => ?_) (fun h => ?_)
            | refine Branch.neg (fun h => ?_) (fun h => ?_)
            | refine Branch.mk (fun h => ?_) (fun h => ?_)
            | (refine Side.mk ?_ ?_; · first | omega | decide)
            | (refine SideD.mk ?_ ?_; · first | omega | decide)
            | refine ⟨_, Nat.lt_succ_self _, To.refl (.inl ⟨rfl, ?_⟩)⟩
            | refine nthA hat ?_
            | refine CallA.pure h32 rfl rfl ?_
            | (refine Side.mk ?_ ?_; · (simp; done))
            | fail
            )
        all_goals (conv => whnf)
        all_goals exact RetA.data rfl ⟨rfl, rfl⟩
def takeE (l : List Pl) (pg : Int) : Int := if pg < 0 ∨ l.length ≤ pg then 5 else if (l.getD pg.toNat ⟨0, 0⟩).s = 1 then 4 else 0
def takeP (l : List Pl) (pg : Int) : List Pl := if takeE l pg = 0 then l.set pg.toNat ⟨1, 0⟩ else l
def takeC (l : List Pl) (cap : Option Nat) (pg : Int) : Option Nat := if takeE l pg = 0 then none else cap
def takeW (l : List Pl) (pg : Int) : Pl := if takeE l pg = 0 then l.getD pg.toNat ⟨0, 0⟩ else ⟨0, 0⟩
theorem take_err {l : List Pl} {cap : Option Nat} {pg e : Int} (h : takeE l pg = e) (h0 : e ≠ 0) : takeP l pg = l ∧ takeC l cap pg = cap ∧ takeW l pg = ⟨0, 0⟩ := by
  unfold takeP takeC takeW; rw [h, if_neg h0, if_neg h0, if_neg h0]; exact ⟨rfl, rfl, rfl⟩
theorem take_ok {l : List Pl} {cap : Option Nat} {pg : Int} (h : takeE l pg = 0) : takeP l pg = l.set pg.toNat ⟨1, 0⟩ ∧ takeC l cap pg = none ∧ takeW l pg = l.getD pg.toNat ⟨0, 0⟩ := by
  unfold takeP takeC takeW; rw [h, if_pos rfl, if_pos rfl, if_pos rfl]; exact ⟨rfl, rfl, rfl⟩
theorem c16 (l : List Pl) (cap : Option Nat) (pg : Int) (hl : l.length ≤ 1000) : CallA Tryd.prog 16 [pgs l cap, I pg] Heap.nil fun v H' => v = .tuple [pgs (takeP l pg) (takeC l cap pg), .agg [I (takeW l pg).s, I (takeW l pg).n], I (takeE l pg)] ∧ H' = Heap.nil := by
  refine callA_of ok16 (Nat.le_of_ble_eq_true rfl) ?_
  by_cases hA : pg < 0 ∨ l.length ≤ pg
  · have e : takeE l pg = 5 := by unfold takeE; rw [if_pos hA]
    have q := take_err (cap := cap) e (by decide)
    rw [q.1, q.2.1, q.2.2, e]
    repeat' ((conv => whnf); first
        | refine Branch.ofT rfl ?_
        | refine Branch.ofF rfl ?_
        | refine Branch.ofT (decide_eq_true (by omega)) ?_
        | refine Branch.ofF (decide_eq_false (by omega)) ?_
        | refine Branch.dec (fun h => ?_) (fun h => ?_)
        | refine Branch.negdec (fun h => ?_) (fun h => ?_)
        | refine Branch.neg (fun h => ?_) (fun h => ?_)
        | refine Branch.mk (fun h => ?_) (fun h => ?_)
        | (refine Side.mk ?_ ?_; · first | omega | decide)
        | (refine SideD.mk ?_ ?_; · first | omega | decide)
        | refine ⟨_, Nat.lt_succ_self _, To.refl (.inl ⟨rfl, ?_⟩)⟩
        | (refine Side.mk ?_ ?_; · (simp; done))
        | fail
        )
    all_goals (conv => whnf)
    all_goals exact RetA.data rfl ⟨rfl, rfl⟩
  · have hpg : pg.toNat < l.length := by omega
    have hat := pc_at pg.toNat l hpg
    have hgd := getD_at hpg
    have hpos : 0 < l.length := by omega
    by_cases hC : l[pg.toNat].s = 1
    · have e : takeE l pg = 4 := by unfold takeE; rw [if_neg hA, if_pos (by rw [hgd]; exact hC)]
      have q := take_err (cap := cap) e (by decide)
      rw [q.1, q.2.1, q.2.2, e]
      repeat' ((conv => whnf); first
          | refine Branch.ofT rfl ?_
          | refine Branch.ofF rfl ?_
          | refine Branch.ofT (decide_eq_true (by omega)) ?_
          | refine Branch.ofF (decide_eq_false (by omega)) ?_
          | refine Branch.dec (fun h => ?_) (fun h => ?_)
          | refine Branch.negdec (fun h => ?_) (fun h => ?_)
          | refine Branch.neg (fun h => ?_) (fun h => ?_)
          | refine Branch.mk (fun h => ?_) (fun h => ?_)
          | (refine Side.mk ?_ ?_; · first | omega | decide)
          | (refine SideD.mk ?_ ?_; · first | omega | decide)
          | refine ⟨_, Nat.lt_succ_self _, To.refl (.inl ⟨rfl, ?_⟩)⟩
          | refine nthA hat ?_
          | (refine Side.mk ?_ ?_; · (simp; done))
          | fail
          )
      all_goals (conv => whnf)
      all_goals exact RetA.data rfl ⟨rfl, rfl⟩
    · have e : takeE l pg = 0 := by unfold takeE; rw [if_neg hA, if_neg (by rw [hgd]; exact hC)]
      have q := take_ok (cap := cap) e
      rw [q.1, q.2.1, q.2.2, e, hgd]
      repeat' ((conv => whnf); first
          | refine Branch.ofT rfl ?_
          | refine Branch.ofF rfl ?_
          | refine Branch.ofT (decide_eq_true (by omega)) ?_
          | refine Branch.ofF (decide_eq_false (by omega)) ?_
          | refine Branch.dec (fun h => ?_) (fun h => ?_)
          | refine Branch.negdec (fun h => ?_) (fun h => ?_)
          | refine Branch.neg (fun h => ?_) (fun h => ?_)
          | refine Branch.mk (fun h => ?_) (fun h => ?_)
          | (refine Side.mk ?_ ?_; · first | omega | decide)
          | (refine SideD.mk ?_ ?_; · first | omega | decide)
          | refine ⟨_, Nat.lt_succ_self _, To.refl (.inl ⟨rfl, ?_⟩)⟩
          | refine nthA hat ?_
          | refine c34at l cap hpos hl ?_
          | refine stQ hpg (by omega) ?_
          | refine tk2 hat ?_
          | (refine Side.mk ?_ ?_; · (simp; done))
          | fail
          )
      all_goals (conv => whnf)
      refine RetA.pub 3 rfl (pc_noLoc _) ?_
      refine RetA.data rfl ⟨?_, rfl⟩
      show AV.tuple [AV.agg [.dslice (((pc (l.set pg.toNat _)).drop 0).take (l.length * 2)) l.length none], .agg [I l[pg.toNat].s, I l[pg.toNat].n], I 0] = _
      rw [pgs_set]
theorem c19 (l : List Pl) (cap : Option Nat) (pg : Int) (hl : l.length ≤ 1000) : CallA Tryd.prog 19 [pgs l cap, I pg] Heap.nil fun v H' => v = .agg [.dslice (pc (takeP l pg)) (takeP l pg).length (takeC l cap pg), I (takeW l pg).s, I (takeW l pg).n, I (takeE l pg)] ∧ H' = Heap.nil := by
  refine callA_of ok19 (Nat.le_of_ble_eq_true rfl) ?_
  by_cases hA : pg < 0 ∨ l.length ≤ pg
  · have e : takeE l pg = 5 := by unfold takeE; rw [if_pos hA]
    have q := take_err (cap := cap) e (by decide)
    rw [q.1, q.2.1, q.2.2, e]
    repeat' ((conv => whnf); first
        | refine Branch.ofT rfl ?_
        | refine Branch.ofF rfl ?_
        | refine Branch.ofT (decide_eq_true (by omega)) ?_
        | refine Branch.ofF (decide_eq_false (by omega)) ?_
        | refine Branch.dec (fun h => ?_) (fun h => ?_)
        | refine Branch.negdec (fun h => ?_) (fun h => ?_)
        | refine Branch.neg (fun h => ?_) (fun h => ?_)
        | refine Branch.mk (fun h => ?_) (fun h => ?_)
        | (refine Side.mk ?_ ?_; · first | omega | decide)
        | (refine SideD.mk ?_ ?_; · first | omega | decide)
        | refine ⟨_, Nat.lt_succ_self _, To.refl (.inl ⟨rfl, ?_⟩)⟩
        | (refine Side.mk ?_ ?_; · (simp; done))
        | fail
        )
    all_goals (conv => whnf)
    all_goals exact RetA.data rfl ⟨rfl, rfl⟩
  · have hpg : pg.toNat < l.length := by omega
    have hat := pc_at pg.toNat l hpg
    have hgd := getD_at hpg
    have h35 := fun x => c35 l cap pg.toNat x hpg hl
    rw [Int.toNat_of_nonneg (by omega)] at h35
    by_cases hC : l[pg.toNat].s = 1
    · have e : takeE l pg = 4 := by unfold takeE; rw [if_neg hA, if_pos (by rw [hgd]; exact hC)]
      have q := take_err (cap := cap) e (by decide)
      rw [q.1, q.2.1, q.2.2, e]
      repeat' ((conv => whnf); first
          | refine Branch.ofT rfl ?_
          | refine Branch.ofF rfl ?_
          | refine Branch.ofT (decide_eq_true (by omega)) ?_
          | refine Branch.ofF (decide_eq_false (by omega)) ?_
          | refine Branch.dec (fun h => ?_) (fun h => ?_)
          | refine Branch.negdec (fun h => ?_) (fun h => ?_)
          | refine Branch.neg (fun h => ?_) (fun h => ?_)
          | refine Branch.mk (fun h => ?_) (fun h => ?_)
          | (refine Side.mk ?_ ?_; · first | omega | decide)
          | (refine SideD.mk ?_ ?_; · first | omega | decide)
          | refine ⟨_, Nat.lt_succ_self _, To.refl (.inl ⟨rfl, ?_⟩)⟩
          | refine nthA hat ?_
          | (refine Side.mk ?_ ?_; · (simp; done))
          | fail
          )
      all_goals (conv => whnf)
      all_goals exact RetA.data rfl ⟨rfl, rfl⟩
    · have e : takeE l pg = 0 := by unfold takeE; rw [if_neg hA, if_neg (by rw [hgd]; exact hC)]
      have q := take_ok (cap := cap) e
      rw [q.1, q.2.1, q.2.2, e, hgd]
      repeat' ((conv => whnf); first
          | refine Branch.ofT rfl ?_
          | refine Branch.ofF rfl ?_
          | refine Branch.ofT (decide_eq_true (by omega)) ?_
          | refine Branch.ofF (decide_eq_false (by omega)) ?_
          | refine Branch.dec (fun h => ?_) (fun h => ?_)
          | refine Branch.negdec (fun h => ?_) (fun h => ?_)
          | refine Branch.neg (fun h => ?_) (fun h => ?_)
          | refine Branch.mk (fun h => ?_) (fun h => ?_)
          | (refine Side.mk ?_ ?_; · first | omega | decide)
          | (refine SideD.mk ?_ ?_; · first | omega | decide)
          | refine ⟨_, Nat.lt_succ_self _, To.refl (.inl ⟨rfl, ?_⟩)⟩
          | refine nthA hat ?_
          | refine tk2 hat ?_
          | refine QCallA.of (h35 ⟨1, 0⟩) rfl rfl ?_
          | (refine Side.mk ?_ ?_; · (simp; done))
          | fail
          )
      all_goals (conv => whnf)
      all_goals exact RetA.data rfl ⟨rfl, rfl⟩
end Go.Proofs

namespace Go.Proofs
open Go Go.Eng
set_option maxRecDepth 100000
set_option maxHeartbeats 4000000
/-! ### The victim -/
def scan (fr n : Nat) (P : Nat → Bool) : Nat → Nat → Option Nat
  | _, 0 => none
  | k, m + 1 => if P ((fr + k) % n) then some ((fr + k) % n) else scan fr n P (k + 1) m
def presB (l : List Pl) (i : Nat) : Bool := decide ((l.getD i ⟨0, 0⟩).s = 1)
def usB (us : List Bool) (i : Nat) : Bool := us.getD i false
def bcs (us : List Bool) : List AV := us.map AV.bool
def frm (l : List Pl) (hand : Int) : Nat := ((if 0 > hand then 0 else hand) % (l.length : Int)).toNat
def vict (l : List Pl) (hand : Int) (us : List Bool) : Option Nat := match scan (frm l hand) l.length (fun i => presB l i && !usB us i) 0 l.length with
  | some i => some i
  | none => scan (frm l hand) l.length (presB l) 0 l.length
def L14 (l : List Pl) (cap cu : Option Nat) (hand : Int) (us : List Bool) (m : Nat) (fr : Fr) (H : Heap) : Prop := ∃ (k : Nat) (sec : Int), k ≤ l.length ∧ m = l.length - k ∧
  scan (frm l hand) l.length (fun i => presB l i && !usB us i) k (l.length - k) = scan (frm l hand) l.length (fun i => presB l i && !usB us i) 0 l.length ∧
  ((sec = -1 ∧ scan (frm l hand) l.length (presB l) k (l.length - k) = scan (frm l hand) l.length (presB l) 0 l.length) ∨ ∃ i : Nat, sec = i ∧ scan (frm l hand) l.length (presB l) 0 l.length = some i) ∧
  fr = [(1, I hand), (2, .dslice (bcs us) us.length cu), (3, .ptr 0 0), (8, I sec), (13, I l.length), (14, I k)] ∧ H = HP l cap
def victV (o : Option Nat) : AV := match o with
  | some i => .tuple [I i, .bool true]
  | none => .tuple [I 0, .bool false]
theorem vict_some {l : List Pl} {hand : Int} {us : List Bool} {i : Nat} (h : scan (frm l hand) l.length (fun i => presB l i && !usB us i) 0 l.length = some i) : vict l hand us = some i := by
  unfold vict; rw [h]
theorem vict_none {l : List Pl} {hand : Int} {us : List Bool} (h : scan (frm l hand) l.length (fun i => presB l i && !usB us i) 0 l.length = none) : vict l hand us = scan (frm l hand) l.length (presB l) 0 l.length := by
  unfold vict; rw [h]
theorem frm_eq (l : List Pl) (hand : Int) (h0 : 0 < l.length) : (if true = true then if 0 > hand then 0 else hand else if 0 < hand then 0 else hand) % (l.length : Int) = (frm l hand : Nat) := by
  unfold frm; rw [if_pos rfl, Int.toNat_of_nonneg (Int.emod_nonneg _ (by omega))]
theorem frm_lt (l : List Pl) (hand : Int) (h0 : 0 < l.length) : frm l hand < l.length := by
  have h1 := Int.emod_lt_of_pos (if 0 > hand then 0 else hand) (show (0 : Int) < l.length by omega)
  have h2 := Int.emod_nonneg (if 0 > hand then 0 else hand) (show (l.length : Int) ≠ 0 by omega)
  unfold frm; omega
theorem scan_succ (fr : Nat) {n k : Nat} (P : Nat → Bool) (h : k < n) : scan fr n P k (n - k) = if P ((fr + k) % n) then some ((fr + k) % n) else scan fr n P (k + 1) (n - (k + 1)) := by
  have : n - k = (n - (k + 1)) + 1 := by omega
  rw [this, scan]
theorem presB_at {l : List Pl} {i : Nat} (h : i < l.length) : presB l i = decide (l[i].s = 1) := by unfold presB; rw [getD_at h]
theorem usB_over {us : List Bool} {i : Nat} (h : us.length ≤ i) : usB us i = false := by
  unfold usB; rw [List.getD_eq_getElem?_getD, List.getElem?_eq_none h]; rfl
theorem nthU {us : List Bool} {i off : Nat} {K : AV → Prop} (h : i < us.length) (hk : K (.bool (usB us i))) (e : off = i := by omega) : nthK 0 ((bcs us).drop off) K := by
  subst e
  have : (bcs us).drop off = .bool (usB us off) :: (bcs us).drop (off + 1) := by
    rw [List.drop_eq_getElem_cons (by simpa [bcs] using h)]
    congr 1
    simp [bcs, usB, List.getD_eq_getElem?_getD, List.getElem?_eq_getElem h]
  rw [this]
  simpa [nthK, fv_eq] using hk
theorem c14 (l : List Pl) (cap cu : Option Nat) (hand : Int) (us : List Bool) (h0 : 0 < l.length) (hl : l.length ≤ 1000) (hu : us.length ≤ 1000) : CallA Tryd.prog 14 [pgs l cap, I hand, .dslice (bcs us) us.length cu] Heap.nil fun v H' => v = victV (vict l hand us) ∧ H' = Heap.nil := by
  refine callA_of ok14 (Nat.le_of_ble_eq_true rfl) ?_
  repeat' ((conv => whnf); first
      | refine Branch.ofT rfl ?_
      | refine Branch.ofF rfl ?_
      | refine Branch.dec (fun h => ?_) (fun h => ?_)
      | refine Branch.negdec (fun h => ?_) (fun h => ?_)
      | refine Branch.neg (fun h => ?_) (fun h => ?_)
      | refine Branch.mk (fun h => ?_) (fun h => ?_)
      | (refine Side.mk ?_ ?_; · first | omega | decide)
      | (refine SideD.mk ?_ ?_; · first | omega | decide)
      | refine ⟨_, Nat.lt_succ_self _, To.refl (.inl ⟨rfl, ?_⟩)⟩
      | (refine Side.mk ?_ ?_; · (simp; done))
      | fail
      )
  all_goals (conv => whnf)
  refine ⟨L14 l cap cu hand us, l.length, To.gc [(0, true)] [1, 2, 3, 8, 13, 14] rfl ⟨dat rfl, trivial⟩ ⟨0, -1, by omega, by omega, rfl, .inl ⟨rfl, rfl⟩, rfl, rfl⟩, ?_⟩
  rintro m fr H ⟨k, sec, hk, rfl, hU, hS, rfl, rfl⟩
  have hmx : 0 ≤ (if true = true then if 0 > hand then 0 else hand else if 0 < hand then 0 else hand) := by
    rw [if_pos rfl]; split <;> omega
  have hfr := frm_eq l hand h0
  have hlt := frm_lt l hand h0
  by_cases hkl : k < l.length
  · have hix : ((frm l hand : Nat) + (k : Int)) % (l.length : Int) = (((frm l hand + k) % l.length : Nat) : Int) := by rw [Int.natCast_emod, Int.natCast_add]
    have hixl : (frm l hand + k) % l.length < l.length := Nat.mod_lt _ h0
    have sU := scan_succ (frm l hand) (fun i => presB l i && !usB us i) hkl
    have sP := scan_succ (frm l hand) (presB l) hkl
    have hat := pc_at _ l hixl
    have hp := presB_at hixl
    generalize (frm l hand + k) % l.length = ix at hix hixl sU sP hat hp
    have hov : us.length ≤ ix → usB us ix = false := usB_over
    repeat' ((conv => whnf); first
        | refine Branch.ofT rfl ?_
        | refine Branch.ofF rfl ?_
        | refine Branch.ofT (decide_eq_true (by omega)) ?_
        | refine Branch.ofF (decide_eq_false (by omega)) ?_
        | rw [hix]
        | rw [hfr]
        | refine Branch.dec (fun h => ?_) (fun h => ?_)
        | refine Branch.negdec (fun h => ?_) (fun h => ?_)
        | refine Branch.neg (fun h => ?_) (fun h => ?_)
        | refine Branch.mk (fun h => ?_) (fun h => ?_)
        | (refine Side.mk ?_ ?_; · first | omega | decide)
        | (refine SideD.mk ?_ ?_; · first | omega | decide)
        | refine ⟨_, Nat.lt_succ_self _, To.refl (.inl ⟨rfl, ?_⟩)⟩
        | refine Side.mk ⟨hmx, by omega⟩ ?_
        | refine nthA hat ?_
        | refine nthU (i := ix) (by omega) ?_
        | (refine Side.mk ?_ ?_; · (simp; done))
        | fail
        )
    all_goals (conv => whnf)
    · have pf : presB l ix = false := by rw [hp]; simpa using h
      refine ⟨l.length - (k + 1), by omega, To.gc [(0, true)] [1, 2, 3, 8, 13, 14] rfl ⟨dat rfl, trivial⟩ ⟨k + 1, sec, by omega, rfl, by rw [← hU, sU, if_neg (by simp [pf])], ?_, rfl, rfl⟩⟩
      rcases hS with ⟨q1, q2⟩ | q
      · exact .inl ⟨q1, by rw [← q2, sP, if_neg (by simp [pf])]⟩
      · exact .inr q
    · have pt : presB l ix = true := by rw [hp]; simpa using ‹l[ix].s = 1›
      rw [if_pos (by simp [pt, hov (by omega)])] at sU
      rw [vict_some (hU.symm.trans sU)]
      exact RetA.data rfl ⟨rfl, rfl⟩
    · have pt : presB l ix = true := by rw [hp]; simpa using ‹l[ix].s = 1›
      rw [if_pos (by simp [pt, h])] at sU
      rw [vict_some (hU.symm.trans sU)]
      exact RetA.data rfl ⟨rfl, rfl⟩
    · have pt : presB l ix = true := by rw [hp]; simpa using ‹l[ix].s = 1›
      have ut : usB us ix = true := ‹usB us ix = true›
      refine ⟨l.length - (k + 1), by omega, To.gc [(0, true)] [1, 2, 3, 8, 13, 14] rfl ⟨dat rfl, trivial⟩ ⟨k + 1, ix, by omega, rfl, by rw [← hU, sU, if_neg (by simp [ut])], ?_, rfl, rfl⟩⟩
      rcases hS with ⟨q1, q2⟩ | ⟨i, q1, q2⟩
      · exact .inr ⟨ix, rfl, by rw [← q2, sP, if_pos pt]⟩
      · omega
    · have ut : usB us ix = true := ‹usB us ix = true›
      refine ⟨l.length - (k + 1), by omega, To.gc [(0, true)] [1, 2, 3, 8, 13, 14] rfl ⟨dat rfl, trivial⟩ ⟨k + 1, sec, by omega, rfl, by rw [← hU, sU, if_neg (by simp [ut])], ?_, rfl, rfl⟩⟩
      rcases hS with ⟨q1, q2⟩ | q
      · omega
      · exact .inr q
  · repeat' ((conv => whnf); first
        | refine Branch.ofT rfl ?_
        | refine Branch.ofF rfl ?_
        | refine Branch.ofF (decide_eq_false (by omega)) ?_
        | refine Branch.dec (fun h => ?_) (fun h => ?_)
        | refine Branch.negdec (fun h => ?_) (fun h => ?_)
        | refine Branch.neg (fun h => ?_) (fun h => ?_)
        | refine Branch.mk (fun h => ?_) (fun h => ?_)
        | (refine Side.mk ?_ ?_; · first | omega | decide)
        | (refine SideD.mk ?_ ?_; · first | omega | decide)
        | refine ⟨_, Nat.lt_succ_self _, To.refl (.inl ⟨rfl, ?_⟩)⟩
        | (refine Side.mk ?_ ?_; · (simp; done))
        | fail
        )
    all_goals (conv => whnf)
    have : k = l.length := by omega
    subst this
    rw [Nat.sub_self] at hU hS
    have hv := vict_none (l := l) (hand := hand) (us := us) hU.symm
    rcases hS with ⟨rfl, q2⟩ | ⟨i, rfl, q2⟩
    · rw [hv, ← q2]
      exact RetA.data rfl ⟨rfl, rfl⟩
    · rw [hv, q2]
      refine RetA.data rfl ⟨?_, rfl⟩
      show AV.tuple [.int .i64 (if true = true then if 0 > (i : Int) then 0 else (i : Int) else if 0 < (i : Int) then 0 else i), .bool (decide (0 ≤ (i : Int)))] = .tuple [I i, .bool true]
      rw [if_pos rfl, if_neg (by omega), decide_eq_true (by omega)]
end Go.Proofs

namespace Go.Proofs
open Go Go.Eng
set_option maxRecDepth 100000
set_option maxHeartbeats 4000000
def QB (l : List Pl) (us : List Bool) (p : Nat) (i : Nat) : Bool := presB l i && (decide (p = 1) || !usB us i)
def H17 (l : List Pl) (cap : Option Nat) : Heap := ⟨2, [(0, .cells [.dslice (pc l) l.length cap]), (1, .cells [I 0, .bool false])]⟩
def L17 (l : List Pl) (cap cu : Option Nat) (hand : Int) (us : List Bool) (p : Nat) (m : Nat) (fr : Fr) (H : Heap) : Prop := ∃ k : Nat, k ≤ l.length ∧ m = l.length - k ∧
  scan (frm l hand) l.length (QB l us p) k (l.length - k) = scan (frm l hand) l.length (QB l us p) 0 l.length ∧
  fr = [(2, .dslice (bcs us) us.length cu), (3, .ptr 0 0), (6, .ptr 1 0), (7, I l.length), (8, I (frm l hand)), (9, I p), (10, I k)] ∧ H = H17 l cap
def victR (o : Option Nat) : AV := match o with
  | some i => .agg [I i, .bool true]
  | none => .agg [I 0, .bool false]
theorem QB0 (l : List Pl) (us : List Bool) : QB l us 0 = fun i => presB l i && !usB us i := by
  funext i; simp [QB]
theorem QB1 (l : List Pl) (us : List Bool) : QB l us 1 = presB l := by
  funext i; simp [QB]
theorem c17 (l : List Pl) (cap cu : Option Nat) (hand : Int) (us : List Bool) (h0 : 0 < l.length) (hl : l.length ≤ 1000) (hu : us.length ≤ 1000) : CallA Tryd.prog 17 [pgs l cap, I hand, .dslice (bcs us) us.length cu] Heap.nil fun v H' => v = victR (vict l hand us) ∧ H' = Heap.nil := by
  have hmx : 0 ≤ (if true = true then if 0 > hand then 0 else hand else if 0 < hand then 0 else hand) := by
    rw [if_pos rfl]; split <;> omega
  have hfr := frm_eq l hand h0
  have hlt := frm_lt l hand h0
  refine callA_of ok17 (Nat.le_of_ble_eq_true rfl) ?_
  repeat' ((conv => whnf); first
      | refine Branch.ofT rfl ?_
      | refine Branch.ofF rfl ?_
      | rw [hfr]
      | refine Branch.dec (fun h => ?_) (fun h => ?_)
      | refine Branch.negdec (fun h => ?_) (fun h => ?_)
      | refine Branch.neg (fun h => ?_) (fun h => ?_)
      | refine Branch.mk (fun h => ?_) (fun h => ?_)
      | (refine Side.mk ?_ ?_; · first | omega | decide)
      | (refine SideD.mk ?_ ?_; · first | omega | decide)
      | refine ⟨_, Nat.lt_succ_self _, To.refl (.inl ⟨rfl, ?_⟩)⟩
      | refine Side.mk ⟨hmx, by omega⟩ ?_
      | (refine Side.mk ?_ ?_; · (simp; done))
      | fail
      )
  all_goals (conv => whnf)
  refine LoopA.unroll _ _ _ 2 ?_
  repeat' ((conv => whnf); first
      | refine Branch.ofT rfl ?_
      | refine Branch.ofF rfl ?_
      | rw [hfr]
      | refine Branch.dec (fun h => ?_) (fun h => ?_)
      | refine Branch.negdec (fun h => ?_) (fun h => ?_)
      | refine Branch.neg (fun h => ?_) (fun h => ?_)
      | refine Branch.mk (fun h => ?_) (fun h => ?_)
      | (refine Side.mk ?_ ?_; · first | omega | decide)
      | (refine SideD.mk ?_ ?_; · first | omega | decide)
      | refine ⟨_, Nat.lt_succ_self _, To.refl (.inl ⟨rfl, ?_⟩)⟩
      | (refine Side.mk ?_ ?_; · (simp; done))
      | fail
      )
  all_goals (conv => whnf)
  refine ⟨L17 l cap cu hand us 0, l.length, To.gc [(0, true), (1, true)] [2, 3, 6, 7, 8, 9, 10] rfl ⟨dat rfl, dat rfl, trivial⟩ ⟨0, by omega, by omega, rfl, rfl, rfl⟩, ?_⟩
  rintro m fr H ⟨k, hk, rfl, hU, rfl, rfl⟩
  by_cases hkl : k < l.length
  · have hix : ((frm l hand : Nat) + (k : Int)) % (l.length : Int) = (((frm l hand + k) % l.length : Nat) : Int) := by rw [Int.natCast_emod, Int.natCast_add]
    have hixl : (frm l hand + k) % l.length < l.length := Nat.mod_lt _ h0
    have sU := scan_succ (frm l hand) (QB l us 0) hkl
    have hat := pc_at _ l hixl
    have hp := presB_at hixl
    generalize (frm l hand + k) % l.length = ix at hix hixl sU hat hp
    have hov : us.length ≤ ix → usB us ix = false := usB_over
    repeat' ((conv => whnf); first
        | refine Branch.ofT rfl ?_
        | refine Branch.ofF rfl ?_
        | refine Branch.ofT (decide_eq_true (by omega)) ?_
        | refine Branch.ofF (decide_eq_false (by omega)) ?_
        | rw [hix]
        | refine Branch.dec (fun h => ?_) (fun h => ?_)
        | refine Branch.negdec (fun h => ?_) (fun h => ?_)
        | refine Branch.neg (fun h => ?_) (fun h => ?_)
        | refine Branch.mk (fun h => ?_) (fun h => ?_)
        | (refine Side.mk ?_ ?_; · first | omega | decide)
        | (refine SideD.mk ?_ ?_; · first | omega | decide)
        | refine ⟨_, Nat.lt_succ_self _, To.refl (.inl ⟨rfl, ?_⟩)⟩
        | refine nthA hat ?_
        | refine nthU (i := ix) (by omega) ?_
        | (refine Side.mk ?_ ?_; · (simp; done))
        | fail
        )
    all_goals (conv => whnf)
    · have pt : presB l ix = true := by rw [hp]; simpa using ‹l[ix].s = 1›
      rw [if_pos (by simp [QB, pt, hov (by omega)]), QB0] at sU
      rw [QB0] at hU
      rw [vict_some (hU.symm.trans sU)]
      exact RetA.data rfl ⟨rfl, rfl⟩
    · have pt : presB l ix = true := by rw [hp]; simpa using ‹l[ix].s = 1›
      rw [if_pos (by simp [QB, pt, h]), QB0] at sU
      rw [QB0] at hU
      rw [vict_some (hU.symm.trans sU)]
      exact RetA.data rfl ⟨rfl, rfl⟩
    · exact ⟨l.length - (k + 1), by omega, To.gc [(0, true), (1, true)] [2, 3, 6, 7, 8, 9, 10] rfl ⟨dat rfl, dat rfl, trivial⟩ ⟨k + 1, by omega, rfl, by rw [← hU, sU, if_neg (by simp [QB, h])], rfl, rfl⟩⟩
    · have pf : presB l ix = false := by rw [hp]; simpa using h
      exact ⟨l.length - (k + 1), by omega, To.gc [(0, true), (1, true)] [2, 3, 6, 7, 8, 9, 10] rfl ⟨dat rfl, dat rfl, trivial⟩ ⟨k + 1, by omega, rfl, by rw [← hU, sU, if_neg (by simp [QB, pf])], rfl, rfl⟩⟩
  · have : k = l.length := by omega
    subst this
    rw [Nat.sub_self, QB0] at hU
    have hv := vict_none (l := l) (hand := hand) (us := us) hU.symm
    repeat' ((conv => whnf); first
        | refine Branch.ofT rfl ?_
        | refine Branch.ofF rfl ?_
        | refine Branch.ofF (decide_eq_false (by omega)) ?_
        | refine Branch.dec (fun h => ?_) (fun h => ?_)
        | refine Branch.negdec (fun h => ?_) (fun h => ?_)
        | refine Branch.neg (fun h => ?_) (fun h => ?_)
        | refine Branch.mk (fun h => ?_) (fun h => ?_)
        | (refine Side.mk ?_ ?_; · first | omega | decide)
        | (refine SideD.mk ?_ ?_; · first | omega | decide)
        | refine ⟨_, Nat.lt_succ_self _, To.refl (.inl ⟨rfl, ?_⟩)⟩
        | (refine Side.mk ?_ ?_; · (simp; done))
        | fail
        )
    all_goals (conv => whnf)
    refine ⟨L17 l cap cu hand us 1, l.length, To.gc [(0, true), (1, true)] [2, 3, 6, 7, 8, 9, 10] rfl ⟨dat rfl, dat rfl, trivial⟩ ⟨0, by omega, by omega, rfl, rfl, rfl⟩, ?_⟩
    rintro m fr H ⟨k, hk, rfl, hU, rfl, rfl⟩
    by_cases hkl : k < l.length
    · have hix : ((frm l hand : Nat) + (k : Int)) % (l.length : Int) = (((frm l hand + k) % l.length : Nat) : Int) := by rw [Int.natCast_emod, Int.natCast_add]
      have hixl : (frm l hand + k) % l.length < l.length := Nat.mod_lt _ h0
      have sU := scan_succ (frm l hand) (QB l us 1) hkl
      have hat := pc_at _ l hixl
      have hp := presB_at hixl
      generalize (frm l hand + k) % l.length = ix at hix hixl sU hat hp
      repeat' ((conv => whnf); first
          | refine Branch.ofT rfl ?_
          | refine Branch.ofF rfl ?_
          | refine Branch.ofT (decide_eq_true (by omega)) ?_
          | refine Branch.ofF (decide_eq_false (by omega)) ?_
          | rw [hix]
          | refine Branch.dec (fun h => ?_) (fun h => ?_)
          | refine Branch.negdec (fun h => ?_) (fun h => ?_)
          | refine Branch.neg (fun h => ?_) (fun h => ?_)
          | refine Branch.mk (fun h => ?_) (fun h => ?_)
          | (refine Side.mk ?_ ?_; · first | omega | decide)
          | (refine SideD.mk ?_ ?_; · first | omega | decide)
          | refine ⟨_, Nat.lt_succ_self _, To.refl (.inl ⟨rfl, ?_⟩)⟩
          | refine nthA hat ?_
          | refine nthU (i := ix) (by omega) ?_
          | (refine Side.mk ?_ ?_; · (simp; done))
          | fail
          )
      all_goals (conv => whnf)
      · have pt : presB l ix = true := by rw [hp]; simpa using h
        rw [if_pos (by simp [QB, pt]), QB1] at sU
        rw [QB1] at hU
        rw [hv, ← hU, sU]
        exact RetA.data rfl ⟨rfl, rfl⟩
      · have pf : presB l ix = false := by rw [hp]; simpa using h
        exact ⟨l.length - (k + 1), by omega, To.gc [(0, true), (1, true)] [2, 3, 6, 7, 8, 9, 10] rfl ⟨dat rfl, dat rfl, trivial⟩ ⟨k + 1, by omega, rfl, by rw [← hU, sU, if_neg (by simp [QB, pf])], rfl, rfl⟩⟩
    · have : k = l.length := by omega
      subst this
      rw [Nat.sub_self, QB1] at hU
      repeat' ((conv => whnf); first
          | refine Branch.ofT rfl ?_
          | refine Branch.ofF rfl ?_
          | refine Branch.ofF (decide_eq_false (by omega)) ?_
          | refine Branch.dec (fun h => ?_) (fun h => ?_)
          | refine Branch.negdec (fun h => ?_) (fun h => ?_)
          | refine Branch.neg (fun h => ?_) (fun h => ?_)
          | refine Branch.mk (fun h => ?_) (fun h => ?_)
          | (refine Side.mk ?_ ?_; · first | omega | decide)
          | (refine SideD.mk ?_ ?_; · first | omega | decide)
          | refine ⟨_, Nat.lt_succ_self _, To.refl (.inl ⟨rfl, ?_⟩)⟩
          | (refine Side.mk ?_ ?_; · (simp; done))
          | fail
          )
      all_goals (conv => whnf)
      rw [hv, ← hU]
      exact RetA.data rfl ⟨rfl, rfl⟩
end Go.Proofs

namespace Go.Proofs
open Go Go.Eng
set_option maxRecDepth 100000
set_option maxHeartbeats 4000000
/-! ### New -/
def chk43 (n : Nat) : Bool := match resultO ovB tblS 20 10 43 [.int .u64 (.ofNat 1), .int .u64 (.ofNat n)] with
  | some (.tuple [.int .u64 (.ofNat 0), .int .u64 (.ofNat m)]) => Nat.beq m n
  | _ => false
def chkTo : Nat → Bool
  | 0 => chk43 0
  | n + 1 => chk43 (n + 1) && chkTo n
theorem chk64 : chkTo 64 = true := by kernel_rfl
theorem chkTo_spec : ∀ {n m : Nat}, chkTo n = true → m ≤ n → chk43 m = true
  | 0, m, h, hm => by
    have : m = 0 := by omega
    subst this; exact h
  | n + 1, m, h, hm => by
    simp only [chkTo, Bool.and_eq_true] at h
    rcases Nat.lt_or_eq_of_le hm with q | rfl
    · exact chkTo_spec h.2 (by omega)
    · exact h.1
theorem c43 (n : Nat) (h : n ≤ 64) : CallA Tryd.prog 43 [.int .u64 1, .int .u64 n] Heap.nil fun v H' => v = .tuple [.int .u64 0, .int .u64 n] ∧ H' = Heap.nil := by
  have := chkTo_spec chk64 h
  unfold chk43 at this
  split at this
  · rename_i m hr
    have := Nat.eq_of_beq_eq_true this
    subst this
    exact CallA.computedO ovB_ok tblS_ok 20 10 hr
  · cases this
theorem pc_takeN : ∀ (n : Nat) (l : List Pl), (pc l).take (n * 2) = pc (l.take n)
  | 0, l => by simp [pc]
  | n + 1, [] => by simp [pc]
  | n + 1, x :: r => by
    have e : (n + 1) * 2 = (n * 2 + 1) + 1 := by omega
    rw [e]
    simp only [pc, List.take_succ_cons, pc_takeN n r]
theorem pc_dropN : ∀ (n : Nat) (l : List Pl), (pc l).drop (n * 2) = pc (l.drop n)
  | 0, l => by simp
  | n + 1, [] => by simp [pc]
  | n + 1, x :: r => by
    have e : (n + 1) * 2 = (n * 2 + 1) + 1 := by omega
    rw [e]
    simp only [pc, List.drop_succ_cons, pc_dropN n r]
def fl (n f : Nat) (x : Pl) : List Pl := List.replicate f x ++ List.replicate (n - f) ⟨0, 0⟩
theorem fl_put {n f c : Nat} {x : Pl} {off : Nat} {ds : List AV} {K : List AV → Prop} (hf : f + c ≤ n) (hc : c ≤ f) (e : off = f * 2) (hd : ds = (pc (fl n f x)).take (c * 2)) (hk : K (pc (fl n (f + c) x))) : lputK (pc (fl n f x)) off ds K := by
  subst e hd
  have e1 : (fl n f x).take c = List.replicate c x := by
    unfold fl; rw [List.take_append_of_le_length (by simpa using hc), List.take_replicate, Nat.min_eq_left hc]
  rw [pc_takeN, e1]
  have e2 : (pc (List.replicate c x)).length = c * 2 := by rw [pc_len]; simp
  have e3 : (pc (fl n f x)).length = n * 2 := by rw [pc_len]; unfold fl; simp; omega
  refine lputK_eq (by omega) (List.all_eq_true.2 (pc_scal _)) ?_
  rw [e2, ← Nat.add_mul, pc_takeN, pc_dropN, ← pc_app, ← pc_app]
  have e4 : (fl n f x).take f ++ List.replicate c x ++ (fl n f x).drop (f + c) = fl n (f + c) x := by
    unfold fl
    rw [List.take_append_of_le_length (by simp), List.take_of_length_le (by simp), List.drop_append, List.drop_eq_nil_of_le (by simp)]
    simp only [List.length_replicate, List.nil_append, List.drop_replicate, List.replicate_append_replicate]
    congr 2; omega
  rw [e4]; exact hk
end Go.Proofs

namespace Go.Proofs
open Go Go.Eng
set_option maxRecDepth 100000
set_option maxHeartbeats 4000000
def L31 (n : Nat) (x : Pl) (ca : Option Nat) (m : Nat) (fr : Fr) (H : Heap) : Prop := ∃ f : Nat, 0 < f ∧ f ≤ n ∧ m = n - f ∧ fr = [(7, .slice 0 0 n ca 2), (8, I f)] ∧ H = ⟨1, [(0, .cells (pc (fl n f x)))]⟩
theorem rep_pc : ∀ n : Nat, rep [AV.int IntKind.i64 0, AV.int IntKind.i64 0] n = pc (List.replicate n ⟨0, 0⟩)
  | 0 => rfl
  | n + 1 => by simp only [rep, rep_pc n, List.replicate_succ, pc]; rfl
theorem wrapU {n : Nat} (h : n ≤ 64) : IntKind.u64.wrap (n : Int) = n := by
  have : ∀ k : Fin 65, IntKind.u64.wrap (k.val : Int) = k.val := by decide
  exact this ⟨n, by omega⟩
theorem wrapI {n : Nat} (h : n ≤ 64) : IntKind.i64.wrap (n : Int) = n := by
  have : ∀ k : Fin 65, IntKind.i64.wrap (k.val : Int) = k.val := by decide
  exact this ⟨n, by omega⟩
theorem first_put {n : Nat} {st : Int} {K : List AV → Prop} (h : 0 < n) (hk : K (pc (fl n 1 ⟨st, 0⟩))) : lputK (pc (List.replicate n ⟨0, 0⟩)) 0 (List.take (1 * 2) [I st, I 0]) K := by
  obtain ⟨m, rfl⟩ : ∃ m, n = m + 1 := ⟨n - 1, by omega⟩
  refine lputK_eq ?_ rfl ?_
  · simp [pc_len]; omega
  · simpa [fl, pc, List.replicate_succ] using hk
theorem c31 (st : Int) (n : Nat) (h0 : 0 < n) (hn : n ≤ 64) : CallA Tryd.prog 31 [.dslice [I st, I 0] 1 (some 1), I n] Heap.nil fun v H' => v = .dslice (pc (List.replicate n ⟨st, 0⟩)) n (some n) ∧ H' = Heap.nil := by
  refine callA_of ok31 (Nat.le_of_ble_eq_true rfl) ?_
  have h43 := c43 n hn
  have hw1 : IntKind.u64.wrap ((1 : Nat) : Int) = 1 := by decide
  have hwn : IntKind.u64.wrap (n : Int) = n := wrapU hn
  have hin : IntKind.i64.wrap (n : Int) = n := wrapI hn
  have ht : ((n : Int)).toNat = n := by omega
  repeat' ((conv => whnf); first
      | refine Branch.ofT rfl ?_
      | refine Branch.ofF rfl ?_
      | refine Branch.ofT (decide_eq_true (by omega)) ?_
      | refine Branch.ofF (decide_eq_false (by omega)) ?_
      | rw [hwn, hw1]
      | rw [hin]
      | rw [ht]
      | rw [rep_pc]
      | refine Branch.dec (fun h => ?_) (fun h => ?_)
      | refine Branch.negdec (fun h => ?_) (fun h => ?_)
      | refine Branch.neg (fun h => ?_) (fun h => ?_)
      | refine Branch.mk (fun h => ?_) (fun h => ?_)
      | (refine Side.mk ?_ ?_; · first | omega | decide)
      | (refine SideD.mk ?_ ?_; · first | omega | decide)
      | refine ⟨_, Nat.lt_succ_self _, To.refl (.inl ⟨rfl, ?_⟩)⟩
      | refine CallA.pure h43 rfl rfl ?_
      | refine first_put h0 ?_
      | (refine Side.mk ?_ ?_; · (simp; done))
      | fail
      )
  all_goals (conv => whnf)
  refine ⟨L31 n ⟨st, 0⟩ (some n), n - 1, To.gc [(0, true)] [7, 8] rfl ⟨pc_noLoc _, trivial⟩ ⟨1, by omega, by omega, rfl, ?_, ?_⟩, ?_⟩
  · rfl
  · rfl
  rintro m fr H ⟨f, hf0, hf, rfl, rfl, rfl⟩
  by_cases hfn : f < n
  · have hcs : (pc (fl n f ⟨st, 0⟩)).length = n * 2 := by rw [pc_len]; unfold fl; simp; omega
    repeat' ((conv => whnf); first
        | refine Branch.ofT rfl ?_
        | refine Branch.ofF rfl ?_
        | refine Branch.ofT (decide_eq_true (by omega)) ?_
        | refine Branch.dec (fun h => ?_) (fun h => ?_)
        | refine Branch.negdec (fun h => ?_) (fun h => ?_)
        | refine Branch.neg (fun h => ?_) (fun h => ?_)
        | refine Branch.mk (fun h => ?_) (fun h => ?_)
        | (refine Side.mk ?_ ?_; · first | omega | decide)
        | (refine SideD.mk ?_ ?_; · first | omega | decide)
        | refine ⟨_, Nat.lt_succ_self _, To.refl (.inl ⟨rfl, ?_⟩)⟩
        | refine Or.inl (Side.mk ⟨by omega, by omega, by omega⟩ ?_)
        | (refine Side.mk ?_ ?_; · (simp; done))
        | fail
        )
    all_goals (conv => whnf)
    · have e1 : ((f : Int) - 0).toNat = f := by omega
      have e2 : ((n : Int) - f).toNat = n - f := by omega
      rw [e1, e2] at h
      refine fl_put (c := f) (by omega) (by omega) (by omega) (by rw [e1]; simp) ?_
      repeat' ((conv => whnf); first
          | refine Branch.ofT rfl ?_
          | refine Branch.ofF rfl ?_
          | refine Branch.dec (fun h => ?_) (fun h => ?_)
          | refine Branch.negdec (fun h => ?_) (fun h => ?_)
          | refine Branch.neg (fun h => ?_) (fun h => ?_)
          | refine Branch.mk (fun h => ?_) (fun h => ?_)
          | (refine Side.mk ?_ ?_; · first | omega | decide)
          | (refine SideD.mk ?_ ?_; · first | omega | decide)
          | refine ⟨_, Nat.lt_succ_self _, To.refl (.inl ⟨rfl, ?_⟩)⟩
          | (refine Side.mk ?_ ?_; · (simp; done))
          | fail
          )
      all_goals (conv => whnf)
      rw [e1]
      exact ⟨n - (f + f), by omega, To.gc [(0, true)] [7, 8] rfl ⟨pc_noLoc _, trivial⟩ ⟨f + f, by omega, by omega, rfl, rfl, rfl⟩⟩
    · have e1 : ((f : Int) - 0).toNat = f := by omega
      have e2 : ((n : Int) - f).toNat = n - f := by omega
      rw [e1, e2] at h
      refine fl_put (c := n - f) (by omega) (by omega) (by omega) (by rw [e1, e2, List.take_take, Nat.min_eq_left (by omega)]; simp) ?_
      repeat' ((conv => whnf); first
          | refine Branch.ofT rfl ?_
          | refine Branch.ofF rfl ?_
          | refine Branch.dec (fun h => ?_) (fun h => ?_)
          | refine Branch.negdec (fun h => ?_) (fun h => ?_)
          | refine Branch.neg (fun h => ?_) (fun h => ?_)
          | refine Branch.mk (fun h => ?_) (fun h => ?_)
          | (refine Side.mk ?_ ?_; · first | omega | decide)
          | (refine SideD.mk ?_ ?_; · first | omega | decide)
          | refine ⟨_, Nat.lt_succ_self _, To.refl (.inl ⟨rfl, ?_⟩)⟩
          | (refine Side.mk ?_ ?_; · (simp; done))
          | fail
          )
      all_goals (conv => whnf)
      rw [e2]
      exact ⟨n - (f + (n - f)), by omega, To.gc [(0, true)] [7, 8] rfl ⟨pc_noLoc _, trivial⟩ ⟨f + (n - f), by omega, by omega, rfl, rfl, rfl⟩⟩
  · have : f = n := by omega
    subst this
    repeat' ((conv => whnf); first
        | refine Branch.ofT rfl ?_
        | refine Branch.ofF rfl ?_
        | refine Branch.ofF (decide_eq_false (by omega)) ?_
        | refine Branch.dec (fun h => ?_) (fun h => ?_)
        | refine Branch.negdec (fun h => ?_) (fun h => ?_)
        | refine Branch.neg (fun h => ?_) (fun h => ?_)
        | refine Branch.mk (fun h => ?_) (fun h => ?_)
        | (refine Side.mk ?_ ?_; · first | omega | decide)
        | (refine SideD.mk ?_ ?_; · first | omega | decide)
        | refine ⟨_, Nat.lt_succ_self _, To.refl (.inl ⟨rfl, ?_⟩)⟩
        | (refine Side.mk ?_ ?_; · (simp; done))
        | fail
        )
    all_goals (conv => whnf)
    have e : fl f f ⟨st, 0⟩ = List.replicate f ⟨st, 0⟩ := by unfold fl; simp
    rw [e]
    refine RetA.pub 0 rfl (pc_noLoc _) ?_
    refine RetA.data rfl ⟨?_, rfl⟩
    show AV.dslice (((pc (List.replicate f ⟨st, 0⟩)).drop 0).take (f * 2)) f (some f) = _
    rw [List.drop_zero, pc_takeN, List.take_replicate, Nat.min_self]
end Go.Proofs

