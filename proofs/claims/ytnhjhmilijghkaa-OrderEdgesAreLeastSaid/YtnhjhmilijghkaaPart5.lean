/- Part of a proof about the given program: lemmas that the other parts use. -/
import Derived.Test.YtnhjhmilijghkaaPart4
import Derived.Test.YtnhjhmilijghkaaProg
import Derived.KernelRfl

set_option linter.all false
set_option linter.unusedSimpArgs false
set_option linter.unusedVariables false
namespace Go.Eng
open Go

variable [Globs]
/-! #### Calls, guards, regions, code -/
abbrev CallE := FuncId → List AV → EH → Option (AV × EH)
structure CallOK (P : Program) (call : CallE) : Prop where
  ok : ∀ f vs T r T', call f vs T = some (r, T') → ∀ H, RepH T H → ∃ H', RepH T' H' ∧ ∀ K : AV → Heap → Prop, K r H' → CallA P f vs H K
abbrev YieldE := Nat → List AV → EH → Option (AV × EH)
structure YieldOK (P : Program) (yl : YieldE) : Prop where
  ok : ∀ k vs T r T', yl k vs T = some (r, T') → ∀ H, RepH T H → ∃ H', RepH T' H' ∧ ∀ K : AV → Heap → Prop, K r H' → YieldA P k vs H K
def callD (call : CallE) (f : FuncId) (vs : List AV) : Option AV := match call f vs EH.nil with
  | some (r, T) => match pubE T.get 8 r with
    | some r' => bif noLocL vs && noLoc r' then some r' else none
    | none => none
  | none => none
theorem callD_run {P : Program} {call : CallE} (hc : CallOK P call) {f : FuncId} {vs : List AV} {r : AV} (h : callD call f vs = some r) {K : AV → Prop} (hk : K r) : QCallA P f vs K := by
  unfold callD at h
  split at h
  · rename_i r' T' hcall
    split at h
    · rename_i r2 hp
      cases hb : (noLocL vs && noLoc r2) <;> simp only [hb, cond_true, cond_false] at h
      · cases h
      · cases h
        simp only [Bool.and_eq_true] at hb
        obtain ⟨H', R', hK⟩ := hc.ok _ _ _ _ _ hcall _ RepH.nil
        refine QCallA.of (CallA.out 8 (hK (fun v H => v = r' ∧ H = H') ⟨rfl, rfl⟩) ?_) hb.1 hb.2 hk
        rintro v H ⟨rfl, rfl⟩
        exact ⟨_, by rw [R'.get]; exact hp, rfl, rfl⟩
    · cases h
  · cases h

def callQ (call : CallE) (η : Nat → AB) (f : FuncId) (vs : List AV) : Option AV := match atL vs with
  | [] => callD call f vs
  | k :: ks => match callD call f (frz η (k :: ks) vs) with
    | some r => bif flatV r then some r else none
    | none => none
theorem callQ_run {P : Program} {call : CallE} (hc : CallOK P call) {η : Nat → AB} {f : FuncId} {vs : List AV} {r : AV} (h : callQ call η f vs = some r) {K : AV → Prop} (hk : K r) : qcallK P η f vs K := by
  unfold callQ at h; unfold qcallK
  cases he : atL vs with
  | nil => rw [he] at h; exact callD_run hc h hk
  | cons k ks =>
    rw [he] at h
    simp only [fvs_eq] at h ⊢
    split at h
    · rename_i r' hr
      cases hf : flatV r' <;> simp only [hf, cond_true, cond_false, reduceCtorEq] at h
      cases h
      exact callD_run hc hr (by rw [hf]; exact hk)
    · cases h

section
variable (call : CallE)
variable (yl : YieldE)
def AOp.e (F : BT AV) (T : EH) : AOp → Option (AV × EH)
  | .m o => o.e (AX.eF F) T
  | .p o => match o.e (AX.eF F) with
    | some u => some (u, T)
    | none => none
  | .v o => match o.e (AX.eF F) with
    | some u => some (u, T)
    | none => none
  | .h o => o.e (AX.eF F) T
  | .d o => match o.e (AX.eF F) T.get with
    | some u => some (u, T)
    | none => none
  | .l o => match o.e (AX.eF F) T.get T.nx with
    | some (u, ab, kl) => forceN (T.nx + 1) fun n => match kl with
      | none => match EH.put ⟨n, T.bs⟩ T.nx ab with
        | some T' => some (u, T')
        | none => none
      | some k => match EH.put ⟨n, T.bs⟩ k .dead with
        | some T1 => match T1.put T.nx ab with
          | some T' => some (u, T')
          | none => none
        | none => none
    | none => none
  | .call f args => call f (mapE (AX.eF F) args) T
  | .callv x args => match x.eF F with
    | .func f caps => call f (mapE (AX.eF F) args ++ caps) T
    | .yld k => yl k (mapE (AX.eF F) args) T
    | _ => none
  | .nq neg x => match x.eF F with
    | .nils => some (.bool (!neg), T)
    | .slice _ _ _ _ _ => some (.bool neg, T)
    | .dslice _ n _ => match n with
      | 0 => none
      | _ + 1 => some (.bool neg, T)
    | _ => none
def AO.e (o : AO) (F : BT AV) (T : EH) : Option (BT AV × EH) := match o.guard with
  | none => match o.op.e call yl F T with
    | some (v, T') => match putE F o.dst v with
      | some F' => some (F', T')
      | none => none
    | none => none
  | some (s, want) => match AX.eF F (.t s) with
    | .bool b => bif b == want then (match o.op.e call yl F T with
      | some (v, T') => match putE F o.dst v with
        | some F' => some (F', T')
        | none => none
      | none => none) else (match putE F o.dst (.tuple []) with
      | some F' => some (F', T)
      | none => none)
    | .tuple [] => match putE F o.dst (.tuple []) with
      | some F' => some (F', T)
      | none => none
    | _ => none
def opsE : List AO → BT AV → EH → Option (BT AV × EH)
  | [], F, T => some (F, T)
  | o :: r, F, T => match o.e call yl F T with
    | some (F', T') => opsE r F' T'
    | none => none

def HOp.qe (ev : AX → AV) (η : Nat → AB) (p : Nat) : HOp → Option (AV × Ef)
  | .load agg n x => match ev x with
    | .dptr cs => match loadE agg n cs with
      | some v => some (v, [])
      | none => none
    | .ptr k off => match η k with
      | .cells cs => match loadE agg n (cs.drop off) with
        | some v => some (v, [])
        | none => none
      | _ => none
    | _ => none
  | .alloc zero => some (.ptr p 0, [(p, .cells zero)])
  | .box x => match cellsOf (ev x) with
    | some cs => some (.ptr p 0, [(p, .cells cs)])
    | none => none
  | .store n q x => match ev q with
    | .ptr k off => match η k with
      | .cells cs => match cellsOf (ev x) with
        | some vs => bif Nat.beq vs.length n then (match lputE cs off vs with
          | some cs' => some (.any, [(k, .cells cs')])
          | none => none) else none
        | none => none
      | _ => none
    | _ => none
def MOp.qe (ev : AX → AV) (η : Nat → AB) : MOp → Option (AV × Ef)
  | .mk => none
  | .get ok kk zero m k => match mapE0 η (ev m) with
    | some (_, es) => bif keyOk kk (ev k) then (match mfind kk (ev k) es with
      | some r => some (mval ok zero r, [])
      | none => none) else none
    | none => none
  | .set kk m k v => match mapE0 η (ev m) with
    | some (some p, es) => bif keyOk kk (ev k) && noLoc (ev v) then (match mput kk (ev k) (ev v) es with
      | some es' => some (.any, [(p, .map es')])
      | none => none) else none
    | _ => none
  | .del kk m k => match mapE0 η (ev m) with
    | some (some p, es) => bif keyOk kk (ev k) then (match mdel kk (ev k) es with
      | some es' => some (.tuple [], [(p, .map es')])
      | none => none) else none
    | _ => none
  | .range _ => none
  | .next _ => none
  | .entry _ => none
  | .delw _ _ _ _ => none
  | .copyS _ _ => none
  | .copy e d s => match ev d with
    | .slice k off n _ e' => match η k with
      | .cells cs => match srcE η e (ev s) with
        | some (ds, m) => if e' = e then (bif Nat.ble m n then (match lputE cs off ds with
          | some cs' => some (.int .i64 m, [(k, .cells cs')])
          | none => none) else (match lputE cs off (ds.take (n * e)) with
          | some cs' => some (.int .i64 n, [(k, .cells cs')])
          | none => none)) else none
        | none => none
      | _ => none
    | _ => none
  | .len m => match mapE0 η (ev m) with
    | some (_, es) => some (.int .i64 es.length, [])
    | none => none
def AOp.qe (ev : AX → AV) (η : Nat → AB) (p : Nat) : AOp → Option (AV × Ef)
  | .m o => o.qe ev η
  | .p o => match o.e ev with
    | some u => some (u, [])
    | none => none
  | .v o => match o.e ev with
    | some u => some (u, [])
    | none => none
  | .h o => o.qe ev η p
  | .d o => match o.e ev η with
    | some u => some (u, [])
    | none => none
  | .l o => match o.e ev η p with
    | some (u, cs, kl) => some (u, efL p cs kl)
    | none => none
  | .call f args => match callQ call η f (mapE ev args) with
    | some r => some (r, [])
    | none => none
  | .callv x args => match ev x with
    | .func f caps => match callQ call η f (mapE ev args ++ caps) with
      | some r => some (r, [])
      | none => none
    | _ => none
  | .nq _ _ => none
def layE (T : EH) : Ef → Option EH
  | [] => some T
  | (k, x) :: r => match T.put k x with
    | some T' => layE T' r
    | none => none
def logE (dep : List (Nat × Nat)) (i : Nat) (F W : List Nat) (L : List En) : Option (List En) := match F, W with
  | [], [] => some L
  | F, W => bif okLog dep ⟨i, F, W⟩ L then some (⟨i, F, W⟩ :: L) else none
def qwalkE (dep : List (Nat × Nat)) : List AO → Nat → Nat → List En → BT AV → EH → Option (BT AV × EH)
  | [], _, _, _, F, T => some (F, T)
  | q :: r, i, p, L, F, T => match (match q.guard with
      | none => some true
      | some (s, want) => match AX.eF F (.t s) with
        | .bool b => some (b == want)
        | .tuple [] => some false
        | _ => none) with
    | some true => match q.op.qe call (AX.eF F) T.get p with
      | some (v, b) => match logE dep i (q.op.foot (AX.eF F)) (keys b) L with
        | some L' => match putE F q.dst v with
          | some F' => match layE T b with
            | some T' => forceN (i + 1) fun i' => forceN (p + 1) fun p' => qwalkE dep r i' p' L' F' T'
            | none => none
          | none => none
        | none => none
      | none => none
    | some false => match putE F q.dst (.tuple []) with
      | some F' => forceN (i + 1) fun i' => forceN (p + 1) fun p' => qwalkE dep r i' p' L F' T
      | none => none
    | none => none

def loopE (step : BT AV → EH → Option (XA × BT AV × EH)) : Nat → BT AV → EH → Option (XA × BT AV × EH)
  | 0, _, _ => none
  | k + 1, F, T => match step F T with
    | some (.normal, F', T') => loopE step k F' T'
    | r => r
def selO {β : Type} (F : BT AV) : List Nat → (Fr → Option β) → Option β
  | [], K => K []
  | t :: r, K => match F.get t with
    | some v => selO F r fun l => K ((t, v) :: l)
    | none => selO F r fun l => K ((t, .any) :: l)
/-- Behind a range over a function. -/
def rangeO (k : Nat) (F : BT AV) (T : EH) : Option (XA × BT AV × EH) := match T.get k with
  | .loop .ready _ _ => match T.put k .dead with
    | some T' => some (.normal, F, T')
    | none => none
  | .loop (.done .ret) _ _ => match T.put k .dead with
    | some T' => some (.ret, F, T')
    | none => none
  | .loop (.done (.exit i)) _ _ => match T.put k .dead with
    | some T' => some (.exit i, F, T')
    | none => none
  | _ => none
def AC.e (lf : Nat) : AC → BT AV → EH → Option (XA × BT AV × EH)
  | .skip, F, T => some (.normal, F, T)
  | .ret, F, T => some (.ret, F, T)
  | .exit id, F, T => some (.exit id, F, T)
  | .reg ops, F, T => match opsE call yl ops F T with
    | some (F', T') => some (.normal, F', T')
    | none => none
  | .draw m dep ops, F, T => forceN (T.nx + m) fun n => match qwalkE call dep (ops.take m) 0 T.nx [] F ⟨n, T.bs⟩ with
    | some (F', T') => match opsE call yl (ops.drop m) F' T' with
      | some (F'', T'') => some (.normal, F'', T'')
      | none => none
    | none => none
  | .seq a b, F, T => match a.e lf F T with
    | some (.normal, F', T') => b.e lf F' T'
    | r => r
  | .cond c a b, F, T => match c.eF F with
    | .bool t => match t with
      | true => a.e lf F T
      | false => b.e lf F T
    | _ => none
  | .block id a, F, T => match a.e lf F T with
    | some (.exit j, F', T') => bif Nat.beq j id then some (.normal, F', T') else some (.exit j, F', T')
    | r => r
  | .loop a, F, T => loopE (fun F T => a.e lf F T) lf F T
  | .ghost a, F, T => a.e lf F T
  | .scope a, F, T => a.e lf F T
  | .rangeF id g sl _ _ _, F, T => match g.eF F with
    | .func f caps => selO F sl fun fr0 => match T.push (.loop .ready id fr0) with
      | some T1 => match call f (.yld T.nx :: caps) T1 with
        | some (_, T2) => rangeO T.nx F T2
        | none => none
      | none => none
    | _ => none
def resE (F : BT AV) (T : EH) : List AR → Option (List AV)
  | [] => some []
  | .tmp t :: r => match resE F T r with
    | some vs => some (AX.eF F (.t t) :: vs)
    | none => none
  | .cell t agg n :: r => match AX.eF F (.t t) with
    | .ptr k off => match T.get k with
      | .cells cs => match loadE agg n (cs.drop off) with
        | some v => match resE F T r with
          | some vs => some (v :: vs)
          | none => none
        | none => none
      | _ => none
    | _ => none
def frameE : Nat → List AV → Option (BT AV)
  | _, [] => some .nil
  | i, v :: r => match frameE (i + 1) r with
    | some F => putE F (some i) v
    | none => none
end

/-- A function's text, by number. -/
structure FE where
  f : FuncId
  N : Nat
  ac : AC
  rs : List AR
def findE : List FE → FuncId → Option FE
  | [], _ => none
  | e :: r, f => bif Nat.beq e.f f then some e else findE r f
/-- A range over a function, by number. -/
structure RE where
  id : Nat
  ps : List Nat
  A : AC
  B : AC
def findR : List RE → Nat → Option RE
  | [], _ => none
  | e :: r, f => bif Nat.beq e.id f then some e else findR r f
def frBT : Fr → Option (BT AV)
  | [] => some .nil
  | (t, v) :: r => match frBT r with
    | some F => putE F (some t) v
    | none => none
def putLE (F : BT AV) : List Nat → List AV → Option (BT AV)
  | t :: ps, v :: vs => match putE F (some t) v with
    | some F' => putLE F' ps vs
    | none => none
  | [], [] => some F
  | _, _ => none
/-- The end of a round. -/
def endO (k : Nat) (x : XA) (T : EH) : Option (AV × EH) := match T.get k with
  | .loop .busy id fr2 => match x with
    | .normal => match T.put k (.loop .ready id fr2) with
      | some T' => some (.bool true, T')
      | none => none
    | .ret => match T.put k (.loop (.done .ret) id fr2) with
      | some T' => some (.bool false, T')
      | none => none
    | .exit i => match T.put k (.loop (.done (.exit i)) id fr2) with
      | some T' => some (.bool false, T')
      | none => none
  | _ => none
/-- Functions (.inl) and rounds (.inr). -/
def runB (ov : CallE) (tbl : List FE) (rt : List RE) (lf : Nat) : Nat → Nat ⊕ Nat → List AV → EH → Option (AV × EH)
  | 0, _, _, _ => none
  | n + 1, .inl f, vs, T => match findE tbl f with
    | none => ov f vs T
    | some e => bif Nat.ble vs.length e.N then (match frameE 0 vs with
      | some F => match e.ac.e (fun f => runB ov tbl rt lf n (.inl f)) (fun k => runB ov tbl rt lf n (.inr k)) lf F T with
        | some (.exit _, _, _) => none
        | some (_, F', T') => match resE F' T' e.rs with
          | some rs => some (one rs, T')
          | none => none
        | none => none
      | none => none) else none
  | n + 1, .inr k, vs, T => match T.get k with
    | .loop .ready id fr => match findR rt id with
      | some e => match frBT fr with
        | some F0 => match putLE F0 e.ps vs with
          | some F1 => match e.A.e (fun f => runB ov tbl rt lf n (.inl f)) (fun k => runB ov tbl rt lf n (.inr k)) lf F1 T with
            | some (.normal, F2, T2) => match T2.get k with
              | .loop .ready id2 fr2 => match T2.put k (.loop .busy id2 fr2) with
                | some T3 => match e.B.e (fun f => runB ov tbl rt lf n (.inl f)) (fun k => runB ov tbl rt lf n (.inr k)) lf F2 T3 with
                  | some (x, _, T4) => endO k x T4
                  | none => none
                | none => none
              | _ => none
            | _ => none
          | none => none
        | none => none
      | none => none
    | _ => none
def runO (ov : CallE) (tbl : List FE) (rt : List RE) (lf n : Nat) : CallE := fun f => runB ov tbl rt lf n (.inl f)
def runE (tbl : List FE) (lf n : Nat) : CallE := runO (fun _ _ _ => none) tbl [] lf n

/-! #### Soundness -/
section
variable {P : Program} {call : CallE} {yl : YieldE}
theorem AOp.e_run (hc : CallOK P call) (hy : YieldOK P yl) {F : BT AV} {fr : Fr} {T T' : EH} {H : Heap} {o : AOp} {v : AV} (h : o.e call yl F T = some (v, T')) (RF : RepF F fr) (R : RepH T H) : ∃ H', RepH T' H' ∧ ∀ K : AV → Heap → Prop, K v H' → o.run P fr H K := by
  cases o <;> simp only [AOp.e, AOp.run, newK0_eq, RF.ev, fvs_eq, mapE_eq] at h ⊢
  case m o => exact MOp.e_run h R
  case p o =>
    split at h
    · rename_i u hu; cases h; exact ⟨H, R, fun K hk => o.e_run hu hk⟩
    · cases h
  case v o =>
    split at h
    · rename_i u hu; cases h; exact ⟨H, R, fun K hk => o.e_run hu hk⟩
    · cases h
  case h o => exact HOp.e_run h R
  case d o =>
    split at h
    · rename_i u hu; cases h; exact ⟨H, R, fun K hk => by rw [R.get]; exact o.e_run hu hk⟩
    · cases h
  case l o =>
    split at h
    · rename_i u ab kl hu
      rw [forceN_eq] at h
      have R1 : RepH ⟨T.nx + 1, T.bs⟩ ⟨H.nx + 1, H.bs⟩ := ⟨by simp [R.nx], R.get, R.noit⟩
      split at h
      · split at h
        · rename_i T2 hp; cases h
          refine ⟨_, R1.put hp, fun K hk => ?_⟩
          rw [R.get, R.nx]
          refine LOp.e_run hu ?_
          rw [← R.nx] at hk ⊢; exact hk
        · cases h
      · split at h
        · rename_i T1 h1
          split at h
          · rename_i T2 h2; cases h
            refine ⟨_, (R1.put h1).put h2, fun K hk => ?_⟩
            rw [R.get, R.nx]
            refine LOp.e_run hu ?_
            rw [← R.nx] at hk ⊢; exact hk
          · cases h
        · cases h
    · cases h
  case call f args =>
    obtain ⟨H', R', hK⟩ := hc.ok _ _ _ _ _ h H R
    exact ⟨H', R', hK⟩
  case callv x args =>
    rw [← RF.ev] at h
    rw [← RF.ev]
    generalize AX.ev fr x = vx at h ⊢
    split at h
    · obtain ⟨H', R', hK⟩ := hc.ok _ _ _ _ _ h H R
      exact ⟨H', R', hK⟩
    · obtain ⟨H', R', hK⟩ := hy.ok _ _ _ _ _ h H R
      exact ⟨H', R', hK⟩
    · cases h
  case nq neg x =>
    generalize AX.eF F x = vx at h ⊢
    cases vx <;> simp only [Option.some.injEq, Prod.mk.injEq, reduceCtorEq] at h ⊢
    case nils => obtain ⟨rfl, rfl⟩ := h; exact ⟨H, R, fun K hk => hk⟩
    case slice => obtain ⟨rfl, rfl⟩ := h; exact ⟨H, R, fun K hk => hk⟩
    case dslice cs n cap =>
      cases n with
      | zero => cases h
      | succ n => cases h; exact ⟨H, R, fun K hk => Unk.pos (Nat.succ_pos n) hk⟩
theorem AX.eF_look {F : BT AV} {fr : Fr} (RF : RepF F fr) (s : Nat) : AX.eF F (.t s) = look fr s := by
  have := congrFun RF.ev (.t s); exact this.symm
theorem AO.e_run (hc : CallOK P call) (hy : YieldOK P yl) {F F' : BT AV} {fr : Fr} {T T' : EH} {H : Heap} {o : AO} (h : o.e call yl F T = some (F', T')) (RF : RepF F fr) (R : RepH T H) :
    ∃ fr' H', RepF F' fr' ∧ RepH T' H' ∧ ∀ K : Fr → Heap → Prop, K fr' H' → o.run P fr H K := by
  unfold AO.e at h; unfold AO.run
  simp only [putK_eq]
  split at h
  · rename_i hg
    split at h
    · rename_i v T1 hv
      split at h
      · rename_i F1 hF; cases h
        obtain ⟨H', R', hK⟩ := AOp.e_run hc hy hv RF R
        exact ⟨_, H', RF.put hF, R', fun K hk => by simp only [hg]; exact hK _ hk⟩
      · cases h
    · cases h
  · rename_i s want hg
    rw [AX.eF_look RF] at h
    split at h
    · rename_i b hb
      cases hw : b == want <;> simp only [hw, cond_true, cond_false] at h
      · split at h
        · rename_i F1 hF; cases h
          refine ⟨_, H, (RF.know hb).put hF, R, fun K hk => ?_⟩
          simp only [hg, hb]
          cases b <;> cases want <;> first | (cases hw; done) | exact Branch.ofT rfl hk | exact Branch.ofF rfl hk
        · cases h
      · split at h
        · rename_i v T1 hv
          split at h
          · rename_i F1 hF; cases h
            obtain ⟨H', R', hK⟩ := AOp.e_run hc hy hv (RF.know hb) R
            refine ⟨_, H', (RF.know hb).put hF, R', fun K hk => ?_⟩
            simp only [hg, hb]
            cases b <;> cases want <;> first | (cases hw; done) | exact Branch.ofT rfl (hK _ hk) | exact Branch.ofF rfl (hK _ hk)
          · cases h
        · cases h
    · rename_i hb
      split at h
      · rename_i F1 hF; cases h
        exact ⟨_, H, RF.put hF, R, fun K hk => by simp only [hg, hb]; exact hk⟩
      · cases h
    · cases h
theorem opsE_run (hc : CallOK P call) (hy : YieldOK P yl) : ∀ {l : List AO} {F F' : BT AV} {fr : Fr} {T T' : EH} {H : Heap}, opsE call yl l F T = some (F', T') → RepF F fr → RepH T H →
    ∃ fr' H', RepF F' fr' ∧ RepH T' H' ∧ ∀ K : Fr → Heap → Prop, K fr' H' → runOps P K l fr H
  | [], F, F', fr, T, T', H, h, RF, R => by
    simp only [opsE] at h; cases h; exact ⟨fr, H, RF, R, fun K hk => hk⟩
  | o :: r, F, F', fr, T, T', H, h, RF, R => by
    simp only [opsE] at h
    split at h
    · rename_i F1 T1 h1
      obtain ⟨fr1, H1, RF1, R1, hK1⟩ := AO.e_run hc hy h1 RF R
      obtain ⟨fr2, H2, RF2, R2, hK2⟩ := opsE_run hc hy h RF1 R1
      exact ⟨fr2, H2, RF2, R2, fun K hk => hK1 _ (hK2 K hk)⟩
    · cases h
theorem HOp.qe_run {ev : AX → AV} {η : Nat → AB} {p : Nat} {o : HOp} {v : AV} {b : Ef} (h : o.qe ev η p = some (v, b)) {K : AV → Ef → Prop} (hk : K v b) : o.q ev η p K := by
  cases o <;> simp only [HOp.qe, HOp.q] at h ⊢
  case load agg n x =>
    generalize ev x = vx at h ⊢
    split at h
    · split at h
      · rename_i u hu; cases h; exact loadE_run hu hk
      · cases h
    · split at h
      · rename_i cs hcs
        split at h
        · rename_i u hu; cases h
          simp only [hcs]; exact loadE_run hu hk
        · cases h
      · cases h
    · cases h
  case alloc zero => cases h; exact hk
  case box x =>
    split at h
    · rename_i l hl; cases h; simp only [hl]; exact hk
    · cases h
  case store n q x =>
    generalize ev q = vp at h ⊢
    split at h
    · split at h
      · rename_i cs hcs
        split at h
        · rename_i l hl
          cases hb : Nat.beq l.length n <;> simp only [hb, cond_true, cond_false] at h
          · cases h
          · split at h
            · rename_i cs' hp; cases h
              simp only [hcs, hl, hb, cond_true]; exact lputE_run hp hk
            · cases h
        · cases h
      · cases h
    · cases h
theorem MOp.qe_run {ev : AX → AV} {η : Nat → AB} {o : MOp} {v : AV} {b : Ef} (h : o.qe ev η = some (v, b)) {K : AV → Ef → Prop} (hk : K v b) : o.q ev η K := by
  cases o <;> simp only [MOp.qe, MOp.q] at h ⊢
  case mk => cases h
  case get ok kk zero m k =>
    split at h
    · rename_i p es hm
      cases hb : keyOk kk (ev k) <;> simp only [hb, cond_true, cond_false] at h
      · cases h
      · split at h
        · rename_i r hr; cases h
          exact mapE0_run hm (by simp only [cond_true]; exact ⟨r, hr, hk⟩)
        · cases h
    · cases h
  case set kk m k x =>
    split at h
    · rename_i p es hm
      cases hb : (keyOk kk (ev k) && noLoc (ev x)) <;> simp only [hb, cond_true, cond_false] at h
      · cases h
      · split at h
        · rename_i es' hr; cases h
          exact mapE0_run hm (by simp only [cond_true]; exact ⟨es', hr, hk⟩)
        · cases h
    · cases h
  case del kk m k =>
    split at h
    · rename_i p es hm
      cases hb : keyOk kk (ev k) <;> simp only [hb, cond_true, cond_false] at h
      · cases h
      · split at h
        · rename_i es' hr; cases h
          exact mapE0_run hm (by simp only [cond_true]; exact ⟨es', hr, hk⟩)
        · cases h
    · cases h
  case range m => cases h
  case next m => cases h
  case entry m => cases h
  case delw _ _ _ _ => cases h
  case copyS _ _ => cases h
  case copy e d s =>
    generalize ev d = vd at h ⊢
    split at h
    · rename_i k off n cap e'
      split at h
      · rename_i cs hcs
        split at h
        · rename_i ds m hs
          split at h
          · rename_i he
            cases hb : Nat.ble m n <;> simp only [hb, cond_true, cond_false] at h
            · split at h
              · rename_i cs' hl; cases h
                simp only [hcs]
                exact srcE_run hs ⟨he, .ofF (decide_eq_false (fun e => by have := Nat.ble_eq_true_of_le e; rw [this] at hb; cases hb)) (lputE_run hl hk)⟩
              · cases h
            · split at h
              · rename_i cs' hl; cases h
                simp only [hcs]
                exact srcE_run hs ⟨he, .ofT (decide_eq_true (Nat.le_of_ble_eq_true hb)) (lputE_run hl hk)⟩
              · cases h
          · cases h
        · cases h
      · cases h
    · cases h
  case len m =>
    split at h
    · rename_i p es hm; cases h
      exact mapE0_run hm hk
    · cases h
theorem AOp.qe_run (hc : CallOK P call) {ev : AX → AV} {η : Nat → AB} {p : Nat} {o : AOp} {v : AV} {b : Ef} (h : o.qe call ev η p = some (v, b)) {K : AV → Ef → Prop} (hk : K v b) : o.q P ev η p K := by
  cases o <;> simp only [AOp.qe, AOp.q, fvs_eq, mapE_eq] at h ⊢
  case m o => exact MOp.qe_run h hk
  case nq neg x => cases h
  case p o =>
    split at h
    · rename_i u hu; cases h; exact o.e_run hu hk
    · cases h
  case v o =>
    split at h
    · rename_i u hu; cases h; exact o.e_run hu hk
    · cases h
  case h o => exact HOp.qe_run h hk
  case d o =>
    split at h
    · rename_i u hu; cases h; exact o.e_run hu hk
    · cases h
  case l o =>
    split at h
    · rename_i u cs kl hu; cases h; exact LOp.e_run hu hk
    · cases h
  case call f args =>
    split at h
    · rename_i r hr; cases h; exact callQ_run hc hr hk
    · cases h
  case callv x args =>
    generalize ev x = vx at h ⊢
    split at h
    · split at h
      · rename_i r hr; cases h; exact callQ_run hc hr hk
      · cases h
    · cases h
theorem layE_run : ∀ {b : Ef} {T T' : EH} {H : Heap}, layE T b = some T' → RepH T H → RepH T' (layH H b)
  | [], T, T', H, h, R => by simp only [layE] at h; cases h; exact R
  | (k, x) :: r, T, T', H, h, R => by
    simp only [layE] at h
    split at h
    · rename_i T1 h1; exact layE_run (H := H.set k x) h (R.put h1)
    · cases h
theorem logE_run {dep : List (Nat × Nat)} {i : Nat} {F W : List Nat} {L L' : List En} (h : logE dep i F W L = some L') {K : List En → Prop} (hk : K L') : logK dep i F W L K := by
  unfold logE at h; unfold logK
  split at h
  · cases h; exact hk
  · split
    · rename_i hn; exact absurd rfl (hn rfl)
    · cases hb : okLog dep ⟨i, F, W⟩ L <;> simp only [hb, cond_true, cond_false] at h ⊢
      · cases h
      · cases h; exact hk
theorem qwalkE_run (hc : CallOK P call) {dep : List (Nat × Nat)} : ∀ {l : List AO} {i p : Nat} {L : List En} {F F' : BT AV} {fr : Fr} {T T' : EH} {H : Heap}, qwalkE call dep l i p L F T = some (F', T') → RepF F fr → RepH T H →
    ∃ fr' H', RepF F' fr' ∧ RepH T' H' ∧ ∀ K : Fr → Heap → Prop, K fr' H' → qwalk P dep K l i p L fr H
  | [], i, p, L, F, F', fr, T, T', H, h, RF, R => by
    simp only [qwalkE] at h; cases h; exact ⟨fr, H, RF, R, fun K hk => hk⟩
  | q :: r, i, p, L, F, F', fr, T, T', H, h, RF, R => by
    simp only [qwalkE, AX.eF_look RF] at h
    -- an operation that is done
    have go : ∀ fr0, RepF F fr0 → (match q.op.qe call (AX.eF F) T.get p with
      | some (v, b) => match logE dep i (q.op.foot (AX.eF F)) (keys b) L with
        | some L' => match putE F q.dst v with
          | some F' => match layE T b with
            | some T' => forceN (i + 1) fun i' => forceN (p + 1) fun p' => qwalkE call dep r i' p' L' F' T'
            | none => none
          | none => none
        | none => none
      | none => none) = some (F', T') → ∃ fr' H', RepF F' fr' ∧ RepH T' H' ∧ ∀ K : Fr → Heap → Prop, K fr' H' →
        q.op.q P (AX.ev fr0) H.get p fun v b => logK dep i (q.op.foot (AX.ev fr0)) (keys b) L fun L => qwalk P dep K r (i + 1) (p + 1) L (put fr0 q.dst v) (layH H b) := by
      intro fr0 RF0 h
      split at h
      · rename_i v b hv
        split at h
        · rename_i L1 hL
          split at h
          · rename_i F1 hF
            split at h
            · rename_i T1 hT
              simp only [forceN_eq] at h
              obtain ⟨fr2, H2, RF2, R2, hK⟩ := qwalkE_run hc h (RF0.put hF) (layE_run hT R)
              refine ⟨fr2, H2, RF2, R2, fun K hk => ?_⟩
              rw [RF0.ev, R.get]
              exact AOp.qe_run hc hv (logE_run hL (hK K hk))
            · cases h
          · cases h
        · cases h
      · cases h
    have skip : ∀ fr0, RepF F fr0 → (match putE F q.dst (.tuple []) with
      | some F' => forceN (i + 1) fun i' => forceN (p + 1) fun p' => qwalkE call dep r i' p' L F' T
      | none => none) = some (F', T') → ∃ fr' H', RepF F' fr' ∧ RepH T' H' ∧ ∀ K : Fr → Heap → Prop, K fr' H' →
        qwalk P dep K r (i + 1) (p + 1) L (put fr0 q.dst (.tuple [])) H := by
      intro fr0 RF0 h
      split at h
      · rename_i F1 hF
        simp only [forceN_eq] at h
        exact qwalkE_run hc h (RF0.put hF) R
      · cases h
    simp only [qwalk_cons, qstep, layK_eq, putK_eq]
    cases hg : q.guard with
    | none =>
      simp only [hg] at h
      obtain ⟨fr', H', a, b, hK⟩ := go fr RF h
      exact ⟨fr', H', a, b, hK⟩
    | some sw =>
      obtain ⟨s, want⟩ := sw
      simp only [hg] at h
      cases hb : look fr s <;> simp only [hb] at h ⊢ <;> try (cases h; done)
      case bool b =>
        cases b <;> cases want <;> simp only [show (false == false) = true from rfl, show (true == true) = true from rfl, show (false == true) = false from rfl, show (true == false) = false from rfl] at h
        · obtain ⟨fr', H', a, b, hK⟩ := go _ (RF.know hb) h
          exact ⟨fr', H', a, b, fun K hk => Branch.ofF rfl (hK K hk)⟩
        · obtain ⟨fr', H', a, b, hK⟩ := skip _ (RF.know hb) h
          exact ⟨fr', H', a, b, fun K hk => Branch.ofF rfl (hK K hk)⟩
        · obtain ⟨fr', H', a, b, hK⟩ := skip _ (RF.know hb) h
          exact ⟨fr', H', a, b, fun K hk => Branch.ofT rfl (hK K hk)⟩
        · obtain ⟨fr', H', a, b, hK⟩ := go _ (RF.know hb) h
          exact ⟨fr', H', a, b, fun K hk => Branch.ofT rfl (hK K hk)⟩
      case tuple cs =>
        cases cs with
        | nil =>
          simp only at h ⊢
          obtain ⟨fr', H', a, b, hK⟩ := skip _ RF h
          exact ⟨fr', H', a, b, hK⟩
        | cons c cs => simp only at h; cases h
theorem loopE_run {n : Nat} {body : (XA → Fr → Heap → Prop) → Fr → Heap → Prop} {step : BT AV → EH → Option (XA × BT AV × EH)}
    (hs : ∀ F T x F' T', step F T = some (x, F', T') → ∀ fr H, RepF F fr → RepH T H → ∃ fr' H', RepF F' fr' ∧ RepH T' H' ∧ ∀ Q : XA → Fr → Heap → Prop, Q x fr' H' → body Q fr H) :
    ∀ (k : Nat) {F F' : BT AV} {fr : Fr} {T T' : EH} {H : Heap} {x : XA}, loopE step k F T = some (x, F', T') → RepF F fr → RepH T H →
      ∃ j fr' H', k = j + 1 ∧ RepF F' fr' ∧ RepH T' H' ∧ ∀ Q : XA → Fr → Heap → Prop, Q x fr' H' → body (lpost n Q j (LoopI n body Q j)) fr H
  | 0, _, _, _, _, _, _, _, h, _, _ => by simp [loopE] at h
  | k + 1, F, F', fr, T, T', H, x, h, RF, R => by
    simp only [loopE] at h
    split at h
    · rename_i F1 T1 h1
      obtain ⟨fr1, H1, RF1, R1, hK1⟩ := hs _ _ _ _ _ h1 fr H RF R
      obtain ⟨j, fr2, H2, rfl, RF2, R2, hK2⟩ := loopE_run (n := n) hs k h RF1 R1
      refine ⟨j + 1, fr2, H2, rfl, RF2, R2, fun Q hq => hK1 _ ?_⟩
      exact ⟨j, Nat.lt_succ_self _, To.refl (.inl ⟨rfl, hK2 Q hq⟩)⟩
    · rename_i hne
      obtain ⟨fr1, H1, RF1, R1, hK1⟩ := hs _ _ _ _ _ h fr H RF R
      refine ⟨k, fr1, H1, rfl, RF1, R1, fun Q hq => hK1 _ ?_⟩
      cases x with
      | normal => exact absurd h (hne _ _)
      | exit id => exact hq
      | ret => exact hq
theorem selO_eq {β : Type} {F : BT AV} {fr : Fr} (RF : RepF F fr) : ∀ (l : List Nat) (K : Fr → Option β), selO F l K = K (selF fr l)
  | [], _ => rfl
  | t :: r, K => by
    have hg := RF.get t
    simp only [selO, selF]
    cases h : F.get t with
    | none => rw [h] at hg; simp only [selO_eq RF r, hg, Option.getD_none]
    | some v => rw [h] at hg; simp only [selO_eq RF r, hg, Option.getD_some]
def AC.rfAll (P : Program) : AC → Prop
  | .rangeF id _ _ ps A B => RfAt P id ps A B ∧ A.noRF = true ∧ B.noRF = true
  | .seq a b => a.rfAll P ∧ b.rfAll P
  | .cond _ a b => a.rfAll P ∧ b.rfAll P
  | .block _ a => a.rfAll P
  | .loop a => a.rfAll P
  | .ghost a => a.rfAll P
  | .scope a => a.rfAll P
  | _ => True
theorem AC.rfAll_of : ∀ {ac : AC}, ac.noRF = true → ac.rfAll P
  | .rangeF _ _ _ _ _ _, h => by simp [AC.noRF] at h
  | .seq a b, h => by simp only [AC.noRF, Bool.and_eq_true] at h; exact ⟨AC.rfAll_of h.1, AC.rfAll_of h.2⟩
  | .cond _ a b, h => by simp only [AC.noRF, Bool.and_eq_true] at h; exact ⟨AC.rfAll_of h.1, AC.rfAll_of h.2⟩
  | .block _ a, h => AC.rfAll_of (ac := a) (by simpa [AC.noRF] using h)
  | .loop a, h => AC.rfAll_of (ac := a) (by simpa [AC.noRF] using h)
  | .ghost a, h => AC.rfAll_of (ac := a) (by simpa [AC.noRF] using h)
  | .scope a, h => AC.rfAll_of (ac := a) (by simpa [AC.noRF] using h)
  | .skip, _ => trivial
  | .ret, _ => trivial
  | .exit _, _ => trivial
  | .reg _, _ => trivial
  | .draw _ _ _, _ => trivial
theorem AC.e_run (hc : CallOK P call) (hy : YieldOK P yl) {n lf : Nat} : ∀ (ac : AC), ac.rfAll P → ∀ {F F' : BT AV} {fr : Fr} {T T' : EH} {H : Heap} {x : XA}, ac.e call yl lf F T = some (x, F', T') → RepF F fr → RepH T H →
    ∃ fr' H', RepF F' fr' ∧ RepH T' H' ∧ ∀ Q : XA → Fr → Heap → Prop, Q x fr' H' → ac.run P n Q fr H
  | .skip, _, _, _, fr, _, _, H, _, h, RF, R => by simp only [AC.e] at h; cases h; exact ⟨fr, H, RF, R, fun Q hq => hq⟩
  | .ret, _, _, _, fr, _, _, H, _, h, RF, R => by simp only [AC.e] at h; cases h; exact ⟨fr, H, RF, R, fun Q hq => hq⟩
  | .exit id, _, _, _, fr, _, _, H, _, h, RF, R => by simp only [AC.e] at h; cases h; exact ⟨fr, H, RF, R, fun Q hq => hq⟩
  | .reg ops, _, _, _, fr, _, _, H, _, h, RF, R => by
    simp only [AC.e] at h
    split at h
    · rename_i F1 T1 h1; cases h
      obtain ⟨fr1, H1, RF1, R1, hK⟩ := opsE_run hc hy h1 RF R
      exact ⟨fr1, H1, RF1, R1, fun Q hq => hK (Q .normal) hq⟩
    · cases h
  | .draw m dep ops, _, _, _, fr, T, _, H, _, h, RF, R => by
    simp only [AC.e, forceN_eq] at h
    split at h
    · rename_i F1 T1 h1
      split at h
      · rename_i F2 T2 h2; cases h
        obtain ⟨fr1, H1, RF1, R1, hK1⟩ := qwalkE_run hc h1 RF (H := ⟨H.nx + m, H.bs⟩) ⟨by simp [R.nx], R.get, R.noit⟩
        obtain ⟨fr2, H2, RF2, R2, hK2⟩ := opsE_run hc hy h2 RF1 R1
        refine ⟨fr2, H2, RF2, R2, fun Q hq => ?_⟩
        have := hK1 (fun fr H => runOps P (Q .normal) (ops.drop m) fr H) (hK2 _ hq)
        rw [← R.nx] at this
        have hsf : setFree (ops.take m) H.get H.nx = true := by
          rw [setFree, noIts_of (fun j => isIt_of (R.noit j))]; simp
        show (bif setFree (ops.take m) H.get H.nx then _ else False)
        rw [hsf]
        exact this
      · cases h
    · cases h
  | .seq a b, ⟨ra, rb⟩, _, _, fr, _, _, H, x, h, RF, R => by
    simp only [AC.e] at h
    split at h
    · rename_i F1 T1 h1
      obtain ⟨fr1, H1, RF1, R1, hK1⟩ := AC.e_run hc hy a ra h1 RF R
      obtain ⟨fr2, H2, RF2, R2, hK2⟩ := AC.e_run hc hy b rb h RF1 R1
      exact ⟨fr2, H2, RF2, R2, fun Q hq => hK1 _ (hK2 Q hq)⟩
    · rename_i hne
      obtain ⟨fr1, H1, RF1, R1, hK1⟩ := AC.e_run hc hy a ra h RF R
      refine ⟨fr1, H1, RF1, R1, fun Q hq => hK1 _ ?_⟩
      cases x with
      | normal => exact absurd h (hne _ _)
      | exit id => exact hq
      | ret => exact hq
  | .cond c a b, ⟨ra, rb⟩, F, _, fr, _, _, H, _, h, RF, R => by
    simp only [AC.e] at h
    simp only [AC.run_cond, RF.ev]
    generalize AX.eF F c = vc at h ⊢
    cases vc <;> simp only at h ⊢ <;> try (cases h; done)
    rename_i t
    cases t <;> simp only at h
    · obtain ⟨fr1, H1, RF1, R1, hK1⟩ := AC.e_run hc hy b rb h RF R
      exact ⟨fr1, H1, RF1, R1, fun Q hq => Branch.ofF rfl (hK1 Q hq)⟩
    · obtain ⟨fr1, H1, RF1, R1, hK1⟩ := AC.e_run hc hy a ra h RF R
      exact ⟨fr1, H1, RF1, R1, fun Q hq => Branch.ofT rfl (hK1 Q hq)⟩
  | .block id a, ra, _, _, fr, _, _, H, x, h, RF, R => by
    simp only [AC.e] at h
    split at h
    · rename_i j F1 T1 h1
      obtain ⟨fr1, H1, RF1, R1, hK1⟩ := AC.e_run hc hy a ra h1 RF R
      cases hb : Nat.beq j id <;> simp only [hb, cond_true, cond_false] at h <;> cases h
      · exact ⟨fr1, H1, RF1, R1, fun Q hq => hK1 (blockK id Q) (by simp only [blockK, hb, cond_false]; exact hq)⟩
      · exact ⟨fr1, H1, RF1, R1, fun Q hq => hK1 (blockK id Q) (by simp only [blockK, hb, cond_true]; exact hq)⟩
    · rename_i hne
      obtain ⟨fr1, H1, RF1, R1, hK1⟩ := AC.e_run hc hy a ra h RF R
      refine ⟨fr1, H1, RF1, R1, fun Q hq => hK1 _ ?_⟩
      cases x with
      | normal => exact hq
      | exit id => exact absurd h (hne _ _ _)
      | ret => exact hq
  | .loop a, ra, _, _, fr, _, _, H, _, h, RF, R => by
    simp only [AC.e] at h
    obtain ⟨j, fr1, H1, _, RF1, R1, hK⟩ := loopE_run (n := n) (body := a.run P n) (fun F T x F' T' hs fr H RF R => AC.e_run hc hy a ra hs RF R) lf h RF R
    exact ⟨fr1, H1, RF1, R1, fun Q hq => LoopA.unroll n (a.run P n) Q j (hK Q hq)⟩
  | .ghost a, ra, _, _, fr, _, _, H, _, h, RF, R => by
    simp only [AC.e] at h
    obtain ⟨fr1, H1, RF1, R1, hK1⟩ := AC.e_run hc hy a ra h RF R
    exact ⟨fr1, H1, RF1, R1, fun Q hq => To.refl (hK1 Q hq)⟩
  | .scope a, ra, _, _, fr, _, _, H, _, h, RF, R => by
    simp only [AC.e] at h
    obtain ⟨fr1, H1, RF1, R1, hK1⟩ := AC.e_run hc hy a ra h RF R
    exact ⟨fr1, H1, RF1, R1, fun Q hq => hK1 Q hq⟩
  | .rangeF id g sl ps A B, hrf, F, F', fr, T, T', H, x, h, RF, R => by
    simp only [AC.e, ← RF.ev] at h
    show ∃ fr' H', RepF F' fr' ∧ RepH T' H' ∧ ∀ Q : XA → Fr → Heap → Prop, Q x fr' H' → rangeE P id sl ps A B (g.ev fr) Q fr H
    simp only [rangeE_eq]
    generalize AX.ev fr g = vg at h ⊢
    split at h
    · rename_i f caps
      rw [selO_eq RF] at h
      split at h
      · rename_i T1 h1
        split at h
        · rename_i r2 T2 h2
          obtain ⟨H2, R2, hK2⟩ := hc.ok _ _ _ _ _ h2 _ (R.push h1)
          unfold rangeO at h
          have go : ∀ (st : RS) (x0 : XA) id' fr', T2.get T.nx = .loop st id' fr' → (∀ Q : XA → Fr → Heap → Prop, rangeK H.nx Q fr H2 = Q x0 fr (H2.set H.nx .dead)) → (match T2.put T.nx .dead with | some T' => some (x0, F, T') | none => none) = some (x, F', T') →
              ∃ fr' H', RepF F' fr' ∧ RepH T' H' ∧ ∀ Q : XA → Fr → Heap → Prop, Q x fr' H' → Side (RfAt P id ps A B ∧ A.noRF = true ∧ B.noRF = true) (CallA P f (.yld H.nx :: caps) (H.push (.loop .ready id (selF fr sl))) fun _ H' => rangeK H.nx Q fr H') := by
            intro st x0 id' fr' hg hk hp
            split at hp
            · rename_i T3 h3; cases hp
              refine ⟨fr, _, RF, (R2.put h3), fun Q hq => ⟨hrf, ?_⟩⟩
              rw [← R.nx] at hq hK2
              exact hK2 _ (by rw [hk]; exact hq)
            · cases hp
          have hkk : ∀ Q : XA → Fr → Heap → Prop, rangeK H.nx Q fr H2 = match T2.get T.nx with
              | .loop .ready _ _ => Q .normal fr (H2.set H.nx .dead)
              | .loop (.done .ret) _ _ => Q .ret fr (H2.set H.nx .dead)
              | .loop (.done (.exit i)) _ _ => Q (.exit i) fr (H2.set H.nx .dead)
              | _ => False := fun Q => by unfold rangeK; rw [R2.get, R.nx]; rfl
          split at h
          · rename_i id' fr' hg; exact go .ready _ _ _ hg (fun Q => by rw [hkk, hg]) h
          · rename_i id' fr' hg; exact go (.done .ret) _ _ _ hg (fun Q => by rw [hkk, hg]) h
          · rename_i i id' fr' hg; exact go (.done (.exit i)) _ _ _ hg (fun Q => by rw [hkk, hg]) h
          · cases h
        · cases h
      · cases h
    · cases h
theorem resE_run {F : BT AV} {fr : Fr} {T : EH} {H : Heap} (RF : RepF F fr) (R : RepH T H) : ∀ {rs : List AR} {vs : List AV}, resE F T rs = some vs → ∀ {K : List AV → Prop}, K vs → resK fr H rs K
  | [], _, h, K, hk => by simp only [resE] at h; cases h; exact hk
  | .tmp t :: r, _, h, K, hk => by
    simp only [resE, AX.eF_look RF] at h
    split at h
    · rename_i vs hv; cases h
      simp only [resK, fv_eq]
      exact resE_run RF R hv hk
    · cases h
  | .cell t agg n :: r, _, h, K, hk => by
    simp only [resE, AX.eF_look RF] at h
    simp only [resK]
    generalize look fr t = vt at h ⊢
    cases vt <;> simp only at h ⊢ <;> try (cases h; done)
    rw [← R.get] at h
    rename_i k off
    generalize H.get k = b at h ⊢
    cases b <;> simp only at h ⊢ <;> try (cases h; done)
    split at h
    · rename_i v hv
      split at h
      · rename_i vs hvs; cases h
        exact loadE_run hv (resE_run RF R hvs hk)
      · cases h
    · cases h
theorem frameE_rep : ∀ {vs : List AV} {i : Nat} {F : BT AV}, frameE i vs = some F → RepF F (frame0 i vs)
  | [], _, _, h => by simp only [frameE] at h; cases h; exact ⟨fun _ => rfl⟩
  | v :: r, i, F, h => by
    simp only [frameE] at h
    split at h
    · rename_i F1 h1; exact (frameE_rep h1).put h
    · cases h
theorem findE_spec : ∀ {tbl : List FE} {f : FuncId} {e : FE}, findE tbl f = some e → e ∈ tbl ∧ e.f = f
  | [], _, _, h => by simp [findE] at h
  | e :: r, f, e', h => by
    simp only [findE] at h
    cases hb : Nat.beq e.f f <;> simp only [hb, cond_true, cond_false] at h
    · have := findE_spec h; exact ⟨List.mem_cons_of_mem _ this.1, this.2⟩
    · cases h; exact ⟨List.mem_cons_self .., Nat.eq_of_beq_eq_true hb⟩
theorem frBT_rep : ∀ {fr : Fr} {F : BT AV}, frBT fr = some F → RepF F fr
  | [], _, h => by simp only [frBT] at h; cases h; exact ⟨fun _ => rfl⟩
  | (t, v) :: r, F, h => by
    simp only [frBT] at h
    split at h
    · rename_i F1 h1; exact (frBT_rep h1).put h
    · cases h
theorem putLE_rep : ∀ {ps : List Nat} {vs : List AV} {F F' : BT AV} {fr : Fr}, putLE F ps vs = some F' → RepF F fr → RepF F' (putL fr ps vs) ∧ vs.length = ps.length
  | [], [], _, _, _, h, R => by simp only [putLE] at h; cases h; exact ⟨R, rfl⟩
  | t :: ps, v :: vs, F, F', fr, h, R => by
    simp only [putLE] at h
    split at h
    · rename_i F1 h1
      obtain ⟨h2, h3⟩ := putLE_rep h (R.put h1)
      exact ⟨h2, by simp [h3]⟩
    · cases h
  | [], _ :: _, _, _, _, h, _ => by simp [putLE] at h
  | _ :: _, [], _, _, _, h, _ => by simp [putLE] at h
theorem findR_spec : ∀ {rt : List RE} {f : Nat} {e : RE}, findR rt f = some e → e ∈ rt ∧ e.id = f
  | [], _, _, h => by simp [findR] at h
  | e :: r, f, e', h => by
    simp only [findR] at h
    cases hb : Nat.beq e.id f <;> simp only [hb, cond_true, cond_false] at h
    · have := findR_spec h; exact ⟨List.mem_cons_of_mem _ this.1, this.2⟩
    · cases h; exact ⟨List.mem_cons_self .., Nat.eq_of_beq_eq_true hb⟩
theorem endO_run {k n : Nat} {x : XA} {T T' : EH} {r : AV} {H : Heap} {fr : Fr} (h : endO k x T = some (r, T')) (R : RepH T H) : ∃ H', RepH T' H' ∧ ∀ K : AV → Heap → Prop, K r H' → roundK n k K x fr H := by
  unfold endO at h
  split at h
  · rename_i id fr2 hk
    have hk' : H.get k = .loop .busy id fr2 := by rw [R.get]; exact hk
    cases x <;> simp only at h
    all_goals
      split at h
      · rename_i T1 h1; cases h
        refine ⟨_, R.put h1, fun K hq => ?_⟩
        simp only [roundK, hk', setK_eq]
        exact RetA.same hq
      · cases h
  · cases h
/-- **A RUN BY COMPUTING STANDS FOR A CALL, OR A ROUND.** -/
theorem runB_ok {ov : CallE} (hov : CallOK P ov) {tbl : List FE} (htbl : ∀ e ∈ tbl, okF P e.f e.N e.ac e.rs = true) (hrf : ∀ e ∈ tbl, e.ac.rfAll P) {rt : List RE} (hrt : ∀ e ∈ rt, RfAt P e.id e.ps e.A e.B ∧ e.A.noRF = true ∧ e.B.noRF = true) (lf : Nat) : ∀ n, CallOK P (fun f => runB ov tbl rt lf n (.inl f)) ∧ YieldOK P (fun k => runB ov tbl rt lf n (.inr k))
  | 0 => ⟨⟨fun f vs T r T' h => by simp [runB] at h⟩, ⟨fun f vs T r T' h => by simp [runB] at h⟩⟩
  | n + 1 => by
    obtain ⟨hc, hy⟩ := runB_ok hov htbl hrf hrt lf n
    refine ⟨⟨fun f vs T r T' h H R => ?_⟩, ⟨fun k vs T r T' h H R => ?_⟩⟩
    · simp only [runB] at h
      split at h
      · exact hov.ok _ _ _ _ _ h H R
      · rename_i e he
        obtain ⟨hm, rfl⟩ := findE_spec he
        cases hb : Nat.ble vs.length e.N <;> simp only [hb, cond_true, cond_false] at h
        · cases h
        · split at h
          · rename_i F hF
            split at h
            · cases h
            · rename_i x F' T1 hne hx
              split at h
              · rename_i rs hrs; cases h
                obtain ⟨fr1, H1, RF1, R1, hK⟩ := AC.e_run hc hy (n := H.nx) e.ac (hrf e hm) hx (frameE_rep hF) R
                refine ⟨H1, R1, fun K hk => callA_of (htbl e hm) (Nat.le_of_ble_eq_true hb) (hK _ ?_)⟩
                cases x with
                | normal => exact resE_run RF1 R1 hrs (RetA.same hk)
                | exit id => exact (hne _ rfl).elim
                | ret => exact resE_run RF1 R1 hrs (RetA.same hk)
              · cases h
            · cases h
          · cases h
    · simp only [runB] at h
      split at h
      · rename_i id fr hk
        split at h
        · rename_i e he
          obtain ⟨hm, rfl⟩ := findR_spec he
          obtain ⟨hat, hnA, hnB⟩ := hrt e hm
          split at h
          · rename_i F0 h0
            split at h
            · rename_i F1 h1
              obtain ⟨RF1, hlen⟩ := putLE_rep h1 (frBT_rep h0)
              split at h
              · rename_i F2 T2 h2
                obtain ⟨fr2, H2, RF2, R2, hK2⟩ := AC.e_run hc hy (n := H.nx) e.A (AC.rfAll_of hnA) h2 RF1 R
                split at h
                · rename_i id2 fr3 hk2
                  split at h
                  · rename_i T3 h3
                    split at h
                    · rename_i x F4 T4 h4
                      obtain ⟨fr4, H4, RF4, R4, hK4⟩ := AC.e_run hc hy (n := H.nx) e.B (AC.rfAll_of hnB) h4 RF2 (R2.put h3)
                      obtain ⟨H5, R5, hK5⟩ := endO_run (n := H.nx) (fr := fr4) h R4
                      refine ⟨H5, R5, fun K hq => YieldA.of (by rw [R.get]; exact hk) hat hlen (hK2 _ ?_)⟩
                      simp only [assignK, show H2.get k = .loop .ready id2 fr3 by rw [R2.get]; exact hk2, setK_eq]
                      exact hK4 _ (hK5 K hq)
                    · cases h
                  · cases h
                · cases h
              · cases h
            · cases h
          · cases h
        · cases h
      · cases h
theorem runO_ok {ov : CallE} (hov : CallOK P ov) {tbl : List FE} (htbl : ∀ e ∈ tbl, okF P e.f e.N e.ac e.rs = true) (hrf : ∀ e ∈ tbl, e.ac.rfAll P) {rt : List RE} (hrt : ∀ e ∈ rt, RfAt P e.id e.ps e.A e.B ∧ e.A.noRF = true ∧ e.B.noRF = true) (lf n : Nat) : CallOK P (runO ov tbl rt lf n) := (runB_ok hov htbl hrf hrt lf n).1
def rfTbl (P : Program) : List FE → Prop
  | [] => True
  | e :: r => e.ac.rfAll P ∧ rfTbl P r
theorem rfTbl_spec : ∀ {tbl : List FE}, rfTbl P tbl → ∀ e ∈ tbl, e.ac.rfAll P
  | [], _, e, he => by cases he
  | e :: r, h, e', he => by
    rcases List.mem_cons.1 he with rfl | he
    · exact h.1
    · exact rfTbl_spec h.2 e' he
def rtAll (P : Program) : List RE → Prop
  | [] => True
  | e :: r => (RfAt P e.id e.ps e.A e.B ∧ e.A.noRF = true ∧ e.B.noRF = true) ∧ rtAll P r
theorem rtAll_spec : ∀ {rt : List RE}, rtAll P rt → ∀ e ∈ rt, RfAt P e.id e.ps e.A e.B ∧ e.A.noRF = true ∧ e.B.noRF = true
  | [], _, e, he => by cases he
  | e :: r, h, e', he => by
    rcases List.mem_cons.1 he with rfl | he
    · exact h.1
    · exact rtAll_spec h.2 e' he
theorem noRF_spec {tbl : List FE} (h : tbl.all (·.ac.noRF) = true) : ∀ e ∈ tbl, e.ac.rfAll P := fun e he => AC.rfAll_of (by simpa using List.all_eq_true.1 h e he)
theorem runE_ok {tbl : List FE} (htbl : ∀ e ∈ tbl, okF P e.f e.N e.ac e.rs = true) (hnr : tbl.all (·.ac.noRF) = true) (lf : Nat) (n : Nat) : CallOK P (runE tbl lf n) := runO_ok ⟨fun _ _ _ _ _ h => by cases h⟩ htbl (noRF_spec hnr) (fun _ h => by cases h) lf n
def okAll (P : Program) : List FE → Prop
  | [] => True
  | e :: r => okF P e.f e.N e.ac e.rs = true ∧ okAll P r
theorem okAll_spec : ∀ {tbl : List FE}, okAll P tbl → ∀ e ∈ tbl, okF P e.f e.N e.ac e.rs = true
  | [], _, e, he => by cases he
  | e :: r, h, e', he => by
    rcases List.mem_cons.1 he with rfl | he
    · exact h.1
    · exact okAll_spec h.2 e' he
/-- A run's result, of data alone. -/
def resultE (tbl : List FE) (lf n : Nat) (f : FuncId) (vs : List AV) : Option AV := match runE tbl lf n f vs EH.nil with
  | some (r, T) => pubE T.get 8 r
  | none => none
theorem CallA.computed {tbl : List FE} (htbl : okAll P tbl) (lf n : Nat) {f : FuncId} {vs : List AV} {r : AV} (h : resultE tbl lf n f vs = some r) (hnr : tbl.all (·.ac.noRF) = true := by rfl) :
    CallA P f vs Heap.nil fun v H' => v = r ∧ H' = Heap.nil := by
  unfold resultE at h
  split at h
  · rename_i r' T' hrun
    obtain ⟨H', R', hK⟩ := (runE_ok (okAll_spec htbl) hnr lf n).ok _ _ _ _ _ hrun _ RepH.nil
    refine CallA.out 8 (hK (fun v H => v = r' ∧ H = H') ⟨rfl, rfl⟩) ?_
    rintro v H ⟨rfl, rfl⟩
    exact ⟨_, by rw [R'.get]; exact h, rfl, rfl⟩
  · cases h
def resultO (ov : CallE) (tbl : List FE) (lf n : Nat) (f : FuncId) (vs : List AV) : Option AV := match runO ov tbl [] lf n f vs EH.nil with
  | some (r, T) => pubE T.get 8 r
  | none => none
/-- A run by computing, with contracts for some functions. -/
theorem CallA.computedO {ov : CallE} (hov : CallOK P ov) {tbl : List FE} (htbl : okAll P tbl) (lf n : Nat) {f : FuncId} {vs : List AV} {r : AV} (h : resultO ov tbl lf n f vs = some r) (hnr : tbl.all (·.ac.noRF) = true := by rfl) :
    CallA P f vs Heap.nil fun v H' => v = r ∧ H' = Heap.nil := by
  unfold resultO at h
  split at h
  · rename_i r' T' hrun
    obtain ⟨H', R', hK⟩ := (runO_ok hov (okAll_spec htbl) (noRF_spec hnr) (rt := []) (fun _ h => by cases h) lf n).ok _ _ _ _ _ hrun _ RepH.nil
    refine CallA.out 8 (hK (fun v H => v = r' ∧ H = H') ⟨rfl, rfl⟩) ?_
    rintro v H ⟨rfl, rfl⟩
    exact ⟨_, by rw [R'.get]; exact h, rfl, rfl⟩
  · cases h
def resultR (ov : CallE) (tbl : List FE) (rt : List RE) (lf n : Nat) (f : FuncId) (vs : List AV) : Option AV := match runO ov tbl rt lf n f vs EH.nil with
  | some (r, T) => pubE T.get 8 r
  | none => none
/-- A run by computing, with contracts for some functions, and with ranges over functions. -/
theorem CallA.computedR {ov : CallE} (hov : CallOK P ov) {tbl : List FE} (htbl : okAll P tbl) (hrf : rfTbl P tbl) {rt : List RE} (hrt : rtAll P rt) (lf n : Nat) {f : FuncId} {vs : List AV} {r : AV} (h : resultR ov tbl rt lf n f vs = some r) :
    CallA P f vs Heap.nil fun v H' => v = r ∧ H' = Heap.nil := by
  unfold resultR at h
  split at h
  · rename_i r' T' hrun
    obtain ⟨H', R', hK⟩ := (runO_ok hov (okAll_spec htbl) (rfTbl_spec hrf) (rtAll_spec hrt) lf n).ok _ _ _ _ _ hrun _ RepH.nil
    refine CallA.out 8 (hK (fun v H => v = r' ∧ H = H') ⟨rfl, rfl⟩) ?_
    rintro v H ⟨rfl, rfl⟩
    exact ⟨_, by rw [R'.get]; exact h, rfl, rfl⟩
  · cases h
def noOv : CallE := fun _ _ _ => none
theorem noOv_ok : CallOK P noOv := ⟨fun _ _ _ _ _ h => by cases h⟩
end
end Go.Eng

set_option maxRecDepth 100000
namespace Go.Proofs
open Go Go.Eng
/-- simulacrum/simulacrumref21.Few -/
def ac6 : AC := (.seq (.reg [⟨some 4, .p (.mov (.c (.bool false))), none⟩])
  (.seq (.seq (.reg [⟨some 5, .p (.mov (.c (.int .i64 0))), none⟩])
  (.block 0 (.loop (.seq (.seq (.reg [⟨some 8, .p (.mov (.t 5)), none⟩,
    ⟨some 9, .p (.mov (.t 0)), none⟩,
    ⟨some 10, .p (.len false (.t 9)), none⟩,
    ⟨some 11, .p (.bin .lss (.t 8) (.t 10)), none⟩,
    ⟨some 12, .p (.mov (.t 11)), none⟩,
    ⟨some 13, .p (.mov (.t 5)), (some (12, true))⟩,
    ⟨some 14, .p (.mov (.t 1)), (some (12, true))⟩,
    ⟨some 15, .p (.bin .leq (.t 13) (.t 14)), (some (12, true))⟩,
    ⟨some 16, .p (.pick (.t 12) (.t 15) (.c (.bool false))), none⟩])
  (.cond (.t 16) .skip (.exit 0)))
  (.seq (.block 1 (.seq (.seq (.reg [⟨some 19, .p (.mov (.t 0)), none⟩,
    ⟨some 20, .p (.mov (.t 5)), none⟩,
    ⟨some 21, .p (.idxA 3 none (.t 19) (.t 20)), none⟩,
    ⟨some 22, .p (.fieldA 2 (.t 21)), none⟩,
    ⟨some 23, .h (.load false 1 (.t 22)), none⟩,
    ⟨some 24, .p (.len false (.t 23)), none⟩,
    ⟨some 25, .p (.bin .gtr (.t 24) (.c (.int .i64 12))), none⟩])
  (.cond (.t 25) (.seq (.reg [⟨some 4, .p (.mov (.c (.bool false))), none⟩])
  .ret) .skip))
  (.seq (.reg [⟨some 6, .p (.mov (.c (.int .i64 0))), none⟩])
  (.block 2 (.loop (.seq (.seq (.reg [⟨some 26, .p (.mov (.t 6)), none⟩,
    ⟨some 27, .p (.mov (.t 0)), none⟩,
    ⟨some 28, .p (.mov (.t 5)), none⟩,
    ⟨some 29, .p (.idxA 3 none (.t 27) (.t 28)), none⟩,
    ⟨some 30, .p (.fieldA 2 (.t 29)), none⟩,
    ⟨some 31, .h (.load false 1 (.t 30)), none⟩,
    ⟨some 32, .p (.len false (.t 31)), none⟩,
    ⟨some 33, .p (.bin .lss (.t 26) (.t 32)), none⟩])
  (.cond (.t 33) .skip (.exit 2)))
  (.seq (.block 3 (.seq (.reg [⟨some 36, .p (.mov (.t 0)), none⟩,
    ⟨some 37, .p (.mov (.t 5)), none⟩,
    ⟨some 38, .p (.idxA 3 none (.t 36) (.t 37)), none⟩,
    ⟨some 39, .p (.fieldA 2 (.t 38)), none⟩,
    ⟨some 40, .h (.load false 1 (.t 39)), none⟩,
    ⟨some 41, .p (.mov (.t 6)), none⟩,
    ⟨some 42, .p (.idxA 3 none (.t 40) (.t 41)), none⟩,
    ⟨some 43, .h (.load true 3 (.t 42)), none⟩,
    ⟨some 7, .h (.alloc [(.int .i64 0), (.int .i64 0), (.bool false)]), none⟩,
    ⟨none, .h (.store 3 (.t 7) (.t 43)), none⟩])
  (.seq (.reg [⟨some 44, .p (.fieldA 0 (.t 7)), none⟩,
    ⟨some 45, .h (.load false 1 (.t 44)), none⟩,
    ⟨some 46, .p (.bin .lss (.t 45) (.c (.int .i64 0))), none⟩,
    ⟨some 47, .p (.mov (.t 46)), none⟩,
    ⟨some 48, .p (.fieldA 0 (.t 7)), (some (47, false))⟩,
    ⟨some 49, .h (.load false 1 (.t 48)), (some (47, false))⟩,
    ⟨some 50, .p (.bin .gtr (.t 49) (.c (.int .i64 1048576))), (some (47, false))⟩,
    ⟨some 51, .p (.pick (.t 47) (.c (.bool true)) (.t 50)), none⟩,
    ⟨some 52, .p (.mov (.t 51)), none⟩,
    ⟨some 53, .p (.fieldA 1 (.t 7)), (some (52, false))⟩,
    ⟨some 54, .h (.load false 1 (.t 53)), (some (52, false))⟩,
    ⟨some 55, .p (.bin .lss (.t 54) (.c (.int .i64 1))), (some (52, false))⟩,
    ⟨some 56, .p (.pick (.t 52) (.c (.bool true)) (.t 55)), none⟩,
    ⟨some 57, .p (.mov (.t 56)), none⟩,
    ⟨some 58, .p (.fieldA 1 (.t 7)), (some (57, false))⟩,
    ⟨some 59, .h (.load false 1 (.t 58)), (some (57, false))⟩,
    ⟨some 60, .p (.bin .gtr (.t 59) (.c (.int .i64 128))), (some (57, false))⟩,
    ⟨some 61, .p (.pick (.t 57) (.c (.bool true)) (.t 60)), none⟩])
  (.cond (.t 61) (.seq (.reg [⟨some 4, .p (.mov (.c (.bool false))), none⟩])
  .ret) .skip))))
  (.reg [⟨some 34, .p (.mov (.t 6)), none⟩,
    ⟨some 35, .p (.bin .add (.t 34) (.c (.int .i64 1))), none⟩,
    ⟨some 6, .p (.mov (.t 35)), none⟩]))))))))
  (.reg [⟨some 17, .p (.mov (.t 5)), none⟩,
    ⟨some 18, .p (.bin .add (.t 17) (.c (.int .i64 1))), none⟩,
    ⟨some 5, .p (.mov (.t 18)), none⟩]))))))
  (.seq (.reg [⟨some 62, .p (.mov (.t 0)), none⟩,
    ⟨some 63, .p (.len false (.t 62)), none⟩,
    ⟨some 64, .p (.mov (.t 1)), none⟩,
    ⟨some 65, .p (.bin .leq (.t 63) (.t 64)), none⟩,
    ⟨some 4, .p (.mov (.t 65)), none⟩])
  .ret)))
def rs6 : List AR := [.tmp 4]
theorem ok6 : okF Try.prog 6 66 ac6 rs6 = true := by kernel_rfl
/-- simulacrum/simulacrumlaw21.sanity -/
def ac7 : AC := (.seq (.reg [⟨some 0, .p (.mov (.c (.bool false))), none⟩])
  (.seq (.reg [⟨some 6, .call 20 [], none⟩,
    ⟨some 1, .p (.mov (.t 6)), none⟩])
  (.seq (.reg [⟨some 7, .call 20 [], none⟩,
    ⟨some 2, .p (.mov (.t 7)), none⟩])
  (.seq (.reg [⟨some 8, .p (.mov (.t 2)), none⟩,
    ⟨some 9, .p (.idxA 3 none (.t 8) (.c (.int .i64 1))), none⟩,
    ⟨some 10, .p (.fieldA 1 (.t 9)), none⟩,
    ⟨none, .h (.store 1 (.t 10) (.c (.bool true))), none⟩])
  (.seq (.reg [⟨some 11, .p (.mov (.t 1)), none⟩,
    ⟨some 12, .call 14 [(.t 11)], none⟩,
    ⟨some 13, .v (.build [(.int .i64 0), (.int .i64 0)] [(0, 1, (.c (.int .i64 0))), (1, 1, (.c (.int .i64 1)))]), none⟩,
    ⟨some 14, .v (.build [(.int .i64 0), (.int .i64 0)] [(0, 1, (.c (.int .i64 2))), (1, 1, (.c (.int .i64 3)))]), none⟩,
    ⟨some 15, .d (.bslice 2 2 [(.int .i64 0), (.int .i64 0)] [(0, (.t 13)), (2, (.t 14))]), none⟩,
    ⟨some 16, .call 13 [(.t 12), (.t 15)], none⟩,
    ⟨some 17, .p (.mov (.t 16)), none⟩,
    ⟨some 18, .p (.mov (.t 1)), (some (17, true))⟩,
    ⟨some 19, .d (.bslice 1 5 [(.int .i64 0)] [(0, (.c (.int .i64 0))), (1, (.c (.int .i64 2))), (2, (.c (.int .i64 1))), (3, (.c (.int .i64 3))), (4, (.c (.int .i64 4)))]), (some (17, true))⟩,
    ⟨some 20, .call 17 [(.t 18), (.t 19)], (some (17, true))⟩,
    ⟨some 21, .p (.pick (.t 17) (.t 20) (.c (.bool false))), none⟩,
    ⟨some 22, .p (.mov (.t 21)), none⟩,
    ⟨some 23, .p (.mov (.t 1)), (some (22, true))⟩,
    ⟨some 24, .d (.bslice 1 5 [(.int .i64 0)] [(0, (.c (.int .i64 0))), (1, (.c (.int .i64 1))), (2, (.c (.int .i64 2))), (3, (.c (.int .i64 3))), (4, (.c (.int .i64 4)))]), (some (22, true))⟩,
    ⟨some 25, .call 17 [(.t 23), (.t 24)], (some (22, true))⟩,
    ⟨some 26, .p (.pick (.t 22) (.t 25) (.c (.bool false))), none⟩,
    ⟨some 27, .p (.mov (.t 26)), none⟩,
    ⟨some 28, .p (.mov (.t 1)), (some (27, true))⟩,
    ⟨some 29, .d (.bslice 1 5 [(.int .i64 0)] [(0, (.c (.int .i64 1))), (1, (.c (.int .i64 0))), (2, (.c (.int .i64 2))), (3, (.c (.int .i64 3))), (4, (.c (.int .i64 4)))]), (some (27, true))⟩,
    ⟨some 30, .call 17 [(.t 28), (.t 29)], (some (27, true))⟩,
    ⟨some 31, .p (.un .not (.t 30)), (some (27, true))⟩,
    ⟨some 32, .p (.pick (.t 27) (.t 31) (.c (.bool false))), none⟩,
    ⟨some 33, .p (.mov (.t 32)), none⟩,
    ⟨some 34, .p (.mov (.t 1)), (some (33, true))⟩,
    ⟨some 35, .d (.bslice 1 5 [(.int .i64 0)] [(0, (.c (.int .i64 0))), (1, (.c (.int .i64 1))), (2, (.c (.int .i64 3))), (3, (.c (.int .i64 2))), (4, (.c (.int .i64 4)))]), (some (33, true))⟩,
    ⟨some 36, .call 17 [(.t 34), (.t 35)], (some (33, true))⟩,
    ⟨some 37, .p (.un .not (.t 36)), (some (33, true))⟩,
    ⟨some 38, .p (.pick (.t 33) (.t 37) (.c (.bool false))), none⟩,
    ⟨some 3, .p (.mov (.t 38)), none⟩])
  (.seq (.reg [⟨some 39, .p (.mov (.t 1)), none⟩,
    ⟨some 40, .call 22 [(.t 39)], none⟩,
    ⟨some 41, .d (.bslice 1 5 [(.int .i64 0)] [(0, (.c (.int .i64 0))), (1, (.c (.int .i64 2))), (2, (.c (.int .i64 1))), (3, (.c (.int .i64 3))), (4, (.c (.int .i64 4)))]), none⟩,
    ⟨some 42, .call 21 [(.t 40), (.t 41)], none⟩,
    ⟨some 43, .p (.mov (.t 42)), none⟩,
    ⟨some 44, .p (.mov (.t 2)), (some (43, true))⟩,
    ⟨some 45, .call 14 [(.t 44)], (some (43, true))⟩,
    ⟨some 46, .v (.build [(.int .i64 0), (.int .i64 0)] [(0, 1, (.c (.int .i64 0))), (1, 1, (.c (.int .i64 1)))]), (some (43, true))⟩,
    ⟨some 47, .v (.build [(.int .i64 0), (.int .i64 0)] [(0, 1, (.c (.int .i64 1))), (1, 1, (.c (.int .i64 2)))]), (some (43, true))⟩,
    ⟨some 48, .v (.build [(.int .i64 0), (.int .i64 0)] [(0, 1, (.c (.int .i64 2))), (1, 1, (.c (.int .i64 3)))]), (some (43, true))⟩,
    ⟨some 49, .d (.bslice 2 3 [(.int .i64 0), (.int .i64 0)] [(0, (.t 46)), (2, (.t 47)), (4, (.t 48))]), (some (43, true))⟩,
    ⟨some 50, .call 13 [(.t 45), (.t 49)], (some (43, true))⟩,
    ⟨some 51, .p (.pick (.t 43) (.t 50) (.c (.bool false))), none⟩,
    ⟨some 52, .p (.mov (.t 51)), none⟩,
    ⟨some 53, .p (.mov (.t 1)), (some (52, true))⟩,
    ⟨some 54, .d (.bslice 1 2 [(.int .i64 0)] [(0, (.c (.int .i64 0))), (1, (.c (.int .i64 1)))]), (some (52, true))⟩,
    ⟨some 55, .call 23 [(.t 53), (.t 54)], (some (52, true))⟩,
    ⟨some 56, .d (.bslice 1 5 [(.int .i64 0)] [(0, (.c (.int .i64 0))), (1, (.c (.int .i64 2))), (2, (.c (.int .i64 1))), (3, (.c (.int .i64 3))), (4, (.c (.int .i64 4)))]), (some (52, true))⟩,
    ⟨some 57, .call 21 [(.t 55), (.t 56)], (some (52, true))⟩,
    ⟨some 58, .p (.pick (.t 52) (.t 57) (.c (.bool false))), none⟩,
    ⟨some 4, .p (.mov (.t 58)), none⟩])
  (.seq (.reg [⟨some 59, .p (.mov (.t 1)), none⟩,
    ⟨some 60, .p (.idxA 3 none (.t 59) (.c (.int .i64 0))), none⟩,
    ⟨some 61, .p (.fieldA 2 (.t 60)), none⟩,
    ⟨some 62, .h (.load false 1 (.t 61)), none⟩,
    ⟨some 63, .v (.build [(.bool false), (.int .u32 0), (.int .u32 0), (.int .u32 0), (.int .u32 0), (.int .u32 0), (.int .u32 0), (.int .u32 0), (.int .u32 0), (.int .u32 0), (.int .u32 0), (.int .u32 0), (.int .u32 0), (.int .u32 0), (.int .u32 0), (.int .u32 0), (.int .u32 0), (.int .u32 0), (.int .u32 0), (.int .u32 0), (.int .u32 0), (.int .u32 0), (.int .u32 0), (.int .u32 0), (.int .u32 0), (.int .u32 0), (.int .u32 0), (.bool false), (.bool false), (.bool false), (.int .i64 0), (.int .u32 0), (.int .u32 0), (.int .u32 0), (.int .u32 0), (.int .u32 0), (.int .u32 0), (.int .u32 0), (.int .u32 0), (.int .u32 0), (.int .u32 0), (.int .u32 0), (.int .u32 0), (.int .u32 0), (.int .u32 0), (.int .u32 0), (.int .u32 0), (.int .u32 0), (.int .u32 0), (.int .u32 0), (.int .u32 0), (.int .u32 0), (.int .u32 0), (.int .u32 0), (.int .u32 0), (.int .u32 0), (.int .u32 0), (.bool false), (.bool false), (.bool false), (.int .i64 0), (.int .u32 0), .nils, .nils, (.bool false), (.bool false), (.int .i64 0), (.int .u32 0), (.int .i64 0), (.int .u32 0), (.int .i64 0)] [(64, 1, (.c (.bool true))), (63, 1, (.t 62))]), none⟩,
    ⟨some 64, .call 9 [(.t 63), (.c (.int .i64 3))], none⟩,
    ⟨some 5, .h (.alloc [(.int .i64 0), (.bool false), .nils]), none⟩,
    ⟨none, .h (.store 3 (.t 5) (.t 64)), none⟩])
  (.seq (.draw 39 [] [⟨some 65, .p (.mov (.t 3)), none⟩,
    ⟨some 66, .p (.mov (.t 65)), none⟩,
    ⟨some 67, .p (.mov (.t 4)), (some (66, true))⟩,
    ⟨some 68, .p (.pick (.t 66) (.t 67) (.c (.bool false))), none⟩,
    ⟨some 69, .p (.mov (.t 68)), none⟩,
    ⟨some 70, .p (.fieldA 0 (.t 5)), (some (69, true))⟩,
    ⟨some 71, .h (.load false 1 (.t 70)), (some (69, true))⟩,
    ⟨some 72, .p (.bin .eql (.t 71) (.c (.int .i64 3))), (some (69, true))⟩,
    ⟨some 73, .p (.pick (.t 69) (.t 72) (.c (.bool false))), none⟩,
    ⟨some 74, .p (.mov (.t 73)), none⟩,
    ⟨some 75, .p (.fieldA 1 (.t 5)), (some (74, true))⟩,
    ⟨some 76, .h (.load false 1 (.t 75)), (some (74, true))⟩,
    ⟨some 77, .p (.pick (.t 74) (.t 76) (.c (.bool false))), none⟩,
    ⟨some 78, .p (.mov (.t 77)), none⟩,
    ⟨some 79, .p (.fieldA 2 (.t 5)), (some (78, true))⟩,
    ⟨some 80, .h (.load false 1 (.t 79)), (some (78, true))⟩,
    ⟨some 81, .p (.len false (.t 80)), (some (78, true))⟩,
    ⟨some 82, .p (.bin .eql (.t 81) (.c (.int .i64 1))), (some (78, true))⟩,
    ⟨some 83, .p (.pick (.t 78) (.t 82) (.c (.bool false))), none⟩,
    ⟨some 84, .p (.mov (.t 83)), none⟩,
    ⟨some 85, .p (.mov (.t 1)), (some (84, true))⟩,
    ⟨some 86, .p (.idxA 3 none (.t 85) (.c (.int .i64 0))), (some (84, true))⟩,
    ⟨some 87, .h (.load true 3 (.t 86)), (some (84, true))⟩,
    ⟨some 88, .p (.mov (.t 1)), (some (84, true))⟩,
    ⟨some 89, .p (.idxA 3 none (.t 88) (.c (.int .i64 1))), (some (84, true))⟩,
    ⟨some 90, .h (.load true 3 (.t 89)), (some (84, true))⟩,
    ⟨some 91, .call 11 [(.t 87), (.t 90)], (some (84, true))⟩,
    ⟨some 92, .p (.pick (.t 84) (.t 91) (.c (.bool false))), none⟩,
    ⟨some 93, .p (.mov (.t 92)), none⟩,
    ⟨some 94, .p (.mov (.t 1)), (some (93, true))⟩,
    ⟨some 95, .p (.idxA 3 none (.t 94) (.c (.int .i64 0))), (some (93, true))⟩,
    ⟨some 96, .h (.load true 3 (.t 95)), (some (93, true))⟩,
    ⟨some 97, .p (.mov (.t 1)), (some (93, true))⟩,
    ⟨some 98, .p (.idxA 3 none (.t 97) (.c (.int .i64 3))), (some (93, true))⟩,
    ⟨some 99, .h (.load true 3 (.t 98)), (some (93, true))⟩,
    ⟨some 100, .call 11 [(.t 96), (.t 99)], (some (93, true))⟩,
    ⟨some 101, .p (.un .not (.t 100)), (some (93, true))⟩,
    ⟨some 102, .p (.pick (.t 93) (.t 101) (.c (.bool false))), none⟩,
    ⟨some 0, .p (.mov (.t 102)), none⟩])
  .ret))))))))
def rs7 : List AR := [.tmp 0]
theorem ok7 : okF Try.prog 7 103 ac7 rs7 = true := by kernel_rfl
/-- simulacrum/simulacrumref21.SameEvents -/
def ac8 : AC := (.seq (.reg [⟨some 2, .h (.box (.t 0)), none⟩,
    ⟨some 3, .h (.box (.t 1)), none⟩,
    ⟨some 4, .p (.mov (.c (.bool false))), none⟩])
  (.seq (.seq (.reg [⟨some 6, .p (.fieldA 0 (.t 2)), none⟩,
    ⟨some 7, .h (.load false 1 (.t 6)), none⟩,
    ⟨some 8, .p (.fieldA 0 (.t 3)), none⟩,
    ⟨some 9, .h (.load false 1 (.t 8)), none⟩,
    ⟨some 10, .p (.bin .neq (.t 7) (.t 9)), none⟩,
    ⟨some 11, .p (.mov (.t 10)), none⟩,
    ⟨some 12, .p (.fieldA 1 (.t 2)), (some (11, false))⟩,
    ⟨some 13, .h (.load false 1 (.t 12)), (some (11, false))⟩,
    ⟨some 14, .p (.fieldA 1 (.t 3)), (some (11, false))⟩,
    ⟨some 15, .h (.load false 1 (.t 14)), (some (11, false))⟩,
    ⟨some 16, .p (.beq true (.t 13) (.t 15)), (some (11, false))⟩,
    ⟨some 17, .p (.pick (.t 11) (.c (.bool true)) (.t 16)), none⟩,
    ⟨some 18, .p (.mov (.t 17)), none⟩,
    ⟨some 19, .p (.fieldA 2 (.t 2)), (some (18, false))⟩,
    ⟨some 20, .h (.load false 1 (.t 19)), (some (18, false))⟩,
    ⟨some 21, .p (.len false (.t 20)), (some (18, false))⟩,
    ⟨some 22, .p (.fieldA 2 (.t 3)), (some (18, false))⟩,
    ⟨some 23, .h (.load false 1 (.t 22)), (some (18, false))⟩,
    ⟨some 24, .p (.len false (.t 23)), (some (18, false))⟩,
    ⟨some 25, .p (.bin .neq (.t 21) (.t 24)), (some (18, false))⟩,
    ⟨some 26, .p (.pick (.t 18) (.c (.bool true)) (.t 25)), none⟩])
  (.cond (.t 26) (.seq (.reg [⟨some 4, .p (.mov (.c (.bool false))), none⟩])
  .ret) .skip))
  (.seq (.seq (.reg [⟨some 5, .p (.mov (.c (.int .i64 0))), none⟩])
  (.block 0 (.loop (.seq (.seq (.reg [⟨some 27, .p (.mov (.t 5)), none⟩,
    ⟨some 28, .p (.fieldA 2 (.t 2)), none⟩,
    ⟨some 29, .h (.load false 1 (.t 28)), none⟩,
    ⟨some 30, .p (.len false (.t 29)), none⟩,
    ⟨some 31, .p (.bin .lss (.t 27) (.t 30)), none⟩])
  (.cond (.t 31) .skip (.exit 0)))
  (.seq (.block 1 (.seq (.draw 11 [] [⟨some 34, .p (.fieldA 2 (.t 2)), none⟩,
    ⟨some 35, .h (.load false 1 (.t 34)), none⟩,
    ⟨some 36, .p (.mov (.t 5)), none⟩,
    ⟨some 37, .p (.idxA 3 none (.t 35) (.t 36)), none⟩,
    ⟨some 38, .h (.load true 3 (.t 37)), none⟩,
    ⟨some 39, .p (.fieldA 2 (.t 3)), none⟩,
    ⟨some 40, .h (.load false 1 (.t 39)), none⟩,
    ⟨some 41, .p (.mov (.t 5)), none⟩,
    ⟨some 42, .p (.idxA 3 none (.t 40) (.t 41)), none⟩,
    ⟨some 43, .h (.load true 3 (.t 42)), none⟩,
    ⟨some 44, .v (.eqa true [(.i .i64), (.i .i64), .b] (.t 38) (.t 43)), none⟩])
  (.cond (.t 44) (.seq (.reg [⟨some 4, .p (.mov (.c (.bool false))), none⟩])
  .ret) .skip)))
  (.reg [⟨some 32, .p (.mov (.t 5)), none⟩,
    ⟨some 33, .p (.bin .add (.t 32) (.c (.int .i64 1))), none⟩,
    ⟨some 5, .p (.mov (.t 33)), none⟩]))))))
  (.seq (.reg [⟨some 4, .p (.mov (.c (.bool true))), none⟩])
  .ret))))
def rs8 : List AR := [.tmp 4]
theorem ok8 : okF Try.prog 8 45 ac8 rs8 = true := by kernel_rfl
/-- simulacrum/order.Of -/
def ac9 : AC := (.seq (.reg [⟨some 2, .h (.box (.t 0)), none⟩,
    ⟨some 4, .h (.alloc [(.int .i64 0), (.bool false), .nils]), none⟩])
  (.seq (.draw 8 [(5, 7), (2, 7), (4, 7)] [⟨some 5, .p (.mov (.t 1)), none⟩,
    ⟨some 6, .p (.fieldA 64 (.t 2)), none⟩,
    ⟨some 7, .h (.load false 1 (.t 6)), none⟩,
    ⟨some 8, .p (.fieldA 63 (.t 2)), none⟩,
    ⟨some 9, .h (.load false 1 (.t 8)), none⟩,
    ⟨some 10, .call 24 [(.t 9)], none⟩,
    ⟨some 11, .v (.build [(.int .i64 0), (.bool false), .nils] [(0, 1, (.t 5)), (1, 1, (.t 7)), (2, 1, (.t 10))]), none⟩,
    ⟨none, .h (.store 3 (.t 4) (.t 11)), none⟩])
  .ret))
def rs9 : List AR := [.cell 4 true 3]
theorem ok9 : okF Try.prog 9 12 ac9 rs9 = true := by kernel_rfl
/-- simulacrum/simulacrumref21.Of -/
def ac10 : AC := (.seq (.reg [⟨some 2, .h (.box (.t 0)), none⟩,
    ⟨some 4, .h (.alloc [(.int .i64 0), (.bool false), .nils]), none⟩])
  (.seq (.draw 9 [(3, 6), (5, 6), (6, 8), (2, 8), (3, 8), (5, 8)] [⟨some 5, .p (.mov (.t 1)), none⟩,
    ⟨some 6, .p (.fieldA 64 (.t 2)), none⟩,
    ⟨some 7, .h (.load false 1 (.t 6)), none⟩,
    ⟨some 8, .l (.bslice 3 0 [(.int .i64 0), (.int .i64 0), (.bool false)] []), none⟩,
    ⟨some 9, .p (.fieldA 63 (.t 2)), none⟩,
    ⟨some 10, .h (.load false 1 (.t 9)), none⟩,
    ⟨some 11, .l (.append 3 24 (.t 8) (.t 10)), none⟩,
    ⟨some 12, .v (.build [(.int .i64 0), (.bool false), .nils] [(0, 1, (.t 5)), (1, 1, (.t 7)), (2, 1, (.t 11))]), none⟩,
    ⟨none, .h (.store 3 (.t 4) (.t 12)), none⟩])
  .ret))
def rs10 : List AR := [.cell 4 true 3]
theorem ok10 : okF Try.prog 10 13 ac10 rs10 = true := by kernel_rfl
/-- simulacrum/order.Conflict -/
def ac11 : AC := (.seq (.reg [⟨some 2, .h (.box (.t 0)), none⟩,
    ⟨some 3, .h (.box (.t 1)), none⟩,
    ⟨some 4, .p (.mov (.c (.bool false))), none⟩])
  (.seq (.seq (.reg [⟨some 5, .p (.fieldA 0 (.t 2)), none⟩,
    ⟨some 6, .h (.load false 1 (.t 5)), none⟩,
    ⟨some 7, .p (.fieldA 0 (.t 3)), none⟩,
    ⟨some 8, .h (.load false 1 (.t 7)), none⟩,
    ⟨some 9, .p (.bin .eql (.t 6) (.t 8)), none⟩,
    ⟨some 10, .p (.mov (.t 9)), none⟩,
    ⟨some 11, .p (.fieldA 1 (.t 2)), (some (10, false))⟩,
    ⟨some 12, .h (.load false 1 (.t 11)), (some (10, false))⟩,
    ⟨some 13, .p (.pick (.t 10) (.c (.bool true)) (.t 12)), none⟩,
    ⟨some 14, .p (.mov (.t 13)), none⟩,
    ⟨some 15, .p (.fieldA 1 (.t 3)), (some (14, false))⟩,
    ⟨some 16, .h (.load false 1 (.t 15)), (some (14, false))⟩,
    ⟨some 17, .p (.pick (.t 14) (.c (.bool true)) (.t 16)), none⟩])
  (.cond (.t 17) (.seq (.reg [⟨some 4, .p (.mov (.c (.bool true))), none⟩])
  .ret) .skip))
  (.seq (.reg [⟨some 18, .p (.fieldA 2 (.t 2)), none⟩,
    ⟨some 19, .h (.load false 1 (.t 18)), none⟩,
    ⟨some 20, .p (.mkfn 26 [(.t 3)]), none⟩,
    ⟨some 21, .call 25 [(.t 19), (.t 20)], none⟩,
    ⟨some 4, .p (.mov (.t 21)), none⟩])
  .ret)))
def rs11 : List AR := [.tmp 4]
theorem ok11 : okF Try.prog 11 22 ac11 rs11 = true := by kernel_rfl
/-- simulacrum/simulacrumref21.Conflict -/
def ac12 : AC := (.seq (.reg [⟨some 2, .h (.box (.t 0)), none⟩,
    ⟨some 3, .h (.box (.t 1)), none⟩,
    ⟨some 4, .p (.mov (.c (.bool false))), none⟩])
  (.seq (.seq (.reg [⟨some 7, .p (.fieldA 0 (.t 2)), none⟩,
    ⟨some 8, .h (.load false 1 (.t 7)), none⟩,
    ⟨some 9, .p (.fieldA 0 (.t 3)), none⟩,
    ⟨some 10, .h (.load false 1 (.t 9)), none⟩,
    ⟨some 11, .p (.bin .eql (.t 8) (.t 10)), none⟩,
    ⟨some 12, .p (.mov (.t 11)), none⟩,
    ⟨some 13, .p (.fieldA 1 (.t 2)), (some (12, false))⟩,
    ⟨some 14, .h (.load false 1 (.t 13)), (some (12, false))⟩,
    ⟨some 15, .p (.pick (.t 12) (.c (.bool true)) (.t 14)), none⟩,
    ⟨some 16, .p (.mov (.t 15)), none⟩,
    ⟨some 17, .p (.fieldA 1 (.t 3)), (some (16, false))⟩,
    ⟨some 18, .h (.load false 1 (.t 17)), (some (16, false))⟩,
    ⟨some 19, .p (.pick (.t 16) (.c (.bool true)) (.t 18)), none⟩])
  (.cond (.t 19) (.seq (.reg [⟨some 4, .p (.mov (.c (.bool true))), none⟩])
  .ret) .skip))
  (.seq (.seq (.reg [⟨some 5, .p (.mov (.c (.int .i64 0))), none⟩])
  (.block 0 (.loop (.seq (.seq (.reg [⟨some 20, .p (.mov (.t 5)), none⟩,
    ⟨some 21, .p (.fieldA 2 (.t 2)), none⟩,
    ⟨some 22, .h (.load false 1 (.t 21)), none⟩,
    ⟨some 23, .p (.len false (.t 22)), none⟩,
    ⟨some 24, .p (.bin .lss (.t 20) (.t 23)), none⟩])
  (.cond (.t 24) .skip (.exit 0)))
  (.seq (.block 1 (.seq (.reg [⟨some 6, .p (.mov (.c (.int .i64 0))), none⟩])
  (.block 2 (.loop (.seq (.seq (.reg [⟨some 27, .p (.mov (.t 6)), none⟩,
    ⟨some 28, .p (.fieldA 2 (.t 3)), none⟩,
    ⟨some 29, .h (.load false 1 (.t 28)), none⟩,
    ⟨some 30, .p (.len false (.t 29)), none⟩,
    ⟨some 31, .p (.bin .lss (.t 27) (.t 30)), none⟩])
  (.cond (.t 31) .skip (.exit 2)))
  (.seq (.block 3 (.seq (.draw 11 [] [⟨some 34, .p (.fieldA 2 (.t 2)), none⟩,
    ⟨some 35, .h (.load false 1 (.t 34)), none⟩,
    ⟨some 36, .p (.mov (.t 5)), none⟩,
    ⟨some 37, .p (.idxA 3 none (.t 35) (.t 36)), none⟩,
    ⟨some 38, .h (.load true 3 (.t 37)), none⟩,
    ⟨some 39, .p (.fieldA 2 (.t 3)), none⟩,
    ⟨some 40, .h (.load false 1 (.t 39)), none⟩,
    ⟨some 41, .p (.mov (.t 6)), none⟩,
    ⟨some 42, .p (.idxA 3 none (.t 40) (.t 41)), none⟩,
    ⟨some 43, .h (.load true 3 (.t 42)), none⟩,
    ⟨some 44, .call 29 [(.t 38), (.t 43)], none⟩])
  (.cond (.t 44) (.seq (.reg [⟨some 4, .p (.mov (.c (.bool true))), none⟩])
  .ret) .skip)))
  (.reg [⟨some 32, .p (.mov (.t 6)), none⟩,
    ⟨some 33, .p (.bin .add (.t 32) (.c (.int .i64 1))), none⟩,
    ⟨some 6, .p (.mov (.t 33)), none⟩])))))))
  (.reg [⟨some 25, .p (.mov (.t 5)), none⟩,
    ⟨some 26, .p (.bin .add (.t 25) (.c (.int .i64 1))), none⟩,
    ⟨some 5, .p (.mov (.t 26)), none⟩]))))))
  (.seq (.reg [⟨some 4, .p (.mov (.c (.bool false))), none⟩])
  .ret))))
def rs12 : List AR := [.tmp 4]
theorem ok12 : okF Try.prog 12 45 ac12 rs12 = true := by kernel_rfl
/-- simulacrum/simulacrumref21.SameEdges -/
def ac13 : AC := (.seq (.reg [⟨some 4, .p (.mov (.c (.bool false))), none⟩])
  (.seq (.seq (.reg [⟨some 6, .p (.mov (.t 0)), none⟩,
    ⟨some 7, .p (.len false (.t 6)), none⟩,
    ⟨some 8, .p (.mov (.t 1)), none⟩,
    ⟨some 9, .p (.len false (.t 8)), none⟩,
    ⟨some 10, .p (.bin .neq (.t 7) (.t 9)), none⟩])
  (.cond (.t 10) (.seq (.reg [⟨some 4, .p (.mov (.c (.bool false))), none⟩])
  .ret) .skip))
  (.seq (.seq (.reg [⟨some 5, .p (.mov (.c (.int .i64 0))), none⟩])
  (.block 0 (.loop (.seq (.seq (.reg [⟨some 11, .p (.mov (.t 5)), none⟩,
    ⟨some 12, .p (.mov (.t 0)), none⟩,
    ⟨some 13, .p (.len false (.t 12)), none⟩,
    ⟨some 14, .p (.bin .lss (.t 11) (.t 13)), none⟩])
  (.cond (.t 14) .skip (.exit 0)))
  (.seq (.block 1 (.seq (.draw 9 [] [⟨some 17, .p (.mov (.t 0)), none⟩,
    ⟨some 18, .p (.mov (.t 5)), none⟩,
    ⟨some 19, .p (.idxA 2 none (.t 17) (.t 18)), none⟩,
    ⟨some 20, .h (.load true 2 (.t 19)), none⟩,
    ⟨some 21, .p (.mov (.t 1)), none⟩,
    ⟨some 22, .p (.mov (.t 5)), none⟩,
    ⟨some 23, .p (.idxA 2 none (.t 21) (.t 22)), none⟩,
    ⟨some 24, .h (.load true 2 (.t 23)), none⟩,
    ⟨some 25, .v (.eqa true [(.i .i64), (.i .i64)] (.t 20) (.t 24)), none⟩])
  (.cond (.t 25) (.seq (.reg [⟨some 4, .p (.mov (.c (.bool false))), none⟩])
  .ret) .skip)))
  (.reg [⟨some 15, .p (.mov (.t 5)), none⟩,
    ⟨some 16, .p (.bin .add (.t 15) (.c (.int .i64 1))), none⟩,
    ⟨some 5, .p (.mov (.t 16)), none⟩]))))))
  (.seq (.reg [⟨some 4, .p (.mov (.c (.bool true))), none⟩])
  .ret))))
def rs13 : List AR := [.tmp 4]
theorem ok13 : okF Try.prog 13 26 ac13 rs13 = true := by kernel_rfl
/-- simulacrum/order.Edges -/
def ac14 : AC := (.seq (.reg [⟨some 2, .p (.mov (.c .nils)), none⟩])
  (.seq (.reg [⟨some 11, .p (.mov (.t 0)), none⟩,
    ⟨some 12, .call 30 [(.t 11)], none⟩,
    ⟨some 10, .p (.mov (.t 12)), none⟩,
    ⟨some 13, .p (.extract 0 (.t 10)), none⟩,
    ⟨some 14, .p (.extract 1 (.t 10)), none⟩,
    ⟨some 3, .p (.mov (.t 13)), none⟩,
    ⟨some 4, .p (.mov (.t 14)), none⟩])
  (.seq (.reg [⟨some 5, .p (.mov (.c .nils)), none⟩])
  (.seq (.seq (.reg [⟨some 15, .p (.mov (.t 0)), none⟩,
    ⟨some 16, .p (.len false (.t 15)), none⟩,
    ⟨some 17, .p (.mov (.c (.int .i64 0))), none⟩])
  (.block 0 (.loop (.seq (.reg [⟨some 18, .p (.bin .lss (.t 17) (.t 16)), none⟩])
  (.seq (.cond (.t 18) .skip (.exit 0))
  (.seq (.block 1 (.seq (.reg [⟨some 19, .p (.mov (.t 17)), none⟩,
    ⟨some 6, .p (.mov (.t 19)), none⟩])
  (.seq (.reg [⟨some 7, .h (.alloc [(.int .u64 0), (.int .u64 0), (.int .u64 0), (.int .u64 0), (.int .u64 0), (.int .u64 0), (.int .u64 0)]), none⟩])
  (.seq (.seq (.reg [⟨some 20, .p (.mov (.t 6)), none⟩,
    ⟨some 21, .p (.mov (.c (.int .i64 0))), none⟩])
  (.block 2 (.loop (.seq (.reg [⟨some 22, .p (.bin .lss (.t 21) (.t 20)), none⟩])
  (.seq (.cond (.t 22) .skip (.exit 2))
  (.seq (.block 3 (.seq (.reg [⟨some 23, .p (.mov (.t 21)), none⟩,
    ⟨some 8, .p (.mov (.t 23)), none⟩])
  (.seq (.reg [⟨some 24, .p (.mov (.t 3)), none⟩,
    ⟨some 25, .p (.mov (.t 6)), none⟩,
    ⟨some 26, .p (.idxA 7 none (.t 24) (.t 25)), none⟩,
    ⟨some 27, .p (.mov (.t 8)), none⟩,
    ⟨some 28, .call 31 [(.t 26), (.t 27)], none⟩])
  (.cond (.t 28) (.reg [⟨some 29, .p (.mov (.t 4)), none⟩,
    ⟨some 30, .p (.mov (.t 8)), none⟩,
    ⟨some 31, .p (.idxA 7 none (.t 29) (.t 30)), none⟩,
    ⟨some 32, .h (.load true 7 (.t 31)), none⟩,
    ⟨some 33, .call 32 [(.t 7), (.t 32)], none⟩]) .skip))))
  (.reg [⟨some 34, .p (.bin .add (.t 21) (.c (.int .i64 1))), none⟩,
    ⟨some 21, .p (.mov (.t 34)), none⟩])))))))
  (.seq (.reg [⟨some 35, .p (.mov (.t 6)), none⟩,
    ⟨some 36, .p (.mov (.c (.int .i64 0))), none⟩])
  (.block 4 (.loop (.seq (.reg [⟨some 37, .p (.bin .lss (.t 36) (.t 35)), none⟩])
  (.seq (.cond (.t 37) .skip (.exit 4))
  (.seq (.block 5 (.seq (.reg [⟨some 38, .p (.mov (.t 36)), none⟩,
    ⟨some 9, .p (.mov (.t 38)), none⟩])
  (.seq (.draw 23 [] [⟨some 39, .p (.mov (.t 0)), none⟩,
    ⟨some 40, .p (.mov (.t 9)), none⟩,
    ⟨some 41, .p (.idxA 3 none (.t 39) (.t 40)), none⟩,
    ⟨some 42, .p (.fieldA 0 (.t 41)), none⟩,
    ⟨some 43, .h (.load false 1 (.t 42)), none⟩,
    ⟨some 44, .p (.mov (.t 0)), none⟩,
    ⟨some 45, .p (.mov (.t 6)), none⟩,
    ⟨some 46, .p (.idxA 3 none (.t 44) (.t 45)), none⟩,
    ⟨some 47, .p (.fieldA 0 (.t 46)), none⟩,
    ⟨some 48, .h (.load false 1 (.t 47)), none⟩,
    ⟨some 49, .p (.bin .neq (.t 43) (.t 48)), none⟩,
    ⟨some 50, .p (.mov (.t 49)), none⟩,
    ⟨some 51, .p (.mov (.t 3)), (some (50, true))⟩,
    ⟨some 52, .p (.mov (.t 6)), (some (50, true))⟩,
    ⟨some 53, .p (.idxA 7 none (.t 51) (.t 52)), (some (50, true))⟩,
    ⟨some 54, .p (.mov (.t 9)), (some (50, true))⟩,
    ⟨some 55, .call 31 [(.t 53), (.t 54)], (some (50, true))⟩,
    ⟨some 56, .p (.pick (.t 50) (.t 55) (.c (.bool false))), none⟩,
    ⟨some 57, .p (.mov (.t 56)), none⟩,
    ⟨some 58, .p (.mov (.t 9)), (some (57, true))⟩,
    ⟨some 59, .call 31 [(.t 7), (.t 58)], (some (57, true))⟩,
    ⟨some 60, .p (.un .not (.t 59)), (some (57, true))⟩,
    ⟨some 61, .p (.pick (.t 57) (.t 60) (.c (.bool false))), none⟩])
  (.cond (.t 61) (.reg [⟨some 62, .p (.mov (.t 5)), none⟩,
    ⟨some 63, .p (.mov (.t 9)), none⟩,
    ⟨some 64, .p (.mov (.t 6)), none⟩,
    ⟨some 65, .v (.build [(.int .i64 0), (.int .i64 0)] [(0, 1, (.t 63)), (1, 1, (.t 64))]), none⟩,
    ⟨some 66, .d (.bslice 2 1 [(.int .i64 0), (.int .i64 0)] [(0, (.t 65))]), none⟩,
    ⟨some 67, .l (.append 2 16 (.t 62) (.t 66)), none⟩,
    ⟨some 5, .p (.mov (.t 67)), none⟩]) .skip))))
  (.reg [⟨some 68, .p (.bin .add (.t 36) (.c (.int .i64 1))), none⟩,
    ⟨some 36, .p (.mov (.t 68)), none⟩])))))))))))
  (.reg [⟨some 69, .p (.bin .add (.t 17) (.c (.int .i64 1))), none⟩,
    ⟨some 17, .p (.mov (.t 69)), none⟩])))))))
  (.seq (.reg [⟨some 70, .p (.mov (.t 5)), none⟩,
    ⟨some 2, .p (.mov (.t 70)), none⟩])
  .ret)))))
def rs14 : List AR := [.tmp 2]
theorem ok14 : okF Try.prog 14 71 ac14 rs14 = true := by kernel_rfl
/-- simulacrum/simulacrumref21.Edges -/
def ac15 : AC := (.seq (.reg [⟨some 2, .p (.mov (.c .nils)), none⟩])
  (.seq (.reg [⟨some 9, .p (.mov (.t 0)), none⟩,
    ⟨some 10, .call 33 [(.t 9)], none⟩,
    ⟨some 3, .p (.mov (.t 10)), none⟩])
  (.seq (.reg [⟨some 4, .p (.mov (.c .nils)), none⟩])
  (.seq (.seq (.reg [⟨some 5, .p (.mov (.c (.int .i64 0))), none⟩])
  (.block 0 (.loop (.seq (.seq (.reg [⟨some 11, .p (.mov (.t 5)), none⟩,
    ⟨some 12, .p (.mov (.t 0)), none⟩,
    ⟨some 13, .p (.len false (.t 12)), none⟩,
    ⟨some 14, .p (.bin .lss (.t 11) (.t 13)), none⟩])
  (.cond (.t 14) .skip (.exit 0)))
  (.seq (.block 1 (.seq (.reg [⟨some 6, .p (.mov (.c (.int .i64 0))), none⟩])
  (.block 2 (.loop (.seq (.seq (.reg [⟨some 17, .p (.mov (.t 6)), none⟩,
    ⟨some 18, .p (.mov (.t 5)), none⟩,
    ⟨some 19, .p (.bin .lss (.t 17) (.t 18)), none⟩])
  (.cond (.t 19) .skip (.exit 2)))
  (.seq (.block 3 (.seq (.seq (.draw 23 [] [⟨some 22, .p (.mov (.t 0)), none⟩,
    ⟨some 23, .p (.mov (.t 6)), none⟩,
    ⟨some 24, .p (.idxA 3 none (.t 22) (.t 23)), none⟩,
    ⟨some 25, .p (.fieldA 0 (.t 24)), none⟩,
    ⟨some 26, .h (.load false 1 (.t 25)), none⟩,
    ⟨some 27, .p (.mov (.t 0)), none⟩,
    ⟨some 28, .p (.mov (.t 5)), none⟩,
    ⟨some 29, .p (.idxA 3 none (.t 27) (.t 28)), none⟩,
    ⟨some 30, .p (.fieldA 0 (.t 29)), none⟩,
    ⟨some 31, .h (.load false 1 (.t 30)), none⟩,
    ⟨some 32, .p (.bin .eql (.t 26) (.t 31)), none⟩,
    ⟨some 33, .p (.mov (.t 32)), none⟩,
    ⟨some 34, .p (.mov (.t 0)), (some (33, false))⟩,
    ⟨some 35, .p (.mov (.t 6)), (some (33, false))⟩,
    ⟨some 36, .p (.idxA 3 none (.t 34) (.t 35)), (some (33, false))⟩,
    ⟨some 37, .h (.load true 3 (.t 36)), (some (33, false))⟩,
    ⟨some 38, .p (.mov (.t 0)), (some (33, false))⟩,
    ⟨some 39, .p (.mov (.t 5)), (some (33, false))⟩,
    ⟨some 40, .p (.idxA 3 none (.t 38) (.t 39)), (some (33, false))⟩,
    ⟨some 41, .h (.load true 3 (.t 40)), (some (33, false))⟩,
    ⟨some 42, .call 12 [(.t 37), (.t 41)], (some (33, false))⟩,
    ⟨some 43, .p (.un .not (.t 42)), (some (33, false))⟩,
    ⟨some 44, .p (.pick (.t 33) (.c (.bool true)) (.t 43)), none⟩])
  (.cond (.t 44) (.exit 3) .skip))
  (.seq (.reg [⟨some 7, .p (.mov (.c (.bool false))), none⟩])
  (.seq (.seq (.reg [⟨some 45, .p (.mov (.t 6)), none⟩,
    ⟨some 46, .p (.bin .add (.t 45) (.c (.int .i64 1))), none⟩,
    ⟨some 8, .p (.mov (.t 46)), none⟩])
  (.block 4 (.loop (.seq (.seq (.reg [⟨some 47, .p (.mov (.t 8)), none⟩,
    ⟨some 48, .p (.mov (.t 5)), none⟩,
    ⟨some 49, .p (.bin .lss (.t 47) (.t 48)), none⟩])
  (.cond (.t 49) .skip (.exit 4)))
  (.seq (.block 5 (.reg [⟨some 52, .p (.mov (.t 7)), none⟩,
    ⟨some 53, .p (.mov (.t 52)), none⟩,
    ⟨some 54, .p (.mov (.t 3)), (some (53, false))⟩,
    ⟨some 55, .p (.mov (.t 8)), (some (53, false))⟩,
    ⟨some 56, .p (.idxA 1 none (.t 54) (.t 55)), (some (53, false))⟩,
    ⟨some 57, .h (.load false 1 (.t 56)), (some (53, false))⟩,
    ⟨some 58, .p (.mov (.t 6)), (some (53, false))⟩,
    ⟨some 59, .p (.idxA 1 none (.t 57) (.t 58)), (some (53, false))⟩,
    ⟨some 60, .h (.load false 1 (.t 59)), (some (53, false))⟩,
    ⟨some 61, .p (.mov (.t 60)), (some (53, false))⟩,
    ⟨some 62, .p (.mov (.t 3)), (some (61, true))⟩,
    ⟨some 63, .p (.mov (.t 5)), (some (61, true))⟩,
    ⟨some 64, .p (.idxA 1 none (.t 62) (.t 63)), (some (61, true))⟩,
    ⟨some 65, .h (.load false 1 (.t 64)), (some (61, true))⟩,
    ⟨some 66, .p (.mov (.t 8)), (some (61, true))⟩,
    ⟨some 67, .p (.idxA 1 none (.t 65) (.t 66)), (some (61, true))⟩,
    ⟨some 68, .h (.load false 1 (.t 67)), (some (61, true))⟩,
    ⟨some 69, .p (.pick (.t 61) (.t 68) (.c (.bool false))), (some (53, false))⟩,
    ⟨some 70, .p (.pick (.t 53) (.c (.bool true)) (.t 69)), none⟩,
    ⟨some 7, .p (.mov (.t 70)), none⟩]))
  (.reg [⟨some 50, .p (.mov (.t 8)), none⟩,
    ⟨some 51, .p (.bin .add (.t 50) (.c (.int .i64 1))), none⟩,
    ⟨some 8, .p (.mov (.t 51)), none⟩]))))))
  (.seq (.reg [⟨some 71, .p (.mov (.t 7)), none⟩,
    ⟨some 72, .p (.un .not (.t 71)), none⟩])
  (.cond (.t 72) (.reg [⟨some 73, .p (.mov (.t 4)), none⟩,
    ⟨some 74, .p (.mov (.t 6)), none⟩,
    ⟨some 75, .p (.mov (.t 5)), none⟩,
    ⟨some 76, .v (.build [(.int .i64 0), (.int .i64 0)] [(0, 1, (.t 74)), (1, 1, (.t 75))]), none⟩,
    ⟨some 77, .d (.bslice 2 1 [(.int .i64 0), (.int .i64 0)] [(0, (.t 76))]), none⟩,
    ⟨some 78, .l (.append 2 16 (.t 73) (.t 77)), none⟩,
    ⟨some 4, .p (.mov (.t 78)), none⟩]) .skip))))))
  (.reg [⟨some 20, .p (.mov (.t 6)), none⟩,
    ⟨some 21, .p (.bin .add (.t 20) (.c (.int .i64 1))), none⟩,
    ⟨some 6, .p (.mov (.t 21)), none⟩])))))))
  (.reg [⟨some 15, .p (.mov (.t 5)), none⟩,
    ⟨some 16, .p (.bin .add (.t 15) (.c (.int .i64 1))), none⟩,
    ⟨some 5, .p (.mov (.t 16)), none⟩]))))))
  (.seq (.reg [⟨some 79, .p (.mov (.t 4)), none⟩,
    ⟨some 2, .p (.mov (.t 79)), none⟩])
  .ret)))))
def rs15 : List AR := [.tmp 2]
theorem ok15 : okF Try.prog 15 80 ac15 rs15 = true := by kernel_rfl
/-- simulacrum/simulacrumref21.Permutation -/
def ac16 : AC := (.seq (.reg [⟨some 4, .p (.mov (.c (.bool false))), none⟩])
  (.seq (.seq (.reg [⟨some 7, .p (.mov (.t 0)), none⟩,
    ⟨some 8, .p (.len false (.t 7)), none⟩,
    ⟨some 9, .p (.mov (.t 1)), none⟩,
    ⟨some 10, .p (.bin .neq (.t 8) (.t 9)), none⟩])
  (.cond (.t 10) (.seq (.reg [⟨some 4, .p (.mov (.c (.bool false))), none⟩])
  .ret) .skip))
  (.seq (.reg [⟨some 11, .p (.mov (.t 1)), none⟩,
    ⟨some 12, .l (.make 1 1 [(.bool false)] (.t 11)), none⟩,
    ⟨some 5, .p (.mov (.t 12)), none⟩])
  (.seq (.seq (.reg [⟨some 6, .p (.mov (.c (.int .i64 0))), none⟩])
  (.block 0 (.loop (.seq (.seq (.reg [⟨some 13, .p (.mov (.t 6)), none⟩,
    ⟨some 14, .p (.mov (.t 1)), none⟩,
    ⟨some 15, .p (.bin .lss (.t 13) (.t 14)), none⟩])
  (.cond (.t 15) .skip (.exit 0)))
  (.seq (.block 1 (.seq (.seq (.reg [⟨some 18, .p (.mov (.t 0)), none⟩,
    ⟨some 19, .p (.mov (.t 6)), none⟩,
    ⟨some 20, .p (.idxA 1 none (.t 18) (.t 19)), none⟩,
    ⟨some 21, .h (.load false 1 (.t 20)), none⟩,
    ⟨some 22, .p (.bin .lss (.t 21) (.c (.int .i64 0))), none⟩,
    ⟨some 23, .p (.mov (.t 22)), none⟩,
    ⟨some 24, .p (.mov (.t 0)), (some (23, false))⟩,
    ⟨some 25, .p (.mov (.t 6)), (some (23, false))⟩,
    ⟨some 26, .p (.idxA 1 none (.t 24) (.t 25)), (some (23, false))⟩,
    ⟨some 27, .h (.load false 1 (.t 26)), (some (23, false))⟩,
    ⟨some 28, .p (.mov (.t 1)), (some (23, false))⟩,
    ⟨some 29, .p (.bin .geq (.t 27) (.t 28)), (some (23, false))⟩,
    ⟨some 30, .p (.pick (.t 23) (.c (.bool true)) (.t 29)), none⟩,
    ⟨some 31, .p (.mov (.t 30)), none⟩,
    ⟨some 32, .p (.mov (.t 5)), (some (31, false))⟩,
    ⟨some 33, .p (.mov (.t 0)), (some (31, false))⟩,
    ⟨some 34, .p (.mov (.t 6)), (some (31, false))⟩,
    ⟨some 35, .p (.idxA 1 none (.t 33) (.t 34)), (some (31, false))⟩,
    ⟨some 36, .h (.load false 1 (.t 35)), (some (31, false))⟩,
    ⟨some 37, .p (.idxA 1 none (.t 32) (.t 36)), (some (31, false))⟩,
    ⟨some 38, .h (.load false 1 (.t 37)), (some (31, false))⟩,
    ⟨some 39, .p (.pick (.t 31) (.c (.bool true)) (.t 38)), none⟩])
  (.cond (.t 39) (.seq (.reg [⟨some 4, .p (.mov (.c (.bool false))), none⟩])
  .ret) .skip))
  (.reg [⟨some 40, .p (.mov (.t 5)), none⟩,
    ⟨some 41, .p (.mov (.t 0)), none⟩,
    ⟨some 42, .p (.mov (.t 6)), none⟩,
    ⟨some 43, .p (.idxA 1 none (.t 41) (.t 42)), none⟩,
    ⟨some 44, .h (.load false 1 (.t 43)), none⟩,
    ⟨some 45, .p (.idxA 1 none (.t 40) (.t 44)), none⟩,
    ⟨none, .h (.store 1 (.t 45) (.c (.bool true))), none⟩])))
  (.reg [⟨some 16, .p (.mov (.t 6)), none⟩,
    ⟨some 17, .p (.bin .add (.t 16) (.c (.int .i64 1))), none⟩,
    ⟨some 6, .p (.mov (.t 17)), none⟩]))))))
  (.seq (.reg [⟨some 4, .p (.mov (.c (.bool true))), none⟩])
  .ret)))))
def rs16 : List AR := [.tmp 4]
theorem ok16 : okF Try.prog 16 46 ac16 rs16 = true := by kernel_rfl
/-- simulacrum/order.Legal -/
def ac17 : AC := (.seq (.reg [⟨some 4, .p (.mov (.c (.bool false))), none⟩])
  (.seq (.reg [⟨some 14, .p (.mov (.t 1)), none⟩,
    ⟨some 15, .call 35 [(.t 14)], none⟩,
    ⟨some 16, .call 34 [(.t 15)], none⟩,
    ⟨some 5, .p (.mov (.t 16)), none⟩])
  (.seq (.seq (.reg [⟨some 17, .p (.mov (.t 5)), none⟩,
    ⟨some 18, .p (.len false (.t 17)), none⟩,
    ⟨some 19, .p (.mov (.c (.int .i64 0))), none⟩])
  (.block 0 (.loop (.seq (.reg [⟨some 20, .p (.bin .lss (.t 19) (.t 18)), none⟩])
  (.seq (.cond (.t 20) .skip (.exit 0))
  (.seq (.block 1 (.seq (.reg [⟨some 21, .p (.mov (.t 19)), none⟩,
    ⟨some 22, .p (.idxA 1 none (.t 17) (.t 19)), none⟩,
    ⟨some 23, .h (.load false 1 (.t 22)), none⟩,
    ⟨some 6, .p (.mov (.t 21)), none⟩,
    ⟨some 7, .p (.mov (.t 23)), none⟩])
  (.seq (.reg [⟨some 24, .p (.mov (.t 7)), none⟩,
    ⟨some 25, .p (.mov (.t 6)), none⟩,
    ⟨some 26, .p (.bin .neq (.t 24) (.t 25)), none⟩])
  (.cond (.t 26) (.seq (.reg [⟨some 4, .p (.mov (.c (.bool false))), none⟩])
  .ret) .skip))))
  (.reg [⟨some 27, .p (.bin .add (.t 19) (.c (.int .i64 1))), none⟩,
    ⟨some 19, .p (.mov (.t 27)), none⟩])))))))
  (.seq (.seq (.reg [⟨some 28, .p (.mov (.t 5)), none⟩,
    ⟨some 29, .p (.len false (.t 28)), none⟩,
    ⟨some 30, .p (.mov (.t 0)), none⟩,
    ⟨some 31, .p (.len false (.t 30)), none⟩,
    ⟨some 32, .p (.bin .neq (.t 29) (.t 31)), none⟩])
  (.cond (.t 32) (.seq (.reg [⟨some 4, .p (.mov (.c (.bool false))), none⟩])
  .ret) .skip))
  (.seq (.reg [⟨some 34, .p (.mov (.t 0)), none⟩,
    ⟨some 35, .call 30 [(.t 34)], none⟩,
    ⟨some 33, .p (.mov (.t 35)), none⟩,
    ⟨some 36, .p (.extract 0 (.t 33)), none⟩,
    ⟨some 37, .p (.extract 1 (.t 33)), none⟩,
    ⟨some 8, .p (.mov (.t 36)), none⟩,
    ⟨some 9, .p (.mov (.t 37)), none⟩])
  (.seq (.reg [⟨some 10, .h (.alloc [(.int .u64 0), (.int .u64 0), (.int .u64 0), (.int .u64 0), (.int .u64 0), (.int .u64 0), (.int .u64 0)]), none⟩])
  (.seq (.seq (.reg [⟨some 38, .p (.mov (.t 1)), none⟩,
    ⟨some 39, .p (.len false (.t 38)), none⟩,
    ⟨some 40, .p (.mov (.c (.int .i64 0))), none⟩])
  (.block 2 (.loop (.seq (.reg [⟨some 41, .p (.bin .lss (.t 40) (.t 39)), none⟩])
  (.seq (.cond (.t 41) .skip (.exit 2))
  (.seq (.block 3 (.seq (.reg [⟨some 42, .p (.idxA 1 none (.t 38) (.t 40)), none⟩,
    ⟨some 43, .h (.load false 1 (.t 42)), none⟩,
    ⟨some 12, .p (.mov (.t 43)), none⟩])
  (.seq (.seq (.reg [⟨some 44, .p (.mov (.c (.int .i64 0))), none⟩])
  (.block 4 (.loop (.seq (.reg [⟨some 45, .p (.bin .lss (.t 44) (.c (.int .i64 7))), none⟩])
  (.seq (.cond (.t 45) .skip (.exit 4))
  (.seq (.block 5 (.seq (.reg [⟨some 46, .p (.mov (.t 44)), none⟩,
    ⟨some 13, .p (.mov (.t 46)), none⟩])
  (.seq (.draw 11 [] [⟨some 47, .p (.mov (.t 8)), none⟩,
    ⟨some 48, .p (.mov (.t 12)), none⟩,
    ⟨some 49, .p (.mov (.t 13)), none⟩,
    ⟨some 50, .p (.idxA 7 none (.t 47) (.t 48)), none⟩,
    ⟨some 51, .p (.idxA 1 (some 7) (.t 50) (.t 49)), none⟩,
    ⟨some 52, .h (.load false 1 (.t 51)), none⟩,
    ⟨some 53, .p (.mov (.t 13)), none⟩,
    ⟨some 54, .p (.idxA 1 (some 7) (.t 10) (.t 53)), none⟩,
    ⟨some 55, .h (.load false 1 (.t 54)), none⟩,
    ⟨some 56, .p (.binw .andNot (.t 52) (.t 55)), none⟩,
    ⟨some 57, .p (.binw .neq (.t 56) (.c (.int .u64 0))), none⟩])
  (.cond (.t 57) (.seq (.reg [⟨some 4, .p (.mov (.c (.bool false))), none⟩])
  .ret) .skip))))
  (.reg [⟨some 58, .p (.bin .add (.t 44) (.c (.int .i64 1))), none⟩,
    ⟨some 44, .p (.mov (.t 58)), none⟩])))))))
  (.reg [⟨some 59, .p (.mov (.t 12)), none⟩,
    ⟨some 60, .call 36 [(.t 10), (.t 59)], none⟩]))))
  (.reg [⟨some 61, .p (.bin .add (.t 40) (.c (.int .i64 1))), none⟩,
    ⟨some 40, .p (.mov (.t 61)), none⟩])))))))
  (.seq (.reg [⟨some 4, .p (.mov (.c (.bool true))), none⟩])
  .ret))))))))
def rs17 : List AR := [.tmp 4]
theorem ok17 : okF Try.prog 17 62 ac17 rs17 = true := by kernel_rfl
/-- simulacrum/simulacrumlaw21.keeps -/
def ac18 : AC := (.seq (.reg [⟨some 8, .p (.mov (.c (.bool false))), none⟩])
  (.seq (.reg [⟨some 15, .p (.mov (.t 0)), none⟩,
    ⟨some 16, .p (.len false (.t 15)), none⟩,
    ⟨some 17, .l (.make 1 8 [(.int .i64 0)] (.t 16)), none⟩,
    ⟨some 9, .p (.mov (.t 17)), none⟩])
  (.seq (.seq (.reg [⟨some 10, .p (.mov (.c (.int .i64 0))), none⟩])
  (.block 0 (.loop (.seq (.seq (.reg [⟨some 18, .p (.mov (.t 10)), none⟩,
    ⟨some 19, .p (.mov (.t 1)), none⟩,
    ⟨some 20, .p (.len false (.t 19)), none⟩,
    ⟨some 21, .p (.bin .lss (.t 18) (.t 20)), none⟩])
  (.cond (.t 21) .skip (.exit 0)))
  (.seq (.block 1 (.reg [⟨some 24, .p (.mov (.t 9)), none⟩,
    ⟨some 25, .p (.mov (.t 1)), none⟩,
    ⟨some 26, .p (.mov (.t 10)), none⟩,
    ⟨some 27, .p (.idxA 1 none (.t 25) (.t 26)), none⟩,
    ⟨some 28, .h (.load false 1 (.t 27)), none⟩,
    ⟨some 29, .p (.mov (.t 10)), none⟩,
    ⟨some 30, .p (.idxA 1 none (.t 24) (.t 28)), none⟩,
    ⟨none, .h (.store 1 (.t 30) (.t 29)), none⟩]))
  (.reg [⟨some 22, .p (.mov (.t 10)), none⟩,
    ⟨some 23, .p (.bin .add (.t 22) (.c (.int .i64 1))), none⟩,
    ⟨some 10, .p (.mov (.t 23)), none⟩]))))))
  (.seq (.seq (.reg [⟨some 11, .p (.mov (.c (.int .i64 0))), none⟩])
  (.block 2 (.loop (.seq (.seq (.reg [⟨some 31, .p (.mov (.t 11)), none⟩,
    ⟨some 32, .p (.mov (.t 0)), none⟩,
    ⟨some 33, .p (.len false (.t 32)), none⟩,
    ⟨some 34, .p (.bin .lss (.t 31) (.t 33)), none⟩])
  (.cond (.t 34) .skip (.exit 2)))
  (.seq (.block 3 (.seq (.reg [⟨some 12, .p (.mov (.c (.int .i64 0))), none⟩])
  (.block 4 (.loop (.seq (.seq (.reg [⟨some 37, .p (.mov (.t 12)), none⟩,
    ⟨some 38, .p (.mov (.t 11)), none⟩,
    ⟨some 39, .p (.bin .lss (.t 37) (.t 38)), none⟩])
  (.cond (.t 39) .skip (.exit 4)))
  (.seq (.block 5 (.seq (.draw 22 [] [⟨some 42, .p (.mov (.t 0)), none⟩,
    ⟨some 43, .p (.mov (.t 11)), none⟩,
    ⟨some 44, .p (.idxA 3 none (.t 42) (.t 43)), none⟩,
    ⟨some 45, .p (.fieldA 0 (.t 44)), none⟩,
    ⟨some 46, .h (.load false 1 (.t 45)), none⟩,
    ⟨some 47, .p (.mov (.t 0)), none⟩,
    ⟨some 48, .p (.mov (.t 12)), none⟩,
    ⟨some 49, .p (.idxA 3 none (.t 47) (.t 48)), none⟩,
    ⟨some 50, .p (.fieldA 0 (.t 49)), none⟩,
    ⟨some 51, .h (.load false 1 (.t 50)), none⟩,
    ⟨some 52, .p (.bin .eql (.t 46) (.t 51)), none⟩,
    ⟨some 53, .p (.mov (.t 52)), none⟩,
    ⟨some 54, .p (.mov (.t 9)), (some (53, true))⟩,
    ⟨some 55, .p (.mov (.t 12)), (some (53, true))⟩,
    ⟨some 56, .p (.idxA 1 none (.t 54) (.t 55)), (some (53, true))⟩,
    ⟨some 57, .h (.load false 1 (.t 56)), (some (53, true))⟩,
    ⟨some 58, .p (.mov (.t 9)), (some (53, true))⟩,
    ⟨some 59, .p (.mov (.t 11)), (some (53, true))⟩,
    ⟨some 60, .p (.idxA 1 none (.t 58) (.t 59)), (some (53, true))⟩,
    ⟨some 61, .h (.load false 1 (.t 60)), (some (53, true))⟩,
    ⟨some 62, .p (.bin .gtr (.t 57) (.t 61)), (some (53, true))⟩,
    ⟨some 63, .p (.pick (.t 53) (.t 62) (.c (.bool false))), none⟩])
  (.cond (.t 63) (.seq (.reg [⟨some 8, .p (.mov (.c (.bool false))), none⟩])
  .ret) .skip)))
  (.reg [⟨some 40, .p (.mov (.t 12)), none⟩,
    ⟨some 41, .p (.bin .add (.t 40) (.c (.int .i64 1))), none⟩,
    ⟨some 12, .p (.mov (.t 41)), none⟩])))))))
  (.reg [⟨some 35, .p (.mov (.t 11)), none⟩,
    ⟨some 36, .p (.bin .add (.t 35) (.c (.int .i64 1))), none⟩,
    ⟨some 11, .p (.mov (.t 36)), none⟩]))))))
  (.seq (.seq (.reg [⟨some 13, .p (.mov (.c (.int .i64 0))), none⟩])
  (.block 6 (.loop (.seq (.seq (.reg [⟨some 64, .p (.mov (.t 13)), none⟩,
    ⟨some 65, .p (.mov (.t 2)), none⟩,
    ⟨some 66, .p (.len false (.t 65)), none⟩,
    ⟨some 67, .p (.bin .lss (.t 64) (.t 66)), none⟩])
  (.cond (.t 67) .skip (.exit 6)))
  (.seq (.block 7 (.seq (.reg [⟨some 70, .p (.mov (.t 2)), none⟩,
    ⟨some 71, .p (.mov (.t 13)), none⟩,
    ⟨some 72, .p (.idxA 2 none (.t 70) (.t 71)), none⟩,
    ⟨some 73, .h (.load true 2 (.t 72)), none⟩,
    ⟨some 14, .h (.alloc [(.int .i64 0), (.int .i64 0)]), none⟩,
    ⟨none, .h (.store 2 (.t 14) (.t 73)), none⟩])
  (.seq (.draw 35 [] [⟨some 74, .p (.fieldA 0 (.t 14)), none⟩,
    ⟨some 75, .h (.load false 1 (.t 74)), none⟩,
    ⟨some 76, .p (.bin .lss (.t 75) (.c (.int .i64 0))), none⟩,
    ⟨some 77, .p (.mov (.t 76)), none⟩,
    ⟨some 78, .p (.fieldA 1 (.t 14)), (some (77, false))⟩,
    ⟨some 79, .h (.load false 1 (.t 78)), (some (77, false))⟩,
    ⟨some 80, .p (.mov (.t 0)), (some (77, false))⟩,
    ⟨some 81, .p (.len false (.t 80)), (some (77, false))⟩,
    ⟨some 82, .p (.bin .geq (.t 79) (.t 81)), (some (77, false))⟩,
    ⟨some 83, .p (.pick (.t 77) (.c (.bool true)) (.t 82)), none⟩,
    ⟨some 84, .p (.mov (.t 83)), none⟩,
    ⟨some 85, .p (.fieldA 0 (.t 14)), (some (84, false))⟩,
    ⟨some 86, .h (.load false 1 (.t 85)), (some (84, false))⟩,
    ⟨some 87, .p (.fieldA 1 (.t 14)), (some (84, false))⟩,
    ⟨some 88, .h (.load false 1 (.t 87)), (some (84, false))⟩,
    ⟨some 89, .p (.bin .geq (.t 86) (.t 88)), (some (84, false))⟩,
    ⟨some 90, .p (.pick (.t 84) (.c (.bool true)) (.t 89)), none⟩,
    ⟨some 91, .p (.mov (.t 90)), none⟩,
    ⟨some 92, .p (.mov (.t 13)), (some (91, false))⟩,
    ⟨some 93, .p (.mov (.t 3)), (some (91, false))⟩,
    ⟨some 94, .p (.bin .neq (.t 92) (.t 93)), (some (91, false))⟩,
    ⟨some 95, .p (.mov (.t 94)), (some (91, false))⟩,
    ⟨some 96, .p (.mov (.t 9)), (some (95, true))⟩,
    ⟨some 97, .p (.fieldA 0 (.t 14)), (some (95, true))⟩,
    ⟨some 98, .h (.load false 1 (.t 97)), (some (95, true))⟩,
    ⟨some 99, .p (.idxA 1 none (.t 96) (.t 98)), (some (95, true))⟩,
    ⟨some 100, .h (.load false 1 (.t 99)), (some (95, true))⟩,
    ⟨some 101, .p (.mov (.t 9)), (some (95, true))⟩,
    ⟨some 102, .p (.fieldA 1 (.t 14)), (some (95, true))⟩,
    ⟨some 103, .h (.load false 1 (.t 102)), (some (95, true))⟩,
    ⟨some 104, .p (.idxA 1 none (.t 101) (.t 103)), (some (95, true))⟩,
    ⟨some 105, .h (.load false 1 (.t 104)), (some (95, true))⟩,
    ⟨some 106, .p (.bin .gtr (.t 100) (.t 105)), (some (95, true))⟩,
    ⟨some 107, .p (.pick (.t 95) (.t 106) (.c (.bool false))), (some (91, false))⟩,
    ⟨some 108, .p (.pick (.t 91) (.c (.bool true)) (.t 107)), none⟩])
  (.cond (.t 108) (.seq (.reg [⟨some 8, .p (.mov (.c (.bool false))), none⟩])
  .ret) .skip))))
  (.reg [⟨some 68, .p (.mov (.t 13)), none⟩,
    ⟨some 69, .p (.bin .add (.t 68) (.c (.int .i64 1))), none⟩,
    ⟨some 13, .p (.mov (.t 69)), none⟩]))))))
  (.seq (.reg [⟨some 8, .p (.mov (.c (.bool true))), none⟩])
  .ret))))))
def rs18 : List AR := [.tmp 8]
theorem ok18 : okF Try.prog 18 109 ac18 rs18 = true := by kernel_rfl
/-- simulacrum/simulacrumlaw21.swapped -/
def ac19 : AC := (.seq (.reg [⟨some 3, .h (.box (.t 1)), none⟩,
    ⟨some 4, .p (.mov (.c .nils)), none⟩])
  (.seq (.reg [⟨some 11, .p (.mov (.t 0)), none⟩,
    ⟨some 12, .p (.len false (.t 11)), none⟩,
    ⟨some 13, .l (.make 1 1 [(.bool false)] (.t 12)), none⟩,
    ⟨some 5, .p (.mov (.t 13)), none⟩])
  (.seq (.seq (.reg [⟨some 6, .p (.mov (.c (.int .i64 0))), none⟩])
  (.block 0 (.loop (.seq (.seq (.reg [⟨some 14, .p (.mov (.t 6)), none⟩,
    ⟨some 15, .p (.mov (.t 0)), none⟩,
    ⟨some 16, .p (.len false (.t 15)), none⟩,
    ⟨some 17, .p (.bin .lss (.t 14) (.t 16)), none⟩])
  (.cond (.t 17) .skip (.exit 0)))
  (.seq (.block 1 (.seq (.seq (.reg [⟨some 20, .p (.mov (.t 6)), none⟩,
    ⟨some 21, .p (.fieldA 0 (.t 3)), none⟩,
    ⟨some 22, .h (.load false 1 (.t 21)), none⟩,
    ⟨some 23, .p (.bin .eql (.t 20) (.t 22)), none⟩])
  (.cond (.t 23) (.reg [⟨some 24, .p (.mov (.t 5)), none⟩,
    ⟨some 25, .p (.mov (.t 6)), none⟩,
    ⟨some 26, .p (.idxA 1 none (.t 24) (.t 25)), none⟩,
    ⟨none, .h (.store 1 (.t 26) (.c (.bool true))), none⟩]) .skip))
  (.seq (.reg [⟨some 27, .p (.fieldA 0 (.t 3)), none⟩,
    ⟨some 28, .h (.load false 1 (.t 27)), none⟩,
    ⟨some 7, .p (.mov (.t 28)), none⟩])
  (.block 2 (.loop (.seq (.seq (.reg [⟨some 29, .p (.mov (.t 7)), none⟩,
    ⟨some 30, .p (.mov (.t 6)), none⟩,
    ⟨some 31, .p (.bin .lss (.t 29) (.t 30)), none⟩,
    ⟨some 32, .p (.mov (.t 31)), none⟩,
    ⟨some 33, .p (.mov (.t 6)), (some (32, true))⟩,
    ⟨some 34, .p (.fieldA 1 (.t 3)), (some (32, true))⟩,
    ⟨some 35, .h (.load false 1 (.t 34)), (some (32, true))⟩,
    ⟨some 36, .p (.bin .neq (.t 33) (.t 35)), (some (32, true))⟩,
    ⟨some 37, .p (.pick (.t 32) (.t 36) (.c (.bool false))), none⟩])
  (.cond (.t 37) .skip (.exit 2)))
  (.seq (.block 3 (.draw 25 [(20, 24), (5, 24), (10, 24), (15, 24), (19, 24)] [⟨some 40, .p (.mov (.t 5)), none⟩,
    ⟨some 41, .p (.mov (.t 6)), none⟩,
    ⟨some 42, .p (.mov (.t 5)), none⟩,
    ⟨some 43, .p (.mov (.t 6)), none⟩,
    ⟨some 44, .p (.idxA 1 none (.t 42) (.t 43)), none⟩,
    ⟨some 45, .h (.load false 1 (.t 44)), none⟩,
    ⟨some 46, .p (.mov (.t 45)), none⟩,
    ⟨some 47, .p (.mov (.t 5)), (some (46, false))⟩,
    ⟨some 48, .p (.mov (.t 7)), (some (46, false))⟩,
    ⟨some 49, .p (.idxA 1 none (.t 47) (.t 48)), (some (46, false))⟩,
    ⟨some 50, .h (.load false 1 (.t 49)), (some (46, false))⟩,
    ⟨some 51, .p (.mov (.t 50)), (some (46, false))⟩,
    ⟨some 52, .p (.mov (.t 0)), (some (51, true))⟩,
    ⟨some 53, .p (.mov (.t 7)), (some (51, true))⟩,
    ⟨some 54, .p (.idxA 3 none (.t 52) (.t 53)), (some (51, true))⟩,
    ⟨some 55, .h (.load true 3 (.t 54)), (some (51, true))⟩,
    ⟨some 56, .p (.mov (.t 0)), (some (51, true))⟩,
    ⟨some 57, .p (.mov (.t 6)), (some (51, true))⟩,
    ⟨some 58, .p (.idxA 3 none (.t 56) (.t 57)), (some (51, true))⟩,
    ⟨some 59, .h (.load true 3 (.t 58)), (some (51, true))⟩,
    ⟨some 60, .call 11 [(.t 55), (.t 59)], (some (51, true))⟩,
    ⟨some 61, .p (.pick (.t 51) (.t 60) (.c (.bool false))), (some (46, false))⟩,
    ⟨some 62, .p (.pick (.t 46) (.c (.bool true)) (.t 61)), none⟩,
    ⟨some 63, .p (.idxA 1 none (.t 40) (.t 41)), none⟩,
    ⟨none, .h (.store 1 (.t 63) (.t 62)), none⟩]))
  (.reg [⟨some 38, .p (.mov (.t 7)), none⟩,
    ⟨some 39, .p (.bin .add (.t 38) (.c (.int .i64 1))), none⟩,
    ⟨some 7, .p (.mov (.t 39)), none⟩]))))))))
  (.reg [⟨some 18, .p (.mov (.t 6)), none⟩,
    ⟨some 19, .p (.bin .add (.t 18) (.c (.int .i64 1))), none⟩,
    ⟨some 6, .p (.mov (.t 19)), none⟩]))))))
  (.seq (.reg [⟨some 8, .p (.mov (.c .nils)), none⟩])
  (.seq (.seq (.reg [⟨some 9, .p (.mov (.c (.int .i64 0))), none⟩])
  (.block 4 (.loop (.seq (.seq (.reg [⟨some 64, .p (.mov (.t 9)), none⟩,
    ⟨some 65, .p (.mov (.t 0)), none⟩,
    ⟨some 66, .p (.len false (.t 65)), none⟩,
    ⟨some 67, .p (.bin .lss (.t 64) (.t 66)), none⟩])
  (.cond (.t 67) .skip (.exit 4)))
  (.seq (.block 5 (.seq (.reg [⟨some 70, .p (.mov (.t 5)), none⟩,
    ⟨some 71, .p (.mov (.t 9)), none⟩,
    ⟨some 72, .p (.idxA 1 none (.t 70) (.t 71)), none⟩,
    ⟨some 73, .h (.load false 1 (.t 72)), none⟩,
    ⟨some 74, .p (.un .not (.t 73)), none⟩,
    ⟨some 75, .p (.mov (.t 74)), none⟩,
    ⟨some 76, .p (.mov (.t 9)), (some (75, true))⟩,
    ⟨some 77, .p (.fieldA 1 (.t 3)), (some (75, true))⟩,
    ⟨some 78, .h (.load false 1 (.t 77)), (some (75, true))⟩,
    ⟨some 79, .p (.bin .leq (.t 76) (.t 78)), (some (75, true))⟩,
    ⟨some 80, .p (.pick (.t 75) (.t 79) (.c (.bool false))), none⟩])
  (.cond (.t 80) (.reg [⟨some 81, .p (.mov (.t 8)), none⟩,
    ⟨some 82, .p (.mov (.t 9)), none⟩,
    ⟨some 83, .d (.bslice 1 1 [(.int .i64 0)] [(0, (.t 82))]), none⟩,
    ⟨some 84, .l (.append 1 8 (.t 81) (.t 83)), none⟩,
    ⟨some 8, .p (.mov (.t 84)), none⟩]) .skip)))
  (.reg [⟨some 68, .p (.mov (.t 9)), none⟩,
    ⟨some 69, .p (.bin .add (.t 68) (.c (.int .i64 1))), none⟩,
    ⟨some 9, .p (.mov (.t 69)), none⟩]))))))
  (.seq (.seq (.reg [⟨some 10, .p (.mov (.c (.int .i64 0))), none⟩])
  (.block 6 (.loop (.seq (.seq (.reg [⟨some 85, .p (.mov (.t 10)), none⟩,
    ⟨some 86, .p (.mov (.t 0)), none⟩,
    ⟨some 87, .p (.len false (.t 86)), none⟩,
    ⟨some 88, .p (.bin .lss (.t 85) (.t 87)), none⟩])
  (.cond (.t 88) .skip (.exit 6)))
  (.seq (.block 7 (.seq (.reg [⟨some 91, .p (.mov (.t 5)), none⟩,
    ⟨some 92, .p (.mov (.t 10)), none⟩,
    ⟨some 93, .p (.idxA 1 none (.t 91) (.t 92)), none⟩,
    ⟨some 94, .h (.load false 1 (.t 93)), none⟩,
    ⟨some 95, .p (.mov (.t 94)), none⟩,
    ⟨some 96, .p (.mov (.t 10)), (some (95, false))⟩,
    ⟨some 97, .p (.fieldA 1 (.t 3)), (some (95, false))⟩,
    ⟨some 98, .h (.load false 1 (.t 97)), (some (95, false))⟩,
    ⟨some 99, .p (.bin .gtr (.t 96) (.t 98)), (some (95, false))⟩,
    ⟨some 100, .p (.pick (.t 95) (.c (.bool true)) (.t 99)), none⟩])
  (.cond (.t 100) (.reg [⟨some 101, .p (.mov (.t 8)), none⟩,
    ⟨some 102, .p (.mov (.t 10)), none⟩,
    ⟨some 103, .d (.bslice 1 1 [(.int .i64 0)] [(0, (.t 102))]), none⟩,
    ⟨some 104, .l (.append 1 8 (.t 101) (.t 103)), none⟩,
    ⟨some 8, .p (.mov (.t 104)), none⟩]) .skip)))
  (.reg [⟨some 89, .p (.mov (.t 10)), none⟩,
    ⟨some 90, .p (.bin .add (.t 89) (.c (.int .i64 1))), none⟩,
    ⟨some 10, .p (.mov (.t 90)), none⟩]))))))
  (.seq (.reg [⟨some 105, .p (.mov (.t 8)), none⟩,
    ⟨some 4, .p (.mov (.t 105)), none⟩])
  .ret)))))))
def rs19 : List AR := [.tmp 4]
theorem ok19 : okF Try.prog 19 106 ac19 rs19 = true := by kernel_rfl
/-- simulacrum/simulacrumlaw21.example -/
def ac20 : AC := (.seq (.reg [⟨some 0, .p (.mov (.c .nils)), none⟩])
  (.seq (.reg [⟨some 1, .call 37 [(.c (.int .i64 0)), (.c (.int .i64 8)), (.c (.bool true))], none⟩,
    ⟨some 2, .call 37 [(.c (.int .i64 1)), (.c (.int .i64 8)), (.c (.bool false))], none⟩,
    ⟨some 3, .call 37 [(.c (.int .i64 0)), (.c (.int .i64 12)), (.c (.bool true))], none⟩,
    ⟨some 4, .call 37 [(.c (.int .i64 1)), (.c (.int .i64 12)), (.c (.bool true))], none⟩,
    ⟨some 5, .call 37 [(.c (.int .i64 1)), (.c (.int .i64 100)), (.c (.bool false))], none⟩,
    ⟨some 6, .l (.bslice 3 5 [(.int .i64 0), (.bool false), .nils] [(0, (.t 1)), (3, (.t 2)), (6, (.t 3)), (9, (.t 4)), (12, (.t 5))]), none⟩,
    ⟨some 0, .p (.mov (.t 6)), none⟩])
  .ret))
def rs20 : List AR := [.tmp 0]
theorem ok20 : okF Try.prog 20 7 ac20 rs20 = true := by kernel_rfl
/-- simulacrum/simulacrumref21.Same -/
def ac21 : AC := (.seq (.reg [⟨some 4, .p (.mov (.c (.bool false))), none⟩])
  (.seq (.seq (.reg [⟨some 6, .p (.mov (.t 0)), none⟩,
    ⟨some 7, .p (.len false (.t 6)), none⟩,
    ⟨some 8, .p (.mov (.t 1)), none⟩,
    ⟨some 9, .p (.len false (.t 8)), none⟩,
    ⟨some 10, .p (.bin .neq (.t 7) (.t 9)), none⟩])
  (.cond (.t 10) (.seq (.reg [⟨some 4, .p (.mov (.c (.bool false))), none⟩])
  .ret) .skip))
  (.seq (.seq (.reg [⟨some 5, .p (.mov (.c (.int .i64 0))), none⟩])
  (.block 0 (.loop (.seq (.seq (.reg [⟨some 11, .p (.mov (.t 5)), none⟩,
    ⟨some 12, .p (.mov (.t 0)), none⟩,
    ⟨some 13, .p (.len false (.t 12)), none⟩,
    ⟨some 14, .p (.bin .lss (.t 11) (.t 13)), none⟩])
  (.cond (.t 14) .skip (.exit 0)))
  (.seq (.block 1 (.seq (.draw 9 [] [⟨some 17, .p (.mov (.t 0)), none⟩,
    ⟨some 18, .p (.mov (.t 5)), none⟩,
    ⟨some 19, .p (.idxA 1 none (.t 17) (.t 18)), none⟩,
    ⟨some 20, .h (.load false 1 (.t 19)), none⟩,
    ⟨some 21, .p (.mov (.t 1)), none⟩,
    ⟨some 22, .p (.mov (.t 5)), none⟩,
    ⟨some 23, .p (.idxA 1 none (.t 21) (.t 22)), none⟩,
    ⟨some 24, .h (.load false 1 (.t 23)), none⟩,
    ⟨some 25, .p (.bin .neq (.t 20) (.t 24)), none⟩])
  (.cond (.t 25) (.seq (.reg [⟨some 4, .p (.mov (.c (.bool false))), none⟩])
  .ret) .skip)))
  (.reg [⟨some 15, .p (.mov (.t 5)), none⟩,
    ⟨some 16, .p (.bin .add (.t 15) (.c (.int .i64 1))), none⟩,
    ⟨some 5, .p (.mov (.t 16)), none⟩]))))))
  (.seq (.reg [⟨some 4, .p (.mov (.c (.bool true))), none⟩])
  .ret))))
def rs21 : List AR := [.tmp 4]
theorem ok21 : okF Try.prog 21 26 ac21 rs21 = true := by kernel_rfl
/-- simulacrum/order.Canonical -/
def ac22 : AC := (.seq (.reg [⟨some 1, .h (.box (.t 0)), none⟩,
    ⟨some 2, .p (.mov (.c .nils)), none⟩])
  (.seq (.reg [⟨some 3, .h (.load false 1 (.t 1)), none⟩,
    ⟨some 4, .p (.mkfn 39 [(.t 1)]), none⟩,
    ⟨some 5, .call 38 [(.t 3), (.t 4)], none⟩,
    ⟨some 2, .p (.mov (.t 5)), none⟩])
  .ret))
def rs22 : List AR := [.tmp 2]
theorem ok22 : okF Try.prog 22 6 ac22 rs22 = true := by kernel_rfl
/-- simulacrum/order.Extend -/
def ac23 : AC := (.seq (.reg [⟨some 3, .h (.box (.t 1)), none⟩,
    ⟨some 4, .p (.mov (.c .nils)), none⟩])
  (.seq (.reg [⟨some 5, .p (.mov (.t 0)), none⟩,
    ⟨some 6, .p (.mkfn 42 [(.t 3)]), none⟩,
    ⟨some 7, .call 38 [(.t 5), (.t 6)], none⟩,
    ⟨some 4, .p (.mov (.t 7)), none⟩])
  .ret))
def rs23 : List AR := [.tmp 4]
theorem ok23 : okF Try.prog 23 8 ac23 rs23 = true := by kernel_rfl
/-- slices.Clone[[]simulacrum/api.Access,simulacrum/api.Access] -/
def ac24 : AC := (.seq (.reg [⟨some 2, .p (.mov (.c .nils)), none⟩])
  (.seq (.seq (.reg [⟨some 3, .p (.mov (.t 0)), none⟩,
    ⟨some 4, .nq false (.t 3), none⟩])
  (.cond (.t 4) (.seq (.reg [⟨some 2, .p (.mov (.c .nils)), none⟩])
  .ret) .skip))
  (.seq (.reg [⟨some 5, .l (.bslice 3 0 [(.int .i64 0), (.int .i64 0), (.bool false)] []), none⟩,
    ⟨some 6, .p (.mov (.t 0)), none⟩,
    ⟨some 7, .l (.append 3 24 (.t 5) (.t 6)), none⟩,
    ⟨some 2, .p (.mov (.t 7)), none⟩])
  .ret)))
def rs24 : List AR := [.tmp 2]
theorem ok24 : okF Try.prog 24 8 ac24 rs24 = true := by kernel_rfl
/-- slices.ContainsFunc[[]simulacrum/api.Access,simulacrum/api.Access] -/
def ac25 : AC := (.seq (.reg [⟨some 4, .p (.mov (.c (.bool false))), none⟩])
  (.seq (.reg [⟨some 5, .p (.mov (.t 0)), none⟩,
    ⟨some 6, .p (.mov (.t 1)), none⟩,
    ⟨some 7, .call 43 [(.t 5), (.t 6)], none⟩,
    ⟨some 8, .p (.bin .geq (.t 7) (.c (.int .i64 0))), none⟩,
    ⟨some 4, .p (.mov (.t 8)), none⟩])
  .ret))
def rs25 : List AR := [.tmp 4]
theorem ok25 : okF Try.prog 25 9 ac25 rs25 = true := by kernel_rfl
/-- simulacrum/order.Conflict$1 -/
def ac26 : AC := (.seq (.reg [⟨some 2, .h (.box (.t 0)), none⟩,
    ⟨some 3, .p (.mov (.c (.bool false))), none⟩])
  (.seq (.reg [⟨some 4, .p (.fieldA 2 (.t 1)), none⟩,
    ⟨some 5, .h (.load false 1 (.t 4)), none⟩,
    ⟨some 6, .p (.mkfn 27 [(.t 2)]), none⟩,
    ⟨some 7, .call 25 [(.t 5), (.t 6)], none⟩,
    ⟨some 3, .p (.mov (.t 7)), none⟩])
  .ret))
def rs26 : List AR := [.tmp 3]
theorem ok26 : okF Try.prog 26 8 ac26 rs26 = true := by kernel_rfl
/-- simulacrum/order.Conflict$1$1 -/
def ac27 : AC := (.seq (.reg [⟨some 2, .h (.box (.t 0)), none⟩,
    ⟨some 3, .p (.mov (.c (.bool false))), none⟩])
  (.seq (.reg [⟨some 4, .h (.load true 3 (.t 1)), none⟩,
    ⟨some 5, .h (.load true 3 (.t 2)), none⟩,
    ⟨some 6, .call 28 [(.t 4), (.t 5)], none⟩,
    ⟨some 3, .p (.mov (.t 6)), none⟩])
  .ret))
def rs27 : List AR := [.tmp 3]
theorem ok27 : okF Try.prog 27 7 ac27 rs27 = true := by kernel_rfl
/-- simulacrum/order.isCommon -/
def ac28 : AC := (.seq (.reg [⟨some 2, .h (.box (.t 0)), none⟩,
    ⟨some 3, .h (.box (.t 1)), none⟩,
    ⟨some 4, .p (.mov (.c (.bool false))), none⟩])
  (.seq (.reg [⟨some 5, .p (.fieldA 2 (.t 2)), none⟩,
    ⟨some 6, .h (.load false 1 (.t 5)), none⟩,
    ⟨some 7, .p (.mov (.t 6)), none⟩,
    ⟨some 8, .p (.fieldA 2 (.t 3)), (some (7, false))⟩,
    ⟨some 9, .h (.load false 1 (.t 8)), (some (7, false))⟩,
    ⟨some 10, .p (.pick (.t 7) (.c (.bool true)) (.t 9)), none⟩,
    ⟨some 11, .p (.mov (.t 10)), none⟩,
    ⟨some 12, .p (.fieldA 0 (.t 2)), (some (11, true))⟩,
    ⟨some 13, .h (.load false 1 (.t 12)), (some (11, true))⟩,
    ⟨some 14, .p (.fieldA 0 (.t 3)), (some (11, true))⟩,
    ⟨some 15, .h (.load false 1 (.t 14)), (some (11, true))⟩,
    ⟨some 16, .p (.fieldA 1 (.t 3)), (some (11, true))⟩,
    ⟨some 17, .h (.load false 1 (.t 16)), (some (11, true))⟩,
    ⟨some 18, .p (.bin .add (.t 15) (.t 17)), (some (11, true))⟩,
    ⟨some 19, .p (.bin .lss (.t 13) (.t 18)), (some (11, true))⟩,
    ⟨some 20, .p (.pick (.t 11) (.t 19) (.c (.bool false))), none⟩,
    ⟨some 21, .p (.mov (.t 20)), none⟩,
    ⟨some 22, .p (.fieldA 0 (.t 3)), (some (21, true))⟩,
    ⟨some 23, .h (.load false 1 (.t 22)), (some (21, true))⟩,
    ⟨some 24, .p (.fieldA 0 (.t 2)), (some (21, true))⟩,
    ⟨some 25, .h (.load false 1 (.t 24)), (some (21, true))⟩,
    ⟨some 26, .p (.fieldA 1 (.t 2)), (some (21, true))⟩,
    ⟨some 27, .h (.load false 1 (.t 26)), (some (21, true))⟩,
    ⟨some 28, .p (.bin .add (.t 25) (.t 27)), (some (21, true))⟩,
    ⟨some 29, .p (.bin .lss (.t 23) (.t 28)), (some (21, true))⟩,
    ⟨some 30, .p (.pick (.t 21) (.t 29) (.c (.bool false))), none⟩,
    ⟨some 4, .p (.mov (.t 30)), none⟩])
  .ret))
def rs28 : List AR := [.tmp 4]
theorem ok28 : okF Try.prog 28 31 ac28 rs28 = true := by kernel_rfl
/-- simulacrum/simulacrumref21.overlap -/
def ac29 : AC := (.seq (.reg [⟨some 2, .h (.box (.t 0)), none⟩,
    ⟨some 3, .h (.box (.t 1)), none⟩,
    ⟨some 4, .p (.mov (.c (.bool false))), none⟩])
  (.seq (.reg [⟨some 5, .p (.fieldA 2 (.t 2)), none⟩,
    ⟨some 6, .h (.load false 1 (.t 5)), none⟩,
    ⟨some 7, .p (.mov (.t 6)), none⟩,
    ⟨some 8, .p (.fieldA 2 (.t 3)), (some (7, false))⟩,
    ⟨some 9, .h (.load false 1 (.t 8)), (some (7, false))⟩,
    ⟨some 10, .p (.pick (.t 7) (.c (.bool true)) (.t 9)), none⟩,
    ⟨some 11, .p (.mov (.t 10)), none⟩,
    ⟨some 12, .p (.fieldA 0 (.t 2)), (some (11, true))⟩,
    ⟨some 13, .h (.load false 1 (.t 12)), (some (11, true))⟩,
    ⟨some 14, .p (.fieldA 0 (.t 3)), (some (11, true))⟩,
    ⟨some 15, .h (.load false 1 (.t 14)), (some (11, true))⟩,
    ⟨some 16, .p (.fieldA 1 (.t 3)), (some (11, true))⟩,
    ⟨some 17, .h (.load false 1 (.t 16)), (some (11, true))⟩,
    ⟨some 18, .p (.bin .add (.t 15) (.t 17)), (some (11, true))⟩,
    ⟨some 19, .p (.bin .lss (.t 13) (.t 18)), (some (11, true))⟩,
    ⟨some 20, .p (.pick (.t 11) (.t 19) (.c (.bool false))), none⟩,
    ⟨some 21, .p (.mov (.t 20)), none⟩,
    ⟨some 22, .p (.fieldA 0 (.t 3)), (some (21, true))⟩,
    ⟨some 23, .h (.load false 1 (.t 22)), (some (21, true))⟩,
    ⟨some 24, .p (.fieldA 0 (.t 2)), (some (21, true))⟩,
    ⟨some 25, .h (.load false 1 (.t 24)), (some (21, true))⟩,
    ⟨some 26, .p (.fieldA 1 (.t 2)), (some (21, true))⟩,
    ⟨some 27, .h (.load false 1 (.t 26)), (some (21, true))⟩,
    ⟨some 28, .p (.bin .add (.t 25) (.t 27)), (some (21, true))⟩,
    ⟨some 29, .p (.bin .lss (.t 23) (.t 28)), (some (21, true))⟩,
    ⟨some 30, .p (.pick (.t 21) (.t 29) (.c (.bool false))), none⟩,
    ⟨some 4, .p (.mov (.t 30)), none⟩])
  .ret))
def rs29 : List AR := [.tmp 4]
theorem ok29 : okF Try.prog 29 31 ac29 rs29 = true := by kernel_rfl
/-- simulacrum/order.conflicts -/
def ac30 : AC := (.seq (.reg [⟨some 2, .p (.mov (.c .nils)), none⟩,
    ⟨some 3, .p (.mov (.c .nils)), none⟩])
  (.seq (.draw 8 [] [⟨some 6, .p (.mov (.t 0)), none⟩,
    ⟨some 7, .p (.len false (.t 6)), none⟩,
    ⟨some 8, .l (.make 7 56 [(.int .u64 0), (.int .u64 0), (.int .u64 0), (.int .u64 0), (.int .u64 0), (.int .u64 0), (.int .u64 0)] (.t 7)), none⟩,
    ⟨some 9, .p (.mov (.t 0)), none⟩,
    ⟨some 10, .p (.len false (.t 9)), none⟩,
    ⟨some 11, .l (.make 7 56 [(.int .u64 0), (.int .u64 0), (.int .u64 0), (.int .u64 0), (.int .u64 0), (.int .u64 0), (.int .u64 0)] (.t 10)), none⟩,
    ⟨some 2, .p (.mov (.t 8)), none⟩,
    ⟨some 3, .p (.mov (.t 11)), none⟩])
  (.seq (.seq (.reg [⟨some 12, .p (.mov (.t 0)), none⟩,
    ⟨some 13, .p (.len false (.t 12)), none⟩,
    ⟨some 14, .p (.mov (.c (.int .i64 0))), none⟩])
  (.block 0 (.loop (.seq (.reg [⟨some 15, .p (.bin .lss (.t 14) (.t 13)), none⟩])
  (.seq (.cond (.t 15) .skip (.exit 0))
  (.seq (.block 1 (.seq (.reg [⟨some 16, .p (.mov (.t 14)), none⟩,
    ⟨some 4, .p (.mov (.t 16)), none⟩])
  (.seq (.reg [⟨some 17, .p (.mov (.t 4)), none⟩,
    ⟨some 18, .p (.mov (.c (.int .i64 0))), none⟩])
  (.block 2 (.loop (.seq (.reg [⟨some 19, .p (.bin .lss (.t 18) (.t 17)), none⟩])
  (.seq (.cond (.t 19) .skip (.exit 2))
  (.seq (.block 3 (.seq (.reg [⟨some 20, .p (.mov (.t 18)), none⟩,
    ⟨some 5, .p (.mov (.t 20)), none⟩])
  (.seq (.draw 9 [] [⟨some 21, .p (.mov (.t 0)), none⟩,
    ⟨some 22, .p (.mov (.t 5)), none⟩,
    ⟨some 23, .p (.idxA 3 none (.t 21) (.t 22)), none⟩,
    ⟨some 24, .h (.load true 3 (.t 23)), none⟩,
    ⟨some 25, .p (.mov (.t 0)), none⟩,
    ⟨some 26, .p (.mov (.t 4)), none⟩,
    ⟨some 27, .p (.idxA 3 none (.t 25) (.t 26)), none⟩,
    ⟨some 28, .h (.load true 3 (.t 27)), none⟩,
    ⟨some 29, .call 11 [(.t 24), (.t 28)], none⟩])
  (.cond (.t 29) (.seq (.reg [⟨some 30, .p (.mov (.t 2)), none⟩,
    ⟨some 31, .p (.mov (.t 4)), none⟩,
    ⟨some 32, .p (.idxA 7 none (.t 30) (.t 31)), none⟩,
    ⟨some 33, .p (.mov (.t 5)), none⟩,
    ⟨some 34, .call 36 [(.t 32), (.t 33)], none⟩])
  (.seq (.reg [⟨some 35, .p (.mov (.t 3)), none⟩,
    ⟨some 36, .p (.mov (.t 4)), none⟩,
    ⟨some 37, .p (.idxA 7 none (.t 35) (.t 36)), none⟩,
    ⟨some 38, .p (.mov (.t 5)), none⟩,
    ⟨some 39, .call 36 [(.t 37), (.t 38)], none⟩])
  (.draw 7 [] [⟨some 40, .p (.mov (.t 3)), none⟩,
    ⟨some 41, .p (.mov (.t 4)), none⟩,
    ⟨some 42, .p (.idxA 7 none (.t 40) (.t 41)), none⟩,
    ⟨some 43, .p (.mov (.t 3)), none⟩,
    ⟨some 44, .p (.mov (.t 5)), none⟩,
    ⟨some 45, .p (.idxA 7 none (.t 43) (.t 44)), none⟩,
    ⟨some 46, .h (.load true 7 (.t 45)), none⟩,
    ⟨some 47, .call 32 [(.t 42), (.t 46)], none⟩]))) .skip))))
  (.reg [⟨some 48, .p (.bin .add (.t 18) (.c (.int .i64 1))), none⟩,
    ⟨some 18, .p (.mov (.t 48)), none⟩])))))))))
  (.reg [⟨some 49, .p (.bin .add (.t 14) (.c (.int .i64 1))), none⟩,
    ⟨some 14, .p (.mov (.t 49)), none⟩])))))))
  (.seq (.reg [⟨some 50, .p (.mov (.t 2)), none⟩,
    ⟨some 51, .p (.mov (.t 3)), none⟩,
    ⟨some 2, .p (.mov (.t 50)), none⟩,
    ⟨some 3, .p (.mov (.t 51)), none⟩])
  .ret))))
def rs30 : List AR := [.tmp 2, .tmp 3]
theorem ok30 : okF Try.prog 30 52 ac30 rs30 = true := by kernel_rfl
/-- (*simulacrum/order.set).has -/
def ac31 : AC := (.seq (.reg [⟨some 4, .p (.mov (.c (.bool false))), none⟩])
  (.seq (.reg [⟨some 5, .p (.mov (.t 0)), none⟩,
    ⟨some 6, .p (.mov (.t 1)), none⟩,
    ⟨some 7, .p (.bin .quo (.t 6) (.c (.int .i64 64))), none⟩,
    ⟨some 8, .p (.nilchk (.t 5)), none⟩,
    ⟨some 9, .p (.idxA 1 (some 7) (.t 8) (.t 7)), none⟩,
    ⟨some 10, .h (.load false 1 (.t 9)), none⟩,
    ⟨some 11, .p (.mov (.t 1)), none⟩,
    ⟨some 12, .p (.bin .rem (.t 11) (.c (.int .i64 64))), none⟩,
    ⟨some 13, .p (.binw .shr (.t 10) (.t 12)), none⟩,
    ⟨some 14, .p (.binw .and (.t 13) (.c (.int .u64 1))), none⟩,
    ⟨some 15, .p (.binw .eql (.t 14) (.c (.int .u64 1))), none⟩,
    ⟨some 4, .p (.mov (.t 15)), none⟩])
  .ret))
def rs31 : List AR := [.tmp 4]
theorem ok31 : okF Try.prog 31 16 ac31 rs31 = true := by kernel_rfl
/-- (*simulacrum/order.set).or -/
def ac32 : AC := (.seq (.reg [⟨some 3, .h (.box (.t 1)), none⟩])
  (.seq (.reg [⟨some 5, .p (.mov (.c (.int .i64 0))), none⟩])
  (.block 0 (.loop (.seq (.reg [⟨some 6, .p (.bin .lss (.t 5) (.c (.int .i64 7))), none⟩])
  (.seq (.cond (.t 6) .skip (.exit 0))
  (.seq (.block 1 (.seq (.reg [⟨some 7, .p (.mov (.t 5)), none⟩,
    ⟨some 4, .p (.mov (.t 7)), none⟩])
  (.draw 12 [(4, 11), (7, 11)] [⟨some 8, .p (.mov (.t 0)), none⟩,
    ⟨some 9, .p (.mov (.t 4)), none⟩,
    ⟨some 10, .p (.nilchk (.t 8)), none⟩,
    ⟨some 11, .p (.idxA 1 (some 7) (.t 10) (.t 9)), none⟩,
    ⟨some 12, .h (.load false 1 (.t 11)), none⟩,
    ⟨some 13, .p (.mov (.t 4)), none⟩,
    ⟨some 14, .p (.idxA 1 (some 7) (.t 3) (.t 13)), none⟩,
    ⟨some 15, .h (.load false 1 (.t 14)), none⟩,
    ⟨some 16, .p (.binw .or (.t 12) (.t 15)), none⟩,
    ⟨some 17, .p (.nilchk (.t 8)), none⟩,
    ⟨some 18, .p (.idxA 1 (some 7) (.t 17) (.t 9)), none⟩,
    ⟨none, .h (.store 1 (.t 18) (.t 16)), none⟩])))
  (.reg [⟨some 19, .p (.bin .add (.t 5) (.c (.int .i64 1))), none⟩,
    ⟨some 5, .p (.mov (.t 19)), none⟩]))))))))
def rs32 : List AR := []
theorem ok32 : okF Try.prog 32 20 ac32 rs32 = true := by kernel_rfl
/-- simulacrum/simulacrumref21.Way -/
def ac33 : AC := (.seq (.reg [⟨some 2, .p (.mov (.c .nils)), none⟩])
  (.seq (.reg [⟨some 3, .p (.mov (.c .nils)), none⟩])
  (.seq (.seq (.reg [⟨some 4, .p (.mov (.c (.int .i64 0))), none⟩])
  (.block 0 (.loop (.seq (.seq (.reg [⟨some 8, .p (.mov (.t 4)), none⟩,
    ⟨some 9, .p (.mov (.t 0)), none⟩,
    ⟨some 10, .p (.len false (.t 9)), none⟩,
    ⟨some 11, .p (.bin .lss (.t 8) (.t 10)), none⟩])
  (.cond (.t 11) .skip (.exit 0)))
  (.seq (.block 1 (.seq (.reg [⟨some 14, .p (.mov (.t 4)), none⟩,
    ⟨some 15, .l (.make 1 1 [(.bool false)] (.t 14)), none⟩,
    ⟨some 5, .p (.mov (.t 15)), none⟩])
  (.seq (.seq (.reg [⟨some 16, .p (.mov (.t 4)), none⟩,
    ⟨some 17, .p (.bin .sub (.t 16) (.c (.int .i64 1))), none⟩,
    ⟨some 6, .p (.mov (.t 17)), none⟩])
  (.block 2 (.loop (.seq (.seq (.reg [⟨some 18, .p (.mov (.t 6)), none⟩,
    ⟨some 19, .p (.bin .geq (.t 18) (.c (.int .i64 0))), none⟩])
  (.cond (.t 19) .skip (.exit 2)))
  (.seq (.block 3 (.seq (.seq (.draw 10 [] [⟨some 22, .p (.mov (.t 0)), none⟩,
    ⟨some 23, .p (.mov (.t 6)), none⟩,
    ⟨some 24, .p (.idxA 3 none (.t 22) (.t 23)), none⟩,
    ⟨some 25, .h (.load true 3 (.t 24)), none⟩,
    ⟨some 26, .p (.mov (.t 0)), none⟩,
    ⟨some 27, .p (.mov (.t 4)), none⟩,
    ⟨some 28, .p (.idxA 3 none (.t 26) (.t 27)), none⟩,
    ⟨some 29, .h (.load true 3 (.t 28)), none⟩,
    ⟨some 30, .call 12 [(.t 25), (.t 29)], none⟩,
    ⟨some 31, .p (.un .not (.t 30)), none⟩])
  (.cond (.t 31) (.exit 3) .skip))
  (.seq (.reg [⟨some 32, .p (.mov (.t 5)), none⟩,
    ⟨some 33, .p (.mov (.t 6)), none⟩,
    ⟨some 34, .p (.idxA 1 none (.t 32) (.t 33)), none⟩,
    ⟨none, .h (.store 1 (.t 34) (.c (.bool true))), none⟩])
  (.seq (.reg [⟨some 7, .p (.mov (.c (.int .i64 0))), none⟩])
  (.block 4 (.loop (.seq (.seq (.reg [⟨some 35, .p (.mov (.t 7)), none⟩,
    ⟨some 36, .p (.mov (.t 6)), none⟩,
    ⟨some 37, .p (.bin .lss (.t 35) (.t 36)), none⟩])
  (.cond (.t 37) .skip (.exit 4)))
  (.seq (.block 5 (.reg [⟨some 40, .p (.mov (.t 5)), none⟩,
    ⟨some 41, .p (.mov (.t 7)), none⟩,
    ⟨some 42, .p (.mov (.t 5)), none⟩,
    ⟨some 43, .p (.mov (.t 7)), none⟩,
    ⟨some 44, .p (.idxA 1 none (.t 42) (.t 43)), none⟩,
    ⟨some 45, .h (.load false 1 (.t 44)), none⟩,
    ⟨some 46, .p (.mov (.t 45)), none⟩,
    ⟨some 47, .p (.mov (.t 3)), (some (46, false))⟩,
    ⟨some 48, .p (.mov (.t 6)), (some (46, false))⟩,
    ⟨some 49, .p (.idxA 1 none (.t 47) (.t 48)), (some (46, false))⟩,
    ⟨some 50, .h (.load false 1 (.t 49)), (some (46, false))⟩,
    ⟨some 51, .p (.mov (.t 7)), (some (46, false))⟩,
    ⟨some 52, .p (.idxA 1 none (.t 50) (.t 51)), (some (46, false))⟩,
    ⟨some 53, .h (.load false 1 (.t 52)), (some (46, false))⟩,
    ⟨some 54, .p (.pick (.t 46) (.c (.bool true)) (.t 53)), none⟩,
    ⟨some 55, .p (.idxA 1 none (.t 40) (.t 41)), none⟩,
    ⟨none, .h (.store 1 (.t 55) (.t 54)), none⟩]))
  (.reg [⟨some 38, .p (.mov (.t 7)), none⟩,
    ⟨some 39, .p (.bin .add (.t 38) (.c (.int .i64 1))), none⟩,
    ⟨some 7, .p (.mov (.t 39)), none⟩])))))))))
  (.reg [⟨some 20, .p (.mov (.t 6)), none⟩,
    ⟨some 21, .p (.bin .sub (.t 20) (.c (.int .i64 1))), none⟩,
    ⟨some 6, .p (.mov (.t 21)), none⟩]))))))
  (.reg [⟨some 56, .p (.mov (.t 3)), none⟩,
    ⟨some 57, .p (.mov (.t 5)), none⟩,
    ⟨some 58, .d (.bslice 1 1 [.nils] [(0, (.t 57))]), none⟩,
    ⟨some 59, .l (.append 1 24 (.t 56) (.t 58)), none⟩,
    ⟨some 3, .p (.mov (.t 59)), none⟩]))))
  (.reg [⟨some 12, .p (.mov (.t 4)), none⟩,
    ⟨some 13, .p (.bin .add (.t 12) (.c (.int .i64 1))), none⟩,
    ⟨some 4, .p (.mov (.t 13)), none⟩]))))))
  (.seq (.reg [⟨some 60, .p (.mov (.t 3)), none⟩,
    ⟨some 2, .p (.mov (.t 60)), none⟩])
  .ret))))
def rs33 : List AR := [.tmp 2]
theorem ok33 : okF Try.prog 33 61 ac33 rs33 = true := by kernel_rfl
/-- slices.Sorted[int] -/
def ac34 : AC := (.seq (.reg [⟨some 2, .p (.mov (.c .nils)), none⟩])
  (.seq (.reg [⟨some 4, .p (.mov (.t 0)), none⟩,
    ⟨some 5, .call 44 [(.t 4)], none⟩,
    ⟨some 3, .p (.mov (.t 5)), none⟩])
  (.seq (.reg [⟨some 6, .p (.mov (.t 3)), none⟩,
    ⟨some 7, .call 45 [(.t 6)], none⟩])
  (.seq (.reg [⟨some 8, .p (.mov (.t 3)), none⟩,
    ⟨some 2, .p (.mov (.t 8)), none⟩])
  .ret))))
def rs34 : List AR := [.tmp 2]
theorem ok34 : okF Try.prog 34 9 ac34 rs34 = true := by kernel_rfl
/-- slices.Values[[]int,int] -/
def ac35 : AC := (.seq (.reg [⟨some 1, .h (.box (.t 0)), none⟩,
    ⟨some 2, .p (.mov (.c .nilf)), none⟩])
  (.seq (.reg [⟨some 3, .p (.mkfn 46 [(.t 1)]), none⟩,
    ⟨some 2, .p (.mov (.t 3)), none⟩])
  .ret))
def rs35 : List AR := [.tmp 2]
theorem ok35 : okF Try.prog 35 4 ac35 rs35 = true := by kernel_rfl
/-- (*simulacrum/order.set).add -/
def ac36 : AC := (.draw 13 [(5, 12)] [⟨some 4, .p (.mov (.t 0)), none⟩,
    ⟨some 5, .p (.mov (.t 1)), none⟩,
    ⟨some 6, .p (.bin .quo (.t 5) (.c (.int .i64 64))), none⟩,
    ⟨some 7, .p (.nilchk (.t 4)), none⟩,
    ⟨some 8, .p (.idxA 1 (some 7) (.t 7) (.t 6)), none⟩,
    ⟨some 9, .h (.load false 1 (.t 8)), none⟩,
    ⟨some 10, .p (.mov (.t 1)), none⟩,
    ⟨some 11, .p (.bin .rem (.t 10) (.c (.int .i64 64))), none⟩,
    ⟨some 12, .p (.binw .shl (.c (.int .u64 1)) (.t 11)), none⟩,
    ⟨some 13, .p (.binw .or (.t 9) (.t 12)), none⟩,
    ⟨some 14, .p (.nilchk (.t 4)), none⟩,
    ⟨some 15, .p (.idxA 1 (some 7) (.t 14) (.t 6)), none⟩,
    ⟨none, .h (.store 1 (.t 15) (.t 13)), none⟩])
def rs36 : List AR := []
theorem ok36 : okF Try.prog 36 16 ac36 rs36 = true := by kernel_rfl
/-- simulacrum/simulacrumlaw21.at -/
def ac37 : AC := (.seq (.reg [⟨some 6, .h (.alloc [(.int .i64 0), (.bool false), .nils]), none⟩])
  (.seq (.reg [⟨some 7, .p (.mov (.t 0)), none⟩,
    ⟨some 8, .p (.mov (.t 1)), none⟩,
    ⟨some 9, .p (.mov (.t 2)), none⟩,
    ⟨some 10, .v (.build [(.int .i64 0), (.int .i64 0), (.bool false)] [(0, 1, (.t 8)), (1, 1, (.c (.int .i64 4))), (2, 1, (.t 9))]), none⟩,
    ⟨some 11, .d (.bslice 3 1 [(.int .i64 0), (.int .i64 0), (.bool false)] [(0, (.t 10))]), none⟩,
    ⟨some 12, .v (.build [(.int .i64 0), (.bool false), .nils] [(0, 1, (.t 7)), (2, 1, (.t 11))]), none⟩,
    ⟨none, .h (.store 3 (.t 6) (.t 12)), none⟩])
  .ret))
def rs37 : List AR := [.cell 6 true 3]
theorem ok37 : okF Try.prog 37 13 ac37 rs37 = true := by kernel_rfl
def rfA380 : AC := (.reg [⟨some 11, .p (.mov (.t 25)), none⟩])
def rfB380 : AC := (.block 3 (.reg [⟨some 26, .h (.load false 1 (.t 10)), none⟩,
    ⟨some 27, .p (.mov (.t 11)), none⟩,
    ⟨some 28, .d (.bslice 1 1 [(.int .i64 0)] [(0, (.t 27))]), none⟩,
    ⟨some 29, .l (.append 1 8 (.t 26) (.t 28)), none⟩,
    ⟨none, .h (.store 1 (.t 10) (.t 29)), none⟩]))
/-- simulacrum/order.build -/
def ac38 : AC := (.seq (.reg [⟨some 4, .p (.mov (.c .nils)), none⟩])
  (.seq (.reg [⟨some 14, .p (.mov (.t 0)), none⟩,
    ⟨some 15, .call 30 [(.t 14)], none⟩,
    ⟨some 13, .p (.mov (.t 15)), none⟩,
    ⟨some 16, .p (.extract 0 (.t 13)), none⟩,
    ⟨some 17, .p (.extract 1 (.t 13)), none⟩,
    ⟨some 5, .p (.mov (.t 16)), none⟩,
    ⟨some 6, .p (.mov (.t 17)), none⟩])
  (.seq (.reg [⟨some 7, .h (.alloc [(.int .u64 0), (.int .u64 0), (.int .u64 0), (.int .u64 0), (.int .u64 0), (.int .u64 0), (.int .u64 0)]), none⟩])
  (.seq (.reg [⟨some 8, .p (.mov (.c .nils)), none⟩])
  (.seq (.seq (.reg [⟨some 18, .p (.mov (.t 0)), none⟩,
    ⟨some 19, .p (.len false (.t 18)), none⟩,
    ⟨some 20, .p (.mov (.c (.int .i64 0))), none⟩])
  (.block 0 (.loop (.seq (.reg [⟨some 21, .p (.bin .lss (.t 20) (.t 19)), none⟩])
  (.seq (.cond (.t 21) .skip (.exit 0))
  (.seq (.block 1 (.seq (.reg [⟨some 22, .p (.mov (.t 20)), none⟩,
    ⟨some 9, .p (.mov (.t 22)), none⟩])
  (.seq (.reg [⟨some 10, .h (.alloc [.nils]), none⟩])
  (.seq (.seq (.reg [⟨some 23, .p (.mov (.t 5)), none⟩,
    ⟨some 24, .call 47 [(.t 23), (.t 7)], none⟩])
  (.block 2 (.rangeF 380 (.t 24) [10] [25] rfA380 rfB380)))
  (.seq (.reg [⟨some 30, .p (.mov (.t 1)), none⟩,
    ⟨some 31, .p (.mov (.t 9)), none⟩,
    ⟨some 32, .h (.load false 1 (.t 10)), none⟩,
    ⟨some 33, .callv (.t 30) [(.t 31), (.t 32)], none⟩,
    ⟨some 12, .p (.mov (.t 33)), none⟩])
  (.seq (.reg [⟨some 34, .p (.mov (.t 12)), none⟩,
    ⟨some 35, .call 36 [(.t 7), (.t 34)], none⟩])
  (.reg [⟨some 36, .p (.mov (.t 8)), none⟩,
    ⟨some 37, .p (.mov (.t 12)), none⟩,
    ⟨some 38, .d (.bslice 1 1 [(.int .i64 0)] [(0, (.t 37))]), none⟩,
    ⟨some 39, .l (.append 1 8 (.t 36) (.t 38)), none⟩,
    ⟨some 8, .p (.mov (.t 39)), none⟩])))))))
  (.reg [⟨some 40, .p (.bin .add (.t 20) (.c (.int .i64 1))), none⟩,
    ⟨some 20, .p (.mov (.t 40)), none⟩])))))))
  (.seq (.reg [⟨some 41, .p (.mov (.t 8)), none⟩,
    ⟨some 4, .p (.mov (.t 41)), none⟩])
  .ret))))))
def rs38 : List AR := [.tmp 4]
theorem ok38 : okF Try.prog 38 42 ac38 rs38 = true := by kernel_rfl
/-- simulacrum/order.Canonical$1 -/
def ac39 : AC := (.seq (.reg [⟨some 5, .p (.mov (.c (.int .i64 0))), none⟩])
  (.seq (.reg [⟨some 6, .p (.mov (.t 1)), none⟩,
    ⟨some 7, .p (.mkfn 41 [(.t 2)]), none⟩,
    ⟨some 8, .call 40 [(.t 6), (.t 7)], none⟩,
    ⟨some 5, .p (.mov (.t 8)), none⟩])
  .ret))
def rs39 : List AR := [.tmp 5]
theorem ok39 : okF Try.prog 39 9 ac39 rs39 = true := by kernel_rfl
/-- slices.MinFunc[[]int,int] -/
def ac40 : AC := (.seq (.reg [⟨some 4, .p (.mov (.c (.int .i64 0))), none⟩])
  (.seq (.seq (.reg [⟨some 7, .p (.mov (.t 0)), none⟩,
    ⟨some 8, .p (.len false (.t 7)), none⟩,
    ⟨some 9, .p (.bin .lss (.t 8) (.c (.int .i64 1))), none⟩])
  (.cond (.t 9) (.reg [⟨some 10, .p .other, none⟩,
    ⟨none, .p .panic, none⟩]) .skip))
  (.seq (.reg [⟨some 11, .p (.mov (.t 0)), none⟩,
    ⟨some 12, .p (.idxA 1 none (.t 11) (.c (.int .i64 0))), none⟩,
    ⟨some 13, .h (.load false 1 (.t 12)), none⟩,
    ⟨some 5, .p (.mov (.t 13)), none⟩])
  (.seq (.seq (.reg [⟨some 6, .p (.mov (.c (.int .i64 1))), none⟩])
  (.block 0 (.loop (.seq (.seq (.reg [⟨some 14, .p (.mov (.t 6)), none⟩,
    ⟨some 15, .p (.mov (.t 0)), none⟩,
    ⟨some 16, .p (.len false (.t 15)), none⟩,
    ⟨some 17, .p (.bin .lss (.t 14) (.t 16)), none⟩])
  (.cond (.t 17) .skip (.exit 0)))
  (.seq (.block 1 (.seq (.reg [⟨some 20, .p (.mov (.t 1)), none⟩,
    ⟨some 21, .p (.mov (.t 0)), none⟩,
    ⟨some 22, .p (.mov (.t 6)), none⟩,
    ⟨some 23, .p (.idxA 1 none (.t 21) (.t 22)), none⟩,
    ⟨some 24, .h (.load false 1 (.t 23)), none⟩,
    ⟨some 25, .p (.mov (.t 5)), none⟩,
    ⟨some 26, .callv (.t 20) [(.t 24), (.t 25)], none⟩,
    ⟨some 27, .p (.bin .lss (.t 26) (.c (.int .i64 0))), none⟩])
  (.cond (.t 27) (.reg [⟨some 28, .p (.mov (.t 0)), none⟩,
    ⟨some 29, .p (.mov (.t 6)), none⟩,
    ⟨some 30, .p (.idxA 1 none (.t 28) (.t 29)), none⟩,
    ⟨some 31, .h (.load false 1 (.t 30)), none⟩,
    ⟨some 5, .p (.mov (.t 31)), none⟩]) .skip)))
  (.reg [⟨some 18, .p (.mov (.t 6)), none⟩,
    ⟨some 19, .p (.bin .add (.t 18) (.c (.int .i64 1))), none⟩,
    ⟨some 6, .p (.mov (.t 19)), none⟩]))))))
  (.seq (.reg [⟨some 32, .p (.mov (.t 5)), none⟩,
    ⟨some 4, .p (.mov (.t 32)), none⟩])
  .ret)))))
def rs40 : List AR := [.tmp 4]
theorem ok40 : okF Try.prog 40 33 ac40 rs40 = true := by kernel_rfl
/-- simulacrum/order.Canonical$1$1 -/
def ac41 : AC := (.seq (.reg [⟨some 5, .p (.mov (.c (.int .i64 0))), none⟩])
  (.seq (.draw 12 [] [⟨some 6, .h (.load false 1 (.t 2)), none⟩,
    ⟨some 7, .p (.mov (.t 0)), none⟩,
    ⟨some 8, .p (.idxA 3 none (.t 6) (.t 7)), none⟩,
    ⟨some 9, .p (.fieldA 0 (.t 8)), none⟩,
    ⟨some 10, .h (.load false 1 (.t 9)), none⟩,
    ⟨some 11, .h (.load false 1 (.t 2)), none⟩,
    ⟨some 12, .p (.mov (.t 1)), none⟩,
    ⟨some 13, .p (.idxA 3 none (.t 11) (.t 12)), none⟩,
    ⟨some 14, .p (.fieldA 0 (.t 13)), none⟩,
    ⟨some 15, .h (.load false 1 (.t 14)), none⟩,
    ⟨some 16, .p (.bin .sub (.t 10) (.t 15)), none⟩,
    ⟨some 5, .p (.mov (.t 16)), none⟩])
  .ret))
def rs41 : List AR := [.tmp 5]
theorem ok41 : okF Try.prog 41 17 ac41 rs41 = true := by kernel_rfl
/-- simulacrum/order.Extend$1 -/
def ac42 : AC := (.seq (.reg [⟨some 5, .p (.mov (.c (.int .i64 0))), none⟩])
  (.seq (.seq (.reg [⟨some 6, .p (.mov (.t 0)), none⟩,
    ⟨some 7, .h (.load false 1 (.t 2)), none⟩,
    ⟨some 8, .p (.len false (.t 7)), none⟩,
    ⟨some 9, .p (.bin .geq (.t 6) (.t 8)), none⟩])
  (.cond (.t 9) (.seq (.reg [⟨some 10, .p (.mov (.t 1)), none⟩,
    ⟨some 11, .p (.idxA 1 none (.t 10) (.c (.int .i64 0))), none⟩,
    ⟨some 12, .h (.load false 1 (.t 11)), none⟩,
    ⟨some 5, .p (.mov (.t 12)), none⟩])
  .ret) .skip))
  (.seq (.reg [⟨some 13, .p (.mov (.t 1)), none⟩,
    ⟨some 14, .h (.load false 1 (.t 2)), none⟩,
    ⟨some 15, .p (.mov (.t 0)), none⟩,
    ⟨some 16, .p (.idxA 1 none (.t 14) (.t 15)), none⟩,
    ⟨some 17, .h (.load false 1 (.t 16)), none⟩,
    ⟨some 18, .p (.mm true (.t 17) (.c (.int .i64 0))), none⟩,
    ⟨some 19, .p (.mov (.t 1)), none⟩,
    ⟨some 20, .p (.len false (.t 19)), none⟩,
    ⟨some 21, .p (.bin .rem (.t 18) (.t 20)), none⟩,
    ⟨some 22, .p (.idxA 1 none (.t 13) (.t 21)), none⟩,
    ⟨some 23, .h (.load false 1 (.t 22)), none⟩,
    ⟨some 5, .p (.mov (.t 23)), none⟩])
  .ret)))
def rs42 : List AR := [.tmp 5]
theorem ok42 : okF Try.prog 42 24 ac42 rs42 = true := by kernel_rfl
/-- slices.IndexFunc[[]simulacrum/api.Access,simulacrum/api.Access] -/
def ac43 : AC := (.seq (.reg [⟨some 4, .p (.mov (.c (.int .i64 0))), none⟩])
  (.seq (.seq (.reg [⟨some 6, .p (.mov (.t 0)), none⟩,
    ⟨some 7, .p (.len false (.t 6)), none⟩,
    ⟨some 8, .p (.mov (.c (.int .i64 0))), none⟩])
  (.block 0 (.loop (.seq (.reg [⟨some 9, .p (.bin .lss (.t 8) (.t 7)), none⟩])
  (.seq (.cond (.t 9) .skip (.exit 0))
  (.seq (.block 1 (.seq (.reg [⟨some 10, .p (.mov (.t 8)), none⟩,
    ⟨some 5, .p (.mov (.t 10)), none⟩])
  (.seq (.reg [⟨some 11, .p (.mov (.t 1)), none⟩,
    ⟨some 12, .p (.mov (.t 0)), none⟩,
    ⟨some 13, .p (.mov (.t 5)), none⟩,
    ⟨some 14, .p (.idxA 3 none (.t 12) (.t 13)), none⟩,
    ⟨some 15, .h (.load true 3 (.t 14)), none⟩,
    ⟨some 16, .callv (.t 11) [(.t 15)], none⟩])
  (.cond (.t 16) (.seq (.reg [⟨some 17, .p (.mov (.t 5)), none⟩,
    ⟨some 4, .p (.mov (.t 17)), none⟩])
  .ret) .skip))))
  (.reg [⟨some 18, .p (.bin .add (.t 8) (.c (.int .i64 1))), none⟩,
    ⟨some 8, .p (.mov (.t 18)), none⟩])))))))
  (.seq (.reg [⟨some 4, .p (.mov (.c (.int .i64 (-1)))), none⟩])
  .ret)))
def rs43 : List AR := [.tmp 4]
theorem ok43 : okF Try.prog 43 19 ac43 rs43 = true := by kernel_rfl
/-- slices.Collect[int] -/
def ac44 : AC := (.seq (.reg [⟨some 2, .p (.mov (.c .nils)), none⟩])
  (.seq (.reg [⟨some 3, .p (.mov (.t 0)), none⟩,
    ⟨some 4, .call 48 [(.c .nils), (.t 3)], none⟩,
    ⟨some 2, .p (.mov (.t 4)), none⟩])
  .ret))
def rs44 : List AR := [.tmp 2]
theorem ok44 : okF Try.prog 44 5 ac44 rs44 = true := by kernel_rfl
/-- slices.Sort[[]int,int] -/
def ac45 : AC := (.seq (.reg [⟨some 3, .p (.mov (.t 0)), none⟩,
    ⟨some 4, .p (.len false (.t 3)), none⟩,
    ⟨some 2, .p (.mov (.t 4)), none⟩])
  (.reg [⟨some 5, .p (.mov (.t 0)), none⟩,
    ⟨some 6, .p (.mov (.t 2)), none⟩,
    ⟨some 7, .p (.mov (.t 2)), none⟩,
    ⟨some 8, .p (.convw .u64 (.t 7)), none⟩,
    ⟨some 9, .call 50 [(.t 8)], none⟩,
    ⟨some 10, .call 49 [(.t 5), (.c (.int .i64 0)), (.t 6), (.t 9)], none⟩]))
def rs45 : List AR := []
theorem ok45 : okF Try.prog 45 11 ac45 rs45 = true := by kernel_rfl
/-- slices.Values[[]int,int]$1 -/
def ac46 : AC := (.seq (.reg [⟨some 5, .h (.load false 1 (.t 1)), none⟩,
    ⟨some 6, .p (.len false (.t 5)), none⟩,
    ⟨some 7, .p (.mov (.c (.int .i64 0))), none⟩])
  (.block 0 (.loop (.seq (.reg [⟨some 8, .p (.bin .lss (.t 7) (.t 6)), none⟩])
  (.seq (.cond (.t 8) .skip (.exit 0))
  (.seq (.block 1 (.seq (.reg [⟨some 9, .p (.idxA 1 none (.t 5) (.t 7)), none⟩,
    ⟨some 10, .h (.load false 1 (.t 9)), none⟩,
    ⟨some 4, .p (.mov (.t 10)), none⟩])
  (.seq (.reg [⟨some 11, .p (.mov (.t 0)), none⟩,
    ⟨some 12, .p (.mov (.t 4)), none⟩,
    ⟨some 13, .callv (.t 11) [(.t 12)], none⟩,
    ⟨some 14, .p (.un .not (.t 13)), none⟩])
  (.cond (.t 14) .ret .skip))))
  (.reg [⟨some 15, .p (.bin .add (.t 7) (.c (.int .i64 1))), none⟩,
    ⟨some 7, .p (.mov (.t 15)), none⟩])))))))
def rs46 : List AR := []
theorem ok46 : okF Try.prog 46 16 ac46 rs46 = true := by kernel_rfl
/-- simulacrum/order.ready -/
def ac47 : AC := (.seq (.reg [⟨some 2, .h (.box (.t 0)), none⟩,
    ⟨some 3, .h (.box (.t 1)), none⟩,
    ⟨some 4, .p (.mov (.c .nilf)), none⟩])
  (.seq (.reg [⟨some 5, .p (.mkfn 51 [(.t 2), (.t 3)]), none⟩,
    ⟨some 4, .p (.mov (.t 5)), none⟩])
  .ret))
def rs47 : List AR := [.tmp 4]
theorem ok47 : okF Try.prog 47 6 ac47 rs47 = true := by kernel_rfl
def rfA480 : AC := (.reg [⟨some 5, .p (.mov (.t 7)), none⟩])
def rfB480 : AC := (.block 1 (.reg [⟨some 8, .h (.load false 1 (.t 2)), none⟩,
    ⟨some 9, .p (.mov (.t 5)), none⟩,
    ⟨some 10, .d (.bslice 1 1 [(.int .i64 0)] [(0, (.t 9))]), none⟩,
    ⟨some 11, .l (.append 1 8 (.t 8) (.t 10)), none⟩,
    ⟨none, .h (.store 1 (.t 2) (.t 11)), none⟩]))
/-- slices.AppendSeq[[]int,int] -/
def ac48 : AC := (.seq (.reg [⟨some 2, .h (.box (.t 0)), none⟩,
    ⟨some 4, .p (.mov (.c .nils)), none⟩])
  (.seq (.seq (.reg [⟨some 6, .p (.mov (.t 1)), none⟩])
  (.block 0 (.rangeF 480 (.t 6) [2] [7] rfA480 rfB480)))
  (.seq (.reg [⟨some 12, .h (.load false 1 (.t 2)), none⟩,
    ⟨some 4, .p (.mov (.t 12)), none⟩])
  .ret)))
def rs48 : List AR := [.tmp 4]
theorem ok48 : okF Try.prog 48 13 ac48 rs48 = true := by kernel_rfl
end Go.Proofs

