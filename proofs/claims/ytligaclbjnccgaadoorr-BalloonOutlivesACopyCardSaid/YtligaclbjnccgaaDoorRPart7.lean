/- Part of a proof about the given program: lemmas that the other parts use. -/
import Derived.Test.YtligaclbjnccgaaDoorRPart6
import Derived.Test.YtligaclbjnccgaaDoorRPart4
import Derived.Test.YtligaclbjnccgaaDoorRProg
import Derived.KernelRfl
import Derived.Test.YtligaclbjnccgaaDoorRPart5

set_option linter.all false
set_option linter.unusedSimpArgs false
set_option linter.unusedVariables false
namespace Go.Eng
open Go

variable [Globs]
/-! #### Calls, guards, regions, code -/
abbrev CallE := FuncId → List AV → EH → Option (AV × EH)
structure CallOK (P : Program) (call : CallE) : Prop where
  ok : ∀ f vs T r T', call f vs T = some (r, T') → ∀ H, RepH T H → ∃ H', RepH T' H' ∧ ∀ K : AV → Heap → Prop, K r H' → CallA P f vs H K
def callD (call : CallE) (f : FuncId) (vs : List AV) : Option AV := match call f vs EH.nil with
  | some (r, T) => match pubE T.get 8 r with
    | some r' => bif noLocL vs && noLoc r' then some r' else none
    | none => none
  | none => none
theorem callD_run {P : Program} {call : CallE} (hc : CallOK P call) {f : FuncId} {vs : List AV} {r : AV} (h : callD call f vs = some r) {K : AV → Prop} (hk : K r) : QCallA P f vs K := by
  unfold callD at h
  split at h
  · rename_i r' T' hcall
    split at h
    · rename_i r2 hp
      cases hb : (noLocL vs && noLoc r2) <;> simp only [hb, cond_true, cond_false] at h
      · cases h
      · cases h
        simp only [Bool.and_eq_true] at hb
        obtain ⟨H', R', hK⟩ := hc.ok _ _ _ _ _ hcall _ RepH.nil
        refine QCallA.of (CallA.out 8 (hK (fun v H => v = r' ∧ H = H') ⟨rfl, rfl⟩) ?_) hb.1 hb.2 hk
        rintro v H ⟨rfl, rfl⟩
        exact ⟨_, by rw [R'.get]; exact hp, rfl, rfl⟩
    · cases h
  · cases h

def callQ (call : CallE) (η : Nat → AB) (f : FuncId) (vs : List AV) : Option AV := match atL vs with
  | [] => callD call f vs
  | k :: ks => match callD call f (frz η (k :: ks) vs) with
    | some r => bif flatV r then some r else none
    | none => none
theorem callQ_run {P : Program} {call : CallE} (hc : CallOK P call) {η : Nat → AB} {f : FuncId} {vs : List AV} {r : AV} (h : callQ call η f vs = some r) {K : AV → Prop} (hk : K r) : qcallK P η f vs K := by
  unfold callQ at h; unfold qcallK
  cases he : atL vs with
  | nil => rw [he] at h; exact callD_run hc h hk
  | cons k ks =>
    rw [he] at h
    simp only [fvs_eq] at h ⊢
    split at h
    · rename_i r' hr
      cases hf : flatV r' <;> simp only [hf, cond_true, cond_false, reduceCtorEq] at h
      cases h
      exact callD_run hc hr (by rw [hf]; exact hk)
    · cases h

section
variable (call : CallE)
def AOp.e (F : BT AV) (T : EH) : AOp → Option (AV × EH)
  | .m o => o.e (AX.eF F) T
  | .p o => match o.e (AX.eF F) with
    | some u => some (u, T)
    | none => none
  | .v o => match o.e (AX.eF F) with
    | some u => some (u, T)
    | none => none
  | .h o => o.e (AX.eF F) T
  | .d o => match o.e (AX.eF F) T.get with
    | some u => some (u, T)
    | none => none
  | .l o => match o.e (AX.eF F) T.get T.nx with
    | some (u, ab, kl) => forceN (T.nx + 1) fun n => match kl with
      | none => match EH.put ⟨n, T.bs⟩ T.nx ab with
        | some T' => some (u, T')
        | none => none
      | some k => match EH.put ⟨n, T.bs⟩ k .dead with
        | some T1 => match T1.put T.nx ab with
          | some T' => some (u, T')
          | none => none
        | none => none
    | none => none
  | .call f args => call f (mapE (AX.eF F) args) T
  | .callv x args => match x.eF F with
    | .func f caps => call f (mapE (AX.eF F) args ++ caps) T
    | _ => none
def AO.e (o : AO) (F : BT AV) (T : EH) : Option (BT AV × EH) := match o.guard with
  | none => match o.op.e call F T with
    | some (v, T') => match putE F o.dst v with
      | some F' => some (F', T')
      | none => none
    | none => none
  | some (s, want) => match AX.eF F (.t s) with
    | .bool b => bif b == want then (match o.op.e call F T with
      | some (v, T') => match putE F o.dst v with
        | some F' => some (F', T')
        | none => none
      | none => none) else (match putE F o.dst (.tuple []) with
      | some F' => some (F', T)
      | none => none)
    | .tuple [] => match putE F o.dst (.tuple []) with
      | some F' => some (F', T)
      | none => none
    | _ => none
def opsE : List AO → BT AV → EH → Option (BT AV × EH)
  | [], F, T => some (F, T)
  | o :: r, F, T => match o.e call F T with
    | some (F', T') => opsE r F' T'
    | none => none

def HOp.qe (ev : AX → AV) (η : Nat → AB) (p : Nat) : HOp → Option (AV × Ef)
  | .load agg n x => match ev x with
    | .dptr cs => match loadE agg n cs with
      | some v => some (v, [])
      | none => none
    | .ptr k off => match η k with
      | .cells cs => match loadE agg n (cs.drop off) with
        | some v => some (v, [])
        | none => none
      | _ => none
    | _ => none
  | .alloc zero => some (.ptr p 0, [(p, .cells zero)])
  | .box x => match cellsOf (ev x) with
    | some cs => some (.ptr p 0, [(p, .cells cs)])
    | none => none
  | .store n q x => match ev q with
    | .ptr k off => match η k with
      | .cells cs => match cellsOf (ev x) with
        | some vs => bif Nat.beq vs.length n then (match lputE cs off vs with
          | some cs' => some (.any, [(k, .cells cs')])
          | none => none) else none
        | none => none
      | _ => none
    | _ => none
def MOp.qe (ev : AX → AV) (η : Nat → AB) : MOp → Option (AV × Ef)
  | .mk => none
  | .get ok kk zero m k => match mapE0 η (ev m) with
    | some (_, es) => bif keyOk kk (ev k) then (match mfind kk (ev k) es with
      | some r => some (mval ok zero r, [])
      | none => none) else none
    | none => none
  | .set kk m k v => match mapE0 η (ev m) with
    | some (some p, es) => bif keyOk kk (ev k) && noLoc (ev v) then (match mput kk (ev k) (ev v) es with
      | some es' => some (.any, [(p, .map es')])
      | none => none) else none
    | _ => none
  | .del kk m k => match mapE0 η (ev m) with
    | some (some p, es) => bif keyOk kk (ev k) then (match mdel kk (ev k) es with
      | some es' => some (.tuple [], [(p, .map es')])
      | none => none) else none
    | _ => none
  | .range _ => none
  | .next _ => none
  | .entry _ => none
  | .delw _ _ _ _ => none
  | .copyS _ _ => none
  | .copy e d s => match ev d with
    | .slice k off n _ e' => match η k with
      | .cells cs => match srcE η e (ev s) with
        | some (ds, m) => if e' = e then (bif Nat.ble m n then (match lputE cs off ds with
          | some cs' => some (.int .i64 m, [(k, .cells cs')])
          | none => none) else (match lputE cs off (ds.take (n * e)) with
          | some cs' => some (.int .i64 n, [(k, .cells cs')])
          | none => none)) else none
        | none => none
      | _ => none
    | _ => none
  | .len m => match mapE0 η (ev m) with
    | some (_, es) => some (.int .i64 es.length, [])
    | none => none
def AOp.qe (ev : AX → AV) (η : Nat → AB) (p : Nat) : AOp → Option (AV × Ef)
  | .m o => o.qe ev η
  | .p o => match o.e ev with
    | some u => some (u, [])
    | none => none
  | .v o => match o.e ev with
    | some u => some (u, [])
    | none => none
  | .h o => o.qe ev η p
  | .d o => match o.e ev η with
    | some u => some (u, [])
    | none => none
  | .l o => match o.e ev η p with
    | some (u, cs, kl) => some (u, efL p cs kl)
    | none => none
  | .call f args => match callQ call η f (mapE ev args) with
    | some r => some (r, [])
    | none => none
  | .callv x args => match ev x with
    | .func f caps => match callQ call η f (mapE ev args ++ caps) with
      | some r => some (r, [])
      | none => none
    | _ => none
def layE (T : EH) : Ef → Option EH
  | [] => some T
  | (k, x) :: r => match T.put k x with
    | some T' => layE T' r
    | none => none
def logE (dep : List (Nat × Nat)) (i : Nat) (F W : List Nat) (L : List En) : Option (List En) := match F, W with
  | [], [] => some L
  | F, W => bif okLog dep ⟨i, F, W⟩ L then some (⟨i, F, W⟩ :: L) else none
def qwalkE (dep : List (Nat × Nat)) : List AO → Nat → Nat → List En → BT AV → EH → Option (BT AV × EH)
  | [], _, _, _, F, T => some (F, T)
  | q :: r, i, p, L, F, T => match (match q.guard with
      | none => some true
      | some (s, want) => match AX.eF F (.t s) with
        | .bool b => some (b == want)
        | .tuple [] => some false
        | _ => none) with
    | some true => match q.op.qe call (AX.eF F) T.get p with
      | some (v, b) => match logE dep i (q.op.foot (AX.eF F)) (keys b) L with
        | some L' => match putE F q.dst v with
          | some F' => match layE T b with
            | some T' => forceN (i + 1) fun i' => forceN (p + 1) fun p' => qwalkE dep r i' p' L' F' T'
            | none => none
          | none => none
        | none => none
      | none => none
    | some false => match putE F q.dst (.tuple []) with
      | some F' => forceN (i + 1) fun i' => forceN (p + 1) fun p' => qwalkE dep r i' p' L F' T
      | none => none
    | none => none

def loopE (step : BT AV → EH → Option (XA × BT AV × EH)) : Nat → BT AV → EH → Option (XA × BT AV × EH)
  | 0, _, _ => none
  | k + 1, F, T => match step F T with
    | some (.normal, F', T') => loopE step k F' T'
    | r => r
def AC.e (lf : Nat) : AC → BT AV → EH → Option (XA × BT AV × EH)
  | .skip, F, T => some (.normal, F, T)
  | .ret, F, T => some (.ret, F, T)
  | .exit id, F, T => some (.exit id, F, T)
  | .reg ops, F, T => match opsE call ops F T with
    | some (F', T') => some (.normal, F', T')
    | none => none
  | .draw m dep ops, F, T => forceN (T.nx + m) fun n => match qwalkE call dep (ops.take m) 0 T.nx [] F ⟨n, T.bs⟩ with
    | some (F', T') => match opsE call (ops.drop m) F' T' with
      | some (F'', T'') => some (.normal, F'', T'')
      | none => none
    | none => none
  | .seq a b, F, T => match a.e lf F T with
    | some (.normal, F', T') => b.e lf F' T'
    | r => r
  | .cond c a b, F, T => match c.eF F with
    | .bool t => match t with
      | true => a.e lf F T
      | false => b.e lf F T
    | _ => none
  | .block id a, F, T => match a.e lf F T with
    | some (.exit j, F', T') => bif Nat.beq j id then some (.normal, F', T') else some (.exit j, F', T')
    | r => r
  | .loop a, F, T => loopE (fun F T => a.e lf F T) lf F T
  | .ghost a, F, T => a.e lf F T
  | .scope a, F, T => a.e lf F T
def resE (F : BT AV) (T : EH) : List AR → Option (List AV)
  | [] => some []
  | .tmp t :: r => match resE F T r with
    | some vs => some (AX.eF F (.t t) :: vs)
    | none => none
  | .cell t agg n :: r => match AX.eF F (.t t) with
    | .ptr k off => match T.get k with
      | .cells cs => match loadE agg n (cs.drop off) with
        | some v => match resE F T r with
          | some vs => some (v :: vs)
          | none => none
        | none => none
      | _ => none
    | _ => none
def frameE : Nat → List AV → Option (BT AV)
  | _, [] => some .nil
  | i, v :: r => match frameE (i + 1) r with
    | some F => putE F (some i) v
    | none => none
end

/-- A function's text, by number. -/
structure FE where
  f : FuncId
  N : Nat
  ac : AC
  rs : List AR
def findE : List FE → FuncId → Option FE
  | [], _ => none
  | e :: r, f => bif Nat.beq e.f f then some e else findE r f
def runO (ov : CallE) (tbl : List FE) (lf : Nat) : Nat → CallE
  | 0, _, _, _ => none
  | n + 1, f, vs, T => match findE tbl f with
    | none => ov f vs T
    | some e => bif Nat.ble vs.length e.N then (match frameE 0 vs with
      | some F => match e.ac.e (runO ov tbl lf n) lf F T with
        | some (.exit _, _, _) => none
        | some (_, F', T') => match resE F' T' e.rs with
          | some rs => some (one rs, T')
          | none => none
        | none => none
      | none => none) else none
def runE (tbl : List FE) (lf : Nat) : Nat → CallE := runO (fun _ _ _ => none) tbl lf

/-! #### Soundness -/
section
variable {P : Program} {call : CallE}
theorem AOp.e_run (hc : CallOK P call) {F : BT AV} {fr : Fr} {T T' : EH} {H : Heap} {o : AOp} {v : AV} (h : o.e call F T = some (v, T')) (RF : RepF F fr) (R : RepH T H) : ∃ H', RepH T' H' ∧ ∀ K : AV → Heap → Prop, K v H' → o.run P fr H K := by
  cases o <;> simp only [AOp.e, AOp.run, newK0_eq, RF.ev, fvs_eq, mapE_eq] at h ⊢
  case m o => exact MOp.e_run h R
  case p o =>
    split at h
    · rename_i u hu; cases h; exact ⟨H, R, fun K hk => o.e_run hu hk⟩
    · cases h
  case v o =>
    split at h
    · rename_i u hu; cases h; exact ⟨H, R, fun K hk => o.e_run hu hk⟩
    · cases h
  case h o => exact HOp.e_run h R
  case d o =>
    split at h
    · rename_i u hu; cases h; exact ⟨H, R, fun K hk => by rw [R.get]; exact o.e_run hu hk⟩
    · cases h
  case l o =>
    split at h
    · rename_i u ab kl hu
      rw [forceN_eq] at h
      have R1 : RepH ⟨T.nx + 1, T.bs⟩ ⟨H.nx + 1, H.bs⟩ := ⟨by simp [R.nx], R.get, R.noit⟩
      split at h
      · split at h
        · rename_i T2 hp; cases h
          refine ⟨_, R1.put hp, fun K hk => ?_⟩
          rw [R.get, R.nx]
          refine LOp.e_run hu ?_
          rw [← R.nx] at hk ⊢; exact hk
        · cases h
      · split at h
        · rename_i T1 h1
          split at h
          · rename_i T2 h2; cases h
            refine ⟨_, (R1.put h1).put h2, fun K hk => ?_⟩
            rw [R.get, R.nx]
            refine LOp.e_run hu ?_
            rw [← R.nx] at hk ⊢; exact hk
          · cases h
        · cases h
    · cases h
  case call f args =>
    obtain ⟨H', R', hK⟩ := hc.ok _ _ _ _ _ h H R
    exact ⟨H', R', hK⟩
  case callv x args =>
    rw [← RF.ev] at h
    rw [← RF.ev]
    generalize AX.ev fr x = vx at h ⊢
    split at h
    · obtain ⟨H', R', hK⟩ := hc.ok _ _ _ _ _ h H R
      exact ⟨H', R', hK⟩
    · cases h
theorem AX.eF_look {F : BT AV} {fr : Fr} (RF : RepF F fr) (s : Nat) : AX.eF F (.t s) = look fr s := by
  have := congrFun RF.ev (.t s); exact this.symm
theorem AO.e_run (hc : CallOK P call) {F F' : BT AV} {fr : Fr} {T T' : EH} {H : Heap} {o : AO} (h : o.e call F T = some (F', T')) (RF : RepF F fr) (R : RepH T H) :
    ∃ fr' H', RepF F' fr' ∧ RepH T' H' ∧ ∀ K : Fr → Heap → Prop, K fr' H' → o.run P fr H K := by
  unfold AO.e at h; unfold AO.run
  simp only [putK_eq]
  split at h
  · rename_i hg
    split at h
    · rename_i v T1 hv
      split at h
      · rename_i F1 hF; cases h
        obtain ⟨H', R', hK⟩ := AOp.e_run hc hv RF R
        exact ⟨_, H', RF.put hF, R', fun K hk => by simp only [hg]; exact hK _ hk⟩
      · cases h
    · cases h
  · rename_i s want hg
    rw [AX.eF_look RF] at h
    split at h
    · rename_i b hb
      cases hw : b == want <;> simp only [hw, cond_true, cond_false] at h
      · split at h
        · rename_i F1 hF; cases h
          refine ⟨_, H, (RF.know hb).put hF, R, fun K hk => ?_⟩
          simp only [hg, hb]
          cases b <;> cases want <;> first | (cases hw; done) | exact Branch.ofT rfl hk | exact Branch.ofF rfl hk
        · cases h
      · split at h
        · rename_i v T1 hv
          split at h
          · rename_i F1 hF; cases h
            obtain ⟨H', R', hK⟩ := AOp.e_run hc hv (RF.know hb) R
            refine ⟨_, H', (RF.know hb).put hF, R', fun K hk => ?_⟩
            simp only [hg, hb]
            cases b <;> cases want <;> first | (cases hw; done) | exact Branch.ofT rfl (hK _ hk) | exact Branch.ofF rfl (hK _ hk)
          · cases h
        · cases h
    · rename_i hb
      split at h
      · rename_i F1 hF; cases h
        exact ⟨_, H, RF.put hF, R, fun K hk => by simp only [hg, hb]; exact hk⟩
      · cases h
    · cases h
theorem opsE_run (hc : CallOK P call) : ∀ {l : List AO} {F F' : BT AV} {fr : Fr} {T T' : EH} {H : Heap}, opsE call l F T = some (F', T') → RepF F fr → RepH T H →
    ∃ fr' H', RepF F' fr' ∧ RepH T' H' ∧ ∀ K : Fr → Heap → Prop, K fr' H' → runOps P K l fr H
  | [], F, F', fr, T, T', H, h, RF, R => by
    simp only [opsE] at h; cases h; exact ⟨fr, H, RF, R, fun K hk => hk⟩
  | o :: r, F, F', fr, T, T', H, h, RF, R => by
    simp only [opsE] at h
    split at h
    · rename_i F1 T1 h1
      obtain ⟨fr1, H1, RF1, R1, hK1⟩ := AO.e_run hc h1 RF R
      obtain ⟨fr2, H2, RF2, R2, hK2⟩ := opsE_run hc h RF1 R1
      exact ⟨fr2, H2, RF2, R2, fun K hk => hK1 _ (hK2 K hk)⟩
    · cases h
theorem HOp.qe_run {ev : AX → AV} {η : Nat → AB} {p : Nat} {o : HOp} {v : AV} {b : Ef} (h : o.qe ev η p = some (v, b)) {K : AV → Ef → Prop} (hk : K v b) : o.q ev η p K := by
  cases o <;> simp only [HOp.qe, HOp.q] at h ⊢
  case load agg n x =>
    generalize ev x = vx at h ⊢
    split at h
    · split at h
      · rename_i u hu; cases h; exact loadE_run hu hk
      · cases h
    · split at h
      · rename_i cs hcs
        split at h
        · rename_i u hu; cases h
          simp only [hcs]; exact loadE_run hu hk
        · cases h
      · cases h
    · cases h
  case alloc zero => cases h; exact hk
  case box x =>
    split at h
    · rename_i l hl; cases h; simp only [hl]; exact hk
    · cases h
  case store n q x =>
    generalize ev q = vp at h ⊢
    split at h
    · split at h
      · rename_i cs hcs
        split at h
        · rename_i l hl
          cases hb : Nat.beq l.length n <;> simp only [hb, cond_true, cond_false] at h
          · cases h
          · split at h
            · rename_i cs' hp; cases h
              simp only [hcs, hl, hb, cond_true]; exact lputE_run hp hk
            · cases h
        · cases h
      · cases h
    · cases h
theorem MOp.qe_run {ev : AX → AV} {η : Nat → AB} {o : MOp} {v : AV} {b : Ef} (h : o.qe ev η = some (v, b)) {K : AV → Ef → Prop} (hk : K v b) : o.q ev η K := by
  cases o <;> simp only [MOp.qe, MOp.q] at h ⊢
  case mk => cases h
  case get ok kk zero m k =>
    split at h
    · rename_i p es hm
      cases hb : keyOk kk (ev k) <;> simp only [hb, cond_true, cond_false] at h
      · cases h
      · split at h
        · rename_i r hr; cases h
          exact mapE0_run hm (by simp only [cond_true]; exact ⟨r, hr, hk⟩)
        · cases h
    · cases h
  case set kk m k x =>
    split at h
    · rename_i p es hm
      cases hb : (keyOk kk (ev k) && noLoc (ev x)) <;> simp only [hb, cond_true, cond_false] at h
      · cases h
      · split at h
        · rename_i es' hr; cases h
          exact mapE0_run hm (by simp only [cond_true]; exact ⟨es', hr, hk⟩)
        · cases h
    · cases h
  case del kk m k =>
    split at h
    · rename_i p es hm
      cases hb : keyOk kk (ev k) <;> simp only [hb, cond_true, cond_false] at h
      · cases h
      · split at h
        · rename_i es' hr; cases h
          exact mapE0_run hm (by simp only [cond_true]; exact ⟨es', hr, hk⟩)
        · cases h
    · cases h
  case range m => cases h
  case next m => cases h
  case entry m => cases h
  case delw _ _ _ _ => cases h
  case copyS _ _ => cases h
  case copy e d s =>
    generalize ev d = vd at h ⊢
    split at h
    · rename_i k off n cap e'
      split at h
      · rename_i cs hcs
        split at h
        · rename_i ds m hs
          split at h
          · rename_i he
            cases hb : Nat.ble m n <;> simp only [hb, cond_true, cond_false] at h
            · split at h
              · rename_i cs' hl; cases h
                simp only [hcs]
                exact srcE_run hs ⟨he, .ofF (decide_eq_false (fun e => by have := Nat.ble_eq_true_of_le e; rw [this] at hb; cases hb)) (lputE_run hl hk)⟩
              · cases h
            · split at h
              · rename_i cs' hl; cases h
                simp only [hcs]
                exact srcE_run hs ⟨he, .ofT (decide_eq_true (Nat.le_of_ble_eq_true hb)) (lputE_run hl hk)⟩
              · cases h
          · cases h
        · cases h
      · cases h
    · cases h
  case len m =>
    split at h
    · rename_i p es hm; cases h
      exact mapE0_run hm hk
    · cases h
theorem AOp.qe_run (hc : CallOK P call) {ev : AX → AV} {η : Nat → AB} {p : Nat} {o : AOp} {v : AV} {b : Ef} (h : o.qe call ev η p = some (v, b)) {K : AV → Ef → Prop} (hk : K v b) : o.q P ev η p K := by
  cases o <;> simp only [AOp.qe, AOp.q, fvs_eq, mapE_eq] at h ⊢
  case m o => exact MOp.qe_run h hk
  case p o =>
    split at h
    · rename_i u hu; cases h; exact o.e_run hu hk
    · cases h
  case v o =>
    split at h
    · rename_i u hu; cases h; exact o.e_run hu hk
    · cases h
  case h o => exact HOp.qe_run h hk
  case d o =>
    split at h
    · rename_i u hu; cases h; exact o.e_run hu hk
    · cases h
  case l o =>
    split at h
    · rename_i u cs kl hu; cases h; exact LOp.e_run hu hk
    · cases h
  case call f args =>
    split at h
    · rename_i r hr; cases h; exact callQ_run hc hr hk
    · cases h
  case callv x args =>
    generalize ev x = vx at h ⊢
    split at h
    · split at h
      · rename_i r hr; cases h; exact callQ_run hc hr hk
      · cases h
    · cases h
theorem layE_run : ∀ {b : Ef} {T T' : EH} {H : Heap}, layE T b = some T' → RepH T H → RepH T' (layH H b)
  | [], T, T', H, h, R => by simp only [layE] at h; cases h; exact R
  | (k, x) :: r, T, T', H, h, R => by
    simp only [layE] at h
    split at h
    · rename_i T1 h1; exact layE_run (H := H.set k x) h (R.put h1)
    · cases h
theorem logE_run {dep : List (Nat × Nat)} {i : Nat} {F W : List Nat} {L L' : List En} (h : logE dep i F W L = some L') {K : List En → Prop} (hk : K L') : logK dep i F W L K := by
  unfold logE at h; unfold logK
  split at h
  · cases h; exact hk
  · split
    · rename_i hn; exact absurd rfl (hn rfl)
    · cases hb : okLog dep ⟨i, F, W⟩ L <;> simp only [hb, cond_true, cond_false] at h ⊢
      · cases h
      · cases h; exact hk
theorem qwalkE_run (hc : CallOK P call) {dep : List (Nat × Nat)} : ∀ {l : List AO} {i p : Nat} {L : List En} {F F' : BT AV} {fr : Fr} {T T' : EH} {H : Heap}, qwalkE call dep l i p L F T = some (F', T') → RepF F fr → RepH T H →
    ∃ fr' H', RepF F' fr' ∧ RepH T' H' ∧ ∀ K : Fr → Heap → Prop, K fr' H' → qwalk P dep K l i p L fr H
  | [], i, p, L, F, F', fr, T, T', H, h, RF, R => by
    simp only [qwalkE] at h; cases h; exact ⟨fr, H, RF, R, fun K hk => hk⟩
  | q :: r, i, p, L, F, F', fr, T, T', H, h, RF, R => by
    simp only [qwalkE, AX.eF_look RF] at h
    -- an operation that is done
    have go : ∀ fr0, RepF F fr0 → (match q.op.qe call (AX.eF F) T.get p with
      | some (v, b) => match logE dep i (q.op.foot (AX.eF F)) (keys b) L with
        | some L' => match putE F q.dst v with
          | some F' => match layE T b with
            | some T' => forceN (i + 1) fun i' => forceN (p + 1) fun p' => qwalkE call dep r i' p' L' F' T'
            | none => none
          | none => none
        | none => none
      | none => none) = some (F', T') → ∃ fr' H', RepF F' fr' ∧ RepH T' H' ∧ ∀ K : Fr → Heap → Prop, K fr' H' →
        q.op.q P (AX.ev fr0) H.get p fun v b => logK dep i (q.op.foot (AX.ev fr0)) (keys b) L fun L => qwalk P dep K r (i + 1) (p + 1) L (put fr0 q.dst v) (layH H b) := by
      intro fr0 RF0 h
      split at h
      · rename_i v b hv
        split at h
        · rename_i L1 hL
          split at h
          · rename_i F1 hF
            split at h
            · rename_i T1 hT
              simp only [forceN_eq] at h
              obtain ⟨fr2, H2, RF2, R2, hK⟩ := qwalkE_run hc h (RF0.put hF) (layE_run hT R)
              refine ⟨fr2, H2, RF2, R2, fun K hk => ?_⟩
              rw [RF0.ev, R.get]
              exact AOp.qe_run hc hv (logE_run hL (hK K hk))
            · cases h
          · cases h
        · cases h
      · cases h
    have skip : ∀ fr0, RepF F fr0 → (match putE F q.dst (.tuple []) with
      | some F' => forceN (i + 1) fun i' => forceN (p + 1) fun p' => qwalkE call dep r i' p' L F' T
      | none => none) = some (F', T') → ∃ fr' H', RepF F' fr' ∧ RepH T' H' ∧ ∀ K : Fr → Heap → Prop, K fr' H' →
        qwalk P dep K r (i + 1) (p + 1) L (put fr0 q.dst (.tuple [])) H := by
      intro fr0 RF0 h
      split at h
      · rename_i F1 hF
        simp only [forceN_eq] at h
        exact qwalkE_run hc h (RF0.put hF) R
      · cases h
    simp only [qwalk_cons, qstep, layK_eq, putK_eq]
    cases hg : q.guard with
    | none =>
      simp only [hg] at h
      obtain ⟨fr', H', a, b, hK⟩ := go fr RF h
      exact ⟨fr', H', a, b, hK⟩
    | some sw =>
      obtain ⟨s, want⟩ := sw
      simp only [hg] at h
      cases hb : look fr s <;> simp only [hb] at h ⊢ <;> try (cases h; done)
      case bool b =>
        cases b <;> cases want <;> simp only [show (false == false) = true from rfl, show (true == true) = true from rfl, show (false == true) = false from rfl, show (true == false) = false from rfl] at h
        · obtain ⟨fr', H', a, b, hK⟩ := go _ (RF.know hb) h
          exact ⟨fr', H', a, b, fun K hk => Branch.ofF rfl (hK K hk)⟩
        · obtain ⟨fr', H', a, b, hK⟩ := skip _ (RF.know hb) h
          exact ⟨fr', H', a, b, fun K hk => Branch.ofF rfl (hK K hk)⟩
        · obtain ⟨fr', H', a, b, hK⟩ := skip _ (RF.know hb) h
          exact ⟨fr', H', a, b, fun K hk => Branch.ofT rfl (hK K hk)⟩
        · obtain ⟨fr', H', a, b, hK⟩ := go _ (RF.know hb) h
          exact ⟨fr', H', a, b, fun K hk => Branch.ofT rfl (hK K hk)⟩
      case tuple cs =>
        cases cs with
        | nil =>
          simp only at h ⊢
          obtain ⟨fr', H', a, b, hK⟩ := skip _ RF h
          exact ⟨fr', H', a, b, hK⟩
        | cons c cs => simp only at h; cases h
theorem loopE_run {n : Nat} {body : (XA → Fr → Heap → Prop) → Fr → Heap → Prop} {step : BT AV → EH → Option (XA × BT AV × EH)}
    (hs : ∀ F T x F' T', step F T = some (x, F', T') → ∀ fr H, RepF F fr → RepH T H → ∃ fr' H', RepF F' fr' ∧ RepH T' H' ∧ ∀ Q : XA → Fr → Heap → Prop, Q x fr' H' → body Q fr H) :
    ∀ (k : Nat) {F F' : BT AV} {fr : Fr} {T T' : EH} {H : Heap} {x : XA}, loopE step k F T = some (x, F', T') → RepF F fr → RepH T H →
      ∃ j fr' H', k = j + 1 ∧ RepF F' fr' ∧ RepH T' H' ∧ ∀ Q : XA → Fr → Heap → Prop, Q x fr' H' → body (lpost n Q j (LoopI n body Q j)) fr H
  | 0, _, _, _, _, _, _, _, h, _, _ => by simp [loopE] at h
  | k + 1, F, F', fr, T, T', H, x, h, RF, R => by
    simp only [loopE] at h
    split at h
    · rename_i F1 T1 h1
      obtain ⟨fr1, H1, RF1, R1, hK1⟩ := hs _ _ _ _ _ h1 fr H RF R
      obtain ⟨j, fr2, H2, rfl, RF2, R2, hK2⟩ := loopE_run (n := n) hs k h RF1 R1
      refine ⟨j + 1, fr2, H2, rfl, RF2, R2, fun Q hq => hK1 _ ?_⟩
      exact ⟨j, Nat.lt_succ_self _, To.refl (.inl ⟨rfl, hK2 Q hq⟩)⟩
    · rename_i hne
      obtain ⟨fr1, H1, RF1, R1, hK1⟩ := hs _ _ _ _ _ h fr H RF R
      refine ⟨k, fr1, H1, rfl, RF1, R1, fun Q hq => hK1 _ ?_⟩
      cases x with
      | normal => exact absurd h (hne _ _)
      | exit id => exact hq
      | ret => exact hq
theorem AC.e_run (hc : CallOK P call) {n lf : Nat} : ∀ (ac : AC) {F F' : BT AV} {fr : Fr} {T T' : EH} {H : Heap} {x : XA}, ac.e call lf F T = some (x, F', T') → RepF F fr → RepH T H →
    ∃ fr' H', RepF F' fr' ∧ RepH T' H' ∧ ∀ Q : XA → Fr → Heap → Prop, Q x fr' H' → ac.run P n Q fr H
  | .skip, _, _, fr, _, _, H, _, h, RF, R => by simp only [AC.e] at h; cases h; exact ⟨fr, H, RF, R, fun Q hq => hq⟩
  | .ret, _, _, fr, _, _, H, _, h, RF, R => by simp only [AC.e] at h; cases h; exact ⟨fr, H, RF, R, fun Q hq => hq⟩
  | .exit id, _, _, fr, _, _, H, _, h, RF, R => by simp only [AC.e] at h; cases h; exact ⟨fr, H, RF, R, fun Q hq => hq⟩
  | .reg ops, _, _, fr, _, _, H, _, h, RF, R => by
    simp only [AC.e] at h
    split at h
    · rename_i F1 T1 h1; cases h
      obtain ⟨fr1, H1, RF1, R1, hK⟩ := opsE_run hc h1 RF R
      exact ⟨fr1, H1, RF1, R1, fun Q hq => hK (Q .normal) hq⟩
    · cases h
  | .draw m dep ops, _, _, fr, T, _, H, _, h, RF, R => by
    simp only [AC.e, forceN_eq] at h
    split at h
    · rename_i F1 T1 h1
      split at h
      · rename_i F2 T2 h2; cases h
        obtain ⟨fr1, H1, RF1, R1, hK1⟩ := qwalkE_run hc h1 RF (H := ⟨H.nx + m, H.bs⟩) ⟨by simp [R.nx], R.get, R.noit⟩
        obtain ⟨fr2, H2, RF2, R2, hK2⟩ := opsE_run hc h2 RF1 R1
        refine ⟨fr2, H2, RF2, R2, fun Q hq => ?_⟩
        have := hK1 (fun fr H => runOps P (Q .normal) (ops.drop m) fr H) (hK2 _ hq)
        rw [← R.nx] at this
        have hsf : setFree (ops.take m) H.get H.nx = true := by
          rw [setFree, noIts_of (fun j => isIt_of (R.noit j))]; simp
        show (bif setFree (ops.take m) H.get H.nx then _ else False)
        rw [hsf]
        exact this
      · cases h
    · cases h
  | .seq a b, _, _, fr, _, _, H, x, h, RF, R => by
    simp only [AC.e] at h
    split at h
    · rename_i F1 T1 h1
      obtain ⟨fr1, H1, RF1, R1, hK1⟩ := AC.e_run hc a h1 RF R
      obtain ⟨fr2, H2, RF2, R2, hK2⟩ := AC.e_run hc b h RF1 R1
      exact ⟨fr2, H2, RF2, R2, fun Q hq => hK1 _ (hK2 Q hq)⟩
    · rename_i hne
      obtain ⟨fr1, H1, RF1, R1, hK1⟩ := AC.e_run hc a h RF R
      refine ⟨fr1, H1, RF1, R1, fun Q hq => hK1 _ ?_⟩
      cases x with
      | normal => exact absurd h (hne _ _)
      | exit id => exact hq
      | ret => exact hq
  | .cond c a b, F, _, fr, _, _, H, _, h, RF, R => by
    simp only [AC.e] at h
    simp only [AC.run_cond, RF.ev]
    generalize AX.eF F c = vc at h ⊢
    cases vc <;> simp only at h ⊢ <;> try (cases h; done)
    rename_i t
    cases t <;> simp only at h
    · obtain ⟨fr1, H1, RF1, R1, hK1⟩ := AC.e_run hc b h RF R
      exact ⟨fr1, H1, RF1, R1, fun Q hq => Branch.ofF rfl (hK1 Q hq)⟩
    · obtain ⟨fr1, H1, RF1, R1, hK1⟩ := AC.e_run hc a h RF R
      exact ⟨fr1, H1, RF1, R1, fun Q hq => Branch.ofT rfl (hK1 Q hq)⟩
  | .block id a, _, _, fr, _, _, H, x, h, RF, R => by
    simp only [AC.e] at h
    split at h
    · rename_i j F1 T1 h1
      obtain ⟨fr1, H1, RF1, R1, hK1⟩ := AC.e_run hc a h1 RF R
      cases hb : Nat.beq j id <;> simp only [hb, cond_true, cond_false] at h <;> cases h
      · exact ⟨fr1, H1, RF1, R1, fun Q hq => hK1 (blockK id Q) (by simp only [blockK, hb, cond_false]; exact hq)⟩
      · exact ⟨fr1, H1, RF1, R1, fun Q hq => hK1 (blockK id Q) (by simp only [blockK, hb, cond_true]; exact hq)⟩
    · rename_i hne
      obtain ⟨fr1, H1, RF1, R1, hK1⟩ := AC.e_run hc a h RF R
      refine ⟨fr1, H1, RF1, R1, fun Q hq => hK1 _ ?_⟩
      cases x with
      | normal => exact hq
      | exit id => exact absurd h (hne _ _ _)
      | ret => exact hq
  | .loop a, _, _, fr, _, _, H, _, h, RF, R => by
    simp only [AC.e] at h
    obtain ⟨j, fr1, H1, _, RF1, R1, hK⟩ := loopE_run (n := n) (body := a.run P n) (fun F T x F' T' hs fr H RF R => AC.e_run hc a hs RF R) lf h RF R
    exact ⟨fr1, H1, RF1, R1, fun Q hq => LoopA.unroll n (a.run P n) Q j (hK Q hq)⟩
  | .ghost a, _, _, fr, _, _, H, _, h, RF, R => by
    simp only [AC.e] at h
    obtain ⟨fr1, H1, RF1, R1, hK1⟩ := AC.e_run hc a h RF R
    exact ⟨fr1, H1, RF1, R1, fun Q hq => To.refl (hK1 Q hq)⟩
  | .scope a, _, _, fr, _, _, H, _, h, RF, R => by
    simp only [AC.e] at h
    obtain ⟨fr1, H1, RF1, R1, hK1⟩ := AC.e_run hc a h RF R
    exact ⟨fr1, H1, RF1, R1, fun Q hq => hK1 Q hq⟩
theorem resE_run {F : BT AV} {fr : Fr} {T : EH} {H : Heap} (RF : RepF F fr) (R : RepH T H) : ∀ {rs : List AR} {vs : List AV}, resE F T rs = some vs → ∀ {K : List AV → Prop}, K vs → resK fr H rs K
  | [], _, h, K, hk => by simp only [resE] at h; cases h; exact hk
  | .tmp t :: r, _, h, K, hk => by
    simp only [resE, AX.eF_look RF] at h
    split at h
    · rename_i vs hv; cases h
      simp only [resK, fv_eq]
      exact resE_run RF R hv hk
    · cases h
  | .cell t agg n :: r, _, h, K, hk => by
    simp only [resE, AX.eF_look RF] at h
    simp only [resK]
    generalize look fr t = vt at h ⊢
    cases vt <;> simp only at h ⊢ <;> try (cases h; done)
    rw [← R.get] at h
    rename_i k off
    generalize H.get k = b at h ⊢
    cases b <;> simp only at h ⊢ <;> try (cases h; done)
    split at h
    · rename_i v hv
      split at h
      · rename_i vs hvs; cases h
        exact loadE_run hv (resE_run RF R hvs hk)
      · cases h
    · cases h
theorem frameE_rep : ∀ {vs : List AV} {i : Nat} {F : BT AV}, frameE i vs = some F → RepF F (frame0 i vs)
  | [], _, _, h => by simp only [frameE] at h; cases h; exact ⟨fun _ => rfl⟩
  | v :: r, i, F, h => by
    simp only [frameE] at h
    split at h
    · rename_i F1 h1; exact (frameE_rep h1).put h
    · cases h
theorem findE_spec : ∀ {tbl : List FE} {f : FuncId} {e : FE}, findE tbl f = some e → e ∈ tbl ∧ e.f = f
  | [], _, _, h => by simp [findE] at h
  | e :: r, f, e', h => by
    simp only [findE] at h
    cases hb : Nat.beq e.f f <;> simp only [hb, cond_true, cond_false] at h
    · have := findE_spec h; exact ⟨List.mem_cons_of_mem _ this.1, this.2⟩
    · cases h; exact ⟨List.mem_cons_self .., Nat.eq_of_beq_eq_true hb⟩
/-- **A RUN BY COMPUTING STANDS FOR A CALL.** -/
theorem runO_ok {ov : CallE} (hov : CallOK P ov) {tbl : List FE} (htbl : ∀ e ∈ tbl, okF P e.f e.N e.ac e.rs = true) (lf : Nat) : ∀ n, CallOK P (runO ov tbl lf n)
  | 0 => ⟨fun f vs T r T' h => by simp [runO] at h⟩
  | n + 1 => ⟨fun f vs T r T' h H R => by
    simp only [runO] at h
    split at h
    · exact hov.ok _ _ _ _ _ h H R
    · rename_i e he
      obtain ⟨hm, rfl⟩ := findE_spec he
      cases hb : Nat.ble vs.length e.N <;> simp only [hb, cond_true, cond_false] at h
      · cases h
      · split at h
        · rename_i F hF
          have hc := runO_ok hov htbl lf n
          split at h
          · cases h
          · rename_i x F' T1 hne hx
            split at h
            · rename_i rs hrs; cases h
              obtain ⟨fr1, H1, RF1, R1, hK⟩ := AC.e_run hc (n := H.nx) e.ac hx (frameE_rep hF) R
              refine ⟨H1, R1, fun K hk => callA_of (htbl e hm) (Nat.le_of_ble_eq_true hb) (hK _ ?_)⟩
              cases x with
              | normal => exact resE_run RF1 R1 hrs (RetA.same hk)
              | exit id => exact (hne _ rfl).elim
              | ret => exact resE_run RF1 R1 hrs (RetA.same hk)
            · cases h
          · cases h
        · cases h⟩
theorem runE_ok {tbl : List FE} (htbl : ∀ e ∈ tbl, okF P e.f e.N e.ac e.rs = true) (lf : Nat) (n : Nat) : CallOK P (runE tbl lf n) := runO_ok ⟨fun _ _ _ _ _ h => by cases h⟩ htbl lf n
def okAll (P : Program) : List FE → Prop
  | [] => True
  | e :: r => okF P e.f e.N e.ac e.rs = true ∧ okAll P r
theorem okAll_spec : ∀ {tbl : List FE}, okAll P tbl → ∀ e ∈ tbl, okF P e.f e.N e.ac e.rs = true
  | [], _, e, he => by cases he
  | e :: r, h, e', he => by
    rcases List.mem_cons.1 he with rfl | he
    · exact h.1
    · exact okAll_spec h.2 e' he
/-- A run's result, of data alone. -/
def resultE (tbl : List FE) (lf n : Nat) (f : FuncId) (vs : List AV) : Option AV := match runE tbl lf n f vs EH.nil with
  | some (r, T) => pubE T.get 8 r
  | none => none
theorem CallA.computed {tbl : List FE} (htbl : okAll P tbl) (lf n : Nat) {f : FuncId} {vs : List AV} {r : AV} (h : resultE tbl lf n f vs = some r) :
    CallA P f vs Heap.nil fun v H' => v = r ∧ H' = Heap.nil := by
  unfold resultE at h
  split at h
  · rename_i r' T' hrun
    obtain ⟨H', R', hK⟩ := (runE_ok (okAll_spec htbl) lf n).ok _ _ _ _ _ hrun _ RepH.nil
    refine CallA.out 8 (hK (fun v H => v = r' ∧ H = H') ⟨rfl, rfl⟩) ?_
    rintro v H ⟨rfl, rfl⟩
    exact ⟨_, by rw [R'.get]; exact h, rfl, rfl⟩
  · cases h
def resultO (ov : CallE) (tbl : List FE) (lf n : Nat) (f : FuncId) (vs : List AV) : Option AV := match runO ov tbl lf n f vs EH.nil with
  | some (r, T) => pubE T.get 8 r
  | none => none
/-- A run by computing, with contracts for some functions. -/
theorem CallA.computedO {ov : CallE} (hov : CallOK P ov) {tbl : List FE} (htbl : okAll P tbl) (lf n : Nat) {f : FuncId} {vs : List AV} {r : AV} (h : resultO ov tbl lf n f vs = some r) :
    CallA P f vs Heap.nil fun v H' => v = r ∧ H' = Heap.nil := by
  unfold resultO at h
  split at h
  · rename_i r' T' hrun
    obtain ⟨H', R', hK⟩ := (runO_ok hov (okAll_spec htbl) lf n).ok _ _ _ _ _ hrun _ RepH.nil
    refine CallA.out 8 (hK (fun v H => v = r' ∧ H = H') ⟨rfl, rfl⟩) ?_
    rintro v H ⟨rfl, rfl⟩
    exact ⟨_, by rw [R'.get]; exact h, rfl, rfl⟩
  · cases h
end
end Go.Eng

namespace Go.Proofs
open Go Go.Eng
set_option maxRecDepth 100000
set_option maxHeartbeats 2000000
/-! ### Contracts, computed -/
def seqN {β : Type} (m : Nat) (K : Nat → β) : β := match m with
  | 0 => K 0
  | n + 1 => K (n + 1)
theorem seqN_eq {β : Type} (m : Nat) (K : Nat → β) : seqN m K = K m := by cases m <;> rfl
def words16 : List Nat → List Nat → List Nat
  | b0 :: b1 :: b2 :: b3 :: r, out => seqN (word b0 b1 b2 b3) fun w => words16 r (w :: out)
  | _, out => out
def extF : Nat → List Nat → List Nat
  | 0, r => r
  | n + 1, r => seqN (r.getD 14 0) fun p => seqN (r.getD 1 0) fun q => seqN ((((r.getD 15 0 + sg0 p) % 4294967296 + r.getD 6 0) % 4294967296 + sg1 q) % 4294967296) fun w => extF n (w :: r)
def roundsF : List Nat → List Nat → S8 → S8
  | k :: ks, w :: ws, s => seqN (t1N s k w) fun x => seqN ((x + t2N s) % 4294967296) fun a => seqN ((s.d + x) % 4294967296) fun e => roundsF ks ws ⟨a, s.a, s.b, s.c, e, s.e, s.f, s.g⟩
  | _, _, s => s
def revF : List Nat → List Nat → List Nat
  | [], o => o
  | a :: r, o => revF r (a :: o)
def compF (s : S8) (bs : List Nat) : S8 := s.add (roundsF KS (revF (extF 48 (words16 bs [])) []) s)
theorem revF_eq : ∀ (l o : List Nat), revF l o = l.reverse ++ o
  | [], o => rfl
  | a :: r, o => by rw [revF, revF_eq r]; simp
theorem words16_eq {bs : List Nat} : ∀ (n t : Nat), t + n = 16 → bs.length = 64 → words16 (bs.drop (4 * t)) (sched bs t).reverse = (sched bs 16).reverse
  | 0, t, h, hl => by
    have : t = 16 := by omega
    subst this
    rw [List.drop_eq_nil_of_le (by omega)]; rfl
  | n + 1, t, h, hl => by
    have e : bs.drop (4 * t) = bs.getD (4 * t) 0 :: bs.getD (4 * t + 1) 0 :: bs.getD (4 * t + 2) 0 :: bs.getD (4 * t + 3) 0 :: bs.drop (4 * (t + 1)) := by
      have st : ∀ i, i < bs.length → bs.drop i = bs.getD i 0 :: bs.drop (i + 1) := fun i hi => by
        rw [List.drop_eq_getElem_cons hi]; congr 1
        simp [List.getD_eq_getElem?_getD, List.getElem?_eq_getElem hi]
      rw [st (4 * t) (by omega), st (4 * t + 1) (by omega), st (4 * t + 2) (by omega), st (4 * t + 3) (by omega)]; rfl
    rw [e, words16, seqN_eq]
    have : (word (bs.getD (4 * t) 0) (bs.getD (4 * t + 1) 0) (bs.getD (4 * t + 2) 0) (bs.getD (4 * t + 3) 0)) :: (sched bs t).reverse = (sched bs (t + 1)).reverse := by
      show _ = (sched bs t ++ [nxt bs (sched bs t) t]).reverse
      rw [List.reverse_append]; unfold nxt; rw [if_pos (by omega)]; rfl
    rw [this]
    exact words16_eq n (t + 1) (by omega) hl
theorem getD_rev (l : List Nat) (i : Nat) (h : i < l.length) : l.reverse.getD i 0 = l.getD (l.length - 1 - i) 0 := by
  rw [List.getD_eq_getElem?_getD, List.getD_eq_getElem?_getD, List.getElem?_reverse h]
theorem extF_eq {bs : List Nat} : ∀ (n t : Nat), 16 ≤ t → extF n (sched bs t).reverse = (sched bs (t + n)).reverse
  | 0, t, _ => rfl
  | n + 1, t, h => by
    have sl := sched_len bs t
    have g : ∀ i, i < t → (sched bs t).reverse.getD i 0 = (sched bs t).getD (t - 1 - i) 0 := fun i hi => by rw [getD_rev _ _ (by omega), sl]
    simp only [extF, seqN_eq]
    rw [g 14 (by omega), g 1 (by omega), g 15 (by omega), g 6 (by omega)]
    have : ((((sched bs t).getD (t - 1 - 15) 0 + sg0 ((sched bs t).getD (t - 1 - 14) 0)) % 4294967296 + (sched bs t).getD (t - 1 - 6) 0) % 4294967296 + sg1 ((sched bs t).getD (t - 1 - 1) 0)) % 4294967296 :: (sched bs t).reverse = (sched bs (t + 1)).reverse := by
      show _ = (sched bs t ++ [nxt bs (sched bs t) t]).reverse
      rw [List.reverse_append]; unfold nxt; rw [if_neg (by omega)]; rfl
    rw [this, extF_eq n (t + 1) (by omega)]
    congr 2; omega
theorem roundsF_eq {ws : List Nat} (s : S8) (hw : ws.length = 64) : ∀ (n t : Nat), t + n = 64 → roundsF (KS.drop t) (ws.drop t) (rounds ws s t) = rounds ws s 64
  | 0, t, h => by
    have : t = 64 := by omega
    subst this
    rw [List.drop_eq_nil_of_le (by rw [ks_len]; omega), roundsF]
    intros; contradiction
  | n + 1, t, h => by
    have st : ∀ (l : List Nat) i, i < l.length → l.drop i = l.getD i 0 :: l.drop (i + 1) := fun l i hi => by
      rw [List.drop_eq_getElem_cons hi]; congr 1
      simp [List.getD_eq_getElem?_getD, List.getElem?_eq_getElem hi]
    rw [st KS t (by rw [ks_len]; omega), st ws t (by omega), roundsF]
    simp only [seqN_eq]
    exact roundsF_eq s hw n (t + 1) (by omega)
theorem words16_0 {bs : List Nat} (h : bs.length = 64) : words16 bs [] = (sched bs 16).reverse := words16_eq 16 0 rfl h
attribute [local irreducible] sched rounds roundsF extF words16 in
theorem compF_eq (s : S8) {bs : List Nat} (h : bs.length = 64) : compF s bs = compN s bs := by
  unfold compF compN
  rw [words16_0 h, extF_eq 48 16 (by omega), revF_eq, List.reverse_reverse, List.append_nil]
  have h2 := roundsF_eq s (sched_len bs 64) 64 0 rfl
  rw [List.drop_zero, List.drop_zero, rounds_zero] at h2
  rw [show 16 + 48 = 64 from rfl, h2]
def natsOf (k : IntKind) (b : Nat) : List AV → Option (List Nat)
  | [] => some []
  | .int j (.ofNat n) :: r => if j = k then bif Nat.blt n b then (match natsOf k b r with
    | some l => some (n :: l)
    | none => none) else none else none
  | _ => none
theorem natsOf_spec {k : IntKind} {b : Nat} : ∀ {l : List AV} {ns : List Nat}, natsOf k b l = some ns → l = ns.map (fun n : Nat => AV.int k (n : Int)) ∧ ∀ n ∈ ns, n < b
  | [], ns, h => by simp only [natsOf] at h; cases h; exact ⟨rfl, fun _ h => by cases h⟩
  | c :: r, ns, h => by
    cases c <;> try (simp [natsOf] at h; done)
    rename_i j n
    cases n with
    | negSucc m => simp [natsOf] at h
    | ofNat m =>
      simp only [natsOf] at h
      split at h
      · rename_i hj
        subst hj
        cases hb : Nat.blt m b <;> simp only [hb, cond_true, cond_false] at h
        · cases h
        · split at h
          · rename_i l hl
            cases h
            obtain ⟨h1, h2⟩ := natsOf_spec hl
            refine ⟨by rw [List.map_cons, ← h1]; rfl, fun n hn => ?_⟩
            rcases List.mem_cons.1 hn with rfl | hn
            · simpa [Nat.blt_eq] using hb
            · exact h2 n hn
          · cases h
      · cases h
def ov57 (vs : List AV) : Option AV := match vs with
  | [.agg s, .dslice b 64 _] => match natsOf .u32 4294967296 s with
    | some [a, bb, c, d, e, f, g, h] => match natsOf .u8 256 b with
      | some bs => bif Nat.beq bs.length 64 then (match compF ⟨a, bb, c, d, e, f, g, h⟩ bs with
        | ⟨a, b, c, d, e, f, g, h⟩ => seqN a fun a => seqN b fun b => seqN c fun c => seqN d fun d => seqN e fun e => seqN f fun f => seqN g fun g => seqN h fun h => some (.agg [.int .u32 (.ofNat a), .int .u32 (.ofNat b), .int .u32 (.ofNat c), .int .u32 (.ofNat d), .int .u32 (.ofNat e), .int .u32 (.ofNat f), .int .u32 (.ofNat g), .int .u32 (.ofNat h)])) else none
      | none => none
    | _ => none
  | _ => none
attribute [local irreducible] compF compN in
theorem ov57_run {vs : List AV} {r : AV} (h : ov57 vs = some r) {H : Heap} {K : AV → Heap → Prop} (hk : K r H) : CallA Tryd.prog 57 vs H K := by
  unfold ov57 at h
  split at h
  · rename_i s b cap
    split at h
    · rename_i a bb c d e f g hh hs
      split at h
      · rename_i bs hb
        obtain ⟨rfl, h1⟩ := natsOf_spec hs
        obtain ⟨rfl, h2⟩ := natsOf_spec hb
        cases hl : Nat.beq bs.length 64 <;> simp only [hl, cond_true, cond_false] at h
        · cases h
        · have hl := Nat.eq_of_beq_eq_true hl
          have ho : S8.ok ⟨a, bb, c, d, e, f, g, hh⟩ := ⟨h1 _ (by simp), h1 _ (by simp), h1 _ (by simp), h1 _ (by simp), h1 _ (by simp), h1 _ (by simp), h1 _ (by simp), h1 _ (by simp)⟩
          have hc := c57 _ bs cap ho hl h2
          simp only [seqN_eq, compF_eq _ hl] at h
          generalize compN ⟨a, bb, c, d, e, f, g, hh⟩ bs = q at h hc
          cases h
          exact CallA.pure hc rfl rfl hk
      · cases h
    · cases h
  · cases h
end Go.Proofs

namespace Go.Proofs
open Go Go.Eng
set_option maxRecDepth 100000
set_option maxHeartbeats 2000000
def unmap : List (AV × AV) → Option (List (Nat × List AV))
  | [] => some []
  | (.int .i64 (.ofNat i), .dslice c 1 none) :: r => match unmap r with
    | some l => some ((i, c) :: l)
    | none => none
  | _ => none
theorem unmap_spec : ∀ {es : List (AV × AV)} {ls : List (Nat × List AV)}, unmap es = some ls → es = emap ls
  | [], ls, h => by simp only [unmap] at h; cases h; rfl
  | (a, b) :: r, ls, h => by
    unfold unmap at h
    split at h
    · rename_i e; cases e
    · rename_i i c r' e
      cases e
      split at h
      · rename_i l hl; cases h
        rw [unmap_spec hl]; rfl
      · cases h
    · cases h
def chunkN : Nat → List AV → Option (List (List AV))
  | 0, [] => some []
  | 0, _ => none
  | n + 1, cs => bif Nat.beq (cs.take 65).length 65 then (match chunkN n (cs.drop 65) with
    | some l => some (cs.take 65 :: l)
    | none => none) else none
theorem chunkN_spec : ∀ {n : Nat} {cs : List AV} {ch : List (List AV)}, chunkN n cs = some ch → cs = ch.flatten ∧ ch.length = n ∧ ∀ c ∈ ch, c.length = 65
  | 0, [], ch, h => by simp only [chunkN] at h; cases h; exact ⟨rfl, rfl, fun _ h => by cases h⟩
  | 0, _ :: _, ch, h => by simp [chunkN] at h
  | n + 1, cs, ch, h => by
    simp only [chunkN] at h
    cases hb : Nat.beq (cs.take 65).length 65 <;> simp only [hb, cond_true, cond_false] at h
    · cases h
    · split at h
      · rename_i l hl; cases h
        obtain ⟨h1, h2, h3⟩ := chunkN_spec hl
        refine ⟨by rw [List.flatten_cons, ← h1, List.take_append_drop], by simp [h2], fun c hc => ?_⟩
        rcases List.mem_cons.1 hc with rfl | hc
        · exact Nat.eq_of_beq_eq_true hb
        · exact h3 c hc
      · cases h
def nodupN : List Nat → Bool
  | [] => true
  | a :: r => !memN a r && nodupN r
theorem nodupN_spec : ∀ {l : List Nat}, nodupN l = true → l.Nodup
  | [], _ => List.nodup_nil
  | a :: r, h => by
    simp only [nodupN, Bool.and_eq_true, Bool.not_eq_true'] at h
    exact List.nodup_cons.2 ⟨fun hm => (by rw [memN_iff.2 hm] at h; exact absurd h.1 (by simp)), nodupN_spec h.2⟩
theorem OkS.all {n : Nat} {ch : List (List AV)} : ∀ {ls : List (Nat × List AV)}, OkS n ch ls → OkS n (fin ch ls) []
  | [], h => h
  | x :: ls, h => (OkS.out (l1 := []) h).all
def okSb (n : Nat) (ch : List (List AV)) (ls : List (Nat × List AV)) : Bool :=
  Nat.blt 0 n && ch.all (fun c => c.all noLoc) && nodupN (ls.map (·.1)) && ls.all fun x => Nat.blt x.1 n && Nat.beq x.2.length 64 && x.2.all scal && x.2.all noLoc
theorem okSb_spec {n : Nat} {ch : List (List AV)} {ls : List (Nat × List AV)} (h : okSb n ch ls = true) (h1 : ch.length = n) (h2 : ∀ c ∈ ch, c.length = 65) : OkS n ch ls := by
  simp only [okSb, Bool.and_eq_true, List.all_eq_true, Nat.blt_eq, Nat.beq_eq] at h
  obtain ⟨⟨⟨a, b⟩, c⟩, d⟩ := h
  exact ⟨h1, a, fun x hx => ⟨h2 x hx, fun y hy => b x hx y hy⟩, nodupN_spec c, fun x hx => (d x hx).1.1.1, fun x hx => ⟨(d x hx).1.1.2, (d x hx).1.2, (d x hx).2⟩⟩
def forceL {β : Type} : List AV → (List AV → Option β) → Option β
  | [], K => K []
  | c :: r, K => fvE c fun c => forceL r fun r => K (c :: r)
theorem forceL_eq {β : Type} : ∀ (l : List AV) (K : List AV → Option β), forceL l K = K l
  | [], _ => rfl
  | c :: r, K => by rw [forceL, fvE_eq, forceL_eq r]
def ov38 (vs : List AV) (T : EH) : Option (AV × EH) := match vs with
  | [.ptr kd 0] => match T.get kd with
    | .cells [.slice kc 0 n (some n') 65, .map km, .int .i64 (.ofNat st), .int .i64 (.negSucc 0), .bool false] =>
      bif Nat.beq n' n && !Nat.beq kd kc && !Nat.beq kd km && !Nat.beq kc km && Nat.blt kd T.nx && Nat.blt kc T.nx && Nat.blt km T.nx && Nat.blt n 1000000 && Nat.blt st 1000000 then (match T.get kc with
        | .cells cs => match T.get km with
          | .map es => match unmap es with
            | some ls => match chunkN n cs with
              | some ch => bif okSb n ch ls then (forceL (fin ch ls).flatten fun cs' => seqN (st + 1) fun st' => match T.put kd (.cells [.slice kc 0 n (some n) 65, .map km, .int .i64 (.ofNat st'), .int .i64 (.negSucc 0), .bool false]) with
                | some T1 => match T1.put kc (.cells cs') with
                  | some T2 => match T2.put km (.map []) with
                    | some T3 => some (.int .i64 (.ofNat 0), T3)
                    | none => none
                  | none => none
                | none => none) else none
              | none => none
            | none => none
          | _ => none
        | _ => none) else none
    | _ => none
  | _ => none
theorem lentOk_of {keep : List (Nat × Bool)} {η : Nat → AB} (h : ∀ j, (η j).noit) : ∀ n, lentOk keep η n = true
  | 0 => rfl
  | n + 1 => by
    rw [lentOk_succ]
    have := h n
    split
    · rename_i k l c e; rw [e] at this; exact this.elim
    · exact lentOk_of h n
theorem sync_at {H : Heap} {kd kc km n st : Nat} {ch : List (List AV)} {ls : List (Nat × List AV)} (hkd : H.get kd = .cells [.slice kc 0 n (some n) 65, .map km, .int .i64 (.ofNat st), .int .i64 (.negSucc 0), .bool false])
    (hkc : H.get kc = .cells ch.flatten) (hkm : H.get km = .map (emap ls)) (e1 : Nat.beq kd kc = false) (e2 : Nat.beq kd km = false) (e3 : Nat.beq kc km = false) (b1 : Nat.blt kd H.nx = true) (b2 : Nat.blt kc H.nx = true) (b3 : Nat.blt km H.nx = true) (hno : ∀ j, (H.get j).noit)
    (hO : OkS n ch ls) (hn : n < 1000000) (hs : st < 1000000) {K : AV → Heap → Prop} (hk : K (.int .i64 (.ofNat 0)) (((H.set kd (.cells [.slice kc 0 n (some n) 65, .map km, .int .i64 (.ofNat (st + 1)), .int .i64 (.negSucc 0), .bool false])).set kc (.cells (fin ch ls).flatten)).set km (.map []))) : CallA Tryd.prog 38 [.ptr kd 0] H K := by
  have e1' : Nat.beq kc kd = false := by
    rw [Bool.eq_false_iff] at e1 ⊢; intro h; exact e1 (by rw [Nat.eq_of_beq_eq_true h]; simp)
  have e2' : Nat.beq km kd = false := by
    rw [Bool.eq_false_iff] at e2 ⊢; intro h; exact e2 (by rw [Nat.eq_of_beq_eq_true h]; simp)
  have e3' : Nat.beq km kc = false := by
    rw [Bool.eq_false_iff] at e3 ⊢; intro h; exact e3 (by rw [Nat.eq_of_beq_eq_true h]; simp)
  have n1 : kd ≠ kc := fun h => by subst h; simp at e1
  have n2 : kd ≠ km := fun h => by subst h; simp at e2
  have n3 : kc ≠ km := fun h => by subst h; simp at e3
  have c := c38 (n := n) (st := st) hO hn (by omega) (by omega)
  have hrn : renL (posOf [(kd, false), (kc, true), (km, true)]) [.ptr kd 0] = [.ptr 0 0] := by
    simp [renL, ren, posOf, posOf.go]
  have hp : gcH [(kd, false), (kc, true), (km, true)] H = hS n st ch ls := by
    simp only [gcH, gcB, hkd, hkc, hkm, cond_true, cond_false, renB, renL, ren, posOf, posOf.go, Nat.beq_refl, e1, e2, e3, e1', e2', e3']
    rfl
  have hO' : OkS n (fin ch ls) [] := hO.all
  refine CallA.ext (K := fun v H' => v = .int .i64 (.ofNat 0) ∧ H' = lendH [(kd, false), (kc, true), (km, true)] H (hS n (st + 1) (fin ch ls) [])) (CallA.lend [(kd, false), (kc, true), (km, true)] (by rw [hrn, hp]; exact c) ?_ ?_ ?_ ?_ (lentOk_of hno _)) ?_
  · simp only [Eng.distinct, Eng.fresh, e1', e2', e3', Bool.not_false, Bool.and_self, Bool.and_true]
  · exact ⟨by rw [hkc]; exact hO.dat, by rw [hkm]; trivial, trivial⟩
  · simp only [List.all_cons, List.all_nil, b1, b2, b3, Bool.and_self]
  · rintro v H' ⟨rfl, rfl⟩
    exact ⟨⟨hO'.dat, trivial, trivial⟩, rfl, rfl⟩
  · rintro v H' ⟨rfl, rfl⟩
    refine ⟨_, ?_, ?_, hk⟩
    · rfl
    · rfl
theorem ov38_run {vs : List AV} {T T' : EH} {r : AV} (h : ov38 vs T = some (r, T')) {H : Heap} (R : RepH T H) : ∃ H', RepH T' H' ∧ ∀ K : AV → Heap → Prop, K r H' → CallA Tryd.prog 38 vs H K := by
  unfold ov38 at h
  split at h
  · rename_i kd
    split at h
    · rename_i kc n n' km st hkd
      cases hb : (Nat.beq n' n && !Nat.beq kd kc && !Nat.beq kd km && !Nat.beq kc km && Nat.blt kd T.nx && Nat.blt kc T.nx && Nat.blt km T.nx && Nat.blt n 1000000 && Nat.blt st 1000000) <;> simp only [hb, cond_true, cond_false] at h
      · cases h
      · simp only [Bool.and_eq_true, Bool.not_eq_true'] at hb
        obtain ⟨⟨⟨⟨⟨⟨⟨⟨e1, e2⟩, e3⟩, e4⟩, b1⟩, b2⟩, b3⟩, b4⟩, b5⟩ := hb
        have e1 := Nat.eq_of_beq_eq_true e1
        subst e1
        simp only [Nat.blt_eq] at b4 b5
        split at h
        · rename_i cs hkc
          split at h
          · rename_i es hkm
            split at h
            · rename_i ls hls
              split at h
              · rename_i ch hch
                cases ho : okSb n' ch ls <;> simp only [ho, cond_true, cond_false] at h
                · cases h
                · simp only [forceL_eq, seqN_eq] at h
                  obtain ⟨c1, c2, c3⟩ := chunkN_spec hch
                  have hO := okSb_spec ho c2 c3
                  have hE := unmap_spec hls
                  subst c1 hE
                  split at h
                  · rename_i T1 h1
                    split at h
                    · rename_i T2 h2
                      split at h
                      · rename_i T3 h3
                        cases h
                        have R3 := ((R.put h1).put h2).put h3
                        refine ⟨_, R3, fun K hk => ?_⟩
                        exact sync_at (by rw [R.get]; exact hkd) (by rw [R.get]; exact hkc) (by rw [R.get]; exact hkm) e2 e3 e4 (by rw [R.nx]; exact b1) (by rw [R.nx]; exact b2) (by rw [R.nx]; exact b3) R.noit hO b4 b5 hk
                      · cases h
                    · cases h
                  · cases h
              · cases h
            · cases h
          · cases h
        · cases h
    · cases h
  · cases h
/-- The contracts. -/
def ovB : CallE := fun f vs T => bif Nat.beq f 57 then (match ov57 vs with
    | some r => some (r, T)
    | none => none)
  else bif Nat.beq f 38 then ov38 vs T else none
theorem ovB_ok : CallOK Tryd.prog ovB := ⟨fun f vs T r T' h H R => by
  unfold ovB at h
  cases h1 : Nat.beq f 57 <;> simp only [h1, cond_true, cond_false] at h
  · cases h2 : Nat.beq f 38 <;> simp only [h2, cond_true, cond_false] at h
    · cases h
    · have := Nat.eq_of_beq_eq_true h2; subst this
      exact ov38_run h R
  · have := Nat.eq_of_beq_eq_true h1; subst this
    split at h
    · rename_i r' hr; cases h
      exact ⟨H, R, fun K hk => ov57_run hr hk⟩
    · cases h⟩
end Go.Proofs

set_option maxRecDepth 100000
namespace Go.Proofs
open Go Go.Eng
/-- simulacrum/simulacrumlaw27.BalloonPlacesAsSpecified -/
def ac3 : AC := (.seq (.reg [⟨some 7, .h (.box (.t 0)), none⟩,
    ⟨some 14, .p (.mov (.c (.bool false))), none⟩])
  (.seq (.seq (.reg [⟨some 29, .p (.fieldA 0 (.t 7)), none⟩,
    ⟨some 30, .h (.load false 1 (.t 29)), none⟩,
    ⟨some 31, .p (.len false (.t 30)), none⟩,
    ⟨some 32, .p (.bin .gtr (.t 31) (.c (.int .i64 80))), none⟩,
    ⟨some 33, .p (.mov (.t 32)), none⟩,
    ⟨some 34, .p (.mov (.t 6)), (some (33, false))⟩,
    ⟨some 35, .p (.len false (.t 34)), (some (33, false))⟩,
    ⟨some 36, .p (.bin .gtr (.t 35) (.c (.int .i64 80))), (some (33, false))⟩,
    ⟨some 37, .p (.pick (.t 33) (.c (.bool true)) (.t 36)), none⟩])
  (.cond (.t 37) (.seq (.reg [⟨some 38, .call 8 [], none⟩,
    ⟨some 14, .p (.mov (.t 38)), none⟩])
  .ret) .skip))
  (.seq (.reg [⟨some 40, .p (.mov (.t 1)), none⟩,
    ⟨some 41, .p (.mov (.t 2)), none⟩,
    ⟨some 42, .call 9 [(.t 40), (.t 41)], none⟩,
    ⟨some 39, .p (.mov (.t 42)), none⟩,
    ⟨some 43, .p (.extract 0 (.t 39)), none⟩,
    ⟨some 44, .p (.extract 1 (.t 39)), none⟩,
    ⟨some 15, .h (.alloc [.nils]), none⟩,
    ⟨none, .h (.store 1 (.t 15) (.t 43)), none⟩,
    ⟨some 16, .p (.mov (.t 44)), none⟩])
  (.seq (.reg [⟨some 45, .p (.mov (.t 1)), none⟩,
    ⟨some 46, .p (.mov (.t 2)), none⟩,
    ⟨some 47, .call 10 [(.t 45), (.t 46)], none⟩,
    ⟨some 17, .h (.alloc [.nils, (.int .i64 0), (.int .i64 0), (.int .i64 0)]), none⟩,
    ⟨none, .h (.store 4 (.t 17) (.t 47)), none⟩])
  (.seq (.seq (.draw 18 [] [⟨some 48, .p (.mov (.t 16)), none⟩,
    ⟨some 49, .p (.fieldA 3 (.t 17)), none⟩,
    ⟨some 50, .h (.load false 1 (.t 49)), none⟩,
    ⟨some 51, .p (.bin .neq (.t 48) (.t 50)), none⟩,
    ⟨some 52, .p (.mov (.t 51)), none⟩,
    ⟨some 53, .h (.load true 1 (.t 15)), (some (52, false))⟩,
    ⟨some 54, .p (.fieldA 0 (.t 17)), (some (52, false))⟩,
    ⟨some 55, .h (.load true 1 (.t 54)), (some (52, false))⟩,
    ⟨some 56, .call 11 [(.t 53), (.t 55)], (some (52, false))⟩,
    ⟨some 57, .p (.un .not (.t 56)), (some (52, false))⟩,
    ⟨some 58, .p (.pick (.t 52) (.c (.bool true)) (.t 57)), none⟩,
    ⟨some 59, .p (.mov (.t 58)), none⟩,
    ⟨some 60, .h (.load true 1 (.t 7)), (some (59, false))⟩,
    ⟨some 61, .call 12 [(.t 60)], (some (59, false))⟩,
    ⟨some 62, .h (.load true 1 (.t 7)), (some (59, false))⟩,
    ⟨some 63, .call 13 [(.t 62)], (some (59, false))⟩,
    ⟨some 64, .p (.beq true (.t 61) (.t 63)), (some (59, false))⟩,
    ⟨some 65, .p (.pick (.t 59) (.c (.bool true)) (.t 64)), none⟩])
  (.cond (.t 65) (.seq (.reg [⟨some 14, .p (.mov (.c (.bool false))), none⟩])
  .ret) .skip))
  (.seq (.seq (.reg [⟨some 66, .h (.load true 1 (.t 7)), none⟩,
    ⟨some 67, .call 13 [(.t 66)], none⟩,
    ⟨some 68, .p (.un .not (.t 67)), none⟩])
  (.cond (.t 68) (.seq (.reg [⟨some 69, .call 8 [], none⟩,
    ⟨some 14, .p (.mov (.t 69)), none⟩])
  .ret) .skip))
  (.seq (.reg [⟨some 71, .h (.load true 1 (.t 7)), none⟩,
    ⟨some 72, .p (.mov (.t 5)), none⟩,
    ⟨some 73, .p (.mov (.t 6)), none⟩,
    ⟨some 74, .call 14 [(.t 71), (.t 72), (.t 73)], none⟩,
    ⟨some 70, .p (.mov (.t 74)), none⟩,
    ⟨some 75, .p (.extract 0 (.t 70)), none⟩,
    ⟨some 76, .p (.extract 1 (.t 70)), none⟩,
    ⟨some 18, .p (.mov (.t 75)), none⟩,
    ⟨some 19, .p (.mov (.t 76)), none⟩])
  (.seq (.reg [⟨some 78, .h (.load true 1 (.t 7)), none⟩,
    ⟨some 79, .p (.mov (.t 3)), none⟩,
    ⟨some 80, .p (.mov (.t 4)), none⟩,
    ⟨some 81, .call 15 [(.t 78), (.t 79), (.t 80)], none⟩,
    ⟨some 77, .p (.mov (.t 81)), none⟩,
    ⟨some 82, .p (.extract 0 (.t 77)), none⟩,
    ⟨some 83, .p (.extract 1 (.t 77)), none⟩,
    ⟨some 20, .h (.alloc [.nils]), none⟩,
    ⟨none, .h (.store 1 (.t 20) (.t 82)), none⟩,
    ⟨some 21, .p (.mov (.t 83)), none⟩])
  (.seq (.reg [⟨some 85, .h (.load true 1 (.t 7)), none⟩,
    ⟨some 86, .p (.mov (.t 3)), none⟩,
    ⟨some 87, .call 16 [(.t 85), (.t 86)], none⟩,
    ⟨some 84, .p (.mov (.t 87)), none⟩,
    ⟨some 88, .p (.extract 0 (.t 84)), none⟩,
    ⟨some 89, .p (.extract 1 (.t 84)), none⟩,
    ⟨some 90, .p (.extract 2 (.t 84)), none⟩,
    ⟨some 22, .h (.alloc [.nils]), none⟩,
    ⟨some 23, .h (.alloc [(.int .i64 0), (.int .i64 0)]), none⟩,
    ⟨none, .h (.store 1 (.t 22) (.t 88)), none⟩,
    ⟨none, .h (.store 2 (.t 23) (.t 89)), none⟩,
    ⟨some 24, .p (.mov (.t 90)), none⟩])
  (.seq (.reg [⟨some 91, .h (.load true 1 (.t 7)), none⟩,
    ⟨some 92, .p (.mov (.t 5)), none⟩,
    ⟨some 93, .p (.mov (.t 6)), none⟩,
    ⟨some 94, .call 17 [(.t 91), (.t 92), (.t 93)], none⟩,
    ⟨some 25, .h (.alloc [(.int .i64 0), (.bool false)]), none⟩,
    ⟨none, .h (.store 2 (.t 25) (.t 94)), none⟩])
  (.seq (.reg [⟨some 95, .h (.load true 1 (.t 7)), none⟩,
    ⟨some 96, .p (.mov (.t 3)), none⟩,
    ⟨some 97, .p (.mov (.t 4)), none⟩,
    ⟨some 98, .call 18 [(.t 95), (.t 96), (.t 97)], none⟩,
    ⟨some 26, .h (.alloc [.nils, (.int .i64 0), (.int .i64 0), (.int .i64 0)]), none⟩,
    ⟨none, .h (.store 4 (.t 26) (.t 98)), none⟩])
  (.seq (.reg [⟨some 99, .h (.load true 1 (.t 7)), none⟩,
    ⟨some 100, .p (.mov (.t 3)), none⟩,
    ⟨some 101, .call 19 [(.t 99), (.t 100)], none⟩,
    ⟨some 27, .h (.alloc [.nils, (.int .i64 0), (.int .i64 0), (.int .i64 0)]), none⟩,
    ⟨none, .h (.store 4 (.t 27) (.t 101)), none⟩])
  (.seq (.reg [⟨some 102, .p (.mov (.t 18)), none⟩,
    ⟨some 103, .p (.fieldA 0 (.t 25)), none⟩,
    ⟨some 104, .h (.load false 1 (.t 103)), none⟩,
    ⟨some 105, .p (.bin .eql (.t 102) (.t 104)), none⟩,
    ⟨some 106, .p (.mov (.t 105)), none⟩,
    ⟨some 107, .p (.mov (.t 19)), (some (106, true))⟩,
    ⟨some 108, .p (.fieldA 1 (.t 25)), (some (106, true))⟩,
    ⟨some 109, .h (.load false 1 (.t 108)), (some (106, true))⟩,
    ⟨some 110, .p (.beq false (.t 107) (.t 109)), (some (106, true))⟩,
    ⟨some 111, .p (.pick (.t 106) (.t 110) (.c (.bool false))), none⟩,
    ⟨some 112, .p (.mov (.t 111)), none⟩,
    ⟨some 113, .h (.load true 1 (.t 20)), (some (112, true))⟩,
    ⟨some 114, .p (.fieldA 0 (.t 26)), (some (112, true))⟩,
    ⟨some 115, .h (.load true 1 (.t 114)), (some (112, true))⟩,
    ⟨some 116, .call 11 [(.t 113), (.t 115)], (some (112, true))⟩,
    ⟨some 117, .p (.pick (.t 112) (.t 116) (.c (.bool false))), none⟩,
    ⟨some 118, .p (.mov (.t 117)), none⟩,
    ⟨some 119, .p (.mov (.t 21)), (some (118, true))⟩,
    ⟨some 120, .p (.fieldA 3 (.t 26)), (some (118, true))⟩,
    ⟨some 121, .h (.load false 1 (.t 120)), (some (118, true))⟩,
    ⟨some 122, .p (.bin .eql (.t 119) (.t 121)), (some (118, true))⟩,
    ⟨some 123, .p (.pick (.t 118) (.t 122) (.c (.bool false))), none⟩,
    ⟨some 124, .p (.mov (.t 123)), none⟩,
    ⟨some 125, .h (.load true 1 (.t 22)), (some (124, true))⟩,
    ⟨some 126, .p (.fieldA 0 (.t 27)), (some (124, true))⟩,
    ⟨some 127, .h (.load true 1 (.t 126)), (some (124, true))⟩,
    ⟨some 128, .call 11 [(.t 125), (.t 127)], (some (124, true))⟩,
    ⟨some 129, .p (.pick (.t 124) (.t 128) (.c (.bool false))), none⟩,
    ⟨some 130, .p (.mov (.t 129)), none⟩,
    ⟨some 131, .h (.load true 2 (.t 23)), (some (130, true))⟩,
    ⟨some 132, .p (.fieldA 1 (.t 27)), (some (130, true))⟩,
    ⟨some 133, .h (.load true 2 (.t 132)), (some (130, true))⟩,
    ⟨some 134, .v (.eqa false [(.i .i64), (.i .i64)] (.t 131) (.t 133)), (some (130, true))⟩,
    ⟨some 135, .p (.pick (.t 130) (.t 134) (.c (.bool false))), none⟩,
    ⟨some 136, .p (.mov (.t 135)), none⟩,
    ⟨some 137, .p (.mov (.t 24)), (some (136, true))⟩,
    ⟨some 138, .p (.fieldA 3 (.t 27)), (some (136, true))⟩,
    ⟨some 139, .h (.load false 1 (.t 138)), (some (136, true))⟩,
    ⟨some 140, .p (.bin .eql (.t 137) (.t 139)), (some (136, true))⟩,
    ⟨some 141, .p (.pick (.t 136) (.t 140) (.c (.bool false))), none⟩,
    ⟨some 28, .p (.mov (.t 141)), none⟩])
  (.seq (.draw 14 [] [⟨some 142, .call 8 [], none⟩,
    ⟨some 143, .p (.mov (.t 142)), none⟩,
    ⟨some 144, .p (.mov (.t 28)), (some (143, true))⟩,
    ⟨some 145, .p (.pick (.t 143) (.t 144) (.c (.bool false))), none⟩,
    ⟨some 146, .p (.mov (.t 145)), none⟩,
    ⟨some 147, .h (.load true 1 (.t 7)), (some (146, true))⟩,
    ⟨some 148, .p (.mov (.t 2)), (some (146, true))⟩,
    ⟨some 149, .call 20 [(.t 147), (.t 148)], (some (146, true))⟩,
    ⟨some 150, .h (.load true 1 (.t 7)), (some (146, true))⟩,
    ⟨some 151, .p (.mov (.t 2)), (some (146, true))⟩,
    ⟨some 152, .call 21 [(.t 150), (.t 151)], (some (146, true))⟩,
    ⟨some 153, .p (.bin .eql (.t 149) (.t 152)), (some (146, true))⟩,
    ⟨some 154, .p (.pick (.t 146) (.t 153) (.c (.bool false))), none⟩,
    ⟨some 14, .p (.mov (.t 154)), none⟩])
  .ret))))))))))))))
def rs3 : List AR := [.tmp 14]
theorem ok3 : okF Tryd.prog 3 155 ac3 rs3 = true := by kernel_rfl
/-- simulacrum/simulacrumlaw27.BalloonMovesOnePage -/
def ac4 : AC := (.seq (.reg [⟨some 4, .h (.box (.t 0)), none⟩,
    ⟨some 8, .p (.mov (.c (.bool false))), none⟩])
  (.seq (.seq (.reg [⟨some 23, .h (.load true 1 (.t 4)), none⟩,
    ⟨some 24, .call 13 [(.t 23)], none⟩,
    ⟨some 25, .p (.un .not (.t 24)), none⟩])
  (.cond (.t 25) (.seq (.reg [⟨some 26, .call 8 [], none⟩,
    ⟨some 8, .p (.mov (.t 26)), none⟩])
  .ret) .skip))
  (.seq (.reg [⟨some 27, .p (.mov (.t 1)), none⟩,
    ⟨some 28, .p (.conv .i64 (.t 27)), none⟩,
    ⟨some 29, .p (.fieldA 0 (.t 4)), none⟩,
    ⟨some 30, .h (.load false 1 (.t 29)), none⟩,
    ⟨some 31, .p (.len false (.t 30)), none⟩,
    ⟨some 32, .p (.bin .rem (.t 28) (.t 31)), none⟩,
    ⟨some 9, .p (.mov (.t 32)), none⟩])
  (.seq (.reg [⟨some 33, .p (.mov (.t 2)), none⟩,
    ⟨some 34, .p (.conv .i64 (.t 33)), none⟩,
    ⟨some 10, .p (.mov (.t 34)), none⟩])
  (.seq (.seq (.reg [⟨some 11, .p (.mov (.c (.int .i64 0))), none⟩])
  (.block 0 (.loop (.seq (.seq (.reg [⟨some 35, .p (.mov (.t 11)), none⟩,
    ⟨some 36, .p (.fieldA 0 (.t 4)), none⟩,
    ⟨some 37, .h (.load false 1 (.t 36)), none⟩,
    ⟨some 38, .p (.len false (.t 37)), none⟩,
    ⟨some 39, .p (.bin .lss (.t 35) (.t 38)), none⟩])
  (.cond (.t 39) .skip (.exit 0)))
  (.seq (.block 1 (.seq (.reg [⟨some 42, .p (.fieldA 0 (.t 4)), none⟩,
    ⟨some 43, .h (.load false 1 (.t 42)), none⟩,
    ⟨some 44, .p (.mov (.t 11)), none⟩,
    ⟨some 45, .p (.idxA 2 none (.t 43) (.t 44)), none⟩,
    ⟨some 46, .p (.fieldA 0 (.t 45)), none⟩,
    ⟨some 47, .h (.load false 1 (.t 46)), none⟩,
    ⟨some 48, .p (.bin .eql (.t 47) (.c (.int .i64 3))), none⟩,
    ⟨some 49, .p (.mov (.t 48)), none⟩,
    ⟨some 50, .p (.fieldA 0 (.t 4)), (some (49, true))⟩,
    ⟨some 51, .h (.load false 1 (.t 50)), (some (49, true))⟩,
    ⟨some 52, .p (.mov (.t 11)), (some (49, true))⟩,
    ⟨some 53, .p (.idxA 2 none (.t 51) (.t 52)), (some (49, true))⟩,
    ⟨some 54, .p (.fieldA 1 (.t 53)), (some (49, true))⟩,
    ⟨some 55, .h (.load false 1 (.t 54)), (some (49, true))⟩,
    ⟨some 56, .p (.mov (.t 10)), (some (49, true))⟩,
    ⟨some 57, .p (.bin .eql (.t 55) (.t 56)), (some (49, true))⟩,
    ⟨some 58, .p (.pick (.t 49) (.t 57) (.c (.bool false))), none⟩])
  (.cond (.t 58) (.seq (.reg [⟨some 59, .call 8 [], none⟩,
    ⟨some 8, .p (.mov (.t 59)), none⟩])
  .ret) .skip)))
  (.reg [⟨some 40, .p (.mov (.t 11)), none⟩,
    ⟨some 41, .p (.bin .add (.t 40) (.c (.int .i64 1))), none⟩,
    ⟨some 11, .p (.mov (.t 41)), none⟩]))))))
  (.seq (.reg [⟨some 60, .p (.mov (.t 10)), none⟩,
    ⟨some 61, .v (.build [(.int .i64 0), (.int .i64 0)] [(0, 1, (.c (.int .i64 3))), (1, 1, (.t 60))]), none⟩,
    ⟨some 12, .h (.alloc [(.int .i64 0), (.int .i64 0)]), none⟩,
    ⟨none, .h (.store 2 (.t 12) (.t 61)), none⟩])
  (.seq (.seq (.reg [⟨some 62, .p (.mov (.t 3)), none⟩])
  (.cond (.t 62) (.seq (.reg [⟨some 10, .p (.mov (.c (.int .i64 (-1)))), none⟩])
  (.reg [⟨some 63, .v (.build [(.int .i64 0), (.int .i64 0)] [(0, 1, (.c (.int .i64 2)))]), none⟩,
    ⟨none, .h (.store 2 (.t 12) (.t 63)), none⟩])) .skip))
  (.seq (.reg [⟨some 65, .h (.load true 1 (.t 4)), none⟩,
    ⟨some 66, .p (.mov (.t 9)), none⟩,
    ⟨some 67, .p (.mov (.t 10)), none⟩,
    ⟨some 68, .call 15 [(.t 65), (.t 66), (.t 67)], none⟩,
    ⟨some 64, .p (.mov (.t 68)), none⟩,
    ⟨some 69, .p (.extract 0 (.t 64)), none⟩,
    ⟨some 70, .p (.extract 1 (.t 64)), none⟩,
    ⟨some 13, .h (.alloc [.nils]), none⟩,
    ⟨none, .h (.store 1 (.t 13) (.t 69)), none⟩,
    ⟨some 14, .p (.mov (.t 70)), none⟩])
  (.seq (.reg [⟨some 72, .h (.load true 1 (.t 4)), none⟩,
    ⟨some 73, .p (.mov (.t 9)), none⟩,
    ⟨some 74, .call 16 [(.t 72), (.t 73)], none⟩,
    ⟨some 71, .p (.mov (.t 74)), none⟩,
    ⟨some 75, .p (.extract 0 (.t 71)), none⟩,
    ⟨some 76, .p (.extract 1 (.t 71)), none⟩,
    ⟨some 77, .p (.extract 2 (.t 71)), none⟩,
    ⟨some 15, .h (.alloc [.nils]), none⟩,
    ⟨some 16, .h (.alloc [(.int .i64 0), (.int .i64 0)]), none⟩,
    ⟨none, .h (.store 1 (.t 15) (.t 75)), none⟩,
    ⟨none, .h (.store 2 (.t 16) (.t 76)), none⟩,
    ⟨some 17, .p (.mov (.t 77)), none⟩])
  (.seq (.seq (.reg [⟨some 78, .p (.fieldA 0 (.t 4)), none⟩,
    ⟨some 79, .h (.load false 1 (.t 78)), none⟩,
    ⟨some 80, .p (.mov (.t 9)), none⟩,
    ⟨some 81, .p (.idxA 2 none (.t 79) (.t 80)), none⟩,
    ⟨some 82, .p (.fieldA 0 (.t 81)), none⟩,
    ⟨some 83, .h (.load false 1 (.t 82)), none⟩,
    ⟨some 84, .p (.bin .neq (.t 83) (.c (.int .i64 1))), none⟩])
  (.cond (.t 84) (.seq (.seq (.reg [⟨some 18, .p (.mov (.c (.int .i64 0))), none⟩])
  (.block 2 (.loop (.seq (.seq (.reg [⟨some 85, .p (.mov (.t 18)), none⟩,
    ⟨some 86, .p (.fieldA 0 (.t 4)), none⟩,
    ⟨some 87, .h (.load false 1 (.t 86)), none⟩,
    ⟨some 88, .p (.len false (.t 87)), none⟩,
    ⟨some 89, .p (.bin .lss (.t 85) (.t 88)), none⟩])
  (.cond (.t 89) .skip (.exit 2)))
  (.seq (.block 3 (.seq (.draw 39 [] [⟨some 92, .p (.fieldA 0 (.t 15)), none⟩,
    ⟨some 93, .h (.load false 1 (.t 92)), none⟩,
    ⟨some 94, .p (.len false (.t 93)), none⟩,
    ⟨some 95, .p (.fieldA 0 (.t 4)), none⟩,
    ⟨some 96, .h (.load false 1 (.t 95)), none⟩,
    ⟨some 97, .p (.len false (.t 96)), none⟩,
    ⟨some 98, .p (.bin .neq (.t 94) (.t 97)), none⟩,
    ⟨some 99, .p (.mov (.t 98)), none⟩,
    ⟨some 100, .p (.mov (.t 18)), (some (99, false))⟩,
    ⟨some 101, .p (.mov (.t 9)), (some (99, false))⟩,
    ⟨some 102, .p (.bin .neq (.t 100) (.t 101)), (some (99, false))⟩,
    ⟨some 103, .p (.mov (.t 102)), (some (99, false))⟩,
    ⟨some 104, .p (.fieldA 0 (.t 15)), (some (103, true))⟩,
    ⟨some 105, .h (.load false 1 (.t 104)), (some (103, true))⟩,
    ⟨some 106, .p (.mov (.t 18)), (some (103, true))⟩,
    ⟨some 107, .p (.idxA 2 none (.t 105) (.t 106)), (some (103, true))⟩,
    ⟨some 108, .h (.load true 2 (.t 107)), (some (103, true))⟩,
    ⟨some 109, .p (.fieldA 0 (.t 4)), (some (103, true))⟩,
    ⟨some 110, .h (.load false 1 (.t 109)), (some (103, true))⟩,
    ⟨some 111, .p (.mov (.t 18)), (some (103, true))⟩,
    ⟨some 112, .p (.idxA 2 none (.t 110) (.t 111)), (some (103, true))⟩,
    ⟨some 113, .h (.load true 2 (.t 112)), (some (103, true))⟩,
    ⟨some 114, .v (.eqa true [(.i .i64), (.i .i64)] (.t 108) (.t 113)), (some (103, true))⟩,
    ⟨some 115, .p (.pick (.t 103) (.t 114) (.c (.bool false))), (some (99, false))⟩,
    ⟨some 116, .p (.pick (.t 99) (.c (.bool true)) (.t 115)), none⟩,
    ⟨some 117, .p (.mov (.t 116)), none⟩,
    ⟨some 118, .p (.mov (.t 18)), (some (117, false))⟩,
    ⟨some 119, .p (.mov (.t 9)), (some (117, false))⟩,
    ⟨some 120, .p (.bin .eql (.t 118) (.t 119)), (some (117, false))⟩,
    ⟨some 121, .p (.mov (.t 120)), (some (117, false))⟩,
    ⟨some 122, .p (.fieldA 0 (.t 15)), (some (121, true))⟩,
    ⟨some 123, .h (.load false 1 (.t 122)), (some (121, true))⟩,
    ⟨some 124, .p (.mov (.t 18)), (some (121, true))⟩,
    ⟨some 125, .p (.idxA 2 none (.t 123) (.t 124)), (some (121, true))⟩,
    ⟨some 126, .p (.fieldA 0 (.t 125)), (some (121, true))⟩,
    ⟨some 127, .h (.load false 1 (.t 126)), (some (121, true))⟩,
    ⟨some 128, .p (.bin .neq (.t 127) (.c (.int .i64 1))), (some (121, true))⟩,
    ⟨some 129, .p (.pick (.t 121) (.t 128) (.c (.bool false))), (some (117, false))⟩,
    ⟨some 130, .p (.pick (.t 117) (.c (.bool true)) (.t 129)), none⟩])
  (.cond (.t 130) (.seq (.reg [⟨some 8, .p (.mov (.c (.bool false))), none⟩])
  .ret) .skip)))
  (.reg [⟨some 90, .p (.mov (.t 18)), none⟩,
    ⟨some 91, .p (.bin .add (.t 90) (.c (.int .i64 1))), none⟩,
    ⟨some 18, .p (.mov (.t 91)), none⟩]))))))
  (.seq (.draw 28 [] [⟨some 131, .call 8 [], none⟩,
    ⟨some 132, .p (.mov (.t 131)), none⟩,
    ⟨some 133, .p (.mov (.t 14)), (some (132, true))⟩,
    ⟨some 134, .p (.bin .eql (.t 133) (.c (.int .i64 4))), (some (132, true))⟩,
    ⟨some 135, .p (.pick (.t 132) (.t 134) (.c (.bool false))), none⟩,
    ⟨some 136, .p (.mov (.t 135)), none⟩,
    ⟨some 137, .h (.load true 1 (.t 13)), (some (136, true))⟩,
    ⟨some 138, .h (.load true 1 (.t 4)), (some (136, true))⟩,
    ⟨some 139, .call 11 [(.t 137), (.t 138)], (some (136, true))⟩,
    ⟨some 140, .p (.pick (.t 136) (.t 139) (.c (.bool false))), none⟩,
    ⟨some 141, .p (.mov (.t 140)), none⟩,
    ⟨some 142, .p (.mov (.t 17)), (some (141, true))⟩,
    ⟨some 143, .p (.bin .eql (.t 142) (.c (.int .i64 0))), (some (141, true))⟩,
    ⟨some 144, .p (.pick (.t 141) (.t 143) (.c (.bool false))), none⟩,
    ⟨some 145, .p (.mov (.t 144)), none⟩,
    ⟨some 146, .h (.load true 2 (.t 16)), (some (145, true))⟩,
    ⟨some 147, .p (.fieldA 0 (.t 4)), (some (145, true))⟩,
    ⟨some 148, .h (.load false 1 (.t 147)), (some (145, true))⟩,
    ⟨some 149, .p (.mov (.t 9)), (some (145, true))⟩,
    ⟨some 150, .p (.idxA 2 none (.t 148) (.t 149)), (some (145, true))⟩,
    ⟨some 151, .h (.load true 2 (.t 150)), (some (145, true))⟩,
    ⟨some 152, .v (.eqa false [(.i .i64), (.i .i64)] (.t 146) (.t 151)), (some (145, true))⟩,
    ⟨some 153, .p (.pick (.t 145) (.t 152) (.c (.bool false))), none⟩,
    ⟨some 154, .p (.mov (.t 153)), none⟩,
    ⟨some 155, .h (.load true 1 (.t 15)), (some (154, true))⟩,
    ⟨some 156, .call 12 [(.t 155)], (some (154, true))⟩,
    ⟨some 157, .p (.pick (.t 154) (.t 156) (.c (.bool false))), none⟩,
    ⟨some 8, .p (.mov (.t 157)), none⟩])
  .ret)) .skip))
  (.seq (.seq (.reg [⟨some 158, .p (.mov (.t 14)), none⟩,
    ⟨some 159, .p (.bin .neq (.t 158) (.c (.int .i64 0))), none⟩,
    ⟨some 160, .p (.mov (.t 159)), none⟩,
    ⟨some 161, .p (.mov (.t 17)), (some (160, false))⟩,
    ⟨some 162, .p (.bin .neq (.t 161) (.c (.int .i64 4))), (some (160, false))⟩,
    ⟨some 163, .p (.pick (.t 160) (.c (.bool true)) (.t 162)), none⟩,
    ⟨some 164, .p (.mov (.t 163)), none⟩,
    ⟨some 165, .p (.fieldA 0 (.t 13)), (some (164, false))⟩,
    ⟨some 166, .h (.load false 1 (.t 165)), (some (164, false))⟩,
    ⟨some 167, .p (.len false (.t 166)), (some (164, false))⟩,
    ⟨some 168, .p (.fieldA 0 (.t 4)), (some (164, false))⟩,
    ⟨some 169, .h (.load false 1 (.t 168)), (some (164, false))⟩,
    ⟨some 170, .p (.len false (.t 169)), (some (164, false))⟩,
    ⟨some 171, .p (.bin .neq (.t 167) (.t 170)), (some (164, false))⟩,
    ⟨some 172, .p (.pick (.t 164) (.c (.bool true)) (.t 171)), none⟩,
    ⟨some 173, .p (.mov (.t 172)), none⟩,
    ⟨some 174, .h (.load true 1 (.t 13)), (some (173, false))⟩,
    ⟨some 175, .call 12 [(.t 174)], (some (173, false))⟩,
    ⟨some 176, .p (.un .not (.t 175)), (some (173, false))⟩,
    ⟨some 177, .p (.pick (.t 173) (.c (.bool true)) (.t 176)), none⟩])
  (.cond (.t 177) (.seq (.reg [⟨some 8, .p (.mov (.c (.bool false))), none⟩])
  .ret) .skip))
  (.seq (.seq (.reg [⟨some 19, .p (.mov (.c (.int .i64 0))), none⟩])
  (.block 4 (.loop (.seq (.seq (.reg [⟨some 178, .p (.mov (.t 19)), none⟩,
    ⟨some 179, .p (.fieldA 0 (.t 4)), none⟩,
    ⟨some 180, .h (.load false 1 (.t 179)), none⟩,
    ⟨some 181, .p (.len false (.t 180)), none⟩,
    ⟨some 182, .p (.bin .lss (.t 178) (.t 181)), none⟩])
  (.cond (.t 182) .skip (.exit 4)))
  (.seq (.block 5 (.seq (.draw 30 [] [⟨some 185, .p (.mov (.t 19)), none⟩,
    ⟨some 186, .p (.mov (.t 9)), none⟩,
    ⟨some 187, .p (.bin .neq (.t 185) (.t 186)), none⟩,
    ⟨some 188, .p (.mov (.t 187)), none⟩,
    ⟨some 189, .p (.fieldA 0 (.t 13)), (some (188, true))⟩,
    ⟨some 190, .h (.load false 1 (.t 189)), (some (188, true))⟩,
    ⟨some 191, .p (.mov (.t 19)), (some (188, true))⟩,
    ⟨some 192, .p (.idxA 2 none (.t 190) (.t 191)), (some (188, true))⟩,
    ⟨some 193, .h (.load true 2 (.t 192)), (some (188, true))⟩,
    ⟨some 194, .p (.fieldA 0 (.t 4)), (some (188, true))⟩,
    ⟨some 195, .h (.load false 1 (.t 194)), (some (188, true))⟩,
    ⟨some 196, .p (.mov (.t 19)), (some (188, true))⟩,
    ⟨some 197, .p (.idxA 2 none (.t 195) (.t 196)), (some (188, true))⟩,
    ⟨some 198, .h (.load true 2 (.t 197)), (some (188, true))⟩,
    ⟨some 199, .v (.eqa true [(.i .i64), (.i .i64)] (.t 193) (.t 198)), (some (188, true))⟩,
    ⟨some 200, .p (.pick (.t 188) (.t 199) (.c (.bool false))), none⟩,
    ⟨some 201, .p (.mov (.t 200)), none⟩,
    ⟨some 202, .p (.mov (.t 19)), (some (201, false))⟩,
    ⟨some 203, .p (.mov (.t 9)), (some (201, false))⟩,
    ⟨some 204, .p (.bin .eql (.t 202) (.t 203)), (some (201, false))⟩,
    ⟨some 205, .p (.mov (.t 204)), (some (201, false))⟩,
    ⟨some 206, .p (.fieldA 0 (.t 13)), (some (205, true))⟩,
    ⟨some 207, .h (.load false 1 (.t 206)), (some (205, true))⟩,
    ⟨some 208, .p (.mov (.t 19)), (some (205, true))⟩,
    ⟨some 209, .p (.idxA 2 none (.t 207) (.t 208)), (some (205, true))⟩,
    ⟨some 210, .h (.load true 2 (.t 209)), (some (205, true))⟩,
    ⟨some 211, .h (.load true 2 (.t 12)), (some (205, true))⟩,
    ⟨some 212, .v (.eqa true [(.i .i64), (.i .i64)] (.t 210) (.t 211)), (some (205, true))⟩,
    ⟨some 213, .p (.pick (.t 205) (.t 212) (.c (.bool false))), (some (201, false))⟩,
    ⟨some 214, .p (.pick (.t 201) (.c (.bool true)) (.t 213)), none⟩])
  (.cond (.t 214) (.seq (.reg [⟨some 8, .p (.mov (.c (.bool false))), none⟩])
  .ret) .skip)))
  (.reg [⟨some 183, .p (.mov (.t 19)), none⟩,
    ⟨some 184, .p (.bin .add (.t 183) (.c (.int .i64 1))), none⟩,
    ⟨some 19, .p (.mov (.t 184)), none⟩]))))))
  (.seq (.reg [⟨some 216, .h (.load true 1 (.t 13)), none⟩,
    ⟨some 217, .p (.mov (.t 9)), none⟩,
    ⟨some 218, .call 16 [(.t 216), (.t 217)], none⟩,
    ⟨some 215, .p (.mov (.t 218)), none⟩,
    ⟨some 219, .p (.extract 0 (.t 215)), none⟩,
    ⟨some 220, .p (.extract 1 (.t 215)), none⟩,
    ⟨some 221, .p (.extract 2 (.t 215)), none⟩,
    ⟨some 20, .h (.alloc [.nils]), none⟩,
    ⟨some 21, .h (.alloc [(.int .i64 0), (.int .i64 0)]), none⟩,
    ⟨none, .h (.store 1 (.t 20) (.t 219)), none⟩,
    ⟨none, .h (.store 2 (.t 21) (.t 220)), none⟩,
    ⟨some 22, .p (.mov (.t 221)), none⟩])
  (.seq (.reg [⟨some 222, .call 8 [], none⟩,
    ⟨some 223, .p (.mov (.t 222)), none⟩,
    ⟨some 224, .p (.mov (.t 22)), (some (223, true))⟩,
    ⟨some 225, .p (.bin .eql (.t 224) (.c (.int .i64 0))), (some (223, true))⟩,
    ⟨some 226, .p (.pick (.t 223) (.t 225) (.c (.bool false))), none⟩,
    ⟨some 227, .p (.mov (.t 226)), none⟩,
    ⟨some 228, .h (.load true 2 (.t 21)), (some (227, true))⟩,
    ⟨some 229, .h (.load true 2 (.t 12)), (some (227, true))⟩,
    ⟨some 230, .v (.eqa false [(.i .i64), (.i .i64)] (.t 228) (.t 229)), (some (227, true))⟩,
    ⟨some 231, .p (.pick (.t 227) (.t 230) (.c (.bool false))), none⟩,
    ⟨some 232, .p (.mov (.t 231)), none⟩,
    ⟨some 233, .h (.load true 1 (.t 20)), (some (232, true))⟩,
    ⟨some 234, .h (.load true 1 (.t 4)), (some (232, true))⟩,
    ⟨some 235, .call 11 [(.t 233), (.t 234)], (some (232, true))⟩,
    ⟨some 236, .p (.pick (.t 232) (.t 235) (.c (.bool false))), none⟩,
    ⟨some 8, .p (.mov (.t 236)), none⟩])
  .ret))))))))))))))
def rs4 : List AR := [.tmp 8]
theorem ok4 : okF Tryd.prog 4 237 ac4 rs4 = true := by kernel_rfl
/-- simulacrum/simulacrumlaw27.BalloonVictimIsPresent -/
def ac5 : AC := (.seq (.reg [⟨some 3, .h (.box (.t 0)), none⟩,
    ⟨some 6, .p (.mov (.c (.bool false))), none⟩])
  (.seq (.seq (.reg [⟨some 12, .h (.load true 1 (.t 3)), none⟩,
    ⟨some 13, .call 13 [(.t 12)], none⟩,
    ⟨some 14, .p (.un .not (.t 13)), none⟩,
    ⟨some 15, .p (.mov (.t 14)), none⟩,
    ⟨some 16, .p (.mov (.t 2)), (some (15, false))⟩,
    ⟨some 17, .p (.len false (.t 16)), (some (15, false))⟩,
    ⟨some 18, .p (.bin .gtr (.t 17) (.c (.int .i64 80))), (some (15, false))⟩,
    ⟨some 19, .p (.pick (.t 15) (.c (.bool true)) (.t 18)), none⟩])
  (.cond (.t 19) (.seq (.reg [⟨some 20, .call 8 [], none⟩,
    ⟨some 6, .p (.mov (.t 20)), none⟩])
  .ret) .skip))
  (.seq (.reg [⟨some 22, .h (.load true 1 (.t 3)), none⟩,
    ⟨some 23, .p (.mov (.t 1)), none⟩,
    ⟨some 24, .p (.mov (.t 2)), none⟩,
    ⟨some 25, .call 14 [(.t 22), (.t 23), (.t 24)], none⟩,
    ⟨some 21, .p (.mov (.t 25)), none⟩,
    ⟨some 26, .p (.extract 0 (.t 21)), none⟩,
    ⟨some 27, .p (.extract 1 (.t 21)), none⟩,
    ⟨some 7, .p (.mov (.t 26)), none⟩,
    ⟨some 8, .p (.mov (.t 27)), none⟩])
  (.seq (.reg [⟨some 9, .p (.mov (.c (.int .i64 0))), none⟩])
  (.seq (.seq (.reg [⟨some 10, .p (.mov (.c (.int .i64 0))), none⟩])
  (.block 0 (.loop (.seq (.seq (.reg [⟨some 28, .p (.mov (.t 10)), none⟩,
    ⟨some 29, .p (.fieldA 0 (.t 3)), none⟩,
    ⟨some 30, .h (.load false 1 (.t 29)), none⟩,
    ⟨some 31, .p (.len false (.t 30)), none⟩,
    ⟨some 32, .p (.bin .lss (.t 28) (.t 31)), none⟩])
  (.cond (.t 32) .skip (.exit 0)))
  (.seq (.block 1 (.seq (.reg [⟨some 35, .p (.fieldA 0 (.t 3)), none⟩,
    ⟨some 36, .h (.load false 1 (.t 35)), none⟩,
    ⟨some 37, .p (.mov (.t 10)), none⟩,
    ⟨some 38, .p (.idxA 2 none (.t 36) (.t 37)), none⟩,
    ⟨some 39, .p (.fieldA 0 (.t 38)), none⟩,
    ⟨some 40, .h (.load false 1 (.t 39)), none⟩,
    ⟨some 41, .p (.bin .eql (.t 40) (.c (.int .i64 1))), none⟩,
    ⟨some 42, .p (.mov (.t 41)), none⟩,
    ⟨some 43, .p (.mov (.t 10)), (some (42, true))⟩,
    ⟨some 44, .p (.mov (.t 2)), (some (42, true))⟩,
    ⟨some 45, .p (.len false (.t 44)), (some (42, true))⟩,
    ⟨some 46, .p (.bin .geq (.t 43) (.t 45)), (some (42, true))⟩,
    ⟨some 47, .p (.mov (.t 46)), (some (42, true))⟩,
    ⟨some 48, .p (.mov (.t 2)), (some (47, false))⟩,
    ⟨some 49, .p (.mov (.t 10)), (some (47, false))⟩,
    ⟨some 50, .p (.idxA 1 none (.t 48) (.t 49)), (some (47, false))⟩,
    ⟨some 51, .h (.load false 1 (.t 50)), (some (47, false))⟩,
    ⟨some 52, .p (.un .not (.t 51)), (some (47, false))⟩,
    ⟨some 53, .p (.pick (.t 47) (.c (.bool true)) (.t 52)), (some (42, true))⟩,
    ⟨some 54, .p (.pick (.t 42) (.t 53) (.c (.bool false))), none⟩])
  (.cond (.t 54) (.reg [⟨some 55, .p (.mov (.t 9)), none⟩,
    ⟨some 56, .p (.bin .add (.t 55) (.c (.int .i64 1))), none⟩,
    ⟨some 9, .p (.mov (.t 56)), none⟩]) .skip)))
  (.reg [⟨some 33, .p (.mov (.t 10)), none⟩,
    ⟨some 34, .p (.bin .add (.t 33) (.c (.int .i64 1))), none⟩,
    ⟨some 10, .p (.mov (.t 34)), none⟩]))))))
  (.seq (.seq (.reg [⟨some 57, .p (.mov (.t 8)), none⟩,
    ⟨some 58, .h (.load true 1 (.t 3)), none⟩,
    ⟨some 59, .call 20 [(.t 58), (.c (.int .i64 1))], none⟩,
    ⟨some 60, .p (.bin .gtr (.t 59) (.c (.int .i64 0))), none⟩,
    ⟨some 61, .p (.beq true (.t 57) (.t 60)), none⟩,
    ⟨some 62, .p (.mov (.t 61)), none⟩,
    ⟨some 63, .p (.mov (.t 7)), (some (62, false))⟩,
    ⟨some 64, .p (.bin .lss (.t 63) (.c (.int .i64 0))), (some (62, false))⟩,
    ⟨some 65, .p (.pick (.t 62) (.c (.bool true)) (.t 64)), none⟩,
    ⟨some 66, .p (.mov (.t 65)), none⟩,
    ⟨some 67, .p (.mov (.t 7)), (some (66, false))⟩,
    ⟨some 68, .p (.fieldA 0 (.t 3)), (some (66, false))⟩,
    ⟨some 69, .h (.load false 1 (.t 68)), (some (66, false))⟩,
    ⟨some 70, .p (.len false (.t 69)), (some (66, false))⟩,
    ⟨some 71, .p (.bin .geq (.t 67) (.t 70)), (some (66, false))⟩,
    ⟨some 72, .p (.pick (.t 66) (.c (.bool true)) (.t 71)), none⟩])
  (.cond (.t 72) (.seq (.reg [⟨some 6, .p (.mov (.c (.bool false))), none⟩])
  .ret) .skip))
  (.seq (.reg [⟨some 73, .p (.mov (.t 7)), none⟩,
    ⟨some 74, .p (.mov (.t 2)), none⟩,
    ⟨some 75, .p (.len false (.t 74)), none⟩,
    ⟨some 76, .p (.bin .lss (.t 73) (.t 75)), none⟩,
    ⟨some 77, .p (.mov (.t 76)), none⟩,
    ⟨some 78, .p (.mov (.t 2)), (some (77, true))⟩,
    ⟨some 79, .p (.mov (.t 7)), (some (77, true))⟩,
    ⟨some 80, .p (.idxA 1 none (.t 78) (.t 79)), (some (77, true))⟩,
    ⟨some 81, .h (.load false 1 (.t 80)), (some (77, true))⟩,
    ⟨some 82, .p (.pick (.t 77) (.t 81) (.c (.bool false))), none⟩,
    ⟨some 11, .p (.mov (.t 82)), none⟩])
  (.seq (.reg [⟨some 83, .call 8 [], none⟩,
    ⟨some 84, .p (.mov (.t 83)), none⟩,
    ⟨some 85, .p (.mov (.t 8)), (some (84, true))⟩,
    ⟨some 86, .p (.un .not (.t 85)), (some (84, true))⟩,
    ⟨some 87, .p (.mov (.t 86)), (some (84, true))⟩,
    ⟨some 88, .p (.fieldA 0 (.t 3)), (some (87, false))⟩,
    ⟨some 89, .h (.load false 1 (.t 88)), (some (87, false))⟩,
    ⟨some 90, .p (.mov (.t 7)), (some (87, false))⟩,
    ⟨some 91, .p (.idxA 2 none (.t 89) (.t 90)), (some (87, false))⟩,
    ⟨some 92, .p (.fieldA 0 (.t 91)), (some (87, false))⟩,
    ⟨some 93, .h (.load false 1 (.t 92)), (some (87, false))⟩,
    ⟨some 94, .p (.bin .eql (.t 93) (.c (.int .i64 1))), (some (87, false))⟩,
    ⟨some 95, .p (.mov (.t 94)), (some (87, false))⟩,
    ⟨some 96, .p (.mov (.t 11)), (some (95, true))⟩,
    ⟨some 97, .p (.mov (.t 9)), (some (95, true))⟩,
    ⟨some 98, .p (.bin .eql (.t 97) (.c (.int .i64 0))), (some (95, true))⟩,
    ⟨some 99, .p (.beq false (.t 96) (.t 98)), (some (95, true))⟩,
    ⟨some 100, .p (.pick (.t 95) (.t 99) (.c (.bool false))), (some (87, false))⟩,
    ⟨some 101, .p (.pick (.t 87) (.c (.bool true)) (.t 100)), (some (84, true))⟩,
    ⟨some 102, .p (.pick (.t 84) (.t 101) (.c (.bool false))), none⟩,
    ⟨some 6, .p (.mov (.t 102)), none⟩])
  .ret))))))))
def rs5 : List AR := [.tmp 6]
theorem ok5 : okF Tryd.prog 5 103 ac5 rs5 = true := by kernel_rfl
/-- simulacrum/simulacrumref27.New -/
def ac10 : AC := (.seq (.reg [⟨some 4, .h (.alloc [.nils, (.int .i64 0), (.int .i64 0), (.int .i64 0)]), none⟩])
  (.seq (.seq (.reg [⟨some 7, .p (.mov (.t 0)), none⟩,
    ⟨some 8, .p (.bin .lss (.t 7) (.c (.int .i64 1))), none⟩,
    ⟨some 9, .p (.mov (.t 8)), none⟩,
    ⟨some 10, .p (.mov (.t 0)), (some (9, false))⟩,
    ⟨some 11, .p (.bin .gtr (.t 10) (.c (.int .i64 64))), (some (9, false))⟩,
    ⟨some 12, .p (.pick (.t 9) (.c (.bool true)) (.t 11)), none⟩,
    ⟨some 13, .p (.mov (.t 12)), none⟩,
    ⟨some 14, .p (.mov (.t 1)), (some (13, false))⟩,
    ⟨some 15, .p (.bin .neq (.t 14) (.c (.int .i64 1))), (some (13, false))⟩,
    ⟨some 16, .p (.mov (.t 15)), (some (13, false))⟩,
    ⟨some 17, .p (.mov (.t 1)), (some (16, true))⟩,
    ⟨some 18, .p (.bin .neq (.t 17) (.c (.int .i64 2))), (some (16, true))⟩,
    ⟨some 19, .p (.pick (.t 16) (.t 18) (.c (.bool false))), (some (13, false))⟩,
    ⟨some 20, .p (.mov (.t 19)), (some (13, false))⟩,
    ⟨some 21, .p (.mov (.t 1)), (some (20, true))⟩,
    ⟨some 22, .p (.bin .neq (.t 21) (.c (.int .i64 4))), (some (20, true))⟩,
    ⟨some 23, .p (.pick (.t 20) (.t 22) (.c (.bool false))), (some (13, false))⟩,
    ⟨some 24, .p (.pick (.t 13) (.c (.bool true)) (.t 23)), none⟩])
  (.cond (.t 24) (.seq (.reg [⟨some 25, .v (.build [.nils, (.int .i64 0), (.int .i64 0), (.int .i64 0)] [(3, 1, (.c (.int .i64 1)))]), none⟩,
    ⟨none, .h (.store 4 (.t 4) (.t 25)), none⟩])
  .ret) .skip))
  (.seq (.reg [⟨some 5, .h (.alloc [.nils]), none⟩])
  (.seq (.seq (.reg [⟨some 6, .p (.mov (.c (.int .i64 0))), none⟩])
  (.block 0 (.loop (.seq (.seq (.reg [⟨some 26, .p (.mov (.t 6)), none⟩,
    ⟨some 27, .p (.mov (.t 0)), none⟩,
    ⟨some 28, .p (.bin .lss (.t 26) (.t 27)), none⟩])
  (.cond (.t 28) .skip (.exit 0)))
  (.seq (.block 1 (.reg [⟨some 31, .p (.fieldA 0 (.t 5)), none⟩,
    ⟨some 32, .h (.load false 1 (.t 31)), none⟩,
    ⟨some 33, .p (.mov (.t 1)), none⟩,
    ⟨some 34, .v (.build [(.int .i64 0), (.int .i64 0)] [(0, 1, (.t 33))]), none⟩,
    ⟨some 35, .d (.bslice 2 1 [(.int .i64 0), (.int .i64 0)] [(0, (.t 34))]), none⟩,
    ⟨some 36, .l (.append 2 16 (.t 32) (.t 35)), none⟩,
    ⟨some 37, .p (.fieldA 0 (.t 5)), none⟩,
    ⟨none, .h (.store 1 (.t 37) (.t 36)), none⟩]))
  (.reg [⟨some 29, .p (.mov (.t 6)), none⟩,
    ⟨some 30, .p (.bin .add (.t 29) (.c (.int .i64 1))), none⟩,
    ⟨some 6, .p (.mov (.t 30)), none⟩]))))))
  (.seq (.reg [⟨some 38, .h (.load true 1 (.t 5)), none⟩,
    ⟨some 39, .v (.build [.nils, (.int .i64 0), (.int .i64 0), (.int .i64 0)] [(0, 1, (.t 38))]), none⟩,
    ⟨none, .h (.store 4 (.t 4) (.t 39)), none⟩])
  .ret)))))
def rs10 : List AR := [.cell 4 true 4]
theorem ok10 : okF Tryd.prog 10 40 ac10 rs10 = true := by kernel_rfl
/-- simulacrum/simulacrumref27.Same -/
def ac11 : AC := (.seq (.reg [⟨some 2, .h (.box (.t 0)), none⟩,
    ⟨some 3, .h (.box (.t 1)), none⟩,
    ⟨some 4, .p (.mov (.c (.bool false))), none⟩])
  (.seq (.seq (.reg [⟨some 6, .p (.fieldA 0 (.t 2)), none⟩,
    ⟨some 7, .h (.load false 1 (.t 6)), none⟩,
    ⟨some 8, .p (.len false (.t 7)), none⟩,
    ⟨some 9, .p (.fieldA 0 (.t 3)), none⟩,
    ⟨some 10, .h (.load false 1 (.t 9)), none⟩,
    ⟨some 11, .p (.len false (.t 10)), none⟩,
    ⟨some 12, .p (.bin .neq (.t 8) (.t 11)), none⟩])
  (.cond (.t 12) (.seq (.reg [⟨some 4, .p (.mov (.c (.bool false))), none⟩])
  .ret) .skip))
  (.seq (.seq (.reg [⟨some 5, .p (.mov (.c (.int .i64 0))), none⟩])
  (.block 0 (.loop (.seq (.seq (.reg [⟨some 13, .p (.mov (.t 5)), none⟩,
    ⟨some 14, .p (.fieldA 0 (.t 2)), none⟩,
    ⟨some 15, .h (.load false 1 (.t 14)), none⟩,
    ⟨some 16, .p (.len false (.t 15)), none⟩,
    ⟨some 17, .p (.bin .lss (.t 13) (.t 16)), none⟩])
  (.cond (.t 17) .skip (.exit 0)))
  (.seq (.block 1 (.seq (.draw 11 [] [⟨some 20, .p (.fieldA 0 (.t 2)), none⟩,
    ⟨some 21, .h (.load false 1 (.t 20)), none⟩,
    ⟨some 22, .p (.mov (.t 5)), none⟩,
    ⟨some 23, .p (.idxA 2 none (.t 21) (.t 22)), none⟩,
    ⟨some 24, .h (.load true 2 (.t 23)), none⟩,
    ⟨some 25, .p (.fieldA 0 (.t 3)), none⟩,
    ⟨some 26, .h (.load false 1 (.t 25)), none⟩,
    ⟨some 27, .p (.mov (.t 5)), none⟩,
    ⟨some 28, .p (.idxA 2 none (.t 26) (.t 27)), none⟩,
    ⟨some 29, .h (.load true 2 (.t 28)), none⟩,
    ⟨some 30, .v (.eqa true [(.i .i64), (.i .i64)] (.t 24) (.t 29)), none⟩])
  (.cond (.t 30) (.seq (.reg [⟨some 4, .p (.mov (.c (.bool false))), none⟩])
  .ret) .skip)))
  (.reg [⟨some 18, .p (.mov (.t 5)), none⟩,
    ⟨some 19, .p (.bin .add (.t 18) (.c (.int .i64 1))), none⟩,
    ⟨some 5, .p (.mov (.t 19)), none⟩]))))))
  (.seq (.reg [⟨some 4, .p (.mov (.c (.bool true))), none⟩])
  .ret))))
def rs11 : List AR := [.tmp 4]
theorem ok11 : okF Tryd.prog 11 31 ac11 rs11 = true := by kernel_rfl
/-- simulacrum/simulacrumref27.Valid -/
def ac13 : AC := (.seq (.reg [⟨some 1, .h (.box (.t 0)), none⟩,
    ⟨some 2, .p (.mov (.c (.bool false))), none⟩])
  (.seq (.seq (.reg [⟨some 5, .p (.fieldA 0 (.t 1)), none⟩,
    ⟨some 6, .h (.load false 1 (.t 5)), none⟩,
    ⟨some 7, .p (.len false (.t 6)), none⟩,
    ⟨some 8, .p (.bin .lss (.t 7) (.c (.int .i64 1))), none⟩,
    ⟨some 9, .p (.mov (.t 8)), none⟩,
    ⟨some 10, .p (.fieldA 0 (.t 1)), (some (9, false))⟩,
    ⟨some 11, .h (.load false 1 (.t 10)), (some (9, false))⟩,
    ⟨some 12, .p (.len false (.t 11)), (some (9, false))⟩,
    ⟨some 13, .p (.bin .gtr (.t 12) (.c (.int .i64 64))), (some (9, false))⟩,
    ⟨some 14, .p (.pick (.t 9) (.c (.bool true)) (.t 13)), none⟩])
  (.cond (.t 14) (.seq (.reg [⟨some 2, .p (.mov (.c (.bool false))), none⟩])
  .ret) .skip))
  (.seq (.seq (.reg [⟨some 3, .p (.mov (.c (.int .i64 0))), none⟩])
  (.block 0 (.loop (.seq (.seq (.reg [⟨some 15, .p (.mov (.t 3)), none⟩,
    ⟨some 16, .p (.fieldA 0 (.t 1)), none⟩,
    ⟨some 17, .h (.load false 1 (.t 16)), none⟩,
    ⟨some 18, .p (.len false (.t 17)), none⟩,
    ⟨some 19, .p (.bin .lss (.t 15) (.t 18)), none⟩])
  (.cond (.t 19) .skip (.exit 0)))
  (.seq (.block 1 (.seq (.reg [⟨some 22, .p (.fieldA 0 (.t 1)), none⟩,
    ⟨some 23, .h (.load false 1 (.t 22)), none⟩,
    ⟨some 24, .p (.mov (.t 3)), none⟩,
    ⟨some 25, .p (.idxA 2 none (.t 23) (.t 24)), none⟩,
    ⟨some 26, .h (.load true 2 (.t 25)), none⟩,
    ⟨some 4, .h (.alloc [(.int .i64 0), (.int .i64 0)]), none⟩,
    ⟨none, .h (.store 2 (.t 4) (.t 26)), none⟩])
  (.seq (.seq (.reg [⟨some 27, .p (.fieldA 0 (.t 4)), none⟩,
    ⟨some 28, .h (.load false 1 (.t 27)), none⟩,
    ⟨some 29, .p (.bin .lss (.t 28) (.c (.int .i64 1))), none⟩,
    ⟨some 30, .p (.mov (.t 29)), none⟩,
    ⟨some 31, .p (.fieldA 0 (.t 4)), (some (30, false))⟩,
    ⟨some 32, .h (.load false 1 (.t 31)), (some (30, false))⟩,
    ⟨some 33, .p (.bin .gtr (.t 32) (.c (.int .i64 4))), (some (30, false))⟩,
    ⟨some 34, .p (.pick (.t 30) (.c (.bool true)) (.t 33)), none⟩,
    ⟨some 35, .p (.mov (.t 34)), none⟩,
    ⟨some 36, .p (.fieldA 1 (.t 4)), (some (35, false))⟩,
    ⟨some 37, .h (.load false 1 (.t 36)), (some (35, false))⟩,
    ⟨some 38, .p (.bin .lss (.t 37) (.c (.int .i64 0))), (some (35, false))⟩,
    ⟨some 39, .p (.pick (.t 35) (.c (.bool true)) (.t 38)), none⟩,
    ⟨some 40, .p (.mov (.t 39)), none⟩,
    ⟨some 41, .p (.fieldA 0 (.t 4)), (some (40, false))⟩,
    ⟨some 42, .h (.load false 1 (.t 41)), (some (40, false))⟩,
    ⟨some 43, .p (.bin .neq (.t 42) (.c (.int .i64 3))), (some (40, false))⟩,
    ⟨some 44, .p (.mov (.t 43)), (some (40, false))⟩,
    ⟨some 45, .p (.fieldA 1 (.t 4)), (some (44, true))⟩,
    ⟨some 46, .h (.load false 1 (.t 45)), (some (44, true))⟩,
    ⟨some 47, .p (.bin .neq (.t 46) (.c (.int .i64 0))), (some (44, true))⟩,
    ⟨some 48, .p (.pick (.t 44) (.t 47) (.c (.bool false))), (some (40, false))⟩,
    ⟨some 49, .p (.pick (.t 40) (.c (.bool true)) (.t 48)), none⟩])
  (.cond (.t 49) (.seq (.reg [⟨some 2, .p (.mov (.c (.bool false))), none⟩])
  .ret) .skip))
  (.seq (.reg [⟨some 50, .p (.fieldA 0 (.t 4)), none⟩,
    ⟨some 51, .h (.load false 1 (.t 50)), none⟩,
    ⟨some 52, .p (.bin .eql (.t 51) (.c (.int .i64 3))), none⟩,
    ⟨some 53, .p (.mov (.t 52)), none⟩,
    ⟨some 54, .h (.load true 1 (.t 1)), (some (53, true))⟩,
    ⟨some 55, .p (.fieldA 1 (.t 4)), (some (53, true))⟩,
    ⟨some 56, .h (.load false 1 (.t 55)), (some (53, true))⟩,
    ⟨some 57, .call 32 [(.t 54), (.t 56)], (some (53, true))⟩,
    ⟨some 58, .p (.mov (.t 3)), (some (53, true))⟩,
    ⟨some 59, .p (.bin .neq (.t 57) (.t 58)), (some (53, true))⟩,
    ⟨some 60, .p (.pick (.t 53) (.t 59) (.c (.bool false))), none⟩])
  (.cond (.t 60) (.seq (.reg [⟨some 2, .p (.mov (.c (.bool false))), none⟩])
  .ret) .skip)))))
  (.reg [⟨some 20, .p (.mov (.t 3)), none⟩,
    ⟨some 21, .p (.bin .add (.t 20) (.c (.int .i64 1))), none⟩,
    ⟨some 3, .p (.mov (.t 21)), none⟩]))))))
  (.seq (.reg [⟨some 2, .p (.mov (.c (.bool true))), none⟩])
  .ret))))
def rs13 : List AR := [.tmp 2]
theorem ok13 : okF Tryd.prog 13 61 ac13 rs13 = true := by kernel_rfl
/-- simulacrum/simulacrumref27.Victim -/
def ac17 : AC := (.seq (.reg [⟨some 3, .h (.box (.t 0)), none⟩,
    ⟨some 6, .h (.alloc [(.int .i64 0), (.bool false)]), none⟩])
  (.seq (.reg [⟨some 12, .p (.fieldA 0 (.t 3)), none⟩,
    ⟨some 13, .h (.load false 1 (.t 12)), none⟩,
    ⟨some 14, .p (.len false (.t 13)), none⟩,
    ⟨some 7, .p (.mov (.t 14)), none⟩])
  (.seq (.reg [⟨some 15, .p (.mov (.t 1)), none⟩,
    ⟨some 16, .p (.mm true (.t 15) (.c (.int .i64 0))), none⟩,
    ⟨some 17, .p (.mov (.t 7)), none⟩,
    ⟨some 18, .p (.bin .rem (.t 16) (.t 17)), none⟩,
    ⟨some 8, .p (.mov (.t 18)), none⟩])
  (.seq (.seq (.reg [⟨some 9, .p (.mov (.c (.int .i64 0))), none⟩])
  (.block 0 (.loop (.seq (.seq (.reg [⟨some 19, .p (.mov (.t 9)), none⟩,
    ⟨some 20, .p (.bin .lss (.t 19) (.c (.int .i64 2))), none⟩])
  (.cond (.t 20) .skip (.exit 0)))
  (.seq (.block 1 (.seq (.reg [⟨some 10, .p (.mov (.c (.int .i64 0))), none⟩])
  (.block 2 (.loop (.seq (.seq (.reg [⟨some 23, .p (.mov (.t 10)), none⟩,
    ⟨some 24, .p (.mov (.t 7)), none⟩,
    ⟨some 25, .p (.bin .lss (.t 23) (.t 24)), none⟩])
  (.cond (.t 25) .skip (.exit 2)))
  (.seq (.block 3 (.seq (.reg [⟨some 28, .p (.mov (.t 8)), none⟩,
    ⟨some 29, .p (.mov (.t 10)), none⟩,
    ⟨some 30, .p (.bin .add (.t 28) (.t 29)), none⟩,
    ⟨some 31, .p (.mov (.t 7)), none⟩,
    ⟨some 32, .p (.bin .rem (.t 30) (.t 31)), none⟩,
    ⟨some 11, .p (.mov (.t 32)), none⟩])
  (.seq (.reg [⟨some 33, .p (.fieldA 0 (.t 3)), none⟩,
    ⟨some 34, .h (.load false 1 (.t 33)), none⟩,
    ⟨some 35, .p (.mov (.t 11)), none⟩,
    ⟨some 36, .p (.idxA 2 none (.t 34) (.t 35)), none⟩,
    ⟨some 37, .p (.fieldA 0 (.t 36)), none⟩,
    ⟨some 38, .h (.load false 1 (.t 37)), none⟩,
    ⟨some 39, .p (.bin .eql (.t 38) (.c (.int .i64 1))), none⟩,
    ⟨some 40, .p (.mov (.t 39)), none⟩,
    ⟨some 41, .p (.mov (.t 9)), (some (40, true))⟩,
    ⟨some 42, .p (.bin .eql (.t 41) (.c (.int .i64 1))), (some (40, true))⟩,
    ⟨some 43, .p (.mov (.t 42)), (some (40, true))⟩,
    ⟨some 44, .p (.mov (.t 11)), (some (43, false))⟩,
    ⟨some 45, .p (.mov (.t 2)), (some (43, false))⟩,
    ⟨some 46, .p (.len false (.t 45)), (some (43, false))⟩,
    ⟨some 47, .p (.bin .geq (.t 44) (.t 46)), (some (43, false))⟩,
    ⟨some 48, .p (.pick (.t 43) (.c (.bool true)) (.t 47)), (some (40, true))⟩,
    ⟨some 49, .p (.mov (.t 48)), (some (40, true))⟩,
    ⟨some 50, .p (.mov (.t 2)), (some (49, false))⟩,
    ⟨some 51, .p (.mov (.t 11)), (some (49, false))⟩,
    ⟨some 52, .p (.idxA 1 none (.t 50) (.t 51)), (some (49, false))⟩,
    ⟨some 53, .h (.load false 1 (.t 52)), (some (49, false))⟩,
    ⟨some 54, .p (.un .not (.t 53)), (some (49, false))⟩,
    ⟨some 55, .p (.pick (.t 49) (.c (.bool true)) (.t 54)), (some (40, true))⟩,
    ⟨some 56, .p (.pick (.t 40) (.t 55) (.c (.bool false))), none⟩])
  (.cond (.t 56) (.seq (.reg [⟨some 57, .p (.mov (.t 11)), none⟩,
    ⟨some 58, .v (.build [(.int .i64 0), (.bool false)] [(0, 1, (.t 57)), (1, 1, (.c (.bool true)))]), none⟩,
    ⟨none, .h (.store 2 (.t 6) (.t 58)), none⟩])
  .ret) .skip))))
  (.reg [⟨some 26, .p (.mov (.t 10)), none⟩,
    ⟨some 27, .p (.bin .add (.t 26) (.c (.int .i64 1))), none⟩,
    ⟨some 10, .p (.mov (.t 27)), none⟩])))))))
  (.reg [⟨some 21, .p (.mov (.t 9)), none⟩,
    ⟨some 22, .p (.bin .add (.t 21) (.c (.int .i64 1))), none⟩,
    ⟨some 9, .p (.mov (.t 22)), none⟩]))))))
  (.seq (.reg [⟨some 59, .v (.build [(.int .i64 0), (.bool false)] []), none⟩,
    ⟨none, .h (.store 2 (.t 6) (.t 59)), none⟩])
  .ret)))))
def rs17 : List AR := [.cell 6 true 2]
theorem ok17 : okF Tryd.prog 17 60 ac17 rs17 = true := by kernel_rfl
/-- simulacrum/simulacrumref27.Give -/
def ac18 : AC := (.seq (.reg [⟨some 3, .h (.box (.t 0)), none⟩,
    ⟨some 6, .h (.alloc [.nils, (.int .i64 0), (.int .i64 0), (.int .i64 0)]), none⟩])
  (.seq (.seq (.reg [⟨some 7, .p (.mov (.t 1)), none⟩,
    ⟨some 8, .p (.bin .lss (.t 7) (.c (.int .i64 0))), none⟩,
    ⟨some 9, .p (.mov (.t 8)), none⟩,
    ⟨some 10, .p (.mov (.t 1)), (some (9, false))⟩,
    ⟨some 11, .p (.fieldA 0 (.t 3)), (some (9, false))⟩,
    ⟨some 12, .h (.load false 1 (.t 11)), (some (9, false))⟩,
    ⟨some 13, .p (.len false (.t 12)), (some (9, false))⟩,
    ⟨some 14, .p (.bin .geq (.t 10) (.t 13)), (some (9, false))⟩,
    ⟨some 15, .p (.pick (.t 9) (.c (.bool true)) (.t 14)), none⟩])
  (.cond (.t 15) (.seq (.reg [⟨some 16, .h (.load true 1 (.t 3)), none⟩,
    ⟨some 17, .v (.build [.nils, (.int .i64 0), (.int .i64 0), (.int .i64 0)] [(0, 1, (.t 16)), (3, 1, (.c (.int .i64 5)))]), none⟩,
    ⟨none, .h (.store 4 (.t 6) (.t 17)), none⟩])
  .ret) .skip))
  (.seq (.seq (.reg [⟨some 18, .p (.mov (.t 2)), none⟩,
    ⟨some 19, .p (.bin .lss (.t 18) (.c (.int .i64 (-1)))), none⟩,
    ⟨some 20, .p (.mov (.t 19)), none⟩,
    ⟨some 21, .p (.mov (.t 2)), (some (20, false))⟩,
    ⟨some 22, .p (.bin .geq (.t 21) (.c (.int .i64 0))), (some (20, false))⟩,
    ⟨some 23, .p (.mov (.t 22)), (some (20, false))⟩,
    ⟨some 24, .h (.load true 1 (.t 3)), (some (23, true))⟩,
    ⟨some 25, .p (.mov (.t 2)), (some (23, true))⟩,
    ⟨some 26, .call 32 [(.t 24), (.t 25)], (some (23, true))⟩,
    ⟨some 27, .p (.bin .geq (.t 26) (.c (.int .i64 0))), (some (23, true))⟩,
    ⟨some 28, .p (.pick (.t 23) (.t 27) (.c (.bool false))), (some (20, false))⟩,
    ⟨some 29, .p (.pick (.t 20) (.c (.bool true)) (.t 28)), none⟩])
  (.cond (.t 29) (.seq (.reg [⟨some 30, .h (.load true 1 (.t 3)), none⟩,
    ⟨some 31, .v (.build [.nils, (.int .i64 0), (.int .i64 0), (.int .i64 0)] [(0, 1, (.t 30)), (3, 1, (.c (.int .i64 1)))]), none⟩,
    ⟨none, .h (.store 4 (.t 6) (.t 31)), none⟩])
  .ret) .skip))
  (.seq (.seq (.reg [⟨some 32, .p (.fieldA 0 (.t 3)), none⟩,
    ⟨some 33, .h (.load false 1 (.t 32)), none⟩,
    ⟨some 34, .p (.mov (.t 1)), none⟩,
    ⟨some 35, .p (.idxA 2 none (.t 33) (.t 34)), none⟩,
    ⟨some 36, .p (.fieldA 0 (.t 35)), none⟩,
    ⟨some 37, .h (.load false 1 (.t 36)), none⟩,
    ⟨some 38, .p (.bin .neq (.t 37) (.c (.int .i64 1))), none⟩])
  (.cond (.t 38) (.seq (.reg [⟨some 39, .h (.load true 1 (.t 3)), none⟩,
    ⟨some 40, .v (.build [.nils, (.int .i64 0), (.int .i64 0), (.int .i64 0)] [(0, 1, (.t 39)), (3, 1, (.c (.int .i64 4)))]), none⟩,
    ⟨none, .h (.store 4 (.t 6) (.t 40)), none⟩])
  .ret) .skip))
  (.seq (.seq (.reg [⟨some 41, .p (.mov (.t 2)), none⟩,
    ⟨some 42, .p (.bin .lss (.t 41) (.c (.int .i64 0))), none⟩])
  (.cond (.t 42) (.seq (.reg [⟨some 43, .h (.load true 1 (.t 3)), none⟩,
    ⟨some 44, .p (.mov (.t 1)), none⟩,
    ⟨some 45, .v (.build [(.int .i64 0), (.int .i64 0)] [(0, 1, (.c (.int .i64 2)))]), none⟩,
    ⟨some 46, .call 35 [(.t 43), (.t 44), (.t 45)], none⟩,
    ⟨some 47, .v (.build [.nils, (.int .i64 0), (.int .i64 0), (.int .i64 0)] [(0, 1, (.t 46))]), none⟩,
    ⟨none, .h (.store 4 (.t 6) (.t 47)), none⟩])
  .ret) .skip))
  (.seq (.reg [⟨some 48, .h (.load true 1 (.t 3)), none⟩,
    ⟨some 49, .p (.mov (.t 1)), none⟩,
    ⟨some 50, .p (.mov (.t 2)), none⟩,
    ⟨some 51, .v (.build [(.int .i64 0), (.int .i64 0)] [(0, 1, (.c (.int .i64 3))), (1, 1, (.t 50))]), none⟩,
    ⟨some 52, .call 35 [(.t 48), (.t 49), (.t 51)], none⟩,
    ⟨some 53, .v (.build [.nils, (.int .i64 0), (.int .i64 0), (.int .i64 0)] [(0, 1, (.t 52))]), none⟩,
    ⟨none, .h (.store 4 (.t 6) (.t 53)), none⟩])
  .ret))))))
def rs18 : List AR := [.cell 6 true 4]
theorem ok18 : okF Tryd.prog 18 54 ac18 rs18 = true := by kernel_rfl
/-- simulacrum/simulacrumref27.Take -/
def ac19 : AC := (.seq (.reg [⟨some 2, .h (.box (.t 0)), none⟩,
    ⟨some 4, .h (.alloc [.nils, (.int .i64 0), (.int .i64 0), (.int .i64 0)]), none⟩])
  (.seq (.seq (.reg [⟨some 5, .p (.mov (.t 1)), none⟩,
    ⟨some 6, .p (.bin .lss (.t 5) (.c (.int .i64 0))), none⟩,
    ⟨some 7, .p (.mov (.t 6)), none⟩,
    ⟨some 8, .p (.mov (.t 1)), (some (7, false))⟩,
    ⟨some 9, .p (.fieldA 0 (.t 2)), (some (7, false))⟩,
    ⟨some 10, .h (.load false 1 (.t 9)), (some (7, false))⟩,
    ⟨some 11, .p (.len false (.t 10)), (some (7, false))⟩,
    ⟨some 12, .p (.bin .geq (.t 8) (.t 11)), (some (7, false))⟩,
    ⟨some 13, .p (.pick (.t 7) (.c (.bool true)) (.t 12)), none⟩])
  (.cond (.t 13) (.seq (.reg [⟨some 14, .h (.load true 1 (.t 2)), none⟩,
    ⟨some 15, .v (.build [.nils, (.int .i64 0), (.int .i64 0), (.int .i64 0)] [(0, 1, (.t 14)), (3, 1, (.c (.int .i64 5)))]), none⟩,
    ⟨none, .h (.store 4 (.t 4) (.t 15)), none⟩])
  .ret) .skip))
  (.seq (.seq (.reg [⟨some 16, .p (.fieldA 0 (.t 2)), none⟩,
    ⟨some 17, .h (.load false 1 (.t 16)), none⟩,
    ⟨some 18, .p (.mov (.t 1)), none⟩,
    ⟨some 19, .p (.idxA 2 none (.t 17) (.t 18)), none⟩,
    ⟨some 20, .p (.fieldA 0 (.t 19)), none⟩,
    ⟨some 21, .h (.load false 1 (.t 20)), none⟩,
    ⟨some 22, .p (.bin .eql (.t 21) (.c (.int .i64 1))), none⟩])
  (.cond (.t 22) (.seq (.reg [⟨some 23, .h (.load true 1 (.t 2)), none⟩,
    ⟨some 24, .v (.build [.nils, (.int .i64 0), (.int .i64 0), (.int .i64 0)] [(0, 1, (.t 23)), (3, 1, (.c (.int .i64 4)))]), none⟩,
    ⟨none, .h (.store 4 (.t 4) (.t 24)), none⟩])
  .ret) .skip))
  (.seq (.draw 11 [(3, 10), (0, 10), (5, 10), (8, 10)] [⟨some 25, .h (.load true 1 (.t 2)), none⟩,
    ⟨some 26, .p (.mov (.t 1)), none⟩,
    ⟨some 27, .v (.build [(.int .i64 0), (.int .i64 0)] [(0, 1, (.c (.int .i64 1)))]), none⟩,
    ⟨some 28, .call 35 [(.t 25), (.t 26), (.t 27)], none⟩,
    ⟨some 29, .p (.fieldA 0 (.t 2)), none⟩,
    ⟨some 30, .h (.load false 1 (.t 29)), none⟩,
    ⟨some 31, .p (.mov (.t 1)), none⟩,
    ⟨some 32, .p (.idxA 2 none (.t 30) (.t 31)), none⟩,
    ⟨some 33, .h (.load true 2 (.t 32)), none⟩,
    ⟨some 34, .v (.build [.nils, (.int .i64 0), (.int .i64 0), (.int .i64 0)] [(0, 1, (.t 28)), (1, 2, (.t 33))]), none⟩,
    ⟨none, .h (.store 4 (.t 4) (.t 34)), none⟩])
  .ret))))
def rs19 : List AR := [.cell 4 true 4]
theorem ok19 : okF Tryd.prog 19 35 ac19 rs19 = true := by kernel_rfl
/-- simulacrum/simulacrumref27.Count -/
def ac21 : AC := (.seq (.reg [⟨some 2, .h (.box (.t 0)), none⟩,
    ⟨some 4, .p (.mov (.c (.int .i64 0))), none⟩])
  (.seq (.reg [⟨some 5, .p (.mov (.c (.int .i64 0))), none⟩])
  (.seq (.seq (.reg [⟨some 6, .p (.mov (.c (.int .i64 0))), none⟩])
  (.block 0 (.loop (.seq (.seq (.reg [⟨some 7, .p (.mov (.t 6)), none⟩,
    ⟨some 8, .p (.fieldA 0 (.t 2)), none⟩,
    ⟨some 9, .h (.load false 1 (.t 8)), none⟩,
    ⟨some 10, .p (.len false (.t 9)), none⟩,
    ⟨some 11, .p (.bin .lss (.t 7) (.t 10)), none⟩])
  (.cond (.t 11) .skip (.exit 0)))
  (.seq (.block 1 (.seq (.reg [⟨some 14, .p (.fieldA 0 (.t 2)), none⟩,
    ⟨some 15, .h (.load false 1 (.t 14)), none⟩,
    ⟨some 16, .p (.mov (.t 6)), none⟩,
    ⟨some 17, .p (.idxA 2 none (.t 15) (.t 16)), none⟩,
    ⟨some 18, .p (.fieldA 0 (.t 17)), none⟩,
    ⟨some 19, .h (.load false 1 (.t 18)), none⟩,
    ⟨some 20, .p (.mov (.t 1)), none⟩,
    ⟨some 21, .p (.bin .eql (.t 19) (.t 20)), none⟩])
  (.cond (.t 21) (.reg [⟨some 22, .p (.mov (.t 5)), none⟩,
    ⟨some 23, .p (.bin .add (.t 22) (.c (.int .i64 1))), none⟩,
    ⟨some 5, .p (.mov (.t 23)), none⟩]) .skip)))
  (.reg [⟨some 12, .p (.mov (.t 6)), none⟩,
    ⟨some 13, .p (.bin .add (.t 12) (.c (.int .i64 1))), none⟩,
    ⟨some 6, .p (.mov (.t 13)), none⟩]))))))
  (.seq (.reg [⟨some 24, .p (.mov (.t 5)), none⟩,
    ⟨some 4, .p (.mov (.t 24)), none⟩])
  .ret))))
def rs21 : List AR := [.tmp 4]
theorem ok21 : okF Tryd.prog 21 25 ac21 rs21 = true := by kernel_rfl
/-- simulacrum/simulacrumref27.holder -/
def ac32 : AC := (.seq (.reg [⟨some 2, .h (.box (.t 0)), none⟩,
    ⟨some 4, .p (.mov (.c (.int .i64 0))), none⟩])
  (.seq (.seq (.reg [⟨some 5, .p (.mov (.c (.int .i64 0))), none⟩])
  (.block 0 (.loop (.seq (.seq (.reg [⟨some 6, .p (.mov (.t 5)), none⟩,
    ⟨some 7, .p (.fieldA 0 (.t 2)), none⟩,
    ⟨some 8, .h (.load false 1 (.t 7)), none⟩,
    ⟨some 9, .p (.len false (.t 8)), none⟩,
    ⟨some 10, .p (.bin .lss (.t 6) (.t 9)), none⟩])
  (.cond (.t 10) .skip (.exit 0)))
  (.seq (.block 1 (.seq (.reg [⟨some 13, .p (.fieldA 0 (.t 2)), none⟩,
    ⟨some 14, .h (.load false 1 (.t 13)), none⟩,
    ⟨some 15, .p (.mov (.t 5)), none⟩,
    ⟨some 16, .p (.idxA 2 none (.t 14) (.t 15)), none⟩,
    ⟨some 17, .p (.fieldA 0 (.t 16)), none⟩,
    ⟨some 18, .h (.load false 1 (.t 17)), none⟩,
    ⟨some 19, .p (.bin .eql (.t 18) (.c (.int .i64 3))), none⟩,
    ⟨some 20, .p (.mov (.t 19)), none⟩,
    ⟨some 21, .p (.fieldA 0 (.t 2)), (some (20, true))⟩,
    ⟨some 22, .h (.load false 1 (.t 21)), (some (20, true))⟩,
    ⟨some 23, .p (.mov (.t 5)), (some (20, true))⟩,
    ⟨some 24, .p (.idxA 2 none (.t 22) (.t 23)), (some (20, true))⟩,
    ⟨some 25, .p (.fieldA 1 (.t 24)), (some (20, true))⟩,
    ⟨some 26, .h (.load false 1 (.t 25)), (some (20, true))⟩,
    ⟨some 27, .p (.mov (.t 1)), (some (20, true))⟩,
    ⟨some 28, .p (.bin .eql (.t 26) (.t 27)), (some (20, true))⟩,
    ⟨some 29, .p (.pick (.t 20) (.t 28) (.c (.bool false))), none⟩])
  (.cond (.t 29) (.seq (.reg [⟨some 30, .p (.mov (.t 5)), none⟩,
    ⟨some 4, .p (.mov (.t 30)), none⟩])
  .ret) .skip)))
  (.reg [⟨some 11, .p (.mov (.t 5)), none⟩,
    ⟨some 12, .p (.bin .add (.t 11) (.c (.int .i64 1))), none⟩,
    ⟨some 5, .p (.mov (.t 12)), none⟩]))))))
  (.seq (.reg [⟨some 4, .p (.mov (.c (.int .i64 (-1)))), none⟩])
  .ret)))
def rs32 : List AR := [.tmp 4]
theorem ok32 : okF Tryd.prog 32 31 ac32 rs32 = true := by kernel_rfl
/-- simulacrum/simulacrumref27.with -/
def ac35 : AC := (.seq (.reg [⟨some 3, .h (.box (.t 0)), none⟩,
    ⟨some 5, .h (.box (.t 2)), none⟩,
    ⟨some 6, .h (.alloc [.nils]), none⟩])
  (.seq (.reg [⟨some 8, .l (.bslice 2 0 [(.int .i64 0), (.int .i64 0)] []), none⟩,
    ⟨some 9, .p (.fieldA 0 (.t 3)), none⟩,
    ⟨some 10, .h (.load false 1 (.t 9)), none⟩,
    ⟨some 11, .l (.append 2 16 (.t 8) (.t 10)), none⟩,
    ⟨some 12, .v (.build [.nils] [(0, 1, (.t 11))]), none⟩,
    ⟨some 7, .h (.alloc [.nils]), none⟩,
    ⟨none, .h (.store 1 (.t 7) (.t 12)), none⟩])
  (.seq (.reg [⟨some 13, .p (.fieldA 0 (.t 7)), none⟩,
    ⟨some 14, .h (.load false 1 (.t 13)), none⟩,
    ⟨some 15, .p (.mov (.t 1)), none⟩,
    ⟨some 16, .h (.load true 2 (.t 5)), none⟩,
    ⟨some 17, .p (.idxA 2 none (.t 14) (.t 15)), none⟩,
    ⟨none, .h (.store 2 (.t 17) (.t 16)), none⟩])
  (.seq (.reg [⟨some 18, .h (.load true 1 (.t 7)), none⟩,
    ⟨none, .h (.store 1 (.t 6) (.t 18)), none⟩])
  .ret))))
def rs35 : List AR := [.cell 6 true 1]
theorem ok35 : okF Tryd.prog 35 19 ac35 rs35 = true := by kernel_rfl
end Go.Proofs

set_option maxRecDepth 100000
namespace Go.Proofs
open Go Go.Eng
def tblS : List FE := [⟨8, 223, ac8, rs8⟩, ⟨9, 31, ac9, rs9⟩, ⟨12, 70, ac12, rs12⟩, ⟨14, 59, ac14, rs14⟩, ⟨15, 58, ac15, rs15⟩, ⟨16, 44, ac16, rs16⟩, ⟨20, 23, ac20, rs20⟩, ⟨22, 14, ac22, rs22⟩, ⟨23, 7, ac23, rs23⟩, ⟨24, 65, ac24, rs24⟩, ⟨25, 19, ac25, rs25⟩, ⟨27, 68, ac27, rs27⟩, ⟨30, 9, ac30, rs30⟩, ⟨31, 48, ac31, rs31⟩, ⟨33, 9, ac33, rs33⟩, ⟨34, 8, ac34, rs34⟩, ⟨36, 34, ac36, rs36⟩, ⟨37, 32, ac37, rs37⟩, ⟨39, 22, ac39, rs39⟩, ⟨40, 47, ac40, rs40⟩, ⟨42, 8, ac42, rs42⟩, ⟨43, 30, ac43, rs43⟩, ⟨44, 19, ac44, rs44⟩, ⟨45, 32, ac45, rs45⟩, ⟨46, 32, ac46, rs46⟩, ⟨49, 17, ac49, rs49⟩, ⟨50, 51, ac50, rs50⟩, ⟨51, 3, ac51, rs51⟩, ⟨52, 38, ac52, rs52⟩, ⟨53, 8, ac53, rs53⟩, ⟨54, 58, ac54, rs54⟩, ⟨58, 27, ac58, rs58⟩]
theorem tblS_ok : okAll Tryd.prog tblS := ⟨ok8, ok9, ok12, ok14, ok15, ok16, ok20, ok22, ok23, ok24, ok25, ok27, ok30, ok31, ok33, ok34, ok36, ok37, ok39, ok40, ok42, ok43, ok44, ok45, ok46, ok49, ok50, ok51, ok52, ok53, ok54, ok58, trivial⟩
end Go.Proofs

set_option maxRecDepth 1000000
namespace Go.Proofs
open Go Go.Eng
theorem san_run : resultO ovB tblS 200 40 8 [] = some (.bool true) := by kernel_rfl
theorem c8 : CallA Tryd.prog 8 [] Heap.nil fun v H' => v = .bool true ∧ H' = Heap.nil := CallA.computedO ovB_ok tblS_ok 200 40 san_run
end Go.Proofs

namespace Go.Proofs
open Go Go.Eng
set_option maxRecDepth 100000
set_option maxHeartbeats 2000000
/-- A page's place. -/
structure Pl where
  (s n : Int)
def pc : List Pl → List AV
  | [] => []
  | x :: r => I x.s :: I x.n :: pc r
def pgs (l : List Pl) (cap : Option Nat) : AV := .agg [.dslice (pc l) l.length cap]
theorem pc_at : ∀ (i : Nat) (l : List Pl) (h : i < l.length), (pc l).drop (i * 2) = I (l[i].s) :: I (l[i].n) :: pc (l.drop (i + 1))
  | 0, x :: r, _ => rfl
  | i + 1, x :: r, h => by
    have e : (i + 1) * 2 = i * 2 + 2 := by omega
    rw [e]
    show (pc r).drop (i * 2) = _
    rw [pc_at i r (by simpa using h)]
    rfl
theorem pc_noLoc : ∀ (l : List Pl), ∀ c ∈ pc l, noLoc c = true
  | [], c, h => by cases h
  | x :: r, c, h => by
    simp only [pc, List.mem_cons] at h
    rcases h with rfl | rfl | h
    · rfl
    · rfl
    · exact pc_noLoc r c h
theorem pc_scal : ∀ (l : List Pl), ∀ c ∈ pc l, scal c = true
  | [], c, h => by cases h
  | x :: r, c, h => by
    simp only [pc, List.mem_cons] at h
    rcases h with rfl | rfl | h
    · rfl
    · rfl
    · exact pc_scal r c h
theorem pc_len : ∀ (l : List Pl), (pc l).length = l.length * 2
  | [] => rfl
  | x :: r => by simp only [pc, List.length_cons, pc_len r]; omega
theorem pc_app : ∀ (a b : List Pl), pc (a ++ b) = pc a ++ pc b
  | [], b => rfl
  | x :: a, b => by simp only [List.cons_append, pc, pc_app a b]
/-- The place at an index. -/
theorem nthA {cs : List AV} {a b : AV} {r : List AV} {K : AV → Prop} (e : cs = a :: b :: r) (h : fv a K) : nthK 0 cs K := by subst e; exact h
theorem nthB {cs : List AV} {a b : AV} {r : List AV} {K : AV → Prop} (e : cs = a :: b :: r) (h : fv b K) : nthK 0 (cs.drop (0 + 1)) K := by subst e; exact h
theorem tk2 {cs : List AV} {a b : AV} {r : List AV} {K : List AV → Prop} (e : cs = a :: b :: r) (h : K [a, b]) : takeK 2 cs K := by
  subst e
  rw [takeK_eq _ _ _ (by simp)]; exact h
def cnt (l : List Pl) (st : Int) : Nat := (l.filter fun x => decide (x.s = st)).length
def L20 (l : List Pl) (cap : Option Nat) (st : Int) (m : Nat) (fr : Fr) (H : Heap) : Prop := ∃ i : Nat, i ≤ l.length ∧ m = l.length - i ∧ fr = [(1, I st), (5, I (cnt (l.take i) st)), (9, .dslice (pc l) l.length cap), (10, I l.length), (11, I i)] ∧ H = Heap.nil
theorem cnt_succ (l : List Pl) (st : Int) (i : Nat) (h : i < l.length) : cnt (l.take (i + 1)) st = cnt (l.take i) st + if l[i].s = st then 1 else 0 := by
  unfold cnt
  rw [List.take_succ, List.getElem?_eq_getElem h, List.filter_append, List.length_append]
  by_cases e : l[i].s = st <;> simp [e]
theorem cnt_le (l : List Pl) (st : Int) : cnt l st ≤ l.length := List.length_filter_le _ _
theorem c20 (l : List Pl) (cap : Option Nat) (st : Int) (hl : l.length ≤ 1000) : CallA Tryd.prog 20 [pgs l cap, I st] Heap.nil fun v H' => v = I (cnt l st) ∧ H' = Heap.nil := by
  refine callA_of ok20 (Nat.le_of_ble_eq_true rfl) ?_
  repeat' ((conv => whnf); first
      | refine Branch.ofT rfl ?_
      | refine Branch.ofF rfl ?_
      | refine Branch.dec (fun h => ?_) (fun h => ?_)
      | refine Branch.negdec (fun h => ?_) (fun h => ?_)
      | refine Branch.neg (fun h => ?_) (fun h => ?_)
      | refine Branch.mk (fun h => ?_) (fun h => ?_)
      | (refine Side.mk ?_ ?_; · first | omega | decide)
      | (refine SideD.mk ?_ ?_; · first | omega | decide)
      | refine ⟨_, Nat.lt_succ_self _, To.refl (.inl ⟨rfl, ?_⟩)⟩
      | (refine Side.mk ?_ ?_; · (simp; done))
      | fail
      )
  all_goals (conv => whnf)
  refine ⟨L20 l cap st, l.length, To.gc [] [1, 5, 9, 10, 11] rfl trivial ⟨0, by omega, by omega, by simp [cnt]; rfl, rfl⟩, ?_⟩
  rintro m fr H ⟨i, hi, rfl, rfl, rfl⟩
  have hle := cnt_le (l.take i) st
  rw [List.length_take] at hle
  by_cases hil : i < l.length
  · have hat := pc_at i l hil
    have hs := cnt_succ l st i hil
    repeat' ((conv => whnf); first
        | refine Branch.ofT rfl ?_
        | refine Branch.ofF rfl ?_
        | refine Branch.ofT (decide_eq_true (by omega)) ?_
        | refine Branch.dec (fun h => ?_) (fun h => ?_)
        | refine Branch.negdec (fun h => ?_) (fun h => ?_)
        | refine Branch.neg (fun h => ?_) (fun h => ?_)
        | refine Branch.mk (fun h => ?_) (fun h => ?_)
        | (refine Side.mk ?_ ?_; · first | omega | decide)
        | (refine SideD.mk ?_ ?_; · first | omega | decide)
        | refine ⟨_, Nat.lt_succ_self _, To.refl (.inl ⟨rfl, ?_⟩)⟩
        | refine tk2 hat ?_
        | (refine Side.mk ?_ ?_; · (simp; done))
        | fail
        )
    all_goals (conv => whnf)
    · exact ⟨l.length - (i + 1), by omega, To.gc [] [1, 5, 9, 10, 11] rfl trivial ⟨i + 1, by omega, rfl, by rw [hs, if_pos h]; rfl, rfl⟩⟩
    · exact ⟨l.length - (i + 1), by omega, To.gc [] [1, 5, 9, 10, 11] rfl trivial ⟨i + 1, by omega, rfl, by rw [hs, if_neg h]; rfl, rfl⟩⟩
  · have : i = l.length := by omega
    subst this
    repeat' ((conv => whnf); first
        | refine Branch.ofT rfl ?_
        | refine Branch.ofF rfl ?_
        | refine Branch.ofF (decide_eq_false (by omega)) ?_
        | refine Branch.dec (fun h => ?_) (fun h => ?_)
        | refine Branch.negdec (fun h => ?_) (fun h => ?_)
        | refine Branch.neg (fun h => ?_) (fun h => ?_)
        | refine Branch.mk (fun h => ?_) (fun h => ?_)
        | (refine Side.mk ?_ ?_; · first | omega | decide)
        | (refine SideD.mk ?_ ?_; · first | omega | decide)
        | refine ⟨_, Nat.lt_succ_self _, To.refl (.inl ⟨rfl, ?_⟩)⟩
        | (refine Side.mk ?_ ?_; · (simp; done))
        | fail
        )
    all_goals (conv => whnf)
    rw [List.take_length]
    exact RetA.data rfl ⟨rfl, rfl⟩
def HP (l : List Pl) (cap : Option Nat) : Heap := ⟨1, [(0, .cells [.dslice (pc l) l.length cap])]⟩
def L21 (l : List Pl) (cap : Option Nat) (st : Int) (m : Nat) (fr : Fr) (H : Heap) : Prop := ∃ i : Nat, i ≤ l.length ∧ m = l.length - i ∧ fr = [(1, I st), (2, .ptr 0 0), (5, I (cnt (l.take i) st)), (6, I i)] ∧ H = HP l cap
theorem c21 (l : List Pl) (cap : Option Nat) (st : Int) (hl : l.length ≤ 1000) : CallA Tryd.prog 21 [pgs l cap, I st] Heap.nil fun v H' => v = I (cnt l st) ∧ H' = Heap.nil := by
  refine callA_of ok21 (Nat.le_of_ble_eq_true rfl) ?_
  repeat' ((conv => whnf); first
      | refine Branch.ofT rfl ?_
      | refine Branch.ofF rfl ?_
      | refine Branch.dec (fun h => ?_) (fun h => ?_)
      | refine Branch.negdec (fun h => ?_) (fun h => ?_)
      | refine Branch.neg (fun h => ?_) (fun h => ?_)
      | refine Branch.mk (fun h => ?_) (fun h => ?_)
      | (refine Side.mk ?_ ?_; · first | omega | decide)
      | (refine SideD.mk ?_ ?_; · first | omega | decide)
      | refine ⟨_, Nat.lt_succ_self _, To.refl (.inl ⟨rfl, ?_⟩)⟩
      | (refine Side.mk ?_ ?_; · (simp; done))
      | fail
      )
  all_goals (conv => whnf)
  refine ⟨L21 l cap st, l.length, To.gc [(0, true)] [1, 2, 5, 6] rfl ⟨dat rfl, trivial⟩ ⟨0, by omega, by omega, by simp [cnt]; rfl, rfl⟩, ?_⟩
  rintro m fr H ⟨i, hi, rfl, rfl, rfl⟩
  have hle := cnt_le (l.take i) st
  rw [List.length_take] at hle
  by_cases hil : i < l.length
  · have hat := pc_at i l hil
    have hs := cnt_succ l st i hil
    repeat' ((conv => whnf); first
        | refine Branch.ofT rfl ?_
        | refine Branch.ofF rfl ?_
        | refine Branch.ofT (decide_eq_true (by omega)) ?_
        | refine Branch.dec (fun h => ?_) (fun h => ?_)
        | refine Branch.negdec (fun h => ?_) (fun h => ?_)
        | refine Branch.neg (fun h => ?_) (fun h => ?_)
        | refine Branch.mk (fun h => ?_) (fun h => ?_)
        | (refine Side.mk ?_ ?_; · first | omega | decide)
        | (refine SideD.mk ?_ ?_; · first | omega | decide)
        | refine ⟨_, Nat.lt_succ_self _, To.refl (.inl ⟨rfl, ?_⟩)⟩
        | refine nthA hat ?_
        | (refine Side.mk ?_ ?_; · (simp; done))
        | fail
        )
    all_goals (conv => whnf)
    · exact ⟨l.length - (i + 1), by omega, To.gc [(0, true)] [1, 2, 5, 6] rfl ⟨dat rfl, trivial⟩ ⟨i + 1, by omega, rfl, by rw [hs, if_pos h]; rfl, rfl⟩⟩
    · exact ⟨l.length - (i + 1), by omega, To.gc [(0, true)] [1, 2, 5, 6] rfl ⟨dat rfl, trivial⟩ ⟨i + 1, by omega, rfl, by rw [hs, if_neg h]; rfl, rfl⟩⟩
  · have : i = l.length := by omega
    subst this
    repeat' ((conv => whnf); first
        | refine Branch.ofT rfl ?_
        | refine Branch.ofF rfl ?_
        | refine Branch.ofF (decide_eq_false (by omega)) ?_
        | refine Branch.dec (fun h => ?_) (fun h => ?_)
        | refine Branch.negdec (fun h => ?_) (fun h => ?_)
        | refine Branch.neg (fun h => ?_) (fun h => ?_)
        | refine Branch.mk (fun h => ?_) (fun h => ?_)
        | (refine Side.mk ?_ ?_; · first | omega | decide)
        | (refine SideD.mk ?_ ?_; · first | omega | decide)
        | refine ⟨_, Nat.lt_succ_self _, To.refl (.inl ⟨rfl, ?_⟩)⟩
        | (refine Side.mk ?_ ?_; · (simp; done))
        | fail
        )
    all_goals (conv => whnf)
    rw [List.take_length]
    exact RetA.data rfl ⟨rfl, rfl⟩
/-- The page that is in a slot. -/
def hold : List Pl → Int → Nat → Int
  | [], _, _ => -1
  | x :: r, slot, i => if x.s = 3 ∧ x.n = slot then (i : Int) else hold r slot (i + 1)
theorem hold_at (l : List Pl) (slot : Int) (i : Nat) (h : i < l.length) : hold (l.drop i) slot i = if l[i].s = 3 ∧ l[i].n = slot then (i : Int) else hold (l.drop (i + 1)) slot (i + 1) := by
  rw [List.drop_eq_getElem_cons h, hold]
def L32 (l : List Pl) (cap : Option Nat) (slot : Int) (m : Nat) (fr : Fr) (H : Heap) : Prop := ∃ i : Nat, i ≤ l.length ∧ m = l.length - i ∧ hold (l.drop i) slot i = hold l slot 0 ∧ fr = [(1, I slot), (2, .ptr 0 0), (5, I i)] ∧ H = HP l cap
theorem c32 (l : List Pl) (cap : Option Nat) (slot : Int) (hl : l.length ≤ 1000) : CallA Tryd.prog 32 [pgs l cap, I slot] Heap.nil fun v H' => v = I (hold l slot 0) ∧ H' = Heap.nil := by
  refine callA_of ok32 (Nat.le_of_ble_eq_true rfl) ?_
  repeat' ((conv => whnf); first
      | refine Branch.ofT rfl ?_
      | refine Branch.ofF rfl ?_
      | refine Branch.dec (fun h => ?_) (fun h => ?_)
      | refine Branch.negdec (fun h => ?_) (fun h => ?_)
      | refine Branch.neg (fun h => ?_) (fun h => ?_)
      | refine Branch.mk (fun h => ?_) (fun h => ?_)
      | (refine Side.mk ?_ ?_; · first | omega | decide)
      | (refine SideD.mk ?_ ?_; · first | omega | decide)
      | refine ⟨_, Nat.lt_succ_self _, To.refl (.inl ⟨rfl, ?_⟩)⟩
      | (refine Side.mk ?_ ?_; · (simp; done))
      | fail
      )
  all_goals (conv => whnf)
  refine ⟨L32 l cap slot, l.length, To.gc [(0, true)] [1, 2, 5] rfl ⟨dat rfl, trivial⟩ ⟨0, by omega, by omega, by rw [List.drop_zero], rfl, rfl⟩, ?_⟩
  rintro m fr H ⟨i, hi, rfl, hI, rfl, rfl⟩
  by_cases hil : i < l.length
  · have hat := pc_at i l hil
    have hs := hold_at l slot i hil
    repeat' ((conv => whnf); first
        | refine Branch.ofT rfl ?_
        | refine Branch.ofF rfl ?_
        | refine Branch.ofT (decide_eq_true (by omega)) ?_
        | refine Branch.dec (fun h => ?_) (fun h => ?_)
        | refine Branch.negdec (fun h => ?_) (fun h => ?_)
        | refine Branch.neg (fun h => ?_) (fun h => ?_)
        | refine Branch.mk (fun h => ?_) (fun h => ?_)
        | (refine Side.mk ?_ ?_; · first | omega | decide)
        | (refine SideD.mk ?_ ?_; · first | omega | decide)
        | refine ⟨_, Nat.lt_succ_self _, To.refl (.inl ⟨rfl, ?_⟩)⟩
        | refine nthA hat ?_
        | refine nthB hat ?_
        | (refine Side.mk ?_ ?_; · (simp; done))
        | fail
        )
    all_goals (conv => whnf)
    · rw [hs, if_pos ⟨‹l[i].s = 3›, h⟩] at hI
      rw [← hI]
      exact RetA.data rfl ⟨rfl, rfl⟩
    · rw [hs, if_neg (fun e => h e.2)] at hI
      exact ⟨l.length - (i + 1), by omega, To.gc [(0, true)] [1, 2, 5] rfl ⟨dat rfl, trivial⟩ ⟨i + 1, by omega, rfl, hI, rfl, rfl⟩⟩
    · rw [hs, if_neg (fun e => h e.1)] at hI
      exact ⟨l.length - (i + 1), by omega, To.gc [(0, true)] [1, 2, 5] rfl ⟨dat rfl, trivial⟩ ⟨i + 1, by omega, rfl, hI, rfl, rfl⟩⟩
  · have : i = l.length := by omega
    subst this
    repeat' ((conv => whnf); first
        | refine Branch.ofT rfl ?_
        | refine Branch.ofF rfl ?_
        | refine Branch.ofF (decide_eq_false (by omega)) ?_
        | refine Branch.dec (fun h => ?_) (fun h => ?_)
        | refine Branch.negdec (fun h => ?_) (fun h => ?_)
        | refine Branch.neg (fun h => ?_) (fun h => ?_)
        | refine Branch.mk (fun h => ?_) (fun h => ?_)
        | (refine Side.mk ?_ ?_; · first | omega | decide)
        | (refine SideD.mk ?_ ?_; · first | omega | decide)
        | refine ⟨_, Nat.lt_succ_self _, To.refl (.inl ⟨rfl, ?_⟩)⟩
        | (refine Side.mk ?_ ?_; · (simp; done))
        | fail
        )
    all_goals (conv => whnf)
    rw [List.drop_length, hold] at hI
    rw [← hI]
    exact RetA.data rfl ⟨rfl, rfl⟩
/-! ### What valid places are -/
def Pl.ok (x : Pl) : Prop := ¬ x.s < 1 ∧ ¬ x.s > 4 ∧ ¬ x.n < 0 ∧ (x.s ≠ 3 → x.n = 0)
structure RV (l : List Pl) : Prop where
  one : 1 ≤ l.length
  many : l.length ≤ 64
  all : ∀ i (h : i < l.length), l[i].ok ∧ (l[i].s = 3 → hold l l[i].n 0 = i)
open Classical in
noncomputable def rvB (l : List Pl) : Bool := decide (RV l)
theorem rvB_t {l : List Pl} (h : RV l) : rvB l = true := by unfold rvB; simpa using h
theorem rvB_f {l : List Pl} (h : ¬ RV l) : rvB l = false := by unfold rvB; simpa using h
def L13 (l : List Pl) (cap : Option Nat) (m : Nat) (fr : Fr) (H : Heap) : Prop := ∃ i : Nat, i ≤ l.length ∧ m = l.length - i ∧ (∀ j (h : j < l.length), j < i → l[j].ok ∧ (l[j].s = 3 → hold l l[j].n 0 = j)) ∧ fr = [(1, .ptr 0 0), (3, I i)] ∧ H = HP l cap
theorem c13 (l : List Pl) (cap : Option Nat) : CallA Tryd.prog 13 [pgs l cap] Heap.nil fun v H' => v = .bool (rvB l) ∧ H' = Heap.nil := by
  by_cases h1 : 1 ≤ l.length ∧ l.length ≤ 64
  · refine callA_of ok13 (Nat.le_of_ble_eq_true rfl) ?_
    repeat' ((conv => whnf); first
        | refine Branch.ofT rfl ?_
        | refine Branch.ofF rfl ?_
        | refine Branch.ofF (decide_eq_false (by omega)) ?_
        | refine Branch.dec (fun h => ?_) (fun h => ?_)
        | refine Branch.negdec (fun h => ?_) (fun h => ?_)
        | refine Branch.neg (fun h => ?_) (fun h => ?_)
        | refine Branch.mk (fun h => ?_) (fun h => ?_)
        | (refine Side.mk ?_ ?_; · first | omega | decide)
        | (refine SideD.mk ?_ ?_; · first | omega | decide)
        | refine ⟨_, Nat.lt_succ_self _, To.refl (.inl ⟨rfl, ?_⟩)⟩
        | (refine Side.mk ?_ ?_; · (simp; done))
        | fail
        )
    all_goals (conv => whnf)
    refine ⟨L13 l cap, l.length, To.gc [(0, true)] [1, 3] rfl ⟨dat rfl, trivial⟩ ⟨0, by omega, by omega, fun j h hj => by omega, rfl, rfl⟩, ?_⟩
    rintro m fr H ⟨i, hi, rfl, hI, rfl, rfl⟩
    by_cases hil : i < l.length
    · have hat := pc_at i l hil
      have h32 := c32 l cap l[i].n (by omega)
      repeat' ((conv => whnf); first
          | refine Branch.ofT rfl ?_
          | refine Branch.ofF rfl ?_
          | refine Branch.ofT (decide_eq_true (by omega)) ?_
          | refine Branch.dec (fun h => ?_) (fun h => ?_)
          | refine Branch.negdec (fun h => ?_) (fun h => ?_)
          | refine Branch.neg (fun h => ?_) (fun h => ?_)
          | refine Branch.mk (fun h => ?_) (fun h => ?_)
          | (refine Side.mk ?_ ?_; · first | omega | decide)
          | (refine SideD.mk ?_ ?_; · first | omega | decide)
          | refine ⟨_, Nat.lt_succ_self _, To.refl (.inl ⟨rfl, ?_⟩)⟩
          | refine tk2 hat ?_
          | refine CallA.pure h32 rfl rfl ?_
          | (refine Side.mk ?_ ?_; · (simp; done))
          | fail
          )
      all_goals (conv => whnf)
      all_goals first
        | (rw [rvB_f (fun hv => by have o := hv.all i hil; have o5 := o.2; obtain ⟨o1, o2, o3, o4⟩ := o.1; omega)]; exact RetA.data rfl ⟨rfl, rfl⟩)
        | exact ⟨l.length - (i + 1), by omega, To.gc [(0, true)] [1, 3] rfl ⟨dat rfl, trivial⟩ ⟨i + 1, by omega, rfl, fun j hj hji => by
            rcases Nat.lt_succ_iff_lt_or_eq.1 hji with q | rfl
            · exact hI j hj q
            · exact ⟨⟨by omega, by omega, by omega, fun _ => by omega⟩, fun _ => by omega⟩, rfl, rfl⟩⟩
    · have : i = l.length := by omega
      subst this
      repeat' ((conv => whnf); first
          | refine Branch.ofT rfl ?_
          | refine Branch.ofF rfl ?_
          | refine Branch.ofF (decide_eq_false (by omega)) ?_
          | refine Branch.dec (fun h => ?_) (fun h => ?_)
          | refine Branch.negdec (fun h => ?_) (fun h => ?_)
          | refine Branch.neg (fun h => ?_) (fun h => ?_)
          | refine Branch.mk (fun h => ?_) (fun h => ?_)
          | (refine Side.mk ?_ ?_; · first | omega | decide)
          | (refine SideD.mk ?_ ?_; · first | omega | decide)
          | refine ⟨_, Nat.lt_succ_self _, To.refl (.inl ⟨rfl, ?_⟩)⟩
          | (refine Side.mk ?_ ?_; · (simp; done))
          | fail
          )
      all_goals (conv => whnf)
      rw [rvB_t ⟨h1.1, h1.2, fun j h => hI j h h⟩]
      exact RetA.data rfl ⟨rfl, rfl⟩
  · rw [rvB_f (fun h => h1 ⟨h.one, h.many⟩)]
    refine callA_of ok13 (Nat.le_of_ble_eq_true rfl) ?_
    repeat' ((conv => whnf); first
        | refine Branch.ofT rfl ?_
        | refine Branch.ofF rfl ?_
        | refine Branch.dec (fun h => ?_) (fun h => ?_)
        | refine Branch.negdec (fun h => ?_) (fun h => ?_)
        | refine Branch.neg (fun h => ?_) (fun h => ?_)
        | refine Branch.mk (fun h => ?_) (fun h => ?_)
        | (refine Side.mk ?_ ?_; · first | omega | decide)
        | (refine SideD.mk ?_ ?_; · first | omega | decide)
        | refine ⟨_, Nat.lt_succ_self _, To.refl (.inl ⟨rfl, ?_⟩)⟩
        | (refine Side.mk ?_ ?_; · (simp; done))
        | fail
        )
    all_goals (conv => whnf)
    all_goals first | exact RetA.data rfl ⟨rfl, rfl⟩ | omega
end Go.Proofs

namespace Go.Proofs
open Go Go.Eng
set_option maxRecDepth 100000
set_option maxHeartbeats 2000000
/-! ### A map from slots to marks -/
def bmap (ms : List (Int × Bool)) : List (AV × AV) := ms.map fun x => (I x.1, .bool x.2)
def bget (k : Int) : List (Int × Bool) → Option Bool
  | [] => none
  | (a, b) :: r => if k = a then some b else bget k r
def bput (k : Int) (v : Bool) : List (Int × Bool) → List (Int × Bool)
  | [] => [(k, v)]
  | (a, b) :: r => if k = a then (k, v) :: r else (a, b) :: bput k v r
theorem mfind_b (k : Int) : ∀ ms, mfind (.c (.i .i64)) (I k) (bmap ms) = some ((bget k ms).map AV.bool)
  | [] => rfl
  | (a, b) :: r => by
    show mfind (.c (.i .i64)) (I k) ((I a, .bool b) :: bmap r) = _
    rw [mfind, eqI, bget]
    by_cases h : k = a
    · rw [decide_eq_true h, if_pos h]; rfl
    · rw [decide_eq_false h, if_neg h]; exact mfind_b k r
theorem mput_b (k : Int) (v : Bool) : ∀ ms, mput (.c (.i .i64)) (I k) (.bool v) (bmap ms) = some (bmap (bput k v ms))
  | [] => rfl
  | (a, b) :: r => by
    show mput (.c (.i .i64)) (I k) (.bool v) ((I a, .bool b) :: bmap r) = _
    rw [mput, eqI, bput]
    by_cases h : k = a
    · rw [decide_eq_true h, if_pos h]; rfl
    · rw [decide_eq_false h, if_neg h]
      simp only [mput_b k v r]; rfl
theorem bget_put (k j : Int) (v : Bool) : ∀ ms, bget j (bput k v ms) = if j = k then some v else bget j ms
  | [] => by simp only [bput, bget]
  | (a, b) :: r => by
    simp only [bput]
    by_cases h : k = a
    · subst h
      simp only [if_true, bget]
      by_cases hj : j = k <;> simp [hj]
    · rw [if_neg h]
      simp only [bget, bget_put k j v r]
      by_cases hj : j = a
      · subst hj; simp [Ne.symm h]
      · simp [hj]
def mk0 (o : Option Bool) : Bool := match o with
  | some b => b
  | none => false
theorem hold_first : ∀ (l : List Pl) (slot : Int) (a i : Nat) (h : i < l.length), l[i].s = 3 → l[i].n = slot → (∀ j (hj : j < l.length), j < i → ¬ (l[j].s = 3 ∧ l[j].n = slot)) → hold l slot a = ((a + i : Nat) : Int)
  | [], _, _, _, h, _, _, _ => by simp at h
  | x :: r, slot, a, 0, h, h1, h2, _ => by
    simp only [List.getElem_cons_zero] at h1 h2
    rw [hold, if_pos ⟨h1, h2⟩]; rfl
  | x :: r, slot, a, i + 1, h, h1, h2, h3 => by
    have := h3 0 (by simp) (by omega)
    simp only [List.getElem_cons_zero] at this
    rw [hold, if_neg this, hold_first r slot (a + 1) i (by simpa using h) (by simpa using h1) (by simpa using h2) (fun j hj hji => by
      have := h3 (j + 1) (by simpa using hj) (by omega)
      simpa using this)]
    congr 1; omega
theorem hold_before : ∀ (l : List Pl) (slot : Int) (a j : Nat) (h : j < l.length), l[j].s = 3 → l[j].n = slot → ∃ i, i ≤ j ∧ hold l slot a = ((a + i : Nat) : Int)
  | [], _, _, _, h, _, _ => by simp at h
  | x :: r, slot, a, 0, h, h1, h2 => by
    simp only [List.getElem_cons_zero] at h1 h2
    exact ⟨0, by omega, by rw [hold, if_pos ⟨h1, h2⟩]; rfl⟩
  | x :: r, slot, a, j + 1, h, h1, h2 => by
    by_cases hx : x.s = 3 ∧ x.n = slot
    · exact ⟨0, by omega, by rw [hold, if_pos hx]; rfl⟩
    · obtain ⟨i, h3, h4⟩ := hold_before r slot (a + 1) j (by simpa using h) (by simpa using h1) (by simpa using h2)
      exact ⟨i + 1, by omega, by rw [hold, if_neg hx, h4]; congr 1; omega⟩
def Marks (l : List Pl) (i : Nat) (ms : List (Int × Bool)) : Prop := ∀ k, mk0 (bget k ms) = true ↔ ∃ j, ∃ h : j < l.length, j < i ∧ l[j].s = 3 ∧ l[j].n = k
theorem mark_step {l : List Pl} {i : Nat} {ms : List (Int × Bool)} (h : i < l.length) (hM : Marks l i ms) {v : Bool} (hv : v = true ↔ (mk0 (bget l[i].n ms) = true ∨ l[i].s = 3)) : Marks l (i + 1) (bput l[i].n v ms) := by
  intro k
  rw [bget_put]
  by_cases hk : k = l[i].n
  · subst hk
    simp only [if_true, mk0]
    rw [hv, hM]
    constructor
    · rintro (⟨j, hj, h1, h2, h3⟩ | h3)
      · exact ⟨j, hj, by omega, h2, h3⟩
      · exact ⟨i, h, by omega, h3, rfl⟩
    · rintro ⟨j, hj, h1, h2, h3⟩
      rcases Nat.lt_succ_iff_lt_or_eq.1 h1 with q | rfl
      · exact .inl ⟨j, hj, q, h2, h3⟩
      · exact .inr h2
  · rw [if_neg hk, hM]
    constructor
    · rintro ⟨j, hj, h1, h2, h3⟩; exact ⟨j, hj, by omega, h2, h3⟩
    · rintro ⟨j, hj, h1, h2, h3⟩
      rcases Nat.lt_succ_iff_lt_or_eq.1 h1 with q | rfl
      · exact ⟨j, hj, q, h2, h3⟩
      · exact absurd h3.symm hk
theorem hold_new {l : List Pl} {i : Nat} {ms : List (Int × Bool)} (h : i < l.length) (hM : Marks l i ms) (h3 : l[i].s = 3) (hn : mk0 (bget l[i].n ms) = false) : hold l l[i].n 0 = i := by
  have := hold_first l l[i].n 0 i h h3 rfl (fun j hj hji hc => by
    have := (hM l[i].n).2 ⟨j, hj, hji, hc.1, hc.2⟩
    rw [hn] at this; cases this)
  rw [this]; congr 1; omega
theorem hold_old {l : List Pl} {i : Nat} {ms : List (Int × Bool)} (hM : Marks l i ms) (h : i < l.length) (hn : mk0 (bget l[i].n ms) = true) : hold l l[i].n 0 ≠ i := by
  obtain ⟨j, hj, h1, h2, h3⟩ := (hM l[i].n).1 hn
  obtain ⟨i', h4, h5⟩ := hold_before l l[i].n 0 j hj h2 h3
  rw [h5]; omega
def H12 (l : List Pl) (cap : Option Nat) (ms : List (Int × Bool)) : Heap := ⟨2, [(0, .cells [.dslice (pc l) l.length cap]), (1, .map (bmap ms))]⟩
def L12 (l : List Pl) (cap : Option Nat) (m : Nat) (fr : Fr) (H : Heap) : Prop := ∃ (i : Nat) (ms : List (Int × Bool)), i ≤ l.length ∧ m = l.length - i ∧ (∀ j (h : j < l.length), j < i → l[j].ok ∧ (l[j].s = 3 → hold l l[j].n 0 = j)) ∧
  Marks l i ms ∧ fr = [(1, .ptr 0 0), (3, .map 1), (9, .dslice (pc l) l.length cap), (10, I l.length), (11, I i)] ∧ H = H12 l cap ms
theorem c12 (l : List Pl) (cap : Option Nat) (hl : l.length ≤ 1000) : CallA Tryd.prog 12 [pgs l cap] Heap.nil fun v H' => v = .bool (rvB l) ∧ H' = Heap.nil := by
  refine callA_of ok12 (Nat.le_of_ble_eq_true rfl) ?_
  repeat' ((conv => whnf); first
      | refine Branch.ofT rfl ?_
      | refine Branch.ofF rfl ?_
      | refine Branch.dec (fun h => ?_) (fun h => ?_)
      | refine Branch.negdec (fun h => ?_) (fun h => ?_)
      | refine Branch.neg (fun h => ?_) (fun h => ?_)
      | refine Branch.mk (fun h => ?_) (fun h => ?_)
      | (refine Side.mk ?_ ?_; · first | omega | decide)
      | (refine SideD.mk ?_ ?_; · first | omega | decide)
      | refine ⟨_, Nat.lt_succ_self _, To.refl (.inl ⟨rfl, ?_⟩)⟩
      | (refine Side.mk ?_ ?_; · (simp; done))
      | fail
      )
  all_goals (conv => whnf)
  refine ⟨L12 l cap, l.length, To.gc [(0, true), (1, true)] [1, 3, 9, 10, 11] rfl ⟨dat rfl, trivial, trivial⟩ ⟨0, [], by omega, by omega, fun j h hj => by omega, fun k => ⟨fun h => (by cases h), fun ⟨j, _, hj, _⟩ => (by omega)⟩, rfl, rfl⟩, ?_⟩
  rintro m fr H ⟨i, ms, hi, rfl, hI, hM, rfl, rfl⟩
  by_cases hil : i < l.length
  · have hat := pc_at i l hil
    have ext : (l[i].ok ∧ (l[i].s = 3 → hold l l[i].n 0 = i)) → ∀ j (h : j < l.length), j < i + 1 → l[j].ok ∧ (l[j].s = 3 → hold l l[j].n 0 = j) := fun h1 j hj hji => by
      rcases Nat.lt_succ_iff_lt_or_eq.1 hji with q | rfl
      · exact hI j hj q
      · exact h1
    have ms1 := fun v => mark_step (v := v) hil hM
    have hnew := hold_new hil hM
    have hold' := hold_old hM hil
    have hfb := mfind_b l[i].n ms
    have hpb := fun v => mput_b l[i].n v ms
    rcases hb : bget l[i].n ms with _ | b
    · rw [hb] at hfb hnew hold' ms1
      replace hfb : mfind (.c (.i .i64)) (I l[i].n) (bmap ms) = some none := hfb
      repeat' ((conv => whnf); first
          | refine Branch.ofT rfl ?_
          | refine Branch.ofF rfl ?_
          | refine Branch.ofT (decide_eq_true (by omega)) ?_
          | refine Branch.dec (fun h => ?_) (fun h => ?_)
          | refine Branch.negdec (fun h => ?_) (fun h => ?_)
          | refine Branch.neg (fun h => ?_) (fun h => ?_)
          | refine Branch.mk (fun h => ?_) (fun h => ?_)
          | (refine Side.mk ?_ ?_; · first | omega | decide)
          | (refine SideD.mk ?_ ?_; · first | omega | decide)
          | refine ⟨_, Nat.lt_succ_self _, To.refl (.inl ⟨rfl, ?_⟩)⟩
          | refine tk2 hat ?_
          | refine MRes.mk ⟨_, hfb, ?_⟩
          | refine MRes.mk ⟨_, hpb _, ?_⟩
          | (refine Side.mk ?_ ?_; · (simp; done))
          | fail
          )
      all_goals (conv => whnf)
      all_goals first
        | (rw [rvB_f (fun hv => by have o := hv.all i hil; have o5 := o.2; obtain ⟨o1, o2, o3, o4⟩ := o.1; first | omega | exact hold' rfl (o5 (by assumption)))]; exact RetA.data rfl ⟨rfl, rfl⟩)
        | (refine ⟨l.length - (i + 1), by omega, To.gc [(0, true), (1, true)] [1, 3, 9, 10, 11] rfl ⟨dat rfl, trivial, trivial⟩ ⟨i + 1, _, by omega, rfl, ext ⟨⟨by omega, by omega, by omega, fun _ => by omega⟩, fun h3 => ?_⟩, ms1 _ ?_, rfl, rfl⟩⟩
           · first | exact hnew h3 rfl | exact absurd h3 (by assumption)
           · simp_all [mk0])
    · cases b with
      | false =>
        rw [hb] at hfb hnew hold' ms1
        replace hfb : mfind (.c (.i .i64)) (I l[i].n) (bmap ms) = some (some (.bool false)) := hfb
        repeat' ((conv => whnf); first
            | refine Branch.ofT rfl ?_
            | refine Branch.ofF rfl ?_
            | refine Branch.ofT (decide_eq_true (by omega)) ?_
            | refine Branch.dec (fun h => ?_) (fun h => ?_)
            | refine Branch.negdec (fun h => ?_) (fun h => ?_)
            | refine Branch.neg (fun h => ?_) (fun h => ?_)
            | refine Branch.mk (fun h => ?_) (fun h => ?_)
            | (refine Side.mk ?_ ?_; · first | omega | decide)
            | (refine SideD.mk ?_ ?_; · first | omega | decide)
            | refine ⟨_, Nat.lt_succ_self _, To.refl (.inl ⟨rfl, ?_⟩)⟩
            | refine tk2 hat ?_
            | refine MRes.mk ⟨_, hfb, ?_⟩
            | refine MRes.mk ⟨_, hpb _, ?_⟩
            | (refine Side.mk ?_ ?_; · (simp; done))
            | fail
            )
        all_goals (conv => whnf)
        all_goals first
          | (rw [rvB_f (fun hv => by have o := hv.all i hil; have o5 := o.2; obtain ⟨o1, o2, o3, o4⟩ := o.1; first | omega | exact hold' rfl (o5 (by assumption)))]; exact RetA.data rfl ⟨rfl, rfl⟩)
          | (refine ⟨l.length - (i + 1), by omega, To.gc [(0, true), (1, true)] [1, 3, 9, 10, 11] rfl ⟨dat rfl, trivial, trivial⟩ ⟨i + 1, _, by omega, rfl, ext ⟨⟨by omega, by omega, by omega, fun _ => by omega⟩, fun h3 => ?_⟩, ms1 _ ?_, rfl, rfl⟩⟩
             · first | exact hnew h3 rfl | exact absurd h3 (by assumption)
             · simp_all [mk0])
      | true =>
        rw [hb] at hfb hnew hold' ms1
        replace hfb : mfind (.c (.i .i64)) (I l[i].n) (bmap ms) = some (some (.bool true)) := hfb
        repeat' ((conv => whnf); first
            | refine Branch.ofT rfl ?_
            | refine Branch.ofF rfl ?_
            | refine Branch.ofT (decide_eq_true (by omega)) ?_
            | refine Branch.dec (fun h => ?_) (fun h => ?_)
            | refine Branch.negdec (fun h => ?_) (fun h => ?_)
            | refine Branch.neg (fun h => ?_) (fun h => ?_)
            | refine Branch.mk (fun h => ?_) (fun h => ?_)
            | (refine Side.mk ?_ ?_; · first | omega | decide)
            | (refine SideD.mk ?_ ?_; · first | omega | decide)
            | refine ⟨_, Nat.lt_succ_self _, To.refl (.inl ⟨rfl, ?_⟩)⟩
            | refine tk2 hat ?_
            | refine MRes.mk ⟨_, hfb, ?_⟩
            | refine MRes.mk ⟨_, hpb _, ?_⟩
            | (refine Side.mk ?_ ?_; · (simp; done))
            | fail
            )
        all_goals (conv => whnf)
        all_goals first
          | (rw [rvB_f (fun hv => by have o := hv.all i hil; have o5 := o.2; obtain ⟨o1, o2, o3, o4⟩ := o.1; first | omega | exact hold' rfl (o5 (by assumption)))]; exact RetA.data rfl ⟨rfl, rfl⟩)
          | (refine ⟨l.length - (i + 1), by omega, To.gc [(0, true), (1, true)] [1, 3, 9, 10, 11] rfl ⟨dat rfl, trivial, trivial⟩ ⟨i + 1, _, by omega, rfl, ext ⟨⟨by omega, by omega, by omega, fun _ => by omega⟩, fun h3 => ?_⟩, ms1 _ ?_, rfl, rfl⟩⟩
             · first | exact hnew h3 rfl | exact absurd h3 (by assumption)
             · simp_all [mk0])
  · have : i = l.length := by omega
    subst this
    have hall : 1 ≤ l.length → l.length ≤ 64 → RV l := fun h1 h2 => ⟨h1, h2, fun j h => hI j h h⟩
    repeat' ((conv => whnf); first
        | refine Branch.ofT rfl ?_
        | refine Branch.ofF rfl ?_
        | refine Branch.ofF (decide_eq_false (by omega)) ?_
        | refine Branch.dec (fun h => ?_) (fun h => ?_)
        | refine Branch.negdec (fun h => ?_) (fun h => ?_)
        | refine Branch.neg (fun h => ?_) (fun h => ?_)
        | refine Branch.mk (fun h => ?_) (fun h => ?_)
        | (refine Side.mk ?_ ?_; · first | omega | decide)
        | (refine SideD.mk ?_ ?_; · first | omega | decide)
        | refine ⟨_, Nat.lt_succ_self _, To.refl (.inl ⟨rfl, ?_⟩)⟩
        | (refine Side.mk ?_ ?_; · (simp; done))
        | fail
        )
    all_goals (conv => whnf)
    · refine RetA.data rfl ⟨?_, rfl⟩
      by_cases h2 : l.length ≤ 64
      · rw [rvB_t (hall (by omega) h2), decide_eq_true (by omega)]; rfl
      · rw [rvB_f (fun hv => h2 hv.many), decide_eq_false (by omega)]; rfl
    · rw [rvB_f (fun hv => h (by have := hv.one; omega))]
      exact RetA.data rfl ⟨rfl, rfl⟩
end Go.Proofs

namespace Go.Proofs
open Go Go.Eng
set_option maxRecDepth 100000
set_option maxHeartbeats 4000000
/-! ### Put -/
def um (s : Nat) : List (AV × AV) := (List.range s).map fun i => (I (i : Nat), .bool true)
def hL (D : List AV) (n : Nat) (st : Nat) (ch : List (List AV)) (ls : List (Nat × List AV)) (s : Nat) : Heap := ⟨6, [(0, .cells D), (1, .cells [.slice 2 0 n (some n) 65, .map 3, I st, I (-1), .bool false]), (2, .cells ch.flatten), (3, .map (emap ls)), (4, .cells [.ptr 1 0, .map 5]), (5, .map (um s))]⟩
theorem um_succ (s : Nat) : um (s + 1) = um s ++ [(I (s : Nat), .bool true)] := by simp [um, List.range_succ]
theorem um_bmap (s : Nat) : um s = bmap ((List.range s).map fun i : Nat => ((i : Int), true)) := by
  simp [um, bmap, List.map_map, Function.comp_def]
theorem bget_r (k : Nat) : ∀ (s a : Nat), bget (k : Int) ((List.range' a s).map fun i : Nat => ((i : Int), true)) = if a ≤ k ∧ k < a + s then some true else none
  | 0, a => by rw [if_neg (by omega)]; rfl
  | s + 1, a => by
    rw [List.range'_succ, List.map_cons, bget, bget_r k s (a + 1)]
    by_cases h : (k : Int) = (a : Int)
    · rw [if_pos h, if_pos (by omega)]
    · rw [if_neg h]
      by_cases h2 : a + 1 ≤ k ∧ k < a + 1 + s
      · rw [if_pos h2, if_pos (by omega)]
      · rw [if_neg h2, if_neg (by omega)]
theorem mfind_um (k s : Nat) : mfind (.c (.i .i64)) (I k) (um s) = some (if k < s then some (.bool true) else none) := by
  rw [um_bmap, mfind_b, List.range_eq_range', bget_r]
  by_cases h : k < s
  · rw [if_pos (by omega), if_pos h]; rfl
  · rw [if_neg (by omega), if_neg h]; rfl
theorem bput_r : ∀ (s a : Nat), bput ((a + s : Nat) : Int) true ((List.range' a s).map fun i : Nat => ((i : Int), true)) = (List.range' a (s + 1)).map fun i : Nat => ((i : Int), true)
  | 0, a => by simp [bput]
  | s + 1, a => by
    rw [List.range'_succ, List.map_cons, bput, if_neg (by omega), show a + (s + 1) = a + 1 + s by omega, bput_r s (a + 1), List.range'_succ (n := s + 1), List.map_cons]
theorem mput_um (s : Nat) : mput (.c (.i .i64)) (I s) (.bool true) (um s) = some (um (s + 1)) := by
  have := bput_r s 0
  rw [Nat.zero_add, ← List.range_eq_range', ← List.range_eq_range'] at this
  rw [um_bmap, mput_b, this, um_bmap]
theorem mfind_e {k : Nat} {z : Int} (hz : z = (k : Int)) : ∀ {ls : List (Nat × List AV)}, (∀ x ∈ ls, x.1 ≠ k) → mfind (.c (.i .i64)) (I z) (emap ls) = some none
  | [], _ => rfl
  | x :: ls, h => by
    show mfind (.c (.i .i64)) (I z) ((I x.1, _) :: emap ls) = _
    rw [mfind, eqI, decide_eq_false (by have := h x (by simp); omega)]
    exact mfind_e hz fun y hy => h y (by simp [hy])
theorem mput_e {k : Nat} {z : Int} {v : List AV} (hz : z = (k : Int)) : ∀ {ls : List (Nat × List AV)}, (∀ x ∈ ls, x.1 ≠ k) → mput (.c (.i .i64)) (I z) (.dslice v 1 none) (emap ls) = some (emap (ls ++ [(k, v)]))
  | [], _ => by subst hz; rfl
  | x :: ls, h => by
    show mput (.c (.i .i64)) (I z) _ ((I x.1, .dslice x.2 1 none) :: emap ls) = _
    rw [mput, eqI, decide_eq_false (by have := h x (by simp); omega), mput_e hz fun y hy => h y (by simp [hy])]
    rfl
theorem get_noit : ∀ {bs : List (Nat × AB)} {nx : Nat}, (∀ x ∈ bs, x.2.noit) → ∀ j, ((⟨nx, bs⟩ : Heap).get j).noit
  | [], _, _, _ => trivial
  | (k, b) :: bs, nx, h, j => by
    show (Go.Eng.bget ((k, b) :: bs) j).noit
    have ih := get_noit (nx := nx) (bs := bs) (fun x hx => h x (by simp [hx])) j
    simp only [Go.Eng.bget]
    cases Nat.beq k j with
    | true => exact h (k, b) (by simp)
    | false => exact ih
def ents (a : Nat) : List (List Nat) → List (Nat × List AV)
  | [] => []
  | x :: r => (a, x.map B) :: ents (a + 1) r
theorem ents_app : ∀ (a : Nat) (xs : List (List Nat)) (x : List Nat), ents a (xs ++ [x]) = ents a xs ++ [(a + xs.length, x.map B)]
  | a, [], x => rfl
  | a, y :: r, x => by
    show (a, y.map B) :: ents (a + 1) (r ++ [x]) = _
    rw [ents_app (a + 1) r x, show a + 1 + r.length = a + (y :: r).length by simp; omega]; rfl
theorem ents_key : ∀ {a : Nat} {xs : List (List Nat)} {x : Nat × List AV}, x ∈ ents a xs → a ≤ x.1 ∧ x.1 < a + xs.length
  | a, [], x, h => by cases h
  | a, y :: r, x, h => by
    rcases List.mem_cons.1 h with rfl | h
    · simp
    · have := ents_key h; simp; omega
def fl (xs : List (List Nat)) : List AV := xs.flatMap fun x => x.map B
theorem tkF : ∀ {xs : List (List Nat)} {i off : Nat} {K : List AV → Prop} (h : i < xs.length), (∀ x ∈ xs, x.length = 64) → off = i * 64 → K (xs[i].map B) → takeK 64 ((fl xs).drop off) K
  | [], i, off, K, h, _, _, _ => by simp at h
  | x :: r, 0, off, K, h, hl, e, hk => by
    subst e
    have h1 := hl x (by simp)
    have : fl (x :: r) = x.map B ++ fl r := rfl
    rw [Nat.zero_mul, List.drop_zero, this, takeK_eq _ _ _ (by simp [h1]), List.take_append_of_le_length (by simp [h1]), List.take_of_length_le (by simp [h1])]
    exact hk
  | x :: r, i + 1, off, K, h, hl, e, hk => by
    subst e
    have h1 := hl x (by simp)
    have : fl (x :: r) = x.map B ++ fl r := rfl
    rw [this, List.drop_append, List.drop_eq_nil_of_le (by simp; omega), List.nil_append, List.length_map, h1, show (i + 1) * 64 - 64 = i * 64 by omega]
    exact tkF (xs := r) (by simpa using h) (fun y hy => hl y (by simp [hy])) rfl hk
theorem fl_len : ∀ {xs : List (List Nat)}, (∀ x ∈ xs, x.length = 64) → (fl xs).length = xs.length * 64
  | [], _ => rfl
  | x :: r, h => by
    have : fl (x :: r) = x.map B ++ fl r := rfl
    rw [this, List.length_append, List.length_map, h x (by simp), fl_len (fun y hy => h y (by simp [hy]))]; simp; omega
theorem dat_fl (xs : List (List Nat)) : ∀ c ∈ fl xs, noLoc c = true := by
  intro c hc
  obtain ⟨x, _, hx⟩ := List.mem_flatMap.1 hc
  exact dat_bs x c hx
theorem scal_fl (xs : List (List Nat)) : ∀ c ∈ fl xs, scal c = true := by
  intro c hc
  obtain ⟨x, _, hx⟩ := List.mem_flatMap.1 hc
  exact scal_bs x c hx
def bsl (D : List AV) (n : Nat) (st : Nat) (ch : List (List AV)) (ls : List (Nat × List AV)) (s : Nat) : List (Nat × AB) := [(0, .cells D), (1, .cells [.slice 2 0 n (some n) 65, .map 3, I st, I (-1), .bool false]), (2, .cells ch.flatten), (3, .map (emap ls)), (4, .cells [.ptr 1 0, .map 5]), (5, .map (um s))]
def L24a (D : List AV) (n st : Nat) (ch : List (List AV)) (s : Nat) (p : List Nat) (m : Nat) (fr : Fr) (H : Heap) : Prop := ∃ k : Nat, k ≤ s ∧ m = s - k ∧ fr = [(0, .ptr 4 0), (3, .ptr 6 0), (6, I k)] ∧ H = ⟨7, bsl D n st ch [] s ++ [(6, .cells (p.map B))]⟩
def L24b (D : List AV) (n st : Nat) (ch : List (List AV)) (s : Nat) (xs : List (List Nat)) (m : Nat) (fr : Fr) (H : Heap) : Prop := ∃ i : Nat, i ≤ 6 ∧ m = 6 - i ∧ fr = [(0, .ptr 4 0), (6, I s), (34, .slice 6 0 6 none 64), (35, I (6 : Nat)), (36, I i)] ∧ H = ⟨7, bsl D n (st + i) ch (ents (6 * s) (xs.take i)) s ++ [(6, .cells (fl xs))]⟩
theorem lputF : ∀ {xs : List (List Nat)} {i off : Nat} {x : List Nat} {K : List AV → Prop}, (∀ y ∈ xs, y.length = 64) → x.length = 64 → off = i * 64 → i < xs.length → K (fl (xs.set i x)) → lputK (fl xs) off (x.map B) K
  | [], _, _, _, _, _, _, _, h, _ => by simp at h
  | y :: r, 0, off, x, K, hl, hx, e, _, hk => by
    subst e
    have e1 : fl (y :: r) = y.map B ++ fl r := rfl
    have e2 : fl ((y :: r).set 0 x) = x.map B ++ fl r := rfl
    have h1 := hl y (by simp)
    rw [e2] at hk
    rw [e1]
    refine lputK_eq (by simp; omega) (by rw [List.all_eq_true]; exact scal_bs x) ?_
    rw [Nat.zero_mul, List.take_zero, List.nil_append, Nat.zero_add, List.drop_append, List.drop_eq_nil_of_le (by simp; omega), List.nil_append, List.length_map, List.length_map, hx, h1, Nat.sub_self, List.drop_zero]
    exact hk
  | y :: r, i + 1, off, x, K, hl, hx, e, h, hk => by
    subst e
    have e1 : fl (y :: r) = y.map B ++ fl r := rfl
    have e2 : fl ((y :: r).set (i + 1) x) = y.map B ++ fl (r.set i x) := rfl
    have h1 := hl y (by simp)
    rw [e2] at hk
    rw [e1]
    have go : ∀ {l : List AV} {K : List AV → Prop}, lputK (fl r) (i * 64) (x.map B) (fun z => K (l ++ z)) → lputK (l ++ fl r) (l.length + i * 64) (x.map B) K := by
      intro l
      induction l with
      | nil => intro K h; simpa using h
      | cons a l ih =>
        intro K h
        have : (a :: l).length + i * 64 = (l.length + i * 64) + 1 := by simp; omega
        rw [this, List.cons_append, lputK]
        exact ih h
    have := go (l := y.map B) (K := K) (lputF (xs := r) (fun z hz => hl z (by simp [hz])) hx rfl (by simpa using h) hk)
    rwa [List.length_map, h1, show 64 + i * 64 = (i + 1) * 64 by omega] at this
theorem lputF0 {cs : List AV} {xs : List (List Nat)} {i off : Nat} {x : List Nat} {K : List AV → Prop} (ec : cs = fl xs) (hl : ∀ y ∈ xs, y.length = 64) (hx : x.length = 64) (e : off = i * 64) (hi : i < xs.length) (hk : K (fl (xs.set i x))) : lputK cs off (x.map B) K := by
  subst ec; exact lputF hl hx e hi hk
theorem noLocB_bs : ∀ (x : List Nat) (r : List AV), noLocB r = true → noLocB (x.map B ++ r) = true
  | [], _, h => h
  | a :: x, r, h => by
    show noLocB (B a :: (x.map B ++ r)) = true
    show (true && noLocB (x.map B ++ r)) = true
    rw [noLocB_bs x r h]; rfl
theorem noLocB_fl : ∀ xs : List (List Nat), noLocB (fl xs) = true
  | [] => rfl
  | x :: r => noLocB_bs x (fl r) (noLocB_fl r)
theorem noLocB_b (x : List Nat) : noLocB (x.map B) = true := by
  have := noLocB_bs x [] rfl
  rwa [List.append_nil] at this
theorem tkP0 {p : List Nat} {off : Nat} {K : List AV → Prop} (h : p.length = 128) (e : off = 0) (hk : K ((p.take 64).map B)) : takeK 64 ((p.map B).drop off) K := by
  subst e
  rw [List.drop_zero, takeK_eq _ _ _ (by simp [h]), ← List.map_take]; exact hk
theorem tkP1 {p : List Nat} {off : Nat} {K : List AV → Prop} (h : p.length = 128) (e : off = 64) (hk : K ((p.drop 64).map B)) : takeK 64 ((p.map B).drop off) K := by
  subst e
  rw [← List.map_drop, takeK_eq _ _ _ (by simp [h]), List.take_of_length_le (by simp [h])]; exact hk
theorem tkP {p : List Nat} {off : Nat} {K : List AV → Prop} (h : p.length = 128) (e : off = 0) (hk : K (p.map B)) : takeK 128 ((p.map B).drop off) K := by
  subst e
  rw [List.drop_zero, takeK_eq _ _ _ (by simp [h]), List.take_of_length_le (by simp [h])]; exact hk
theorem c24a (D : List AV) (n st : Nat) (ch : List (List AV)) (s : Nat) (p q : List Nat) (hD : ∀ c ∈ D, noLoc c = true) (hn : n ≤ 1000) (hs : 6 * s + 6 ≤ n) (hst : st ≤ 1000) (hO : ∀ ls, (∀ x ∈ ls, 6 * s ≤ x.1 ∧ x.1 < 6 * s + 6) → (ls.map (·.1)).Nodup → (∀ x ∈ ls, ∃ y : List Nat, y.length = 64 ∧ x.2 = y.map B) → OkS n ch ls)
    (hp : p.length = 128) (hq : q.length = 64) (h36 : CallA Tryd.prog 36 [I s, .agg (p.map B)] Heap.nil fun v H' => v = .agg (q.map B) ∧ H' = Heap.nil) :
    CallA Tryd.prog 24 [.ptr 4 0, .agg (p.map B)] (hL D n st ch [] s) fun v H' => v = .tuple [I s, I 0] ∧ H' = hL D n (st + 7) (fin ch (ents (6 * s) [p.take 64, p.drop 64, q, p.take 64, p.drop 64, q])) [] (s + 1) := by
  refine callA_of ok24 (Nat.le_of_ble_eq_true rfl) ?_
  have hcd : ∀ c ∈ ch.flatten, noLoc c = true := (hO [] (by simp) (by simp) (by simp)).dat
  repeat' ((conv => whnf); first
      | refine Branch.ofT rfl ?_
      | refine Branch.ofF rfl ?_
      | refine Branch.dec (fun h => ?_) (fun h => ?_)
      | refine Branch.negdec (fun h => ?_) (fun h => ?_)
      | refine Branch.neg (fun h => ?_) (fun h => ?_)
      | refine Branch.mk (fun h => ?_) (fun h => ?_)
      | (refine Side.mk ?_ ?_; · first | omega | decide)
      | (refine SideD.mk ?_ ?_; · first | omega | decide)
      | refine ⟨_, Nat.lt_succ_self _, To.refl (.inl ⟨rfl, ?_⟩)⟩
      | (refine Side.mk ?_ ?_; · (simp; done))
      | fail
      )
  all_goals (conv => whnf)
  refine ⟨L24a D n st ch s p, s, To.gc [(0, true), (1, false), (2, true), (3, true), (4, false), (5, true), (6, true)] [0, 3, 6] rfl ⟨hD, hcd, trivial, trivial, dat_bs p, trivial⟩ ⟨0, by omega, by omega, rfl, rfl⟩, ?_⟩
  rintro m fr H ⟨k, hk, rfl, rfl, rfl⟩
  by_cases hks : k < s
  · repeat' ((conv => whnf); first
        | refine Branch.ofT rfl ?_
        | refine Branch.ofF rfl ?_
        | refine Branch.dec (fun h => ?_) (fun h => ?_)
        | refine Branch.negdec (fun h => ?_) (fun h => ?_)
        | refine Branch.neg (fun h => ?_) (fun h => ?_)
        | refine Branch.mk (fun h => ?_) (fun h => ?_)
        | (refine Side.mk ?_ ?_; · first | omega | decide)
        | (refine SideD.mk ?_ ?_; · first | omega | decide)
        | refine ⟨_, Nat.lt_succ_self _, To.refl (.inl ⟨rfl, ?_⟩)⟩
        | refine MRes.mk ⟨_, mfind_um k s, ?_⟩
        | (rw [if_pos hks])
        | (refine Side.mk ?_ ?_; · (simp; done))
        | fail
        )
    all_goals (conv => whnf)
    exact ⟨s - (k + 1), by omega, To.gc [(0, true), (1, false), (2, true), (3, true), (4, false), (5, true), (6, true)] [0, 3, 6] rfl ⟨hD, hcd, trivial, trivial, dat_bs p, trivial⟩ ⟨k + 1, by omega, rfl, rfl, rfl⟩⟩
  · have hna : noLocL [I s, .agg (p.map B)] = true := by simp [noLocL, noLoc, noLocL_bs]
    have : k = s := by omega
    subst this
    have hx0 : (p.take 64).length = 64 := by simp [hp]
    have hx1 : (p.drop 64).length = 64 := by simp [hp]
    have hz3 : ∀ y ∈ [zb, zb, zb], y.length = 64 := by simp [zb]
    have hz3a : ∀ y ∈ [zb, zb, zb].set 0 (p.take 64), y.length = 64 := by simp [zb, hp]
    have hz3b : ∀ y ∈ ([zb, zb, zb].set 0 (p.take 64)).set 1 (p.drop 64), y.length = 64 := by simp [zb, hp]
    have hz3c : ∀ y ∈ (([zb, zb, zb].set 0 (p.take 64)).set 1 (p.drop 64)).set 2 q, y.length = 64 := by simp [hq, hp]
    repeat' ((conv => whnf); first
        | refine Branch.ofT rfl ?_
        | refine Branch.ofF rfl ?_
        | refine Branch.ofF (decide_eq_false (by omega)) ?_
        | refine Branch.dec (fun h => ?_) (fun h => ?_)
        | refine Branch.negdec (fun h => ?_) (fun h => ?_)
        | refine Branch.neg (fun h => ?_) (fun h => ?_)
        | refine Branch.mk (fun h => ?_) (fun h => ?_)
        | (refine Side.mk ?_ ?_; · first | omega | decide)
        | (refine SideD.mk ?_ ?_; · first | omega | decide)
        | refine ⟨_, Nat.lt_succ_self _, To.refl (.inl ⟨rfl, ?_⟩)⟩
        | refine MRes.mk ⟨_, mfind_um k k, ?_⟩
        | (rw [if_neg hks])
        | refine Side.mk (by rw [List.length_map, hp]; decide) ?_
        | refine tkP0 hp (by rfl) ?_
        | refine tkP1 hp (by rfl) ?_
        | refine tkP hp (by rfl) ?_
        | refine callA_of ok30 (Nat.le_of_ble_eq_true rfl) ?_
        | refine callA_of ok42 (Nat.le_of_ble_eq_true rfl) ?_
        | refine RetA.same ?_
        | refine QCallA.of h36 hna (noLocL_bs q) ?_
        | refine condT (by rw [List.length_map, hx0]; rfl) ?_
        | refine condT (by rw [List.length_map, hx1]; rfl) ?_
        | refine condT (by rw [List.length_map, hq]; rfl) ?_
        | refine lputF0 (xs := [zb, zb, zb]) (i := 0) (by rfl) hz3 hx0 (by rfl) (by simp) ?_
        | refine lputF (i := 1) hz3a hx1 (by rfl) (by simp) ?_
        | refine lputF (i := 2) hz3b hq (by rfl) (by simp) ?_
        | refine condT (noLocB_fl _) ?_
        | refine Side.mk (by rw [fl_len hz3c]; exact Nat.le_refl _) ?_
        | refine Side.mk ⟨by rfl, by rw [fl_len hz3c]; exact Nat.le_refl _, by unfold fits; omega, fun c hc => scal_fl _ c (List.mem_of_mem_take hc)⟩ ?_
        | (refine Side.mk ?_ ?_; · (simp; done))
        | fail
        )
    all_goals (conv => whnf)
    have hcells : List.take (3 * 64) (fl ((([zb, zb, zb].set 0 (p.take 64)).set 1 (p.drop 64)).set 2 q)) ++ List.take (3 * 64) (fl ((([zb, zb, zb].set 0 (p.take 64)).set 1 (p.drop 64)).set 2 q)) = fl [p.take 64, p.drop 64, q, p.take 64, p.drop 64, q] := by
      rw [List.take_of_length_le (by rw [fl_len hz3c]; exact Nat.le_refl _)]; simp [fl]
    obtain ⟨xs, hxs⟩ : ∃ xs, xs = [p.take 64, p.drop 64, q, p.take 64, p.drop 64, q] := ⟨_, rfl⟩
    have hxl : xs.length = 6 := by rw [hxs]; rfl
    have hx64 : ∀ x ∈ xs, x.length = 64 := by rw [hxs]; simp [hp, hq]
    rw [← hxs] at hcells ⊢
    refine ⟨L24b D n st ch k xs, 6, To.gc [(0, true), (1, false), (2, true), (3, true), (4, false), (5, true), (18, true)] [0, 6, 34, 35, 36] rfl ⟨hD, hcd, trivial, trivial, fun c hc => dat_fl xs c (by rw [← hcells]; exact hc), trivial⟩ ⟨0, by omega, by omega, rfl, by rw [← hcells]; rfl⟩, ?_⟩
    rintro m fr H ⟨i, hi, rfl, rfl, rfl⟩
    by_cases hi6 : i < 6
    · have hk1 : ∀ x ∈ ents (6 * k) (xs.take i), x.1 ≠ 6 * k + i := fun x hx => by
        have := (ents_key hx).2; simp at this; omega
      have hxi : xs[i].length = 64 := hx64 _ (List.getElem_mem _)
      have ht64 : List.take (1 * 64) (xs[i].map B) = xs[i].map B := List.take_of_length_le (by simp [hxi])
      repeat' ((conv => whnf); first
          | refine Branch.ofT rfl ?_
          | refine Branch.ofF rfl ?_
          | refine Branch.ofT (decide_eq_true (by omega)) ?_
          | refine Branch.ofF (decide_eq_false (by omega)) ?_
          | refine Branch.dec (fun h => ?_) (fun h => ?_)
          | refine Branch.negdec (fun h => ?_) (fun h => ?_)
          | refine Branch.neg (fun h => ?_) (fun h => ?_)
          | refine Branch.mk (fun h => ?_) (fun h => ?_)
          | (refine Side.mk ?_ ?_; · first | omega | decide)
          | (refine SideD.mk ?_ ?_; · first | omega | decide)
          | refine ⟨_, Nat.lt_succ_self _, To.refl (.inl ⟨rfl, ?_⟩)⟩
          | refine tkF (i := i) (by omega) hx64 (by omega) ?_
          | refine condT (by rw [List.length_map, hxi]; rfl) ?_
          | refine lputA (by rw [List.length_map, hxi]; rfl) (by rw [List.all_eq_true]; exact scal_bs _) ?_
          | refine tkBn hxi ?_
          | refine callA_of ok37 (Nat.le_of_ble_eq_true rfl) ?_
          | refine callA_of ok39 (Nat.le_of_ble_eq_true rfl) ?_
          | refine callA_of ok46 (Nat.le_of_ble_eq_true rfl) ?_
          | refine RetA.same ?_
          | refine MRes.mk ⟨_, mfind_e (k := 6 * k + i) (by omega) hk1, ?_⟩
          | refine MRes.mk ⟨_, mput_e (k := 6 * k + i) (by omega) hk1, ?_⟩
          | refine condT (noLocB_b _) ?_
          | refine Side.mk ⟨by rw [List.length_map, hxi]; decide, by unfold fits; omega, fun c hc => scal_bs _ c (List.mem_of_mem_take hc)⟩ ?_
          | (rw [ht64])
          | refine condT (by simp [noLoc, noLocL_bs, keyOk]; rfl) ?_
          | (refine Side.mk ?_ ?_; · (simp; done))
          | fail
          )
      all_goals (conv => whnf)
      have he : ents (6 * k) (xs.take (i + 1)) = ents (6 * k) (xs.take i) ++ [(6 * k + i, xs[i].map B)] := by
        rw [List.take_succ_eq_append_getElem (by omega), ents_app, List.length_take, Nat.min_eq_left (by omega)]
      exact ⟨6 - (i + 1), by omega, To.gc [(0, true), (1, false), (2, true), (3, true), (4, false), (5, true), (6, true)] [0, 6, 34, 35, 36] rfl ⟨hD, hcd, trivial, trivial, dat_fl xs, trivial⟩ ⟨i + 1, by omega, rfl, rfl, by rw [he]; rfl⟩⟩
    · have : i = 6 := by omega
      subst this
      have htx : xs.take 6 = xs := List.take_of_length_le (by omega)
      rw [htx]
      have hOk : OkS n ch (ents (6 * k) xs) := by
        refine hO _ (fun x hx => by have := ents_key hx; omega) ?_ ?_
        · rw [hxs]; simp [ents]; omega
        · intro x hx
          have : ∀ (a : Nat) (xs : List (List Nat)), (∀ x ∈ xs, x.length = 64) → ∀ x ∈ ents a xs, ∃ y : List Nat, y.length = 64 ∧ x.2 = y.map B := by
            intro a xs
            induction xs generalizing a with
            | nil => intro _ x hx; cases hx
            | cons y r ih =>
              intro hl x hx
              rcases List.mem_cons.1 hx with rfl | hx
              · exact ⟨y, hl y (by simp), rfl⟩
              · exact ih (a + 1) (fun z hz => hl z (by simp [hz])) x hx
          exact this _ xs hx64 x hx
      generalize hls : ents (6 * k) xs = ls at hOk ⊢
      repeat' ((conv => whnf); first
          | refine Branch.ofT rfl ?_
          | refine Branch.ofF rfl ?_
          | refine Branch.ofF (decide_eq_false (by omega)) ?_
          | refine Branch.dec (fun h => ?_) (fun h => ?_)
          | refine Branch.negdec (fun h => ?_) (fun h => ?_)
          | refine Branch.neg (fun h => ?_) (fun h => ?_)
          | refine Branch.mk (fun h => ?_) (fun h => ?_)
          | (refine Side.mk ?_ ?_; · first | omega | decide)
          | (refine SideD.mk ?_ ?_; · first | omega | decide)
          | refine ⟨_, Nat.lt_succ_self _, To.refl (.inl ⟨rfl, ?_⟩)⟩
          | refine sync_at (n := n) (st := st + 6) (ch := ch) (ls := ls) (kd := 1) (kc := 2) (km := 3) rfl rfl rfl rfl rfl rfl rfl rfl rfl (get_noit (by intro x hx; simp [bsl] at hx; rcases hx with rfl | rfl | rfl | rfl | rfl | rfl | rfl <;> trivial)) hOk (by omega) (by omega) ?_
          | refine MRes.mk ⟨_, mput_um k, ?_⟩
          | (refine Side.mk ?_ ?_; · (simp; done))
          | fail
          )
      all_goals (conv => whnf)
      exact RetA.gc [(0, true), (1, false), (2, true), (3, true), (4, false), (5, true)] rfl ⟨hD, hOk.all.dat, trivial, trivial, trivial⟩ ⟨rfl, rfl⟩
structure OkC (n : Nat) (ch : List (List AV)) : Prop where
  len : ch.length = n
  sz : ∀ c ∈ ch, c.length = 65 ∧ ∀ x ∈ c, noLoc x = true
theorem c24 (D : List AV) (n st : Nat) (ch : List (List AV)) (s : Nat) (p : List Nat) (hD : ∀ c ∈ D, noLoc c = true) (hn : n ≤ 1000) (hs : 6 * s + 6 ≤ n) (hs2 : s < 256) (hst : st ≤ 1000) (hO : OkC n ch) (hp : p.length = 128) (hpb : ∀ x ∈ p, x < 256) :
    CallA Tryd.prog 24 [.ptr 4 0, .agg (p.map B)] (hL D n st ch [] s) fun v H' => v = .tuple [I s, I 0] ∧ H' = hL D n (st + 7) (fin ch (ents (6 * s) [p.take 64, p.drop 64, sealN s p, p.take 64, p.drop 64, sealN s p])) [] (s + 1) := by
  refine c24a D n st ch s p (sealN s p) hD hn hs hst ?_ hp (by simp [sealN, dig_len]) (c36 s p hs2 hp hpb)
  intro ls h1 h2 h3
  refine ⟨hO.len, by omega, hO.sz, h2, fun x hx => by have := h1 x hx; omega, fun x hx => ?_⟩
  obtain ⟨y, hy, e⟩ := h3 x hx
  rw [e]
  exact ⟨by simp [hy], scal_bs y, dat_bs y⟩
end Go.Proofs

