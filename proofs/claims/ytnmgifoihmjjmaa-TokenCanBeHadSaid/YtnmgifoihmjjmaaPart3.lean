/- Part of a proof about the given program: lemmas that the other parts use. -/
import Derived.Test.YtnmgifoihmjjmaaPart2
import Derived.StillTail
import Derived.OpenShut
import Derived.JoinedOf
import Derived.Handed

set_option linter.all false
set_option linter.unusedSimpArgs false
set_option linter.unusedVariables false
namespace Go.Eng
open Go

/-! ### Regions that draw their order -/
/-- A call of a function of data, by its one result. -/
structure QCallA (P : Program) (f : FuncId) (vs : List AV) (K : AV → Prop) : Prop where
  ex : ∃ r, noLocL vs = true ∧ noLoc r = true ∧ CallA P f vs Heap.nil (fun v H' => v = r ∧ H' = Heap.nil) ∧ K r
theorem QCallA.of {P : Program} {f : FuncId} {vs : List AV} {r : AV} {K : AV → Prop} (h : CallA P f vs Heap.nil fun v H' => v = r ∧ H' = Heap.nil) (ha : noLocL vs = true) (hr : noLoc r = true) (hk : K r) : QCallA P f vs K := ⟨r, ha, hr, h, hk⟩

/-- What changes: places, with what is there then. -/
abbrev Ef := List (Nat × AB)
def efL (p : Nat) (ab : AB) : Option Nat → Ef
  | none => [(p, ab)]
  | some k => [(k, .dead), (p, ab)]
def HOp.q (ev : AX → AV) (η : Nat → AB) (p : Nat) (K : AV → Ef → Prop) : HOp → Prop
  | .load agg n x => match ev x with
    | .dptr cs => loadK agg n cs fun v => K v []
    | .ptr k off => match η k with
      | .cells cs => loadK agg n (cs.drop off) fun v => K v []
      | _ => False
    | _ => False
  | .alloc zero => K (.ptr p 0) [(p, .cells zero)]
  | .box x => match cellsOf (ev x) with
    | some cs => K (.ptr p 0) [(p, .cells cs)]
    | none => False
  | .store n q x => match ev q with
    | .ptr k off => match η k with
      | .cells cs => match cellsOf (ev x) with
        | some vs => bif Nat.beq vs.length n then lputK cs off vs fun cs' => K .any [(k, .cells cs')] else False
        | none => False
      | _ => False
    | _ => False
def HOp.foot (ev : AX → AV) : HOp → List Nat
  | .load _ _ x => (ev x).at
  | .store _ q _ => (ev q).at
  | _ => []

def MOp.q (ev : AX → AV) (η : Nat → AB) (K : AV → Ef → Prop) : MOp → Prop
  | .mk => False
  | .get ok kk zero m k => mapN η (ev m) fun _ es => bif keyOk kk (ev k) then MRes (mfind kk (ev k) es) fun r => K (mval ok zero r) [] else False
  | .set kk m k v => mapN η (ev m) fun p es => match p with
    | some p => bif keyOk kk (ev k) && noLoc (ev v) then MRes (mput kk (ev k) (ev v) es) fun es' => K .any [(p, .map es')] else False
    | none => False
  | .del kk m k => mapN η (ev m) fun p es => match p with
    | some p => bif keyOk kk (ev k) then MRes (mdel kk (ev k) es) fun es' => K (.tuple []) [(p, .map es')] else False
    | none => False
  | .range _ => False
  | .next _ => False
  | .entry _ => False
  | .len m => mapN η (ev m) fun _ es => K (.int .i64 es.length) []
def MOp.foot (ev : AX → AV) : MOp → List Nat
  | .mk => []
  | .get _ _ _ m _ => (ev m).at
  | .set _ m _ _ => (ev m).at
  | .del _ m _ => (ev m).at
  | .len m => (ev m).at
  | .range m => (ev m).at
  | .next it => (ev it).at
  | .entry it => (ev it).at
/-- An operation, over what is held, with a place p for what it makes. -/
def AOp.q (P : Program) (ev : AX → AV) (η : Nat → AB) (p : Nat) (K : AV → Ef → Prop) : AOp → Prop
  | .m o => o.q ev η K
  | .p o => o.run ev fun v => K v []
  | .v o => o.run ev fun v => K v []
  | .h o => o.q ev η p K
  | .d o => o.run ev η fun v => K v []
  | .l o => o.run ev η η p fun v cs kl => K v (efL p cs kl)
  | .call f args => fvs (args.map ev) fun vs => QCallA P f vs fun r => K r []
  | .callv x args => match ev x with
    | .func f caps => fvs (args.map ev) fun vs => QCallA P f (vs ++ caps) fun r => K r []
    | _ => False
/-- The places it looks at. -/
def AOp.foot (ev : AX → AV) : AOp → List Nat
  | .m o => o.foot ev
  | .h o => o.foot ev
  | .d o => o.foot ev
  | .l o => o.foot ev
  | _ => []

def layH (H : Heap) : Ef → Heap
  | [] => H
  | (k, x) :: r => layH (H.set k x) r

/-! #### What may stand in any order -/
structure En where
  i : Nat
  F : List Nat
  W : List Nat
def memN (k : Nat) : List Nat → Bool
  | [] => false
  | j :: r => Nat.beq k j || memN k r
def disj : List Nat → List Nat → Bool
  | [], _ => true
  | k :: r, l => !memN k l && disj r l
def memP (i j : Nat) : List (Nat × Nat) → Bool
  | [] => false
  | (a, b) :: r => (Nat.beq i a && Nat.beq j b) || memP i j r
def okEn (dep : List (Nat × Nat)) (e e' : En) : Bool := (disj e.W e'.F && disj e'.W e.F) || memP e.i e'.i dep || memP e'.i e.i dep
def okLog (dep : List (Nat × Nat)) (e' : En) : List En → Bool
  | [] => true
  | e :: r => okEn dep e e' && okLog dep e' r
def keys : Ef → List Nat
  | [] => []
  | (k, _) :: r => k :: keys r
def logK (dep : List (Nat × Nat)) (i : Nat) (F W : List Nat) (L : List En) (K : List En → Prop) : Prop := match F, W with
  | [], [] => K L
  | F, W => bif okLog dep ⟨i, F, W⟩ L then K (⟨i, F, W⟩ :: L) else False

def layK (K : Heap → Prop) (b : Ef) : Heap → Prop := List.rec (motive := fun _ => Heap → Prop) K (fun x _ ih H => match H with | ⟨nx, bs⟩ => ih ⟨nx, x :: bs⟩) b
theorem layK_eq (K : Heap → Prop) : ∀ (b : Ef) (H : Heap), layK K b H = K (layH H b)
  | [], _ => rfl
  | (k, x) :: r, ⟨nx, bs⟩ => layK_eq K r ⟨nx, (k, x) :: bs⟩
/-- The unordered part, in the order of the text. -/
def qstep (P : Program) (dep : List (Nat × Nat)) (q : AO) (next : Nat → Nat → List En → Fr → Heap → Prop) (i p : Nat) (L : List En) (fr : Fr) (H : Heap) : Prop :=
  q.op.q P (AX.ev fr) H.get p fun v b => logK dep i (q.op.foot (AX.ev fr)) (keys b) L fun L => putK fr q.dst v fun fr => layK (fun H => next (i + 1) (p + 1) L fr H) b H
noncomputable def qwalk (P : Program) (dep : List (Nat × Nat)) (K : Fr → Heap → Prop) (l : List AO) : Nat → Nat → List En → Fr → Heap → Prop :=
  List.rec (motive := fun _ => Nat → Nat → List En → Fr → Heap → Prop) (fun _ _ _ => K) (fun q _ ih i p L fr H => match q.guard with
    | none => qstep P dep q ih i p L fr H
    | some (s, want) => match look fr s with
      | .bool b => match want with
        | true => Branch b (qstep P dep q ih i p L ((s, .bool true) :: fr) H) (putK ((s, .bool false) :: fr) q.dst (.tuple []) fun fr => ih (i + 1) (p + 1) L fr H)
        | false => Branch b (putK ((s, .bool true) :: fr) q.dst (.tuple []) fun fr => ih (i + 1) (p + 1) L fr H) (qstep P dep q ih i p L ((s, .bool false) :: fr) H)
      | .tuple [] => putK fr q.dst (.tuple []) fun fr => ih (i + 1) (p + 1) L fr H
      | _ => False) l
theorem qwalk_cons (P : Program) (dep : List (Nat × Nat)) (K : Fr → Heap → Prop) (q : AO) (r : List AO) (i p : Nat) (L : List En) (fr : Fr) (H : Heap) : qwalk P dep K (q :: r) i p L fr H = match q.guard with
    | none => qstep P dep q (qwalk P dep K r) i p L fr H
    | some (s, want) => match look fr s with
      | .bool b => match want with
        | true => Branch b (qstep P dep q (qwalk P dep K r) i p L ((s, .bool true) :: fr) H) (putK ((s, .bool false) :: fr) q.dst (.tuple []) fun fr => qwalk P dep K r (i + 1) (p + 1) L fr H)
        | false => Branch b (putK ((s, .bool true) :: fr) q.dst (.tuple []) fun fr => qwalk P dep K r (i + 1) (p + 1) L fr H) (qstep P dep q (qwalk P dep K r) i p L ((s, .bool false) :: fr) H)
      | .tuple [] => putK fr q.dst (.tuple []) fun fr => qwalk P dep K r (i + 1) (p + 1) L fr H
      | _ => False := rfl

/-! #### The same over functions -/
abbrev Sg := Nat → AV
abbrev Et := Nat → AB
def AX.evs (σ : Sg) : AX → AV
  | .t n => σ n
  | .c v => v
theorem evs_look (fr : Fr) : AX.evs (look fr) = AX.ev fr := by funext x; cases x <;> rfl
def ups (σ : Sg) (d : Option Nat) (v : AV) : Sg := match d with
  | some t => fun u => if t = u then v else σ u
  | none => σ
def upe (η : Et) : Ef → Et
  | [] => η
  | (k, x) :: r => upe (fun j => if k = j then x else η j) r
theorem get_lay : ∀ (H : Heap) (b : Ef), (layH H b).get = upe H.get b
  | H, [] => rfl
  | H, (k, x) :: r => by
    simp only [layH, upe]
    rw [get_lay]
    congr 1
    funext j; rw [Heap.get_set]
theorem layH_nx : ∀ (H : Heap) (b : Ef), (layH H b).nx = H.nx
  | H, [] => rfl
  | H, (k, x) :: r => by simp only [layH]; rw [layH_nx]; rfl
theorem upe_off : ∀ {b : Ef} {η : Et} {j : Nat}, j ∉ keys b → upe η b j = η j
  | [], _, _, _ => rfl
  | (k, x) :: r, η, j, h => by
    simp only [keys, List.mem_cons, not_or] at h
    simp only [upe]
    rw [upe_off h.2, if_neg (fun e => h.1 e.symm)]
theorem upe_on : ∀ {b : Ef} {η η' : Et} {j : Nat}, (j ∈ keys b ∨ η j = η' j) → upe η b j = upe η' b j
  | [], _, _, _, h => by
    rcases h with h | h
    · simp [keys] at h
    · exact h
  | (k, x) :: r, η, η', j, h => by
    simp only [upe]
    refine upe_on ?_
    by_cases hk : k = j
    · exact .inr (by simp [hk])
    · rcases h with h | h
      · simp only [keys, List.mem_cons] at h
        rcases h with h | h
        · exact absurd h.symm hk
        · exact .inl h
      · exact .inr (by simp [hk, h])
theorem upe_swap {b b' : Ef} (h : ∀ k, k ∈ keys b → k ∈ keys b' → False) (η : Et) : upe (upe η b) b' = upe (upe η b') b := by
  funext j
  by_cases h1 : j ∈ keys b
  · rw [upe_off (fun h2 => h j h1 h2)]
    exact upe_on (.inl h1)
  · rw [upe_off (b := b) (η := upe η b') h1]
    exact upe_on (.inr (upe_off h1))
theorem memN_iff {k : Nat} : ∀ {l : List Nat}, memN k l = true ↔ k ∈ l
  | [] => by simp [memN]
  | j :: r => by simp only [memN, Bool.or_eq_true, List.mem_cons, memN_iff (l := r), Nat.beq_eq]
theorem disj_spec : ∀ {l r : List Nat}, disj l r = true → ∀ k, k ∈ l → k ∈ r → False
  | [], _, _, k, h, _ => by cases h
  | j :: l, r, h, k, h1, h2 => by
    simp only [disj, Bool.and_eq_true, Bool.not_eq_true'] at h
    rcases List.mem_cons.1 h1 with h1 | h1
    · subst h1; rw [memN_iff.2 h2] at h; exact absurd h.1 (by simp)
    · exact disj_spec h.2 k h1 h2
theorem memP_spec {i j : Nat} : ∀ {l : List (Nat × Nat)}, memP i j l = true → (i, j) ∈ l
  | [], h => by simp [memP] at h
  | (a, b) :: r, h => by
    simp only [memP, Bool.or_eq_true, Bool.and_eq_true, Nat.beq_eq] at h
    rcases h with ⟨rfl, rfl⟩ | h
    · simp
    · exact List.mem_cons_of_mem _ (memP_spec h)
theorem okLog_spec {dep : List (Nat × Nat)} {e' : En} : ∀ {L : List En}, okLog dep e' L = true → ∀ e ∈ L, okEn dep e e' = true
  | [], _, _, h => by cases h
  | x :: L, h, e, he => by
    simp only [okLog, Bool.and_eq_true] at h
    rcases List.mem_cons.1 he with rfl | he
    · exact h.1
    · exact okLog_spec h.2 e he
theorem okEn_symm {dep : List (Nat × Nat)} {e e' : En} (h : okEn dep e e' = true) : okEn dep e' e = true := by
  simp only [okEn, Bool.or_eq_true, Bool.and_eq_true] at h ⊢
  rcases h with (⟨h1, h2⟩ | h) | h
  · exact .inl (.inl ⟨h2, h1⟩)
  · exact .inr h
  · exact .inl (.inr h)
theorem disj_nil (l : List Nat) : disj l [] = true := by
  induction l with
  | nil => rfl
  | cons k r ih => simp [disj, memN, ih]
theorem okEn_idle {dep : List (Nat × Nat)} {e e' : En} (h : e.F = [] ∧ e.W = []) : okEn dep e e' = true := by
  simp only [okEn, h.1, h.2, disj_nil, disj, Bool.and_self, Bool.true_or]
theorem logK_spec {dep : List (Nat × Nat)} {i : Nat} {F W : List Nat} {L : List En} {K : List En → Prop} (h : logK dep i F W L K) : (F = [] ∧ W = [] ∧ K L) ∨ ((∀ e ∈ L, okEn dep e ⟨i, F, W⟩ = true) ∧ K (⟨i, F, W⟩ :: L)) := by
  unfold logK at h
  split at h
  · exact .inl ⟨rfl, rfl, h⟩
  · cases hc : okLog dep ⟨i, F, W⟩ L with
    | true => rw [hc] at h; exact .inr ⟨okLog_spec hc, h⟩
    | false => rw [hc] at h; exact h.elim

theorem look_put (fr : Fr) (d : Option Nat) (v : AV) : look (put fr d v) = ups (look fr) d v := by
  cases d with
  | none => rfl
  | some t =>
    funext u
    simp only [put, look, ups]
    by_cases h : t = u
    · subst h; simp
    · rw [beq_false h, if_neg h]; rfl
theorem look_know {fr : Fr} {s : Nat} {b c : Bool} (h : look fr s = .bool b) (hb : b = c) : look ((s, .bool c) :: fr) = look fr := by
  funext u
  simp only [look]
  by_cases hu : s = u
  · subst hu; subst hb; simp [h]
  · rw [beq_false hu]; rfl

theorem HOp.q_det {ev : AX → AV} {η : Et} {p : Nat} {K : AV → Ef → Prop} {o : HOp} (h : o.q ev η p K) : ∃ v b, K v b ∧ (∀ k ∈ keys b, k ∈ o.foot ev ∨ k = p) ∧ o.q ev η p (fun v' b' => v' = v ∧ b' = b) := by
  cases o with
  | load agg n x =>
    simp only [HOp.q] at h ⊢
    have ld : ∀ cs, loadK agg n cs (fun v => K v []) → ∃ v b, K v b ∧ (∀ k ∈ keys b, k ∈ (HOp.load agg n x).foot ev ∨ k = p) ∧ loadK agg n cs (fun v' => v' = v ∧ [] = b) := by
      intro cs h
      rcases loadK_spec h with ⟨rfl, hn, hk⟩ | ⟨rfl, c, r, rfl, hk⟩
      · exact ⟨_, [], hk, (by simp [keys]), by simp only [loadK, takeK_eq n cs _ hn, and_self]⟩
      · exact ⟨_, [], hk, (by simp [keys]), by simp only [loadK_false, fv_eq, and_self]⟩
    split at h
    · exact ld _ h
    · split at h
      · exact ld _ h
      · exact h.elim
    · exact h.elim
  | alloc zero => exact ⟨_, _, h, by simp [keys], rfl, rfl⟩
  | box x =>
    simp only [HOp.q] at h ⊢
    split at h
    · exact ⟨_, _, h, by simp [keys], rfl, rfl⟩
    · exact h.elim
  | store n q x =>
    simp only [HOp.q] at h ⊢
    split at h
    · rename_i k off hq
      split at h
      · split at h
        · rename_i vs hvs
          cases hn : Nat.beq vs.length n with
          | false => simp [hn] at h
          | true =>
            simp only [hn, cond_true] at h ⊢
            obtain ⟨e1, e2, e3⟩ := lputK_spec h
            exact ⟨_, _, e3, by simp [keys, HOp.foot, hq, AV.at], lputK_eq e1 e2 ⟨rfl, rfl⟩⟩
        · exact h.elim
      · exact h.elim
    · exact h.elim
theorem HOp.q_local {ev : AX → AV} {η η' : Et} {p : Nat} {K : AV → Ef → Prop} {o : HOp} (h : ∀ k ∈ o.foot ev, η k = η' k) : o.q ev η p K = o.q ev η' p K := by
  cases o with
  | load agg n x =>
    simp only [HOp.q]
    split
    · rfl
    · rename_i k off hx
      rw [h k (by simp [HOp.foot, hx, AV.at])]
    · rfl
  | alloc zero => rfl
  | box x => rfl
  | store n q x =>
    simp only [HOp.q]
    split
    · rename_i k off hx
      rw [h k (by simp [HOp.foot, hx, AV.at])]
    · rfl

theorem MOp.q_det {ev : AX → AV} {η : Et} {p : Nat} {K : AV → Ef → Prop} {o : MOp} (h : o.q ev η K) : ∃ v b, K v b ∧ (∀ k ∈ keys b, k ∈ o.foot ev ∨ k = p) ∧ o.q ev η (fun v' b' => v' = v ∧ b' = b) := by
  cases o with
  | mk => exact h.elim
  | get ok kk zero m k =>
    simp only [MOp.q] at h ⊢
    rcases mapN_spec h with ⟨hm, h⟩ | ⟨q, es, hm, hes, h⟩
    · cases hk : keyOk kk (ev k) <;> simp only [hk, cond_true, cond_false] at h
      obtain ⟨r, hr, hK⟩ := h.ex
      exact ⟨_, _, hK, by simp [keys], by simp only [hm, mapN, hk, cond_true]; exact ⟨r, hr, by simp⟩⟩
    · cases hk : keyOk kk (ev k) <;> simp only [hk, cond_true, cond_false] at h
      obtain ⟨r, hr, hK⟩ := h.ex
      exact ⟨_, _, hK, by simp [keys], by simp only [hm, mapN, hes, hk, cond_true]; exact ⟨r, hr, by simp⟩⟩
  | set kk m k v =>
    simp only [MOp.q] at h ⊢
    rcases mapN_spec h with ⟨hm, h⟩ | ⟨q, es, hm, hes, h⟩
    · exact h.elim
    · simp only at h
      cases hk : (keyOk kk (ev k) && noLoc (ev v)) <;> simp only [hk, cond_true, cond_false] at h
      obtain ⟨r, hr, hK⟩ := h.ex
      exact ⟨_, _, hK, by simp [keys, MOp.foot, hm, AV.at], by simp only [hm, mapN, hes, hk, cond_true]; exact ⟨r, hr, by simp⟩⟩
  | del kk m k =>
    simp only [MOp.q] at h ⊢
    rcases mapN_spec h with ⟨hm, h⟩ | ⟨q, es, hm, hes, h⟩
    · exact h.elim
    · simp only at h
      cases hk : keyOk kk (ev k) <;> simp only [hk, cond_true, cond_false] at h
      obtain ⟨r, hr, hK⟩ := h.ex
      exact ⟨_, _, hK, by simp [keys, MOp.foot, hm, AV.at], by simp only [hm, mapN, hes, hk, cond_true]; exact ⟨r, hr, by simp⟩⟩
  | range m => exact h.elim
  | next m => exact h.elim
  | entry m => exact h.elim
  | len m =>
    simp only [MOp.q] at h ⊢
    rcases mapN_spec h with ⟨hm, h⟩ | ⟨q, es, hm, hes, h⟩
    · exact ⟨_, _, h, by simp [keys], by simp [hm, mapN]⟩
    · exact ⟨_, _, h, by simp [keys], by simp [hm, mapN, hes]⟩
theorem mapN_local {η η' : Nat → AB} {m : AV} {K : Option Nat → List (AV × AV) → Prop} (h : ∀ k ∈ m.at, η k = η' k) : mapN η m K = mapN η' m K := by
  unfold mapN
  split
  · rfl
  · rw [h _ (by simp [AV.at])]
  · rfl
theorem MOp.q_local {ev : AX → AV} {η η' : Et} {K : AV → Ef → Prop} {o : MOp} (h : ∀ k ∈ o.foot ev, η k = η' k) : o.q ev η K = o.q ev η' K := by
  cases o with
  | mk => rfl
  | get ok kk zero m k => simp only [MOp.q]; exact mapN_local h
  | set kk m k v => simp only [MOp.q]; exact mapN_local h
  | del kk m k => simp only [MOp.q]; exact mapN_local h
  | range m => rfl
  | next m => rfl
  | entry m => rfl
  | len m => simp only [MOp.q]; exact mapN_local h
theorem AOp.q_det {P : Program} {ev : AX → AV} {η : Et} {p : Nat} {K : AV → Ef → Prop} {o : AOp} (h : o.q P ev η p K) : ∃ v b, K v b ∧ (∀ k ∈ keys b, k ∈ o.foot ev ∨ k = p) ∧ o.q P ev η p (fun v' b' => v' = v ∧ b' = b) := by
  cases o with
  | m o => exact MOp.q_det h
  | p o =>
    simp only [AOp.q] at h
    obtain ⟨c, h1, h2⟩ := POp.det h
    refine ⟨c, [], h1, by simp [keys], ?_⟩
    simp only [AOp.q, and_true]
    exact h2
  | v o =>
    simp only [AOp.q] at h
    obtain ⟨c, h1, h2⟩ := VOp.det h
    refine ⟨c, [], h1, by simp [keys], ?_⟩
    simp only [AOp.q, and_true]
    exact h2
  | h o => exact HOp.q_det h
  | d o =>
    simp only [AOp.q] at h
    obtain ⟨c, h1, h2⟩ := DOp.det h
    refine ⟨c, [], h1, by simp [keys], ?_⟩
    simp only [AOp.q, and_true]
    exact h2
  | l o =>
    simp only [AOp.q] at h
    obtain ⟨v, cs, kl, h1, h3, h2⟩ := LOp.det h
    refine ⟨v, efL p cs kl, h1, ?_, ?_⟩
    · cases kl with
      | none => simp [efL, keys]
      | some k =>
        have h4 := (h3 k rfl).2
        simp only [efL, keys, List.mem_cons, List.not_mem_nil, or_false]
        rintro j (rfl | rfl)
        · exact .inl h4
        · exact .inr rfl
    · simp only [AOp.q]
      have mono : ∀ {K K' : AV → AB → Option Nat → Prop}, (∀ a b c, K a b c → K' a b c) → LOp.run ev η η p K o → LOp.run ev η η p K' o := fun hk h => LOp.mono hk h
      exact mono (fun a b c ⟨e1, e2, e3⟩ => by subst e1; subst e2; subst e3; exact ⟨rfl, rfl⟩) h2
  | call f args =>
    simp only [AOp.q, fvs_eq] at h ⊢
    obtain ⟨r, h1, h2, h3, h4⟩ := h.ex
    exact ⟨r, [], h4, (by simp [keys]), r, h1, h2, h3, rfl, rfl⟩
  | callv x args =>
    simp only [AOp.q, fvs_eq] at h ⊢
    split at h
    · obtain ⟨r, h1, h2, h3, h4⟩ := h.ex
      exact ⟨r, [], h4, (by simp [keys]), r, h1, h2, h3, rfl, rfl⟩
    · exact h.elim
theorem LOp.noit {ev : AX → AV} {cur Hr : Nat → AB} {p : Nat} {K : AV → AB → Option Nat → Prop} {o : LOp} (h : o.run ev cur Hr p K) : ∃ v ab kl, K v ab kl ∧ ab.isIt = false := by
  cases o with
  | bslice e len zero parts =>
    simp only [LOp.run] at h
    obtain ⟨ds, h1, _⟩ := buildK_det h
    exact ⟨_, _, _, h1, rfl⟩
  | append e bytes s x =>
    simp only [LOp.run] at h
    unfold appN at h
    split at h
    · simp only [appK] at h
      split at h
      · obtain ⟨ds, n, h1, _⟩ := srcK_det h
        exact ⟨_, _, _, h1.r, rfl⟩
      · exact h.elim
    · obtain ⟨ds, n, h1, _⟩ := srcK_det h
      by_cases hn : n = 0
      · exact ⟨_, _, _, h1.yes (by simpa using hn), rfl⟩
      · exact ⟨_, _, _, (h1.no (by simpa using hn)).r, rfl⟩
    · obtain ⟨ds, n, h1, _⟩ := srcK_det h
      by_cases hn : n = 0
      · exact ⟨_, _, _, h1.yes (by simpa using hn), rfl⟩
      · exact ⟨_, _, _, (h1.no (by simpa using hn)).r, rfl⟩
    · exact h.elim
theorem AOp.q_noit {P : Program} {ev : AX → AV} {η : Et} {p : Nat} {o : AOp} {v : AV} {b : Ef} (h : o.q P ev η p (fun v' b' => v' = v ∧ b' = b)) : ∀ x ∈ b, x.2.isIt = false := by
  have nil : [] = b → ∀ x ∈ b, x.2.isIt = false := fun e x hx => by subst e; cases hx
  have one : ∀ {k : Nat} {ab : AB}, [(k, ab)] = b → ab.isIt = false → ∀ x ∈ b, x.2.isIt = false := fun e h2 x hx => by subst e; simp at hx; subst hx; exact h2
  cases o with
  | m o =>
    simp only [AOp.q] at h
    cases o with
    | mk => exact h.elim
    | get ok kk zero m k =>
      simp only [MOp.q] at h
      rcases mapN_spec h with ⟨hm, h⟩ | ⟨q, es, hm, hes, h⟩
      · cases hk : keyOk kk (ev k) <;> simp only [hk, cond_true, cond_false] at h
        obtain ⟨r, hr, hK⟩ := h.ex
        exact nil hK.2
      · cases hk : keyOk kk (ev k) <;> simp only [hk, cond_true, cond_false] at h
        obtain ⟨r, hr, hK⟩ := h.ex
        exact nil hK.2
    | set kk m k v =>
      simp only [MOp.q] at h
      rcases mapN_spec h with ⟨hm, h⟩ | ⟨q, es, hm, hes, h⟩
      · exact h.elim
      · simp only at h
        cases hk : (keyOk kk (ev k) && noLoc (ev v)) <;> simp only [hk, cond_true, cond_false] at h
        obtain ⟨r, hr, hK⟩ := h.ex
        exact one hK.2 rfl
    | del kk m k =>
      simp only [MOp.q] at h
      rcases mapN_spec h with ⟨hm, h⟩ | ⟨q, es, hm, hes, h⟩
      · exact h.elim
      · simp only at h
        cases hk : keyOk kk (ev k) <;> simp only [hk, cond_true, cond_false] at h
        obtain ⟨r, hr, hK⟩ := h.ex
        exact one hK.2 rfl
    | len m =>
      simp only [MOp.q] at h
      rcases mapN_spec h with ⟨hm, h⟩ | ⟨q, es, hm, hes, h⟩
      · exact nil h.2
      · exact nil h.2
    | range m => exact h.elim
    | next m => exact h.elim
    | entry m => exact h.elim
  | p o => simp only [AOp.q] at h; obtain ⟨c, h1, _⟩ := POp.det h; exact nil h1.2
  | v o => simp only [AOp.q] at h; obtain ⟨c, h1, _⟩ := VOp.det h; exact nil h1.2
  | h o =>
    simp only [AOp.q] at h
    cases o with
    | load agg n x =>
      have ld : ∀ cs, loadK agg n cs (fun v' => v' = v ∧ [] = b) → [] = b := by
        intro cs h
        rcases loadK_spec h with ⟨_, _, hk⟩ | ⟨_, c, r, _, hk⟩
        · exact hk.2
        · exact hk.2
      simp only [HOp.q] at h
      split at h
      · exact nil (ld _ h)
      · split at h
        · exact nil (ld _ h)
        · exact h.elim
      · exact h.elim
    | alloc zero => simp only [HOp.q] at h; exact one h.2 rfl
    | box x =>
      simp only [HOp.q] at h
      split at h
      · exact one h.2 rfl
      · exact h.elim
    | store n q x =>
      simp only [HOp.q] at h
      split at h
      · split at h
        · split at h
          · rename_i vs hvs
            cases hn : Nat.beq vs.length n with
            | false => simp [hn] at h
            | true =>
              simp only [hn, cond_true] at h
              obtain ⟨e1, e2, e3⟩ := lputK_spec h
              exact one e3.2 rfl
          · exact h.elim
        · exact h.elim
      · exact h.elim
  | d o => simp only [AOp.q] at h; obtain ⟨c, h1, _⟩ := DOp.det h; exact nil h1.2
  | l o =>
    simp only [AOp.q] at h
    obtain ⟨v, ab, kl, ⟨_, e⟩, h2⟩ := LOp.noit h
    intro x hx
    subst e
    cases kl with
    | none => simp [efL] at hx; subst hx; exact h2
    | some k => simp [efL] at hx; rcases hx with rfl | rfl <;> first | rfl | exact h2
  | call f args =>
    simp only [AOp.q, fvs_eq] at h
    obtain ⟨r, _, _, _, h4⟩ := h.ex
    exact nil h4.2
  | callv x args =>
    simp only [AOp.q, fvs_eq] at h
    split at h
    · obtain ⟨r, _, _, _, h4⟩ := h.ex; exact nil h4.2
    · exact h.elim
theorem AOp.q_local {P : Program} {ev : AX → AV} {η η' : Et} {p : Nat} {K : AV → Ef → Prop} {o : AOp} (h : ∀ k ∈ o.foot ev, η k = η' k) : o.q P ev η p K = o.q P ev η' p K := by
  cases o with
  | m o => exact MOp.q_local h
  | h o => exact HOp.q_local h
  | d o => simp only [AOp.q]; exact DOp.local h
  | l o => simp only [AOp.q]; exact LOp.local h
  | _ => rfl

/-- The guard says no. -/
def Off (a : AV) (want : Bool) : Prop := (∃ c, a = .bool c ∧ c ≠ want) ∨ a = .tuple []
/-- What an operation yields here: or it is passed over. -/
def YA (P : Program) (q : AO) (p : Nat) (σ : Sg) (η : Et) (v : AV) (b : Ef) (F : List Nat) : Prop :=
  ((q.guard = none ∨ ∃ s want, q.guard = some (s, want) ∧ σ s = .bool want) ∧ (q.op.q P (AX.evs σ) η p fun v' b' => v' = v ∧ b' = b) ∧ F = q.op.foot (AX.evs σ)) ∨
  ((∃ s want, q.guard = some (s, want) ∧ Off (σ s) want) ∧ v = .tuple [] ∧ b = [] ∧ F = [])
theorem YA.keys {P : Program} {q : AO} {p : Nat} {σ : Sg} {η : Et} {v : AV} {b : Ef} {F : List Nat} (h : YA P q p σ η v b F) : ∀ k ∈ keys b, k ∈ F ∨ k = p := by
  rcases h with ⟨_, h, rfl⟩ | ⟨_, _, rfl, _⟩
  · obtain ⟨v', b', ⟨rfl, rfl⟩, h2, _⟩ := AOp.q_det h
    exact h2
  · intro k hk; cases hk
theorem YA.local {P : Program} {q : AO} {p : Nat} {σ : Sg} {η η' : Et} {v : AV} {b : Ef} {F : List Nat} (h : YA P q p σ η v b F) (he : ∀ k ∈ F, η k = η' k) : YA P q p σ η' v b F := by
  rcases h with ⟨h1, h2, h3⟩ | h
  · exact .inl ⟨h1, by rw [← AOp.q_local (η := η) (by rw [← h3]; exact he)]; exact h2, h3⟩
  · exact .inr h
def qOp (P : Program) (dep : List (Nat × Nat)) (q : AO) (i p : Nat) (K : List En → Sg → Et → Prop) (L : List En) (σ : Sg) (η : Et) : Prop :=
  ∃ v b F, YA P q p σ η v b F ∧ (∀ e ∈ L, okEn dep e ⟨i, F, keys b⟩ = true) ∧ K (⟨i, F, keys b⟩ :: L) (ups σ q.dst v) (upe η b)

def wpQ (P : Program) (dep : List (Nat × Nat)) (T : Sg → Et → Prop) : List AO → Nat → Nat → List En → Sg → Et → Prop
  | [], _, _, _, σ, η => T σ η
  | q :: r, i, p, L, σ, η => qOp P dep q i p (wpQ P dep T r (i + 1) (p + 1)) L σ η

theorem wpQ_of_walk {P : Program} {dep : List (Nat × Nat)} {K : Fr → Heap → Prop} {nx : Nat} : ∀ (l : List AO) (i p : Nat) (Lw L : List En) (fr : Fr) (H : Heap), H.nx = nx → (∀ e ∈ L, e ∈ Lw ∨ (e.F = [] ∧ e.W = [])) → qwalk P dep K l i p Lw fr H →
    wpQ P dep (fun σ η => ∃ fr H, look fr = σ ∧ H.get = η ∧ H.nx = nx ∧ K fr H) l i p L (look fr) H.get
  | [], _, _, _, _, fr, H, hnx, _, h => ⟨fr, H, rfl, rfl, hnx, h⟩
  | q :: r, i, p, Lw, L, fr, H, hnx, hL, h => by
    have yes : ∀ fr' (_ : look fr' = look fr) (_ : q.guard = none ∨ ∃ s want, q.guard = some (s, want) ∧ look fr s = .bool want), (q.op.q P (AX.ev fr') H.get p fun v b => logK dep i (q.op.foot (AX.ev fr')) (keys b) Lw fun Lw => qwalk P dep K r (i + 1) (p + 1) Lw (put fr' q.dst v) (layH H b)) →
        wpQ P dep (fun σ η => ∃ fr H, look fr = σ ∧ H.get = η ∧ H.nx = nx ∧ K fr H) (q :: r) i p L (look fr) H.get := by
      intro fr' he hg hq
      obtain ⟨v, b, hk, hkeys, hd⟩ := AOp.q_det hq
      have go : ∀ Lw', (∀ e ∈ (⟨i, q.op.foot (AX.ev fr'), keys b⟩ :: L : List En), e ∈ Lw' ∨ (e.F = [] ∧ e.W = [])) → (∀ e ∈ L, okEn dep e ⟨i, q.op.foot (AX.ev fr'), keys b⟩ = true) → qwalk P dep K r (i + 1) (p + 1) Lw' (put fr' q.dst v) (layH H b) →
          wpQ P dep (fun σ η => ∃ fr H, look fr = σ ∧ H.get = η ∧ H.nx = nx ∧ K fr H) (q :: r) i p L (look fr) H.get := by
        intro Lw' h1 h2 h3
        refine ⟨v, b, q.op.foot (AX.ev fr'), .inl ⟨hg, by rw [← he, evs_look]; exact hd, by rw [← he, evs_look]⟩, h2, ?_⟩
        have := wpQ_of_walk r (i + 1) (p + 1) Lw' _ _ (layH H b) ((layH_nx H b).trans hnx) h1 h3
        rw [look_put, get_lay, he] at this
        exact this
      rcases logK_spec hk with ⟨h1, h2, h3⟩ | ⟨h1, h3⟩
      · refine go Lw (fun e he => ?_) (fun e _ => okEn_symm (okEn_idle ⟨h1, h2⟩)) h3
        rcases List.mem_cons.1 he with rfl | he
        · exact .inr ⟨h1, h2⟩
        · exact hL e he
      · refine go _ (fun e he => ?_) (fun e he => ?_) h3
        · rcases List.mem_cons.1 he with rfl | he
          · exact .inl List.mem_cons_self
          · exact (hL e he).imp (List.mem_cons_of_mem _) id
        · rcases hL e he with he | he
          · exact h1 e he
          · exact okEn_idle he
    have no : ∀ fr' (_ : look fr' = look fr), (∃ s want, q.guard = some (s, want) ∧ Off (look fr s) want) → qwalk P dep K r (i + 1) (p + 1) Lw (put fr' q.dst (.tuple [])) H →
        wpQ P dep (fun σ η => ∃ fr H, look fr = σ ∧ H.get = η ∧ H.nx = nx ∧ K fr H) (q :: r) i p L (look fr) H.get := by
      intro fr' he hg hq
      refine ⟨.tuple [], [], [], .inr ⟨hg, rfl, rfl, rfl⟩, fun e _ => okEn_symm (okEn_idle ⟨rfl, rfl⟩), ?_⟩
      have := wpQ_of_walk r (i + 1) (p + 1) Lw (⟨i, [], []⟩ :: L) _ H hnx (fun e he => by
        rcases List.mem_cons.1 he with rfl | he
        · exact .inr ⟨rfl, rfl⟩
        · exact hL e he) hq
      rw [look_put, he] at this
      exact this
    rw [qwalk_cons] at h
    simp only [qstep, layK_eq, putK_eq] at h
    split at h
    · exact yes fr rfl (.inl ‹_›) h
    · rename_i s want hg
      split at h
      · rename_i b hb
        cases want with
        | true =>
          simp only at h
          cases b with
          | true => exact yes _ (look_know hb rfl) (.inr ⟨s, true, hg, hb⟩) (h.yes rfl)
          | false => exact no _ (look_know hb rfl) ⟨s, true, hg, .inl ⟨false, hb, by simp⟩⟩ (h.no rfl)
        | false =>
          simp only at h
          cases b with
          | true => exact no _ (look_know hb rfl) ⟨s, false, hg, .inl ⟨true, hb, by simp⟩⟩ (h.yes rfl)
          | false => exact yes _ (look_know hb rfl) (.inr ⟨s, false, hg, hb⟩) (h.no rfl)
      · rename_i hs
        exact no fr rfl ⟨s, want, hg, .inr hs⟩ h
      · exact h.elim

/-! #### What an operation reads -/
def POp.xs : POp → List AX
  | .mov x | .un _ x | .conv _ x | .convw _ x | .fieldA _ x | .len _ x | .extract _ x | .nilchk x => [x]
  | .pick c a b => [c, a, b]
  | .bin _ x y | .beq _ x y | .binw _ x y | .idxA _ _ x y | .mm _ x y => [x, y]
  | .mkfn _ caps => caps
  | .other => []
def HOp.xs : HOp → List AX
  | .load _ _ x | .box x => [x]
  | .alloc _ => []
  | .store _ p x => [p, x]
def MOp.xs : MOp → List AX
  | .mk => []
  | .get _ _ _ m k => [m, k]
  | .set _ m k v => [m, k, v]
  | .del _ m k => [m, k]
  | .len m => [m]
  | .range m => [m]
  | .next m => [m]
  | .entry m => [m]
def AOp.xs : AOp → List AX
  | .m o => o.xs
  | .p o => o.xs
  | .v o => o.xs
  | .h o => o.xs
  | .d o => o.xs
  | .l o => o.xs
  | .call _ args => args
  | .callv x args => x :: args
def AX.is (d : Nat) : AX → Bool
  | .t n => n == d
  | .c _ => false
def AO.reads (q : AO) (d : Nat) : Bool := q.op.xs.any (AX.is d) || (match q.guard with | some (s, _) => s == d | none => false)
theorem POp.run_congr {ev ev' : AX → AV} {K : AV → Prop} {o : POp} (h : ∀ x ∈ o.xs, ev x = ev' x) : o.run ev K = o.run ev' K := by
  cases o with
  | mkfn f caps =>
    have h : ∀ x ∈ caps, ev x = ev' x := h
    simp only [POp.run]; rw [List.map_congr_left (f := ev) (g := ev') h]
  | pick c a b => simp only [POp.xs, List.mem_cons, List.not_mem_nil, or_false] at h; simp only [POp.run, h c (.inl rfl), h a (.inr (.inl rfl)), h b (.inr (.inr rfl))]
  | bin op x y => simp only [POp.xs, List.mem_cons, List.not_mem_nil, or_false] at h; simp only [POp.run, h x (.inl rfl), h y (.inr rfl)]
  | beq neg x y => simp only [POp.xs, List.mem_cons, List.not_mem_nil, or_false] at h; simp only [POp.run, h x (.inl rfl), h y (.inr rfl)]
  | binw op x y => simp only [POp.xs, List.mem_cons, List.not_mem_nil, or_false] at h; simp only [POp.run, h x (.inl rfl), h y (.inr rfl)]
  | idxA e arr x y => simp only [POp.xs, List.mem_cons, List.not_mem_nil, or_false] at h; simp only [POp.run, h x (.inl rfl), h y (.inr rfl)]
  | mm mx x y => simp only [POp.xs, List.mem_cons, List.not_mem_nil, or_false] at h; simp only [POp.run, h x (.inl rfl), h y (.inr rfl)]
  | other => rfl
  | mov x => simp only [POp.xs, List.mem_singleton, forall_eq] at h; simp only [POp.run, h]
  | un op x => simp only [POp.xs, List.mem_singleton, forall_eq] at h; simp only [POp.run, h]
  | conv k x => simp only [POp.xs, List.mem_singleton, forall_eq] at h; simp only [POp.run, h]
  | convw k x => simp only [POp.xs, List.mem_singleton, forall_eq] at h; simp only [POp.run, h]
  | fieldA off x => simp only [POp.xs, List.mem_singleton, forall_eq] at h; simp only [POp.run, h]
  | len str x => simp only [POp.xs, List.mem_singleton, forall_eq] at h; simp only [POp.run, h]
  | extract i x => simp only [POp.xs, List.mem_singleton, forall_eq] at h; simp only [POp.run, h]
  | nilchk x => simp only [POp.xs, List.mem_singleton, forall_eq] at h; simp only [POp.run, h]
theorem HOp.q_congr {ev ev' : AX → AV} {η : Et} {p : Nat} {K : AV → Ef → Prop} {o : HOp} (h : ∀ x ∈ o.xs, ev x = ev' x) : o.q ev η p K = o.q ev' η p K ∧ o.foot ev = o.foot ev' := by
  cases o with
  | load agg n x => simp only [HOp.xs, List.mem_singleton, forall_eq] at h; simp only [HOp.q, HOp.foot, h, and_self]
  | alloc zero => exact ⟨rfl, rfl⟩
  | box x => simp only [HOp.xs, List.mem_singleton, forall_eq] at h; simp only [HOp.q, HOp.foot, h, and_self]
  | store n q x => simp only [HOp.xs, List.mem_cons, List.not_mem_nil, or_false] at h; simp only [HOp.q, HOp.foot, h q (.inl rfl), h x (.inr rfl), and_self]
theorem MOp.q_congr {ev ev' : AX → AV} {η : Et} {K : AV → Ef → Prop} {o : MOp} (h : ∀ x ∈ o.xs, ev x = ev' x) : o.q ev η K = o.q ev' η K ∧ o.foot ev = o.foot ev' := by
  cases o with
  | mk => exact ⟨rfl, rfl⟩
  | get ok kk zero m k => simp only [MOp.xs, List.mem_cons, List.not_mem_nil, or_false] at h; simp only [MOp.q, MOp.foot, h m (.inl rfl), h k (.inr rfl), and_self]
  | set kk m k v => simp only [MOp.xs, List.mem_cons, List.not_mem_nil, or_false] at h; simp only [MOp.q, MOp.foot, h m (.inl rfl), h k (.inr (.inl rfl)), h v (.inr (.inr rfl)), and_self]
  | del kk m k => simp only [MOp.xs, List.mem_cons, List.not_mem_nil, or_false] at h; simp only [MOp.q, MOp.foot, h m (.inl rfl), h k (.inr rfl), and_self]
  | len m => simp only [MOp.xs, List.mem_singleton, forall_eq] at h; simp only [MOp.q, MOp.foot, h, and_self]
  | range m => simp only [MOp.xs, List.mem_singleton, forall_eq] at h; simp only [MOp.q, MOp.foot, h, and_self]
  | next m => simp only [MOp.xs, List.mem_singleton, forall_eq] at h; simp only [MOp.q, MOp.foot, h, and_self]
  | entry m => simp only [MOp.xs, List.mem_singleton, forall_eq] at h; simp only [MOp.q, MOp.foot, h, and_self]
theorem AOp.q_congr {P : Program} {ev ev' : AX → AV} {η : Et} {p : Nat} {K : AV → Ef → Prop} {o : AOp} (h : ∀ x ∈ o.xs, ev x = ev' x) : o.q P ev η p K = o.q P ev' η p K ∧ o.foot ev = o.foot ev' := by
  cases o with
  | m o => exact MOp.q_congr h
  | p o => simp only [AOp.q]; exact ⟨POp.run_congr h, rfl⟩
  | v o => simp only [AOp.q]; exact ⟨VOp.run_congr h, rfl⟩
  | h o => exact HOp.q_congr h
  | d o =>
    simp only [AOp.q]
    refine ⟨DOp.run_congr h, ?_⟩
    cases o with
    | asub e n x lo hi => simp only [AOp.foot, DOp.foot]; rw [h x (by simp [AOp.xs, DOp.xs])]
    | _ => rfl
  | l o =>
    simp only [AOp.q]
    refine ⟨LOp.run_congr h, ?_⟩
    cases o with
    | append e bytes s x => simp only [AOp.foot, LOp.foot]; rw [h s (by simp [AOp.xs, LOp.xs]), h x (by simp [AOp.xs, LOp.xs])]
    | _ => rfl
  | call f args =>
    have h : ∀ x ∈ args, ev x = ev' x := h
    simp only [AOp.q, AOp.foot, and_true]; rw [List.map_congr_left (f := ev) (g := ev') h]
  | callv x args =>
    simp only [AOp.q, AOp.foot, and_true]
    rw [List.map_congr_left (f := ev) (g := ev') (fun y hy => h y (by simp only [AOp.xs]; exact List.mem_cons_of_mem _ hy)), h x (by simp [AOp.xs])]

theorem YA_put {P : Program} {q : AO} {p d : Nat} {σ : Sg} {η : Et} {u v : AV} {b : Ef} {F : List Nat} (h : q.reads d = false) : YA P q p (ups σ (some d) u) η v b F = YA P q p σ η v b F := by
  simp only [AO.reads, Bool.or_eq_false_iff] at h
  obtain ⟨h1, h2⟩ := h
  have e1 : ∀ x ∈ q.op.xs, AX.evs (ups σ (some d) u) x = AX.evs σ x := fun x hx => by
    have := List.any_eq_false.1 h1 x hx
    cases x with
    | c v => rfl
    | t n =>
      simp [AX.is] at this
      simp only [AX.evs, ups]; rw [if_neg (fun e => this e.symm)]
  have e2 : ∀ s want, q.guard = some (s, want) → ups σ (some d) u s = σ s := fun s want hg => by
    rw [hg] at h2; simp at h2
    simp only [ups]; rw [if_neg (fun e => h2 e.symm)]
  unfold YA
  rw [(AOp.q_congr e1).1, (AOp.q_congr (P := P) (η := η) (p := p) (K := fun _ _ => True) e1).2]
  apply propext
  constructor
  · rintro (⟨hg, hq⟩ | ⟨⟨s, want, h3, h4⟩, h6⟩)
    · refine .inl ⟨?_, hq⟩
      rcases hg with hg | ⟨s, want, h3, h4⟩
      · exact .inl hg
      · exact .inr ⟨s, want, h3, by rw [← e2 s want h3]; exact h4⟩
    · exact .inr ⟨⟨s, want, h3, by rw [← e2 s want h3]; exact h4⟩, h6⟩
  · rintro (⟨hg, hq⟩ | ⟨⟨s, want, h3, h4⟩, h6⟩)
    · refine .inl ⟨?_, hq⟩
      rcases hg with hg | ⟨s, want, h3, h4⟩
      · exact .inl hg
      · exact .inr ⟨s, want, h3, by rw [e2 s want h3]; exact h4⟩
    · exact .inr ⟨⟨s, want, h3, by rw [e2 s want h3]; exact h4⟩, h6⟩

/-- Two operations that do not look at each other's temporaries. -/
def apartA (q r : AO) : Bool := (match q.dst with | some d => !r.reads d && !(r.dst == some d) | none => true) && (match r.dst with | some d => !q.reads d | none => true)
theorem apartA_left {P : Program} {q r : AO} (h : apartA q r = true) {p : Nat} {σ : Sg} {η : Et} {u v : AV} {b : Ef} {F : List Nat} : YA P r p (ups σ q.dst u) η v b F = YA P r p σ η v b F := by
  simp only [apartA, Bool.and_eq_true] at h
  cases hd : q.dst with
  | none => rfl
  | some d => rw [hd] at h; simp at h; exact YA_put h.1.1
theorem apartA_right {P : Program} {q r : AO} (h : apartA q r = true) {p : Nat} {σ : Sg} {η : Et} {u v : AV} {b : Ef} {F : List Nat} : YA P q p (ups σ r.dst u) η v b F = YA P q p σ η v b F := by
  simp only [apartA, Bool.and_eq_true] at h
  cases hd : r.dst with
  | none => rfl
  | some d => rw [hd] at h; simp at h; exact YA_put h.2
theorem apartA_comm {q r : AO} (h : apartA q r = true) (σ : Sg) (u v : AV) : ups (ups σ q.dst u) r.dst v = ups (ups σ r.dst v) q.dst u := by
  simp only [apartA, Bool.and_eq_true] at h
  cases hd : q.dst with
  | none => rfl
  | some d =>
    cases he : r.dst with
    | none => rfl
    | some e =>
      rw [hd, he] at h; simp at h
      funext t
      simp only [ups]
      by_cases h1 : e = t
      · by_cases h2 : d = t
        · exact absurd (h1.trans h2.symm) h.1.2
        · simp [h1, h2]
      · by_cases h2 : d = t <;> simp [h1, h2]
/-! #### All orders -/
section
variable {P : Program} {dep : List (Nat × Nat)} {md : Region.Mode} {ops : Array Oper} {nx : Nat} {qs : List AO} {m : Nat}

/-- What is ready is of the first part, until that is done. -/
def Early (md : Region.Mode) (ops : Array Oper) (m : Nat) : Prop := ∀ listed, HeadInv md ops m listed → ∀ i, i < m → listed.getD i true = false → ∀ t, m ≤ t → t ∉ Region.ready md ops listed
/-- The pairs that are said to be ordered, are. -/
def Deps (md : Region.Mode) (ops : Array Oper) (dep : List (Nat × Nat)) : Prop := ∀ i j, (i, j) ∈ dep → ∃ o, ops[j]? = some o ∧ ∃ e ∈ o.after, Region.binds md e = true ∧ e.on = i

def qAny (P : Program) (dep : List (Nat × Nat)) (md : Region.Mode) (ops : Array Oper) (nx : Nat) (qs : List AO) (m : Nat) (T : Array Bool → Sg → Et → Prop) : Nat → Array Bool → List En → Sg → Et → Prop
  | 0, listed, _, σ, η => T listed σ η
  | f + 1, listed, L, σ, η => Region.ready md ops listed ≠ [] ∧ ∀ i ∈ Region.ready md ops listed, i < m ∧ ∃ q, qs[i]? = some q ∧ qOp P dep q i (nx + i) (qAny P dep md ops nx qs m T f (listed.setIfInBounds i true)) L σ η

theorem qAny_less {T : Array Bool → Sg → Et → Prop} : ∀ (f : Nat) (listed : Array Bool) (L L' : List En) (σ : Sg) (η : Et), (∀ e, e ∈ L → e ∈ L') → qAny P dep md ops nx qs m T f listed L' σ η → qAny P dep md ops nx qs m T f listed L σ η
  | 0, _, _, _, _, _, _, h => h
  | f + 1, listed, L, L', σ, η, hs, h => by
    refine ⟨h.1, fun i hi => ?_⟩
    obtain ⟨h1, q, h2, v, b, F, h3, h4, h5⟩ := h.2 i hi
    refine ⟨h1, q, h2, v, b, F, h3, fun e he => h4 e (hs e he), qAny_less f _ _ _ _ _ (fun e he => ?_) h5⟩
    rcases List.mem_cons.1 he with rfl | he
    · exact List.mem_cons_self
    · exact List.mem_cons_of_mem _ (hs e he)

theorem unordered (hD : Deps md ops dep) {i j : Nat} {listed : Array Bool} (hi : listed.getD i true = false) (hj : j ∈ Region.ready md ops listed) : memP i j dep = false := by
  cases h : memP i j dep with
  | false => rfl
  | true =>
    obtain ⟨o, ho, e, he, hb, hon⟩ := hD i j (memP_spec h)
    obtain ⟨hun, oj, hoj, hall⟩ := mem_ready.1 hj
    rw [ho] at hoj; cases hoj
    have := hall e he hb
    rw [hon, getD_both hi] at this
    cases this

theorem qAny_first {i : Nat} {q : AO} {v : AV} {b : Ef} {F : List Nat} {T : Array Bool → Sg → Et → Prop} (hD : Deps md ops dep) (hq : qs[i]? = some q) (hE : Early md ops m) (hin : i < m)
    (hdone : ∀ listed σ η, T listed σ η → ∀ j ∈ Region.ready md ops listed, m ≤ j) :
    ∀ (f : Nat) (listed : Array Bool) (L : List En) (σ : Sg) (η : Et), HeadInv md ops m listed →
      (∀ j r, qs[j]? = some r → j < m → j ≠ i → listed.getD j true = false → (∀ oj, ops[j]? = some oj → ∀ e ∈ oj.after, Region.binds md e = true → e.on ≠ i) → apartA q r = true) →
      i ∈ Region.ready md ops listed → YA P q (nx + i) σ η v b F → (∀ e ∈ L, okEn dep e ⟨i, F, keys b⟩ = true) →
      qAny P dep md ops nx qs m T f (listed.setIfInBounds i true) (⟨i, F, keys b⟩ :: L) (ups σ q.dst v) (upe η b) → qAny P dep md ops nx qs m T (f + 1) listed L σ η := by
  intro f
  induction f with
  | zero =>
    intro listed L σ η inv _ hr hy hck H
    have hun := (mem_ready.1 hr).1
    refine ⟨fun h => (by rw [h] at hr; cases hr), fun j hj => ?_⟩
    have hjm : j < m := by
      rcases Nat.lt_or_ge j m with h | h
      · exact h
      · exact absurd hj (hE listed inv i hin hun j h)
    refine ⟨hjm, ?_⟩
    by_cases hji : j = i
    · subst hji; exact ⟨q, hq, v, b, F, hy, hck, H⟩
    · have := hdone _ _ _ H j (ready_mono hj hji); omega
  | succ f ih =>
    intro listed L σ η inv hfree hr hy hck H
    have hun := (mem_ready.1 hr).1
    refine ⟨fun h => (by rw [h] at hr; cases hr), fun j hj => ?_⟩
    have hjm : j < m := by
      rcases Nat.lt_or_ge j m with h | h
      · exact h
      · exact absurd hj (hE listed inv i hin hun j h)
    refine ⟨hjm, ?_⟩
    by_cases hji : j = i
    · subst hji; exact ⟨q, hq, v, b, F, hy, hck, H⟩
    · obtain ⟨_, r, hrq, v', b', F', hy', hck', hK⟩ := H.2 j (ready_mono hj hji)
      obtain ⟨hjun, oj, hoj, hall⟩ := mem_ready.1 hj
      have hap : apartA q r = true := hfree j r hrq hjm hji hjun fun oj' hoj' e he hb heq => by
        rw [hoj] at hoj'; cases hoj'
        have h1 := hall e he hb
        rw [heq, getD_both hun] at h1
        cases h1
      have hij := hck' _ List.mem_cons_self
      have hd : disj (keys b) F' = true ∧ disj (keys b') F = true := by
        have := hij
        simp only [okEn, unordered hD hun hj, unordered hD hjun hr, Bool.or_false, Bool.and_eq_true] at this
        exact this
      have hy1 : YA P r (nx + j) σ η v' b' F' := by
        rw [apartA_left hap] at hy'
        exact hy'.local fun k hk => upe_off fun hk' => disj_spec hd.1 k hk' hk
      have hy2 : YA P q (nx + i) (ups σ r.dst v') (upe η b') v b F := by
        rw [apartA_right hap]
        exact hy.local fun k hk => (upe_off fun hk' => disj_spec hd.2 k hk' hk).symm
      have hW : ∀ k, k ∈ keys b → k ∈ keys b' → False := fun k h1 h2 => by
        rcases hy.keys k h1 with h3 | h3
        · exact disj_spec hd.2 k h2 h3
        · rcases hy1.keys k h2 with h4 | h4
          · exact disj_spec hd.1 k h1 h4
          · omega
      refine ⟨r, hrq, v', b', F', hy1, fun e he => hck' e (List.mem_cons_of_mem _ he), ?_⟩
      refine ih (listed.setIfInBounds j true) _ _ _ (inv.set hj hjm) (fun k rk hk hkm hki hkun hno => hfree k rk hk hkm hki ?_ hno) (ready_mono hr (Ne.symm hji)) hy2 ?_ ?_
      · by_cases hjk : j = k
        · subst hjk; exact hjun
        · rw [getD_set_ne true hjk] at hkun; exact hkun
      · intro e he
        rcases List.mem_cons.1 he with rfl | he
        · exact okEn_symm hij
        · exact hck e he
      · rw [Array.setIfInBounds_comm _ _ hji, ← apartA_comm hap, ← upe_swap hW]
        refine qAny_less f _ _ _ _ _ (fun e he => ?_) hK
        simp only [List.mem_cons] at he ⊢
        rcases he with h | h | h
        · exact .inr (.inl h)
        · exact .inl h
        · exact .inr (.inr h)

/-- The check of a region's order, the first m operations unordered but for their edges. -/
def freeQ (md : Region.Mode) (ops : Array Oper) (qs : List AO) (m : Nat) (listed : Array Bool) (i : Nat) : Bool := match qs[i]? with
  | none => false
  | some q => (List.range m).all fun j => j == i || listed.getD j true || (match ops[j]? with
    | some oj => oj.after.any fun e => Region.binds md e && e.on == i
    | none => false) || (match qs[j]? with
    | some r => apartA q r
    | none => true)
theorem freeQ_spec {listed : Array Bool} {i : Nat} {q : AO} (hq : qs[i]? = some q) (h : freeQ md ops qs m listed i = true) (j : Nat) (r : AO) (hr : qs[j]? = some r) (hj : j < m) (hne : j ≠ i) (hun : listed.getD j true = false)
    (hno : ∀ oj, ops[j]? = some oj → ∀ e ∈ oj.after, Region.binds md e = true → e.on ≠ i) : apartA q r = true := by
  simp only [freeQ, hq, List.all_eq_true, List.mem_range] at h
  have h1 := h j hj
  simp only [hr, Bool.or_eq_true, beq_iff_eq, hne, false_or, hun, Bool.false_eq_true] at h1
  rcases h1 with h1 | h1
  · cases hoj : ops[j]? with
    | none => simp [hoj] at h1
    | some oj =>
      simp only [hoj] at h1
      obtain ⟨e, he, hb⟩ := Array.any_eq_true'.1 h1
      simp only [Bool.and_eq_true, beq_iff_eq] at hb
      exact absurd hb.2 (hno oj hoj e he hb.1)
  · exact h1
def lexQ (md : Region.Mode) (ops : Array Oper) (qs : List AO) (m g : Nat) : Nat → Nat → Array Bool → Bool
  | 0, k, listed => Region.seqB md ops g k listed
  | f + 1, k, listed => (Region.ready md ops listed).contains k && freeQ md ops qs m listed k && lexQ md ops qs m g f (k + 1) (listed.setIfInBounds k true)
def depsB (md : Region.Mode) (ops : Array Oper) : List (Nat × Nat) → Bool
  | [] => true
  | (i, j) :: r => (match ops[j]? with
    | some o => o.after.any fun e => Region.binds md e && e.on == i
    | none => false) && depsB md ops r
theorem depsB_spec : ∀ {dep : List (Nat × Nat)}, depsB md ops dep = true → Deps md ops dep
  | [], _, i, j, h => by cases h
  | (a, b) :: r, h, i, j, hm => by
    simp only [depsB, Bool.and_eq_true] at h
    rcases List.mem_cons.1 hm with hm | hm
    · simp only [Prod.mk.injEq] at hm
      obtain ⟨rfl, rfl⟩ := hm
      cases ho : ops[j]? with
      | none => simp [ho] at h
      | some o =>
        simp only [ho] at h
        obtain ⟨e, he, hb⟩ := Array.any_eq_true'.1 h.1
        simp only [Bool.and_eq_true, beq_iff_eq] at hb
        exact ⟨o, rfl, e, he, hb.1, hb.2⟩
    · exact depsB_spec h.2 i j hm
def drawOk (md : Region.Mode) (ops : Array Oper) (dep : List (Nat × Nat)) (qs : List AO) (m : Nat) : Bool :=
  (decide (m = ops.size) || (decide (m < ops.size) && Region.sinkB md ops m && Region.chainB md ops m)) && depsB md ops dep && lexQ md ops qs m (ops.size - m) m 0 (Array.replicate ops.size false)

theorem early_of (h : (decide (m = ops.size) || (decide (m < ops.size) && Region.sinkB md ops m && Region.chainB md ops m)) = true) : Early md ops m := by
  simp only [Bool.or_eq_true, decide_eq_true_eq, Bool.and_eq_true] at h
  intro listed inv i hi hun t ht hr
  rcases h with h | ⟨⟨h1, h2⟩, h3⟩
  · obtain ⟨_, o, ho, _⟩ := mem_ready.1 hr
    have := (Array.getElem?_eq_some_iff.1 ho).1
    omega
  · exact tail_waits h2 h3 h1 inv _ i rfl hi hun t ht hr

theorem qAny_lex {T : Sg → Et → Prop} {g : Nat} (hD : Deps md ops dep) (hE : Early md ops m) (hm : m ≤ qs.length) : ∀ (l : List AO) (k : Nat) (listed : Array Bool) (L : List En) (σ : Sg) (η : Et), (∀ j, j < l.length → l[j]? = qs[k + j]?) → k + l.length = m → HeadInv md ops m listed →
    lexQ md ops qs m g l.length k listed = true → wpQ P dep T l k (nx + k) L σ η →
    qAny P dep md ops nx qs m (fun listed' σ η => Region.seqB md ops g m listed' = true ∧ T σ η) l.length listed L σ η
  | [], k, listed, L, σ, η, _, hk, _, hB, h => by
    have : k = m := by simpa using hk
    subst this
    exact ⟨by simpa [lexQ] using hB, h⟩
  | q :: l, k, listed, L, σ, η, hl, hk, inv, hB, h => by
    have h0 : qs[k]? = some q := by simpa using (hl 0 (by simp)).symm
    simp only [List.length_cons, lexQ, Bool.and_eq_true] at hB
    obtain ⟨⟨hr, hf⟩, hB'⟩ := hB
    have hkm : k < m := by simp only [List.length_cons] at hk; omega
    have hr' : k ∈ Region.ready md ops listed := by simpa using hr
    obtain ⟨v, b, F, hy, hck, hK⟩ := h
    exact qAny_first hD h0 hE hkm (fun listed' _ _ hL => seqB_ready hL.1) l.length listed L σ η inv (freeQ_spec h0 hf) hr' hy hck
      (qAny_lex hD hE hm l (k + 1) _ _ _ _ (fun j hj => by have := hl (j + 1) (by simp; omega); simpa [Nat.add_assoc, Nat.add_comm 1 j] using this) (by simp only [List.length_cons] at hk; omega) (inv.set hr' hkm) hB' (by rw [← Nat.add_assoc]; exact hK))
end
end Go.Eng

namespace Go.Eng
open Go

theorem Own.ext {μ : Pos} {H H' : Heap} (h : H.get = H'.get) {b : Nat} (ho : Own μ H b) : Own μ H' b := by
  obtain ⟨k, s, h1, h2⟩ := ho; exact ⟨k, s, by rw [← h]; exact h1, h2⟩
theorem Rel.ext {M : Mem} {μ : Pos} {H H' : Heap} {w : World} (R : Rel M μ H w) (h : H.get = H'.get) (hn : H.nx = H'.nx) : Rel M μ H' w :=
  ⟨fun k hk => R.dom k (by omega), fun k hk => by rw [← h]; exact R.top k (by omega), fun k cs hk => R.cells k cs (by rw [h]; exact hk), fun k es hk => R.maps k es (by rw [h]; exact hk), fun j k l c hj => by rw [← h]; exact R.iters j k l c (by rw [h]; exact hj),
    fun i j b s t hi hj => R.inj i j b s t (by rw [h]; exact hi) (by rw [h]; exact hj), R.imm, fun k b s hk => R.apart k b s (by rw [h]; exact hk)⟩
theorem RelF.ext {N : Nat} {M : Mem} {μ : Pos} {fr fr' : Fr} {tmps : Array Value} (F : RelF N M μ fr tmps) (h : look fr = look fr') : RelF N M μ fr' tmps := ⟨F.size, fun t => by rw [← h]; exact F.slot t⟩
theorem Grow.ext {n : Nat} {M M' : Mem} {μ μ' : Pos} {H H' H'' : Heap} {w w' : World} (G : Grow n M μ H w M' μ' H' w') (h : H'.get = H''.get) : Grow n M μ H w M' μ' H'' w' :=
  ⟨G.mem, G.pin, G.keep, fun b hb => G.own b (hb.ext h.symm), G.fresh⟩

/-- Does it write a map? -/
def AO.isSet (q : AO) : Bool := match q.op with
  | .m (.set ..) => true
  | .m (.del ..) => true
  | _ => false
def noIts (η : Nat → AB) (n : Nat) : Bool := Nat.rec true (fun i ih => match η i with
  | .iter _ _ _ => false
  | _ => ih) n
theorem noIts_succ (η : Nat → AB) (n : Nat) : noIts η (n + 1) = match η n with
  | .iter _ _ _ => false
  | _ => noIts η n := rfl
theorem noIts_spec {η : Nat → AB} : ∀ {n : Nat}, noIts η n = true → ∀ j, j < n → (η j).isIt = false
  | 0, _, j, hj => by omega
  | n + 1, h, j, hj => by
    rw [noIts_succ] at h
    split at h
    · cases h
    · rename_i hne
      rcases Nat.lt_or_eq_of_le (Nat.le_of_lt_succ hj) with h1 | h1
      · exact noIts_spec h j h1
      · subst h1
        cases he : η j with
        | iter k l c => exact absurd he (hne k l c)
        | _ => rfl
theorem noIts_of {η : Nat → AB} (h : ∀ j, (η j).isIt = false) : ∀ n, noIts η n = true
  | 0 => rfl
  | n + 1 => by
    rw [noIts_succ]
    split
    · rename_i he; have := h n; rw [he] at this; cases this
    · exact noIts_of h n
/-- A region that writes maps begins where no block walks over one. -/
def setFree (qs : List AO) (η : Nat → AB) (n : Nat) : Bool := !(qs.any AO.isSet) || noIts η n
theorem upe_noit {η : Et} {b : Ef} (hb : ∀ x ∈ b, x.2.isIt = false) (h : ∀ j, (η j).isIt = false) : ∀ j, (upe η b j).isIt = false := by
  induction b generalizing η with
  | nil => exact h
  | cons x r ih =>
    obtain ⟨k, ab⟩ := x
    refine ih (fun y hy => hb y (List.mem_cons_of_mem _ hy)) fun j => ?_
    have := hb (k, ab) (by simp)
    simp only at this ⊢
    split
    · exact this
    · exact h j
theorem YA.noit {P : Program} {q : AO} {p : Nat} {σ : Sg} {η : Et} {v : AV} {b : Ef} {F : List Nat} (h : YA P q p σ η v b F) : ∀ x ∈ b, x.2.isIt = false := by
  rcases h with ⟨_, h, _⟩ | ⟨_, _, rfl, _⟩
  · exact AOp.q_noit h
  · intro x hx; cases hx
/-- In the midst of an unordered part. -/
structure QSt (N n : Nat) (M0 : Mem) (μ0 : Pos) (Hs : Heap) (w0 : World) (nx : Nat) (m : Nat) (ns : Bool) (listed : Array Bool) (σ : Sg) (η : Et) (a : Act) (w : World) : Prop where
  defers : a.defers = []
  noit : ns = true → ∀ j, (η j).isIt = false
  size : m ≤ listed.size
  ex : ∃ M μ fr H, look fr = σ ∧ H.get = η ∧ H.nx = nx + m ∧ Rel M μ H w ∧ RelF N M μ fr a.tmps ∧ n ≤ nx ∧ Grow n M0 μ0 Hs w0 M μ H w ∧ ∀ i, i < m → listed.getD i false = false → μ (nx + i) = none

section
variable {P : Program} {N n : Nat} {M0 : Mem} {μ0 : Pos} {Hs : Heap} {w0 : World} {nx : Nat} {qs : List AO} {m : Nat} {ns : Bool}

/-- One operation of the unordered part, in a world. -/
theorem q_step {ops : Array Oper} {o : Oper} {q : AO} (hok : okAO P N ops o q = true) {listed : Array Bool} {σ : Sg} {η : Et} {a : Act} {w : World} (S : QSt N n M0 μ0 Hs w0 nx m ns listed σ η a w) {i : Nat} (hi : i < m) (hun : listed.getD i true = false) (hns : q.isSet = true → ns = true)
    {v : AV} {b : Ef} {F0 : List Nat} (hy : YA P q (nx + i) σ η v b F0) {next : Act → World → Prop} {Q : Exit → Act → World → Prop}
    (hnext : ∀ a' w', QSt N n M0 μ0 Hs w0 nx m ns (listed.setIfInBounds i true) (ups σ q.dst v) (upe η b) a' w' → next a' w') :
    if Region.wanted o (yielded ops a.tmps) then o.wp P a w next Q else next (a.put o.dst undef) w := by
  simp only [okAO, Bool.and_eq_true, beq_iff_eq] at hok
  obtain ⟨⟨⟨h1, h2⟩, h3⟩, h4⟩ := hok
  obtain ⟨hd, hit, hsize, M, μ, fr, H, rfl, rfl, hnx, R, F, hn, G0, hfree⟩ := S
  have isz : i < listed.size := Nat.lt_of_lt_of_le hi hsize
  have hun' : listed.getD i false = false := getD_both hun
  have hp : μ (nx + i) = none := hfree i hi hun'
  have hit' : ns = true → ∀ j, (upe H.get b j).isIt = false := fun h => upe_noit hy.noit (hit h)
  have fin : ∀ {M' : Mem} {μ' : Pos} {H' : Heap} {w' : World} {u : Value}, Rel M' μ' H' w' → relV M' v μ' u → Mem.le M M' → Pos.le μ μ' → Grow n M μ H w M' μ' H' w' → H'.get = upe H.get b → H'.nx = H.nx →
      (∀ j, j < m → j ≠ i → listed.getD j false = false → μ' (nx + j) = none) → next (a.put o.dst u) w' := by
    intro M' μ' H' w' u R' hv hM L G hg hnx' hf
    refine hnext _ _ ⟨by cases o.dst <;> simpa [Act.put] using hd, hit', by simpa using hsize, M', μ', put fr q.dst v, H', by rw [look_put], hg, by rw [hnx', hnx], R', ?_, hn, G0.trans G, fun j hj hl => ?_⟩
    · rw [← h1]; exact (F.mono hM L).put (by rw [h1]; exact h2) hv
    · by_cases hji : j = i
      · subst hji; simp [isz] at hl
      · rw [getD_set_ne false (Ne.symm hji)] at hl
        exact hf j hj hji hl
  have same : ∀ {u : Value}, relV M v μ u → b = [] → next (a.put o.dst u) w := fun hv hb => by
    subst hb
    exact fin R hv (Mem.le_refl _) (Pos.le_refl _) (Grow.refl _ _ _ _ _) rfl rfl fun j hj _ hl => hfree j hj hl
  have move : ∀ {M' : Mem} {μ' : Pos} {H' : Heap} {w' : World} {u : Value}, Rel M' μ' H' w' → relV M' v μ' u → Move M μ H w M' μ' H' w' → H'.get = upe H.get b → H'.nx = H.nx → next (a.put o.dst u) w' := fun R' hv G hg hnx' =>
    fin R' hv G.grow.mem G.le (G.grow.mono (by omega)) hg hnx' fun j hj _ hl => by rw [G.grow.pin _ (by omega)]; exact hfree j hj hl
  have lay : ∀ {l : List AV} {c : Array Value} {el : TypeId}, [(nx + i, AB.cells l)] = b → .ptr (nx + i) 0 = v → relP M μ l c.toList → (execOp a.eval o).run P w = .ok (.value (.pointer (some ⟨w.heap.size, 0, none⟩))) (w.alloc (.cells c el)) → o.wp P a w next Q := by
    intro l c el hb hv hP hrun
    subst hb; subst hv
    obtain ⟨R', L, G⟩ := R.lay (p := nx + i) (el := el) (by omega) hp hP
    simp only [Oper.wp, hrun, Oper.upon]
    refine fin R' (by simp only [relV]; exact ⟨_, _, Pos.put_same _ _ _, rfl⟩) (Mem.le_refl _) L (G n (by omega)) ?_ rfl (fun j hj hji hl => by rw [Pos.put_other _ _ (by omega)]; exact hfree j hj hl)
    funext k; simp only [Heap.get_set, upe]
  have call : ∀ {f : FuncId} {vs : Array Value} {as : List AV}, (execOp a.eval o).run P w = (callFunc f vs).run P w → relL M as μ vs.toList → QCallA P f as (fun r => r = v ∧ [] = b) → o.wp P a w next Q := by
    intro f vs as he hl hc
    obtain ⟨r, c1, c2, c3, rfl, c5⟩ := hc.ex
    have hc := CallA.pure c3 c1 c2 (H := H) (K := fun v' H' => v' = r ∧ H' = H) ⟨rfl, rfl⟩
    unfold Oper.wp
    rw [he, run_callFunc hc.ok]
    simp only [Oper.upon]
    refine (hc.run M μ w vs R hl).mono ?_
    rintro e w' ⟨u, M', μ', H', c, rfl, R', hv, G, rfl, rfl⟩
    subst c5
    exact move R' hv G rfl rfl
  have hop : ∀ {ho : HOp} {K : AV → Heap → Prop}, okH P o.op ho = true → ho.run (AX.ev fr) H K → (∀ c H', K c H' → c = v ∧ H'.get = upe H.get b ∧ H'.nx = H.nx) → o.wp P a w next Q := by
    intro ho K hok hr hK
    obtain ⟨nxt, u, w', e1, e2, M', μ', H', c, R', hv, G, hk⟩ := hop_sound hok R F hr
    obtain ⟨rfl, e3, e4⟩ := hK _ _ hk
    rcases e2 with rfl | ⟨rfl, rfl⟩
    · simp only [Oper.wp, e1, Oper.upon]; exact move R' hv G e3 e4
    · simp only [Oper.wp, e1, Oper.upon]; exact move R' hv G e3 e4
  have wanted : ∀ s want c, q.guard = some (s, want) → look fr s = .bool c → Region.wanted o (yielded ops a.tmps) = (c == want) := by
    intro s want c hg hc
    cases hgo : o.guard with
    | none => simp [hgo, hg, okGuard] at h3
    | some x =>
      obtain ⟨j, b'⟩ := x
      simp only [hgo, hg, okGuard, Bool.and_eq_true, beq_iff_eq] at h3
      obtain ⟨rfl, h3⟩ := h3
      split at h3
      · rename_i oj hoj
        simp at h3
        have := F.slot s
        rw [hc] at this
        have := rel_bool this
        have hs : a.tmps[s]? = some (.bool c) := by
          rw [Array.getD_eq_getD_getElem?] at this
          cases hq : a.tmps[s]? with
          | none => rw [hq] at this; simp [undef] at this
          | some u => rw [hq] at this; simp at this; rw [this]
        have hy : yielded ops a.tmps j = some c := by simp only [yielded, hoj, Option.bind_some, h3]; rw [hs]
        simp only [Region.wanted, hgo, hy]
        cases c <;> cases b' <;> rfl
      · cases h3
  rcases hy with ⟨hg, hq, _⟩ | ⟨⟨s, want, hg, hoff⟩, rfl, rfl, _⟩
  · have hw : Region.wanted o (yielded ops a.tmps) = true := by
      rcases hg with hg | ⟨s, want, hg, hc⟩
      · cases hgo : o.guard with
        | none => exact wanted_none hgo _
        | some x => obtain ⟨j, b'⟩ := x; simp [hgo, hg, okGuard] at h3
      · rw [wanted s want want hg hc]; simp
    rw [if_pos hw]
    rw [evs_look] at hq
    unfold okOp at h4
    split at h4
    · rename_i p hp
      rw [hp] at hq
      simp only [AOp.q] at hq
      have mop : ∀ {K : AV → Heap → Prop}, p.run (AX.ev fr) H K → (∀ c H', K c H' → c = v ∧ H'.get = upe H.get b ∧ H'.nx = H.nx) → o.wp P a w next Q := by
        intro K hr hK
        obtain ⟨nxt, u, w', e1, e2, M', μ', H', c, R', hv, G, hk⟩ := mop_sound h4 R F hr
        obtain ⟨rfl, e3, e4⟩ := hK _ _ hk
        rcases e2 with rfl | ⟨rfl, rfl⟩
        · simp only [Oper.wp, e1, Oper.upon]; exact move R' hv G e3 e4
        · simp only [Oper.wp, e1, Oper.upon]; exact move R' hv G e3 e4
      cases p with
      | mk => exact hq.elim
      | get ok kk zero m k =>
        refine mop (K := fun v' H' => (v' = v ∧ [] = b) ∧ H' = H) ?_ (fun c H' h => by obtain ⟨⟨e1, rfl⟩, rfl⟩ := h; exact ⟨e1, rfl, rfl⟩)
        simp only [MOp.q, MOp.run, mapK, and_true] at hq ⊢
        exact hq
      | len m =>
        refine mop (K := fun v' H' => (v' = v ∧ [] = b) ∧ H' = H) ?_ (fun c H' h => by obtain ⟨⟨e1, rfl⟩, rfl⟩ := h; exact ⟨e1, rfl, rfl⟩)
        simp only [MOp.q, MOp.run, mapK, and_true] at hq ⊢
        exact hq
      | set kk m k x =>
        simp only [MOp.q] at hq
        rcases mapN_spec hq with ⟨hm, h⟩ | ⟨q, es, hm, hes, h⟩
        · exact h.elim
        · simp only at h
          cases hk : (keyOk kk (AX.ev fr k) && noLoc (AX.ev fr x)) <;> simp only [hk, cond_true, cond_false] at h
          obtain ⟨es', hr, h1, h2⟩ := h.ex
          refine mop (K := fun v' H' => v' = .any ∧ H' = H.set q (.map es')) ?_ (fun c H' h => ?_)
          · have hni : noIter H.get q H.nx = true := noIter_of (fun j k l c e => by have := hit (hns (by simp only [AO.isSet, hp])) j; rw [e] at this; cases this) _
            simp only [MOp.run, mapK, hm, mapN, hes, hk, hni, Bool.and_true, cond_true]
            exact ⟨es', hr, by rw [setK_eq]; simp⟩
          · obtain ⟨rfl, rfl⟩ := h
            subst h2
            refine ⟨h1, ?_, rfl⟩
            funext j; simp only [Heap.get_set, upe]
      | del kk m k =>
        simp only [MOp.q] at hq
        rcases mapN_spec hq with ⟨hm, h⟩ | ⟨q, es, hm, hes, h⟩
        · exact h.elim
        · simp only at h
          cases hk : keyOk kk (AX.ev fr k) <;> simp only [hk, cond_true, cond_false] at h
          obtain ⟨es', hr, h1, h2⟩ := h.ex
          refine mop (K := fun v' H' => v' = .tuple [] ∧ H' = H.set q (.map es')) ?_ (fun c H' h => ?_)
          · have hni : noIter H.get q H.nx = true := noIter_of (fun j k l c e => by have := hit (hns (by simp only [AO.isSet, hp])) j; rw [e] at this; cases this) _
            simp only [MOp.run, mapK, hm, mapN, hes, hk, hni, Bool.and_true, cond_true]
            exact ⟨es', hr, by rw [setK_eq]; simp⟩
          · obtain ⟨rfl, rfl⟩ := h
            subst h2
            refine ⟨h1, ?_, rfl⟩
            funext j; simp only [Heap.get_set, upe]
      | range m => exact hq.elim
      | next m => exact hq.elim
      | entry m => exact hq.elim
    · rename_i p hp
      rw [hp] at hq
      simp only [AOp.q] at hq
      obtain ⟨u, c, e1, e2, e3, e4⟩ := pop_sound h4 F hq w
      subst e3
      simp only [Oper.wp, e1, Oper.upon]
      exact same e2 e4.symm
    · rename_i p hp
      rw [hp] at hq
      simp only [AOp.q] at hq
      obtain ⟨u, c, e1, e2, e3, e4⟩ := vop_sound h4 F hq w
      subst e3
      simp only [Oper.wp, e1, Oper.upon]
      exact same e2 e4.symm
    · rename_i p hp
      rw [hp] at hq
      simp only [AOp.q] at hq
      cases p with
      | load agg nn x =>
        refine hop (K := fun v' H' => (v' = v ∧ [] = b) ∧ H' = H) h4 ?_ (fun c H' h => by obtain ⟨⟨e1, rfl⟩, rfl⟩ := h; exact ⟨e1, rfl, rfl⟩)
        simp only [HOp.q, HOp.run, and_true] at hq ⊢
        exact hq
      | alloc zero =>
        simp only [HOp.q] at hq
        unfold okH at h4
        split at h4
        · rename_i heq; cases heq
        · rename_i t zero' hop heq
          cases heq
          unfold zeroOk at h4
          split at h4
          · rename_i ti hti
            split at h4
            · rename_i z hz
              refine lay hq.2 hq.1 (c := z.cells) (el := t) (relP_of_relL (rel_okVs h4)) ?_
              simp only [execOp, hop, Instr.alloc, zeroValue, Sem.run_bind, run_typeInfo hti, Result.andThen_ok, hz, Sem.run_pure, newVar, newRow, run_newObj]; rfl
            · cases h4
          · cases h4
        · rename_i heq; cases heq
        · rename_i heq; cases heq
        · cases h4
      | box x =>
        simp only [HOp.q] at hq
        split at hq
        · rename_i l hl
          unfold okH at h4
          split at h4
          · rename_i heq; cases heq
          · rename_i heq; cases heq
          · rename_i t xo x' hop heq
            cases heq
            refine lay hq.2 hq.1 (c := (a.eval xo).cells) (el := t) (relP_of_relL (rel_cellsOf hl (rel_okX F h4))) ?_
            simp only [execOp, hop, Instr.box, Sem.run_bind, Result.andThen_ok, Sem.run_pure, newVar, newRow, run_newObj]; rfl
          · rename_i heq; cases heq
          · cases h4
        · exact hq.elim
      | store nn p x =>
        simp only [HOp.q] at hq
        split at hq
        · rename_i k off hpk
          split at hq
          · rename_i cs hcs
            split at hq
            · rename_i l hl
              refine hop (K := fun v' H' => ∃ cs', (v' = .any ∧ H' = H.set k (.cells cs')) ∧ (AV.any = v ∧ [(k, AB.cells cs')] = b)) h4 ?_ (fun c H' h => ?_)
              · simp only [HOp.run, hpk, hcs, hl]
                cases hb : Nat.beq l.length nn with
                | false => rw [hb] at hq; exact hq.elim
                | true =>
                  rw [hb] at hq
                  simp only [cond_true] at hq ⊢
                  obtain ⟨e1, e2, e3⟩ := lputK_spec hq
                  exact lputK_eq e1 e2 ⟨_, ⟨trivial, rfl⟩, e3⟩
              · obtain ⟨cs', ⟨rfl, rfl⟩, rfl, rfl⟩ := h
                refine ⟨rfl, ?_, rfl⟩
                funext j; simp only [Heap.get_set, upe]
            · exact hq.elim
          · exact hq.elim
        · exact hq.elim
    · rename_i p hp
      rw [hp] at hq
      simp only [AOp.q] at hq
      obtain ⟨v', ⟨rfl, e4⟩, ⟨u, w', M', e1, R', hv, G⟩⟩ := dop_sound h4 F R (Hr := H.get) (fun _ _ h => h) hq
      subst e4
      simp only [Oper.wp, e1, Oper.upon]
      exact move R' hv G rfl rfl
    · rename_i p hp
      rw [hp] at hq
      simp only [AOp.q] at hq
      obtain ⟨v', l, kl, ⟨rfl, e4⟩, ⟨u, w', μ', e1, R', hv, L, G, hj⟩⟩ := lop_sound h4 F R (Hr := H.get) (fun _ _ h => h) (p := nx + i) (by omega) (by assumption) hq
      subst e4
      simp only [Oper.wp, e1, Oper.upon]
      refine fin R' hv (Mem.le_refl _) L (G n (by omega)) ?_ ?_ (fun j hj' hji hl => by rw [hj _ (by omega)]; exact hfree j hj' hl)
      · rw [← get_lay]; cases kl <;> rfl
      · cases kl <;> rfl
    · rename_i g args _ f args' hop hp
      rw [hp] at hq
      simp only [Bool.and_eq_true, beq_iff_eq] at h4
      obtain ⟨rfl, h4⟩ := h4
      simp only [AOp.q, fvs_eq] at hq
      refine call (f := f) (vs := args.map a.eval) ?_ (by simpa using rel_okXs F h4) hq
      simp only [execOp, hop, resolve, Act.eval, Deferred.ofValue, Sem.run_bind, Sem.run_pure, Result.andThen_ok, invoke, Array.empty_append, Array.append_empty]
    · rename_i x args _ x' args' hop hp
      rw [hp] at hq
      simp only [Bool.and_eq_true] at h4
      obtain ⟨h5, h6⟩ := h4
      simp only [AOp.q] at hq
      split at hq
      · rename_i f caps hx
        simp only [fvs_eq] at hq
        have hx' := rel_okX F h5
        rw [hx] at hx'; simp only [relV] at hx'
        obtain ⟨vs, hv, hl⟩ := hx'
        refine call (f := f) (vs := args.map a.eval ++ vs) ?_ (by simpa using relL_append (rel_okXs F h6) hl) hq
        simp only [execOp, hop, resolve, hv, Deferred.ofValue, Sem.run_bind, Sem.run_pure, Result.andThen_ok, invoke, Array.empty_append]
      · exact hq.elim
    · cases h4
  · have hw : Region.wanted o (yielded ops a.tmps) = false := by
      rcases hoff with ⟨c, hc, hne⟩ | hs
      · rw [wanted s want c hg hc]; cases c <;> cases want <;> simp_all
      · exact undef_yields F hs (by rw [← hg]; exact h3)
    rw [hw]
    simp only [Bool.false_eq_true, if_false]
    exact same relV_undef rfl

theorem okAOs_get {ops : Array Oper} : ∀ {l : List Oper} {qs : List AO}, okAOs P N ops l qs = true → l.length = qs.length ∧ ∀ (i : Nat) o q, l[i]? = some o → qs[i]? = some q → okAO P N ops o q = true
  | [], [], _ => ⟨rfl, fun i o q h => by simp at h⟩
  | o :: l, q :: qs, h => by
    simp only [okAOs, Bool.and_eq_true] at h
    obtain ⟨h1, h2⟩ := okAOs_get h.2
    refine ⟨by simp [h1], fun i o' q' ho hq => ?_⟩
    cases i with
    | zero => simp at ho hq; subst ho; subst hq; exact h.1
    | succ i => exact h2 i o' q' (by simpa using ho) (by simpa using hq)
  | [], _ :: _, h => by simp [okAOs] at h
  | _ :: _, [], h => by simp [okAOs] at h
theorem okAOs_drop {ops : Array Oper} : ∀ {l : List Oper} {qs : List AO} (n : Nat), okAOs P N ops l qs = true → okAOs P N ops (l.drop n) (qs.drop n) = true
  | [], [], n, _ => by simp [okAOs]
  | o :: l, q :: qs, 0, h => h
  | o :: l, q :: qs, n + 1, h => by simp only [okAOs, Bool.and_eq_true] at h; exact okAOs_drop n h.2
  | [], _ :: _, _, h => by simp [okAOs] at h
  | _ :: _, [], _, h => by simp [okAOs] at h

theorem wpAny_of_q {dep : List (Nat × Nat)} {md : Region.Mode} {ops : Array Oper} (hok : okAOs P N ops ops.toList qs = true) (hns : ∀ i q, i < m → qs[i]? = some q → q.isSet = true → ns = true) {Q' : Exit → Act → World → Prop} {g : Nat} {T : Array Bool → Sg → Et → Prop}
    (hT : ∀ listed σ η a w, T listed σ η → QSt N n M0 μ0 Hs w0 nx m ns listed σ η a w → wpAny P md ops Q' g listed a w) :
    ∀ (f : Nat) (listed : Array Bool) (L : List En) (σ : Sg) (η : Et) (a : Act) (w : World), QSt N n M0 μ0 Hs w0 nx m ns listed σ η a w → qAny P dep md ops nx qs m T f listed L σ η → wpAny P md ops Q' (f + g) listed a w
  | 0, listed, L, σ, η, a, w, S, h => by rw [Nat.zero_add]; exact hT _ _ _ _ _ h S
  | f + 1, listed, L, σ, η, a, w, S, h => by
    rw [show f + 1 + g = (f + g) + 1 by omega]
    refine ⟨fun h0 => absurd h0 h.1, fun i hi => ?_⟩
    obtain ⟨him, q, hq, v, b, F, hy, _, hK⟩ := h.2 i hi
    obtain ⟨hun, o, ho, _⟩ := mem_ready.1 hi
    unfold wpOp
    simp only [ho]
    have := q_step ((okAOs_get hok).2 i o q (by simpa using ho) hq) S him hun (hns i q him hq) hy (next := wpAny P md ops Q' (f + g) (listed.setIfInBounds i true)) (Q := Q') fun a' w' S' => wpAny_of_q hok hns hT f _ _ _ _ _ _ S' hK
    split at this
    · rename_i hw; rw [if_pos hw]; exact .inl this
    · rename_i hw; rw [if_neg hw]; exact this

/-- **A REGION THAT DRAWS ITS ORDER**: its first m operations in any order that its edges allow, the rest in that of the text. -/
theorem sound_draw {id : Nat} {ops : Array Oper} {dep : List (Nat × Nat)} (hm : P.follows .mixedOrders = true) (hok : okAOs P N ops ops.toList qs = true) (hd : drawOk .any ops dep qs m = true) {fr : Fr} {H : Heap} {a : Act} {w : World} {K : Fr → Heap → Prop} {Q : Exit → Act → World → Prop}
    (S : St N n M0 μ0 Hs w0 fr H a w) (hsf : setFree (qs.take m) H.get H.nx = true) (hr : qwalk P dep (fun fr H => runOps P K (qs.drop m) fr H) (qs.take m) 0 H.nx [] fr ⟨H.nx + m, H.bs⟩) (hq : ∀ fr' H' a' w', St N n M0 μ0 Hs w0 fr' H' a' w' → K fr' H' → Q .normal a' w') :
    (Code.region id ops true).wp P Q a w := by
  refine wp_region_any hm ?_
  simp only [drawOk, Bool.and_eq_true] at hd
  obtain ⟨⟨hd1, hdep⟩, hd2⟩ := hd
  have hE := early_of hd1
  have hmle : m ≤ ops.size := by
    simp only [Bool.or_eq_true, decide_eq_true_eq, Bool.and_eq_true] at hd1
    rcases hd1 with h | ⟨⟨h, _⟩, _⟩ <;> omega
  have hlen := (okAOs_get hok).1
  simp only [Array.length_toList] at hlen
  obtain ⟨hdef, M, μ, R, F, hn, G0⟩ := S
  have R0 : Rel M μ ⟨H.nx + m, H.bs⟩ { w with drawn := w.drawn + 1 } := by
    have R1 := R.room m
    exact ⟨R1.dom, R1.top, R1.cells, R1.maps, R1.iters, R1.inj, R1.imm, R1.apart⟩
  have S0 : QSt N n M0 μ0 Hs w0 H.nx m ((qs.take m).any AO.isSet) (Array.replicate ops.size false) (look fr) (Heap.get ⟨H.nx + m, H.bs⟩) a { w with drawn := w.drawn + 1 } :=
    ⟨hdef, fun hs j => by
      rw [setFree, hs] at hsf
      rcases Nat.lt_or_ge j H.nx with hj | hj
      · exact noIts_spec (η := H.get) (by simpa using hsf) j hj
      · show (H.get j).isIt = false; rw [R.top j hj]; rfl, by simpa using hmle, M, μ, fr, ⟨H.nx + m, H.bs⟩, rfl, rfl, rfl, R0, F, hn, ⟨G0.mem, G0.pin, ⟨G0.keep.os, G0.keep.tape, G0.keep.output, G0.keep.size, G0.keep.block⟩, G0.own, G0.fresh⟩, fun i _ _ => R.dom _ (by omega)⟩
  have inv0 : HeadInv .any ops m (Array.replicate ops.size false) :=
    ⟨by simp, fun j oj _ hl => (by rw [getD_replicate_false] at hl; cases hl), fun t _ ht => getD_in (by simpa using ht) (getD_replicate_false _ _)⟩
  have hw := wpQ_of_walk (nx := H.nx + m) (qs.take m) 0 H.nx [] [] fr ⟨H.nx + m, H.bs⟩ rfl (fun e he => by cases he) hr
  have htl : (qs.take m).length = m := by simp; omega
  have hA := qAny_lex (md := .any) (ops := ops) (qs := qs) (m := m) (g := ops.size - m) (depsB_spec hdep) hE (by omega) (qs.take m) 0 (Array.replicate ops.size false) [] (look fr) (Heap.get ⟨H.nx + m, H.bs⟩)
    (fun j hj => by rw [htl] at hj; simp [hj]) (by omega) inv0 (by rw [htl]; exact hd2) hw
  have := wpAny_of_q (md := .any) (Q' := Q) (g := ops.size - m) hok (fun i q hi hq hs => List.any_eq_true.2 ⟨q, List.mem_of_getElem? (by rw [List.getElem?_take, if_pos hi]; exact hq), hs⟩) (fun listed σ η a' w' hT S' => ?_) _ _ _ _ _ _ _ S0 hA
  · rw [htl, show m + (ops.size - m) = ops.size by omega] at this
    exact this
  · obtain ⟨hseq, fr1, H1, rfl, rfl, hnx1, hrun⟩ := hT
    obtain ⟨hd', _, _, M', μ', fr', H', hl', hg', hnx', R', F', hn', G', _⟩ := S'
    have S1 : St N n M0 μ0 Hs w0 fr1 H1 a' w' := ⟨hd', M', μ', R'.ext hg' (hnx'.trans hnx1.symm), F'.ext hl', by rw [hnx1]; omega, G'.ext hg'⟩
    have hdl : (ops.toList.drop m).length = ops.size - m := by simp
    have hseq' : Region.seqB .any ops (ops.toList.drop m).length m listed = true := by rw [hdl]; exact hseq
    have := wpAny_of_seq (P := P) (md := .any) (Q' := Q) (ops.toList.drop m) m listed a' w' (fun j => by simp [List.getElem?_drop]) hseq' (sound_ops (okAOs_drop m hok) S1 hrun hq)
    rwa [hdl] at this
end
end Go.Eng

namespace Go.Eng
open Go

inductive AC where
  | skip
  | ret
  | exit (id : Nat)
  | reg (ops : List AO)
  | draw (m : Nat) (dep : List (Nat × Nat)) (ops : List AO)
  | seq (a b : AC)
  | cond (c : AX) (a b : AC)
  | block (id : Nat) (a : AC)
  | loop (a : AC)
  | ghost (a : AC)

theorem cond_True {b : Bool} {A : Prop} (h : bif b then A else False) : b = true ∧ A := by
  cases b with
  | true => exact ⟨rfl, h⟩
  | false => exact h.elim
section
variable (P : Program)
def roomK (H : Heap) (m : Nat) (K : Nat → Heap → Prop) : Prop := match H with
  | ⟨nx, bs⟩ => K nx ⟨nx + m, bs⟩
def seqK (next : (XA → Fr → Heap → Prop) → Fr → Heap → Prop) (Q : XA → Fr → Heap → Prop) (x : XA) (fr : Fr) (H : Heap) : Prop := match x with
  | .normal => next Q fr H
  | .exit id => Q (.exit id) fr H
  | .ret => Q .ret fr H
def blockK (id : Nat) (Q : XA → Fr → Heap → Prop) (x : XA) (fr : Fr) (H : Heap) : Prop := match x with
  | .normal => Q .normal fr H
  | .exit j => bif Nat.beq j id then Q .normal fr H else Q (.exit j) fr H
  | .ret => Q .ret fr H
noncomputable def AC.run (n : Nat) (ac : AC) : (XA → Fr → Heap → Prop) → Fr → Heap → Prop := AC.rec (motive := fun _ => (XA → Fr → Heap → Prop) → Fr → Heap → Prop)
  (fun Q fr H => Q .normal fr H)
  (fun Q fr H => Q .ret fr H)
  (fun id Q fr H => Q (.exit id) fr H)
  (fun ops Q fr H => runOps P (Q .normal) ops fr H)
  (fun m dep ops Q fr H => bif setFree (ops.take m) H.get H.nx then roomK H m fun nx H => qwalk P dep (runOps P (Q .normal) (ops.drop m)) (ops.take m) 0 nx [] fr H else False)
  (fun _ _ iha ihb Q fr H => iha (seqK ihb Q) fr H)
  (fun c _ _ iha ihb Q fr H => match c.ev fr with
    | .bool t => Branch t (iha Q fr H) (ihb Q fr H)
    | _ => False)
  (fun id _ ih Q fr H => ih (blockK id Q) fr H)
  (fun _ ih Q fr H => LoopA n ih Q fr H)
  (fun _ ih Q fr H => To n fr H (ih Q)) ac
theorem AC.run_cond (n : Nat) (c : AX) (a b : AC) (Q : XA → Fr → Heap → Prop) (fr : Fr) (H : Heap) : AC.run P n (.cond c a b) Q fr H = match c.ev fr with
    | .bool t => Branch t (AC.run P n a Q fr H) (AC.run P n b Q fr H)
    | _ => False := rfl

def okC (N : Nat) : AC → Code → Bool
  | .ghost a, c => okC N a c
  | .skip, .skip => true
  | .ret, .ret => true
  | .exit i, .exit j => i == j
  | .reg qs, .region _ ops false => okAOs P N ops ops.toList qs
  | .draw m dep qs, .region _ ops true => P.follows .mixedOrders && okAOs P N ops ops.toList qs && drawOk .any ops dep qs m
  | .seq a b, .seq x y => okC N a x && okC N b y
  | .cond c a b, .cond c' x y => okX c' c && okC N a x && okC N b y
  | .block i a, .block j x => i == j && okC N a x
  | .loop a, .loop x => okC N a x
  | _, _ => false
end

section
variable {P : Program} {N n : Nat} {M0 : Mem} {μ0 : Pos} {H0 : Heap} {w0 : World}
theorem St.into {fr fr' : Fr} {H H' : Heap} {a : Act} {w : World} (S : St N n M0 μ0 H0 w0 fr H a w) (h : Into n fr H fr' H') : St N n M0 μ0 H0 w0 fr' H' a w := by
  obtain ⟨hd, M, μ, R, F, hn, G0⟩ := S
  obtain ⟨M', μ', R', F', hn', G⟩ := h N M μ w a.tmps R F hn
  exact ⟨hd, M', μ', R', F', hn', G0.trans G⟩

theorem sound_C : ∀ {ac : AC} {c : Code}, okC P N ac c = true → ∀ {Q : XA → Fr → Heap → Prop} {fr : Fr} {H : Heap} {a : Act} {w : World}, St N n M0 μ0 H0 w0 fr H a w → ac.run P n Q fr H → c.wp P (Post N n M0 μ0 H0 w0 Q) a w := by
  intro ac
  induction ac with
  | ghost x ih =>
    intro c h Q fr H a w S hr
    obtain ⟨fr', H', hi, hr⟩ := hr.ex
    have h' : okC P N x c = true := by cases c <;> simpa [okC] using h
    exact ih h' (S.into hi) hr
  | skip =>
    intro c h Q fr H a w S hr
    cases c <;> simp [okC] at h
    exact wp_skip ⟨.normal, fr, H, rfl, S, hr⟩
  | ret =>
    intro c h Q fr H a w S hr
    cases c <;> simp [okC] at h
    exact wp_ret ⟨.ret, fr, H, rfl, S, hr⟩
  | exit id =>
    intro c h Q fr H a w S hr
    cases c <;> simp [okC] at h
    subst h
    exact wp_exit ⟨.exit id, fr, H, rfl, S, hr⟩
  | reg qs =>
    intro c h Q fr H a w S hr
    cases c with
    | region id ops draw =>
      cases draw with
      | true => simp [okC] at h
      | false =>
        simp only [okC] at h
        exact wp_region_list (sound_ops h S hr fun fr' H' a' w' S' hk => ⟨.normal, fr', H', rfl, S', hk⟩)
    | _ => simp [okC] at h
  | draw m dep qs =>
    intro c h Q fr H a w S hr
    cases c with
    | region id ops draw =>
      cases draw with
      | false => simp [okC] at h
      | true =>
        simp only [okC, Bool.and_eq_true] at h
        obtain ⟨hsf, hr⟩ := cond_True hr
        exact sound_draw h.1.1 h.1.2 h.2 S hsf hr fun fr' H' a' w' S' hk => ⟨.normal, fr', H', rfl, S', hk⟩
    | _ => simp [okC] at h
  | seq x y ihx ihy =>
    intro c h Q fr H a w S hr
    cases c with
    | seq x' y' =>
      simp only [okC, Bool.and_eq_true] at h
      refine wp_seq (wp_mono (ihx h.1 S hr) ?_)
      rintro e a' w' ⟨xx, fr', H', he, S', hq⟩
      cases e <;> simp [xa] at he <;> subst he
      · exact ihy h.2 S' hq
      · exact ⟨_, fr', H', rfl, S', hq⟩
      · exact ⟨_, fr', H', rfl, S', hq⟩
    | _ => simp [okC] at h
  | cond c x y ihx ihy =>
    intro c' h Q fr H a w S hr
    cases c' with
    | cond c' x' y' =>
      simp only [okC, Bool.and_eq_true] at h
      rw [AC.run_cond] at hr
      split at hr
      · rename_i t ht
        obtain ⟨M, μ, R, F, _⟩ := S.ex
        have hc := rel_okX F h.1.1
        rw [ht] at hc
        exact wp_cond_split (rel_bool hc) (fun e => ihx h.1.2 S (hr.yes e)) (fun e => ihy h.2 S (hr.no e))
      · exact hr.elim
    | _ => simp [okC] at h
  | block id x ih =>
    intro c h Q fr H a w S hr
    cases c with
    | block j x' =>
      simp only [okC, Bool.and_eq_true, beq_iff_eq] at h
      obtain ⟨rfl, h⟩ := h
      refine wp_block (wp_mono (ih h S hr) ?_)
      rintro e a' w' ⟨xx, fr', H', he, S', hq⟩
      cases e <;> simp [xa] at he <;> subst he
      · exact ⟨_, fr', H', rfl, S', hq⟩
      · rename_i k
        simp only [Exit.inBlock]
        by_cases hk : k = id
        · subst hk
          simp only [blockK, Nat.beq_refl, cond_true] at hq
          rw [if_pos rfl]
          exact ⟨_, fr', H', rfl, S', hq⟩
        · simp only [blockK, beq_false hk, cond_false] at hq
          rw [if_neg hk]
          exact ⟨_, fr', H', rfl, S', hq⟩
      · exact ⟨_, fr', H', rfl, S', hq⟩
    | _ => simp [okC] at h
  | loop x ih =>
    intro c h Q fr H a w S hr
    cases c with
    | loop x' =>
      simp only [okC] at h
      obtain ⟨I, m0, ⟨fr0, H1, hi, h0⟩, hbody⟩ := hr.ex
      refine wp_loop_ghost (fun m a w => ∃ fr H, St N n M0 μ0 H0 w0 fr H a w ∧ I m fr H) m0 ⟨fr0, H1, S.into hi, h0⟩ ?_
      rintro m a' w' ⟨fr', H', S', hI⟩
      refine wp_mono (ih h S' (hbody m fr' H' hI)) ?_
      rintro e a'' w'' ⟨xx, fr'', H'', he, S'', hq⟩
      cases e <;> simp [xa] at he <;> subst he
      · obtain ⟨m', hm, fr3, H3, hi3, h3⟩ := hq
        exact ⟨m', hm, fr3, H3, S''.into hi3, h3⟩
      · exact ⟨_, fr'', H'', rfl, S'', hq⟩
      · exact ⟨_, fr'', H'', rfl, S'', hq⟩
    | _ => simp [okC] at h
end
end Go.Eng

namespace Go.Eng
open Go

/-! ### Whole functions -/
inductive AR where
  | tmp (t : Nat)
  | cell (t : Nat) (agg : Bool) (n : Nat)

def resK (fr : Fr) (H : Heap) : List AR → (List AV → Prop) → Prop
  | [], K => K []
  | .tmp t :: r, K => fv (look fr t) fun v => resK fr H r fun vs => K (v :: vs)
  | .cell t agg n :: r, K => match look fr t with
    | .ptr k off => match H.get k with
      | .cells cs => loadK agg n (cs.drop off) fun v => resK fr H r fun vs => K (v :: vs)
      | _ => False
    | _ => False
def one : List AV → AV
  | [v] => v
  | vs => .tuple vs

/-- What a function hands back: its result, and what of the heap is kept. -/
structure RetA (n : Nat) (K : AV → Heap → Prop) (v : AV) (H : Heap) : Prop where
  ex : ∃ v' H', Into n [(0, v)] H [(0, v')] H' ∧ K v' H'

def frame0 : Nat → List AV → Fr
  | _, [] => []
  | i, v :: r => (i, v) :: frame0 (i + 1) r

def endK (n : Nat) (rs : List AR) (K : AV → Heap → Prop) : XA → Fr → Heap → Prop
  | .exit _, _, _ => False
  | .normal, fr, H => resK fr H rs fun vs => RetA n K (one vs) H
  | .ret, fr, H => resK fr H rs fun vs => RetA n K (one vs) H

def okRes (P : Program) : List ResultVar → List AR → Bool
  | [], [] => true
  | .tmp t :: r, .tmp t' :: r' => t == t' && okRes P r r'
  | .cell a t :: r, .cell a' agg n :: r' => a == a' && shapeOk P t agg n && okRes P r r'
  | _, _ => false

/-- A function's text, held against the program. -/
def okF (P : Program) (f : FuncId) (N : Nat) (ac : AC) (rs : List AR) : Bool := callable P f && (match P.funcs[f]? with
  | some fn => fn.ntmps == N && okRes P fn.results.toList rs && (match fn.body with
    | some c => okC P N ac c
    | none => false)
  | none => false)

section
variable {P : Program}

theorem look_frame0 : ∀ (args : List AV) (i t : Nat), (t < i → look (frame0 i args) t = .any) ∧ (∀ j, t = i + j → look (frame0 i args) t = args.getD j .any)
  | [], i, t => ⟨fun _ => rfl, fun j _ => by simp [frame0, look]⟩
  | v :: r, i, t => by
    obtain ⟨h1, h2⟩ := look_frame0 r (i + 1) t
    refine ⟨fun h => ?_, fun j hj => ?_⟩
    · simp only [frame0, look]; rw [beq_false (by omega)]; exact h1 (by omega)
    · simp only [frame0, look]
      cases j with
      | zero => subst hj; simp
      | succ j => rw [beq_false (by omega)]; simpa using h2 j (by omega)

theorem relF0 {M : Mem} {μ : Pos} {args : List AV} {vs : Array Value} {N : Nat} (h : relL M args μ vs.toList) (hN : args.length ≤ N) : RelF N M μ (frame0 0 args) (vs ++ Array.replicate (N - vs.size) undef) := by
  have hl := relL_length h
  simp only [Array.length_toList] at hl
  refine ⟨by simp; omega, fun t => ?_⟩
  rw [(look_frame0 args 0 t).2 t (by omega)]
  cases ht : args[t]? with
  | none => simp [List.getD, ht, relV]
  | some c =>
    obtain ⟨v, hv, hr⟩ := relL_get h ht
    have : t < vs.size := by
      rcases Nat.lt_or_ge t vs.size with h' | h'
      · exact h'
      · simp [Array.getElem?_eq_none h'] at hv
    simp only [Array.getElem?_toList] at hv
    rw [show args.getD t .any = c by simp [List.getD, ht], Array.getD_eq_getD_getElem?, Array.getElem?_append_left this, hv]
    exact hr

def resOne (tmps : Array Value) : ResultVar → Sem Value
  | .tmp t => pure (tmps.getD t undef)
  | .cell a t => do loadVar t (← asAddr (tmps.getD a undef))
theorem results_eq (fn : Func) (tmps : Array Value) : results fn tmps = (do
    let vs ← fn.results.mapM (resOne tmps)
    pure (if h : vs.size = 1 then vs[0] else .tuple vs)) := by
  unfold results
  congr 1

theorem run_results {N : Nat} {M : Mem} {μ : Pos} {H : Heap} {w : World} {fr : Fr} {tmps : Array Value} (R : Rel M μ H w) (F : RelF N M μ fr tmps) : ∀ {rv : List ResultVar} {rs : List AR}, okRes P rv rs = true → ∀ {K : List AV → Prop}, resK fr H rs K →
    ∃ vs cs, (rv.mapM (resOne tmps)).run P w = .ok vs w ∧ relL M cs μ vs ∧ K cs
  | [], [], _, K, hk => ⟨[], [], by simp, by simp [relL], hk⟩
  | .tmp t :: r, .tmp t' :: r', h, K, hk => by
    simp only [okRes, Bool.and_eq_true, beq_iff_eq] at h
    obtain ⟨rfl, h⟩ := h
    simp only [resK, fv_eq] at hk
    obtain ⟨vs, cs, h1, h2, h3⟩ := run_results R F h hk
    refine ⟨tmps.getD t undef :: vs, look fr t :: cs, ?_, ?_, h3⟩
    · simp only [List.mapM_cons, resOne, Sem.run_bind, Sem.run_pure, Result.andThen_ok, h1]
    · simp only [relL]; exact ⟨_, _, rfl, F.slot t, h2⟩
  | .cell q t :: r, .cell q' agg n :: r', h, K, hk => by
    simp only [okRes, Bool.and_eq_true, beq_iff_eq] at h
    obtain ⟨⟨rfl, hs⟩, h⟩ := h
    simp only [resK] at hk
    split at hk
    · rename_i k off hq
      split at hk
      · rename_i cs hc
        have hx := F.slot q
        rw [hq] at hx; simp only [relV] at hx
        obtain ⟨b, sz, hμ, hv⟩ := hx
        have fin : ∀ c u, (loadVar t ⟨b, off, none⟩).run P w = .ok u w → relV M c μ u → resK fr H r' (fun vs => K (c :: vs)) → ∃ vs cs, (List.mapM (resOne tmps) (.cell q t :: r)).run P w = .ok vs w ∧ relL M cs μ vs ∧ K cs := by
          intro c u hu hr hk
          obtain ⟨vs, cs, h1, h2, h3⟩ := run_results R F h hk
          refine ⟨u :: vs, c :: cs, ?_, ?_, h3⟩
          · simp only [List.mapM_cons, resOne, Sem.run_bind, Sem.run_pure, Result.andThen_ok, hv, asAddr, hu, h1]
          · simp only [relL]; exact ⟨_, _, rfl, hr, h2⟩
        rcases loadK_spec hk with ⟨rfl, hn, hk⟩ | ⟨rfl, c, r2, hcr, hk⟩
        · by_cases hn0 : n = 0
          · subst hn0
            refine fin (.agg []) (.agg #[]) ?_ (by simp only [relV]; exact ⟨_, rfl, by simp [relL]⟩) (by simpa using hk)
            simp only [loadVar, Sem.run_bind, run_isAgg hs, Result.andThen_ok, if_true, run_sizeOf (shapeOk_sized hs), loadCells, loadCellsFrom, Sem.run_pure]
          · obtain ⟨vs, hl1, hl2, hl3⟩ := cells_cells (off := off) R hc hμ n (by simp at hn; omega)
            refine fin _ (.agg vs.toArray) ?_ (by simp only [relV]; exact ⟨_, rfl, hl2⟩) hk
            have := run_loadCells_list (P := P) w ⟨b, off, none⟩ vs hl3
            rw [hl1] at this
            simp only [loadVar, Sem.run_bind, run_isAgg hs, Result.andThen_ok, if_true, run_sizeOf (shapeOk_sized hs), this, Sem.run_pure]
        · have hlen : off + 1 ≤ cs.length := by have := congrArg List.length hcr; simp at this; omega
          obtain ⟨vs, hl1, hl2, hl3⟩ := cells_cells R hc hμ 1 hlen
          rw [hcr] at hl2
          simp only [List.take_succ_cons, List.take_zero, relL] at hl2
          obtain ⟨v, _, rfl, hrel, rfl⟩ := hl2
          have h3 := hl3 0 v rfl
          rw [add_addr] at h3
          simp only [Nat.add_zero] at h3
          refine fin c v ?_ hrel hk
          simp only [loadVar, Sem.run_bind, run_isAgg hs, Result.andThen_ok, Bool.false_eq_true, if_false, run_load, h3]
      · exact hk.elim
    · exact hk.elim
  | [], _ :: _, h, _, _ => by simp [okRes] at h
  | .tmp _ :: _, [], h, _, _ => by simp [okRes] at h
  | .cell _ _ :: _, [], h, _, _ => by simp [okRes] at h
  | .tmp _ :: _, .cell _ _ _ :: _, h, _, _ => by simp [okRes] at h
  | .cell _ _ :: _, .tmp _ :: _, h, _, _ => by simp [okRes] at h

theorem run_results_fn {N : Nat} {M : Mem} {μ : Pos} {H : Heap} {w : World} {fr : Fr} {tmps : Array Value} (R : Rel M μ H w) (F : RelF N M μ fr tmps) {fn : Func} {rs : List AR} (h : okRes P fn.results.toList rs = true) {K : List AV → Prop} (hk : resK fr H rs K) :
    ∃ v cs, (results fn tmps).run P w = .ok v w ∧ relV M (one cs) μ v ∧ K cs := by
  obtain ⟨vs, cs, h1, h2, h3⟩ := run_results R F h hk
  have hl := relL_length h2
  rw [results_eq, Array.mapM_eq_mapM_toList]
  simp only [bind_map_left, Sem.run_bind]
  rw [h1]
  simp only [Result.andThen_ok]
  by_cases h4 : vs.length = 1
  · match vs, cs, h4, hl, h2 with
    | [v], [c], _, _, h2 =>
      simp only [relL] at h2
      obtain ⟨_, _, e, h2, _⟩ := h2
      simp only [List.cons.injEq] at e
      refine ⟨v, [c], by simp, ?_, h3⟩
      simp only [one]; rw [e.1]; exact h2
  · refine ⟨.tuple vs.toArray, cs, by simp [h4], ?_, h3⟩
    have : one cs = .tuple cs := by
      match cs with
      | [] => rfl
      | [c] => simp at hl; omega
      | _ :: _ :: _ => rfl
    rw [this]; simp only [relV]; exact ⟨_, rfl, h2⟩

/-- **A CALL, BY ITS TEXT.** -/
theorem callA_of {f : FuncId} {N : Nat} {ac : AC} {rs : List AR} (hok : okF P f N ac rs = true) {args : List AV} {H : Heap} {K : AV → Heap → Prop} (hN : args.length ≤ N)
    (h : ac.run P H.nx (endK H.nx rs K) (frame0 0 args) H) : CallA P f args H K := by
  unfold okF at hok
  simp only [Bool.and_eq_true] at hok
  obtain ⟨hcall, hok⟩ := hok
  refine ⟨hcall, fun M μ w vs R hv => ?_⟩
  split at hok
  · rename_i fn hf
    simp only [Bool.and_eq_true, beq_iff_eq] at hok
    obtain ⟨⟨hn, hres⟩, hok⟩ := hok
    split at hok
    · rename_i c hb
      refine calls_of_wp hf hb ?_
      rw [hn]
      have S : St N H.nx M μ H w (frame0 0 args) H { tmps := vs ++ Array.replicate (N - vs.size) undef, defers := [] } w :=
        ⟨rfl, M, μ, R, relF0 hv hN, Nat.le_refl _, Grow.refl _ _ _ _ _⟩
      refine wp_mono (sound_C hok S h) ?_
      rintro e a' w' ⟨x, fr', H', hx, S', hq⟩
      have fin : resK fr' H' rs (fun vs => RetA H.nx K (one vs) H') → a'.defers = [] ∧ ∃ v, (results fn a'.tmps).run P w' = .ok v w' ∧
          (∃ v' M' μ' H' c, Ending.returned v = .returned v' ∧ Rel M' μ' H' w' ∧ relV M' c μ' v' ∧ Move M μ H w M' μ' H' w' ∧ K c H') := by
        intro hk
        obtain ⟨hd, M1, μ1, R1, F1, hn1, G1⟩ := S'
        obtain ⟨v, cs, h1, h2, h3⟩ := run_results_fn R1 F1 hres hk
        refine ⟨hd, v, h1, ?_⟩
        obtain ⟨v', H2, hi, hk⟩ := h3.ex
        have F1' : RelF 1 M1 μ1 [(0, one cs)] #[v] := ⟨rfl, fun t => by
          simp only [look]
          by_cases ht : 0 = t
          · subst ht; simpa using h2
          · rw [beq_false ht]; simp only [cond_false, relV]⟩
        obtain ⟨M2, μ2, R2, F2, hn2, G2⟩ := hi 1 M1 μ1 w' #[v] R1 F1' hn1
        refine ⟨v, M2, μ2, H2, v', rfl, R2, ?_, ?_, hk⟩
        · have := F2.slot 0; simpa [look] using this
        · have G := G1.trans G2
          refine ⟨fun k x hx => ?_, G, hn2⟩
          rw [G.pin k (R.pos_lt hx)]; exact hx
      cases e <;> simp [xa] at hx <;> subst hx
      · exact fin hq
      · exact hq.elim
      · exact fin hq
    · cases hok
  · cases hok
end
end Go.Eng

namespace Go.Eng
open Go

mutual
def ren (f : Nat → Option Nat) : AV → AV
  | .ptr k o => match f k with | some j => .ptr j o | none => .any
  | .slice k o l c e => match f k with | some j => .slice j o l c e | none => .any
  | .map k => match f k with | some j => .map j | none => .any
  | .func g cs => .func g (renL f cs)
  | .agg cs => .agg (renL f cs)
  | .tuple cs => .tuple (renL f cs)
  | c => c
def renL (f : Nat → Option Nat) : List AV → List AV
  | [] => []
  | c :: cs => ren f c :: renL f cs
end

section
variable {M : Mem} {μ μ' : Pos}
mutual
theorem relV_ren {f : Nat → Option Nat} (hf : ∀ k j x, f k = some j → μ k = some x → μ' j = some x) : ∀ (c : AV) {v : Value}, relV M c μ v → relV M (ren f c) μ' v
  | .any, _, _ => by simp only [ren, relV]
  | .bool b, _, h => by simpa only [ren, relV] using h
  | .int k n, _, h => by simpa only [ren, relV] using h
  | .str s, _, h => by simpa only [ren, relV] using h
  | .nilp, _, h => by simpa only [ren, relV] using h
  | .ptr k o, _, h => by
    simp only [ren]
    split
    · rename_i j hj; simp only [relV] at *; obtain ⟨b, sz, h1, h2⟩ := h; exact ⟨b, sz, hf k j _ hj h1, h2⟩
    · simp only [relV]
  | .dptr cs, _, h => by simpa only [ren, relV] using h
  | .nils, _, h => by simpa only [ren, relV] using h
  | .slice k o l c e, _, h => by
    simp only [ren]
    split
    · rename_i j hj; simp only [relV] at *; obtain ⟨b, sz, q, h1, h2⟩ := h; exact ⟨b, sz, q, hf k j _ hj h1, h2⟩
    · simp only [relV]
  | .dslice cs l c, _, h => by simpa only [ren, relV] using h
  | .nilm, _, h => by simpa only [ren, relV] using h
  | .map k, _, h => by
    simp only [ren]
    split
    · rename_i j hj; simp only [relV] at *; obtain ⟨b, sz, h1, h2⟩ := h; exact ⟨b, sz, hf k j _ hj h1, h2⟩
    · simp only [relV]
  | .nilf, _, h => by simpa only [ren, relV] using h
  | .func g cs, _, h => by simp only [relV, ren] at *; obtain ⟨vs, h1, h2⟩ := h; exact ⟨vs, h1, relL_ren hf cs h2⟩
  | .agg cs, _, h => by simp only [relV, ren] at *; obtain ⟨vs, h1, h2⟩ := h; exact ⟨vs, h1, relL_ren hf cs h2⟩
  | .tuple cs, _, h => by simp only [relV, ren] at *; obtain ⟨vs, h1, h2⟩ := h; exact ⟨vs, h1, relL_ren hf cs h2⟩
theorem relL_ren {f : Nat → Option Nat} (hf : ∀ k j x, f k = some j → μ k = some x → μ' j = some x) : ∀ (cs : List AV) {vs : List Value}, relL M cs μ vs → relL M (renL f cs) μ' vs
  | [], _, h => by simpa only [relL, renL] using h
  | c :: cs, _, h => by
    simp only [relL, renL] at *; obtain ⟨v, r, h1, h2, h3⟩ := h
    exact ⟨v, r, h1, relV_ren hf c h2, relL_ren hf cs h3⟩
end
theorem relP_ren {f : Nat → Option Nat} (hf : ∀ k j x, f k = some j → μ k = some x → μ' j = some x) : ∀ (cs : List AV) {vs : List Value}, relP M μ cs vs → relP M μ' (renL f cs) vs
  | [], _, _ => by simp [renL, relP]
  | c :: cs, _, h => by obtain ⟨v, r, h1, h2, h3⟩ := h; simp only [renL, relP]; exact ⟨v, r, h1, relV_ren hf c h2, relP_ren hf cs h3⟩
theorem relP_data : ∀ (cs : List AV) {vs : List Value}, (∀ c ∈ cs, noLoc c = true) → relP M μ cs vs → relP M μ' cs vs
  | [], _, _, _ => trivial
  | c :: cs, _, hn, h => by
    obtain ⟨v, r, h1, h2, h3⟩ := h
    exact ⟨v, r, h1, relV_data c (hn c (by simp)) h2, relP_data cs (fun x hx => hn x (by simp [hx])) h3⟩
end

/-! ### What is kept of a heap, under new numbers -/
def posOf (keep : List (Nat × Bool)) (k : Nat) : Option Nat := go keep 0
where
  go : List (Nat × Bool) → Nat → Option Nat
    | [], _ => none
    | (j, _) :: r, i => bif Nat.beq j k then some i else go r (i + 1)
def renB (f : Nat → Option Nat) : AB → AB
  | .cells cs => .cells (renL f cs)
  | .iter k l c => match f k with
    | some k' => .iter k' l c
    | none => .dead
  | b => b
def gcB (f : Nat → Option Nat) (H : Heap) : List (Nat × Bool) → Nat → List (Nat × AB)
  | [], _ => []
  | (k, d) :: r, i => (i, bif d then H.get k else renB f (H.get k)) :: gcB f H r (i + 1)
def gcH (keep : List (Nat × Bool)) (H : Heap) : Heap := ⟨keep.length, gcB (posOf keep) H keep 0⟩
def gcF (keep : List (Nat × Bool)) (fr : Fr) : List Nat → Fr
  | [] => []
  | t :: r => (t, ren (posOf keep) (look fr t)) :: gcF keep fr r
def dataB : AB → Prop
  | .cells cs => ∀ c ∈ cs, noLoc c = true
  | .iter _ _ _ => False
  | _ => True
def fresh (k : Nat) : List (Nat × Bool) → Bool
  | [] => true
  | (j, _) :: r => !Nat.beq j k && fresh k r
def distinct : List (Nat × Bool) → Bool
  | [] => true
  | (k, _) :: r => fresh k r && distinct r
/-- The first n stay where they are; none is kept twice. -/
def gcOk (n : Nat) (keep : List (Nat × Bool)) : Bool := distinct keep && (go n keep 0)
where
  go : Nat → List (Nat × Bool) → Nat → Bool
    | 0, _, _ => true
    | _ + 1, [], _ => false
    | n + 1, (k, _) :: r, i => Nat.beq k i && go n r (i + 1)
def allData (H : Heap) : List (Nat × Bool) → Prop
  | [] => True
  | (k, true) :: r => dataB (H.get k) ∧ allData H r
  | (_, false) :: r => allData H r

theorem posOf_go : ∀ (keep : List (Nat × Bool)) (k i j : Nat), posOf.go k keep i = some j → ∃ m d, j = i + m ∧ keep[m]? = some (k, d)
  | [], k, i, j, h => by simp [posOf.go] at h
  | (q, d) :: r, k, i, j, h => by
    simp only [posOf.go] at h
    by_cases hq : q = k
    · subst hq; simp at h; exact ⟨0, d, by omega, rfl⟩
    · rw [beq_false hq] at h
      obtain ⟨m, d', h1, h2⟩ := posOf_go r k (i + 1) j (by simpa using h)
      exact ⟨m + 1, d', by omega, by simpa using h2⟩
theorem gcB_get (f : Nat → Option Nat) (H : Heap) : ∀ (keep : List (Nat × Bool)) (i j : Nat), (j < i → bget (gcB f H keep i) j = .dead) ∧ (∀ m, j = i + m → bget (gcB f H keep i) j = match keep[m]? with | some (k, d) => (bif d then H.get k else renB f (H.get k)) | none => .dead)
  | [], i, j => ⟨fun _ => rfl, fun m _ => by simp [gcB, bget]⟩
  | (k, d) :: r, i, j => by
    obtain ⟨h1, h2⟩ := gcB_get f H r (i + 1) j
    refine ⟨fun h => ?_, fun m hm => ?_⟩
    · simp only [gcB, bget]; rw [beq_false (by omega)]; exact h1 (by omega)
    · simp only [gcB, bget]
      cases m with
      | zero => subst hm; simp
      | succ m => rw [beq_false (by omega)]; simpa using h2 m (by omega)
theorem gcH_get (keep : List (Nat × Bool)) (H : Heap) (j : Nat) : (gcH keep H).get j = match keep[j]? with | some (k, d) => (bif d then H.get k else renB (posOf keep) (H.get k)) | none => .dead :=
  (gcB_get _ H keep 0 j).2 j (by omega)
theorem fresh_spec {k : Nat} : ∀ {keep : List (Nat × Bool)}, fresh k keep = true → ∀ j d, (j, d) ∈ keep → j ≠ k
  | [], _, j, d, h => by simp at h
  | (q, e) :: r, hf, j, d, h => by
    simp only [fresh, Bool.and_eq_true, Bool.not_eq_true'] at hf
    rcases List.mem_cons.1 h with h | h
    · simp only [Prod.mk.injEq] at h; obtain ⟨rfl, rfl⟩ := h
      intro e; subst e; simp at hf
    · exact fresh_spec hf.2 j d h
theorem distinct_spec : ∀ {keep : List (Nat × Bool)}, distinct keep = true → ∀ (i j k : Nat) (d e : Bool), keep[i]? = some (k, d) → keep[j]? = some (k, e) → i = j
  | [], _, i, j, k, d, e, h, _ => by simp at h
  | (q, x) :: r, hd, i, j, k, d, e, hi, hj => by
    simp only [distinct, Bool.and_eq_true] at hd
    cases i with
    | zero =>
      cases j with
      | zero => rfl
      | succ j =>
        simp at hi hj
        obtain ⟨rfl, rfl⟩ := hi
        exact absurd rfl (fresh_spec hd.1 q e (List.mem_of_getElem? hj))
    | succ i =>
      cases j with
      | zero =>
        simp at hi hj
        obtain ⟨rfl, rfl⟩ := hj
        exact absurd rfl (fresh_spec hd.1 q d (List.mem_of_getElem? hi))
      | succ j =>
        simp at hi hj
        rw [distinct_spec hd.2 i j k d e hi hj]
theorem gcOk_go : ∀ {n : Nat} {keep : List (Nat × Bool)} {i : Nat}, gcOk.go n keep i = true → n ≤ keep.length ∧ ∀ m, m < n → ∃ d, keep[m]? = some (i + m, d)
  | 0, _, _, _ => ⟨Nat.zero_le _, fun m h => by omega⟩
  | _ + 1, [], _, h => by simp [gcOk.go] at h
  | n + 1, (k, d) :: r, i, h => by
    simp only [gcOk.go, Bool.and_eq_true] at h
    obtain ⟨h1, h2⟩ := gcOk_go h.2
    have hk : k = i := Nat.eq_of_beq_eq_true h.1
    refine ⟨by simp; omega, fun m hm => ?_⟩
    cases m with
    | zero => exact ⟨d, by simp [hk]⟩
    | succ m => obtain ⟨d', h3⟩ := h2 m (by omega); exact ⟨d', by rw [List.getElem?_cons_succ, h3]; congr 2; omega⟩
theorem allData_spec {H : Heap} : ∀ {keep : List (Nat × Bool)}, allData H keep → ∀ (k : Nat), (k, true) ∈ keep → dataB (H.get k)
  | [], _, k, h => by simp at h
  | (q, true) :: r, ha, k, h => by
    rcases List.mem_cons.1 h with h | h
    · simp at h; subst h; exact ha.1
    · exact allData_spec ha.2 k h
  | (q, false) :: r, ha, k, h => by
    rcases List.mem_cons.1 h with h | h
    · simp at h
    · exact allData_spec (keep := r) ha k h

theorem gcH_iter {keep : List (Nat × Bool)} {H : Heap} (hdata : allData H keep) {j k : Nat} {left : List (AV × AV)} {cur : Option (AV × AV)} (h : (gcH keep H).get j = .iter k left cur) :
    ∃ j0 k0 d, keep[j]? = some (j0, d) ∧ H.get j0 = .iter k0 left cur ∧ posOf keep k0 = some k := by
  rw [gcH_get] at h
  cases hk : keep[j]? with
  | none => rw [hk] at h; cases h
  | some x =>
    obtain ⟨j0, d⟩ := x
    rw [hk] at h
    cases d with
    | true =>
      simp only [cond_true] at h
      have := allData_spec hdata j0 (List.mem_of_getElem? hk)
      rw [h] at this; exact this.elim
    | false =>
      simp only [cond_false] at h
      cases hg : H.get j0 with
      | dead => rw [hg] at h; cases h
      | cells cs => rw [hg] at h; cases h
      | map es => rw [hg] at h; cases h
      | iter k0 l c =>
        rw [hg] at h; simp only [renB] at h
        split at h
        · rename_i k1 hk1; cases h; exact ⟨j0, k0, false, rfl, hg, hk1⟩
        · cases h

/-- **What is not kept is let go; the rest gets new numbers.** -/
theorem Into.gc {n : Nat} {fr : Fr} {H : Heap} (keep : List (Nat × Bool)) (slots : List Nat) (hok : gcOk n keep = true) (hdata : allData H keep) : Into n fr H (gcF keep fr slots) (gcH keep H) := by
  intro N M μ w tmps R F hn
  simp only [gcOk, Bool.and_eq_true] at hok
  obtain ⟨hdis, hpin⟩ := hok
  obtain ⟨hlen, hpin⟩ := gcOk_go hpin
  let μ' : Pos := fun j => (keep[j]?).bind fun x => μ x.1
  have hμ' : ∀ (j k : Nat) (d : Bool), keep[j]? = some (k, d) → ∀ x, μ k = some x → μ' j = some x := by
    intro j k d hj x hx
    simp only [μ', hj, Option.bind_some, hx]
  have hμ2 : ∀ (j k : Nat) (d : Bool), keep[j]? = some (k, d) → ∀ x, μ' j = some x → μ k = some x := by
    intro j k d hj x hx
    simpa only [μ', hj, Option.bind_some] using hx
  have hf : ∀ k j x, posOf keep k = some j → μ k = some x → μ' j = some x := by
    intro k j x hj hx
    obtain ⟨m, d, h1, h2⟩ := posOf_go keep k 0 j hj
    exact hμ' j k d (by rw [h1, Nat.zero_add]; exact h2) x hx
  have alive : ∀ j, (gcH keep H).get j ≠ .dead → ∃ k d, keep[j]? = some (k, d) ∧ H.get k ≠ .dead := by
    intro j hj
    rw [gcH_get] at hj
    cases hk : keep[j]? with
    | none => rw [hk] at hj; exact absurd rfl hj
    | some x =>
      obtain ⟨k, d⟩ := x
      refine ⟨k, d, rfl, fun h => hj ?_⟩
      simp only [hk, h, renB]; cases d <;> rfl
  have own : ∀ b, Own μ' (gcH keep H) b → Own μ H b := by
    rintro b ⟨j, s, hj, hx⟩
    obtain ⟨k, d, h1, h2⟩ := alive j hj
    exact ⟨k, s, h2, hμ2 j k d h1 _ hx⟩
  refine ⟨M, μ', ⟨fun j hj => ?_, fun j hj => ?_, fun j cs hj => ?_, fun j es hj => ?_, R.walks (Mem.le_refl _) (fun j k' left cur hj => ?_), fun i j b s t hi hj hx hy => ?_, R.imm, fun j b s hj hx o => ?_⟩, ⟨F.size, fun t => ?_⟩, by simp [gcH]; omega,
    ⟨Mem.le_refl _, fun k hk => ?_, Keep.refl _ _, fun b hb => .inl (own b hb), fun _ _ _ h => .inl h⟩⟩
  · simp only [μ', List.getElem?_eq_none (show keep.length ≤ j from hj), Option.bind_none]
  · rw [gcH_get, List.getElem?_eq_none (by simpa [gcH] using hj)]
  · rw [gcH_get] at hj
    cases hk : keep[j]? with
    | none => rw [hk] at hj; cases hj
    | some x =>
      obtain ⟨k, d⟩ := x
      rw [hk] at hj
      cases d with
      | true =>
        simp only [cond_true] at hj
        obtain ⟨b, sz, c, el, fz, h1, h2, h3, h4, h5⟩ := R.cells k cs hj
        refine ⟨b, sz, c, el, fz, hμ' j k true hk _ h1, h2, h3, h4, relP_data cs ?_ h5⟩
        have := allData_spec hdata k (List.mem_of_getElem? hk)
        rw [hj] at this; exact this
      | false =>
        simp only [cond_false] at hj
        cases hg : H.get k with
        | cells ds =>
          rw [hg] at hj; simp only [renB, AB.cells.injEq] at hj; subst hj
          obtain ⟨b, sz, c, el, fz, h1, h2, h3, h4, h5⟩ := R.cells k ds hg
          exact ⟨b, sz, c, el, fz, hμ' j k false hk _ h1, h2, h3, h4, relP_ren hf ds h5⟩
        | dead => rw [hg] at hj; simp [renB] at hj
        | map es => rw [hg] at hj; simp [renB] at hj
        | iter k' l c => rw [hg] at hj; simp only [renB] at hj; split at hj <;> cases hj
  · rw [gcH_get] at hj
    cases hk : keep[j]? with
    | none => rw [hk] at hj; cases hj
    | some x =>
      obtain ⟨k, d⟩ := x
      rw [hk] at hj
      have hg : H.get k = .map es := by
        cases d with
        | true => simpa using hj
        | false =>
          have hj : renB (posOf keep) (H.get k) = .map es := hj
          cases hg : H.get k with
          | dead => rw [hg] at hj; cases hj
          | cells cs => rw [hg] at hj; cases hj
          | map es' => rw [hg] at hj; exact hj
          | iter k' l c => rw [hg] at hj; simp only [renB] at hj; split at hj <;> cases hj
      obtain ⟨b, sz, ents, clock, h1, h2⟩ := R.maps k es hg
      exact ⟨b, sz, ents, clock, hμ' j k d hk _ h1, h2⟩
  · obtain ⟨j0, k0, d, h1, h2, h3⟩ := gcH_iter hdata hj
    obtain ⟨es, hes⟩ := R.iter_map h2
    refine ⟨j0, k0, h2, ?_, fun x hx => hμ' j j0 d h1 x hx, fun x hx => hf k0 k' x h3 hx, fun _ _ _ _ => rfl, fun _ _ _ _ => rfl⟩
    obtain ⟨m, d', e1, e2⟩ := posOf_go keep k0 0 k' h3
    rw [Nat.zero_add] at e1; subst e1
    rw [gcH_get, e2]; simp only [hes]
    cases d' <;> simp [renB]
  · obtain ⟨k, d, h1, h2⟩ := alive i hi
    obtain ⟨k', d', h3, h4⟩ := alive j hj
    have := R.inj k k' b s t h2 h4 (hμ2 i k d h1 _ hx) (hμ2 j k' d' h3 _ hy)
    subst this
    exact distinct_spec hdis i j k d d' h1 h3
  · obtain ⟨k, d, h1, h2⟩ := alive j hj
    exact R.apart k b s h2 (hμ2 j k d h1 _ hx) o
  · have key : ∀ (sl : List Nat), relV M (look (gcF keep fr sl) t) μ' (tmps.getD t undef) := by
      intro sl
      induction sl with
      | nil => simp [gcF, look, relV]
      | cons q r ih =>
        simp only [gcF, look]
        by_cases hq : q = t
        · subst hq; simpa using relV_ren hf _ (F.slot q)
        · rw [beq_false hq]; exact ih
    exact key slots
  · obtain ⟨d, h1⟩ := hpin k hk
    rw [Nat.zero_add] at h1
    simp only [μ', h1, Option.bind_some]

theorem To.gc {n : Nat} {fr : Fr} {H : Heap} {J : Fr → Heap → Prop} (keep : List (Nat × Bool)) (slots : List Nat) (hok : gcOk n keep = true) (hdata : allData H keep) (h : J (gcF keep fr slots) (gcH keep H)) : To n fr H J :=
  ⟨_, _, Into.gc keep slots hok hdata, h⟩
theorem RetA.gc {n : Nat} {K : AV → Heap → Prop} {v : AV} {H : Heap} (keep : List (Nat × Bool)) (hok : gcOk n keep = true) (hdata : allData H keep) (h : K (ren (posOf keep) v) (gcH keep H)) : RetA n K v H :=
  ⟨_, _, Into.gc keep [0] hok hdata, h⟩

mutual
theorem ren_data (f : Nat → Option Nat) : ∀ (c : AV), noLoc c = true → ren f c = c
  | .any, _ | .bool _, _ | .int _ _, _ | .str _, _ | .nilp, _ | .dptr _, _ | .nils, _ | .dslice _ _ _, _ | .nilm, _ | .nilf, _ => by simp only [ren]
  | .ptr _ _, h | .slice _ _ _ _ _, h | .map _, h => by simp [noLoc] at h
  | .func g cs, h => by simp only [noLoc] at h; simp only [ren, renL_data f cs h]
  | .agg cs, h => by simp only [noLoc] at h; simp only [ren, renL_data f cs h]
  | .tuple cs, h => by simp only [noLoc] at h; simp only [ren, renL_data f cs h]
theorem renL_data (f : Nat → Option Nat) : ∀ (cs : List AV), noLocL cs = true → renL f cs = cs
  | [], _ => by simp only [renL]
  | c :: cs, h => by simp only [noLocL, Bool.and_eq_true] at h; simp only [renL, ren_data f c h.1, renL_data f cs h.2]
end

/-- A result without places of the heap: nothing is kept. -/
theorem RetA.data {K : AV → Heap → Prop} {v : AV} {H : Heap} (hv : noLoc v = true) (h : K v Heap.nil) : RetA 0 K v H :=
  RetA.gc [] rfl trivial (by rw [ren_data _ v hv]; exact h)

end Go.Eng

namespace Go.Eng
open Go

/-! ### Loops that are walked out -/
section
variable (n : Nat) (body : (XA → Fr → Heap → Prop) → Fr → Heap → Prop) (Q : XA → Fr → Heap → Prop)
def lpost (m : Nat) (J : Nat → Fr → Heap → Prop) : XA → Fr → Heap → Prop := fun x fr' H' => match x with
  | .normal => ∃ m', m' < m ∧ To n fr' H' (J m')
  | x => Q x fr' H'
def LoopI : Nat → Nat → Fr → Heap → Prop
  | 0, _, _, _ => False
  | k + 1, m, fr, H => (m = k ∧ body (lpost n Q k (LoopI k)) fr H) ∨ LoopI k m fr H
theorem LoopI.lt : ∀ {k m : Nat} {fr : Fr} {H : Heap}, LoopI n body Q k m fr H → m < k
  | 0, _, _, _, h => h.elim
  | k + 1, m, _, _, h => by
    rcases h with ⟨rfl, _⟩ | h
    · exact Nat.lt_succ_self _
    · exact Nat.lt_succ_of_lt (LoopI.lt h)
theorem LoopI.eq : ∀ {k m m' : Nat}, m' < m → m ≤ k → LoopI n body Q k m' = LoopI n body Q m m'
  | 0, m, m', h1, h2 => by omega
  | k + 1, m, m', h1, h2 => by
    by_cases e : m = k + 1
    · rw [e]
    · rw [← LoopI.eq (k := k) h1 (by omega)]
      funext fr H
      refine propext ⟨fun h => ?_, fun h => .inr h⟩
      rcases h with ⟨e, _⟩ | h
      · omega
      · exact h
theorem LoopI.step : ∀ {k m : Nat} {fr : Fr} {H : Heap}, LoopI n body Q k m fr H → body (lpost n Q m (LoopI n body Q m)) fr H
  | 0, _, _, _, h => h.elim
  | k + 1, m, _, _, h => by
    rcases h with ⟨rfl, h⟩ | h
    · exact h
    · exact LoopI.step h
theorem LoopA.unroll (k : Nat) {fr : Fr} {H : Heap} (h : body (lpost n Q k (LoopI n body Q k)) fr H) : LoopA n body Q fr H := by
  refine ⟨LoopI n body Q (k + 1), k, To.refl (.inl ⟨rfl, h⟩), fun m fr H h => ?_⟩
  have hm := LoopI.lt n body Q h
  have := LoopI.step n body Q h
  have e : lpost n Q m (LoopI n body Q m) = lpost n Q m (LoopI n body Q (k + 1)) := by
    funext x fr' H'
    cases x with
    | normal =>
      refine propext ⟨fun ⟨m', h1, h2⟩ => ⟨m', h1, by rw [LoopI.eq n body Q h1 (by omega)]; exact h2⟩, fun ⟨m', h1, h2⟩ => ⟨m', h1, by rw [← LoopI.eq n body Q h1 (show m ≤ k + 1 by omega)]; exact h2⟩⟩
    | _ => rfl
  rw [e] at this
  exact this
end
theorem Branch.dec {p : Prop} [Decidable p] {A B : Prop} (yes : p → A) (no : ¬ p → B) : Branch (decide p) A B :=
  ⟨fun h => yes (of_decide_eq_true h), fun h => no (of_decide_eq_false h)⟩

/-! ### An owned block becomes data -/
mutual
def pubV (k : Nat) (ds : List AV) : AV → AV
  | .ptr j o => bif Nat.beq j k then .dptr (ds.drop o) else .ptr j o
  | .slice j o l c e => bif Nat.beq j k then .dslice ((ds.drop o).take (l * e)) l c else .slice j o l c e
  | .func g cs => .func g (pubL k ds cs)
  | .agg cs => .agg (pubL k ds cs)
  | .tuple cs => .tuple (pubL k ds cs)
  | c => c
def pubL (k : Nat) (ds : List AV) : List AV → List AV
  | [] => []
  | c :: cs => pubV k ds c :: pubL k ds cs
end
def pubB (k : Nat) (ds : List AV) : AB → AB
  | .cells cs => .cells (pubL k ds cs)
  | b => b
def pubBs (k : Nat) (ds : List AV) : List (Nat × AB) → List (Nat × AB)
  | [] => []
  | (j, b) :: r => (j, pubB k ds b) :: pubBs k ds r
def pubH (k : Nat) (ds : List AV) (H : Heap) : Heap := Heap.set ⟨H.nx, pubBs k ds H.bs⟩ k .dead
def pubF (k : Nat) (ds : List AV) (fr : Fr) : List Nat → Fr
  | [] => []
  | t :: r => (t, pubV k ds (look fr t)) :: pubF k ds fr r
theorem pubBs_get {k : Nat} {ds : List AV} (j : Nat) : ∀ bs : List (Nat × AB), bget (pubBs k ds bs) j = pubB k ds (bget bs j)
  | [] => rfl
  | (i, b) :: r => by
    simp only [pubBs, bget]
    cases Nat.beq i j with
    | true => rfl
    | false => exact pubBs_get j r
theorem pubH_get {k : Nat} {ds : List AV} (H : Heap) (j : Nat) : (pubH k ds H).get j = if k = j then .dead else pubB k ds (H.get j) := by
  simp only [pubH, Heap.get_set]
  split
  · rfl
  · exact pubBs_get j H.bs

section
variable {M M' : Mem} {μ : Pos} {k b sz : Nat} {ds : List AV}
mutual
theorem relV_pub (hM : Mem.le M M') (hk : μ k = some (b, sz)) (hd : ∀ o, relM M' (ds.drop o) b o) : ∀ (c : AV) {v : Value}, relV M c μ v → relV M' (pubV k ds c) μ v
  | .any, _, _ => by simp only [pubV, relV]
  | .bool b, _, h => by simpa only [pubV, relV] using h
  | .int k n, _, h => by simpa only [pubV, relV] using h
  | .str s, _, h => by simpa only [pubV, relV] using h
  | .nilp, _, h => by simpa only [pubV, relV] using h
  | .nils, _, h => by simpa only [pubV, relV] using h
  | .nilm, _, h => by simpa only [pubV, relV] using h
  | .nilf, _, h => by simpa only [pubV, relV] using h
  | .map j, _, h => by simpa only [pubV, relV] using h
  | .dptr cs, _, h => by simp only [pubV]; exact relV_mono hM _ (Pos.le_refl _) h
  | .dslice cs l c, _, h => by simp only [pubV]; exact relV_mono hM _ (Pos.le_refl _) h
  | .ptr j o, v, h => by
    simp only [pubV]
    by_cases hj : j = k
    · subst hj
      simp only [Nat.beq_refl, cond_true, relV] at h ⊢
      obtain ⟨b', s', h1, h2⟩ := h
      rw [hk] at h1; cases h1
      exact ⟨b, o, h2, hd o⟩
    · rw [beq_false hj]; simp only [cond_false, relV] at h ⊢; exact h
  | .slice j o l c e, v, h => by
    simp only [pubV]
    by_cases hj : j = k
    · subst hj
      simp only [Nat.beq_refl, cond_true, relV] at h ⊢
      obtain ⟨b', s', cc, h1, h2, h3, h4, h5⟩ := h
      rw [hk] at h1; cases h1
      exact .inl ⟨b, o, cc, h2, h3, h5, relM_take _ (hd o)⟩
    · rw [beq_false hj]; simp only [cond_false, relV] at h ⊢; exact h
  | .func g cs, _, h => by simp only [pubV, relV] at *; obtain ⟨vs, h1, h2⟩ := h; exact ⟨vs, h1, relL_pub hM hk hd cs h2⟩
  | .agg cs, _, h => by simp only [pubV, relV] at *; obtain ⟨vs, h1, h2⟩ := h; exact ⟨vs, h1, relL_pub hM hk hd cs h2⟩
  | .tuple cs, _, h => by simp only [pubV, relV] at *; obtain ⟨vs, h1, h2⟩ := h; exact ⟨vs, h1, relL_pub hM hk hd cs h2⟩
theorem relL_pub (hM : Mem.le M M') (hk : μ k = some (b, sz)) (hd : ∀ o, relM M' (ds.drop o) b o) : ∀ (cs : List AV) {vs : List Value}, relL M cs μ vs → relL M' (pubL k ds cs) μ vs
  | [], _, h => by simpa only [pubL, relL] using h
  | c :: cs, _, h => by
    simp only [pubL, relL] at *; obtain ⟨v, r, h1, h2, h3⟩ := h
    exact ⟨v, r, h1, relV_pub hM hk hd c h2, relL_pub hM hk hd cs h3⟩
end
theorem relP_pub (hM : Mem.le M M') (hk : μ k = some (b, sz)) (hd : ∀ o, relM M' (ds.drop o) b o) : ∀ (cs : List AV) {vs : List Value}, relP M μ cs vs → relP M' μ (pubL k ds cs) vs
  | [], _, _ => by simp only [pubL]; trivial
  | c :: cs, _, h => by
    obtain ⟨v, r, h1, h2, h3⟩ := h
    simp only [pubL]
    exact ⟨v, r, h1, relV_pub hM hk hd c h2, relP_pub hM hk hd cs h3⟩
end

theorem Rel.pub {M : Mem} {μ : Pos} {H : Heap} {w : World} (R : Rel M μ H w) (k : Nat) {ds : List AV} (hk : H.get k = .cells ds) (hdata : ∀ c ∈ ds, noLoc c = true) :
    ∃ M', Rel M' μ (pubH k ds H) w ∧ (∀ c v, relV M c μ v → relV M' (pubV k ds c) μ v) ∧ ∀ n, Grow n M μ H w M' μ (pubH k ds H) w := by
  obtain ⟨b, sz, c, el, fz, h1, h2, h3, h4, h5⟩ := R.cells k ds hk
  let M' : Mem := fun b' o => if b' = b then c[o]? else M b' o
  have hne : H.get k ≠ .dead := by rw [hk]; simp
  have hM : Mem.le M M' := fun b' o v hv => by
    simp only [M']
    split
    · rename_i e; rw [e, R.apart k b sz hne h1 o] at hv; cases hv
    · exact hv
  have h6 : relP M Pos.none ds c.toList := relP_data ds hdata h5
  have hd : ∀ o, relM M' (ds.drop o) b o := fun o => relM_of_get fun i d hi => by
    rw [List.getElem?_drop] at hi
    obtain ⟨v, hv, hr⟩ := relP_get h6 hi
    exact ⟨v, by simp only [M', if_true]; simpa using hv, relV_mono hM _ (Pos.le_refl _) hr⟩
  have alive : ∀ j, (pubH k ds H).get j ≠ .dead → H.get j ≠ .dead ∧ j ≠ k := by
    intro j hj
    rw [pubH_get] at hj
    by_cases e : k = j
    · rw [if_pos e] at hj; exact absurd rfl hj
    · rw [if_neg e] at hj; exact ⟨fun h => hj (by rw [h]; rfl), Ne.symm e⟩
  have own : ∀ x, Own μ (pubH k ds H) x → Own μ H x := fun x ⟨j, s, hj, hx⟩ => ⟨j, s, (alive j hj).1, hx⟩
  refine ⟨M', ⟨R.dom, fun j hj => ?_, fun j cs hj => ?_, fun j es hj => ?_, R.walks_same hM (fun j k' left cur hj => ?_) (Pos.le_refl _) (fun _ _ _ => rfl), fun i j b s t hi hj hx hy => R.inj i j b s t (alive i hi).1 (alive j hj).1 hx hy, fun b' o v hv => ?_, fun j b' s hj hx o => ?_⟩, fun c v h => relV_pub hM h1 hd c h,
    fun n => ⟨hM, fun _ _ => rfl, Keep.refl _ _, fun x hx => .inl (own x hx), fun b' o v hv => ?_⟩⟩
  · rw [pubH_get]
    split
    · rfl
    · rw [R.top j hj]; rfl
  · rw [pubH_get] at hj
    split at hj
    · cases hj
    · cases hg : H.get j with
      | dead => rw [hg] at hj; simp [pubB] at hj
      | map es => rw [hg] at hj; simp [pubB] at hj
      | iter k' l c => rw [hg] at hj; simp [pubB] at hj
      | cells xs =>
        rw [hg] at hj; simp only [pubB, AB.cells.injEq] at hj; subst hj
        obtain ⟨b2, sz2, c2, el2, fz2, g1, g2, g3, g4, g5⟩ := R.cells j xs hg
        exact ⟨b2, sz2, c2, el2, fz2, g1, g2, g3, g4, relP_pub hM h1 hd xs g5⟩
  · rw [pubH_get] at hj
    split at hj
    · cases hj
    · cases hg : H.get j with
      | dead => rw [hg] at hj; simp [pubB] at hj
      | cells xs => rw [hg] at hj; simp [pubB] at hj
      | iter k' l c => rw [hg] at hj; simp [pubB] at hj
      | map xs =>
        rw [hg] at hj; simp only [pubB, AB.map.injEq] at hj; subst hj
        obtain ⟨b2, sz2, ents, clock, g1, g2, g3, g4⟩ := R.maps j xs hg
        refine ⟨b2, sz2, ents, clock, g1, g2, ?_, g4⟩
        have : ∀ {es : List (AV × AV)} {ents : List MapEntry}, relE M es ents → relE M' es ents := by
          intro es
          induction es with
          | nil => intro ents h; exact h
          | cons x r ih => intro ents h; obtain ⟨e, t, h1, h2, h3, h4⟩ := h; exact ⟨e, t, h1, relV_mono hM _ (Pos.le_refl _) h2, relV_mono hM _ (Pos.le_refl _) h3, ih h4⟩
        exact this g3
  · have hit : H.get j = .iter k' left cur := by
      rw [pubH_get] at hj
      split at hj
      · cases hj
      · cases hg : H.get j with
        | dead => rw [hg] at hj; simp [pubB] at hj
        | cells xs => rw [hg] at hj; simp [pubB] at hj
        | map xs => rw [hg] at hj; simp [pubB] at hj
        | iter k2 l2 c2 => rw [hg] at hj; simpa [pubB] using hj
    refine ⟨hit, fun _ => ?_⟩
    obtain ⟨es, hes⟩ := R.iter_map hit
    rw [pubH_get, if_neg (fun e => by subst e; rw [hk] at hes; cases hes), hes]
    simp [pubB]
  · simp only [M'] at hv
    split at hv
    · rename_i e; subst e
      simp only [World.cell?, h2]; simpa using hv
    · exact R.imm b' o v hv
  · have hj' := alive j hj
    have hne' : b' ≠ b := fun e => by subst e; exact hj'.2 (R.inj j k b' s sz hj'.1 hne hx h1)
    simp only [M']; rw [if_neg hne']; exact R.apart j b' s hj'.1 hx o
  · simp only [M'] at hv
    split at hv
    · rename_i e; exact .inr (.inl ⟨k, sz, hne, by rw [e]; exact h1⟩)
    · exact .inl hv

theorem Into.pub {n : Nat} {fr : Fr} {H : Heap} (k : Nat) (slots : List Nat) {ds : List AV} (hk : H.get k = .cells ds) (hdata : ∀ c ∈ ds, noLoc c = true) : Into n fr H (pubF k ds fr slots) (pubH k ds H) := by
  intro N M μ w tmps R F hn
  obtain ⟨M', R', hV, G⟩ := R.pub k hk hdata
  refine ⟨M', μ, R', ⟨F.size, fun t => ?_⟩, hn, G n⟩
  have key : ∀ (sl : List Nat), relV M' (look (pubF k ds fr sl) t) μ (tmps.getD t undef) := by
    intro sl
    induction sl with
    | nil => simp [pubF, look, relV]
    | cons q r ih =>
      simp only [pubF, look]
      by_cases hq : q = t
      · subst hq; simpa using hV _ _ (F.slot q)
      · rw [beq_false hq]; exact ih
  exact key slots

theorem Into.trans {n : Nat} {fr fr' fr'' : Fr} {H H' H'' : Heap} (h : Into n fr H fr' H') (k : Into n fr' H' fr'' H'') : Into n fr H fr'' H'' := by
  intro N M μ w tmps R F hn
  obtain ⟨M1, μ1, R1, F1, n1, G1⟩ := h N M μ w tmps R F hn
  obtain ⟨M2, μ2, R2, F2, n2, G2⟩ := k N M1 μ1 w tmps R1 F1 n1
  exact ⟨M2, μ2, R2, F2, n2, G1.trans G2⟩
theorem RetA.pub {n : Nat} {K : AV → Heap → Prop} {v : AV} {H : Heap} (k : Nat) {ds : List AV} (hk : H.get k = .cells ds) (hdata : ∀ c ∈ ds, noLoc c = true) (h : RetA n K (pubV k ds v) (pubH k ds H)) : RetA n K v H := by
  obtain ⟨v', H', h1, h2⟩ := h
  exact ⟨v', H', (Into.pub k [0] hk hdata).trans h1, h2⟩
theorem To.pub {n : Nat} {J : Fr → Heap → Prop} {fr : Fr} {H : Heap} (k : Nat) (slots : List Nat) {ds : List AV} (hk : H.get k = .cells ds) (hdata : ∀ c ∈ ds, noLoc c = true) (h : To n (pubF k ds fr slots) (pubH k ds H) J) : To n fr H J := by
  obtain ⟨v', H', h1, h2⟩ := h
  exact ⟨v', H', (Into.pub k slots hk hdata).trans h1, h2⟩

end Go.Eng

namespace Go.Eng
open Go

/-! ### Blocks that are lent to a call -/
def subP (keep : List (Nat × Bool)) (μ : Pos) : Pos := fun j => (keep[j]?).bind fun x => μ x.1
theorem distinct_keep {keep : List (Nat × Bool)} (h : distinct keep = true) (i j k : Nat) (d e : Bool) : keep[i]? = some (k, d) → keep[j]? = some (k, e) → i = j := distinct_spec h i j k d e

section
variable {M : Mem} {μ : Pos} {H : Heap} {w : World} {keep : List (Nat × Bool)}
theorem subP_to {j k : Nat} {d : Bool} (h : keep[j]? = some (k, d)) {x : Nat × Nat} (hx : μ k = some x) : subP keep μ j = some x := by simp only [subP, h, Option.bind_some, hx]
theorem subP_from {j k : Nat} {d : Bool} (h : keep[j]? = some (k, d)) {x : Nat × Nat} (hx : subP keep μ j = some x) : μ k = some x := by simpa only [subP, h, Option.bind_some] using hx
theorem sub_pos {k j : Nat} {x : Nat × Nat} (h : posOf keep k = some j) (hx : μ k = some x) : subP keep μ j = some x := by
  obtain ⟨m, d, h1, h2⟩ := posOf_go keep k 0 j h
  exact subP_to (d := d) (by rw [h1, Nat.zero_add]; exact h2) hx
theorem sub_alive {j : Nat} (hj : (gcH keep H).get j ≠ .dead) : ∃ (k : Nat) (d : Bool), keep[j]? = some (k, d) ∧ H.get k ≠ .dead := by
  rw [gcH_get] at hj
  cases hk : keep[j]? with
  | none => rw [hk] at hj; exact absurd rfl hj
  | some x =>
    obtain ⟨k, d⟩ := x
    refine ⟨k, d, rfl, fun h => hj ?_⟩
    simp only [hk, h, renB]; cases d <;> rfl
theorem sub_own {b : Nat} (h : Own (subP keep μ) (gcH keep H) b) : ∃ (j k : Nat) (d : Bool) (s : Nat), keep[j]? = some (k, d) ∧ H.get k ≠ .dead ∧ μ k = some (b, s) := by
  obtain ⟨j, s, hj, hx⟩ := h
  obtain ⟨k, d, h1, h2⟩ := sub_alive hj
  exact ⟨j, k, d, s, h1, h2, subP_from h1 hx⟩
theorem Rel.sub (R : Rel M μ H w) (hdis : distinct keep = true) (hdata : allData H keep) : Rel M (subP keep μ) (gcH keep H) w := by
  have hf : ∀ k j x, posOf keep k = some j → μ k = some x → subP keep μ j = some x := fun k j x => sub_pos
  refine ⟨fun j hj => ?_, fun j hj => ?_, fun j cs hj => ?_, fun j es hj => ?_, R.walks (Mem.le_refl _) (fun j k' left cur hj => ?_), fun i j b s t hi hj hx hy => ?_, R.imm, fun j b s hj hx o => ?_⟩
  · simp only [subP, List.getElem?_eq_none (show keep.length ≤ j from hj), Option.bind_none]
  · rw [gcH_get, List.getElem?_eq_none (by simpa [gcH] using hj)]
  · rw [gcH_get] at hj
    cases hk : keep[j]? with
    | none => rw [hk] at hj; cases hj
    | some x =>
      obtain ⟨k, d⟩ := x
      rw [hk] at hj
      cases d with
      | true =>
        simp only [cond_true] at hj
        obtain ⟨b, sz, c, el, fz, h1, h2, h3, h4, h5⟩ := R.cells k cs hj
        refine ⟨b, sz, c, el, fz, subP_to hk h1, h2, h3, h4, relP_data cs ?_ h5⟩
        have := allData_spec hdata k (List.mem_of_getElem? hk)
        rw [hj] at this; exact this
      | false =>
        simp only [cond_false] at hj
        cases hg : H.get k with
        | cells ds =>
          rw [hg] at hj; simp only [renB, AB.cells.injEq] at hj; subst hj
          obtain ⟨b, sz, c, el, fz, h1, h2, h3, h4, h5⟩ := R.cells k ds hg
          exact ⟨b, sz, c, el, fz, subP_to hk h1, h2, h3, h4, relP_ren hf ds h5⟩
        | dead => rw [hg] at hj; simp [renB] at hj
        | map es => rw [hg] at hj; simp [renB] at hj
        | iter k' l c => rw [hg] at hj; simp only [renB] at hj; split at hj <;> cases hj
  · rw [gcH_get] at hj
    cases hk : keep[j]? with
    | none => rw [hk] at hj; cases hj
    | some x =>
      obtain ⟨k, d⟩ := x
      rw [hk] at hj
      have hg : H.get k = .map es := by
        cases d with
        | true => simpa using hj
        | false =>
          have hj : renB (posOf keep) (H.get k) = .map es := hj
          cases hg : H.get k with
          | dead => rw [hg] at hj; cases hj
          | cells cs => rw [hg] at hj; cases hj
          | map es' => rw [hg] at hj; exact hj
          | iter k' l c => rw [hg] at hj; simp only [renB] at hj; split at hj <;> cases hj
      obtain ⟨b, sz, ents, clock, h1, h2⟩ := R.maps k es hg
      exact ⟨b, sz, ents, clock, subP_to hk h1, h2⟩
  · obtain ⟨j0, k0, d, h1, h2, h3⟩ := gcH_iter hdata hj
    obtain ⟨es, hes⟩ := R.iter_map h2
    refine ⟨j0, k0, h2, ?_, fun x hx => subP_to h1 hx, fun x hx => hf k0 k' x h3 hx, fun _ _ _ _ => rfl, fun _ _ _ _ => rfl⟩
    obtain ⟨m, d', e1, e2⟩ := posOf_go keep k0 0 k' h3
    rw [Nat.zero_add] at e1; subst e1
    rw [gcH_get, e2]; simp only [hes]
    cases d' <;> simp [renB]
  · obtain ⟨k, d, h1, h2⟩ := sub_alive hi
    obtain ⟨k', d', h3, h4⟩ := sub_alive hj
    have := R.inj k k' b s t h2 h4 (subP_from h1 hx) (subP_from h3 hy)
    subst this
    exact distinct_spec hdis i j k d d' h1 h3
  · obtain ⟨k, d, h1, h2⟩ := sub_alive hj
    exact R.apart k b s h2 (subP_from h1 hx) o
end

/-- Where a place of the callee is for the caller. -/
def backK (keep : List (Nat × Bool)) (nx j : Nat) : Nat := match keep[j]? with
  | some (k, _) => k
  | none => nx + (j - keep.length)
def backB (keep : List (Nat × Bool)) (nx : Nat) (H' : Heap) (j : Nat) : AB := match keep[j]? with
  | some (_, true) => H'.get j
  | _ => renB (fun j => some (backK keep nx j)) (H'.get j)
def lendBs (keep : List (Nat × Bool)) (nx : Nat) (H' : Heap) : Nat → List (Nat × AB) → List (Nat × AB)
  | 0, bs => bs
  | j + 1, bs => (backK keep nx j, backB keep nx H' j) :: lendBs keep nx H' j bs
def lendH (keep : List (Nat × Bool)) (H H' : Heap) : Heap := ⟨H.nx + (H'.nx - keep.length), lendBs keep H.nx H' H'.nx H.bs⟩
/-- The callee leaves data where data was lent. -/
def backOk (H' : Heap) : List (Nat × Bool) → Nat → Prop
  | [], _ => True
  | (_, true) :: r, j => dataB (H'.get j) ∧ backOk H' r (j + 1)
  | (_, false) :: r, j => backOk H' r (j + 1)
theorem backOk_spec {H' : Heap} : ∀ {keep : List (Nat × Bool)} {i : Nat}, backOk H' keep i → ∀ j k, keep[j]? = some (k, true) → dataB (H'.get (i + j))
  | [], _, _, j, k, h => by simp at h
  | (q, d) :: r, i, hb, 0, k, h => by
    simp at h; obtain ⟨rfl, rfl⟩ := h; exact hb.1
  | (q, true) :: r, i, hb, j + 1, k, h => by
    have := backOk_spec hb.2 j k (by simpa using h)
    rwa [Nat.add_assoc, Nat.add_comm 1 j] at this
  | (q, false) :: r, i, hb, j + 1, k, h => by
    have := backOk_spec (keep := r) hb j k (by simpa using h)
    rwa [Nat.add_assoc, Nat.add_comm 1 j] at this

theorem lendBs_get {keep : List (Nat × Bool)} {nx : Nat} {H' : Heap} (k : Nat) (inj : ∀ i j, backK keep nx i = backK keep nx j → i = j) : ∀ (m : Nat) (bs : List (Nat × AB)),
    (∀ j, j < m → backK keep nx j = k → bget (lendBs keep nx H' m bs) k = backB keep nx H' j) ∧ ((∀ j, j < m → backK keep nx j ≠ k) → bget (lendBs keep nx H' m bs) k = bget bs k)
  | 0, bs => ⟨fun j hj => by omega, fun _ => rfl⟩
  | m + 1, bs => by
    obtain ⟨h1, h2⟩ := lendBs_get (H' := H') k inj m bs
    refine ⟨fun j hj hk => ?_, fun h => ?_⟩
    · simp only [lendBs, bget]
      by_cases hm : backK keep nx m = k
      · have := inj j m (hk.trans hm.symm); subst this
        rw [hm]; simp
      · rw [beq_false hm]
        exact h1 j (by rcases Nat.lt_succ_iff_lt_or_eq.1 hj with h | h; exact h; exact absurd (h ▸ hk) hm) hk
    · simp only [lendBs, bget]
      rw [beq_false (h m (Nat.lt_succ_self _))]
      exact h2 fun j hj => h j (Nat.lt_succ_of_lt hj)

/-- No map is lent that a block of the caller's walks over. -/
def lentOk (keep : List (Nat × Bool)) (η : Nat → AB) (n : Nat) : Bool := Nat.rec true (fun i ih => match η i with
  | .iter k _ _ => (match posOf keep k with
    | some _ => false
    | none => ih)
  | _ => ih) n
theorem lentOk_succ (keep : List (Nat × Bool)) (η : Nat → AB) (n : Nat) : lentOk keep η (n + 1) = match η n with
  | .iter k _ _ => (match posOf keep k with
    | some _ => false
    | none => lentOk keep η n)
  | _ => lentOk keep η n := rfl
theorem lentOk_spec {keep : List (Nat × Bool)} {η : Nat → AB} : ∀ {n : Nat}, lentOk keep η n = true → ∀ j, j < n → ∀ k l c, η j = .iter k l c → posOf keep k = none
  | 0, _, j, hj, _, _, _ => by omega
  | n + 1, h, j, hj, k, l, c => by
    rw [lentOk_succ] at h
    intro e
    rcases Nat.lt_or_eq_of_le (Nat.le_of_lt_succ hj) with h1 | h1
    · refine lentOk_spec ?_ j h1 k l c e
      split at h
      · split at h
        · cases h
        · exact h
      · exact h
    · subst h1; rw [e] at h
      simp only at h
      split at h
      · cases h
      · assumption
theorem posOf_some {keep : List (Nat × Bool)} {j k : Nat} {d : Bool} (h : keep[j]? = some (k, d)) : posOf keep k ≠ none := by
  have go : ∀ (l : List (Nat × Bool)) (i j : Nat), l[j]? = some (k, d) → posOf.go k l i ≠ none := by
    intro l
    induction l with
    | nil => intro i j h; simp at h
    | cons x r ih =>
      intro i j h
      simp only [posOf.go]
      by_cases e : x.1 = k
      · rw [e]; simp
      · rw [beq_false e]
        cases j with
        | zero => simp at h; exact absurd (by rw [h]) e
        | succ j => exact ih (i + 1) j (by simpa using h)
  exact go keep 0 j h

theorem CallA.lend {P : Program} {f : FuncId} {args : List AV} {H : Heap} {K Kc : AV → Heap → Prop} (keep : List (Nat × Bool)) (h : CallA P f (renL (posOf keep) args) (gcH keep H) Kc) (hdis : distinct keep = true) (hdata : allData H keep)
    (hlt : keep.all (fun x => Nat.blt x.1 H.nx) = true) (hK : ∀ c H', Kc c H' → backOk H' keep 0 ∧ K (ren (fun j => some (backK keep H.nx j)) c) (lendH keep H H')) (hit : lentOk keep H.get H.nx = true := by rfl) : CallA P f args H K := by
  refine ⟨h.ok, fun M μ w vs R hv => (h.run M (subP keep μ) w vs (R.sub hdis hdata) (relL_ren (fun k j x => sub_pos) args hv)).mono ?_⟩
  rintro e w' ⟨v, M', μs, Hs, c, rfl, R', hv', G, hk⟩
  obtain ⟨hback, hk⟩ := hK c Hs hk
  have hL : keep.length ≤ Hs.nx := G.nx
  have klt : ∀ {j k d}, keep[j]? = some (k, d) → k < H.nx := fun {j k d} hj => by
    have := List.all_eq_true.1 hlt _ (List.mem_of_getElem? hj)
    simpa [Nat.blt_eq] using this
  have jlt : ∀ {j k d}, keep[j]? = some (k, d) → j < keep.length := fun {j k d} hj => by
    rcases Nat.lt_or_ge j keep.length with h | h
    · exact h
    · rw [List.getElem?_eq_none h] at hj; cases hj
  let bk := backK keep H.nx
  have bk1 : ∀ {j k d}, keep[j]? = some (k, d) → bk j = k := fun {j k d} hj => by simp only [bk, backK, hj]
  have bk2 : ∀ {j}, keep.length ≤ j → bk j = H.nx + (j - keep.length) := fun {j} hj => by simp only [bk, backK, List.getElem?_eq_none hj]
  have bkc : ∀ j, (∃ k d, keep[j]? = some (k, d) ∧ j < keep.length ∧ bk j = k ∧ k < H.nx) ∨ (keep.length ≤ j ∧ bk j = H.nx + (j - keep.length)) := fun j => by
    cases hj : keep[j]? with
    | none =>
      have : keep.length ≤ j := by simpa using hj
      exact .inr ⟨this, bk2 this⟩
    | some x => obtain ⟨k, d⟩ := x; exact .inl ⟨k, d, rfl, jlt hj, bk1 hj, klt hj⟩
  have inj : ∀ i j, bk i = bk j → i = j := by
    intro i j hij
    rcases bkc i with ⟨k, d, h1, h2, h3, h4⟩ | ⟨h1, h2⟩
    · rcases bkc j with ⟨k', d', h5, h6, h7, h8⟩ | ⟨h5, h6⟩
      · have : k = k' := by rw [← h3, ← h7, hij]
        subst this
        exact distinct_spec hdis i j k d d' h1 h5
      · omega
    · rcases bkc j with ⟨k', d', h5, h6, h7, h8⟩ | ⟨h5, h6⟩
      · omega
      · omega
  let μ2 : Pos := fun k => if k < H.nx then μ k else μs (k - H.nx + keep.length)
  have hμ2 : ∀ j, μ2 (bk j) = μs j := by
    intro j
    rcases bkc j with ⟨k, d, h1, h2, h3, h4⟩ | ⟨h1, h2⟩
    · rw [h3]
      simp only [μ2, if_pos h4]
      rw [G.grow.pin j h2]
      simp only [subP, h1, Option.bind_some]
    · rw [h2]
      simp only [μ2]
      rw [if_neg (by omega)]
      congr 1; omega
  have hf : ∀ k j x, (fun j => some (bk j)) k = some j → μs k = some x → μ2 j = some x := by
    intro k j x hj hx
    simp only [Option.some.injEq] at hj
    subst hj; rw [hμ2]; exact hx
  have get : ∀ k, (∃ j, j < Hs.nx ∧ bk j = k ∧ (lendH keep H Hs).get k = backB keep H.nx Hs j) ∨ ((∀ j, j < Hs.nx → bk j ≠ k) ∧ (lendH keep H Hs).get k = H.get k) := by
    intro k
    obtain ⟨h1, h2⟩ := lendBs_get (keep := keep) (nx := H.nx) (H' := Hs) k inj Hs.nx H.bs
    by_cases hj : ∃ j, j < Hs.nx ∧ bk j = k
    · obtain ⟨j, h3, h4⟩ := hj
      exact .inl ⟨j, h3, h4, h1 j h3 h4⟩
    · have h3 : ∀ j, j < Hs.nx → bk j ≠ k := fun j h3 h4 => hj ⟨j, h3, h4⟩
      exact .inr ⟨h3, h2 h3⟩
  have backdead : ∀ j, backB keep H.nx Hs j ≠ .dead → Hs.get j ≠ .dead := by
    intro j hj hd
    refine hj ?_
    simp only [backB, hd, renB]
    split <;> rfl
  have notsub : ∀ {k b s}, H.get k ≠ .dead → μ k = some (b, s) → (∀ j, j < Hs.nx → bk j ≠ k) → ¬ Own (subP keep μ) (gcH keep H) b := by
    intro k b s hk1 hk2 hno ho
    obtain ⟨j, k', d, s', h1, h2, h3⟩ := sub_own ho
    have := R.inj k k' b s s' hk1 h2 hk2 h3
    subst this
    exact hno j (Nat.lt_of_lt_of_le (jlt h1) hL) (bk1 h1)
  have blt : ∀ {k b s}, H.get k ≠ .dead → μ k = some (b, s) → b < w.heap.size := fun h1 h2 => R.own_lt ⟨_, _, h1, h2⟩
  have old : ∀ {k}, (∀ j, j < Hs.nx → bk j ≠ k) → H.get k ≠ .dead → k < H.nx ∧ μ2 k = μ k := fun {k} _ hk => by
    have : k < H.nx := by
      rcases Nat.lt_or_ge k H.nx with h | h
      · exact h
      · exact absurd (R.top k h) hk
    exact ⟨this, by simp only [μ2, if_pos this]⟩
  have ownBack : ∀ {b}, Own μs Hs b → Own μ H b ∨ w.heap.size ≤ b := fun ho => by
    rcases G.grow.own _ ho with h | h
    · obtain ⟨j, k', d, s', h1, h2, h3⟩ := sub_own h
      exact .inl ⟨k', s', h2, h3⟩
    · exact .inr h
  have relB : ∀ {ds : List AV} {vs : List Value}, relP M' μs ds vs → relP M' μ2 (renL (fun j => some (bk j)) ds) vs := fun h => relP_ren hf _ h
  have R2 : Rel M' μ2 (lendH keep H Hs) w' := by
    refine ⟨fun k hk => ?_, fun k hk => ?_, fun k cs hk => ?_, fun k es hk => ?_, fun k kk left cur hk => ?_, fun i j b s t hi hj hx hy => ?_, R'.imm, fun k b s hk hx o => ?_⟩
    · have hk : H.nx + (Hs.nx - keep.length) ≤ k := hk
      simp only [μ2]
      rw [if_neg (by omega)]
      exact R'.dom _ (by omega)
    · have hk : H.nx + (Hs.nx - keep.length) ≤ k := hk
      rcases get k with ⟨j, h1, h2, h3⟩ | ⟨h1, h2⟩
      · rcases bkc j with ⟨k', d, h4, h5, h6, h7⟩ | ⟨h4, h5⟩
        · omega
        · omega
      · rw [h2]; exact R.top k (by omega)
    · rcases get k with ⟨j, h1, h2, h3⟩ | ⟨h1, h2⟩
      · rw [h3] at hk
        subst h2
        have fin : ∀ ds, Hs.get j = .cells ds → (∀ vs, relP M' μs ds vs → relP M' μ2 cs vs) → ∃ b sz c el fz, μ2 (bk j) = some (b, sz) ∧ w'.heap[b]? = some (.cells c el fz) ∧ c.size = sz ∧ (fz = (0, 0) ∨ c.size ≤ fz.1) ∧ relP M' μ2 cs c.toList := by
          intro ds hd hp
          obtain ⟨b, sz, c, el, fz, g1, g2, g3, g4, g5⟩ := R'.cells j ds hd
          exact ⟨b, sz, c, el, fz, by rw [hμ2]; exact g1, g2, g3, (by rw [g3]; exact g4), hp _ g5⟩
        simp only [backB] at hk
        split at hk
        · rename_i kk hkk
          obtain ⟨b, sz, c, el, fz, g1, g2, g3, g4, g5⟩ := R'.cells j cs hk
          refine ⟨b, sz, c, el, fz, by rw [hμ2]; exact g1, g2, g3, g4, ?_⟩
          have := backOk_spec hback j kk hkk
          rw [Nat.zero_add, hk] at this
          exact relP_data cs this g5
        · cases hg : Hs.get j with
          | dead => rw [hg] at hk; simp [renB] at hk
          | map es => rw [hg] at hk; simp [renB] at hk
          | iter k' l c => rw [hg] at hk; simp [renB] at hk
          | cells ds =>
            rw [hg] at hk; simp only [renB, AB.cells.injEq] at hk; subst hk
            obtain ⟨b, sz, c, el, fz, g1, g2, g3, g4, g5⟩ := R'.cells j ds hg
            exact ⟨b, sz, c, el, fz, by rw [hμ2]; exact g1, g2, g3, g4, relB g5⟩
      · rw [h2] at hk
        have hne : H.get k ≠ .dead := by rw [hk]; simp
        obtain ⟨b, sz, c, el, fz, g1, g2, g3, g4, g5⟩ := R.cells k cs hk
        have hb := blt hne g1
        refine ⟨b, sz, c, el, fz, by rw [(old h1 hne).2]; exact g1, by rw [G.grow.keep.block b hb (notsub hne g1 h1)]; exact g2, g3, g4, ?_⟩
        refine relP_mono G.grow.mem ?_ cs g5
        intro q x hx
        have : q < H.nx := R.pos_lt hx
        simp only [μ2, if_pos this]; exact hx
    · rcases get k with ⟨j, h1, h2, h3⟩ | ⟨h1, h2⟩
      · rw [h3] at hk
        subst h2
        have hg : Hs.get j = .map es := by
          simp only [backB] at hk
          split at hk
          · exact hk
          · cases hg : Hs.get j with
            | dead => rw [hg] at hk; cases hk
            | cells cs => rw [hg] at hk; cases hk
            | map es' => rw [hg] at hk; exact hk
            | iter k' l c => rw [hg] at hk; simp [renB] at hk
        obtain ⟨b, sz, ents, clock, g1, g2⟩ := R'.maps j es hg
        exact ⟨b, sz, ents, clock, by rw [hμ2]; exact g1, g2⟩
      · rw [h2] at hk
        have hne : H.get k ≠ .dead := by rw [hk]; simp
        obtain ⟨b, sz, ents, clock, g1, g2, g3, g4⟩ := R.maps k es hk
        have hb := blt hne g1
        refine ⟨b, sz, ents, clock, by rw [(old h1 hne).2]; exact g1, by rw [G.grow.keep.block b hb (notsub hne g1 h1)]; exact g2, ?_, g4⟩
        have : ∀ {es : List (AV × AV)} {ents : List MapEntry}, relE M es ents → relE M' es ents := by
          intro es
          induction es with
          | nil => intro ents h; exact h
          | cons x r ih => intro ents h; obtain ⟨e, t, h1, h2, h3, h4⟩ := h; exact ⟨e, t, h1, relV_mono G.grow.mem _ (Pos.le_refl _) h2, relV_mono G.grow.mem _ (Pos.le_refl _) h3, ih h4⟩
        exact this g3
    · rcases get k with ⟨j, h1, h2, h3⟩ | ⟨h1, h2⟩
      · rw [h3] at hk
        subst h2
        have hg : ∃ k0, Hs.get j = .iter k0 left cur ∧ kk = bk k0 := by
          simp only [backB] at hk
          split at hk
          · rename_i q hq
            have := backOk_spec hback j q hq
            rw [Nat.zero_add, hk] at this; exact this.elim
          · cases hg : Hs.get j with
            | dead => rw [hg] at hk; cases hk
            | cells cs => rw [hg] at hk; cases hk
            | map es => rw [hg] at hk; cases hk
            | iter k0 l c => rw [hg] at hk; simp only [renB] at hk; cases hk; exact ⟨k0, rfl, rfl⟩
        obtain ⟨k0, hg, rfl⟩ := hg
        obtain ⟨es, hes⟩ := R'.iter_map hg
        obtain ⟨_, b, s, g1, bm, s2, ents, clock, since, seen, last, g2, g3⟩ := R'.iters j k0 left cur hg
        refine ⟨?_, b, s, by rw [hμ2]; exact g1, bm, s2, ents, clock, since, seen, last, by rw [hμ2]; exact g2, g3⟩
        have hk0 : k0 < Hs.nx := by
          rcases Nat.lt_or_ge k0 Hs.nx with h | h
          · exact h
          · rw [R'.top k0 h] at hes; cases hes
        rcases get (bk k0) with ⟨j', e1, e2, e3⟩ | ⟨e1, _⟩
        · have := inj _ _ e2; subst this
          rw [e3]; simp only [backB, hes, renB]; split <;> simp
        · exact absurd rfl (e1 k0 hk0)
      · rw [h2] at hk
        have hne : H.get k ≠ .dead := by rw [hk]; simp
        obtain ⟨es, hes⟩ := R.iter_map hk
        have hne2 : H.get kk ≠ .dead := by rw [hes]; simp
        have hkk : ∀ j, j < Hs.nx → bk j ≠ kk := by
          intro j hj e
          have hlt' := (old h1 hne).1
          have hno := lentOk_spec hit k hlt' kk left cur hk
          rcases bkc j with ⟨k', d, e1, e2, e3, e4⟩ | ⟨e1, e2⟩
          · have : k' = kk := by rw [← e3, e]
            subst this; exact posOf_some e1 hno
          · have : kk < H.nx := by
              rcases Nat.lt_or_ge kk H.nx with h | h
              · exact h
              · exact absurd (R.top kk h) hne2
            omega
        obtain ⟨_, b, s, g1, bm, s2, ents, clock, since, seen, last, g2, g3, g4, g5, g6, g7, g8, g9⟩ := R.iters k kk left cur hk
        refine ⟨?_, b, s, by rw [(old h1 hne).2]; exact g1, bm, s2, ents, clock, since, seen, last, by rw [(old hkk hne2).2]; exact g2, ?_, ?_, g5, g6, g7, relE_mono G.grow.mem g8, fun c hc => ?_⟩
        · rcases get kk with ⟨j, e1, e2, e3⟩ | ⟨e1, e2⟩
          · exact absurd e2 (hkk j e1)
          · rw [e2]; exact hne2
        · rw [G.grow.keep.block b (blt hne g1) (notsub hne g1 h1)]; exact g3
        · rw [G.grow.keep.block bm (blt hne2 g2) (notsub hne2 g2 hkk)]; exact g4
        · obtain ⟨e, seen0, e1, e2, e3, e4, e5⟩ := g9 c hc
          exact ⟨e, seen0, e1, e2, e3, relV_mono G.grow.mem _ (Pos.le_refl _) e4, relV_mono G.grow.mem _ (Pos.le_refl _) e5⟩
    · have mix : ∀ {i j k : Nat} {s t : Nat}, j < Hs.nx → Hs.get j ≠ .dead → μs j = some (b, s) → H.get k ≠ .dead → μ k = some (b, t) → (∀ j, j < Hs.nx → bk j ≠ k) → False := by
        intro i j k s t h1 h2 h3 h4 h5 h6
        rcases G.grow.own b ⟨j, s, h2, h3⟩ with h | h
        · exact notsub h4 h5 h6 h
        · have := blt h4 h5; omega
      rcases get i with ⟨i', h1, h2, h3⟩ | ⟨h1, h2⟩
      · rw [h3] at hi; have hi := backdead _ hi
        subst h2; rw [hμ2] at hx
        rcases get j with ⟨j', h4, h5, h6⟩ | ⟨h4, h5⟩
        · rw [h6] at hj; have hj := backdead _ hj
          subst h5; rw [hμ2] at hy
          rw [R'.inj i' j' b s t hi hj hx hy]
        · rw [h5] at hj
          rw [(old h4 hj).2] at hy
          exact (mix (i := 0) h1 hi hx hj hy h4).elim
      · rw [h2] at hi
        rw [(old h1 hi).2] at hx
        rcases get j with ⟨j', h4, h5, h6⟩ | ⟨h4, h5⟩
        · rw [h6] at hj; have hj := backdead _ hj
          subst h5; rw [hμ2] at hy
          exact (mix (i := 0) h4 hj hy hi hx h1).elim
        · rw [h5] at hj
          rw [(old h4 hj).2] at hy
          exact R.inj i j b s t hi hj hx hy
    · rcases get k with ⟨j, h1, h2, h3⟩ | ⟨h1, h2⟩
      · rw [h3] at hk
        subst h2; rw [hμ2] at hx
        exact R'.apart j b s (backdead _ hk) hx o
      · rw [h2] at hk
        rw [(old h1 hk).2] at hx
        cases hm : M' b o with
        | none => rfl
        | some u =>
          rcases G.grow.fresh b o u hm with h | h | h
          · rw [R.apart k b s hk hx o] at h; cases h
          · exact absurd h (notsub hk hx h1)
          · have := blt hk hx; omega
  have ownSub : ∀ {b}, Own (subP keep μ) (gcH keep H) b → Own μ H b := fun ho => by
    obtain ⟨j, k', d, s', h1, h2, h3⟩ := sub_own ho
    exact ⟨k', s', h2, h3⟩
  refine ⟨v, M', μ2, lendH keep H Hs, _, rfl, R2, relV_ren hf c hv', ⟨fun k x hx => ?_, ⟨G.grow.mem, fun k hk => ?_, ⟨G.grow.keep.os, G.grow.keep.tape, G.grow.keep.output, G.grow.keep.size, fun b hb hno => G.grow.keep.block b hb (fun h => hno (ownSub h))⟩, fun b hb => ?_, fun b o u hm => ?_⟩, Nat.le_add_right _ _⟩, hk⟩
  · have : k < H.nx := R.pos_lt hx
    simp only [μ2, if_pos this]; exact hx
  · simp only [μ2, if_pos hk]
  · obtain ⟨k, s, hk1, hk2⟩ := hb
    rcases get k with ⟨j, h1, h2, h3⟩ | ⟨h1, h2⟩
    · rw [h3] at hk1
      subst h2; rw [hμ2] at hk2
      exact ownBack ⟨j, s, backdead _ hk1, hk2⟩
    · rw [h2] at hk1
      rw [(old h1 hk1).2] at hk2
      exact .inl ⟨k, s, hk1, hk2⟩
  · rcases G.grow.fresh b o u hm with h | h | h
    · exact .inl h
    · exact .inr (.inl (ownSub h))
    · exact .inr (.inr h)
end Go.Eng

namespace Go.Eng
open Go

theorem Branch.neg {b : Bool} {A B : Prop} (yes : b = false → A) (no : b = true → B) : Branch (!b) A B :=
  ⟨fun h => yes (by simpa using h), fun h => no (by simpa using h)⟩
theorem Branch.negdec {p : Prop} [Decidable p] {A B : Prop} (yes : ¬ p → A) (no : p → B) : Branch (!decide p) A B :=
  ⟨fun h => yes (by simpa using h), fun h => no (by simpa using h)⟩
/-- The frame alone is made shorter; the heap stays. -/
def selF (fr : Fr) : List Nat → Fr
  | [] => []
  | t :: r => (t, look fr t) :: selF fr r
theorem Into.slots {n : Nat} {fr : Fr} {H : Heap} (slots : List Nat) : Into n fr H (selF fr slots) H := by
  intro N M μ w tmps R F hn
  refine ⟨M, μ, R, ⟨F.size, fun t => ?_⟩, hn, Grow.refl _ _ _ _ _⟩
  have key : ∀ (sl : List Nat), relV M (look (selF fr sl) t) μ (tmps.getD t undef) := by
    intro sl
    induction sl with
    | nil => simp [selF, look, relV]
    | cons q r ih =>
      simp only [selF, look]
      by_cases hq : q = t
      · subst hq; simpa using F.slot q
      · rw [beq_false hq]; exact ih
  exact key slots
theorem To.slots {n : Nat} {fr : Fr} {H : Heap} {J : Fr → Heap → Prop} (slots : List Nat) (h : J (selF fr slots) H) : To n fr H J := ⟨_, _, Into.slots slots, h⟩
theorem RetA.same {n : Nat} {K : AV → Heap → Prop} {v : AV} {H : Heap} (h : K v H) : RetA n K v H :=
  ⟨v, H, fun _ M μ _ _ R F hn => ⟨M, μ, R, F, hn, Grow.refl _ _ _ _ _⟩, h⟩
/-- Arguments of which less is known. -/
theorem CallA.args {P : Program} {f : FuncId} {args args' : List AV} {H : Heap} {K : AV → Heap → Prop} (h : CallA P f args' H K) (ha : ∀ M μ vs, relL M args μ vs → relL M args' μ vs) : CallA P f args H K :=
  ⟨h.ok, fun M μ w vs R hv => h.run M μ w vs R (ha M μ _ hv)⟩
/-! ### A call that only looks -/
mutual
/-- No place and no reference. -/
def flatV : AV → Bool
  | .ptr _ _ | .slice _ _ _ _ _ | .map _ | .dptr _ | .dslice _ _ _ => false
  | .func _ cs | .agg cs | .tuple cs => flatL cs
  | _ => true
def flatL : List AV → Bool
  | [] => true
  | c :: cs => flatV c && flatL cs
end
section
variable {M M' : Mem} {μ μ' : Pos}
mutual
theorem relV_flat : ∀ (c : AV) {v : Value}, flatV c = true → relV M c μ v → relV M' c μ' v
  | .any, _, _, _ => by simp only [relV]
  | .bool b, _, _, h => by simpa only [relV] using h
  | .int k n, _, _, h => by simpa only [relV] using h
  | .str s, _, _, h => by simpa only [relV] using h
  | .nilp, _, _, h => by simpa only [relV] using h
  | .nils, _, _, h => by simpa only [relV] using h
  | .nilm, _, _, h => by simpa only [relV] using h
  | .nilf, _, _, h => by simpa only [relV] using h
  | .ptr _ _, _, h, _ | .slice _ _ _ _ _, _, h, _ | .map _, _, h, _ | .dptr _, _, h, _ | .dslice _ _ _, _, h, _ => by simp [flatV] at h
  | .func g cs, _, hn, h => by simp only [relV, flatV] at *; obtain ⟨vs, h1, h2⟩ := h; exact ⟨vs, h1, relL_flat cs hn h2⟩
  | .agg cs, _, hn, h => by simp only [relV, flatV] at *; obtain ⟨vs, h1, h2⟩ := h; exact ⟨vs, h1, relL_flat cs hn h2⟩
  | .tuple cs, _, hn, h => by simp only [relV, flatV] at *; obtain ⟨vs, h1, h2⟩ := h; exact ⟨vs, h1, relL_flat cs hn h2⟩
theorem relL_flat : ∀ (cs : List AV) {vs : List Value}, flatL cs = true → relL M cs μ vs → relL M' cs μ' vs
  | [], _, _, h => by simpa only [relL] using h
  | c :: cs, _, hn, h => by
    simp only [relL, flatL, Bool.and_eq_true] at *; obtain ⟨v, r, h1, h2, h3⟩ := h
    exact ⟨v, r, h1, relV_flat c hn.1 h2, relL_flat cs hn.2 h3⟩
end
end
/-- A call that changes nothing, and hands back r. -/
structure CallS (P : Program) (f : FuncId) (args : List AV) (H : Heap) (r : AV) : Prop where
  ok : callable P f = true
  run : ∀ M μ w (vs : Array Value), Rel M μ H w → relL M args μ vs.toList → Calls P f vs w fun e w' =>
    ∃ v, e = .returned v ∧ relV (fun _ _ => none) r Pos.none v ∧ w'.os = w.os ∧ w'.tape = w.tape ∧ w'.output = w.output ∧ w.heap.size ≤ w'.heap.size ∧ ∀ b, b < w.heap.size → w'.heap[b]? = w.heap[b]?

theorem CallS.of {P : Program} {f : FuncId} {args : List AV} {H : Heap} {r : AV} (h : CallA P f args Heap.nil fun v H' => v = r ∧ H' = Heap.nil) (hr : flatV r = true) (ha : noLocL args = true) : CallS P f args H r :=
  ⟨h.ok, fun M μ w vs R hv => (h.run M Pos.none w vs R.nil (relL_data args ha hv)).mono fun e w' ⟨v, M', μ', H', c, he, R', hv', G, hc, hH⟩ => by
    subst hc
    exact ⟨v, he, relV_flat _ hr hv', G.grow.keep.os, G.grow.keep.tape, G.grow.keep.output, G.grow.keep.size, fun b hb => G.grow.keep.block b hb own_nil⟩⟩
theorem CallS.peek {P : Program} {f : FuncId} {args : List AV} {H : Heap} {r : AV} (k : Nat) {ds : List AV} (hk : H.get k = .cells ds) (hdata : ∀ c ∈ ds, noLoc c = true) (h : CallS P f (pubL k ds args) (pubH k ds H) r) : CallS P f args H r := by
  refine ⟨h.ok, fun M μ w vs R hv => ?_⟩
  obtain ⟨M', R', hV, G⟩ := R.pub k hk hdata
  have hl : ∀ {cs : List AV} {us : List Value}, relL M cs μ us → relL M' (pubL k ds cs) μ us := by
    intro cs
    induction cs with
    | nil => intro us h; simpa only [pubL, relL] using h
    | cons c cs ih => intro us h; simp only [pubL, relL] at h ⊢; obtain ⟨v, r, h1, h2, h3⟩ := h; exact ⟨v, r, h1, hV c v h2, ih h3⟩
  exact h.run M' μ w vs R' (hl hv)
theorem CallS.call {P : Program} {f : FuncId} {args : List AV} {H : Heap} {r : AV} {K : AV → Heap → Prop} (h : CallS P f args H r) (hr : flatV r = true) (hk : K r H) : CallA P f args H K := by
  refine ⟨h.ok, fun M μ w vs R hv => (h.run M μ w vs R hv).mono fun e w' ⟨v, he, hv', h1, h2, h3, h4, h5⟩ => ?_⟩
  have himm : ∀ b o u, M b o = some u → w'.cell? ⟨b, o, none⟩ = some u := fun b o u hm => by
    have hb := R.cell_lt hm
    have := R.imm b o u hm
    simp only [World.cell?] at this ⊢
    rw [h5 b hb]; exact this
  exact ⟨v, M, μ, H, r, he, R.frame (Mem.le_refl _) himm (fun b o u h => .inl h) h5, relV_flat r hr hv', ⟨Pos.le_refl _, ⟨Mem.le_refl _, fun _ _ => rfl, ⟨h1, h2, h3, h4, fun b hb _ => h5 b hb⟩, fun b hb => .inl hb, fun b o u h => .inl h⟩, Nat.le_refl _⟩, hk⟩

/-! ### A call that leaves what is lent as it was -/
theorem CallA.ext {P : Program} {f : FuncId} {args : List AV} {H : Heap} {K K' : AV → Heap → Prop} (h : CallA P f args H K) (hk : ∀ v H', K v H' → ∃ H'', H'.get = H''.get ∧ H'.nx = H''.nx ∧ K' v H'') : CallA P f args H K' := by
  refine ⟨h.ok, fun M μ w vs R hv => (h.run M μ w vs R hv).mono ?_⟩
  rintro e w' ⟨v, M', μ', H', c, rfl, R', hv', G, hK⟩
  obtain ⟨H'', h1, h2, h3⟩ := hk c H' hK
  exact ⟨v, M', μ', H'', c, rfl, R'.ext h1 h2, hv', ⟨G.le, G.grow.ext h1, h2 ▸ G.nx⟩, h3⟩
theorem lend_same {keep : List (Nat × Bool)} {H : Heap} (hdis : distinct keep = true) (hall : keep.all (·.2) = true) (hlt : keep.all (fun x => Nat.blt x.1 H.nx) = true) : (lendH keep H (gcH keep H)).get = H.get ∧ (lendH keep H (gcH keep H)).nx = H.nx := by
  have hk : ∀ j k d, keep[j]? = some (k, d) → d = true ∧ k < H.nx := fun j k d hj => by
    have hm := List.mem_of_getElem? hj
    have h1 := List.all_eq_true.1 hall _ hm
    have h2 := List.all_eq_true.1 hlt _ hm
    exact ⟨h1, by simpa [Nat.blt_eq] using h2⟩
  have inj : ∀ i j, backK keep H.nx i = backK keep H.nx j → i = j := fun i j hij => by
    unfold backK at hij
    split at hij
    · rename_i k d hi
      split at hij
      · rename_i k' d' hj
        subst hij
        exact distinct_keep hdis i j k d d' hi hj
      · have := (hk i k d hi).2; omega
    · rename_i hi
      split at hij
      · rename_i k' d' hj
        have := (hk j k' d' hj).2; omega
      · rename_i hj
        have h1 : keep.length ≤ i := List.getElem?_eq_none_iff.1 hi
        have h2 : keep.length ≤ j := List.getElem?_eq_none_iff.1 hj
        omega
  refine ⟨funext fun k => ?_, by simp [lendH, gcH]⟩
  have hb := lendBs_get (keep := keep) (nx := H.nx) (H' := gcH keep H) k inj (gcH keep H).nx H.bs
  by_cases hex : ∃ j, j < (gcH keep H).nx ∧ backK keep H.nx j = k
  · obtain ⟨j, hj, hjk⟩ := hex
    have := hb.1 j hj hjk
    simp only [Heap.get, lendH]
    rw [this]
    have hlen : j < keep.length := by simpa [gcH] using hj
    obtain ⟨⟨k', d⟩, hkj⟩ : ∃ x, keep[j] = x := ⟨_, rfl⟩
    have hkj' : keep[j]? = some (k', d) := by rw [List.getElem?_eq_getElem hlen, hkj]
    have hd := (hk j k' d hkj').1
    subst hd
    simp only [backK, hkj'] at hjk
    subst hjk
    simp only [backB, hkj', gcH_get, cond_true]
    rfl
  · have := hb.2 fun j hj hjk => hex ⟨j, hj, hjk⟩
    simp only [Heap.get, lendH]
    exact this
/-- A call to which blocks of data are lent, and which leaves them as they were. -/
theorem CallA.lent {P : Program} {f : FuncId} {args : List AV} {H : Heap} {K : AV → Heap → Prop} {Q : AV → Prop} (keep : List (Nat × Bool)) (h : CallA P f (renL (posOf keep) args) (gcH keep H) fun v H' => Q v ∧ H' = gcH keep H) (hdis : distinct keep = true) (hall : keep.all (·.2) = true) (hdata : allData H keep)
    (hlt : keep.all (fun x => Nat.blt x.1 H.nx) = true) (hback : backOk (gcH keep H) keep 0) (hq : ∀ v, Q v → noLoc v = true) (hK : ∀ v, Q v → K v H) (hit : lentOk keep H.get H.nx = true := by rfl) : CallA P f args H K := by
  refine CallA.ext (K := fun v H' => Q v ∧ H' = lendH keep H (gcH keep H)) (CallA.lend keep h hdis hdata hlt ?_ hit) ?_
  · rintro c H' ⟨hc, rfl⟩
    exact ⟨hback, by rw [ren_data _ _ (hq c hc)]; exact hc, rfl⟩
  · rintro v H' ⟨hv, rfl⟩
    exact ⟨H, (lend_same hdis hall hlt).1, (lend_same hdis hall hlt).2, hK v hv⟩
end Go.Eng

namespace Go.Eng
open Go

/-! ### What is handed out becomes data, as far as it reaches -/
def pubAll (f : AV → Option AV) : List AV → Option (List AV)
  | [] => some []
  | c :: r => match f c with
    | some c' => match pubAll f r with
      | some r' => some (c' :: r')
      | none => none
    | none => none
def pubE (η : Nat → AB) : Nat → AV → Option AV
  | 0, v => bif noLoc v then some v else none
  | n + 1, .slice k off len cap e => match η k with
    | .cells cs => match pubAll (pubE η n) ((cs.drop off).take (len * e)) with
      | some l => some (.dslice l len cap)
      | none => none
    | _ => none
  | n + 1, .ptr k off => match η k with
    | .cells cs => match pubAll (pubE η n) (cs.drop off) with
      | some l => some (.dptr l)
      | none => none
    | _ => none
  | n + 1, .agg cs => match pubAll (pubE η n) cs with
    | some l => some (.agg l)
    | none => none
  | n + 1, .tuple cs => match pubAll (pubE η n) cs with
    | some l => some (.tuple l)
    | none => none
  | n + 1, .func g cs => match pubAll (pubE η n) cs with
    | some l => some (.func g l)
    | none => none
  | _ + 1, .map _ => none
  | _ + 1, v => some v

section
variable {M M' : Mem} {μ : Pos} {H : Heap} {w : World}
theorem pubAll_rel {f : AV → Option AV} {ρ : Pos} (hf : ∀ c c' v, f c = some c' → relV M c μ v → relV M' c' ρ v) : ∀ {cs l : List AV} {vs : List Value}, pubAll f cs = some l → relL M cs μ vs → relL M' l ρ vs
  | [], l, vs, h, hr => by simp only [pubAll] at h; cases h; simpa only [relL] using hr
  | c :: r, l, vs, h, hr => by
    simp only [pubAll] at h
    split at h
    · rename_i c' hc
      split at h
      · rename_i r' hr'; cases h
        simp only [relL] at hr ⊢
        obtain ⟨v, t, rfl, h1, h2⟩ := hr
        exact ⟨v, t, rfl, hf _ _ _ hc h1, pubAll_rel hf hr' h2⟩
      · cases h
    · cases h
theorem pubAll_get {f : AV → Option AV} : ∀ {cs l : List AV}, pubAll f cs = some l → ∀ (i : Nat) (c' : AV), l[i]? = some c' → ∃ c, cs[i]? = some c ∧ f c = some c'
  | [], l, h, i, c', hi => by simp only [pubAll] at h; cases h; simp at hi
  | c :: r, l, h, i, c', hi => by
    simp only [pubAll] at h
    split at h
    · rename_i c1 hc
      split at h
      · rename_i r' hr'; cases h
        cases i with
        | zero => simp at hi; subst hi; exact ⟨c, rfl, hc⟩
        | succ i => simp at hi; obtain ⟨d, h1, h2⟩ := pubAll_get hr' i c' hi; exact ⟨d, by simpa using h1, h2⟩
      · cases h
    · cases h
theorem cells_out (R : Rel M μ H w) (hM' : ∀ b o, Own μ H b → M' b o = w.cell? ⟨b, o, none⟩) {k b sz : Nat} {cs : List AV} (hk : H.get k = .cells cs) (hμ : μ k = some (b, sz)) {f : AV → Option AV}
    (hf : ∀ c c' v, f c = some c' → relV M c μ v → relV M' c' Pos.none v) {off : Nat} {ds l : List AV} (hd : ∀ i c, ds[i]? = some c → cs[off + i]? = some c) (hp : pubAll f ds = some l) : relM M' l b off := by
  obtain ⟨b', sz', c, el, fz, h1, h2, _, _, hP⟩ := R.cells k cs hk
  rw [hμ] at h1; cases h1
  refine relM_of_get fun i c' hi => ?_
  obtain ⟨d, h3, h4⟩ := pubAll_get hp i c' hi
  obtain ⟨u, hu, hr⟩ := relP_get hP (hd i d h3)
  refine ⟨u, ?_, hf _ _ _ h4 hr⟩
  rw [hM' b _ ⟨k, sz, by rw [hk]; simp, hμ⟩]
  simp only [World.cell?, h2]
  simpa using hu
theorem pubE_rel (R : Rel M μ H w) (hle : Mem.le M M') (hM' : ∀ b o, Own μ H b → M' b o = w.cell? ⟨b, o, none⟩) : ∀ (n : Nat) (c c' : AV) (v : Value), pubE H.get n c = some c' → relV M c μ v → relV M' c' Pos.none v
  | 0, c, c', v, h, hr => by
    simp only [pubE] at h
    cases hn : noLoc c <;> simp only [hn, cond_true, cond_false] at h
    · cases h
    · cases h; exact relV_data c hn (relV_mono hle c (Pos.le_refl _) hr)
  | n + 1, c, c', v, h, hr => by
    have ih := pubE_rel R hle hM' n
    cases c <;> simp only [pubE] at h
    case slice k off len cap e =>
      split at h
      · rename_i cs hk
        split at h
        · rename_i l hl; cases h
          simp only [relV] at hr ⊢
          obtain ⟨b, sz, q, h1, rfl, h3, h4, h5⟩ := hr
          exact .inl ⟨b, off, q, rfl, h3, h5, cells_out R hM' hk h1 ih (fun i c hi => by
            rw [List.getElem?_take] at hi
            split at hi
            · rwa [List.getElem?_drop] at hi
            · cases hi) hl⟩
        · cases h
      · cases h
    case ptr k off =>
      split at h
      · rename_i cs hk
        split at h
        · rename_i l hl; cases h
          simp only [relV] at hr ⊢
          obtain ⟨b, sz, h1, rfl⟩ := hr
          exact ⟨b, off, rfl, cells_out R hM' hk h1 ih (fun i c hi => by rwa [List.getElem?_drop] at hi) hl⟩
        · cases h
      · cases h
    case agg cs =>
      split at h
      · rename_i l hl; cases h
        simp only [relV] at hr ⊢
        obtain ⟨vs, rfl, hr⟩ := hr
        exact ⟨vs, rfl, pubAll_rel ih hl hr⟩
      · cases h
    case tuple cs =>
      split at h
      · rename_i l hl; cases h
        simp only [relV] at hr ⊢
        obtain ⟨vs, rfl, hr⟩ := hr
        exact ⟨vs, rfl, pubAll_rel ih hl hr⟩
      · cases h
    case func g cs =>
      split at h
      · rename_i l hl; cases h
        simp only [relV] at hr ⊢
        obtain ⟨vs, rfl, hr⟩ := hr
        exact ⟨vs, rfl, pubAll_rel ih hl hr⟩
      · cases h
    case map k => cases h
    all_goals (cases h; exact relV_data _ rfl (relV_mono hle _ (Pos.le_refl _) hr))
end
theorem Into.out {fr : Fr} {H : Heap} {v r : AV} (m : Nat) (h : pubE H.get m v = some r) : Into 0 ((0, v) :: fr) H [(0, r)] Heap.nil := by
  intro N M μ w tmps R F _
  let M' : Mem := fun b o => open Classical in if Own μ H b then w.cell? ⟨b, o, none⟩ else M b o
  have hO : ∀ b o, Own μ H b → M' b o = w.cell? ⟨b, o, none⟩ := fun b o hb => by simp [M', hb]
  have hN : ∀ b o, ¬ Own μ H b → M' b o = M b o := fun b o hb => by simp [M', hb]
  have hle : Mem.le M M' := fun b o u hu => by
    by_cases hb : Own μ H b
    · rw [hO b o hb]; exact R.imm b o u hu
    · rw [hN b o hb]; exact hu
  refine ⟨M', Pos.none, ⟨fun _ _ => rfl, fun _ _ => rfl, fun k cs h => by simp [Heap.get, Heap.nil, bget] at h, fun k cs h => by simp [Heap.get, Heap.nil, bget] at h, fun j k l c h => by simp [Heap.get, Heap.nil, bget] at h, fun i j b s t h => by simp [Heap.get, Heap.nil, bget] at h, fun b o u hu => ?_, fun k b s h => by simp [Heap.get, Heap.nil, bget] at h⟩, ⟨F.size, fun t => ?_⟩, Nat.zero_le _, ⟨hle, fun k hk => by omega, ⟨rfl, rfl, rfl, Nat.le_refl _, fun _ _ _ => rfl⟩, fun b hb => absurd hb own_nil, fun b o u hu => ?_⟩⟩
  · by_cases hb : Own μ H b
    · rw [hO b o hb] at hu; exact hu
    · rw [hN b o hb] at hu; exact R.imm b o u hu
  · simp only [look]
    by_cases e : 0 = t
    · subst e
      have := F.slot 0
      simp only [look, Nat.beq_refl, cond_true] at this ⊢
      exact pubE_rel R hle hO m _ _ _ h this
    · rw [beq_false e]; simp [relV]
  · by_cases hb : Own μ H b
    · exact .inr (.inl hb)
    · rw [hN b o hb] at hu; exact .inl hu
/-- **A result is handed out as data**, whatever of the heap it reaches. -/
theorem RetA.out {K : AV → Heap → Prop} {v r : AV} {H : Heap} (m : Nat) (h : pubE H.get m v = some r) (hk : K r Heap.nil) : RetA 0 K v H :=
  ⟨r, Heap.nil, Into.out m h, hk⟩
theorem CallA.out {P : Program} {f : FuncId} {vs : List AV} {K0 K : AV → Heap → Prop} (m : Nat) (h : CallA P f vs Heap.nil K0) (hk : ∀ v H', K0 v H' → ∃ r, pubE H'.get m v = some r ∧ K r Heap.nil) : CallA P f vs Heap.nil K := by
  refine ⟨h.ok, fun M μ w vs0 R hv => (h.run M μ w vs0 R hv).mono ?_⟩
  rintro e w' ⟨v, M', μ', H', c, rfl, R', hv', G, hK⟩
  have hμ : μ = Pos.none := funext fun k => R.dom k (Nat.zero_le _)
  subst hμ
  obtain ⟨r, hr, hk⟩ := hk c H' hK
  obtain ⟨M2, μ2, R2, F2, _, G2⟩ := Into.out (fr := []) m hr 1 M' μ' w' #[v] R' ⟨rfl, fun t => by
    simp only [look]
    by_cases e : 0 = t
    · subst e; simpa using hv'
    · rw [beq_false e]; simp [relV]⟩ (Nat.zero_le _)
  have := F2.slot 0
  refine ⟨v, M2, μ2, Heap.nil, r, rfl, R2, by simpa [look] using this, ⟨(fun k x h => nomatch h), G.grow.trans G2, Nat.le_refl _⟩, hk⟩
end Go.Eng

namespace Go.Eng
open Go Go.ChangeShapes Go.WideShapes Go.RowKit

/-! ### From a contract to a statement: what arguments look like -/
inductive Sh where
  | b
  | i (k : IntKind)
  | str
  | sl (e : Sh)
  | ar (n : Nat) (e : Sh)
  | ag (l : List Sh)
mutual
def Ty : Sh → Type
  | .b => Bool
  | .i _ => Int
  | .str => ByteArray
  | .sl e => List (Ty e)
  | .ar _ e => List (Ty e)
  | .ag l => Tys l
def Tys : List Sh → Type
  | [] => Unit
  | s :: r => Ty s × Tys r
end
mutual
def cellsT : (s : Sh) → Ty s → List AV
  | .b, x => [.bool x]
  | .i k, x => [.int k x]
  | .str, x => [.str x]
  | .sl e, l => [.dslice (List.flatMap (cellsT e) l) (List.length l) none]
  | .ar _ e, l => List.flatMap (cellsT e) l
  | .ag l, x => cellsTs l x
def cellsTs : (l : List Sh) → Tys l → List AV
  | [], _ => []
  | s :: r, x => cellsT s x.1 ++ cellsTs r x.2
end
mutual
def wfT : (s : Sh) → Ty s → Prop
  | .b, _ => True
  | .i k, x => let n : Int := x; k.min ≤ n ∧ n ≤ k.max
  | .str, x => ByteArray.size x ≤ maxLen
  | .sl e, l => (∀ x, List.Mem x l → wfT e x) ∧ List.length l ≤ maxLen
  | .ar n e, l => (∀ x, List.Mem x l → wfT e x) ∧ List.length l = n
  | .ag l, x => wfTs l x
def wfTs : (l : List Sh) → Tys l → Prop
  | [], _ => True
  | s :: r, x => wfT s x.1 ∧ wfTs r x.2
end
mutual
def widthT : Sh → Nat
  | .b | .i _ | .str | .sl _ => 1
  | .ar n e => n * widthT e
  | .ag l => widthTs l
def widthTs : List Sh → Nat
  | [] => 0
  | s :: r => widthT s + widthTs r
end
mutual
def noSl : Sh → Bool
  | .sl _ => false
  | .ar _ e => noSl e
  | .ag l => noSls l
  | _ => true
def noSls : List Sh → Bool
  | [] => true
  | s :: r => noSl s && noSls r
end
/-- Fields that lie behind each other. -/
def shFs (P : Program) (g : TypeId → Option Sh) : List Field → Nat → Option (List Sh)
  | [], _ => some []
  | f :: r, off => bif Nat.beq f.offset off then (match g f.type with
    | some s => bif Nat.beq (P.cellsOf f.type) (widthT s) then (match shFs P g r (off + widthT s) with
      | some l => some (s :: l)
      | none => none) else none
    | none => none) else none
def shOf (P : Program) : Nat → TypeId → Option Sh
  | 0, _ => none
  | n + 1, t => match P.underlying t with
    | some .bool => some .b
    | some (.int k) => some (.i k)
    | some .string => some .str
    | some (.slice e) => match shOf P n e with
      | some s => bif Nat.beq (P.cellsOf e) (widthT s) && noSl s then some (.sl s) else none
      | none => none
    | some (.array m e) => match shOf P n e with
      | some s => bif Nat.beq (P.cellsOf e) (widthT s) && Nat.beq (P.cellsOf t) (m * widthT s) then some (.ar m s) else none
      | none => none
    | some (.struct fs) => match shFs P (shOf P n) fs.toList 0 with
      | some l => bif Nat.beq (P.cellsOf t) (widthTs l) then some (.ag l) else none
      | none => none
    | _ => none

def Mw (w : World) : Mem := fun b o => w.cell? ⟨b, o, none⟩
section
variable {H : Type} {enc : TypeId × Value → H} {P : Program} {w : World} {sp : Nat → Bool} {held : Bool}
theorem flat_wf_len {e : Sh} (he : ∀ x : Ty e, wfT e x → (cellsT e x).length = widthT e) : ∀ l : List (Ty e), (∀ x, List.Mem x l → wfT e x) → (List.flatMap (cellsT e) l).length = l.length * widthT e
  | [], _ => by simp
  | x :: r, h => by
    rw [List.flatMap_cons, List.length_append, he x (h x (.head _)), flat_wf_len he r (fun y hy => h y (.tail _ hy)), List.length_cons, Nat.add_mul]; omega
mutual
theorem cellsT_len : ∀ (s : Sh) (x : Ty s), wfT s x → (cellsT s x).length = widthT s
  | .b, _, _ => by simp only [cellsT, widthT]; rfl
  | .i k, _, _ => by simp only [cellsT, widthT]; rfl
  | .str, _, _ => by simp only [cellsT, widthT]; rfl
  | .sl e, _, _ => by simp only [cellsT, widthT]; rfl
  | .ar n e, l, h => by
    simp only [wfT] at h
    simp only [cellsT, widthT]
    rw [flat_wf_len (cellsT_len e) l h.1, h.2]
  | .ag l, x, h => by
    simp only [wfT] at h
    simp only [cellsT, widthT]; exact cellsTs_len l x h
theorem cellsTs_len : ∀ (l : List Sh) (x : Tys l), wfTs l x → (cellsTs l x).length = widthTs l
  | [], _, _ => by simp only [cellsTs, widthTs]; rfl
  | s :: r, x, h => by
    simp only [wfTs] at h
    simp only [cellsTs, widthTs, List.length_append]
    rw [cellsT_len s x.1 h.1, cellsTs_len r x.2 h.2]
end

theorem relL_app {M : Mem} {μ : Pos} {cs ds : List AV} {vs us : List Value} (h : relL M cs μ vs) (k : relL M ds μ us) : relL M (cs ++ ds) μ (vs ++ us) := relL_append h k
/-- What the reading gives of a row of cells. -/
def Reads (w : World) (s : Sh) (cs : List Value) : Prop := ∃ x : Ty s, wfT s x ∧ relL (Mw w) (cellsT s x) Pos.none cs
def ReadsAll (w : World) (l : List Sh) (cs : List Value) : Prop := ∃ x : Tys l, wfTs l x ∧ relL (Mw w) (cellsTs l x) Pos.none cs
theorem take_off (cs : List Value) (off a b : Nat) : (cs.drop off).take (a + b) = (cs.drop off).take a ++ (cs.drop (off + a)).take b := by
  rw [List.take_add, List.drop_drop]
def plainAt (v : Value) : Prop := ∀ a len cap, v = .slice (some a) len cap → a.spot = none
def SpOK (s : Sh) (cs : List Value) : Prop := noSl s = true ∨ ∀ v ∈ cs, plainAt v
theorem mem_part {v : Value} {cs : List Value} {a b : Nat} (h : v ∈ (cs.drop a).take b) : v ∈ cs := List.mem_of_mem_drop (List.mem_of_mem_take h)
theorem shFs_reads {g : TypeId → Option Sh} : ∀ {fs : List Field} {off : Nat} {l : List Sh} {cs : List Value}, shFs P g fs off = some l → (noSls l = true ∨ ∀ v ∈ cs, plainAt v) →
    (∀ f ∈ fs, ∀ s, g f.type = some s → SpOK s cs → Reads w s ((cs.drop f.offset).take (P.cellsOf f.type))) → ReadsAll w l ((cs.drop off).take (widthTs l))
  | [], off, l, cs, h, _, _ => by
    simp only [shFs] at h; cases h
    exact ⟨(), by simp only [wfTs], by simp [cellsTs, widthTs, relL]⟩
  | f :: r, off, l, cs, h, hsp, hr => by
    simp only [shFs] at h
    cases hb : Nat.beq f.offset off <;> simp only [hb, cond_true, cond_false] at h
    · cases h
    have hoff := Nat.eq_of_beq_eq_true hb
    split at h
    · rename_i s hs
      cases hc : Nat.beq (P.cellsOf f.type) (widthT s) <;> simp only [hc, cond_true, cond_false] at h
      · cases h
      have hw := Nat.eq_of_beq_eq_true hc
      split at h
      · rename_i l' hl; cases h
        simp only [noSls, Bool.and_eq_true] at hsp
        obtain ⟨x, h1, h2⟩ := hr f (List.mem_cons_self ..) s hs (hsp.imp (·.1) id)
        obtain ⟨y, h3, h4⟩ := shFs_reads (cs := cs) hl (hsp.imp (·.2) id) fun f' hf' => hr f' (List.mem_cons_of_mem _ hf')
        refine ⟨(x, y), by simp only [wfTs]; exact ⟨h1, h3⟩, ?_⟩
        simp only [cellsTs, widthTs, take_off]
        rw [hoff, hw] at h2
        exact relL_app h2 h4
      · cases h
    · cases h
theorem chunks {e : Sh} {k : Nat} : ∀ (n : Nat) (cs : List Value), (∀ i, i < n → Reads w e ((cs.drop (i * k)).take k)) → ∃ l : List (Ty e), l.length = n ∧ (∀ x, List.Mem x l → wfT e x) ∧ relL (Mw w) (List.flatMap (cellsT e) l) Pos.none (cs.take (n * k))
  | 0, cs, _ => ⟨[], rfl, (fun x h => nomatch h), by simp [relL]⟩
  | n + 1, cs, h => by
    obtain ⟨x, h1, h2⟩ := h 0 (by omega)
    obtain ⟨l, h3, h4, h5⟩ := chunks n (cs.drop k) fun i hi => by
      have := h (i + 1) (by omega)
      rw [List.drop_drop]
      rw [show k + i * k = (i + 1) * k by rw [Nat.add_mul]; omega]; exact this
    refine ⟨x :: l, by simp [h3], fun y hy => ?_, ?_⟩
    · cases hy with
      | head => exact h1
      | tail _ hy => exact h4 y hy
    · rw [List.flatMap_cons, show (n + 1) * k = k + n * k by rw [Nat.add_mul]; omega, List.take_add]
      simp only [Nat.zero_mul, List.drop_zero] at h2
      exact relL_app h2 h5
theorem mapM_range {α : Type} {f : Nat → Option α} {n : Nat} {xs : List α} (h : (List.range n).mapM f = some xs) : xs.length = n ∧ ∀ i, i < n → ∃ y, f i = some y :=
  ⟨by simpa using mapM_some_length h, fun i hi => mapM_each h i (List.mem_range.2 hi)⟩
theorem cells?_rel {a : Addr} {n : Nat} {cs : List Value} (h : w.cells? 0 a n = some cs) : cs.length = n ∧ ∀ i v, cs[i]? = some v → w.cell? (a.add i) = some v := by
  unfold World.cells? at h
  rw [if_pos (Nat.zero_le _)] at h
  have hl : cs.length = n := by simpa using mapM_some_length h
  refine ⟨hl, fun i v hi => ?_⟩
  have hi' : i < n := by rw [← hl]; exact (List.getElem?_eq_some_iff.1 hi).1
  have := mapM_some_get h i i (by simp [hi'])
  rw [this]; exact hi
theorem reads_of_trod : ∀ (k : Nat) (t : TypeId) (s : Sh) (n : Nat) (cs : List Value) (x : DataW H × List MemPlace), shOf P k t = some s → SpOK s cs → DataW.trod enc P w 0 sp held n t cs = some x → Reads w s cs
  | 0, _, _, _, _, _, h, _, _ => by simp [shOf] at h
  | k + 1, t, s, n, cs, x, h, hsp, hd => by
    simp only [shOf] at h
    split at h
    · rename_i ht; cases h
      obtain ⟨b, rfl, _⟩ := DataW.trod_bool ht hd
      exact ⟨b, by simp only [wfT], by simp [cellsT, relL, relV]⟩
    · rename_i kk ht; cases h
      obtain ⟨m, rfl, _, hw⟩ := DataW.trod_int ht hd
      refine ⟨(m : Int), ?_, by simp [cellsT, relL, relV]⟩
      simp only [wfT]
      simpa [Lit.wf] using hw
    · rename_i ht; cases h
      obtain ⟨b, rfl, _, hs⟩ := DataW.trod_string ht hd
      exact ⟨b, by simp only [wfT]; exact hs, by simp [cellsT, relL, relV]⟩
    · rename_i e ht
      split at h
      · rename_i s' hs
        cases hb : (Nat.beq (P.cellsOf e) (widthT s') && noSl s') <;> simp only [hb, cond_true, cond_false] at h
        · cases h
        cases h
        simp only [Bool.and_eq_true] at hb
        have hwd := Nat.eq_of_beq_eq_true hb.1
        cases n with
        | zero => simp [DataW.trod] at hd
        | succ m =>
          unfold DataW.trod at hd
          rw [ht] at hd
          split at hd <;> try (first | (rename_i hh; cases hh; done) | (rename_i hh _; cases hh; done))
          · refine ⟨([] : List (Ty s')), ?_, ?_⟩
            · simp only [wfT]; exact ⟨(fun x h => nomatch h), Nat.zero_le _⟩
            · simp only [cellsT, relL]
              refine ⟨_, [], rfl, ?_, rfl⟩
              simp only [relV]
              exact .inr ⟨by first | rfl | trivial, rfl, rfl, fun c0 h => by cases h⟩
          · rename_i a len cap hh
            cases hh
            have hspot : a.spot = none := by
              rcases hsp with h | h
              · simp [noSl] at h
              · exact h _ (List.mem_cons_self ..) a len cap rfl
            simp only at hd
            split at hd
            · rename_i hc
              simp only [Option.bind_eq_some_iff] at hd
              obtain ⟨elems, he, _⟩ := hd
              obtain ⟨hl, hel⟩ := mapM_range he
              -- the cells, one element behind the other
              have cellOf : ∀ i, i < len → ∃ cs', w.cells? 0 (a.add (i * P.cellsOf e)) (P.cellsOf e) = some cs' ∧ Reads w s' cs' := fun i hi => by
                obtain ⟨y, hy⟩ := hel i hi
                simp only [Option.bind_eq_some_iff] at hy
                obtain ⟨cs', h1, h2⟩ := hy
                exact ⟨cs', h1, reads_of_trod k _ _ _ _ _ hs (.inl hb.2) h2⟩
              have hadd : ∀ i, a.add i = ⟨a.block, a.off + i, none⟩ := fun i => by
                unfold Addr.add
                split
                · rename_i h0; subst h0; cases a; simp only at hspot ⊢; subst hspot; rfl
                · rfl
              have build : ∀ j, j ≤ len → ∃ l : List (Ty s'), l.length = j ∧ (∀ x, List.Mem x l → wfT s' x) ∧ relM (Mw w) (List.flatMap (cellsT s') l) a.block (a.off + (len - j) * P.cellsOf e) := by
                intro j
                induction j with
                | zero => exact fun _ => ⟨[], rfl, (fun x h => nomatch h), by simp [relM]⟩
                | succ j ih =>
                  intro hj
                  obtain ⟨l, h3, h4, h5⟩ := ih (by omega)
                  obtain ⟨cs', h1, x, h6, h7⟩ := cellOf (len - (j + 1)) (by omega)
                  obtain ⟨hlen, hcell⟩ := cells?_rel h1
                  refine ⟨x :: l, by simp [h3], fun y hy => ?_, ?_⟩
                  · cases hy with
                    | head => exact h6
                    | tail _ hy => exact h4 y hy
                  · rw [List.flatMap_cons]
                    refine relM_of_get fun i c hi => ?_
                    by_cases hil : i < (cellsT s' x).length
                    · rw [List.getElem?_append_left hil] at hi
                      obtain ⟨u, hu, hr⟩ := relL_get h7 hi
                      refine ⟨u, ?_, hr⟩
                      have := hcell i u hu
                      rw [hadd, Go.Eng.add_addr] at this
                      exact this
                    · rw [List.getElem?_append_right (by omega)] at hi
                      obtain ⟨u, hu, hr⟩ := relM_get h5 hi
                      refine ⟨u, ?_, hr⟩
                      rw [cellsT_len s' x h6, ← hwd] at hu hil
                      rw [← hu]
                      congr 1
                      have : (len - j) * P.cellsOf e = (len - (j + 1)) * P.cellsOf e + P.cellsOf e := by
                        rw [show len - j = len - (j + 1) + 1 by omega, Nat.add_mul]; omega
                      omega
              obtain ⟨l, h3, h4, h5⟩ := build len (Nat.le_refl _)
              refine ⟨l, ?_, ?_⟩
              · simp only [wfT]; exact ⟨h4, by rw [h3]; omega⟩
              · simp only [cellsT, relL]
                refine ⟨_, [], rfl, ?_, rfl⟩
                simp only [relV]
                refine .inl ⟨a.block, a.off, cap, ?_, by rw [h3]; exact hc.2.1, (fun c0 h => by cases h), ?_⟩
                · rw [h3]; cases a; simp only at hspot ⊢; subst hspot; rfl
                · rw [Nat.sub_self, Nat.zero_mul] at h5; exact h5
            · cases hd
          · cases hd
      · cases h
    · rename_i mm e ht
      split at h
      · rename_i s' hs
        cases hb : (Nat.beq (P.cellsOf e) (widthT s') && Nat.beq (P.cellsOf t) (mm * widthT s')) <;> simp only [hb, cond_true, cond_false] at h
        · cases h
        cases h
        simp only [Bool.and_eq_true] at hb
        have hwd := Nat.eq_of_beq_eq_true hb.1
        have hwd2 := Nat.eq_of_beq_eq_true hb.2
        obtain ⟨xs, m, rfl, _, hl, hxl, hx⟩ := DataW.trod_array ht hd
        obtain ⟨l, h3, h4, h5⟩ := chunks (w := w) (e := s') (k := P.cellsOf e) mm cs fun i hi => by
          have := hx i hi
          rw [List.getElem?_eq_getElem (by omega)] at this
          exact reads_of_trod k _ _ _ _ _ hs (hsp.imp (fun h => by simpa [noSl] using h) (fun h v hv => h v (mem_part hv))) this
        refine ⟨l, by simp only [wfT]; exact ⟨h4, h3⟩, ?_⟩
        simp only [cellsT]
        rw [List.take_of_length_le (by rw [hl, hwd, hwd2]; exact Nat.le_refl _)] at h5
        exact h5
      · cases h
    · rename_i fs ht
      split at h
      · rename_i l hl
        cases hb : Nat.beq (P.cellsOf t) (widthTs l) <;> simp only [hb, cond_true, cond_false] at h
        · cases h
        cases h
        have hwd := Nat.eq_of_beq_eq_true hb
        obtain ⟨xs, m, rfl, _, hlen, hxl, hx⟩ := DataW.trod_struct ht hd
        have := shFs_reads (w := w) (cs := cs) hl (hsp.imp (fun h => by simpa [noSl] using h) id) fun f hf s' hs' hsp' => by
          obtain ⟨i, hi⟩ := List.getElem?_of_mem hf
          have hi' : fs[i]? = some f := by simpa using hi
          have h1 := hx i f hi'
          have h2 : i < xs.length := by rw [hxl]; exact (Array.getElem?_eq_some_iff.1 hi').1
          rw [List.getElem?_eq_getElem h2] at h1
          exact reads_of_trod k _ _ _ _ _ hs' (hsp'.imp id (fun h v hv => h v (mem_part hv))) h1
        obtain ⟨y, h1, h2⟩ := this
        refine ⟨y, by simp only [wfT]; exact h1, ?_⟩
        simp only [cellsT]
        rw [List.drop_zero, List.take_of_length_le (by omega)] at h2
        exact h2
      · cases h
    · cases h
end
end Go.Eng

