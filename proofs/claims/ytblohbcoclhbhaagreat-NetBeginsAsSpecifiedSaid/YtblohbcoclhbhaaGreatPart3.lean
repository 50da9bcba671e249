/- Part of a proof about the given program: lemmas that the other parts use. -/
import Derived.Test.YtblohbcoclhbhaaGreatPart2
import Derived.OpenShut
import Derived.JoinedOf
import Derived.Handed
import Derived.RecoverIn
import Derived.Test.YtblohbcoclhbhaaGreatProg
import Derived.KernelRfl

set_option linter.all false
set_option linter.unusedSimpArgs false
set_option linter.unusedVariables false
namespace Go.Eng
open Go
variable [Globs]

def AOp.rd (ev : AX → AV) (η : Nat → AB) (K : AV → Prop) : AOp → Prop
 | .p o => o.run ev K
 | .v o => o.run ev K
 | .h (.load agg n x) => match ev x with
  | .dptr cs => loadK agg n cs K
  | .ptr k off => match η k with
   | .cells cs => loadK agg n (cs.drop off) K
   | _ => False
  | _ => False
 | .m (.get ok kk zero mm k) => mapN η (ev mm) fun _ es => bif keyOk kk (ev k) then MRes (mfind kk (ev k) es) fun r => K (mval ok zero r) else False
 | _ => False
theorem AOp.rd_det {ev : AX → AV} {η : Nat → AB} {K : AV → Prop} : ∀ {o : AOp}, o.rd ev η K → ∃ v, K v ∧ o.rd ev η (fun x => x = v)
 | .p o, hh => POp.det hh
 | .v o, hh => VOp.det hh
 | .h (.load agg n x), hh => by
  simp only [AOp.rd] at hh ⊢
  split at hh
  · exact loadK_det hh
  · split at hh
    · exact loadK_det hh
    · exact hh.elim
  · exact hh.elim
 | .m (.get ok kk zero mm k), hh => by
  simp only [AOp.rd] at hh ⊢
  rcases mapN_spec hh with ⟨hm, hh⟩ | ⟨q, es, hm, hes, hh⟩
  · cases hk : keyOk kk (ev k) <;> simp only [hk, cond_true, cond_false] at hh
    obtain ⟨r, hr, hK⟩ := hh.ex
    exact ⟨_, hK, by simp only [hm, mapN, cond_true]; exact ⟨r, hr, rfl⟩⟩
  · cases hk : keyOk kk (ev k) <;> simp only [hk, cond_true, cond_false] at hh
    obtain ⟨r, hr, hK⟩ := hh.ex
    exact ⟨_, hK, by simp only [hm, mapN, hes, cond_true]; exact ⟨r, hr, rfl⟩⟩
theorem AOp.rd_congr {ev ev' : AX → AV} {η : Nat → AB} {K : AV → Prop} : ∀ {o : AOp}, (∀ x ∈ o.xs, ev x = ev' x) → o.rd ev η K = o.rd ev' η K
 | .p o, hh => POp.run_congr hh
 | .v o, hh => VOp.run_congr hh
 | .h (.load agg n x), hh => by simp only [AOp.rd]; rw [hh x (by simp [AOp.xs, HOp.xs])]
 | .h (.alloc _), _ | .h (.box _), _ | .h (.store ..), _ => rfl
 | .m (.get ok kk zero mm k), hh => by simp only [AOp.rd]; rw [hh mm (by simp [AOp.xs, MOp.xs]), hh k (by simp [AOp.xs, MOp.xs])]
 | .m .mk, _ | .m (.set ..), _ | .m (.del ..), _ | .m (.len _), _ | .m (.range _), _ | .m (.next _), _ | .m (.entry _), _ | .m (.delw ..), _ | .m (.copy ..), _ | .m (.copyS ..), _ => rfl
 | .d _, _ | .l _, _ | .call .., _ | .callo .., _ | .callv .., _ | .nq .., _ | .callx .., _ | .callvx .., _ | .calli .., _ | .pan _, _ => rfl
theorem AOp.rd_run {P : Program} {fr : Fr} {H : Heap} {v : AV} {Kp : AV → Heap → Prop} : ∀ {o : AOp}, o.rd (AX.ev fr) H.get (fun x => x = v) → o.run P fr H (fun u H' => u = v ∧ H' = H) Kp
 | .p o, hh => by simp only [AOp.run, and_true]; exact hh
 | .v o, hh => by simp only [AOp.run, and_true]; exact hh
 | .h (.load agg n x), hh => by simp only [AOp.run, HOp.run, and_true]; exact hh
 | .m (.get ok kk zero mm k), hh => by simp only [AOp.run, MOp.run, mapK, and_true]; exact hh
noncomputable def rdK (H : Heap) (K : Fr → Prop) (l : List AO) : Fr → Prop := List.rec (motive := fun _ => Fr → Prop) K (fun q _ ih fr => q.op.rd (AX.ev fr) H.get fun v => putK fr q.dst v ih) l
theorem rdK_cons (H : Heap) (K : Fr → Prop) (q : AO) (l : List AO) (fr : Fr) : rdK H K (q :: l) fr = q.op.rd (AX.ev fr) H.get fun v => rdK H K l (put fr q.dst v) := by
 show (q.op.rd (AX.ev fr) H.get fun v => putK fr q.dst v (rdK H K l)) = _
 congr 1; funext v; rw [putK_eq]
def AO.writes (q : AO) (t : Nat) : Prop := q.dst = some t
def okRd : List AO → Prop
 | [] => True
 | q :: l => (∀ d, q.dst = some d → q.reads d = false ∧ ∀ r ∈ l, r.dst ≠ some d) ∧ (∀ r ∈ l, ∀ d, r.dst = some d → q.reads d = false) ∧ okRd l
theorem look_put_ne {fr : Fr} {d : Option Nat} {v : AV} {t : Nat} (h : d ≠ some t) : look (put fr d v) t = look fr t := by
 rw [look_put]
 cases d with
 | none => rfl
 | some d => simp only [ups]; rw [if_neg (fun e => h (by rw [e]))]
theorem look_put_eq {fr : Fr} {v : AV} {t : Nat} : look (put fr (some t) v) t = v := by rw [look_put]; simp [ups]
theorem ev_agree {q : AO} {fr fr' : Fr} (h : ∀ t, q.reads t = true → look fr t = look fr' t) : ∀ x ∈ q.op.xs, AX.ev fr x = AX.ev fr' x := by
 intro x hx
 cases x with
 | c v => rfl
 | g n => rfl
 | t n =>
  refine h n ?_
  simp only [AO.reads, Bool.or_eq_true]
  exact .inl (List.any_eq_true.2 ⟨.t n, hx, by simp [AX.is]⟩)
theorem rdK_fix {H : Heap} {K : Fr → Prop} : ∀ {l : List AO} {fr : Fr}, okRd l → rdK H K l fr → ∃ fr', K fr' ∧ (∀ t, (∀ q ∈ l, q.dst ≠ some t) → look fr' t = look fr t) ∧ ∀ q ∈ l, ∃ v, q.op.rd (AX.ev fr') H.get (fun x => x = v) ∧ ∀ d, q.dst = some d → look fr' d = v
 | [], fr, _, h => ⟨fr, h, fun _ _ => rfl, fun q hq => by cases hq⟩
 | q :: l, fr, ok, h => by
  rw [rdK_cons] at h
  obtain ⟨v, hk, hv⟩ := AOp.rd_det h
  obtain ⟨ok1, ok2, ok3⟩ := ok
  obtain ⟨fr', h1, h2, h3⟩ := rdK_fix ok3 hk
  refine ⟨fr', h1, fun t ht => ?_, fun r hr => ?_⟩
  · rw [h2 t fun r hr => ht r (List.mem_cons_of_mem _ hr), look_put_ne (ht q List.mem_cons_self)]
  · rcases List.mem_cons.1 hr with rfl | hr
    · refine ⟨v, ?_, fun d hd => ?_⟩
      · rw [AOp.rd_congr (ev' := AX.ev fr) (ev_agree fun t ht => ?_)]
        · exact hv
        · have hself : r.dst ≠ some t := fun e => by have := (ok1 t e).1; rw [ht] at this; cases this
          rw [h2 t fun r' hr' e => (by have := ok2 r' hr' t e; rw [ht] at this; cases this), look_put_ne hself]
      · rw [h2 d fun r' hr' => (ok1 d hd).2 r' hr', hd, look_put_eq]
    · exact h3 r hr
def selT (f : Nat → Bool) : List Nat → List AO → List AO
 | t :: ts, q :: qs => bif f t then q :: selT f ts qs else selT f ts qs
 | _, _ => []
theorem selT_mem {f : Nat → Bool} : ∀ {tags : List Nat} {qs : List AO} {i t : Nat} {q : AO}, tags[i]? = some t → qs[i]? = some q → f t = true → q ∈ selT f tags qs
 | [], _, i, _, _, h, _, _ => by simp at h
 | _ :: _, [], i, _, _, _, h, _ => by simp at h
 | u :: ts, r :: qs, 0, t, q, h1, h2, h3 => by
  simp at h1 h2; subst h1; subst h2
  simp only [selT, h3, cond_true]; exact List.mem_cons_self
 | u :: ts, r :: qs, i + 1, t, q, h1, h2, h3 => by
  have := selT_mem (f := f) (tags := ts) (qs := qs) (by simpa using h1) (by simpa using h2) h3
  simp only [selT]
  cases f u
  · exact this
  · exact List.mem_cons_of_mem _ this
theorem selT_of {f : Nat → Bool} : ∀ {tags : List Nat} {qs : List AO} {q : AO}, q ∈ selT f tags qs → ∃ i t : Nat, tags[i]? = some t ∧ qs[i]? = some q ∧ f t = true
 | [], _, q, h => by simp [selT] at h
 | _ :: _, [], q, h => by simp [selT] at h
 | u :: ts, r :: qs, q, h => by
  simp only [selT] at h
  cases hu : f u with
  | true =>
   rw [hu] at h
   rcases List.mem_cons.1 h with rfl | h
   · exact ⟨0, u, rfl, rfl, hu⟩
   · obtain ⟨i, t, h1, h2, h3⟩ := selT_of h; exact ⟨i + 1, t, by simpa using h1, by simpa using h2, h3⟩
  | false =>
   rw [hu] at h
   obtain ⟨i, t, h1, h2, h3⟩ := selT_of h; exact ⟨i + 1, t, by simpa using h1, by simpa using h2, h3⟩
def sameD : List AO → Fr → Fr → Prop
 | [], _, _ => True
 | q :: r, f, g => (match q.dst with
  | some d => look f d = look g d
  | none => True) ∧ sameD r f g
theorem sameD_spec : ∀ {l : List AO} {f g : Fr}, sameD l f g → ∀ q ∈ l, ∀ d, q.dst = some d → look f d = look g d
 | [], _, _, _, q, hq, _, _ => by cases hq
 | q :: r, f, g, h, q', hq, d, hd => by
  rcases List.mem_cons.1 hq with rfl | hq
  · have := h.1; rw [hd] at this; exact this
  · exact sameD_spec h.2 q' hq d hd
def forgetF : List AO → Fr → Fr
 | [], fr => fr
 | q :: r, fr => match q.dst with
  | some d => (d, .any) :: forgetF r fr
  | none => forgetF r fr
theorem look_forget : ∀ (qs : List AO) (fr : Fr) (t : Nat), look (forgetF qs fr) t = .any ∨ (look (forgetF qs fr) t = look fr t ∧ ∀ q ∈ qs, q.dst ≠ some t)
 | [], fr, t => .inr ⟨rfl, fun q hq => by cases hq⟩
 | q :: r, fr, t => by
  simp only [forgetF]
  split
  · rename_i d hd
    simp only [look]
    by_cases h : d = t
    · subst h; simp
    · rw [beq_false h]
      rcases look_forget r fr t with h1 | ⟨h1, h2⟩
      · exact .inl h1
      · refine .inr ⟨h1, fun q' hq' => ?_⟩
        rcases List.mem_cons.1 hq' with rfl | hq'
        · rw [hd]; simpa using h
        · exact h2 q' hq'
  · rename_i hd
    rcases look_forget r fr t with h1 | ⟨h1, h2⟩
    · exact .inl h1
    · refine .inr ⟨h1, fun q' hq' => ?_⟩
      rcases List.mem_cons.1 hq' with rfl | hq'
      · rw [hd]; simp
      · exact h2 q' hq'
def isPF (t : Nat) : Bool := Nat.ble t 1
def isF (t : Nat) : Bool := Nat.beq t 1
def isFP (t : Nat) : Bool := Nat.beq t 1 || Nat.beq t 2
noncomputable def actK (P : Program) (ci : Nat) (tags : List Nat) (qs : List AO) (K : Fr → Heap → Prop) (Kp : AV → Fr → Heap → Prop) (fr : Fr) (H : Heap) : Prop := match qs[ci]? with
 | some c => rdK H (fun fr0 => c.op.run P fr0 H (fun v H1 => putK fr0 c.dst v fun fr1 => rdK H1 (fun fr' => sameD (selT isF tags qs) fr0 fr' ∧ K fr' H1) (selT isFP tags qs) fr1) (fun e H1 => Kp e (forgetF qs fr) H1)) (selT isPF tags qs) fr
 | none => False
def AOp.isCall : AOp → Bool
 | .call .. | .callo .. | .callv .. | .callx .. | .callvx .. | .calli .. => true
 | _ => false
theorem AOp.call_congr {P : Program} {fr fr' : Fr} {H : Heap} {K Kp : AV → Heap → Prop} {o : AOp} (hc : o.isCall = true) (h : ∀ x ∈ o.xs, AX.ev fr x = AX.ev fr' x) : o.run P fr H K Kp = o.run P fr' H K Kp := by
 cases o <;> simp only [AOp.isCall] at hc <;> try (cases hc; done)
 case call f args =>
  have h : ∀ x ∈ args, AX.ev fr x = AX.ev fr' x := h
  simp only [AOp.run]; rw [List.map_congr_left (f := AX.ev fr) (g := AX.ev fr') h]
 case callo f args =>
  have h : ∀ x ∈ args, AX.ev fr x = AX.ev fr' x := h
  simp only [AOp.run]; rw [List.map_congr_left (f := AX.ev fr) (g := AX.ev fr') h]
 case callx f args =>
  have h : ∀ x ∈ args, AX.ev fr x = AX.ev fr' x := h
  simp only [AOp.run]; rw [List.map_congr_left (f := AX.ev fr) (g := AX.ev fr') h]
 all_goals
  rename_i x args
  simp only [AOp.run]
  rw [List.map_congr_left (f := AX.ev fr) (g := AX.ev fr') (fun y hy => h y (by simp only [AOp.xs]; exact List.mem_cons_of_mem _ hy)), h x (by simp [AOp.xs])]
def okRdB : List AO → Bool
 | [] => true
 | q :: l => (match q.dst with
  | some d => !q.reads d && l.all fun r => !(r.dst == some d)
  | none => true) && (l.all fun r => match r.dst with
  | some d => !q.reads d
  | none => true) && okRdB l
theorem okRdB_spec : ∀ {l : List AO}, okRdB l = true → okRd l
 | [], _ => trivial
 | q :: l, h => by
  simp only [okRdB, Bool.and_eq_true] at h
  obtain ⟨⟨h1, h2⟩, h3⟩ := h
  refine ⟨fun d hd => ?_, fun r hr d hd => ?_, okRdB_spec h3⟩
  · rw [hd] at h1
    simp only [Bool.and_eq_true, Bool.not_eq_true', List.all_eq_true] at h1
    refine ⟨h1.1, fun r hr e => ?_⟩
    have := h1.2 r hr
    rw [e] at this; simp at this
  · have := List.all_eq_true.1 h2 r hr
    rw [hd] at this; simpa using this
theorem okRd_sel {f : Nat → Bool} : ∀ {tags : List Nat} {qs : List AO}, okRd qs → okRd (selT f tags qs)
 | [], _, _ => trivial
 | _ :: _, [], _ => trivial
 | u :: ts, q :: qs, ⟨h1, h2, h3⟩ => by
  have mem : ∀ r ∈ selT f ts qs, r ∈ qs := fun r hr => by obtain ⟨i, t, _, h, _⟩ := selT_of hr; exact List.mem_of_getElem? h
  simp only [selT]
  cases f u
  · exact okRd_sel h3
  · exact ⟨fun d hd => ⟨(h1 d hd).1, fun r hr => (h1 d hd).2 r (mem r hr)⟩, fun r hr => h2 r (mem r hr), okRd_sel h3⟩
theorem okRd_inj : ∀ {l : List AO} {i j : Nat} {q r : AO} {d : Nat}, okRd l → l[i]? = some q → l[j]? = some r → q.dst = some d → r.dst = some d → i = j
 | [], i, j, q, r, d, _, h, _, _, _ => by simp at h
 | x :: l, 0, 0, q, r, d, _, _, _, _, _ => rfl
 | x :: l, 0, j + 1, q, r, d, ⟨h1, _, _⟩, hq, hr, hd, he => by
  simp at hq; subst hq
  exact absurd he ((h1 d hd).2 r (List.mem_of_getElem? (by simpa using hr)))
 | x :: l, i + 1, 0, q, r, d, ⟨h1, _, _⟩, hq, hr, hd, he => by
  simp at hr; subst hr
  exact absurd hd ((h1 d he).2 q (List.mem_of_getElem? (by simpa using hq)))
 | x :: l, i + 1, j + 1, q, r, d, ⟨_, _, h3⟩, hq, hr, hd, he => by
  exact congrArg (· + 1) (okRd_inj h3 (i := i) (j := j) (by simpa using hq) (by simpa using hr) hd he)
def actOk (md : Region.Mode) (ops : Array Oper) (tags : List Nat) (qs : List AO) (ci : Nat) : Bool :=
 Nat.blt ci ops.size && okRdB qs && (List.range ops.size).all fun i => match ops[i]?, qs[i]?, tags[i]? with
  | some o, some q, some t => q.guard.isNone && (o.after.all fun e => !Region.binds md e || Nat.blt e.on i) &&
   (bif Nat.beq i ci then Nat.beq t 3 && q.op.isCall else (Nat.beq t 0 && reachB md ops i 8 ci) || Nat.beq t 1 || (Nat.beq t 2 && reachB md ops ci 8 i)) &&
   ((List.range ops.size).all fun j => match qs[j]?, tags[j]? with
     | some r, some u => (match r.dst with
      | some d => !q.reads d || ((o.after.any fun e => Region.binds md e && e.on == j) && (bif Nat.beq t 2 then true else Nat.ble u 1))
      | none => true)
     | _, _ => false)
  | _, _, _ => false
structure ActI (md : Region.Mode) (ops : Array Oper) (tags : List Nat) (qs : List AO) (ci i : Nat) (o : Oper) (q : AO) (t : Nat) : Prop where
 guard : q.guard = none
 back : ∀ e ∈ o.after, Region.binds md e = true → e.on < i
 tag : (i = ci ∧ t = 3 ∧ q.op.isCall = true) ∨ (i ≠ ci ∧ ((t = 0 ∧ reachB md ops i 8 ci = true) ∨ t = 1 ∨ (t = 2 ∧ reachB md ops ci 8 i = true)))
 edge : ∀ j r d, j < ops.size → qs[j]? = some r → r.dst = some d → q.reads d = true → (∃ e ∈ o.after, Region.binds md e = true ∧ e.on = j) ∧ (t ≠ 2 → ∃ u, tags[j]? = some u ∧ u ≤ 1)
theorem actOk_spec {md : Region.Mode} {ops : Array Oper} {tags : List Nat} {qs : List AO} {ci : Nat} (h : actOk md ops tags qs ci = true) : ci < ops.size ∧ okRd qs ∧ ∀ i, i < ops.size → ∃ o q t, ops[i]? = some o ∧ qs[i]? = some q ∧ tags[i]? = some t ∧ ActI md ops tags qs ci i o q t := by
 simp only [actOk, Bool.and_eq_true, List.all_eq_true, List.mem_range] at h
 obtain ⟨⟨h1, h2⟩, h3⟩ := h
 refine ⟨by simpa [Nat.blt_eq] using h1, okRdB_spec h2, fun i hi => ?_⟩
 have h3 := h3 i hi
 split at h3
 · rename_i o q t ho hq ht
   simp only [Bool.and_eq_true, Option.isNone_iff_eq_none, List.all_eq_true, List.mem_range] at h3
   obtain ⟨⟨⟨g1, g2⟩, g3⟩, g4⟩ := h3
   refine ⟨o, q, t, ho, hq, ht, g1, fun e he hb => ?_, ?_, fun j r d hj hr hd hrd => ?_⟩
   · obtain ⟨k, hk, rfl⟩ := Array.mem_iff_getElem.1 he
     have := Array.all_eq_true.1 g2 k hk
     simp only [hb, Bool.not_true, Bool.false_or, Nat.blt_eq] at this
     exact this
   · by_cases hic : i = ci
     · subst hic
       simp only [Nat.beq_refl, cond_true, Bool.and_eq_true, Nat.beq_eq] at g3
       exact .inl ⟨rfl, g3.1, g3.2⟩
     · rw [beq_false hic] at g3
       simp only [cond_false, Bool.or_eq_true, Bool.and_eq_true, Nat.beq_eq] at g3
       refine .inr ⟨hic, ?_⟩
       rcases g3 with (g | g) | g
       · exact .inl g
       · exact .inr (.inl g)
       · exact .inr (.inr g)
   · have g4 := g4 j hj
     split at g4
     · rename_i r' u hr' hu
       rw [hr] at hr'; cases hr'
       rw [hd] at g4
       simp only [hrd, Bool.not_true, Bool.false_or, Bool.and_eq_true] at g4
       obtain ⟨e, he, hb⟩ := Array.any_eq_true'.1 g4.1
       simp only [Bool.and_eq_true, beq_iff_eq] at hb
       refine ⟨⟨e, he, hb⟩, fun ht2 => ⟨u, hu, ?_⟩⟩
       have := g4.2
       rw [beq_false ht2] at this
       simpa [Nat.ble_eq] using this
     · cases g4
 · cases h3
def DoneS (qs : List AO) (listed : Array Bool) (t : Nat) : Prop := ∃ i q, listed.getD i false = true ∧ qs[i]? = some q ∧ q.dst = some t
def Mid (qs : List AO) (listed : Array Bool) (frx frt fr : Fr) : Prop := ∀ t, (DoneS qs listed t → look frx t = look frt t) ∧ (¬ DoneS qs listed t → look frx t = look fr t)
theorem Mid.step {qs : List AO} {listed : Array Bool} {frx frt fr : Fr} (h : Mid qs listed frx frt fr) {i : Nat} {q : AO} {v : AV} (hi : i < listed.size) (hq : qs[i]? = some q) (hv : ∀ d, q.dst = some d → look frt d = v) : Mid qs (listed.setIfInBounds i true) (put frx q.dst v) frt fr := by
 intro t
 by_cases hd : q.dst = some t
 · have hdone : DoneS qs (listed.setIfInBounds i true) t := ⟨i, q, by simp [hi], hq, hd⟩
   refine ⟨fun _ => ?_, fun hn => absurd hdone hn⟩
   rw [hd, look_put_eq, hv t hd]
 · have iff : DoneS qs (listed.setIfInBounds i true) t ↔ DoneS qs listed t := by
    constructor
    · rintro ⟨j, r, h1, h2, h3⟩
      by_cases hj : i = j
      · subst hj; rw [hq] at h2; cases h2; exact absurd h3 hd
      · rw [getD_set_ne false hj] at h1; exact ⟨j, r, h1, h2, h3⟩
    · rintro ⟨j, r, h1, h2, h3⟩; exact ⟨j, r, getD_set_true h1, h2, h3⟩
   rw [look_put_ne hd, iff]
   exact h t
def unl (n : Nat) (listed : Array Bool) : Nat := ((List.range n).filter fun i => !listed.getD i true).length
theorem filter_less {p p' : Nat → Bool} : ∀ {l : List Nat} (_ : ∀ j, p' j = true → p j = true), (l.filter p').length ≤ (l.filter p).length
 | [], _ => Nat.le_refl _
 | x :: l, h => by
  have ih := filter_less (l := l) h
  simp only [List.filter_cons]
  cases h1 : p' x
  · cases p x <;> simp <;> omega
  · rw [h x h1]; simp; omega
theorem filter_drop {p p' : Nat → Bool} {i : Nat} (h : ∀ j, p' j = true → p j = true) (hi : p i = true) (hi' : p' i = false) : ∀ {l : List Nat}, i ∈ l → (l.filter p').length + 1 ≤ (l.filter p).length
 | [], hm => by cases hm
 | x :: l, hm => by
  simp only [List.filter_cons]
  rcases List.mem_cons.1 hm with rfl | hm
  · rw [hi, hi']
    have := filter_less (l := l) h
    simp; omega
  · have ih := filter_drop h hi hi' hm
    cases h1 : p' x
    · cases p x <;> simp <;> omega
    · rw [h x h1]; simp; omega
theorem unl_set {n i : Nat} {listed : Array Bool} (hi : i < n) (hun : listed.getD i true = false) : unl n (listed.setIfInBounds i true) + 1 ≤ unl n listed := by
 refine filter_drop (i := i) (fun j hj => ?_) (by rw [hun]; rfl) ?_ (List.mem_range.2 hi)
 · by_cases hij : i = j
   · subst hij; rw [hun]; rfl
   · rw [getD_set_ne true hij] at hj; exact hj
 · have : i < listed.size := by
    rcases Nat.lt_or_ge i listed.size with h | h
    · exact h
    · simp [Array.getElem?_eq_none h] at hun
   simp [this]
theorem rdy_all {md : Region.Mode} {ops : Array Oper} {listed : Array Bool} (hb : ∀ i o, i < ops.size → ops[i]? = some o → ∀ e ∈ o.after, Region.binds md e = true → e.on < i) (hsz : listed.size = ops.size) (h : Region.ready md ops listed = []) : ∀ i, i < ops.size → listed.getD i false = true := by
 intro i
 induction i using Nat.strongRecOn with
 | ind i ih =>
  intro hi
  cases hl : listed.getD i false with
  | true => rfl
  | false =>
   exfalso
   have ho : ops[i]? = some ops[i] := Array.getElem?_eq_getElem hi
   have : i ∈ Region.ready md ops listed := mem_ready.2 ⟨getD_in (by omega) hl, ops[i], ho, fun e he hbe => by
    have := hb i _ hi ho e he hbe
    exact ih e.on this (by omega)⟩
   rw [h] at this; cases this
section
variable [Pend] {P : Program} {N n : Nat} {M0 : Mem} {μ0 : Pos} {Hs : Heap} {w0 : World}
theorem St.weak {fr fr' : Fr} {H : Heap} {a : Act} {w : World} (S : St N n M0 μ0 Hs w0 fr H a w) (h : ∀ t, look fr' t = .any ∨ look fr' t = look fr t) : St N n M0 μ0 Hs w0 fr' H a w := by
 obtain ⟨M, μ, R, F, hn, G, hd⟩ := S
 refine ⟨M, μ, R, ⟨F.glob, F.size, fun t => ?_⟩, hn, G, hd⟩
 rcases h t with h | h
 · rw [h]; simp only [relV]
 · rw [h]; exact F.slot t
theorem op_step {ops : Array Oper} {o : Oper} {q : AO} (hok : okAO P N ops o q = true) (hg : q.guard = none) {i : Nat} (ho : ops[i]? = some o) {fr : Fr} {H : Heap} {a : Act} {w : World} {K Kp : AV → Heap → Prop} {Q : Exit → Act → World → Prop} (S : St N n M0 μ0 Hs w0 fr H a w)
 (hr : q.op.run P fr H K Kp) (hpan : ∀ c v H' w', St N n M0 μ0 Hs w0 fr H' a w' → relPan c v → Kp c H' → Q (.panic [{ v, recovered := false }]) a w') {next : Act → World → Prop} (hnext : ∀ c H' a' w', St N n M0 μ0 Hs w0 (put fr q.dst c) H' a' w' → K c H' → next a' w') (r : Option Nat) : wpOpIn (FR r) 0 P ops Q i next a w := by
 simp only [okAO, Bool.and_eq_true, beq_iff_eq] at hok
 obtain ⟨⟨⟨h1, h2⟩, h3⟩, h4⟩ := hok
 have hgo : o.guard = none := by
  rw [hg] at h3
  cases hgo : o.guard with
  | none => rfl
  | some x => obtain ⟨j, b⟩ := x; simp [hgo, okGuard] at h3
 unfold wpOpIn
 simp only [ho]
 rw [if_pos (wanted_none hgo _)]
 rw [← h1] at h2
 refine sound_op h4 S h2 hr hpan (fun c H' a' w' S' hk => ?_) r
 rw [h1] at S'
 exact hnext c H' a' w' S' hk
theorem sound_act (r : Option Nat) {id ci : Nat} {tags : List Nat} {qs : List AO} {ops : Array Oper} (hm : P.follows .mixedOrders = true) (hok : okAOs P N ops ops.toList qs = true) (hd : actOk .any ops tags qs ci = true) {fr : Fr} {H : Heap} {a : Act} {w : World} {K : Fr → Heap → Prop} {Kp : AV → Fr → Heap → Prop} {Q : Exit → Act → World → Prop}
 (S : St N n M0 μ0 Hs w0 fr H a w) (hr : actK P ci tags qs K Kp fr H) (hq : ∀ fr' H' a' w', St N n M0 μ0 Hs w0 fr' H' a' w' → K fr' H' → Q .normal a' w') (hpan : ∀ c v fr' H' a' w', St N n M0 μ0 Hs w0 fr' H' a' w' → relPan c v → Kp c fr' H' → Q (.panic [{ v, recovered := false }]) a' w') :
 (Code.region id ops true).wpIn (FR r) 0 P Q a w := by
 refine wpIn_region_any hm ?_
 obtain ⟨hci, hrd, hall⟩ := actOk_spec hd
 obtain ⟨hlen, hget⟩ := okAOs_get hok
 simp only [Array.length_toList] at hlen
 have back : ∀ i o, i < ops.size → ops[i]? = some o → ∀ e ∈ o.after, Region.binds .any e = true → e.on < i := fun i o hi ho => by
  obtain ⟨o', q, t, ho', _, _, hA⟩ := hall i hi
  rw [ho] at ho'; cases ho'
  exact hA.back
 have inside : ∀ {i : Nat} {q : AO}, qs[i]? = some q → i < ops.size := fun {i q} hq => by
  have := (List.getElem?_eq_some_iff.1 hq).1
  omega
 unfold actK at hr
 split at hr
 · rename_i c hc
   obtain ⟨fr0, hcall, out0, ev0⟩ := rdK_fix (okRd_sel hrd) hr
   have out0' : ∀ t, (∀ q ∈ qs, q.dst ≠ some t) → look fr0 t = look fr t := fun t ht => out0 t fun q hq => by
    obtain ⟨i, u, _, h, _⟩ := selT_of hq
    exact ht q (List.mem_of_getElem? h)
   have S0 : St N n M0 μ0 Hs w0 fr H a { w with drawn := w.drawn + 1 } := by
    obtain ⟨M, μ, R, F, hn, G0, hdef⟩ := S
    exact ⟨M, μ, ⟨R.glob, R.dom, R.top, R.cells, R.maps, R.iters, R.loops, R.inj, R.imm, R.apart⟩, F, hn, ⟨G0.mem, G0.pin, ⟨G0.keep.os, G0.keep.tape, G0.keep.output, G0.keep.size, G0.keep.block⟩, G0.own, G0.fresh⟩, ⟨hdef.ex, hdef.nm⟩⟩
   -- what an operation that is ready looks at
   have agree : ∀ {listed : Array Bool} {frx frt : Fr} {i : Nat} {o : Oper} {q : AO} {t : Nat}, i < ops.size → ops[i]? = some o → qs[i]? = some q → ActI .any ops tags qs ci i o q t → i ∈ Region.ready .any ops listed → Mid qs listed frx frt fr → (∀ u, (∀ q ∈ qs, q.dst ≠ some u) → look frt u = look fr u) → ∀ x ∈ q.op.xs, AX.ev frx x = AX.ev frt x := by
    intro listed frx frt i o q t hi ho hqi hA hri hmid hout
    refine ev_agree fun s hs => ?_
    by_cases hw : ∃ r ∈ qs, r.dst = some s
    · obtain ⟨r, hr', hds⟩ := hw
      obtain ⟨j, hj⟩ := List.getElem?_of_mem hr'
      obtain ⟨⟨e, he, hb, hon⟩, _⟩ := hA.edge j r s (inside hj) hj hds hs
      obtain ⟨_, o', ho', hall'⟩ := mem_ready.1 hri
      rw [ho] at ho'; cases ho'
      have hl := hall' e he hb
      rw [hon] at hl
      exact (hmid s).1 ⟨j, r, hl, hj, hds⟩
    · have hw : ∀ q ∈ qs, q.dst ≠ some s := fun q hq e => hw ⟨q, hq, e⟩
      have hnd : ¬ DoneS qs listed s := fun ⟨j, r, _, h2, h3⟩ => hw r (List.mem_of_getElem? h2) h3
      rw [(hmid s).2 hnd, hout s hw]
   let I1 : Array Bool → Act → World → Prop := fun listed a w => listed.getD ci false = false ∧ ∃ frx, St N n M0 μ0 Hs w0 frx H a w ∧ Mid qs listed frx fr0 fr
   let I2 : Array Bool → Act → World → Prop := fun listed a w => listed.getD ci false = true ∧ ∃ H1 fr' frx, St N n M0 μ0 Hs w0 frx H1 a w ∧ K fr' H1 ∧ Mid qs listed frx fr' fr ∧ (∀ u, (∀ q ∈ qs, q.dst ≠ some u) → look fr' u = look fr u) ∧
    ∀ (i : Nat) (q : AO) (t : Nat), qs[i]? = some q → tags[i]? = some t → isFP t = true → ∃ v, q.op.rd (AX.ev fr') H1.get (fun x => x = v) ∧ ∀ d, q.dst = some d → look fr' d = v
   have main : ∀ (fuel : Nat) (listed : Array Bool) (a : Act) (w : World), unl ops.size listed ≤ fuel → HeadInv .any ops ops.size listed → (I1 listed a w ∨ I2 listed a w) → wpAnyIn (FR r) 0 P .any ops Q fuel listed a w := by
    have final : ∀ (listed : Array Bool) (a : Act) (w : World), (∀ i, i < ops.size → listed.getD i false = true) → (I1 listed a w ∨ I2 listed a w) → Q .normal a w := by
     rintro listed a w hl (⟨h1, _⟩ | ⟨_, H1, fr', frx, S', hk, hmid, hout, _⟩)
     · rw [hl ci hci] at h1; cases h1
     · refine hq fr' H1 a w (S'.weak fun t => .inr ?_) hk
       by_cases hdn : DoneS qs listed t
       · exact ((hmid t).1 hdn).symm
       · rw [(hmid t).2 hdn]
         exact hout t fun q hq e => hdn (by
          obtain ⟨i, hi⟩ := List.getElem?_of_mem hq
          exact ⟨i, q, hl i (inside hi), hi, e⟩)
    intro fuel
    induction fuel with
    | zero =>
     intro listed a w hu inv hI
     have hl : ∀ i, i < ops.size → listed.getD i false = true := fun i hi => by
      cases h : listed.getD i false with
      | true => rfl
      | false =>
       have := unl_set hi (getD_in (by rw [inv.size]; exact hi) h)
       omega
     refine ⟨?_, final listed a w hl hI⟩
     cases hrdy : Region.ready .any ops listed with
     | nil => rfl
     | cons j l =>
      exfalso
      have hj : j ∈ Region.ready .any ops listed := by rw [hrdy]; exact List.mem_cons_self
      obtain ⟨h1, o, ho, _⟩ := mem_ready.1 hj
      have := hl j (Array.getElem?_eq_some_iff.1 ho).1
      rw [getD_both h1] at this; cases this
    | succ fuel ih =>
     intro listed a w hu inv hI
     refine ⟨fun h0 => final listed a w (rdy_all back inv.size h0) hI, fun i hi => ?_⟩
     obtain ⟨hun, o, ho, hafter⟩ := mem_ready.1 hi
     have hilt : i < ops.size := (Array.getElem?_eq_some_iff.1 ho).1
     have hisz : i < listed.size := by rw [inv.size]; exact hilt
     obtain ⟨o', q, t, ho', hqi, hti, hA⟩ := hall i hilt
     rw [ho] at ho'; cases ho'
     have hokq := hget i o q (by simpa using ho) hqi
     have hu' : unl ops.size (listed.setIfInBounds i true) ≤ fuel := by have := unl_set hilt hun; omega
     have inv' : HeadInv .any ops ops.size (listed.setIfInBounds i true) := inv.set hi hilt
     rcases hI with ⟨hc0, frx, S', hmid⟩ | ⟨hc1, H1, fr', frx, S', hk, hmid, hout, hev⟩
     · rcases hA.tag with ⟨rfl, ht3, hcl⟩ | ⟨hne, htag⟩
       · -- the call
         rw [hc] at hqi; cases hqi
         have hxs := agree hilt ho hc hA hi hmid out0'
         rw [← AOp.call_congr hcl hxs] at hcall
         refine op_step hokq hA.guard ho S' hcall (fun e v H' w' Sp hv hkp => ?_) (fun v H' a' w' Sn hk => ?_) r
         · refine hpan e v _ H' a w' (Sp.weak fun t => ?_) hv hkp
           rcases look_forget qs fr t with h | ⟨h, hw⟩
           · exact .inl h
           · refine .inr ?_
             rw [h, (hmid t).2 fun ⟨j, r, _, h2, h3⟩ => hw r (List.mem_of_getElem? h2) h3]
         · simp only [putK_eq] at hk
           obtain ⟨fr', ⟨hsame, hkk⟩, out1, ev1⟩ := rdK_fix (okRd_sel hrd) hk
           refine ih _ _ _ hu' inv' (.inr ⟨by simp [hisz], H', fr', put frx c.dst v, Sn, hkk, ?_, ?_, ?_⟩)
           · -- frames
             have nfp : ∀ d, c.dst = some d → ∀ q ∈ selT isFP tags qs, q.dst ≠ some d := fun d hd q hq e => by
              obtain ⟨j, u, hj1, hj2, hj3⟩ := selT_of hq
              have := okRd_inj hrd hc hj2 hd e
              subst this
              rw [hti] at hj1; cases hj1
              rw [ht3] at hj3; cases hj3
             have hvd : ∀ d, c.dst = some d → look fr' d = v := fun d hd => by
              rw [out1 d (nfp d hd), hd, look_put_eq]
             have hm2 : Mid qs listed frx fr' fr := by
              intro s
              refine ⟨fun hdn => ?_, (hmid s).2⟩
              obtain ⟨j, rj, hj1, hj2, hj3⟩ := hdn
              rw [(hmid s).1 ⟨j, rj, hj1, hj2, hj3⟩]
              have hjlt := inside hj2
              obtain ⟨oj, qj, uj, hoj, hqj, htj, hAj⟩ := hall j hjlt
              rw [hj2] at hqj; cases hqj
              have hjc : j ≠ i := fun e => by subst e; rw [hc0] at hj1; cases hj1
              have hcs : c.dst ≠ some s := fun e => hjc (okRd_inj hrd hj2 hc hj3 e)
              rcases hAj.tag with ⟨e, _⟩ | ⟨_, (⟨rfl, _⟩ | rfl | ⟨rfl, hre⟩)⟩
              · exact absurd e hjc
              · rw [out1 s fun q hq e => ?_, look_put_ne hcs]
                obtain ⟨k, u, hk1, hk2, hk3⟩ := selT_of hq
                have := okRd_inj hrd hj2 hk2 hj3 e
                subst this
                rw [htj] at hk1; cases hk1; cases hk3
              · exact sameD_spec hsame rj (selT_mem htj hj2 rfl) s hj3
              · exfalso
                have := reachB_listed inv hre hj1
                rw [hc0] at this; cases this
             exact hm2.step hisz hc hvd
           · intro u hu
             rw [out1 u fun q hq => ?_, look_put_ne (hu c (List.mem_of_getElem? hc)), out0' u hu]
             obtain ⟨k, _, _, hk2, _⟩ := selT_of hq
             exact hu q (List.mem_of_getElem? hk2)
           · intro j qj u hj1 hj2 hj3
             exact ev1 qj (selT_mem hj2 hj1 hj3)
       · -- a reader ahead of the call
         have htl : isPF t = true := by
          rcases htag with ⟨rfl, _⟩ | rfl | ⟨rfl, hre⟩
          · rfl
          · rfl
          · exfalso
            have h1 : (o.after.any fun e => Region.binds .any e && (e.on == ci || reachB .any ops ci 7 e.on)) = true := by
             rw [reachB, ho] at hre; exact hre
            obtain ⟨e, he, hb⟩ := Array.any_eq_true'.1 h1
            simp only [Bool.and_eq_true, Bool.or_eq_true, beq_iff_eq] at hb
            have hl := hafter e he hb.1
            rcases hb.2 with hb2 | hb2
            · rw [hb2, hc0] at hl; cases hl
            · have := reachB_listed inv hb2 hl; rw [hc0] at this; cases this
         obtain ⟨v, hv, hvd⟩ := ev0 q (selT_mem hti hqi htl)
         have hxs := agree hilt ho hqi hA hi hmid out0'
         rw [← AOp.rd_congr hxs] at hv
         refine op_step (Kp := fun _ _ => False) hokq hA.guard ho S' (AOp.rd_run hv) (fun _ _ _ _ _ _ h => h.elim) (fun u H' a' w' Sn hk => ?_) r
         obtain ⟨rfl, rfl⟩ := hk
         refine ih _ _ _ hu' inv' (.inl ⟨?_, _, Sn, hmid.step hisz hqi hvd⟩)
         rw [getD_set_ne false hne]; exact hc0
     · -- behind the call
       have hne : i ≠ ci := fun e => by subst e; rw [getD_both hun] at hc1; cases hc1
       have hfp : isFP t = true := by
        rcases hA.tag with ⟨e, _⟩ | ⟨_, (⟨rfl, hre⟩ | rfl | ⟨rfl, _⟩)⟩
        · exact absurd e hne
        · exfalso
          have := reachB_listed inv hre hc1
          rw [getD_both hun] at this; cases this
        · rfl
        · rfl
       obtain ⟨v, hv, hvd⟩ := hev i q t hqi hti hfp
       have hxs := agree hilt ho hqi hA hi hmid hout
       rw [← AOp.rd_congr hxs] at hv
       refine op_step (Kp := fun _ _ => False) hokq hA.guard ho S' (AOp.rd_run hv) (fun _ _ _ _ _ _ h => h.elim) (fun u H' a' w' Sn hk' => ?_) r
       obtain ⟨rfl, rfl⟩ := hk'
       refine ih _ _ _ hu' inv' (.inr ⟨?_, H', fr', _, Sn, hk, hmid.step hisz hqi hvd, hout, hev⟩)
       rw [getD_set_ne false hne]; exact hc1
   have inv0 : HeadInv .any ops ops.size (Array.replicate ops.size false) :=
    ⟨by simp, fun j oj _ hl => (by rw [getD_replicate_false] at hl; cases hl), fun t _ ht => getD_in (by simpa using ht) (getD_replicate_false _ _)⟩
   refine main ops.size _ a _ ?_ inv0 (.inl ⟨getD_replicate_false _ _, fr, S0, fun t => ⟨fun ⟨j, q, h, _, _⟩ => (by rw [getD_replicate_false] at h; cases h), fun _ => rfl⟩⟩)
   have := List.length_filter_le (fun i => !(Array.replicate ops.size false).getD i true) (List.range ops.size)
   simpa [unl] using this
 · exact hr.elim
end
end Go.Eng

namespace Go.Eng
open Go
variable [Globs]
inductive AC where
 | skip
 | ret
 | exit (id : Nat)
 | reg (ops : List AO)
 | draw (m : Nat) (dep : List (Nat × Nat)) (ops : List AO)
 | seq (a b : AC)
 | cond (c : AX) (a b : AC)
 | block (id : Nat) (a : AC)
 | loop (a : AC)
 | ghost (a : AC)
 | scope (a : AC)
 | rangeF (id : Nat) (g : AX) (sl ps : List Nat) (A B : AC)
 | act (ci : Nat) (tags : List Nat) (ops : List AO)
theorem cond_True {b : Bool} {A : Prop} (h : bif b then A else False) : b = true ∧ A := by
 cases b with
 | true => exact ⟨rfl, h⟩
 | false => exact h.elim
section
variable (P : Program)
def okC (N : Nat) : AC → Code → Bool
 | .ghost a, c => okC N a c
 | .skip, .skip => true
 | .skip, .label _ => true
 | .scope a, .scope x => okC N a x
 | .ret, .ret => true
 | .exit i, .exit j => i == j
 | .reg qs, .region _ ops false => okAOs P N ops ops.toList qs
 | .draw m dep qs, .region _ ops true => P.follows .mixedOrders && okAOs P N ops ops.toList qs && drawOk .any ops dep qs m
 | .act ci tags qs, .region _ ops true => P.follows .mixedOrders && okAOs P N ops ops.toList qs && actOk .any ops tags qs ci
 | .seq a b, .seq x y => okC N a x && okC N b y
 | .cond c a b, .cond c' x y => okX c' c && okC N a x && okC N b y
 | .block i a, .block j x => i == j && okC N a x
 | .loop a, .loop x => okC N a x
 | .rangeF _ g _ ps A B, .rangeFunc g' ps' asg bd => okX g' g && ps'.toList == ps && ps.all (Nat.blt · N) && okC N A asg && okC N B bd
 | _, _ => false
def AC.noRF : AC → Bool
 | .rangeF _ _ _ _ _ _ => false
 | .seq a b => a.noRF && b.noRF
 | .cond _ a b => a.noRF && b.noRF
 | .block _ a => a.noRF
 | .loop a => a.noRF
 | .ghost a => a.noRF
 | .scope a => a.noRF
 | _ => true
def RfIs (N : Nat) (ps : List Nat) (A B : AC) (ps' : List Nat) (asg bd : Code) : Prop := ps' = ps ∧ ps.all (Nat.blt · N) = true ∧ okC P N A asg = true ∧ okC P N B bd = true ∧ A.noRF = true ∧ B.noRF = true
structure RfAt [Globs] (id : Nat) (ps : List Nat) (A B : AC) : Prop where
 iff : ∀ N ps' asg bd, Globs.rf id N ps' asg bd ↔ RfIs P N ps A B ps' asg bd
def rangeK (k : Nat) (Q : XA → Fr → Heap → Prop) (fr : Fr) (H : Heap) : Prop := match H.get k with
 | .loop .ready _ _ => setK H k .dead (Q .normal fr)
 | .loop (.done .ret) _ _ => setK H k .dead (Q .ret fr)
 | .loop (.done (.exit i)) _ _ => setK H k .dead (Q (.exit i) fr)
 | _ => False
def selK (fr : Fr) : List Nat → (Fr → Prop) → Prop
 | [], K => K []
 | t :: r, K => fv (look fr t) fun v => selK fr r fun l => K ((t, v) :: l)
def selF (fr : Fr) : List Nat → Fr
 | [] => []
 | t :: r => (t, look fr t) :: selF fr r
theorem selK_eq (fr : Fr) : ∀ (l : List Nat) (K : Fr → Prop), selK fr l K = K (selF fr l)
 | [], _ => rfl
 | t :: r, K => by simp only [selK, fv_eq, selK_eq fr r, selF]
theorem look_selF [Globs] {M : Mem} {μ : Pos} {fr : Fr} {t : Nat} {v : Value} (h : relV M (look fr t) μ v) : ∀ sl : List Nat, relV M (look (selF fr sl) t) μ v
 | [] => by simp only [selF, look, relV]
 | q :: r => by
  simp only [selF, look]
  by_cases hq : q = t
  · subst hq; simpa using h
  · rw [beq_false hq]; exact look_selF h r
def rangeE (id : Nat) (sl ps : List Nat) (A B : AC) (g : AV) (Q : XA → Fr → Heap → Prop) (fr : Fr) (H : Heap) : Prop := match H with
 | ⟨nx, bs⟩ => match g with
  | .func f caps => Side (RfAt P id ps A B ∧ A.noRF = true ∧ B.noRF = true) (selK fr sl fun fr0 => CallA P f (.yld nx :: caps) ⟨nx + 1, (nx, .loop .ready id fr0) :: bs⟩ fun _ H' => rangeK nx Q fr H')
  | _ => False
def roomK (H : Heap) (m : Nat) (K : Nat → Heap → Prop) : Prop := match H with
 | ⟨nx, bs⟩ => K nx ⟨nx + m, bs⟩
def seqK (next : (XA → Fr → Heap → Prop) → Fr → Heap → Prop) (Q : XA → Fr → Heap → Prop) (x : XA) (fr : Fr) (H : Heap) : Prop := match x with
 | .normal => next Q fr H
 | .exit id => Q (.exit id) fr H
 | .ret => Q .ret fr H
 | .pan c => Q (.pan c) fr H
def blockK (id : Nat) (Q : XA → Fr → Heap → Prop) (x : XA) (fr : Fr) (H : Heap) : Prop := match x with
 | .normal => Q .normal fr H
 | .exit j => bif Nat.beq j id then Q .normal fr H else Q (.exit j) fr H
 | .ret => Q .ret fr H
 | .pan c => Q (.pan c) fr H
theorem rangeE_eq (id : Nat) (sl ps : List Nat) (A B : AC) (g : AV) (Q : XA → Fr → Heap → Prop) (fr : Fr) (H : Heap) : rangeE P id sl ps A B g Q fr H = match g with
 | .func f caps => Side (RfAt P id ps A B ∧ A.noRF = true ∧ B.noRF = true) (CallA P f (.yld H.nx :: caps) (H.push (.loop .ready id (selF fr sl))) fun _ H' => rangeK H.nx Q fr H')
 | _ => False := by
 unfold rangeE
 cases g <;> simp only [selK_eq] <;> rfl
noncomputable def AC.run (n : Nat) (ac : AC) : (XA → Fr → Heap → Prop) → Fr → Heap → Prop := AC.rec (motive := fun _ => (XA → Fr → Heap → Prop) → Fr → Heap → Prop)
 (fun Q fr H => Q .normal fr H)
 (fun Q fr H => Q .ret fr H)
 (fun id Q fr H => Q (.exit id) fr H)
 (fun ops Q fr H => runOps P (Q .normal) (fun c => Q (.pan c)) ops fr H)
 (fun m dep ops Q fr H => bif setFree (ops.take m) H.get H.nx then roomK H m fun nx H => qwalk P dep (runOps P (Q .normal) (fun c => Q (.pan c)) (ops.drop m)) (ops.take m) 0 nx [] fr H else False)
 (fun _ _ iha ihb Q fr H => iha (seqK ihb Q) fr H)
 (fun c _ _ iha ihb Q fr H => match c.ev fr with
   | .bool t => Branch t (iha Q fr H) (ihb Q fr H)
   | _ => False)
 (fun id _ ih Q fr H => ih (blockK id Q) fr H)
 (fun _ ih Q fr H => LoopA n ih Q fr H)
 (fun _ ih Q fr H => To n fr H (ih Q))
 (fun _ ih Q fr H => ih Q fr H)
 (fun id g sl ps A B _ _ Q fr H => rangeE P id sl ps A B (g.ev fr) Q fr H)
 (fun ci tags qs Q fr H => actK P ci tags qs (Q .normal) (fun c => Q (.pan c)) fr H) ac
theorem AC.run_cond (n : Nat) (c : AX) (a b : AC) (Q : XA → Fr → Heap → Prop) (fr : Fr) (H : Heap) : AC.run P n (.cond c a b) Q fr H = match c.ev fr with
 | .bool t => Branch t (AC.run P n a Q fr H) (AC.run P n b Q fr H)
 | _ => False := rfl
end
section
variable [Pend] {P : Program} {N n : Nat} {M0 : Mem} {μ0 : Pos} {H0 : Heap} {w0 : World}
theorem St.into {fr fr' : Fr} {H H' : Heap} {a : Act} {w : World} (S : St N n M0 μ0 H0 w0 fr H a w) (h : Into n fr H fr' H') : St N n M0 μ0 H0 w0 fr' H' a w := by
 obtain ⟨M, μ, R, F, hn, G0, hd⟩ := S
 obtain ⟨M', μ', R', F', hn', G⟩ := h N M μ w a.tmps R F hn
 exact ⟨M', μ', R', F', hn', G0.trans G, hd.step G⟩
theorem end_range {fr fr' : Fr} {H : Heap} {a : Act} {ds : List Deferred} {w : World} {M : Mem} {μ : Pos} {k l s id : Nat} {st : RS} (R : Rel M μ H w) (hμ : μ k = some (l, s)) (F : RelF N M μ fr a.tmps) (hn : n ≤ H.nx) (G0 : Grow n M0 μ0 H0 w0 M μ H w) (md : Marks w0 ds μ H w)
 (hk : H.get k = .loop st id fr') (hne : st ≠ .busy) : ∃ jump w4, (Instr.endLoop l).run P w = .ok jump w4 ∧ St N n M0 μ0 H0 w0 fr (H.set k .dead) { a with defers := ds } w4 ∧ (st = .ready → jump = none) ∧ (∀ j, st = .done j → jump = some j.code) := by
 obtain ⟨b, s', g1, r3, g2, g3, g4, g5⟩ := R.loops _ st id fr' hk
 rw [hμ] at g1; cases g1
 obtain ⟨R4, G4⟩ := R.dropL hk hμ g2 (.loop { r3 with state := .exhausted })
 refine ⟨r3.pending, _, run_endLoop g2 ?_, ⟨M, μ, R4, F, hn, G0.trans (G4.grow.mono hn), md.step G4.grow⟩, fun e => ?_, fun j e => ?_⟩
 · cases st with
   | ready => rw [g3.1]; simp
   | busy => exact absurd rfl hne
   | done j => rw [g3.1]; simp
 · subst e; exact g3.2
 · subst e; exact g3.2
theorem sound_rangeF {id : Nat} {g : AX} {sl ps : List Nat} {A B : AC} {g' : Operand} {ps' : Array Tmp} {asg bd : Code} (h : okC P N (.rangeF id g sl ps A B) (.rangeFunc g' ps' asg bd) = true) {Q : XA → Fr → Heap → Prop} {fr : Fr} {H : Heap} {a : Act} {w : World}
 (hnm : Pend.nm = false) (S : St N n M0 μ0 H0 w0 fr H a w) (hr : rangeE P id sl ps A B (g.ev fr) Q fr H) : (Code.rangeFunc g' ps' asg bd).wpIn (FR none) 0 P (Post N n M0 μ0 H0 w0 Q) a w := by
 simp only [okC, Bool.and_eq_true, beq_iff_eq] at h
 obtain ⟨⟨⟨⟨hg, hps⟩, hall⟩, hA⟩, hB⟩ := h
 obtain ⟨M, μ, R, F, hn, G0, hd⟩ := S
 rw [rangeE_eq] at hr
 split at hr
 · rename_i f caps hgv
   obtain ⟨⟨hat, hnA, hnB⟩, hc⟩ := hr
   have hgr := rel_okX F hg
   rw [hgv] at hgr; simp only [relV] at hgr
   obtain ⟨vs, hv, hl⟩ := hgr
   refine wpIn_rangeFunc fun fn _ => ?_
   let rec0 : Loop := { state := .ready, pending := none, fn := fn, tmps := a.tmps, params := ps', assign := asg, body := bd, defers := w.heap.size }
   obtain ⟨R1, G1⟩ := (R.aside (.deferred (some []))).pushL (r := rec0) (st := .ready) (id := id) (fr := selF fr sl) ⟨rfl, rfl⟩ ((hat.iff _ _ _ _).2 ⟨hps, by rw [F.size]; exact hall, by rw [F.size]; exact hA, by rw [F.size]; exact hB, hnA, hnB⟩) (fun t => look_selF (F.slot t) sl)
   have hsz : (w.alloc (.deferred (some []))).heap.size = w.heap.size + 1 := by simp
   rw [hsz] at R1 G1
   have hput : (μ.put H.nx (w.heap.size + 1, 0)) H.nx = some (w.heap.size + 1, 0) := Pos.put_same _ _ _
   refine ⟨_, _, _, { target := .fn (.func f) vs, args := #[.func (.yield (w.heap.size + 1)) #[] #[]] }, (w.alloc (.deferred (some []))).alloc (.loop rec0), f, _, _, run_enterLoop_outer fn a.tmps ps' asg bd, ?_, fun _ _ => trivial, run_callFunc hc.ok _ _, fun h0 => (by cases h0), ?_⟩
   · have hcst : a.eval (.const (.func (.yield (w.heap.size + 1)) #[] #[])) = .func (.yield (w.heap.size + 1)) #[] #[] := rfl
     simp only [resolve, rangeCall, hv, Deferred.ofValue, Sem.run_bind, Sem.run_pure, Result.andThen_ok, List.map_toArray, List.map_cons, List.map_nil, hcst, Array.empty_append]
     rfl
   have G00 : Move M μ H w M μ H (w.alloc (.deferred (some []))) := ⟨Pos.le_refl _, ⟨Mem.le_refl _, fun _ _ => rfl, ⟨rfl, rfl, rfl, by simp, fun x hx _ => alloc_heap_lt w _ hx⟩, fun x hx => .inl hx, fun _ _ _ h => .inl h⟩, Nat.le_refl _⟩
   have md1 : Marks w0 (mark w.heap.size :: a.defers) (μ.put H.nx (w.heap.size + 1, 0)) (H.push (.loop .ready id (selF fr sl))) ((w.alloc (.deferred (some []))).alloc (.loop rec0)) := by
    obtain ⟨⟨rs, h1, h2, h3⟩, _⟩ := (hd.step G00.grow).step G1.grow
    refine ⟨⟨w.heap.size :: rs, by rw [h1]; rfl, List.nodup_cons.2 ⟨fun hm => ?_, h2⟩, fun q hq => ?_⟩, fun e => by rw [hnm] at e; cases e⟩
    · obtain ⟨⟨rs', e1, _, e3⟩, _⟩ := hd
      have : rs = rs' := by
       have := List.append_cancel_right (h1.symm.trans e1)
       exact (List.map_inj_right (fun x y h => by simpa [mark] using h)).1 this
      subst this
      have := (Array.getElem?_eq_some_iff.1 (e3 _ hm).2.1).1
      omega
    · rcases List.mem_cons.1 hq with rfl | hq
      · refine ⟨G0.keep.size, ?_, fun ho => ?_⟩
        · rw [alloc_heap_lt _ _ (by simp)]; exact alloc_heap_new w _
        · rcases G1.grow.own _ ho with h | h
          · have := R.own_lt h; omega
          · rw [hsz] at h; omega
      · exact h3 q hq
   have hrun := hc.run M _ _ (#[.func (.yield (w.heap.size + 1)) #[] #[]] ++ vs) R1 ?_
   rotate_left
   · simp only [Array.toList_append, List.cons_append, List.nil_append, relL]
     exact ⟨_, _, rfl, by simp only [relV]; exact ⟨_, _, Pos.put_same _ _ _, rfl⟩, relL_mono (Mem.le_refl _) caps G1.le hl⟩
   · refine calls_in (hrun.mono ?_)
     intro e w3 hx
     obtain ⟨v, M3, μ3, H3, c, he, R3, hv3, G3, hk3⟩ := hx
     subst he
     have fin := fun st id' fr' hk hne => end_range (P := P) (fr := fr) (ds := [{ target := .collected w.heap.size, args := #[] }] ++ a.defers) (a := a) R3 (G3.le _ _ hput) (F.mono (Mem.le_trans G1.grow.mem G3.grow.mem) (Pos.le_trans G1.le G3.le)) (Nat.le_trans hn (Nat.le_trans (Nat.le_succ _) G3.nx)) (G0.trans (((G00.trans (G1.trans G3)).grow).mono hn)) (md1.step G3.grow) (st := st) (id := id') (fr' := fr') hk hne
     unfold rangeK at hk3
     simp only [setK_eq] at hk3
     split at hk3
     · rename_i id' fr' hk
       obtain ⟨jump, w4, e1, S4, e2, _⟩ := fin _ _ _ hk (by simp)
       refine ⟨jump, w4, e1, ?_⟩
       rw [e2 rfl]
       exact .inl ⟨.normal, fr, _, rfl, S4, hk3⟩
     · rename_i id' fr' hk
       obtain ⟨jump, w4, e1, S4, _, e2⟩ := fin _ _ _ hk (by simp)
       refine ⟨jump, w4, e1, ?_⟩
       rw [e2 _ rfl]
       exact wpIn_ret (.inl ⟨.ret, fr, _, rfl, S4, hk3⟩)
     · rename_i i id' fr' hk
       obtain ⟨jump, w4, e1, S4, _, e2⟩ := fin _ _ _ hk (by simp)
       refine ⟨jump, w4, e1, ?_⟩
       rw [e2 _ rfl]
       exact wpIn_exit (.inl ⟨.exit i, fr, _, rfl, S4, hk3⟩)
     · exact hk3.elim
 · exact hr.elim
theorem sound_C (r : Option Nat) : ∀ {ac : AC} {c : Code}, okC P N ac c = true → ((r = none ∧ Pend.nm = false) ∨ ac.noRF = true) → ∀ {Q : XA → Fr → Heap → Prop} {fr : Fr} {H : Heap} {a : Act} {w : World}, St N n M0 μ0 H0 w0 fr H a w → ac.run P n Q fr H → c.wpIn (FR r) 0 P (Post N n M0 μ0 H0 w0 Q) a w := by
 intro ac
 induction ac with
 | ghost x ih =>
  intro c h hnr Q fr H a w S hr
  obtain ⟨fr', H', hi, hr⟩ := hr.ex
  have h' : okC P N x c = true := by cases c <;> simpa [okC] using h
  exact ih h' (by simpa [AC.noRF] using hnr) (S.into hi) hr
 | skip =>
  intro c h hnr Q fr H a w S hr
  cases c <;> simp [okC] at h
  · exact wpIn_skip (.inl ⟨.normal, fr, H, rfl, S, hr⟩)
  · exact wpIn_label (.inl ⟨.normal, fr, H, rfl, S, hr⟩)
 | scope x ih =>
  intro c h hnr Q fr H a w S hr
  cases c with
  | scope x' =>
   simp only [okC] at h
   refine wpIn_scope_straight (wpIn_mono (ih h (by simpa [AC.noRF] using hnr) S hr) ?_)
   rintro e a' w' (⟨xx, fr', H', he, S', hq⟩ | ⟨c, v, fr', H', rfl, hv, S', hq⟩)
   · cases e <;> simp [xa] at he <;> subst he <;> exact .inl ⟨_, fr', H', rfl, S', hq⟩
   · exact .inr ⟨c, v, fr', H', rfl, hv, S', hq⟩
  | _ => simp [okC] at h
 | ret =>
  intro c h hnr Q fr H a w S hr
  cases c <;> simp [okC] at h
  exact wpIn_ret (.inl ⟨.ret, fr, H, rfl, S, hr⟩)
 | exit id =>
  intro c h hnr Q fr H a w S hr
  cases c <;> simp [okC] at h
  subst h
  exact wpIn_exit (.inl ⟨.exit id, fr, H, rfl, S, hr⟩)
 | reg qs =>
  intro c h hnr Q fr H a w S hr
  cases c with
  | region id ops draw =>
   cases draw with
   | true => simp [okC] at h
   | false =>
    simp only [okC] at h
    exact wpIn_region_list (sound_ops r h S hr (fun fr' H' a' w' S' hk => .inl ⟨.normal, fr', H', rfl, S', hk⟩) fun c v fr' H' a' w' S' hv hk => .inr ⟨c, v, fr', H', rfl, hv, S', hk⟩)
  | _ => simp [okC] at h
 | draw m dep qs =>
  intro c h hnr Q fr H a w S hr
  cases c with
  | region id ops draw =>
   cases draw with
   | false => simp [okC] at h
   | true =>
    simp only [okC, Bool.and_eq_true] at h
    obtain ⟨hsf, hr⟩ := cond_True hr
    exact sound_draw r h.1.1 h.1.2 h.2 S hsf hr (fun fr' H' a' w' S' hk => .inl ⟨.normal, fr', H', rfl, S', hk⟩) fun c v fr' H' a' w' S' hv hk => .inr ⟨c, v, fr', H', rfl, hv, S', hk⟩
  | _ => simp [okC] at h
 | act ci tags qs =>
  intro c h hnr Q fr H a w S hr
  cases c with
  | region id ops draw =>
   cases draw with
   | false => simp [okC] at h
   | true =>
    simp only [okC, Bool.and_eq_true] at h
    exact sound_act r h.1.1 h.1.2 h.2 S hr (fun fr' H' a' w' S' hk => .inl ⟨.normal, fr', H', rfl, S', hk⟩) fun c v fr' H' a' w' S' hv hk => .inr ⟨c, v, fr', H', rfl, hv, S', hk⟩
  | _ => simp [okC] at h
 | seq x y ihx ihy =>
  intro c h hnr Q fr H a w S hr
  cases c with
  | seq x' y' =>
   simp only [okC, Bool.and_eq_true] at h
   refine wpIn_seq (wpIn_mono (ihx h.1 (hnr.imp id fun h => by simp only [AC.noRF, Bool.and_eq_true] at h; exact h.1) S hr) ?_)
   rintro e a' w' (⟨xx, fr', H', he, S', hq⟩ | ⟨c, v, fr', H', rfl, hv, S', hq⟩)
   · cases e <;> simp [xa] at he <;> subst he
     · exact ihy h.2 (hnr.imp id fun h => by simp only [AC.noRF, Bool.and_eq_true] at h; exact h.2) S' hq
     · exact .inl ⟨_, fr', H', rfl, S', hq⟩
     · exact .inl ⟨_, fr', H', rfl, S', hq⟩
   · exact .inr ⟨c, v, fr', H', rfl, hv, S', hq⟩
  | _ => simp [okC] at h
 | cond c x y ihx ihy =>
  intro c' h hnr Q fr H a w S hr
  cases c' with
  | cond c' x' y' =>
   simp only [okC, Bool.and_eq_true] at h
   rw [AC.run_cond] at hr
   split at hr
   · rename_i t ht
     obtain ⟨M, μ, R, F, _⟩ := S.ex
     have hc := rel_okX F h.1.1
     rw [ht] at hc
     exact wpIn_cond_split (rel_bool hc) (fun e => ihx h.1.2 (hnr.imp id fun h => by simp only [AC.noRF, Bool.and_eq_true] at h; exact h.1) S (hr.yes e)) (fun e => ihy h.2 (hnr.imp id fun h => by simp only [AC.noRF, Bool.and_eq_true] at h; exact h.2) S (hr.no e))
   · exact hr.elim
  | _ => simp [okC] at h
 | block id x ih =>
  intro c h hnr Q fr H a w S hr
  cases c with
  | block j x' =>
   simp only [okC, Bool.and_eq_true, beq_iff_eq] at h
   obtain ⟨rfl, h⟩ := h
   refine wpIn_block (wpIn_mono (ih h (by simpa [AC.noRF] using hnr) S hr) ?_)
   rintro e a' w' (⟨xx, fr', H', he, S', hq⟩ | ⟨c, v, fr', H', rfl, hv, S', hq⟩)
   · cases e <;> simp [xa] at he <;> subst he
     · exact .inl ⟨_, fr', H', rfl, S', hq⟩
     · rename_i k
       simp only [Exit.inBlock]
       by_cases hk : k = id
       · subst hk
         simp only [blockK, Nat.beq_refl, cond_true] at hq
         rw [if_pos rfl]
         exact .inl ⟨_, fr', H', rfl, S', hq⟩
       · simp only [blockK, beq_false hk, cond_false] at hq
         rw [if_neg hk]
         exact .inl ⟨_, fr', H', rfl, S', hq⟩
     · exact .inl ⟨_, fr', H', rfl, S', hq⟩
   · exact .inr ⟨c, v, fr', H', rfl, hv, S', hq⟩
  | _ => simp [okC] at h
 | loop x ih =>
  intro c h hnr Q fr H a w S hr
  cases c with
  | loop x' =>
   simp only [okC] at h
   obtain ⟨I, m0, ⟨fr0, H1, hi, h0⟩, hbody⟩ := hr.ex
   refine wpIn_loop_ghost (fun m a w => ∃ fr H, St N n M0 μ0 H0 w0 fr H a w ∧ I m fr H) m0 ⟨fr0, H1, S.into hi, h0⟩ ?_
   rintro m a' w' ⟨fr', H', S', hI⟩
   refine wpIn_mono (ih h (by simpa [AC.noRF] using hnr) S' (hbody m fr' H' hI)) ?_
   rintro e a'' w'' (⟨xx, fr'', H'', he, S'', hq⟩ | ⟨c, v, fr'', H'', rfl, hv, S'', hq⟩)
   · cases e <;> simp [xa] at he <;> subst he
     · obtain ⟨m', hm, fr3, H3, hi3, h3⟩ := hq
       exact ⟨m', hm, fr3, H3, S''.into hi3, h3⟩
     · exact .inl ⟨_, fr'', H'', rfl, S'', hq⟩
     · exact .inl ⟨_, fr'', H'', rfl, S'', hq⟩
   · exact .inr ⟨c, v, fr'', H'', rfl, hv, S'', hq⟩
  | _ => simp [okC] at h
 | rangeF id g sl ps A B _ _ =>
  intro c h hnr Q fr H a w S hr
  cases c with
  | rangeFunc g' ps' asg bd =>
   obtain ⟨hr0, hnm⟩ := hnr.resolve_right (by simp [AC.noRF])
   subst hr0
   exact sound_rangeF h hnm S hr
  | _ => simp [okC] at h
end
end Go.Eng

namespace Go.Eng
open Go
variable [Globs]

inductive AR where
 | tmp (t : Nat)
 | cell (t : Nat) (agg : Bool) (n : Nat)
def resK (fr : Fr) (H : Heap) : List AR → (List AV → Prop) → Prop
 | [], K => K []
 | .tmp t :: r, K => fv (look fr t) fun v => resK fr H r fun vs => K (v :: vs)
 | .cell t agg n :: r, K => match look fr t with
  | .ptr k off => match H.get k with
   | .cells cs => loadK agg n (cs.drop off) fun v => resK fr H r fun vs => K (v :: vs)
   | _ => False
  | _ => False
def one : List AV → AV
 | [v] => v
 | vs => .tuple vs
structure RetA (n : Nat) (K : AV → Heap → Prop) (v : AV) (H : Heap) : Prop where
 ex : ∃ v' H', Into n [(0, v)] H [(0, v')] H' ∧ K v' H'
def frame0 : Nat → List AV → Fr
 | _, [] => []
 | i, v :: r => (i, v) :: frame0 (i + 1) r
def endK (n : Nat) (rs : List AR) (K : AV → Heap → Prop) : XA → Fr → Heap → Prop
 | .exit _, _, _ => False
 | .pan _, _, _ => False
 | .normal, fr, H => resK fr H rs fun vs => RetA n K (one vs) H
 | .ret, fr, H => resK fr H rs fun vs => RetA n K (one vs) H
def okRes (P : Program) : List ResultVar → List AR → Bool
 | [], [] => true
 | .tmp t :: r, .tmp t' :: r' => t == t' && okRes P r r'
 | .cell a t :: r, .cell a' agg n :: r' => a == a' && shapeOk P t agg n && okRes P r r'
 | _, _ => false
def okF (P : Program) (f : FuncId) (N : Nat) (ac : AC) (rs : List AR) : Bool := callable P f && (match P.funcs[f]? with
 | some fn => fn.ntmps == N && okRes P fn.results.toList rs && (match fn.body with
  | some c => okC P N ac c
  | none => false)
 | none => false)
section
variable {P : Program}
theorem look_frame0 : ∀ (args : List AV) (i t : Nat), (t < i → look (frame0 i args) t = .any) ∧ (∀ j, t = i + j → look (frame0 i args) t = args.getD j .any)
 | [], i, t => ⟨fun _ => rfl, fun j _ => by simp [frame0, look]⟩
 | v :: r, i, t => by
  obtain ⟨h1, h2⟩ := look_frame0 r (i + 1) t
  refine ⟨fun h => ?_, fun j hj => ?_⟩
  · simp only [frame0, look]; rw [beq_false (by omega)]; exact h1 (by omega)
  · simp only [frame0, look]
    cases j with
    | zero => subst hj; simp
    | succ j => rw [beq_false (by omega)]; simpa using h2 j (by omega)
theorem relF0 {M : Mem} {μ : Pos} {args : List AV} {vs : Array Value} {N : Nat} (hg : GlobM M) (h : relL M args μ vs.toList) (hN : args.length ≤ N) : RelF N M μ (frame0 0 args) (vs ++ Array.replicate (N - vs.size) undef) := by
 have hl := relL_length h
 simp only [Array.length_toList] at hl
 refine ⟨hg, by simp; omega, fun t => ?_⟩
 rw [(look_frame0 args 0 t).2 t (by omega)]
 cases ht : args[t]? with
 | none => simp [List.getD, ht, relV]
 | some c =>
  obtain ⟨v, hv, hr⟩ := relL_get h ht
  have : t < vs.size := by
   rcases Nat.lt_or_ge t vs.size with h' | h'
   · exact h'
   · simp [Array.getElem?_eq_none h'] at hv
  simp only [Array.getElem?_toList] at hv
  rw [show args.getD t .any = c by simp [List.getD, ht], Array.getD_eq_getD_getElem?, Array.getElem?_append_left this, hv]
  exact hr
def resOne (tmps : Array Value) : ResultVar → Sem Value
 | .tmp t => pure (tmps.getD t undef)
 | .cell a t => do loadVar t (← asAddr (tmps.getD a undef))
theorem results_eq (fn : Func) (tmps : Array Value) : results fn tmps = (do
 let vs ← fn.results.mapM (resOne tmps)
 pure (if h : vs.size = 1 then vs[0] else .tuple vs)) := by
 unfold results
 congr 1
theorem run_results {N : Nat} {M : Mem} {μ : Pos} {H : Heap} {w : World} {fr : Fr} {tmps : Array Value} (R : Rel M μ H w) (F : RelF N M μ fr tmps) : ∀ {rv : List ResultVar} {rs : List AR}, okRes P rv rs = true → ∀ {K : List AV → Prop}, resK fr H rs K →
 ∃ vs cs, (rv.mapM (resOne tmps)).run P w = .ok vs w ∧ relL M cs μ vs ∧ K cs
 | [], [], _, K, hk => ⟨[], [], by simp, by simp [relL], hk⟩
 | .tmp t :: r, .tmp t' :: r', h, K, hk => by
  simp only [okRes, Bool.and_eq_true, beq_iff_eq] at h
  obtain ⟨rfl, h⟩ := h
  simp only [resK, fv_eq] at hk
  obtain ⟨vs, cs, h1, h2, h3⟩ := run_results R F h hk
  refine ⟨tmps.getD t undef :: vs, look fr t :: cs, ?_, ?_, h3⟩
  · simp only [List.mapM_cons, resOne, Sem.run_bind, Sem.run_pure, Result.andThen_ok, h1]
  · simp only [relL]; exact ⟨_, _, rfl, F.slot t, h2⟩
 | .cell q t :: r, .cell q' agg n :: r', h, K, hk => by
  simp only [okRes, Bool.and_eq_true, beq_iff_eq] at h
  obtain ⟨⟨rfl, hs⟩, h⟩ := h
  simp only [resK] at hk
  split at hk
  · rename_i k off hq
    split at hk
    · rename_i cs hc
      have hx := F.slot q
      rw [hq] at hx; simp only [relV] at hx
      obtain ⟨b, sz, hμ, hv⟩ := hx
      have fin : ∀ c u, (loadVar t ⟨b, off, none⟩).run P w = .ok u w → relV M c μ u → resK fr H r' (fun vs => K (c :: vs)) → ∃ vs cs, (List.mapM (resOne tmps) (.cell q t :: r)).run P w = .ok vs w ∧ relL M cs μ vs ∧ K cs := by
       intro c u hu hr hk
       obtain ⟨vs, cs, h1, h2, h3⟩ := run_results R F h hk
       refine ⟨u :: vs, c :: cs, ?_, ?_, h3⟩
       · simp only [List.mapM_cons, resOne, Sem.run_bind, Sem.run_pure, Result.andThen_ok, hv, asAddr, hu, h1]
       · simp only [relL]; exact ⟨_, _, rfl, hr, h2⟩
      rcases loadK_spec hk with ⟨rfl, hn, hk⟩ | ⟨rfl, c, r2, hcr, hk⟩
      · by_cases hn0 : n = 0
        · subst hn0
          refine fin (.agg []) (.agg #[]) ?_ (by simp only [relV]; exact ⟨_, rfl, by simp [relL]⟩) (by simpa using hk)
          simp only [loadVar, Sem.run_bind, run_isAgg hs, Result.andThen_ok, if_true, run_sizeOf (shapeOk_sized hs), loadCells, loadCellsFrom, Sem.run_pure]
        · obtain ⟨vs, hl1, hl2, hl3⟩ := cells_cells (off := off) R hc hμ n (by simp at hn; omega)
          refine fin _ (.agg vs.toArray) ?_ (by simp only [relV]; exact ⟨_, rfl, hl2⟩) hk
          have := run_loadCells_list (P := P) w ⟨b, off, none⟩ vs hl3
          rw [hl1] at this
          simp only [loadVar, Sem.run_bind, run_isAgg hs, Result.andThen_ok, if_true, run_sizeOf (shapeOk_sized hs), this, Sem.run_pure]
      · have hlen : off + 1 ≤ cs.length := by have := congrArg List.length hcr; simp at this; omega
        obtain ⟨vs, hl1, hl2, hl3⟩ := cells_cells R hc hμ 1 hlen
        rw [hcr] at hl2
        simp only [List.take_succ_cons, List.take_zero, relL] at hl2
        obtain ⟨v, _, rfl, hrel, rfl⟩ := hl2
        have h3 := hl3 0 v rfl
        rw [add_addr] at h3
        simp only [Nat.add_zero] at h3
        refine fin c v ?_ hrel hk
        simp only [loadVar, Sem.run_bind, run_isAgg hs, Result.andThen_ok, Bool.false_eq_true, if_false, run_load, h3]
    · exact hk.elim
  · exact hk.elim
 | [], _ :: _, h, _, _ => by simp [okRes] at h
 | .tmp _ :: _, [], h, _, _ => by simp [okRes] at h
 | .cell _ _ :: _, [], h, _, _ => by simp [okRes] at h
 | .tmp _ :: _, .cell _ _ _ :: _, h, _, _ => by simp [okRes] at h
 | .cell _ _ :: _, .tmp _ :: _, h, _, _ => by simp [okRes] at h
theorem run_results_fn {N : Nat} {M : Mem} {μ : Pos} {H : Heap} {w : World} {fr : Fr} {tmps : Array Value} (R : Rel M μ H w) (F : RelF N M μ fr tmps) {fn : Func} {rs : List AR} (h : okRes P fn.results.toList rs = true) {K : List AV → Prop} (hk : resK fr H rs K) :
 ∃ v cs, (results fn tmps).run P w = .ok v w ∧ relV M (one cs) μ v ∧ K cs := by
 obtain ⟨vs, cs, h1, h2, h3⟩ := run_results R F h hk
 have hl := relL_length h2
 rw [results_eq, Array.mapM_eq_mapM_toList]
 simp only [bind_map_left, Sem.run_bind]
 rw [h1]
 simp only [Result.andThen_ok]
 by_cases h4 : vs.length = 1
 · match vs, cs, h4, hl, h2 with
   | [v], [c], _, _, h2 =>
    simp only [relL] at h2
    obtain ⟨_, _, e, h2, _⟩ := h2
    simp only [List.cons.injEq] at e
    refine ⟨v, [c], by simp, ?_, h3⟩
    simp only [one]; rw [e.1]; exact h2
 · refine ⟨.tuple vs.toArray, cs, by simp [h4], ?_, h3⟩
   have : one cs = .tuple cs := by
    match cs with
    | [] => rfl
    | [c] => simp at hl; omega
    | _ :: _ :: _ => rfl
   rw [this]; simp only [relV]; exact ⟨_, rfl, h2⟩
theorem callA_of {f : FuncId} {N : Nat} {ac : AC} {rs : List AR} (hok : okF P f N ac rs = true) {args : List AV} {H : Heap} {K : AV → Heap → Prop} (hN : args.length ≤ N)
 (h : ac.run P H.nx (endK H.nx rs K) (frame0 0 args) H) : CallA P f args H K := by
 unfold okF at hok
 simp only [Bool.and_eq_true] at hok
 obtain ⟨hcall, hok⟩ := hok
 refine ⟨hcall, fun M μ w vs R hv => ?_⟩
 split at hok
 · rename_i fn hf
   simp only [Bool.and_eq_true, beq_iff_eq] at hok
   obtain ⟨⟨hn, hres⟩, hok⟩ := hok
   split at hok
   · rename_i c hb
     refine callsIn_wide.1 (callsIn_of_wp_marks (F := FR none) (n := 0) hf hb trivial ?_ rfl)
     letI : Pend := { D := [] }
     rw [hn]
     have S : St N H.nx M μ H w (frame0 0 args) H { tmps := vs ++ Array.replicate (N - vs.size) undef, defers := [] } w :=
      ⟨M, μ, R, relF0 R.glob hv hN, Nat.le_refl _, Grow.refl _ _ _ _ _, Marks.nil⟩
     refine wpIn_mono (sound_C none hok (.inl ⟨rfl, rfl⟩) S h) ?_
     intro e a' w' hx
     obtain ⟨x, fr', H', hx, S', hq⟩ := hx.resolve_right (fun ⟨c, v, fr', H', _, _, _, hq⟩ => hq)
     have fin : resK fr' H' rs (fun vs => RetA H.nx K (one vs) H') → LeavesInM (FR none) 0 P fn a'.tmps (fun e w' => ∃ v M' μ' H' c, e = .returned v ∧ Rel M' μ' H' w' ∧ relV M' c μ' v ∧ Move M μ H w M' μ' H' w' ∧ K c H') a'.defers .returning w' := by
      intro hk
      obtain ⟨M1, μ1, R1, F1, hn1, G1, ⟨rl, e1, e2, e3⟩, _⟩ := S'
      obtain ⟨R1, G1⟩ := Marks.out e3 R1 G1
      rw [e1, show (Pend.D : List Deferred) = [] from rfl, List.append_nil]
      refine leaves_all rl w' (fun r hr => (e3 r hr).2.1) e2 ?_
      obtain ⟨v, cs, h1, h2, h3⟩ := run_results_fn R1 F1 hres hk
      refine ⟨v, h1, ?_⟩
      obtain ⟨v', H2, hi, hk⟩ := h3.ex
      have F1' : RelF 1 M1 μ1 [(0, one cs)] #[v] := ⟨R1.glob, rfl, fun t => by
       simp only [look]
       by_cases ht : 0 = t
       · subst ht; simpa using h2
       · rw [beq_false ht]; simp only [cond_false, relV]⟩
      obtain ⟨M2, μ2, R2, F2, hn2, G2⟩ := hi 1 M1 μ1 _ #[v] R1 F1' hn1
      refine ⟨v, M2, μ2, H2, v', rfl, R2, ?_, ?_, hk⟩
      · have := F2.slot 0; simpa [look] using this
      · have G := G1.trans G2
        refine ⟨fun k x hx => ?_, G, hn2⟩
        rw [G.pin k (R.pos_lt hx)]; exact hx
     cases e <;> simp [xa] at hx <;> subst hx
     · exact fin hq
     · exact hq.elim
     · exact fin hq
   · cases hok
 · cases hok
structure RetP (n : Nat) (K : Heap → Prop) (H : Heap) : Prop where
 ex : ∃ H', Into n [] H [] H' ∧ K H'
theorem RetP.same {n : Nat} {K : Heap → Prop} {H : Heap} (h : K H) : RetP n K H := ⟨H, fun N M μ w tmps R F hn => ⟨M, μ, R, F, hn, Grow.refl _ _ _ _ _⟩, h⟩
def endX (n : Nat) (rs : List AR) (K Kp : AV → Heap → Prop) (x : XA) (fr : Fr) (H : Heap) : Prop := match x with
 | .exit _ => False
 | .pan c => RetP n (Kp c) H
 | .normal => resK fr H rs fun vs => RetA n K (one vs) H
 | .ret => resK fr H rs fun vs => RetA n K (one vs) H
def XPost (M : Mem) (μ : Pos) (H : Heap) (w : World) (K Kp : AV → Heap → Prop) : Ending → World → Prop := fun e w' => ∃ v M' μ' H' c, Rel M' μ' H' w' ∧ Move M μ H w M' μ' H' w' ∧ ((e = .returned v ∧ relV M' c μ' v ∧ K c H') ∨ (e = .panicked [{ v, recovered := false }] ∧ relPan c v ∧ Kp c H'))
section
variable {N : Nat} {M M1 : Mem} {μ μ1 : Pos} {H H1 : Heap} {w w1 : World} {fr : Fr} {tmps : Array Value}
theorem ends_ret (R : Rel M μ H w) (R1 : Rel M1 μ1 H1 w1) (F1 : RelF N M1 μ1 fr tmps) (hn1 : H.nx ≤ H1.nx) (G1 : Grow H.nx M μ H w M1 μ1 H1 w1) {fn : Func} {rs : List AR} (hres : okRes P fn.results.toList rs = true) {K Kp : AV → Heap → Prop} (hk : resK fr H1 rs fun vs => RetA H.nx K (one vs) H1) :
 ∃ v, (results fn tmps).run P w1 = .ok v w1 ∧ XPost M μ H w K Kp (.returned v) w1 := by
 obtain ⟨v, cs, h1, h2, h3⟩ := run_results_fn R1 F1 hres hk
 refine ⟨v, h1, ?_⟩
 obtain ⟨v', H2, hi, hk⟩ := h3.ex
 have F1' : RelF 1 M1 μ1 [(0, one cs)] #[v] := ⟨R1.glob, rfl, fun t => by
  simp only [look]
  by_cases ht : 0 = t
  · subst ht; simpa using h2
  · rw [beq_false ht]; simp only [cond_false, relV]⟩
 obtain ⟨M2, μ2, R2, F2, hn2, G2⟩ := hi 1 M1 μ1 _ #[v] R1 F1' hn1
 refine ⟨v, M2, μ2, H2, v', R2, ?_, .inl ⟨rfl, ?_, hk⟩⟩
 · have G := G1.trans G2
   exact ⟨fun k x hx => by rw [G.pin k (R.pos_lt hx)]; exact hx, G, hn2⟩
 · have := F2.slot 0; simpa [look] using this
theorem ends_pan (R : Rel M μ H w) (R1 : Rel M1 μ1 H1 w1) (hn1 : H.nx ≤ H1.nx) (G1 : Grow H.nx M μ H w M1 μ1 H1 w1) {K Kp : AV → Heap → Prop} {c : AV} {v : Value} (hv : relPan c v) (hk : RetP H.nx (Kp c) H1) : XPost M μ H w K Kp (.panicked [{ v, recovered := false }]) w1 := by
 obtain ⟨H2, hi, hk⟩ := hk.ex
 obtain ⟨M2, μ2, R2, _, hn2, G2⟩ := hi 0 M1 μ1 _ #[] R1 ⟨R1.glob, rfl, fun t => by simp [look, relV]⟩ hn1
 have G := G1.trans G2
 exact ⟨v, M2, μ2, H2, c, R2, ⟨fun k x hx => by rw [G.pin k (R.pos_lt hx)]; exact hx, G, hn2⟩, .inr ⟨rfl, hv, hk⟩⟩
end
theorem callX_of {f : FuncId} {N : Nat} {ac : AC} {rs : List AR} (hok : okF P f N ac rs = true) {args : List AV} {H : Heap} {K Kp : AV → Heap → Prop} (hN : args.length ≤ N)
 (h : ac.run P H.nx (endX H.nx rs K Kp) (frame0 0 args) H) : CallX P f args H K Kp := by
 unfold okF at hok
 simp only [Bool.and_eq_true] at hok
 obtain ⟨hcall, hok⟩ := hok
 refine ⟨hcall, fun M μ w vs R hv => ?_⟩
 split at hok
 · rename_i fn hf
   simp only [Bool.and_eq_true, beq_iff_eq] at hok
   obtain ⟨⟨hn, hres⟩, hok⟩ := hok
   split at hok
   · rename_i c hb
     refine callsIn_wide.1 (callsIn_of_wp_marks (F := FR none) (n := 0) hf hb trivial ?_ rfl)
     letI : Pend := { D := [] }
     rw [hn]
     have S : St N H.nx M μ H w (frame0 0 args) H { tmps := vs ++ Array.replicate (N - vs.size) undef, defers := [] } w :=
      ⟨M, μ, R, relF0 R.glob hv hN, Nat.le_refl _, Grow.refl _ _ _ _ _, Marks.nil⟩
     refine wpIn_mono (sound_C none hok (.inl ⟨rfl, rfl⟩) S h) ?_
     rintro e a' w' (⟨x, fr', H', hx, S', hq⟩ | ⟨c, v, fr', H', rfl, hv, S', hq⟩)
     · have fin : resK fr' H' rs (fun vs => RetA H.nx K (one vs) H') → LeavesInM (FR none) 0 P fn a'.tmps (XPost M μ H w K Kp) a'.defers .returning w' := by
        intro hk
        obtain ⟨M1, μ1, R1, F1, hn1, G1, ⟨rl, e1, e2, e3⟩, _⟩ := S'
        obtain ⟨R1, G1⟩ := Marks.out e3 R1 G1
        rw [e1]
        exact leaves_marks (by simp) rl w' (fun r hr => (e3 r hr).2.1) e2 (ends_ret R R1 F1 hn1 G1 hres hk)
       cases e <;> simp [xa] at hx <;> subst hx
       · exact fin hq
       · exact hq.elim
       · exact fin hq
     · obtain ⟨M1, μ1, R1, F1, hn1, G1, ⟨rl, e1, e2, e3⟩, _⟩ := S'
       obtain ⟨R1, G1⟩ := Marks.out e3 R1 G1
       show LeavesInM (FR none) 0 P fn a'.tmps (XPost M μ H w K Kp) a'.defers (.panicking _) w'
       rw [e1]
       exact leaves_marks (by simp) rl w' (fun r hr => (e3 r hr).2.1) e2 (ends_pan R R1 hn1 G1 hv hq)
   · cases hok
 · cases hok
end
end Go.Eng

namespace Go.Eng
open Go
variable [Globs]
mutual
def ren (f : Nat → Option Nat) : AV → AV
 | .ptr k o => match f k with | some j => .ptr j o | none => .any
 | .slice k o l c e => match f k with | some j => .slice j o l c e | none => .any
 | .map k => match f k with | some j => .map j | none => .any
 | .yld k => match f k with | some j => .yld j | none => .any
 | .func g cs => .func g (renL f cs)
 | .meth g cs => .meth g (renL f cs)
 | .ifc t c => .ifc t (ren f c)
 | .agg cs => .agg (renL f cs)
 | .tuple cs => .tuple (renL f cs)
 | c => c
def renL (f : Nat → Option Nat) : List AV → List AV
 | [] => []
 | c :: cs => ren f c :: renL f cs
end
section
variable {M : Mem} {μ μ' : Pos}
mutual
theorem relV_ren {f : Nat → Option Nat} (hf : ∀ k j x, f k = some j → μ k = some x → μ' j = some x) : ∀ (c : AV) {v : Value}, relV M c μ v → relV M (ren f c) μ' v
 | .any, _, _ => by simp only [ren, relV]
 | .bool b, _, h => by simpa only [ren, relV] using h
 | .int k n, _, h => by simpa only [ren, relV] using h
 | .str s, _, h => by simpa only [ren, relV] using h
 | .nilp, _, h => by simpa only [ren, relV] using h
 | .ptr k o, _, h => by
  simp only [ren]
  split
  · rename_i j hj; simp only [relV] at *; obtain ⟨b, sz, h1, h2⟩ := h; exact ⟨b, sz, hf k j _ hj h1, h2⟩
  · simp only [relV]
 | .dptr cs, _, h => by simpa only [ren, relV] using h
 | .nils, _, h => by simpa only [ren, relV] using h
 | .slice k o l c e, _, h => by
  simp only [ren]
  split
  · rename_i j hj; simp only [relV] at *; obtain ⟨b, sz, q, h1, h2⟩ := h; exact ⟨b, sz, q, hf k j _ hj h1, h2⟩
  · simp only [relV]
 | .dslice cs l c, _, h => by simpa only [ren, relV] using h
 | .nilm, _, h => by simpa only [ren, relV] using h
 | .map k, _, h => by
  simp only [ren]
  split
  · rename_i j hj; simp only [relV] at *; obtain ⟨b, sz, h1, h2⟩ := h; exact ⟨b, sz, hf k j _ hj h1, h2⟩
  · simp only [relV]
 | .yld k, _, h => by
  simp only [ren]
  split
  · rename_i j hj; simp only [relV] at *; obtain ⟨b, sz, h1, h2⟩ := h; exact ⟨b, sz, hf k j _ hj h1, h2⟩
  · simp only [relV]
 | .nilf, _, h => by simpa only [ren, relV] using h
 | .nili, _, h => by simpa only [ren, relV] using h
 | .ifc t c, _, h => by simp only [relV, ren] at *; obtain ⟨x, h1, h2⟩ := h; exact ⟨x, h1, relV_ren hf c h2⟩
 | .meth g cs, _, h => by simp only [relV, ren] at *; obtain ⟨vs, h1, h2⟩ := h; exact ⟨vs, h1, relL_ren hf cs h2⟩
 | .func g cs, _, h => by simp only [relV, ren] at *; obtain ⟨vs, h1, h2⟩ := h; exact ⟨vs, h1, relL_ren hf cs h2⟩
 | .agg cs, _, h => by simp only [relV, ren] at *; obtain ⟨vs, h1, h2⟩ := h; exact ⟨vs, h1, relL_ren hf cs h2⟩
 | .tuple cs, _, h => by simp only [relV, ren] at *; obtain ⟨vs, h1, h2⟩ := h; exact ⟨vs, h1, relL_ren hf cs h2⟩
theorem relL_ren {f : Nat → Option Nat} (hf : ∀ k j x, f k = some j → μ k = some x → μ' j = some x) : ∀ (cs : List AV) {vs : List Value}, relL M cs μ vs → relL M (renL f cs) μ' vs
 | [], _, h => by simpa only [relL, renL] using h
 | c :: cs, _, h => by
  simp only [relL, renL] at *; obtain ⟨v, r, h1, h2, h3⟩ := h
  exact ⟨v, r, h1, relV_ren hf c h2, relL_ren hf cs h3⟩
end
theorem relP_ren {f : Nat → Option Nat} (hf : ∀ k j x, f k = some j → μ k = some x → μ' j = some x) : ∀ (cs : List AV) {vs : List Value}, relP M μ cs vs → relP M μ' (renL f cs) vs
 | [], _, _ => by simp [renL, relP]
 | c :: cs, _, h => by obtain ⟨v, r, h1, h2, h3⟩ := h; simp only [renL, relP]; exact ⟨v, r, h1, relV_ren hf c h2, relP_ren hf cs h3⟩
end

def posOf (keep : List (Nat × Bool)) (k : Nat) : Option Nat := go keep 0
where
 go : List (Nat × Bool) → Nat → Option Nat
  | [], _ => none
  | (j, _) :: r, i => bif Nat.beq j k then some i else go r (i + 1)
def renF (f : Nat → Option Nat) : Fr → Fr
 | [] => []
 | (t, v) :: r => (t, ren f v) :: renF f r
theorem look_renF {M : Mem} {μ μ' : Pos} {f : Nat → Option Nat} (hf : ∀ k j x, f k = some j → μ k = some x → μ' j = some x) : ∀ (fr : Fr) (t : Nat) {v : Value}, relV M (look fr t) μ v → relV M (look (renF f fr) t) μ' v
 | [], _, _, h => by simp only [look, renF, relV]
 | (q, c) :: r, t, v, h => by
  simp only [look, renF] at h ⊢
  cases hq : Nat.beq q t <;> simp only [hq, cond_true, cond_false] at h ⊢
  · exact look_renF hf r t h
  · exact relV_ren hf c h
def renM (f : Nat → Option Nat) : List (AV × AV) → List (AV × AV)
 | [] => []
 | (a, b) :: r => (a, ren f b) :: renM f r
theorem relE_ren {M : Mem} {μ μ' : Pos} {f : Nat → Option Nat} (hf : ∀ k j x, f k = some j → μ k = some x → μ' j = some x) : ∀ {es : List (AV × AV)} {l : List MapEntry}, relE M μ es l → relE M μ' (renM f es) l
 | [], _, h => h
 | (_, _) :: _, _, ⟨e, t, h1, h2, h3, h4⟩ => ⟨e, t, h1, h2, relV_ren hf _ h3, relE_ren hf h4⟩
def renB (f : Nat → Option Nat) : AB → AB
 | .cells cs => .cells (renL f cs)
 | .map es => .map (renM f es)
 | .iter k l c => match f k with
  | some k' => .iter k' l c
  | none => .dead
 | .loop st id fr => .loop st id (renF f fr)
 | b => b
def gcB (f : Nat → Option Nat) (H : Heap) : List (Nat × Bool) → Nat → List (Nat × AB)
 | [], _ => []
 | (k, d) :: r, i => (i, bif d then H.get k else renB f (H.get k)) :: gcB f H r (i + 1)
def gcH (keep : List (Nat × Bool)) (H : Heap) : Heap := ⟨keep.length, gcB (posOf keep) H keep 0⟩
def gcF (keep : List (Nat × Bool)) (fr : Fr) : List Nat → Fr
 | [] => []
 | t :: r => (t, ren (posOf keep) (look fr t)) :: gcF keep fr r
def dataB : AB → Prop
 | .cells cs => ∀ c ∈ cs, noLoc c = true
 | .map es => ∀ x ∈ es, noLoc x.2 = true
 | .iter _ _ _ => False
 | .loop _ _ _ => False
 | _ => True
def fresh (k : Nat) : List (Nat × Bool) → Bool
 | [] => true
 | (j, _) :: r => !Nat.beq j k && fresh k r
def distinct : List (Nat × Bool) → Bool
 | [] => true
 | (k, _) :: r => fresh k r && distinct r
def gcOk (n : Nat) (keep : List (Nat × Bool)) : Bool := distinct keep && (go n keep 0)
where
 go : Nat → List (Nat × Bool) → Nat → Bool
  | 0, _, _ => true
  | _ + 1, [], _ => false
  | n + 1, (k, _) :: r, i => Nat.beq k i && go n r (i + 1)
def allData (H : Heap) : List (Nat × Bool) → Prop
 | [] => True
 | (k, true) :: r => dataB (H.get k) ∧ allData H r
 | (_, false) :: r => allData H r
theorem posOf_go : ∀ (keep : List (Nat × Bool)) (k i j : Nat), posOf.go k keep i = some j → ∃ m d, j = i + m ∧ keep[m]? = some (k, d)
 | [], k, i, j, h => by simp [posOf.go] at h
 | (q, d) :: r, k, i, j, h => by
  simp only [posOf.go] at h
  by_cases hq : q = k
  · subst hq; simp at h; exact ⟨0, d, by omega, rfl⟩
  · rw [beq_false hq] at h
    obtain ⟨m, d', h1, h2⟩ := posOf_go r k (i + 1) j (by simpa using h)
    exact ⟨m + 1, d', by omega, by simpa using h2⟩
theorem gcB_get (f : Nat → Option Nat) (H : Heap) : ∀ (keep : List (Nat × Bool)) (i j : Nat), (j < i → bget (gcB f H keep i) j = .dead) ∧ (∀ m, j = i + m → bget (gcB f H keep i) j = match keep[m]? with | some (k, d) => (bif d then H.get k else renB f (H.get k)) | none => .dead)
 | [], i, j => ⟨fun _ => rfl, fun m _ => by simp [gcB, bget]⟩
 | (k, d) :: r, i, j => by
  obtain ⟨h1, h2⟩ := gcB_get f H r (i + 1) j
  refine ⟨fun h => ?_, fun m hm => ?_⟩
  · simp only [gcB, bget]; rw [beq_false (by omega)]; exact h1 (by omega)
  · simp only [gcB, bget]
    cases m with
    | zero => subst hm; simp
    | succ m => rw [beq_false (by omega)]; simpa using h2 m (by omega)
theorem gcH_get (keep : List (Nat × Bool)) (H : Heap) (j : Nat) : (gcH keep H).get j = match keep[j]? with | some (k, d) => (bif d then H.get k else renB (posOf keep) (H.get k)) | none => .dead :=
 (gcB_get _ H keep 0 j).2 j (by omega)
theorem fresh_spec {k : Nat} : ∀ {keep : List (Nat × Bool)}, fresh k keep = true → ∀ j d, (j, d) ∈ keep → j ≠ k
 | [], _, j, d, h => by simp at h
 | (q, e) :: r, hf, j, d, h => by
  simp only [fresh, Bool.and_eq_true, Bool.not_eq_true'] at hf
  rcases List.mem_cons.1 h with h | h
  · simp only [Prod.mk.injEq] at h; obtain ⟨rfl, rfl⟩ := h
    intro e; subst e; simp at hf
  · exact fresh_spec hf.2 j d h
theorem distinct_spec : ∀ {keep : List (Nat × Bool)}, distinct keep = true → ∀ (i j k : Nat) (d e : Bool), keep[i]? = some (k, d) → keep[j]? = some (k, e) → i = j
 | [], _, i, j, k, d, e, h, _ => by simp at h
 | (q, x) :: r, hd, i, j, k, d, e, hi, hj => by
  simp only [distinct, Bool.and_eq_true] at hd
  cases i with
  | zero =>
   cases j with
   | zero => rfl
   | succ j =>
    simp at hi hj
    obtain ⟨rfl, rfl⟩ := hi
    exact absurd rfl (fresh_spec hd.1 q e (List.mem_of_getElem? hj))
  | succ i =>
   cases j with
   | zero =>
    simp at hi hj
    obtain ⟨rfl, rfl⟩ := hj
    exact absurd rfl (fresh_spec hd.1 q d (List.mem_of_getElem? hi))
   | succ j =>
    simp at hi hj
    rw [distinct_spec hd.2 i j k d e hi hj]
theorem gcOk_go : ∀ {n : Nat} {keep : List (Nat × Bool)} {i : Nat}, gcOk.go n keep i = true → n ≤ keep.length ∧ ∀ m, m < n → ∃ d, keep[m]? = some (i + m, d)
 | 0, _, _, _ => ⟨Nat.zero_le _, fun m h => by omega⟩
 | _ + 1, [], _, h => by simp [gcOk.go] at h
 | n + 1, (k, d) :: r, i, h => by
  simp only [gcOk.go, Bool.and_eq_true] at h
  obtain ⟨h1, h2⟩ := gcOk_go h.2
  have hk : k = i := Nat.eq_of_beq_eq_true h.1
  refine ⟨by simp; omega, fun m hm => ?_⟩
  cases m with
  | zero => exact ⟨d, by simp [hk]⟩
  | succ m => obtain ⟨d', h3⟩ := h2 m (by omega); exact ⟨d', by rw [List.getElem?_cons_succ, h3]; congr 2; omega⟩
theorem allData_spec {H : Heap} : ∀ {keep : List (Nat × Bool)}, allData H keep → ∀ (k : Nat), (k, true) ∈ keep → dataB (H.get k)
 | [], _, k, h => by simp at h
 | (q, true) :: r, ha, k, h => by
  rcases List.mem_cons.1 h with h | h
  · simp at h; subst h; exact ha.1
  · exact allData_spec ha.2 k h
 | (q, false) :: r, ha, k, h => by
  rcases List.mem_cons.1 h with h | h
  · simp at h
  · exact allData_spec (keep := r) ha k h
theorem gcH_iter {keep : List (Nat × Bool)} {H : Heap} (hdata : allData H keep) {j k : Nat} {left : List (AV × AV)} {cur : Option (AV × AV)} (h : (gcH keep H).get j = .iter k left cur) :
 ∃ j0 k0 d, keep[j]? = some (j0, d) ∧ H.get j0 = .iter k0 left cur ∧ posOf keep k0 = some k := by
 rw [gcH_get] at h
 cases hk : keep[j]? with
 | none => rw [hk] at h; cases h
 | some x =>
  obtain ⟨j0, d⟩ := x
  rw [hk] at h
  cases d with
  | true =>
   simp only [cond_true] at h
   have := allData_spec hdata j0 (List.mem_of_getElem? hk)
   rw [h] at this; exact this.elim
  | false =>
   simp only [cond_false] at h
   cases hg : H.get j0 with
   | dead => rw [hg] at h; cases h
   | cells cs => rw [hg] at h; cases h
   | map es => rw [hg] at h; cases h
   | iter k0 l c =>
    rw [hg] at h; simp only [renB] at h
    split at h
    · rename_i k1 hk1; cases h; exact ⟨j0, k0, false, rfl, hg, hk1⟩
    · cases h
   | loop st id fr => rw [hg] at h; cases h
theorem gcH_loop {keep : List (Nat × Bool)} {H : Heap} (hdata : allData H keep) {j id : Nat} {st : RS} {fr : Fr} (h : (gcH keep H).get j = .loop st id fr) :
 ∃ j0 fr0 d, keep[j]? = some (j0, d) ∧ H.get j0 = .loop st id fr0 ∧ fr = renF (posOf keep) fr0 := by
 rw [gcH_get] at h
 cases hk : keep[j]? with
 | none => rw [hk] at h; cases h
 | some x =>
  obtain ⟨j0, d⟩ := x
  rw [hk] at h
  cases d with
  | true =>
   simp only [cond_true] at h
   have := allData_spec hdata j0 (List.mem_of_getElem? hk)
   rw [h] at this; exact this.elim
  | false =>
   simp only [cond_false] at h
   cases hg : H.get j0 with
   | dead => rw [hg] at h; cases h
   | cells cs => rw [hg] at h; cases h
   | map es => rw [hg] at h; cases h
   | iter k0 l c => rw [hg] at h; simp only [renB] at h; split at h <;> cases h
   | loop st0 id0 fr0 => rw [hg] at h; simp only [renB, AB.loop.injEq] at h; obtain ⟨rfl, rfl, rfl⟩ := h; exact ⟨j0, fr0, false, rfl, hg, rfl⟩
theorem Into.gc {n : Nat} {fr : Fr} {H : Heap} (keep : List (Nat × Bool)) (slots : List Nat) (hok : gcOk n keep = true) (hdata : allData H keep) : Into n fr H (gcF keep fr slots) (gcH keep H) := by
 intro N M μ w tmps R F hn
 simp only [gcOk, Bool.and_eq_true] at hok
 obtain ⟨hdis, hpin⟩ := hok
 obtain ⟨hlen, hpin⟩ := gcOk_go hpin
 let μ' : Pos := fun j => (keep[j]?).bind fun x => μ x.1
 have hμ' : ∀ (j k : Nat) (d : Bool), keep[j]? = some (k, d) → ∀ x, μ k = some x → μ' j = some x := by
  intro j k d hj x hx
  simp only [μ', hj, Option.bind_some, hx]
 have hμ2 : ∀ (j k : Nat) (d : Bool), keep[j]? = some (k, d) → ∀ x, μ' j = some x → μ k = some x := by
  intro j k d hj x hx
  simpa only [μ', hj, Option.bind_some] using hx
 have hf : ∀ k j x, posOf keep k = some j → μ k = some x → μ' j = some x := by
  intro k j x hj hx
  obtain ⟨m, d, h1, h2⟩ := posOf_go keep k 0 j hj
  exact hμ' j k d (by rw [h1, Nat.zero_add]; exact h2) x hx
 have alive : ∀ j, (gcH keep H).get j ≠ .dead → ∃ k d, keep[j]? = some (k, d) ∧ H.get k ≠ .dead := by
  intro j hj
  rw [gcH_get] at hj
  cases hk : keep[j]? with
  | none => rw [hk] at hj; exact absurd rfl hj
  | some x =>
   obtain ⟨k, d⟩ := x
   refine ⟨k, d, rfl, fun h => hj ?_⟩
   simp only [hk, h, renB]; cases d <;> rfl
 have own : ∀ b, Own μ' (gcH keep H) b → Own μ H b := by
  rintro b ⟨j, s, hj, hx⟩
  obtain ⟨k, d, h1, h2⟩ := alive j hj
  exact ⟨k, s, h2, hμ2 j k d h1 _ hx⟩
 refine ⟨M, μ', ⟨R.glob, fun j hj => ?_, fun j hj => ?_, fun j cs hj => ?_, fun j es hj => ?_, R.walks (Mem.le_refl _) (fun j k' left cur hj => ?_), R.recs (Mem.le_refl _) (fun j st id fr hj => ?_), fun i j b s t hi hj hx hy => ?_, R.imm, fun j b s hj hx o => ?_⟩, ⟨F.glob, F.size, fun t => ?_⟩, by simp [gcH]; omega,
  ⟨Mem.le_refl _, fun k hk => ?_, Keep.refl _ _, fun b hb => .inl (own b hb), fun _ _ _ h => .inl h⟩⟩
 · simp only [μ', List.getElem?_eq_none (show keep.length ≤ j from hj), Option.bind_none]
 · rw [gcH_get, List.getElem?_eq_none (by simpa [gcH] using hj)]
 · rw [gcH_get] at hj
   cases hk : keep[j]? with
   | none => rw [hk] at hj; cases hj
   | some x =>
    obtain ⟨k, d⟩ := x
    rw [hk] at hj
    cases d with
    | true =>
     simp only [cond_true] at hj
     obtain ⟨b, sz, c, el, fz, h1, h2, h3, h4, h5⟩ := R.cells k cs hj
     refine ⟨b, sz, c, el, fz, hμ' j k true hk _ h1, h2, h3, h4, relP_data cs ?_ h5⟩
     have := allData_spec hdata k (List.mem_of_getElem? hk)
     rw [hj] at this; exact this
    | false =>
     simp only [cond_false] at hj
     cases hg : H.get k with
     | cells ds =>
      rw [hg] at hj; simp only [renB, AB.cells.injEq] at hj; subst hj
      obtain ⟨b, sz, c, el, fz, h1, h2, h3, h4, h5⟩ := R.cells k ds hg
      exact ⟨b, sz, c, el, fz, hμ' j k false hk _ h1, h2, h3, h4, relP_ren hf ds h5⟩
     | dead => rw [hg] at hj; simp [renB] at hj
     | map es => rw [hg] at hj; simp [renB] at hj
     | iter k' l c => rw [hg] at hj; simp only [renB] at hj; split at hj <;> cases hj
     | loop st id fr => rw [hg] at hj; cases hj
 · rw [gcH_get] at hj
   cases hk : keep[j]? with
   | none => rw [hk] at hj; cases hj
   | some x =>
    obtain ⟨k, d⟩ := x
    rw [hk] at hj
    cases d with
    | true =>
     simp only [cond_true] at hj
     obtain ⟨b, sz, ents, clock, h1, h2, h3, h4⟩ := R.maps k es hj
     have hd := allData_spec hdata k (List.mem_of_getElem? hk)
     rw [hj] at hd
     exact ⟨b, sz, ents, clock, hμ' j k true hk _ h1, h2, relE_data hd h3, h4⟩
    | false =>
     have hj : renB (posOf keep) (H.get k) = .map es := hj
     cases hg : H.get k with
     | dead => rw [hg] at hj; cases hj
     | cells cs => rw [hg] at hj; cases hj
     | map es' =>
      rw [hg] at hj; simp only [renB, AB.map.injEq] at hj; subst hj
      obtain ⟨b, sz, ents, clock, h1, h2, h3, h4⟩ := R.maps k es' hg
      exact ⟨b, sz, ents, clock, hμ' j k false hk _ h1, h2, relE_ren hf h3, h4⟩
     | iter k' l c => rw [hg] at hj; simp only [renB] at hj; split at hj <;> cases hj
     | loop st id fr => rw [hg] at hj; cases hj
 · obtain ⟨j0, k0, d, h1, h2, h3⟩ := gcH_iter hdata hj
   obtain ⟨es, hes⟩ := R.iter_map h2
   refine ⟨j0, k0, h2, ?_, fun x hx => hμ' j j0 d h1 x hx, fun x hx => hf k0 k' x h3 hx, fun _ _ _ _ => rfl, fun _ _ _ _ => rfl⟩
   obtain ⟨m, d', e1, e2⟩ := posOf_go keep k0 0 k' h3
   rw [Nat.zero_add] at e1; subst e1
   rw [gcH_get, e2]; simp only [hes]
   cases d' <;> simp [renB]
 · obtain ⟨j0, fr0, d, h1, h2, h3⟩ := gcH_loop hdata hj
   exact ⟨j0, fr0, h2, fun x hx => hμ' j j0 d h1 x hx, fun t v hv => by rw [h3]; exact look_renF hf fr0 t hv, fun _ _ _ _ => rfl⟩
 · obtain ⟨k, d, h1, h2⟩ := alive i hi
   obtain ⟨k', d', h3, h4⟩ := alive j hj
   have := R.inj k k' b s t h2 h4 (hμ2 i k d h1 _ hx) (hμ2 j k' d' h3 _ hy)
   subst this
   exact distinct_spec hdis i j k d d' h1 h3
 · obtain ⟨k, d, h1, h2⟩ := alive j hj
   exact R.apart k b s h2 (hμ2 j k d h1 _ hx) o
 · have key : ∀ (sl : List Nat), relV M (look (gcF keep fr sl) t) μ' (tmps.getD t undef) := by
    intro sl
    induction sl with
    | nil => simp [gcF, look, relV]
    | cons q r ih =>
     simp only [gcF, look]
     by_cases hq : q = t
     · subst hq; simpa using relV_ren hf _ (F.slot q)
     · rw [beq_false hq]; exact ih
   exact key slots
 · obtain ⟨d, h1⟩ := hpin k hk
   rw [Nat.zero_add] at h1
   simp only [μ', h1, Option.bind_some]
theorem To.gc {n : Nat} {fr : Fr} {H : Heap} {J : Fr → Heap → Prop} (keep : List (Nat × Bool)) (slots : List Nat) (hok : gcOk n keep = true) (hdata : allData H keep) (h : J (gcF keep fr slots) (gcH keep H)) : To n fr H J :=
 ⟨_, _, Into.gc keep slots hok hdata, h⟩
theorem RetA.gc {n : Nat} {K : AV → Heap → Prop} {v : AV} {H : Heap} (keep : List (Nat × Bool)) (hok : gcOk n keep = true) (hdata : allData H keep) (h : K (ren (posOf keep) v) (gcH keep H)) : RetA n K v H :=
 ⟨_, _, Into.gc keep [0] hok hdata, h⟩
mutual
theorem ren_data (f : Nat → Option Nat) : ∀ (c : AV), noLoc c = true → ren f c = c
 | .any, _ | .bool _, _ | .int _ _, _ | .str _, _ | .nilp, _ | .dptr _, _ | .nils, _ | .dslice _ _ _, _ | .nilm, _ | .nilf, _ | .nili, _ => by simp only [ren]
 | .ptr _ _, h | .slice _ _ _ _ _, h | .map _, h | .yld _, h => by simp [noLoc] at h
 | .func g cs, h => by simp only [noLoc] at h; simp only [ren, renL_data f cs h]
 | .meth g cs, h => by simp only [noLoc] at h; simp only [ren, renL_data f cs h]
 | .ifc t c, h => by simp only [noLoc] at h; simp only [ren, ren_data f c h]
 | .agg cs, h => by simp only [noLoc] at h; simp only [ren, renL_data f cs h]
 | .tuple cs, h => by simp only [noLoc] at h; simp only [ren, renL_data f cs h]
theorem renL_data (f : Nat → Option Nat) : ∀ (cs : List AV), noLocL cs = true → renL f cs = cs
 | [], _ => by simp only [renL]
 | c :: cs, h => by simp only [noLocL, Bool.and_eq_true] at h; simp only [renL, ren_data f c h.1, renL_data f cs h.2]
end
theorem RetA.data {K : AV → Heap → Prop} {v : AV} {H : Heap} (hv : noLoc v = true) (h : K v Heap.nil) : RetA 0 K v H :=
 RetA.gc [] rfl trivial (by rw [ren_data _ v hv]; exact h)
end Go.Eng

namespace Go.Eng
open Go
variable [Globs]

section
variable (n : Nat) (body : (XA → Fr → Heap → Prop) → Fr → Heap → Prop) (Q : XA → Fr → Heap → Prop)
def lpost (m : Nat) (J : Nat → Fr → Heap → Prop) : XA → Fr → Heap → Prop := fun x fr' H' => match x with
 | .normal => ∃ m', m' < m ∧ To n fr' H' (J m')
 | x => Q x fr' H'
def LoopI : Nat → Nat → Fr → Heap → Prop
 | 0, _, _, _ => False
 | k + 1, m, fr, H => (m = k ∧ body (lpost n Q k (LoopI k)) fr H) ∨ LoopI k m fr H
theorem LoopI.lt : ∀ {k m : Nat} {fr : Fr} {H : Heap}, LoopI n body Q k m fr H → m < k
 | 0, _, _, _, h => h.elim
 | k + 1, m, _, _, h => by
  rcases h with ⟨rfl, _⟩ | h
  · exact Nat.lt_succ_self _
  · exact Nat.lt_succ_of_lt (LoopI.lt h)
theorem LoopI.eq : ∀ {k m m' : Nat}, m' < m → m ≤ k → LoopI n body Q k m' = LoopI n body Q m m'
 | 0, m, m', h1, h2 => by omega
 | k + 1, m, m', h1, h2 => by
  by_cases e : m = k + 1
  · rw [e]
  · rw [← LoopI.eq (k := k) h1 (by omega)]
    funext fr H
    refine propext ⟨fun h => ?_, fun h => .inr h⟩
    rcases h with ⟨e, _⟩ | h
    · omega
    · exact h
theorem LoopI.step : ∀ {k m : Nat} {fr : Fr} {H : Heap}, LoopI n body Q k m fr H → body (lpost n Q m (LoopI n body Q m)) fr H
 | 0, _, _, _, h => h.elim
 | k + 1, m, _, _, h => by
  rcases h with ⟨rfl, h⟩ | h
  · exact h
  · exact LoopI.step h
theorem LoopA.unroll (k : Nat) {fr : Fr} {H : Heap} (h : body (lpost n Q k (LoopI n body Q k)) fr H) : LoopA n body Q fr H := by
 refine ⟨LoopI n body Q (k + 1), k, To.refl (.inl ⟨rfl, h⟩), fun m fr H h => ?_⟩
 have hm := LoopI.lt n body Q h
 have := LoopI.step n body Q h
 have e : lpost n Q m (LoopI n body Q m) = lpost n Q m (LoopI n body Q (k + 1)) := by
  funext x fr' H'
  cases x with
  | normal =>
   refine propext ⟨fun ⟨m', h1, h2⟩ => ⟨m', h1, by rw [LoopI.eq n body Q h1 (by omega)]; exact h2⟩, fun ⟨m', h1, h2⟩ => ⟨m', h1, by rw [← LoopI.eq n body Q h1 (show m ≤ k + 1 by omega)]; exact h2⟩⟩
  | _ => rfl
 rw [e] at this
 exact this
end
theorem Branch.dec {p : Prop} [Decidable p] {A B : Prop} (yes : p → A) (no : ¬ p → B) : Branch (decide p) A B :=
 ⟨fun h => yes (of_decide_eq_true h), fun h => no (of_decide_eq_false h)⟩
theorem Into.pub {n : Nat} {fr : Fr} {H : Heap} (k : Nat) (slots : List Nat) {ds : List AV} (hk : H.get k = .cells ds) (hdata : ∀ c ∈ ds, noLoc c = true) : Into n fr H (pubF k ds fr slots) (pubH k ds H) := by
 intro N M μ w tmps R F hn
 obtain ⟨M', R', hV, G⟩ := R.pub k hk hdata
 refine ⟨M', μ, R', ⟨R'.glob, F.size, fun t => ?_⟩, hn, G n⟩
 have key : ∀ (sl : List Nat), relV M' (look (pubF k ds fr sl) t) μ (tmps.getD t undef) := by
  intro sl
  induction sl with
  | nil => simp [pubF, look, relV]
  | cons q r ih =>
   simp only [pubF, look]
   by_cases hq : q = t
   · subst hq; simpa using hV _ _ (F.slot q)
   · rw [beq_false hq]; exact ih
 exact key slots
theorem Into.trans {n : Nat} {fr fr' fr'' : Fr} {H H' H'' : Heap} (h : Into n fr H fr' H') (k : Into n fr' H' fr'' H'') : Into n fr H fr'' H'' := by
 intro N M μ w tmps R F hn
 obtain ⟨M1, μ1, R1, F1, n1, G1⟩ := h N M μ w tmps R F hn
 obtain ⟨M2, μ2, R2, F2, n2, G2⟩ := k N M1 μ1 w tmps R1 F1 n1
 exact ⟨M2, μ2, R2, F2, n2, G1.trans G2⟩
theorem RetA.pub {n : Nat} {K : AV → Heap → Prop} {v : AV} {H : Heap} (k : Nat) {ds : List AV} (hk : H.get k = .cells ds) (hdata : ∀ c ∈ ds, noLoc c = true) (h : RetA n K (pubV k ds v) (pubH k ds H)) : RetA n K v H := by
 obtain ⟨v', H', h1, h2⟩ := h
 exact ⟨v', H', (Into.pub k [0] hk hdata).trans h1, h2⟩
theorem To.pub {n : Nat} {J : Fr → Heap → Prop} {fr : Fr} {H : Heap} (k : Nat) (slots : List Nat) {ds : List AV} (hk : H.get k = .cells ds) (hdata : ∀ c ∈ ds, noLoc c = true) (h : To n (pubF k ds fr slots) (pubH k ds H) J) : To n fr H J := by
 obtain ⟨v', H', h1, h2⟩ := h
 exact ⟨v', H', (Into.pub k slots hk hdata).trans h1, h2⟩
end Go.Eng

namespace Go.Eng
open Go
variable [Globs]

def subP (keep : List (Nat × Bool)) (μ : Pos) : Pos := fun j => (keep[j]?).bind fun x => μ x.1
theorem distinct_keep {keep : List (Nat × Bool)} (h : distinct keep = true) (i j k : Nat) (d e : Bool) : keep[i]? = some (k, d) → keep[j]? = some (k, e) → i = j := distinct_spec h i j k d e
section
variable {M : Mem} {μ : Pos} {H : Heap} {w : World} {keep : List (Nat × Bool)}
theorem subP_to {j k : Nat} {d : Bool} (h : keep[j]? = some (k, d)) {x : Nat × Nat} (hx : μ k = some x) : subP keep μ j = some x := by simp only [subP, h, Option.bind_some, hx]
theorem subP_from {j k : Nat} {d : Bool} (h : keep[j]? = some (k, d)) {x : Nat × Nat} (hx : subP keep μ j = some x) : μ k = some x := by simpa only [subP, h, Option.bind_some] using hx
theorem sub_pos {k j : Nat} {x : Nat × Nat} (h : posOf keep k = some j) (hx : μ k = some x) : subP keep μ j = some x := by
 obtain ⟨m, d, h1, h2⟩ := posOf_go keep k 0 j h
 exact subP_to (d := d) (by rw [h1, Nat.zero_add]; exact h2) hx
theorem sub_alive {j : Nat} (hj : (gcH keep H).get j ≠ .dead) : ∃ (k : Nat) (d : Bool), keep[j]? = some (k, d) ∧ H.get k ≠ .dead := by
 rw [gcH_get] at hj
 cases hk : keep[j]? with
 | none => rw [hk] at hj; exact absurd rfl hj
 | some x =>
  obtain ⟨k, d⟩ := x
  refine ⟨k, d, rfl, fun h => hj ?_⟩
  simp only [hk, h, renB]; cases d <;> rfl
theorem sub_own {b : Nat} (h : Own (subP keep μ) (gcH keep H) b) : ∃ (j k : Nat) (d : Bool) (s : Nat), keep[j]? = some (k, d) ∧ H.get k ≠ .dead ∧ μ k = some (b, s) := by
 obtain ⟨j, s, hj, hx⟩ := h
 obtain ⟨k, d, h1, h2⟩ := sub_alive hj
 exact ⟨j, k, d, s, h1, h2, subP_from h1 hx⟩
theorem Rel.sub (R : Rel M μ H w) (hdis : distinct keep = true) (hdata : allData H keep) : Rel M (subP keep μ) (gcH keep H) w := by
 have hf : ∀ k j x, posOf keep k = some j → μ k = some x → subP keep μ j = some x := fun k j x => sub_pos
 refine ⟨R.glob, fun j hj => ?_, fun j hj => ?_, fun j cs hj => ?_, fun j es hj => ?_, R.walks (Mem.le_refl _) (fun j k' left cur hj => ?_), R.recs (Mem.le_refl _) (fun j st id fr hj => ?_), fun i j b s t hi hj hx hy => ?_, R.imm, fun j b s hj hx o => ?_⟩
 · simp only [subP, List.getElem?_eq_none (show keep.length ≤ j from hj), Option.bind_none]
 · rw [gcH_get, List.getElem?_eq_none (by simpa [gcH] using hj)]
 · rw [gcH_get] at hj
   cases hk : keep[j]? with
   | none => rw [hk] at hj; cases hj
   | some x =>
    obtain ⟨k, d⟩ := x
    rw [hk] at hj
    cases d with
    | true =>
     simp only [cond_true] at hj
     obtain ⟨b, sz, c, el, fz, h1, h2, h3, h4, h5⟩ := R.cells k cs hj
     refine ⟨b, sz, c, el, fz, subP_to hk h1, h2, h3, h4, relP_data cs ?_ h5⟩
     have := allData_spec hdata k (List.mem_of_getElem? hk)
     rw [hj] at this; exact this
    | false =>
     simp only [cond_false] at hj
     cases hg : H.get k with
     | cells ds =>
      rw [hg] at hj; simp only [renB, AB.cells.injEq] at hj; subst hj
      obtain ⟨b, sz, c, el, fz, h1, h2, h3, h4, h5⟩ := R.cells k ds hg
      exact ⟨b, sz, c, el, fz, subP_to hk h1, h2, h3, h4, relP_ren hf ds h5⟩
     | dead => rw [hg] at hj; simp [renB] at hj
     | map es => rw [hg] at hj; simp [renB] at hj
     | iter k' l c => rw [hg] at hj; simp only [renB] at hj; split at hj <;> cases hj
     | loop st id fr => rw [hg] at hj; cases hj
 · rw [gcH_get] at hj
   cases hk : keep[j]? with
   | none => rw [hk] at hj; cases hj
   | some x =>
    obtain ⟨k, d⟩ := x
    rw [hk] at hj
    cases d with
    | true =>
     simp only [cond_true] at hj
     obtain ⟨b, sz, ents, clock, h1, h2, h3, h4⟩ := R.maps k es hj
     have hd := allData_spec hdata k (List.mem_of_getElem? hk)
     rw [hj] at hd
     exact ⟨b, sz, ents, clock, subP_to hk h1, h2, relE_data hd h3, h4⟩
    | false =>
     have hj : renB (posOf keep) (H.get k) = .map es := hj
     cases hg : H.get k with
     | dead => rw [hg] at hj; cases hj
     | cells cs => rw [hg] at hj; cases hj
     | map es' =>
      rw [hg] at hj; simp only [renB, AB.map.injEq] at hj; subst hj
      obtain ⟨b, sz, ents, clock, h1, h2, h3, h4⟩ := R.maps k es' hg
      exact ⟨b, sz, ents, clock, subP_to hk h1, h2, relE_ren hf h3, h4⟩
     | iter k' l c => rw [hg] at hj; simp only [renB] at hj; split at hj <;> cases hj
     | loop st id fr => rw [hg] at hj; cases hj
 · obtain ⟨j0, k0, d, h1, h2, h3⟩ := gcH_iter hdata hj
   obtain ⟨es, hes⟩ := R.iter_map h2
   refine ⟨j0, k0, h2, ?_, fun x hx => subP_to h1 hx, fun x hx => hf k0 k' x h3 hx, fun _ _ _ _ => rfl, fun _ _ _ _ => rfl⟩
   obtain ⟨m, d', e1, e2⟩ := posOf_go keep k0 0 k' h3
   rw [Nat.zero_add] at e1; subst e1
   rw [gcH_get, e2]; simp only [hes]
   cases d' <;> simp [renB]
 · obtain ⟨j0, fr0, d, h1, h2, h3⟩ := gcH_loop hdata hj
   exact ⟨j0, fr0, h2, fun x hx => subP_to h1 hx, fun t v hv => by rw [h3]; exact look_renF hf fr0 t hv, fun _ _ _ _ => rfl⟩
 · obtain ⟨k, d, h1, h2⟩ := sub_alive hi
   obtain ⟨k', d', h3, h4⟩ := sub_alive hj
   have := R.inj k k' b s t h2 h4 (subP_from h1 hx) (subP_from h3 hy)
   subst this
   exact distinct_spec hdis i j k d d' h1 h3
 · obtain ⟨k, d, h1, h2⟩ := sub_alive hj
   exact R.apart k b s h2 (subP_from h1 hx) o
end
def backK (keep : List (Nat × Bool)) (nx j : Nat) : Nat := match keep[j]? with
 | some (k, _) => k
 | none => nx + (j - keep.length)
def backB (keep : List (Nat × Bool)) (nx : Nat) (H' : Heap) (j : Nat) : AB := match keep[j]? with
 | some (_, true) => H'.get j
 | _ => renB (fun j => some (backK keep nx j)) (H'.get j)
def lendBs (keep : List (Nat × Bool)) (nx : Nat) (H' : Heap) : Nat → List (Nat × AB) → List (Nat × AB)
 | 0, bs => bs
 | j + 1, bs => (backK keep nx j, backB keep nx H' j) :: lendBs keep nx H' j bs
def lendH (keep : List (Nat × Bool)) (H H' : Heap) : Heap := ⟨H.nx + (H'.nx - keep.length), lendBs keep H.nx H' H'.nx H.bs⟩
def backOk (H' : Heap) : List (Nat × Bool) → Nat → Prop
 | [], _ => True
 | (_, true) :: r, j => dataB (H'.get j) ∧ backOk H' r (j + 1)
 | (_, false) :: r, j => backOk H' r (j + 1)
theorem backOk_spec {H' : Heap} : ∀ {keep : List (Nat × Bool)} {i : Nat}, backOk H' keep i → ∀ j k, keep[j]? = some (k, true) → dataB (H'.get (i + j))
 | [], _, _, j, k, h => by simp at h
 | (q, d) :: r, i, hb, 0, k, h => by
  simp at h; obtain ⟨rfl, rfl⟩ := h; exact hb.1
 | (q, true) :: r, i, hb, j + 1, k, h => by
  have := backOk_spec hb.2 j k (by simpa using h)
  rwa [Nat.add_assoc, Nat.add_comm 1 j] at this
 | (q, false) :: r, i, hb, j + 1, k, h => by
  have := backOk_spec (keep := r) hb j k (by simpa using h)
  rwa [Nat.add_assoc, Nat.add_comm 1 j] at this
theorem lendBs_get {keep : List (Nat × Bool)} {nx : Nat} {H' : Heap} (k : Nat) (inj : ∀ i j, backK keep nx i = backK keep nx j → i = j) : ∀ (m : Nat) (bs : List (Nat × AB)),
 (∀ j, j < m → backK keep nx j = k → bget (lendBs keep nx H' m bs) k = backB keep nx H' j) ∧ ((∀ j, j < m → backK keep nx j ≠ k) → bget (lendBs keep nx H' m bs) k = bget bs k)
 | 0, bs => ⟨fun j hj => by omega, fun _ => rfl⟩
 | m + 1, bs => by
  obtain ⟨h1, h2⟩ := lendBs_get (H' := H') k inj m bs
  refine ⟨fun j hj hk => ?_, fun h => ?_⟩
  · simp only [lendBs, bget]
    by_cases hm : backK keep nx m = k
    · have := inj j m (hk.trans hm.symm); subst this
      rw [hm]; simp
    · rw [beq_false hm]
      exact h1 j (by rcases Nat.lt_succ_iff_lt_or_eq.1 hj with h | h; exact h; exact absurd (h ▸ hk) hm) hk
  · simp only [lendBs, bget]
    rw [beq_false (h m (Nat.lt_succ_self _))]
    exact h2 fun j hj => h j (Nat.lt_succ_of_lt hj)
def lentOk (keep : List (Nat × Bool)) (η : Nat → AB) (n : Nat) : Bool := Nat.rec true (fun i ih => match η i with
 | .iter k _ _ => (match posOf keep k with
  | some _ => false
  | none => ih)
 | _ => ih) n
theorem lentOk_succ (keep : List (Nat × Bool)) (η : Nat → AB) (n : Nat) : lentOk keep η (n + 1) = match η n with
 | .iter k _ _ => (match posOf keep k with
  | some _ => false
  | none => lentOk keep η n)
 | _ => lentOk keep η n := rfl
theorem lentOk_spec {keep : List (Nat × Bool)} {η : Nat → AB} : ∀ {n : Nat}, lentOk keep η n = true → ∀ j, j < n → ∀ k l c, η j = .iter k l c → posOf keep k = none
 | 0, _, j, hj, _, _, _ => by omega
 | n + 1, h, j, hj, k, l, c => by
  rw [lentOk_succ] at h
  intro e
  rcases Nat.lt_or_eq_of_le (Nat.le_of_lt_succ hj) with h1 | h1
  · refine lentOk_spec ?_ j h1 k l c e
    split at h
    · split at h
      · cases h
      · exact h
    · exact h
  · subst h1; rw [e] at h
    simp only at h
    split at h
    · cases h
    · assumption
theorem posOf_some {keep : List (Nat × Bool)} {j k : Nat} {d : Bool} (h : keep[j]? = some (k, d)) : posOf keep k ≠ none := by
 have go : ∀ (l : List (Nat × Bool)) (i j : Nat), l[j]? = some (k, d) → posOf.go k l i ≠ none := by
  intro l
  induction l with
  | nil => intro i j h; simp at h
  | cons x r ih =>
   intro i j h
   simp only [posOf.go]
   by_cases e : x.1 = k
   · rw [e]; simp
   · rw [beq_false e]
     cases j with
     | zero => simp at h; exact absurd (by rw [h]) e
     | succ j => exact ih (i + 1) j (by simpa using h)
 exact go keep 0 j h
theorem CallA.lend {P : Program} {f : FuncId} {args : List AV} {H : Heap} {K Kc : AV → Heap → Prop} (keep : List (Nat × Bool)) (h : CallA P f (renL (posOf keep) args) (gcH keep H) Kc) (hdis : distinct keep = true) (hdata : allData H keep)
 (hlt : keep.all (fun x => Nat.blt x.1 H.nx) = true) (hK : ∀ c H', Kc c H' → backOk H' keep 0 ∧ K (ren (fun j => some (backK keep H.nx j)) c) (lendH keep H H')) (hit : lentOk keep H.get H.nx = true := by rfl) : CallA P f args H K := by
 refine ⟨h.ok, fun M μ w vs R hv => (h.run M (subP keep μ) w vs (R.sub hdis hdata) (relL_ren (fun k j x => sub_pos) args hv)).mono ?_⟩
 rintro e w' ⟨v, M', μs, Hs, c, rfl, R', hv', G, hk⟩
 obtain ⟨hback, hk⟩ := hK c Hs hk
 have hL : keep.length ≤ Hs.nx := G.nx
 have klt : ∀ {j k d}, keep[j]? = some (k, d) → k < H.nx := fun {j k d} hj => by
  have := List.all_eq_true.1 hlt _ (List.mem_of_getElem? hj)
  simpa [Nat.blt_eq] using this
 have jlt : ∀ {j k d}, keep[j]? = some (k, d) → j < keep.length := fun {j k d} hj => by
  rcases Nat.lt_or_ge j keep.length with h | h
  · exact h
  · rw [List.getElem?_eq_none h] at hj; cases hj
 let bk := backK keep H.nx
 have bk1 : ∀ {j k d}, keep[j]? = some (k, d) → bk j = k := fun {j k d} hj => by simp only [bk, backK, hj]
 have bk2 : ∀ {j}, keep.length ≤ j → bk j = H.nx + (j - keep.length) := fun {j} hj => by simp only [bk, backK, List.getElem?_eq_none hj]
 have bkc : ∀ j, (∃ k d, keep[j]? = some (k, d) ∧ j < keep.length ∧ bk j = k ∧ k < H.nx) ∨ (keep.length ≤ j ∧ bk j = H.nx + (j - keep.length)) := fun j => by
  cases hj : keep[j]? with
  | none =>
   have : keep.length ≤ j := by simpa using hj
   exact .inr ⟨this, bk2 this⟩
  | some x => obtain ⟨k, d⟩ := x; exact .inl ⟨k, d, rfl, jlt hj, bk1 hj, klt hj⟩
 have inj : ∀ i j, bk i = bk j → i = j := by
  intro i j hij
  rcases bkc i with ⟨k, d, h1, h2, h3, h4⟩ | ⟨h1, h2⟩
  · rcases bkc j with ⟨k', d', h5, h6, h7, h8⟩ | ⟨h5, h6⟩
    · have : k = k' := by rw [← h3, ← h7, hij]
      subst this
      exact distinct_spec hdis i j k d d' h1 h5
    · omega
  · rcases bkc j with ⟨k', d', h5, h6, h7, h8⟩ | ⟨h5, h6⟩
    · omega
    · omega
 let μ2 : Pos := fun k => if k < H.nx then μ k else μs (k - H.nx + keep.length)
 have hμ2 : ∀ j, μ2 (bk j) = μs j := by
  intro j
  rcases bkc j with ⟨k, d, h1, h2, h3, h4⟩ | ⟨h1, h2⟩
  · rw [h3]
    simp only [μ2, if_pos h4]
    rw [G.grow.pin j h2]
    simp only [subP, h1, Option.bind_some]
  · rw [h2]
    simp only [μ2]
    rw [if_neg (by omega)]
    congr 1; omega
 have hf : ∀ k j x, (fun j => some (bk j)) k = some j → μs k = some x → μ2 j = some x := by
  intro k j x hj hx
  simp only [Option.some.injEq] at hj
  subst hj; rw [hμ2]; exact hx
 have get : ∀ k, (∃ j, j < Hs.nx ∧ bk j = k ∧ (lendH keep H Hs).get k = backB keep H.nx Hs j) ∨ ((∀ j, j < Hs.nx → bk j ≠ k) ∧ (lendH keep H Hs).get k = H.get k) := by
  intro k
  obtain ⟨h1, h2⟩ := lendBs_get (keep := keep) (nx := H.nx) (H' := Hs) k inj Hs.nx H.bs
  by_cases hj : ∃ j, j < Hs.nx ∧ bk j = k
  · obtain ⟨j, h3, h4⟩ := hj
    exact .inl ⟨j, h3, h4, h1 j h3 h4⟩
  · have h3 : ∀ j, j < Hs.nx → bk j ≠ k := fun j h3 h4 => hj ⟨j, h3, h4⟩
    exact .inr ⟨h3, h2 h3⟩
 have backdead : ∀ j, backB keep H.nx Hs j ≠ .dead → Hs.get j ≠ .dead := by
  intro j hj hd
  refine hj ?_
  simp only [backB, hd, renB]
  split <;> rfl
 have notsub : ∀ {k b s}, H.get k ≠ .dead → μ k = some (b, s) → (∀ j, j < Hs.nx → bk j ≠ k) → ¬ Own (subP keep μ) (gcH keep H) b := by
  intro k b s hk1 hk2 hno ho
  obtain ⟨j, k', d, s', h1, h2, h3⟩ := sub_own ho
  have := R.inj k k' b s s' hk1 h2 hk2 h3
  subst this
  exact hno j (Nat.lt_of_lt_of_le (jlt h1) hL) (bk1 h1)
 have blt : ∀ {k b s}, H.get k ≠ .dead → μ k = some (b, s) → b < w.heap.size := fun h1 h2 => R.own_lt ⟨_, _, h1, h2⟩
 have old : ∀ {k}, (∀ j, j < Hs.nx → bk j ≠ k) → H.get k ≠ .dead → k < H.nx ∧ μ2 k = μ k := fun {k} _ hk => by
  have : k < H.nx := by
   rcases Nat.lt_or_ge k H.nx with h | h
   · exact h
   · exact absurd (R.top k h) hk
  exact ⟨this, by simp only [μ2, if_pos this]⟩
 have ownBack : ∀ {b}, Own μs Hs b → Own μ H b ∨ w.heap.size ≤ b := fun ho => by
  rcases G.grow.own _ ho with h | h
  · obtain ⟨j, k', d, s', h1, h2, h3⟩ := sub_own h
    exact .inl ⟨k', s', h2, h3⟩
  · exact .inr h
 have relB : ∀ {ds : List AV} {vs : List Value}, relP M' μs ds vs → relP M' μ2 (renL (fun j => some (bk j)) ds) vs := fun h => relP_ren hf _ h
 have R2 : Rel M' μ2 (lendH keep H Hs) w' := by
  refine ⟨R'.glob, fun k hk => ?_, fun k hk => ?_, fun k cs hk => ?_, fun k es hk => ?_, fun k kk left cur hk => ?_, fun k st id fr hk => ?_, fun i j b s t hi hj hx hy => ?_, R'.imm, fun k b s hk hx o => ?_⟩
  · have hk : H.nx + (Hs.nx - keep.length) ≤ k := hk
    simp only [μ2]
    rw [if_neg (by omega)]
    exact R'.dom _ (by omega)
  · have hk : H.nx + (Hs.nx - keep.length) ≤ k := hk
    rcases get k with ⟨j, h1, h2, h3⟩ | ⟨h1, h2⟩
    · rcases bkc j with ⟨k', d, h4, h5, h6, h7⟩ | ⟨h4, h5⟩
      · omega
      · omega
    · rw [h2]; exact R.top k (by omega)
  · rcases get k with ⟨j, h1, h2, h3⟩ | ⟨h1, h2⟩
    · rw [h3] at hk
      subst h2
      have fin : ∀ ds, Hs.get j = .cells ds → (∀ vs, relP M' μs ds vs → relP M' μ2 cs vs) → ∃ b sz c el fz, μ2 (bk j) = some (b, sz) ∧ w'.heap[b]? = some (.cells c el fz) ∧ c.size = sz ∧ (fz = (0, 0) ∨ c.size ≤ fz.1) ∧ relP M' μ2 cs c.toList := by
       intro ds hd hp
       obtain ⟨b, sz, c, el, fz, g1, g2, g3, g4, g5⟩ := R'.cells j ds hd
       exact ⟨b, sz, c, el, fz, by rw [hμ2]; exact g1, g2, g3, (by rw [g3]; exact g4), hp _ g5⟩
      simp only [backB] at hk
      split at hk
      · rename_i kk hkk
        obtain ⟨b, sz, c, el, fz, g1, g2, g3, g4, g5⟩ := R'.cells j cs hk
        refine ⟨b, sz, c, el, fz, by rw [hμ2]; exact g1, g2, g3, g4, ?_⟩
        have := backOk_spec hback j kk hkk
        rw [Nat.zero_add, hk] at this
        exact relP_data cs this g5
      · cases hg : Hs.get j with
        | dead => rw [hg] at hk; simp [renB] at hk
        | map es => rw [hg] at hk; simp [renB] at hk
        | iter k' l c => rw [hg] at hk; simp [renB] at hk
        | loop st id fr => rw [hg] at hk; simp [renB] at hk
        | cells ds =>
         rw [hg] at hk; simp only [renB, AB.cells.injEq] at hk; subst hk
         obtain ⟨b, sz, c, el, fz, g1, g2, g3, g4, g5⟩ := R'.cells j ds hg
         exact ⟨b, sz, c, el, fz, by rw [hμ2]; exact g1, g2, g3, g4, relB g5⟩
    · rw [h2] at hk
      have hne : H.get k ≠ .dead := by rw [hk]; simp
      obtain ⟨b, sz, c, el, fz, g1, g2, g3, g4, g5⟩ := R.cells k cs hk
      have hb := blt hne g1
      refine ⟨b, sz, c, el, fz, by rw [(old h1 hne).2]; exact g1, by rw [G.grow.keep.block b hb (notsub hne g1 h1)]; exact g2, g3, g4, ?_⟩
      refine relP_mono G.grow.mem ?_ cs g5
      intro q x hx
      have : q < H.nx := R.pos_lt hx
      simp only [μ2, if_pos this]; exact hx
  · rcases get k with ⟨j, h1, h2, h3⟩ | ⟨h1, h2⟩
    · rw [h3] at hk
      subst h2
      simp only [backB] at hk
      split at hk
      · rename_i kk hkk
        obtain ⟨b, sz, ents, clock, g1, g2, g3, g4⟩ := R'.maps j es hk
        have hd := backOk_spec hback j kk hkk
        rw [Nat.zero_add, hk] at hd
        exact ⟨b, sz, ents, clock, by rw [hμ2]; exact g1, g2, relE_data hd g3, g4⟩
      · cases hg : Hs.get j with
        | dead => rw [hg] at hk; cases hk
        | cells cs => rw [hg] at hk; cases hk
        | map es' =>
         rw [hg] at hk; simp only [renB, AB.map.injEq] at hk; subst hk
         obtain ⟨b, sz, ents, clock, g1, g2, g3, g4⟩ := R'.maps j es' hg
         exact ⟨b, sz, ents, clock, by rw [hμ2]; exact g1, g2, relE_ren hf g3, g4⟩
        | iter k' l c => rw [hg] at hk; simp [renB] at hk
        | loop st id fr => rw [hg] at hk; simp [renB] at hk
    · rw [h2] at hk
      have hne : H.get k ≠ .dead := by rw [hk]; simp
      obtain ⟨b, sz, ents, clock, g1, g2, g3, g4⟩ := R.maps k es hk
      have hb := blt hne g1
      refine ⟨b, sz, ents, clock, by rw [(old h1 hne).2]; exact g1, by rw [G.grow.keep.block b hb (notsub hne g1 h1)]; exact g2, ?_, g4⟩
      refine relE_mono G.grow.mem ?_ g3
      intro q x hx
      have : q < H.nx := R.pos_lt hx
      simp only [μ2, if_pos this]; exact hx
  · rcases get k with ⟨j, h1, h2, h3⟩ | ⟨h1, h2⟩
    · rw [h3] at hk
      subst h2
      have hg : ∃ k0, Hs.get j = .iter k0 left cur ∧ kk = bk k0 := by
       simp only [backB] at hk
       split at hk
       · rename_i q hq
         have := backOk_spec hback j q hq
         rw [Nat.zero_add, hk] at this; exact this.elim
       · cases hg : Hs.get j with
         | dead => rw [hg] at hk; cases hk
         | cells cs => rw [hg] at hk; cases hk
         | map es => rw [hg] at hk; cases hk
         | iter k0 l c => rw [hg] at hk; simp only [renB] at hk; cases hk; exact ⟨k0, rfl, rfl⟩
         | loop st id fr => rw [hg] at hk; cases hk
      obtain ⟨k0, hg, rfl⟩ := hg
      obtain ⟨es, hes⟩ := R'.iter_map hg
      obtain ⟨_, b, s, g1, bm, s2, ents, clock, since, seen, last, g2, g3⟩ := R'.iters j k0 left cur hg
      refine ⟨?_, b, s, by rw [hμ2]; exact g1, bm, s2, ents, clock, since, seen, last, by rw [hμ2]; exact g2, g3⟩
      have hk0 : k0 < Hs.nx := by
       rcases Nat.lt_or_ge k0 Hs.nx with h | h
       · exact h
       · rw [R'.top k0 h] at hes; cases hes
      rcases get (bk k0) with ⟨j', e1, e2, e3⟩ | ⟨e1, _⟩
      · have := inj _ _ e2; subst this
        rw [e3]; simp only [backB, hes, renB]; split <;> simp
      · exact absurd rfl (e1 k0 hk0)
    · rw [h2] at hk
      have hne : H.get k ≠ .dead := by rw [hk]; simp
      obtain ⟨es, hes⟩ := R.iter_map hk
      have hne2 : H.get kk ≠ .dead := by rw [hes]; simp
      have hkk : ∀ j, j < Hs.nx → bk j ≠ kk := by
       intro j hj e
       have hlt' := (old h1 hne).1
       have hno := lentOk_spec hit k hlt' kk left cur hk
       rcases bkc j with ⟨k', d, e1, e2, e3, e4⟩ | ⟨e1, e2⟩
       · have : k' = kk := by rw [← e3, e]
         subst this; exact posOf_some e1 hno
       · have : kk < H.nx := by
          rcases Nat.lt_or_ge kk H.nx with h | h
          · exact h
          · exact absurd (R.top kk h) hne2
         omega
      obtain ⟨_, b, s, g1, bm, s2, ents, clock, since, seen, last, g2, g3, g4, g5, g6, g7, g8, g9⟩ := R.iters k kk left cur hk
      refine ⟨?_, b, s, by rw [(old h1 hne).2]; exact g1, bm, s2, ents, clock, since, seen, last, by rw [(old hkk hne2).2]; exact g2, ?_, ?_, g5, g6, g7, relE_mono G.grow.mem (Pos.le_refl _) g8, fun c hc => ?_⟩
      · rcases get kk with ⟨j, e1, e2, e3⟩ | ⟨e1, e2⟩
        · exact absurd e2 (hkk j e1)
        · rw [e2]; exact hne2
      · rw [G.grow.keep.block b (blt hne g1) (notsub hne g1 h1)]; exact g3
      · rw [G.grow.keep.block bm (blt hne2 g2) (notsub hne2 g2 hkk)]; exact g4
      · obtain ⟨e, seen0, e1, e2, e3, e4, e5⟩ := g9 c hc
        exact ⟨e, seen0, e1, e2, e3, relV_mono G.grow.mem _ (Pos.le_refl _) e4, relV_mono G.grow.mem _ (Pos.le_refl _) e5⟩
  · rcases get k with ⟨j, h1, h2, h3⟩ | ⟨h1, h2⟩
    · rw [h3] at hk
      subst h2
      have hg : ∃ fr0, Hs.get j = .loop st id fr0 ∧ fr = renF (fun j => some (bk j)) fr0 := by
       simp only [backB] at hk
       split at hk
       · rename_i q hq
         have := backOk_spec hback j q hq
         rw [Nat.zero_add, hk] at this; exact this.elim
       · cases hg : Hs.get j with
         | dead => rw [hg] at hk; cases hk
         | cells cs => rw [hg] at hk; cases hk
         | map es => rw [hg] at hk; cases hk
         | iter k0 l c => rw [hg] at hk; simp [renB] at hk
         | loop st0 id0 fr0 => rw [hg] at hk; simp only [renB, AB.loop.injEq] at hk; obtain ⟨rfl, rfl, rfl⟩ := hk; exact ⟨fr0, rfl, rfl⟩
      obtain ⟨fr0, hg, rfl⟩ := hg
      obtain ⟨b, s, g1, r, g2, g3, g4, g5⟩ := R'.loops j st id fr0 hg
      exact ⟨b, s, by rw [hμ2]; exact g1, r, g2, g3, g4, fun t => look_renF hf fr0 t (g5 t)⟩
    · rw [h2] at hk
      have hne : H.get k ≠ .dead := by rw [hk]; simp
      obtain ⟨b, s, g1, r, g2, g3, g4, g5⟩ := R.loops k st id fr hk
      refine ⟨b, s, by rw [(old h1 hne).2]; exact g1, r, by rw [G.grow.keep.block b (blt hne g1) (notsub hne g1 h1)]; exact g2, g3, g4, fun t => ?_⟩
      refine relV_mono G.grow.mem _ ?_ (g5 t)
      intro q x hx
      have : q < H.nx := R.pos_lt hx
      simp only [μ2, if_pos this]; exact hx
  · have mix : ∀ {i j k : Nat} {s t : Nat}, j < Hs.nx → Hs.get j ≠ .dead → μs j = some (b, s) → H.get k ≠ .dead → μ k = some (b, t) → (∀ j, j < Hs.nx → bk j ≠ k) → False := by
     intro i j k s t h1 h2 h3 h4 h5 h6
     rcases G.grow.own b ⟨j, s, h2, h3⟩ with h | h
     · exact notsub h4 h5 h6 h
     · have := blt h4 h5; omega
    rcases get i with ⟨i', h1, h2, h3⟩ | ⟨h1, h2⟩
    · rw [h3] at hi; have hi := backdead _ hi
      subst h2; rw [hμ2] at hx
      rcases get j with ⟨j', h4, h5, h6⟩ | ⟨h4, h5⟩
      · rw [h6] at hj; have hj := backdead _ hj
        subst h5; rw [hμ2] at hy
        rw [R'.inj i' j' b s t hi hj hx hy]
      · rw [h5] at hj
        rw [(old h4 hj).2] at hy
        exact (mix (i := 0) h1 hi hx hj hy h4).elim
    · rw [h2] at hi
      rw [(old h1 hi).2] at hx
      rcases get j with ⟨j', h4, h5, h6⟩ | ⟨h4, h5⟩
      · rw [h6] at hj; have hj := backdead _ hj
        subst h5; rw [hμ2] at hy
        exact (mix (i := 0) h4 hj hy hi hx h1).elim
      · rw [h5] at hj
        rw [(old h4 hj).2] at hy
        exact R.inj i j b s t hi hj hx hy
  · rcases get k with ⟨j, h1, h2, h3⟩ | ⟨h1, h2⟩
    · rw [h3] at hk
      subst h2; rw [hμ2] at hx
      exact R'.apart j b s (backdead _ hk) hx o
    · rw [h2] at hk
      rw [(old h1 hk).2] at hx
      cases hm : M' b o with
      | none => rfl
      | some u =>
       rcases G.grow.fresh b o u hm with h | h | h
       · rw [R.apart k b s hk hx o] at h; cases h
       · exact absurd h (notsub hk hx h1)
       · have := blt hk hx; omega
 have ownSub : ∀ {b}, Own (subP keep μ) (gcH keep H) b → Own μ H b := fun ho => by
  obtain ⟨j, k', d, s', h1, h2, h3⟩ := sub_own ho
  exact ⟨k', s', h2, h3⟩
 refine ⟨v, M', μ2, lendH keep H Hs, _, rfl, R2, relV_ren hf c hv', ⟨fun k x hx => ?_, ⟨G.grow.mem, fun k hk => ?_, ⟨G.grow.keep.os, G.grow.keep.tape, G.grow.keep.output, G.grow.keep.size, fun b hb hno => G.grow.keep.block b hb (fun h => hno (ownSub h))⟩, fun b hb => ?_, fun b o u hm => ?_⟩, Nat.le_add_right _ _⟩, hk⟩
 · have : k < H.nx := R.pos_lt hx
   simp only [μ2, if_pos this]; exact hx
 · simp only [μ2, if_pos hk]
 · obtain ⟨k, s, hk1, hk2⟩ := hb
   rcases get k with ⟨j, h1, h2, h3⟩ | ⟨h1, h2⟩
   · rw [h3] at hk1
     subst h2; rw [hμ2] at hk2
     exact ownBack ⟨j, s, backdead _ hk1, hk2⟩
   · rw [h2] at hk1
     rw [(old h1 hk1).2] at hk2
     exact .inl ⟨k, s, hk1, hk2⟩
 · rcases G.grow.fresh b o u hm with h | h | h
   · exact .inl h
   · exact .inr (.inl (ownSub h))
   · exact .inr (.inr h)
end Go.Eng

namespace Go.Eng
open Go
variable [Globs]
theorem Branch.neg {b : Bool} {A B : Prop} (yes : b = false → A) (no : b = true → B) : Branch (!b) A B :=
 ⟨fun h => yes (by simpa using h), fun h => no (by simpa using h)⟩
theorem Branch.negdec {p : Prop} [Decidable p] {A B : Prop} (yes : ¬ p → A) (no : p → B) : Branch (!decide p) A B :=
 ⟨fun h => yes (by simpa using h), fun h => no (by simpa using h)⟩
theorem Into.slots {n : Nat} {fr : Fr} {H : Heap} (slots : List Nat) : Into n fr H (selF fr slots) H := by
 intro N M μ w tmps R F hn
 refine ⟨M, μ, R, ⟨F.glob, F.size, fun t => ?_⟩, hn, Grow.refl _ _ _ _ _⟩
 have key : ∀ (sl : List Nat), relV M (look (selF fr sl) t) μ (tmps.getD t undef) := by
  intro sl
  induction sl with
  | nil => simp [selF, look, relV]
  | cons q r ih =>
   simp only [selF, look]
   by_cases hq : q = t
   · subst hq; simpa using F.slot q
   · rw [beq_false hq]; exact ih
 exact key slots
theorem To.slots {n : Nat} {fr : Fr} {H : Heap} {J : Fr → Heap → Prop} (slots : List Nat) (h : J (selF fr slots) H) : To n fr H J := ⟨_, _, Into.slots slots, h⟩
theorem RetA.same {n : Nat} {K : AV → Heap → Prop} {v : AV} {H : Heap} (h : K v H) : RetA n K v H :=
 ⟨v, H, fun _ M μ _ _ R F hn => ⟨M, μ, R, F, hn, Grow.refl _ _ _ _ _⟩, h⟩
theorem CallA.args {P : Program} {f : FuncId} {args args' : List AV} {H : Heap} {K : AV → Heap → Prop} (h : CallA P f args' H K) (ha : ∀ M μ vs, relL M args μ vs → relL M args' μ vs) : CallA P f args H K :=
 ⟨h.ok, fun M μ w vs R hv => h.run M μ w vs R (ha M μ _ hv)⟩

theorem CallA.ext {P : Program} {f : FuncId} {args : List AV} {H : Heap} {K K' : AV → Heap → Prop} (h : CallA P f args H K) (hk : ∀ v H', K v H' → ∃ H'', H'.get = H''.get ∧ H'.nx = H''.nx ∧ K' v H'') : CallA P f args H K' := by
 refine ⟨h.ok, fun M μ w vs R hv => (h.run M μ w vs R hv).mono ?_⟩
 rintro e w' ⟨v, M', μ', H', c, rfl, R', hv', G, hK⟩
 obtain ⟨H'', h1, h2, h3⟩ := hk c H' hK
 exact ⟨v, M', μ', H'', c, rfl, R'.ext h1 h2, hv', ⟨G.le, G.grow.ext h1, h2 ▸ G.nx⟩, h3⟩
theorem lend_same {keep : List (Nat × Bool)} {H : Heap} (hdis : distinct keep = true) (hall : keep.all (·.2) = true) (hlt : keep.all (fun x => Nat.blt x.1 H.nx) = true) : (lendH keep H (gcH keep H)).get = H.get ∧ (lendH keep H (gcH keep H)).nx = H.nx := by
 have hk : ∀ j k d, keep[j]? = some (k, d) → d = true ∧ k < H.nx := fun j k d hj => by
  have hm := List.mem_of_getElem? hj
  have h1 := List.all_eq_true.1 hall _ hm
  have h2 := List.all_eq_true.1 hlt _ hm
  exact ⟨h1, by simpa [Nat.blt_eq] using h2⟩
 have inj : ∀ i j, backK keep H.nx i = backK keep H.nx j → i = j := fun i j hij => by
  unfold backK at hij
  split at hij
  · rename_i k d hi
    split at hij
    · rename_i k' d' hj
      subst hij
      exact distinct_keep hdis i j k d d' hi hj
    · have := (hk i k d hi).2; omega
  · rename_i hi
    split at hij
    · rename_i k' d' hj
      have := (hk j k' d' hj).2; omega
    · rename_i hj
      have h1 : keep.length ≤ i := List.getElem?_eq_none_iff.1 hi
      have h2 : keep.length ≤ j := List.getElem?_eq_none_iff.1 hj
      omega
 refine ⟨funext fun k => ?_, by simp [lendH, gcH]⟩
 have hb := lendBs_get (keep := keep) (nx := H.nx) (H' := gcH keep H) k inj (gcH keep H).nx H.bs
 by_cases hex : ∃ j, j < (gcH keep H).nx ∧ backK keep H.nx j = k
 · obtain ⟨j, hj, hjk⟩ := hex
   have := hb.1 j hj hjk
   simp only [Heap.get, lendH]
   rw [this]
   have hlen : j < keep.length := by simpa [gcH] using hj
   obtain ⟨⟨k', d⟩, hkj⟩ : ∃ x, keep[j] = x := ⟨_, rfl⟩
   have hkj' : keep[j]? = some (k', d) := by rw [List.getElem?_eq_getElem hlen, hkj]
   have hd := (hk j k' d hkj').1
   subst hd
   simp only [backK, hkj'] at hjk
   subst hjk
   simp only [backB, hkj', gcH_get, cond_true]
   rfl
 · have := hb.2 fun j hj hjk => hex ⟨j, hj, hjk⟩
   simp only [Heap.get, lendH]
   exact this
theorem CallA.lent {P : Program} {f : FuncId} {args : List AV} {H : Heap} {K : AV → Heap → Prop} {Q : AV → Prop} (keep : List (Nat × Bool)) (h : CallA P f (renL (posOf keep) args) (gcH keep H) fun v H' => Q v ∧ H' = gcH keep H) (hdis : distinct keep = true) (hall : keep.all (·.2) = true) (hdata : allData H keep)
 (hlt : keep.all (fun x => Nat.blt x.1 H.nx) = true) (hback : backOk (gcH keep H) keep 0) (hq : ∀ v, Q v → noLoc v = true) (hK : ∀ v, Q v → K v H) (hit : lentOk keep H.get H.nx = true := by rfl) : CallA P f args H K := by
 refine CallA.ext (K := fun v H' => Q v ∧ H' = lendH keep H (gcH keep H)) (CallA.lend keep h hdis hdata hlt ?_ hit) ?_
 · rintro c H' ⟨hc, rfl⟩
   exact ⟨hback, by rw [ren_data _ _ (hq c hc)]; exact hc, rfl⟩
 · rintro v H' ⟨hv, rfl⟩
   exact ⟨H, (lend_same hdis hall hlt).1, (lend_same hdis hall hlt).2, hK v hv⟩
end Go.Eng

namespace Go.Eng
open Go
variable [Globs]

def pubAll (f : AV → Option AV) : List AV → Option (List AV)
 | [] => some []
 | c :: r => match f c with
  | some c' => match pubAll f r with
   | some r' => some (c' :: r')
   | none => none
  | none => none
def pubE (η : Nat → AB) : Nat → AV → Option AV
 | 0, v => bif noLoc v then some v else none
 | n + 1, .slice k off len cap e => match η k with
  | .cells cs => match pubAll (pubE η n) ((cs.drop off).take (len * e)) with
   | some l => some (.dslice l len cap)
   | none => none
  | _ => none
 | n + 1, .ptr k off => match η k with
  | .cells cs => match pubAll (pubE η n) (cs.drop off) with
   | some l => some (.dptr l)
   | none => none
  | _ => none
 | n + 1, .agg cs => match pubAll (pubE η n) cs with
  | some l => some (.agg l)
  | none => none
 | n + 1, .tuple cs => match pubAll (pubE η n) cs with
  | some l => some (.tuple l)
  | none => none
 | n + 1, .func g cs => match pubAll (pubE η n) cs with
  | some l => some (.func g l)
  | none => none
 | n + 1, .meth g cs => match pubAll (pubE η n) cs with
  | some l => some (.meth g l)
  | none => none
 | n + 1, .ifc t c => match pubE η n c with
  | some l => some (.ifc t l)
  | none => none
 | _ + 1, .map _ => none
 | _ + 1, .yld _ => none
 | _ + 1, v => some v
section
variable {M M' : Mem} {μ : Pos} {H : Heap} {w : World}
theorem pubAll_rel {f : AV → Option AV} {ρ : Pos} (hf : ∀ c c' v, f c = some c' → relV M c μ v → relV M' c' ρ v) : ∀ {cs l : List AV} {vs : List Value}, pubAll f cs = some l → relL M cs μ vs → relL M' l ρ vs
 | [], l, vs, h, hr => by simp only [pubAll] at h; cases h; simpa only [relL] using hr
 | c :: r, l, vs, h, hr => by
  simp only [pubAll] at h
  split at h
  · rename_i c' hc
    split at h
    · rename_i r' hr'; cases h
      simp only [relL] at hr ⊢
      obtain ⟨v, t, rfl, h1, h2⟩ := hr
      exact ⟨v, t, rfl, hf _ _ _ hc h1, pubAll_rel hf hr' h2⟩
    · cases h
  · cases h
theorem pubAll_get {f : AV → Option AV} : ∀ {cs l : List AV}, pubAll f cs = some l → ∀ (i : Nat) (c' : AV), l[i]? = some c' → ∃ c, cs[i]? = some c ∧ f c = some c'
 | [], l, h, i, c', hi => by simp only [pubAll] at h; cases h; simp at hi
 | c :: r, l, h, i, c', hi => by
  simp only [pubAll] at h
  split at h
  · rename_i c1 hc
    split at h
    · rename_i r' hr'; cases h
      cases i with
      | zero => simp at hi; subst hi; exact ⟨c, rfl, hc⟩
      | succ i => simp at hi; obtain ⟨d, h1, h2⟩ := pubAll_get hr' i c' hi; exact ⟨d, by simpa using h1, h2⟩
    · cases h
  · cases h
theorem cells_out (R : Rel M μ H w) (hM' : ∀ b o, Own μ H b → M' b o = w.cell? ⟨b, o, none⟩) {k b sz : Nat} {cs : List AV} (hk : H.get k = .cells cs) (hμ : μ k = some (b, sz)) {f : AV → Option AV}
 (hf : ∀ c c' v, f c = some c' → relV M c μ v → relV M' c' Pos.none v) {off : Nat} {ds l : List AV} (hd : ∀ i c, ds[i]? = some c → cs[off + i]? = some c) (hp : pubAll f ds = some l) : relM M' l b off := by
 obtain ⟨b', sz', c, el, fz, h1, h2, _, _, hP⟩ := R.cells k cs hk
 rw [hμ] at h1; cases h1
 refine relM_of_get fun i c' hi => ?_
 obtain ⟨d, h3, h4⟩ := pubAll_get hp i c' hi
 obtain ⟨u, hu, hr⟩ := relP_get hP (hd i d h3)
 refine ⟨u, ?_, hf _ _ _ h4 hr⟩
 rw [hM' b _ ⟨k, sz, by rw [hk]; simp, hμ⟩]
 simp only [World.cell?, h2]
 simpa using hu
theorem pubE_rel (R : Rel M μ H w) (hle : Mem.le M M') (hM' : ∀ b o, Own μ H b → M' b o = w.cell? ⟨b, o, none⟩) : ∀ (n : Nat) (c c' : AV) (v : Value), pubE H.get n c = some c' → relV M c μ v → relV M' c' Pos.none v
 | 0, c, c', v, h, hr => by
  simp only [pubE] at h
  cases hn : noLoc c <;> simp only [hn, cond_true, cond_false] at h
  · cases h
  · cases h; exact relV_data c hn (relV_mono hle c (Pos.le_refl _) hr)
 | n + 1, c, c', v, h, hr => by
  have ih := pubE_rel R hle hM' n
  cases c <;> simp only [pubE] at h
  case slice k off len cap e =>
   split at h
   · rename_i cs hk
     split at h
     · rename_i l hl; cases h
       simp only [relV] at hr ⊢
       obtain ⟨b, sz, q, h1, rfl, h3, h4, h5⟩ := hr
       exact .inl ⟨b, off, q, rfl, h3, h5, cells_out R hM' hk h1 ih (fun i c hi => by
        rw [List.getElem?_take] at hi
        split at hi
        · rwa [List.getElem?_drop] at hi
        · cases hi) hl⟩
     · cases h
   · cases h
  case ptr k off =>
   split at h
   · rename_i cs hk
     split at h
     · rename_i l hl; cases h
       simp only [relV] at hr ⊢
       obtain ⟨b, sz, h1, rfl⟩ := hr
       exact ⟨b, off, rfl, cells_out R hM' hk h1 ih (fun i c hi => by rwa [List.getElem?_drop] at hi) hl⟩
     · cases h
   · cases h
  case agg cs =>
   split at h
   · rename_i l hl; cases h
     simp only [relV] at hr ⊢
     obtain ⟨vs, rfl, hr⟩ := hr
     exact ⟨vs, rfl, pubAll_rel ih hl hr⟩
   · cases h
  case tuple cs =>
   split at h
   · rename_i l hl; cases h
     simp only [relV] at hr ⊢
     obtain ⟨vs, rfl, hr⟩ := hr
     exact ⟨vs, rfl, pubAll_rel ih hl hr⟩
   · cases h
  case func g cs =>
   split at h
   · rename_i l hl; cases h
     simp only [relV] at hr ⊢
     obtain ⟨vs, rfl, hr⟩ := hr
     exact ⟨vs, rfl, pubAll_rel ih hl hr⟩
   · cases h
  case meth g cs =>
   split at h
   · rename_i l hl; cases h
     simp only [relV] at hr ⊢
     obtain ⟨vs, rfl, hr⟩ := hr
     exact ⟨vs, rfl, pubAll_rel ih hl hr⟩
   · cases h
  case ifc t c =>
   split at h
   · rename_i l hl; cases h
     simp only [relV] at hr ⊢
     obtain ⟨x, rfl, hr⟩ := hr
     exact ⟨x, rfl, ih _ _ _ hl hr⟩
   · cases h
  case map k => cases h
  case yld k => cases h
  all_goals (cases h; exact relV_data _ rfl (relV_mono hle _ (Pos.le_refl _) hr))
end
theorem Into.out {fr : Fr} {H : Heap} {v r : AV} (m : Nat) (h : pubE H.get m v = some r) : Into 0 ((0, v) :: fr) H [(0, r)] Heap.nil := by
 intro N M μ w tmps R F _
 let M' : Mem := fun b o => open Classical in if Own μ H b then w.cell? ⟨b, o, none⟩ else M b o
 have hO : ∀ b o, Own μ H b → M' b o = w.cell? ⟨b, o, none⟩ := fun b o hb => by simp [M', hb]
 have hN : ∀ b o, ¬ Own μ H b → M' b o = M b o := fun b o hb => by simp [M', hb]
 have hle : Mem.le M M' := fun b o u hu => by
  by_cases hb : Own μ H b
  · rw [hO b o hb]; exact R.imm b o u hu
  · rw [hN b o hb]; exact hu
 refine ⟨M', Pos.none, ⟨R.glob.mono (by first | assumption | exact Mem.le_refl _), fun _ _ => rfl, fun _ _ => rfl, fun k cs h => by simp [Heap.get, Heap.nil, bget] at h, fun k cs h => by simp [Heap.get, Heap.nil, bget] at h, fun j k l c h => by simp [Heap.get, Heap.nil, bget] at h, fun j st id fr h => by simp [Heap.get, Heap.nil, bget] at h, fun i j b s t h => by simp [Heap.get, Heap.nil, bget] at h, fun b o u hu => ?_, fun k b s h => by simp [Heap.get, Heap.nil, bget] at h⟩, ⟨R.glob.mono hle, F.size, fun t => ?_⟩, Nat.zero_le _, ⟨hle, fun k hk => by omega, ⟨rfl, rfl, rfl, Nat.le_refl _, fun _ _ _ => rfl⟩, fun b hb => absurd hb own_nil, fun b o u hu => ?_⟩⟩
 · by_cases hb : Own μ H b
   · rw [hO b o hb] at hu; exact hu
   · rw [hN b o hb] at hu; exact R.imm b o u hu
 · simp only [look]
   by_cases e : 0 = t
   · subst e
     have := F.slot 0
     simp only [look, Nat.beq_refl, cond_true] at this ⊢
     exact pubE_rel R hle hO m _ _ _ h this
   · rw [beq_false e]; simp [relV]
 · by_cases hb : Own μ H b
   · exact .inr (.inl hb)
   · rw [hN b o hb] at hu; exact .inl hu
theorem RetA.out {K : AV → Heap → Prop} {v r : AV} {H : Heap} (m : Nat) (h : pubE H.get m v = some r) (hk : K r Heap.nil) : RetA 0 K v H :=
 ⟨r, Heap.nil, Into.out m h, hk⟩
theorem CallA.out {P : Program} {f : FuncId} {vs : List AV} {K0 K : AV → Heap → Prop} (m : Nat) (h : CallA P f vs Heap.nil K0) (hk : ∀ v H', K0 v H' → ∃ r, pubE H'.get m v = some r ∧ K r Heap.nil) : CallA P f vs Heap.nil K := by
 refine ⟨h.ok, fun M μ w vs0 R hv => (h.run M μ w vs0 R hv).mono ?_⟩
 rintro e w' ⟨v, M', μ', H', c, rfl, R', hv', G, hK⟩
 have hμ : μ = Pos.none := funext fun k => R.dom k (Nat.zero_le _)
 subst hμ
 obtain ⟨r, hr, hk⟩ := hk c H' hK
 obtain ⟨M2, μ2, R2, F2, _, G2⟩ := Into.out (fr := []) m hr 1 M' μ' w' #[v] R' ⟨R'.glob, rfl, fun t => by
  simp only [look]
  by_cases e : 0 = t
  · subst e; simpa using hv'
  · rw [beq_false e]; simp [relV]⟩ (Nat.zero_le _)
 have := F2.slot 0
 refine ⟨v, M2, μ2, Heap.nil, r, rfl, R2, by simpa [look] using this, ⟨(fun k x h => nomatch h), G.grow.trans G2, Nat.le_refl _⟩, hk⟩
end Go.Eng

namespace Go.Eng
open Go Go.ChangeShapes Go.WideShapes Go.RowKit
variable [Globs]

inductive Sh where
 | b
 | i (k : IntKind)
 | str
 | sl (e : Sh)
 | ar (n : Nat) (e : Sh)
 | ag (l : List Sh)
mutual
def Ty : Sh → Type
 | .b => Bool
 | .i _ => Int
 | .str => ByteArray
 | .sl e => List (Ty e)
 | .ar _ e => List (Ty e)
 | .ag l => Tys l
def Tys : List Sh → Type
 | [] => Unit
 | s :: r => Ty s × Tys r
end
mutual
def cellsT : (s : Sh) → Ty s → List AV
 | .b, x => [.bool x]
 | .i k, x => [.int k x]
 | .str, x => [.str x]
 | .sl e, l => [.dslice (List.flatMap (cellsT e) l) (List.length l) none]
 | .ar _ e, l => List.flatMap (cellsT e) l
 | .ag l, x => cellsTs l x
def cellsTs : (l : List Sh) → Tys l → List AV
 | [], _ => []
 | s :: r, x => cellsT s x.1 ++ cellsTs r x.2
end
mutual
def wfT : (s : Sh) → Ty s → Prop
 | .b, _ => True
 | .i k, x => let n : Int := x; k.min ≤ n ∧ n ≤ k.max
 | .str, x => ByteArray.size x ≤ maxLen
 | .sl e, l => (∀ x, List.Mem x l → wfT e x) ∧ List.length l ≤ maxLen
 | .ar n e, l => (∀ x, List.Mem x l → wfT e x) ∧ List.length l = n
 | .ag l, x => wfTs l x
def wfTs : (l : List Sh) → Tys l → Prop
 | [], _ => True
 | s :: r, x => wfT s x.1 ∧ wfTs r x.2
end
mutual
def widthT : Sh → Nat
 | .b | .i _ | .str | .sl _ => 1
 | .ar n e => n * widthT e
 | .ag l => widthTs l
def widthTs : List Sh → Nat
 | [] => 0
 | s :: r => widthT s + widthTs r
end
mutual
def noSl : Sh → Bool
 | .sl _ => false
 | .ar _ e => noSl e
 | .ag l => noSls l
 | _ => true
def noSls : List Sh → Bool
 | [] => true
 | s :: r => noSl s && noSls r
end
def shFs (P : Program) (g : TypeId → Option Sh) : List Field → Nat → Option (List Sh)
 | [], _ => some []
 | f :: r, off => bif Nat.beq f.offset off then (match g f.type with
  | some s => bif Nat.beq (P.cellsOf f.type) (widthT s) then (match shFs P g r (off + widthT s) with
   | some l => some (s :: l)
   | none => none) else none
  | none => none) else none
def shOf (P : Program) : Nat → TypeId → Option Sh
 | 0, _ => none
 | n + 1, t => match P.underlying t with
  | some .bool => some .b
  | some (.int k) => some (.i k)
  | some .string => some .str
  | some (.slice e) => match shOf P n e with
   | some s => bif Nat.beq (P.cellsOf e) (widthT s) && Nat.blt 0 (widthT s) then some (.sl s) else none
   | none => none
  | some (.array m e) => match shOf P n e with
   | some s => bif Nat.beq (P.cellsOf e) (widthT s) && Nat.beq (P.cellsOf t) (m * widthT s) then some (.ar m s) else none
   | none => none
  | some (.struct fs) => match shFs P (shOf P n) fs.toList 0 with
   | some l => bif Nat.beq (P.cellsOf t) (widthTs l) then some (.ag l) else none
   | none => none
  | _ => none
def Mw (w : World) : Mem := fun b o => w.cell? ⟨b, o, none⟩
section
variable {H : Type} {enc : TypeId × Value → H} {P : Program} {w : World} {sp : Nat → Bool} {held : Bool}
theorem flat_wf_len {e : Sh} (he : ∀ x : Ty e, wfT e x → (cellsT e x).length = widthT e) : ∀ l : List (Ty e), (∀ x, List.Mem x l → wfT e x) → (List.flatMap (cellsT e) l).length = l.length * widthT e
 | [], _ => by simp
 | x :: r, h => by
  rw [List.flatMap_cons, List.length_append, he x (h x (.head _)), flat_wf_len he r (fun y hy => h y (.tail _ hy)), List.length_cons, Nat.add_mul]; omega
mutual
theorem cellsT_len : ∀ (s : Sh) (x : Ty s), wfT s x → (cellsT s x).length = widthT s
 | .b, _, _ => by simp only [cellsT, widthT]; rfl
 | .i k, _, _ => by simp only [cellsT, widthT]; rfl
 | .str, _, _ => by simp only [cellsT, widthT]; rfl
 | .sl e, _, _ => by simp only [cellsT, widthT]; rfl
 | .ar n e, l, h => by
  simp only [wfT] at h
  simp only [cellsT, widthT]
  rw [flat_wf_len (cellsT_len e) l h.1, h.2]
 | .ag l, x, h => by
  simp only [wfT] at h
  simp only [cellsT, widthT]; exact cellsTs_len l x h
theorem cellsTs_len : ∀ (l : List Sh) (x : Tys l), wfTs l x → (cellsTs l x).length = widthTs l
 | [], _, _ => by simp only [cellsTs, widthTs]; rfl
 | s :: r, x, h => by
  simp only [wfTs] at h
  simp only [cellsTs, widthTs, List.length_append]
  rw [cellsT_len s x.1 h.1, cellsTs_len r x.2 h.2]
end
theorem relL_app {M : Mem} {μ : Pos} {cs ds : List AV} {vs us : List Value} (h : relL M cs μ vs) (k : relL M ds μ us) : relL M (cs ++ ds) μ (vs ++ us) := relL_append h k
def Reads (w : World) (s : Sh) (cs : List Value) : Prop := ∃ x : Ty s, wfT s x ∧ relL (Mw w) (cellsT s x) Pos.none cs
def ReadsAll (w : World) (l : List Sh) (cs : List Value) : Prop := ∃ x : Tys l, wfTs l x ∧ relL (Mw w) (cellsTs l x) Pos.none cs
theorem take_off (cs : List Value) (off a b : Nat) : (cs.drop off).take (a + b) = (cs.drop off).take a ++ (cs.drop (off + a)).take b := by
 rw [List.take_add, List.drop_drop]
def plainAt (v : Value) : Prop := ∀ a len cap, v = .slice (some a) len cap → a.spot = none
def SpOK (s : Sh) (cs : List Value) : Prop := noSl s = true ∨ ∀ v ∈ cs, plainAt v
theorem shFs_reads {g : TypeId → Option Sh} : ∀ {fs : List Field} {off : Nat} {l : List Sh} {cs : List Value}, shFs P g fs off = some l →
 (∀ f ∈ fs, ∀ s, g f.type = some s → Reads w s ((cs.drop f.offset).take (P.cellsOf f.type))) → ReadsAll w l ((cs.drop off).take (widthTs l))
 | [], off, l, cs, h, _ => by
  simp only [shFs] at h; cases h
  exact ⟨(), by simp only [wfTs], by simp [cellsTs, widthTs, relL]⟩
 | f :: r, off, l, cs, h, hr => by
  simp only [shFs] at h
  cases hb : Nat.beq f.offset off <;> simp only [hb, cond_true, cond_false] at h
  · cases h
  have hoff := Nat.eq_of_beq_eq_true hb
  split at h
  · rename_i s hs
    cases hc : Nat.beq (P.cellsOf f.type) (widthT s) <;> simp only [hc, cond_true, cond_false] at h
    · cases h
    have hw := Nat.eq_of_beq_eq_true hc
    split at h
    · rename_i l' hl; cases h
      obtain ⟨x, h1, h2⟩ := hr f (List.mem_cons_self ..) s hs
      obtain ⟨y, h3, h4⟩ := shFs_reads (cs := cs) hl fun f' hf' => hr f' (List.mem_cons_of_mem _ hf')
      refine ⟨(x, y), by simp only [wfTs]; exact ⟨h1, h3⟩, ?_⟩
      simp only [cellsTs, widthTs, take_off]
      rw [hoff, hw] at h2
      exact relL_app h2 h4
    · cases h
  · cases h
theorem chunks {e : Sh} {k : Nat} : ∀ (n : Nat) (cs : List Value), (∀ i, i < n → Reads w e ((cs.drop (i * k)).take k)) → ∃ l : List (Ty e), l.length = n ∧ (∀ x, List.Mem x l → wfT e x) ∧ relL (Mw w) (List.flatMap (cellsT e) l) Pos.none (cs.take (n * k))
 | 0, cs, _ => ⟨[], rfl, (fun x h => nomatch h), by simp [relL]⟩
 | n + 1, cs, h => by
  obtain ⟨x, h1, h2⟩ := h 0 (by omega)
  obtain ⟨l, h3, h4, h5⟩ := chunks n (cs.drop k) fun i hi => by
   have := h (i + 1) (by omega)
   rw [List.drop_drop]
   rw [show k + i * k = (i + 1) * k by rw [Nat.add_mul]; omega]; exact this
  refine ⟨x :: l, by simp [h3], fun y hy => ?_, ?_⟩
  · cases hy with
    | head => exact h1
    | tail _ hy => exact h4 y hy
  · rw [List.flatMap_cons, show (n + 1) * k = k + n * k by rw [Nat.add_mul]; omega, List.take_add]
    simp only [Nat.zero_mul, List.drop_zero] at h2
    exact relL_app h2 h5
theorem mapM_range {α : Type} {f : Nat → Option α} {n : Nat} {xs : List α} (h : (List.range n).mapM f = some xs) : xs.length = n ∧ ∀ i, i < n → ∃ y, f i = some y :=
 ⟨by simpa using mapM_some_length h, fun i hi => mapM_each h i (List.mem_range.2 hi)⟩
theorem cells?_rel {a : Addr} {n : Nat} {cs : List Value} (h : w.cells? 0 a n = some cs) : cs.length = n ∧ ∀ i v, cs[i]? = some v → w.cell? (a.add i) = some v := by
 unfold World.cells? at h
 rw [if_pos (Nat.zero_le _)] at h
 have hl : cs.length = n := by simpa using mapM_some_length h
 refine ⟨hl, fun i v hi => ?_⟩
 have hi' : i < n := by rw [← hl]; exact (List.getElem?_eq_some_iff.1 hi).1
 have := mapM_some_get h i i (by simp [hi'])
 rw [this]; exact hi
theorem reads_of_trod : ∀ (k : Nat) (t : TypeId) (s : Sh) (n : Nat) (cs : List Value) (x : DataW H × List MemPlace), shOf P k t = some s → DataW.trod enc P w 0 sp held n t cs = some x → Reads w s cs
 | 0, _, _, _, _, _, h, _ => by simp [shOf] at h
 | k + 1, t, s, n, cs, x, h, hd => by
  simp only [shOf] at h
  split at h
  · rename_i ht; cases h
    obtain ⟨b, rfl, _⟩ := DataW.trod_bool ht hd
    exact ⟨b, by simp only [wfT], by simp [cellsT, relL, relV]⟩
  · rename_i kk ht; cases h
    obtain ⟨m, rfl, _, hw⟩ := DataW.trod_int ht hd
    refine ⟨(m : Int), ?_, by simp [cellsT, relL, relV]⟩
    simp only [wfT]
    simpa [Lit.wf] using hw
  · rename_i ht; cases h
    obtain ⟨b, rfl, _, hs⟩ := DataW.trod_string ht hd
    exact ⟨b, by simp only [wfT]; exact hs, by simp [cellsT, relL, relV]⟩
  · rename_i e ht
    split at h
    · rename_i s' hs
      cases hb : (Nat.beq (P.cellsOf e) (widthT s') && Nat.blt 0 (widthT s')) <;> simp only [hb, cond_true, cond_false] at h
      · cases h
      cases h
      simp only [Bool.and_eq_true] at hb
      have hwd := Nat.eq_of_beq_eq_true hb.1
      cases n with
      | zero => simp [DataW.trod] at hd
      | succ m =>
       unfold DataW.trod at hd
       rw [ht] at hd
       split at hd <;> try (first | (rename_i hh; cases hh; done) | (rename_i hh _; cases hh; done))
       · refine ⟨([] : List (Ty s')), ?_, ?_⟩
         · simp only [wfT]; exact ⟨(fun x h => nomatch h), Nat.zero_le _⟩
         · simp only [cellsT, relL]
           refine ⟨_, [], rfl, ?_, rfl⟩
           simp only [relV]
           exact .inr (.inl ⟨by first | rfl | trivial, rfl, rfl, fun c0 h => by cases h⟩)
       · rename_i a len cap hh
         cases hh
         have hpos : 0 < widthT s' := by simpa [Nat.blt_eq] using hb.2
         simp only at hd
         split at hd
         · rename_i hc
           simp only [Option.bind_eq_some_iff] at hd
           obtain ⟨elems, he, _⟩ := hd
           obtain ⟨hl, hel⟩ := mapM_range he
           -- the cells, one element behind the other
           have cellOf : ∀ i, i < len → ∃ cs', w.cells? 0 (a.add (i * P.cellsOf e)) (P.cellsOf e) = some cs' ∧ Reads w s' cs' := fun i hi => by
            obtain ⟨y, hy⟩ := hel i hi
            simp only [Option.bind_eq_some_iff] at hy
            obtain ⟨cs', h1, h2⟩ := hy
            exact ⟨cs', h1, reads_of_trod k _ _ _ _ _ hs h2⟩
           by_cases hlen0 : len = 0
           · subst hlen0
             refine ⟨([] : List (Ty s')), by simp only [wfT]; exact ⟨(fun x h => nomatch h), Nat.zero_le _⟩, ?_⟩
             simp only [cellsT, relL]
             refine ⟨_, [], rfl, ?_, rfl⟩
             simp only [relV]
             obtain ⟨ab, ao, asp⟩ := a
             cases asp with
             | none => exact .inl ⟨ab, ao, cap, rfl, Nat.zero_le _, (fun c0 h => by cases h), by simp [relM]⟩
             | some q => exact .inr (.inr ⟨ab, ao, q, cap, rfl, rfl, rfl, fun c0 h => by cases h⟩)
           have hspot : a.spot = none := by
            obtain ⟨cs', h1, _⟩ := cellOf 0 (by omega)
            obtain ⟨hlen, hcell⟩ := cells?_rel h1
            have h0 : 0 < cs'.length := by rw [hlen, hwd]; exact hpos
            have := hcell 0 cs'[0] (by simp [h0])
            rw [Nat.zero_mul] at this
            have ea : (a.add 0).add 0 = a := by simp [Addr.add]
            rw [ea] at this
            unfold World.cell? at this
            split at this
            · cases hs : a.spot with
              | none => rfl
              | some q => rw [hs] at this; simp at this
            · cases this
           have hadd : ∀ i, a.add i = ⟨a.block, a.off + i, none⟩ := fun i => by
            unfold Addr.add
            split
            · rename_i h0; subst h0; cases a; simp only at hspot ⊢; subst hspot; rfl
            · rfl
           have build : ∀ j, j ≤ len → ∃ l : List (Ty s'), l.length = j ∧ (∀ x, List.Mem x l → wfT s' x) ∧ relM (Mw w) (List.flatMap (cellsT s') l) a.block (a.off + (len - j) * P.cellsOf e) := by
            intro j
            induction j with
            | zero => exact fun _ => ⟨[], rfl, (fun x h => nomatch h), by simp [relM]⟩
            | succ j ih =>
             intro hj
             obtain ⟨l, h3, h4, h5⟩ := ih (by omega)
             obtain ⟨cs', h1, x, h6, h7⟩ := cellOf (len - (j + 1)) (by omega)
             obtain ⟨hlen, hcell⟩ := cells?_rel h1
             refine ⟨x :: l, by simp [h3], fun y hy => ?_, ?_⟩
             · cases hy with
               | head => exact h6
               | tail _ hy => exact h4 y hy
             · rw [List.flatMap_cons]
               refine relM_of_get fun i c hi => ?_
               by_cases hil : i < (cellsT s' x).length
               · rw [List.getElem?_append_left hil] at hi
                 obtain ⟨u, hu, hr⟩ := relL_get h7 hi
                 refine ⟨u, ?_, hr⟩
                 have := hcell i u hu
                 rw [hadd, Go.Eng.add_addr] at this
                 exact this
               · rw [List.getElem?_append_right (by omega)] at hi
                 obtain ⟨u, hu, hr⟩ := relM_get h5 hi
                 refine ⟨u, ?_, hr⟩
                 rw [cellsT_len s' x h6, ← hwd] at hu hil
                 rw [← hu]
                 congr 1
                 have : (len - j) * P.cellsOf e = (len - (j + 1)) * P.cellsOf e + P.cellsOf e := by
                  rw [show len - j = len - (j + 1) + 1 by omega, Nat.add_mul]; omega
                 omega
           obtain ⟨l, h3, h4, h5⟩ := build len (Nat.le_refl _)
           refine ⟨l, ?_, ?_⟩
           · simp only [wfT]; exact ⟨h4, by rw [h3]; omega⟩
           · simp only [cellsT, relL]
             refine ⟨_, [], rfl, ?_, rfl⟩
             simp only [relV]
             refine .inl ⟨a.block, a.off, cap, ?_, by rw [h3]; exact hc.2.1, (fun c0 h => by cases h), ?_⟩
             · rw [h3]; cases a; simp only at hspot ⊢; subst hspot; rfl
             · rw [Nat.sub_self, Nat.zero_mul] at h5; exact h5
         · cases hd
       · cases hd
    · cases h
  · rename_i mm e ht
    split at h
    · rename_i s' hs
      cases hb : (Nat.beq (P.cellsOf e) (widthT s') && Nat.beq (P.cellsOf t) (mm * widthT s')) <;> simp only [hb, cond_true, cond_false] at h
      · cases h
      cases h
      simp only [Bool.and_eq_true] at hb
      have hwd := Nat.eq_of_beq_eq_true hb.1
      have hwd2 := Nat.eq_of_beq_eq_true hb.2
      obtain ⟨xs, m, rfl, _, hl, hxl, hx⟩ := DataW.trod_array ht hd
      obtain ⟨l, h3, h4, h5⟩ := chunks (w := w) (e := s') (k := P.cellsOf e) mm cs fun i hi => by
       have := hx i hi
       rw [List.getElem?_eq_getElem (by omega)] at this
       exact reads_of_trod k _ _ _ _ _ hs this
      refine ⟨l, by simp only [wfT]; exact ⟨h4, h3⟩, ?_⟩
      simp only [cellsT]
      rw [List.take_of_length_le (by rw [hl, hwd, hwd2]; exact Nat.le_refl _)] at h5
      exact h5
    · cases h
  · rename_i fs ht
    split at h
    · rename_i l hl
      cases hb : Nat.beq (P.cellsOf t) (widthTs l) <;> simp only [hb, cond_true, cond_false] at h
      · cases h
      cases h
      have hwd := Nat.eq_of_beq_eq_true hb
      obtain ⟨xs, m, rfl, _, hlen, hxl, hx⟩ := DataW.trod_struct ht hd
      have := shFs_reads (w := w) (cs := cs) hl fun f hf s' hs' => by
       obtain ⟨i, hi⟩ := List.getElem?_of_mem hf
       have hi' : fs[i]? = some f := by simpa using hi
       have h1 := hx i f hi'
       have h2 : i < xs.length := by rw [hxl]; exact (Array.getElem?_eq_some_iff.1 hi').1
       rw [List.getElem?_eq_getElem h2] at h1
       exact reads_of_trod k _ _ _ _ _ hs' h1
      obtain ⟨y, h1, h2⟩ := this
      refine ⟨y, by simp only [wfT]; exact h1, ?_⟩
      simp only [cellsT]
      rw [List.drop_zero, List.take_of_length_le (by omega)] at h2
      exact h2
    · cases h
  · cases h
end
end Go.Eng

namespace Go.Eng
open Go Go.ChangeShapes Go.WideShapes Go.RowKit
variable [Globs]
def argT : (s : Sh) → Ty s → AV
 | .b, x => .bool x
 | .i k, x => .int k x
 | .str, x => .str x
 | .sl e, l => .dslice (List.flatMap (cellsT e) l) (List.length l) none
 | .ar n e, l => .agg (cellsT (.ar n e) l)
 | .ag l, x => .agg (cellsT (.ag l) x)
def argTs : (l : List Sh) → Tys l → List AV
 | [], _ => []
 | s :: r, x => argT s x.1 :: argTs r x.2
def shAll (P : Program) : List TypeId → Option (List Sh)
 | [] => some []
 | t :: r => match shOf P 20 t with
  | some s => match shAll P r with
   | some l => some (s :: l)
   | none => none
  | none => none
section
variable {H : Type} {enc : TypeId × Value → H} {P : Program} {w : World} {sp : Nat → Bool} {held : Bool}
theorem plain_of_ok {r : Reach} {base : Nat} {t : TypeId} {v : Value} (h : Cell.okWide P w r base t v) : plainAt v := by
 rintro a len cap rfl
 unfold Cell.okWide at h
 split at h <;> first | (rename_i h2; cases h2; done) | (rename_i h1 h2; cases h2; done) | skip
 unfold Cell.ok at h
 split at h <;> first | exact h.elim | (rename_i h1 h2; cases h2; done) | skip
 · rename_i h1 h2
   cases h2
   exact h.2.2.2.1
theorem row_plain {r : Reach} {base : Nat} {t : TypeId} {cs : Array Value} (h : Row.okWide P w r base t cs) : ∀ v ∈ cs.toList, plainAt v := by
 obtain ⟨ts, _, _, hc⟩ := h
 intro v hv
 obtain ⟨i, hi⟩ := List.getElem?_of_mem hv
 obtain ⟨u, _, hok⟩ := hc i v (by simpa using hi)
 exact plain_of_ok hok
theorem one_of_ok {r : Reach} {base : Nat} {t : TypeId} {v : Value} (h : Value.okWide P w r base t v) (hs : ∀ fs, P.underlying t ≠ some (.struct fs)) (ha : ∀ n e, P.underlying t ≠ some (.array n e)) : v.cells = #[v] ∧ plainAt v := by
 have hc : Cell.okWide P w r base t v := by
  unfold Value.okWide at h
  split at h
  · rename_i fs hf; exact absurd hf (hs fs)
  · rename_i n e hf; exact absurd hf (ha n e)
  · exact h
 refine ⟨?_, plain_of_ok hc⟩
 cases v with
 | agg cs =>
  unfold Cell.okWide at hc
  split at hc <;> first | (rename_i h1 h2; cases h2; done) | skip
  unfold Cell.ok at hc
  split at hc <;> first | exact hc.elim | (rename_i h1 h2; cases h2; done)
 | _ => rfl
theorem agg_of_ok {r : Reach} {base : Nat} {t : TypeId} {v : Value} (h : Value.okWide P w r base t v) (hs : (∃ fs, P.underlying t = some (.struct fs)) ∨ ∃ n e, P.underlying t = some (.array n e)) : ∃ cs, v = .agg cs ∧ ∀ u ∈ cs.toList, plainAt u := by
 unfold Value.okWide at h
 split at h
 · obtain ⟨cs, rfl, _, hr⟩ := h; exact ⟨cs, rfl, row_plain hr⟩
 · obtain ⟨cs, rfl, _, hr⟩ := h; exact ⟨cs, rfl, row_plain hr⟩
 · rename_i h1 h2
   rcases hs with ⟨fs, hf⟩ | ⟨n, e, hf⟩
   · exact absurd hf (h1 fs)
   · exact absurd hf (h2 n e)
def aggFact (P : Program) (t : TypeId) : Sh → Prop
 | .ar _ _ => ∃ n e, P.underlying t = some (.array n e)
 | .ag _ => ∃ fs, P.underlying t = some (.struct fs)
 | _ => (∀ fs, P.underlying t ≠ some (.struct fs)) ∧ ∀ n e, P.underlying t ≠ some (.array n e)
theorem shOf_agg {k : Nat} {t : TypeId} {s : Sh} (h : shOf P k t = some s) : aggFact P t s := by
 cases k with
 | zero => simp [shOf] at h
 | succ k =>
  simp only [shOf] at h
  split at h
  · rename_i ht; cases h; simp [aggFact, ht]
  · rename_i ht; cases h; simp [aggFact, ht]
  · rename_i ht; cases h; simp [aggFact, ht]
  · rename_i e ht
    split at h
    · rename_i s' hs
      cases hb : (Nat.beq (P.cellsOf e) (widthT s') && Nat.blt 0 (widthT s')) <;> simp only [hb, cond_true, cond_false] at h
      · cases h
      · cases h; simp [aggFact, ht]
    · cases h
  · rename_i m e ht
    split at h
    · rename_i s' hs
      cases hb : (Nat.beq (P.cellsOf e) (widthT s') && Nat.beq (P.cellsOf t) (m * widthT s')) <;> simp only [hb, cond_true, cond_false] at h
      · cases h
      · cases h; exact ⟨_, _, ht⟩
    · cases h
  · rename_i fs ht
    split at h
    · rename_i l hl
      cases hb : Nat.beq (P.cellsOf t) (widthTs l) <;> simp only [hb, cond_true, cond_false] at h
      · cases h
      · cases h; exact ⟨_, ht⟩
    · cases h
  · cases h
theorem arg_reads {r : Reach} {base : Nat} {t : TypeId} {s : Sh} {v : Value} {d : DataW H} {ps : List MemPlace} (hs : shOf P 20 t = some s) (hv : Value.okWide P w r base t v) (hd : DataW.Trod enc P w 0 sp held t v d ps) :
 ∃ x : Ty s, wfT s x ∧ relV (Mw w) (argT s x) Pos.none v := by
 obtain ⟨n, hn⟩ := hd
 have hg := shOf_agg hs
 cases s with
 | ar m e =>
  obtain ⟨cs, rfl, hp⟩ := agg_of_ok hv (.inr hg)
  obtain ⟨x, h1, h2⟩ := reads_of_trod 20 _ _ _ _ _ hs hn
  exact ⟨x, h1, by simp only [argT, relV]; exact ⟨cs, rfl, h2⟩⟩
 | ag l =>
  obtain ⟨cs, rfl, hp⟩ := agg_of_ok hv (.inl hg)
  obtain ⟨x, h1, h2⟩ := reads_of_trod 20 _ _ _ _ _ hs hn
  exact ⟨x, h1, by simp only [argT, relV]; exact ⟨cs, rfl, h2⟩⟩
 | _ =>
  obtain ⟨h1, h2⟩ := one_of_ok hv hg.1 hg.2
  rw [h1] at hn
  obtain ⟨x, h3, h4⟩ := reads_of_trod 20 _ _ _ _ _ hs hn
  refine ⟨x, h3, ?_⟩
  simp only [cellsT, relL] at h4
  obtain ⟨u, r, h5, h6, rfl⟩ := h4
  simp at h5; subst h5
  simpa only [argT] using h6
theorem args_read {r : Reach} {base : Nat} : ∀ {ts : List TypeId} {l : List Sh} {vs : List Value} {ds : List (DataW H)} {ps : List MemPlace}, shAll P ts = some l → (∀ (j : Nat) t v, ts[j]? = some t → vs[j]? = some v → Value.okWide P w r base t v) →
 DataW.TrodAll enc P w 0 sp held ts vs ds ps → ∃ x : Tys l, wfTs l x ∧ relL (Mw w) (argTs l x) Pos.none vs
 | [], l, vs, ds, ps, h, _, hd => by
  simp only [shAll] at h; cases h
  obtain ⟨rfl, rfl, rfl⟩ := trodAll_nil hd
  exact ⟨(), by simp only [wfTs], by simp [argTs, relL]⟩
 | t :: ts, l, vs, ds, ps, h, hv, hd => by
  simp only [shAll] at h
  split at h
  · rename_i s hs
    split at h
    · rename_i l' hl; cases h
      obtain ⟨v, vs', d, ds', p, q, rfl, rfl, rfl, h1, h2⟩ := trodAll_cons hd
      obtain ⟨x, h3, h4⟩ := arg_reads hs (hv 0 t v rfl rfl) h1
      obtain ⟨y, h5, h6⟩ := args_read hl (fun j t' v' hj hj' => hv (j + 1) t' v' (by simpa using hj) (by simpa using hj')) h2
      exact ⟨(x, y), by simp only [wfTs]; exact ⟨h3, h5⟩, by simp only [argTs, relL]; exact ⟨v, vs', rfl, h4, h6⟩⟩
    · cases h
  · cases h
theorem Mw_rel (hg : GlobM (Mw w)) : Rel (Mw w) Pos.none Heap.nil w :=
 ⟨hg, fun _ _ => rfl, fun _ _ => rfl, fun k cs h => by simp [Heap.get, Heap.nil, bget] at h, fun k cs h => by simp [Heap.get, Heap.nil, bget] at h, fun j k l c h => by simp [Heap.get, Heap.nil, bget] at h, fun j st id fr h => by simp [Heap.get, Heap.nil, bget] at h, fun i j b s t h => by simp [Heap.get, Heap.nil, bget] at h, fun _ _ _ h => h, fun k b s h => by simp [Heap.get, Heap.nil, bget] at h⟩
def plainTs (P : Program) (ts : List TypeId) : Bool := ts.all fun t => P.readableRec t && decide (t < P.types.size)
theorem trodAll_stays (hl : laidOutB P = true) {W W' : World} {sp' : Nat → Bool} : ∀ {ts : List TypeId} {vs : List Value} {ds : List (DataW H)} {ps : List MemPlace}, plainTs P ts = true → DataW.TrodAll enc P W 0 (fun _ => true) true ts vs ds ps →
 (∀ p ∈ ps, W.sameAt W' p) → (∀ p ∈ ps, sp' p.block = true) → DataW.TrodAll enc P W' 0 sp' true ts vs ds ps
 | [], _, _, _, _, h, _, _ => by obtain ⟨rfl, rfl, rfl⟩ := trodAll_nil h; exact trodAll_mk0
 | t :: ts, vs, ds, ps, ht, h, hs, hb => by
  obtain ⟨v, vs', d, ds', p, q, rfl, rfl, rfl, h1, h2⟩ := trodAll_cons h
  simp only [plainTs, List.all_cons, Bool.and_eq_true, decide_eq_true_eq] at ht
  refine trodAll_cons_mk (WideElems.Trod_stays hl ht.1.1 ht.1.2 h1 (fun p hp => hs p (by simp [hp])) (fun p hp => hb p (by simp [hp]))) (trodAll_stays hl (by simpa [plainTs] using ht.2) h2 (fun p hp => hs p (by simp [hp])) (fun p hp => hb p (by simp [hp])))
theorem law_contract {f : FuncId} {fn : Func} {s : ChangeSpec} {l : List Sh} {tb : TypeId} (hsh : shAll P fn.params.toList = some l) (hl : laidOutB P = true) (hts : plainTs P fn.params.toList = true) (hvars : s.vars = []) (hres : fn.resultTypes = #[tb]) (htb : P.underlying tb = some .bool)
 (hfn : ∀ ds : List (DataW H), ds.length = fn.params.toList.length → s.fn H ds = { results := [.lit (.bool true)], args := ds })
 (hcall : ∀ x : Tys l, wfTs l x → CallA P f (argTs l x) Heap.nil fun v H' => v = .bool true ∧ H' = Heap.nil)
 (W : World) (base : Nat) (args : Array Value) (ds gs : List (DataW H)) (before : List MemPlace)
 (hval : ∀ (j : Nat) t v, fn.params[j]? = some t → args[j]? = some v → Value.okWide P W .any base t v)
 (hW : DataW.Whole enc P fn.params.toList s.vars false W args.toList ds gs before) (hg : GlobM (Mw W)) :
 Calls P f args W fun e W' => ∃ v, e = .returned v ∧ s.post enc P fn false true false false W args v W' := by
 have hW' := hW
 obtain ⟨p, q, hA, hV, rfl, hz, _⟩ := hW
 rw [hvars] at hV
 obtain ⟨rfl, rfl⟩ := trodVars_none hV
 obtain ⟨x, hx, hrel⟩ := args_read hsh (fun j t v hj hj' => hval j t v (by simpa using hj) (by simpa using hj')) hA
 have hlt := hA.lt
 refine ((hcall x hx).run (Mw W) Pos.none W args (Mw_rel hg) hrel).mono ?_
 rintro e W' ⟨v, M', μ', H', c, rfl, R', hv, G, rfl, rfl⟩
 have hv := rel_bool hv
 subst hv
 have hB : Below W.heap.size W W' := ⟨G.grow.keep.os, G.grow.keep.tape, G.grow.keep.output, G.grow.keep.size, fun k hk => G.grow.keep.block k hk own_nil⟩
 have hlen : ds.length = fn.params.toList.length := by
  have : ∀ {ts : List TypeId} {vs : List Value} {ds : List (DataW H)} {ps : List MemPlace}, DataW.TrodAll enc P W 0 (fun _ => true) true ts vs ds ps → ds.length = ts.length := by
   intro ts
   induction ts with
   | nil => intro vs ds ps h; obtain ⟨_, rfl, _⟩ := trodAll_nil h; rfl
   | cons t ts ih => intro vs ds ps h; obtain ⟨v, vs', d, ds', p, q, rfl, rfl, rfl, _, h2⟩ := trodAll_cons h; simp [ih h2]
  exact this hA
 refine ⟨_, rfl, ds, [], p ++ [], [], p, [], hW', ?_, ?_, ?_, ?_, fun h => by cases h⟩
 · rw [List.append_nil, hfn ds hlen, hres]
   exact trodAll_cons_mk (shut_bool htb true) trodAll_mk0
 · rw [List.append_nil, hfn ds hlen]
   exact trodAll_stays hl hts hA (fun p hp => hB.same (hlt p hp)) (fun p hp => by simpa using hlt p hp)
 · rw [List.append_nil, hfn ds hlen, hvars]
   rfl
 · exact hB.frame _
end
end Go.Eng

namespace Go.Eng
open Go
variable [Globs]

section
variable [Pend] {P : Program} {N n : Nat} {M0 : Mem} {μ0 : Pos} {H0 : Heap} {w0 : World}
theorem sound_opsT {ops : Array Oper} {Q : Exit → Act → World → Prop} {K : Fr → Heap → Prop} {Kp : AV → Fr → Heap → Prop} (r : Option Nat) (tl : List Oper) : ∀ {l : List Oper} {qs : List AO}, okAOs P N ops l qs = true → ∀ {fr : Fr} {H : Heap} {a : Act} {w : World}, St N n M0 μ0 H0 w0 fr H a w → runOps P K Kp qs fr H →
 (∀ fr' H' a' w', St N n M0 μ0 H0 w0 fr' H' a' w' → K fr' H' → wpListIn (FR r) 0 P ops Q tl a' w') → (∀ c v fr' H' a' w', St N n M0 μ0 H0 w0 fr' H' a' w' → relPan c v → Kp c fr' H' → Q (.panic [{ v, recovered := false }]) a' w') → wpListIn (FR r) 0 P ops Q (l ++ tl) a w
 | [], [], _, fr, H, a, w, S, hr, hq, _ => hq _ _ _ _ S hr
 | o :: l, q :: qs, h, fr, H, a, w, S, hr, hq, hp => by
  simp only [okAOs, Bool.and_eq_true] at h
  refine wpListIn_step fun K' hK => ?_
  exact sound_AO h.1 S hr (fun c v fr' H' w' S' hv hk => hp c v fr' H' _ w' S' hv hk) (fun fr' H' a' w' S' hr' => hK _ _ (sound_opsT r tl h.2 S' hr' hq hp)) r
 | [], _ :: _, h, _, _, _, _, _, _, _, _ => by simp [okAOs] at h
 | _ :: _, [], h, _, _, _, _, _, _, _, _ => by simp [okAOs] at h
end
def modeOf (m : Option AV) (u : FrameMode) : Prop := match m with
 | none => u = .returning
 | some c => ∃ v, relPan c v ∧ u = .panicking [{ v, recovered := false }]
structure DefA (P : Program) (g : FuncId) (args : List AV) (m : Option AV) (H : Heap) (K : Heap → Prop) : Prop where
 ok : callable P g = true
 run : ∀ M μ w (vs : Array Value), Rel M μ H w → relL M args μ vs.toList → ∀ u, modeOf m u → CallsDIn (FR none) 0 P g vs u w fun e u' w' =>
  (∃ v, e = .returned v) ∧ settle u' = .returning ∧ ∃ M' μ' H', Rel M' μ' H' w' ∧ Move M μ H w M' μ' H' w' ∧ K H'
def okRec (N t : Nat) (c : Code) : Bool := match c with
 | .region _ ops false => (match ops.toList with
  | [o] => (match o.op with
   | .call { callee := .builtin .recover, .. } => true
   | _ => false) && o.guard.isNone && o.dst == some t && Nat.blt t N
  | _ => false)
 | _ => false
def okFD (P : Program) (g : FuncId) (N t : Nat) (ac : AC) : Bool := callable P g && ac.noRF && (match P.funcs[g]? with
 | some fn => fn.ntmps == N && okRes P fn.results.toList [] && (match fn.body with
  | some (.seq x y) => okRec N t x && okC P N ac y
  | _ => false)
 | none => false)
def endD (n : Nat) (K : Heap → Prop) (x : XA) (_ : Fr) (H : Heap) : Prop := match x with
 | .normal => RetP n K H
 | .ret => RetP n K H
 | _ => False
def recV : Option AV → AV
 | none => .nili
 | some c => c
theorem defA_of {P : Program} {g : FuncId} {N t : Nat} {ac : AC} (hok : okFD P g N t ac = true) {args : List AV} {m : Option AV} {H : Heap} {K : Heap → Prop} (hN : args.length ≤ N)
 (h : ac.run P H.nx (endD H.nx K) ((t, recV m) :: frame0 0 args) H) : DefA P g args m H K := by
 unfold okFD at hok
 simp only [Bool.and_eq_true] at hok
 obtain ⟨⟨hcall, hnrf⟩, hok⟩ := hok
 refine ⟨hcall, fun M μ w vs R hv u hu => ?_⟩
 split at hok
 · rename_i fn hf
   simp only [Bool.and_eq_true, beq_iff_eq] at hok
   obtain ⟨⟨hn, hres⟩, hok⟩ := hok
   split at hok
   · rename_i x y hb
     simp only [Bool.and_eq_true] at hok
     obtain ⟨hx, hy⟩ := hok
     refine callsDIn_of_wpSIn hf hb trivial fun c₀ cs hc₀ => ?_
     rw [hn]
     refine wpSIn_seq ?_
     unfold okRec at hx
     split at hx
     · rename_i id ops
       split at hx
       · rename_i o ho
         simp only [Bool.and_eq_true, Option.isNone_iff_eq_none, beq_iff_eq] at hx
         obtain ⟨⟨⟨hop, hg⟩, hd⟩, ht⟩ := hx
         have ho' : ops = #[o] := by apply Array.ext'; simpa using ho
         subst ho'
         have hexec : ∀ (ρ : Operand → Value) (w : World), (execOp ρ o).run P w = .ok .recover w := fun ρ w => by
          split at hop
          · rename_i c0 aa tt hop'
            simp only [execOp, hop', resolve, Sem.run_bind, Sem.run_pure, Result.andThen_ok, invoke, builtin]
          · cases hop
         have key : ∀ (v : Value) (u' : FrameMode), settle u' = .returning → relV M (recV m) μ v →
          Code.wpSIn (FR none) 0 P y (bodyPostS P fn c₀ cs fun e u' w' => (∃ v, e = .returned v) ∧ settle u' = .returning ∧ ∃ M' μ' H', Rel M' μ' H' w' ∧ Move M μ H w M' μ' H' w' ∧ K H')
           (Act.put { tmps := vs ++ Array.replicate (N - vs.size) undef, defers := [] } (some t) v) ({ c₀ with mode := u' } :: cs) w := by
          intro v u' hu' hrel
          refine wpSIn_of_wpIn rfl ?_
          letI : Pend := { D := [], nm := true }
          have F0 := relF0 (N := N) R.glob hv hN
          have S : St N H.nx M μ H w ((t, recV m) :: frame0 0 args) H (Act.put { tmps := vs ++ Array.replicate (N - vs.size) undef, defers := [] } (some t) v) w :=
           ⟨M, μ, R, F0.put (d := some t) (by simpa [dstOk, Nat.blt_eq] using ht) hrel, Nat.le_refl _, Grow.refl _ _ _ _ _, Marks.nil⟩
          refine wpIn_mono (sound_C none hy (.inr hnrf) S h) ?_
          rintro e a' w' (⟨x, fr', H', hx, S', hq⟩ | ⟨c, v, fr', H', rfl, hv, S', hq⟩)
          · have fin : RetP H.nx K H' → bodyPostS P fn c₀ cs (fun e u' w' => (∃ v, e = .returned v) ∧ settle u' = .returning ∧ ∃ M' μ' H', Rel M' μ' H' w' ∧ Move M μ H w M' μ' H' w' ∧ K H') .normal a' ({ c₀ with mode := u' } :: cs) w' := by
             intro hk
             obtain ⟨M1, μ1, R1, F1, hn1, G1, mk⟩ := S'
             obtain ⟨H2, hi, hk⟩ := hk.ex
             obtain ⟨M2, μ2, R2, _, hn2, G2⟩ := hi 0 M1 μ1 _ #[] R1 ⟨R1.glob, rfl, fun t => by simp [look, relV]⟩ hn1
             obtain ⟨v, cs', hr1, hr2, hr3⟩ := run_results_fn (K := fun _ => True) R1 F1 hres trivial
             have G := G1.trans G2
             exact ⟨mk.nm rfl, u', rfl, v, hr1, ⟨v, rfl⟩, hu', M2, μ2, H2, R2, ⟨fun k x hx => by rw [G.pin k (R.pos_lt hx)]; exact hx, G, hn2⟩, hk⟩
            cases e <;> simp [xa] at hx <;> subst hx
            · exact fin hq
            · exact hq.elim
            · exact fin hq
          · exact hq.elim
         refine wpSIn_region ?_
         show wpOpsSIn (FR none) 0 P #[o] _ [0] _ _ _
         have h0 : (#[o] : Array Oper)[0]? = some o := rfl
         simp only [wpOpsSIn, h0]
         refine ⟨fun _ _ => trivial, ?_⟩
         have hwant : ∀ y, Region.wanted o y = true := fun y => by letI : Pend := { D := [] }; exact wanted_none hg y
         rw [if_pos (hwant _), hexec, hd]
         cases m with
         | none =>
          have hm : c₀.mode = .returning := by rw [hc₀]; exact hu
          have hrec : recoverD (c₀ :: cs) = none := by simp only [recoverD, hm]
          simp only [hrec]
          have := key .nilIface .returning rfl (by simp only [recV, relV])
          have e0 : ({ c₀ with mode := .returning } : Frame) = c₀ := by rw [← hm]
          rw [e0] at this
          exact this
         | some c =>
          obtain ⟨v, hv', rfl⟩ := hu
          have hrec : recoverD (c₀ :: cs) = some (v, { c₀ with mode := .panicking [{ v, recovered := true }] } :: cs) := by simp only [recoverD, hc₀]
          simp only [hrec]
          exact key v _ rfl (hv' M μ)
       · cases hx
     · cases hx
   · cases hok
 · cases hok

def okDefer (P : Program) (N : Nat) (ops : Array Oper) (qs : List AO) (x : Nat) : Bool := match ops.toList.getLast? with
 | some o => o.guard.isNone && o.dst == none && (match o.op with
  | .defer { callee := .value (.tmp y), args, .. } => y == x && args.isEmpty
  | _ => false) && okAOs P N ops ops.toList.dropLast qs
 | none => false
def okFX (P : Program) (f : FuncId) (N : Nat) (acA : AC) (qs : List AO) (x : Nat) (acB : AC) (rs : List AR) : Bool := callable P f && acA.noRF && (match P.funcs[f]? with
 | some fn => fn.ntmps == N && okRes P fn.results.toList rs && (match fn.body with
  | some (.seq A (.seq (.region _ ops false) B)) => okC P N acA A && okC P N acB B && okDefer P N ops qs x
  | _ => false)
 | none => false)
def endDx (P : Program) (n : Nat) (g : FuncId) (caps : List AV) (rs : List AR) (K : AV → Heap → Prop) (x : XA) (fr : Fr) (H : Heap) : Prop := match x with
 | .exit _ => False
 | .pan c => DefA P g caps (some c) H fun H3 => resK fr H3 rs fun vs => RetA n K (one vs) H3
 | .normal => DefA P g caps none H fun H3 => resK fr H3 rs fun vs => RetA n K (one vs) H3
 | .ret => DefA P g caps none H fun H3 => resK fr H3 rs fun vs => RetA n K (one vs) H3
noncomputable def seqD (P : Program) (n : Nat) (qs : List AO) (x : Nat) (acB : AC) (rs : List AR) (K Kp : AV → Heap → Prop) (e : XA) (fr : Fr) (H : Heap) : Prop := match e with
 | .normal => runOps P (fun fr H => match look fr x with
  | .func g caps => acB.run P H.nx (endDx P n g caps rs K) fr H
  | _ => False) (fun c _ H => RetP n (Kp c) H) qs fr H
 | .ret => resK fr H rs fun vs => RetA n K (one vs) H
 | .pan c => RetP n (Kp c) H
 | .exit _ => False
section
variable {P : Program} {N : Nat} {M M1 : Mem} {μ μ1 : Pos} {H H1 : Heap} {w w1 : World} {fr : Fr} {tmps : Array Value}
theorem leave_def {g : FuncId} {caps : List AV} {vs : Array Value} {m : Option AV} {u : FrameMode} {fn : Func} {rs : List AR} {K Kp : AV → Heap → Prop} (R : Rel M μ H w) (R1 : Rel M1 μ1 H1 w1) (F1 : RelF N M1 μ1 fr tmps) (hn1 : H.nx ≤ H1.nx) (G1 : Grow H.nx M μ H w M1 μ1 H1 w1) (hres : okRes P fn.results.toList rs = true)
 (hv : relL M1 caps μ1 vs.toList) (hu : modeOf m u) (hd : DefA P g caps m H1 fun H3 => resK fr H3 rs fun vs => RetA H.nx K (one vs) H3) :
 LeavesInM (FR none) 0 P fn tmps (XPost M μ H w K Kp) [{ target := .fn (.func g) vs, args := #[] }] u w1 := by
 refine ⟨?_, .inr ⟨fun h => (by cases h), .func g, vs, g, vs, rfl, ?_, fun _ _ => trivial, ?_⟩⟩
 · cases m with
   | none => rw [show u = .returning from hu]; simp
   | some c => obtain ⟨v, _, rfl⟩ := hu; simp
 · simp only [invoke, Array.empty_append]; exact run_callFunc hd.ok _ _
 · obtain ⟨hF, hrun⟩ := hd.run M1 μ1 w1 vs R1 hv u hu
   refine ⟨hF, fun c cs hc hroom => ?_⟩
   obtain ⟨e, u', w', fr', hR, hrest⟩ := hrun c cs hc hroom
   obtain ⟨⟨v, rfl⟩, hset, M', μ', H', R', G', hk⟩ := hR
   refine ⟨.returned v, u', w', fr', ?_, hrest⟩
   show LeavesInM (FR none) 0 P fn tmps (XPost M μ H w K Kp) [] (settle u') w'
   rw [hset]
   exact ends_ret R R' (F1.mono G'.grow.mem G'.le) (Nat.le_trans hn1 G'.nx) (G1.trans (G'.grow.mono hn1)) hres hk
end
theorem callXD_of {P : Program} {f : FuncId} {N : Nat} {acA : AC} {qs : List AO} {x : Nat} {acB : AC} {rs : List AR} (hok : okFX P f N acA qs x acB rs = true) {args : List AV} {H : Heap} {K Kp : AV → Heap → Prop} (hN : args.length ≤ N)
 (h : acA.run P H.nx (seqD P H.nx qs x acB rs K Kp) (frame0 0 args) H) : CallX P f args H K Kp := by
 unfold okFX at hok
 simp only [Bool.and_eq_true] at hok
 obtain ⟨⟨hcall, hnrf⟩, hok⟩ := hok
 refine ⟨hcall, fun M μ w vs R hv => ?_⟩
 split at hok
 · rename_i fn hf
   simp only [Bool.and_eq_true, beq_iff_eq] at hok
   obtain ⟨⟨hn, hres⟩, hok⟩ := hok
   split at hok
   · rename_i A id ops B hb
     simp only [Bool.and_eq_true] at hok
     obtain ⟨⟨hA, hB⟩, hdef⟩ := hok
     refine callsIn_wide.1 (callsIn_of_wp_marks (F := FR none) (n := 0) hf hb trivial ?_ rfl)
     rw [hn]
     unfold okDefer at hdef
     split at hdef
     · rename_i o hlast
       simp only [Bool.and_eq_true, Option.isNone_iff_eq_none, beq_iff_eq] at hdef
       obtain ⟨⟨⟨hg, hdst⟩, hop⟩, hops⟩ := hdef
       have hlist : ops.toList = ops.toList.dropLast ++ [o] := by
        have hne : ops.toList ≠ [] := fun e => by rw [e] at hlast; cases hlast
        have := List.dropLast_concat_getLast hne
        rw [List.getLast?_eq_getLast hne] at hlast
        cases hlast
        exact this.symm
       letI : Pend := { D := [], nm := true }
       have S : St N H.nx M μ H w (frame0 0 args) H { tmps := vs ++ Array.replicate (N - vs.size) undef, defers := [] } w :=
        ⟨M, μ, R, relF0 R.glob hv hN, Nat.le_refl _, Grow.refl _ _ _ _ _, Marks.nil⟩
       refine wpIn_seq (wpIn_mono (sound_C none hA (.inr hnrf) S h) ?_)
       have finR : ∀ {fr' H' a' w'}, St N H.nx M μ H w fr' H' a' w' → (resK fr' H' rs fun vs => RetA H.nx K (one vs) H') → LeavesInM (FR none) 0 P fn a'.tmps (XPost M μ H w K Kp) a'.defers .returning w' := by
        intro fr' H' a' w' S' hk
        obtain ⟨M1, μ1, R1, F1, hn1, G1, mk⟩ := S'
        rw [mk.nm rfl]
        exact ends_ret R R1 F1 hn1 G1 hres hk
       have finP : ∀ {c v fr' H' a' w'}, St N H.nx M μ H w fr' H' a' w' → relPan c v → RetP H.nx (Kp c) H' → LeavesInM (FR none) 0 P fn a'.tmps (XPost M μ H w K Kp) a'.defers (.panicking [{ v, recovered := false }]) w' := by
        intro c v fr' H' a' w' S' hv hk
        obtain ⟨M1, μ1, R1, F1, hn1, G1, mk⟩ := S'
        rw [mk.nm rfl]
        exact ends_pan R R1 hn1 G1 hv hk
       rintro e a' w' (⟨xx, fr', H', hx, S', hq⟩ | ⟨c, v, fr', H', rfl, hv, S', hq⟩)
       · cases e <;> simp [xa] at hx <;> subst hx
         · refine wpIn_seq (wpIn_region_list ?_)
           rw [hlist]
           refine sound_opsT none [o] hops S' hq (fun fr2 H2 a2 w2 S2 hk => ?_) (fun c v fr2 H2 a2 w2 S2 hv hk => finP S2 hv hk)
           split at hk
           · rename_i g caps hx
             obtain ⟨M2, μ2, R2, F2, hn2, G2, mk⟩ := S2
             have hslot := F2.slot x
             rw [hx] at hslot; simp only [relV] at hslot
             obtain ⟨us, hus, hul⟩ := hslot
             have hexec : (execOp a2.eval o).run P w2 = .ok (.defer { target := .fn (.func g) us, args := #[] }) w2 := by
              split at hop
              · rename_i y aa tt hop'
                simp only [Bool.and_eq_true, beq_iff_eq] at hop
                obtain ⟨rfl, haa⟩ := hop
                have haa : aa = #[] := by simpa using haa
                subst haa
                have hev : a2.eval (.tmp y) = .func (.func g) #[] us := hus
                simp only [execOp, hop', resolve, hev, Deferred.ofValue, Sem.run_bind, Sem.run_pure, Result.andThen_ok, Array.map_empty, Array.append_empty]
              · cases hop
             have hdef2 : a2.defers = [] := mk.nm rfl
             show wpListIn (FR none) 0 P ops _ [o] a2 w2
             simp only [wpListIn]
             rw [if_pos (wanted_none hg _)]
             refine ⟨fun _ _ => trivial, ?_⟩
             have hsem : o.semAt (FR none).round a2.eval = execOp a2.eval o := Oper.semAt_none ..
             rw [hsem, hexec, Oper.uponIn_defer, hdst, hdef2]
             show Code.wpIn (FR none) 0 P B _ { a2 with defers := [{ target := .fn (.func g) us, args := #[] }] } w2
             letI : Pend := { D := [{ target := .fn (.func g) us, args := #[] }] }
             have S3 : St N H2.nx M2 μ2 H2 w2 fr2 H2 { a2 with defers := [{ target := .fn (.func g) us, args := #[] }] } w2 :=
              ⟨M2, μ2, R2, F2, Nat.le_refl _, Grow.refl _ _ _ _ _, Marks.nil⟩
             refine wpIn_mono (sound_C none hB (.inl ⟨rfl, rfl⟩) S3 hk) ?_
             have fin : ∀ {m u fr' H' a' w'}, St N H2.nx M2 μ2 H2 w2 fr' H' a' w' → modeOf m u → u ≠ .run → (DefA P g caps m H' fun H3 => resK fr' H3 rs fun vs => RetA H.nx K (one vs) H3) → LeavesInM (FR none) 0 P fn a'.tmps (XPost M μ H w K Kp) a'.defers u w' := by
              intro m u fr' H' a' w' S' hm hu hd
              obtain ⟨M1, μ1, R1, F1, hn1, G1, ⟨rl, e1, e2, e3⟩, _⟩ := S'
              obtain ⟨R1, G1⟩ := Marks.out e3 R1 G1
              rw [e1]
              refine leaves_marks hu rl w' (fun r hr => (e3 r hr).2.1) e2 ?_
              refine leave_def R R1 F1 (Nat.le_trans hn2 hn1) (G2.trans (G1.mono hn2)) hres ?_ hm hd
              exact relL_mono G1.mem caps (fun k y hy => by rw [G1.pin k (R2.pos_lt hy)]; exact hy) hul
             rintro e a' w' (⟨xx, fr', H', hx, S', hq⟩ | ⟨c, v, fr', H', rfl, hv, S', hq⟩)
             · cases e <;> simp [xa] at hx <;> subst hx
               · exact fin (m := none) S' rfl (by simp) hq
               · exact hq.elim
               · exact fin (m := none) S' rfl (by simp) hq
             · exact fin (m := some c) S' ⟨v, hv, rfl⟩ (by simp) hq
           · exact hk.elim
         · exact hq.elim
         · exact finR S' hq
       · exact finP S' hv hq
     · cases hdef
   · cases hok
 · cases hok
end Go.Eng

namespace Go.Proofs
open Go Go.Eng
abbrev sm (d : Nat) (o : AOp) : AO := ⟨some d, o, none⟩
abbrev mv (d s : Nat) : AO := ⟨some d, .p (.mov (.t s)), none⟩
abbrev ld (d s : Nat) : AO := ⟨some d, .h (.load false 1 (.t s)), none⟩
abbrev la (d n s : Nat) : AO := ⟨some d, .h (.load true n (.t s)), none⟩
abbrev fa (d o s : Nat) : AO := ⟨some d, .p (.fieldA o (.t s)), none⟩
abbrev st (n p s : Nat) : AO := ⟨none, .h (.store n (.t p) (.t s)), none⟩
abbrev zi6 : AV := .int .i64 0
abbrev zu3 : AV := .int .u32 0
abbrev zu8 : AV := .int .u8 0
end Go.Proofs

set_option maxRecDepth 100000
namespace Go.Proofs
open Go Go.Eng
def ac2 : AC := (.reg [sm 0 (.call 1 [])])
def rs2 : List AR := []
theorem ok2 : okF Tryz.prog 2 1 ac2 rs2 = true := by kernel_rfl
def ac3 : AC := (.seq (.reg [sm 6 (.p (.mov (.c (.bool false))))])
 (.seq (.seq (.reg [mv 11 0, sm 12 (.p (.len false (.t 11))), sm 13 (.p (.bin .gtr (.t 12) (.c (.int .i64 12)))), mv 14 13, ⟨some 15, .p (.mov (.t 1)), (some (14, false))⟩, ⟨some 16, .p (.len false (.t 15)), (some (14, false))⟩, ⟨some 17, .p (.bin .gtr (.t 16) (.c (.int .i64 12))), (some (14, false))⟩, sm 18 (.p (.pick (.t 14) (.c (.bool true)) (.t 17))), mv 19 18, ⟨some 20, .p (.mov (.t 2)), (some (19, false))⟩, ⟨some 21, .p (.len false (.t 20)), (some (19, false))⟩, ⟨some 22, .p (.bin .gtr (.t 21) (.c (.int .i64 20))), (some (19, false))⟩, sm 23 (.p (.pick (.t 19) (.c (.bool true)) (.t 22)))])
 (.cond (.t 23) (.seq (.reg [sm 24 (.call 4 []), mv 6 24])
 .ret) .skip))
 (.seq (.seq (.reg [sm 7 (.p (.mov (.c zi6)))])
 (.block 0 (.loop (.seq (.seq (.reg [mv 25 7, mv 26 0, sm 27 (.p (.len false (.t 26))), sm 28 (.p (.bin .lss (.t 25) (.t 27)))])
 (.cond (.t 28) .skip (.exit 0)))
 (.seq (.block 1 (.seq (.reg [mv 31 0, mv 32 7, sm 33 (.p (.idxA 4 none (.t 31) (.t 32))), la 34 4 33, sm 35 (.call 5 [(.t 34)]), sm 36 (.p (.un .not (.t 35)))])
 (.cond (.t 36) (.seq (.reg [sm 37 (.call 4 []), mv 6 37])
 .ret) .skip)))
 (.reg [mv 29 7, sm 30 (.p (.bin .add (.t 29) (.c (.int .i64 1)))), mv 7 30]))))))
 (.seq (.reg [mv 39 0, mv 40 1, mv 41 2, sm 42 (.call 6 [(.t 39), (.t 40), (.t 41)]), mv 38 42, sm 43 (.p (.extract 0 (.t 38))), sm 44 (.p (.extract 1 (.t 38))), sm 8 (.h (.alloc [.nils, .nils, .nils, .nils, (.bool false), .nils, .nils, .nils, .nils])), st 9 8 43, mv 9 44])
 (.seq (.reg [mv 45 0, mv 46 1, mv 47 2, sm 48 (.call 7 [(.t 45), (.t 46), (.t 47)]), sm 10 (.h (.alloc [.nils, .nils, .nils, .nils, (.bool false), .nils, .nils, .nils, .nils, zi6, zi6])), st 11 10 48])
 (.seq (.reg [sm 49 (.call 4 []), mv 50 49, ⟨some 51, .p (.mov (.t 9)), (some (50, true))⟩, ⟨some 52, .p (.fieldA 10 (.t 10)), (some (50, true))⟩, ⟨some 53, .h (.load false 1 (.t 52)), (some (50, true))⟩, ⟨some 54, .p (.bin .eql (.t 51) (.t 53)), (some (50, true))⟩, sm 55 (.p (.pick (.t 50) (.t 54) (.c (.bool false)))), mv 56 55, ⟨some 57, .h (.load true 9 (.t 8)), (some (56, true))⟩, ⟨some 58, .p (.fieldA 0 (.t 10)), (some (56, true))⟩, ⟨some 59, .h (.load true 9 (.t 58)), (some (56, true))⟩, ⟨some 60, .call 8 [(.t 57), (.t 59)], (some (56, true))⟩, sm 61 (.p (.pick (.t 56) (.t 60) (.c (.bool false)))), mv 6 61])
 .ret))))))
def rs3 : List AR := [.tmp 6]
theorem ok3 : okF Tryz.prog 3 62 ac3 rs3 = true := by kernel_rfl
def ac4 : AC := (.seq (.reg [sm 0 (.p (.mov (.c (.bool false))))])
 (.seq (.reg [sm 20 (.call 9 []), mv 19 20, sm 21 (.p (.extract 0 (.t 19))), sm 22 (.p (.extract 1 (.t 19))), sm 1 (.h (.alloc [.nils, .nils, .nils, .nils, (.bool false), .nils, .nils, .nils, .nils])), st 9 1 21, mv 2 22])
 (.seq (.seq (.reg [mv 23 2, sm 24 (.p (.bin .neq (.t 23) (.c zi6))), mv 25 24, ⟨some 26, .p (.fieldA 0 (.t 1)), (some (25, false))⟩, ⟨some 27, .h (.load false 1 (.t 26)), (some (25, false))⟩, ⟨some 28, .p (.len false (.t 27)), (some (25, false))⟩, ⟨some 29, .p (.bin .neq (.t 28) (.c (.int .i64 2))), (some (25, false))⟩, sm 30 (.p (.pick (.t 25) (.c (.bool true)) (.t 29))), mv 31 30, ⟨some 32, .p (.fieldA 2 (.t 1)), (some (31, false))⟩, ⟨some 33, .h (.load false 1 (.t 32)), (some (31, false))⟩, ⟨some 34, .p (.len false (.t 33)), (some (31, false))⟩, ⟨some 35, .p (.bin .neq (.t 34) (.c (.int .i64 2))), (some (31, false))⟩, sm 36 (.p (.pick (.t 31) (.c (.bool true)) (.t 35)))])
 (.cond (.t 36) (.seq (.reg [sm 0 (.p (.mov (.c (.bool false))))])
 .ret) .skip))
 (.seq (.reg [la 38 9 1, sm 39 (.v (.build [zi6, zi6, zi6, zi6, zi6, zi6, zi6, (.str .empty)] [(0, 1, (.c (.int .i64 3)))])), sm 40 (.call 10 [(.t 38), (.t 39)]), mv 37 40, sm 41 (.p (.extract 0 (.t 37))), sm 42 (.p (.extract 1 (.t 37))), sm 3 (.h (.alloc [.nils, .nils, .nils, .nils, (.bool false), .nils, .nils, .nils, .nils])), st 9 3 41, mv 4 42])
 (.seq (.reg [la 44 9 3, sm 45 (.v (.build [zi6, zi6, zi6, zi6, zi6, zi6, zi6, (.str .empty)] [(0, 1, (.c (.int .i64 2)))])), sm 46 (.call 10 [(.t 44), (.t 45)]), mv 43 46, sm 47 (.p (.extract 0 (.t 43))), sm 48 (.p (.extract 1 (.t 43))), sm 5 (.h (.alloc [.nils, .nils, .nils, .nils, (.bool false), .nils, .nils, .nils, .nils])), st 9 5 47, mv 6 48])
 (.seq (.reg [la 50 9 5, sm 51 (.v (.build [zi6, zi6, zi6, zi6, zi6, zi6, zi6, (.str .empty)] [(0, 1, (.c (.int .i64 2))), (2, 1, (.c (.int .i64 1)))])), sm 52 (.call 10 [(.t 50), (.t 51)]), mv 49 52, sm 53 (.p (.extract 0 (.t 49))), sm 54 (.p (.extract 1 (.t 49))), sm 7 (.h (.alloc [.nils, .nils, .nils, .nils, (.bool false), .nils, .nils, .nils, .nils])), st 9 7 53, mv 8 54])
 (.seq (.reg [la 56 9 7, sm 57 (.v (.build [zi6, zi6, zi6, zi6, zi6, zi6, zi6, (.str .empty)] [(0, 1, (.c (.int .i64 3)))])), sm 58 (.call 10 [(.t 56), (.t 57)]), mv 55 58, sm 59 (.p (.extract 0 (.t 55))), sm 60 (.p (.extract 1 (.t 55))), sm 9 (.h (.alloc [.nils, .nils, .nils, .nils, (.bool false), .nils, .nils, .nils, .nils])), st 9 9 59, mv 10 60])
 (.seq (.reg [la 62 9 7, sm 63 (.v (.build [zi6, zi6, zi6, zi6, zi6, zi6, zi6, (.str .empty)] [(0, 1, (.c (.int .i64 2)))])), sm 64 (.call 10 [(.t 62), (.t 63)]), mv 61 64, sm 65 (.p (.extract 0 (.t 61))), sm 66 (.p (.extract 1 (.t 61))), sm 11 (.h (.alloc [.nils, .nils, .nils, .nils, (.bool false), .nils, .nils, .nils, .nils])), st 9 11 65, mv 12 66])
 (.seq (.reg [la 68 9 7, sm 69 (.call 11 [(.t 68)]), mv 67 69, sm 70 (.p (.extract 0 (.t 67))), sm 71 (.p (.extract 1 (.t 67))), sm 72 (.p (.extract 2 (.t 67))), sm 13 (.h (.alloc [.nils, .nils, .nils, .nils, (.bool false), .nils, .nils, .nils, .nils])), sm 14 (.h (.alloc [.nils, .nils, .nils])), st 9 13 70, st 3 14 71, mv 15 72])
 (.seq (.reg [la 74 9 5, sm 75 (.call 11 [(.t 74)]), mv 73 75, sm 76 (.p (.extract 0 (.t 73))), sm 77 (.p (.extract 1 (.t 73))), sm 78 (.p (.extract 2 (.t 73))), sm 16 (.h (.alloc [.nils, .nils, .nils, .nils, (.bool false), .nils, .nils, .nils, .nils])), sm 17 (.h (.alloc [.nils, .nils, .nils])), st 9 16 76, st 3 17 77, mv 18 78])
 (.seq (.seq (.reg [mv 79 4, sm 80 (.p (.bin .neq (.t 79) (.c zi6))), mv 81 80, ⟨some 82, .p (.mov (.t 6)), (some (81, false))⟩, ⟨some 83, .p (.bin .neq (.t 82) (.c zi6)), (some (81, false))⟩, sm 84 (.p (.pick (.t 81) (.c (.bool true)) (.t 83))), mv 85 84, ⟨some 86, .p (.mov (.t 8)), (some (85, false))⟩, ⟨some 87, .p (.bin .neq (.t 86) (.c zi6)), (some (85, false))⟩, sm 88 (.p (.pick (.t 85) (.c (.bool true)) (.t 87))), mv 89 88, ⟨some 90, .p (.mov (.t 10)), (some (89, false))⟩, ⟨some 91, .p (.bin .neq (.t 90) (.c (.int .i64 4))), (some (89, false))⟩, sm 92 (.p (.pick (.t 89) (.c (.bool true)) (.t 91))), mv 93 92, ⟨some 94, .p (.mov (.t 12)), (some (93, false))⟩, ⟨some 95, .p (.bin .neq (.t 94) (.c (.int .i64 4))), (some (93, false))⟩, sm 96 (.p (.pick (.t 93) (.c (.bool true)) (.t 95))), mv 97 96, ⟨some 98, .p (.mov (.t 15)), (some (97, false))⟩, ⟨some 99, .p (.bin .neq (.t 98) (.c zi6)), (some (97, false))⟩, sm 100 (.p (.pick (.t 97) (.c (.bool true)) (.t 99))), mv 101 100, ⟨some 102, .p (.mov (.t 18)), (some (101, false))⟩, ⟨some 103, .p (.bin .neq (.t 102) (.c (.int .i64 4))), (some (101, false))⟩, sm 104 (.p (.pick (.t 101) (.c (.bool true)) (.t 103))), mv 105 104, ⟨some 106, .p (.fieldA 2 (.t 3)), (some (105, false))⟩, ⟨some 107, .h (.load false 1 (.t 106)), (some (105, false))⟩, ⟨some 108, .p (.len false (.t 107)), (some (105, false))⟩, ⟨some 109, .p (.bin .neq (.t 108) (.c (.int .i64 2))), (some (105, false))⟩, sm 110 (.p (.pick (.t 105) (.c (.bool true)) (.t 109))), mv 111 110, ⟨some 112, .p (.fieldA 2 (.t 3)), (some (111, false))⟩, ⟨some 113, .h (.load false 1 (.t 112)), (some (111, false))⟩, ⟨some 114, .p (.idxA 1 none (.t 113) (.c zi6)), (some (111, false))⟩, ⟨some 115, .h (.load false 1 (.t 114)), (some (111, false))⟩, ⟨some 116, .p (.len false (.t 115)), (some (111, false))⟩, ⟨some 117, .p (.bin .neq (.t 116) (.c (.int .i64 1))), (some (111, false))⟩, sm 118 (.p (.pick (.t 111) (.c (.bool true)) (.t 117)))])
 (.cond (.t 118) (.seq (.reg [sm 0 (.p (.mov (.c (.bool false))))])
 .ret) .skip))
 (.seq (.draw 34 [] [fa 119 2 3, ld 120 119, sm 121 (.p (.idxA 1 none (.t 120) (.c zi6))), ld 122 121, sm 123 (.p (.idxA 2 none (.t 122) (.c zi6))), fa 124 0 123, ld 125 124, mv 126 125, ⟨some 127, .h (.load true 9 (.t 5)), (some (126, true))⟩, ⟨some 128, .call 12 [(.t 127)], (some (126, true))⟩, ⟨some 129, .p (.un .not (.t 128)), (some (126, true))⟩, sm 130 (.p (.pick (.t 126) (.t 129) (.c (.bool false)))), mv 131 130, ⟨some 132, .h (.load true 9 (.t 7)), (some (131, true))⟩, ⟨some 133, .call 12 [(.t 132)], (some (131, true))⟩, sm 134 (.p (.pick (.t 131) (.t 133) (.c (.bool false)))), mv 135 134, ⟨some 136, .h (.load true 9 (.t 13)), (some (135, true))⟩, ⟨some 137, .call 12 [(.t 136)], (some (135, true))⟩, ⟨some 138, .p (.un .not (.t 137)), (some (135, true))⟩, sm 139 (.p (.pick (.t 135) (.t 138) (.c (.bool false)))), mv 140 139, ⟨some 141, .h (.load true 3 (.t 14)), (some (140, true))⟩, ⟨some 142, .h (.load true 9 (.t 1)), (some (140, true))⟩, ⟨some 143, .call 14 [(.t 142)], (some (140, true))⟩, ⟨some 144, .call 13 [(.t 141), (.t 143)], (some (140, true))⟩, sm 145 (.p (.pick (.t 140) (.t 144) (.c (.bool false)))), mv 146 145, ⟨some 147, .h (.load true 3 (.t 14)), (some (146, true))⟩, ⟨some 148, .call 15 [(.t 147)], (some (146, true))⟩, ⟨some 149, .h (.load true 9 (.t 1)), (some (146, true))⟩, ⟨some 150, .call 8 [(.t 148), (.t 149)], (some (146, true))⟩, sm 151 (.p (.pick (.t 146) (.t 150) (.c (.bool false)))), mv 0 151])
 .ret))))))))))))
def rs4 : List AR := [.tmp 0]
theorem ok4 : okF Tryz.prog 4 152 ac4 rs4 = true := by kernel_rfl
def ac5 : AC := (.seq (.reg [sm 1 (.h (.box (.t 0))), sm 2 (.p (.mov (.c (.bool false))))])
 (.seq (.reg [sm 3 (.p (.mov (.c zi6)))])
 (.seq (.seq (.reg [sm 4 (.p (.mov (.c zi6)))])
 (.block 0 (.loop (.seq (.seq (.reg [mv 5 4, fa 6 2 1, ld 7 6, sm 8 (.p (.len false (.t 7))), sm 9 (.p (.bin .lss (.t 5) (.t 8))), mv 10 9, ⟨some 11, .p (.mov (.t 4)), (some (10, true))⟩, ⟨some 12, .p (.bin .lss (.t 11) (.c (.int .i64 80))), (some (10, true))⟩, sm 13 (.p (.pick (.t 10) (.t 12) (.c (.bool false))))])
 (.cond (.t 13) .skip (.exit 0)))
 (.seq (.block 1 (.reg [mv 16 3, fa 17 2 1, ld 18 17, mv 19 4, sm 20 (.p (.idxA 2 none (.t 18) (.t 19))), fa 21 1 20, ld 22 21, sm 23 (.p (.len true (.t 22))), sm 24 (.p (.binw .add (.t 16) (.t 23))), mv 3 24]))
 (.reg [mv 14 4, sm 15 (.p (.binw .add (.t 14) (.c (.int .i64 1)))), mv 4 15]))))))
 (.seq (.reg [mv 25 3, sm 26 (.p (.bin .leq (.t 25) (.c (.int .i64 12000)))), mv 27 26, ⟨some 28, .p (.fieldA 2 (.t 1)), (some (27, true))⟩, ⟨some 29, .h (.load false 1 (.t 28)), (some (27, true))⟩, ⟨some 30, .p (.len false (.t 29)), (some (27, true))⟩, ⟨some 31, .p (.bin .leq (.t 30) (.c (.int .i64 80))), (some (27, true))⟩, sm 32 (.p (.pick (.t 27) (.t 31) (.c (.bool false)))), mv 33 32, ⟨some 34, .p (.fieldA 3 (.t 1)), (some (33, true))⟩, ⟨some 35, .h (.load false 1 (.t 34)), (some (33, true))⟩, ⟨some 36, .p (.len false (.t 35)), (some (33, true))⟩, ⟨some 37, .p (.bin .leq (.t 36) (.c (.int .i64 80))), (some (33, true))⟩, sm 38 (.p (.pick (.t 33) (.t 37) (.c (.bool false)))), mv 2 38])
 .ret))))
def rs5 : List AR := [.tmp 2]
theorem ok5 : okF Tryz.prog 5 39 ac5 rs5 = true := by kernel_rfl
def ac6 : AC := (.seq (.reg [sm 3 (.h (.box (.t 0))), sm 6 (.h (.alloc [.nils, .nils, .nils, .nils, (.bool false), .nils, .nils, .nils, .nils])), sm 7 (.p (.mov (.c zi6)))])
 (.seq (.seq (.reg [ld 14 3, sm 15 (.p (.len false (.t 14))), sm 16 (.p (.bin .lss (.t 15) (.c (.int .i64 1)))), mv 17 16, ⟨some 18, .h (.load false 1 (.t 3)), (some (17, false))⟩, ⟨some 19, .p (.len false (.t 18)), (some (17, false))⟩, ⟨some 20, .p (.bin .gtr (.t 19) (.c (.int .i64 8))), (some (17, false))⟩, sm 21 (.p (.pick (.t 17) (.c (.bool true)) (.t 20))), mv 22 21, ⟨some 23, .p (.mov (.t 2)), (some (22, false))⟩, ⟨some 24, .p (.len false (.t 23)), (some (22, false))⟩, ⟨some 25, .p (.bin .gtr (.t 24) (.c (.int .i64 16))), (some (22, false))⟩, sm 26 (.p (.pick (.t 22) (.c (.bool true)) (.t 25)))])
 (.cond (.t 26) (.seq (.reg [sm 27 (.v (.build [.nils, .nils, .nils, .nils, (.bool false), .nils, .nils, .nils, .nils] [])), st 9 6 27, sm 7 (.p (.mov (.c (.int .i64 2))))])
 .ret) .skip))
 (.seq (.reg [sm 28 (.p (.mkfn 16 [(.t 3)])), mv 8 28])
 (.seq (.seq (.reg [mv 29 1, sm 30 (.p (.len false (.t 29))), ld 31 3, sm 32 (.p (.len false (.t 31))), sm 33 (.p (.bin .neq (.t 30) (.t 32))), mv 34 33, ⟨some 35, .p (.mov (.t 2)), (some (34, false))⟩, ⟨some 36, .p (.mov (.t 8)), (some (34, false))⟩, ⟨some 37, .call 18 [(.t 35), (.t 36)], (some (34, false))⟩, sm 38 (.p (.pick (.t 34) (.c (.bool true)) (.t 37)))])
 (.cond (.t 38) (.seq (.reg [sm 39 (.v (.build [.nils, .nils, .nils, .nils, (.bool false), .nils, .nils, .nils, .nils] [])), st 9 6 39, sm 7 (.p (.mov (.c (.int .i64 1))))])
 .ret) .skip))
 (.seq (.draw 11 [(5, 7), (9, 10), (1, 10), (4, 10), (5, 10), (7, 10)] [mv 40 2, sm 41 (.call 19 [(.t 40)]), mv 42 2, sm 43 (.p (.len false (.t 42))), sm 44 (.l (.make 1 24 [.nils] (.t 43))), ld 45 3, sm 46 (.p (.len false (.t 45))), sm 47 (.l (.make 1 24 [.nils] (.t 46))), sm 48 (.v (.build [.nils, .nils, .nils, .nils, (.bool false), .nils, .nils, .nils, .nils] [(1, 1, (.t 41)), (2, 1, (.t 44)), (3, 1, (.t 47))])), sm 9 (.h (.alloc [.nils, .nils, .nils, .nils, (.bool false), .nils, .nils, .nils, .nils])), st 9 9 48])
 (.seq (.seq (.reg [ld 49 3, sm 50 (.p (.len false (.t 49))), sm 51 (.p (.mov (.c zi6)))])
 (.block 0 (.loop (.seq (.reg [sm 52 (.p (.bin .lss (.t 51) (.t 50)))])
 (.seq (.cond (.t 52) .skip (.exit 0))
 (.seq (.block 1 (.seq (.reg [mv 53 51, sm 54 (.p (.idxA 4 none (.t 49) (.t 51))), la 55 4 54, sm 11 (.h (.alloc [zi6, zi6, .nils, .nils])), mv 10 53, st 4 11 55])
 (.seq (.draw 12 [(9, 10), (5, 10), (0, 10), (4, 10)] [la 57 4 11, mv 58 1, mv 59 10, sm 60 (.p (.idxA 1 none (.t 58) (.t 59))), ld 61 60, sm 62 (.call 20 [(.t 57), (.t 61)]), mv 56 62, sm 63 (.p (.extract 0 (.t 56))), sm 64 (.p (.extract 1 (.t 56))), sm 12 (.h (.alloc [.nils, .nils, zi6, zu3, zu3, zu3, zu3, zu3, zu3, zu3, zu3, zi6, zi6, zi6, zi6, zi6, zi6, (.bool false), (.bool false), (.bool false), (.bool false), zi6, zi6, zi6, zi6, zi6, zi6, zi6, zi6, (.str .empty), zi6, zu3, zu3, zi6, zi6, .nils, .nils, zu3, zu3, zu3, zu3, zi6, zi6, zi6, zi6, .nils, zi6])), st 47 12 63, mv 13 64])
 (.seq (.seq (.reg [mv 65 13, sm 66 (.p (.bin .neq (.t 65) (.c zi6)))])
 (.cond (.t 66) (.seq (.reg [sm 67 (.v (.build [.nils, .nils, .nils, .nils, (.bool false), .nils, .nils, .nils, .nils] [])), mv 68 13, st 9 6 67, mv 7 68])
 .ret) .skip))
 (.reg [fa 69 0 9, ld 70 69, la 71 47 12, sm 72 (.d (.bslice 47 1 [.nils, .nils, zi6, zu3, zu3, zu3, zu3, zu3, zu3, zu3, zu3, zi6, zi6, zi6, zi6, zi6, zi6, (.bool false), (.bool false), (.bool false), (.bool false), zi6, zi6, zi6, zi6, zi6, zi6, zi6, zi6, (.str .empty), zi6, zu3, zu3, zi6, zi6, .nils, .nils, zu3, zu3, zu3, zu3, zi6, zi6, zi6, zi6, .nils, zi6] [(0, (.t 71))])), sm 73 (.l (.append 47 384 (.t 70) (.t 72))), fa 74 0 9, st 1 74 73])))))
 (.reg [sm 75 (.p (.bin .add (.t 51) (.c (.int .i64 1)))), mv 51 75])))))))
 (.seq (.reg [la 76 9 9, st 9 6 76, sm 7 (.p (.mov (.c zi6)))])
 .ret)))))))
def rs6 : List AR := [.cell 6 true 9, .tmp 7]
theorem ok6 : okF Tryz.prog 6 77 ac6 rs6 = true := by kernel_rfl
def ac7 : AC := (.seq (.reg [sm 6 (.h (.alloc [.nils, .nils, .nils, .nils, (.bool false), .nils, .nils, .nils, .nils, zi6, zi6]))])
 (.seq (.seq (.reg [mv 12 0, sm 13 (.p (.len false (.t 12))), sm 14 (.p (.bin .lss (.t 13) (.c (.int .i64 1)))), mv 15 14, ⟨some 16, .p (.mov (.t 0)), (some (15, false))⟩, ⟨some 17, .p (.len false (.t 16)), (some (15, false))⟩, ⟨some 18, .p (.bin .gtr (.t 17) (.c (.int .i64 8))), (some (15, false))⟩, sm 19 (.p (.pick (.t 15) (.c (.bool true)) (.t 18))), mv 20 19, ⟨some 21, .p (.mov (.t 2)), (some (20, false))⟩, ⟨some 22, .p (.len false (.t 21)), (some (20, false))⟩, ⟨some 23, .p (.bin .gtr (.t 22) (.c (.int .i64 16))), (some (20, false))⟩, sm 24 (.p (.pick (.t 20) (.c (.bool true)) (.t 23)))])
 (.cond (.t 24) (.seq (.reg [sm 25 (.v (.build [.nils, .nils, .nils, .nils, (.bool false), .nils, .nils, .nils, .nils, zi6, zi6] [(10, 1, (.c (.int .i64 2)))])), st 11 6 25])
 .ret) .skip))
 (.seq (.seq (.reg [mv 26 1, sm 27 (.p (.len false (.t 26))), mv 28 0, sm 29 (.p (.len false (.t 28))), sm 30 (.p (.bin .neq (.t 27) (.t 29)))])
 (.cond (.t 30) (.seq (.reg [sm 31 (.v (.build [.nils, .nils, .nils, .nils, (.bool false), .nils, .nils, .nils, .nils, zi6, zi6] [(10, 1, (.c (.int .i64 1)))])), st 11 6 31])
 .ret) .skip))
 (.seq (.seq (.reg [sm 7 (.p (.mov (.c zi6)))])
 (.block 0 (.loop (.seq (.seq (.reg [mv 32 7, mv 33 2, sm 34 (.p (.len false (.t 33))), sm 35 (.p (.bin .lss (.t 32) (.t 34)))])
 (.cond (.t 35) .skip (.exit 0)))
 (.seq (.block 1 (.seq (.reg [mv 38 2, mv 39 7, sm 40 (.p (.idxA 2 none (.t 38) (.t 39))), la 41 2 40, sm 8 (.h (.alloc [zi6, zi6])), st 2 8 41])
 (.seq (.reg [fa 42 0 8, ld 43 42, sm 44 (.p (.bin .lss (.t 43) (.c zi6))), mv 45 44, ⟨some 46, .p (.fieldA 0 (.t 8)), (some (45, false))⟩, ⟨some 47, .h (.load false 1 (.t 46)), (some (45, false))⟩, ⟨some 48, .p (.mov (.t 0)), (some (45, false))⟩, ⟨some 49, .p (.len false (.t 48)), (some (45, false))⟩, ⟨some 50, .p (.bin .geq (.t 47) (.t 49)), (some (45, false))⟩, sm 51 (.p (.pick (.t 45) (.c (.bool true)) (.t 50))), mv 52 51, ⟨some 53, .p (.fieldA 1 (.t 8)), (some (52, false))⟩, ⟨some 54, .h (.load false 1 (.t 53)), (some (52, false))⟩, ⟨some 55, .p (.bin .lss (.t 54) (.c zi6)), (some (52, false))⟩, sm 56 (.p (.pick (.t 52) (.c (.bool true)) (.t 55))), mv 57 56, ⟨some 58, .p (.fieldA 1 (.t 8)), (some (57, false))⟩, ⟨some 59, .h (.load false 1 (.t 58)), (some (57, false))⟩, ⟨some 60, .p (.mov (.t 0)), (some (57, false))⟩, ⟨some 61, .p (.len false (.t 60)), (some (57, false))⟩, ⟨some 62, .p (.bin .geq (.t 59) (.t 61)), (some (57, false))⟩, sm 63 (.p (.pick (.t 57) (.c (.bool true)) (.t 62))), mv 64 63, ⟨some 65, .p (.fieldA 0 (.t 8)), (some (64, false))⟩, ⟨some 66, .h (.load false 1 (.t 65)), (some (64, false))⟩, ⟨some 67, .p (.fieldA 1 (.t 8)), (some (64, false))⟩, ⟨some 68, .h (.load false 1 (.t 67)), (some (64, false))⟩, ⟨some 69, .p (.bin .eql (.t 66) (.t 68)), (some (64, false))⟩, sm 70 (.p (.pick (.t 64) (.c (.bool true)) (.t 69)))])
 (.cond (.t 70) (.seq (.reg [sm 71 (.v (.build [.nils, .nils, .nils, .nils, (.bool false), .nils, .nils, .nils, .nils, zi6, zi6] [(10, 1, (.c (.int .i64 1)))])), st 11 6 71])
 .ret) .skip))))
 (.reg [mv 36 7, sm 37 (.p (.bin .add (.t 36) (.c (.int .i64 1)))), mv 7 37]))))))
 (.seq (.draw 12 [(0, 2), (10, 11), (2, 11), (0, 11), (5, 11), (8, 11)] [sm 72 (.l (.bslice 2 0 [zi6, zi6] [])), mv 73 2, sm 74 (.l (.append 2 16 (.t 72) (.t 73))), mv 75 2, sm 76 (.p (.len false (.t 75))), sm 77 (.l (.make 1 24 [.nils] (.t 76))), mv 78 0, sm 79 (.p (.len false (.t 78))), sm 80 (.l (.make 1 24 [.nils] (.t 79))), sm 81 (.v (.build [.nils, .nils, .nils, .nils, (.bool false), .nils, .nils, .nils, .nils] [(1, 1, (.t 74)), (2, 1, (.t 77)), (3, 1, (.t 80))])), sm 9 (.h (.alloc [.nils, .nils, .nils, .nils, (.bool false), .nils, .nils, .nils, .nils])), st 9 9 81])
 (.seq (.seq (.reg [sm 10 (.p (.mov (.c zi6)))])
 (.block 2 (.loop (.seq (.seq (.reg [mv 82 10, mv 83 0, sm 84 (.p (.len false (.t 83))), sm 85 (.p (.bin .lss (.t 82) (.t 84)))])
 (.cond (.t 85) .skip (.exit 2)))
 (.seq (.block 3 (.seq (.draw 11 [(9, 10), (8, 10), (3, 10), (7, 10)] [mv 88 0, mv 89 10, sm 90 (.p (.idxA 4 none (.t 88) (.t 89))), la 91 4 90, mv 92 1, mv 93 10, sm 94 (.p (.idxA 1 none (.t 92) (.t 93))), ld 95 94, sm 96 (.call 21 [(.t 91), (.t 95)]), sm 11 (.h (.alloc [.nils, .nils, zi6, zu3, zu3, zu3, zu3, zu3, zu3, zu3, zu3, zi6, zi6, zi6, zi6, zi6, zi6, (.bool false), (.bool false), (.bool false), (.bool false), zi6, zi6, zi6, zi6, zi6, zi6, zi6, zi6, (.str .empty), zi6, zu3, zu3, zi6, zi6, .nils, .nils, zu3, zu3, zu3, zu3, zi6, zi6, zi6, zi6, .nils, zi6, zi6, (.bool false), zu3, zu3, zu3, zu3, zu3, zu3, zu3, zu3, zu3, zu3, zu3, zu3, zu3, zu3, zu3, zu3, zu3, zu3, zu3, zu3, zu3, zu3, zu3, zu3, zu3, zu3, (.bool false), (.bool false), (.bool false), zi6, zu3, zu3, zu3, zu3, zu3, zu3, zu3, zu3, zu3, zu3, zu3, zu3, zu3, zu3, zu3, zu3, zu3, zu3, zu3, zu3, zu3, zu3, zu3, zu3, zu3, zu3, (.bool false), (.bool false), (.bool false), zi6, zu3, .nils, .nils, (.bool false), (.bool false), zi6, zu3, zi6, zu3, zi6, zi6])), st 120 11 96])
 (.seq (.seq (.reg [fa 97 119 11, ld 98 97, sm 99 (.p (.bin .neq (.t 98) (.c zi6)))])
 (.cond (.t 99) (.seq (.reg [fa 100 119 11, ld 101 100, sm 102 (.v (.build [.nils, .nils, .nils, .nils, (.bool false), .nils, .nils, .nils, .nils, zi6, zi6] [(10, 1, (.t 101))])), st 11 6 102])
 .ret) .skip))
 (.reg [fa 103 0 9, ld 104 103, fa 105 0 11, la 106 47 105, sm 107 (.d (.bslice 47 1 [.nils, .nils, zi6, zu3, zu3, zu3, zu3, zu3, zu3, zu3, zu3, zi6, zi6, zi6, zi6, zi6, zi6, (.bool false), (.bool false), (.bool false), (.bool false), zi6, zi6, zi6, zi6, zi6, zi6, zi6, zi6, (.str .empty), zi6, zu3, zu3, zi6, zi6, .nils, .nils, zu3, zu3, zu3, zu3, zi6, zi6, zi6, zi6, .nils, zi6] [(0, (.t 106))])), sm 108 (.l (.append 47 384 (.t 104) (.t 107))), fa 109 0 9, st 1 109 108]))))
 (.reg [mv 86 10, sm 87 (.p (.bin .add (.t 86) (.c (.int .i64 1)))), mv 10 87]))))))
 (.seq (.reg [la 110 9 9, sm 111 (.v (.build [.nils, .nils, .nils, .nils, (.bool false), .nils, .nils, .nils, .nils, zi6, zi6] [(0, 9, (.t 110))])), st 11 6 111])
 .ret)))))))
def rs7 : List AR := [.cell 6 true 11]
theorem ok7 : okF Tryz.prog 7 112 ac7 rs7 = true := by kernel_rfl
def ac8 : AC := (.seq (.reg [sm 2 (.h (.box (.t 0))), sm 3 (.h (.box (.t 1))), sm 4 (.p (.mov (.c (.bool false))))])
 (.seq (.seq (.reg [fa 6 0 2, ld 7 6, sm 8 (.p (.len false (.t 7))), fa 9 0 3, ld 10 9, sm 11 (.p (.len false (.t 10))), sm 12 (.p (.bin .neq (.t 8) (.t 11))), mv 13 12, ⟨some 14, .p (.fieldA 2 (.t 2)), (some (13, false))⟩, ⟨some 15, .h (.load false 1 (.t 14)), (some (13, false))⟩, ⟨some 16, .p (.fieldA 2 (.t 3)), (some (13, false))⟩, ⟨some 17, .h (.load false 1 (.t 16)), (some (13, false))⟩, ⟨some 18, .call 22 [(.t 15), (.t 17)], (some (13, false))⟩, ⟨some 19, .p (.un .not (.t 18)), (some (13, false))⟩, sm 20 (.p (.pick (.t 13) (.c (.bool true)) (.t 19))), mv 21 20, ⟨some 22, .p (.fieldA 3 (.t 2)), (some (21, false))⟩, ⟨some 23, .h (.load false 1 (.t 22)), (some (21, false))⟩, ⟨some 24, .p (.fieldA 3 (.t 3)), (some (21, false))⟩, ⟨some 25, .h (.load false 1 (.t 24)), (some (21, false))⟩, ⟨some 26, .call 23 [(.t 23), (.t 25)], (some (21, false))⟩, ⟨some 27, .p (.un .not (.t 26)), (some (21, false))⟩, sm 28 (.p (.pick (.t 21) (.c (.bool true)) (.t 27))), mv 29 28, ⟨some 30, .p (.fieldA 4 (.t 2)), (some (29, false))⟩, ⟨some 31, .p (.fieldA 0 (.t 30)), (some (29, false))⟩, ⟨some 32, .h (.load false 1 (.t 31)), (some (29, false))⟩, ⟨some 33, .p (.fieldA 4 (.t 3)), (some (29, false))⟩, ⟨some 34, .p (.fieldA 0 (.t 33)), (some (29, false))⟩, ⟨some 35, .h (.load false 1 (.t 34)), (some (29, false))⟩, ⟨some 36, .p (.beq true (.t 32) (.t 35)), (some (29, false))⟩, sm 37 (.p (.pick (.t 29) (.c (.bool true)) (.t 36))), mv 38 37, ⟨some 39, .p (.fieldA 4 (.t 2)), (some (38, false))⟩, ⟨some 40, .p (.fieldA 1 (.t 39)), (some (38, false))⟩, ⟨some 41, .h (.load false 1 (.t 40)), (some (38, false))⟩, ⟨some 42, .p (.fieldA 4 (.t 3)), (some (38, false))⟩, ⟨some 43, .p (.fieldA 1 (.t 42)), (some (38, false))⟩, ⟨some 44, .h (.load false 1 (.t 43)), (some (38, false))⟩, ⟨some 45, .call 24 [(.t 41), (.t 44)], (some (38, false))⟩, ⟨some 46, .p (.un .not (.t 45)), (some (38, false))⟩, sm 47 (.p (.pick (.t 38) (.c (.bool true)) (.t 46))), mv 48 47, ⟨some 49, .p (.fieldA 4 (.t 2)), (some (48, false))⟩, ⟨some 50, .p (.fieldA 3 (.t 49)), (some (48, false))⟩, ⟨some 51, .h (.load false 1 (.t 50)), (some (48, false))⟩, ⟨some 52, .p (.fieldA 4 (.t 3)), (some (48, false))⟩, ⟨some 53, .p (.fieldA 3 (.t 52)), (some (48, false))⟩, ⟨some 54, .h (.load false 1 (.t 53)), (some (48, false))⟩, ⟨some 55, .call 24 [(.t 51), (.t 54)], (some (48, false))⟩, ⟨some 56, .p (.un .not (.t 55)), (some (48, false))⟩, sm 57 (.p (.pick (.t 48) (.c (.bool true)) (.t 56)))])
 (.cond (.t 57) (.seq (.reg [sm 4 (.p (.mov (.c (.bool false))))])
 .ret) .skip))
 (.seq (.seq (.reg [sm 5 (.p (.mov (.c zi6)))])
 (.block 0 (.loop (.seq (.seq (.reg [mv 58 5, fa 59 0 2, ld 60 59, sm 61 (.p (.len false (.t 60))), sm 62 (.p (.bin .lss (.t 58) (.t 61)))])
 (.cond (.t 62) .skip (.exit 0)))
 (.seq (.block 1 (.seq (.draw 12 [] [fa 65 0 2, ld 66 65, mv 67 5, sm 68 (.p (.idxA 47 none (.t 66) (.t 67))), la 69 47 68, fa 70 0 3, ld 71 70, mv 72 5, sm 73 (.p (.idxA 47 none (.t 71) (.t 72))), la 74 47 73, sm 75 (.call 25 [(.t 69), (.t 74)]), sm 76 (.p (.un .not (.t 75)))])
 (.cond (.t 76) (.seq (.reg [sm 4 (.p (.mov (.c (.bool false))))])
 .ret) .skip)))
 (.reg [mv 63 5, sm 64 (.p (.bin .add (.t 63) (.c (.int .i64 1)))), mv 5 64]))))))
 (.seq (.reg [fa 77 4 2, fa 78 2 77, ld 79 78, fa 80 1 2, ld 81 80, fa 82 4 2, fa 83 4 82, ld 84 83, sm 85 (.v (.build [.nils, .nils, .nils] [(0, 1, (.t 79)), (1, 1, (.t 81)), (2, 1, (.t 84))])), fa 86 4 3, fa 87 2 86, ld 88 87, fa 89 1 3, ld 90 89, fa 91 4 3, fa 92 4 91, ld 93 92, sm 94 (.v (.build [.nils, .nils, .nils] [(0, 1, (.t 88)), (1, 1, (.t 90)), (2, 1, (.t 93))])), sm 95 (.call 13 [(.t 85), (.t 94)]), mv 4 95])
 .ret))))
def rs8 : List AR := [.tmp 4]
theorem ok8 : okF Tryz.prog 8 96 ac8 rs8 = true := by kernel_rfl
def ac9 : AC := (.seq (.reg [sm 0 (.h (.alloc [.nils, .nils, .nils, .nils, (.bool false), .nils, .nils, .nils, .nils])), sm 1 (.p (.mov (.c zi6)))])
 (.seq (.reg [sm 3 (.v (.build [zi6, zi6, .nils, .nils] [(1, 1, (.c (.int .i64 1)))])), sm 2 (.h (.alloc [zi6, zi6, .nils, .nils])), st 4 2 3])
 (.seq (.reg [la 4 4 2, la 5 4 2, sm 6 (.d (.bslice 4 2 [zi6, zi6, .nils, .nils] [(0, (.t 4)), (4, (.t 5))])), sm 7 (.d (.bslice 1 2 [zi6] [(0, (.c (.int .i64 1))), (1, (.c (.int .i64 1)))])), sm 8 (.v (.build [zi6, zi6] [(0, 1, (.c zi6)), (1, 1, (.c (.int .i64 1)))])), sm 9 (.v (.build [zi6, zi6] [(0, 1, (.c (.int .i64 1))), (1, 1, (.c zi6))])), sm 10 (.d (.bslice 2 2 [zi6, zi6] [(0, (.t 8)), (2, (.t 9))])), sm 11 (.call 6 [(.t 6), (.t 7), (.t 10)]), sm 12 (.p (.extract 0 (.t 11))), sm 13 (.p (.extract 1 (.t 11))), st 9 0 12, mv 1 13])
 .ret)))
def rs9 : List AR := [.cell 0 true 9, .tmp 1]
theorem ok9 : okF Tryz.prog 9 14 ac9 rs9 = true := by kernel_rfl
def ac10 : AC := (.seq (.reg [sm 2 (.h (.box (.t 0))), sm 3 (.h (.box (.t 1))), sm 4 (.h (.alloc [.nils, .nils, .nils, .nils, (.bool false), .nils, .nils, .nils, .nils])), sm 5 (.p (.mov (.c zi6)))])
 (.seq (.reg [la 10 9 2, la 11 8 3, sm 12 (.v (.build [.nils, .nils, .nils, .nils, (.bool false), .nils, .nils, .nils, .nils, zi6, zi6, zi6, zi6, zi6, zi6, zi6, (.str .empty)] [(0, 9, (.t 10)), (9, 8, (.t 11))])), sm 13 (.h (.box (.t 12))), mv 6 13])
 (.seq (.reg [sm 15 (.m .mk), mv 16 6, sm 17 (.p (.mkme 26 [(.t 16)])), ⟨none, .m (.set (.c (.i .i64)) (.t 15) (.c (.int .i64 1)) (.t 17)), none⟩, mv 18 6, sm 19 (.p (.mkme 27 [(.t 18)])), ⟨none, .m (.set (.c (.i .i64)) (.t 15) (.c (.int .i64 2)) (.t 19)), none⟩, mv 20 6, sm 21 (.p (.mkme 28 [(.t 20)])), ⟨none, .m (.set (.c (.i .i64)) (.t 15) (.c (.int .i64 3)) (.t 21)), none⟩, mv 22 15, fa 23 0 3, ld 24 23, sm 25 (.m (.get true (.c (.i .i64)) .nilf (.t 22) (.t 24))), mv 14 25, sm 26 (.p (.extract 0 (.t 14))), sm 27 (.p (.extract 1 (.t 14))), mv 7 26, mv 8 27])
 (.seq (.seq (.reg [mv 28 8, sm 29 (.p (.un .not (.t 28)))])
 (.cond (.t 29) (.seq (.reg [la 30 9 2, st 9 4 30, sm 5 (.p (.mov (.c (.int .i64 1))))])
 .ret) .skip))
 (.seq (.seq (.reg [mv 31 7, sm 32 (.callv (.t 31) []), mv 9 32])
 (.seq (.reg [mv 33 9, sm 34 (.p (.bin .neq (.t 33) (.c zi6)))])
 (.cond (.t 34) (.seq (.reg [la 35 9 2, mv 36 9, st 9 4 35, mv 5 36])
 .ret) .skip)))
 (.seq (.reg [mv 37 6, sm 38 (.p (.nilchk (.t 37))), fa 39 0 38, la 40 9 39, st 9 4 40, sm 5 (.p (.mov (.c zi6)))])
 .ret))))))
def rs10 : List AR := [.cell 4 true 9, .tmp 5]
theorem ok10 : okF Tryz.prog 10 41 ac10 rs10 = true := by kernel_rfl
def ac11 : AC := (.seq (.reg [sm 1 (.h (.box (.t 0))), sm 2 (.h (.alloc [.nils, .nils, .nils, .nils, (.bool false), .nils, .nils, .nils, .nils])), sm 3 (.h (.alloc [.nils, .nils, .nils])), sm 4 (.p (.mov (.c zi6)))])
 (.seq (.seq (.reg [la 6 9 1, sm 7 (.call 12 [(.t 6)]), sm 8 (.p (.un .not (.t 7)))])
 (.cond (.t 8) (.seq (.reg [la 9 9 1, sm 10 (.v (.build [.nils, .nils, .nils] [])), st 9 2 9, st 3 3 10, sm 4 (.p (.mov (.c (.int .i64 4))))])
 .ret) .skip))
 (.seq (.reg [fa 11 4 1, fa 12 2 11, ld 13 12, fa 14 1 1, ld 15 14, fa 16 4 1, fa 17 4 16, ld 18 17, sm 19 (.v (.build [.nils, .nils, .nils] [(0, 1, (.t 13)), (1, 1, (.t 15)), (2, 1, (.t 18))])), sm 5 (.h (.alloc [.nils, .nils, .nils])), st 3 5 19])
 (.seq (.reg [sm 20 (.v (.build [(.bool false), .nils, .nils, .nils, .nils] [])), fa 21 4 1, st 5 21 20])
 (.seq (.draw 5 [(0, 2), (1, 3), (2, 3), (0, 3)] [la 22 9 1, la 23 3 5, st 9 2 22, st 3 3 23, sm 4 (.p (.mov (.c zi6)))])
 .ret)))))
def rs11 : List AR := [.cell 2 true 9, .cell 3 true 3, .tmp 4]
theorem ok11 : okF Tryz.prog 11 24 ac11 rs11 = true := by kernel_rfl
def ac12 : AC := (.seq (.reg [sm 1 (.h (.box (.t 0))), sm 2 (.p (.mov (.c (.bool false))))])
 (.seq (.reg [fa 3 4 1, fa 4 0 3, ld 5 4, mv 6 5, ⟨some 7, .p (.fieldA 4 (.t 1)), (some (6, true))⟩, ⟨some 8, .p (.fieldA 1 (.t 7)), (some (6, true))⟩, ⟨some 9, .h (.load false 1 (.t 8)), (some (6, true))⟩, ⟨some 10, .call 29 [(.t 9), (.c (.bool false))], (some (6, true))⟩, ⟨some 11, .p (.un .not (.t 10)), (some (6, true))⟩, sm 12 (.p (.pick (.t 6) (.t 11) (.c (.bool false)))), mv 13 12, ⟨some 14, .p (.fieldA 4 (.t 1)), (some (13, true))⟩, ⟨some 15, .p (.fieldA 3 (.t 14)), (some (13, true))⟩, ⟨some 16, .h (.load false 1 (.t 15)), (some (13, true))⟩, ⟨some 17, .call 29 [(.t 16), (.c (.bool false))], (some (13, true))⟩, ⟨some 18, .p (.un .not (.t 17)), (some (13, true))⟩, sm 19 (.p (.pick (.t 13) (.t 18) (.c (.bool false)))), mv 2 19])
 .ret))
def rs12 : List AR := [.tmp 2]
theorem ok12 : okF Tryz.prog 12 20 ac12 rs12 = true := by kernel_rfl
def ac13 : AC := (.seq (.reg [sm 2 (.h (.box (.t 0))), sm 3 (.h (.box (.t 1))), sm 4 (.p (.mov (.c (.bool false))))])
 (.seq (.seq (.reg [fa 9 0 2, ld 10 9, sm 11 (.p (.len false (.t 10))), fa 12 0 3, ld 13 12, sm 14 (.p (.len false (.t 13))), sm 15 (.p (.bin .neq (.t 11) (.t 14))), mv 16 15, ⟨some 17, .p (.fieldA 1 (.t 2)), (some (16, false))⟩, ⟨some 18, .h (.load false 1 (.t 17)), (some (16, false))⟩, ⟨some 19, .p (.len false (.t 18)), (some (16, false))⟩, ⟨some 20, .p (.fieldA 1 (.t 3)), (some (16, false))⟩, ⟨some 21, .h (.load false 1 (.t 20)), (some (16, false))⟩, ⟨some 22, .p (.len false (.t 21)), (some (16, false))⟩, ⟨some 23, .p (.bin .neq (.t 19) (.t 22)), (some (16, false))⟩, sm 24 (.p (.pick (.t 16) (.c (.bool true)) (.t 23))), mv 25 24, ⟨some 26, .p (.fieldA 2 (.t 2)), (some (25, false))⟩, ⟨some 27, .h (.load false 1 (.t 26)), (some (25, false))⟩, ⟨some 28, .p (.len false (.t 27)), (some (25, false))⟩, ⟨some 29, .p (.fieldA 2 (.t 3)), (some (25, false))⟩, ⟨some 30, .h (.load false 1 (.t 29)), (some (25, false))⟩, ⟨some 31, .p (.len false (.t 30)), (some (25, false))⟩, ⟨some 32, .p (.bin .neq (.t 28) (.t 31)), (some (25, false))⟩, sm 33 (.p (.pick (.t 25) (.c (.bool true)) (.t 32)))])
 (.cond (.t 33) (.seq (.reg [sm 4 (.p (.mov (.c (.bool false))))])
 .ret) .skip))
 (.seq (.seq (.reg [sm 5 (.p (.mov (.c zi6)))])
 (.block 0 (.loop (.seq (.seq (.reg [mv 34 5, fa 35 0 2, ld 36 35, sm 37 (.p (.len false (.t 36))), sm 38 (.p (.bin .lss (.t 34) (.t 37)))])
 (.cond (.t 38) .skip (.exit 0)))
 (.seq (.block 1 (.seq (.draw 12 [] [fa 41 0 2, ld 42 41, mv 43 5, sm 44 (.p (.idxA 47 none (.t 42) (.t 43))), la 45 47 44, fa 46 0 3, ld 47 46, mv 48 5, sm 49 (.p (.idxA 47 none (.t 47) (.t 48))), la 50 47 49, sm 51 (.call 25 [(.t 45), (.t 50)]), sm 52 (.p (.un .not (.t 51)))])
 (.cond (.t 52) (.seq (.reg [sm 4 (.p (.mov (.c (.bool false))))])
 .ret) .skip)))
 (.reg [mv 39 5, sm 40 (.p (.bin .add (.t 39) (.c (.int .i64 1)))), mv 5 40]))))))
 (.seq (.seq (.reg [sm 6 (.p (.mov (.c zi6)))])
 (.block 2 (.loop (.seq (.seq (.reg [mv 53 6, fa 54 1 2, ld 55 54, sm 56 (.p (.len false (.t 55))), sm 57 (.p (.bin .lss (.t 53) (.t 56)))])
 (.cond (.t 57) .skip (.exit 2)))
 (.seq (.block 3 (.seq (.draw 11 [] [fa 60 1 2, ld 61 60, mv 62 6, sm 63 (.p (.idxA 2 none (.t 61) (.t 62))), la 64 2 63, fa 65 1 3, ld 66 65, mv 67 6, sm 68 (.p (.idxA 2 none (.t 66) (.t 67))), la 69 2 68, sm 70 (.v (.eqa true [(.i .i64), (.i .i64)] (.t 64) (.t 69)))])
 (.cond (.t 70) (.seq (.reg [sm 4 (.p (.mov (.c (.bool false))))])
 .ret) .skip)))
 (.reg [mv 58 6, sm 59 (.p (.bin .add (.t 58) (.c (.int .i64 1)))), mv 6 59]))))))
 (.seq (.seq (.reg [sm 7 (.p (.mov (.c zi6)))])
 (.block 4 (.loop (.seq (.seq (.reg [mv 71 7, fa 72 2 2, ld 73 72, sm 74 (.p (.len false (.t 73))), sm 75 (.p (.bin .lss (.t 71) (.t 74)))])
 (.cond (.t 75) .skip (.exit 4)))
 (.seq (.block 5 (.seq (.seq (.draw 13 [] [fa 78 2 2, ld 79 78, mv 80 7, sm 81 (.p (.idxA 1 none (.t 79) (.t 80))), ld 82 81, sm 83 (.p (.len false (.t 82))), fa 84 2 3, ld 85 84, mv 86 7, sm 87 (.p (.idxA 1 none (.t 85) (.t 86))), ld 88 87, sm 89 (.p (.len false (.t 88))), sm 90 (.p (.bin .neq (.t 83) (.t 89)))])
 (.cond (.t 90) (.seq (.reg [sm 4 (.p (.mov (.c (.bool false))))])
 .ret) .skip))
 (.seq (.reg [sm 8 (.p (.mov (.c zi6)))])
 (.block 6 (.loop (.seq (.seq (.reg [mv 91 8, fa 92 2 2, ld 93 92, mv 94 7, sm 95 (.p (.idxA 1 none (.t 93) (.t 94))), ld 96 95, sm 97 (.p (.len false (.t 96))), sm 98 (.p (.bin .lss (.t 91) (.t 97)))])
 (.cond (.t 98) .skip (.exit 6)))
 (.seq (.block 7 (.seq (.draw 17 [] [fa 101 2 2, ld 102 101, mv 103 7, sm 104 (.p (.idxA 1 none (.t 102) (.t 103))), ld 105 104, mv 106 8, sm 107 (.p (.idxA 1 none (.t 105) (.t 106))), ld 108 107, fa 109 2 3, ld 110 109, mv 111 7, sm 112 (.p (.idxA 1 none (.t 110) (.t 111))), ld 113 112, mv 114 8, sm 115 (.p (.idxA 1 none (.t 113) (.t 114))), ld 116 115, sm 117 (.p (.bin .neq (.t 108) (.t 116)))])
 (.cond (.t 117) (.seq (.reg [sm 4 (.p (.mov (.c (.bool false))))])
 .ret) .skip)))
 (.reg [mv 99 8, sm 100 (.p (.bin .add (.t 99) (.c (.int .i64 1)))), mv 8 100]))))))))
 (.reg [mv 76 7, sm 77 (.p (.bin .add (.t 76) (.c (.int .i64 1)))), mv 7 77]))))))
 (.seq (.reg [sm 4 (.p (.mov (.c (.bool true))))])
 .ret))))))
def rs13 : List AR := [.tmp 4]
theorem ok13 : okF Tryz.prog 13 118 ac13 rs13 = true := by kernel_rfl
def ac14 : AC := (.seq (.reg [sm 1 (.h (.box (.t 0))), sm 2 (.h (.alloc [.nils, .nils, .nils]))])
 (.seq (.draw 13 [(7, 9), (11, 12), (5, 12), (1, 12), (2, 12), (4, 12), (7, 12), (9, 12)] [fa 9 0 1, ld 10 9, sm 11 (.callo 30 [(.t 10)]), fa 12 1 1, ld 13 12, sm 14 (.call 19 [(.t 13)]), fa 15 2 1, ld 16 15, sm 17 (.p (.len false (.t 16))), sm 18 (.l (.make 1 24 [.nils] (.t 17))), sm 19 (.v (.build [.nils, .nils, .nils] [(0, 1, (.t 11)), (1, 1, (.t 14)), (2, 1, (.t 18))])), sm 3 (.h (.alloc [.nils, .nils, .nils])), st 3 3 19])
 (.seq (.seq (.reg [fa 20 0 3, ld 21 20, sm 22 (.p (.len false (.t 21))), sm 23 (.p (.mov (.c zi6)))])
 (.block 0 (.loop (.seq (.reg [sm 24 (.p (.bin .lss (.t 23) (.t 22)))])
 (.seq (.cond (.t 24) .skip (.exit 0))
 (.seq (.block 1 (.seq (.reg [mv 25 23, mv 4 25])
 (.reg [fa 26 0 3, ld 27 26, mv 28 4, sm 29 (.p (.idxA 47 none (.t 27) (.t 28))), fa 30 45 29, ⟨none, .h (.store 1 (.t 30) (.c .nils)), none⟩])))
 (.reg [sm 31 (.p (.bin .add (.t 23) (.c (.int .i64 1)))), mv 23 31])))))))
 (.seq (.seq (.reg [fa 32 2 1, ld 33 32, sm 34 (.p (.len false (.t 33))), sm 35 (.p (.mov (.c zi6)))])
 (.block 2 (.loop (.seq (.reg [sm 36 (.p (.bin .lss (.t 35) (.t 34)))])
 (.seq (.cond (.t 36) .skip (.exit 2))
 (.seq (.block 3 (.seq (.reg [mv 37 35, sm 38 (.p (.idxA 1 none (.t 33) (.t 35))), ld 39 38, mv 5 37, mv 6 39])
 (.seq (.reg [mv 40 6, sm 41 (.p (.len false (.t 40))), sm 42 (.p (.mov (.c zi6)))])
 (.block 4 (.loop (.seq (.reg [sm 43 (.p (.bin .lss (.t 42) (.t 41)))])
 (.seq (.cond (.t 43) .skip (.exit 4))
 (.seq (.block 5 (.seq (.reg [sm 44 (.p (.idxA 2 none (.t 40) (.t 42))), la 45 2 44, sm 8 (.h (.alloc [(.bool false), (.str .empty)])), st 2 8 45])
 (.seq (.reg [fa 46 0 8, ld 47 46, sm 48 (.p (.un .not (.t 47)))])
 (.cond (.t 48) (.draw 14 [(9, 10), (7, 11), (10, 11), (9, 11), (4, 11), (11, 13), (1, 13), (4, 13), (7, 13), (9, 13), (10, 13)] [fa 49 2 3, ld 50 49, mv 51 5, fa 52 2 3, ld 53 52, mv 54 5, sm 55 (.p (.idxA 1 none (.t 53) (.t 54))), ld 56 55, fa 57 1 8, ld 58 57, sm 59 (.d (.bslice 1 1 [(.str .empty)] [(0, (.t 58))])), sm 60 (.l (.append 1 16 (.t 56) (.t 59))), sm 61 (.p (.idxA 1 none (.t 50) (.t 51))), st 1 61 60]) .skip))))
 (.reg [sm 62 (.p (.bin .add (.t 42) (.c (.int .i64 1)))), mv 42 62])))))))))
 (.reg [sm 63 (.p (.bin .add (.t 35) (.c (.int .i64 1)))), mv 35 63])))))))
 (.seq (.reg [la 64 3 3, st 3 2 64])
 .ret)))))
def rs14 : List AR := [.cell 2 true 3]
theorem ok14 : okF Tryz.prog 14 65 ac14 rs14 = true := by kernel_rfl
def ac15 : AC := (.seq (.reg [sm 1 (.h (.box (.t 0))), sm 2 (.h (.alloc [.nils, .nils, .nils, .nils, (.bool false), .nils, .nils, .nils, .nils]))])
 (.seq (.draw 17 [(7, 9), (11, 13), (15, 16), (5, 16), (1, 16), (2, 16), (4, 16), (7, 16), (9, 16), (11, 16), (13, 16)] [fa 8 0 1, ld 9 8, sm 10 (.call 30 [(.t 9)]), fa 11 1 1, ld 12 11, sm 13 (.call 19 [(.t 12)]), fa 14 2 1, ld 15 14, sm 16 (.p (.len false (.t 15))), sm 17 (.l (.make 1 24 [.nils] (.t 16))), fa 18 0 1, ld 19 18, sm 20 (.p (.len false (.t 19))), sm 21 (.l (.make 1 24 [.nils] (.t 20))), sm 22 (.v (.build [.nils, .nils, .nils, .nils, (.bool false), .nils, .nils, .nils, .nils] [(0, 1, (.t 10)), (1, 1, (.t 13)), (2, 1, (.t 17)), (3, 1, (.t 21))])), sm 3 (.h (.alloc [.nils, .nils, .nils, .nils, (.bool false), .nils, .nils, .nils, .nils])), st 9 3 22])
 (.seq (.seq (.reg [fa 23 2 1, ld 24 23, sm 25 (.p (.len false (.t 24))), sm 26 (.p (.mov (.c zi6)))])
 (.block 0 (.loop (.seq (.reg [sm 27 (.p (.bin .lss (.t 26) (.t 25)))])
 (.seq (.cond (.t 27) .skip (.exit 0))
 (.seq (.block 1 (.seq (.reg [mv 28 26, sm 29 (.p (.idxA 1 none (.t 24) (.t 26))), ld 30 29, mv 4 28, mv 5 30])
 (.seq (.reg [mv 31 5, sm 32 (.p (.len false (.t 31))), sm 33 (.p (.mov (.c zi6)))])
 (.block 2 (.loop (.seq (.reg [sm 34 (.p (.bin .lss (.t 33) (.t 32)))])
 (.seq (.cond (.t 34) .skip (.exit 2))
 (.seq (.block 3 (.seq (.reg [sm 35 (.p (.idxA 1 none (.t 31) (.t 33))), ld 36 35, mv 7 36])
 (.draw 14 [(7, 11), (10, 11), (4, 11), (11, 13), (1, 13), (4, 13), (7, 13), (10, 13)] [fa 37 2 3, ld 38 37, mv 39 4, fa 40 2 3, ld 41 40, mv 42 4, sm 43 (.p (.idxA 1 none (.t 41) (.t 42))), ld 44 43, mv 45 7, sm 46 (.v (.build [(.bool false), (.str .empty)] [(1, 1, (.t 45))])), sm 47 (.d (.bslice 2 1 [(.bool false), (.str .empty)] [(0, (.t 46))])), sm 48 (.l (.append 2 24 (.t 44) (.t 47))), sm 49 (.p (.idxA 1 none (.t 38) (.t 39))), st 1 49 48])))
 (.reg [sm 50 (.p (.bin .add (.t 33) (.c (.int .i64 1)))), mv 33 50])))))))))
 (.reg [sm 51 (.p (.bin .add (.t 26) (.c (.int .i64 1)))), mv 26 51])))))))
 (.seq (.reg [la 52 9 3, st 9 2 52])
 .ret))))
def rs15 : List AR := [.cell 2 true 9]
theorem ok15 : okF Tryz.prog 15 53 ac15 rs15 = true := by kernel_rfl
def ac16 : AC := (.seq (.reg [sm 2 (.h (.box (.t 0))), sm 3 (.p (.mov (.c (.bool false))))])
 (.seq (.reg [fa 4 0 2, ld 5 4, ld 6 1, sm 7 (.p (.len false (.t 6))), sm 8 (.call 17 [(.t 5), (.t 7)]), sm 9 (.p (.un .not (.t 8))), mv 10 9, ⟨some 11, .p (.fieldA 1 (.t 2)), (some (10, false))⟩, ⟨some 12, .h (.load false 1 (.t 11)), (some (10, false))⟩, ⟨some 13, .h (.load false 1 (.t 1)), (some (10, false))⟩, ⟨some 14, .p (.len false (.t 13)), (some (10, false))⟩, ⟨some 15, .call 17 [(.t 12), (.t 14)], (some (10, false))⟩, ⟨some 16, .p (.un .not (.t 15)), (some (10, false))⟩, sm 17 (.p (.pick (.t 10) (.c (.bool true)) (.t 16))), mv 18 17, ⟨some 19, .p (.fieldA 0 (.t 2)), (some (18, false))⟩, ⟨some 20, .h (.load false 1 (.t 19)), (some (18, false))⟩, ⟨some 21, .p (.fieldA 1 (.t 2)), (some (18, false))⟩, ⟨some 22, .h (.load false 1 (.t 21)), (some (18, false))⟩, ⟨some 23, .p (.bin .eql (.t 20) (.t 22)), (some (18, false))⟩, sm 24 (.p (.pick (.t 18) (.c (.bool true)) (.t 23))), mv 3 24])
 .ret))
def rs16 : List AR := [.tmp 3]
theorem ok16 : okF Tryz.prog 16 25 ac16 rs16 = true := by kernel_rfl
def ac17 : AC := (.seq (.reg [sm 4 (.p (.mov (.c (.bool false))))])
 (.seq (.reg [mv 5 0, sm 6 (.p (.bin .geq (.t 5) (.c zi6))), mv 7 6, ⟨some 8, .p (.mov (.t 0)), (some (7, true))⟩, ⟨some 9, .p (.mov (.t 1)), (some (7, true))⟩, ⟨some 10, .p (.bin .lss (.t 8) (.t 9)), (some (7, true))⟩, sm 11 (.p (.pick (.t 7) (.t 10) (.c (.bool false)))), mv 4 11])
 .ret))
def rs17 : List AR := [.tmp 4]
theorem ok17 : okF Tryz.prog 17 12 ac17 rs17 = true := by kernel_rfl
def ac18 : AC := (.seq (.reg [sm 4 (.p (.mov (.c (.bool false))))])
 (.seq (.reg [mv 5 0, mv 6 1, sm 7 (.call 31 [(.t 5), (.t 6)]), sm 8 (.p (.bin .geq (.t 7) (.c zi6))), mv 4 8])
 .ret))
def rs18 : List AR := [.tmp 4]
theorem ok18 : okF Tryz.prog 18 9 ac18 rs18 = true := by kernel_rfl
def ac19 : AC := (.seq (.reg [sm 2 (.p (.mov (.c .nils)))])
 (.seq (.seq (.reg [mv 3 0, sm 4 (.nq false (.t 3))])
 (.cond (.t 4) (.seq (.reg [sm 2 (.p (.mov (.c .nils)))])
 .ret) .skip))
 (.seq (.reg [sm 5 (.l (.bslice 2 0 [zi6, zi6] [])), mv 6 0, sm 7 (.l (.append 2 16 (.t 5) (.t 6))), mv 2 7])
 .ret)))
def rs19 : List AR := [.tmp 2]
theorem ok19 : okF Tryz.prog 19 8 ac19 rs19 = true := by kernel_rfl
def ac20 : AC := (.seq (.reg [sm 2 (.h (.box (.t 0))), sm 4 (.h (.alloc [.nils, .nils, zi6, zu3, zu3, zu3, zu3, zu3, zu3, zu3, zu3, zi6, zi6, zi6, zi6, zi6, zi6, (.bool false), (.bool false), (.bool false), (.bool false), zi6, zi6, zi6, zi6, zi6, zi6, zi6, zi6, (.str .empty), zi6, zu3, zu3, zi6, zi6, .nils, .nils, zu3, zu3, zu3, zu3, zi6, zi6, zi6, zi6, .nils, zi6])), sm 5 (.p (.mov (.c zi6)))])
 (.seq (.reg [la 12 4 2, mv 13 1, sm 14 (.call 32 [(.t 12), (.t 13)]), mv 11 14, sm 15 (.p (.extract 0 (.t 11))), sm 16 (.p (.extract 1 (.t 11))), mv 6 15, mv 7 16])
 (.seq (.seq (.reg [mv 17 7, sm 18 (.p (.bin .neq (.t 17) (.c zi6)))])
 (.cond (.t 18) (.seq (.reg [sm 19 (.v (.build [.nils, .nils, zi6, zu3, zu3, zu3, zu3, zu3, zu3, zu3, zu3, zi6, zi6, zi6, zi6, zi6, zi6, (.bool false), (.bool false), (.bool false), (.bool false), zi6, zi6, zi6, zi6, zi6, zi6, zi6, zi6, (.str .empty), zi6, zu3, zu3, zi6, zi6, .nils, .nils, zu3, zu3, zu3, zu3, zi6, zi6, zi6, zi6, .nils, zi6] [])), mv 20 7, st 47 4 19, mv 5 20])
 .ret) .skip))
 (.seq (.reg [la 22 4 2, sm 23 (.call 33 [(.t 22)]), mv 21 23, sm 24 (.p (.extract 0 (.t 21))), sm 25 (.p (.extract 1 (.t 21))), sm 8 (.h (.alloc [.nils])), st 1 8 24, mv 9 25])
 (.seq (.reg [mv 27 1, fa 28 3 2, ld 29 28, sm 30 (.call 34 [(.t 27), (.t 29)]), mv 26 30, sm 31 (.p (.extract 0 (.t 26))), sm 32 (.p (.extract 1 (.t 26))), sm 10 (.h (.alloc [zi6, zu3, zu3, zu3, zu3, zu3, zu3, zu3, zu3, zi6, zi6, zi6, zi6, zi6, zi6, (.bool false), (.bool false), (.bool false), (.bool false), zi6, zi6, zi6, zi6, zi6, zi6, zi6, zi6, (.str .empty), zi6, zu3, zu3, zi6, zi6, .nils, .nils, zu3, zu3, zu3, zu3, zi6, zi6, zi6, zi6])), st 43 10 31, mv 7 32])
 (.seq (.seq (.reg [mv 33 7, sm 34 (.p (.bin .neq (.t 33) (.c zi6)))])
 (.cond (.t 34) (.seq (.reg [sm 35 (.v (.build [.nils, .nils, zi6, zu3, zu3, zu3, zu3, zu3, zu3, zu3, zu3, zi6, zi6, zi6, zi6, zi6, zi6, (.bool false), (.bool false), (.bool false), (.bool false), zi6, zi6, zi6, zi6, zi6, zi6, zi6, zi6, (.str .empty), zi6, zu3, zu3, zi6, zi6, .nils, .nils, zu3, zu3, zu3, zu3, zi6, zi6, zi6, zi6, .nils, zi6] [])), mv 36 7, st 47 4 35, mv 5 36])
 .ret) .skip))
 (.seq (.reg [mv 37 6, la 38 1 8, la 39 43 10, sm 40 (.v (.build [.nils, .nils, zi6, zu3, zu3, zu3, zu3, zu3, zu3, zu3, zu3, zi6, zi6, zi6, zi6, zi6, zi6, (.bool false), (.bool false), (.bool false), (.bool false), zi6, zi6, zi6, zi6, zi6, zi6, zi6, zi6, (.str .empty), zi6, zu3, zu3, zi6, zi6, .nils, .nils, zu3, zu3, zu3, zu3, zi6, zi6, zi6, zi6, .nils, zi6] [(0, 1, (.t 37)), (1, 1, (.t 38)), (2, 43, (.t 39))])), st 47 4 40, sm 5 (.p (.mov (.c zi6)))])
 .ret)))))))
def rs20 : List AR := [.cell 4 true 47, .tmp 5]
theorem ok20 : okF Tryz.prog 20 41 ac20 rs20 = true := by kernel_rfl
def ac21 : AC := (.seq (.reg [sm 2 (.h (.box (.t 0))), sm 4 (.h (.alloc [.nils, .nils, zi6, zu3, zu3, zu3, zu3, zu3, zu3, zu3, zu3, zi6, zi6, zi6, zi6, zi6, zi6, (.bool false), (.bool false), (.bool false), (.bool false), zi6, zi6, zi6, zi6, zi6, zi6, zi6, zi6, (.str .empty), zi6, zu3, zu3, zi6, zi6, .nils, .nils, zu3, zu3, zu3, zu3, zi6, zi6, zi6, zi6, .nils, zi6, zi6, (.bool false), zu3, zu3, zu3, zu3, zu3, zu3, zu3, zu3, zu3, zu3, zu3, zu3, zu3, zu3, zu3, zu3, zu3, zu3, zu3, zu3, zu3, zu3, zu3, zu3, zu3, zu3, (.bool false), (.bool false), (.bool false), zi6, zu3, zu3, zu3, zu3, zu3, zu3, zu3, zu3, zu3, zu3, zu3, zu3, zu3, zu3, zu3, zu3, zu3, zu3, zu3, zu3, zu3, zu3, zu3, zu3, zu3, zu3, (.bool false), (.bool false), (.bool false), zi6, zu3, .nils, .nils, (.bool false), (.bool false), zi6, zu3, zi6, zu3, zi6, zi6]))])
 (.seq (.reg [la 7 4 2, mv 8 1, sm 9 (.call 35 [(.t 7), (.t 8)]), sm 5 (.h (.alloc [.nils, zi6])), st 2 5 9])
 (.seq (.seq (.reg [fa 10 1 5, ld 11 10, sm 12 (.p (.bin .neq (.t 11) (.c zi6)))])
 (.cond (.t 12) (.seq (.reg [fa 13 1 5, ld 14 13, sm 15 (.v (.build [.nils, .nils, zi6, zu3, zu3, zu3, zu3, zu3, zu3, zu3, zu3, zi6, zi6, zi6, zi6, zi6, zi6, (.bool false), (.bool false), (.bool false), (.bool false), zi6, zi6, zi6, zi6, zi6, zi6, zi6, zi6, (.str .empty), zi6, zu3, zu3, zi6, zi6, .nils, .nils, zu3, zu3, zu3, zu3, zi6, zi6, zi6, zi6, .nils, zi6, zi6, (.bool false), zu3, zu3, zu3, zu3, zu3, zu3, zu3, zu3, zu3, zu3, zu3, zu3, zu3, zu3, zu3, zu3, zu3, zu3, zu3, zu3, zu3, zu3, zu3, zu3, zu3, zu3, (.bool false), (.bool false), (.bool false), zi6, zu3, zu3, zu3, zu3, zu3, zu3, zu3, zu3, zu3, zu3, zu3, zu3, zu3, zu3, zu3, zu3, zu3, zu3, zu3, zu3, zu3, zu3, zu3, zu3, zu3, zu3, (.bool false), (.bool false), (.bool false), zi6, zu3, .nils, .nils, (.bool false), (.bool false), zi6, zu3, zi6, zu3, zi6, zi6] [(119, 1, (.t 14))])), st 120 4 15])
 .ret) .skip))
 (.seq (.reg [mv 16 1, fa 17 3 2, ld 18 17, sm 19 (.call 36 [(.t 16), (.t 18)]), sm 6 (.h (.alloc [zi6, zu3, zu3, zu3, zu3, zu3, zu3, zu3, zu3, zi6, zi6, zi6, zi6, zi6, zi6, (.bool false), (.bool false), (.bool false), (.bool false), zi6, zi6, zi6, zi6, zi6, zi6, zi6, zi6, (.str .empty), zi6, zu3, zu3, zi6, zi6, .nils, .nils, zu3, zu3, zu3, zu3, zi6, zi6, zi6, zi6, .nils, zi6])), st 45 6 19])
 (.seq (.draw 10 [(3, 9), (1, 9), (2, 9), (6, 9)] [fa 20 0 5, ld 21 20, la 22 4 2, sm 23 (.call 37 [(.t 22)]), sm 24 (.v (.field true 0 1 (.t 23))), fa 25 0 6, la 26 43 25, sm 27 (.v (.build [.nils, .nils, zi6, zu3, zu3, zu3, zu3, zu3, zu3, zu3, zu3, zi6, zi6, zi6, zi6, zi6, zi6, (.bool false), (.bool false), (.bool false), (.bool false), zi6, zi6, zi6, zi6, zi6, zi6, zi6, zi6, (.str .empty), zi6, zu3, zu3, zi6, zi6, .nils, .nils, zu3, zu3, zu3, zu3, zi6, zi6, zi6, zi6, .nils, zi6] [(0, 1, (.t 21)), (1, 1, (.t 24)), (2, 43, (.t 26))])), sm 28 (.v (.build [.nils, .nils, zi6, zu3, zu3, zu3, zu3, zu3, zu3, zu3, zu3, zi6, zi6, zi6, zi6, zi6, zi6, (.bool false), (.bool false), (.bool false), (.bool false), zi6, zi6, zi6, zi6, zi6, zi6, zi6, zi6, (.str .empty), zi6, zu3, zu3, zi6, zi6, .nils, .nils, zu3, zu3, zu3, zu3, zi6, zi6, zi6, zi6, .nils, zi6, zi6, (.bool false), zu3, zu3, zu3, zu3, zu3, zu3, zu3, zu3, zu3, zu3, zu3, zu3, zu3, zu3, zu3, zu3, zu3, zu3, zu3, zu3, zu3, zu3, zu3, zu3, zu3, zu3, (.bool false), (.bool false), (.bool false), zi6, zu3, zu3, zu3, zu3, zu3, zu3, zu3, zu3, zu3, zu3, zu3, zu3, zu3, zu3, zu3, zu3, zu3, zu3, zu3, zu3, zu3, zu3, zu3, zu3, zu3, zu3, (.bool false), (.bool false), (.bool false), zi6, zu3, .nils, .nils, (.bool false), (.bool false), zi6, zu3, zi6, zu3, zi6, zi6] [(0, 47, (.t 27))])), st 120 4 28])
 .ret)))))
def rs21 : List AR := [.cell 4 true 120]
theorem ok21 : okF Tryz.prog 21 29 ac21 rs21 = true := by kernel_rfl
def ac22 : AC := (.seq (.reg [sm 4 (.p (.mov (.c (.bool false))))])
 (.seq (.seq (.reg [mv 7 0, sm 8 (.p (.len false (.t 7))), mv 9 1, sm 10 (.p (.len false (.t 9))), sm 11 (.p (.bin .neq (.t 8) (.t 10)))])
 (.cond (.t 11) (.seq (.reg [sm 4 (.p (.mov (.c (.bool false))))])
 .ret) .skip))
 (.seq (.seq (.reg [sm 5 (.p (.mov (.c zi6)))])
 (.block 0 (.loop (.seq (.seq (.reg [mv 12 5, mv 13 0, sm 14 (.p (.len false (.t 13))), sm 15 (.p (.bin .lss (.t 12) (.t 14)))])
 (.cond (.t 15) .skip (.exit 0)))
 (.seq (.block 1 (.seq (.seq (.draw 11 [] [mv 18 0, mv 19 5, sm 20 (.p (.idxA 1 none (.t 18) (.t 19))), ld 21 20, sm 22 (.p (.len false (.t 21))), mv 23 1, mv 24 5, sm 25 (.p (.idxA 1 none (.t 23) (.t 24))), ld 26 25, sm 27 (.p (.len false (.t 26))), sm 28 (.p (.bin .neq (.t 22) (.t 27)))])
 (.cond (.t 28) (.seq (.reg [sm 4 (.p (.mov (.c (.bool false))))])
 .ret) .skip))
 (.seq (.reg [sm 6 (.p (.mov (.c zi6)))])
 (.block 2 (.loop (.seq (.seq (.reg [mv 29 6, mv 30 0, mv 31 5, sm 32 (.p (.idxA 1 none (.t 30) (.t 31))), ld 33 32, sm 34 (.p (.len false (.t 33))), sm 35 (.p (.bin .lss (.t 29) (.t 34)))])
 (.cond (.t 35) .skip (.exit 2)))
 (.seq (.block 3 (.seq (.draw 15 [] [mv 38 0, mv 39 5, sm 40 (.p (.idxA 1 none (.t 38) (.t 39))), ld 41 40, mv 42 6, sm 43 (.p (.idxA 2 none (.t 41) (.t 42))), la 44 2 43, mv 45 1, mv 46 5, sm 47 (.p (.idxA 1 none (.t 45) (.t 46))), ld 48 47, mv 49 6, sm 50 (.p (.idxA 2 none (.t 48) (.t 49))), la 51 2 50, sm 52 (.v (.eqa true [.b, .s] (.t 44) (.t 51)))])
 (.cond (.t 52) (.seq (.reg [sm 4 (.p (.mov (.c (.bool false))))])
 .ret) .skip)))
 (.reg [mv 36 6, sm 37 (.p (.bin .add (.t 36) (.c (.int .i64 1)))), mv 6 37]))))))))
 (.reg [mv 16 5, sm 17 (.p (.bin .add (.t 16) (.c (.int .i64 1)))), mv 5 17]))))))
 (.seq (.reg [sm 4 (.p (.mov (.c (.bool true))))])
 .ret))))
def rs22 : List AR := [.tmp 4]
theorem ok22 : okF Tryz.prog 22 53 ac22 rs22 = true := by kernel_rfl
def ac23 : AC := (.seq (.reg [sm 4 (.p (.mov (.c (.bool false))))])
 (.seq (.seq (.reg [mv 7 0, sm 8 (.p (.len false (.t 7))), mv 9 1, sm 10 (.p (.len false (.t 9))), sm 11 (.p (.bin .neq (.t 8) (.t 10)))])
 (.cond (.t 11) (.seq (.reg [sm 4 (.p (.mov (.c (.bool false))))])
 .ret) .skip))
 (.seq (.seq (.reg [sm 5 (.p (.mov (.c zi6)))])
 (.block 0 (.loop (.seq (.seq (.reg [mv 12 5, mv 13 0, sm 14 (.p (.len false (.t 13))), sm 15 (.p (.bin .lss (.t 12) (.t 14)))])
 (.cond (.t 15) .skip (.exit 0)))
 (.seq (.block 1 (.seq (.seq (.draw 11 [] [mv 18 0, mv 19 5, sm 20 (.p (.idxA 1 none (.t 18) (.t 19))), ld 21 20, sm 22 (.p (.len false (.t 21))), mv 23 1, mv 24 5, sm 25 (.p (.idxA 1 none (.t 23) (.t 24))), ld 26 25, sm 27 (.p (.len false (.t 26))), sm 28 (.p (.bin .neq (.t 22) (.t 27)))])
 (.cond (.t 28) (.seq (.reg [sm 4 (.p (.mov (.c (.bool false))))])
 .ret) .skip))
 (.seq (.reg [sm 6 (.p (.mov (.c zi6)))])
 (.block 2 (.loop (.seq (.seq (.reg [mv 29 6, mv 30 0, mv 31 5, sm 32 (.p (.idxA 1 none (.t 30) (.t 31))), ld 33 32, sm 34 (.p (.len false (.t 33))), sm 35 (.p (.bin .lss (.t 29) (.t 34)))])
 (.cond (.t 35) .skip (.exit 2)))
 (.seq (.block 3 (.seq (.draw 15 [] [mv 38 0, mv 39 5, sm 40 (.p (.idxA 1 none (.t 38) (.t 39))), ld 41 40, mv 42 6, sm 43 (.p (.idxA 5 none (.t 41) (.t 42))), la 44 5 43, mv 45 1, mv 46 5, sm 47 (.p (.idxA 1 none (.t 45) (.t 46))), ld 48 47, mv 49 6, sm 50 (.p (.idxA 5 none (.t 48) (.t 49))), la 51 5 50, sm 52 (.v (.eqa true [(.i .i64), (.i .i64), (.i .i64), (.i .i64), .s] (.t 44) (.t 51)))])
 (.cond (.t 52) (.seq (.reg [sm 4 (.p (.mov (.c (.bool false))))])
 .ret) .skip)))
 (.reg [mv 36 6, sm 37 (.p (.bin .add (.t 36) (.c (.int .i64 1)))), mv 6 37]))))))))
 (.reg [mv 16 5, sm 17 (.p (.bin .add (.t 16) (.c (.int .i64 1)))), mv 5 17]))))))
 (.seq (.reg [sm 4 (.p (.mov (.c (.bool true))))])
 .ret))))
def rs23 : List AR := [.tmp 4]
theorem ok23 : okF Tryz.prog 23 53 ac23 rs23 = true := by kernel_rfl
def ac24 : AC := (.seq (.reg [sm 4 (.p (.mov (.c (.bool false))))])
 (.seq (.seq (.reg [mv 6 0, sm 7 (.p (.len false (.t 6))), mv 8 1, sm 9 (.p (.len false (.t 8))), sm 10 (.p (.bin .neq (.t 7) (.t 9)))])
 (.cond (.t 10) (.seq (.reg [sm 4 (.p (.mov (.c (.bool false))))])
 .ret) .skip))
 (.seq (.seq (.reg [sm 5 (.p (.mov (.c zi6)))])
 (.block 0 (.loop (.seq (.seq (.reg [mv 11 5, mv 12 0, sm 13 (.p (.len false (.t 12))), sm 14 (.p (.bin .lss (.t 11) (.t 13)))])
 (.cond (.t 14) .skip (.exit 0)))
 (.seq (.block 1 (.seq (.draw 9 [] [mv 17 0, mv 18 5, sm 19 (.p (.idxA 1 none (.t 17) (.t 18))), ld 20 19, mv 21 1, mv 22 5, sm 23 (.p (.idxA 1 none (.t 21) (.t 22))), ld 24 23, sm 25 (.p (.beq true (.t 20) (.t 24)))])
 (.cond (.t 25) (.seq (.reg [sm 4 (.p (.mov (.c (.bool false))))])
 .ret) .skip)))
 (.reg [mv 15 5, sm 16 (.p (.bin .add (.t 15) (.c (.int .i64 1)))), mv 5 16]))))))
 (.seq (.reg [sm 4 (.p (.mov (.c (.bool true))))])
 .ret))))
def rs24 : List AR := [.tmp 4]
theorem ok24 : okF Tryz.prog 24 26 ac24 rs24 = true := by kernel_rfl
def ac25 : AC := (.seq (.reg [sm 2 (.h (.box (.t 0))), sm 3 (.h (.box (.t 1))), sm 4 (.p (.mov (.c (.bool false))))])
 (.seq (.seq (.reg [fa 6 0 2, ld 7 6, sm 8 (.p (.len false (.t 7))), fa 9 0 3, ld 10 9, sm 11 (.p (.len false (.t 10))), sm 12 (.p (.bin .neq (.t 8) (.t 11))), mv 13 12, ⟨some 14, .p (.fieldA 46 (.t 2)), (some (13, false))⟩, ⟨some 15, .h (.load false 1 (.t 14)), (some (13, false))⟩, ⟨some 16, .p (.fieldA 46 (.t 3)), (some (13, false))⟩, ⟨some 17, .h (.load false 1 (.t 16)), (some (13, false))⟩, ⟨some 18, .p (.bin .neq (.t 15) (.t 17)), (some (13, false))⟩, sm 19 (.p (.pick (.t 13) (.c (.bool true)) (.t 18))), mv 20 19, ⟨some 21, .p (.fieldA 1 (.t 2)), (some (20, false))⟩, ⟨some 22, .h (.load true 1 (.t 21)), (some (20, false))⟩, ⟨some 23, .p (.fieldA 1 (.t 3)), (some (20, false))⟩, ⟨some 24, .h (.load true 1 (.t 23)), (some (20, false))⟩, ⟨some 25, .call 38 [(.t 22), (.t 24)], (some (20, false))⟩, ⟨some 26, .p (.un .not (.t 25)), (some (20, false))⟩, sm 27 (.p (.pick (.t 20) (.c (.bool true)) (.t 26))), mv 28 27, ⟨some 29, .p (.fieldA 2 (.t 2)), (some (28, false))⟩, ⟨some 30, .h (.load true 43 (.t 29)), (some (28, false))⟩, ⟨some 31, .p (.fieldA 2 (.t 3)), (some (28, false))⟩, ⟨some 32, .h (.load true 43 (.t 31)), (some (28, false))⟩, ⟨some 33, .call 39 [(.t 30), (.t 32)], (some (28, false))⟩, ⟨some 34, .p (.un .not (.t 33)), (some (28, false))⟩, sm 35 (.p (.pick (.t 28) (.c (.bool true)) (.t 34))), mv 36 35, ⟨some 37, .p (.fieldA 45 (.t 2)), (some (36, false))⟩, ⟨some 38, .h (.load false 1 (.t 37)), (some (36, false))⟩, ⟨some 39, .p (.fieldA 45 (.t 3)), (some (36, false))⟩, ⟨some 40, .h (.load false 1 (.t 39)), (some (36, false))⟩, ⟨some 41, .call 40 [(.t 38), (.t 40)], (some (36, false))⟩, ⟨some 42, .p (.un .not (.t 41)), (some (36, false))⟩, sm 43 (.p (.pick (.t 36) (.c (.bool true)) (.t 42)))])
 (.cond (.t 43) (.seq (.reg [sm 4 (.p (.mov (.c (.bool false))))])
 .ret) .skip))
 (.seq (.seq (.reg [sm 5 (.p (.mov (.c zi6)))])
 (.block 0 (.loop (.seq (.seq (.reg [mv 44 5, fa 45 0 2, ld 46 45, sm 47 (.p (.len false (.t 46))), sm 48 (.p (.bin .lss (.t 44) (.t 47)))])
 (.cond (.t 48) .skip (.exit 0)))
 (.seq (.block 1 (.seq (.draw 11 [] [fa 51 0 2, ld 52 51, mv 53 5, sm 54 (.p (.idxA 30 none (.t 52) (.t 53))), la 55 30 54, fa 56 0 3, ld 57 56, mv 58 5, sm 59 (.p (.idxA 30 none (.t 57) (.t 58))), la 60 30 59, sm 61 (.v (.eqa true [(.i .u32), (.i .u32), (.i .u32), (.i .u32), (.i .u32), (.i .u32), (.i .u32), (.i .u32), (.i .u32), (.i .u32), (.i .u32), (.i .u32), (.i .u32), (.i .u32), (.i .u32), (.i .u32), (.i .u32), (.i .u32), (.i .u32), (.i .u32), (.i .u32), (.i .u32), (.i .u32), (.i .u32), (.i .u32), (.i .u32), .b, .b, .b, (.i .i64)] (.t 55) (.t 60)))])
 (.cond (.t 61) (.seq (.reg [sm 4 (.p (.mov (.c (.bool false))))])
 .ret) .skip)))
 (.reg [mv 49 5, sm 50 (.p (.bin .add (.t 49) (.c (.int .i64 1)))), mv 5 50]))))))
 (.seq (.reg [sm 4 (.p (.mov (.c (.bool true))))])
 .ret))))
def rs25 : List AR := [.tmp 4]
theorem ok25 : okF Tryz.prog 25 62 ac25 rs25 = true := by kernel_rfl
end Go.Proofs

