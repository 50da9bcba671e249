/- Part of a proof about the given program: lemmas that the other parts use. -/
import Derived.Test.YtnmgifoihmjjmaaPart5
import Derived.Test.YtnmgifoihmjjmaaPart6
import Derived.Test.YtnmgifoihmjjmaaPart7

set_option linter.all false
set_option linter.unusedSimpArgs false
set_option linter.unusedVariables false
namespace Go.Proofs
/-! ### Theorem T7, in plain Lean: what three hosts and three witnesses can bring about. -/
def k0 : Kep := ⟨7, 0, 0, 0⟩
def kp (l : List Kep) : Kep := l.headD k0
/-- An agreed answer of witness w to host h for epoch e, that tells at most s. -/
def Gr (G : List Gra) (w e h s : Int) : Prop := ∃ g ∈ G, g.ag = true ∧ g.w = w ∧ g.p.e = e ∧ g.p.h = h ∧ g.u ≤ s
/-- Witness w confirmed n in epoch e. -/
def Ak (G : List Gra) (w e n : Int) : Prop := n ≤ 0 ∨ ∃ g ∈ G, g.ag = true ∧ g.w = w ∧ g.p.k = 2 ∧ g.p.e = e ∧ n ≤ g.p.u
theorem Gr.mono {G : List Gra} {w e h s : Int} {g : Gra} (H : Gr G w e h s) : Gr (G ++ [g]) w e h s := by
  obtain ⟨g, hg, r⟩ := H; exact ⟨g, List.mem_append_left _ hg, r⟩
theorem Ak.mono {G : List Gra} {w e n : Int} {g : Gra} (H : Ak G w e n) : Ak (G ++ [g]) w e n := by
  rcases H with H | ⟨g, hg, r⟩
  · exact .inl H
  · exact .inr ⟨g, List.mem_append_left _ hg, r⟩
theorem Gr.le {G : List Gra} {w e h s s' : Int} (H : Gr G w e h s) (hs : s ≤ s') : Gr G w e h s' := by
  obtain ⟨g, hg, r1, r2, r3, r4, r5⟩ := H; exact ⟨g, hg, r1, r2, r3, r4, by omega⟩
structure PleOk (t : Int) (p : Ple) : Prop where
  ok : p.ok = true
  m : p.m = 7
  h1 : 1 ≤ p.h
  h3 : p.h ≤ 3
  e : p.e ≤ 2 * t
structure GraOk (t : Int) (g : Gra) : Prop where
  p : PleOk t g.p
  w0 : 0 ≤ g.w
  w3 : g.w < 3
  e : g.e ≤ 2 * t
  u : 0 ≤ g.u
structure WitOk (t : Int) (G : List Gra) (w : Int) (l : List Kep) : Prop where
  shape : l = [] ∨ ∃ k : Kep, l = [k] ∧ k.m = 7
  e0 : 0 ≤ (kp l).e
  e1 : (kp l).e ≤ 2 * t
  u0 : 0 ≤ (kp l).u
  u1 : (kp l).u ≤ 1099511627776
  A : ∀ g ∈ G, g.ag = true → g.w = w → g.p.e < (kp l).e ∨ (g.p.e = (kp l).e ∧ g.p.h = (kp l).h)
  B1 : ∀ g ∈ G, g.ag = true → g.w = w → g.p.k = 2 → g.p.u ≤ (kp l).u
  C : ∀ g ∈ G, ∀ g' ∈ G, g.ag = true → g'.ag = true → g.w = w → g'.w = w → g.p.e = g'.p.e → g.p.h = g'.p.h
  B2 : ∀ g ∈ G, ∀ g' ∈ G, g.ag = true → g'.ag = true → g.w = w → g'.w = w → g.p.k = 2 → g.p.e < g'.p.e → g.p.u ≤ g'.u
structure HolOk (t : Int) (G : List Gra) (j : Int) (x : Hol) : Prop where
  m : x.m = 7
  h : x.h = j
  e0 : 0 ≤ x.e
  e1 : x.e ≤ 2 * t
  r0 : 0 ≤ x.r
  r1 : x.r ≤ 2 * t
  g0 : x.g0 = true → Gr G 0 x.e x.h x.s
  g1 : x.g1 = true → Gr G 1 x.e x.h x.s
  g2 : x.g2 = true → Gr G 2 x.e x.h x.s
  a0 : Ak G 0 x.e x.a0
  a1 : Ak G 1 x.e x.a1
  a2 : Ak G 2 x.e x.a2
  b0 : 0 ≤ x.a0
  b1 : 0 ≤ x.a1
  b2 : 0 ≤ x.a2
/-- Two different witnesses. -/
def Two (P : Int → Prop) : Prop := (P 0 ∧ P 1) ∨ (P 0 ∧ P 2) ∨ (P 1 ∧ P 2)
theorem Two.imp {P Q : Int → Prop} (H : Two P) (h : ∀ w, P w → Q w) : Two Q := by
  rcases H with ⟨a, b⟩ | ⟨a, b⟩ | ⟨a, b⟩
  · exact .inl ⟨h _ a, h _ b⟩
  · exact .inr (.inl ⟨h _ a, h _ b⟩)
  · exact .inr (.inr ⟨h _ a, h _ b⟩)
theorem Two.meet {P Q : Int → Prop} (H : Two P) (H' : Two Q) : ∃ w, (w = 0 ∨ w = 1 ∨ w = 2) ∧ P w ∧ Q w := by
  rcases H with ⟨a, b⟩ | ⟨a, b⟩ | ⟨a, b⟩ <;> rcases H' with ⟨c, d⟩ | ⟨c, d⟩ | ⟨c, d⟩ <;>
    first
    | exact ⟨0, .inl rfl, by assumption, by assumption⟩
    | exact ⟨1, .inr (.inl rfl), by assumption, by assumption⟩
    | exact ⟨2, .inr (.inr rfl), by assumption, by assumption⟩
structure BkOk (G : List Gra) (B : Bk) : Prop where
  held : ∀ e h, (e, h) ∈ B.held → Two fun w => ∃ s, Gr G w e h s
  st : ∀ e h, (e, h) ∈ B.held → ∃ s, iget e B.start = some s
  start : ∀ e s, (e, s) ∈ B.start → Two fun w => ∃ h, Gr G w e h s
  rel : ∀ e n, (e, n) ∈ B.rel → Two fun w => Ak G w e n
theorem holds_two {t : Int} {G : List Gra} {j : Int} {x : Hol} (H : HolOk t G j x) (hh : x.holds = true) : Two fun w => Gr G w x.e x.h x.s := by
  have h0 := H.g0
  have h1 := H.g1
  have h2 := H.g2
  unfold Hol.holds at hh
  cases e0 : x.g0 <;> cases e1 : x.g1 <;> cases e2 : x.g2 <;> rw [e0] at h0 hh <;> rw [e1] at h1 hh <;> rw [e2] at h2 hh <;> simp at hh h0 h1 h2
  · exact .inr (.inr ⟨h1, h2⟩)
  · exact .inr (.inl ⟨h0, h2⟩)
  · exact .inl ⟨h0, h1⟩
  · exact .inl ⟨h0, h1⟩
theorem Ak.le {G : List Gra} {w e n m : Int} (H : Ak G w e n) (h : m ≤ n) : Ak G w e m := by
  rcases H with H | ⟨g, hg, r1, r2, r3, r4, r5⟩
  · exact .inl (by omega)
  · exact .inr ⟨g, hg, r1, r2, r3, r4, by omega⟩
theorem rel_two {t : Int} {G : List Gra} {j : Int} {x : Hol} (H : HolOk t G j x) : Two fun w => Ak G w x.e x.rel := by
  unfold Hol.rel
  split
  · unfold med
    have h0 := H.a0
    have h1 := H.a1
    have h2 := H.a2
    split <;> split
    · split
      · exact .inl ⟨h0.le (by omega), h1.le (by omega)⟩
      · exact .inr (.inl ⟨h0.le (by omega), h2.le (by omega)⟩)
    · exact .inr (.inl ⟨h0.le (by omega), h2.le (by omega)⟩)
    · split
      · exact .inl ⟨h0.le (by omega), h1.le (by omega)⟩
      · exact .inr (.inr ⟨h1.le (by omega), h2.le (by omega)⟩)
    · exact .inr (.inr ⟨h1.le (by omega), h2.le (by omega)⟩)
  · exact .inl ⟨.inl (by omega), .inl (by omega)⟩
/-- The world. -/
structure St where
  (a b c : Hol) (l0 l1 l2 : List Kep) (ps : List Ple) (gs : List Gra) (B : Bk)
structure Inv (t : Nat) (s : St) : Prop where
  a : HolOk t s.gs 1 s.a
  b : HolOk t s.gs 2 s.b
  c : HolOk t s.gs 3 s.c
  l0 : WitOk t s.gs 0 s.l0
  l1 : WitOk t s.gs 1 s.l1
  l2 : WitOk t s.gs 2 s.l2
  ps : ∀ p ∈ s.ps, PleOk t p
  gs : ∀ g ∈ s.gs, GraOk t g
  bk : BkOk s.gs s.B
  np : s.ps.length ≤ t
  ng : s.gs.length ≤ t
theorem sameHost {t : Nat} {s : St} (H : Inv t s) {e h h' : Int} (h1 : Two fun w => ∃ x, Gr s.gs w e h x) (h2 : Two fun w => ∃ x, Gr s.gs w e h' x) : h = h' := by
  obtain ⟨w, hw, ⟨_, g, hg, a1, a2, a3, a4, _⟩, ⟨_, g', hg', b1, b2, b3, b4, _⟩⟩ := h1.meet h2
  have : g.p.h = g'.p.h := by
    rcases hw with rfl | rfl | rfl
    · exact H.l0.C g hg g' hg' a1 b1 a2 b2 (by omega)
    · exact H.l1.C g hg g' hg' a1 b1 a2 b2 (by omega)
    · exact H.l2.C g hg g' hg' a1 b1 a2 b2 (by omega)
  omega
theorem fine_of {t : Nat} {s : St} (H : Inv t s) {j : Int} {x : Hol} {B : Bk} (hB : BkOk s.gs B) (hx : HolOk t s.gs j x) : fine x B := by
  intro hh who hw
  exact sameHost H (hB.held _ _ (iget_mem hw)) ((holds_two hx hh).imp fun w h => ⟨_, h⟩)
theorem note_ok {t : Nat} {G : List Gra} {j : Int} {x : Hol} {B : Bk} (hB : BkOk G B) (hx : HolOk t G j x) : BkOk G (note x B) := by
  unfold note
  split
  · rename_i hh
    have hold := holds_two hx hh
    refine ⟨fun e h he => ?_, fun e h he => ?_, fun e s he => ?_, fun e n he => ?_⟩
    · rcases mem_iput he with h1 | h1
      · cases h1; exact hold.imp fun w h => ⟨_, h⟩
      · exact hB.held e h h1
    · have old : (e, h) ∈ B.held → ∃ s, iget e B.start = some s := hB.st e h
      rcases mem_iput he with h1 | h1
      · cases h1
        cases hi : iget x.e B.start with
        | some v => exact ⟨v, by simp [hi]⟩
        | none => exact ⟨x.s, by simp [iget_iput]⟩
      · obtain ⟨s, hs⟩ := old h1
        cases hi : iget x.e B.start with
        | some v => exact ⟨s, by simpa [hi] using hs⟩
        | none =>
          by_cases h : e = x.e
          · subst h; rw [hs] at hi; cases hi
          · exact ⟨s, by simp [iget_iput, h, hs]⟩
    · have he : (e, s) ∈ (if (iget x.e B.start).isSome then B.start else iput x.e x.s B.start) := he
      split at he
      · exact hB.start e s he
      · rcases mem_iput he with h1 | h1
        · cases h1; exact hold.imp fun w h => ⟨_, h⟩
        · exact hB.start e s h1
    · rcases mem_iput he with h1 | h1
      · cases h1
        have hr := rel_two hx
        unfold mx
        split
        · exact hr
        · cases hi : iget x.e B.rel with
          | none => exact hr.imp fun w _ => .inl (by simp)
          | some v => exact (hB.rel _ _ (iget_mem hi)).imp fun w h => by simpa using h
      · exact hB.rel e n h1
  · exact hB
theorem book_right {t : Nat} {s : St} (H : Inv t s) {B : Bk} (hB : BkOk s.gs B) (e h : Int) (he : (e, h) ∈ B.held) :
  ∃ x, iget e B.start = some x ∧ ∀ e' n, (e', n) ∈ B.rel → e' < e → n ≤ x := by
  obtain ⟨x, hx⟩ := hB.st e h he
  refine ⟨x, hx, fun e' n hn hlt => ?_⟩
  obtain ⟨w, hw, hak, ⟨_, g', hg', b1, b2, b3, b4, b5⟩⟩ := (hB.rel e' n hn).meet (hB.start e x (iget_mem hx))
  have hu := (H.gs g' hg').u
  rcases hak with hak | ⟨g, hg, a1, a2, a3, a4, a5⟩
  · omega
  · have : g.p.u ≤ g'.u := by
      rcases hw with rfl | rfl | rfl
      · exact H.l0.B2 g hg g' hg' a1 b1 a2 b2 a3 (by omega)
      · exact H.l1.B2 g hg g' hg' a1 b1 a2 b2 a3 (by omega)
      · exact H.l2.B2 g hg g' hg' a1 b1 a2 b2 a3 (by omega)
    omega
end Go.Proofs

namespace Go.Proofs
theorem num_iff (n : Int) : numB n = true ↔ 1 ≤ n ∧ n ≤ 1073741824 := by unfold numB; simp
theorem ser_iff (n : Int) : serB n = true ↔ 0 ≤ n ∧ n ≤ 1099511627776 := by unfold serB; simp
theorem ple_iff (p : Ple) : p.ok = true ↔ ((p.k = 1 ∧ p.u = 0) ∨ p.k = 2) ∧ (1 ≤ p.m ∧ p.m ≤ 1073741824) ∧ (1 ≤ p.h ∧ p.h ≤ 1073741824) ∧ (1 ≤ p.e ∧ p.e ≤ 1073741824) ∧ 0 ≤ p.u ∧ p.u ≤ 1099511627776 := by
  unfold Ple.ok
  simp only [Bool.and_eq_true, Bool.or_eq_true, decide_eq_true_eq, num_iff, ser_iff]
  omega
theorem own_iff (x : Hol) (g : Gra) : g.own x = true → g.ag = true ∧ g.p.ok = true ∧ g.p.m = x.m ∧ g.p.h = x.h ∧ g.p.e = x.e := by
  unfold Gra.own
  simp only [Bool.and_eq_true, decide_eq_true_eq]
  rintro ⟨⟨⟨⟨⟨⟨⟨⟨⟨h1, _⟩, _⟩, h2⟩, h3⟩, h4⟩, h5⟩, _⟩, _⟩, _⟩
  exact ⟨h1, h2, h3, h4, h5⟩
theorem le_mx (a b : Int) : a ≤ mx a b ∧ b ≤ mx a b ∧ (mx a b = a ∨ mx a b = b) := by unfold mx; split <;> omega
theorem PleOk.up {t : Int} {p : Ple} (H : PleOk t p) : PleOk (t + 1) p := ⟨H.ok, H.m, H.h1, H.h3, by have := H.e; omega⟩
theorem GraOk.up {t : Int} {p : Gra} (H : GraOk t p) : GraOk (t + 1) p := ⟨H.p.up, H.w0, H.w3, by have := H.e; omega, H.u⟩
theorem WitOk.up {t : Int} {G : List Gra} {w : Int} {l : List Kep} (H : WitOk t G w l) : WitOk (t + 1) G w l := { H with e1 := by have := H.e1; omega }
theorem HolOk.up {t : Int} {G : List Gra} {j : Int} {x : Hol} (H : HolOk t G j x) : HolOk (t + 1) G j x := { H with e1 := (by have := H.e1; omega), r1 := (by have := H.r1; omega) }
theorem Inv.up {t : Nat} {s : St} (H : Inv t s) : Inv (t + 1) s :=
  ⟨H.a.up, H.b.up, H.c.up, H.l0.up, H.l1.up, H.l2.up, fun p hp => (H.ps p hp).up, fun g hg => (H.gs g hg).up, H.bk, by have := H.np; omega, by have := H.ng; omega⟩
theorem HolOk.mono {t : Int} {G : List Gra} {j : Int} {x : Hol} {g : Gra} (H : HolOk t G j x) : HolOk t (G ++ [g]) j x :=
  { H with g0 := fun h => (H.g0 h).mono, g1 := fun h => (H.g1 h).mono, g2 := fun h => (H.g2 h).mono, a0 := H.a0.mono, a1 := H.a1.mono, a2 := H.a2.mono }
theorem BkOk.mono {G : List Gra} {B : Bk} {g : Gra} (H : BkOk G B) : BkOk (G ++ [g]) B :=
  ⟨fun e h he => (H.held e h he).imp fun w ⟨s, hs⟩ => ⟨s, hs.mono⟩, H.st, fun e s he => (H.start e s he).imp fun w ⟨s, hs⟩ => ⟨s, hs.mono⟩, fun e n he => (H.rel e n he).imp fun w hs => hs.mono⟩
theorem WitOk.mono {t : Int} {G : List Gra} {w : Int} {l : List Kep} {g : Gra} (H : WitOk t G w l) (hw : g.w ≠ w) : WitOk t (G ++ [g]) w l := by
  have old : ∀ x ∈ G ++ [g], x.w = w → x ∈ G := fun x hx hxw => by
    rcases List.mem_append.1 hx with h | h
    · exact h
    · simp at h; subst h; exact absurd hxw hw
  exact { H with
    A := fun x hx ha hxw => H.A x (old x hx hxw) ha hxw
    B1 := fun x hx ha hxw => H.B1 x (old x hx hxw) ha hxw
    C := fun x hx y hy ha hb hxw hyw => H.C x (old x hx hxw) y (old y hy hyw) ha hb hxw hyw
    B2 := fun x hx y hy ha hb hxw hyw => H.B2 x (old x hx hxw) y (old y hy hyw) ha hb hxw hyw }
/-- Seeking. -/
theorem seek_ok {t : Int} {G : List Gra} {j : Int} {x : Hol} (H : HolOk t G j x) (hj : 1 ≤ j ∧ j ≤ 3) (n : Int) (hn : n ≤ 2 * (t + 1)) (he : (x.seek n).2.2 = 0) :
  HolOk (t + 1) G j (x.seek n).1 ∧ PleOk (t + 1) (x.seek n).2.1 := by
  have e1 := H.m
  have e2 := H.h
  have e3 := H.r1
  unfold Hol.seek at he ⊢
  split at he
  · rename_i hnum
    split at he
    · cases he
    · rename_i hlt
      rw [if_pos hnum, if_neg hlt]
      have hnum' := (num_iff n).1 hnum
      refine ⟨⟨e1, e2, (by show (0 : Int) ≤ n; omega), hn, H.r0, (by show x.r ≤ _; omega), fun h => (by cases h), fun h => (by cases h), fun h => (by cases h), .inl (Int.le_refl 0), .inl (Int.le_refl 0), .inl (Int.le_refl 0), Int.le_refl 0, Int.le_refl 0, Int.le_refl 0⟩, ⟨(ple_iff _).2 ?_, e1, ?_, ?_, ?_⟩⟩
      · show ((1 : Int) = 1 ∧ (0 : Int) = 0 ∨ (1 : Int) = 2) ∧ (1 ≤ x.m ∧ x.m ≤ _) ∧ (1 ≤ x.h ∧ x.h ≤ _) ∧ (1 ≤ n ∧ n ≤ _) ∧ (0 : Int) ≤ 0 ∧ (0 : Int) ≤ _
        omega
      · show 1 ≤ x.h; omega
      · show x.h ≤ 3; omega
      · exact hn
  · cases he
/-- Offering. -/
theorem rel_lo {t : Int} {G : List Gra} {j : Int} {x : Hol} (H : HolOk t G j x) : 0 ≤ x.rel := by
  have h0 := H.b0
  have h1 := H.b1
  have h2 := H.b2
  unfold Hol.rel med
  split
  · split <;> split <;> (try split) <;> omega
  · omega
theorem rel_hi {t : Nat} {s : St} (I : Inv t s) {j : Int} {x : Hol} (H : HolOk t s.gs j x) : x.rel ≤ 1099511627776 := by
  obtain ⟨w, _, h, _⟩ := (rel_two H).meet (rel_two H)
  rcases h with h | ⟨g, hg, _, _, _, _, h⟩
  · omega
  · have := (ple_iff _).1 (I.gs g hg).p.ok
    omega
theorem offer_ok {t : Nat} {s : St} (I : Inv t s) {j : Int} {x : Hol} (H : HolOk t s.gs j x) (hj : 1 ≤ j ∧ j ≤ 3) (n : Int) (he : (x.offer n).2 = 0) :
  PleOk t (x.offer n).1 := by
  have e1 := H.m
  have e2 := H.h
  have e3 := H.e1
  unfold Hol.offer at he ⊢
  split at he
  · rename_i hh
    obtain ⟨w, _, ⟨g, hg, a1, a2, a3, a4, a5⟩, _⟩ := (holds_two H hh).meet (holds_two H hh)
    have hp := (ple_iff _).1 (I.gs g hg).p.ok
    split at he
    · rename_i hs
      rw [if_pos hh, if_pos hs]
      have hs' := (ser_iff n).1 hs
      refine ⟨(ple_iff _).2 ?_, e1, ?_, ?_, ?_⟩
      · show ((2 : Int) = 1 ∧ n = 0 ∨ (2 : Int) = 2) ∧ (1 ≤ x.m ∧ x.m ≤ _) ∧ (1 ≤ x.h ∧ x.h ≤ _) ∧ (1 ≤ x.e ∧ x.e ≤ _) ∧ (0 : Int) ≤ n ∧ n ≤ _
        omega
      · show 1 ≤ x.h; omega
      · show x.h ≤ 3; omega
      · exact e3
    · cases he
  · cases he
theorem hearing_ok {t : Int} {G : List Gra} {j : Int} {x : Hol} (H : HolOk t G j x) {g : Gra} (hg : GraOk t g) : HolOk t G j (x.hear g) ∧ (x.hear g).e = x.e ∧ (x.hear g).h = x.h ∧ (x.hear g).s = x.s := by
  unfold Hol.hear
  split
  · have h1 := H.r0
    have h2 := H.r1
    have h3 := hg.e
    have h4 := le_mx x.r g.e
    exact ⟨{ H with r0 := (by show 0 ≤ mx x.r g.e; omega), r1 := (by show mx x.r g.e ≤ _; omega) }, rfl, rfl, rfl⟩
  · exact ⟨H, rfl, rfl, rfl⟩
/-- Taking a grant. -/
theorem take_ok {t : Int} {G : List Gra} {j : Int} {x : Hol} (H : HolOk t G j x) {g : Gra} (hg : GraOk t g) (hm : g ∈ G) : HolOk t G j (x.take g) := by
  obtain ⟨H1, e1, e2, e3⟩ := hearing_ok H hg
  unfold Hol.take
  split
  · rename_i hown
    obtain ⟨o1, o2, o3, o4, o5⟩ := own_iff x g hown
    have w0 := hg.w0
    have w3 := hg.w3
    split
    · rename_i hk
      have hak : ∀ a w, g.w = w → Ak G w x.e a → Ak G w (x.hear g).e (mx a g.p.u) := fun a w hw ha => by
        rw [e1]
        unfold mx
        split
        · exact .inr ⟨g, hm, o1, hw, hk, o5, Int.le_refl _⟩
        · exact ha
      have ex : x.a0 = (x.hear g).a0 ∧ x.a1 = (x.hear g).a1 ∧ x.a2 = (x.hear g).a2 := by unfold Hol.hear; split <;> exact ⟨rfl, rfl, rfl⟩
      unfold Hol.ack
      split
      · exact { H1 with b0 := (by show 0 ≤ mx (x.hear g).a0 g.p.u; have := H1.b0; have := le_mx (x.hear g).a0 g.p.u; omega), a0 := (by show Ak G 0 (x.hear g).e (mx (x.hear g).a0 g.p.u); rw [← ex.1]; exact hak _ 0 (by assumption) H.a0) }
      · split
        · exact { H1 with b1 := (by show 0 ≤ mx (x.hear g).a1 g.p.u; have := H1.b1; have := le_mx (x.hear g).a1 g.p.u; omega), a1 := (by show Ak G 1 (x.hear g).e (mx (x.hear g).a1 g.p.u); rw [← ex.2.1]; exact hak _ 1 (by assumption) H.a1) }
        · exact { H1 with b2 := (by show 0 ≤ mx (x.hear g).a2 g.p.u; have := H1.b2; have := le_mx (x.hear g).a2 g.p.u; omega), a2 := (by show Ak G 2 (x.hear g).e (mx (x.hear g).a2 g.p.u); rw [← ex.2.2]; exact hak _ 2 (by omega) H.a2) }
    · split
      · exact H1
      · have hs := le_mx x.s g.u
        have hgr : ∀ w, g.w = w → Gr G w (x.hear g).e (x.hear g).h (mx x.s g.u) := fun w hw => ⟨g, hm, o1, hw, by omega, by omega, by omega⟩
        have k0 : (x.hear g).g0 = true → Gr G 0 (x.hear g).e (x.hear g).h (mx x.s g.u) := fun h => (H1.g0 h).le (by rw [e3]; omega)
        have k1 : (x.hear g).g1 = true → Gr G 1 (x.hear g).e (x.hear g).h (mx x.s g.u) := fun h => (H1.g1 h).le (by rw [e3]; omega)
        have k2 : (x.hear g).g2 = true → Gr G 2 (x.hear g).e (x.hear g).h (mx x.s g.u) := fun h => (H1.g2 h).le (by rw [e3]; omega)
        unfold Hol.grant
        split
        · exact { H1 with g0 := (fun _ => hgr 0 (by assumption)), g1 := k1, g2 := k2 }
        · split
          · exact { H1 with g0 := k0, g1 := (fun _ => hgr 1 (by assumption)), g2 := k2 }
          · exact { H1 with g0 := k0, g1 := k1, g2 := (fun _ => hgr 2 (by omega)) }
  · exact H1
theorem newK_cases (K : Kep) (p : Ple) : ((p.k = 1 ∧ K.e < p.e ∧ (newK K p).e = p.e ∧ (newK K p).h = p.h) ∨ (¬ (p.k = 1 ∧ K.e < p.e) ∧ (newK K p).e = K.e ∧ (newK K p).h = K.h)) ∧
  ((agrK (hearK K p) p = true ∧ (newK K p).e = p.e ∧ (newK K p).h = p.h ∧ (newK K p).u = mx K.u p.u) ∨ (agrK (hearK K p) p = false ∧ (newK K p).u = K.u)) ∧ (newK K p).m = K.m := by
  unfold newK uptK
  have hu : (hearK K p).u = K.u ∧ (hearK K p).m = K.m := by unfold hearK; split <;> exact ⟨rfl, rfl⟩
  have he : (p.k = 1 ∧ K.e < p.e ∧ (hearK K p).e = p.e ∧ (hearK K p).h = p.h) ∨ (¬ (p.k = 1 ∧ K.e < p.e) ∧ (hearK K p).e = K.e ∧ (hearK K p).h = K.h) := by
    unfold hearK; split
    · rename_i h; exact .inl ⟨h.1, h.2, rfl, rfl⟩
    · rename_i h; exact .inr ⟨h, rfl, rfl⟩
  cases ha : agrK (hearK K p) p with
  | true =>
    have h2 : (hearK K p).e = p.e ∧ (hearK K p).h = p.h := by unfold agrK at ha; simpa using ha
    simp only [if_true]
    exact ⟨he, .inl ⟨trivial, h2.1, h2.2, by rw [hu.1]⟩, hu.2⟩
  | false =>
    simp only [Bool.false_eq_true, if_false]
    exact ⟨he, .inr ⟨trivial, hu.1⟩, hu.2⟩
/-- Hearing a plea. -/
theorem hear_shape {t : Int} {l : List Kep} {p : Ple} {w : Int} (hs : l = [] ∨ ∃ k : Kep, l = [k] ∧ k.m = 7) (hp : PleOk t p) :
  ∃ l' : List Kep, hearW w l none p (rank l p.m) = ⟨l', none, graK w (kp l) p, 0⟩ ∧ (l' = [] ∨ ∃ k : Kep, l' = [k] ∧ k.m = 7) ∧ kp l' = newK (kp l) p := by
  have hm := hp.m
  rcases hs with rfl | ⟨k, rfl, hk⟩
  · have hn := newK_cases k0 p
    have hr : rank [] p.m = 0 := rfl
    have hpi := (ple_iff _).1 hp.ok
    simp only [hearW, hp.ok, hr, if_true, List.getElem?_nil, List.length_nil]
    rw [if_neg (by decide)]
    split
    · rename_i h2
      have hag : agrK (hearK k0 p) p = false := by
        unfold hearK agrK
        rw [if_neg (by omega)]
        have : ¬ (k0.e = p.e) := by show ¬ ((0 : Int) = p.e); omega
        simp [this]
      have hK : newK k0 p = k0 := by
        have hh : hearK k0 p = k0 := if_neg (fun h => by omega)
        unfold newK uptK; rw [hag, hh]; rfl
      refine ⟨[], ?_, .inl rfl, hK.symm⟩
      show (⟨[], none, ⟨w, p, false, 0, 0⟩, 0⟩ : Heard) = ⟨[], none, graK w k0 p, 0⟩
      unfold graK
      rw [hag, hK]; rfl
    · refine ⟨[newK ⟨p.m, 0, 0, 0⟩ p], ?_, .inr ⟨_, rfl, ?_⟩, ?_⟩
      · rw [hm]; rfl
      · rw [hm]; exact hn.2.2
      · rw [hm]; rfl
  · have hn := newK_cases k p
    have hr : rank [k] p.m = 0 := by simp [rank, List.findIdx_cons, hm, hk]
    simp only [hearW, hp.ok, hr, if_true, List.getElem?_cons_zero]
    rw [if_pos (by omega)]
    exact ⟨[newK k p], rfl, .inr ⟨_, rfl, by omega⟩, rfl⟩
theorem hear_ok {t : Int} {G : List Gra} {w : Int} {l l' : List Kep} {p : Ple} (H : WitOk t G w l) (hw : 0 ≤ w ∧ w < 3) (hp : PleOk t p) (hs : l' = [] ∨ ∃ k : Kep, l' = [k] ∧ k.m = 7) (hk : kp l' = newK (kp l) p) :
  WitOk t (G ++ [graK w (kp l) p]) w l' ∧ GraOk t (graK w (kp l) p) := by
  obtain ⟨hE, hU, _⟩ := newK_cases (kp l) p
  have hpi := (ple_iff _).1 hp.ok
  have hpe := hp.e
  have e0 := H.e0
  have e1 := H.e1
  have u0 := H.u0
  have u1 := H.u1
  have hmx := le_mx (kp l).u p.u
  generalize hG : graK w (kp l) p = ng
  have hag : ng.ag = agrK (hearK (kp l) p) p := by rw [← hG]; rfl
  have hge : ng.e = (newK (kp l) p).e := by rw [← hG]; rfl
  have hgu : ng.u = (newK (kp l) p).u := by rw [← hG]; rfl
  have hgw : ng.w = w := by rw [← hG]; rfl
  have hgp : ng.p = p := by rw [← hG]; rfl
  generalize newK (kp l) p = K' at *
  generalize agrK (hearK (kp l) p) p = ag at *
  have A' : ∀ g ∈ G ++ [ng], g.ag = true → g.w = w → g.p.e < K'.e ∨ (g.p.e = K'.e ∧ g.p.h = K'.h) := by
    intro g hg ha hgw
    rcases List.mem_append.1 hg with h | h
    · have := H.A g h ha hgw; omega
    · simp at h; subst h
      rw [hag] at ha; subst ha
      rw [hgp]
      simp at hU
      omega
  have B' : ∀ g ∈ G ++ [ng], g.ag = true → g.w = w → g.p.k = 2 → g.p.u ≤ K'.u := by
    intro g hg ha hgw h2
    rcases List.mem_append.1 hg with h | h
    · have := H.B1 g h ha hgw h2; omega
    · simp at h; subst h
      rw [hag] at ha; subst ha
      rw [hgp]
      simp at hU
      omega
  refine ⟨⟨hs, ?_, ?_, ?_, ?_, by rw [hk]; exact A', by rw [hk]; exact B', ?_, ?_⟩, ⟨by rw [hgp]; exact hp, by omega, by omega, by omega, by omega⟩⟩
  · rw [hk]; omega
  · rw [hk]; omega
  · rw [hk]; omega
  · rw [hk]; omega
  · intro g hg g' hg' ha ha' hw hw' hee
    rcases List.mem_append.1 hg with h | h <;> rcases List.mem_append.1 hg' with h' | h'
    · exact H.C g h g' h' ha ha' hw hw' hee
    · have := A' g hg ha hw
      simp at h'; subst h'
      rw [hag] at ha'; subst ha'
      rw [hgp] at hee ⊢
      simp at hU
      omega
    · have := A' g' hg' ha' hw'
      simp at h; subst h
      rw [hag] at ha; subst ha
      rw [hgp] at hee ⊢
      simp at hU
      omega
    · simp at h h'; subst h; subst h'; rfl
  · intro g hg g' hg' ha ha' hw hw' h2 hee
    rcases List.mem_append.1 hg with h | h <;> rcases List.mem_append.1 hg' with h' | h'
    · exact H.B2 g h g' h' ha ha' hw hw' h2 hee
    · have := H.B1 g h ha hw h2
      simp at h'; subst h'
      omega
    · have := A' g' hg' ha' hw'
      simp at h; subst h
      rw [hag] at ha; subst ha
      rw [hgp] at hee ⊢
      simp at hU
      omega
    · simp at h h'; subst h; subst h'; omega
end Go.Proofs

namespace Go.Proofs
open Go Go.Eng
set_option maxRecDepth 100000
set_option maxHeartbeats 4000000
attribute [local irreducible] Hol.holds Hol.rel
def pcells : List Ple → List AV
  | [] => []
  | p :: r => p.av ++ pcells r
def gcells : List Gra → List AV
  | [] => []
  | p :: r => p.av ++ gcells r
theorem pcells_app : ∀ a b : List Ple, pcells (a ++ b) = pcells a ++ pcells b
  | [], _ => rfl
  | p :: r, b => by rw [List.cons_append, pcells, pcells_app r b, pcells, List.append_assoc]
theorem gcells_app : ∀ a b : List Gra, gcells (a ++ b) = gcells a ++ gcells b
  | [], _ => rfl
  | p :: r, b => by rw [List.cons_append, gcells, gcells_app r b, gcells, List.append_assoc]
theorem pcells_len : ∀ a : List Ple, (pcells a).length = a.length * 5
  | [] => rfl
  | p :: r => by simp only [pcells, List.length_append, pcells_len r, List.length_cons]; simp [Ple.av]; omega
theorem gcells_len : ∀ a : List Gra, (gcells a).length = a.length * 9
  | [] => rfl
  | p :: r => by simp only [gcells, List.length_append, gcells_len r, List.length_cons]; simp [Gra.av]; omega
theorem pcells_noLoc : ∀ (l : List Ple), ∀ c ∈ pcells l, noLoc c = true
  | [], c, h => by cases h
  | p :: r, c, h => by
    rcases List.mem_append.1 h with h | h
    · simp [Ple.av] at h; rcases h with rfl | rfl | rfl | rfl | rfl <;> rfl
    · exact pcells_noLoc r c h
theorem gcells_noLoc : ∀ (l : List Gra), ∀ c ∈ gcells l, noLoc c = true
  | [], c, h => by cases h
  | p :: r, c, h => by
    rcases List.mem_append.1 h with h | h
    · simp [Gra.av] at h; rcases h with rfl | rfl | rfl | rfl | rfl | rfl | rfl | rfl | rfl <;> rfl
    · exact gcells_noLoc r c h
theorem pcells_scal : ∀ (l : List Ple), ∀ c ∈ pcells l, scal c = true
  | [], c, h => by cases h
  | p :: r, c, h => by
    rcases List.mem_append.1 h with h | h
    · simp [Ple.av] at h; rcases h with rfl | rfl | rfl | rfl | rfl <;> rfl
    · exact pcells_scal r c h
theorem gcells_scal : ∀ (l : List Gra), ∀ c ∈ gcells l, scal c = true
  | [], c, h => by cases h
  | p :: r, c, h => by
    rcases List.mem_append.1 h with h | h
    · simp [Gra.av] at h; rcases h with rfl | rfl | rfl | rfl | rfl | rfl | rfl | rfl | rfl <;> rfl
    · exact gcells_scal r c h
theorem pcells_at : ∀ (i : Nat) (l : List Ple) (h : i < l.length), (pcells l).drop (i * 5) = l[i].av ++ pcells (l.drop (i + 1))
  | 0, p :: r, _ => by simp [pcells]
  | i + 1, p :: r, h => by
    have e : (i + 1) * 5 = p.av.length + i * 5 := by simp [Ple.av]; omega
    rw [pcells, e, List.drop_append, List.drop_eq_nil_of_le (by omega), Nat.add_sub_cancel_left, pcells_at i r (by simpa using h)]
    rfl
theorem gcells_at : ∀ (i : Nat) (l : List Gra) (h : i < l.length), (gcells l).drop (i * 9) = l[i].av ++ gcells (l.drop (i + 1))
  | 0, p :: r, _ => by simp [gcells]
  | i + 1, p :: r, h => by
    have e : (i + 1) * 9 = p.av.length + i * 9 := by simp [Gra.av]; omega
    rw [gcells, e, List.drop_append, List.drop_eq_nil_of_le (by omega), Nat.add_sub_cancel_left, gcells_at i r (by simpa using h)]
    rfl
def bn {α : Type} : List α → Bool
  | [] => false
  | _ :: _ => true
/-- The world's memory. -/
def wH (s : St) (f : Int) : Heap := ⟨6, [(0, .cells (Ww s.a s.b s.c (Xw s.l0 s.l1 s.l2 (pS (bn s.ps) s.ps.length) (gS (bn s.gs) s.gs.length) f))), (1, .map (imap s.B.rel)), (2, .map (imap s.B.held)), (3, .map (imap s.B.start)), (4, sB (bn s.ps) (pcells s.ps)), (5, sB (bn s.gs) (gcells s.gs))]⟩
def nt (s : St) : St := { s with B := Bs s.a s.b s.c s.B 3 }
theorem nt_ok {t : Nat} {s : St} (H : Inv t s) : Inv t (nt s) := { H with bk := note_ok (note_ok (note_ok H.bk H.a) H.b) H.c }
theorem c29_st {t : Nat} {s : St} (f : Int) (H : Inv t s) : CallA Try.prog 29 [.ptr 0 0] (wH s f) fun v H' => v = .bool true ∧ H' = wH (nt s) f := by
  have b1 := note_ok H.bk H.a
  have b2 := note_ok b1 H.b
  have b3 := note_ok b2 H.c
  have fa := fine_of H H.bk H.a
  have fb := fine_of H b1 H.b
  have fc := fine_of H b2 H.c
  have hg : ∀ e h, (e, h) ∈ (Bs s.a s.b s.c s.B 3).held → ∃ x, mfind (.c (.i .i64)) (I e) (imap (Bs s.a s.b s.c s.B 3).start) = some (some (I x)) ∧ ∀ e' n, (e', n) ∈ (Bs s.a s.b s.c s.B 3).rel → e' < e → n ≤ x := by
    intro e h he
    obtain ⟨x, hx, hr⟩ := book_right H b3 e h he
    refine ⟨x, ?_, hr⟩
    have := mget_i e (Bs s.a s.b s.c s.B 3).start
    rw [this]
    show some (Option.map I (iget e (note s.c (note s.b (note s.a s.B))).start)) = _
    rw [hx]; rfl
  have hp := pcells_noLoc s.ps
  have hq := gcells_noLoc s.gs
  unfold nt wH
  cases e1 : s.ps with
  | nil =>
    cases e2 : s.gs with
    | nil => exact c29_f_f s.a s.b s.c s.l0 s.l1 s.l2 f 0 0 [] [] (fun x h => by cases h) (fun x h => by cases h) s.B fa fb fc hg
    | cons g gs => rw [e2] at hq; exact c29_f_t s.a s.b s.c s.l0 s.l1 s.l2 f 0 (g :: gs).length [] (gcells (g :: gs)) (fun x h => by cases h) hq s.B fa fb fc hg
  | cons p ps =>
    rw [e1] at hp
    cases e2 : s.gs with
    | nil => exact c29_t_f s.a s.b s.c s.l0 s.l1 s.l2 f (p :: ps).length 0 (pcells (p :: ps)) [] hp (fun x h => by cases h) s.B fa fb fc hg
    | cons g gs => rw [e2] at hq; exact c29_t_t s.a s.b s.c s.l0 s.l1 s.l2 f (p :: ps).length (g :: gs).length (pcells (p :: ps)) (gcells (g :: gs)) hp hq s.B fa fb fc hg
def HW (a b c : Hol) (l0 l1 l2 : List Kep) (f : Int) (bp bg : Bool) (np ng : Nat) (PC GC : List AV) (B : Bk) : Heap := ⟨6, [(0, .cells (Ww a b c (Xw l0 l1 l2 (pS bp np) (gS bg ng) f))), (1, .map (imap B.rel)), (2, .map (imap B.held)), (3, .map (imap B.start)), (4, sB bp PC), (5, sB bg GC)]⟩
theorem c29_at {t : Nat} {s : St} (f : Int) (H : Inv t s) {bp bg : Bool} {np ng : Nat} {PC GC : List AV} (h1 : bn s.ps = bp) (h2 : bn s.gs = bg) (h3 : s.ps.length = np) (h4 : s.gs.length = ng) (h5 : pcells s.ps = PC) (h6 : gcells s.gs = GC) :
  CallA Try.prog 29 [.ptr 0 0] (HW s.a s.b s.c s.l0 s.l1 s.l2 f bp bg np ng PC GC s.B) fun v H' => v = .bool true ∧ H' = HW s.a s.b s.c s.l0 s.l1 s.l2 f bp bg np ng PC GC (Bs s.a s.b s.c s.B 3) := by
  subst h1 h2 h3 h4 h5 h6
  exact c29_st f H
theorem wH_at {s : St} (f : Int) {bp bg : Bool} {np ng : Nat} {PC GC : List AV} (h1 : bn s.ps = bp) (h2 : bn s.gs = bg) (h3 : s.ps.length = np) (h4 : s.gs.length = ng) (h5 : pcells s.ps = PC) (h6 : gcells s.gs = GC) :
  HW s.a s.b s.c s.l0 s.l1 s.l2 f bp bg np ng PC GC (Bs s.a s.b s.c s.B 3) = wH (nt s) f := by
  subst h1 h2 h3 h4 h5 h6
  rfl
/-- The same, when a list has moved. -/
def HWp (a b c : Hol) (l0 l1 l2 : List Kep) (f : Int) (O : AB) (bg : Bool) (np ng : Nat) (PC GC : List AV) (B : Bk) : Heap := ⟨7, [(0, .cells (Ww a b c (Xw l0 l1 l2 (.slice 6 0 np none 5) (gS bg ng) f))), (1, .map (imap B.rel)), (2, .map (imap B.held)), (3, .map (imap B.start)), (4, O), (5, sB bg GC), (6, .cells PC)]⟩
def HWg (a b c : Hol) (l0 l1 l2 : List Kep) (f : Int) (O : AB) (bp : Bool) (np ng : Nat) (PC GC : List AV) (B : Bk) : Heap := ⟨7, [(0, .cells (Ww a b c (Xw l0 l1 l2 (pS bp np) (.slice 6 0 ng none 9) f))), (1, .map (imap B.rel)), (2, .map (imap B.held)), (3, .map (imap B.start)), (4, sB bp PC), (5, O), (6, .cells GC)]⟩
def wHp (s : St) (f : Int) (O : AB) : Heap := HWp s.a s.b s.c s.l0 s.l1 s.l2 f O (bn s.gs) s.ps.length s.gs.length (pcells s.ps) (gcells s.gs) s.B
def wHg (s : St) (f : Int) (O : AB) : Heap := HWg s.a s.b s.c s.l0 s.l1 s.l2 f O (bn s.ps) s.ps.length s.gs.length (pcells s.ps) (gcells s.gs) s.B
theorem data_p (l : List Ple) : dataB (sB (bn l) (pcells l)) := by
  have := pcells_noLoc l
  cases l with
  | nil => trivial
  | cons p r => exact this
theorem data_g (l : List Gra) : dataB (sB (bn l) (gcells l)) := by
  have := gcells_noLoc l
  cases l with
  | nil => trivial
  | cons p r => exact this
/-- What act leaves. -/
def ActK (t : Nat) (f : Int) (v : AV) (H' : Heap) : Prop := v = .bool true ∧ ∃ s', Inv (t + 1) s' ∧ (H' = wH s' f ∨ (bn s'.ps = true ∧ ∃ O, dataB O ∧ H' = wHp s' f O) ∨ (bn s'.gs = true ∧ ∃ O, dataB O ∧ H' = wHg s' f O))
theorem wHp_at {t : Nat} {s : St} (f : Int) (O : AB) (hO : dataB O) (H : Inv (t + 1) s) {bg : Bool} {np ng : Nat} {PC GC : List AV} (h1 : bn s.ps = true) (h2 : bn s.gs = bg) (h3 : s.ps.length = np) (h4 : s.gs.length = ng) (h5 : pcells s.ps = PC) (h6 : gcells s.gs = GC) {H' : Heap} (hH : H' = HWp s.a s.b s.c s.l0 s.l1 s.l2 f O bg np ng PC GC (Bs s.a s.b s.c s.B 3)) : ActK t f (.bool true) H' := by
  subst h2 h3 h4 h5 h6 hH
  exact ⟨rfl, nt s, nt_ok H, .inr (.inl ⟨h1, O, hO, rfl⟩)⟩
theorem wHg_at {t : Nat} {s : St} (f : Int) (O : AB) (hO : dataB O) (H : Inv (t + 1) s) {bp : Bool} {np ng : Nat} {PC GC : List AV} (h1 : bn s.ps = bp) (h2 : bn s.gs = true) (h3 : s.ps.length = np) (h4 : s.gs.length = ng) (h5 : pcells s.ps = PC) (h6 : gcells s.gs = GC) {H' : Heap} (hH : H' = HWg s.a s.b s.c s.l0 s.l1 s.l2 f O bp np ng PC GC (Bs s.a s.b s.c s.B 3)) : ActK t f (.bool true) H' := by
  subst h1 h3 h4 h5 h6 hH
  exact ⟨rfl, nt s, nt_ok H, .inr (.inr ⟨h2, O, hO, rfl⟩)⟩
theorem wHs_at {t : Nat} {s : St} (f : Int) (H : Inv (t + 1) s) {bp bg : Bool} {np ng : Nat} {PC GC : List AV} (h1 : bn s.ps = bp) (h2 : bn s.gs = bg) (h3 : s.ps.length = np) (h4 : s.gs.length = ng) (h5 : pcells s.ps = PC) (h6 : gcells s.gs = GC) {H' : Heap} (hH : H' = HW s.a s.b s.c s.l0 s.l1 s.l2 f bp bg np ng PC GC (Bs s.a s.b s.c s.B 3)) : ActK t f (.bool true) H' := by
  subst h1 h2 h3 h4 h5 h6 hH
  exact ⟨rfl, nt s, nt_ok H, .inl rfl⟩
theorem bn_app {α : Type} (l : List α) (x : α) : bn (l ++ [x]) = true := by cases l <;> rfl
end Go.Proofs

namespace Go.Proofs
open Go Go.Eng
set_option maxRecDepth 100000
set_option maxHeartbeats 4000000
attribute [local irreducible] Hol.holds
theorem c23 (x : Hol) (g : Gra) : CallA Try.prog 23 [.agg x.av, .agg g.av] Heap.nil fun v H' => v = .agg (x.take g).av ∧ H' = Heap.nil := by
  obtain ⟨w, p, ag, e, u⟩ := g
  refine callA_of ok23 (Nat.le_of_ble_eq_true rfl) ?_
  have hw : w = 0 ∨ w = 1 ∨ w = 2 ∨ (w < 0 ∨ 3 ≤ w) := by omega
  rcases hw with rfl | rfl | rfl | hw
  · repeat' ((conv => whnf); first
        | refine Branch.ofT rfl ?_
        | refine Branch.ofF rfl ?_
        | refine Branch.dec (fun h => ?_) (fun h => ?_)
        | refine Branch.negdec (fun h => ?_) (fun h => ?_)
        | refine Branch.neg (fun h => ?_) (fun h => ?_)
        | refine Branch.mk (fun h => ?_) (fun h => ?_)
        | (refine Side.mk ?_ ?_; · first | omega | decide)
        | (refine SideD.mk ?_ ?_; · first | omega | decide)
        | refine ⟨_, Nat.lt_succ_self _, To.refl (.inl ⟨rfl, ?_⟩)⟩
        | refine CallA.pure (c30_1 _ _) rfl rfl ?_
        | refine CallA.pure (c31_1 _ _) rfl rfl ?_
        | refine CallA.pure (c35 p) rfl rfl ?_
        | (refine Side.mk ?_ ?_; · (simp; done))
        | fail
        )
    all_goals (conv => whnf)
    all_goals refine RetA.data rfl ⟨?_, rfl⟩
    all_goals (try dsimp only at *)
    all_goals (cases hown : Gra.own x ⟨0, p, ag, e, u⟩ <;> first | (simp only [one, Hol.take, hown]; simp_all [Hol.hear, Hol.ack, Hol.gr, Hol.grant, Hol.av, mx]; done) | (exfalso; simp only [Gra.own] at hown; grind) | (exfalso; simp only [Gra.own] at hown; grind [numB]))
  · repeat' ((conv => whnf); first
        | refine Branch.ofT rfl ?_
        | refine Branch.ofF rfl ?_
        | refine Branch.dec (fun h => ?_) (fun h => ?_)
        | refine Branch.negdec (fun h => ?_) (fun h => ?_)
        | refine Branch.neg (fun h => ?_) (fun h => ?_)
        | refine Branch.mk (fun h => ?_) (fun h => ?_)
        | (refine Side.mk ?_ ?_; · first | omega | decide)
        | (refine SideD.mk ?_ ?_; · first | omega | decide)
        | refine ⟨_, Nat.lt_succ_self _, To.refl (.inl ⟨rfl, ?_⟩)⟩
        | refine CallA.pure (c30_1 _ _) rfl rfl ?_
        | refine CallA.pure (c31_1 _ _) rfl rfl ?_
        | refine CallA.pure (c35 p) rfl rfl ?_
        | (refine Side.mk ?_ ?_; · (simp; done))
        | fail
        )
    all_goals (conv => whnf)
    all_goals refine RetA.data rfl ⟨?_, rfl⟩
    all_goals (try dsimp only at *)
    all_goals (cases hown : Gra.own x ⟨1, p, ag, e, u⟩ <;> first | (simp only [one, Hol.take, hown]; simp_all [Hol.hear, Hol.ack, Hol.gr, Hol.grant, Hol.av, mx]; done) | (exfalso; simp only [Gra.own] at hown; grind) | (exfalso; simp only [Gra.own] at hown; grind [numB]))
  · repeat' ((conv => whnf); first
        | refine Branch.ofT rfl ?_
        | refine Branch.ofF rfl ?_
        | refine Branch.dec (fun h => ?_) (fun h => ?_)
        | refine Branch.negdec (fun h => ?_) (fun h => ?_)
        | refine Branch.neg (fun h => ?_) (fun h => ?_)
        | refine Branch.mk (fun h => ?_) (fun h => ?_)
        | (refine Side.mk ?_ ?_; · first | omega | decide)
        | (refine SideD.mk ?_ ?_; · first | omega | decide)
        | refine ⟨_, Nat.lt_succ_self _, To.refl (.inl ⟨rfl, ?_⟩)⟩
        | refine CallA.pure (c30_1 _ _) rfl rfl ?_
        | refine CallA.pure (c31_1 _ _) rfl rfl ?_
        | refine CallA.pure (c35 p) rfl rfl ?_
        | (refine Side.mk ?_ ?_; · (simp; done))
        | fail
        )
    all_goals (conv => whnf)
    all_goals refine RetA.data rfl ⟨?_, rfl⟩
    all_goals (try dsimp only at *)
    all_goals (cases hown : Gra.own x ⟨2, p, ag, e, u⟩ <;> first | (simp only [one, Hol.take, hown]; simp_all [Hol.hear, Hol.ack, Hol.gr, Hol.grant, Hol.av, mx]; done) | (exfalso; simp only [Gra.own] at hown; grind) | (exfalso; simp only [Gra.own] at hown; grind [numB]))
  · repeat' ((conv => whnf); first
        | refine Branch.ofT rfl ?_
        | refine Branch.ofF rfl ?_
        | refine Branch.dec (fun h => ?_) (fun h => ?_)
        | refine Branch.negdec (fun h => ?_) (fun h => ?_)
        | refine Branch.neg (fun h => ?_) (fun h => ?_)
        | refine Branch.mk (fun h => ?_) (fun h => ?_)
        | (refine Side.mk ?_ ?_; · first | omega | decide)
        | (refine SideD.mk ?_ ?_; · first | omega | decide)
        | refine ⟨_, Nat.lt_succ_self _, To.refl (.inl ⟨rfl, ?_⟩)⟩
        | refine CallA.pure (c30_1 _ _) rfl rfl ?_
        | refine CallA.pure (c31_1 _ _) rfl rfl ?_
        | refine CallA.pure (c35 p) rfl rfl ?_
        | (exfalso; simp only [] at *; omega)
        | (refine Side.mk ?_ ?_; · (simp; done))
        | fail
        )
    all_goals (conv => whnf)
    all_goals refine RetA.data rfl ⟨?_, rfl⟩
    all_goals (try dsimp only at *)
    all_goals (cases hown : Gra.own x ⟨w, p, ag, e, u⟩ <;> first | (simp only [one, Hol.take, hown]; simp_all [Hol.hear, Hol.ack, Hol.gr, Hol.grant, Hol.av, mx]; done) | (exfalso; simp only [Gra.own] at hown; grind) | (exfalso; simp only [Gra.own] at hown; grind [numB]))
end Go.Proofs

namespace Go.Proofs
open Go Go.Eng
set_option maxRecDepth 100000
set_option maxHeartbeats 4000000
attribute [local irreducible] Hol.holds Hol.rel
theorem tm3 {h r : Int} (h0 : 0 ≤ h) (e : h % 3 = r) : h.tmod 3 = r := by rw [Int.tmod_eq_emod_of_nonneg h0]; exact e
theorem tm6 {h r : Int} (h0 : 0 ≤ h) (e : h % 6 = r) : h.tmod 6 = r := by rw [Int.tmod_eq_emod_of_nonneg h0]; exact e
theorem seek_ok' {t : Int} {G : List Gra} {j : Int} {x : Hol} {N : Int} {r : Hol × Ple × Int} (H : HolOk t G j x) (hj : 1 ≤ j ∧ j ≤ 3) (hr : x.seek N = r) (hn : N ≤ 2 * (t + 1)) (he : r.2.2 = 0) : HolOk (t + 1) G j r.1 ∧ PleOk (t + 1) r.2.1 := by
  subst hr; exact seek_ok H hj N hn he
theorem offer_ok' {t : Nat} {s : St} {j : Int} {x : Hol} {N : Int} {r : Ple × Int} (I : Inv t s) (H : HolOk t s.gs j x) (hj : 1 ≤ j ∧ j ≤ 3) (hr : x.offer N = r) (he : r.2 = 0) : PleOk t r.1 := by
  subst hr; exact offer_ok I H hj N he
theorem takeK_at5 {cs : List AV} {p : Ple} {R : List AV} {K : List AV → Prop} (e : cs = p.av ++ R) (h : K p.av) : takeK 5 cs K := by subst e; exact h
theorem takeK_at9 {cs : List AV} {g : Gra} {R : List AV} {K : List AV → Prop} (e : cs = g.av ++ R) (h : K g.av) : takeK 9 cs K := by subst e; exact h
theorem pick_p (l : List Ple) (n : Int) (h0 : 0 ≤ n % (l.length : Int)) (h1 : n % (l.length : Int) < l.length) : ∃ p ∈ l, ∃ R, List.drop (0 + ((l.length : Int) - 1 - n % (l.length : Int)).toNat * 5) (pcells l) = p.av ++ R := by
  have hi : ((l.length : Int) - 1 - n % (l.length : Int)).toNat < l.length := by omega
  rw [Nat.zero_add]
  exact ⟨_, List.getElem_mem hi, _, pcells_at _ l hi⟩
theorem pick_g (l : List Gra) (n : Int) (h0 : 0 ≤ n % (l.length : Int)) (h1 : n % (l.length : Int) < l.length) : ∃ p ∈ l, ∃ R, List.drop (0 + ((l.length : Int) - 1 - n % (l.length : Int)).toNat * 9) (gcells l) = p.av ++ R := by
  have hi : ((l.length : Int) - 1 - n % (l.length : Int)).toNat < l.length := by omega
  rw [Nat.zero_add]
  exact ⟨_, List.getElem_mem hi, _, gcells_at _ l hi⟩
theorem kept1_of {l : List Kep} (hs : l = [] ∨ ∃ k : Kep, l = [k] ∧ k.m = 7) : Kept1 l := by
  rcases hs with rfl | ⟨k, rfl, _⟩
  · exact ⟨by simp, fun i j hi => by simp at hi⟩
  · exact ⟨by simp, fun i j hi hj h => by simp at hi hj; omega⟩
theorem scal_bool {b : Bool} {l : List AV} (h : ∀ c ∈ l, scal c = true) : ∀ c ∈ AV.bool b :: l, scal c = true := fun c hc => by
  rcases List.mem_cons.1 hc with rfl | hc
  · rfl
  · exact h c hc
end Go.Proofs

namespace Go.Proofs
open Go Go.Eng
set_option maxRecDepth 100000
set_option maxHeartbeats 4000000
attribute [local irreducible] Hol.holds Hol.rel
theorem a_seek_0_00 (t : Nat) (ht : t < 150) (s : St) (f : Int) (H : Inv t s) (k h w n : Int) (hk : 0 ≤ k ∧ k < 256) (hh : 0 ≤ h ∧ h < 256) (hw : 0 ≤ w ∧ w < 256) (hn : 0 ≤ n ∧ n < 256) (h6 : k % 6 = 0) (h3 : h % 3 = 0) (hps : s.ps = []) (hgs : s.gs = []) :
  CallA Try.prog 10 [.ptr 0 0, .agg [.int .u8 k, .int .u8 h, .int .u8 w, .int .u8 n]] (wH s f) (ActK t f) := by
  refine callA_of ok10 (Nat.le_of_ble_eq_true rfl) ?_
  have hmin : IntKind.i64.min = -9223372036854775808 := rfl
  have hmax : IntKind.i64.max = 9223372036854775807 := rfl
  have t6 : k.tmod 6 = 0 := tm6 hk.1 h6
  have hpd := pcells_noLoc s.ps
  have hgd := gcells_noLoc s.gs
  have nps := H.np
  have ngs := H.ng
  have h11 := fun n => c11 s.a n
  have ha := H.a.e1
  have ha0 := H.a.e0
  have hr := H.a.r1
  have hr0 := H.a.r0
  have t3 : h.tmod 3 = 0 := tm3 hh.1 h3
  have fin : ∀ (q : Hol) (P : List Ple), HolOk (t + 1 : Nat) s.gs 1 q → (∀ p ∈ P, PleOk (t + 1 : Nat) p) → P.length ≤ t + 1 → Inv (t + 1) { s with a := q, ps := P } := fun q P hq hP hn => { H.up with a := hq, ps := hP, np := hn }
  unfold wH
  rw [hps, hgs]
  repeat' ((conv => whnf); first
      | refine Branch.ofT rfl ?_
      | refine Branch.ofF rfl ?_
      | (rw [t3]; refine Side.mk ?_ ?_; · omega)
      | (rw [hmin, hmax]; refine Side.mk ?_ ?_; · omega)
      | refine Branch.ofT (decide_eq_true t6) ?_
      | refine Branch.dec (fun h => ?_) (fun h => ?_)
      | refine Branch.negdec (fun h => ?_) (fun h => ?_)
      | refine Branch.neg (fun h => ?_) (fun h => ?_)
      | refine Branch.mk (fun h => ?_) (fun h => ?_)
      | (refine Side.mk ?_ ?_; · first | omega | decide)
      | (refine SideD.mk ?_ ?_; · first | omega | decide)
      | refine ⟨_, Nat.lt_succ_self _, To.refl (.inl ⟨rfl, ?_⟩)⟩
      | (refine QCallA.of (h11 _) rfl rfl ?_; generalize hrr : s.a.seek _ = r; obtain ⟨x', ⟨p1, p2, p3, p4, p5⟩, e'⟩ := r)
      | (refine Side.mk ?_ ?_; · exact ⟨by simp [fits], by intro c hc; simp at hc; rcases hc with rfl | rfl | rfl | rfl | rfl <;> rfl⟩)
      | (refine Side.mk ?_ ?_; · (simp only [if_true]; split <;> omega))
      | (refine Side.mk ?_ ?_; · (simp; done))
      | fail
      )
  all_goals (conv => whnf)
  · have hI := seek_ok' H.a (by omega) hrr (by split <;> omega) (by assumption)
    have hJ := fin x' [⟨p1, p2, p3, p4, p5⟩] hI.1 (by simp; exact hI.2) (by simp)
    have hpd' := pcells_noLoc [⟨p1, p2, p3, p4, p5⟩]
    refine CallA.lend [(0, false), (1, true), (2, true), (3, true), (49, true), (5, true)] (c29_at (s := { s with a := x', ps := [⟨p1, p2, p3, p4, p5⟩] }) (bg := false) (ng := 0) (GC := []) f hJ rfl (by rw [hgs]; rfl) rfl (by rw [hgs]; rfl) rfl (by rw [hgs]; rfl)) rfl ⟨trivial, trivial, trivial, hpd', trivial, trivial⟩ rfl ?_
    rintro c H' ⟨rfl, rfl⟩
    refine ⟨⟨trivial, trivial, trivial, hpd', trivial, trivial⟩, ?_⟩
    (conv => whnf)
    exact RetA.gc [(0, false), (1, true), (2, true), (3, true), (4, true), (5, true), (49, true)] rfl ⟨trivial, trivial, trivial, trivial, trivial, hpd', trivial⟩ (wHp_at (s := { s with a := x', ps := [⟨p1, p2, p3, p4, p5⟩] }) (bg := false) (ng := 0) (GC := []) f _ (by exact trivial) hJ rfl (by rw [hgs]; rfl) rfl (by rw [hgs]; rfl) rfl (by rw [hgs]; rfl) rfl)
  · refine CallA.lend [(0, false), (1, true), (2, true), (3, true), (4, true), (5, true)] (c29_at (s := s) (bp := false) (np := 0) (PC := []) (bg := false) (ng := 0) (GC := []) f H.up (by rw [hps]; rfl) (by rw [hgs]; rfl) (by rw [hps]; rfl) (by rw [hgs]; rfl) (by rw [hps]; rfl) (by rw [hgs]; rfl)) rfl ⟨trivial, trivial, trivial, trivial, trivial, trivial⟩ rfl ?_
    rintro c H' ⟨rfl, rfl⟩
    refine ⟨⟨trivial, trivial, trivial, trivial, trivial, trivial⟩, ?_⟩
    (conv => whnf)
    exact RetA.gc [(0, false), (1, true), (2, true), (3, true), (4, true), (5, true)] rfl ⟨trivial, trivial, trivial, trivial, trivial, trivial⟩ (wHs_at (s := s) (bp := false) (np := 0) (PC := []) (bg := false) (ng := 0) (GC := []) f H.up (by rw [hps]; rfl) (by rw [hgs]; rfl) (by rw [hps]; rfl) (by rw [hgs]; rfl) (by rw [hps]; rfl) (by rw [hgs]; rfl) rfl)
theorem a_seek_0_01 (t : Nat) (ht : t < 150) (s : St) (f : Int) (H : Inv t s) (k h w n : Int) (hk : 0 ≤ k ∧ k < 256) (hh : 0 ≤ h ∧ h < 256) (hw : 0 ≤ w ∧ w < 256) (hn : 0 ≤ n ∧ n < 256) (h6 : k % 6 = 0) (h3 : h % 3 = 0) (hps : s.ps = []) (hgs : bn s.gs = true) :
  CallA Try.prog 10 [.ptr 0 0, .agg [.int .u8 k, .int .u8 h, .int .u8 w, .int .u8 n]] (wH s f) (ActK t f) := by
  refine callA_of ok10 (Nat.le_of_ble_eq_true rfl) ?_
  have hmin : IntKind.i64.min = -9223372036854775808 := rfl
  have hmax : IntKind.i64.max = 9223372036854775807 := rfl
  have t6 : k.tmod 6 = 0 := tm6 hk.1 h6
  have hpd := pcells_noLoc s.ps
  have hgd := gcells_noLoc s.gs
  have nps := H.np
  have ngs := H.ng
  have h11 := fun n => c11 s.a n
  have ha := H.a.e1
  have ha0 := H.a.e0
  have hr := H.a.r1
  have hr0 := H.a.r0
  have t3 : h.tmod 3 = 0 := tm3 hh.1 h3
  have fin : ∀ (q : Hol) (P : List Ple), HolOk (t + 1 : Nat) s.gs 1 q → (∀ p ∈ P, PleOk (t + 1 : Nat) p) → P.length ≤ t + 1 → Inv (t + 1) { s with a := q, ps := P } := fun q P hq hP hn => { H.up with a := hq, ps := hP, np := hn }
  unfold wH
  rw [hps, hgs]
  repeat' ((conv => whnf); first
      | refine Branch.ofT rfl ?_
      | refine Branch.ofF rfl ?_
      | (rw [t3]; refine Side.mk ?_ ?_; · omega)
      | (rw [hmin, hmax]; refine Side.mk ?_ ?_; · omega)
      | refine Branch.ofT (decide_eq_true t6) ?_
      | refine Branch.dec (fun h => ?_) (fun h => ?_)
      | refine Branch.negdec (fun h => ?_) (fun h => ?_)
      | refine Branch.neg (fun h => ?_) (fun h => ?_)
      | refine Branch.mk (fun h => ?_) (fun h => ?_)
      | (refine Side.mk ?_ ?_; · first | omega | decide)
      | (refine SideD.mk ?_ ?_; · first | omega | decide)
      | refine ⟨_, Nat.lt_succ_self _, To.refl (.inl ⟨rfl, ?_⟩)⟩
      | (refine QCallA.of (h11 _) rfl rfl ?_; generalize hrr : s.a.seek _ = r; obtain ⟨x', ⟨p1, p2, p3, p4, p5⟩, e'⟩ := r)
      | (refine Side.mk ?_ ?_; · exact ⟨by simp [fits], by intro c hc; simp at hc; rcases hc with rfl | rfl | rfl | rfl | rfl <;> rfl⟩)
      | (refine Side.mk ?_ ?_; · (simp only [if_true]; split <;> omega))
      | (refine Side.mk ?_ ?_; · (simp; done))
      | fail
      )
  all_goals (conv => whnf)
  · have hI := seek_ok' H.a (by omega) hrr (by split <;> omega) (by assumption)
    have hJ := fin x' [⟨p1, p2, p3, p4, p5⟩] hI.1 (by simp; exact hI.2) (by simp)
    have hpd' := pcells_noLoc [⟨p1, p2, p3, p4, p5⟩]
    refine CallA.lend [(0, false), (1, true), (2, true), (3, true), (49, true), (5, true)] (c29_at (s := { s with a := x', ps := [⟨p1, p2, p3, p4, p5⟩] }) f hJ rfl hgs rfl rfl rfl rfl) rfl ⟨trivial, trivial, trivial, hpd', hgd, trivial⟩ rfl ?_
    rintro c H' ⟨rfl, rfl⟩
    refine ⟨⟨trivial, trivial, trivial, hpd', hgd, trivial⟩, ?_⟩
    (conv => whnf)
    exact RetA.gc [(0, false), (1, true), (2, true), (3, true), (4, true), (5, true), (49, true)] rfl ⟨trivial, trivial, trivial, trivial, hgd, hpd', trivial⟩ (wHp_at (s := { s with a := x', ps := [⟨p1, p2, p3, p4, p5⟩] }) f _ (by exact trivial) hJ rfl hgs rfl rfl rfl rfl rfl)
  · refine CallA.lend [(0, false), (1, true), (2, true), (3, true), (4, true), (5, true)] (c29_at (s := s) (bp := false) (np := 0) (PC := []) f H.up (by rw [hps]; rfl) hgs (by rw [hps]; rfl) rfl (by rw [hps]; rfl) rfl) rfl ⟨trivial, trivial, trivial, trivial, hgd, trivial⟩ rfl ?_
    rintro c H' ⟨rfl, rfl⟩
    refine ⟨⟨trivial, trivial, trivial, trivial, hgd, trivial⟩, ?_⟩
    (conv => whnf)
    exact RetA.gc [(0, false), (1, true), (2, true), (3, true), (4, true), (5, true)] rfl ⟨trivial, trivial, trivial, trivial, hgd, trivial⟩ (wHs_at (s := s) (bp := false) (np := 0) (PC := []) f H.up (by rw [hps]; rfl) hgs (by rw [hps]; rfl) rfl (by rw [hps]; rfl) rfl rfl)
theorem a_seek_0_10 (t : Nat) (ht : t < 150) (s : St) (f : Int) (H : Inv t s) (k h w n : Int) (hk : 0 ≤ k ∧ k < 256) (hh : 0 ≤ h ∧ h < 256) (hw : 0 ≤ w ∧ w < 256) (hn : 0 ≤ n ∧ n < 256) (h6 : k % 6 = 0) (h3 : h % 3 = 0) (hps : bn s.ps = true) (hgs : s.gs = []) :
  CallA Try.prog 10 [.ptr 0 0, .agg [.int .u8 k, .int .u8 h, .int .u8 w, .int .u8 n]] (wH s f) (ActK t f) := by
  refine callA_of ok10 (Nat.le_of_ble_eq_true rfl) ?_
  have hmin : IntKind.i64.min = -9223372036854775808 := rfl
  have hmax : IntKind.i64.max = 9223372036854775807 := rfl
  have t6 : k.tmod 6 = 0 := tm6 hk.1 h6
  have hpd := pcells_noLoc s.ps
  have hgd := gcells_noLoc s.gs
  have nps := H.np
  have ngs := H.ng
  have h11 := fun n => c11 s.a n
  have ha := H.a.e1
  have ha0 := H.a.e0
  have hr := H.a.r1
  have hr0 := H.a.r0
  have t3 : h.tmod 3 = 0 := tm3 hh.1 h3
  have fin : ∀ (q : Hol) (P : List Ple), HolOk (t + 1 : Nat) s.gs 1 q → (∀ p ∈ P, PleOk (t + 1 : Nat) p) → P.length ≤ t + 1 → Inv (t + 1) { s with a := q, ps := P } := fun q P hq hP hn => { H.up with a := hq, ps := hP, np := hn }
  unfold wH
  rw [hps, hgs]
  repeat' ((conv => whnf); first
      | refine Branch.ofT rfl ?_
      | refine Branch.ofF rfl ?_
      | (rw [t3]; refine Side.mk ?_ ?_; · omega)
      | (rw [hmin, hmax]; refine Side.mk ?_ ?_; · omega)
      | refine Branch.ofT (decide_eq_true t6) ?_
      | refine Branch.dec (fun h => ?_) (fun h => ?_)
      | refine Branch.negdec (fun h => ?_) (fun h => ?_)
      | refine Branch.neg (fun h => ?_) (fun h => ?_)
      | refine Branch.mk (fun h => ?_) (fun h => ?_)
      | (refine Side.mk ?_ ?_; · first | omega | decide)
      | (refine SideD.mk ?_ ?_; · first | omega | decide)
      | refine ⟨_, Nat.lt_succ_self _, To.refl (.inl ⟨rfl, ?_⟩)⟩
      | (refine QCallA.of (h11 _) rfl rfl ?_; generalize hrr : s.a.seek _ = r; obtain ⟨x', ⟨p1, p2, p3, p4, p5⟩, e'⟩ := r)
      | (refine Side.mk ?_ ?_; · exact ⟨by simp [fits], by intro c hc; simp at hc; rcases hc with rfl | rfl | rfl | rfl | rfl <;> rfl⟩)
      | (refine Side.mk ?_ ?_; · (simp only [if_true]; split <;> omega))
      | (refine Side.mk ?_ ?_; · ((repeat' apply And.intro) <;> first | omega | rfl | exact Nat.zero_le _ | (simp only [pcells_len, gcells_len]; done) | (simp only [fits]; omega) | (simp only [List.length_append, List.length_cons, List.length_nil, pcells_len, gcells_len, rep]; omega) | (repeat' first | exact pcells_scal _ | exact gcells_scal _ | exact scal_nil | apply scal_int | apply scal_bool | apply scal_take)))
      | (refine Side.mk ?_ ?_; · (simp; done))
      | fail
      )
  all_goals (conv => whnf)
  · have hI := seek_ok' H.a (by omega) hrr (by split <;> omega) (by assumption)
    have hJ := fin x' (s.ps ++ [⟨p1, p2, p3, p4, p5⟩]) hI.1 (fun p hp => (List.mem_append.1 hp).elim (fun hp => (H.ps p hp).up) (fun hp => by simp at hp; subst hp; exact hI.2)) (by simp; omega)
    have hpd' := pcells_noLoc (s.ps ++ [⟨p1, p2, p3, p4, p5⟩])
    rw [pcells_app] at hpd'
    refine CallA.lend [(0, false), (1, true), (2, true), (3, true), (49, true), (5, true)] (c29_at (s := { s with a := x', ps := (s.ps ++ [⟨p1, p2, p3, p4, p5⟩]) }) (bg := false) (ng := 0) (GC := []) f hJ (bn_app _ _) (by rw [hgs]; rfl) (by rw [List.length_append]; rfl) (by rw [hgs]; rfl) (pcells_app _ _) (by rw [hgs]; rfl)) rfl ⟨trivial, trivial, trivial, hpd', trivial, trivial⟩ rfl ?_
    rintro c H' ⟨rfl, rfl⟩
    refine ⟨⟨trivial, trivial, trivial, hpd', trivial, trivial⟩, ?_⟩
    (conv => whnf)
    exact RetA.gc [(0, false), (1, true), (2, true), (3, true), (4, true), (5, true), (49, true)] rfl ⟨trivial, trivial, trivial, trivial, trivial, hpd', trivial⟩ (wHp_at (s := { s with a := x', ps := (s.ps ++ [⟨p1, p2, p3, p4, p5⟩]) }) (bg := false) (ng := 0) (GC := []) f _ (by exact trivial) hJ (bn_app _ _) (by rw [hgs]; rfl) (by rw [List.length_append]; rfl) (by rw [hgs]; rfl) (pcells_app _ _) (by rw [hgs]; rfl) rfl)
  · refine CallA.lend [(0, false), (1, true), (2, true), (3, true), (4, true), (5, true)] (c29_at (s := s) (bg := false) (ng := 0) (GC := []) f H.up hps (by rw [hgs]; rfl) rfl (by rw [hgs]; rfl) rfl (by rw [hgs]; rfl)) rfl ⟨trivial, trivial, trivial, hpd, trivial, trivial⟩ rfl ?_
    rintro c H' ⟨rfl, rfl⟩
    refine ⟨⟨trivial, trivial, trivial, hpd, trivial, trivial⟩, ?_⟩
    (conv => whnf)
    exact RetA.gc [(0, false), (1, true), (2, true), (3, true), (4, true), (5, true)] rfl ⟨trivial, trivial, trivial, hpd, trivial, trivial⟩ (wHs_at (s := s) (bg := false) (ng := 0) (GC := []) f H.up hps (by rw [hgs]; rfl) rfl (by rw [hgs]; rfl) rfl (by rw [hgs]; rfl) rfl)
theorem a_seek_0_11 (t : Nat) (ht : t < 150) (s : St) (f : Int) (H : Inv t s) (k h w n : Int) (hk : 0 ≤ k ∧ k < 256) (hh : 0 ≤ h ∧ h < 256) (hw : 0 ≤ w ∧ w < 256) (hn : 0 ≤ n ∧ n < 256) (h6 : k % 6 = 0) (h3 : h % 3 = 0) (hps : bn s.ps = true) (hgs : bn s.gs = true) :
  CallA Try.prog 10 [.ptr 0 0, .agg [.int .u8 k, .int .u8 h, .int .u8 w, .int .u8 n]] (wH s f) (ActK t f) := by
  refine callA_of ok10 (Nat.le_of_ble_eq_true rfl) ?_
  have hmin : IntKind.i64.min = -9223372036854775808 := rfl
  have hmax : IntKind.i64.max = 9223372036854775807 := rfl
  have t6 : k.tmod 6 = 0 := tm6 hk.1 h6
  have hpd := pcells_noLoc s.ps
  have hgd := gcells_noLoc s.gs
  have nps := H.np
  have ngs := H.ng
  have h11 := fun n => c11 s.a n
  have ha := H.a.e1
  have ha0 := H.a.e0
  have hr := H.a.r1
  have hr0 := H.a.r0
  have t3 : h.tmod 3 = 0 := tm3 hh.1 h3
  have fin : ∀ (q : Hol) (P : List Ple), HolOk (t + 1 : Nat) s.gs 1 q → (∀ p ∈ P, PleOk (t + 1 : Nat) p) → P.length ≤ t + 1 → Inv (t + 1) { s with a := q, ps := P } := fun q P hq hP hn => { H.up with a := hq, ps := hP, np := hn }
  unfold wH
  rw [hps, hgs]
  repeat' ((conv => whnf); first
      | refine Branch.ofT rfl ?_
      | refine Branch.ofF rfl ?_
      | (rw [t3]; refine Side.mk ?_ ?_; · omega)
      | (rw [hmin, hmax]; refine Side.mk ?_ ?_; · omega)
      | refine Branch.ofT (decide_eq_true t6) ?_
      | refine Branch.dec (fun h => ?_) (fun h => ?_)
      | refine Branch.negdec (fun h => ?_) (fun h => ?_)
      | refine Branch.neg (fun h => ?_) (fun h => ?_)
      | refine Branch.mk (fun h => ?_) (fun h => ?_)
      | (refine Side.mk ?_ ?_; · first | omega | decide)
      | (refine SideD.mk ?_ ?_; · first | omega | decide)
      | refine ⟨_, Nat.lt_succ_self _, To.refl (.inl ⟨rfl, ?_⟩)⟩
      | (refine QCallA.of (h11 _) rfl rfl ?_; generalize hrr : s.a.seek _ = r; obtain ⟨x', ⟨p1, p2, p3, p4, p5⟩, e'⟩ := r)
      | (refine Side.mk ?_ ?_; · exact ⟨by simp [fits], by intro c hc; simp at hc; rcases hc with rfl | rfl | rfl | rfl | rfl <;> rfl⟩)
      | (refine Side.mk ?_ ?_; · (simp only [if_true]; split <;> omega))
      | (refine Side.mk ?_ ?_; · ((repeat' apply And.intro) <;> first | omega | rfl | exact Nat.zero_le _ | (simp only [pcells_len, gcells_len]; done) | (simp only [fits]; omega) | (simp only [List.length_append, List.length_cons, List.length_nil, pcells_len, gcells_len, rep]; omega) | (repeat' first | exact pcells_scal _ | exact gcells_scal _ | exact scal_nil | apply scal_int | apply scal_bool | apply scal_take)))
      | (refine Side.mk ?_ ?_; · (simp; done))
      | fail
      )
  all_goals (conv => whnf)
  · have hI := seek_ok' H.a (by omega) hrr (by split <;> omega) (by assumption)
    have hJ := fin x' (s.ps ++ [⟨p1, p2, p3, p4, p5⟩]) hI.1 (fun p hp => (List.mem_append.1 hp).elim (fun hp => (H.ps p hp).up) (fun hp => by simp at hp; subst hp; exact hI.2)) (by simp; omega)
    have hpd' := pcells_noLoc (s.ps ++ [⟨p1, p2, p3, p4, p5⟩])
    rw [pcells_app] at hpd'
    refine CallA.lend [(0, false), (1, true), (2, true), (3, true), (49, true), (5, true)] (c29_at (s := { s with a := x', ps := (s.ps ++ [⟨p1, p2, p3, p4, p5⟩]) }) f hJ (bn_app _ _) hgs (by rw [List.length_append]; rfl) rfl (pcells_app _ _) rfl) rfl ⟨trivial, trivial, trivial, hpd', hgd, trivial⟩ rfl ?_
    rintro c H' ⟨rfl, rfl⟩
    refine ⟨⟨trivial, trivial, trivial, hpd', hgd, trivial⟩, ?_⟩
    (conv => whnf)
    exact RetA.gc [(0, false), (1, true), (2, true), (3, true), (4, true), (5, true), (49, true)] rfl ⟨trivial, trivial, trivial, trivial, hgd, hpd', trivial⟩ (wHp_at (s := { s with a := x', ps := (s.ps ++ [⟨p1, p2, p3, p4, p5⟩]) }) f _ (by exact trivial) hJ (bn_app _ _) hgs (by rw [List.length_append]; rfl) rfl (pcells_app _ _) rfl rfl)
  · refine CallA.lend [(0, false), (1, true), (2, true), (3, true), (4, true), (5, true)] (c29_at (s := s) f H.up hps hgs rfl rfl rfl rfl) rfl ⟨trivial, trivial, trivial, hpd, hgd, trivial⟩ rfl ?_
    rintro c H' ⟨rfl, rfl⟩
    refine ⟨⟨trivial, trivial, trivial, hpd, hgd, trivial⟩, ?_⟩
    (conv => whnf)
    exact RetA.gc [(0, false), (1, true), (2, true), (3, true), (4, true), (5, true)] rfl ⟨trivial, trivial, trivial, hpd, hgd, trivial⟩ (wHs_at (s := s) f H.up hps hgs rfl rfl rfl rfl rfl)
theorem a_seek_1_00 (t : Nat) (ht : t < 150) (s : St) (f : Int) (H : Inv t s) (k h w n : Int) (hk : 0 ≤ k ∧ k < 256) (hh : 0 ≤ h ∧ h < 256) (hw : 0 ≤ w ∧ w < 256) (hn : 0 ≤ n ∧ n < 256) (h6 : k % 6 = 0) (h3 : h % 3 = 1) (hps : s.ps = []) (hgs : s.gs = []) :
  CallA Try.prog 10 [.ptr 0 0, .agg [.int .u8 k, .int .u8 h, .int .u8 w, .int .u8 n]] (wH s f) (ActK t f) := by
  refine callA_of ok10 (Nat.le_of_ble_eq_true rfl) ?_
  have hmin : IntKind.i64.min = -9223372036854775808 := rfl
  have hmax : IntKind.i64.max = 9223372036854775807 := rfl
  have t6 : k.tmod 6 = 0 := tm6 hk.1 h6
  have hpd := pcells_noLoc s.ps
  have hgd := gcells_noLoc s.gs
  have nps := H.np
  have ngs := H.ng
  have h11 := fun n => c11 s.b n
  have ha := H.b.e1
  have ha0 := H.b.e0
  have hr := H.b.r1
  have hr0 := H.b.r0
  have t3 : h.tmod 3 = 1 := tm3 hh.1 h3
  have fin : ∀ (q : Hol) (P : List Ple), HolOk (t + 1 : Nat) s.gs 2 q → (∀ p ∈ P, PleOk (t + 1 : Nat) p) → P.length ≤ t + 1 → Inv (t + 1) { s with b := q, ps := P } := fun q P hq hP hn => { H.up with b := hq, ps := hP, np := hn }
  unfold wH
  rw [hps, hgs]
  repeat' ((conv => whnf); first
      | refine Branch.ofT rfl ?_
      | refine Branch.ofF rfl ?_
      | (rw [t3]; refine Side.mk ?_ ?_; · omega)
      | (rw [hmin, hmax]; refine Side.mk ?_ ?_; · omega)
      | refine Branch.ofT (decide_eq_true t6) ?_
      | refine Branch.dec (fun h => ?_) (fun h => ?_)
      | refine Branch.negdec (fun h => ?_) (fun h => ?_)
      | refine Branch.neg (fun h => ?_) (fun h => ?_)
      | refine Branch.mk (fun h => ?_) (fun h => ?_)
      | (refine Side.mk ?_ ?_; · first | omega | decide)
      | (refine SideD.mk ?_ ?_; · first | omega | decide)
      | refine ⟨_, Nat.lt_succ_self _, To.refl (.inl ⟨rfl, ?_⟩)⟩
      | (refine QCallA.of (h11 _) rfl rfl ?_; generalize hrr : s.b.seek _ = r; obtain ⟨x', ⟨p1, p2, p3, p4, p5⟩, e'⟩ := r)
      | (refine Side.mk ?_ ?_; · exact ⟨by simp [fits], by intro c hc; simp at hc; rcases hc with rfl | rfl | rfl | rfl | rfl <;> rfl⟩)
      | (refine Side.mk ?_ ?_; · (simp only [if_true]; split <;> omega))
      | (refine Side.mk ?_ ?_; · (simp; done))
      | fail
      )
  all_goals (conv => whnf)
  · have hI := seek_ok' H.b (by omega) hrr (by split <;> omega) (by assumption)
    have hJ := fin x' [⟨p1, p2, p3, p4, p5⟩] hI.1 (by simp; exact hI.2) (by simp)
    have hpd' := pcells_noLoc [⟨p1, p2, p3, p4, p5⟩]
    refine CallA.lend [(0, false), (1, true), (2, true), (3, true), (49, true), (5, true)] (c29_at (s := { s with b := x', ps := [⟨p1, p2, p3, p4, p5⟩] }) (bg := false) (ng := 0) (GC := []) f hJ rfl (by rw [hgs]; rfl) rfl (by rw [hgs]; rfl) rfl (by rw [hgs]; rfl)) rfl ⟨trivial, trivial, trivial, hpd', trivial, trivial⟩ rfl ?_
    rintro c H' ⟨rfl, rfl⟩
    refine ⟨⟨trivial, trivial, trivial, hpd', trivial, trivial⟩, ?_⟩
    (conv => whnf)
    exact RetA.gc [(0, false), (1, true), (2, true), (3, true), (4, true), (5, true), (49, true)] rfl ⟨trivial, trivial, trivial, trivial, trivial, hpd', trivial⟩ (wHp_at (s := { s with b := x', ps := [⟨p1, p2, p3, p4, p5⟩] }) (bg := false) (ng := 0) (GC := []) f _ (by exact trivial) hJ rfl (by rw [hgs]; rfl) rfl (by rw [hgs]; rfl) rfl (by rw [hgs]; rfl) rfl)
  · refine CallA.lend [(0, false), (1, true), (2, true), (3, true), (4, true), (5, true)] (c29_at (s := s) (bp := false) (np := 0) (PC := []) (bg := false) (ng := 0) (GC := []) f H.up (by rw [hps]; rfl) (by rw [hgs]; rfl) (by rw [hps]; rfl) (by rw [hgs]; rfl) (by rw [hps]; rfl) (by rw [hgs]; rfl)) rfl ⟨trivial, trivial, trivial, trivial, trivial, trivial⟩ rfl ?_
    rintro c H' ⟨rfl, rfl⟩
    refine ⟨⟨trivial, trivial, trivial, trivial, trivial, trivial⟩, ?_⟩
    (conv => whnf)
    exact RetA.gc [(0, false), (1, true), (2, true), (3, true), (4, true), (5, true)] rfl ⟨trivial, trivial, trivial, trivial, trivial, trivial⟩ (wHs_at (s := s) (bp := false) (np := 0) (PC := []) (bg := false) (ng := 0) (GC := []) f H.up (by rw [hps]; rfl) (by rw [hgs]; rfl) (by rw [hps]; rfl) (by rw [hgs]; rfl) (by rw [hps]; rfl) (by rw [hgs]; rfl) rfl)
theorem a_seek_1_01 (t : Nat) (ht : t < 150) (s : St) (f : Int) (H : Inv t s) (k h w n : Int) (hk : 0 ≤ k ∧ k < 256) (hh : 0 ≤ h ∧ h < 256) (hw : 0 ≤ w ∧ w < 256) (hn : 0 ≤ n ∧ n < 256) (h6 : k % 6 = 0) (h3 : h % 3 = 1) (hps : s.ps = []) (hgs : bn s.gs = true) :
  CallA Try.prog 10 [.ptr 0 0, .agg [.int .u8 k, .int .u8 h, .int .u8 w, .int .u8 n]] (wH s f) (ActK t f) := by
  refine callA_of ok10 (Nat.le_of_ble_eq_true rfl) ?_
  have hmin : IntKind.i64.min = -9223372036854775808 := rfl
  have hmax : IntKind.i64.max = 9223372036854775807 := rfl
  have t6 : k.tmod 6 = 0 := tm6 hk.1 h6
  have hpd := pcells_noLoc s.ps
  have hgd := gcells_noLoc s.gs
  have nps := H.np
  have ngs := H.ng
  have h11 := fun n => c11 s.b n
  have ha := H.b.e1
  have ha0 := H.b.e0
  have hr := H.b.r1
  have hr0 := H.b.r0
  have t3 : h.tmod 3 = 1 := tm3 hh.1 h3
  have fin : ∀ (q : Hol) (P : List Ple), HolOk (t + 1 : Nat) s.gs 2 q → (∀ p ∈ P, PleOk (t + 1 : Nat) p) → P.length ≤ t + 1 → Inv (t + 1) { s with b := q, ps := P } := fun q P hq hP hn => { H.up with b := hq, ps := hP, np := hn }
  unfold wH
  rw [hps, hgs]
  repeat' ((conv => whnf); first
      | refine Branch.ofT rfl ?_
      | refine Branch.ofF rfl ?_
      | (rw [t3]; refine Side.mk ?_ ?_; · omega)
      | (rw [hmin, hmax]; refine Side.mk ?_ ?_; · omega)
      | refine Branch.ofT (decide_eq_true t6) ?_
      | refine Branch.dec (fun h => ?_) (fun h => ?_)
      | refine Branch.negdec (fun h => ?_) (fun h => ?_)
      | refine Branch.neg (fun h => ?_) (fun h => ?_)
      | refine Branch.mk (fun h => ?_) (fun h => ?_)
      | (refine Side.mk ?_ ?_; · first | omega | decide)
      | (refine SideD.mk ?_ ?_; · first | omega | decide)
      | refine ⟨_, Nat.lt_succ_self _, To.refl (.inl ⟨rfl, ?_⟩)⟩
      | (refine QCallA.of (h11 _) rfl rfl ?_; generalize hrr : s.b.seek _ = r; obtain ⟨x', ⟨p1, p2, p3, p4, p5⟩, e'⟩ := r)
      | (refine Side.mk ?_ ?_; · exact ⟨by simp [fits], by intro c hc; simp at hc; rcases hc with rfl | rfl | rfl | rfl | rfl <;> rfl⟩)
      | (refine Side.mk ?_ ?_; · (simp only [if_true]; split <;> omega))
      | (refine Side.mk ?_ ?_; · (simp; done))
      | fail
      )
  all_goals (conv => whnf)
  · have hI := seek_ok' H.b (by omega) hrr (by split <;> omega) (by assumption)
    have hJ := fin x' [⟨p1, p2, p3, p4, p5⟩] hI.1 (by simp; exact hI.2) (by simp)
    have hpd' := pcells_noLoc [⟨p1, p2, p3, p4, p5⟩]
    refine CallA.lend [(0, false), (1, true), (2, true), (3, true), (49, true), (5, true)] (c29_at (s := { s with b := x', ps := [⟨p1, p2, p3, p4, p5⟩] }) f hJ rfl hgs rfl rfl rfl rfl) rfl ⟨trivial, trivial, trivial, hpd', hgd, trivial⟩ rfl ?_
    rintro c H' ⟨rfl, rfl⟩
    refine ⟨⟨trivial, trivial, trivial, hpd', hgd, trivial⟩, ?_⟩
    (conv => whnf)
    exact RetA.gc [(0, false), (1, true), (2, true), (3, true), (4, true), (5, true), (49, true)] rfl ⟨trivial, trivial, trivial, trivial, hgd, hpd', trivial⟩ (wHp_at (s := { s with b := x', ps := [⟨p1, p2, p3, p4, p5⟩] }) f _ (by exact trivial) hJ rfl hgs rfl rfl rfl rfl rfl)
  · refine CallA.lend [(0, false), (1, true), (2, true), (3, true), (4, true), (5, true)] (c29_at (s := s) (bp := false) (np := 0) (PC := []) f H.up (by rw [hps]; rfl) hgs (by rw [hps]; rfl) rfl (by rw [hps]; rfl) rfl) rfl ⟨trivial, trivial, trivial, trivial, hgd, trivial⟩ rfl ?_
    rintro c H' ⟨rfl, rfl⟩
    refine ⟨⟨trivial, trivial, trivial, trivial, hgd, trivial⟩, ?_⟩
    (conv => whnf)
    exact RetA.gc [(0, false), (1, true), (2, true), (3, true), (4, true), (5, true)] rfl ⟨trivial, trivial, trivial, trivial, hgd, trivial⟩ (wHs_at (s := s) (bp := false) (np := 0) (PC := []) f H.up (by rw [hps]; rfl) hgs (by rw [hps]; rfl) rfl (by rw [hps]; rfl) rfl rfl)
theorem a_seek_1_10 (t : Nat) (ht : t < 150) (s : St) (f : Int) (H : Inv t s) (k h w n : Int) (hk : 0 ≤ k ∧ k < 256) (hh : 0 ≤ h ∧ h < 256) (hw : 0 ≤ w ∧ w < 256) (hn : 0 ≤ n ∧ n < 256) (h6 : k % 6 = 0) (h3 : h % 3 = 1) (hps : bn s.ps = true) (hgs : s.gs = []) :
  CallA Try.prog 10 [.ptr 0 0, .agg [.int .u8 k, .int .u8 h, .int .u8 w, .int .u8 n]] (wH s f) (ActK t f) := by
  refine callA_of ok10 (Nat.le_of_ble_eq_true rfl) ?_
  have hmin : IntKind.i64.min = -9223372036854775808 := rfl
  have hmax : IntKind.i64.max = 9223372036854775807 := rfl
  have t6 : k.tmod 6 = 0 := tm6 hk.1 h6
  have hpd := pcells_noLoc s.ps
  have hgd := gcells_noLoc s.gs
  have nps := H.np
  have ngs := H.ng
  have h11 := fun n => c11 s.b n
  have ha := H.b.e1
  have ha0 := H.b.e0
  have hr := H.b.r1
  have hr0 := H.b.r0
  have t3 : h.tmod 3 = 1 := tm3 hh.1 h3
  have fin : ∀ (q : Hol) (P : List Ple), HolOk (t + 1 : Nat) s.gs 2 q → (∀ p ∈ P, PleOk (t + 1 : Nat) p) → P.length ≤ t + 1 → Inv (t + 1) { s with b := q, ps := P } := fun q P hq hP hn => { H.up with b := hq, ps := hP, np := hn }
  unfold wH
  rw [hps, hgs]
  repeat' ((conv => whnf); first
      | refine Branch.ofT rfl ?_
      | refine Branch.ofF rfl ?_
      | (rw [t3]; refine Side.mk ?_ ?_; · omega)
      | (rw [hmin, hmax]; refine Side.mk ?_ ?_; · omega)
      | refine Branch.ofT (decide_eq_true t6) ?_
      | refine Branch.dec (fun h => ?_) (fun h => ?_)
      | refine Branch.negdec (fun h => ?_) (fun h => ?_)
      | refine Branch.neg (fun h => ?_) (fun h => ?_)
      | refine Branch.mk (fun h => ?_) (fun h => ?_)
      | (refine Side.mk ?_ ?_; · first | omega | decide)
      | (refine SideD.mk ?_ ?_; · first | omega | decide)
      | refine ⟨_, Nat.lt_succ_self _, To.refl (.inl ⟨rfl, ?_⟩)⟩
      | (refine QCallA.of (h11 _) rfl rfl ?_; generalize hrr : s.b.seek _ = r; obtain ⟨x', ⟨p1, p2, p3, p4, p5⟩, e'⟩ := r)
      | (refine Side.mk ?_ ?_; · exact ⟨by simp [fits], by intro c hc; simp at hc; rcases hc with rfl | rfl | rfl | rfl | rfl <;> rfl⟩)
      | (refine Side.mk ?_ ?_; · (simp only [if_true]; split <;> omega))
      | (refine Side.mk ?_ ?_; · ((repeat' apply And.intro) <;> first | omega | rfl | exact Nat.zero_le _ | (simp only [pcells_len, gcells_len]; done) | (simp only [fits]; omega) | (simp only [List.length_append, List.length_cons, List.length_nil, pcells_len, gcells_len, rep]; omega) | (repeat' first | exact pcells_scal _ | exact gcells_scal _ | exact scal_nil | apply scal_int | apply scal_bool | apply scal_take)))
      | (refine Side.mk ?_ ?_; · (simp; done))
      | fail
      )
  all_goals (conv => whnf)
  · have hI := seek_ok' H.b (by omega) hrr (by split <;> omega) (by assumption)
    have hJ := fin x' (s.ps ++ [⟨p1, p2, p3, p4, p5⟩]) hI.1 (fun p hp => (List.mem_append.1 hp).elim (fun hp => (H.ps p hp).up) (fun hp => by simp at hp; subst hp; exact hI.2)) (by simp; omega)
    have hpd' := pcells_noLoc (s.ps ++ [⟨p1, p2, p3, p4, p5⟩])
    rw [pcells_app] at hpd'
    refine CallA.lend [(0, false), (1, true), (2, true), (3, true), (49, true), (5, true)] (c29_at (s := { s with b := x', ps := (s.ps ++ [⟨p1, p2, p3, p4, p5⟩]) }) (bg := false) (ng := 0) (GC := []) f hJ (bn_app _ _) (by rw [hgs]; rfl) (by rw [List.length_append]; rfl) (by rw [hgs]; rfl) (pcells_app _ _) (by rw [hgs]; rfl)) rfl ⟨trivial, trivial, trivial, hpd', trivial, trivial⟩ rfl ?_
    rintro c H' ⟨rfl, rfl⟩
    refine ⟨⟨trivial, trivial, trivial, hpd', trivial, trivial⟩, ?_⟩
    (conv => whnf)
    exact RetA.gc [(0, false), (1, true), (2, true), (3, true), (4, true), (5, true), (49, true)] rfl ⟨trivial, trivial, trivial, trivial, trivial, hpd', trivial⟩ (wHp_at (s := { s with b := x', ps := (s.ps ++ [⟨p1, p2, p3, p4, p5⟩]) }) (bg := false) (ng := 0) (GC := []) f _ (by exact trivial) hJ (bn_app _ _) (by rw [hgs]; rfl) (by rw [List.length_append]; rfl) (by rw [hgs]; rfl) (pcells_app _ _) (by rw [hgs]; rfl) rfl)
  · refine CallA.lend [(0, false), (1, true), (2, true), (3, true), (4, true), (5, true)] (c29_at (s := s) (bg := false) (ng := 0) (GC := []) f H.up hps (by rw [hgs]; rfl) rfl (by rw [hgs]; rfl) rfl (by rw [hgs]; rfl)) rfl ⟨trivial, trivial, trivial, hpd, trivial, trivial⟩ rfl ?_
    rintro c H' ⟨rfl, rfl⟩
    refine ⟨⟨trivial, trivial, trivial, hpd, trivial, trivial⟩, ?_⟩
    (conv => whnf)
    exact RetA.gc [(0, false), (1, true), (2, true), (3, true), (4, true), (5, true)] rfl ⟨trivial, trivial, trivial, hpd, trivial, trivial⟩ (wHs_at (s := s) (bg := false) (ng := 0) (GC := []) f H.up hps (by rw [hgs]; rfl) rfl (by rw [hgs]; rfl) rfl (by rw [hgs]; rfl) rfl)
theorem a_seek_1_11 (t : Nat) (ht : t < 150) (s : St) (f : Int) (H : Inv t s) (k h w n : Int) (hk : 0 ≤ k ∧ k < 256) (hh : 0 ≤ h ∧ h < 256) (hw : 0 ≤ w ∧ w < 256) (hn : 0 ≤ n ∧ n < 256) (h6 : k % 6 = 0) (h3 : h % 3 = 1) (hps : bn s.ps = true) (hgs : bn s.gs = true) :
  CallA Try.prog 10 [.ptr 0 0, .agg [.int .u8 k, .int .u8 h, .int .u8 w, .int .u8 n]] (wH s f) (ActK t f) := by
  refine callA_of ok10 (Nat.le_of_ble_eq_true rfl) ?_
  have hmin : IntKind.i64.min = -9223372036854775808 := rfl
  have hmax : IntKind.i64.max = 9223372036854775807 := rfl
  have t6 : k.tmod 6 = 0 := tm6 hk.1 h6
  have hpd := pcells_noLoc s.ps
  have hgd := gcells_noLoc s.gs
  have nps := H.np
  have ngs := H.ng
  have h11 := fun n => c11 s.b n
  have ha := H.b.e1
  have ha0 := H.b.e0
  have hr := H.b.r1
  have hr0 := H.b.r0
  have t3 : h.tmod 3 = 1 := tm3 hh.1 h3
  have fin : ∀ (q : Hol) (P : List Ple), HolOk (t + 1 : Nat) s.gs 2 q → (∀ p ∈ P, PleOk (t + 1 : Nat) p) → P.length ≤ t + 1 → Inv (t + 1) { s with b := q, ps := P } := fun q P hq hP hn => { H.up with b := hq, ps := hP, np := hn }
  unfold wH
  rw [hps, hgs]
  repeat' ((conv => whnf); first
      | refine Branch.ofT rfl ?_
      | refine Branch.ofF rfl ?_
      | (rw [t3]; refine Side.mk ?_ ?_; · omega)
      | (rw [hmin, hmax]; refine Side.mk ?_ ?_; · omega)
      | refine Branch.ofT (decide_eq_true t6) ?_
      | refine Branch.dec (fun h => ?_) (fun h => ?_)
      | refine Branch.negdec (fun h => ?_) (fun h => ?_)
      | refine Branch.neg (fun h => ?_) (fun h => ?_)
      | refine Branch.mk (fun h => ?_) (fun h => ?_)
      | (refine Side.mk ?_ ?_; · first | omega | decide)
      | (refine SideD.mk ?_ ?_; · first | omega | decide)
      | refine ⟨_, Nat.lt_succ_self _, To.refl (.inl ⟨rfl, ?_⟩)⟩
      | (refine QCallA.of (h11 _) rfl rfl ?_; generalize hrr : s.b.seek _ = r; obtain ⟨x', ⟨p1, p2, p3, p4, p5⟩, e'⟩ := r)
      | (refine Side.mk ?_ ?_; · exact ⟨by simp [fits], by intro c hc; simp at hc; rcases hc with rfl | rfl | rfl | rfl | rfl <;> rfl⟩)
      | (refine Side.mk ?_ ?_; · (simp only [if_true]; split <;> omega))
      | (refine Side.mk ?_ ?_; · ((repeat' apply And.intro) <;> first | omega | rfl | exact Nat.zero_le _ | (simp only [pcells_len, gcells_len]; done) | (simp only [fits]; omega) | (simp only [List.length_append, List.length_cons, List.length_nil, pcells_len, gcells_len, rep]; omega) | (repeat' first | exact pcells_scal _ | exact gcells_scal _ | exact scal_nil | apply scal_int | apply scal_bool | apply scal_take)))
      | (refine Side.mk ?_ ?_; · (simp; done))
      | fail
      )
  all_goals (conv => whnf)
  · have hI := seek_ok' H.b (by omega) hrr (by split <;> omega) (by assumption)
    have hJ := fin x' (s.ps ++ [⟨p1, p2, p3, p4, p5⟩]) hI.1 (fun p hp => (List.mem_append.1 hp).elim (fun hp => (H.ps p hp).up) (fun hp => by simp at hp; subst hp; exact hI.2)) (by simp; omega)
    have hpd' := pcells_noLoc (s.ps ++ [⟨p1, p2, p3, p4, p5⟩])
    rw [pcells_app] at hpd'
    refine CallA.lend [(0, false), (1, true), (2, true), (3, true), (49, true), (5, true)] (c29_at (s := { s with b := x', ps := (s.ps ++ [⟨p1, p2, p3, p4, p5⟩]) }) f hJ (bn_app _ _) hgs (by rw [List.length_append]; rfl) rfl (pcells_app _ _) rfl) rfl ⟨trivial, trivial, trivial, hpd', hgd, trivial⟩ rfl ?_
    rintro c H' ⟨rfl, rfl⟩
    refine ⟨⟨trivial, trivial, trivial, hpd', hgd, trivial⟩, ?_⟩
    (conv => whnf)
    exact RetA.gc [(0, false), (1, true), (2, true), (3, true), (4, true), (5, true), (49, true)] rfl ⟨trivial, trivial, trivial, trivial, hgd, hpd', trivial⟩ (wHp_at (s := { s with b := x', ps := (s.ps ++ [⟨p1, p2, p3, p4, p5⟩]) }) f _ (by exact trivial) hJ (bn_app _ _) hgs (by rw [List.length_append]; rfl) rfl (pcells_app _ _) rfl rfl)
  · refine CallA.lend [(0, false), (1, true), (2, true), (3, true), (4, true), (5, true)] (c29_at (s := s) f H.up hps hgs rfl rfl rfl rfl) rfl ⟨trivial, trivial, trivial, hpd, hgd, trivial⟩ rfl ?_
    rintro c H' ⟨rfl, rfl⟩
    refine ⟨⟨trivial, trivial, trivial, hpd, hgd, trivial⟩, ?_⟩
    (conv => whnf)
    exact RetA.gc [(0, false), (1, true), (2, true), (3, true), (4, true), (5, true)] rfl ⟨trivial, trivial, trivial, hpd, hgd, trivial⟩ (wHs_at (s := s) f H.up hps hgs rfl rfl rfl rfl rfl)
theorem a_seek_2_00 (t : Nat) (ht : t < 150) (s : St) (f : Int) (H : Inv t s) (k h w n : Int) (hk : 0 ≤ k ∧ k < 256) (hh : 0 ≤ h ∧ h < 256) (hw : 0 ≤ w ∧ w < 256) (hn : 0 ≤ n ∧ n < 256) (h6 : k % 6 = 0) (h3 : h % 3 = 2) (hps : s.ps = []) (hgs : s.gs = []) :
  CallA Try.prog 10 [.ptr 0 0, .agg [.int .u8 k, .int .u8 h, .int .u8 w, .int .u8 n]] (wH s f) (ActK t f) := by
  refine callA_of ok10 (Nat.le_of_ble_eq_true rfl) ?_
  have hmin : IntKind.i64.min = -9223372036854775808 := rfl
  have hmax : IntKind.i64.max = 9223372036854775807 := rfl
  have t6 : k.tmod 6 = 0 := tm6 hk.1 h6
  have hpd := pcells_noLoc s.ps
  have hgd := gcells_noLoc s.gs
  have nps := H.np
  have ngs := H.ng
  have h11 := fun n => c11 s.c n
  have ha := H.c.e1
  have ha0 := H.c.e0
  have hr := H.c.r1
  have hr0 := H.c.r0
  have t3 : h.tmod 3 = 2 := tm3 hh.1 h3
  have fin : ∀ (q : Hol) (P : List Ple), HolOk (t + 1 : Nat) s.gs 3 q → (∀ p ∈ P, PleOk (t + 1 : Nat) p) → P.length ≤ t + 1 → Inv (t + 1) { s with c := q, ps := P } := fun q P hq hP hn => { H.up with c := hq, ps := hP, np := hn }
  unfold wH
  rw [hps, hgs]
  repeat' ((conv => whnf); first
      | refine Branch.ofT rfl ?_
      | refine Branch.ofF rfl ?_
      | (rw [t3]; refine Side.mk ?_ ?_; · omega)
      | (rw [hmin, hmax]; refine Side.mk ?_ ?_; · omega)
      | refine Branch.ofT (decide_eq_true t6) ?_
      | refine Branch.dec (fun h => ?_) (fun h => ?_)
      | refine Branch.negdec (fun h => ?_) (fun h => ?_)
      | refine Branch.neg (fun h => ?_) (fun h => ?_)
      | refine Branch.mk (fun h => ?_) (fun h => ?_)
      | (refine Side.mk ?_ ?_; · first | omega | decide)
      | (refine SideD.mk ?_ ?_; · first | omega | decide)
      | refine ⟨_, Nat.lt_succ_self _, To.refl (.inl ⟨rfl, ?_⟩)⟩
      | (refine QCallA.of (h11 _) rfl rfl ?_; generalize hrr : s.c.seek _ = r; obtain ⟨x', ⟨p1, p2, p3, p4, p5⟩, e'⟩ := r)
      | (refine Side.mk ?_ ?_; · exact ⟨by simp [fits], by intro c hc; simp at hc; rcases hc with rfl | rfl | rfl | rfl | rfl <;> rfl⟩)
      | (refine Side.mk ?_ ?_; · (simp only [if_true]; split <;> omega))
      | (refine Side.mk ?_ ?_; · (simp; done))
      | fail
      )
  all_goals (conv => whnf)
  · have hI := seek_ok' H.c (by omega) hrr (by split <;> omega) (by assumption)
    have hJ := fin x' [⟨p1, p2, p3, p4, p5⟩] hI.1 (by simp; exact hI.2) (by simp)
    have hpd' := pcells_noLoc [⟨p1, p2, p3, p4, p5⟩]
    refine CallA.lend [(0, false), (1, true), (2, true), (3, true), (49, true), (5, true)] (c29_at (s := { s with c := x', ps := [⟨p1, p2, p3, p4, p5⟩] }) (bg := false) (ng := 0) (GC := []) f hJ rfl (by rw [hgs]; rfl) rfl (by rw [hgs]; rfl) rfl (by rw [hgs]; rfl)) rfl ⟨trivial, trivial, trivial, hpd', trivial, trivial⟩ rfl ?_
    rintro c H' ⟨rfl, rfl⟩
    refine ⟨⟨trivial, trivial, trivial, hpd', trivial, trivial⟩, ?_⟩
    (conv => whnf)
    exact RetA.gc [(0, false), (1, true), (2, true), (3, true), (4, true), (5, true), (49, true)] rfl ⟨trivial, trivial, trivial, trivial, trivial, hpd', trivial⟩ (wHp_at (s := { s with c := x', ps := [⟨p1, p2, p3, p4, p5⟩] }) (bg := false) (ng := 0) (GC := []) f _ (by exact trivial) hJ rfl (by rw [hgs]; rfl) rfl (by rw [hgs]; rfl) rfl (by rw [hgs]; rfl) rfl)
  · refine CallA.lend [(0, false), (1, true), (2, true), (3, true), (4, true), (5, true)] (c29_at (s := s) (bp := false) (np := 0) (PC := []) (bg := false) (ng := 0) (GC := []) f H.up (by rw [hps]; rfl) (by rw [hgs]; rfl) (by rw [hps]; rfl) (by rw [hgs]; rfl) (by rw [hps]; rfl) (by rw [hgs]; rfl)) rfl ⟨trivial, trivial, trivial, trivial, trivial, trivial⟩ rfl ?_
    rintro c H' ⟨rfl, rfl⟩
    refine ⟨⟨trivial, trivial, trivial, trivial, trivial, trivial⟩, ?_⟩
    (conv => whnf)
    exact RetA.gc [(0, false), (1, true), (2, true), (3, true), (4, true), (5, true)] rfl ⟨trivial, trivial, trivial, trivial, trivial, trivial⟩ (wHs_at (s := s) (bp := false) (np := 0) (PC := []) (bg := false) (ng := 0) (GC := []) f H.up (by rw [hps]; rfl) (by rw [hgs]; rfl) (by rw [hps]; rfl) (by rw [hgs]; rfl) (by rw [hps]; rfl) (by rw [hgs]; rfl) rfl)
theorem a_seek_2_01 (t : Nat) (ht : t < 150) (s : St) (f : Int) (H : Inv t s) (k h w n : Int) (hk : 0 ≤ k ∧ k < 256) (hh : 0 ≤ h ∧ h < 256) (hw : 0 ≤ w ∧ w < 256) (hn : 0 ≤ n ∧ n < 256) (h6 : k % 6 = 0) (h3 : h % 3 = 2) (hps : s.ps = []) (hgs : bn s.gs = true) :
  CallA Try.prog 10 [.ptr 0 0, .agg [.int .u8 k, .int .u8 h, .int .u8 w, .int .u8 n]] (wH s f) (ActK t f) := by
  refine callA_of ok10 (Nat.le_of_ble_eq_true rfl) ?_
  have hmin : IntKind.i64.min = -9223372036854775808 := rfl
  have hmax : IntKind.i64.max = 9223372036854775807 := rfl
  have t6 : k.tmod 6 = 0 := tm6 hk.1 h6
  have hpd := pcells_noLoc s.ps
  have hgd := gcells_noLoc s.gs
  have nps := H.np
  have ngs := H.ng
  have h11 := fun n => c11 s.c n
  have ha := H.c.e1
  have ha0 := H.c.e0
  have hr := H.c.r1
  have hr0 := H.c.r0
  have t3 : h.tmod 3 = 2 := tm3 hh.1 h3
  have fin : ∀ (q : Hol) (P : List Ple), HolOk (t + 1 : Nat) s.gs 3 q → (∀ p ∈ P, PleOk (t + 1 : Nat) p) → P.length ≤ t + 1 → Inv (t + 1) { s with c := q, ps := P } := fun q P hq hP hn => { H.up with c := hq, ps := hP, np := hn }
  unfold wH
  rw [hps, hgs]
  repeat' ((conv => whnf); first
      | refine Branch.ofT rfl ?_
      | refine Branch.ofF rfl ?_
      | (rw [t3]; refine Side.mk ?_ ?_; · omega)
      | (rw [hmin, hmax]; refine Side.mk ?_ ?_; · omega)
      | refine Branch.ofT (decide_eq_true t6) ?_
      | refine Branch.dec (fun h => ?_) (fun h => ?_)
      | refine Branch.negdec (fun h => ?_) (fun h => ?_)
      | refine Branch.neg (fun h => ?_) (fun h => ?_)
      | refine Branch.mk (fun h => ?_) (fun h => ?_)
      | (refine Side.mk ?_ ?_; · first | omega | decide)
      | (refine SideD.mk ?_ ?_; · first | omega | decide)
      | refine ⟨_, Nat.lt_succ_self _, To.refl (.inl ⟨rfl, ?_⟩)⟩
      | (refine QCallA.of (h11 _) rfl rfl ?_; generalize hrr : s.c.seek _ = r; obtain ⟨x', ⟨p1, p2, p3, p4, p5⟩, e'⟩ := r)
      | (refine Side.mk ?_ ?_; · exact ⟨by simp [fits], by intro c hc; simp at hc; rcases hc with rfl | rfl | rfl | rfl | rfl <;> rfl⟩)
      | (refine Side.mk ?_ ?_; · (simp only [if_true]; split <;> omega))
      | (refine Side.mk ?_ ?_; · (simp; done))
      | fail
      )
  all_goals (conv => whnf)
  · have hI := seek_ok' H.c (by omega) hrr (by split <;> omega) (by assumption)
    have hJ := fin x' [⟨p1, p2, p3, p4, p5⟩] hI.1 (by simp; exact hI.2) (by simp)
    have hpd' := pcells_noLoc [⟨p1, p2, p3, p4, p5⟩]
    refine CallA.lend [(0, false), (1, true), (2, true), (3, true), (49, true), (5, true)] (c29_at (s := { s with c := x', ps := [⟨p1, p2, p3, p4, p5⟩] }) f hJ rfl hgs rfl rfl rfl rfl) rfl ⟨trivial, trivial, trivial, hpd', hgd, trivial⟩ rfl ?_
    rintro c H' ⟨rfl, rfl⟩
    refine ⟨⟨trivial, trivial, trivial, hpd', hgd, trivial⟩, ?_⟩
    (conv => whnf)
    exact RetA.gc [(0, false), (1, true), (2, true), (3, true), (4, true), (5, true), (49, true)] rfl ⟨trivial, trivial, trivial, trivial, hgd, hpd', trivial⟩ (wHp_at (s := { s with c := x', ps := [⟨p1, p2, p3, p4, p5⟩] }) f _ (by exact trivial) hJ rfl hgs rfl rfl rfl rfl rfl)
  · refine CallA.lend [(0, false), (1, true), (2, true), (3, true), (4, true), (5, true)] (c29_at (s := s) (bp := false) (np := 0) (PC := []) f H.up (by rw [hps]; rfl) hgs (by rw [hps]; rfl) rfl (by rw [hps]; rfl) rfl) rfl ⟨trivial, trivial, trivial, trivial, hgd, trivial⟩ rfl ?_
    rintro c H' ⟨rfl, rfl⟩
    refine ⟨⟨trivial, trivial, trivial, trivial, hgd, trivial⟩, ?_⟩
    (conv => whnf)
    exact RetA.gc [(0, false), (1, true), (2, true), (3, true), (4, true), (5, true)] rfl ⟨trivial, trivial, trivial, trivial, hgd, trivial⟩ (wHs_at (s := s) (bp := false) (np := 0) (PC := []) f H.up (by rw [hps]; rfl) hgs (by rw [hps]; rfl) rfl (by rw [hps]; rfl) rfl rfl)
theorem a_seek_2_10 (t : Nat) (ht : t < 150) (s : St) (f : Int) (H : Inv t s) (k h w n : Int) (hk : 0 ≤ k ∧ k < 256) (hh : 0 ≤ h ∧ h < 256) (hw : 0 ≤ w ∧ w < 256) (hn : 0 ≤ n ∧ n < 256) (h6 : k % 6 = 0) (h3 : h % 3 = 2) (hps : bn s.ps = true) (hgs : s.gs = []) :
  CallA Try.prog 10 [.ptr 0 0, .agg [.int .u8 k, .int .u8 h, .int .u8 w, .int .u8 n]] (wH s f) (ActK t f) := by
  refine callA_of ok10 (Nat.le_of_ble_eq_true rfl) ?_
  have hmin : IntKind.i64.min = -9223372036854775808 := rfl
  have hmax : IntKind.i64.max = 9223372036854775807 := rfl
  have t6 : k.tmod 6 = 0 := tm6 hk.1 h6
  have hpd := pcells_noLoc s.ps
  have hgd := gcells_noLoc s.gs
  have nps := H.np
  have ngs := H.ng
  have h11 := fun n => c11 s.c n
  have ha := H.c.e1
  have ha0 := H.c.e0
  have hr := H.c.r1
  have hr0 := H.c.r0
  have t3 : h.tmod 3 = 2 := tm3 hh.1 h3
  have fin : ∀ (q : Hol) (P : List Ple), HolOk (t + 1 : Nat) s.gs 3 q → (∀ p ∈ P, PleOk (t + 1 : Nat) p) → P.length ≤ t + 1 → Inv (t + 1) { s with c := q, ps := P } := fun q P hq hP hn => { H.up with c := hq, ps := hP, np := hn }
  unfold wH
  rw [hps, hgs]
  repeat' ((conv => whnf); first
      | refine Branch.ofT rfl ?_
      | refine Branch.ofF rfl ?_
      | (rw [t3]; refine Side.mk ?_ ?_; · omega)
      | (rw [hmin, hmax]; refine Side.mk ?_ ?_; · omega)
      | refine Branch.ofT (decide_eq_true t6) ?_
      | refine Branch.dec (fun h => ?_) (fun h => ?_)
      | refine Branch.negdec (fun h => ?_) (fun h => ?_)
      | refine Branch.neg (fun h => ?_) (fun h => ?_)
      | refine Branch.mk (fun h => ?_) (fun h => ?_)
      | (refine Side.mk ?_ ?_; · first | omega | decide)
      | (refine SideD.mk ?_ ?_; · first | omega | decide)
      | refine ⟨_, Nat.lt_succ_self _, To.refl (.inl ⟨rfl, ?_⟩)⟩
      | (refine QCallA.of (h11 _) rfl rfl ?_; generalize hrr : s.c.seek _ = r; obtain ⟨x', ⟨p1, p2, p3, p4, p5⟩, e'⟩ := r)
      | (refine Side.mk ?_ ?_; · exact ⟨by simp [fits], by intro c hc; simp at hc; rcases hc with rfl | rfl | rfl | rfl | rfl <;> rfl⟩)
      | (refine Side.mk ?_ ?_; · (simp only [if_true]; split <;> omega))
      | (refine Side.mk ?_ ?_; · ((repeat' apply And.intro) <;> first | omega | rfl | exact Nat.zero_le _ | (simp only [pcells_len, gcells_len]; done) | (simp only [fits]; omega) | (simp only [List.length_append, List.length_cons, List.length_nil, pcells_len, gcells_len, rep]; omega) | (repeat' first | exact pcells_scal _ | exact gcells_scal _ | exact scal_nil | apply scal_int | apply scal_bool | apply scal_take)))
      | (refine Side.mk ?_ ?_; · (simp; done))
      | fail
      )
  all_goals (conv => whnf)
  · have hI := seek_ok' H.c (by omega) hrr (by split <;> omega) (by assumption)
    have hJ := fin x' (s.ps ++ [⟨p1, p2, p3, p4, p5⟩]) hI.1 (fun p hp => (List.mem_append.1 hp).elim (fun hp => (H.ps p hp).up) (fun hp => by simp at hp; subst hp; exact hI.2)) (by simp; omega)
    have hpd' := pcells_noLoc (s.ps ++ [⟨p1, p2, p3, p4, p5⟩])
    rw [pcells_app] at hpd'
    refine CallA.lend [(0, false), (1, true), (2, true), (3, true), (49, true), (5, true)] (c29_at (s := { s with c := x', ps := (s.ps ++ [⟨p1, p2, p3, p4, p5⟩]) }) (bg := false) (ng := 0) (GC := []) f hJ (bn_app _ _) (by rw [hgs]; rfl) (by rw [List.length_append]; rfl) (by rw [hgs]; rfl) (pcells_app _ _) (by rw [hgs]; rfl)) rfl ⟨trivial, trivial, trivial, hpd', trivial, trivial⟩ rfl ?_
    rintro c H' ⟨rfl, rfl⟩
    refine ⟨⟨trivial, trivial, trivial, hpd', trivial, trivial⟩, ?_⟩
    (conv => whnf)
    exact RetA.gc [(0, false), (1, true), (2, true), (3, true), (4, true), (5, true), (49, true)] rfl ⟨trivial, trivial, trivial, trivial, trivial, hpd', trivial⟩ (wHp_at (s := { s with c := x', ps := (s.ps ++ [⟨p1, p2, p3, p4, p5⟩]) }) (bg := false) (ng := 0) (GC := []) f _ (by exact trivial) hJ (bn_app _ _) (by rw [hgs]; rfl) (by rw [List.length_append]; rfl) (by rw [hgs]; rfl) (pcells_app _ _) (by rw [hgs]; rfl) rfl)
  · refine CallA.lend [(0, false), (1, true), (2, true), (3, true), (4, true), (5, true)] (c29_at (s := s) (bg := false) (ng := 0) (GC := []) f H.up hps (by rw [hgs]; rfl) rfl (by rw [hgs]; rfl) rfl (by rw [hgs]; rfl)) rfl ⟨trivial, trivial, trivial, hpd, trivial, trivial⟩ rfl ?_
    rintro c H' ⟨rfl, rfl⟩
    refine ⟨⟨trivial, trivial, trivial, hpd, trivial, trivial⟩, ?_⟩
    (conv => whnf)
    exact RetA.gc [(0, false), (1, true), (2, true), (3, true), (4, true), (5, true)] rfl ⟨trivial, trivial, trivial, hpd, trivial, trivial⟩ (wHs_at (s := s) (bg := false) (ng := 0) (GC := []) f H.up hps (by rw [hgs]; rfl) rfl (by rw [hgs]; rfl) rfl (by rw [hgs]; rfl) rfl)
theorem a_seek_2_11 (t : Nat) (ht : t < 150) (s : St) (f : Int) (H : Inv t s) (k h w n : Int) (hk : 0 ≤ k ∧ k < 256) (hh : 0 ≤ h ∧ h < 256) (hw : 0 ≤ w ∧ w < 256) (hn : 0 ≤ n ∧ n < 256) (h6 : k % 6 = 0) (h3 : h % 3 = 2) (hps : bn s.ps = true) (hgs : bn s.gs = true) :
  CallA Try.prog 10 [.ptr 0 0, .agg [.int .u8 k, .int .u8 h, .int .u8 w, .int .u8 n]] (wH s f) (ActK t f) := by
  refine callA_of ok10 (Nat.le_of_ble_eq_true rfl) ?_
  have hmin : IntKind.i64.min = -9223372036854775808 := rfl
  have hmax : IntKind.i64.max = 9223372036854775807 := rfl
  have t6 : k.tmod 6 = 0 := tm6 hk.1 h6
  have hpd := pcells_noLoc s.ps
  have hgd := gcells_noLoc s.gs
  have nps := H.np
  have ngs := H.ng
  have h11 := fun n => c11 s.c n
  have ha := H.c.e1
  have ha0 := H.c.e0
  have hr := H.c.r1
  have hr0 := H.c.r0
  have t3 : h.tmod 3 = 2 := tm3 hh.1 h3
  have fin : ∀ (q : Hol) (P : List Ple), HolOk (t + 1 : Nat) s.gs 3 q → (∀ p ∈ P, PleOk (t + 1 : Nat) p) → P.length ≤ t + 1 → Inv (t + 1) { s with c := q, ps := P } := fun q P hq hP hn => { H.up with c := hq, ps := hP, np := hn }
  unfold wH
  rw [hps, hgs]
  repeat' ((conv => whnf); first
      | refine Branch.ofT rfl ?_
      | refine Branch.ofF rfl ?_
      | (rw [t3]; refine Side.mk ?_ ?_; · omega)
      | (rw [hmin, hmax]; refine Side.mk ?_ ?_; · omega)
      | refine Branch.ofT (decide_eq_true t6) ?_
      | refine Branch.dec (fun h => ?_) (fun h => ?_)
      | refine Branch.negdec (fun h => ?_) (fun h => ?_)
      | refine Branch.neg (fun h => ?_) (fun h => ?_)
      | refine Branch.mk (fun h => ?_) (fun h => ?_)
      | (refine Side.mk ?_ ?_; · first | omega | decide)
      | (refine SideD.mk ?_ ?_; · first | omega | decide)
      | refine ⟨_, Nat.lt_succ_self _, To.refl (.inl ⟨rfl, ?_⟩)⟩
      | (refine QCallA.of (h11 _) rfl rfl ?_; generalize hrr : s.c.seek _ = r; obtain ⟨x', ⟨p1, p2, p3, p4, p5⟩, e'⟩ := r)
      | (refine Side.mk ?_ ?_; · exact ⟨by simp [fits], by intro c hc; simp at hc; rcases hc with rfl | rfl | rfl | rfl | rfl <;> rfl⟩)
      | (refine Side.mk ?_ ?_; · (simp only [if_true]; split <;> omega))
      | (refine Side.mk ?_ ?_; · ((repeat' apply And.intro) <;> first | omega | rfl | exact Nat.zero_le _ | (simp only [pcells_len, gcells_len]; done) | (simp only [fits]; omega) | (simp only [List.length_append, List.length_cons, List.length_nil, pcells_len, gcells_len, rep]; omega) | (repeat' first | exact pcells_scal _ | exact gcells_scal _ | exact scal_nil | apply scal_int | apply scal_bool | apply scal_take)))
      | (refine Side.mk ?_ ?_; · (simp; done))
      | fail
      )
  all_goals (conv => whnf)
  · have hI := seek_ok' H.c (by omega) hrr (by split <;> omega) (by assumption)
    have hJ := fin x' (s.ps ++ [⟨p1, p2, p3, p4, p5⟩]) hI.1 (fun p hp => (List.mem_append.1 hp).elim (fun hp => (H.ps p hp).up) (fun hp => by simp at hp; subst hp; exact hI.2)) (by simp; omega)
    have hpd' := pcells_noLoc (s.ps ++ [⟨p1, p2, p3, p4, p5⟩])
    rw [pcells_app] at hpd'
    refine CallA.lend [(0, false), (1, true), (2, true), (3, true), (49, true), (5, true)] (c29_at (s := { s with c := x', ps := (s.ps ++ [⟨p1, p2, p3, p4, p5⟩]) }) f hJ (bn_app _ _) hgs (by rw [List.length_append]; rfl) rfl (pcells_app _ _) rfl) rfl ⟨trivial, trivial, trivial, hpd', hgd, trivial⟩ rfl ?_
    rintro c H' ⟨rfl, rfl⟩
    refine ⟨⟨trivial, trivial, trivial, hpd', hgd, trivial⟩, ?_⟩
    (conv => whnf)
    exact RetA.gc [(0, false), (1, true), (2, true), (3, true), (4, true), (5, true), (49, true)] rfl ⟨trivial, trivial, trivial, trivial, hgd, hpd', trivial⟩ (wHp_at (s := { s with c := x', ps := (s.ps ++ [⟨p1, p2, p3, p4, p5⟩]) }) f _ (by exact trivial) hJ (bn_app _ _) hgs (by rw [List.length_append]; rfl) rfl (pcells_app _ _) rfl rfl)
  · refine CallA.lend [(0, false), (1, true), (2, true), (3, true), (4, true), (5, true)] (c29_at (s := s) f H.up hps hgs rfl rfl rfl rfl) rfl ⟨trivial, trivial, trivial, hpd, hgd, trivial⟩ rfl ?_
    rintro c H' ⟨rfl, rfl⟩
    refine ⟨⟨trivial, trivial, trivial, hpd, hgd, trivial⟩, ?_⟩
    (conv => whnf)
    exact RetA.gc [(0, false), (1, true), (2, true), (3, true), (4, true), (5, true)] rfl ⟨trivial, trivial, trivial, hpd, hgd, trivial⟩ (wHs_at (s := s) f H.up hps hgs rfl rfl rfl rfl rfl)
end Go.Proofs

namespace Go.Proofs
open Go Go.Eng
set_option maxRecDepth 100000
set_option maxHeartbeats 4000000
attribute [local irreducible] Hol.holds Hol.rel
theorem a_offer_0_00 (t : Nat) (ht : t < 150) (s : St) (f : Int) (H : Inv t s) (k h w n : Int) (hk : 0 ≤ k ∧ k < 256) (hh : 0 ≤ h ∧ h < 256) (hw : 0 ≤ w ∧ w < 256) (hn : 0 ≤ n ∧ n < 256) (h6 : k % 6 = 1) (h3 : h % 3 = 0) (hps : s.ps = []) (hgs : s.gs = []) :
  CallA Try.prog 10 [.ptr 0 0, .agg [.int .u8 k, .int .u8 h, .int .u8 w, .int .u8 n]] (wH s f) (ActK t f) := by
  refine callA_of ok10 (Nat.le_of_ble_eq_true rfl) ?_
  have hmin : IntKind.i64.min = -9223372036854775808 := rfl
  have hmax : IntKind.i64.max = 9223372036854775807 := rfl
  have t6 : k.tmod 6 = 1 := tm6 hk.1 h6
  have hpd := pcells_noLoc s.ps
  have hgd := gcells_noLoc s.gs
  have nps := H.np
  have ngs := H.ng
  have h14 := fun n => c14 s.a n
  have h15 := c15 s.a
  have rlo := rel_lo H.a
  have rhi := rel_hi H H.a
  have t3 : h.tmod 3 = 0 := tm3 hh.1 h3
  have fin : ∀ (P : List Ple), (∀ p ∈ P, PleOk (t + 1 : Nat) p) → P.length ≤ t + 1 → Inv (t + 1) { s with ps := P } := fun P hP hn => { H.up with ps := hP, np := hn }
  unfold wH
  rw [hps, hgs]
  repeat' ((conv => whnf); first
      | refine Branch.ofT rfl ?_
      | refine Branch.ofF rfl ?_
      | (rw [t3]; refine Side.mk ?_ ?_; · omega)
      | (rw [hmin, hmax]; refine Side.mk ?_ ?_; · omega)
      | refine Branch.ofT (decide_eq_true t6) ?_
      | refine Branch.ofF (decide_eq_false (by rw [t6]; decide)) ?_
      | refine Branch.dec (fun h => ?_) (fun h => ?_)
      | refine Branch.negdec (fun h => ?_) (fun h => ?_)
      | refine Branch.neg (fun h => ?_) (fun h => ?_)
      | refine Branch.mk (fun h => ?_) (fun h => ?_)
      | (refine Side.mk ?_ ?_; · first | omega | decide)
      | (refine SideD.mk ?_ ?_; · first | omega | decide)
      | refine ⟨_, Nat.lt_succ_self _, To.refl (.inl ⟨rfl, ?_⟩)⟩
      | (refine QCallA.of (h14 _) rfl rfl ?_; generalize hrr : s.a.offer _ = r; obtain ⟨⟨p1, p2, p3, p4, p5⟩, e'⟩ := r)
      | refine QCallA.of h15 rfl rfl ?_
      | (refine Side.mk ?_ ?_; · exact ⟨by simp [fits], by intro c hc; simp at hc; rcases hc with rfl | rfl | rfl | rfl | rfl <;> rfl⟩)
      | (refine Side.mk ?_ ?_; · (simp only [if_true]; split <;> omega))
      | (refine Side.mk ?_ ?_; · (simp; done))
      | fail
      )
  all_goals (conv => whnf)
  · have hI := (offer_ok' H H.a (by omega) hrr (by assumption)).up
    have hJ := fin [⟨p1, p2, p3, p4, p5⟩] (by simp; exact hI) (by simp)
    have hpd' := pcells_noLoc [⟨p1, p2, p3, p4, p5⟩]
    refine CallA.lend [(0, false), (1, true), (2, true), (3, true), (41, true), (5, true)] (c29_at (s := { s with ps := [⟨p1, p2, p3, p4, p5⟩] }) (bg := false) (ng := 0) (GC := []) f hJ rfl (by rw [hgs]; rfl) rfl (by rw [hgs]; rfl) rfl (by rw [hgs]; rfl)) rfl ⟨trivial, trivial, trivial, hpd', trivial, trivial⟩ rfl ?_
    rintro c H' ⟨rfl, rfl⟩
    refine ⟨⟨trivial, trivial, trivial, hpd', trivial, trivial⟩, ?_⟩
    (conv => whnf)
    exact RetA.gc [(0, false), (1, true), (2, true), (3, true), (4, true), (5, true), (41, true)] rfl ⟨trivial, trivial, trivial, trivial, trivial, hpd', trivial⟩ (wHp_at (s := { s with ps := [⟨p1, p2, p3, p4, p5⟩] }) (bg := false) (ng := 0) (GC := []) f _ (by exact trivial) hJ rfl (by rw [hgs]; rfl) rfl (by rw [hgs]; rfl) rfl (by rw [hgs]; rfl) rfl)
  · refine CallA.lend [(0, false), (1, true), (2, true), (3, true), (4, true), (5, true)] (c29_at (s := s) (bp := false) (np := 0) (PC := []) (bg := false) (ng := 0) (GC := []) f H.up (by rw [hps]; rfl) (by rw [hgs]; rfl) (by rw [hps]; rfl) (by rw [hgs]; rfl) (by rw [hps]; rfl) (by rw [hgs]; rfl)) rfl ⟨trivial, trivial, trivial, trivial, trivial, trivial⟩ rfl ?_
    rintro c H' ⟨rfl, rfl⟩
    refine ⟨⟨trivial, trivial, trivial, trivial, trivial, trivial⟩, ?_⟩
    (conv => whnf)
    exact RetA.gc [(0, false), (1, true), (2, true), (3, true), (4, true), (5, true)] rfl ⟨trivial, trivial, trivial, trivial, trivial, trivial⟩ (wHs_at (s := s) (bp := false) (np := 0) (PC := []) (bg := false) (ng := 0) (GC := []) f H.up (by rw [hps]; rfl) (by rw [hgs]; rfl) (by rw [hps]; rfl) (by rw [hgs]; rfl) (by rw [hps]; rfl) (by rw [hgs]; rfl) rfl)
theorem a_offer_0_01 (t : Nat) (ht : t < 150) (s : St) (f : Int) (H : Inv t s) (k h w n : Int) (hk : 0 ≤ k ∧ k < 256) (hh : 0 ≤ h ∧ h < 256) (hw : 0 ≤ w ∧ w < 256) (hn : 0 ≤ n ∧ n < 256) (h6 : k % 6 = 1) (h3 : h % 3 = 0) (hps : s.ps = []) (hgs : bn s.gs = true) :
  CallA Try.prog 10 [.ptr 0 0, .agg [.int .u8 k, .int .u8 h, .int .u8 w, .int .u8 n]] (wH s f) (ActK t f) := by
  refine callA_of ok10 (Nat.le_of_ble_eq_true rfl) ?_
  have hmin : IntKind.i64.min = -9223372036854775808 := rfl
  have hmax : IntKind.i64.max = 9223372036854775807 := rfl
  have t6 : k.tmod 6 = 1 := tm6 hk.1 h6
  have hpd := pcells_noLoc s.ps
  have hgd := gcells_noLoc s.gs
  have nps := H.np
  have ngs := H.ng
  have h14 := fun n => c14 s.a n
  have h15 := c15 s.a
  have rlo := rel_lo H.a
  have rhi := rel_hi H H.a
  have t3 : h.tmod 3 = 0 := tm3 hh.1 h3
  have fin : ∀ (P : List Ple), (∀ p ∈ P, PleOk (t + 1 : Nat) p) → P.length ≤ t + 1 → Inv (t + 1) { s with ps := P } := fun P hP hn => { H.up with ps := hP, np := hn }
  unfold wH
  rw [hps, hgs]
  repeat' ((conv => whnf); first
      | refine Branch.ofT rfl ?_
      | refine Branch.ofF rfl ?_
      | (rw [t3]; refine Side.mk ?_ ?_; · omega)
      | (rw [hmin, hmax]; refine Side.mk ?_ ?_; · omega)
      | refine Branch.ofT (decide_eq_true t6) ?_
      | refine Branch.ofF (decide_eq_false (by rw [t6]; decide)) ?_
      | refine Branch.dec (fun h => ?_) (fun h => ?_)
      | refine Branch.negdec (fun h => ?_) (fun h => ?_)
      | refine Branch.neg (fun h => ?_) (fun h => ?_)
      | refine Branch.mk (fun h => ?_) (fun h => ?_)
      | (refine Side.mk ?_ ?_; · first | omega | decide)
      | (refine SideD.mk ?_ ?_; · first | omega | decide)
      | refine ⟨_, Nat.lt_succ_self _, To.refl (.inl ⟨rfl, ?_⟩)⟩
      | (refine QCallA.of (h14 _) rfl rfl ?_; generalize hrr : s.a.offer _ = r; obtain ⟨⟨p1, p2, p3, p4, p5⟩, e'⟩ := r)
      | refine QCallA.of h15 rfl rfl ?_
      | (refine Side.mk ?_ ?_; · exact ⟨by simp [fits], by intro c hc; simp at hc; rcases hc with rfl | rfl | rfl | rfl | rfl <;> rfl⟩)
      | (refine Side.mk ?_ ?_; · (simp only [if_true]; split <;> omega))
      | (refine Side.mk ?_ ?_; · (simp; done))
      | fail
      )
  all_goals (conv => whnf)
  · have hI := (offer_ok' H H.a (by omega) hrr (by assumption)).up
    have hJ := fin [⟨p1, p2, p3, p4, p5⟩] (by simp; exact hI) (by simp)
    have hpd' := pcells_noLoc [⟨p1, p2, p3, p4, p5⟩]
    refine CallA.lend [(0, false), (1, true), (2, true), (3, true), (41, true), (5, true)] (c29_at (s := { s with ps := [⟨p1, p2, p3, p4, p5⟩] }) f hJ rfl hgs rfl rfl rfl rfl) rfl ⟨trivial, trivial, trivial, hpd', hgd, trivial⟩ rfl ?_
    rintro c H' ⟨rfl, rfl⟩
    refine ⟨⟨trivial, trivial, trivial, hpd', hgd, trivial⟩, ?_⟩
    (conv => whnf)
    exact RetA.gc [(0, false), (1, true), (2, true), (3, true), (4, true), (5, true), (41, true)] rfl ⟨trivial, trivial, trivial, trivial, hgd, hpd', trivial⟩ (wHp_at (s := { s with ps := [⟨p1, p2, p3, p4, p5⟩] }) f _ (by exact trivial) hJ rfl hgs rfl rfl rfl rfl rfl)
  · refine CallA.lend [(0, false), (1, true), (2, true), (3, true), (4, true), (5, true)] (c29_at (s := s) (bp := false) (np := 0) (PC := []) f H.up (by rw [hps]; rfl) hgs (by rw [hps]; rfl) rfl (by rw [hps]; rfl) rfl) rfl ⟨trivial, trivial, trivial, trivial, hgd, trivial⟩ rfl ?_
    rintro c H' ⟨rfl, rfl⟩
    refine ⟨⟨trivial, trivial, trivial, trivial, hgd, trivial⟩, ?_⟩
    (conv => whnf)
    exact RetA.gc [(0, false), (1, true), (2, true), (3, true), (4, true), (5, true)] rfl ⟨trivial, trivial, trivial, trivial, hgd, trivial⟩ (wHs_at (s := s) (bp := false) (np := 0) (PC := []) f H.up (by rw [hps]; rfl) hgs (by rw [hps]; rfl) rfl (by rw [hps]; rfl) rfl rfl)
theorem a_offer_0_10 (t : Nat) (ht : t < 150) (s : St) (f : Int) (H : Inv t s) (k h w n : Int) (hk : 0 ≤ k ∧ k < 256) (hh : 0 ≤ h ∧ h < 256) (hw : 0 ≤ w ∧ w < 256) (hn : 0 ≤ n ∧ n < 256) (h6 : k % 6 = 1) (h3 : h % 3 = 0) (hps : bn s.ps = true) (hgs : s.gs = []) :
  CallA Try.prog 10 [.ptr 0 0, .agg [.int .u8 k, .int .u8 h, .int .u8 w, .int .u8 n]] (wH s f) (ActK t f) := by
  refine callA_of ok10 (Nat.le_of_ble_eq_true rfl) ?_
  have hmin : IntKind.i64.min = -9223372036854775808 := rfl
  have hmax : IntKind.i64.max = 9223372036854775807 := rfl
  have t6 : k.tmod 6 = 1 := tm6 hk.1 h6
  have hpd := pcells_noLoc s.ps
  have hgd := gcells_noLoc s.gs
  have nps := H.np
  have ngs := H.ng
  have h14 := fun n => c14 s.a n
  have h15 := c15 s.a
  have rlo := rel_lo H.a
  have rhi := rel_hi H H.a
  have t3 : h.tmod 3 = 0 := tm3 hh.1 h3
  have fin : ∀ (P : List Ple), (∀ p ∈ P, PleOk (t + 1 : Nat) p) → P.length ≤ t + 1 → Inv (t + 1) { s with ps := P } := fun P hP hn => { H.up with ps := hP, np := hn }
  unfold wH
  rw [hps, hgs]
  repeat' ((conv => whnf); first
      | refine Branch.ofT rfl ?_
      | refine Branch.ofF rfl ?_
      | (rw [t3]; refine Side.mk ?_ ?_; · omega)
      | (rw [hmin, hmax]; refine Side.mk ?_ ?_; · omega)
      | refine Branch.ofT (decide_eq_true t6) ?_
      | refine Branch.ofF (decide_eq_false (by rw [t6]; decide)) ?_
      | refine Branch.dec (fun h => ?_) (fun h => ?_)
      | refine Branch.negdec (fun h => ?_) (fun h => ?_)
      | refine Branch.neg (fun h => ?_) (fun h => ?_)
      | refine Branch.mk (fun h => ?_) (fun h => ?_)
      | (refine Side.mk ?_ ?_; · first | omega | decide)
      | (refine SideD.mk ?_ ?_; · first | omega | decide)
      | refine ⟨_, Nat.lt_succ_self _, To.refl (.inl ⟨rfl, ?_⟩)⟩
      | (refine QCallA.of (h14 _) rfl rfl ?_; generalize hrr : s.a.offer _ = r; obtain ⟨⟨p1, p2, p3, p4, p5⟩, e'⟩ := r)
      | refine QCallA.of h15 rfl rfl ?_
      | (refine Side.mk ?_ ?_; · exact ⟨by simp [fits], by intro c hc; simp at hc; rcases hc with rfl | rfl | rfl | rfl | rfl <;> rfl⟩)
      | (refine Side.mk ?_ ?_; · (simp only [if_true]; split <;> omega))
      | (refine Side.mk ?_ ?_; · ((repeat' apply And.intro) <;> first | omega | rfl | exact Nat.zero_le _ | (simp only [pcells_len, gcells_len]; done) | (simp only [fits]; omega) | (simp only [List.length_append, List.length_cons, List.length_nil, pcells_len, gcells_len, rep]; omega) | (repeat' first | exact pcells_scal _ | exact gcells_scal _ | exact scal_nil | apply scal_int | apply scal_bool | apply scal_take)))
      | (refine Side.mk ?_ ?_; · (simp; done))
      | fail
      )
  all_goals (conv => whnf)
  · have hI := (offer_ok' H H.a (by omega) hrr (by assumption)).up
    have hJ := fin (s.ps ++ [⟨p1, p2, p3, p4, p5⟩]) (fun p hp => (List.mem_append.1 hp).elim (fun hp => (H.ps p hp).up) (fun hp => by simp at hp; subst hp; exact hI)) (by simp; omega)
    have hpd' := pcells_noLoc (s.ps ++ [⟨p1, p2, p3, p4, p5⟩])
    rw [pcells_app] at hpd'
    refine CallA.lend [(0, false), (1, true), (2, true), (3, true), (41, true), (5, true)] (c29_at (s := { s with ps := (s.ps ++ [⟨p1, p2, p3, p4, p5⟩]) }) (bg := false) (ng := 0) (GC := []) f hJ (bn_app _ _) (by rw [hgs]; rfl) (by rw [List.length_append]; rfl) (by rw [hgs]; rfl) (pcells_app _ _) (by rw [hgs]; rfl)) rfl ⟨trivial, trivial, trivial, hpd', trivial, trivial⟩ rfl ?_
    rintro c H' ⟨rfl, rfl⟩
    refine ⟨⟨trivial, trivial, trivial, hpd', trivial, trivial⟩, ?_⟩
    (conv => whnf)
    exact RetA.gc [(0, false), (1, true), (2, true), (3, true), (4, true), (5, true), (41, true)] rfl ⟨trivial, trivial, trivial, trivial, trivial, hpd', trivial⟩ (wHp_at (s := { s with ps := (s.ps ++ [⟨p1, p2, p3, p4, p5⟩]) }) (bg := false) (ng := 0) (GC := []) f _ (by exact trivial) hJ (bn_app _ _) (by rw [hgs]; rfl) (by rw [List.length_append]; rfl) (by rw [hgs]; rfl) (pcells_app _ _) (by rw [hgs]; rfl) rfl)
  · refine CallA.lend [(0, false), (1, true), (2, true), (3, true), (4, true), (5, true)] (c29_at (s := s) (bg := false) (ng := 0) (GC := []) f H.up hps (by rw [hgs]; rfl) rfl (by rw [hgs]; rfl) rfl (by rw [hgs]; rfl)) rfl ⟨trivial, trivial, trivial, hpd, trivial, trivial⟩ rfl ?_
    rintro c H' ⟨rfl, rfl⟩
    refine ⟨⟨trivial, trivial, trivial, hpd, trivial, trivial⟩, ?_⟩
    (conv => whnf)
    exact RetA.gc [(0, false), (1, true), (2, true), (3, true), (4, true), (5, true)] rfl ⟨trivial, trivial, trivial, hpd, trivial, trivial⟩ (wHs_at (s := s) (bg := false) (ng := 0) (GC := []) f H.up hps (by rw [hgs]; rfl) rfl (by rw [hgs]; rfl) rfl (by rw [hgs]; rfl) rfl)
theorem a_offer_0_11 (t : Nat) (ht : t < 150) (s : St) (f : Int) (H : Inv t s) (k h w n : Int) (hk : 0 ≤ k ∧ k < 256) (hh : 0 ≤ h ∧ h < 256) (hw : 0 ≤ w ∧ w < 256) (hn : 0 ≤ n ∧ n < 256) (h6 : k % 6 = 1) (h3 : h % 3 = 0) (hps : bn s.ps = true) (hgs : bn s.gs = true) :
  CallA Try.prog 10 [.ptr 0 0, .agg [.int .u8 k, .int .u8 h, .int .u8 w, .int .u8 n]] (wH s f) (ActK t f) := by
  refine callA_of ok10 (Nat.le_of_ble_eq_true rfl) ?_
  have hmin : IntKind.i64.min = -9223372036854775808 := rfl
  have hmax : IntKind.i64.max = 9223372036854775807 := rfl
  have t6 : k.tmod 6 = 1 := tm6 hk.1 h6
  have hpd := pcells_noLoc s.ps
  have hgd := gcells_noLoc s.gs
  have nps := H.np
  have ngs := H.ng
  have h14 := fun n => c14 s.a n
  have h15 := c15 s.a
  have rlo := rel_lo H.a
  have rhi := rel_hi H H.a
  have t3 : h.tmod 3 = 0 := tm3 hh.1 h3
  have fin : ∀ (P : List Ple), (∀ p ∈ P, PleOk (t + 1 : Nat) p) → P.length ≤ t + 1 → Inv (t + 1) { s with ps := P } := fun P hP hn => { H.up with ps := hP, np := hn }
  unfold wH
  rw [hps, hgs]
  repeat' ((conv => whnf); first
      | refine Branch.ofT rfl ?_
      | refine Branch.ofF rfl ?_
      | (rw [t3]; refine Side.mk ?_ ?_; · omega)
      | (rw [hmin, hmax]; refine Side.mk ?_ ?_; · omega)
      | refine Branch.ofT (decide_eq_true t6) ?_
      | refine Branch.ofF (decide_eq_false (by rw [t6]; decide)) ?_
      | refine Branch.dec (fun h => ?_) (fun h => ?_)
      | refine Branch.negdec (fun h => ?_) (fun h => ?_)
      | refine Branch.neg (fun h => ?_) (fun h => ?_)
      | refine Branch.mk (fun h => ?_) (fun h => ?_)
      | (refine Side.mk ?_ ?_; · first | omega | decide)
      | (refine SideD.mk ?_ ?_; · first | omega | decide)
      | refine ⟨_, Nat.lt_succ_self _, To.refl (.inl ⟨rfl, ?_⟩)⟩
      | (refine QCallA.of (h14 _) rfl rfl ?_; generalize hrr : s.a.offer _ = r; obtain ⟨⟨p1, p2, p3, p4, p5⟩, e'⟩ := r)
      | refine QCallA.of h15 rfl rfl ?_
      | (refine Side.mk ?_ ?_; · exact ⟨by simp [fits], by intro c hc; simp at hc; rcases hc with rfl | rfl | rfl | rfl | rfl <;> rfl⟩)
      | (refine Side.mk ?_ ?_; · (simp only [if_true]; split <;> omega))
      | (refine Side.mk ?_ ?_; · ((repeat' apply And.intro) <;> first | omega | rfl | exact Nat.zero_le _ | (simp only [pcells_len, gcells_len]; done) | (simp only [fits]; omega) | (simp only [List.length_append, List.length_cons, List.length_nil, pcells_len, gcells_len, rep]; omega) | (repeat' first | exact pcells_scal _ | exact gcells_scal _ | exact scal_nil | apply scal_int | apply scal_bool | apply scal_take)))
      | (refine Side.mk ?_ ?_; · (simp; done))
      | fail
      )
  all_goals (conv => whnf)
  · have hI := (offer_ok' H H.a (by omega) hrr (by assumption)).up
    have hJ := fin (s.ps ++ [⟨p1, p2, p3, p4, p5⟩]) (fun p hp => (List.mem_append.1 hp).elim (fun hp => (H.ps p hp).up) (fun hp => by simp at hp; subst hp; exact hI)) (by simp; omega)
    have hpd' := pcells_noLoc (s.ps ++ [⟨p1, p2, p3, p4, p5⟩])
    rw [pcells_app] at hpd'
    refine CallA.lend [(0, false), (1, true), (2, true), (3, true), (41, true), (5, true)] (c29_at (s := { s with ps := (s.ps ++ [⟨p1, p2, p3, p4, p5⟩]) }) f hJ (bn_app _ _) hgs (by rw [List.length_append]; rfl) rfl (pcells_app _ _) rfl) rfl ⟨trivial, trivial, trivial, hpd', hgd, trivial⟩ rfl ?_
    rintro c H' ⟨rfl, rfl⟩
    refine ⟨⟨trivial, trivial, trivial, hpd', hgd, trivial⟩, ?_⟩
    (conv => whnf)
    exact RetA.gc [(0, false), (1, true), (2, true), (3, true), (4, true), (5, true), (41, true)] rfl ⟨trivial, trivial, trivial, trivial, hgd, hpd', trivial⟩ (wHp_at (s := { s with ps := (s.ps ++ [⟨p1, p2, p3, p4, p5⟩]) }) f _ (by exact trivial) hJ (bn_app _ _) hgs (by rw [List.length_append]; rfl) rfl (pcells_app _ _) rfl rfl)
  · refine CallA.lend [(0, false), (1, true), (2, true), (3, true), (4, true), (5, true)] (c29_at (s := s) f H.up hps hgs rfl rfl rfl rfl) rfl ⟨trivial, trivial, trivial, hpd, hgd, trivial⟩ rfl ?_
    rintro c H' ⟨rfl, rfl⟩
    refine ⟨⟨trivial, trivial, trivial, hpd, hgd, trivial⟩, ?_⟩
    (conv => whnf)
    exact RetA.gc [(0, false), (1, true), (2, true), (3, true), (4, true), (5, true)] rfl ⟨trivial, trivial, trivial, hpd, hgd, trivial⟩ (wHs_at (s := s) f H.up hps hgs rfl rfl rfl rfl rfl)
theorem a_offer_1_00 (t : Nat) (ht : t < 150) (s : St) (f : Int) (H : Inv t s) (k h w n : Int) (hk : 0 ≤ k ∧ k < 256) (hh : 0 ≤ h ∧ h < 256) (hw : 0 ≤ w ∧ w < 256) (hn : 0 ≤ n ∧ n < 256) (h6 : k % 6 = 1) (h3 : h % 3 = 1) (hps : s.ps = []) (hgs : s.gs = []) :
  CallA Try.prog 10 [.ptr 0 0, .agg [.int .u8 k, .int .u8 h, .int .u8 w, .int .u8 n]] (wH s f) (ActK t f) := by
  refine callA_of ok10 (Nat.le_of_ble_eq_true rfl) ?_
  have hmin : IntKind.i64.min = -9223372036854775808 := rfl
  have hmax : IntKind.i64.max = 9223372036854775807 := rfl
  have t6 : k.tmod 6 = 1 := tm6 hk.1 h6
  have hpd := pcells_noLoc s.ps
  have hgd := gcells_noLoc s.gs
  have nps := H.np
  have ngs := H.ng
  have h14 := fun n => c14 s.b n
  have h15 := c15 s.b
  have rlo := rel_lo H.b
  have rhi := rel_hi H H.b
  have t3 : h.tmod 3 = 1 := tm3 hh.1 h3
  have fin : ∀ (P : List Ple), (∀ p ∈ P, PleOk (t + 1 : Nat) p) → P.length ≤ t + 1 → Inv (t + 1) { s with ps := P } := fun P hP hn => { H.up with ps := hP, np := hn }
  unfold wH
  rw [hps, hgs]
  repeat' ((conv => whnf); first
      | refine Branch.ofT rfl ?_
      | refine Branch.ofF rfl ?_
      | (rw [t3]; refine Side.mk ?_ ?_; · omega)
      | (rw [hmin, hmax]; refine Side.mk ?_ ?_; · omega)
      | refine Branch.ofT (decide_eq_true t6) ?_
      | refine Branch.ofF (decide_eq_false (by rw [t6]; decide)) ?_
      | refine Branch.dec (fun h => ?_) (fun h => ?_)
      | refine Branch.negdec (fun h => ?_) (fun h => ?_)
      | refine Branch.neg (fun h => ?_) (fun h => ?_)
      | refine Branch.mk (fun h => ?_) (fun h => ?_)
      | (refine Side.mk ?_ ?_; · first | omega | decide)
      | (refine SideD.mk ?_ ?_; · first | omega | decide)
      | refine ⟨_, Nat.lt_succ_self _, To.refl (.inl ⟨rfl, ?_⟩)⟩
      | (refine QCallA.of (h14 _) rfl rfl ?_; generalize hrr : s.b.offer _ = r; obtain ⟨⟨p1, p2, p3, p4, p5⟩, e'⟩ := r)
      | refine QCallA.of h15 rfl rfl ?_
      | (refine Side.mk ?_ ?_; · exact ⟨by simp [fits], by intro c hc; simp at hc; rcases hc with rfl | rfl | rfl | rfl | rfl <;> rfl⟩)
      | (refine Side.mk ?_ ?_; · (simp only [if_true]; split <;> omega))
      | (refine Side.mk ?_ ?_; · (simp; done))
      | fail
      )
  all_goals (conv => whnf)
  · have hI := (offer_ok' H H.b (by omega) hrr (by assumption)).up
    have hJ := fin [⟨p1, p2, p3, p4, p5⟩] (by simp; exact hI) (by simp)
    have hpd' := pcells_noLoc [⟨p1, p2, p3, p4, p5⟩]
    refine CallA.lend [(0, false), (1, true), (2, true), (3, true), (41, true), (5, true)] (c29_at (s := { s with ps := [⟨p1, p2, p3, p4, p5⟩] }) (bg := false) (ng := 0) (GC := []) f hJ rfl (by rw [hgs]; rfl) rfl (by rw [hgs]; rfl) rfl (by rw [hgs]; rfl)) rfl ⟨trivial, trivial, trivial, hpd', trivial, trivial⟩ rfl ?_
    rintro c H' ⟨rfl, rfl⟩
    refine ⟨⟨trivial, trivial, trivial, hpd', trivial, trivial⟩, ?_⟩
    (conv => whnf)
    exact RetA.gc [(0, false), (1, true), (2, true), (3, true), (4, true), (5, true), (41, true)] rfl ⟨trivial, trivial, trivial, trivial, trivial, hpd', trivial⟩ (wHp_at (s := { s with ps := [⟨p1, p2, p3, p4, p5⟩] }) (bg := false) (ng := 0) (GC := []) f _ (by exact trivial) hJ rfl (by rw [hgs]; rfl) rfl (by rw [hgs]; rfl) rfl (by rw [hgs]; rfl) rfl)
  · refine CallA.lend [(0, false), (1, true), (2, true), (3, true), (4, true), (5, true)] (c29_at (s := s) (bp := false) (np := 0) (PC := []) (bg := false) (ng := 0) (GC := []) f H.up (by rw [hps]; rfl) (by rw [hgs]; rfl) (by rw [hps]; rfl) (by rw [hgs]; rfl) (by rw [hps]; rfl) (by rw [hgs]; rfl)) rfl ⟨trivial, trivial, trivial, trivial, trivial, trivial⟩ rfl ?_
    rintro c H' ⟨rfl, rfl⟩
    refine ⟨⟨trivial, trivial, trivial, trivial, trivial, trivial⟩, ?_⟩
    (conv => whnf)
    exact RetA.gc [(0, false), (1, true), (2, true), (3, true), (4, true), (5, true)] rfl ⟨trivial, trivial, trivial, trivial, trivial, trivial⟩ (wHs_at (s := s) (bp := false) (np := 0) (PC := []) (bg := false) (ng := 0) (GC := []) f H.up (by rw [hps]; rfl) (by rw [hgs]; rfl) (by rw [hps]; rfl) (by rw [hgs]; rfl) (by rw [hps]; rfl) (by rw [hgs]; rfl) rfl)
theorem a_offer_1_01 (t : Nat) (ht : t < 150) (s : St) (f : Int) (H : Inv t s) (k h w n : Int) (hk : 0 ≤ k ∧ k < 256) (hh : 0 ≤ h ∧ h < 256) (hw : 0 ≤ w ∧ w < 256) (hn : 0 ≤ n ∧ n < 256) (h6 : k % 6 = 1) (h3 : h % 3 = 1) (hps : s.ps = []) (hgs : bn s.gs = true) :
  CallA Try.prog 10 [.ptr 0 0, .agg [.int .u8 k, .int .u8 h, .int .u8 w, .int .u8 n]] (wH s f) (ActK t f) := by
  refine callA_of ok10 (Nat.le_of_ble_eq_true rfl) ?_
  have hmin : IntKind.i64.min = -9223372036854775808 := rfl
  have hmax : IntKind.i64.max = 9223372036854775807 := rfl
  have t6 : k.tmod 6 = 1 := tm6 hk.1 h6
  have hpd := pcells_noLoc s.ps
  have hgd := gcells_noLoc s.gs
  have nps := H.np
  have ngs := H.ng
  have h14 := fun n => c14 s.b n
  have h15 := c15 s.b
  have rlo := rel_lo H.b
  have rhi := rel_hi H H.b
  have t3 : h.tmod 3 = 1 := tm3 hh.1 h3
  have fin : ∀ (P : List Ple), (∀ p ∈ P, PleOk (t + 1 : Nat) p) → P.length ≤ t + 1 → Inv (t + 1) { s with ps := P } := fun P hP hn => { H.up with ps := hP, np := hn }
  unfold wH
  rw [hps, hgs]
  repeat' ((conv => whnf); first
      | refine Branch.ofT rfl ?_
      | refine Branch.ofF rfl ?_
      | (rw [t3]; refine Side.mk ?_ ?_; · omega)
      | (rw [hmin, hmax]; refine Side.mk ?_ ?_; · omega)
      | refine Branch.ofT (decide_eq_true t6) ?_
      | refine Branch.ofF (decide_eq_false (by rw [t6]; decide)) ?_
      | refine Branch.dec (fun h => ?_) (fun h => ?_)
      | refine Branch.negdec (fun h => ?_) (fun h => ?_)
      | refine Branch.neg (fun h => ?_) (fun h => ?_)
      | refine Branch.mk (fun h => ?_) (fun h => ?_)
      | (refine Side.mk ?_ ?_; · first | omega | decide)
      | (refine SideD.mk ?_ ?_; · first | omega | decide)
      | refine ⟨_, Nat.lt_succ_self _, To.refl (.inl ⟨rfl, ?_⟩)⟩
      | (refine QCallA.of (h14 _) rfl rfl ?_; generalize hrr : s.b.offer _ = r; obtain ⟨⟨p1, p2, p3, p4, p5⟩, e'⟩ := r)
      | refine QCallA.of h15 rfl rfl ?_
      | (refine Side.mk ?_ ?_; · exact ⟨by simp [fits], by intro c hc; simp at hc; rcases hc with rfl | rfl | rfl | rfl | rfl <;> rfl⟩)
      | (refine Side.mk ?_ ?_; · (simp only [if_true]; split <;> omega))
      | (refine Side.mk ?_ ?_; · (simp; done))
      | fail
      )
  all_goals (conv => whnf)
  · have hI := (offer_ok' H H.b (by omega) hrr (by assumption)).up
    have hJ := fin [⟨p1, p2, p3, p4, p5⟩] (by simp; exact hI) (by simp)
    have hpd' := pcells_noLoc [⟨p1, p2, p3, p4, p5⟩]
    refine CallA.lend [(0, false), (1, true), (2, true), (3, true), (41, true), (5, true)] (c29_at (s := { s with ps := [⟨p1, p2, p3, p4, p5⟩] }) f hJ rfl hgs rfl rfl rfl rfl) rfl ⟨trivial, trivial, trivial, hpd', hgd, trivial⟩ rfl ?_
    rintro c H' ⟨rfl, rfl⟩
    refine ⟨⟨trivial, trivial, trivial, hpd', hgd, trivial⟩, ?_⟩
    (conv => whnf)
    exact RetA.gc [(0, false), (1, true), (2, true), (3, true), (4, true), (5, true), (41, true)] rfl ⟨trivial, trivial, trivial, trivial, hgd, hpd', trivial⟩ (wHp_at (s := { s with ps := [⟨p1, p2, p3, p4, p5⟩] }) f _ (by exact trivial) hJ rfl hgs rfl rfl rfl rfl rfl)
  · refine CallA.lend [(0, false), (1, true), (2, true), (3, true), (4, true), (5, true)] (c29_at (s := s) (bp := false) (np := 0) (PC := []) f H.up (by rw [hps]; rfl) hgs (by rw [hps]; rfl) rfl (by rw [hps]; rfl) rfl) rfl ⟨trivial, trivial, trivial, trivial, hgd, trivial⟩ rfl ?_
    rintro c H' ⟨rfl, rfl⟩
    refine ⟨⟨trivial, trivial, trivial, trivial, hgd, trivial⟩, ?_⟩
    (conv => whnf)
    exact RetA.gc [(0, false), (1, true), (2, true), (3, true), (4, true), (5, true)] rfl ⟨trivial, trivial, trivial, trivial, hgd, trivial⟩ (wHs_at (s := s) (bp := false) (np := 0) (PC := []) f H.up (by rw [hps]; rfl) hgs (by rw [hps]; rfl) rfl (by rw [hps]; rfl) rfl rfl)
theorem a_offer_1_10 (t : Nat) (ht : t < 150) (s : St) (f : Int) (H : Inv t s) (k h w n : Int) (hk : 0 ≤ k ∧ k < 256) (hh : 0 ≤ h ∧ h < 256) (hw : 0 ≤ w ∧ w < 256) (hn : 0 ≤ n ∧ n < 256) (h6 : k % 6 = 1) (h3 : h % 3 = 1) (hps : bn s.ps = true) (hgs : s.gs = []) :
  CallA Try.prog 10 [.ptr 0 0, .agg [.int .u8 k, .int .u8 h, .int .u8 w, .int .u8 n]] (wH s f) (ActK t f) := by
  refine callA_of ok10 (Nat.le_of_ble_eq_true rfl) ?_
  have hmin : IntKind.i64.min = -9223372036854775808 := rfl
  have hmax : IntKind.i64.max = 9223372036854775807 := rfl
  have t6 : k.tmod 6 = 1 := tm6 hk.1 h6
  have hpd := pcells_noLoc s.ps
  have hgd := gcells_noLoc s.gs
  have nps := H.np
  have ngs := H.ng
  have h14 := fun n => c14 s.b n
  have h15 := c15 s.b
  have rlo := rel_lo H.b
  have rhi := rel_hi H H.b
  have t3 : h.tmod 3 = 1 := tm3 hh.1 h3
  have fin : ∀ (P : List Ple), (∀ p ∈ P, PleOk (t + 1 : Nat) p) → P.length ≤ t + 1 → Inv (t + 1) { s with ps := P } := fun P hP hn => { H.up with ps := hP, np := hn }
  unfold wH
  rw [hps, hgs]
  repeat' ((conv => whnf); first
      | refine Branch.ofT rfl ?_
      | refine Branch.ofF rfl ?_
      | (rw [t3]; refine Side.mk ?_ ?_; · omega)
      | (rw [hmin, hmax]; refine Side.mk ?_ ?_; · omega)
      | refine Branch.ofT (decide_eq_true t6) ?_
      | refine Branch.ofF (decide_eq_false (by rw [t6]; decide)) ?_
      | refine Branch.dec (fun h => ?_) (fun h => ?_)
      | refine Branch.negdec (fun h => ?_) (fun h => ?_)
      | refine Branch.neg (fun h => ?_) (fun h => ?_)
      | refine Branch.mk (fun h => ?_) (fun h => ?_)
      | (refine Side.mk ?_ ?_; · first | omega | decide)
      | (refine SideD.mk ?_ ?_; · first | omega | decide)
      | refine ⟨_, Nat.lt_succ_self _, To.refl (.inl ⟨rfl, ?_⟩)⟩
      | (refine QCallA.of (h14 _) rfl rfl ?_; generalize hrr : s.b.offer _ = r; obtain ⟨⟨p1, p2, p3, p4, p5⟩, e'⟩ := r)
      | refine QCallA.of h15 rfl rfl ?_
      | (refine Side.mk ?_ ?_; · exact ⟨by simp [fits], by intro c hc; simp at hc; rcases hc with rfl | rfl | rfl | rfl | rfl <;> rfl⟩)
      | (refine Side.mk ?_ ?_; · (simp only [if_true]; split <;> omega))
      | (refine Side.mk ?_ ?_; · ((repeat' apply And.intro) <;> first | omega | rfl | exact Nat.zero_le _ | (simp only [pcells_len, gcells_len]; done) | (simp only [fits]; omega) | (simp only [List.length_append, List.length_cons, List.length_nil, pcells_len, gcells_len, rep]; omega) | (repeat' first | exact pcells_scal _ | exact gcells_scal _ | exact scal_nil | apply scal_int | apply scal_bool | apply scal_take)))
      | (refine Side.mk ?_ ?_; · (simp; done))
      | fail
      )
  all_goals (conv => whnf)
  · have hI := (offer_ok' H H.b (by omega) hrr (by assumption)).up
    have hJ := fin (s.ps ++ [⟨p1, p2, p3, p4, p5⟩]) (fun p hp => (List.mem_append.1 hp).elim (fun hp => (H.ps p hp).up) (fun hp => by simp at hp; subst hp; exact hI)) (by simp; omega)
    have hpd' := pcells_noLoc (s.ps ++ [⟨p1, p2, p3, p4, p5⟩])
    rw [pcells_app] at hpd'
    refine CallA.lend [(0, false), (1, true), (2, true), (3, true), (41, true), (5, true)] (c29_at (s := { s with ps := (s.ps ++ [⟨p1, p2, p3, p4, p5⟩]) }) (bg := false) (ng := 0) (GC := []) f hJ (bn_app _ _) (by rw [hgs]; rfl) (by rw [List.length_append]; rfl) (by rw [hgs]; rfl) (pcells_app _ _) (by rw [hgs]; rfl)) rfl ⟨trivial, trivial, trivial, hpd', trivial, trivial⟩ rfl ?_
    rintro c H' ⟨rfl, rfl⟩
    refine ⟨⟨trivial, trivial, trivial, hpd', trivial, trivial⟩, ?_⟩
    (conv => whnf)
    exact RetA.gc [(0, false), (1, true), (2, true), (3, true), (4, true), (5, true), (41, true)] rfl ⟨trivial, trivial, trivial, trivial, trivial, hpd', trivial⟩ (wHp_at (s := { s with ps := (s.ps ++ [⟨p1, p2, p3, p4, p5⟩]) }) (bg := false) (ng := 0) (GC := []) f _ (by exact trivial) hJ (bn_app _ _) (by rw [hgs]; rfl) (by rw [List.length_append]; rfl) (by rw [hgs]; rfl) (pcells_app _ _) (by rw [hgs]; rfl) rfl)
  · refine CallA.lend [(0, false), (1, true), (2, true), (3, true), (4, true), (5, true)] (c29_at (s := s) (bg := false) (ng := 0) (GC := []) f H.up hps (by rw [hgs]; rfl) rfl (by rw [hgs]; rfl) rfl (by rw [hgs]; rfl)) rfl ⟨trivial, trivial, trivial, hpd, trivial, trivial⟩ rfl ?_
    rintro c H' ⟨rfl, rfl⟩
    refine ⟨⟨trivial, trivial, trivial, hpd, trivial, trivial⟩, ?_⟩
    (conv => whnf)
    exact RetA.gc [(0, false), (1, true), (2, true), (3, true), (4, true), (5, true)] rfl ⟨trivial, trivial, trivial, hpd, trivial, trivial⟩ (wHs_at (s := s) (bg := false) (ng := 0) (GC := []) f H.up hps (by rw [hgs]; rfl) rfl (by rw [hgs]; rfl) rfl (by rw [hgs]; rfl) rfl)
theorem a_offer_1_11 (t : Nat) (ht : t < 150) (s : St) (f : Int) (H : Inv t s) (k h w n : Int) (hk : 0 ≤ k ∧ k < 256) (hh : 0 ≤ h ∧ h < 256) (hw : 0 ≤ w ∧ w < 256) (hn : 0 ≤ n ∧ n < 256) (h6 : k % 6 = 1) (h3 : h % 3 = 1) (hps : bn s.ps = true) (hgs : bn s.gs = true) :
  CallA Try.prog 10 [.ptr 0 0, .agg [.int .u8 k, .int .u8 h, .int .u8 w, .int .u8 n]] (wH s f) (ActK t f) := by
  refine callA_of ok10 (Nat.le_of_ble_eq_true rfl) ?_
  have hmin : IntKind.i64.min = -9223372036854775808 := rfl
  have hmax : IntKind.i64.max = 9223372036854775807 := rfl
  have t6 : k.tmod 6 = 1 := tm6 hk.1 h6
  have hpd := pcells_noLoc s.ps
  have hgd := gcells_noLoc s.gs
  have nps := H.np
  have ngs := H.ng
  have h14 := fun n => c14 s.b n
  have h15 := c15 s.b
  have rlo := rel_lo H.b
  have rhi := rel_hi H H.b
  have t3 : h.tmod 3 = 1 := tm3 hh.1 h3
  have fin : ∀ (P : List Ple), (∀ p ∈ P, PleOk (t + 1 : Nat) p) → P.length ≤ t + 1 → Inv (t + 1) { s with ps := P } := fun P hP hn => { H.up with ps := hP, np := hn }
  unfold wH
  rw [hps, hgs]
  repeat' ((conv => whnf); first
      | refine Branch.ofT rfl ?_
      | refine Branch.ofF rfl ?_
      | (rw [t3]; refine Side.mk ?_ ?_; · omega)
      | (rw [hmin, hmax]; refine Side.mk ?_ ?_; · omega)
      | refine Branch.ofT (decide_eq_true t6) ?_
      | refine Branch.ofF (decide_eq_false (by rw [t6]; decide)) ?_
      | refine Branch.dec (fun h => ?_) (fun h => ?_)
      | refine Branch.negdec (fun h => ?_) (fun h => ?_)
      | refine Branch.neg (fun h => ?_) (fun h => ?_)
      | refine Branch.mk (fun h => ?_) (fun h => ?_)
      | (refine Side.mk ?_ ?_; · first | omega | decide)
      | (refine SideD.mk ?_ ?_; · first | omega | decide)
      | refine ⟨_, Nat.lt_succ_self _, To.refl (.inl ⟨rfl, ?_⟩)⟩
      | (refine QCallA.of (h14 _) rfl rfl ?_; generalize hrr : s.b.offer _ = r; obtain ⟨⟨p1, p2, p3, p4, p5⟩, e'⟩ := r)
      | refine QCallA.of h15 rfl rfl ?_
      | (refine Side.mk ?_ ?_; · exact ⟨by simp [fits], by intro c hc; simp at hc; rcases hc with rfl | rfl | rfl | rfl | rfl <;> rfl⟩)
      | (refine Side.mk ?_ ?_; · (simp only [if_true]; split <;> omega))
      | (refine Side.mk ?_ ?_; · ((repeat' apply And.intro) <;> first | omega | rfl | exact Nat.zero_le _ | (simp only [pcells_len, gcells_len]; done) | (simp only [fits]; omega) | (simp only [List.length_append, List.length_cons, List.length_nil, pcells_len, gcells_len, rep]; omega) | (repeat' first | exact pcells_scal _ | exact gcells_scal _ | exact scal_nil | apply scal_int | apply scal_bool | apply scal_take)))
      | (refine Side.mk ?_ ?_; · (simp; done))
      | fail
      )
  all_goals (conv => whnf)
  · have hI := (offer_ok' H H.b (by omega) hrr (by assumption)).up
    have hJ := fin (s.ps ++ [⟨p1, p2, p3, p4, p5⟩]) (fun p hp => (List.mem_append.1 hp).elim (fun hp => (H.ps p hp).up) (fun hp => by simp at hp; subst hp; exact hI)) (by simp; omega)
    have hpd' := pcells_noLoc (s.ps ++ [⟨p1, p2, p3, p4, p5⟩])
    rw [pcells_app] at hpd'
    refine CallA.lend [(0, false), (1, true), (2, true), (3, true), (41, true), (5, true)] (c29_at (s := { s with ps := (s.ps ++ [⟨p1, p2, p3, p4, p5⟩]) }) f hJ (bn_app _ _) hgs (by rw [List.length_append]; rfl) rfl (pcells_app _ _) rfl) rfl ⟨trivial, trivial, trivial, hpd', hgd, trivial⟩ rfl ?_
    rintro c H' ⟨rfl, rfl⟩
    refine ⟨⟨trivial, trivial, trivial, hpd', hgd, trivial⟩, ?_⟩
    (conv => whnf)
    exact RetA.gc [(0, false), (1, true), (2, true), (3, true), (4, true), (5, true), (41, true)] rfl ⟨trivial, trivial, trivial, trivial, hgd, hpd', trivial⟩ (wHp_at (s := { s with ps := (s.ps ++ [⟨p1, p2, p3, p4, p5⟩]) }) f _ (by exact trivial) hJ (bn_app _ _) hgs (by rw [List.length_append]; rfl) rfl (pcells_app _ _) rfl rfl)
  · refine CallA.lend [(0, false), (1, true), (2, true), (3, true), (4, true), (5, true)] (c29_at (s := s) f H.up hps hgs rfl rfl rfl rfl) rfl ⟨trivial, trivial, trivial, hpd, hgd, trivial⟩ rfl ?_
    rintro c H' ⟨rfl, rfl⟩
    refine ⟨⟨trivial, trivial, trivial, hpd, hgd, trivial⟩, ?_⟩
    (conv => whnf)
    exact RetA.gc [(0, false), (1, true), (2, true), (3, true), (4, true), (5, true)] rfl ⟨trivial, trivial, trivial, hpd, hgd, trivial⟩ (wHs_at (s := s) f H.up hps hgs rfl rfl rfl rfl rfl)
theorem a_offer_2_00 (t : Nat) (ht : t < 150) (s : St) (f : Int) (H : Inv t s) (k h w n : Int) (hk : 0 ≤ k ∧ k < 256) (hh : 0 ≤ h ∧ h < 256) (hw : 0 ≤ w ∧ w < 256) (hn : 0 ≤ n ∧ n < 256) (h6 : k % 6 = 1) (h3 : h % 3 = 2) (hps : s.ps = []) (hgs : s.gs = []) :
  CallA Try.prog 10 [.ptr 0 0, .agg [.int .u8 k, .int .u8 h, .int .u8 w, .int .u8 n]] (wH s f) (ActK t f) := by
  refine callA_of ok10 (Nat.le_of_ble_eq_true rfl) ?_
  have hmin : IntKind.i64.min = -9223372036854775808 := rfl
  have hmax : IntKind.i64.max = 9223372036854775807 := rfl
  have t6 : k.tmod 6 = 1 := tm6 hk.1 h6
  have hpd := pcells_noLoc s.ps
  have hgd := gcells_noLoc s.gs
  have nps := H.np
  have ngs := H.ng
  have h14 := fun n => c14 s.c n
  have h15 := c15 s.c
  have rlo := rel_lo H.c
  have rhi := rel_hi H H.c
  have t3 : h.tmod 3 = 2 := tm3 hh.1 h3
  have fin : ∀ (P : List Ple), (∀ p ∈ P, PleOk (t + 1 : Nat) p) → P.length ≤ t + 1 → Inv (t + 1) { s with ps := P } := fun P hP hn => { H.up with ps := hP, np := hn }
  unfold wH
  rw [hps, hgs]
  repeat' ((conv => whnf); first
      | refine Branch.ofT rfl ?_
      | refine Branch.ofF rfl ?_
      | (rw [t3]; refine Side.mk ?_ ?_; · omega)
      | (rw [hmin, hmax]; refine Side.mk ?_ ?_; · omega)
      | refine Branch.ofT (decide_eq_true t6) ?_
      | refine Branch.ofF (decide_eq_false (by rw [t6]; decide)) ?_
      | refine Branch.dec (fun h => ?_) (fun h => ?_)
      | refine Branch.negdec (fun h => ?_) (fun h => ?_)
      | refine Branch.neg (fun h => ?_) (fun h => ?_)
      | refine Branch.mk (fun h => ?_) (fun h => ?_)
      | (refine Side.mk ?_ ?_; · first | omega | decide)
      | (refine SideD.mk ?_ ?_; · first | omega | decide)
      | refine ⟨_, Nat.lt_succ_self _, To.refl (.inl ⟨rfl, ?_⟩)⟩
      | (refine QCallA.of (h14 _) rfl rfl ?_; generalize hrr : s.c.offer _ = r; obtain ⟨⟨p1, p2, p3, p4, p5⟩, e'⟩ := r)
      | refine QCallA.of h15 rfl rfl ?_
      | (refine Side.mk ?_ ?_; · exact ⟨by simp [fits], by intro c hc; simp at hc; rcases hc with rfl | rfl | rfl | rfl | rfl <;> rfl⟩)
      | (refine Side.mk ?_ ?_; · (simp only [if_true]; split <;> omega))
      | (refine Side.mk ?_ ?_; · (simp; done))
      | fail
      )
  all_goals (conv => whnf)
  · have hI := (offer_ok' H H.c (by omega) hrr (by assumption)).up
    have hJ := fin [⟨p1, p2, p3, p4, p5⟩] (by simp; exact hI) (by simp)
    have hpd' := pcells_noLoc [⟨p1, p2, p3, p4, p5⟩]
    refine CallA.lend [(0, false), (1, true), (2, true), (3, true), (41, true), (5, true)] (c29_at (s := { s with ps := [⟨p1, p2, p3, p4, p5⟩] }) (bg := false) (ng := 0) (GC := []) f hJ rfl (by rw [hgs]; rfl) rfl (by rw [hgs]; rfl) rfl (by rw [hgs]; rfl)) rfl ⟨trivial, trivial, trivial, hpd', trivial, trivial⟩ rfl ?_
    rintro c H' ⟨rfl, rfl⟩
    refine ⟨⟨trivial, trivial, trivial, hpd', trivial, trivial⟩, ?_⟩
    (conv => whnf)
    exact RetA.gc [(0, false), (1, true), (2, true), (3, true), (4, true), (5, true), (41, true)] rfl ⟨trivial, trivial, trivial, trivial, trivial, hpd', trivial⟩ (wHp_at (s := { s with ps := [⟨p1, p2, p3, p4, p5⟩] }) (bg := false) (ng := 0) (GC := []) f _ (by exact trivial) hJ rfl (by rw [hgs]; rfl) rfl (by rw [hgs]; rfl) rfl (by rw [hgs]; rfl) rfl)
  · refine CallA.lend [(0, false), (1, true), (2, true), (3, true), (4, true), (5, true)] (c29_at (s := s) (bp := false) (np := 0) (PC := []) (bg := false) (ng := 0) (GC := []) f H.up (by rw [hps]; rfl) (by rw [hgs]; rfl) (by rw [hps]; rfl) (by rw [hgs]; rfl) (by rw [hps]; rfl) (by rw [hgs]; rfl)) rfl ⟨trivial, trivial, trivial, trivial, trivial, trivial⟩ rfl ?_
    rintro c H' ⟨rfl, rfl⟩
    refine ⟨⟨trivial, trivial, trivial, trivial, trivial, trivial⟩, ?_⟩
    (conv => whnf)
    exact RetA.gc [(0, false), (1, true), (2, true), (3, true), (4, true), (5, true)] rfl ⟨trivial, trivial, trivial, trivial, trivial, trivial⟩ (wHs_at (s := s) (bp := false) (np := 0) (PC := []) (bg := false) (ng := 0) (GC := []) f H.up (by rw [hps]; rfl) (by rw [hgs]; rfl) (by rw [hps]; rfl) (by rw [hgs]; rfl) (by rw [hps]; rfl) (by rw [hgs]; rfl) rfl)
theorem a_offer_2_01 (t : Nat) (ht : t < 150) (s : St) (f : Int) (H : Inv t s) (k h w n : Int) (hk : 0 ≤ k ∧ k < 256) (hh : 0 ≤ h ∧ h < 256) (hw : 0 ≤ w ∧ w < 256) (hn : 0 ≤ n ∧ n < 256) (h6 : k % 6 = 1) (h3 : h % 3 = 2) (hps : s.ps = []) (hgs : bn s.gs = true) :
  CallA Try.prog 10 [.ptr 0 0, .agg [.int .u8 k, .int .u8 h, .int .u8 w, .int .u8 n]] (wH s f) (ActK t f) := by
  refine callA_of ok10 (Nat.le_of_ble_eq_true rfl) ?_
  have hmin : IntKind.i64.min = -9223372036854775808 := rfl
  have hmax : IntKind.i64.max = 9223372036854775807 := rfl
  have t6 : k.tmod 6 = 1 := tm6 hk.1 h6
  have hpd := pcells_noLoc s.ps
  have hgd := gcells_noLoc s.gs
  have nps := H.np
  have ngs := H.ng
  have h14 := fun n => c14 s.c n
  have h15 := c15 s.c
  have rlo := rel_lo H.c
  have rhi := rel_hi H H.c
  have t3 : h.tmod 3 = 2 := tm3 hh.1 h3
  have fin : ∀ (P : List Ple), (∀ p ∈ P, PleOk (t + 1 : Nat) p) → P.length ≤ t + 1 → Inv (t + 1) { s with ps := P } := fun P hP hn => { H.up with ps := hP, np := hn }
  unfold wH
  rw [hps, hgs]
  repeat' ((conv => whnf); first
      | refine Branch.ofT rfl ?_
      | refine Branch.ofF rfl ?_
      | (rw [t3]; refine Side.mk ?_ ?_; · omega)
      | (rw [hmin, hmax]; refine Side.mk ?_ ?_; · omega)
      | refine Branch.ofT (decide_eq_true t6) ?_
      | refine Branch.ofF (decide_eq_false (by rw [t6]; decide)) ?_
      | refine Branch.dec (fun h => ?_) (fun h => ?_)
      | refine Branch.negdec (fun h => ?_) (fun h => ?_)
      | refine Branch.neg (fun h => ?_) (fun h => ?_)
      | refine Branch.mk (fun h => ?_) (fun h => ?_)
      | (refine Side.mk ?_ ?_; · first | omega | decide)
      | (refine SideD.mk ?_ ?_; · first | omega | decide)
      | refine ⟨_, Nat.lt_succ_self _, To.refl (.inl ⟨rfl, ?_⟩)⟩
      | (refine QCallA.of (h14 _) rfl rfl ?_; generalize hrr : s.c.offer _ = r; obtain ⟨⟨p1, p2, p3, p4, p5⟩, e'⟩ := r)
      | refine QCallA.of h15 rfl rfl ?_
      | (refine Side.mk ?_ ?_; · exact ⟨by simp [fits], by intro c hc; simp at hc; rcases hc with rfl | rfl | rfl | rfl | rfl <;> rfl⟩)
      | (refine Side.mk ?_ ?_; · (simp only [if_true]; split <;> omega))
      | (refine Side.mk ?_ ?_; · (simp; done))
      | fail
      )
  all_goals (conv => whnf)
  · have hI := (offer_ok' H H.c (by omega) hrr (by assumption)).up
    have hJ := fin [⟨p1, p2, p3, p4, p5⟩] (by simp; exact hI) (by simp)
    have hpd' := pcells_noLoc [⟨p1, p2, p3, p4, p5⟩]
    refine CallA.lend [(0, false), (1, true), (2, true), (3, true), (41, true), (5, true)] (c29_at (s := { s with ps := [⟨p1, p2, p3, p4, p5⟩] }) f hJ rfl hgs rfl rfl rfl rfl) rfl ⟨trivial, trivial, trivial, hpd', hgd, trivial⟩ rfl ?_
    rintro c H' ⟨rfl, rfl⟩
    refine ⟨⟨trivial, trivial, trivial, hpd', hgd, trivial⟩, ?_⟩
    (conv => whnf)
    exact RetA.gc [(0, false), (1, true), (2, true), (3, true), (4, true), (5, true), (41, true)] rfl ⟨trivial, trivial, trivial, trivial, hgd, hpd', trivial⟩ (wHp_at (s := { s with ps := [⟨p1, p2, p3, p4, p5⟩] }) f _ (by exact trivial) hJ rfl hgs rfl rfl rfl rfl rfl)
  · refine CallA.lend [(0, false), (1, true), (2, true), (3, true), (4, true), (5, true)] (c29_at (s := s) (bp := false) (np := 0) (PC := []) f H.up (by rw [hps]; rfl) hgs (by rw [hps]; rfl) rfl (by rw [hps]; rfl) rfl) rfl ⟨trivial, trivial, trivial, trivial, hgd, trivial⟩ rfl ?_
    rintro c H' ⟨rfl, rfl⟩
    refine ⟨⟨trivial, trivial, trivial, trivial, hgd, trivial⟩, ?_⟩
    (conv => whnf)
    exact RetA.gc [(0, false), (1, true), (2, true), (3, true), (4, true), (5, true)] rfl ⟨trivial, trivial, trivial, trivial, hgd, trivial⟩ (wHs_at (s := s) (bp := false) (np := 0) (PC := []) f H.up (by rw [hps]; rfl) hgs (by rw [hps]; rfl) rfl (by rw [hps]; rfl) rfl rfl)
theorem a_offer_2_10 (t : Nat) (ht : t < 150) (s : St) (f : Int) (H : Inv t s) (k h w n : Int) (hk : 0 ≤ k ∧ k < 256) (hh : 0 ≤ h ∧ h < 256) (hw : 0 ≤ w ∧ w < 256) (hn : 0 ≤ n ∧ n < 256) (h6 : k % 6 = 1) (h3 : h % 3 = 2) (hps : bn s.ps = true) (hgs : s.gs = []) :
  CallA Try.prog 10 [.ptr 0 0, .agg [.int .u8 k, .int .u8 h, .int .u8 w, .int .u8 n]] (wH s f) (ActK t f) := by
  refine callA_of ok10 (Nat.le_of_ble_eq_true rfl) ?_
  have hmin : IntKind.i64.min = -9223372036854775808 := rfl
  have hmax : IntKind.i64.max = 9223372036854775807 := rfl
  have t6 : k.tmod 6 = 1 := tm6 hk.1 h6
  have hpd := pcells_noLoc s.ps
  have hgd := gcells_noLoc s.gs
  have nps := H.np
  have ngs := H.ng
  have h14 := fun n => c14 s.c n
  have h15 := c15 s.c
  have rlo := rel_lo H.c
  have rhi := rel_hi H H.c
  have t3 : h.tmod 3 = 2 := tm3 hh.1 h3
  have fin : ∀ (P : List Ple), (∀ p ∈ P, PleOk (t + 1 : Nat) p) → P.length ≤ t + 1 → Inv (t + 1) { s with ps := P } := fun P hP hn => { H.up with ps := hP, np := hn }
  unfold wH
  rw [hps, hgs]
  repeat' ((conv => whnf); first
      | refine Branch.ofT rfl ?_
      | refine Branch.ofF rfl ?_
      | (rw [t3]; refine Side.mk ?_ ?_; · omega)
      | (rw [hmin, hmax]; refine Side.mk ?_ ?_; · omega)
      | refine Branch.ofT (decide_eq_true t6) ?_
      | refine Branch.ofF (decide_eq_false (by rw [t6]; decide)) ?_
      | refine Branch.dec (fun h => ?_) (fun h => ?_)
      | refine Branch.negdec (fun h => ?_) (fun h => ?_)
      | refine Branch.neg (fun h => ?_) (fun h => ?_)
      | refine Branch.mk (fun h => ?_) (fun h => ?_)
      | (refine Side.mk ?_ ?_; · first | omega | decide)
      | (refine SideD.mk ?_ ?_; · first | omega | decide)
      | refine ⟨_, Nat.lt_succ_self _, To.refl (.inl ⟨rfl, ?_⟩)⟩
      | (refine QCallA.of (h14 _) rfl rfl ?_; generalize hrr : s.c.offer _ = r; obtain ⟨⟨p1, p2, p3, p4, p5⟩, e'⟩ := r)
      | refine QCallA.of h15 rfl rfl ?_
      | (refine Side.mk ?_ ?_; · exact ⟨by simp [fits], by intro c hc; simp at hc; rcases hc with rfl | rfl | rfl | rfl | rfl <;> rfl⟩)
      | (refine Side.mk ?_ ?_; · (simp only [if_true]; split <;> omega))
      | (refine Side.mk ?_ ?_; · ((repeat' apply And.intro) <;> first | omega | rfl | exact Nat.zero_le _ | (simp only [pcells_len, gcells_len]; done) | (simp only [fits]; omega) | (simp only [List.length_append, List.length_cons, List.length_nil, pcells_len, gcells_len, rep]; omega) | (repeat' first | exact pcells_scal _ | exact gcells_scal _ | exact scal_nil | apply scal_int | apply scal_bool | apply scal_take)))
      | (refine Side.mk ?_ ?_; · (simp; done))
      | fail
      )
  all_goals (conv => whnf)
  · have hI := (offer_ok' H H.c (by omega) hrr (by assumption)).up
    have hJ := fin (s.ps ++ [⟨p1, p2, p3, p4, p5⟩]) (fun p hp => (List.mem_append.1 hp).elim (fun hp => (H.ps p hp).up) (fun hp => by simp at hp; subst hp; exact hI)) (by simp; omega)
    have hpd' := pcells_noLoc (s.ps ++ [⟨p1, p2, p3, p4, p5⟩])
    rw [pcells_app] at hpd'
    refine CallA.lend [(0, false), (1, true), (2, true), (3, true), (41, true), (5, true)] (c29_at (s := { s with ps := (s.ps ++ [⟨p1, p2, p3, p4, p5⟩]) }) (bg := false) (ng := 0) (GC := []) f hJ (bn_app _ _) (by rw [hgs]; rfl) (by rw [List.length_append]; rfl) (by rw [hgs]; rfl) (pcells_app _ _) (by rw [hgs]; rfl)) rfl ⟨trivial, trivial, trivial, hpd', trivial, trivial⟩ rfl ?_
    rintro c H' ⟨rfl, rfl⟩
    refine ⟨⟨trivial, trivial, trivial, hpd', trivial, trivial⟩, ?_⟩
    (conv => whnf)
    exact RetA.gc [(0, false), (1, true), (2, true), (3, true), (4, true), (5, true), (41, true)] rfl ⟨trivial, trivial, trivial, trivial, trivial, hpd', trivial⟩ (wHp_at (s := { s with ps := (s.ps ++ [⟨p1, p2, p3, p4, p5⟩]) }) (bg := false) (ng := 0) (GC := []) f _ (by exact trivial) hJ (bn_app _ _) (by rw [hgs]; rfl) (by rw [List.length_append]; rfl) (by rw [hgs]; rfl) (pcells_app _ _) (by rw [hgs]; rfl) rfl)
  · refine CallA.lend [(0, false), (1, true), (2, true), (3, true), (4, true), (5, true)] (c29_at (s := s) (bg := false) (ng := 0) (GC := []) f H.up hps (by rw [hgs]; rfl) rfl (by rw [hgs]; rfl) rfl (by rw [hgs]; rfl)) rfl ⟨trivial, trivial, trivial, hpd, trivial, trivial⟩ rfl ?_
    rintro c H' ⟨rfl, rfl⟩
    refine ⟨⟨trivial, trivial, trivial, hpd, trivial, trivial⟩, ?_⟩
    (conv => whnf)
    exact RetA.gc [(0, false), (1, true), (2, true), (3, true), (4, true), (5, true)] rfl ⟨trivial, trivial, trivial, hpd, trivial, trivial⟩ (wHs_at (s := s) (bg := false) (ng := 0) (GC := []) f H.up hps (by rw [hgs]; rfl) rfl (by rw [hgs]; rfl) rfl (by rw [hgs]; rfl) rfl)
theorem a_offer_2_11 (t : Nat) (ht : t < 150) (s : St) (f : Int) (H : Inv t s) (k h w n : Int) (hk : 0 ≤ k ∧ k < 256) (hh : 0 ≤ h ∧ h < 256) (hw : 0 ≤ w ∧ w < 256) (hn : 0 ≤ n ∧ n < 256) (h6 : k % 6 = 1) (h3 : h % 3 = 2) (hps : bn s.ps = true) (hgs : bn s.gs = true) :
  CallA Try.prog 10 [.ptr 0 0, .agg [.int .u8 k, .int .u8 h, .int .u8 w, .int .u8 n]] (wH s f) (ActK t f) := by
  refine callA_of ok10 (Nat.le_of_ble_eq_true rfl) ?_
  have hmin : IntKind.i64.min = -9223372036854775808 := rfl
  have hmax : IntKind.i64.max = 9223372036854775807 := rfl
  have t6 : k.tmod 6 = 1 := tm6 hk.1 h6
  have hpd := pcells_noLoc s.ps
  have hgd := gcells_noLoc s.gs
  have nps := H.np
  have ngs := H.ng
  have h14 := fun n => c14 s.c n
  have h15 := c15 s.c
  have rlo := rel_lo H.c
  have rhi := rel_hi H H.c
  have t3 : h.tmod 3 = 2 := tm3 hh.1 h3
  have fin : ∀ (P : List Ple), (∀ p ∈ P, PleOk (t + 1 : Nat) p) → P.length ≤ t + 1 → Inv (t + 1) { s with ps := P } := fun P hP hn => { H.up with ps := hP, np := hn }
  unfold wH
  rw [hps, hgs]
  repeat' ((conv => whnf); first
      | refine Branch.ofT rfl ?_
      | refine Branch.ofF rfl ?_
      | (rw [t3]; refine Side.mk ?_ ?_; · omega)
      | (rw [hmin, hmax]; refine Side.mk ?_ ?_; · omega)
      | refine Branch.ofT (decide_eq_true t6) ?_
      | refine Branch.ofF (decide_eq_false (by rw [t6]; decide)) ?_
      | refine Branch.dec (fun h => ?_) (fun h => ?_)
      | refine Branch.negdec (fun h => ?_) (fun h => ?_)
      | refine Branch.neg (fun h => ?_) (fun h => ?_)
      | refine Branch.mk (fun h => ?_) (fun h => ?_)
      | (refine Side.mk ?_ ?_; · first | omega | decide)
      | (refine SideD.mk ?_ ?_; · first | omega | decide)
      | refine ⟨_, Nat.lt_succ_self _, To.refl (.inl ⟨rfl, ?_⟩)⟩
      | (refine QCallA.of (h14 _) rfl rfl ?_; generalize hrr : s.c.offer _ = r; obtain ⟨⟨p1, p2, p3, p4, p5⟩, e'⟩ := r)
      | refine QCallA.of h15 rfl rfl ?_
      | (refine Side.mk ?_ ?_; · exact ⟨by simp [fits], by intro c hc; simp at hc; rcases hc with rfl | rfl | rfl | rfl | rfl <;> rfl⟩)
      | (refine Side.mk ?_ ?_; · (simp only [if_true]; split <;> omega))
      | (refine Side.mk ?_ ?_; · ((repeat' apply And.intro) <;> first | omega | rfl | exact Nat.zero_le _ | (simp only [pcells_len, gcells_len]; done) | (simp only [fits]; omega) | (simp only [List.length_append, List.length_cons, List.length_nil, pcells_len, gcells_len, rep]; omega) | (repeat' first | exact pcells_scal _ | exact gcells_scal _ | exact scal_nil | apply scal_int | apply scal_bool | apply scal_take)))
      | (refine Side.mk ?_ ?_; · (simp; done))
      | fail
      )
  all_goals (conv => whnf)
  · have hI := (offer_ok' H H.c (by omega) hrr (by assumption)).up
    have hJ := fin (s.ps ++ [⟨p1, p2, p3, p4, p5⟩]) (fun p hp => (List.mem_append.1 hp).elim (fun hp => (H.ps p hp).up) (fun hp => by simp at hp; subst hp; exact hI)) (by simp; omega)
    have hpd' := pcells_noLoc (s.ps ++ [⟨p1, p2, p3, p4, p5⟩])
    rw [pcells_app] at hpd'
    refine CallA.lend [(0, false), (1, true), (2, true), (3, true), (41, true), (5, true)] (c29_at (s := { s with ps := (s.ps ++ [⟨p1, p2, p3, p4, p5⟩]) }) f hJ (bn_app _ _) hgs (by rw [List.length_append]; rfl) rfl (pcells_app _ _) rfl) rfl ⟨trivial, trivial, trivial, hpd', hgd, trivial⟩ rfl ?_
    rintro c H' ⟨rfl, rfl⟩
    refine ⟨⟨trivial, trivial, trivial, hpd', hgd, trivial⟩, ?_⟩
    (conv => whnf)
    exact RetA.gc [(0, false), (1, true), (2, true), (3, true), (4, true), (5, true), (41, true)] rfl ⟨trivial, trivial, trivial, trivial, hgd, hpd', trivial⟩ (wHp_at (s := { s with ps := (s.ps ++ [⟨p1, p2, p3, p4, p5⟩]) }) f _ (by exact trivial) hJ (bn_app _ _) hgs (by rw [List.length_append]; rfl) rfl (pcells_app _ _) rfl rfl)
  · refine CallA.lend [(0, false), (1, true), (2, true), (3, true), (4, true), (5, true)] (c29_at (s := s) f H.up hps hgs rfl rfl rfl rfl) rfl ⟨trivial, trivial, trivial, hpd, hgd, trivial⟩ rfl ?_
    rintro c H' ⟨rfl, rfl⟩
    refine ⟨⟨trivial, trivial, trivial, hpd, hgd, trivial⟩, ?_⟩
    (conv => whnf)
    exact RetA.gc [(0, false), (1, true), (2, true), (3, true), (4, true), (5, true)] rfl ⟨trivial, trivial, trivial, hpd, hgd, trivial⟩ (wHs_at (s := s) f H.up hps hgs rfl rfl rfl rfl rfl)
end Go.Proofs

