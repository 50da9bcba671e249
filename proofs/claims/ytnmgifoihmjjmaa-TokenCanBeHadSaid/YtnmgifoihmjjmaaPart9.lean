/- Part of a proof about the given program: lemmas that the other parts use. -/
import Derived.Test.YtnmgifoihmjjmaaPart8

set_option linter.all false
set_option linter.unusedSimpArgs false
set_option linter.unusedVariables false
namespace Go.Proofs
open Go Go.Eng
set_option maxRecDepth 100000
set_option maxHeartbeats 4000000
attribute [local irreducible] Hol.holds Hol.rel
theorem a_hear2_0_00 (t : Nat) (ht : t < 150) (s : St) (f : Int) (H : Inv t s) (k h w n : Int) (hk : 0 ≤ k ∧ k < 256) (hh : 0 ≤ h ∧ h < 256) (hw : 0 ≤ w ∧ w < 256) (hn : 0 ≤ n ∧ n < 256) (h6 : k % 6 = 2) (h3 : w % 3 = 0) (hps : s.ps = []) (hgs : s.gs = []) :
  CallA Try.prog 10 [.ptr 0 0, .agg [.int .u8 k, .int .u8 h, .int .u8 w, .int .u8 n]] (wH s f) (ActK t f) := by
  refine callA_of ok10 (Nat.le_of_ble_eq_true rfl) ?_
  have hmin : IntKind.i64.min = -9223372036854775808 := rfl
  have hmax : IntKind.i64.max = 9223372036854775807 := rfl
  have t6 : k.tmod 6 = 2 := tm6 hk.1 h6
  have hpd := pcells_noLoc s.ps
  have hgd := gcells_noLoc s.gs
  have nps := H.np
  have ngs := H.ng
  have t3 : w.tmod 3 = 0 := tm3 hw.1 h3
  have hm3 : h.tmod 3 = h % 3 := tm3 hh.1 rfl
  have stay : ActK t f (.bool true) (wH s f) := ⟨rfl, s, H.up, .inl rfl⟩
  unfold wH at stay ⊢
  rw [hps, hgs] at stay ⊢
  repeat' ((conv => whnf); first
      | refine Branch.ofT rfl ?_
      | refine Branch.ofF rfl ?_
      | refine Branch.ofT (decide_eq_true t6) ?_
      | refine Branch.ofF (decide_eq_false (by rw [t6]; decide)) ?_
      | refine Branch.ofF (decide_eq_false (by omega)) ?_
      | (rw [hm3]; refine Side.mk ?_ ?_; · omega)
      | (rw [t3]; refine Side.mk ?_ ?_; · omega)
      | (rw [hmin, hmax]; refine Side.mk ?_ ?_; · omega)
      | refine Branch.dec (fun h => ?_) (fun h => ?_)
      | refine Branch.negdec (fun h => ?_) (fun h => ?_)
      | refine Branch.neg (fun h => ?_) (fun h => ?_)
      | refine Branch.mk (fun h => ?_) (fun h => ?_)
      | (refine Side.mk ?_ ?_; · first | omega | decide)
      | (refine SideD.mk ?_ ?_; · first | omega | decide)
      | refine ⟨_, Nat.lt_succ_self _, To.refl (.inl ⟨rfl, ?_⟩)⟩
      | refine takeK_at5 hat ?_
      | refine QCallA.of h17 rfl rfl ?_
      | (refine Side.mk ?_ ?_; · exact ⟨by simp [fits], by intro c hc; simp at hc; rcases hc with rfl | rfl | rfl | rfl | rfl <;> rfl⟩)
      | (refine Side.mk ?_ ?_; · (simp only [if_true]; split <;> omega))
      | (refine Side.mk ?_ ?_; · ((repeat' apply And.intro) <;> first | omega | rfl | exact Nat.zero_le _ | (simp only [pcells_len, gcells_len]; done) | (simp only [fits]; omega) | (simp only [List.length_append, List.length_cons, List.length_nil, pcells_len, gcells_len, rep]; omega) | (repeat' first | exact pcells_scal _ | exact gcells_scal _ | exact scal_nil | apply scal_int | apply scal_bool | apply scal_take)))
      | (refine Side.mk ?_ ?_; · (simp; done))
      | fail
      )
  all_goals (conv => whnf)
  · exact RetA.gc [(0, false), (1, true), (2, true), (3, true), (4, true), (5, true)] rfl ⟨trivial, trivial, trivial, trivial, trivial, trivial⟩ stay
theorem a_hear2_0_01 (t : Nat) (ht : t < 150) (s : St) (f : Int) (H : Inv t s) (k h w n : Int) (hk : 0 ≤ k ∧ k < 256) (hh : 0 ≤ h ∧ h < 256) (hw : 0 ≤ w ∧ w < 256) (hn : 0 ≤ n ∧ n < 256) (h6 : k % 6 = 2) (h3 : w % 3 = 0) (hps : s.ps = []) (hgs : bn s.gs = true) :
  CallA Try.prog 10 [.ptr 0 0, .agg [.int .u8 k, .int .u8 h, .int .u8 w, .int .u8 n]] (wH s f) (ActK t f) := by
  refine callA_of ok10 (Nat.le_of_ble_eq_true rfl) ?_
  have hmin : IntKind.i64.min = -9223372036854775808 := rfl
  have hmax : IntKind.i64.max = 9223372036854775807 := rfl
  have t6 : k.tmod 6 = 2 := tm6 hk.1 h6
  have hpd := pcells_noLoc s.ps
  have hgd := gcells_noLoc s.gs
  have nps := H.np
  have ngs := H.ng
  have t3 : w.tmod 3 = 0 := tm3 hw.1 h3
  have hm3 : h.tmod 3 = h % 3 := tm3 hh.1 rfl
  have stay : ActK t f (.bool true) (wH s f) := ⟨rfl, s, H.up, .inl rfl⟩
  unfold wH at stay ⊢
  rw [hps, hgs] at stay ⊢
  repeat' ((conv => whnf); first
      | refine Branch.ofT rfl ?_
      | refine Branch.ofF rfl ?_
      | refine Branch.ofT (decide_eq_true t6) ?_
      | refine Branch.ofF (decide_eq_false (by rw [t6]; decide)) ?_
      | refine Branch.ofF (decide_eq_false (by omega)) ?_
      | (rw [hm3]; refine Side.mk ?_ ?_; · omega)
      | (rw [t3]; refine Side.mk ?_ ?_; · omega)
      | (rw [hmin, hmax]; refine Side.mk ?_ ?_; · omega)
      | refine Branch.dec (fun h => ?_) (fun h => ?_)
      | refine Branch.negdec (fun h => ?_) (fun h => ?_)
      | refine Branch.neg (fun h => ?_) (fun h => ?_)
      | refine Branch.mk (fun h => ?_) (fun h => ?_)
      | (refine Side.mk ?_ ?_; · first | omega | decide)
      | (refine SideD.mk ?_ ?_; · first | omega | decide)
      | refine ⟨_, Nat.lt_succ_self _, To.refl (.inl ⟨rfl, ?_⟩)⟩
      | refine takeK_at5 hat ?_
      | refine QCallA.of h17 rfl rfl ?_
      | (refine Side.mk ?_ ?_; · exact ⟨by simp [fits], by intro c hc; simp at hc; rcases hc with rfl | rfl | rfl | rfl | rfl <;> rfl⟩)
      | (refine Side.mk ?_ ?_; · (simp only [if_true]; split <;> omega))
      | (refine Side.mk ?_ ?_; · ((repeat' apply And.intro) <;> first | omega | rfl | exact Nat.zero_le _ | (simp only [pcells_len, gcells_len]; done) | (simp only [fits]; omega) | (simp only [List.length_append, List.length_cons, List.length_nil, pcells_len, gcells_len, rep]; omega) | (repeat' first | exact pcells_scal _ | exact gcells_scal _ | exact scal_nil | apply scal_int | apply scal_bool | apply scal_take)))
      | (refine Side.mk ?_ ?_; · (simp; done))
      | fail
      )
  all_goals (conv => whnf)
  · exact RetA.gc [(0, false), (1, true), (2, true), (3, true), (4, true), (5, true)] rfl ⟨trivial, trivial, trivial, trivial, hgd, trivial⟩ stay
theorem a_hear2_0_10 (t : Nat) (ht : t < 150) (s : St) (f : Int) (H : Inv t s) (k h w n : Int) (hk : 0 ≤ k ∧ k < 256) (hh : 0 ≤ h ∧ h < 256) (hw : 0 ≤ w ∧ w < 256) (hn : 0 ≤ n ∧ n < 256) (h6 : k % 6 = 2) (h3 : w % 3 = 0) (hps : bn s.ps = true) (hgs : s.gs = []) :
  CallA Try.prog 10 [.ptr 0 0, .agg [.int .u8 k, .int .u8 h, .int .u8 w, .int .u8 n]] (wH s f) (ActK t f) := by
  refine callA_of ok10 (Nat.le_of_ble_eq_true rfl) ?_
  have hmin : IntKind.i64.min = -9223372036854775808 := rfl
  have hmax : IntKind.i64.max = 9223372036854775807 := rfl
  have t6 : k.tmod 6 = 2 := tm6 hk.1 h6
  have hpd := pcells_noLoc s.ps
  have hgd := gcells_noLoc s.gs
  have nps := H.np
  have ngs := H.ng
  have t3 : w.tmod 3 = 0 := tm3 hw.1 h3
  have hm3 : h.tmod 3 = h % 3 := tm3 hh.1 rfl
  have stay : ActK t f (.bool true) (wH s f) := ⟨rfl, s, H.up, .inl rfl⟩
  have npos : 0 < s.ps.length := by cases e : s.ps with
    | nil => rw [e] at hps; cases hps
    | cons p r => simp
  have hq0 : 0 ≤ n % (s.ps.length : Int) := Int.emod_nonneg _ (by omega)
  have hq1 : n % (s.ps.length : Int) < s.ps.length := Int.emod_lt_of_pos _ (by omega)
  obtain ⟨p, hpm, R, hat⟩ := pick_p s.ps n hq0 hq1
  have h17 := c17 0 s.l0 none p (kept1_of H.l0.shape)
  obtain ⟨l', hE, hsh, hkp⟩ := hear_shape (w := 0) H.l0.shape (H.ps p hpm)
  obtain ⟨hW, hG⟩ := hear_ok H.up.l0 (by omega) (H.up.ps p hpm) hsh hkp
  have hgw : (graK 0 (kp s.l0) p).w = 0 := rfl
  rw [hE] at h17
  clear hE hkp
  generalize graK 0 (kp s.l0) p = g at h17 hW hG hgw
  have fin : ∀ (G : List Gra), G = s.gs ++ [g] → Inv (t + 1) { s with l0 := l', gs := G } := fun G hGG => by
    subst hGG
    exact { a := H.up.a.mono, b := H.up.b.mono, c := H.up.c.mono, l0 := hW, l1 := H.up.l1.mono (by omega), l2 := H.up.l2.mono (by omega), ps := H.up.ps, gs := (fun x hx => (List.mem_append.1 hx).elim (H.up.gs x) (fun hx => by simp at hx; subst hx; exact hG)), bk := H.bk.mono, np := H.up.np, ng := (by simp; omega) }
  obtain ⟨gw, ⟨g1, g2, g3, g4, g5⟩, gag, ge, gu⟩ := g
  unfold wH at stay ⊢
  rw [hps, hgs] at stay ⊢
  repeat' ((conv => whnf); first
      | refine Branch.ofT rfl ?_
      | refine Branch.ofF rfl ?_
      | refine Branch.ofT (decide_eq_true t6) ?_
      | refine Branch.ofF (decide_eq_false (by rw [t6]; decide)) ?_
      | refine Branch.ofF (decide_eq_false (by omega)) ?_
      | (rw [hm3]; refine Side.mk ?_ ?_; · omega)
      | (rw [t3]; refine Side.mk ?_ ?_; · omega)
      | (rw [hmin, hmax]; refine Side.mk ?_ ?_; · omega)
      | refine Branch.dec (fun h => ?_) (fun h => ?_)
      | refine Branch.negdec (fun h => ?_) (fun h => ?_)
      | refine Branch.neg (fun h => ?_) (fun h => ?_)
      | refine Branch.mk (fun h => ?_) (fun h => ?_)
      | (refine Side.mk ?_ ?_; · first | omega | decide)
      | (refine SideD.mk ?_ ?_; · first | omega | decide)
      | refine ⟨_, Nat.lt_succ_self _, To.refl (.inl ⟨rfl, ?_⟩)⟩
      | refine takeK_at5 hat ?_
      | refine QCallA.of h17 rfl rfl ?_
      | (refine Side.mk ?_ ?_; · exact ⟨by simp [fits], by intro c hc; simp at hc; rcases hc with rfl | rfl | rfl | rfl | rfl <;> rfl⟩)
      | (refine Side.mk ?_ ?_; · (simp only [if_true]; split <;> omega))
      | (refine Side.mk ?_ ?_; · ((repeat' apply And.intro) <;> first | omega | rfl | exact Nat.zero_le _ | (simp only [pcells_len, gcells_len]; done) | (simp only [fits]; omega) | (simp only [List.length_append, List.length_cons, List.length_nil, pcells_len, gcells_len, rep]; omega) | (repeat' first | exact pcells_scal _ | exact gcells_scal _ | exact scal_nil | apply scal_int | apply scal_bool | apply scal_take)))
      | (refine Side.mk ?_ ?_; · (simp; done))
      | fail
      )
  all_goals (conv => whnf)
  · exact RetA.gc [(0, false), (1, true), (2, true), (3, true), (4, true), (5, true)] rfl ⟨trivial, trivial, trivial, hpd, trivial, trivial⟩ stay
  · have hJ := fin [⟨gw, ⟨g1, g2, g3, g4, g5⟩, gag, ge, gu⟩] (by first | rfl | (rw [hgs]; rfl))
    have hgd' := gcells_noLoc [⟨gw, ⟨g1, g2, g3, g4, g5⟩, gag, ge, gu⟩]
    refine CallA.lend [(0, false), (1, true), (2, true), (3, true), (4, true), (67, true)] (c29_at (s := { s with l0 := l', gs := [⟨gw, ⟨g1, g2, g3, g4, g5⟩, gag, ge, gu⟩] }) f hJ hps rfl rfl rfl rfl rfl) rfl ⟨trivial, trivial, trivial, hpd, hgd', trivial⟩ rfl ?_
    rintro c H' ⟨rfl, rfl⟩
    refine ⟨⟨trivial, trivial, trivial, hpd, hgd', trivial⟩, ?_⟩
    (conv => whnf)
    exact RetA.gc [(0, false), (1, true), (2, true), (3, true), (4, true), (5, true), (67, true)] rfl ⟨trivial, trivial, trivial, hpd, trivial, hgd', trivial⟩ (wHg_at (s := { s with l0 := l', gs := [⟨gw, ⟨g1, g2, g3, g4, g5⟩, gag, ge, gu⟩] }) f _ (by exact trivial) hJ hps rfl rfl rfl rfl rfl rfl)
theorem a_hear2_0_11 (t : Nat) (ht : t < 150) (s : St) (f : Int) (H : Inv t s) (k h w n : Int) (hk : 0 ≤ k ∧ k < 256) (hh : 0 ≤ h ∧ h < 256) (hw : 0 ≤ w ∧ w < 256) (hn : 0 ≤ n ∧ n < 256) (h6 : k % 6 = 2) (h3 : w % 3 = 0) (hps : bn s.ps = true) (hgs : bn s.gs = true) :
  CallA Try.prog 10 [.ptr 0 0, .agg [.int .u8 k, .int .u8 h, .int .u8 w, .int .u8 n]] (wH s f) (ActK t f) := by
  refine callA_of ok10 (Nat.le_of_ble_eq_true rfl) ?_
  have hmin : IntKind.i64.min = -9223372036854775808 := rfl
  have hmax : IntKind.i64.max = 9223372036854775807 := rfl
  have t6 : k.tmod 6 = 2 := tm6 hk.1 h6
  have hpd := pcells_noLoc s.ps
  have hgd := gcells_noLoc s.gs
  have nps := H.np
  have ngs := H.ng
  have t3 : w.tmod 3 = 0 := tm3 hw.1 h3
  have hm3 : h.tmod 3 = h % 3 := tm3 hh.1 rfl
  have stay : ActK t f (.bool true) (wH s f) := ⟨rfl, s, H.up, .inl rfl⟩
  have npos : 0 < s.ps.length := by cases e : s.ps with
    | nil => rw [e] at hps; cases hps
    | cons p r => simp
  have hq0 : 0 ≤ n % (s.ps.length : Int) := Int.emod_nonneg _ (by omega)
  have hq1 : n % (s.ps.length : Int) < s.ps.length := Int.emod_lt_of_pos _ (by omega)
  obtain ⟨p, hpm, R, hat⟩ := pick_p s.ps n hq0 hq1
  have h17 := c17 0 s.l0 none p (kept1_of H.l0.shape)
  obtain ⟨l', hE, hsh, hkp⟩ := hear_shape (w := 0) H.l0.shape (H.ps p hpm)
  obtain ⟨hW, hG⟩ := hear_ok H.up.l0 (by omega) (H.up.ps p hpm) hsh hkp
  have hgw : (graK 0 (kp s.l0) p).w = 0 := rfl
  rw [hE] at h17
  clear hE hkp
  generalize graK 0 (kp s.l0) p = g at h17 hW hG hgw
  have fin : ∀ (G : List Gra), G = s.gs ++ [g] → Inv (t + 1) { s with l0 := l', gs := G } := fun G hGG => by
    subst hGG
    exact { a := H.up.a.mono, b := H.up.b.mono, c := H.up.c.mono, l0 := hW, l1 := H.up.l1.mono (by omega), l2 := H.up.l2.mono (by omega), ps := H.up.ps, gs := (fun x hx => (List.mem_append.1 hx).elim (H.up.gs x) (fun hx => by simp at hx; subst hx; exact hG)), bk := H.bk.mono, np := H.up.np, ng := (by simp; omega) }
  obtain ⟨gw, ⟨g1, g2, g3, g4, g5⟩, gag, ge, gu⟩ := g
  unfold wH at stay ⊢
  rw [hps, hgs] at stay ⊢
  repeat' ((conv => whnf); first
      | refine Branch.ofT rfl ?_
      | refine Branch.ofF rfl ?_
      | refine Branch.ofT (decide_eq_true t6) ?_
      | refine Branch.ofF (decide_eq_false (by rw [t6]; decide)) ?_
      | refine Branch.ofF (decide_eq_false (by omega)) ?_
      | (rw [hm3]; refine Side.mk ?_ ?_; · omega)
      | (rw [t3]; refine Side.mk ?_ ?_; · omega)
      | (rw [hmin, hmax]; refine Side.mk ?_ ?_; · omega)
      | refine Branch.dec (fun h => ?_) (fun h => ?_)
      | refine Branch.negdec (fun h => ?_) (fun h => ?_)
      | refine Branch.neg (fun h => ?_) (fun h => ?_)
      | refine Branch.mk (fun h => ?_) (fun h => ?_)
      | (refine Side.mk ?_ ?_; · first | omega | decide)
      | (refine SideD.mk ?_ ?_; · first | omega | decide)
      | refine ⟨_, Nat.lt_succ_self _, To.refl (.inl ⟨rfl, ?_⟩)⟩
      | refine takeK_at5 hat ?_
      | refine QCallA.of h17 rfl rfl ?_
      | (refine Side.mk ?_ ?_; · exact ⟨by simp [fits], by intro c hc; simp at hc; rcases hc with rfl | rfl | rfl | rfl | rfl <;> rfl⟩)
      | (refine Side.mk ?_ ?_; · (simp only [if_true]; split <;> omega))
      | (refine Side.mk ?_ ?_; · ((repeat' apply And.intro) <;> first | omega | rfl | exact Nat.zero_le _ | (simp only [pcells_len, gcells_len]; done) | (simp only [fits]; omega) | (simp only [List.length_append, List.length_cons, List.length_nil, pcells_len, gcells_len, rep]; omega) | (repeat' first | exact pcells_scal _ | exact gcells_scal _ | exact scal_nil | apply scal_int | apply scal_bool | apply scal_take)))
      | (refine Side.mk ?_ ?_; · (simp; done))
      | fail
      )
  all_goals (conv => whnf)
  · exact RetA.gc [(0, false), (1, true), (2, true), (3, true), (4, true), (5, true)] rfl ⟨trivial, trivial, trivial, hpd, hgd, trivial⟩ stay
  · have hJ := fin (s.gs ++ [⟨gw, ⟨g1, g2, g3, g4, g5⟩, gag, ge, gu⟩]) (by first | rfl | (rw [hgs]; rfl))
    have hgd' := gcells_noLoc (s.gs ++ [⟨gw, ⟨g1, g2, g3, g4, g5⟩, gag, ge, gu⟩])
    rw [gcells_app] at hgd'
    refine CallA.lend [(0, false), (1, true), (2, true), (3, true), (4, true), (67, true)] (c29_at (s := { s with l0 := l', gs := (s.gs ++ [⟨gw, ⟨g1, g2, g3, g4, g5⟩, gag, ge, gu⟩]) }) f hJ hps (bn_app _ _) rfl (by rw [List.length_append]; rfl) rfl (gcells_app _ _)) rfl ⟨trivial, trivial, trivial, hpd, hgd', trivial⟩ rfl ?_
    rintro c H' ⟨rfl, rfl⟩
    refine ⟨⟨trivial, trivial, trivial, hpd, hgd', trivial⟩, ?_⟩
    (conv => whnf)
    exact RetA.gc [(0, false), (1, true), (2, true), (3, true), (4, true), (5, true), (67, true)] rfl ⟨trivial, trivial, trivial, hpd, trivial, hgd', trivial⟩ (wHg_at (s := { s with l0 := l', gs := (s.gs ++ [⟨gw, ⟨g1, g2, g3, g4, g5⟩, gag, ge, gu⟩]) }) f _ (by exact trivial) hJ hps (bn_app _ _) rfl (by rw [List.length_append]; rfl) rfl (gcells_app _ _) rfl)
theorem a_hear2_1_00 (t : Nat) (ht : t < 150) (s : St) (f : Int) (H : Inv t s) (k h w n : Int) (hk : 0 ≤ k ∧ k < 256) (hh : 0 ≤ h ∧ h < 256) (hw : 0 ≤ w ∧ w < 256) (hn : 0 ≤ n ∧ n < 256) (h6 : k % 6 = 2) (h3 : w % 3 = 1) (hps : s.ps = []) (hgs : s.gs = []) :
  CallA Try.prog 10 [.ptr 0 0, .agg [.int .u8 k, .int .u8 h, .int .u8 w, .int .u8 n]] (wH s f) (ActK t f) := by
  refine callA_of ok10 (Nat.le_of_ble_eq_true rfl) ?_
  have hmin : IntKind.i64.min = -9223372036854775808 := rfl
  have hmax : IntKind.i64.max = 9223372036854775807 := rfl
  have t6 : k.tmod 6 = 2 := tm6 hk.1 h6
  have hpd := pcells_noLoc s.ps
  have hgd := gcells_noLoc s.gs
  have nps := H.np
  have ngs := H.ng
  have t3 : w.tmod 3 = 1 := tm3 hw.1 h3
  have hm3 : h.tmod 3 = h % 3 := tm3 hh.1 rfl
  have stay : ActK t f (.bool true) (wH s f) := ⟨rfl, s, H.up, .inl rfl⟩
  unfold wH at stay ⊢
  rw [hps, hgs] at stay ⊢
  repeat' ((conv => whnf); first
      | refine Branch.ofT rfl ?_
      | refine Branch.ofF rfl ?_
      | refine Branch.ofT (decide_eq_true t6) ?_
      | refine Branch.ofF (decide_eq_false (by rw [t6]; decide)) ?_
      | refine Branch.ofF (decide_eq_false (by omega)) ?_
      | (rw [hm3]; refine Side.mk ?_ ?_; · omega)
      | (rw [t3]; refine Side.mk ?_ ?_; · omega)
      | (rw [hmin, hmax]; refine Side.mk ?_ ?_; · omega)
      | refine Branch.dec (fun h => ?_) (fun h => ?_)
      | refine Branch.negdec (fun h => ?_) (fun h => ?_)
      | refine Branch.neg (fun h => ?_) (fun h => ?_)
      | refine Branch.mk (fun h => ?_) (fun h => ?_)
      | (refine Side.mk ?_ ?_; · first | omega | decide)
      | (refine SideD.mk ?_ ?_; · first | omega | decide)
      | refine ⟨_, Nat.lt_succ_self _, To.refl (.inl ⟨rfl, ?_⟩)⟩
      | refine takeK_at5 hat ?_
      | refine QCallA.of h17 rfl rfl ?_
      | (refine Side.mk ?_ ?_; · exact ⟨by simp [fits], by intro c hc; simp at hc; rcases hc with rfl | rfl | rfl | rfl | rfl <;> rfl⟩)
      | (refine Side.mk ?_ ?_; · (simp only [if_true]; split <;> omega))
      | (refine Side.mk ?_ ?_; · ((repeat' apply And.intro) <;> first | omega | rfl | exact Nat.zero_le _ | (simp only [pcells_len, gcells_len]; done) | (simp only [fits]; omega) | (simp only [List.length_append, List.length_cons, List.length_nil, pcells_len, gcells_len, rep]; omega) | (repeat' first | exact pcells_scal _ | exact gcells_scal _ | exact scal_nil | apply scal_int | apply scal_bool | apply scal_take)))
      | (refine Side.mk ?_ ?_; · (simp; done))
      | fail
      )
  all_goals (conv => whnf)
  · exact RetA.gc [(0, false), (1, true), (2, true), (3, true), (4, true), (5, true)] rfl ⟨trivial, trivial, trivial, trivial, trivial, trivial⟩ stay
theorem a_hear2_1_01 (t : Nat) (ht : t < 150) (s : St) (f : Int) (H : Inv t s) (k h w n : Int) (hk : 0 ≤ k ∧ k < 256) (hh : 0 ≤ h ∧ h < 256) (hw : 0 ≤ w ∧ w < 256) (hn : 0 ≤ n ∧ n < 256) (h6 : k % 6 = 2) (h3 : w % 3 = 1) (hps : s.ps = []) (hgs : bn s.gs = true) :
  CallA Try.prog 10 [.ptr 0 0, .agg [.int .u8 k, .int .u8 h, .int .u8 w, .int .u8 n]] (wH s f) (ActK t f) := by
  refine callA_of ok10 (Nat.le_of_ble_eq_true rfl) ?_
  have hmin : IntKind.i64.min = -9223372036854775808 := rfl
  have hmax : IntKind.i64.max = 9223372036854775807 := rfl
  have t6 : k.tmod 6 = 2 := tm6 hk.1 h6
  have hpd := pcells_noLoc s.ps
  have hgd := gcells_noLoc s.gs
  have nps := H.np
  have ngs := H.ng
  have t3 : w.tmod 3 = 1 := tm3 hw.1 h3
  have hm3 : h.tmod 3 = h % 3 := tm3 hh.1 rfl
  have stay : ActK t f (.bool true) (wH s f) := ⟨rfl, s, H.up, .inl rfl⟩
  unfold wH at stay ⊢
  rw [hps, hgs] at stay ⊢
  repeat' ((conv => whnf); first
      | refine Branch.ofT rfl ?_
      | refine Branch.ofF rfl ?_
      | refine Branch.ofT (decide_eq_true t6) ?_
      | refine Branch.ofF (decide_eq_false (by rw [t6]; decide)) ?_
      | refine Branch.ofF (decide_eq_false (by omega)) ?_
      | (rw [hm3]; refine Side.mk ?_ ?_; · omega)
      | (rw [t3]; refine Side.mk ?_ ?_; · omega)
      | (rw [hmin, hmax]; refine Side.mk ?_ ?_; · omega)
      | refine Branch.dec (fun h => ?_) (fun h => ?_)
      | refine Branch.negdec (fun h => ?_) (fun h => ?_)
      | refine Branch.neg (fun h => ?_) (fun h => ?_)
      | refine Branch.mk (fun h => ?_) (fun h => ?_)
      | (refine Side.mk ?_ ?_; · first | omega | decide)
      | (refine SideD.mk ?_ ?_; · first | omega | decide)
      | refine ⟨_, Nat.lt_succ_self _, To.refl (.inl ⟨rfl, ?_⟩)⟩
      | refine takeK_at5 hat ?_
      | refine QCallA.of h17 rfl rfl ?_
      | (refine Side.mk ?_ ?_; · exact ⟨by simp [fits], by intro c hc; simp at hc; rcases hc with rfl | rfl | rfl | rfl | rfl <;> rfl⟩)
      | (refine Side.mk ?_ ?_; · (simp only [if_true]; split <;> omega))
      | (refine Side.mk ?_ ?_; · ((repeat' apply And.intro) <;> first | omega | rfl | exact Nat.zero_le _ | (simp only [pcells_len, gcells_len]; done) | (simp only [fits]; omega) | (simp only [List.length_append, List.length_cons, List.length_nil, pcells_len, gcells_len, rep]; omega) | (repeat' first | exact pcells_scal _ | exact gcells_scal _ | exact scal_nil | apply scal_int | apply scal_bool | apply scal_take)))
      | (refine Side.mk ?_ ?_; · (simp; done))
      | fail
      )
  all_goals (conv => whnf)
  · exact RetA.gc [(0, false), (1, true), (2, true), (3, true), (4, true), (5, true)] rfl ⟨trivial, trivial, trivial, trivial, hgd, trivial⟩ stay
theorem a_hear2_1_10 (t : Nat) (ht : t < 150) (s : St) (f : Int) (H : Inv t s) (k h w n : Int) (hk : 0 ≤ k ∧ k < 256) (hh : 0 ≤ h ∧ h < 256) (hw : 0 ≤ w ∧ w < 256) (hn : 0 ≤ n ∧ n < 256) (h6 : k % 6 = 2) (h3 : w % 3 = 1) (hps : bn s.ps = true) (hgs : s.gs = []) :
  CallA Try.prog 10 [.ptr 0 0, .agg [.int .u8 k, .int .u8 h, .int .u8 w, .int .u8 n]] (wH s f) (ActK t f) := by
  refine callA_of ok10 (Nat.le_of_ble_eq_true rfl) ?_
  have hmin : IntKind.i64.min = -9223372036854775808 := rfl
  have hmax : IntKind.i64.max = 9223372036854775807 := rfl
  have t6 : k.tmod 6 = 2 := tm6 hk.1 h6
  have hpd := pcells_noLoc s.ps
  have hgd := gcells_noLoc s.gs
  have nps := H.np
  have ngs := H.ng
  have t3 : w.tmod 3 = 1 := tm3 hw.1 h3
  have hm3 : h.tmod 3 = h % 3 := tm3 hh.1 rfl
  have stay : ActK t f (.bool true) (wH s f) := ⟨rfl, s, H.up, .inl rfl⟩
  have npos : 0 < s.ps.length := by cases e : s.ps with
    | nil => rw [e] at hps; cases hps
    | cons p r => simp
  have hq0 : 0 ≤ n % (s.ps.length : Int) := Int.emod_nonneg _ (by omega)
  have hq1 : n % (s.ps.length : Int) < s.ps.length := Int.emod_lt_of_pos _ (by omega)
  obtain ⟨p, hpm, R, hat⟩ := pick_p s.ps n hq0 hq1
  have h17 := c17 1 s.l1 none p (kept1_of H.l1.shape)
  obtain ⟨l', hE, hsh, hkp⟩ := hear_shape (w := 1) H.l1.shape (H.ps p hpm)
  obtain ⟨hW, hG⟩ := hear_ok H.up.l1 (by omega) (H.up.ps p hpm) hsh hkp
  have hgw : (graK 1 (kp s.l1) p).w = 1 := rfl
  rw [hE] at h17
  clear hE hkp
  generalize graK 1 (kp s.l1) p = g at h17 hW hG hgw
  have fin : ∀ (G : List Gra), G = s.gs ++ [g] → Inv (t + 1) { s with l1 := l', gs := G } := fun G hGG => by
    subst hGG
    exact { a := H.up.a.mono, b := H.up.b.mono, c := H.up.c.mono, l0 := H.up.l0.mono (by omega), l1 := hW, l2 := H.up.l2.mono (by omega), ps := H.up.ps, gs := (fun x hx => (List.mem_append.1 hx).elim (H.up.gs x) (fun hx => by simp at hx; subst hx; exact hG)), bk := H.bk.mono, np := H.up.np, ng := (by simp; omega) }
  obtain ⟨gw, ⟨g1, g2, g3, g4, g5⟩, gag, ge, gu⟩ := g
  unfold wH at stay ⊢
  rw [hps, hgs] at stay ⊢
  repeat' ((conv => whnf); first
      | refine Branch.ofT rfl ?_
      | refine Branch.ofF rfl ?_
      | refine Branch.ofT (decide_eq_true t6) ?_
      | refine Branch.ofF (decide_eq_false (by rw [t6]; decide)) ?_
      | refine Branch.ofF (decide_eq_false (by omega)) ?_
      | (rw [hm3]; refine Side.mk ?_ ?_; · omega)
      | (rw [t3]; refine Side.mk ?_ ?_; · omega)
      | (rw [hmin, hmax]; refine Side.mk ?_ ?_; · omega)
      | refine Branch.dec (fun h => ?_) (fun h => ?_)
      | refine Branch.negdec (fun h => ?_) (fun h => ?_)
      | refine Branch.neg (fun h => ?_) (fun h => ?_)
      | refine Branch.mk (fun h => ?_) (fun h => ?_)
      | (refine Side.mk ?_ ?_; · first | omega | decide)
      | (refine SideD.mk ?_ ?_; · first | omega | decide)
      | refine ⟨_, Nat.lt_succ_self _, To.refl (.inl ⟨rfl, ?_⟩)⟩
      | refine takeK_at5 hat ?_
      | refine QCallA.of h17 rfl rfl ?_
      | (refine Side.mk ?_ ?_; · exact ⟨by simp [fits], by intro c hc; simp at hc; rcases hc with rfl | rfl | rfl | rfl | rfl <;> rfl⟩)
      | (refine Side.mk ?_ ?_; · (simp only [if_true]; split <;> omega))
      | (refine Side.mk ?_ ?_; · ((repeat' apply And.intro) <;> first | omega | rfl | exact Nat.zero_le _ | (simp only [pcells_len, gcells_len]; done) | (simp only [fits]; omega) | (simp only [List.length_append, List.length_cons, List.length_nil, pcells_len, gcells_len, rep]; omega) | (repeat' first | exact pcells_scal _ | exact gcells_scal _ | exact scal_nil | apply scal_int | apply scal_bool | apply scal_take)))
      | (refine Side.mk ?_ ?_; · (simp; done))
      | fail
      )
  all_goals (conv => whnf)
  · exact RetA.gc [(0, false), (1, true), (2, true), (3, true), (4, true), (5, true)] rfl ⟨trivial, trivial, trivial, hpd, trivial, trivial⟩ stay
  · have hJ := fin [⟨gw, ⟨g1, g2, g3, g4, g5⟩, gag, ge, gu⟩] (by first | rfl | (rw [hgs]; rfl))
    have hgd' := gcells_noLoc [⟨gw, ⟨g1, g2, g3, g4, g5⟩, gag, ge, gu⟩]
    refine CallA.lend [(0, false), (1, true), (2, true), (3, true), (4, true), (67, true)] (c29_at (s := { s with l1 := l', gs := [⟨gw, ⟨g1, g2, g3, g4, g5⟩, gag, ge, gu⟩] }) f hJ hps rfl rfl rfl rfl rfl) rfl ⟨trivial, trivial, trivial, hpd, hgd', trivial⟩ rfl ?_
    rintro c H' ⟨rfl, rfl⟩
    refine ⟨⟨trivial, trivial, trivial, hpd, hgd', trivial⟩, ?_⟩
    (conv => whnf)
    exact RetA.gc [(0, false), (1, true), (2, true), (3, true), (4, true), (5, true), (67, true)] rfl ⟨trivial, trivial, trivial, hpd, trivial, hgd', trivial⟩ (wHg_at (s := { s with l1 := l', gs := [⟨gw, ⟨g1, g2, g3, g4, g5⟩, gag, ge, gu⟩] }) f _ (by exact trivial) hJ hps rfl rfl rfl rfl rfl rfl)
theorem a_hear2_1_11 (t : Nat) (ht : t < 150) (s : St) (f : Int) (H : Inv t s) (k h w n : Int) (hk : 0 ≤ k ∧ k < 256) (hh : 0 ≤ h ∧ h < 256) (hw : 0 ≤ w ∧ w < 256) (hn : 0 ≤ n ∧ n < 256) (h6 : k % 6 = 2) (h3 : w % 3 = 1) (hps : bn s.ps = true) (hgs : bn s.gs = true) :
  CallA Try.prog 10 [.ptr 0 0, .agg [.int .u8 k, .int .u8 h, .int .u8 w, .int .u8 n]] (wH s f) (ActK t f) := by
  refine callA_of ok10 (Nat.le_of_ble_eq_true rfl) ?_
  have hmin : IntKind.i64.min = -9223372036854775808 := rfl
  have hmax : IntKind.i64.max = 9223372036854775807 := rfl
  have t6 : k.tmod 6 = 2 := tm6 hk.1 h6
  have hpd := pcells_noLoc s.ps
  have hgd := gcells_noLoc s.gs
  have nps := H.np
  have ngs := H.ng
  have t3 : w.tmod 3 = 1 := tm3 hw.1 h3
  have hm3 : h.tmod 3 = h % 3 := tm3 hh.1 rfl
  have stay : ActK t f (.bool true) (wH s f) := ⟨rfl, s, H.up, .inl rfl⟩
  have npos : 0 < s.ps.length := by cases e : s.ps with
    | nil => rw [e] at hps; cases hps
    | cons p r => simp
  have hq0 : 0 ≤ n % (s.ps.length : Int) := Int.emod_nonneg _ (by omega)
  have hq1 : n % (s.ps.length : Int) < s.ps.length := Int.emod_lt_of_pos _ (by omega)
  obtain ⟨p, hpm, R, hat⟩ := pick_p s.ps n hq0 hq1
  have h17 := c17 1 s.l1 none p (kept1_of H.l1.shape)
  obtain ⟨l', hE, hsh, hkp⟩ := hear_shape (w := 1) H.l1.shape (H.ps p hpm)
  obtain ⟨hW, hG⟩ := hear_ok H.up.l1 (by omega) (H.up.ps p hpm) hsh hkp
  have hgw : (graK 1 (kp s.l1) p).w = 1 := rfl
  rw [hE] at h17
  clear hE hkp
  generalize graK 1 (kp s.l1) p = g at h17 hW hG hgw
  have fin : ∀ (G : List Gra), G = s.gs ++ [g] → Inv (t + 1) { s with l1 := l', gs := G } := fun G hGG => by
    subst hGG
    exact { a := H.up.a.mono, b := H.up.b.mono, c := H.up.c.mono, l0 := H.up.l0.mono (by omega), l1 := hW, l2 := H.up.l2.mono (by omega), ps := H.up.ps, gs := (fun x hx => (List.mem_append.1 hx).elim (H.up.gs x) (fun hx => by simp at hx; subst hx; exact hG)), bk := H.bk.mono, np := H.up.np, ng := (by simp; omega) }
  obtain ⟨gw, ⟨g1, g2, g3, g4, g5⟩, gag, ge, gu⟩ := g
  unfold wH at stay ⊢
  rw [hps, hgs] at stay ⊢
  repeat' ((conv => whnf); first
      | refine Branch.ofT rfl ?_
      | refine Branch.ofF rfl ?_
      | refine Branch.ofT (decide_eq_true t6) ?_
      | refine Branch.ofF (decide_eq_false (by rw [t6]; decide)) ?_
      | refine Branch.ofF (decide_eq_false (by omega)) ?_
      | (rw [hm3]; refine Side.mk ?_ ?_; · omega)
      | (rw [t3]; refine Side.mk ?_ ?_; · omega)
      | (rw [hmin, hmax]; refine Side.mk ?_ ?_; · omega)
      | refine Branch.dec (fun h => ?_) (fun h => ?_)
      | refine Branch.negdec (fun h => ?_) (fun h => ?_)
      | refine Branch.neg (fun h => ?_) (fun h => ?_)
      | refine Branch.mk (fun h => ?_) (fun h => ?_)
      | (refine Side.mk ?_ ?_; · first | omega | decide)
      | (refine SideD.mk ?_ ?_; · first | omega | decide)
      | refine ⟨_, Nat.lt_succ_self _, To.refl (.inl ⟨rfl, ?_⟩)⟩
      | refine takeK_at5 hat ?_
      | refine QCallA.of h17 rfl rfl ?_
      | (refine Side.mk ?_ ?_; · exact ⟨by simp [fits], by intro c hc; simp at hc; rcases hc with rfl | rfl | rfl | rfl | rfl <;> rfl⟩)
      | (refine Side.mk ?_ ?_; · (simp only [if_true]; split <;> omega))
      | (refine Side.mk ?_ ?_; · ((repeat' apply And.intro) <;> first | omega | rfl | exact Nat.zero_le _ | (simp only [pcells_len, gcells_len]; done) | (simp only [fits]; omega) | (simp only [List.length_append, List.length_cons, List.length_nil, pcells_len, gcells_len, rep]; omega) | (repeat' first | exact pcells_scal _ | exact gcells_scal _ | exact scal_nil | apply scal_int | apply scal_bool | apply scal_take)))
      | (refine Side.mk ?_ ?_; · (simp; done))
      | fail
      )
  all_goals (conv => whnf)
  · exact RetA.gc [(0, false), (1, true), (2, true), (3, true), (4, true), (5, true)] rfl ⟨trivial, trivial, trivial, hpd, hgd, trivial⟩ stay
  · have hJ := fin (s.gs ++ [⟨gw, ⟨g1, g2, g3, g4, g5⟩, gag, ge, gu⟩]) (by first | rfl | (rw [hgs]; rfl))
    have hgd' := gcells_noLoc (s.gs ++ [⟨gw, ⟨g1, g2, g3, g4, g5⟩, gag, ge, gu⟩])
    rw [gcells_app] at hgd'
    refine CallA.lend [(0, false), (1, true), (2, true), (3, true), (4, true), (67, true)] (c29_at (s := { s with l1 := l', gs := (s.gs ++ [⟨gw, ⟨g1, g2, g3, g4, g5⟩, gag, ge, gu⟩]) }) f hJ hps (bn_app _ _) rfl (by rw [List.length_append]; rfl) rfl (gcells_app _ _)) rfl ⟨trivial, trivial, trivial, hpd, hgd', trivial⟩ rfl ?_
    rintro c H' ⟨rfl, rfl⟩
    refine ⟨⟨trivial, trivial, trivial, hpd, hgd', trivial⟩, ?_⟩
    (conv => whnf)
    exact RetA.gc [(0, false), (1, true), (2, true), (3, true), (4, true), (5, true), (67, true)] rfl ⟨trivial, trivial, trivial, hpd, trivial, hgd', trivial⟩ (wHg_at (s := { s with l1 := l', gs := (s.gs ++ [⟨gw, ⟨g1, g2, g3, g4, g5⟩, gag, ge, gu⟩]) }) f _ (by exact trivial) hJ hps (bn_app _ _) rfl (by rw [List.length_append]; rfl) rfl (gcells_app _ _) rfl)
theorem a_hear2_2_00 (t : Nat) (ht : t < 150) (s : St) (f : Int) (H : Inv t s) (k h w n : Int) (hk : 0 ≤ k ∧ k < 256) (hh : 0 ≤ h ∧ h < 256) (hw : 0 ≤ w ∧ w < 256) (hn : 0 ≤ n ∧ n < 256) (h6 : k % 6 = 2) (h3 : w % 3 = 2) (hps : s.ps = []) (hgs : s.gs = []) :
  CallA Try.prog 10 [.ptr 0 0, .agg [.int .u8 k, .int .u8 h, .int .u8 w, .int .u8 n]] (wH s f) (ActK t f) := by
  refine callA_of ok10 (Nat.le_of_ble_eq_true rfl) ?_
  have hmin : IntKind.i64.min = -9223372036854775808 := rfl
  have hmax : IntKind.i64.max = 9223372036854775807 := rfl
  have t6 : k.tmod 6 = 2 := tm6 hk.1 h6
  have hpd := pcells_noLoc s.ps
  have hgd := gcells_noLoc s.gs
  have nps := H.np
  have ngs := H.ng
  have t3 : w.tmod 3 = 2 := tm3 hw.1 h3
  have hm3 : h.tmod 3 = h % 3 := tm3 hh.1 rfl
  have stay : ActK t f (.bool true) (wH s f) := ⟨rfl, s, H.up, .inl rfl⟩
  unfold wH at stay ⊢
  rw [hps, hgs] at stay ⊢
  repeat' ((conv => whnf); first
      | refine Branch.ofT rfl ?_
      | refine Branch.ofF rfl ?_
      | refine Branch.ofT (decide_eq_true t6) ?_
      | refine Branch.ofF (decide_eq_false (by rw [t6]; decide)) ?_
      | refine Branch.ofF (decide_eq_false (by omega)) ?_
      | (rw [hm3]; refine Side.mk ?_ ?_; · omega)
      | (rw [t3]; refine Side.mk ?_ ?_; · omega)
      | (rw [hmin, hmax]; refine Side.mk ?_ ?_; · omega)
      | refine Branch.dec (fun h => ?_) (fun h => ?_)
      | refine Branch.negdec (fun h => ?_) (fun h => ?_)
      | refine Branch.neg (fun h => ?_) (fun h => ?_)
      | refine Branch.mk (fun h => ?_) (fun h => ?_)
      | (refine Side.mk ?_ ?_; · first | omega | decide)
      | (refine SideD.mk ?_ ?_; · first | omega | decide)
      | refine ⟨_, Nat.lt_succ_self _, To.refl (.inl ⟨rfl, ?_⟩)⟩
      | refine takeK_at5 hat ?_
      | refine QCallA.of h17 rfl rfl ?_
      | (refine Side.mk ?_ ?_; · exact ⟨by simp [fits], by intro c hc; simp at hc; rcases hc with rfl | rfl | rfl | rfl | rfl <;> rfl⟩)
      | (refine Side.mk ?_ ?_; · (simp only [if_true]; split <;> omega))
      | (refine Side.mk ?_ ?_; · ((repeat' apply And.intro) <;> first | omega | rfl | exact Nat.zero_le _ | (simp only [pcells_len, gcells_len]; done) | (simp only [fits]; omega) | (simp only [List.length_append, List.length_cons, List.length_nil, pcells_len, gcells_len, rep]; omega) | (repeat' first | exact pcells_scal _ | exact gcells_scal _ | exact scal_nil | apply scal_int | apply scal_bool | apply scal_take)))
      | (refine Side.mk ?_ ?_; · (simp; done))
      | fail
      )
  all_goals (conv => whnf)
  · exact RetA.gc [(0, false), (1, true), (2, true), (3, true), (4, true), (5, true)] rfl ⟨trivial, trivial, trivial, trivial, trivial, trivial⟩ stay
theorem a_hear2_2_01 (t : Nat) (ht : t < 150) (s : St) (f : Int) (H : Inv t s) (k h w n : Int) (hk : 0 ≤ k ∧ k < 256) (hh : 0 ≤ h ∧ h < 256) (hw : 0 ≤ w ∧ w < 256) (hn : 0 ≤ n ∧ n < 256) (h6 : k % 6 = 2) (h3 : w % 3 = 2) (hps : s.ps = []) (hgs : bn s.gs = true) :
  CallA Try.prog 10 [.ptr 0 0, .agg [.int .u8 k, .int .u8 h, .int .u8 w, .int .u8 n]] (wH s f) (ActK t f) := by
  refine callA_of ok10 (Nat.le_of_ble_eq_true rfl) ?_
  have hmin : IntKind.i64.min = -9223372036854775808 := rfl
  have hmax : IntKind.i64.max = 9223372036854775807 := rfl
  have t6 : k.tmod 6 = 2 := tm6 hk.1 h6
  have hpd := pcells_noLoc s.ps
  have hgd := gcells_noLoc s.gs
  have nps := H.np
  have ngs := H.ng
  have t3 : w.tmod 3 = 2 := tm3 hw.1 h3
  have hm3 : h.tmod 3 = h % 3 := tm3 hh.1 rfl
  have stay : ActK t f (.bool true) (wH s f) := ⟨rfl, s, H.up, .inl rfl⟩
  unfold wH at stay ⊢
  rw [hps, hgs] at stay ⊢
  repeat' ((conv => whnf); first
      | refine Branch.ofT rfl ?_
      | refine Branch.ofF rfl ?_
      | refine Branch.ofT (decide_eq_true t6) ?_
      | refine Branch.ofF (decide_eq_false (by rw [t6]; decide)) ?_
      | refine Branch.ofF (decide_eq_false (by omega)) ?_
      | (rw [hm3]; refine Side.mk ?_ ?_; · omega)
      | (rw [t3]; refine Side.mk ?_ ?_; · omega)
      | (rw [hmin, hmax]; refine Side.mk ?_ ?_; · omega)
      | refine Branch.dec (fun h => ?_) (fun h => ?_)
      | refine Branch.negdec (fun h => ?_) (fun h => ?_)
      | refine Branch.neg (fun h => ?_) (fun h => ?_)
      | refine Branch.mk (fun h => ?_) (fun h => ?_)
      | (refine Side.mk ?_ ?_; · first | omega | decide)
      | (refine SideD.mk ?_ ?_; · first | omega | decide)
      | refine ⟨_, Nat.lt_succ_self _, To.refl (.inl ⟨rfl, ?_⟩)⟩
      | refine takeK_at5 hat ?_
      | refine QCallA.of h17 rfl rfl ?_
      | (refine Side.mk ?_ ?_; · exact ⟨by simp [fits], by intro c hc; simp at hc; rcases hc with rfl | rfl | rfl | rfl | rfl <;> rfl⟩)
      | (refine Side.mk ?_ ?_; · (simp only [if_true]; split <;> omega))
      | (refine Side.mk ?_ ?_; · ((repeat' apply And.intro) <;> first | omega | rfl | exact Nat.zero_le _ | (simp only [pcells_len, gcells_len]; done) | (simp only [fits]; omega) | (simp only [List.length_append, List.length_cons, List.length_nil, pcells_len, gcells_len, rep]; omega) | (repeat' first | exact pcells_scal _ | exact gcells_scal _ | exact scal_nil | apply scal_int | apply scal_bool | apply scal_take)))
      | (refine Side.mk ?_ ?_; · (simp; done))
      | fail
      )
  all_goals (conv => whnf)
  · exact RetA.gc [(0, false), (1, true), (2, true), (3, true), (4, true), (5, true)] rfl ⟨trivial, trivial, trivial, trivial, hgd, trivial⟩ stay
theorem a_hear2_2_10 (t : Nat) (ht : t < 150) (s : St) (f : Int) (H : Inv t s) (k h w n : Int) (hk : 0 ≤ k ∧ k < 256) (hh : 0 ≤ h ∧ h < 256) (hw : 0 ≤ w ∧ w < 256) (hn : 0 ≤ n ∧ n < 256) (h6 : k % 6 = 2) (h3 : w % 3 = 2) (hps : bn s.ps = true) (hgs : s.gs = []) :
  CallA Try.prog 10 [.ptr 0 0, .agg [.int .u8 k, .int .u8 h, .int .u8 w, .int .u8 n]] (wH s f) (ActK t f) := by
  refine callA_of ok10 (Nat.le_of_ble_eq_true rfl) ?_
  have hmin : IntKind.i64.min = -9223372036854775808 := rfl
  have hmax : IntKind.i64.max = 9223372036854775807 := rfl
  have t6 : k.tmod 6 = 2 := tm6 hk.1 h6
  have hpd := pcells_noLoc s.ps
  have hgd := gcells_noLoc s.gs
  have nps := H.np
  have ngs := H.ng
  have t3 : w.tmod 3 = 2 := tm3 hw.1 h3
  have hm3 : h.tmod 3 = h % 3 := tm3 hh.1 rfl
  have stay : ActK t f (.bool true) (wH s f) := ⟨rfl, s, H.up, .inl rfl⟩
  have npos : 0 < s.ps.length := by cases e : s.ps with
    | nil => rw [e] at hps; cases hps
    | cons p r => simp
  have hq0 : 0 ≤ n % (s.ps.length : Int) := Int.emod_nonneg _ (by omega)
  have hq1 : n % (s.ps.length : Int) < s.ps.length := Int.emod_lt_of_pos _ (by omega)
  obtain ⟨p, hpm, R, hat⟩ := pick_p s.ps n hq0 hq1
  have h17 := c17 2 s.l2 none p (kept1_of H.l2.shape)
  obtain ⟨l', hE, hsh, hkp⟩ := hear_shape (w := 2) H.l2.shape (H.ps p hpm)
  obtain ⟨hW, hG⟩ := hear_ok H.up.l2 (by omega) (H.up.ps p hpm) hsh hkp
  have hgw : (graK 2 (kp s.l2) p).w = 2 := rfl
  rw [hE] at h17
  clear hE hkp
  generalize graK 2 (kp s.l2) p = g at h17 hW hG hgw
  have fin : ∀ (G : List Gra), G = s.gs ++ [g] → Inv (t + 1) { s with l2 := l', gs := G } := fun G hGG => by
    subst hGG
    exact { a := H.up.a.mono, b := H.up.b.mono, c := H.up.c.mono, l0 := H.up.l0.mono (by omega), l1 := H.up.l1.mono (by omega), l2 := hW, ps := H.up.ps, gs := (fun x hx => (List.mem_append.1 hx).elim (H.up.gs x) (fun hx => by simp at hx; subst hx; exact hG)), bk := H.bk.mono, np := H.up.np, ng := (by simp; omega) }
  obtain ⟨gw, ⟨g1, g2, g3, g4, g5⟩, gag, ge, gu⟩ := g
  unfold wH at stay ⊢
  rw [hps, hgs] at stay ⊢
  repeat' ((conv => whnf); first
      | refine Branch.ofT rfl ?_
      | refine Branch.ofF rfl ?_
      | refine Branch.ofT (decide_eq_true t6) ?_
      | refine Branch.ofF (decide_eq_false (by rw [t6]; decide)) ?_
      | refine Branch.ofF (decide_eq_false (by omega)) ?_
      | (rw [hm3]; refine Side.mk ?_ ?_; · omega)
      | (rw [t3]; refine Side.mk ?_ ?_; · omega)
      | (rw [hmin, hmax]; refine Side.mk ?_ ?_; · omega)
      | refine Branch.dec (fun h => ?_) (fun h => ?_)
      | refine Branch.negdec (fun h => ?_) (fun h => ?_)
      | refine Branch.neg (fun h => ?_) (fun h => ?_)
      | refine Branch.mk (fun h => ?_) (fun h => ?_)
      | (refine Side.mk ?_ ?_; · first | omega | decide)
      | (refine SideD.mk ?_ ?_; · first | omega | decide)
      | refine ⟨_, Nat.lt_succ_self _, To.refl (.inl ⟨rfl, ?_⟩)⟩
      | refine takeK_at5 hat ?_
      | refine QCallA.of h17 rfl rfl ?_
      | (refine Side.mk ?_ ?_; · exact ⟨by simp [fits], by intro c hc; simp at hc; rcases hc with rfl | rfl | rfl | rfl | rfl <;> rfl⟩)
      | (refine Side.mk ?_ ?_; · (simp only [if_true]; split <;> omega))
      | (refine Side.mk ?_ ?_; · ((repeat' apply And.intro) <;> first | omega | rfl | exact Nat.zero_le _ | (simp only [pcells_len, gcells_len]; done) | (simp only [fits]; omega) | (simp only [List.length_append, List.length_cons, List.length_nil, pcells_len, gcells_len, rep]; omega) | (repeat' first | exact pcells_scal _ | exact gcells_scal _ | exact scal_nil | apply scal_int | apply scal_bool | apply scal_take)))
      | (refine Side.mk ?_ ?_; · (simp; done))
      | fail
      )
  all_goals (conv => whnf)
  · exact RetA.gc [(0, false), (1, true), (2, true), (3, true), (4, true), (5, true)] rfl ⟨trivial, trivial, trivial, hpd, trivial, trivial⟩ stay
  · have hJ := fin [⟨gw, ⟨g1, g2, g3, g4, g5⟩, gag, ge, gu⟩] (by first | rfl | (rw [hgs]; rfl))
    have hgd' := gcells_noLoc [⟨gw, ⟨g1, g2, g3, g4, g5⟩, gag, ge, gu⟩]
    refine CallA.lend [(0, false), (1, true), (2, true), (3, true), (4, true), (67, true)] (c29_at (s := { s with l2 := l', gs := [⟨gw, ⟨g1, g2, g3, g4, g5⟩, gag, ge, gu⟩] }) f hJ hps rfl rfl rfl rfl rfl) rfl ⟨trivial, trivial, trivial, hpd, hgd', trivial⟩ rfl ?_
    rintro c H' ⟨rfl, rfl⟩
    refine ⟨⟨trivial, trivial, trivial, hpd, hgd', trivial⟩, ?_⟩
    (conv => whnf)
    exact RetA.gc [(0, false), (1, true), (2, true), (3, true), (4, true), (5, true), (67, true)] rfl ⟨trivial, trivial, trivial, hpd, trivial, hgd', trivial⟩ (wHg_at (s := { s with l2 := l', gs := [⟨gw, ⟨g1, g2, g3, g4, g5⟩, gag, ge, gu⟩] }) f _ (by exact trivial) hJ hps rfl rfl rfl rfl rfl rfl)
theorem a_hear2_2_11 (t : Nat) (ht : t < 150) (s : St) (f : Int) (H : Inv t s) (k h w n : Int) (hk : 0 ≤ k ∧ k < 256) (hh : 0 ≤ h ∧ h < 256) (hw : 0 ≤ w ∧ w < 256) (hn : 0 ≤ n ∧ n < 256) (h6 : k % 6 = 2) (h3 : w % 3 = 2) (hps : bn s.ps = true) (hgs : bn s.gs = true) :
  CallA Try.prog 10 [.ptr 0 0, .agg [.int .u8 k, .int .u8 h, .int .u8 w, .int .u8 n]] (wH s f) (ActK t f) := by
  refine callA_of ok10 (Nat.le_of_ble_eq_true rfl) ?_
  have hmin : IntKind.i64.min = -9223372036854775808 := rfl
  have hmax : IntKind.i64.max = 9223372036854775807 := rfl
  have t6 : k.tmod 6 = 2 := tm6 hk.1 h6
  have hpd := pcells_noLoc s.ps
  have hgd := gcells_noLoc s.gs
  have nps := H.np
  have ngs := H.ng
  have t3 : w.tmod 3 = 2 := tm3 hw.1 h3
  have hm3 : h.tmod 3 = h % 3 := tm3 hh.1 rfl
  have stay : ActK t f (.bool true) (wH s f) := ⟨rfl, s, H.up, .inl rfl⟩
  have npos : 0 < s.ps.length := by cases e : s.ps with
    | nil => rw [e] at hps; cases hps
    | cons p r => simp
  have hq0 : 0 ≤ n % (s.ps.length : Int) := Int.emod_nonneg _ (by omega)
  have hq1 : n % (s.ps.length : Int) < s.ps.length := Int.emod_lt_of_pos _ (by omega)
  obtain ⟨p, hpm, R, hat⟩ := pick_p s.ps n hq0 hq1
  have h17 := c17 2 s.l2 none p (kept1_of H.l2.shape)
  obtain ⟨l', hE, hsh, hkp⟩ := hear_shape (w := 2) H.l2.shape (H.ps p hpm)
  obtain ⟨hW, hG⟩ := hear_ok H.up.l2 (by omega) (H.up.ps p hpm) hsh hkp
  have hgw : (graK 2 (kp s.l2) p).w = 2 := rfl
  rw [hE] at h17
  clear hE hkp
  generalize graK 2 (kp s.l2) p = g at h17 hW hG hgw
  have fin : ∀ (G : List Gra), G = s.gs ++ [g] → Inv (t + 1) { s with l2 := l', gs := G } := fun G hGG => by
    subst hGG
    exact { a := H.up.a.mono, b := H.up.b.mono, c := H.up.c.mono, l0 := H.up.l0.mono (by omega), l1 := H.up.l1.mono (by omega), l2 := hW, ps := H.up.ps, gs := (fun x hx => (List.mem_append.1 hx).elim (H.up.gs x) (fun hx => by simp at hx; subst hx; exact hG)), bk := H.bk.mono, np := H.up.np, ng := (by simp; omega) }
  obtain ⟨gw, ⟨g1, g2, g3, g4, g5⟩, gag, ge, gu⟩ := g
  unfold wH at stay ⊢
  rw [hps, hgs] at stay ⊢
  repeat' ((conv => whnf); first
      | refine Branch.ofT rfl ?_
      | refine Branch.ofF rfl ?_
      | refine Branch.ofT (decide_eq_true t6) ?_
      | refine Branch.ofF (decide_eq_false (by rw [t6]; decide)) ?_
      | refine Branch.ofF (decide_eq_false (by omega)) ?_
      | (rw [hm3]; refine Side.mk ?_ ?_; · omega)
      | (rw [t3]; refine Side.mk ?_ ?_; · omega)
      | (rw [hmin, hmax]; refine Side.mk ?_ ?_; · omega)
      | refine Branch.dec (fun h => ?_) (fun h => ?_)
      | refine Branch.negdec (fun h => ?_) (fun h => ?_)
      | refine Branch.neg (fun h => ?_) (fun h => ?_)
      | refine Branch.mk (fun h => ?_) (fun h => ?_)
      | (refine Side.mk ?_ ?_; · first | omega | decide)
      | (refine SideD.mk ?_ ?_; · first | omega | decide)
      | refine ⟨_, Nat.lt_succ_self _, To.refl (.inl ⟨rfl, ?_⟩)⟩
      | refine takeK_at5 hat ?_
      | refine QCallA.of h17 rfl rfl ?_
      | (refine Side.mk ?_ ?_; · exact ⟨by simp [fits], by intro c hc; simp at hc; rcases hc with rfl | rfl | rfl | rfl | rfl <;> rfl⟩)
      | (refine Side.mk ?_ ?_; · (simp only [if_true]; split <;> omega))
      | (refine Side.mk ?_ ?_; · ((repeat' apply And.intro) <;> first | omega | rfl | exact Nat.zero_le _ | (simp only [pcells_len, gcells_len]; done) | (simp only [fits]; omega) | (simp only [List.length_append, List.length_cons, List.length_nil, pcells_len, gcells_len, rep]; omega) | (repeat' first | exact pcells_scal _ | exact gcells_scal _ | exact scal_nil | apply scal_int | apply scal_bool | apply scal_take)))
      | (refine Side.mk ?_ ?_; · (simp; done))
      | fail
      )
  all_goals (conv => whnf)
  · exact RetA.gc [(0, false), (1, true), (2, true), (3, true), (4, true), (5, true)] rfl ⟨trivial, trivial, trivial, hpd, hgd, trivial⟩ stay
  · have hJ := fin (s.gs ++ [⟨gw, ⟨g1, g2, g3, g4, g5⟩, gag, ge, gu⟩]) (by first | rfl | (rw [hgs]; rfl))
    have hgd' := gcells_noLoc (s.gs ++ [⟨gw, ⟨g1, g2, g3, g4, g5⟩, gag, ge, gu⟩])
    rw [gcells_app] at hgd'
    refine CallA.lend [(0, false), (1, true), (2, true), (3, true), (4, true), (67, true)] (c29_at (s := { s with l2 := l', gs := (s.gs ++ [⟨gw, ⟨g1, g2, g3, g4, g5⟩, gag, ge, gu⟩]) }) f hJ hps (bn_app _ _) rfl (by rw [List.length_append]; rfl) rfl (gcells_app _ _)) rfl ⟨trivial, trivial, trivial, hpd, hgd', trivial⟩ rfl ?_
    rintro c H' ⟨rfl, rfl⟩
    refine ⟨⟨trivial, trivial, trivial, hpd, hgd', trivial⟩, ?_⟩
    (conv => whnf)
    exact RetA.gc [(0, false), (1, true), (2, true), (3, true), (4, true), (5, true), (67, true)] rfl ⟨trivial, trivial, trivial, hpd, trivial, hgd', trivial⟩ (wHg_at (s := { s with l2 := l', gs := (s.gs ++ [⟨gw, ⟨g1, g2, g3, g4, g5⟩, gag, ge, gu⟩]) }) f _ (by exact trivial) hJ hps (bn_app _ _) rfl (by rw [List.length_append]; rfl) rfl (gcells_app _ _) rfl)
end Go.Proofs

namespace Go.Proofs
open Go Go.Eng
set_option maxRecDepth 100000
set_option maxHeartbeats 4000000
attribute [local irreducible] Hol.holds Hol.rel
theorem a_hear3_0_00 (t : Nat) (ht : t < 150) (s : St) (f : Int) (H : Inv t s) (k h w n : Int) (hk : 0 ≤ k ∧ k < 256) (hh : 0 ≤ h ∧ h < 256) (hw : 0 ≤ w ∧ w < 256) (hn : 0 ≤ n ∧ n < 256) (h6 : k % 6 = 3) (h3 : w % 3 = 0) (hps : s.ps = []) (hgs : s.gs = []) :
  CallA Try.prog 10 [.ptr 0 0, .agg [.int .u8 k, .int .u8 h, .int .u8 w, .int .u8 n]] (wH s f) (ActK t f) := by
  refine callA_of ok10 (Nat.le_of_ble_eq_true rfl) ?_
  have hmin : IntKind.i64.min = -9223372036854775808 := rfl
  have hmax : IntKind.i64.max = 9223372036854775807 := rfl
  have t6 : k.tmod 6 = 3 := tm6 hk.1 h6
  have hpd := pcells_noLoc s.ps
  have hgd := gcells_noLoc s.gs
  have nps := H.np
  have ngs := H.ng
  have t3 : w.tmod 3 = 0 := tm3 hw.1 h3
  have hm3 : h.tmod 3 = h % 3 := tm3 hh.1 rfl
  have stay : ActK t f (.bool true) (wH s f) := ⟨rfl, s, H.up, .inl rfl⟩
  unfold wH at stay ⊢
  rw [hps, hgs] at stay ⊢
  repeat' ((conv => whnf); first
      | refine Branch.ofT rfl ?_
      | refine Branch.ofF rfl ?_
      | refine Branch.ofT (decide_eq_true t6) ?_
      | refine Branch.ofF (decide_eq_false (by rw [t6]; decide)) ?_
      | refine Branch.ofF (decide_eq_false (by omega)) ?_
      | (rw [hm3]; refine Side.mk ?_ ?_; · omega)
      | (rw [t3]; refine Side.mk ?_ ?_; · omega)
      | (rw [hmin, hmax]; refine Side.mk ?_ ?_; · omega)
      | refine Branch.dec (fun h => ?_) (fun h => ?_)
      | refine Branch.negdec (fun h => ?_) (fun h => ?_)
      | refine Branch.neg (fun h => ?_) (fun h => ?_)
      | refine Branch.mk (fun h => ?_) (fun h => ?_)
      | (refine Side.mk ?_ ?_; · first | omega | decide)
      | (refine SideD.mk ?_ ?_; · first | omega | decide)
      | refine ⟨_, Nat.lt_succ_self _, To.refl (.inl ⟨rfl, ?_⟩)⟩
      | refine takeK_at5 hat ?_
      | refine QCallA.of h17 rfl rfl ?_
      | (refine Side.mk ?_ ?_; · exact ⟨by simp [fits], by intro c hc; simp at hc; rcases hc with rfl | rfl | rfl | rfl | rfl <;> rfl⟩)
      | (refine Side.mk ?_ ?_; · (simp only [if_true]; split <;> omega))
      | (refine Side.mk ?_ ?_; · ((repeat' apply And.intro) <;> first | omega | rfl | exact Nat.zero_le _ | (simp only [pcells_len, gcells_len]; done) | (simp only [fits]; omega) | (simp only [List.length_append, List.length_cons, List.length_nil, pcells_len, gcells_len, rep]; omega) | (repeat' first | exact pcells_scal _ | exact gcells_scal _ | exact scal_nil | apply scal_int | apply scal_bool | apply scal_take)))
      | (refine Side.mk ?_ ?_; · (simp; done))
      | fail
      )
  all_goals (conv => whnf)
  · exact RetA.gc [(0, false), (1, true), (2, true), (3, true), (4, true), (5, true)] rfl ⟨trivial, trivial, trivial, trivial, trivial, trivial⟩ stay
theorem a_hear3_0_01 (t : Nat) (ht : t < 150) (s : St) (f : Int) (H : Inv t s) (k h w n : Int) (hk : 0 ≤ k ∧ k < 256) (hh : 0 ≤ h ∧ h < 256) (hw : 0 ≤ w ∧ w < 256) (hn : 0 ≤ n ∧ n < 256) (h6 : k % 6 = 3) (h3 : w % 3 = 0) (hps : s.ps = []) (hgs : bn s.gs = true) :
  CallA Try.prog 10 [.ptr 0 0, .agg [.int .u8 k, .int .u8 h, .int .u8 w, .int .u8 n]] (wH s f) (ActK t f) := by
  refine callA_of ok10 (Nat.le_of_ble_eq_true rfl) ?_
  have hmin : IntKind.i64.min = -9223372036854775808 := rfl
  have hmax : IntKind.i64.max = 9223372036854775807 := rfl
  have t6 : k.tmod 6 = 3 := tm6 hk.1 h6
  have hpd := pcells_noLoc s.ps
  have hgd := gcells_noLoc s.gs
  have nps := H.np
  have ngs := H.ng
  have t3 : w.tmod 3 = 0 := tm3 hw.1 h3
  have hm3 : h.tmod 3 = h % 3 := tm3 hh.1 rfl
  have stay : ActK t f (.bool true) (wH s f) := ⟨rfl, s, H.up, .inl rfl⟩
  unfold wH at stay ⊢
  rw [hps, hgs] at stay ⊢
  repeat' ((conv => whnf); first
      | refine Branch.ofT rfl ?_
      | refine Branch.ofF rfl ?_
      | refine Branch.ofT (decide_eq_true t6) ?_
      | refine Branch.ofF (decide_eq_false (by rw [t6]; decide)) ?_
      | refine Branch.ofF (decide_eq_false (by omega)) ?_
      | (rw [hm3]; refine Side.mk ?_ ?_; · omega)
      | (rw [t3]; refine Side.mk ?_ ?_; · omega)
      | (rw [hmin, hmax]; refine Side.mk ?_ ?_; · omega)
      | refine Branch.dec (fun h => ?_) (fun h => ?_)
      | refine Branch.negdec (fun h => ?_) (fun h => ?_)
      | refine Branch.neg (fun h => ?_) (fun h => ?_)
      | refine Branch.mk (fun h => ?_) (fun h => ?_)
      | (refine Side.mk ?_ ?_; · first | omega | decide)
      | (refine SideD.mk ?_ ?_; · first | omega | decide)
      | refine ⟨_, Nat.lt_succ_self _, To.refl (.inl ⟨rfl, ?_⟩)⟩
      | refine takeK_at5 hat ?_
      | refine QCallA.of h17 rfl rfl ?_
      | (refine Side.mk ?_ ?_; · exact ⟨by simp [fits], by intro c hc; simp at hc; rcases hc with rfl | rfl | rfl | rfl | rfl <;> rfl⟩)
      | (refine Side.mk ?_ ?_; · (simp only [if_true]; split <;> omega))
      | (refine Side.mk ?_ ?_; · ((repeat' apply And.intro) <;> first | omega | rfl | exact Nat.zero_le _ | (simp only [pcells_len, gcells_len]; done) | (simp only [fits]; omega) | (simp only [List.length_append, List.length_cons, List.length_nil, pcells_len, gcells_len, rep]; omega) | (repeat' first | exact pcells_scal _ | exact gcells_scal _ | exact scal_nil | apply scal_int | apply scal_bool | apply scal_take)))
      | (refine Side.mk ?_ ?_; · (simp; done))
      | fail
      )
  all_goals (conv => whnf)
  · exact RetA.gc [(0, false), (1, true), (2, true), (3, true), (4, true), (5, true)] rfl ⟨trivial, trivial, trivial, trivial, hgd, trivial⟩ stay
theorem a_hear3_0_10 (t : Nat) (ht : t < 150) (s : St) (f : Int) (H : Inv t s) (k h w n : Int) (hk : 0 ≤ k ∧ k < 256) (hh : 0 ≤ h ∧ h < 256) (hw : 0 ≤ w ∧ w < 256) (hn : 0 ≤ n ∧ n < 256) (h6 : k % 6 = 3) (h3 : w % 3 = 0) (hps : bn s.ps = true) (hgs : s.gs = []) :
  CallA Try.prog 10 [.ptr 0 0, .agg [.int .u8 k, .int .u8 h, .int .u8 w, .int .u8 n]] (wH s f) (ActK t f) := by
  refine callA_of ok10 (Nat.le_of_ble_eq_true rfl) ?_
  have hmin : IntKind.i64.min = -9223372036854775808 := rfl
  have hmax : IntKind.i64.max = 9223372036854775807 := rfl
  have t6 : k.tmod 6 = 3 := tm6 hk.1 h6
  have hpd := pcells_noLoc s.ps
  have hgd := gcells_noLoc s.gs
  have nps := H.np
  have ngs := H.ng
  have t3 : w.tmod 3 = 0 := tm3 hw.1 h3
  have hm3 : h.tmod 3 = h % 3 := tm3 hh.1 rfl
  have stay : ActK t f (.bool true) (wH s f) := ⟨rfl, s, H.up, .inl rfl⟩
  have npos : 0 < s.ps.length := by cases e : s.ps with
    | nil => rw [e] at hps; cases hps
    | cons p r => simp
  have hq0 : 0 ≤ n % (s.ps.length : Int) := Int.emod_nonneg _ (by omega)
  have hq1 : n % (s.ps.length : Int) < s.ps.length := Int.emod_lt_of_pos _ (by omega)
  obtain ⟨p, hpm, R, hat⟩ := pick_p s.ps n hq0 hq1
  have h17 := c17 0 s.l0 none p (kept1_of H.l0.shape)
  obtain ⟨l', hE, hsh, hkp⟩ := hear_shape (w := 0) H.l0.shape (H.ps p hpm)
  obtain ⟨hW, hG⟩ := hear_ok H.up.l0 (by omega) (H.up.ps p hpm) hsh hkp
  have hgw : (graK 0 (kp s.l0) p).w = 0 := rfl
  rw [hE] at h17
  clear hE hkp
  generalize graK 0 (kp s.l0) p = g at h17 hW hG hgw
  have fin : ∀ (G : List Gra), G = s.gs ++ [g] → Inv (t + 1) { s with l0 := l', gs := G } := fun G hGG => by
    subst hGG
    exact { a := H.up.a.mono, b := H.up.b.mono, c := H.up.c.mono, l0 := hW, l1 := H.up.l1.mono (by omega), l2 := H.up.l2.mono (by omega), ps := H.up.ps, gs := (fun x hx => (List.mem_append.1 hx).elim (H.up.gs x) (fun hx => by simp at hx; subst hx; exact hG)), bk := H.bk.mono, np := H.up.np, ng := (by simp; omega) }
  obtain ⟨gw, ⟨g1, g2, g3, g4, g5⟩, gag, ge, gu⟩ := g
  unfold wH at stay ⊢
  rw [hps, hgs] at stay ⊢
  repeat' ((conv => whnf); first
      | refine Branch.ofT rfl ?_
      | refine Branch.ofF rfl ?_
      | refine Branch.ofT (decide_eq_true t6) ?_
      | refine Branch.ofF (decide_eq_false (by rw [t6]; decide)) ?_
      | refine Branch.ofF (decide_eq_false (by omega)) ?_
      | (rw [hm3]; refine Side.mk ?_ ?_; · omega)
      | (rw [t3]; refine Side.mk ?_ ?_; · omega)
      | (rw [hmin, hmax]; refine Side.mk ?_ ?_; · omega)
      | refine Branch.dec (fun h => ?_) (fun h => ?_)
      | refine Branch.negdec (fun h => ?_) (fun h => ?_)
      | refine Branch.neg (fun h => ?_) (fun h => ?_)
      | refine Branch.mk (fun h => ?_) (fun h => ?_)
      | (refine Side.mk ?_ ?_; · first | omega | decide)
      | (refine SideD.mk ?_ ?_; · first | omega | decide)
      | refine ⟨_, Nat.lt_succ_self _, To.refl (.inl ⟨rfl, ?_⟩)⟩
      | refine takeK_at5 hat ?_
      | refine QCallA.of h17 rfl rfl ?_
      | (refine Side.mk ?_ ?_; · exact ⟨by simp [fits], by intro c hc; simp at hc; rcases hc with rfl | rfl | rfl | rfl | rfl <;> rfl⟩)
      | (refine Side.mk ?_ ?_; · (simp only [if_true]; split <;> omega))
      | (refine Side.mk ?_ ?_; · ((repeat' apply And.intro) <;> first | omega | rfl | exact Nat.zero_le _ | (simp only [pcells_len, gcells_len]; done) | (simp only [fits]; omega) | (simp only [List.length_append, List.length_cons, List.length_nil, pcells_len, gcells_len, rep]; omega) | (repeat' first | exact pcells_scal _ | exact gcells_scal _ | exact scal_nil | apply scal_int | apply scal_bool | apply scal_take)))
      | (refine Side.mk ?_ ?_; · (simp; done))
      | fail
      )
  all_goals (conv => whnf)
  · exact RetA.gc [(0, false), (1, true), (2, true), (3, true), (4, true), (5, true)] rfl ⟨trivial, trivial, trivial, hpd, trivial, trivial⟩ stay
  · have hJ := fin [⟨gw, ⟨g1, g2, g3, g4, g5⟩, gag, ge, gu⟩] (by first | rfl | (rw [hgs]; rfl))
    have hgd' := gcells_noLoc [⟨gw, ⟨g1, g2, g3, g4, g5⟩, gag, ge, gu⟩]
    refine CallA.lend [(0, false), (1, true), (2, true), (3, true), (4, true), (67, true)] (c29_at (s := { s with l0 := l', gs := [⟨gw, ⟨g1, g2, g3, g4, g5⟩, gag, ge, gu⟩] }) f hJ hps rfl rfl rfl rfl rfl) rfl ⟨trivial, trivial, trivial, hpd, hgd', trivial⟩ rfl ?_
    rintro c H' ⟨rfl, rfl⟩
    refine ⟨⟨trivial, trivial, trivial, hpd, hgd', trivial⟩, ?_⟩
    (conv => whnf)
    exact RetA.gc [(0, false), (1, true), (2, true), (3, true), (4, true), (5, true), (67, true)] rfl ⟨trivial, trivial, trivial, hpd, trivial, hgd', trivial⟩ (wHg_at (s := { s with l0 := l', gs := [⟨gw, ⟨g1, g2, g3, g4, g5⟩, gag, ge, gu⟩] }) f _ (by exact trivial) hJ hps rfl rfl rfl rfl rfl rfl)
theorem a_hear3_0_11 (t : Nat) (ht : t < 150) (s : St) (f : Int) (H : Inv t s) (k h w n : Int) (hk : 0 ≤ k ∧ k < 256) (hh : 0 ≤ h ∧ h < 256) (hw : 0 ≤ w ∧ w < 256) (hn : 0 ≤ n ∧ n < 256) (h6 : k % 6 = 3) (h3 : w % 3 = 0) (hps : bn s.ps = true) (hgs : bn s.gs = true) :
  CallA Try.prog 10 [.ptr 0 0, .agg [.int .u8 k, .int .u8 h, .int .u8 w, .int .u8 n]] (wH s f) (ActK t f) := by
  refine callA_of ok10 (Nat.le_of_ble_eq_true rfl) ?_
  have hmin : IntKind.i64.min = -9223372036854775808 := rfl
  have hmax : IntKind.i64.max = 9223372036854775807 := rfl
  have t6 : k.tmod 6 = 3 := tm6 hk.1 h6
  have hpd := pcells_noLoc s.ps
  have hgd := gcells_noLoc s.gs
  have nps := H.np
  have ngs := H.ng
  have t3 : w.tmod 3 = 0 := tm3 hw.1 h3
  have hm3 : h.tmod 3 = h % 3 := tm3 hh.1 rfl
  have stay : ActK t f (.bool true) (wH s f) := ⟨rfl, s, H.up, .inl rfl⟩
  have npos : 0 < s.ps.length := by cases e : s.ps with
    | nil => rw [e] at hps; cases hps
    | cons p r => simp
  have hq0 : 0 ≤ n % (s.ps.length : Int) := Int.emod_nonneg _ (by omega)
  have hq1 : n % (s.ps.length : Int) < s.ps.length := Int.emod_lt_of_pos _ (by omega)
  obtain ⟨p, hpm, R, hat⟩ := pick_p s.ps n hq0 hq1
  have h17 := c17 0 s.l0 none p (kept1_of H.l0.shape)
  obtain ⟨l', hE, hsh, hkp⟩ := hear_shape (w := 0) H.l0.shape (H.ps p hpm)
  obtain ⟨hW, hG⟩ := hear_ok H.up.l0 (by omega) (H.up.ps p hpm) hsh hkp
  have hgw : (graK 0 (kp s.l0) p).w = 0 := rfl
  rw [hE] at h17
  clear hE hkp
  generalize graK 0 (kp s.l0) p = g at h17 hW hG hgw
  have fin : ∀ (G : List Gra), G = s.gs ++ [g] → Inv (t + 1) { s with l0 := l', gs := G } := fun G hGG => by
    subst hGG
    exact { a := H.up.a.mono, b := H.up.b.mono, c := H.up.c.mono, l0 := hW, l1 := H.up.l1.mono (by omega), l2 := H.up.l2.mono (by omega), ps := H.up.ps, gs := (fun x hx => (List.mem_append.1 hx).elim (H.up.gs x) (fun hx => by simp at hx; subst hx; exact hG)), bk := H.bk.mono, np := H.up.np, ng := (by simp; omega) }
  obtain ⟨gw, ⟨g1, g2, g3, g4, g5⟩, gag, ge, gu⟩ := g
  unfold wH at stay ⊢
  rw [hps, hgs] at stay ⊢
  repeat' ((conv => whnf); first
      | refine Branch.ofT rfl ?_
      | refine Branch.ofF rfl ?_
      | refine Branch.ofT (decide_eq_true t6) ?_
      | refine Branch.ofF (decide_eq_false (by rw [t6]; decide)) ?_
      | refine Branch.ofF (decide_eq_false (by omega)) ?_
      | (rw [hm3]; refine Side.mk ?_ ?_; · omega)
      | (rw [t3]; refine Side.mk ?_ ?_; · omega)
      | (rw [hmin, hmax]; refine Side.mk ?_ ?_; · omega)
      | refine Branch.dec (fun h => ?_) (fun h => ?_)
      | refine Branch.negdec (fun h => ?_) (fun h => ?_)
      | refine Branch.neg (fun h => ?_) (fun h => ?_)
      | refine Branch.mk (fun h => ?_) (fun h => ?_)
      | (refine Side.mk ?_ ?_; · first | omega | decide)
      | (refine SideD.mk ?_ ?_; · first | omega | decide)
      | refine ⟨_, Nat.lt_succ_self _, To.refl (.inl ⟨rfl, ?_⟩)⟩
      | refine takeK_at5 hat ?_
      | refine QCallA.of h17 rfl rfl ?_
      | (refine Side.mk ?_ ?_; · exact ⟨by simp [fits], by intro c hc; simp at hc; rcases hc with rfl | rfl | rfl | rfl | rfl <;> rfl⟩)
      | (refine Side.mk ?_ ?_; · (simp only [if_true]; split <;> omega))
      | (refine Side.mk ?_ ?_; · ((repeat' apply And.intro) <;> first | omega | rfl | exact Nat.zero_le _ | (simp only [pcells_len, gcells_len]; done) | (simp only [fits]; omega) | (simp only [List.length_append, List.length_cons, List.length_nil, pcells_len, gcells_len, rep]; omega) | (repeat' first | exact pcells_scal _ | exact gcells_scal _ | exact scal_nil | apply scal_int | apply scal_bool | apply scal_take)))
      | (refine Side.mk ?_ ?_; · (simp; done))
      | fail
      )
  all_goals (conv => whnf)
  · exact RetA.gc [(0, false), (1, true), (2, true), (3, true), (4, true), (5, true)] rfl ⟨trivial, trivial, trivial, hpd, hgd, trivial⟩ stay
  · have hJ := fin (s.gs ++ [⟨gw, ⟨g1, g2, g3, g4, g5⟩, gag, ge, gu⟩]) (by first | rfl | (rw [hgs]; rfl))
    have hgd' := gcells_noLoc (s.gs ++ [⟨gw, ⟨g1, g2, g3, g4, g5⟩, gag, ge, gu⟩])
    rw [gcells_app] at hgd'
    refine CallA.lend [(0, false), (1, true), (2, true), (3, true), (4, true), (67, true)] (c29_at (s := { s with l0 := l', gs := (s.gs ++ [⟨gw, ⟨g1, g2, g3, g4, g5⟩, gag, ge, gu⟩]) }) f hJ hps (bn_app _ _) rfl (by rw [List.length_append]; rfl) rfl (gcells_app _ _)) rfl ⟨trivial, trivial, trivial, hpd, hgd', trivial⟩ rfl ?_
    rintro c H' ⟨rfl, rfl⟩
    refine ⟨⟨trivial, trivial, trivial, hpd, hgd', trivial⟩, ?_⟩
    (conv => whnf)
    exact RetA.gc [(0, false), (1, true), (2, true), (3, true), (4, true), (5, true), (67, true)] rfl ⟨trivial, trivial, trivial, hpd, trivial, hgd', trivial⟩ (wHg_at (s := { s with l0 := l', gs := (s.gs ++ [⟨gw, ⟨g1, g2, g3, g4, g5⟩, gag, ge, gu⟩]) }) f _ (by exact trivial) hJ hps (bn_app _ _) rfl (by rw [List.length_append]; rfl) rfl (gcells_app _ _) rfl)
theorem a_hear3_1_00 (t : Nat) (ht : t < 150) (s : St) (f : Int) (H : Inv t s) (k h w n : Int) (hk : 0 ≤ k ∧ k < 256) (hh : 0 ≤ h ∧ h < 256) (hw : 0 ≤ w ∧ w < 256) (hn : 0 ≤ n ∧ n < 256) (h6 : k % 6 = 3) (h3 : w % 3 = 1) (hps : s.ps = []) (hgs : s.gs = []) :
  CallA Try.prog 10 [.ptr 0 0, .agg [.int .u8 k, .int .u8 h, .int .u8 w, .int .u8 n]] (wH s f) (ActK t f) := by
  refine callA_of ok10 (Nat.le_of_ble_eq_true rfl) ?_
  have hmin : IntKind.i64.min = -9223372036854775808 := rfl
  have hmax : IntKind.i64.max = 9223372036854775807 := rfl
  have t6 : k.tmod 6 = 3 := tm6 hk.1 h6
  have hpd := pcells_noLoc s.ps
  have hgd := gcells_noLoc s.gs
  have nps := H.np
  have ngs := H.ng
  have t3 : w.tmod 3 = 1 := tm3 hw.1 h3
  have hm3 : h.tmod 3 = h % 3 := tm3 hh.1 rfl
  have stay : ActK t f (.bool true) (wH s f) := ⟨rfl, s, H.up, .inl rfl⟩
  unfold wH at stay ⊢
  rw [hps, hgs] at stay ⊢
  repeat' ((conv => whnf); first
      | refine Branch.ofT rfl ?_
      | refine Branch.ofF rfl ?_
      | refine Branch.ofT (decide_eq_true t6) ?_
      | refine Branch.ofF (decide_eq_false (by rw [t6]; decide)) ?_
      | refine Branch.ofF (decide_eq_false (by omega)) ?_
      | (rw [hm3]; refine Side.mk ?_ ?_; · omega)
      | (rw [t3]; refine Side.mk ?_ ?_; · omega)
      | (rw [hmin, hmax]; refine Side.mk ?_ ?_; · omega)
      | refine Branch.dec (fun h => ?_) (fun h => ?_)
      | refine Branch.negdec (fun h => ?_) (fun h => ?_)
      | refine Branch.neg (fun h => ?_) (fun h => ?_)
      | refine Branch.mk (fun h => ?_) (fun h => ?_)
      | (refine Side.mk ?_ ?_; · first | omega | decide)
      | (refine SideD.mk ?_ ?_; · first | omega | decide)
      | refine ⟨_, Nat.lt_succ_self _, To.refl (.inl ⟨rfl, ?_⟩)⟩
      | refine takeK_at5 hat ?_
      | refine QCallA.of h17 rfl rfl ?_
      | (refine Side.mk ?_ ?_; · exact ⟨by simp [fits], by intro c hc; simp at hc; rcases hc with rfl | rfl | rfl | rfl | rfl <;> rfl⟩)
      | (refine Side.mk ?_ ?_; · (simp only [if_true]; split <;> omega))
      | (refine Side.mk ?_ ?_; · ((repeat' apply And.intro) <;> first | omega | rfl | exact Nat.zero_le _ | (simp only [pcells_len, gcells_len]; done) | (simp only [fits]; omega) | (simp only [List.length_append, List.length_cons, List.length_nil, pcells_len, gcells_len, rep]; omega) | (repeat' first | exact pcells_scal _ | exact gcells_scal _ | exact scal_nil | apply scal_int | apply scal_bool | apply scal_take)))
      | (refine Side.mk ?_ ?_; · (simp; done))
      | fail
      )
  all_goals (conv => whnf)
  · exact RetA.gc [(0, false), (1, true), (2, true), (3, true), (4, true), (5, true)] rfl ⟨trivial, trivial, trivial, trivial, trivial, trivial⟩ stay
theorem a_hear3_1_01 (t : Nat) (ht : t < 150) (s : St) (f : Int) (H : Inv t s) (k h w n : Int) (hk : 0 ≤ k ∧ k < 256) (hh : 0 ≤ h ∧ h < 256) (hw : 0 ≤ w ∧ w < 256) (hn : 0 ≤ n ∧ n < 256) (h6 : k % 6 = 3) (h3 : w % 3 = 1) (hps : s.ps = []) (hgs : bn s.gs = true) :
  CallA Try.prog 10 [.ptr 0 0, .agg [.int .u8 k, .int .u8 h, .int .u8 w, .int .u8 n]] (wH s f) (ActK t f) := by
  refine callA_of ok10 (Nat.le_of_ble_eq_true rfl) ?_
  have hmin : IntKind.i64.min = -9223372036854775808 := rfl
  have hmax : IntKind.i64.max = 9223372036854775807 := rfl
  have t6 : k.tmod 6 = 3 := tm6 hk.1 h6
  have hpd := pcells_noLoc s.ps
  have hgd := gcells_noLoc s.gs
  have nps := H.np
  have ngs := H.ng
  have t3 : w.tmod 3 = 1 := tm3 hw.1 h3
  have hm3 : h.tmod 3 = h % 3 := tm3 hh.1 rfl
  have stay : ActK t f (.bool true) (wH s f) := ⟨rfl, s, H.up, .inl rfl⟩
  unfold wH at stay ⊢
  rw [hps, hgs] at stay ⊢
  repeat' ((conv => whnf); first
      | refine Branch.ofT rfl ?_
      | refine Branch.ofF rfl ?_
      | refine Branch.ofT (decide_eq_true t6) ?_
      | refine Branch.ofF (decide_eq_false (by rw [t6]; decide)) ?_
      | refine Branch.ofF (decide_eq_false (by omega)) ?_
      | (rw [hm3]; refine Side.mk ?_ ?_; · omega)
      | (rw [t3]; refine Side.mk ?_ ?_; · omega)
      | (rw [hmin, hmax]; refine Side.mk ?_ ?_; · omega)
      | refine Branch.dec (fun h => ?_) (fun h => ?_)
      | refine Branch.negdec (fun h => ?_) (fun h => ?_)
      | refine Branch.neg (fun h => ?_) (fun h => ?_)
      | refine Branch.mk (fun h => ?_) (fun h => ?_)
      | (refine Side.mk ?_ ?_; · first | omega | decide)
      | (refine SideD.mk ?_ ?_; · first | omega | decide)
      | refine ⟨_, Nat.lt_succ_self _, To.refl (.inl ⟨rfl, ?_⟩)⟩
      | refine takeK_at5 hat ?_
      | refine QCallA.of h17 rfl rfl ?_
      | (refine Side.mk ?_ ?_; · exact ⟨by simp [fits], by intro c hc; simp at hc; rcases hc with rfl | rfl | rfl | rfl | rfl <;> rfl⟩)
      | (refine Side.mk ?_ ?_; · (simp only [if_true]; split <;> omega))
      | (refine Side.mk ?_ ?_; · ((repeat' apply And.intro) <;> first | omega | rfl | exact Nat.zero_le _ | (simp only [pcells_len, gcells_len]; done) | (simp only [fits]; omega) | (simp only [List.length_append, List.length_cons, List.length_nil, pcells_len, gcells_len, rep]; omega) | (repeat' first | exact pcells_scal _ | exact gcells_scal _ | exact scal_nil | apply scal_int | apply scal_bool | apply scal_take)))
      | (refine Side.mk ?_ ?_; · (simp; done))
      | fail
      )
  all_goals (conv => whnf)
  · exact RetA.gc [(0, false), (1, true), (2, true), (3, true), (4, true), (5, true)] rfl ⟨trivial, trivial, trivial, trivial, hgd, trivial⟩ stay
theorem a_hear3_1_10 (t : Nat) (ht : t < 150) (s : St) (f : Int) (H : Inv t s) (k h w n : Int) (hk : 0 ≤ k ∧ k < 256) (hh : 0 ≤ h ∧ h < 256) (hw : 0 ≤ w ∧ w < 256) (hn : 0 ≤ n ∧ n < 256) (h6 : k % 6 = 3) (h3 : w % 3 = 1) (hps : bn s.ps = true) (hgs : s.gs = []) :
  CallA Try.prog 10 [.ptr 0 0, .agg [.int .u8 k, .int .u8 h, .int .u8 w, .int .u8 n]] (wH s f) (ActK t f) := by
  refine callA_of ok10 (Nat.le_of_ble_eq_true rfl) ?_
  have hmin : IntKind.i64.min = -9223372036854775808 := rfl
  have hmax : IntKind.i64.max = 9223372036854775807 := rfl
  have t6 : k.tmod 6 = 3 := tm6 hk.1 h6
  have hpd := pcells_noLoc s.ps
  have hgd := gcells_noLoc s.gs
  have nps := H.np
  have ngs := H.ng
  have t3 : w.tmod 3 = 1 := tm3 hw.1 h3
  have hm3 : h.tmod 3 = h % 3 := tm3 hh.1 rfl
  have stay : ActK t f (.bool true) (wH s f) := ⟨rfl, s, H.up, .inl rfl⟩
  have npos : 0 < s.ps.length := by cases e : s.ps with
    | nil => rw [e] at hps; cases hps
    | cons p r => simp
  have hq0 : 0 ≤ n % (s.ps.length : Int) := Int.emod_nonneg _ (by omega)
  have hq1 : n % (s.ps.length : Int) < s.ps.length := Int.emod_lt_of_pos _ (by omega)
  obtain ⟨p, hpm, R, hat⟩ := pick_p s.ps n hq0 hq1
  have h17 := c17 1 s.l1 none p (kept1_of H.l1.shape)
  obtain ⟨l', hE, hsh, hkp⟩ := hear_shape (w := 1) H.l1.shape (H.ps p hpm)
  obtain ⟨hW, hG⟩ := hear_ok H.up.l1 (by omega) (H.up.ps p hpm) hsh hkp
  have hgw : (graK 1 (kp s.l1) p).w = 1 := rfl
  rw [hE] at h17
  clear hE hkp
  generalize graK 1 (kp s.l1) p = g at h17 hW hG hgw
  have fin : ∀ (G : List Gra), G = s.gs ++ [g] → Inv (t + 1) { s with l1 := l', gs := G } := fun G hGG => by
    subst hGG
    exact { a := H.up.a.mono, b := H.up.b.mono, c := H.up.c.mono, l0 := H.up.l0.mono (by omega), l1 := hW, l2 := H.up.l2.mono (by omega), ps := H.up.ps, gs := (fun x hx => (List.mem_append.1 hx).elim (H.up.gs x) (fun hx => by simp at hx; subst hx; exact hG)), bk := H.bk.mono, np := H.up.np, ng := (by simp; omega) }
  obtain ⟨gw, ⟨g1, g2, g3, g4, g5⟩, gag, ge, gu⟩ := g
  unfold wH at stay ⊢
  rw [hps, hgs] at stay ⊢
  repeat' ((conv => whnf); first
      | refine Branch.ofT rfl ?_
      | refine Branch.ofF rfl ?_
      | refine Branch.ofT (decide_eq_true t6) ?_
      | refine Branch.ofF (decide_eq_false (by rw [t6]; decide)) ?_
      | refine Branch.ofF (decide_eq_false (by omega)) ?_
      | (rw [hm3]; refine Side.mk ?_ ?_; · omega)
      | (rw [t3]; refine Side.mk ?_ ?_; · omega)
      | (rw [hmin, hmax]; refine Side.mk ?_ ?_; · omega)
      | refine Branch.dec (fun h => ?_) (fun h => ?_)
      | refine Branch.negdec (fun h => ?_) (fun h => ?_)
      | refine Branch.neg (fun h => ?_) (fun h => ?_)
      | refine Branch.mk (fun h => ?_) (fun h => ?_)
      | (refine Side.mk ?_ ?_; · first | omega | decide)
      | (refine SideD.mk ?_ ?_; · first | omega | decide)
      | refine ⟨_, Nat.lt_succ_self _, To.refl (.inl ⟨rfl, ?_⟩)⟩
      | refine takeK_at5 hat ?_
      | refine QCallA.of h17 rfl rfl ?_
      | (refine Side.mk ?_ ?_; · exact ⟨by simp [fits], by intro c hc; simp at hc; rcases hc with rfl | rfl | rfl | rfl | rfl <;> rfl⟩)
      | (refine Side.mk ?_ ?_; · (simp only [if_true]; split <;> omega))
      | (refine Side.mk ?_ ?_; · ((repeat' apply And.intro) <;> first | omega | rfl | exact Nat.zero_le _ | (simp only [pcells_len, gcells_len]; done) | (simp only [fits]; omega) | (simp only [List.length_append, List.length_cons, List.length_nil, pcells_len, gcells_len, rep]; omega) | (repeat' first | exact pcells_scal _ | exact gcells_scal _ | exact scal_nil | apply scal_int | apply scal_bool | apply scal_take)))
      | (refine Side.mk ?_ ?_; · (simp; done))
      | fail
      )
  all_goals (conv => whnf)
  · exact RetA.gc [(0, false), (1, true), (2, true), (3, true), (4, true), (5, true)] rfl ⟨trivial, trivial, trivial, hpd, trivial, trivial⟩ stay
  · have hJ := fin [⟨gw, ⟨g1, g2, g3, g4, g5⟩, gag, ge, gu⟩] (by first | rfl | (rw [hgs]; rfl))
    have hgd' := gcells_noLoc [⟨gw, ⟨g1, g2, g3, g4, g5⟩, gag, ge, gu⟩]
    refine CallA.lend [(0, false), (1, true), (2, true), (3, true), (4, true), (67, true)] (c29_at (s := { s with l1 := l', gs := [⟨gw, ⟨g1, g2, g3, g4, g5⟩, gag, ge, gu⟩] }) f hJ hps rfl rfl rfl rfl rfl) rfl ⟨trivial, trivial, trivial, hpd, hgd', trivial⟩ rfl ?_
    rintro c H' ⟨rfl, rfl⟩
    refine ⟨⟨trivial, trivial, trivial, hpd, hgd', trivial⟩, ?_⟩
    (conv => whnf)
    exact RetA.gc [(0, false), (1, true), (2, true), (3, true), (4, true), (5, true), (67, true)] rfl ⟨trivial, trivial, trivial, hpd, trivial, hgd', trivial⟩ (wHg_at (s := { s with l1 := l', gs := [⟨gw, ⟨g1, g2, g3, g4, g5⟩, gag, ge, gu⟩] }) f _ (by exact trivial) hJ hps rfl rfl rfl rfl rfl rfl)
theorem a_hear3_1_11 (t : Nat) (ht : t < 150) (s : St) (f : Int) (H : Inv t s) (k h w n : Int) (hk : 0 ≤ k ∧ k < 256) (hh : 0 ≤ h ∧ h < 256) (hw : 0 ≤ w ∧ w < 256) (hn : 0 ≤ n ∧ n < 256) (h6 : k % 6 = 3) (h3 : w % 3 = 1) (hps : bn s.ps = true) (hgs : bn s.gs = true) :
  CallA Try.prog 10 [.ptr 0 0, .agg [.int .u8 k, .int .u8 h, .int .u8 w, .int .u8 n]] (wH s f) (ActK t f) := by
  refine callA_of ok10 (Nat.le_of_ble_eq_true rfl) ?_
  have hmin : IntKind.i64.min = -9223372036854775808 := rfl
  have hmax : IntKind.i64.max = 9223372036854775807 := rfl
  have t6 : k.tmod 6 = 3 := tm6 hk.1 h6
  have hpd := pcells_noLoc s.ps
  have hgd := gcells_noLoc s.gs
  have nps := H.np
  have ngs := H.ng
  have t3 : w.tmod 3 = 1 := tm3 hw.1 h3
  have hm3 : h.tmod 3 = h % 3 := tm3 hh.1 rfl
  have stay : ActK t f (.bool true) (wH s f) := ⟨rfl, s, H.up, .inl rfl⟩
  have npos : 0 < s.ps.length := by cases e : s.ps with
    | nil => rw [e] at hps; cases hps
    | cons p r => simp
  have hq0 : 0 ≤ n % (s.ps.length : Int) := Int.emod_nonneg _ (by omega)
  have hq1 : n % (s.ps.length : Int) < s.ps.length := Int.emod_lt_of_pos _ (by omega)
  obtain ⟨p, hpm, R, hat⟩ := pick_p s.ps n hq0 hq1
  have h17 := c17 1 s.l1 none p (kept1_of H.l1.shape)
  obtain ⟨l', hE, hsh, hkp⟩ := hear_shape (w := 1) H.l1.shape (H.ps p hpm)
  obtain ⟨hW, hG⟩ := hear_ok H.up.l1 (by omega) (H.up.ps p hpm) hsh hkp
  have hgw : (graK 1 (kp s.l1) p).w = 1 := rfl
  rw [hE] at h17
  clear hE hkp
  generalize graK 1 (kp s.l1) p = g at h17 hW hG hgw
  have fin : ∀ (G : List Gra), G = s.gs ++ [g] → Inv (t + 1) { s with l1 := l', gs := G } := fun G hGG => by
    subst hGG
    exact { a := H.up.a.mono, b := H.up.b.mono, c := H.up.c.mono, l0 := H.up.l0.mono (by omega), l1 := hW, l2 := H.up.l2.mono (by omega), ps := H.up.ps, gs := (fun x hx => (List.mem_append.1 hx).elim (H.up.gs x) (fun hx => by simp at hx; subst hx; exact hG)), bk := H.bk.mono, np := H.up.np, ng := (by simp; omega) }
  obtain ⟨gw, ⟨g1, g2, g3, g4, g5⟩, gag, ge, gu⟩ := g
  unfold wH at stay ⊢
  rw [hps, hgs] at stay ⊢
  repeat' ((conv => whnf); first
      | refine Branch.ofT rfl ?_
      | refine Branch.ofF rfl ?_
      | refine Branch.ofT (decide_eq_true t6) ?_
      | refine Branch.ofF (decide_eq_false (by rw [t6]; decide)) ?_
      | refine Branch.ofF (decide_eq_false (by omega)) ?_
      | (rw [hm3]; refine Side.mk ?_ ?_; · omega)
      | (rw [t3]; refine Side.mk ?_ ?_; · omega)
      | (rw [hmin, hmax]; refine Side.mk ?_ ?_; · omega)
      | refine Branch.dec (fun h => ?_) (fun h => ?_)
      | refine Branch.negdec (fun h => ?_) (fun h => ?_)
      | refine Branch.neg (fun h => ?_) (fun h => ?_)
      | refine Branch.mk (fun h => ?_) (fun h => ?_)
      | (refine Side.mk ?_ ?_; · first | omega | decide)
      | (refine SideD.mk ?_ ?_; · first | omega | decide)
      | refine ⟨_, Nat.lt_succ_self _, To.refl (.inl ⟨rfl, ?_⟩)⟩
      | refine takeK_at5 hat ?_
      | refine QCallA.of h17 rfl rfl ?_
      | (refine Side.mk ?_ ?_; · exact ⟨by simp [fits], by intro c hc; simp at hc; rcases hc with rfl | rfl | rfl | rfl | rfl <;> rfl⟩)
      | (refine Side.mk ?_ ?_; · (simp only [if_true]; split <;> omega))
      | (refine Side.mk ?_ ?_; · ((repeat' apply And.intro) <;> first | omega | rfl | exact Nat.zero_le _ | (simp only [pcells_len, gcells_len]; done) | (simp only [fits]; omega) | (simp only [List.length_append, List.length_cons, List.length_nil, pcells_len, gcells_len, rep]; omega) | (repeat' first | exact pcells_scal _ | exact gcells_scal _ | exact scal_nil | apply scal_int | apply scal_bool | apply scal_take)))
      | (refine Side.mk ?_ ?_; · (simp; done))
      | fail
      )
  all_goals (conv => whnf)
  · exact RetA.gc [(0, false), (1, true), (2, true), (3, true), (4, true), (5, true)] rfl ⟨trivial, trivial, trivial, hpd, hgd, trivial⟩ stay
  · have hJ := fin (s.gs ++ [⟨gw, ⟨g1, g2, g3, g4, g5⟩, gag, ge, gu⟩]) (by first | rfl | (rw [hgs]; rfl))
    have hgd' := gcells_noLoc (s.gs ++ [⟨gw, ⟨g1, g2, g3, g4, g5⟩, gag, ge, gu⟩])
    rw [gcells_app] at hgd'
    refine CallA.lend [(0, false), (1, true), (2, true), (3, true), (4, true), (67, true)] (c29_at (s := { s with l1 := l', gs := (s.gs ++ [⟨gw, ⟨g1, g2, g3, g4, g5⟩, gag, ge, gu⟩]) }) f hJ hps (bn_app _ _) rfl (by rw [List.length_append]; rfl) rfl (gcells_app _ _)) rfl ⟨trivial, trivial, trivial, hpd, hgd', trivial⟩ rfl ?_
    rintro c H' ⟨rfl, rfl⟩
    refine ⟨⟨trivial, trivial, trivial, hpd, hgd', trivial⟩, ?_⟩
    (conv => whnf)
    exact RetA.gc [(0, false), (1, true), (2, true), (3, true), (4, true), (5, true), (67, true)] rfl ⟨trivial, trivial, trivial, hpd, trivial, hgd', trivial⟩ (wHg_at (s := { s with l1 := l', gs := (s.gs ++ [⟨gw, ⟨g1, g2, g3, g4, g5⟩, gag, ge, gu⟩]) }) f _ (by exact trivial) hJ hps (bn_app _ _) rfl (by rw [List.length_append]; rfl) rfl (gcells_app _ _) rfl)
theorem a_hear3_2_00 (t : Nat) (ht : t < 150) (s : St) (f : Int) (H : Inv t s) (k h w n : Int) (hk : 0 ≤ k ∧ k < 256) (hh : 0 ≤ h ∧ h < 256) (hw : 0 ≤ w ∧ w < 256) (hn : 0 ≤ n ∧ n < 256) (h6 : k % 6 = 3) (h3 : w % 3 = 2) (hps : s.ps = []) (hgs : s.gs = []) :
  CallA Try.prog 10 [.ptr 0 0, .agg [.int .u8 k, .int .u8 h, .int .u8 w, .int .u8 n]] (wH s f) (ActK t f) := by
  refine callA_of ok10 (Nat.le_of_ble_eq_true rfl) ?_
  have hmin : IntKind.i64.min = -9223372036854775808 := rfl
  have hmax : IntKind.i64.max = 9223372036854775807 := rfl
  have t6 : k.tmod 6 = 3 := tm6 hk.1 h6
  have hpd := pcells_noLoc s.ps
  have hgd := gcells_noLoc s.gs
  have nps := H.np
  have ngs := H.ng
  have t3 : w.tmod 3 = 2 := tm3 hw.1 h3
  have hm3 : h.tmod 3 = h % 3 := tm3 hh.1 rfl
  have stay : ActK t f (.bool true) (wH s f) := ⟨rfl, s, H.up, .inl rfl⟩
  unfold wH at stay ⊢
  rw [hps, hgs] at stay ⊢
  repeat' ((conv => whnf); first
      | refine Branch.ofT rfl ?_
      | refine Branch.ofF rfl ?_
      | refine Branch.ofT (decide_eq_true t6) ?_
      | refine Branch.ofF (decide_eq_false (by rw [t6]; decide)) ?_
      | refine Branch.ofF (decide_eq_false (by omega)) ?_
      | (rw [hm3]; refine Side.mk ?_ ?_; · omega)
      | (rw [t3]; refine Side.mk ?_ ?_; · omega)
      | (rw [hmin, hmax]; refine Side.mk ?_ ?_; · omega)
      | refine Branch.dec (fun h => ?_) (fun h => ?_)
      | refine Branch.negdec (fun h => ?_) (fun h => ?_)
      | refine Branch.neg (fun h => ?_) (fun h => ?_)
      | refine Branch.mk (fun h => ?_) (fun h => ?_)
      | (refine Side.mk ?_ ?_; · first | omega | decide)
      | (refine SideD.mk ?_ ?_; · first | omega | decide)
      | refine ⟨_, Nat.lt_succ_self _, To.refl (.inl ⟨rfl, ?_⟩)⟩
      | refine takeK_at5 hat ?_
      | refine QCallA.of h17 rfl rfl ?_
      | (refine Side.mk ?_ ?_; · exact ⟨by simp [fits], by intro c hc; simp at hc; rcases hc with rfl | rfl | rfl | rfl | rfl <;> rfl⟩)
      | (refine Side.mk ?_ ?_; · (simp only [if_true]; split <;> omega))
      | (refine Side.mk ?_ ?_; · ((repeat' apply And.intro) <;> first | omega | rfl | exact Nat.zero_le _ | (simp only [pcells_len, gcells_len]; done) | (simp only [fits]; omega) | (simp only [List.length_append, List.length_cons, List.length_nil, pcells_len, gcells_len, rep]; omega) | (repeat' first | exact pcells_scal _ | exact gcells_scal _ | exact scal_nil | apply scal_int | apply scal_bool | apply scal_take)))
      | (refine Side.mk ?_ ?_; · (simp; done))
      | fail
      )
  all_goals (conv => whnf)
  · exact RetA.gc [(0, false), (1, true), (2, true), (3, true), (4, true), (5, true)] rfl ⟨trivial, trivial, trivial, trivial, trivial, trivial⟩ stay
theorem a_hear3_2_01 (t : Nat) (ht : t < 150) (s : St) (f : Int) (H : Inv t s) (k h w n : Int) (hk : 0 ≤ k ∧ k < 256) (hh : 0 ≤ h ∧ h < 256) (hw : 0 ≤ w ∧ w < 256) (hn : 0 ≤ n ∧ n < 256) (h6 : k % 6 = 3) (h3 : w % 3 = 2) (hps : s.ps = []) (hgs : bn s.gs = true) :
  CallA Try.prog 10 [.ptr 0 0, .agg [.int .u8 k, .int .u8 h, .int .u8 w, .int .u8 n]] (wH s f) (ActK t f) := by
  refine callA_of ok10 (Nat.le_of_ble_eq_true rfl) ?_
  have hmin : IntKind.i64.min = -9223372036854775808 := rfl
  have hmax : IntKind.i64.max = 9223372036854775807 := rfl
  have t6 : k.tmod 6 = 3 := tm6 hk.1 h6
  have hpd := pcells_noLoc s.ps
  have hgd := gcells_noLoc s.gs
  have nps := H.np
  have ngs := H.ng
  have t3 : w.tmod 3 = 2 := tm3 hw.1 h3
  have hm3 : h.tmod 3 = h % 3 := tm3 hh.1 rfl
  have stay : ActK t f (.bool true) (wH s f) := ⟨rfl, s, H.up, .inl rfl⟩
  unfold wH at stay ⊢
  rw [hps, hgs] at stay ⊢
  repeat' ((conv => whnf); first
      | refine Branch.ofT rfl ?_
      | refine Branch.ofF rfl ?_
      | refine Branch.ofT (decide_eq_true t6) ?_
      | refine Branch.ofF (decide_eq_false (by rw [t6]; decide)) ?_
      | refine Branch.ofF (decide_eq_false (by omega)) ?_
      | (rw [hm3]; refine Side.mk ?_ ?_; · omega)
      | (rw [t3]; refine Side.mk ?_ ?_; · omega)
      | (rw [hmin, hmax]; refine Side.mk ?_ ?_; · omega)
      | refine Branch.dec (fun h => ?_) (fun h => ?_)
      | refine Branch.negdec (fun h => ?_) (fun h => ?_)
      | refine Branch.neg (fun h => ?_) (fun h => ?_)
      | refine Branch.mk (fun h => ?_) (fun h => ?_)
      | (refine Side.mk ?_ ?_; · first | omega | decide)
      | (refine SideD.mk ?_ ?_; · first | omega | decide)
      | refine ⟨_, Nat.lt_succ_self _, To.refl (.inl ⟨rfl, ?_⟩)⟩
      | refine takeK_at5 hat ?_
      | refine QCallA.of h17 rfl rfl ?_
      | (refine Side.mk ?_ ?_; · exact ⟨by simp [fits], by intro c hc; simp at hc; rcases hc with rfl | rfl | rfl | rfl | rfl <;> rfl⟩)
      | (refine Side.mk ?_ ?_; · (simp only [if_true]; split <;> omega))
      | (refine Side.mk ?_ ?_; · ((repeat' apply And.intro) <;> first | omega | rfl | exact Nat.zero_le _ | (simp only [pcells_len, gcells_len]; done) | (simp only [fits]; omega) | (simp only [List.length_append, List.length_cons, List.length_nil, pcells_len, gcells_len, rep]; omega) | (repeat' first | exact pcells_scal _ | exact gcells_scal _ | exact scal_nil | apply scal_int | apply scal_bool | apply scal_take)))
      | (refine Side.mk ?_ ?_; · (simp; done))
      | fail
      )
  all_goals (conv => whnf)
  · exact RetA.gc [(0, false), (1, true), (2, true), (3, true), (4, true), (5, true)] rfl ⟨trivial, trivial, trivial, trivial, hgd, trivial⟩ stay
theorem a_hear3_2_10 (t : Nat) (ht : t < 150) (s : St) (f : Int) (H : Inv t s) (k h w n : Int) (hk : 0 ≤ k ∧ k < 256) (hh : 0 ≤ h ∧ h < 256) (hw : 0 ≤ w ∧ w < 256) (hn : 0 ≤ n ∧ n < 256) (h6 : k % 6 = 3) (h3 : w % 3 = 2) (hps : bn s.ps = true) (hgs : s.gs = []) :
  CallA Try.prog 10 [.ptr 0 0, .agg [.int .u8 k, .int .u8 h, .int .u8 w, .int .u8 n]] (wH s f) (ActK t f) := by
  refine callA_of ok10 (Nat.le_of_ble_eq_true rfl) ?_
  have hmin : IntKind.i64.min = -9223372036854775808 := rfl
  have hmax : IntKind.i64.max = 9223372036854775807 := rfl
  have t6 : k.tmod 6 = 3 := tm6 hk.1 h6
  have hpd := pcells_noLoc s.ps
  have hgd := gcells_noLoc s.gs
  have nps := H.np
  have ngs := H.ng
  have t3 : w.tmod 3 = 2 := tm3 hw.1 h3
  have hm3 : h.tmod 3 = h % 3 := tm3 hh.1 rfl
  have stay : ActK t f (.bool true) (wH s f) := ⟨rfl, s, H.up, .inl rfl⟩
  have npos : 0 < s.ps.length := by cases e : s.ps with
    | nil => rw [e] at hps; cases hps
    | cons p r => simp
  have hq0 : 0 ≤ n % (s.ps.length : Int) := Int.emod_nonneg _ (by omega)
  have hq1 : n % (s.ps.length : Int) < s.ps.length := Int.emod_lt_of_pos _ (by omega)
  obtain ⟨p, hpm, R, hat⟩ := pick_p s.ps n hq0 hq1
  have h17 := c17 2 s.l2 none p (kept1_of H.l2.shape)
  obtain ⟨l', hE, hsh, hkp⟩ := hear_shape (w := 2) H.l2.shape (H.ps p hpm)
  obtain ⟨hW, hG⟩ := hear_ok H.up.l2 (by omega) (H.up.ps p hpm) hsh hkp
  have hgw : (graK 2 (kp s.l2) p).w = 2 := rfl
  rw [hE] at h17
  clear hE hkp
  generalize graK 2 (kp s.l2) p = g at h17 hW hG hgw
  have fin : ∀ (G : List Gra), G = s.gs ++ [g] → Inv (t + 1) { s with l2 := l', gs := G } := fun G hGG => by
    subst hGG
    exact { a := H.up.a.mono, b := H.up.b.mono, c := H.up.c.mono, l0 := H.up.l0.mono (by omega), l1 := H.up.l1.mono (by omega), l2 := hW, ps := H.up.ps, gs := (fun x hx => (List.mem_append.1 hx).elim (H.up.gs x) (fun hx => by simp at hx; subst hx; exact hG)), bk := H.bk.mono, np := H.up.np, ng := (by simp; omega) }
  obtain ⟨gw, ⟨g1, g2, g3, g4, g5⟩, gag, ge, gu⟩ := g
  unfold wH at stay ⊢
  rw [hps, hgs] at stay ⊢
  repeat' ((conv => whnf); first
      | refine Branch.ofT rfl ?_
      | refine Branch.ofF rfl ?_
      | refine Branch.ofT (decide_eq_true t6) ?_
      | refine Branch.ofF (decide_eq_false (by rw [t6]; decide)) ?_
      | refine Branch.ofF (decide_eq_false (by omega)) ?_
      | (rw [hm3]; refine Side.mk ?_ ?_; · omega)
      | (rw [t3]; refine Side.mk ?_ ?_; · omega)
      | (rw [hmin, hmax]; refine Side.mk ?_ ?_; · omega)
      | refine Branch.dec (fun h => ?_) (fun h => ?_)
      | refine Branch.negdec (fun h => ?_) (fun h => ?_)
      | refine Branch.neg (fun h => ?_) (fun h => ?_)
      | refine Branch.mk (fun h => ?_) (fun h => ?_)
      | (refine Side.mk ?_ ?_; · first | omega | decide)
      | (refine SideD.mk ?_ ?_; · first | omega | decide)
      | refine ⟨_, Nat.lt_succ_self _, To.refl (.inl ⟨rfl, ?_⟩)⟩
      | refine takeK_at5 hat ?_
      | refine QCallA.of h17 rfl rfl ?_
      | (refine Side.mk ?_ ?_; · exact ⟨by simp [fits], by intro c hc; simp at hc; rcases hc with rfl | rfl | rfl | rfl | rfl <;> rfl⟩)
      | (refine Side.mk ?_ ?_; · (simp only [if_true]; split <;> omega))
      | (refine Side.mk ?_ ?_; · ((repeat' apply And.intro) <;> first | omega | rfl | exact Nat.zero_le _ | (simp only [pcells_len, gcells_len]; done) | (simp only [fits]; omega) | (simp only [List.length_append, List.length_cons, List.length_nil, pcells_len, gcells_len, rep]; omega) | (repeat' first | exact pcells_scal _ | exact gcells_scal _ | exact scal_nil | apply scal_int | apply scal_bool | apply scal_take)))
      | (refine Side.mk ?_ ?_; · (simp; done))
      | fail
      )
  all_goals (conv => whnf)
  · exact RetA.gc [(0, false), (1, true), (2, true), (3, true), (4, true), (5, true)] rfl ⟨trivial, trivial, trivial, hpd, trivial, trivial⟩ stay
  · have hJ := fin [⟨gw, ⟨g1, g2, g3, g4, g5⟩, gag, ge, gu⟩] (by first | rfl | (rw [hgs]; rfl))
    have hgd' := gcells_noLoc [⟨gw, ⟨g1, g2, g3, g4, g5⟩, gag, ge, gu⟩]
    refine CallA.lend [(0, false), (1, true), (2, true), (3, true), (4, true), (67, true)] (c29_at (s := { s with l2 := l', gs := [⟨gw, ⟨g1, g2, g3, g4, g5⟩, gag, ge, gu⟩] }) f hJ hps rfl rfl rfl rfl rfl) rfl ⟨trivial, trivial, trivial, hpd, hgd', trivial⟩ rfl ?_
    rintro c H' ⟨rfl, rfl⟩
    refine ⟨⟨trivial, trivial, trivial, hpd, hgd', trivial⟩, ?_⟩
    (conv => whnf)
    exact RetA.gc [(0, false), (1, true), (2, true), (3, true), (4, true), (5, true), (67, true)] rfl ⟨trivial, trivial, trivial, hpd, trivial, hgd', trivial⟩ (wHg_at (s := { s with l2 := l', gs := [⟨gw, ⟨g1, g2, g3, g4, g5⟩, gag, ge, gu⟩] }) f _ (by exact trivial) hJ hps rfl rfl rfl rfl rfl rfl)
theorem a_hear3_2_11 (t : Nat) (ht : t < 150) (s : St) (f : Int) (H : Inv t s) (k h w n : Int) (hk : 0 ≤ k ∧ k < 256) (hh : 0 ≤ h ∧ h < 256) (hw : 0 ≤ w ∧ w < 256) (hn : 0 ≤ n ∧ n < 256) (h6 : k % 6 = 3) (h3 : w % 3 = 2) (hps : bn s.ps = true) (hgs : bn s.gs = true) :
  CallA Try.prog 10 [.ptr 0 0, .agg [.int .u8 k, .int .u8 h, .int .u8 w, .int .u8 n]] (wH s f) (ActK t f) := by
  refine callA_of ok10 (Nat.le_of_ble_eq_true rfl) ?_
  have hmin : IntKind.i64.min = -9223372036854775808 := rfl
  have hmax : IntKind.i64.max = 9223372036854775807 := rfl
  have t6 : k.tmod 6 = 3 := tm6 hk.1 h6
  have hpd := pcells_noLoc s.ps
  have hgd := gcells_noLoc s.gs
  have nps := H.np
  have ngs := H.ng
  have t3 : w.tmod 3 = 2 := tm3 hw.1 h3
  have hm3 : h.tmod 3 = h % 3 := tm3 hh.1 rfl
  have stay : ActK t f (.bool true) (wH s f) := ⟨rfl, s, H.up, .inl rfl⟩
  have npos : 0 < s.ps.length := by cases e : s.ps with
    | nil => rw [e] at hps; cases hps
    | cons p r => simp
  have hq0 : 0 ≤ n % (s.ps.length : Int) := Int.emod_nonneg _ (by omega)
  have hq1 : n % (s.ps.length : Int) < s.ps.length := Int.emod_lt_of_pos _ (by omega)
  obtain ⟨p, hpm, R, hat⟩ := pick_p s.ps n hq0 hq1
  have h17 := c17 2 s.l2 none p (kept1_of H.l2.shape)
  obtain ⟨l', hE, hsh, hkp⟩ := hear_shape (w := 2) H.l2.shape (H.ps p hpm)
  obtain ⟨hW, hG⟩ := hear_ok H.up.l2 (by omega) (H.up.ps p hpm) hsh hkp
  have hgw : (graK 2 (kp s.l2) p).w = 2 := rfl
  rw [hE] at h17
  clear hE hkp
  generalize graK 2 (kp s.l2) p = g at h17 hW hG hgw
  have fin : ∀ (G : List Gra), G = s.gs ++ [g] → Inv (t + 1) { s with l2 := l', gs := G } := fun G hGG => by
    subst hGG
    exact { a := H.up.a.mono, b := H.up.b.mono, c := H.up.c.mono, l0 := H.up.l0.mono (by omega), l1 := H.up.l1.mono (by omega), l2 := hW, ps := H.up.ps, gs := (fun x hx => (List.mem_append.1 hx).elim (H.up.gs x) (fun hx => by simp at hx; subst hx; exact hG)), bk := H.bk.mono, np := H.up.np, ng := (by simp; omega) }
  obtain ⟨gw, ⟨g1, g2, g3, g4, g5⟩, gag, ge, gu⟩ := g
  unfold wH at stay ⊢
  rw [hps, hgs] at stay ⊢
  repeat' ((conv => whnf); first
      | refine Branch.ofT rfl ?_
      | refine Branch.ofF rfl ?_
      | refine Branch.ofT (decide_eq_true t6) ?_
      | refine Branch.ofF (decide_eq_false (by rw [t6]; decide)) ?_
      | refine Branch.ofF (decide_eq_false (by omega)) ?_
      | (rw [hm3]; refine Side.mk ?_ ?_; · omega)
      | (rw [t3]; refine Side.mk ?_ ?_; · omega)
      | (rw [hmin, hmax]; refine Side.mk ?_ ?_; · omega)
      | refine Branch.dec (fun h => ?_) (fun h => ?_)
      | refine Branch.negdec (fun h => ?_) (fun h => ?_)
      | refine Branch.neg (fun h => ?_) (fun h => ?_)
      | refine Branch.mk (fun h => ?_) (fun h => ?_)
      | (refine Side.mk ?_ ?_; · first | omega | decide)
      | (refine SideD.mk ?_ ?_; · first | omega | decide)
      | refine ⟨_, Nat.lt_succ_self _, To.refl (.inl ⟨rfl, ?_⟩)⟩
      | refine takeK_at5 hat ?_
      | refine QCallA.of h17 rfl rfl ?_
      | (refine Side.mk ?_ ?_; · exact ⟨by simp [fits], by intro c hc; simp at hc; rcases hc with rfl | rfl | rfl | rfl | rfl <;> rfl⟩)
      | (refine Side.mk ?_ ?_; · (simp only [if_true]; split <;> omega))
      | (refine Side.mk ?_ ?_; · ((repeat' apply And.intro) <;> first | omega | rfl | exact Nat.zero_le _ | (simp only [pcells_len, gcells_len]; done) | (simp only [fits]; omega) | (simp only [List.length_append, List.length_cons, List.length_nil, pcells_len, gcells_len, rep]; omega) | (repeat' first | exact pcells_scal _ | exact gcells_scal _ | exact scal_nil | apply scal_int | apply scal_bool | apply scal_take)))
      | (refine Side.mk ?_ ?_; · (simp; done))
      | fail
      )
  all_goals (conv => whnf)
  · exact RetA.gc [(0, false), (1, true), (2, true), (3, true), (4, true), (5, true)] rfl ⟨trivial, trivial, trivial, hpd, hgd, trivial⟩ stay
  · have hJ := fin (s.gs ++ [⟨gw, ⟨g1, g2, g3, g4, g5⟩, gag, ge, gu⟩]) (by first | rfl | (rw [hgs]; rfl))
    have hgd' := gcells_noLoc (s.gs ++ [⟨gw, ⟨g1, g2, g3, g4, g5⟩, gag, ge, gu⟩])
    rw [gcells_app] at hgd'
    refine CallA.lend [(0, false), (1, true), (2, true), (3, true), (4, true), (67, true)] (c29_at (s := { s with l2 := l', gs := (s.gs ++ [⟨gw, ⟨g1, g2, g3, g4, g5⟩, gag, ge, gu⟩]) }) f hJ hps (bn_app _ _) rfl (by rw [List.length_append]; rfl) rfl (gcells_app _ _)) rfl ⟨trivial, trivial, trivial, hpd, hgd', trivial⟩ rfl ?_
    rintro c H' ⟨rfl, rfl⟩
    refine ⟨⟨trivial, trivial, trivial, hpd, hgd', trivial⟩, ?_⟩
    (conv => whnf)
    exact RetA.gc [(0, false), (1, true), (2, true), (3, true), (4, true), (5, true), (67, true)] rfl ⟨trivial, trivial, trivial, hpd, trivial, hgd', trivial⟩ (wHg_at (s := { s with l2 := l', gs := (s.gs ++ [⟨gw, ⟨g1, g2, g3, g4, g5⟩, gag, ge, gu⟩]) }) f _ (by exact trivial) hJ hps (bn_app _ _) rfl (by rw [List.length_append]; rfl) rfl (gcells_app _ _) rfl)
end Go.Proofs

namespace Go.Proofs
open Go Go.Eng
set_option maxRecDepth 100000
set_option maxHeartbeats 4000000
attribute [local irreducible] Hol.holds Hol.rel
theorem a_take4_0_01 (t : Nat) (ht : t < 150) (s : St) (f : Int) (H : Inv t s) (k h w n : Int) (hk : 0 ≤ k ∧ k < 256) (hh : 0 ≤ h ∧ h < 256) (hw : 0 ≤ w ∧ w < 256) (hn : 0 ≤ n ∧ n < 256) (h6 : k % 6 = 4) (hps : s.ps = []) (hgs : bn s.gs = true) (g : Gra) (R : List AV) (hgm : g ∈ s.gs) (hat : List.drop (0 + ((s.gs.length : Int) - 1 - n % (s.gs.length : Int)).toNat * 9) (gcells s.gs) = g.av ++ R) (g3 : g.p.h = 1) (hq0 : 0 ≤ n % (s.gs.length : Int)) (hq1 : n % (s.gs.length : Int) < s.gs.length) :
  CallA Try.prog 10 [.ptr 0 0, .agg [.int .u8 k, .int .u8 h, .int .u8 w, .int .u8 n]] (wH s f) (ActK t f) := by
  refine callA_of ok10 (Nat.le_of_ble_eq_true rfl) ?_
  have hmin : IntKind.i64.min = -9223372036854775808 := rfl
  have hmax : IntKind.i64.max = 9223372036854775807 := rfl
  have t6 : k.tmod 6 = 4 := tm6 hk.1 h6
  have hpd := pcells_noLoc s.ps
  have hgd := gcells_noLoc s.gs
  have nps := H.np
  have ngs := H.ng
  have hm3 : h.tmod 3 = h % 3 := tm3 hh.1 rfl
  have hT := take_ok H.up.a (H.up.gs g hgm) hgm
  have h23 := c23 s.a g
  generalize s.a.take g = x' at hT h23
  have fin : Inv (t + 1) { s with a := x' } := { H.up with a := hT }
  obtain ⟨gw, ⟨g1, g2, g3', g4, g5⟩, gag, ge, gu⟩ := g
  have g3 : g3' = 1 := g3
  subst g3
  unfold wH
  rw [hps, hgs]
  repeat' ((conv => whnf); first
      | refine Branch.ofT rfl ?_
      | refine Branch.ofF rfl ?_
      | refine Branch.ofT (decide_eq_true t6) ?_
      | refine Branch.ofF (decide_eq_false (by rw [t6]; decide)) ?_
      | refine Branch.ofT (decide_eq_true (by omega)) ?_
      | (rw [hm3]; refine Side.mk ?_ ?_; · omega)
      | (rw [hmin, hmax]; refine Side.mk ?_ ?_; · omega)
      | refine Branch.dec (fun h => ?_) (fun h => ?_)
      | refine Branch.negdec (fun h => ?_) (fun h => ?_)
      | refine Branch.neg (fun h => ?_) (fun h => ?_)
      | refine Branch.mk (fun h => ?_) (fun h => ?_)
      | (refine Side.mk ?_ ?_; · first | omega | decide)
      | (refine SideD.mk ?_ ?_; · first | omega | decide)
      | refine ⟨_, Nat.lt_succ_self _, To.refl (.inl ⟨rfl, ?_⟩)⟩
      | refine takeK_at9 hat ?_
      | refine QCallA.of h23 rfl rfl ?_
      | (refine Side.mk ?_ ?_; · exact ⟨by simp [fits], by intro c hc; simp at hc; rcases hc with rfl | rfl | rfl | rfl | rfl <;> rfl⟩)
      | (refine Side.mk ?_ ?_; · (simp only [if_true]; split <;> omega))
      | (refine Side.mk ?_ ?_; · ((repeat' apply And.intro) <;> first | omega | rfl | exact Nat.zero_le _ | (simp only [pcells_len, gcells_len]; done) | (simp only [fits]; omega) | (simp only [List.length_append, List.length_cons, List.length_nil, pcells_len, gcells_len, rep]; omega) | (repeat' first | exact pcells_scal _ | exact gcells_scal _ | exact scal_nil | apply scal_int | apply scal_bool | apply scal_take)))
      | (refine Side.mk ?_ ?_; · (simp; done))
      | fail
      )
  all_goals (conv => whnf)
  · refine CallA.lend [(0, false), (1, true), (2, true), (3, true), (4, true), (5, true)] (c29_at (s := { s with a := x' }) (bp := false) (np := 0) (PC := []) f fin (by rw [hps]; rfl) hgs (by rw [hps]; rfl) rfl (by rw [hps]; rfl) rfl) rfl ⟨trivial, trivial, trivial, trivial, hgd, trivial⟩ rfl ?_
    rintro c H' ⟨rfl, rfl⟩
    refine ⟨⟨trivial, trivial, trivial, trivial, hgd, trivial⟩, ?_⟩
    (conv => whnf)
    exact RetA.gc [(0, false), (1, true), (2, true), (3, true), (4, true), (5, true)] rfl ⟨trivial, trivial, trivial, trivial, hgd, trivial⟩ (wHs_at (s := { s with a := x' }) (bp := false) (np := 0) (PC := []) f fin (by rw [hps]; rfl) hgs (by rw [hps]; rfl) rfl (by rw [hps]; rfl) rfl rfl)
theorem a_take4_0_11 (t : Nat) (ht : t < 150) (s : St) (f : Int) (H : Inv t s) (k h w n : Int) (hk : 0 ≤ k ∧ k < 256) (hh : 0 ≤ h ∧ h < 256) (hw : 0 ≤ w ∧ w < 256) (hn : 0 ≤ n ∧ n < 256) (h6 : k % 6 = 4) (hps : bn s.ps = true) (hgs : bn s.gs = true) (g : Gra) (R : List AV) (hgm : g ∈ s.gs) (hat : List.drop (0 + ((s.gs.length : Int) - 1 - n % (s.gs.length : Int)).toNat * 9) (gcells s.gs) = g.av ++ R) (g3 : g.p.h = 1) (hq0 : 0 ≤ n % (s.gs.length : Int)) (hq1 : n % (s.gs.length : Int) < s.gs.length) :
  CallA Try.prog 10 [.ptr 0 0, .agg [.int .u8 k, .int .u8 h, .int .u8 w, .int .u8 n]] (wH s f) (ActK t f) := by
  refine callA_of ok10 (Nat.le_of_ble_eq_true rfl) ?_
  have hmin : IntKind.i64.min = -9223372036854775808 := rfl
  have hmax : IntKind.i64.max = 9223372036854775807 := rfl
  have t6 : k.tmod 6 = 4 := tm6 hk.1 h6
  have hpd := pcells_noLoc s.ps
  have hgd := gcells_noLoc s.gs
  have nps := H.np
  have ngs := H.ng
  have hm3 : h.tmod 3 = h % 3 := tm3 hh.1 rfl
  have hT := take_ok H.up.a (H.up.gs g hgm) hgm
  have h23 := c23 s.a g
  generalize s.a.take g = x' at hT h23
  have fin : Inv (t + 1) { s with a := x' } := { H.up with a := hT }
  obtain ⟨gw, ⟨g1, g2, g3', g4, g5⟩, gag, ge, gu⟩ := g
  have g3 : g3' = 1 := g3
  subst g3
  unfold wH
  rw [hps, hgs]
  repeat' ((conv => whnf); first
      | refine Branch.ofT rfl ?_
      | refine Branch.ofF rfl ?_
      | refine Branch.ofT (decide_eq_true t6) ?_
      | refine Branch.ofF (decide_eq_false (by rw [t6]; decide)) ?_
      | refine Branch.ofT (decide_eq_true (by omega)) ?_
      | (rw [hm3]; refine Side.mk ?_ ?_; · omega)
      | (rw [hmin, hmax]; refine Side.mk ?_ ?_; · omega)
      | refine Branch.dec (fun h => ?_) (fun h => ?_)
      | refine Branch.negdec (fun h => ?_) (fun h => ?_)
      | refine Branch.neg (fun h => ?_) (fun h => ?_)
      | refine Branch.mk (fun h => ?_) (fun h => ?_)
      | (refine Side.mk ?_ ?_; · first | omega | decide)
      | (refine SideD.mk ?_ ?_; · first | omega | decide)
      | refine ⟨_, Nat.lt_succ_self _, To.refl (.inl ⟨rfl, ?_⟩)⟩
      | refine takeK_at9 hat ?_
      | refine QCallA.of h23 rfl rfl ?_
      | (refine Side.mk ?_ ?_; · exact ⟨by simp [fits], by intro c hc; simp at hc; rcases hc with rfl | rfl | rfl | rfl | rfl <;> rfl⟩)
      | (refine Side.mk ?_ ?_; · (simp only [if_true]; split <;> omega))
      | (refine Side.mk ?_ ?_; · ((repeat' apply And.intro) <;> first | omega | rfl | exact Nat.zero_le _ | (simp only [pcells_len, gcells_len]; done) | (simp only [fits]; omega) | (simp only [List.length_append, List.length_cons, List.length_nil, pcells_len, gcells_len, rep]; omega) | (repeat' first | exact pcells_scal _ | exact gcells_scal _ | exact scal_nil | apply scal_int | apply scal_bool | apply scal_take)))
      | (refine Side.mk ?_ ?_; · (simp; done))
      | fail
      )
  all_goals (conv => whnf)
  · refine CallA.lend [(0, false), (1, true), (2, true), (3, true), (4, true), (5, true)] (c29_at (s := { s with a := x' }) f fin hps hgs rfl rfl rfl rfl) rfl ⟨trivial, trivial, trivial, hpd, hgd, trivial⟩ rfl ?_
    rintro c H' ⟨rfl, rfl⟩
    refine ⟨⟨trivial, trivial, trivial, hpd, hgd, trivial⟩, ?_⟩
    (conv => whnf)
    exact RetA.gc [(0, false), (1, true), (2, true), (3, true), (4, true), (5, true)] rfl ⟨trivial, trivial, trivial, hpd, hgd, trivial⟩ (wHs_at (s := { s with a := x' }) f fin hps hgs rfl rfl rfl rfl rfl)
theorem a_take4_1_01 (t : Nat) (ht : t < 150) (s : St) (f : Int) (H : Inv t s) (k h w n : Int) (hk : 0 ≤ k ∧ k < 256) (hh : 0 ≤ h ∧ h < 256) (hw : 0 ≤ w ∧ w < 256) (hn : 0 ≤ n ∧ n < 256) (h6 : k % 6 = 4) (hps : s.ps = []) (hgs : bn s.gs = true) (g : Gra) (R : List AV) (hgm : g ∈ s.gs) (hat : List.drop (0 + ((s.gs.length : Int) - 1 - n % (s.gs.length : Int)).toNat * 9) (gcells s.gs) = g.av ++ R) (g3 : g.p.h = 2) (hq0 : 0 ≤ n % (s.gs.length : Int)) (hq1 : n % (s.gs.length : Int) < s.gs.length) :
  CallA Try.prog 10 [.ptr 0 0, .agg [.int .u8 k, .int .u8 h, .int .u8 w, .int .u8 n]] (wH s f) (ActK t f) := by
  refine callA_of ok10 (Nat.le_of_ble_eq_true rfl) ?_
  have hmin : IntKind.i64.min = -9223372036854775808 := rfl
  have hmax : IntKind.i64.max = 9223372036854775807 := rfl
  have t6 : k.tmod 6 = 4 := tm6 hk.1 h6
  have hpd := pcells_noLoc s.ps
  have hgd := gcells_noLoc s.gs
  have nps := H.np
  have ngs := H.ng
  have hm3 : h.tmod 3 = h % 3 := tm3 hh.1 rfl
  have hT := take_ok H.up.b (H.up.gs g hgm) hgm
  have h23 := c23 s.b g
  generalize s.b.take g = x' at hT h23
  have fin : Inv (t + 1) { s with b := x' } := { H.up with b := hT }
  obtain ⟨gw, ⟨g1, g2, g3', g4, g5⟩, gag, ge, gu⟩ := g
  have g3 : g3' = 2 := g3
  subst g3
  unfold wH
  rw [hps, hgs]
  repeat' ((conv => whnf); first
      | refine Branch.ofT rfl ?_
      | refine Branch.ofF rfl ?_
      | refine Branch.ofT (decide_eq_true t6) ?_
      | refine Branch.ofF (decide_eq_false (by rw [t6]; decide)) ?_
      | refine Branch.ofT (decide_eq_true (by omega)) ?_
      | (rw [hm3]; refine Side.mk ?_ ?_; · omega)
      | (rw [hmin, hmax]; refine Side.mk ?_ ?_; · omega)
      | refine Branch.dec (fun h => ?_) (fun h => ?_)
      | refine Branch.negdec (fun h => ?_) (fun h => ?_)
      | refine Branch.neg (fun h => ?_) (fun h => ?_)
      | refine Branch.mk (fun h => ?_) (fun h => ?_)
      | (refine Side.mk ?_ ?_; · first | omega | decide)
      | (refine SideD.mk ?_ ?_; · first | omega | decide)
      | refine ⟨_, Nat.lt_succ_self _, To.refl (.inl ⟨rfl, ?_⟩)⟩
      | refine takeK_at9 hat ?_
      | refine QCallA.of h23 rfl rfl ?_
      | (refine Side.mk ?_ ?_; · exact ⟨by simp [fits], by intro c hc; simp at hc; rcases hc with rfl | rfl | rfl | rfl | rfl <;> rfl⟩)
      | (refine Side.mk ?_ ?_; · (simp only [if_true]; split <;> omega))
      | (refine Side.mk ?_ ?_; · ((repeat' apply And.intro) <;> first | omega | rfl | exact Nat.zero_le _ | (simp only [pcells_len, gcells_len]; done) | (simp only [fits]; omega) | (simp only [List.length_append, List.length_cons, List.length_nil, pcells_len, gcells_len, rep]; omega) | (repeat' first | exact pcells_scal _ | exact gcells_scal _ | exact scal_nil | apply scal_int | apply scal_bool | apply scal_take)))
      | (refine Side.mk ?_ ?_; · (simp; done))
      | fail
      )
  all_goals (conv => whnf)
  · refine CallA.lend [(0, false), (1, true), (2, true), (3, true), (4, true), (5, true)] (c29_at (s := { s with b := x' }) (bp := false) (np := 0) (PC := []) f fin (by rw [hps]; rfl) hgs (by rw [hps]; rfl) rfl (by rw [hps]; rfl) rfl) rfl ⟨trivial, trivial, trivial, trivial, hgd, trivial⟩ rfl ?_
    rintro c H' ⟨rfl, rfl⟩
    refine ⟨⟨trivial, trivial, trivial, trivial, hgd, trivial⟩, ?_⟩
    (conv => whnf)
    exact RetA.gc [(0, false), (1, true), (2, true), (3, true), (4, true), (5, true)] rfl ⟨trivial, trivial, trivial, trivial, hgd, trivial⟩ (wHs_at (s := { s with b := x' }) (bp := false) (np := 0) (PC := []) f fin (by rw [hps]; rfl) hgs (by rw [hps]; rfl) rfl (by rw [hps]; rfl) rfl rfl)
theorem a_take4_1_11 (t : Nat) (ht : t < 150) (s : St) (f : Int) (H : Inv t s) (k h w n : Int) (hk : 0 ≤ k ∧ k < 256) (hh : 0 ≤ h ∧ h < 256) (hw : 0 ≤ w ∧ w < 256) (hn : 0 ≤ n ∧ n < 256) (h6 : k % 6 = 4) (hps : bn s.ps = true) (hgs : bn s.gs = true) (g : Gra) (R : List AV) (hgm : g ∈ s.gs) (hat : List.drop (0 + ((s.gs.length : Int) - 1 - n % (s.gs.length : Int)).toNat * 9) (gcells s.gs) = g.av ++ R) (g3 : g.p.h = 2) (hq0 : 0 ≤ n % (s.gs.length : Int)) (hq1 : n % (s.gs.length : Int) < s.gs.length) :
  CallA Try.prog 10 [.ptr 0 0, .agg [.int .u8 k, .int .u8 h, .int .u8 w, .int .u8 n]] (wH s f) (ActK t f) := by
  refine callA_of ok10 (Nat.le_of_ble_eq_true rfl) ?_
  have hmin : IntKind.i64.min = -9223372036854775808 := rfl
  have hmax : IntKind.i64.max = 9223372036854775807 := rfl
  have t6 : k.tmod 6 = 4 := tm6 hk.1 h6
  have hpd := pcells_noLoc s.ps
  have hgd := gcells_noLoc s.gs
  have nps := H.np
  have ngs := H.ng
  have hm3 : h.tmod 3 = h % 3 := tm3 hh.1 rfl
  have hT := take_ok H.up.b (H.up.gs g hgm) hgm
  have h23 := c23 s.b g
  generalize s.b.take g = x' at hT h23
  have fin : Inv (t + 1) { s with b := x' } := { H.up with b := hT }
  obtain ⟨gw, ⟨g1, g2, g3', g4, g5⟩, gag, ge, gu⟩ := g
  have g3 : g3' = 2 := g3
  subst g3
  unfold wH
  rw [hps, hgs]
  repeat' ((conv => whnf); first
      | refine Branch.ofT rfl ?_
      | refine Branch.ofF rfl ?_
      | refine Branch.ofT (decide_eq_true t6) ?_
      | refine Branch.ofF (decide_eq_false (by rw [t6]; decide)) ?_
      | refine Branch.ofT (decide_eq_true (by omega)) ?_
      | (rw [hm3]; refine Side.mk ?_ ?_; · omega)
      | (rw [hmin, hmax]; refine Side.mk ?_ ?_; · omega)
      | refine Branch.dec (fun h => ?_) (fun h => ?_)
      | refine Branch.negdec (fun h => ?_) (fun h => ?_)
      | refine Branch.neg (fun h => ?_) (fun h => ?_)
      | refine Branch.mk (fun h => ?_) (fun h => ?_)
      | (refine Side.mk ?_ ?_; · first | omega | decide)
      | (refine SideD.mk ?_ ?_; · first | omega | decide)
      | refine ⟨_, Nat.lt_succ_self _, To.refl (.inl ⟨rfl, ?_⟩)⟩
      | refine takeK_at9 hat ?_
      | refine QCallA.of h23 rfl rfl ?_
      | (refine Side.mk ?_ ?_; · exact ⟨by simp [fits], by intro c hc; simp at hc; rcases hc with rfl | rfl | rfl | rfl | rfl <;> rfl⟩)
      | (refine Side.mk ?_ ?_; · (simp only [if_true]; split <;> omega))
      | (refine Side.mk ?_ ?_; · ((repeat' apply And.intro) <;> first | omega | rfl | exact Nat.zero_le _ | (simp only [pcells_len, gcells_len]; done) | (simp only [fits]; omega) | (simp only [List.length_append, List.length_cons, List.length_nil, pcells_len, gcells_len, rep]; omega) | (repeat' first | exact pcells_scal _ | exact gcells_scal _ | exact scal_nil | apply scal_int | apply scal_bool | apply scal_take)))
      | (refine Side.mk ?_ ?_; · (simp; done))
      | fail
      )
  all_goals (conv => whnf)
  · refine CallA.lend [(0, false), (1, true), (2, true), (3, true), (4, true), (5, true)] (c29_at (s := { s with b := x' }) f fin hps hgs rfl rfl rfl rfl) rfl ⟨trivial, trivial, trivial, hpd, hgd, trivial⟩ rfl ?_
    rintro c H' ⟨rfl, rfl⟩
    refine ⟨⟨trivial, trivial, trivial, hpd, hgd, trivial⟩, ?_⟩
    (conv => whnf)
    exact RetA.gc [(0, false), (1, true), (2, true), (3, true), (4, true), (5, true)] rfl ⟨trivial, trivial, trivial, hpd, hgd, trivial⟩ (wHs_at (s := { s with b := x' }) f fin hps hgs rfl rfl rfl rfl rfl)
theorem a_take4_2_01 (t : Nat) (ht : t < 150) (s : St) (f : Int) (H : Inv t s) (k h w n : Int) (hk : 0 ≤ k ∧ k < 256) (hh : 0 ≤ h ∧ h < 256) (hw : 0 ≤ w ∧ w < 256) (hn : 0 ≤ n ∧ n < 256) (h6 : k % 6 = 4) (hps : s.ps = []) (hgs : bn s.gs = true) (g : Gra) (R : List AV) (hgm : g ∈ s.gs) (hat : List.drop (0 + ((s.gs.length : Int) - 1 - n % (s.gs.length : Int)).toNat * 9) (gcells s.gs) = g.av ++ R) (g3 : g.p.h = 3) (hq0 : 0 ≤ n % (s.gs.length : Int)) (hq1 : n % (s.gs.length : Int) < s.gs.length) :
  CallA Try.prog 10 [.ptr 0 0, .agg [.int .u8 k, .int .u8 h, .int .u8 w, .int .u8 n]] (wH s f) (ActK t f) := by
  refine callA_of ok10 (Nat.le_of_ble_eq_true rfl) ?_
  have hmin : IntKind.i64.min = -9223372036854775808 := rfl
  have hmax : IntKind.i64.max = 9223372036854775807 := rfl
  have t6 : k.tmod 6 = 4 := tm6 hk.1 h6
  have hpd := pcells_noLoc s.ps
  have hgd := gcells_noLoc s.gs
  have nps := H.np
  have ngs := H.ng
  have hm3 : h.tmod 3 = h % 3 := tm3 hh.1 rfl
  have hT := take_ok H.up.c (H.up.gs g hgm) hgm
  have h23 := c23 s.c g
  generalize s.c.take g = x' at hT h23
  have fin : Inv (t + 1) { s with c := x' } := { H.up with c := hT }
  obtain ⟨gw, ⟨g1, g2, g3', g4, g5⟩, gag, ge, gu⟩ := g
  have g3 : g3' = 3 := g3
  subst g3
  unfold wH
  rw [hps, hgs]
  repeat' ((conv => whnf); first
      | refine Branch.ofT rfl ?_
      | refine Branch.ofF rfl ?_
      | refine Branch.ofT (decide_eq_true t6) ?_
      | refine Branch.ofF (decide_eq_false (by rw [t6]; decide)) ?_
      | refine Branch.ofT (decide_eq_true (by omega)) ?_
      | (rw [hm3]; refine Side.mk ?_ ?_; · omega)
      | (rw [hmin, hmax]; refine Side.mk ?_ ?_; · omega)
      | refine Branch.dec (fun h => ?_) (fun h => ?_)
      | refine Branch.negdec (fun h => ?_) (fun h => ?_)
      | refine Branch.neg (fun h => ?_) (fun h => ?_)
      | refine Branch.mk (fun h => ?_) (fun h => ?_)
      | (refine Side.mk ?_ ?_; · first | omega | decide)
      | (refine SideD.mk ?_ ?_; · first | omega | decide)
      | refine ⟨_, Nat.lt_succ_self _, To.refl (.inl ⟨rfl, ?_⟩)⟩
      | refine takeK_at9 hat ?_
      | refine QCallA.of h23 rfl rfl ?_
      | (refine Side.mk ?_ ?_; · exact ⟨by simp [fits], by intro c hc; simp at hc; rcases hc with rfl | rfl | rfl | rfl | rfl <;> rfl⟩)
      | (refine Side.mk ?_ ?_; · (simp only [if_true]; split <;> omega))
      | (refine Side.mk ?_ ?_; · ((repeat' apply And.intro) <;> first | omega | rfl | exact Nat.zero_le _ | (simp only [pcells_len, gcells_len]; done) | (simp only [fits]; omega) | (simp only [List.length_append, List.length_cons, List.length_nil, pcells_len, gcells_len, rep]; omega) | (repeat' first | exact pcells_scal _ | exact gcells_scal _ | exact scal_nil | apply scal_int | apply scal_bool | apply scal_take)))
      | (refine Side.mk ?_ ?_; · (simp; done))
      | fail
      )
  all_goals (conv => whnf)
  · refine CallA.lend [(0, false), (1, true), (2, true), (3, true), (4, true), (5, true)] (c29_at (s := { s with c := x' }) (bp := false) (np := 0) (PC := []) f fin (by rw [hps]; rfl) hgs (by rw [hps]; rfl) rfl (by rw [hps]; rfl) rfl) rfl ⟨trivial, trivial, trivial, trivial, hgd, trivial⟩ rfl ?_
    rintro c H' ⟨rfl, rfl⟩
    refine ⟨⟨trivial, trivial, trivial, trivial, hgd, trivial⟩, ?_⟩
    (conv => whnf)
    exact RetA.gc [(0, false), (1, true), (2, true), (3, true), (4, true), (5, true)] rfl ⟨trivial, trivial, trivial, trivial, hgd, trivial⟩ (wHs_at (s := { s with c := x' }) (bp := false) (np := 0) (PC := []) f fin (by rw [hps]; rfl) hgs (by rw [hps]; rfl) rfl (by rw [hps]; rfl) rfl rfl)
theorem a_take4_2_11 (t : Nat) (ht : t < 150) (s : St) (f : Int) (H : Inv t s) (k h w n : Int) (hk : 0 ≤ k ∧ k < 256) (hh : 0 ≤ h ∧ h < 256) (hw : 0 ≤ w ∧ w < 256) (hn : 0 ≤ n ∧ n < 256) (h6 : k % 6 = 4) (hps : bn s.ps = true) (hgs : bn s.gs = true) (g : Gra) (R : List AV) (hgm : g ∈ s.gs) (hat : List.drop (0 + ((s.gs.length : Int) - 1 - n % (s.gs.length : Int)).toNat * 9) (gcells s.gs) = g.av ++ R) (g3 : g.p.h = 3) (hq0 : 0 ≤ n % (s.gs.length : Int)) (hq1 : n % (s.gs.length : Int) < s.gs.length) :
  CallA Try.prog 10 [.ptr 0 0, .agg [.int .u8 k, .int .u8 h, .int .u8 w, .int .u8 n]] (wH s f) (ActK t f) := by
  refine callA_of ok10 (Nat.le_of_ble_eq_true rfl) ?_
  have hmin : IntKind.i64.min = -9223372036854775808 := rfl
  have hmax : IntKind.i64.max = 9223372036854775807 := rfl
  have t6 : k.tmod 6 = 4 := tm6 hk.1 h6
  have hpd := pcells_noLoc s.ps
  have hgd := gcells_noLoc s.gs
  have nps := H.np
  have ngs := H.ng
  have hm3 : h.tmod 3 = h % 3 := tm3 hh.1 rfl
  have hT := take_ok H.up.c (H.up.gs g hgm) hgm
  have h23 := c23 s.c g
  generalize s.c.take g = x' at hT h23
  have fin : Inv (t + 1) { s with c := x' } := { H.up with c := hT }
  obtain ⟨gw, ⟨g1, g2, g3', g4, g5⟩, gag, ge, gu⟩ := g
  have g3 : g3' = 3 := g3
  subst g3
  unfold wH
  rw [hps, hgs]
  repeat' ((conv => whnf); first
      | refine Branch.ofT rfl ?_
      | refine Branch.ofF rfl ?_
      | refine Branch.ofT (decide_eq_true t6) ?_
      | refine Branch.ofF (decide_eq_false (by rw [t6]; decide)) ?_
      | refine Branch.ofT (decide_eq_true (by omega)) ?_
      | (rw [hm3]; refine Side.mk ?_ ?_; · omega)
      | (rw [hmin, hmax]; refine Side.mk ?_ ?_; · omega)
      | refine Branch.dec (fun h => ?_) (fun h => ?_)
      | refine Branch.negdec (fun h => ?_) (fun h => ?_)
      | refine Branch.neg (fun h => ?_) (fun h => ?_)
      | refine Branch.mk (fun h => ?_) (fun h => ?_)
      | (refine Side.mk ?_ ?_; · first | omega | decide)
      | (refine SideD.mk ?_ ?_; · first | omega | decide)
      | refine ⟨_, Nat.lt_succ_self _, To.refl (.inl ⟨rfl, ?_⟩)⟩
      | refine takeK_at9 hat ?_
      | refine QCallA.of h23 rfl rfl ?_
      | (refine Side.mk ?_ ?_; · exact ⟨by simp [fits], by intro c hc; simp at hc; rcases hc with rfl | rfl | rfl | rfl | rfl <;> rfl⟩)
      | (refine Side.mk ?_ ?_; · (simp only [if_true]; split <;> omega))
      | (refine Side.mk ?_ ?_; · ((repeat' apply And.intro) <;> first | omega | rfl | exact Nat.zero_le _ | (simp only [pcells_len, gcells_len]; done) | (simp only [fits]; omega) | (simp only [List.length_append, List.length_cons, List.length_nil, pcells_len, gcells_len, rep]; omega) | (repeat' first | exact pcells_scal _ | exact gcells_scal _ | exact scal_nil | apply scal_int | apply scal_bool | apply scal_take)))
      | (refine Side.mk ?_ ?_; · (simp; done))
      | fail
      )
  all_goals (conv => whnf)
  · refine CallA.lend [(0, false), (1, true), (2, true), (3, true), (4, true), (5, true)] (c29_at (s := { s with c := x' }) f fin hps hgs rfl rfl rfl rfl) rfl ⟨trivial, trivial, trivial, hpd, hgd, trivial⟩ rfl ?_
    rintro c H' ⟨rfl, rfl⟩
    refine ⟨⟨trivial, trivial, trivial, hpd, hgd, trivial⟩, ?_⟩
    (conv => whnf)
    exact RetA.gc [(0, false), (1, true), (2, true), (3, true), (4, true), (5, true)] rfl ⟨trivial, trivial, trivial, hpd, hgd, trivial⟩ (wHs_at (s := { s with c := x' }) f fin hps hgs rfl rfl rfl rfl rfl)
theorem a_take5_0_01 (t : Nat) (ht : t < 150) (s : St) (f : Int) (H : Inv t s) (k h w n : Int) (hk : 0 ≤ k ∧ k < 256) (hh : 0 ≤ h ∧ h < 256) (hw : 0 ≤ w ∧ w < 256) (hn : 0 ≤ n ∧ n < 256) (h6 : k % 6 = 5) (hps : s.ps = []) (hgs : bn s.gs = true) (g : Gra) (R : List AV) (hgm : g ∈ s.gs) (hat : List.drop (0 + ((s.gs.length : Int) - 1 - n % (s.gs.length : Int)).toNat * 9) (gcells s.gs) = g.av ++ R) (g3 : g.p.h = 1) (hq0 : 0 ≤ n % (s.gs.length : Int)) (hq1 : n % (s.gs.length : Int) < s.gs.length) :
  CallA Try.prog 10 [.ptr 0 0, .agg [.int .u8 k, .int .u8 h, .int .u8 w, .int .u8 n]] (wH s f) (ActK t f) := by
  refine callA_of ok10 (Nat.le_of_ble_eq_true rfl) ?_
  have hmin : IntKind.i64.min = -9223372036854775808 := rfl
  have hmax : IntKind.i64.max = 9223372036854775807 := rfl
  have t6 : k.tmod 6 = 5 := tm6 hk.1 h6
  have hpd := pcells_noLoc s.ps
  have hgd := gcells_noLoc s.gs
  have nps := H.np
  have ngs := H.ng
  have hm3 : h.tmod 3 = h % 3 := tm3 hh.1 rfl
  have hT := take_ok H.up.a (H.up.gs g hgm) hgm
  have h23 := c23 s.a g
  generalize s.a.take g = x' at hT h23
  have fin : Inv (t + 1) { s with a := x' } := { H.up with a := hT }
  obtain ⟨gw, ⟨g1, g2, g3', g4, g5⟩, gag, ge, gu⟩ := g
  have g3 : g3' = 1 := g3
  subst g3
  unfold wH
  rw [hps, hgs]
  repeat' ((conv => whnf); first
      | refine Branch.ofT rfl ?_
      | refine Branch.ofF rfl ?_
      | refine Branch.ofT (decide_eq_true t6) ?_
      | refine Branch.ofF (decide_eq_false (by rw [t6]; decide)) ?_
      | refine Branch.ofT (decide_eq_true (by omega)) ?_
      | (rw [hm3]; refine Side.mk ?_ ?_; · omega)
      | (rw [hmin, hmax]; refine Side.mk ?_ ?_; · omega)
      | refine Branch.dec (fun h => ?_) (fun h => ?_)
      | refine Branch.negdec (fun h => ?_) (fun h => ?_)
      | refine Branch.neg (fun h => ?_) (fun h => ?_)
      | refine Branch.mk (fun h => ?_) (fun h => ?_)
      | (refine Side.mk ?_ ?_; · first | omega | decide)
      | (refine SideD.mk ?_ ?_; · first | omega | decide)
      | refine ⟨_, Nat.lt_succ_self _, To.refl (.inl ⟨rfl, ?_⟩)⟩
      | refine takeK_at9 hat ?_
      | refine QCallA.of h23 rfl rfl ?_
      | (refine Side.mk ?_ ?_; · exact ⟨by simp [fits], by intro c hc; simp at hc; rcases hc with rfl | rfl | rfl | rfl | rfl <;> rfl⟩)
      | (refine Side.mk ?_ ?_; · (simp only [if_true]; split <;> omega))
      | (refine Side.mk ?_ ?_; · ((repeat' apply And.intro) <;> first | omega | rfl | exact Nat.zero_le _ | (simp only [pcells_len, gcells_len]; done) | (simp only [fits]; omega) | (simp only [List.length_append, List.length_cons, List.length_nil, pcells_len, gcells_len, rep]; omega) | (repeat' first | exact pcells_scal _ | exact gcells_scal _ | exact scal_nil | apply scal_int | apply scal_bool | apply scal_take)))
      | (refine Side.mk ?_ ?_; · (simp; done))
      | fail
      )
  all_goals (conv => whnf)
  · refine CallA.lend [(0, false), (1, true), (2, true), (3, true), (4, true), (5, true)] (c29_at (s := { s with a := x' }) (bp := false) (np := 0) (PC := []) f fin (by rw [hps]; rfl) hgs (by rw [hps]; rfl) rfl (by rw [hps]; rfl) rfl) rfl ⟨trivial, trivial, trivial, trivial, hgd, trivial⟩ rfl ?_
    rintro c H' ⟨rfl, rfl⟩
    refine ⟨⟨trivial, trivial, trivial, trivial, hgd, trivial⟩, ?_⟩
    (conv => whnf)
    exact RetA.gc [(0, false), (1, true), (2, true), (3, true), (4, true), (5, true)] rfl ⟨trivial, trivial, trivial, trivial, hgd, trivial⟩ (wHs_at (s := { s with a := x' }) (bp := false) (np := 0) (PC := []) f fin (by rw [hps]; rfl) hgs (by rw [hps]; rfl) rfl (by rw [hps]; rfl) rfl rfl)
theorem a_take5_0_11 (t : Nat) (ht : t < 150) (s : St) (f : Int) (H : Inv t s) (k h w n : Int) (hk : 0 ≤ k ∧ k < 256) (hh : 0 ≤ h ∧ h < 256) (hw : 0 ≤ w ∧ w < 256) (hn : 0 ≤ n ∧ n < 256) (h6 : k % 6 = 5) (hps : bn s.ps = true) (hgs : bn s.gs = true) (g : Gra) (R : List AV) (hgm : g ∈ s.gs) (hat : List.drop (0 + ((s.gs.length : Int) - 1 - n % (s.gs.length : Int)).toNat * 9) (gcells s.gs) = g.av ++ R) (g3 : g.p.h = 1) (hq0 : 0 ≤ n % (s.gs.length : Int)) (hq1 : n % (s.gs.length : Int) < s.gs.length) :
  CallA Try.prog 10 [.ptr 0 0, .agg [.int .u8 k, .int .u8 h, .int .u8 w, .int .u8 n]] (wH s f) (ActK t f) := by
  refine callA_of ok10 (Nat.le_of_ble_eq_true rfl) ?_
  have hmin : IntKind.i64.min = -9223372036854775808 := rfl
  have hmax : IntKind.i64.max = 9223372036854775807 := rfl
  have t6 : k.tmod 6 = 5 := tm6 hk.1 h6
  have hpd := pcells_noLoc s.ps
  have hgd := gcells_noLoc s.gs
  have nps := H.np
  have ngs := H.ng
  have hm3 : h.tmod 3 = h % 3 := tm3 hh.1 rfl
  have hT := take_ok H.up.a (H.up.gs g hgm) hgm
  have h23 := c23 s.a g
  generalize s.a.take g = x' at hT h23
  have fin : Inv (t + 1) { s with a := x' } := { H.up with a := hT }
  obtain ⟨gw, ⟨g1, g2, g3', g4, g5⟩, gag, ge, gu⟩ := g
  have g3 : g3' = 1 := g3
  subst g3
  unfold wH
  rw [hps, hgs]
  repeat' ((conv => whnf); first
      | refine Branch.ofT rfl ?_
      | refine Branch.ofF rfl ?_
      | refine Branch.ofT (decide_eq_true t6) ?_
      | refine Branch.ofF (decide_eq_false (by rw [t6]; decide)) ?_
      | refine Branch.ofT (decide_eq_true (by omega)) ?_
      | (rw [hm3]; refine Side.mk ?_ ?_; · omega)
      | (rw [hmin, hmax]; refine Side.mk ?_ ?_; · omega)
      | refine Branch.dec (fun h => ?_) (fun h => ?_)
      | refine Branch.negdec (fun h => ?_) (fun h => ?_)
      | refine Branch.neg (fun h => ?_) (fun h => ?_)
      | refine Branch.mk (fun h => ?_) (fun h => ?_)
      | (refine Side.mk ?_ ?_; · first | omega | decide)
      | (refine SideD.mk ?_ ?_; · first | omega | decide)
      | refine ⟨_, Nat.lt_succ_self _, To.refl (.inl ⟨rfl, ?_⟩)⟩
      | refine takeK_at9 hat ?_
      | refine QCallA.of h23 rfl rfl ?_
      | (refine Side.mk ?_ ?_; · exact ⟨by simp [fits], by intro c hc; simp at hc; rcases hc with rfl | rfl | rfl | rfl | rfl <;> rfl⟩)
      | (refine Side.mk ?_ ?_; · (simp only [if_true]; split <;> omega))
      | (refine Side.mk ?_ ?_; · ((repeat' apply And.intro) <;> first | omega | rfl | exact Nat.zero_le _ | (simp only [pcells_len, gcells_len]; done) | (simp only [fits]; omega) | (simp only [List.length_append, List.length_cons, List.length_nil, pcells_len, gcells_len, rep]; omega) | (repeat' first | exact pcells_scal _ | exact gcells_scal _ | exact scal_nil | apply scal_int | apply scal_bool | apply scal_take)))
      | (refine Side.mk ?_ ?_; · (simp; done))
      | fail
      )
  all_goals (conv => whnf)
  · refine CallA.lend [(0, false), (1, true), (2, true), (3, true), (4, true), (5, true)] (c29_at (s := { s with a := x' }) f fin hps hgs rfl rfl rfl rfl) rfl ⟨trivial, trivial, trivial, hpd, hgd, trivial⟩ rfl ?_
    rintro c H' ⟨rfl, rfl⟩
    refine ⟨⟨trivial, trivial, trivial, hpd, hgd, trivial⟩, ?_⟩
    (conv => whnf)
    exact RetA.gc [(0, false), (1, true), (2, true), (3, true), (4, true), (5, true)] rfl ⟨trivial, trivial, trivial, hpd, hgd, trivial⟩ (wHs_at (s := { s with a := x' }) f fin hps hgs rfl rfl rfl rfl rfl)
theorem a_take5_1_01 (t : Nat) (ht : t < 150) (s : St) (f : Int) (H : Inv t s) (k h w n : Int) (hk : 0 ≤ k ∧ k < 256) (hh : 0 ≤ h ∧ h < 256) (hw : 0 ≤ w ∧ w < 256) (hn : 0 ≤ n ∧ n < 256) (h6 : k % 6 = 5) (hps : s.ps = []) (hgs : bn s.gs = true) (g : Gra) (R : List AV) (hgm : g ∈ s.gs) (hat : List.drop (0 + ((s.gs.length : Int) - 1 - n % (s.gs.length : Int)).toNat * 9) (gcells s.gs) = g.av ++ R) (g3 : g.p.h = 2) (hq0 : 0 ≤ n % (s.gs.length : Int)) (hq1 : n % (s.gs.length : Int) < s.gs.length) :
  CallA Try.prog 10 [.ptr 0 0, .agg [.int .u8 k, .int .u8 h, .int .u8 w, .int .u8 n]] (wH s f) (ActK t f) := by
  refine callA_of ok10 (Nat.le_of_ble_eq_true rfl) ?_
  have hmin : IntKind.i64.min = -9223372036854775808 := rfl
  have hmax : IntKind.i64.max = 9223372036854775807 := rfl
  have t6 : k.tmod 6 = 5 := tm6 hk.1 h6
  have hpd := pcells_noLoc s.ps
  have hgd := gcells_noLoc s.gs
  have nps := H.np
  have ngs := H.ng
  have hm3 : h.tmod 3 = h % 3 := tm3 hh.1 rfl
  have hT := take_ok H.up.b (H.up.gs g hgm) hgm
  have h23 := c23 s.b g
  generalize s.b.take g = x' at hT h23
  have fin : Inv (t + 1) { s with b := x' } := { H.up with b := hT }
  obtain ⟨gw, ⟨g1, g2, g3', g4, g5⟩, gag, ge, gu⟩ := g
  have g3 : g3' = 2 := g3
  subst g3
  unfold wH
  rw [hps, hgs]
  repeat' ((conv => whnf); first
      | refine Branch.ofT rfl ?_
      | refine Branch.ofF rfl ?_
      | refine Branch.ofT (decide_eq_true t6) ?_
      | refine Branch.ofF (decide_eq_false (by rw [t6]; decide)) ?_
      | refine Branch.ofT (decide_eq_true (by omega)) ?_
      | (rw [hm3]; refine Side.mk ?_ ?_; · omega)
      | (rw [hmin, hmax]; refine Side.mk ?_ ?_; · omega)
      | refine Branch.dec (fun h => ?_) (fun h => ?_)
      | refine Branch.negdec (fun h => ?_) (fun h => ?_)
      | refine Branch.neg (fun h => ?_) (fun h => ?_)
      | refine Branch.mk (fun h => ?_) (fun h => ?_)
      | (refine Side.mk ?_ ?_; · first | omega | decide)
      | (refine SideD.mk ?_ ?_; · first | omega | decide)
      | refine ⟨_, Nat.lt_succ_self _, To.refl (.inl ⟨rfl, ?_⟩)⟩
      | refine takeK_at9 hat ?_
      | refine QCallA.of h23 rfl rfl ?_
      | (refine Side.mk ?_ ?_; · exact ⟨by simp [fits], by intro c hc; simp at hc; rcases hc with rfl | rfl | rfl | rfl | rfl <;> rfl⟩)
      | (refine Side.mk ?_ ?_; · (simp only [if_true]; split <;> omega))
      | (refine Side.mk ?_ ?_; · ((repeat' apply And.intro) <;> first | omega | rfl | exact Nat.zero_le _ | (simp only [pcells_len, gcells_len]; done) | (simp only [fits]; omega) | (simp only [List.length_append, List.length_cons, List.length_nil, pcells_len, gcells_len, rep]; omega) | (repeat' first | exact pcells_scal _ | exact gcells_scal _ | exact scal_nil | apply scal_int | apply scal_bool | apply scal_take)))
      | (refine Side.mk ?_ ?_; · (simp; done))
      | fail
      )
  all_goals (conv => whnf)
  · refine CallA.lend [(0, false), (1, true), (2, true), (3, true), (4, true), (5, true)] (c29_at (s := { s with b := x' }) (bp := false) (np := 0) (PC := []) f fin (by rw [hps]; rfl) hgs (by rw [hps]; rfl) rfl (by rw [hps]; rfl) rfl) rfl ⟨trivial, trivial, trivial, trivial, hgd, trivial⟩ rfl ?_
    rintro c H' ⟨rfl, rfl⟩
    refine ⟨⟨trivial, trivial, trivial, trivial, hgd, trivial⟩, ?_⟩
    (conv => whnf)
    exact RetA.gc [(0, false), (1, true), (2, true), (3, true), (4, true), (5, true)] rfl ⟨trivial, trivial, trivial, trivial, hgd, trivial⟩ (wHs_at (s := { s with b := x' }) (bp := false) (np := 0) (PC := []) f fin (by rw [hps]; rfl) hgs (by rw [hps]; rfl) rfl (by rw [hps]; rfl) rfl rfl)
theorem a_take5_1_11 (t : Nat) (ht : t < 150) (s : St) (f : Int) (H : Inv t s) (k h w n : Int) (hk : 0 ≤ k ∧ k < 256) (hh : 0 ≤ h ∧ h < 256) (hw : 0 ≤ w ∧ w < 256) (hn : 0 ≤ n ∧ n < 256) (h6 : k % 6 = 5) (hps : bn s.ps = true) (hgs : bn s.gs = true) (g : Gra) (R : List AV) (hgm : g ∈ s.gs) (hat : List.drop (0 + ((s.gs.length : Int) - 1 - n % (s.gs.length : Int)).toNat * 9) (gcells s.gs) = g.av ++ R) (g3 : g.p.h = 2) (hq0 : 0 ≤ n % (s.gs.length : Int)) (hq1 : n % (s.gs.length : Int) < s.gs.length) :
  CallA Try.prog 10 [.ptr 0 0, .agg [.int .u8 k, .int .u8 h, .int .u8 w, .int .u8 n]] (wH s f) (ActK t f) := by
  refine callA_of ok10 (Nat.le_of_ble_eq_true rfl) ?_
  have hmin : IntKind.i64.min = -9223372036854775808 := rfl
  have hmax : IntKind.i64.max = 9223372036854775807 := rfl
  have t6 : k.tmod 6 = 5 := tm6 hk.1 h6
  have hpd := pcells_noLoc s.ps
  have hgd := gcells_noLoc s.gs
  have nps := H.np
  have ngs := H.ng
  have hm3 : h.tmod 3 = h % 3 := tm3 hh.1 rfl
  have hT := take_ok H.up.b (H.up.gs g hgm) hgm
  have h23 := c23 s.b g
  generalize s.b.take g = x' at hT h23
  have fin : Inv (t + 1) { s with b := x' } := { H.up with b := hT }
  obtain ⟨gw, ⟨g1, g2, g3', g4, g5⟩, gag, ge, gu⟩ := g
  have g3 : g3' = 2 := g3
  subst g3
  unfold wH
  rw [hps, hgs]
  repeat' ((conv => whnf); first
      | refine Branch.ofT rfl ?_
      | refine Branch.ofF rfl ?_
      | refine Branch.ofT (decide_eq_true t6) ?_
      | refine Branch.ofF (decide_eq_false (by rw [t6]; decide)) ?_
      | refine Branch.ofT (decide_eq_true (by omega)) ?_
      | (rw [hm3]; refine Side.mk ?_ ?_; · omega)
      | (rw [hmin, hmax]; refine Side.mk ?_ ?_; · omega)
      | refine Branch.dec (fun h => ?_) (fun h => ?_)
      | refine Branch.negdec (fun h => ?_) (fun h => ?_)
      | refine Branch.neg (fun h => ?_) (fun h => ?_)
      | refine Branch.mk (fun h => ?_) (fun h => ?_)
      | (refine Side.mk ?_ ?_; · first | omega | decide)
      | (refine SideD.mk ?_ ?_; · first | omega | decide)
      | refine ⟨_, Nat.lt_succ_self _, To.refl (.inl ⟨rfl, ?_⟩)⟩
      | refine takeK_at9 hat ?_
      | refine QCallA.of h23 rfl rfl ?_
      | (refine Side.mk ?_ ?_; · exact ⟨by simp [fits], by intro c hc; simp at hc; rcases hc with rfl | rfl | rfl | rfl | rfl <;> rfl⟩)
      | (refine Side.mk ?_ ?_; · (simp only [if_true]; split <;> omega))
      | (refine Side.mk ?_ ?_; · ((repeat' apply And.intro) <;> first | omega | rfl | exact Nat.zero_le _ | (simp only [pcells_len, gcells_len]; done) | (simp only [fits]; omega) | (simp only [List.length_append, List.length_cons, List.length_nil, pcells_len, gcells_len, rep]; omega) | (repeat' first | exact pcells_scal _ | exact gcells_scal _ | exact scal_nil | apply scal_int | apply scal_bool | apply scal_take)))
      | (refine Side.mk ?_ ?_; · (simp; done))
      | fail
      )
  all_goals (conv => whnf)
  · refine CallA.lend [(0, false), (1, true), (2, true), (3, true), (4, true), (5, true)] (c29_at (s := { s with b := x' }) f fin hps hgs rfl rfl rfl rfl) rfl ⟨trivial, trivial, trivial, hpd, hgd, trivial⟩ rfl ?_
    rintro c H' ⟨rfl, rfl⟩
    refine ⟨⟨trivial, trivial, trivial, hpd, hgd, trivial⟩, ?_⟩
    (conv => whnf)
    exact RetA.gc [(0, false), (1, true), (2, true), (3, true), (4, true), (5, true)] rfl ⟨trivial, trivial, trivial, hpd, hgd, trivial⟩ (wHs_at (s := { s with b := x' }) f fin hps hgs rfl rfl rfl rfl rfl)
theorem a_take5_2_01 (t : Nat) (ht : t < 150) (s : St) (f : Int) (H : Inv t s) (k h w n : Int) (hk : 0 ≤ k ∧ k < 256) (hh : 0 ≤ h ∧ h < 256) (hw : 0 ≤ w ∧ w < 256) (hn : 0 ≤ n ∧ n < 256) (h6 : k % 6 = 5) (hps : s.ps = []) (hgs : bn s.gs = true) (g : Gra) (R : List AV) (hgm : g ∈ s.gs) (hat : List.drop (0 + ((s.gs.length : Int) - 1 - n % (s.gs.length : Int)).toNat * 9) (gcells s.gs) = g.av ++ R) (g3 : g.p.h = 3) (hq0 : 0 ≤ n % (s.gs.length : Int)) (hq1 : n % (s.gs.length : Int) < s.gs.length) :
  CallA Try.prog 10 [.ptr 0 0, .agg [.int .u8 k, .int .u8 h, .int .u8 w, .int .u8 n]] (wH s f) (ActK t f) := by
  refine callA_of ok10 (Nat.le_of_ble_eq_true rfl) ?_
  have hmin : IntKind.i64.min = -9223372036854775808 := rfl
  have hmax : IntKind.i64.max = 9223372036854775807 := rfl
  have t6 : k.tmod 6 = 5 := tm6 hk.1 h6
  have hpd := pcells_noLoc s.ps
  have hgd := gcells_noLoc s.gs
  have nps := H.np
  have ngs := H.ng
  have hm3 : h.tmod 3 = h % 3 := tm3 hh.1 rfl
  have hT := take_ok H.up.c (H.up.gs g hgm) hgm
  have h23 := c23 s.c g
  generalize s.c.take g = x' at hT h23
  have fin : Inv (t + 1) { s with c := x' } := { H.up with c := hT }
  obtain ⟨gw, ⟨g1, g2, g3', g4, g5⟩, gag, ge, gu⟩ := g
  have g3 : g3' = 3 := g3
  subst g3
  unfold wH
  rw [hps, hgs]
  repeat' ((conv => whnf); first
      | refine Branch.ofT rfl ?_
      | refine Branch.ofF rfl ?_
      | refine Branch.ofT (decide_eq_true t6) ?_
      | refine Branch.ofF (decide_eq_false (by rw [t6]; decide)) ?_
      | refine Branch.ofT (decide_eq_true (by omega)) ?_
      | (rw [hm3]; refine Side.mk ?_ ?_; · omega)
      | (rw [hmin, hmax]; refine Side.mk ?_ ?_; · omega)
      | refine Branch.dec (fun h => ?_) (fun h => ?_)
      | refine Branch.negdec (fun h => ?_) (fun h => ?_)
      | refine Branch.neg (fun h => ?_) (fun h => ?_)
      | refine Branch.mk (fun h => ?_) (fun h => ?_)
      | (refine Side.mk ?_ ?_; · first | omega | decide)
      | (refine SideD.mk ?_ ?_; · first | omega | decide)
      | refine ⟨_, Nat.lt_succ_self _, To.refl (.inl ⟨rfl, ?_⟩)⟩
      | refine takeK_at9 hat ?_
      | refine QCallA.of h23 rfl rfl ?_
      | (refine Side.mk ?_ ?_; · exact ⟨by simp [fits], by intro c hc; simp at hc; rcases hc with rfl | rfl | rfl | rfl | rfl <;> rfl⟩)
      | (refine Side.mk ?_ ?_; · (simp only [if_true]; split <;> omega))
      | (refine Side.mk ?_ ?_; · ((repeat' apply And.intro) <;> first | omega | rfl | exact Nat.zero_le _ | (simp only [pcells_len, gcells_len]; done) | (simp only [fits]; omega) | (simp only [List.length_append, List.length_cons, List.length_nil, pcells_len, gcells_len, rep]; omega) | (repeat' first | exact pcells_scal _ | exact gcells_scal _ | exact scal_nil | apply scal_int | apply scal_bool | apply scal_take)))
      | (refine Side.mk ?_ ?_; · (simp; done))
      | fail
      )
  all_goals (conv => whnf)
  · refine CallA.lend [(0, false), (1, true), (2, true), (3, true), (4, true), (5, true)] (c29_at (s := { s with c := x' }) (bp := false) (np := 0) (PC := []) f fin (by rw [hps]; rfl) hgs (by rw [hps]; rfl) rfl (by rw [hps]; rfl) rfl) rfl ⟨trivial, trivial, trivial, trivial, hgd, trivial⟩ rfl ?_
    rintro c H' ⟨rfl, rfl⟩
    refine ⟨⟨trivial, trivial, trivial, trivial, hgd, trivial⟩, ?_⟩
    (conv => whnf)
    exact RetA.gc [(0, false), (1, true), (2, true), (3, true), (4, true), (5, true)] rfl ⟨trivial, trivial, trivial, trivial, hgd, trivial⟩ (wHs_at (s := { s with c := x' }) (bp := false) (np := 0) (PC := []) f fin (by rw [hps]; rfl) hgs (by rw [hps]; rfl) rfl (by rw [hps]; rfl) rfl rfl)
theorem a_take5_2_11 (t : Nat) (ht : t < 150) (s : St) (f : Int) (H : Inv t s) (k h w n : Int) (hk : 0 ≤ k ∧ k < 256) (hh : 0 ≤ h ∧ h < 256) (hw : 0 ≤ w ∧ w < 256) (hn : 0 ≤ n ∧ n < 256) (h6 : k % 6 = 5) (hps : bn s.ps = true) (hgs : bn s.gs = true) (g : Gra) (R : List AV) (hgm : g ∈ s.gs) (hat : List.drop (0 + ((s.gs.length : Int) - 1 - n % (s.gs.length : Int)).toNat * 9) (gcells s.gs) = g.av ++ R) (g3 : g.p.h = 3) (hq0 : 0 ≤ n % (s.gs.length : Int)) (hq1 : n % (s.gs.length : Int) < s.gs.length) :
  CallA Try.prog 10 [.ptr 0 0, .agg [.int .u8 k, .int .u8 h, .int .u8 w, .int .u8 n]] (wH s f) (ActK t f) := by
  refine callA_of ok10 (Nat.le_of_ble_eq_true rfl) ?_
  have hmin : IntKind.i64.min = -9223372036854775808 := rfl
  have hmax : IntKind.i64.max = 9223372036854775807 := rfl
  have t6 : k.tmod 6 = 5 := tm6 hk.1 h6
  have hpd := pcells_noLoc s.ps
  have hgd := gcells_noLoc s.gs
  have nps := H.np
  have ngs := H.ng
  have hm3 : h.tmod 3 = h % 3 := tm3 hh.1 rfl
  have hT := take_ok H.up.c (H.up.gs g hgm) hgm
  have h23 := c23 s.c g
  generalize s.c.take g = x' at hT h23
  have fin : Inv (t + 1) { s with c := x' } := { H.up with c := hT }
  obtain ⟨gw, ⟨g1, g2, g3', g4, g5⟩, gag, ge, gu⟩ := g
  have g3 : g3' = 3 := g3
  subst g3
  unfold wH
  rw [hps, hgs]
  repeat' ((conv => whnf); first
      | refine Branch.ofT rfl ?_
      | refine Branch.ofF rfl ?_
      | refine Branch.ofT (decide_eq_true t6) ?_
      | refine Branch.ofF (decide_eq_false (by rw [t6]; decide)) ?_
      | refine Branch.ofT (decide_eq_true (by omega)) ?_
      | (rw [hm3]; refine Side.mk ?_ ?_; · omega)
      | (rw [hmin, hmax]; refine Side.mk ?_ ?_; · omega)
      | refine Branch.dec (fun h => ?_) (fun h => ?_)
      | refine Branch.negdec (fun h => ?_) (fun h => ?_)
      | refine Branch.neg (fun h => ?_) (fun h => ?_)
      | refine Branch.mk (fun h => ?_) (fun h => ?_)
      | (refine Side.mk ?_ ?_; · first | omega | decide)
      | (refine SideD.mk ?_ ?_; · first | omega | decide)
      | refine ⟨_, Nat.lt_succ_self _, To.refl (.inl ⟨rfl, ?_⟩)⟩
      | refine takeK_at9 hat ?_
      | refine QCallA.of h23 rfl rfl ?_
      | (refine Side.mk ?_ ?_; · exact ⟨by simp [fits], by intro c hc; simp at hc; rcases hc with rfl | rfl | rfl | rfl | rfl <;> rfl⟩)
      | (refine Side.mk ?_ ?_; · (simp only [if_true]; split <;> omega))
      | (refine Side.mk ?_ ?_; · ((repeat' apply And.intro) <;> first | omega | rfl | exact Nat.zero_le _ | (simp only [pcells_len, gcells_len]; done) | (simp only [fits]; omega) | (simp only [List.length_append, List.length_cons, List.length_nil, pcells_len, gcells_len, rep]; omega) | (repeat' first | exact pcells_scal _ | exact gcells_scal _ | exact scal_nil | apply scal_int | apply scal_bool | apply scal_take)))
      | (refine Side.mk ?_ ?_; · (simp; done))
      | fail
      )
  all_goals (conv => whnf)
  · refine CallA.lend [(0, false), (1, true), (2, true), (3, true), (4, true), (5, true)] (c29_at (s := { s with c := x' }) f fin hps hgs rfl rfl rfl rfl) rfl ⟨trivial, trivial, trivial, hpd, hgd, trivial⟩ rfl ?_
    rintro c H' ⟨rfl, rfl⟩
    refine ⟨⟨trivial, trivial, trivial, hpd, hgd, trivial⟩, ?_⟩
    (conv => whnf)
    exact RetA.gc [(0, false), (1, true), (2, true), (3, true), (4, true), (5, true)] rfl ⟨trivial, trivial, trivial, hpd, hgd, trivial⟩ (wHs_at (s := { s with c := x' }) f fin hps hgs rfl rfl rfl rfl rfl)
theorem a_take4_0_00 (t : Nat) (ht : t < 150) (s : St) (f : Int) (H : Inv t s) (k h w n : Int) (hk : 0 ≤ k ∧ k < 256) (hh : 0 ≤ h ∧ h < 256) (hw : 0 ≤ w ∧ w < 256) (hn : 0 ≤ n ∧ n < 256) (h6 : k % 6 = 4) (hps : s.ps = []) (hgs : s.gs = []) :
  CallA Try.prog 10 [.ptr 0 0, .agg [.int .u8 k, .int .u8 h, .int .u8 w, .int .u8 n]] (wH s f) (ActK t f) := by
  refine callA_of ok10 (Nat.le_of_ble_eq_true rfl) ?_
  have hmin : IntKind.i64.min = -9223372036854775808 := rfl
  have hmax : IntKind.i64.max = 9223372036854775807 := rfl
  have t6 : k.tmod 6 = 4 := tm6 hk.1 h6
  have hpd := pcells_noLoc s.ps
  have hgd := gcells_noLoc s.gs
  have nps := H.np
  have ngs := H.ng
  have hm3 : h.tmod 3 = h % 3 := tm3 hh.1 rfl
  unfold wH
  rw [hps, hgs]
  repeat' ((conv => whnf); first
      | refine Branch.ofT rfl ?_
      | refine Branch.ofF rfl ?_
      | refine Branch.ofT (decide_eq_true t6) ?_
      | refine Branch.ofF (decide_eq_false (by rw [t6]; decide)) ?_
      | refine Branch.ofT (decide_eq_true (by omega)) ?_
      | (rw [hm3]; refine Side.mk ?_ ?_; · omega)
      | (rw [hmin, hmax]; refine Side.mk ?_ ?_; · omega)
      | refine Branch.dec (fun h => ?_) (fun h => ?_)
      | refine Branch.negdec (fun h => ?_) (fun h => ?_)
      | refine Branch.neg (fun h => ?_) (fun h => ?_)
      | refine Branch.mk (fun h => ?_) (fun h => ?_)
      | (refine Side.mk ?_ ?_; · first | omega | decide)
      | (refine SideD.mk ?_ ?_; · first | omega | decide)
      | refine ⟨_, Nat.lt_succ_self _, To.refl (.inl ⟨rfl, ?_⟩)⟩
      | refine takeK_at9 hat ?_
      | refine QCallA.of h23 rfl rfl ?_
      | (refine Side.mk ?_ ?_; · exact ⟨by simp [fits], by intro c hc; simp at hc; rcases hc with rfl | rfl | rfl | rfl | rfl <;> rfl⟩)
      | (refine Side.mk ?_ ?_; · (simp only [if_true]; split <;> omega))
      | (refine Side.mk ?_ ?_; · ((repeat' apply And.intro) <;> first | omega | rfl | exact Nat.zero_le _ | (simp only [pcells_len, gcells_len]; done) | (simp only [fits]; omega) | (simp only [List.length_append, List.length_cons, List.length_nil, pcells_len, gcells_len, rep]; omega) | (repeat' first | exact pcells_scal _ | exact gcells_scal _ | exact scal_nil | apply scal_int | apply scal_bool | apply scal_take)))
      | (refine Side.mk ?_ ?_; · (simp; done))
      | fail
      )
  all_goals (conv => whnf)
  · refine CallA.lend [(0, false), (1, true), (2, true), (3, true), (4, true), (5, true)] (c29_at (s := s) (bp := false) (np := 0) (PC := []) (bg := false) (ng := 0) (GC := []) f H.up (by rw [hps]; rfl) (by rw [hgs]; rfl) (by rw [hps]; rfl) (by rw [hgs]; rfl) (by rw [hps]; rfl) (by rw [hgs]; rfl)) rfl ⟨trivial, trivial, trivial, trivial, trivial, trivial⟩ rfl ?_
    rintro c H' ⟨rfl, rfl⟩
    refine ⟨⟨trivial, trivial, trivial, trivial, trivial, trivial⟩, ?_⟩
    (conv => whnf)
    exact RetA.gc [(0, false), (1, true), (2, true), (3, true), (4, true), (5, true)] rfl ⟨trivial, trivial, trivial, trivial, trivial, trivial⟩ (wHs_at (s := s) (bp := false) (np := 0) (PC := []) (bg := false) (ng := 0) (GC := []) f H.up (by rw [hps]; rfl) (by rw [hgs]; rfl) (by rw [hps]; rfl) (by rw [hgs]; rfl) (by rw [hps]; rfl) (by rw [hgs]; rfl) rfl)
theorem a_take4_0_10 (t : Nat) (ht : t < 150) (s : St) (f : Int) (H : Inv t s) (k h w n : Int) (hk : 0 ≤ k ∧ k < 256) (hh : 0 ≤ h ∧ h < 256) (hw : 0 ≤ w ∧ w < 256) (hn : 0 ≤ n ∧ n < 256) (h6 : k % 6 = 4) (hps : bn s.ps = true) (hgs : s.gs = []) :
  CallA Try.prog 10 [.ptr 0 0, .agg [.int .u8 k, .int .u8 h, .int .u8 w, .int .u8 n]] (wH s f) (ActK t f) := by
  refine callA_of ok10 (Nat.le_of_ble_eq_true rfl) ?_
  have hmin : IntKind.i64.min = -9223372036854775808 := rfl
  have hmax : IntKind.i64.max = 9223372036854775807 := rfl
  have t6 : k.tmod 6 = 4 := tm6 hk.1 h6
  have hpd := pcells_noLoc s.ps
  have hgd := gcells_noLoc s.gs
  have nps := H.np
  have ngs := H.ng
  have hm3 : h.tmod 3 = h % 3 := tm3 hh.1 rfl
  unfold wH
  rw [hps, hgs]
  repeat' ((conv => whnf); first
      | refine Branch.ofT rfl ?_
      | refine Branch.ofF rfl ?_
      | refine Branch.ofT (decide_eq_true t6) ?_
      | refine Branch.ofF (decide_eq_false (by rw [t6]; decide)) ?_
      | refine Branch.ofT (decide_eq_true (by omega)) ?_
      | (rw [hm3]; refine Side.mk ?_ ?_; · omega)
      | (rw [hmin, hmax]; refine Side.mk ?_ ?_; · omega)
      | refine Branch.dec (fun h => ?_) (fun h => ?_)
      | refine Branch.negdec (fun h => ?_) (fun h => ?_)
      | refine Branch.neg (fun h => ?_) (fun h => ?_)
      | refine Branch.mk (fun h => ?_) (fun h => ?_)
      | (refine Side.mk ?_ ?_; · first | omega | decide)
      | (refine SideD.mk ?_ ?_; · first | omega | decide)
      | refine ⟨_, Nat.lt_succ_self _, To.refl (.inl ⟨rfl, ?_⟩)⟩
      | refine takeK_at9 hat ?_
      | refine QCallA.of h23 rfl rfl ?_
      | (refine Side.mk ?_ ?_; · exact ⟨by simp [fits], by intro c hc; simp at hc; rcases hc with rfl | rfl | rfl | rfl | rfl <;> rfl⟩)
      | (refine Side.mk ?_ ?_; · (simp only [if_true]; split <;> omega))
      | (refine Side.mk ?_ ?_; · ((repeat' apply And.intro) <;> first | omega | rfl | exact Nat.zero_le _ | (simp only [pcells_len, gcells_len]; done) | (simp only [fits]; omega) | (simp only [List.length_append, List.length_cons, List.length_nil, pcells_len, gcells_len, rep]; omega) | (repeat' first | exact pcells_scal _ | exact gcells_scal _ | exact scal_nil | apply scal_int | apply scal_bool | apply scal_take)))
      | (refine Side.mk ?_ ?_; · (simp; done))
      | fail
      )
  all_goals (conv => whnf)
  · refine CallA.lend [(0, false), (1, true), (2, true), (3, true), (4, true), (5, true)] (c29_at (s := s) (bg := false) (ng := 0) (GC := []) f H.up hps (by rw [hgs]; rfl) rfl (by rw [hgs]; rfl) rfl (by rw [hgs]; rfl)) rfl ⟨trivial, trivial, trivial, hpd, trivial, trivial⟩ rfl ?_
    rintro c H' ⟨rfl, rfl⟩
    refine ⟨⟨trivial, trivial, trivial, hpd, trivial, trivial⟩, ?_⟩
    (conv => whnf)
    exact RetA.gc [(0, false), (1, true), (2, true), (3, true), (4, true), (5, true)] rfl ⟨trivial, trivial, trivial, hpd, trivial, trivial⟩ (wHs_at (s := s) (bg := false) (ng := 0) (GC := []) f H.up hps (by rw [hgs]; rfl) rfl (by rw [hgs]; rfl) rfl (by rw [hgs]; rfl) rfl)
theorem a_take5_0_00 (t : Nat) (ht : t < 150) (s : St) (f : Int) (H : Inv t s) (k h w n : Int) (hk : 0 ≤ k ∧ k < 256) (hh : 0 ≤ h ∧ h < 256) (hw : 0 ≤ w ∧ w < 256) (hn : 0 ≤ n ∧ n < 256) (h6 : k % 6 = 5) (hps : s.ps = []) (hgs : s.gs = []) :
  CallA Try.prog 10 [.ptr 0 0, .agg [.int .u8 k, .int .u8 h, .int .u8 w, .int .u8 n]] (wH s f) (ActK t f) := by
  refine callA_of ok10 (Nat.le_of_ble_eq_true rfl) ?_
  have hmin : IntKind.i64.min = -9223372036854775808 := rfl
  have hmax : IntKind.i64.max = 9223372036854775807 := rfl
  have t6 : k.tmod 6 = 5 := tm6 hk.1 h6
  have hpd := pcells_noLoc s.ps
  have hgd := gcells_noLoc s.gs
  have nps := H.np
  have ngs := H.ng
  have hm3 : h.tmod 3 = h % 3 := tm3 hh.1 rfl
  unfold wH
  rw [hps, hgs]
  repeat' ((conv => whnf); first
      | refine Branch.ofT rfl ?_
      | refine Branch.ofF rfl ?_
      | refine Branch.ofT (decide_eq_true t6) ?_
      | refine Branch.ofF (decide_eq_false (by rw [t6]; decide)) ?_
      | refine Branch.ofT (decide_eq_true (by omega)) ?_
      | (rw [hm3]; refine Side.mk ?_ ?_; · omega)
      | (rw [hmin, hmax]; refine Side.mk ?_ ?_; · omega)
      | refine Branch.dec (fun h => ?_) (fun h => ?_)
      | refine Branch.negdec (fun h => ?_) (fun h => ?_)
      | refine Branch.neg (fun h => ?_) (fun h => ?_)
      | refine Branch.mk (fun h => ?_) (fun h => ?_)
      | (refine Side.mk ?_ ?_; · first | omega | decide)
      | (refine SideD.mk ?_ ?_; · first | omega | decide)
      | refine ⟨_, Nat.lt_succ_self _, To.refl (.inl ⟨rfl, ?_⟩)⟩
      | refine takeK_at9 hat ?_
      | refine QCallA.of h23 rfl rfl ?_
      | (refine Side.mk ?_ ?_; · exact ⟨by simp [fits], by intro c hc; simp at hc; rcases hc with rfl | rfl | rfl | rfl | rfl <;> rfl⟩)
      | (refine Side.mk ?_ ?_; · (simp only [if_true]; split <;> omega))
      | (refine Side.mk ?_ ?_; · ((repeat' apply And.intro) <;> first | omega | rfl | exact Nat.zero_le _ | (simp only [pcells_len, gcells_len]; done) | (simp only [fits]; omega) | (simp only [List.length_append, List.length_cons, List.length_nil, pcells_len, gcells_len, rep]; omega) | (repeat' first | exact pcells_scal _ | exact gcells_scal _ | exact scal_nil | apply scal_int | apply scal_bool | apply scal_take)))
      | (refine Side.mk ?_ ?_; · (simp; done))
      | fail
      )
  all_goals (conv => whnf)
  · refine CallA.lend [(0, false), (1, true), (2, true), (3, true), (4, true), (5, true)] (c29_at (s := s) (bp := false) (np := 0) (PC := []) (bg := false) (ng := 0) (GC := []) f H.up (by rw [hps]; rfl) (by rw [hgs]; rfl) (by rw [hps]; rfl) (by rw [hgs]; rfl) (by rw [hps]; rfl) (by rw [hgs]; rfl)) rfl ⟨trivial, trivial, trivial, trivial, trivial, trivial⟩ rfl ?_
    rintro c H' ⟨rfl, rfl⟩
    refine ⟨⟨trivial, trivial, trivial, trivial, trivial, trivial⟩, ?_⟩
    (conv => whnf)
    exact RetA.gc [(0, false), (1, true), (2, true), (3, true), (4, true), (5, true)] rfl ⟨trivial, trivial, trivial, trivial, trivial, trivial⟩ (wHs_at (s := s) (bp := false) (np := 0) (PC := []) (bg := false) (ng := 0) (GC := []) f H.up (by rw [hps]; rfl) (by rw [hgs]; rfl) (by rw [hps]; rfl) (by rw [hgs]; rfl) (by rw [hps]; rfl) (by rw [hgs]; rfl) rfl)
theorem a_take5_0_10 (t : Nat) (ht : t < 150) (s : St) (f : Int) (H : Inv t s) (k h w n : Int) (hk : 0 ≤ k ∧ k < 256) (hh : 0 ≤ h ∧ h < 256) (hw : 0 ≤ w ∧ w < 256) (hn : 0 ≤ n ∧ n < 256) (h6 : k % 6 = 5) (hps : bn s.ps = true) (hgs : s.gs = []) :
  CallA Try.prog 10 [.ptr 0 0, .agg [.int .u8 k, .int .u8 h, .int .u8 w, .int .u8 n]] (wH s f) (ActK t f) := by
  refine callA_of ok10 (Nat.le_of_ble_eq_true rfl) ?_
  have hmin : IntKind.i64.min = -9223372036854775808 := rfl
  have hmax : IntKind.i64.max = 9223372036854775807 := rfl
  have t6 : k.tmod 6 = 5 := tm6 hk.1 h6
  have hpd := pcells_noLoc s.ps
  have hgd := gcells_noLoc s.gs
  have nps := H.np
  have ngs := H.ng
  have hm3 : h.tmod 3 = h % 3 := tm3 hh.1 rfl
  unfold wH
  rw [hps, hgs]
  repeat' ((conv => whnf); first
      | refine Branch.ofT rfl ?_
      | refine Branch.ofF rfl ?_
      | refine Branch.ofT (decide_eq_true t6) ?_
      | refine Branch.ofF (decide_eq_false (by rw [t6]; decide)) ?_
      | refine Branch.ofT (decide_eq_true (by omega)) ?_
      | (rw [hm3]; refine Side.mk ?_ ?_; · omega)
      | (rw [hmin, hmax]; refine Side.mk ?_ ?_; · omega)
      | refine Branch.dec (fun h => ?_) (fun h => ?_)
      | refine Branch.negdec (fun h => ?_) (fun h => ?_)
      | refine Branch.neg (fun h => ?_) (fun h => ?_)
      | refine Branch.mk (fun h => ?_) (fun h => ?_)
      | (refine Side.mk ?_ ?_; · first | omega | decide)
      | (refine SideD.mk ?_ ?_; · first | omega | decide)
      | refine ⟨_, Nat.lt_succ_self _, To.refl (.inl ⟨rfl, ?_⟩)⟩
      | refine takeK_at9 hat ?_
      | refine QCallA.of h23 rfl rfl ?_
      | (refine Side.mk ?_ ?_; · exact ⟨by simp [fits], by intro c hc; simp at hc; rcases hc with rfl | rfl | rfl | rfl | rfl <;> rfl⟩)
      | (refine Side.mk ?_ ?_; · (simp only [if_true]; split <;> omega))
      | (refine Side.mk ?_ ?_; · ((repeat' apply And.intro) <;> first | omega | rfl | exact Nat.zero_le _ | (simp only [pcells_len, gcells_len]; done) | (simp only [fits]; omega) | (simp only [List.length_append, List.length_cons, List.length_nil, pcells_len, gcells_len, rep]; omega) | (repeat' first | exact pcells_scal _ | exact gcells_scal _ | exact scal_nil | apply scal_int | apply scal_bool | apply scal_take)))
      | (refine Side.mk ?_ ?_; · (simp; done))
      | fail
      )
  all_goals (conv => whnf)
  · refine CallA.lend [(0, false), (1, true), (2, true), (3, true), (4, true), (5, true)] (c29_at (s := s) (bg := false) (ng := 0) (GC := []) f H.up hps (by rw [hgs]; rfl) rfl (by rw [hgs]; rfl) rfl (by rw [hgs]; rfl)) rfl ⟨trivial, trivial, trivial, hpd, trivial, trivial⟩ rfl ?_
    rintro c H' ⟨rfl, rfl⟩
    refine ⟨⟨trivial, trivial, trivial, hpd, trivial, trivial⟩, ?_⟩
    (conv => whnf)
    exact RetA.gc [(0, false), (1, true), (2, true), (3, true), (4, true), (5, true)] rfl ⟨trivial, trivial, trivial, hpd, trivial, trivial⟩ (wHs_at (s := s) (bg := false) (ng := 0) (GC := []) f H.up hps (by rw [hgs]; rfl) rfl (by rw [hgs]; rfl) rfl (by rw [hgs]; rfl) rfl)
end Go.Proofs

namespace Go.Proofs
open Go Go.Eng
set_option maxRecDepth 100000
/-- One act keeps the world right. -/
theorem c10 (t : Nat) (ht : t < 150) (s : St) (f : Int) (H : Inv t s) (k h w n : Int) (hk : 0 ≤ k ∧ k < 256) (hh : 0 ≤ h ∧ h < 256) (hw : 0 ≤ w ∧ w < 256) (hn : 0 ≤ n ∧ n < 256) :
  CallA Try.prog 10 [.ptr 0 0, .agg [.int .u8 k, .int .u8 h, .int .u8 w, .int .u8 n]] (wH s f) (ActK t f) := by
  have P : s.ps = [] ∨ bn s.ps = true := by cases s.ps <;> simp [bn]
  have G : s.gs = [] ∨ bn s.gs = true := by cases s.gs <;> simp [bn]
  have h3 : h % 3 = 0 ∨ h % 3 = 1 ∨ h % 3 = 2 := by omega
  have w3 : w % 3 = 0 ∨ w % 3 = 1 ∨ w % 3 = 2 := by omega
  have k6 : k % 6 = 0 ∨ k % 6 = 1 ∨ k % 6 = 2 ∨ k % 6 = 3 ∨ k % 6 = 4 ∨ k % 6 = 5 := by omega
  have gpos : bn s.gs = true → 0 < s.gs.length := fun hb => by cases e : s.gs with
    | nil => rw [e] at hb; cases hb
    | cons p r => simp
  rcases k6 with k6 | k6 | k6 | k6 | k6 | k6
  · rcases h3 with e | e | e <;> rcases P with P | P <;> rcases G with G | G
    · exact a_seek_0_00 t ht s f H k h w n hk hh hw hn k6 e P G
    · exact a_seek_0_01 t ht s f H k h w n hk hh hw hn k6 e P G
    · exact a_seek_0_10 t ht s f H k h w n hk hh hw hn k6 e P G
    · exact a_seek_0_11 t ht s f H k h w n hk hh hw hn k6 e P G
    · exact a_seek_1_00 t ht s f H k h w n hk hh hw hn k6 e P G
    · exact a_seek_1_01 t ht s f H k h w n hk hh hw hn k6 e P G
    · exact a_seek_1_10 t ht s f H k h w n hk hh hw hn k6 e P G
    · exact a_seek_1_11 t ht s f H k h w n hk hh hw hn k6 e P G
    · exact a_seek_2_00 t ht s f H k h w n hk hh hw hn k6 e P G
    · exact a_seek_2_01 t ht s f H k h w n hk hh hw hn k6 e P G
    · exact a_seek_2_10 t ht s f H k h w n hk hh hw hn k6 e P G
    · exact a_seek_2_11 t ht s f H k h w n hk hh hw hn k6 e P G
  · rcases h3 with e | e | e <;> rcases P with P | P <;> rcases G with G | G
    · exact a_offer_0_00 t ht s f H k h w n hk hh hw hn k6 e P G
    · exact a_offer_0_01 t ht s f H k h w n hk hh hw hn k6 e P G
    · exact a_offer_0_10 t ht s f H k h w n hk hh hw hn k6 e P G
    · exact a_offer_0_11 t ht s f H k h w n hk hh hw hn k6 e P G
    · exact a_offer_1_00 t ht s f H k h w n hk hh hw hn k6 e P G
    · exact a_offer_1_01 t ht s f H k h w n hk hh hw hn k6 e P G
    · exact a_offer_1_10 t ht s f H k h w n hk hh hw hn k6 e P G
    · exact a_offer_1_11 t ht s f H k h w n hk hh hw hn k6 e P G
    · exact a_offer_2_00 t ht s f H k h w n hk hh hw hn k6 e P G
    · exact a_offer_2_01 t ht s f H k h w n hk hh hw hn k6 e P G
    · exact a_offer_2_10 t ht s f H k h w n hk hh hw hn k6 e P G
    · exact a_offer_2_11 t ht s f H k h w n hk hh hw hn k6 e P G
  · rcases w3 with e | e | e <;> rcases P with P | P <;> rcases G with G | G
    · exact a_hear2_0_00 t ht s f H k h w n hk hh hw hn k6 e P G
    · exact a_hear2_0_01 t ht s f H k h w n hk hh hw hn k6 e P G
    · exact a_hear2_0_10 t ht s f H k h w n hk hh hw hn k6 e P G
    · exact a_hear2_0_11 t ht s f H k h w n hk hh hw hn k6 e P G
    · exact a_hear2_1_00 t ht s f H k h w n hk hh hw hn k6 e P G
    · exact a_hear2_1_01 t ht s f H k h w n hk hh hw hn k6 e P G
    · exact a_hear2_1_10 t ht s f H k h w n hk hh hw hn k6 e P G
    · exact a_hear2_1_11 t ht s f H k h w n hk hh hw hn k6 e P G
    · exact a_hear2_2_00 t ht s f H k h w n hk hh hw hn k6 e P G
    · exact a_hear2_2_01 t ht s f H k h w n hk hh hw hn k6 e P G
    · exact a_hear2_2_10 t ht s f H k h w n hk hh hw hn k6 e P G
    · exact a_hear2_2_11 t ht s f H k h w n hk hh hw hn k6 e P G
  · rcases w3 with e | e | e <;> rcases P with P | P <;> rcases G with G | G
    · exact a_hear3_0_00 t ht s f H k h w n hk hh hw hn k6 e P G
    · exact a_hear3_0_01 t ht s f H k h w n hk hh hw hn k6 e P G
    · exact a_hear3_0_10 t ht s f H k h w n hk hh hw hn k6 e P G
    · exact a_hear3_0_11 t ht s f H k h w n hk hh hw hn k6 e P G
    · exact a_hear3_1_00 t ht s f H k h w n hk hh hw hn k6 e P G
    · exact a_hear3_1_01 t ht s f H k h w n hk hh hw hn k6 e P G
    · exact a_hear3_1_10 t ht s f H k h w n hk hh hw hn k6 e P G
    · exact a_hear3_1_11 t ht s f H k h w n hk hh hw hn k6 e P G
    · exact a_hear3_2_00 t ht s f H k h w n hk hh hw hn k6 e P G
    · exact a_hear3_2_01 t ht s f H k h w n hk hh hw hn k6 e P G
    · exact a_hear3_2_10 t ht s f H k h w n hk hh hw hn k6 e P G
    · exact a_hear3_2_11 t ht s f H k h w n hk hh hw hn k6 e P G
  · rcases G with G | G
    · rcases P with P | P
      · exact a_take4_0_00 t ht s f H k h w n hk hh hw hn k6 P G
      · exact a_take4_0_10 t ht s f H k h w n hk hh hw hn k6 P G
    · have q0 : 0 ≤ n % (s.gs.length : Int) := Int.emod_nonneg _ (by have := gpos G; omega)
      have q1 : n % (s.gs.length : Int) < s.gs.length := Int.emod_lt_of_pos _ (by have := gpos G; omega)
      obtain ⟨g, hgm, R, hat⟩ := pick_g s.gs n q0 q1
      have g1 := (H.gs g hgm).p.h1
      have g3 := (H.gs g hgm).p.h3
      rcases (show g.p.h = 1 ∨ g.p.h = 2 ∨ g.p.h = 3 by omega) with e | e | e <;> rcases P with P | P
      · exact a_take4_0_01 t ht s f H k h w n hk hh hw hn k6 P G g R hgm hat e q0 q1
      · exact a_take4_0_11 t ht s f H k h w n hk hh hw hn k6 P G g R hgm hat e q0 q1
      · exact a_take4_1_01 t ht s f H k h w n hk hh hw hn k6 P G g R hgm hat e q0 q1
      · exact a_take4_1_11 t ht s f H k h w n hk hh hw hn k6 P G g R hgm hat e q0 q1
      · exact a_take4_2_01 t ht s f H k h w n hk hh hw hn k6 P G g R hgm hat e q0 q1
      · exact a_take4_2_11 t ht s f H k h w n hk hh hw hn k6 P G g R hgm hat e q0 q1
  · rcases G with G | G
    · rcases P with P | P
      · exact a_take5_0_00 t ht s f H k h w n hk hh hw hn k6 P G
      · exact a_take5_0_10 t ht s f H k h w n hk hh hw hn k6 P G
    · have q0 : 0 ≤ n % (s.gs.length : Int) := Int.emod_nonneg _ (by have := gpos G; omega)
      have q1 : n % (s.gs.length : Int) < s.gs.length := Int.emod_lt_of_pos _ (by have := gpos G; omega)
      obtain ⟨g, hgm, R, hat⟩ := pick_g s.gs n q0 q1
      have g1 := (H.gs g hgm).p.h1
      have g3 := (H.gs g hgm).p.h3
      rcases (show g.p.h = 1 ∨ g.p.h = 2 ∨ g.p.h = 3 by omega) with e | e | e <;> rcases P with P | P
      · exact a_take5_0_01 t ht s f H k h w n hk hh hw hn k6 P G g R hgm hat e q0 q1
      · exact a_take5_0_11 t ht s f H k h w n hk hh hw hn k6 P G g R hgm hat e q0 q1
      · exact a_take5_1_01 t ht s f H k h w n hk hh hw hn k6 P G g R hgm hat e q0 q1
      · exact a_take5_1_11 t ht s f H k h w n hk hh hw hn k6 P G g R hgm hat e q0 q1
      · exact a_take5_2_01 t ht s f H k h w n hk hh hw hn k6 P G g R hgm hat e q0 q1
      · exact a_take5_2_11 t ht s f H k h w n hk hh hw hn k6 P G g R hgm hat e q0 q1
end Go.Proofs

namespace Go.Proofs
/-! ### That the token can be had, in plain Lean. -/
theorem mx_ge {a b : Int} (h : b ≤ a) : mx a b = a := by unfold mx; rw [if_neg (by omega)]
theorem mx_le {a b : Int} (h : a ≤ b) : mx a b = b := by unfold mx; split <;> omega
/-- A witness that keeps less agrees to a plea for a grant. -/
theorem hear_new {w j E : Int} {K : Kep} (he : K.e < E) (hu : 0 ≤ K.u) : newK K ⟨1, 7, j, E, 0⟩ = ⟨K.m, E, j, K.u⟩ ∧ graK w K ⟨1, 7, j, E, 0⟩ = ⟨w, ⟨1, 7, j, E, 0⟩, true, E, K.u⟩ := by
  have h1 : hearK K ⟨1, 7, j, E, 0⟩ = ⟨K.m, E, j, K.u⟩ := by
    unfold hearK; rw [if_pos ⟨rfl, he⟩]
  have h2 : agrK (hearK K ⟨1, 7, j, E, 0⟩) ⟨1, 7, j, E, 0⟩ = true := by rw [h1]; simp [agrK]
  have h3 : newK K ⟨1, 7, j, E, 0⟩ = ⟨K.m, E, j, K.u⟩ := by
    unfold newK uptK
    rw [h2, h1, if_pos rfl]
    show (⟨K.m, E, j, mx K.u 0⟩ : Kep) = _
    rw [mx_ge hu]
  exact ⟨h3, by unfold graK; rw [h2, h3]⟩
theorem hear_conf {w j E U : Int} {K : Kep} (he : K.e = E) (hh : K.h = j) : newK K ⟨2, 7, j, E, U⟩ = ⟨K.m, E, j, mx K.u U⟩ ∧ graK w K ⟨2, 7, j, E, U⟩ = ⟨w, ⟨2, 7, j, E, U⟩, true, E, mx K.u U⟩ := by
  have h1 : hearK K ⟨2, 7, j, E, U⟩ = K := if_neg (fun h => by have := h.1; simp at this)
  have h2 : agrK (hearK K ⟨2, 7, j, E, U⟩) ⟨2, 7, j, E, U⟩ = true := by rw [h1]; simp [agrK, he, hh]
  have h3 : newK K ⟨2, 7, j, E, U⟩ = ⟨K.m, E, j, mx K.u U⟩ := by
    unfold newK uptK
    rw [h2, h1, if_pos rfl, he.symm, hh.symm]
  exact ⟨h3, by unfold graK; rw [h2, h3]⟩
theorem own_true {x : Hol} {w k j E U e u : Int} (hw : 0 ≤ w ∧ w < 3) (hp : Ple.ok ⟨k, 7, j, E, U⟩ = true) (hm : x.m = 7) (hj : x.h = j) (hE : x.e = E) (he : 0 ≤ e ∧ e ≤ 1073741824) (hu : 0 ≤ u ∧ u ≤ 1099511627776) : Gra.own x ⟨w, ⟨k, 7, j, E, U⟩, true, e, u⟩ = true := by
  unfold Gra.own
  simp only [Bool.and_eq_true, decide_eq_true_eq]
  exact ⟨⟨⟨⟨⟨⟨⟨⟨⟨trivial, hw.1⟩, hw.2⟩, hp⟩, hm.symm⟩, hj.symm⟩, hE.symm⟩, he.1⟩, he.2⟩, (ser_iff u).2 hu⟩
/-- The host after one of the two has granted, and after both have. -/
def Hd (x : Hol) (j E : Int) : Prop := x.m = 7 ∧ x.h = j ∧ x.e = E ∧ 0 ≤ x.r
theorem hear_keeps (x : Hol) (g : Gra) : (x.hear g).m = x.m ∧ (x.hear g).h = x.h ∧ (x.hear g).e = x.e ∧ (x.hear g).g0 = x.g0 ∧ (x.hear g).g1 = x.g1 ∧ (x.hear g).g2 = x.g2 ∧ (x.hear g).a0 = x.a0 ∧ (x.hear g).a1 = x.a1 ∧ (x.hear g).a2 = x.a2 := by
  unfold Hol.hear; split <;> simp
/-- Which witnesses have granted. -/
def got (x : Hol) (i : Int) : Bool := if i = 0 then x.g0 else if i = 1 then x.g1 else x.g2
def ack (x : Hol) (i : Int) : Int := if i = 0 then x.a0 else if i = 1 then x.a1 else x.a2
theorem take_grant {x : Hol} {w j E u : Int} (hw : w = 0 ∨ w = 1 ∨ w = 2) (hx : x.m = 7 ∧ x.h = j ∧ x.e = E) (hj : 1 ≤ j ∧ j ≤ 3) (hE : 1 ≤ E ∧ E ≤ 1073741824) (hu : 0 ≤ u ∧ u ≤ 1099511627776) :
  (fun y : Hol => (y.m = 7 ∧ y.h = j ∧ y.e = E) ∧ got y w = true ∧ (∀ i, got x i = true → got y i = true) ∧ (∀ i, ack y i = ack x i)) (x.take ⟨w, ⟨1, 7, j, E, 0⟩, true, E, u⟩) := by
  have hp : Ple.ok ⟨1, 7, j, E, 0⟩ = true := (ple_iff _).2 (by
    show ((1 : Int) = 1 ∧ (0 : Int) = 0 ∨ (1 : Int) = 2) ∧ ((1 : Int) ≤ 7 ∧ (7 : Int) ≤ _) ∧ (1 ≤ j ∧ j ≤ _) ∧ (1 ≤ E ∧ E ≤ _) ∧ (0 : Int) ≤ 0 ∧ (0 : Int) ≤ _
    omega)
  have hown := own_true (x := x) (w := w) (e := E) (u := u) (by omega) hp hx.1 hx.2.1 hx.2.2 (by omega) hu
  have hk := hear_keeps x ⟨w, ⟨1, 7, j, E, 0⟩, true, E, u⟩
  unfold Hol.take
  rw [if_pos hown, if_neg (by show ¬ ((1 : Int) = 2); decide)]
  generalize x.hear ⟨w, ⟨1, 7, j, E, 0⟩, true, E, u⟩ = z at hk
  obtain ⟨k1, k2, k3, k4, k5, k6, k7, k8, k9⟩ := hk
  show (fun y : Hol => (y.m = 7 ∧ y.h = j ∧ y.e = E) ∧ got y w = true ∧ (∀ i, got x i = true → got y i = true) ∧ (∀ i, ack y i = ack x i)) (if x.gr w = true then z else { (z.grant w) with s := mx x.s u })
  split
  · rename_i hg
    refine ⟨⟨by rw [k1, hx.1], by rw [k2, hx.2.1], by rw [k3, hx.2.2]⟩, ?_, fun i => ?_, fun i => ?_⟩
    · unfold Hol.gr at hg; unfold got; rw [k4, k5, k6]; exact hg
    · unfold got; rw [k4, k5, k6]; exact id
    · unfold ack; rw [k7, k8, k9]
  · rcases hw with rfl | rfl | rfl
    · refine ⟨⟨by rw [← hx.1, ← k1]; rfl, by rw [← hx.2.1, ← k2]; rfl, by rw [← hx.2.2, ← k3]; rfl⟩, rfl, fun i => ?_, fun i => ?_⟩
      · unfold got; rw [← k4, ← k5, ← k6]; show _ → (if i = 0 then true else if i = 1 then z.g1 else z.g2) = true; (by_cases q0 : i = 0 <;> by_cases q1 : i = 1 <;> simp_all)
      · unfold ack; rw [← k7, ← k8, ← k9]; rfl
    · refine ⟨⟨by rw [← hx.1, ← k1]; rfl, by rw [← hx.2.1, ← k2]; rfl, by rw [← hx.2.2, ← k3]; rfl⟩, rfl, fun i => ?_, fun i => ?_⟩
      · unfold got; rw [← k4, ← k5, ← k6]; show _ → (if i = 0 then z.g0 else if i = 1 then true else z.g2) = true; (by_cases q0 : i = 0 <;> by_cases q1 : i = 1 <;> simp_all)
      · unfold ack; rw [← k7, ← k8, ← k9]; rfl
    · refine ⟨⟨by rw [← hx.1, ← k1]; rfl, by rw [← hx.2.1, ← k2]; rfl, by rw [← hx.2.2, ← k3]; rfl⟩, rfl, fun i => ?_, fun i => ?_⟩
      · unfold got; rw [← k4, ← k5, ← k6]; show _ → (if i = 0 then z.g0 else if i = 1 then z.g1 else true) = true; (by_cases q0 : i = 0 <;> by_cases q1 : i = 1 <;> simp_all)
      · unfold ack; rw [← k7, ← k8, ← k9]; rfl
theorem take_conf {x : Hol} {w j E U u : Int} (hw : w = 0 ∨ w = 1 ∨ w = 2) (hx : x.m = 7 ∧ x.h = j ∧ x.e = E) (hj : 1 ≤ j ∧ j ≤ 3) (hE : 1 ≤ E ∧ E ≤ 1073741824) (hU : 0 ≤ U ∧ U ≤ 1099511627776) (hu : 0 ≤ u ∧ u ≤ 1099511627776) :
  (fun y : Hol => (y.m = 7 ∧ y.h = j ∧ y.e = E) ∧ (∀ i, got y i = got x i) ∧ ack y w = mx (ack x w) U ∧ (∀ i, (i = 0 ∨ i = 1 ∨ i = 2) → i ≠ w → ack y i = ack x i)) (x.take ⟨w, ⟨2, 7, j, E, U⟩, true, E, u⟩) := by
  have hp : Ple.ok ⟨2, 7, j, E, U⟩ = true := (ple_iff _).2 (by
    show ((2 : Int) = 1 ∧ U = 0 ∨ (2 : Int) = 2) ∧ ((1 : Int) ≤ 7 ∧ (7 : Int) ≤ _) ∧ (1 ≤ j ∧ j ≤ _) ∧ (1 ≤ E ∧ E ≤ _) ∧ (0 : Int) ≤ U ∧ U ≤ _
    omega)
  have hown := own_true (x := x) (w := w) (e := E) (u := u) (by omega) hp hx.1 hx.2.1 hx.2.2 (by omega) hu
  have hk := hear_keeps x ⟨w, ⟨2, 7, j, E, U⟩, true, E, u⟩
  unfold Hol.take
  rw [if_pos hown, if_pos (by rfl)]
  generalize x.hear ⟨w, ⟨2, 7, j, E, U⟩, true, E, u⟩ = z at hk
  obtain ⟨k1, k2, k3, k4, k5, k6, k7, k8, k9⟩ := hk
  show (fun y : Hol => (y.m = 7 ∧ y.h = j ∧ y.e = E) ∧ (∀ i, got y i = got x i) ∧ ack y w = mx (ack x w) U ∧ (∀ i, (i = 0 ∨ i = 1 ∨ i = 2) → i ≠ w → ack y i = ack x i)) (z.ack w U)
  rcases hw with rfl | rfl | rfl
  · refine ⟨⟨by rw [← hx.1, ← k1]; rfl, by rw [← hx.2.1, ← k2]; rfl, by rw [← hx.2.2, ← k3]; rfl⟩, fun i => ?_, ?_, fun i hi hne => ?_⟩
    · unfold got; rw [← k4, ← k5, ← k6]; rfl
    · show mx z.a0 U = mx x.a0 U; rw [k7]
    · rcases hi with rfl | rfl | rfl
      · exact absurd rfl hne
      · exact k8
      · exact k9
  · refine ⟨⟨by rw [← hx.1, ← k1]; rfl, by rw [← hx.2.1, ← k2]; rfl, by rw [← hx.2.2, ← k3]; rfl⟩, fun i => ?_, ?_, fun i hi hne => ?_⟩
    · unfold got; rw [← k4, ← k5, ← k6]; rfl
    · show mx z.a1 U = mx x.a1 U; rw [k8]
    · rcases hi with rfl | rfl | rfl
      · exact k7
      · exact absurd rfl hne
      · exact k9
  · refine ⟨⟨by rw [← hx.1, ← k1]; rfl, by rw [← hx.2.1, ← k2]; rfl, by rw [← hx.2.2, ← k3]; rfl⟩, fun i => ?_, ?_, fun i hi hne => ?_⟩
    · unfold got; rw [← k4, ← k5, ← k6]; rfl
    · show mx z.a2 U = mx x.a2 U; rw [k9]
    · rcases hi with rfl | rfl | rfl
      · exact k7
      · exact k8
      · exact absurd rfl hne
theorem holds_of {x : Hol} {i j : Int} (hi : i = 0 ∨ i = 1 ∨ i = 2) (hj : j = 0 ∨ j = 1 ∨ j = 2) (hne : i ≠ j) (h1 : got x i = true) (h2 : got x j = true) : x.holds = true := by
  unfold Hol.holds
  cases e0 : x.g0 <;> cases e1 : x.g1 <;> cases e2 : x.g2 <;> rcases hi with rfl | rfl | rfl <;> rcases hj with rfl | rfl | rfl <;> simp_all [got]
theorem rel_of {x : Hol} {i j U : Int} (hh : x.holds = true) (hi : i = 0 ∨ i = 1 ∨ i = 2) (hj : j = 0 ∨ j = 1 ∨ j = 2) (hne : i ≠ j) (h1 : ack x i = U) (h2 : ack x j = U) : x.rel = U := by
  unfold Hol.rel
  rw [if_pos hh]
  unfold med
  rcases hi with rfl | rfl | rfl <;> rcases hj with rfl | rfl | rfl <;> simp [ack] at h1 h2 hne <;> (split <;> split <;> (try split) <;> omega)
theorem seek_val {x : Hol} {E j : Int} (hm : x.m = 7) (hj : x.h = j) (h1 : x.e < E) (h2 : 1 ≤ E ∧ E ≤ 1073741824) : x.seek E = (⟨7, j, E, false, false, false, 0, 0, 0, 0, x.r⟩, ⟨1, 7, j, E, 0⟩, 0) := by
  unfold Hol.seek
  rw [if_pos ((num_iff E).2 h2), if_neg (by omega), hm, hj]
theorem offer_val {x : Hol} {E j U : Int} (hm : x.m = 7) (hj : x.h = j) (he : x.e = E) (hh : x.holds = true) (h2 : 0 ≤ U ∧ U ≤ 1099511627776) : x.offer U = (⟨2, 7, j, E, U⟩, 0) := by
  unfold Hol.offer
  rw [if_pos hh, if_pos ((ser_iff U).2 h2), hm, hj, he]
structure Kin (l : List Kep) (E j : Int) : Prop where
  shape : l = [] ∨ ∃ k : Kep, l = [k] ∧ k.m = 7
  e : (kp l).e = E
  h : (kp l).h = j
  u0 : 0 ≤ (kp l).u
  u1 : (kp l).u ≤ 1099511627776
theorem grant1 {t : Int} {G : List Gra} {i j E : Int} {l : List Kep} (W : WitOk t G i l) (hj : 1 ≤ j ∧ j ≤ 3) (hE : 1 ≤ E ∧ E ≤ 1073741824) (hl : (kp l).e < E) :
  ∃ l' u, hearW i l none ⟨1, 7, j, E, 0⟩ (rank l 7) = ⟨l', none, ⟨i, ⟨1, 7, j, E, 0⟩, true, E, u⟩, 0⟩ ∧ Kin l' E j ∧ 0 ≤ u ∧ u ≤ 1099511627776 := by
  have hp : Ple.ok ⟨1, 7, j, E, 0⟩ = true := (ple_iff _).2 (by
    show ((1 : Int) = 1 ∧ (0 : Int) = 0 ∨ (1 : Int) = 2) ∧ ((1 : Int) ≤ 7 ∧ (7 : Int) ≤ _) ∧ (1 ≤ j ∧ j ≤ _) ∧ (1 ≤ E ∧ E ≤ _) ∧ (0 : Int) ≤ 0 ∧ (0 : Int) ≤ _
    omega)
  obtain ⟨l', h1, h2, h3⟩ := hear_shape (t := E) (w := i) W.shape (p := ⟨1, 7, j, E, 0⟩) ⟨hp, rfl, hj.1, hj.2, by show E ≤ 2 * E; omega⟩
  obtain ⟨n1, n2⟩ := hear_new (w := i) (j := j) hl W.u0
  rw [n2] at h1
  rw [n1] at h3
  exact ⟨l', _, h1, ⟨h2, by rw [h3], by rw [h3], by rw [h3]; exact W.u0, by rw [h3]; exact W.u1⟩, W.u0, W.u1⟩
theorem confirm1 {i j E U : Int} {l : List Kep} (W : Kin l E j) (hj : 1 ≤ j ∧ j ≤ 3) (hE : 1 ≤ E ∧ E ≤ 1073741824) (hU : 0 ≤ U ∧ U ≤ 1099511627776) :
  ∃ l' u, hearW i l none ⟨2, 7, j, E, U⟩ (rank l 7) = ⟨l', none, ⟨i, ⟨2, 7, j, E, U⟩, true, E, u⟩, 0⟩ ∧ 0 ≤ u ∧ u ≤ 1099511627776 := by
  have hp : Ple.ok ⟨2, 7, j, E, U⟩ = true := (ple_iff _).2 (by
    show ((2 : Int) = 1 ∧ U = 0 ∨ (2 : Int) = 2) ∧ ((1 : Int) ≤ 7 ∧ (7 : Int) ≤ _) ∧ (1 ≤ j ∧ j ≤ _) ∧ (1 ≤ E ∧ E ≤ _) ∧ (0 : Int) ≤ U ∧ U ≤ _
    omega)
  obtain ⟨l', h1, h2, h3⟩ := hear_shape (t := E) (w := i) W.shape (p := ⟨2, 7, j, E, U⟩) ⟨hp, rfl, hj.1, hj.2, by show E ≤ 2 * E; omega⟩
  obtain ⟨n1, n2⟩ := hear_conf (w := i) (U := U) W.e W.h
  rw [n2] at h1
  have := W.u0
  have := W.u1
  have := le_mx (kp l).u U
  exact ⟨l', _, h1, by omega, by omega⟩
/-- Both grant. -/
theorem can_grant {i i' j E r u u' : Int} (hi : i = 0 ∨ i = 1 ∨ i = 2) (hi' : i' = 0 ∨ i' = 1 ∨ i' = 2) (hne : i ≠ i') (hj : 1 ≤ j ∧ j ≤ 3) (hE : 1 ≤ E ∧ E ≤ 1073741824) (hu : 0 ≤ u ∧ u ≤ 1099511627776) (hu' : 0 ≤ u' ∧ u' ≤ 1099511627776) :
  ∃ y : Hol, ((Hol.mk 7 j E false false false 0 0 0 0 r).take ⟨i, ⟨1, 7, j, E, 0⟩, true, E, u⟩).take ⟨i', ⟨1, 7, j, E, 0⟩, true, E, u'⟩ = y ∧ y.holds = true ∧ (y.m = 7 ∧ y.h = j ∧ y.e = E) ∧ got y i = true ∧ got y i' = true ∧ ack y i = 0 ∧ ack y i' = 0 := by
  have h1 := take_grant (x := Hol.mk 7 j E false false false 0 0 0 0 r) (u := u) hi ⟨rfl, rfl, rfl⟩ hj hE hu
  generalize (Hol.mk 7 j E false false false 0 0 0 0 r).take ⟨i, ⟨1, 7, j, E, 0⟩, true, E, u⟩ = x1 at h1 ⊢
  obtain ⟨a1, a2, a3, a4⟩ := h1
  have h2 := take_grant (x := x1) (u := u') hi' a1 hj hE hu'
  generalize x1.take ⟨i', ⟨1, 7, j, E, 0⟩, true, E, u'⟩ = x2 at h2 ⊢
  obtain ⟨b1, b2, b3, b4⟩ := h2
  refine ⟨x2, rfl, holds_of hi hi' hne (b3 i a2) b2, b1, b3 i a2, b2, ?_, ?_⟩
  · rw [b4, a4]; rcases hi with rfl | rfl | rfl <;> rfl
  · rw [b4, a4]; rcases hi' with rfl | rfl | rfl <;> rfl
/-- Both confirm. -/
theorem can_confirm {i i' j E U u u' : Int} {y : Hol} (hi : i = 0 ∨ i = 1 ∨ i = 2) (hi' : i' = 0 ∨ i' = 1 ∨ i' = 2) (hne : i ≠ i') (hj : 1 ≤ j ∧ j ≤ 3) (hE : 1 ≤ E ∧ E ≤ 1073741824) (hu : 0 ≤ u ∧ u ≤ 1099511627776) (hu' : 0 ≤ u' ∧ u' ≤ 1099511627776) (hU : 0 ≤ U ∧ U ≤ 1099511627776)
  (hy : y.m = 7 ∧ y.h = j ∧ y.e = E) (g1 : got y i = true) (g2 : got y i' = true) (k1 : ack y i = 0) (k2 : ack y i' = 0) :
  ((y.take ⟨i, ⟨2, 7, j, E, U⟩, true, E, u⟩).take ⟨i', ⟨2, 7, j, E, U⟩, true, E, u'⟩).rel = U := by
  have h1 := take_conf (x := y) (u := u) hi hy hj hE hU hu
  generalize y.take ⟨i, ⟨2, 7, j, E, U⟩, true, E, u⟩ = x1 at h1 ⊢
  obtain ⟨a1, a2, a3, a4⟩ := h1
  have h2 := take_conf (x := x1) (u := u') hi' a1 hj hE hU hu'
  generalize x1.take ⟨i', ⟨2, 7, j, E, U⟩, true, E, u'⟩ = x2 at h2 ⊢
  obtain ⟨b1, b2, b3, b4⟩ := h2
  refine rel_of (holds_of hi hi' hne (by rw [b2, a2]; exact g1) (by rw [b2, a2]; exact g2)) hi hi' hne ?_ ?_
  · rw [b4 i hi hne, a3, k1, mx_le hU.1]
  · rw [b3, a4 i' hi' (fun h => hne h.symm), k2, mx_le hU.1]
end Go.Proofs

namespace Go.Proofs
open Go Go.Eng
set_option maxRecDepth 100000
set_option maxHeartbeats 4000000
attribute [local irreducible] Hol.holds Hol.rel
def R6 : List AV := .any :: .any :: .any :: .any :: .any :: .any :: []
def D (l : List Kep) : AV := .dslice (kcells l) l.length none
theorem c12_12 (a b c x : Hol) (p : Ple) (l0 l1 l2 l1' l2' : List Kep) (e1 u1 e2 u2 : Int) (k1 : Kept1 l1) (k2 : Kept1 l2)
  (E1 : hearW 1 l1 none p (rank l1 p.m) = ⟨l1', none, ⟨1, p, true, e1, u1⟩, 0⟩) (E2 : hearW 2 l2 none p (rank l2 p.m) = ⟨l2', none, ⟨2, p, true, e2, u2⟩, 0⟩) :
  CallA Try.prog 12 [.ptr 0 33, .agg x.av, .agg p.av, .dslice [I 1, I 2] 2 (some 2)] ⟨1, [(0, .cells (Ww a b c (I 0 :: D l0 :: I 1 :: D l1 :: I 2 :: D l2 :: R6)))]⟩ fun v H' => v = .tuple [.agg ((x.take ⟨1, p, true, e1, u1⟩).take ⟨2, p, true, e2, u2⟩).av, .bool true] ∧ H' = ⟨1, [(0, .cells (Ww a b c (I 0 :: D l0 :: I 1 :: D l1' :: I 2 :: D l2' :: R6)))]⟩ := by
  refine callA_of ok12 (Nat.le_of_ble_eq_true rfl) ?_
  have hmin : IntKind.i64.min = -9223372036854775808 := rfl
  have hmax : IntKind.i64.max = 9223372036854775807 := rfl
  have h17 := c17 1 l1 none p k1
  have h17' := c17 2 l2 none p k2
  rw [E1] at h17
  rw [E2] at h17'
  have h23 := c23 x ⟨1, p, true, e1, u1⟩
  generalize x.take ⟨1, p, true, e1, u1⟩ = y at h23 ⊢
  have h23' := c23 y ⟨2, p, true, e2, u2⟩
  generalize y.take ⟨2, p, true, e2, u2⟩ = z at h23' ⊢
  (conv => whnf)
  refine LoopA.unroll _ _ _ 3 ?_
  repeat' ((conv => whnf); first
      | refine Branch.ofT rfl ?_
      | refine Branch.ofF rfl ?_
      | (refine Side.mk ?_ ?_; · (constructor <;> decide))
      | refine Branch.dec (fun h => ?_) (fun h => ?_)
      | refine Branch.negdec (fun h => ?_) (fun h => ?_)
      | refine Branch.neg (fun h => ?_) (fun h => ?_)
      | refine Branch.mk (fun h => ?_) (fun h => ?_)
      | (refine Side.mk ?_ ?_; · first | omega | decide)
      | (refine SideD.mk ?_ ?_; · first | omega | decide)
      | refine ⟨_, Nat.lt_succ_self _, To.refl (.inl ⟨rfl, ?_⟩)⟩
      | refine QCallA.of h17 rfl rfl ?_
      | refine QCallA.of h17' rfl rfl ?_
      | refine CallA.pure h23 rfl rfl ?_
      | refine CallA.pure h23' rfl rfl ?_
      | (refine Side.mk ?_ ?_; · (simp; done))
      | fail
      )
  all_goals (conv => whnf)
  exact RetA.gc [(0, false)] rfl trivial ⟨rfl, rfl⟩
theorem c12_20 (a b c x : Hol) (p : Ple) (l0 l1 l2 l2' l0' : List Kep) (e1 u1 e2 u2 : Int) (k1 : Kept1 l2) (k2 : Kept1 l0)
  (E1 : hearW 2 l2 none p (rank l2 p.m) = ⟨l2', none, ⟨2, p, true, e1, u1⟩, 0⟩) (E2 : hearW 0 l0 none p (rank l0 p.m) = ⟨l0', none, ⟨0, p, true, e2, u2⟩, 0⟩) :
  CallA Try.prog 12 [.ptr 0 33, .agg x.av, .agg p.av, .dslice [I 2, I 0] 2 (some 2)] ⟨1, [(0, .cells (Ww a b c (I 0 :: D l0 :: I 1 :: D l1 :: I 2 :: D l2 :: R6)))]⟩ fun v H' => v = .tuple [.agg ((x.take ⟨2, p, true, e1, u1⟩).take ⟨0, p, true, e2, u2⟩).av, .bool true] ∧ H' = ⟨1, [(0, .cells (Ww a b c (I 0 :: D l0' :: I 1 :: D l1 :: I 2 :: D l2' :: R6)))]⟩ := by
  refine callA_of ok12 (Nat.le_of_ble_eq_true rfl) ?_
  have hmin : IntKind.i64.min = -9223372036854775808 := rfl
  have hmax : IntKind.i64.max = 9223372036854775807 := rfl
  have h17 := c17 2 l2 none p k1
  have h17' := c17 0 l0 none p k2
  rw [E1] at h17
  rw [E2] at h17'
  have h23 := c23 x ⟨2, p, true, e1, u1⟩
  generalize x.take ⟨2, p, true, e1, u1⟩ = y at h23 ⊢
  have h23' := c23 y ⟨0, p, true, e2, u2⟩
  generalize y.take ⟨0, p, true, e2, u2⟩ = z at h23' ⊢
  (conv => whnf)
  refine LoopA.unroll _ _ _ 3 ?_
  repeat' ((conv => whnf); first
      | refine Branch.ofT rfl ?_
      | refine Branch.ofF rfl ?_
      | (refine Side.mk ?_ ?_; · (constructor <;> decide))
      | refine Branch.dec (fun h => ?_) (fun h => ?_)
      | refine Branch.negdec (fun h => ?_) (fun h => ?_)
      | refine Branch.neg (fun h => ?_) (fun h => ?_)
      | refine Branch.mk (fun h => ?_) (fun h => ?_)
      | (refine Side.mk ?_ ?_; · first | omega | decide)
      | (refine SideD.mk ?_ ?_; · first | omega | decide)
      | refine ⟨_, Nat.lt_succ_self _, To.refl (.inl ⟨rfl, ?_⟩)⟩
      | refine QCallA.of h17 rfl rfl ?_
      | refine QCallA.of h17' rfl rfl ?_
      | refine CallA.pure h23 rfl rfl ?_
      | refine CallA.pure h23' rfl rfl ?_
      | (refine Side.mk ?_ ?_; · (simp; done))
      | fail
      )
  all_goals (conv => whnf)
  exact RetA.gc [(0, false)] rfl trivial ⟨rfl, rfl⟩
theorem c12_01 (a b c x : Hol) (p : Ple) (l0 l1 l2 l0' l1' : List Kep) (e1 u1 e2 u2 : Int) (k1 : Kept1 l0) (k2 : Kept1 l1)
  (E1 : hearW 0 l0 none p (rank l0 p.m) = ⟨l0', none, ⟨0, p, true, e1, u1⟩, 0⟩) (E2 : hearW 1 l1 none p (rank l1 p.m) = ⟨l1', none, ⟨1, p, true, e2, u2⟩, 0⟩) :
  CallA Try.prog 12 [.ptr 0 33, .agg x.av, .agg p.av, .dslice [I 0, I 1] 2 (some 2)] ⟨1, [(0, .cells (Ww a b c (I 0 :: D l0 :: I 1 :: D l1 :: I 2 :: D l2 :: R6)))]⟩ fun v H' => v = .tuple [.agg ((x.take ⟨0, p, true, e1, u1⟩).take ⟨1, p, true, e2, u2⟩).av, .bool true] ∧ H' = ⟨1, [(0, .cells (Ww a b c (I 0 :: D l0' :: I 1 :: D l1' :: I 2 :: D l2 :: R6)))]⟩ := by
  refine callA_of ok12 (Nat.le_of_ble_eq_true rfl) ?_
  have hmin : IntKind.i64.min = -9223372036854775808 := rfl
  have hmax : IntKind.i64.max = 9223372036854775807 := rfl
  have h17 := c17 0 l0 none p k1
  have h17' := c17 1 l1 none p k2
  rw [E1] at h17
  rw [E2] at h17'
  have h23 := c23 x ⟨0, p, true, e1, u1⟩
  generalize x.take ⟨0, p, true, e1, u1⟩ = y at h23 ⊢
  have h23' := c23 y ⟨1, p, true, e2, u2⟩
  generalize y.take ⟨1, p, true, e2, u2⟩ = z at h23' ⊢
  (conv => whnf)
  refine LoopA.unroll _ _ _ 3 ?_
  repeat' ((conv => whnf); first
      | refine Branch.ofT rfl ?_
      | refine Branch.ofF rfl ?_
      | (refine Side.mk ?_ ?_; · (constructor <;> decide))
      | refine Branch.dec (fun h => ?_) (fun h => ?_)
      | refine Branch.negdec (fun h => ?_) (fun h => ?_)
      | refine Branch.neg (fun h => ?_) (fun h => ?_)
      | refine Branch.mk (fun h => ?_) (fun h => ?_)
      | (refine Side.mk ?_ ?_; · first | omega | decide)
      | (refine SideD.mk ?_ ?_; · first | omega | decide)
      | refine ⟨_, Nat.lt_succ_self _, To.refl (.inl ⟨rfl, ?_⟩)⟩
      | refine QCallA.of h17 rfl rfl ?_
      | refine QCallA.of h17' rfl rfl ?_
      | refine CallA.pure h23 rfl rfl ?_
      | refine CallA.pure h23' rfl rfl ?_
      | (refine Side.mk ?_ ?_; · (simp; done))
      | fail
      )
  all_goals (conv => whnf)
  exact RetA.gc [(0, false)] rfl trivial ⟨rfl, rfl⟩
end Go.Proofs

