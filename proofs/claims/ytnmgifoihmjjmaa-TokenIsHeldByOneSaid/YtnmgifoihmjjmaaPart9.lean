/- Part of a proof about the given program: lemmas that the other parts use. -/
import Derived.Test.YtnmgifoihmjjmaaPart8
import Derived.Test.YtnmgifoihmjjmaaPart6

set_option linter.all false
set_option linter.unusedSimpArgs false
set_option linter.unusedVariables false
namespace Go.Proofs
open Go Go.Eng
set_option maxRecDepth 100000
set_option maxHeartbeats 4000000
attribute [local irreducible] Hol.holds Hol.rel
theorem a_hear2_0_00 (t : Nat) (ht : t < 150) (s : St) (f : Int) (H : Inv t s) (k h w n : Int) (hk : 0 ≤ k ∧ k < 256) (hh : 0 ≤ h ∧ h < 256) (hw : 0 ≤ w ∧ w < 256) (hn : 0 ≤ n ∧ n < 256) (h6 : k % 6 = 2) (h3 : w % 3 = 0) (hps : s.ps = []) (hgs : s.gs = []) :
  CallA Try.prog 10 [.ptr 0 0, .agg [.int .u8 k, .int .u8 h, .int .u8 w, .int .u8 n]] (wH s f) (ActK t f) := by
  refine callA_of ok10 (Nat.le_of_ble_eq_true rfl) ?_
  have hmin : IntKind.i64.min = -9223372036854775808 := rfl
  have hmax : IntKind.i64.max = 9223372036854775807 := rfl
  have t6 : k.tmod 6 = 2 := tm6 hk.1 h6
  have hpd := pcells_noLoc s.ps
  have hgd := gcells_noLoc s.gs
  have nps := H.np
  have ngs := H.ng
  have t3 : w.tmod 3 = 0 := tm3 hw.1 h3
  have hm3 : h.tmod 3 = h % 3 := tm3 hh.1 rfl
  have stay : ActK t f (.bool true) (wH s f) := ⟨rfl, s, H.up, .inl rfl⟩
  unfold wH at stay ⊢
  rw [hps, hgs] at stay ⊢
  repeat' ((conv => whnf); first
      | refine Branch.ofT rfl ?_
      | refine Branch.ofF rfl ?_
      | refine Branch.ofT (decide_eq_true t6) ?_
      | refine Branch.ofF (decide_eq_false (by rw [t6]; decide)) ?_
      | refine Branch.ofF (decide_eq_false (by omega)) ?_
      | (rw [hm3]; refine Side.mk ?_ ?_; · omega)
      | (rw [t3]; refine Side.mk ?_ ?_; · omega)
      | (rw [hmin, hmax]; refine Side.mk ?_ ?_; · omega)
      | refine Branch.dec (fun h => ?_) (fun h => ?_)
      | refine Branch.negdec (fun h => ?_) (fun h => ?_)
      | refine Branch.neg (fun h => ?_) (fun h => ?_)
      | refine Branch.mk (fun h => ?_) (fun h => ?_)
      | (refine Side.mk ?_ ?_; · first | omega | decide)
      | (refine SideD.mk ?_ ?_; · first | omega | decide)
      | refine ⟨_, Nat.lt_succ_self _, To.refl (.inl ⟨rfl, ?_⟩)⟩
      | refine takeK_at5 hat ?_
      | refine QCallA.of h17 rfl rfl ?_
      | (refine Side.mk ?_ ?_; · exact ⟨by simp [fits], by intro c hc; simp at hc; rcases hc with rfl | rfl | rfl | rfl | rfl <;> rfl⟩)
      | (refine Side.mk ?_ ?_; · (simp only [if_true]; split <;> omega))
      | (refine Side.mk ?_ ?_; · ((repeat' apply And.intro) <;> first | omega | rfl | exact Nat.zero_le _ | (simp only [pcells_len, gcells_len]; done) | (simp only [fits]; omega) | (simp only [List.length_append, List.length_cons, List.length_nil, pcells_len, gcells_len, rep]; omega) | (repeat' first | exact pcells_scal _ | exact gcells_scal _ | exact scal_nil | apply scal_int | apply scal_bool | apply scal_take)))
      | (refine Side.mk ?_ ?_; · (simp; done))
      | fail
      )
  all_goals (conv => whnf)
  · exact RetA.gc [(0, false), (1, true), (2, true), (3, true), (4, true), (5, true)] rfl ⟨trivial, trivial, trivial, trivial, trivial, trivial⟩ stay
theorem a_hear2_0_01 (t : Nat) (ht : t < 150) (s : St) (f : Int) (H : Inv t s) (k h w n : Int) (hk : 0 ≤ k ∧ k < 256) (hh : 0 ≤ h ∧ h < 256) (hw : 0 ≤ w ∧ w < 256) (hn : 0 ≤ n ∧ n < 256) (h6 : k % 6 = 2) (h3 : w % 3 = 0) (hps : s.ps = []) (hgs : bn s.gs = true) :
  CallA Try.prog 10 [.ptr 0 0, .agg [.int .u8 k, .int .u8 h, .int .u8 w, .int .u8 n]] (wH s f) (ActK t f) := by
  refine callA_of ok10 (Nat.le_of_ble_eq_true rfl) ?_
  have hmin : IntKind.i64.min = -9223372036854775808 := rfl
  have hmax : IntKind.i64.max = 9223372036854775807 := rfl
  have t6 : k.tmod 6 = 2 := tm6 hk.1 h6
  have hpd := pcells_noLoc s.ps
  have hgd := gcells_noLoc s.gs
  have nps := H.np
  have ngs := H.ng
  have t3 : w.tmod 3 = 0 := tm3 hw.1 h3
  have hm3 : h.tmod 3 = h % 3 := tm3 hh.1 rfl
  have stay : ActK t f (.bool true) (wH s f) := ⟨rfl, s, H.up, .inl rfl⟩
  unfold wH at stay ⊢
  rw [hps, hgs] at stay ⊢
  repeat' ((conv => whnf); first
      | refine Branch.ofT rfl ?_
      | refine Branch.ofF rfl ?_
      | refine Branch.ofT (decide_eq_true t6) ?_
      | refine Branch.ofF (decide_eq_false (by rw [t6]; decide)) ?_
      | refine Branch.ofF (decide_eq_false (by omega)) ?_
      | (rw [hm3]; refine Side.mk ?_ ?_; · omega)
      | (rw [t3]; refine Side.mk ?_ ?_; · omega)
      | (rw [hmin, hmax]; refine Side.mk ?_ ?_; · omega)
      | refine Branch.dec (fun h => ?_) (fun h => ?_)
      | refine Branch.negdec (fun h => ?_) (fun h => ?_)
      | refine Branch.neg (fun h => ?_) (fun h => ?_)
      | refine Branch.mk (fun h => ?_) (fun h => ?_)
      | (refine Side.mk ?_ ?_; · first | omega | decide)
      | (refine SideD.mk ?_ ?_; · first | omega | decide)
      | refine ⟨_, Nat.lt_succ_self _, To.refl (.inl ⟨rfl, ?_⟩)⟩
      | refine takeK_at5 hat ?_
      | refine QCallA.of h17 rfl rfl ?_
      | (refine Side.mk ?_ ?_; · exact ⟨by simp [fits], by intro c hc; simp at hc; rcases hc with rfl | rfl | rfl | rfl | rfl <;> rfl⟩)
      | (refine Side.mk ?_ ?_; · (simp only [if_true]; split <;> omega))
      | (refine Side.mk ?_ ?_; · ((repeat' apply And.intro) <;> first | omega | rfl | exact Nat.zero_le _ | (simp only [pcells_len, gcells_len]; done) | (simp only [fits]; omega) | (simp only [List.length_append, List.length_cons, List.length_nil, pcells_len, gcells_len, rep]; omega) | (repeat' first | exact pcells_scal _ | exact gcells_scal _ | exact scal_nil | apply scal_int | apply scal_bool | apply scal_take)))
      | (refine Side.mk ?_ ?_; · (simp; done))
      | fail
      )
  all_goals (conv => whnf)
  · exact RetA.gc [(0, false), (1, true), (2, true), (3, true), (4, true), (5, true)] rfl ⟨trivial, trivial, trivial, trivial, hgd, trivial⟩ stay
theorem a_hear2_0_10 (t : Nat) (ht : t < 150) (s : St) (f : Int) (H : Inv t s) (k h w n : Int) (hk : 0 ≤ k ∧ k < 256) (hh : 0 ≤ h ∧ h < 256) (hw : 0 ≤ w ∧ w < 256) (hn : 0 ≤ n ∧ n < 256) (h6 : k % 6 = 2) (h3 : w % 3 = 0) (hps : bn s.ps = true) (hgs : s.gs = []) :
  CallA Try.prog 10 [.ptr 0 0, .agg [.int .u8 k, .int .u8 h, .int .u8 w, .int .u8 n]] (wH s f) (ActK t f) := by
  refine callA_of ok10 (Nat.le_of_ble_eq_true rfl) ?_
  have hmin : IntKind.i64.min = -9223372036854775808 := rfl
  have hmax : IntKind.i64.max = 9223372036854775807 := rfl
  have t6 : k.tmod 6 = 2 := tm6 hk.1 h6
  have hpd := pcells_noLoc s.ps
  have hgd := gcells_noLoc s.gs
  have nps := H.np
  have ngs := H.ng
  have t3 : w.tmod 3 = 0 := tm3 hw.1 h3
  have hm3 : h.tmod 3 = h % 3 := tm3 hh.1 rfl
  have stay : ActK t f (.bool true) (wH s f) := ⟨rfl, s, H.up, .inl rfl⟩
  have npos : 0 < s.ps.length := by cases e : s.ps with
    | nil => rw [e] at hps; cases hps
    | cons p r => simp
  have hq0 : 0 ≤ n % (s.ps.length : Int) := Int.emod_nonneg _ (by omega)
  have hq1 : n % (s.ps.length : Int) < s.ps.length := Int.emod_lt_of_pos _ (by omega)
  obtain ⟨p, hpm, R, hat⟩ := pick_p s.ps n hq0 hq1
  have h17 := c17 0 s.l0 none p (kept1_of H.l0.shape)
  obtain ⟨l', hE, hsh, hkp⟩ := hear_shape (w := 0) H.l0.shape (H.ps p hpm)
  obtain ⟨hW, hG⟩ := hear_ok H.up.l0 (by omega) (H.up.ps p hpm) hsh hkp
  have hgw : (graK 0 (kp s.l0) p).w = 0 := rfl
  rw [hE] at h17
  clear hE hkp
  generalize graK 0 (kp s.l0) p = g at h17 hW hG hgw
  have fin : ∀ (G : List Gra), G = s.gs ++ [g] → Inv (t + 1) { s with l0 := l', gs := G } := fun G hGG => by
    subst hGG
    exact { a := H.up.a.mono, b := H.up.b.mono, c := H.up.c.mono, l0 := hW, l1 := H.up.l1.mono (by omega), l2 := H.up.l2.mono (by omega), ps := H.up.ps, gs := (fun x hx => (List.mem_append.1 hx).elim (H.up.gs x) (fun hx => by simp at hx; subst hx; exact hG)), bk := H.bk.mono, np := H.up.np, ng := (by simp; omega) }
  obtain ⟨gw, ⟨g1, g2, g3, g4, g5⟩, gag, ge, gu⟩ := g
  unfold wH at stay ⊢
  rw [hps, hgs] at stay ⊢
  repeat' ((conv => whnf); first
      | refine Branch.ofT rfl ?_
      | refine Branch.ofF rfl ?_
      | refine Branch.ofT (decide_eq_true t6) ?_
      | refine Branch.ofF (decide_eq_false (by rw [t6]; decide)) ?_
      | refine Branch.ofF (decide_eq_false (by omega)) ?_
      | (rw [hm3]; refine Side.mk ?_ ?_; · omega)
      | (rw [t3]; refine Side.mk ?_ ?_; · omega)
      | (rw [hmin, hmax]; refine Side.mk ?_ ?_; · omega)
      | refine Branch.dec (fun h => ?_) (fun h => ?_)
      | refine Branch.negdec (fun h => ?_) (fun h => ?_)
      | refine Branch.neg (fun h => ?_) (fun h => ?_)
      | refine Branch.mk (fun h => ?_) (fun h => ?_)
      | (refine Side.mk ?_ ?_; · first | omega | decide)
      | (refine SideD.mk ?_ ?_; · first | omega | decide)
      | refine ⟨_, Nat.lt_succ_self _, To.refl (.inl ⟨rfl, ?_⟩)⟩
      | refine takeK_at5 hat ?_
      | refine QCallA.of h17 rfl rfl ?_
      | (refine Side.mk ?_ ?_; · exact ⟨by simp [fits], by intro c hc; simp at hc; rcases hc with rfl | rfl | rfl | rfl | rfl <;> rfl⟩)
      | (refine Side.mk ?_ ?_; · (simp only [if_true]; split <;> omega))
      | (refine Side.mk ?_ ?_; · ((repeat' apply And.intro) <;> first | omega | rfl | exact Nat.zero_le _ | (simp only [pcells_len, gcells_len]; done) | (simp only [fits]; omega) | (simp only [List.length_append, List.length_cons, List.length_nil, pcells_len, gcells_len, rep]; omega) | (repeat' first | exact pcells_scal _ | exact gcells_scal _ | exact scal_nil | apply scal_int | apply scal_bool | apply scal_take)))
      | (refine Side.mk ?_ ?_; · (simp; done))
      | fail
      )
  all_goals (conv => whnf)
  · exact RetA.gc [(0, false), (1, true), (2, true), (3, true), (4, true), (5, true)] rfl ⟨trivial, trivial, trivial, hpd, trivial, trivial⟩ stay
  · have hJ := fin [⟨gw, ⟨g1, g2, g3, g4, g5⟩, gag, ge, gu⟩] (by first | rfl | (rw [hgs]; rfl))
    have hgd' := gcells_noLoc [⟨gw, ⟨g1, g2, g3, g4, g5⟩, gag, ge, gu⟩]
    refine CallA.lend [(0, false), (1, true), (2, true), (3, true), (4, true), (67, true)] (c29_at (s := { s with l0 := l', gs := [⟨gw, ⟨g1, g2, g3, g4, g5⟩, gag, ge, gu⟩] }) f hJ hps rfl rfl rfl rfl rfl) rfl ⟨trivial, trivial, trivial, hpd, hgd', trivial⟩ rfl ?_
    rintro c H' ⟨rfl, rfl⟩
    refine ⟨⟨trivial, trivial, trivial, hpd, hgd', trivial⟩, ?_⟩
    (conv => whnf)
    exact RetA.gc [(0, false), (1, true), (2, true), (3, true), (4, true), (5, true), (67, true)] rfl ⟨trivial, trivial, trivial, hpd, trivial, hgd', trivial⟩ (wHg_at (s := { s with l0 := l', gs := [⟨gw, ⟨g1, g2, g3, g4, g5⟩, gag, ge, gu⟩] }) f _ (by exact trivial) hJ hps rfl rfl rfl rfl rfl rfl)
theorem a_hear2_0_11 (t : Nat) (ht : t < 150) (s : St) (f : Int) (H : Inv t s) (k h w n : Int) (hk : 0 ≤ k ∧ k < 256) (hh : 0 ≤ h ∧ h < 256) (hw : 0 ≤ w ∧ w < 256) (hn : 0 ≤ n ∧ n < 256) (h6 : k % 6 = 2) (h3 : w % 3 = 0) (hps : bn s.ps = true) (hgs : bn s.gs = true) :
  CallA Try.prog 10 [.ptr 0 0, .agg [.int .u8 k, .int .u8 h, .int .u8 w, .int .u8 n]] (wH s f) (ActK t f) := by
  refine callA_of ok10 (Nat.le_of_ble_eq_true rfl) ?_
  have hmin : IntKind.i64.min = -9223372036854775808 := rfl
  have hmax : IntKind.i64.max = 9223372036854775807 := rfl
  have t6 : k.tmod 6 = 2 := tm6 hk.1 h6
  have hpd := pcells_noLoc s.ps
  have hgd := gcells_noLoc s.gs
  have nps := H.np
  have ngs := H.ng
  have t3 : w.tmod 3 = 0 := tm3 hw.1 h3
  have hm3 : h.tmod 3 = h % 3 := tm3 hh.1 rfl
  have stay : ActK t f (.bool true) (wH s f) := ⟨rfl, s, H.up, .inl rfl⟩
  have npos : 0 < s.ps.length := by cases e : s.ps with
    | nil => rw [e] at hps; cases hps
    | cons p r => simp
  have hq0 : 0 ≤ n % (s.ps.length : Int) := Int.emod_nonneg _ (by omega)
  have hq1 : n % (s.ps.length : Int) < s.ps.length := Int.emod_lt_of_pos _ (by omega)
  obtain ⟨p, hpm, R, hat⟩ := pick_p s.ps n hq0 hq1
  have h17 := c17 0 s.l0 none p (kept1_of H.l0.shape)
  obtain ⟨l', hE, hsh, hkp⟩ := hear_shape (w := 0) H.l0.shape (H.ps p hpm)
  obtain ⟨hW, hG⟩ := hear_ok H.up.l0 (by omega) (H.up.ps p hpm) hsh hkp
  have hgw : (graK 0 (kp s.l0) p).w = 0 := rfl
  rw [hE] at h17
  clear hE hkp
  generalize graK 0 (kp s.l0) p = g at h17 hW hG hgw
  have fin : ∀ (G : List Gra), G = s.gs ++ [g] → Inv (t + 1) { s with l0 := l', gs := G } := fun G hGG => by
    subst hGG
    exact { a := H.up.a.mono, b := H.up.b.mono, c := H.up.c.mono, l0 := hW, l1 := H.up.l1.mono (by omega), l2 := H.up.l2.mono (by omega), ps := H.up.ps, gs := (fun x hx => (List.mem_append.1 hx).elim (H.up.gs x) (fun hx => by simp at hx; subst hx; exact hG)), bk := H.bk.mono, np := H.up.np, ng := (by simp; omega) }
  obtain ⟨gw, ⟨g1, g2, g3, g4, g5⟩, gag, ge, gu⟩ := g
  unfold wH at stay ⊢
  rw [hps, hgs] at stay ⊢
  repeat' ((conv => whnf); first
      | refine Branch.ofT rfl ?_
      | refine Branch.ofF rfl ?_
      | refine Branch.ofT (decide_eq_true t6) ?_
      | refine Branch.ofF (decide_eq_false (by rw [t6]; decide)) ?_
      | refine Branch.ofF (decide_eq_false (by omega)) ?_
      | (rw [hm3]; refine Side.mk ?_ ?_; · omega)
      | (rw [t3]; refine Side.mk ?_ ?_; · omega)
      | (rw [hmin, hmax]; refine Side.mk ?_ ?_; · omega)
      | refine Branch.dec (fun h => ?_) (fun h => ?_)
      | refine Branch.negdec (fun h => ?_) (fun h => ?_)
      | refine Branch.neg (fun h => ?_) (fun h => ?_)
      | refine Branch.mk (fun h => ?_) (fun h => ?_)
      | (refine Side.mk ?_ ?_; · first | omega | decide)
      | (refine SideD.mk ?_ ?_; · first | omega | decide)
      | refine ⟨_, Nat.lt_succ_self _, To.refl (.inl ⟨rfl, ?_⟩)⟩
      | refine takeK_at5 hat ?_
      | refine QCallA.of h17 rfl rfl ?_
      | (refine Side.mk ?_ ?_; · exact ⟨by simp [fits], by intro c hc; simp at hc; rcases hc with rfl | rfl | rfl | rfl | rfl <;> rfl⟩)
      | (refine Side.mk ?_ ?_; · (simp only [if_true]; split <;> omega))
      | (refine Side.mk ?_ ?_; · ((repeat' apply And.intro) <;> first | omega | rfl | exact Nat.zero_le _ | (simp only [pcells_len, gcells_len]; done) | (simp only [fits]; omega) | (simp only [List.length_append, List.length_cons, List.length_nil, pcells_len, gcells_len, rep]; omega) | (repeat' first | exact pcells_scal _ | exact gcells_scal _ | exact scal_nil | apply scal_int | apply scal_bool | apply scal_take)))
      | (refine Side.mk ?_ ?_; · (simp; done))
      | fail
      )
  all_goals (conv => whnf)
  · exact RetA.gc [(0, false), (1, true), (2, true), (3, true), (4, true), (5, true)] rfl ⟨trivial, trivial, trivial, hpd, hgd, trivial⟩ stay
  · have hJ := fin (s.gs ++ [⟨gw, ⟨g1, g2, g3, g4, g5⟩, gag, ge, gu⟩]) (by first | rfl | (rw [hgs]; rfl))
    have hgd' := gcells_noLoc (s.gs ++ [⟨gw, ⟨g1, g2, g3, g4, g5⟩, gag, ge, gu⟩])
    rw [gcells_app] at hgd'
    refine CallA.lend [(0, false), (1, true), (2, true), (3, true), (4, true), (67, true)] (c29_at (s := { s with l0 := l', gs := (s.gs ++ [⟨gw, ⟨g1, g2, g3, g4, g5⟩, gag, ge, gu⟩]) }) f hJ hps (bn_app _ _) rfl (by rw [List.length_append]; rfl) rfl (gcells_app _ _)) rfl ⟨trivial, trivial, trivial, hpd, hgd', trivial⟩ rfl ?_
    rintro c H' ⟨rfl, rfl⟩
    refine ⟨⟨trivial, trivial, trivial, hpd, hgd', trivial⟩, ?_⟩
    (conv => whnf)
    exact RetA.gc [(0, false), (1, true), (2, true), (3, true), (4, true), (5, true), (67, true)] rfl ⟨trivial, trivial, trivial, hpd, trivial, hgd', trivial⟩ (wHg_at (s := { s with l0 := l', gs := (s.gs ++ [⟨gw, ⟨g1, g2, g3, g4, g5⟩, gag, ge, gu⟩]) }) f _ (by exact trivial) hJ hps (bn_app _ _) rfl (by rw [List.length_append]; rfl) rfl (gcells_app _ _) rfl)
theorem a_hear2_1_00 (t : Nat) (ht : t < 150) (s : St) (f : Int) (H : Inv t s) (k h w n : Int) (hk : 0 ≤ k ∧ k < 256) (hh : 0 ≤ h ∧ h < 256) (hw : 0 ≤ w ∧ w < 256) (hn : 0 ≤ n ∧ n < 256) (h6 : k % 6 = 2) (h3 : w % 3 = 1) (hps : s.ps = []) (hgs : s.gs = []) :
  CallA Try.prog 10 [.ptr 0 0, .agg [.int .u8 k, .int .u8 h, .int .u8 w, .int .u8 n]] (wH s f) (ActK t f) := by
  refine callA_of ok10 (Nat.le_of_ble_eq_true rfl) ?_
  have hmin : IntKind.i64.min = -9223372036854775808 := rfl
  have hmax : IntKind.i64.max = 9223372036854775807 := rfl
  have t6 : k.tmod 6 = 2 := tm6 hk.1 h6
  have hpd := pcells_noLoc s.ps
  have hgd := gcells_noLoc s.gs
  have nps := H.np
  have ngs := H.ng
  have t3 : w.tmod 3 = 1 := tm3 hw.1 h3
  have hm3 : h.tmod 3 = h % 3 := tm3 hh.1 rfl
  have stay : ActK t f (.bool true) (wH s f) := ⟨rfl, s, H.up, .inl rfl⟩
  unfold wH at stay ⊢
  rw [hps, hgs] at stay ⊢
  repeat' ((conv => whnf); first
      | refine Branch.ofT rfl ?_
      | refine Branch.ofF rfl ?_
      | refine Branch.ofT (decide_eq_true t6) ?_
      | refine Branch.ofF (decide_eq_false (by rw [t6]; decide)) ?_
      | refine Branch.ofF (decide_eq_false (by omega)) ?_
      | (rw [hm3]; refine Side.mk ?_ ?_; · omega)
      | (rw [t3]; refine Side.mk ?_ ?_; · omega)
      | (rw [hmin, hmax]; refine Side.mk ?_ ?_; · omega)
      | refine Branch.dec (fun h => ?_) (fun h => ?_)
      | refine Branch.negdec (fun h => ?_) (fun h => ?_)
      | refine Branch.neg (fun h => ?_) (fun h => ?_)
      | refine Branch.mk (fun h => ?_) (fun h => ?_)
      | (refine Side.mk ?_ ?_; · first | omega | decide)
      | (refine SideD.mk ?_ ?_; · first | omega | decide)
      | refine ⟨_, Nat.lt_succ_self _, To.refl (.inl ⟨rfl, ?_⟩)⟩
      | refine takeK_at5 hat ?_
      | refine QCallA.of h17 rfl rfl ?_
      | (refine Side.mk ?_ ?_; · exact ⟨by simp [fits], by intro c hc; simp at hc; rcases hc with rfl | rfl | rfl | rfl | rfl <;> rfl⟩)
      | (refine Side.mk ?_ ?_; · (simp only [if_true]; split <;> omega))
      | (refine Side.mk ?_ ?_; · ((repeat' apply And.intro) <;> first | omega | rfl | exact Nat.zero_le _ | (simp only [pcells_len, gcells_len]; done) | (simp only [fits]; omega) | (simp only [List.length_append, List.length_cons, List.length_nil, pcells_len, gcells_len, rep]; omega) | (repeat' first | exact pcells_scal _ | exact gcells_scal _ | exact scal_nil | apply scal_int | apply scal_bool | apply scal_take)))
      | (refine Side.mk ?_ ?_; · (simp; done))
      | fail
      )
  all_goals (conv => whnf)
  · exact RetA.gc [(0, false), (1, true), (2, true), (3, true), (4, true), (5, true)] rfl ⟨trivial, trivial, trivial, trivial, trivial, trivial⟩ stay
theorem a_hear2_1_01 (t : Nat) (ht : t < 150) (s : St) (f : Int) (H : Inv t s) (k h w n : Int) (hk : 0 ≤ k ∧ k < 256) (hh : 0 ≤ h ∧ h < 256) (hw : 0 ≤ w ∧ w < 256) (hn : 0 ≤ n ∧ n < 256) (h6 : k % 6 = 2) (h3 : w % 3 = 1) (hps : s.ps = []) (hgs : bn s.gs = true) :
  CallA Try.prog 10 [.ptr 0 0, .agg [.int .u8 k, .int .u8 h, .int .u8 w, .int .u8 n]] (wH s f) (ActK t f) := by
  refine callA_of ok10 (Nat.le_of_ble_eq_true rfl) ?_
  have hmin : IntKind.i64.min = -9223372036854775808 := rfl
  have hmax : IntKind.i64.max = 9223372036854775807 := rfl
  have t6 : k.tmod 6 = 2 := tm6 hk.1 h6
  have hpd := pcells_noLoc s.ps
  have hgd := gcells_noLoc s.gs
  have nps := H.np
  have ngs := H.ng
  have t3 : w.tmod 3 = 1 := tm3 hw.1 h3
  have hm3 : h.tmod 3 = h % 3 := tm3 hh.1 rfl
  have stay : ActK t f (.bool true) (wH s f) := ⟨rfl, s, H.up, .inl rfl⟩
  unfold wH at stay ⊢
  rw [hps, hgs] at stay ⊢
  repeat' ((conv => whnf); first
      | refine Branch.ofT rfl ?_
      | refine Branch.ofF rfl ?_
      | refine Branch.ofT (decide_eq_true t6) ?_
      | refine Branch.ofF (decide_eq_false (by rw [t6]; decide)) ?_
      | refine Branch.ofF (decide_eq_false (by omega)) ?_
      | (rw [hm3]; refine Side.mk ?_ ?_; · omega)
      | (rw [t3]; refine Side.mk ?_ ?_; · omega)
      | (rw [hmin, hmax]; refine Side.mk ?_ ?_; · omega)
      | refine Branch.dec (fun h => ?_) (fun h => ?_)
      | refine Branch.negdec (fun h => ?_) (fun h => ?_)
      | refine Branch.neg (fun h => ?_) (fun h => ?_)
      | refine Branch.mk (fun h => ?_) (fun h => ?_)
      | (refine Side.mk ?_ ?_; · first | omega | decide)
      | (refine SideD.mk ?_ ?_; · first | omega | decide)
      | refine ⟨_, Nat.lt_succ_self _, To.refl (.inl ⟨rfl, ?_⟩)⟩
      | refine takeK_at5 hat ?_
      | refine QCallA.of h17 rfl rfl ?_
      | (refine Side.mk ?_ ?_; · exact ⟨by simp [fits], by intro c hc; simp at hc; rcases hc with rfl | rfl | rfl | rfl | rfl <;> rfl⟩)
      | (refine Side.mk ?_ ?_; · (simp only [if_true]; split <;> omega))
      | (refine Side.mk ?_ ?_; · ((repeat' apply And.intro) <;> first | omega | rfl | exact Nat.zero_le _ | (simp only [pcells_len, gcells_len]; done) | (simp only [fits]; omega) | (simp only [List.length_append, List.length_cons, List.length_nil, pcells_len, gcells_len, rep]; omega) | (repeat' first | exact pcells_scal _ | exact gcells_scal _ | exact scal_nil | apply scal_int | apply scal_bool | apply scal_take)))
      | (refine Side.mk ?_ ?_; · (simp; done))
      | fail
      )
  all_goals (conv => whnf)
  · exact RetA.gc [(0, false), (1, true), (2, true), (3, true), (4, true), (5, true)] rfl ⟨trivial, trivial, trivial, trivial, hgd, trivial⟩ stay
theorem a_hear2_1_10 (t : Nat) (ht : t < 150) (s : St) (f : Int) (H : Inv t s) (k h w n : Int) (hk : 0 ≤ k ∧ k < 256) (hh : 0 ≤ h ∧ h < 256) (hw : 0 ≤ w ∧ w < 256) (hn : 0 ≤ n ∧ n < 256) (h6 : k % 6 = 2) (h3 : w % 3 = 1) (hps : bn s.ps = true) (hgs : s.gs = []) :
  CallA Try.prog 10 [.ptr 0 0, .agg [.int .u8 k, .int .u8 h, .int .u8 w, .int .u8 n]] (wH s f) (ActK t f) := by
  refine callA_of ok10 (Nat.le_of_ble_eq_true rfl) ?_
  have hmin : IntKind.i64.min = -9223372036854775808 := rfl
  have hmax : IntKind.i64.max = 9223372036854775807 := rfl
  have t6 : k.tmod 6 = 2 := tm6 hk.1 h6
  have hpd := pcells_noLoc s.ps
  have hgd := gcells_noLoc s.gs
  have nps := H.np
  have ngs := H.ng
  have t3 : w.tmod 3 = 1 := tm3 hw.1 h3
  have hm3 : h.tmod 3 = h % 3 := tm3 hh.1 rfl
  have stay : ActK t f (.bool true) (wH s f) := ⟨rfl, s, H.up, .inl rfl⟩
  have npos : 0 < s.ps.length := by cases e : s.ps with
    | nil => rw [e] at hps; cases hps
    | cons p r => simp
  have hq0 : 0 ≤ n % (s.ps.length : Int) := Int.emod_nonneg _ (by omega)
  have hq1 : n % (s.ps.length : Int) < s.ps.length := Int.emod_lt_of_pos _ (by omega)
  obtain ⟨p, hpm, R, hat⟩ := pick_p s.ps n hq0 hq1
  have h17 := c17 1 s.l1 none p (kept1_of H.l1.shape)
  obtain ⟨l', hE, hsh, hkp⟩ := hear_shape (w := 1) H.l1.shape (H.ps p hpm)
  obtain ⟨hW, hG⟩ := hear_ok H.up.l1 (by omega) (H.up.ps p hpm) hsh hkp
  have hgw : (graK 1 (kp s.l1) p).w = 1 := rfl
  rw [hE] at h17
  clear hE hkp
  generalize graK 1 (kp s.l1) p = g at h17 hW hG hgw
  have fin : ∀ (G : List Gra), G = s.gs ++ [g] → Inv (t + 1) { s with l1 := l', gs := G } := fun G hGG => by
    subst hGG
    exact { a := H.up.a.mono, b := H.up.b.mono, c := H.up.c.mono, l0 := H.up.l0.mono (by omega), l1 := hW, l2 := H.up.l2.mono (by omega), ps := H.up.ps, gs := (fun x hx => (List.mem_append.1 hx).elim (H.up.gs x) (fun hx => by simp at hx; subst hx; exact hG)), bk := H.bk.mono, np := H.up.np, ng := (by simp; omega) }
  obtain ⟨gw, ⟨g1, g2, g3, g4, g5⟩, gag, ge, gu⟩ := g
  unfold wH at stay ⊢
  rw [hps, hgs] at stay ⊢
  repeat' ((conv => whnf); first
      | refine Branch.ofT rfl ?_
      | refine Branch.ofF rfl ?_
      | refine Branch.ofT (decide_eq_true t6) ?_
      | refine Branch.ofF (decide_eq_false (by rw [t6]; decide)) ?_
      | refine Branch.ofF (decide_eq_false (by omega)) ?_
      | (rw [hm3]; refine Side.mk ?_ ?_; · omega)
      | (rw [t3]; refine Side.mk ?_ ?_; · omega)
      | (rw [hmin, hmax]; refine Side.mk ?_ ?_; · omega)
      | refine Branch.dec (fun h => ?_) (fun h => ?_)
      | refine Branch.negdec (fun h => ?_) (fun h => ?_)
      | refine Branch.neg (fun h => ?_) (fun h => ?_)
      | refine Branch.mk (fun h => ?_) (fun h => ?_)
      | (refine Side.mk ?_ ?_; · first | omega | decide)
      | (refine SideD.mk ?_ ?_; · first | omega | decide)
      | refine ⟨_, Nat.lt_succ_self _, To.refl (.inl ⟨rfl, ?_⟩)⟩
      | refine takeK_at5 hat ?_
      | refine QCallA.of h17 rfl rfl ?_
      | (refine Side.mk ?_ ?_; · exact ⟨by simp [fits], by intro c hc; simp at hc; rcases hc with rfl | rfl | rfl | rfl | rfl <;> rfl⟩)
      | (refine Side.mk ?_ ?_; · (simp only [if_true]; split <;> omega))
      | (refine Side.mk ?_ ?_; · ((repeat' apply And.intro) <;> first | omega | rfl | exact Nat.zero_le _ | (simp only [pcells_len, gcells_len]; done) | (simp only [fits]; omega) | (simp only [List.length_append, List.length_cons, List.length_nil, pcells_len, gcells_len, rep]; omega) | (repeat' first | exact pcells_scal _ | exact gcells_scal _ | exact scal_nil | apply scal_int | apply scal_bool | apply scal_take)))
      | (refine Side.mk ?_ ?_; · (simp; done))
      | fail
      )
  all_goals (conv => whnf)
  · exact RetA.gc [(0, false), (1, true), (2, true), (3, true), (4, true), (5, true)] rfl ⟨trivial, trivial, trivial, hpd, trivial, trivial⟩ stay
  · have hJ := fin [⟨gw, ⟨g1, g2, g3, g4, g5⟩, gag, ge, gu⟩] (by first | rfl | (rw [hgs]; rfl))
    have hgd' := gcells_noLoc [⟨gw, ⟨g1, g2, g3, g4, g5⟩, gag, ge, gu⟩]
    refine CallA.lend [(0, false), (1, true), (2, true), (3, true), (4, true), (67, true)] (c29_at (s := { s with l1 := l', gs := [⟨gw, ⟨g1, g2, g3, g4, g5⟩, gag, ge, gu⟩] }) f hJ hps rfl rfl rfl rfl rfl) rfl ⟨trivial, trivial, trivial, hpd, hgd', trivial⟩ rfl ?_
    rintro c H' ⟨rfl, rfl⟩
    refine ⟨⟨trivial, trivial, trivial, hpd, hgd', trivial⟩, ?_⟩
    (conv => whnf)
    exact RetA.gc [(0, false), (1, true), (2, true), (3, true), (4, true), (5, true), (67, true)] rfl ⟨trivial, trivial, trivial, hpd, trivial, hgd', trivial⟩ (wHg_at (s := { s with l1 := l', gs := [⟨gw, ⟨g1, g2, g3, g4, g5⟩, gag, ge, gu⟩] }) f _ (by exact trivial) hJ hps rfl rfl rfl rfl rfl rfl)
theorem a_hear2_1_11 (t : Nat) (ht : t < 150) (s : St) (f : Int) (H : Inv t s) (k h w n : Int) (hk : 0 ≤ k ∧ k < 256) (hh : 0 ≤ h ∧ h < 256) (hw : 0 ≤ w ∧ w < 256) (hn : 0 ≤ n ∧ n < 256) (h6 : k % 6 = 2) (h3 : w % 3 = 1) (hps : bn s.ps = true) (hgs : bn s.gs = true) :
  CallA Try.prog 10 [.ptr 0 0, .agg [.int .u8 k, .int .u8 h, .int .u8 w, .int .u8 n]] (wH s f) (ActK t f) := by
  refine callA_of ok10 (Nat.le_of_ble_eq_true rfl) ?_
  have hmin : IntKind.i64.min = -9223372036854775808 := rfl
  have hmax : IntKind.i64.max = 9223372036854775807 := rfl
  have t6 : k.tmod 6 = 2 := tm6 hk.1 h6
  have hpd := pcells_noLoc s.ps
  have hgd := gcells_noLoc s.gs
  have nps := H.np
  have ngs := H.ng
  have t3 : w.tmod 3 = 1 := tm3 hw.1 h3
  have hm3 : h.tmod 3 = h % 3 := tm3 hh.1 rfl
  have stay : ActK t f (.bool true) (wH s f) := ⟨rfl, s, H.up, .inl rfl⟩
  have npos : 0 < s.ps.length := by cases e : s.ps with
    | nil => rw [e] at hps; cases hps
    | cons p r => simp
  have hq0 : 0 ≤ n % (s.ps.length : Int) := Int.emod_nonneg _ (by omega)
  have hq1 : n % (s.ps.length : Int) < s.ps.length := Int.emod_lt_of_pos _ (by omega)
  obtain ⟨p, hpm, R, hat⟩ := pick_p s.ps n hq0 hq1
  have h17 := c17 1 s.l1 none p (kept1_of H.l1.shape)
  obtain ⟨l', hE, hsh, hkp⟩ := hear_shape (w := 1) H.l1.shape (H.ps p hpm)
  obtain ⟨hW, hG⟩ := hear_ok H.up.l1 (by omega) (H.up.ps p hpm) hsh hkp
  have hgw : (graK 1 (kp s.l1) p).w = 1 := rfl
  rw [hE] at h17
  clear hE hkp
  generalize graK 1 (kp s.l1) p = g at h17 hW hG hgw
  have fin : ∀ (G : List Gra), G = s.gs ++ [g] → Inv (t + 1) { s with l1 := l', gs := G } := fun G hGG => by
    subst hGG
    exact { a := H.up.a.mono, b := H.up.b.mono, c := H.up.c.mono, l0 := H.up.l0.mono (by omega), l1 := hW, l2 := H.up.l2.mono (by omega), ps := H.up.ps, gs := (fun x hx => (List.mem_append.1 hx).elim (H.up.gs x) (fun hx => by simp at hx; subst hx; exact hG)), bk := H.bk.mono, np := H.up.np, ng := (by simp; omega) }
  obtain ⟨gw, ⟨g1, g2, g3, g4, g5⟩, gag, ge, gu⟩ := g
  unfold wH at stay ⊢
  rw [hps, hgs] at stay ⊢
  repeat' ((conv => whnf); first
      | refine Branch.ofT rfl ?_
      | refine Branch.ofF rfl ?_
      | refine Branch.ofT (decide_eq_true t6) ?_
      | refine Branch.ofF (decide_eq_false (by rw [t6]; decide)) ?_
      | refine Branch.ofF (decide_eq_false (by omega)) ?_
      | (rw [hm3]; refine Side.mk ?_ ?_; · omega)
      | (rw [t3]; refine Side.mk ?_ ?_; · omega)
      | (rw [hmin, hmax]; refine Side.mk ?_ ?_; · omega)
      | refine Branch.dec (fun h => ?_) (fun h => ?_)
      | refine Branch.negdec (fun h => ?_) (fun h => ?_)
      | refine Branch.neg (fun h => ?_) (fun h => ?_)
      | refine Branch.mk (fun h => ?_) (fun h => ?_)
      | (refine Side.mk ?_ ?_; · first | omega | decide)
      | (refine SideD.mk ?_ ?_; · first | omega | decide)
      | refine ⟨_, Nat.lt_succ_self _, To.refl (.inl ⟨rfl, ?_⟩)⟩
      | refine takeK_at5 hat ?_
      | refine QCallA.of h17 rfl rfl ?_
      | (refine Side.mk ?_ ?_; · exact ⟨by simp [fits], by intro c hc; simp at hc; rcases hc with rfl | rfl | rfl | rfl | rfl <;> rfl⟩)
      | (refine Side.mk ?_ ?_; · (simp only [if_true]; split <;> omega))
      | (refine Side.mk ?_ ?_; · ((repeat' apply And.intro) <;> first | omega | rfl | exact Nat.zero_le _ | (simp only [pcells_len, gcells_len]; done) | (simp only [fits]; omega) | (simp only [List.length_append, List.length_cons, List.length_nil, pcells_len, gcells_len, rep]; omega) | (repeat' first | exact pcells_scal _ | exact gcells_scal _ | exact scal_nil | apply scal_int | apply scal_bool | apply scal_take)))
      | (refine Side.mk ?_ ?_; · (simp; done))
      | fail
      )
  all_goals (conv => whnf)
  · exact RetA.gc [(0, false), (1, true), (2, true), (3, true), (4, true), (5, true)] rfl ⟨trivial, trivial, trivial, hpd, hgd, trivial⟩ stay
  · have hJ := fin (s.gs ++ [⟨gw, ⟨g1, g2, g3, g4, g5⟩, gag, ge, gu⟩]) (by first | rfl | (rw [hgs]; rfl))
    have hgd' := gcells_noLoc (s.gs ++ [⟨gw, ⟨g1, g2, g3, g4, g5⟩, gag, ge, gu⟩])
    rw [gcells_app] at hgd'
    refine CallA.lend [(0, false), (1, true), (2, true), (3, true), (4, true), (67, true)] (c29_at (s := { s with l1 := l', gs := (s.gs ++ [⟨gw, ⟨g1, g2, g3, g4, g5⟩, gag, ge, gu⟩]) }) f hJ hps (bn_app _ _) rfl (by rw [List.length_append]; rfl) rfl (gcells_app _ _)) rfl ⟨trivial, trivial, trivial, hpd, hgd', trivial⟩ rfl ?_
    rintro c H' ⟨rfl, rfl⟩
    refine ⟨⟨trivial, trivial, trivial, hpd, hgd', trivial⟩, ?_⟩
    (conv => whnf)
    exact RetA.gc [(0, false), (1, true), (2, true), (3, true), (4, true), (5, true), (67, true)] rfl ⟨trivial, trivial, trivial, hpd, trivial, hgd', trivial⟩ (wHg_at (s := { s with l1 := l', gs := (s.gs ++ [⟨gw, ⟨g1, g2, g3, g4, g5⟩, gag, ge, gu⟩]) }) f _ (by exact trivial) hJ hps (bn_app _ _) rfl (by rw [List.length_append]; rfl) rfl (gcells_app _ _) rfl)
theorem a_hear2_2_00 (t : Nat) (ht : t < 150) (s : St) (f : Int) (H : Inv t s) (k h w n : Int) (hk : 0 ≤ k ∧ k < 256) (hh : 0 ≤ h ∧ h < 256) (hw : 0 ≤ w ∧ w < 256) (hn : 0 ≤ n ∧ n < 256) (h6 : k % 6 = 2) (h3 : w % 3 = 2) (hps : s.ps = []) (hgs : s.gs = []) :
  CallA Try.prog 10 [.ptr 0 0, .agg [.int .u8 k, .int .u8 h, .int .u8 w, .int .u8 n]] (wH s f) (ActK t f) := by
  refine callA_of ok10 (Nat.le_of_ble_eq_true rfl) ?_
  have hmin : IntKind.i64.min = -9223372036854775808 := rfl
  have hmax : IntKind.i64.max = 9223372036854775807 := rfl
  have t6 : k.tmod 6 = 2 := tm6 hk.1 h6
  have hpd := pcells_noLoc s.ps
  have hgd := gcells_noLoc s.gs
  have nps := H.np
  have ngs := H.ng
  have t3 : w.tmod 3 = 2 := tm3 hw.1 h3
  have hm3 : h.tmod 3 = h % 3 := tm3 hh.1 rfl
  have stay : ActK t f (.bool true) (wH s f) := ⟨rfl, s, H.up, .inl rfl⟩
  unfold wH at stay ⊢
  rw [hps, hgs] at stay ⊢
  repeat' ((conv => whnf); first
      | refine Branch.ofT rfl ?_
      | refine Branch.ofF rfl ?_
      | refine Branch.ofT (decide_eq_true t6) ?_
      | refine Branch.ofF (decide_eq_false (by rw [t6]; decide)) ?_
      | refine Branch.ofF (decide_eq_false (by omega)) ?_
      | (rw [hm3]; refine Side.mk ?_ ?_; · omega)
      | (rw [t3]; refine Side.mk ?_ ?_; · omega)
      | (rw [hmin, hmax]; refine Side.mk ?_ ?_; · omega)
      | refine Branch.dec (fun h => ?_) (fun h => ?_)
      | refine Branch.negdec (fun h => ?_) (fun h => ?_)
      | refine Branch.neg (fun h => ?_) (fun h => ?_)
      | refine Branch.mk (fun h => ?_) (fun h => ?_)
      | (refine Side.mk ?_ ?_; · first | omega | decide)
      | (refine SideD.mk ?_ ?_; · first | omega | decide)
      | refine ⟨_, Nat.lt_succ_self _, To.refl (.inl ⟨rfl, ?_⟩)⟩
      | refine takeK_at5 hat ?_
      | refine QCallA.of h17 rfl rfl ?_
      | (refine Side.mk ?_ ?_; · exact ⟨by simp [fits], by intro c hc; simp at hc; rcases hc with rfl | rfl | rfl | rfl | rfl <;> rfl⟩)
      | (refine Side.mk ?_ ?_; · (simp only [if_true]; split <;> omega))
      | (refine Side.mk ?_ ?_; · ((repeat' apply And.intro) <;> first | omega | rfl | exact Nat.zero_le _ | (simp only [pcells_len, gcells_len]; done) | (simp only [fits]; omega) | (simp only [List.length_append, List.length_cons, List.length_nil, pcells_len, gcells_len, rep]; omega) | (repeat' first | exact pcells_scal _ | exact gcells_scal _ | exact scal_nil | apply scal_int | apply scal_bool | apply scal_take)))
      | (refine Side.mk ?_ ?_; · (simp; done))
      | fail
      )
  all_goals (conv => whnf)
  · exact RetA.gc [(0, false), (1, true), (2, true), (3, true), (4, true), (5, true)] rfl ⟨trivial, trivial, trivial, trivial, trivial, trivial⟩ stay
theorem a_hear2_2_01 (t : Nat) (ht : t < 150) (s : St) (f : Int) (H : Inv t s) (k h w n : Int) (hk : 0 ≤ k ∧ k < 256) (hh : 0 ≤ h ∧ h < 256) (hw : 0 ≤ w ∧ w < 256) (hn : 0 ≤ n ∧ n < 256) (h6 : k % 6 = 2) (h3 : w % 3 = 2) (hps : s.ps = []) (hgs : bn s.gs = true) :
  CallA Try.prog 10 [.ptr 0 0, .agg [.int .u8 k, .int .u8 h, .int .u8 w, .int .u8 n]] (wH s f) (ActK t f) := by
  refine callA_of ok10 (Nat.le_of_ble_eq_true rfl) ?_
  have hmin : IntKind.i64.min = -9223372036854775808 := rfl
  have hmax : IntKind.i64.max = 9223372036854775807 := rfl
  have t6 : k.tmod 6 = 2 := tm6 hk.1 h6
  have hpd := pcells_noLoc s.ps
  have hgd := gcells_noLoc s.gs
  have nps := H.np
  have ngs := H.ng
  have t3 : w.tmod 3 = 2 := tm3 hw.1 h3
  have hm3 : h.tmod 3 = h % 3 := tm3 hh.1 rfl
  have stay : ActK t f (.bool true) (wH s f) := ⟨rfl, s, H.up, .inl rfl⟩
  unfold wH at stay ⊢
  rw [hps, hgs] at stay ⊢
  repeat' ((conv => whnf); first
      | refine Branch.ofT rfl ?_
      | refine Branch.ofF rfl ?_
      | refine Branch.ofT (decide_eq_true t6) ?_
      | refine Branch.ofF (decide_eq_false (by rw [t6]; decide)) ?_
      | refine Branch.ofF (decide_eq_false (by omega)) ?_
      | (rw [hm3]; refine Side.mk ?_ ?_; · omega)
      | (rw [t3]; refine Side.mk ?_ ?_; · omega)
      | (rw [hmin, hmax]; refine Side.mk ?_ ?_; · omega)
      | refine Branch.dec (fun h => ?_) (fun h => ?_)
      | refine Branch.negdec (fun h => ?_) (fun h => ?_)
      | refine Branch.neg (fun h => ?_) (fun h => ?_)
      | refine Branch.mk (fun h => ?_) (fun h => ?_)
      | (refine Side.mk ?_ ?_; · first | omega | decide)
      | (refine SideD.mk ?_ ?_; · first | omega | decide)
      | refine ⟨_, Nat.lt_succ_self _, To.refl (.inl ⟨rfl, ?_⟩)⟩
      | refine takeK_at5 hat ?_
      | refine QCallA.of h17 rfl rfl ?_
      | (refine Side.mk ?_ ?_; · exact ⟨by simp [fits], by intro c hc; simp at hc; rcases hc with rfl | rfl | rfl | rfl | rfl <;> rfl⟩)
      | (refine Side.mk ?_ ?_; · (simp only [if_true]; split <;> omega))
      | (refine Side.mk ?_ ?_; · ((repeat' apply And.intro) <;> first | omega | rfl | exact Nat.zero_le _ | (simp only [pcells_len, gcells_len]; done) | (simp only [fits]; omega) | (simp only [List.length_append, List.length_cons, List.length_nil, pcells_len, gcells_len, rep]; omega) | (repeat' first | exact pcells_scal _ | exact gcells_scal _ | exact scal_nil | apply scal_int | apply scal_bool | apply scal_take)))
      | (refine Side.mk ?_ ?_; · (simp; done))
      | fail
      )
  all_goals (conv => whnf)
  · exact RetA.gc [(0, false), (1, true), (2, true), (3, true), (4, true), (5, true)] rfl ⟨trivial, trivial, trivial, trivial, hgd, trivial⟩ stay
theorem a_hear2_2_10 (t : Nat) (ht : t < 150) (s : St) (f : Int) (H : Inv t s) (k h w n : Int) (hk : 0 ≤ k ∧ k < 256) (hh : 0 ≤ h ∧ h < 256) (hw : 0 ≤ w ∧ w < 256) (hn : 0 ≤ n ∧ n < 256) (h6 : k % 6 = 2) (h3 : w % 3 = 2) (hps : bn s.ps = true) (hgs : s.gs = []) :
  CallA Try.prog 10 [.ptr 0 0, .agg [.int .u8 k, .int .u8 h, .int .u8 w, .int .u8 n]] (wH s f) (ActK t f) := by
  refine callA_of ok10 (Nat.le_of_ble_eq_true rfl) ?_
  have hmin : IntKind.i64.min = -9223372036854775808 := rfl
  have hmax : IntKind.i64.max = 9223372036854775807 := rfl
  have t6 : k.tmod 6 = 2 := tm6 hk.1 h6
  have hpd := pcells_noLoc s.ps
  have hgd := gcells_noLoc s.gs
  have nps := H.np
  have ngs := H.ng
  have t3 : w.tmod 3 = 2 := tm3 hw.1 h3
  have hm3 : h.tmod 3 = h % 3 := tm3 hh.1 rfl
  have stay : ActK t f (.bool true) (wH s f) := ⟨rfl, s, H.up, .inl rfl⟩
  have npos : 0 < s.ps.length := by cases e : s.ps with
    | nil => rw [e] at hps; cases hps
    | cons p r => simp
  have hq0 : 0 ≤ n % (s.ps.length : Int) := Int.emod_nonneg _ (by omega)
  have hq1 : n % (s.ps.length : Int) < s.ps.length := Int.emod_lt_of_pos _ (by omega)
  obtain ⟨p, hpm, R, hat⟩ := pick_p s.ps n hq0 hq1
  have h17 := c17 2 s.l2 none p (kept1_of H.l2.shape)
  obtain ⟨l', hE, hsh, hkp⟩ := hear_shape (w := 2) H.l2.shape (H.ps p hpm)
  obtain ⟨hW, hG⟩ := hear_ok H.up.l2 (by omega) (H.up.ps p hpm) hsh hkp
  have hgw : (graK 2 (kp s.l2) p).w = 2 := rfl
  rw [hE] at h17
  clear hE hkp
  generalize graK 2 (kp s.l2) p = g at h17 hW hG hgw
  have fin : ∀ (G : List Gra), G = s.gs ++ [g] → Inv (t + 1) { s with l2 := l', gs := G } := fun G hGG => by
    subst hGG
    exact { a := H.up.a.mono, b := H.up.b.mono, c := H.up.c.mono, l0 := H.up.l0.mono (by omega), l1 := H.up.l1.mono (by omega), l2 := hW, ps := H.up.ps, gs := (fun x hx => (List.mem_append.1 hx).elim (H.up.gs x) (fun hx => by simp at hx; subst hx; exact hG)), bk := H.bk.mono, np := H.up.np, ng := (by simp; omega) }
  obtain ⟨gw, ⟨g1, g2, g3, g4, g5⟩, gag, ge, gu⟩ := g
  unfold wH at stay ⊢
  rw [hps, hgs] at stay ⊢
  repeat' ((conv => whnf); first
      | refine Branch.ofT rfl ?_
      | refine Branch.ofF rfl ?_
      | refine Branch.ofT (decide_eq_true t6) ?_
      | refine Branch.ofF (decide_eq_false (by rw [t6]; decide)) ?_
      | refine Branch.ofF (decide_eq_false (by omega)) ?_
      | (rw [hm3]; refine Side.mk ?_ ?_; · omega)
      | (rw [t3]; refine Side.mk ?_ ?_; · omega)
      | (rw [hmin, hmax]; refine Side.mk ?_ ?_; · omega)
      | refine Branch.dec (fun h => ?_) (fun h => ?_)
      | refine Branch.negdec (fun h => ?_) (fun h => ?_)
      | refine Branch.neg (fun h => ?_) (fun h => ?_)
      | refine Branch.mk (fun h => ?_) (fun h => ?_)
      | (refine Side.mk ?_ ?_; · first | omega | decide)
      | (refine SideD.mk ?_ ?_; · first | omega | decide)
      | refine ⟨_, Nat.lt_succ_self _, To.refl (.inl ⟨rfl, ?_⟩)⟩
      | refine takeK_at5 hat ?_
      | refine QCallA.of h17 rfl rfl ?_
      | (refine Side.mk ?_ ?_; · exact ⟨by simp [fits], by intro c hc; simp at hc; rcases hc with rfl | rfl | rfl | rfl | rfl <;> rfl⟩)
      | (refine Side.mk ?_ ?_; · (simp only [if_true]; split <;> omega))
      | (refine Side.mk ?_ ?_; · ((repeat' apply And.intro) <;> first | omega | rfl | exact Nat.zero_le _ | (simp only [pcells_len, gcells_len]; done) | (simp only [fits]; omega) | (simp only [List.length_append, List.length_cons, List.length_nil, pcells_len, gcells_len, rep]; omega) | (repeat' first | exact pcells_scal _ | exact gcells_scal _ | exact scal_nil | apply scal_int | apply scal_bool | apply scal_take)))
      | (refine Side.mk ?_ ?_; · (simp; done))
      | fail
      )
  all_goals (conv => whnf)
  · exact RetA.gc [(0, false), (1, true), (2, true), (3, true), (4, true), (5, true)] rfl ⟨trivial, trivial, trivial, hpd, trivial, trivial⟩ stay
  · have hJ := fin [⟨gw, ⟨g1, g2, g3, g4, g5⟩, gag, ge, gu⟩] (by first | rfl | (rw [hgs]; rfl))
    have hgd' := gcells_noLoc [⟨gw, ⟨g1, g2, g3, g4, g5⟩, gag, ge, gu⟩]
    refine CallA.lend [(0, false), (1, true), (2, true), (3, true), (4, true), (67, true)] (c29_at (s := { s with l2 := l', gs := [⟨gw, ⟨g1, g2, g3, g4, g5⟩, gag, ge, gu⟩] }) f hJ hps rfl rfl rfl rfl rfl) rfl ⟨trivial, trivial, trivial, hpd, hgd', trivial⟩ rfl ?_
    rintro c H' ⟨rfl, rfl⟩
    refine ⟨⟨trivial, trivial, trivial, hpd, hgd', trivial⟩, ?_⟩
    (conv => whnf)
    exact RetA.gc [(0, false), (1, true), (2, true), (3, true), (4, true), (5, true), (67, true)] rfl ⟨trivial, trivial, trivial, hpd, trivial, hgd', trivial⟩ (wHg_at (s := { s with l2 := l', gs := [⟨gw, ⟨g1, g2, g3, g4, g5⟩, gag, ge, gu⟩] }) f _ (by exact trivial) hJ hps rfl rfl rfl rfl rfl rfl)
theorem a_hear2_2_11 (t : Nat) (ht : t < 150) (s : St) (f : Int) (H : Inv t s) (k h w n : Int) (hk : 0 ≤ k ∧ k < 256) (hh : 0 ≤ h ∧ h < 256) (hw : 0 ≤ w ∧ w < 256) (hn : 0 ≤ n ∧ n < 256) (h6 : k % 6 = 2) (h3 : w % 3 = 2) (hps : bn s.ps = true) (hgs : bn s.gs = true) :
  CallA Try.prog 10 [.ptr 0 0, .agg [.int .u8 k, .int .u8 h, .int .u8 w, .int .u8 n]] (wH s f) (ActK t f) := by
  refine callA_of ok10 (Nat.le_of_ble_eq_true rfl) ?_
  have hmin : IntKind.i64.min = -9223372036854775808 := rfl
  have hmax : IntKind.i64.max = 9223372036854775807 := rfl
  have t6 : k.tmod 6 = 2 := tm6 hk.1 h6
  have hpd := pcells_noLoc s.ps
  have hgd := gcells_noLoc s.gs
  have nps := H.np
  have ngs := H.ng
  have t3 : w.tmod 3 = 2 := tm3 hw.1 h3
  have hm3 : h.tmod 3 = h % 3 := tm3 hh.1 rfl
  have stay : ActK t f (.bool true) (wH s f) := ⟨rfl, s, H.up, .inl rfl⟩
  have npos : 0 < s.ps.length := by cases e : s.ps with
    | nil => rw [e] at hps; cases hps
    | cons p r => simp
  have hq0 : 0 ≤ n % (s.ps.length : Int) := Int.emod_nonneg _ (by omega)
  have hq1 : n % (s.ps.length : Int) < s.ps.length := Int.emod_lt_of_pos _ (by omega)
  obtain ⟨p, hpm, R, hat⟩ := pick_p s.ps n hq0 hq1
  have h17 := c17 2 s.l2 none p (kept1_of H.l2.shape)
  obtain ⟨l', hE, hsh, hkp⟩ := hear_shape (w := 2) H.l2.shape (H.ps p hpm)
  obtain ⟨hW, hG⟩ := hear_ok H.up.l2 (by omega) (H.up.ps p hpm) hsh hkp
  have hgw : (graK 2 (kp s.l2) p).w = 2 := rfl
  rw [hE] at h17
  clear hE hkp
  generalize graK 2 (kp s.l2) p = g at h17 hW hG hgw
  have fin : ∀ (G : List Gra), G = s.gs ++ [g] → Inv (t + 1) { s with l2 := l', gs := G } := fun G hGG => by
    subst hGG
    exact { a := H.up.a.mono, b := H.up.b.mono, c := H.up.c.mono, l0 := H.up.l0.mono (by omega), l1 := H.up.l1.mono (by omega), l2 := hW, ps := H.up.ps, gs := (fun x hx => (List.mem_append.1 hx).elim (H.up.gs x) (fun hx => by simp at hx; subst hx; exact hG)), bk := H.bk.mono, np := H.up.np, ng := (by simp; omega) }
  obtain ⟨gw, ⟨g1, g2, g3, g4, g5⟩, gag, ge, gu⟩ := g
  unfold wH at stay ⊢
  rw [hps, hgs] at stay ⊢
  repeat' ((conv => whnf); first
      | refine Branch.ofT rfl ?_
      | refine Branch.ofF rfl ?_
      | refine Branch.ofT (decide_eq_true t6) ?_
      | refine Branch.ofF (decide_eq_false (by rw [t6]; decide)) ?_
      | refine Branch.ofF (decide_eq_false (by omega)) ?_
      | (rw [hm3]; refine Side.mk ?_ ?_; · omega)
      | (rw [t3]; refine Side.mk ?_ ?_; · omega)
      | (rw [hmin, hmax]; refine Side.mk ?_ ?_; · omega)
      | refine Branch.dec (fun h => ?_) (fun h => ?_)
      | refine Branch.negdec (fun h => ?_) (fun h => ?_)
      | refine Branch.neg (fun h => ?_) (fun h => ?_)
      | refine Branch.mk (fun h => ?_) (fun h => ?_)
      | (refine Side.mk ?_ ?_; · first | omega | decide)
      | (refine SideD.mk ?_ ?_; · first | omega | decide)
      | refine ⟨_, Nat.lt_succ_self _, To.refl (.inl ⟨rfl, ?_⟩)⟩
      | refine takeK_at5 hat ?_
      | refine QCallA.of h17 rfl rfl ?_
      | (refine Side.mk ?_ ?_; · exact ⟨by simp [fits], by intro c hc; simp at hc; rcases hc with rfl | rfl | rfl | rfl | rfl <;> rfl⟩)
      | (refine Side.mk ?_ ?_; · (simp only [if_true]; split <;> omega))
      | (refine Side.mk ?_ ?_; · ((repeat' apply And.intro) <;> first | omega | rfl | exact Nat.zero_le _ | (simp only [pcells_len, gcells_len]; done) | (simp only [fits]; omega) | (simp only [List.length_append, List.length_cons, List.length_nil, pcells_len, gcells_len, rep]; omega) | (repeat' first | exact pcells_scal _ | exact gcells_scal _ | exact scal_nil | apply scal_int | apply scal_bool | apply scal_take)))
      | (refine Side.mk ?_ ?_; · (simp; done))
      | fail
      )
  all_goals (conv => whnf)
  · exact RetA.gc [(0, false), (1, true), (2, true), (3, true), (4, true), (5, true)] rfl ⟨trivial, trivial, trivial, hpd, hgd, trivial⟩ stay
  · have hJ := fin (s.gs ++ [⟨gw, ⟨g1, g2, g3, g4, g5⟩, gag, ge, gu⟩]) (by first | rfl | (rw [hgs]; rfl))
    have hgd' := gcells_noLoc (s.gs ++ [⟨gw, ⟨g1, g2, g3, g4, g5⟩, gag, ge, gu⟩])
    rw [gcells_app] at hgd'
    refine CallA.lend [(0, false), (1, true), (2, true), (3, true), (4, true), (67, true)] (c29_at (s := { s with l2 := l', gs := (s.gs ++ [⟨gw, ⟨g1, g2, g3, g4, g5⟩, gag, ge, gu⟩]) }) f hJ hps (bn_app _ _) rfl (by rw [List.length_append]; rfl) rfl (gcells_app _ _)) rfl ⟨trivial, trivial, trivial, hpd, hgd', trivial⟩ rfl ?_
    rintro c H' ⟨rfl, rfl⟩
    refine ⟨⟨trivial, trivial, trivial, hpd, hgd', trivial⟩, ?_⟩
    (conv => whnf)
    exact RetA.gc [(0, false), (1, true), (2, true), (3, true), (4, true), (5, true), (67, true)] rfl ⟨trivial, trivial, trivial, hpd, trivial, hgd', trivial⟩ (wHg_at (s := { s with l2 := l', gs := (s.gs ++ [⟨gw, ⟨g1, g2, g3, g4, g5⟩, gag, ge, gu⟩]) }) f _ (by exact trivial) hJ hps (bn_app _ _) rfl (by rw [List.length_append]; rfl) rfl (gcells_app _ _) rfl)
end Go.Proofs

namespace Go.Proofs
open Go Go.Eng
set_option maxRecDepth 100000
set_option maxHeartbeats 4000000
attribute [local irreducible] Hol.holds Hol.rel
theorem a_hear3_0_00 (t : Nat) (ht : t < 150) (s : St) (f : Int) (H : Inv t s) (k h w n : Int) (hk : 0 ≤ k ∧ k < 256) (hh : 0 ≤ h ∧ h < 256) (hw : 0 ≤ w ∧ w < 256) (hn : 0 ≤ n ∧ n < 256) (h6 : k % 6 = 3) (h3 : w % 3 = 0) (hps : s.ps = []) (hgs : s.gs = []) :
  CallA Try.prog 10 [.ptr 0 0, .agg [.int .u8 k, .int .u8 h, .int .u8 w, .int .u8 n]] (wH s f) (ActK t f) := by
  refine callA_of ok10 (Nat.le_of_ble_eq_true rfl) ?_
  have hmin : IntKind.i64.min = -9223372036854775808 := rfl
  have hmax : IntKind.i64.max = 9223372036854775807 := rfl
  have t6 : k.tmod 6 = 3 := tm6 hk.1 h6
  have hpd := pcells_noLoc s.ps
  have hgd := gcells_noLoc s.gs
  have nps := H.np
  have ngs := H.ng
  have t3 : w.tmod 3 = 0 := tm3 hw.1 h3
  have hm3 : h.tmod 3 = h % 3 := tm3 hh.1 rfl
  have stay : ActK t f (.bool true) (wH s f) := ⟨rfl, s, H.up, .inl rfl⟩
  unfold wH at stay ⊢
  rw [hps, hgs] at stay ⊢
  repeat' ((conv => whnf); first
      | refine Branch.ofT rfl ?_
      | refine Branch.ofF rfl ?_
      | refine Branch.ofT (decide_eq_true t6) ?_
      | refine Branch.ofF (decide_eq_false (by rw [t6]; decide)) ?_
      | refine Branch.ofF (decide_eq_false (by omega)) ?_
      | (rw [hm3]; refine Side.mk ?_ ?_; · omega)
      | (rw [t3]; refine Side.mk ?_ ?_; · omega)
      | (rw [hmin, hmax]; refine Side.mk ?_ ?_; · omega)
      | refine Branch.dec (fun h => ?_) (fun h => ?_)
      | refine Branch.negdec (fun h => ?_) (fun h => ?_)
      | refine Branch.neg (fun h => ?_) (fun h => ?_)
      | refine Branch.mk (fun h => ?_) (fun h => ?_)
      | (refine Side.mk ?_ ?_; · first | omega | decide)
      | (refine SideD.mk ?_ ?_; · first | omega | decide)
      | refine ⟨_, Nat.lt_succ_self _, To.refl (.inl ⟨rfl, ?_⟩)⟩
      | refine takeK_at5 hat ?_
      | refine QCallA.of h17 rfl rfl ?_
      | (refine Side.mk ?_ ?_; · exact ⟨by simp [fits], by intro c hc; simp at hc; rcases hc with rfl | rfl | rfl | rfl | rfl <;> rfl⟩)
      | (refine Side.mk ?_ ?_; · (simp only [if_true]; split <;> omega))
      | (refine Side.mk ?_ ?_; · ((repeat' apply And.intro) <;> first | omega | rfl | exact Nat.zero_le _ | (simp only [pcells_len, gcells_len]; done) | (simp only [fits]; omega) | (simp only [List.length_append, List.length_cons, List.length_nil, pcells_len, gcells_len, rep]; omega) | (repeat' first | exact pcells_scal _ | exact gcells_scal _ | exact scal_nil | apply scal_int | apply scal_bool | apply scal_take)))
      | (refine Side.mk ?_ ?_; · (simp; done))
      | fail
      )
  all_goals (conv => whnf)
  · exact RetA.gc [(0, false), (1, true), (2, true), (3, true), (4, true), (5, true)] rfl ⟨trivial, trivial, trivial, trivial, trivial, trivial⟩ stay
theorem a_hear3_0_01 (t : Nat) (ht : t < 150) (s : St) (f : Int) (H : Inv t s) (k h w n : Int) (hk : 0 ≤ k ∧ k < 256) (hh : 0 ≤ h ∧ h < 256) (hw : 0 ≤ w ∧ w < 256) (hn : 0 ≤ n ∧ n < 256) (h6 : k % 6 = 3) (h3 : w % 3 = 0) (hps : s.ps = []) (hgs : bn s.gs = true) :
  CallA Try.prog 10 [.ptr 0 0, .agg [.int .u8 k, .int .u8 h, .int .u8 w, .int .u8 n]] (wH s f) (ActK t f) := by
  refine callA_of ok10 (Nat.le_of_ble_eq_true rfl) ?_
  have hmin : IntKind.i64.min = -9223372036854775808 := rfl
  have hmax : IntKind.i64.max = 9223372036854775807 := rfl
  have t6 : k.tmod 6 = 3 := tm6 hk.1 h6
  have hpd := pcells_noLoc s.ps
  have hgd := gcells_noLoc s.gs
  have nps := H.np
  have ngs := H.ng
  have t3 : w.tmod 3 = 0 := tm3 hw.1 h3
  have hm3 : h.tmod 3 = h % 3 := tm3 hh.1 rfl
  have stay : ActK t f (.bool true) (wH s f) := ⟨rfl, s, H.up, .inl rfl⟩
  unfold wH at stay ⊢
  rw [hps, hgs] at stay ⊢
  repeat' ((conv => whnf); first
      | refine Branch.ofT rfl ?_
      | refine Branch.ofF rfl ?_
      | refine Branch.ofT (decide_eq_true t6) ?_
      | refine Branch.ofF (decide_eq_false (by rw [t6]; decide)) ?_
      | refine Branch.ofF (decide_eq_false (by omega)) ?_
      | (rw [hm3]; refine Side.mk ?_ ?_; · omega)
      | (rw [t3]; refine Side.mk ?_ ?_; · omega)
      | (rw [hmin, hmax]; refine Side.mk ?_ ?_; · omega)
      | refine Branch.dec (fun h => ?_) (fun h => ?_)
      | refine Branch.negdec (fun h => ?_) (fun h => ?_)
      | refine Branch.neg (fun h => ?_) (fun h => ?_)
      | refine Branch.mk (fun h => ?_) (fun h => ?_)
      | (refine Side.mk ?_ ?_; · first | omega | decide)
      | (refine SideD.mk ?_ ?_; · first | omega | decide)
      | refine ⟨_, Nat.lt_succ_self _, To.refl (.inl ⟨rfl, ?_⟩)⟩
      | refine takeK_at5 hat ?_
      | refine QCallA.of h17 rfl rfl ?_
      | (refine Side.mk ?_ ?_; · exact ⟨by simp [fits], by intro c hc; simp at hc; rcases hc with rfl | rfl | rfl | rfl | rfl <;> rfl⟩)
      | (refine Side.mk ?_ ?_; · (simp only [if_true]; split <;> omega))
      | (refine Side.mk ?_ ?_; · ((repeat' apply And.intro) <;> first | omega | rfl | exact Nat.zero_le _ | (simp only [pcells_len, gcells_len]; done) | (simp only [fits]; omega) | (simp only [List.length_append, List.length_cons, List.length_nil, pcells_len, gcells_len, rep]; omega) | (repeat' first | exact pcells_scal _ | exact gcells_scal _ | exact scal_nil | apply scal_int | apply scal_bool | apply scal_take)))
      | (refine Side.mk ?_ ?_; · (simp; done))
      | fail
      )
  all_goals (conv => whnf)
  · exact RetA.gc [(0, false), (1, true), (2, true), (3, true), (4, true), (5, true)] rfl ⟨trivial, trivial, trivial, trivial, hgd, trivial⟩ stay
theorem a_hear3_0_10 (t : Nat) (ht : t < 150) (s : St) (f : Int) (H : Inv t s) (k h w n : Int) (hk : 0 ≤ k ∧ k < 256) (hh : 0 ≤ h ∧ h < 256) (hw : 0 ≤ w ∧ w < 256) (hn : 0 ≤ n ∧ n < 256) (h6 : k % 6 = 3) (h3 : w % 3 = 0) (hps : bn s.ps = true) (hgs : s.gs = []) :
  CallA Try.prog 10 [.ptr 0 0, .agg [.int .u8 k, .int .u8 h, .int .u8 w, .int .u8 n]] (wH s f) (ActK t f) := by
  refine callA_of ok10 (Nat.le_of_ble_eq_true rfl) ?_
  have hmin : IntKind.i64.min = -9223372036854775808 := rfl
  have hmax : IntKind.i64.max = 9223372036854775807 := rfl
  have t6 : k.tmod 6 = 3 := tm6 hk.1 h6
  have hpd := pcells_noLoc s.ps
  have hgd := gcells_noLoc s.gs
  have nps := H.np
  have ngs := H.ng
  have t3 : w.tmod 3 = 0 := tm3 hw.1 h3
  have hm3 : h.tmod 3 = h % 3 := tm3 hh.1 rfl
  have stay : ActK t f (.bool true) (wH s f) := ⟨rfl, s, H.up, .inl rfl⟩
  have npos : 0 < s.ps.length := by cases e : s.ps with
    | nil => rw [e] at hps; cases hps
    | cons p r => simp
  have hq0 : 0 ≤ n % (s.ps.length : Int) := Int.emod_nonneg _ (by omega)
  have hq1 : n % (s.ps.length : Int) < s.ps.length := Int.emod_lt_of_pos _ (by omega)
  obtain ⟨p, hpm, R, hat⟩ := pick_p s.ps n hq0 hq1
  have h17 := c17 0 s.l0 none p (kept1_of H.l0.shape)
  obtain ⟨l', hE, hsh, hkp⟩ := hear_shape (w := 0) H.l0.shape (H.ps p hpm)
  obtain ⟨hW, hG⟩ := hear_ok H.up.l0 (by omega) (H.up.ps p hpm) hsh hkp
  have hgw : (graK 0 (kp s.l0) p).w = 0 := rfl
  rw [hE] at h17
  clear hE hkp
  generalize graK 0 (kp s.l0) p = g at h17 hW hG hgw
  have fin : ∀ (G : List Gra), G = s.gs ++ [g] → Inv (t + 1) { s with l0 := l', gs := G } := fun G hGG => by
    subst hGG
    exact { a := H.up.a.mono, b := H.up.b.mono, c := H.up.c.mono, l0 := hW, l1 := H.up.l1.mono (by omega), l2 := H.up.l2.mono (by omega), ps := H.up.ps, gs := (fun x hx => (List.mem_append.1 hx).elim (H.up.gs x) (fun hx => by simp at hx; subst hx; exact hG)), bk := H.bk.mono, np := H.up.np, ng := (by simp; omega) }
  obtain ⟨gw, ⟨g1, g2, g3, g4, g5⟩, gag, ge, gu⟩ := g
  unfold wH at stay ⊢
  rw [hps, hgs] at stay ⊢
  repeat' ((conv => whnf); first
      | refine Branch.ofT rfl ?_
      | refine Branch.ofF rfl ?_
      | refine Branch.ofT (decide_eq_true t6) ?_
      | refine Branch.ofF (decide_eq_false (by rw [t6]; decide)) ?_
      | refine Branch.ofF (decide_eq_false (by omega)) ?_
      | (rw [hm3]; refine Side.mk ?_ ?_; · omega)
      | (rw [t3]; refine Side.mk ?_ ?_; · omega)
      | (rw [hmin, hmax]; refine Side.mk ?_ ?_; · omega)
      | refine Branch.dec (fun h => ?_) (fun h => ?_)
      | refine Branch.negdec (fun h => ?_) (fun h => ?_)
      | refine Branch.neg (fun h => ?_) (fun h => ?_)
      | refine Branch.mk (fun h => ?_) (fun h => ?_)
      | (refine Side.mk ?_ ?_; · first | omega | decide)
      | (refine SideD.mk ?_ ?_; · first | omega | decide)
      | refine ⟨_, Nat.lt_succ_self _, To.refl (.inl ⟨rfl, ?_⟩)⟩
      | refine takeK_at5 hat ?_
      | refine QCallA.of h17 rfl rfl ?_
      | (refine Side.mk ?_ ?_; · exact ⟨by simp [fits], by intro c hc; simp at hc; rcases hc with rfl | rfl | rfl | rfl | rfl <;> rfl⟩)
      | (refine Side.mk ?_ ?_; · (simp only [if_true]; split <;> omega))
      | (refine Side.mk ?_ ?_; · ((repeat' apply And.intro) <;> first | omega | rfl | exact Nat.zero_le _ | (simp only [pcells_len, gcells_len]; done) | (simp only [fits]; omega) | (simp only [List.length_append, List.length_cons, List.length_nil, pcells_len, gcells_len, rep]; omega) | (repeat' first | exact pcells_scal _ | exact gcells_scal _ | exact scal_nil | apply scal_int | apply scal_bool | apply scal_take)))
      | (refine Side.mk ?_ ?_; · (simp; done))
      | fail
      )
  all_goals (conv => whnf)
  · exact RetA.gc [(0, false), (1, true), (2, true), (3, true), (4, true), (5, true)] rfl ⟨trivial, trivial, trivial, hpd, trivial, trivial⟩ stay
  · have hJ := fin [⟨gw, ⟨g1, g2, g3, g4, g5⟩, gag, ge, gu⟩] (by first | rfl | (rw [hgs]; rfl))
    have hgd' := gcells_noLoc [⟨gw, ⟨g1, g2, g3, g4, g5⟩, gag, ge, gu⟩]
    refine CallA.lend [(0, false), (1, true), (2, true), (3, true), (4, true), (67, true)] (c29_at (s := { s with l0 := l', gs := [⟨gw, ⟨g1, g2, g3, g4, g5⟩, gag, ge, gu⟩] }) f hJ hps rfl rfl rfl rfl rfl) rfl ⟨trivial, trivial, trivial, hpd, hgd', trivial⟩ rfl ?_
    rintro c H' ⟨rfl, rfl⟩
    refine ⟨⟨trivial, trivial, trivial, hpd, hgd', trivial⟩, ?_⟩
    (conv => whnf)
    exact RetA.gc [(0, false), (1, true), (2, true), (3, true), (4, true), (5, true), (67, true)] rfl ⟨trivial, trivial, trivial, hpd, trivial, hgd', trivial⟩ (wHg_at (s := { s with l0 := l', gs := [⟨gw, ⟨g1, g2, g3, g4, g5⟩, gag, ge, gu⟩] }) f _ (by exact trivial) hJ hps rfl rfl rfl rfl rfl rfl)
theorem a_hear3_0_11 (t : Nat) (ht : t < 150) (s : St) (f : Int) (H : Inv t s) (k h w n : Int) (hk : 0 ≤ k ∧ k < 256) (hh : 0 ≤ h ∧ h < 256) (hw : 0 ≤ w ∧ w < 256) (hn : 0 ≤ n ∧ n < 256) (h6 : k % 6 = 3) (h3 : w % 3 = 0) (hps : bn s.ps = true) (hgs : bn s.gs = true) :
  CallA Try.prog 10 [.ptr 0 0, .agg [.int .u8 k, .int .u8 h, .int .u8 w, .int .u8 n]] (wH s f) (ActK t f) := by
  refine callA_of ok10 (Nat.le_of_ble_eq_true rfl) ?_
  have hmin : IntKind.i64.min = -9223372036854775808 := rfl
  have hmax : IntKind.i64.max = 9223372036854775807 := rfl
  have t6 : k.tmod 6 = 3 := tm6 hk.1 h6
  have hpd := pcells_noLoc s.ps
  have hgd := gcells_noLoc s.gs
  have nps := H.np
  have ngs := H.ng
  have t3 : w.tmod 3 = 0 := tm3 hw.1 h3
  have hm3 : h.tmod 3 = h % 3 := tm3 hh.1 rfl
  have stay : ActK t f (.bool true) (wH s f) := ⟨rfl, s, H.up, .inl rfl⟩
  have npos : 0 < s.ps.length := by cases e : s.ps with
    | nil => rw [e] at hps; cases hps
    | cons p r => simp
  have hq0 : 0 ≤ n % (s.ps.length : Int) := Int.emod_nonneg _ (by omega)
  have hq1 : n % (s.ps.length : Int) < s.ps.length := Int.emod_lt_of_pos _ (by omega)
  obtain ⟨p, hpm, R, hat⟩ := pick_p s.ps n hq0 hq1
  have h17 := c17 0 s.l0 none p (kept1_of H.l0.shape)
  obtain ⟨l', hE, hsh, hkp⟩ := hear_shape (w := 0) H.l0.shape (H.ps p hpm)
  obtain ⟨hW, hG⟩ := hear_ok H.up.l0 (by omega) (H.up.ps p hpm) hsh hkp
  have hgw : (graK 0 (kp s.l0) p).w = 0 := rfl
  rw [hE] at h17
  clear hE hkp
  generalize graK 0 (kp s.l0) p = g at h17 hW hG hgw
  have fin : ∀ (G : List Gra), G = s.gs ++ [g] → Inv (t + 1) { s with l0 := l', gs := G } := fun G hGG => by
    subst hGG
    exact { a := H.up.a.mono, b := H.up.b.mono, c := H.up.c.mono, l0 := hW, l1 := H.up.l1.mono (by omega), l2 := H.up.l2.mono (by omega), ps := H.up.ps, gs := (fun x hx => (List.mem_append.1 hx).elim (H.up.gs x) (fun hx => by simp at hx; subst hx; exact hG)), bk := H.bk.mono, np := H.up.np, ng := (by simp; omega) }
  obtain ⟨gw, ⟨g1, g2, g3, g4, g5⟩, gag, ge, gu⟩ := g
  unfold wH at stay ⊢
  rw [hps, hgs] at stay ⊢
  repeat' ((conv => whnf); first
      | refine Branch.ofT rfl ?_
      | refine Branch.ofF rfl ?_
      | refine Branch.ofT (decide_eq_true t6) ?_
      | refine Branch.ofF (decide_eq_false (by rw [t6]; decide)) ?_
      | refine Branch.ofF (decide_eq_false (by omega)) ?_
      | (rw [hm3]; refine Side.mk ?_ ?_; · omega)
      | (rw [t3]; refine Side.mk ?_ ?_; · omega)
      | (rw [hmin, hmax]; refine Side.mk ?_ ?_; · omega)
      | refine Branch.dec (fun h => ?_) (fun h => ?_)
      | refine Branch.negdec (fun h => ?_) (fun h => ?_)
      | refine Branch.neg (fun h => ?_) (fun h => ?_)
      | refine Branch.mk (fun h => ?_) (fun h => ?_)
      | (refine Side.mk ?_ ?_; · first | omega | decide)
      | (refine SideD.mk ?_ ?_; · first | omega | decide)
      | refine ⟨_, Nat.lt_succ_self _, To.refl (.inl ⟨rfl, ?_⟩)⟩
      | refine takeK_at5 hat ?_
      | refine QCallA.of h17 rfl rfl ?_
      | (refine Side.mk ?_ ?_; · exact ⟨by simp [fits], by intro c hc; simp at hc; rcases hc with rfl | rfl | rfl | rfl | rfl <;> rfl⟩)
      | (refine Side.mk ?_ ?_; · (simp only [if_true]; split <;> omega))
      | (refine Side.mk ?_ ?_; · ((repeat' apply And.intro) <;> first | omega | rfl | exact Nat.zero_le _ | (simp only [pcells_len, gcells_len]; done) | (simp only [fits]; omega) | (simp only [List.length_append, List.length_cons, List.length_nil, pcells_len, gcells_len, rep]; omega) | (repeat' first | exact pcells_scal _ | exact gcells_scal _ | exact scal_nil | apply scal_int | apply scal_bool | apply scal_take)))
      | (refine Side.mk ?_ ?_; · (simp; done))
      | fail
      )
  all_goals (conv => whnf)
  · exact RetA.gc [(0, false), (1, true), (2, true), (3, true), (4, true), (5, true)] rfl ⟨trivial, trivial, trivial, hpd, hgd, trivial⟩ stay
  · have hJ := fin (s.gs ++ [⟨gw, ⟨g1, g2, g3, g4, g5⟩, gag, ge, gu⟩]) (by first | rfl | (rw [hgs]; rfl))
    have hgd' := gcells_noLoc (s.gs ++ [⟨gw, ⟨g1, g2, g3, g4, g5⟩, gag, ge, gu⟩])
    rw [gcells_app] at hgd'
    refine CallA.lend [(0, false), (1, true), (2, true), (3, true), (4, true), (67, true)] (c29_at (s := { s with l0 := l', gs := (s.gs ++ [⟨gw, ⟨g1, g2, g3, g4, g5⟩, gag, ge, gu⟩]) }) f hJ hps (bn_app _ _) rfl (by rw [List.length_append]; rfl) rfl (gcells_app _ _)) rfl ⟨trivial, trivial, trivial, hpd, hgd', trivial⟩ rfl ?_
    rintro c H' ⟨rfl, rfl⟩
    refine ⟨⟨trivial, trivial, trivial, hpd, hgd', trivial⟩, ?_⟩
    (conv => whnf)
    exact RetA.gc [(0, false), (1, true), (2, true), (3, true), (4, true), (5, true), (67, true)] rfl ⟨trivial, trivial, trivial, hpd, trivial, hgd', trivial⟩ (wHg_at (s := { s with l0 := l', gs := (s.gs ++ [⟨gw, ⟨g1, g2, g3, g4, g5⟩, gag, ge, gu⟩]) }) f _ (by exact trivial) hJ hps (bn_app _ _) rfl (by rw [List.length_append]; rfl) rfl (gcells_app _ _) rfl)
theorem a_hear3_1_00 (t : Nat) (ht : t < 150) (s : St) (f : Int) (H : Inv t s) (k h w n : Int) (hk : 0 ≤ k ∧ k < 256) (hh : 0 ≤ h ∧ h < 256) (hw : 0 ≤ w ∧ w < 256) (hn : 0 ≤ n ∧ n < 256) (h6 : k % 6 = 3) (h3 : w % 3 = 1) (hps : s.ps = []) (hgs : s.gs = []) :
  CallA Try.prog 10 [.ptr 0 0, .agg [.int .u8 k, .int .u8 h, .int .u8 w, .int .u8 n]] (wH s f) (ActK t f) := by
  refine callA_of ok10 (Nat.le_of_ble_eq_true rfl) ?_
  have hmin : IntKind.i64.min = -9223372036854775808 := rfl
  have hmax : IntKind.i64.max = 9223372036854775807 := rfl
  have t6 : k.tmod 6 = 3 := tm6 hk.1 h6
  have hpd := pcells_noLoc s.ps
  have hgd := gcells_noLoc s.gs
  have nps := H.np
  have ngs := H.ng
  have t3 : w.tmod 3 = 1 := tm3 hw.1 h3
  have hm3 : h.tmod 3 = h % 3 := tm3 hh.1 rfl
  have stay : ActK t f (.bool true) (wH s f) := ⟨rfl, s, H.up, .inl rfl⟩
  unfold wH at stay ⊢
  rw [hps, hgs] at stay ⊢
  repeat' ((conv => whnf); first
      | refine Branch.ofT rfl ?_
      | refine Branch.ofF rfl ?_
      | refine Branch.ofT (decide_eq_true t6) ?_
      | refine Branch.ofF (decide_eq_false (by rw [t6]; decide)) ?_
      | refine Branch.ofF (decide_eq_false (by omega)) ?_
      | (rw [hm3]; refine Side.mk ?_ ?_; · omega)
      | (rw [t3]; refine Side.mk ?_ ?_; · omega)
      | (rw [hmin, hmax]; refine Side.mk ?_ ?_; · omega)
      | refine Branch.dec (fun h => ?_) (fun h => ?_)
      | refine Branch.negdec (fun h => ?_) (fun h => ?_)
      | refine Branch.neg (fun h => ?_) (fun h => ?_)
      | refine Branch.mk (fun h => ?_) (fun h => ?_)
      | (refine Side.mk ?_ ?_; · first | omega | decide)
      | (refine SideD.mk ?_ ?_; · first | omega | decide)
      | refine ⟨_, Nat.lt_succ_self _, To.refl (.inl ⟨rfl, ?_⟩)⟩
      | refine takeK_at5 hat ?_
      | refine QCallA.of h17 rfl rfl ?_
      | (refine Side.mk ?_ ?_; · exact ⟨by simp [fits], by intro c hc; simp at hc; rcases hc with rfl | rfl | rfl | rfl | rfl <;> rfl⟩)
      | (refine Side.mk ?_ ?_; · (simp only [if_true]; split <;> omega))
      | (refine Side.mk ?_ ?_; · ((repeat' apply And.intro) <;> first | omega | rfl | exact Nat.zero_le _ | (simp only [pcells_len, gcells_len]; done) | (simp only [fits]; omega) | (simp only [List.length_append, List.length_cons, List.length_nil, pcells_len, gcells_len, rep]; omega) | (repeat' first | exact pcells_scal _ | exact gcells_scal _ | exact scal_nil | apply scal_int | apply scal_bool | apply scal_take)))
      | (refine Side.mk ?_ ?_; · (simp; done))
      | fail
      )
  all_goals (conv => whnf)
  · exact RetA.gc [(0, false), (1, true), (2, true), (3, true), (4, true), (5, true)] rfl ⟨trivial, trivial, trivial, trivial, trivial, trivial⟩ stay
theorem a_hear3_1_01 (t : Nat) (ht : t < 150) (s : St) (f : Int) (H : Inv t s) (k h w n : Int) (hk : 0 ≤ k ∧ k < 256) (hh : 0 ≤ h ∧ h < 256) (hw : 0 ≤ w ∧ w < 256) (hn : 0 ≤ n ∧ n < 256) (h6 : k % 6 = 3) (h3 : w % 3 = 1) (hps : s.ps = []) (hgs : bn s.gs = true) :
  CallA Try.prog 10 [.ptr 0 0, .agg [.int .u8 k, .int .u8 h, .int .u8 w, .int .u8 n]] (wH s f) (ActK t f) := by
  refine callA_of ok10 (Nat.le_of_ble_eq_true rfl) ?_
  have hmin : IntKind.i64.min = -9223372036854775808 := rfl
  have hmax : IntKind.i64.max = 9223372036854775807 := rfl
  have t6 : k.tmod 6 = 3 := tm6 hk.1 h6
  have hpd := pcells_noLoc s.ps
  have hgd := gcells_noLoc s.gs
  have nps := H.np
  have ngs := H.ng
  have t3 : w.tmod 3 = 1 := tm3 hw.1 h3
  have hm3 : h.tmod 3 = h % 3 := tm3 hh.1 rfl
  have stay : ActK t f (.bool true) (wH s f) := ⟨rfl, s, H.up, .inl rfl⟩
  unfold wH at stay ⊢
  rw [hps, hgs] at stay ⊢
  repeat' ((conv => whnf); first
      | refine Branch.ofT rfl ?_
      | refine Branch.ofF rfl ?_
      | refine Branch.ofT (decide_eq_true t6) ?_
      | refine Branch.ofF (decide_eq_false (by rw [t6]; decide)) ?_
      | refine Branch.ofF (decide_eq_false (by omega)) ?_
      | (rw [hm3]; refine Side.mk ?_ ?_; · omega)
      | (rw [t3]; refine Side.mk ?_ ?_; · omega)
      | (rw [hmin, hmax]; refine Side.mk ?_ ?_; · omega)
      | refine Branch.dec (fun h => ?_) (fun h => ?_)
      | refine Branch.negdec (fun h => ?_) (fun h => ?_)
      | refine Branch.neg (fun h => ?_) (fun h => ?_)
      | refine Branch.mk (fun h => ?_) (fun h => ?_)
      | (refine Side.mk ?_ ?_; · first | omega | decide)
      | (refine SideD.mk ?_ ?_; · first | omega | decide)
      | refine ⟨_, Nat.lt_succ_self _, To.refl (.inl ⟨rfl, ?_⟩)⟩
      | refine takeK_at5 hat ?_
      | refine QCallA.of h17 rfl rfl ?_
      | (refine Side.mk ?_ ?_; · exact ⟨by simp [fits], by intro c hc; simp at hc; rcases hc with rfl | rfl | rfl | rfl | rfl <;> rfl⟩)
      | (refine Side.mk ?_ ?_; · (simp only [if_true]; split <;> omega))
      | (refine Side.mk ?_ ?_; · ((repeat' apply And.intro) <;> first | omega | rfl | exact Nat.zero_le _ | (simp only [pcells_len, gcells_len]; done) | (simp only [fits]; omega) | (simp only [List.length_append, List.length_cons, List.length_nil, pcells_len, gcells_len, rep]; omega) | (repeat' first | exact pcells_scal _ | exact gcells_scal _ | exact scal_nil | apply scal_int | apply scal_bool | apply scal_take)))
      | (refine Side.mk ?_ ?_; · (simp; done))
      | fail
      )
  all_goals (conv => whnf)
  · exact RetA.gc [(0, false), (1, true), (2, true), (3, true), (4, true), (5, true)] rfl ⟨trivial, trivial, trivial, trivial, hgd, trivial⟩ stay
theorem a_hear3_1_10 (t : Nat) (ht : t < 150) (s : St) (f : Int) (H : Inv t s) (k h w n : Int) (hk : 0 ≤ k ∧ k < 256) (hh : 0 ≤ h ∧ h < 256) (hw : 0 ≤ w ∧ w < 256) (hn : 0 ≤ n ∧ n < 256) (h6 : k % 6 = 3) (h3 : w % 3 = 1) (hps : bn s.ps = true) (hgs : s.gs = []) :
  CallA Try.prog 10 [.ptr 0 0, .agg [.int .u8 k, .int .u8 h, .int .u8 w, .int .u8 n]] (wH s f) (ActK t f) := by
  refine callA_of ok10 (Nat.le_of_ble_eq_true rfl) ?_
  have hmin : IntKind.i64.min = -9223372036854775808 := rfl
  have hmax : IntKind.i64.max = 9223372036854775807 := rfl
  have t6 : k.tmod 6 = 3 := tm6 hk.1 h6
  have hpd := pcells_noLoc s.ps
  have hgd := gcells_noLoc s.gs
  have nps := H.np
  have ngs := H.ng
  have t3 : w.tmod 3 = 1 := tm3 hw.1 h3
  have hm3 : h.tmod 3 = h % 3 := tm3 hh.1 rfl
  have stay : ActK t f (.bool true) (wH s f) := ⟨rfl, s, H.up, .inl rfl⟩
  have npos : 0 < s.ps.length := by cases e : s.ps with
    | nil => rw [e] at hps; cases hps
    | cons p r => simp
  have hq0 : 0 ≤ n % (s.ps.length : Int) := Int.emod_nonneg _ (by omega)
  have hq1 : n % (s.ps.length : Int) < s.ps.length := Int.emod_lt_of_pos _ (by omega)
  obtain ⟨p, hpm, R, hat⟩ := pick_p s.ps n hq0 hq1
  have h17 := c17 1 s.l1 none p (kept1_of H.l1.shape)
  obtain ⟨l', hE, hsh, hkp⟩ := hear_shape (w := 1) H.l1.shape (H.ps p hpm)
  obtain ⟨hW, hG⟩ := hear_ok H.up.l1 (by omega) (H.up.ps p hpm) hsh hkp
  have hgw : (graK 1 (kp s.l1) p).w = 1 := rfl
  rw [hE] at h17
  clear hE hkp
  generalize graK 1 (kp s.l1) p = g at h17 hW hG hgw
  have fin : ∀ (G : List Gra), G = s.gs ++ [g] → Inv (t + 1) { s with l1 := l', gs := G } := fun G hGG => by
    subst hGG
    exact { a := H.up.a.mono, b := H.up.b.mono, c := H.up.c.mono, l0 := H.up.l0.mono (by omega), l1 := hW, l2 := H.up.l2.mono (by omega), ps := H.up.ps, gs := (fun x hx => (List.mem_append.1 hx).elim (H.up.gs x) (fun hx => by simp at hx; subst hx; exact hG)), bk := H.bk.mono, np := H.up.np, ng := (by simp; omega) }
  obtain ⟨gw, ⟨g1, g2, g3, g4, g5⟩, gag, ge, gu⟩ := g
  unfold wH at stay ⊢
  rw [hps, hgs] at stay ⊢
  repeat' ((conv => whnf); first
      | refine Branch.ofT rfl ?_
      | refine Branch.ofF rfl ?_
      | refine Branch.ofT (decide_eq_true t6) ?_
      | refine Branch.ofF (decide_eq_false (by rw [t6]; decide)) ?_
      | refine Branch.ofF (decide_eq_false (by omega)) ?_
      | (rw [hm3]; refine Side.mk ?_ ?_; · omega)
      | (rw [t3]; refine Side.mk ?_ ?_; · omega)
      | (rw [hmin, hmax]; refine Side.mk ?_ ?_; · omega)
      | refine Branch.dec (fun h => ?_) (fun h => ?_)
      | refine Branch.negdec (fun h => ?_) (fun h => ?_)
      | refine Branch.neg (fun h => ?_) (fun h => ?_)
      | refine Branch.mk (fun h => ?_) (fun h => ?_)
      | (refine Side.mk ?_ ?_; · first | omega | decide)
      | (refine SideD.mk ?_ ?_; · first | omega | decide)
      | refine ⟨_, Nat.lt_succ_self _, To.refl (.inl ⟨rfl, ?_⟩)⟩
      | refine takeK_at5 hat ?_
      | refine QCallA.of h17 rfl rfl ?_
      | (refine Side.mk ?_ ?_; · exact ⟨by simp [fits], by intro c hc; simp at hc; rcases hc with rfl | rfl | rfl | rfl | rfl <;> rfl⟩)
      | (refine Side.mk ?_ ?_; · (simp only [if_true]; split <;> omega))
      | (refine Side.mk ?_ ?_; · ((repeat' apply And.intro) <;> first | omega | rfl | exact Nat.zero_le _ | (simp only [pcells_len, gcells_len]; done) | (simp only [fits]; omega) | (simp only [List.length_append, List.length_cons, List.length_nil, pcells_len, gcells_len, rep]; omega) | (repeat' first | exact pcells_scal _ | exact gcells_scal _ | exact scal_nil | apply scal_int | apply scal_bool | apply scal_take)))
      | (refine Side.mk ?_ ?_; · (simp; done))
      | fail
      )
  all_goals (conv => whnf)
  · exact RetA.gc [(0, false), (1, true), (2, true), (3, true), (4, true), (5, true)] rfl ⟨trivial, trivial, trivial, hpd, trivial, trivial⟩ stay
  · have hJ := fin [⟨gw, ⟨g1, g2, g3, g4, g5⟩, gag, ge, gu⟩] (by first | rfl | (rw [hgs]; rfl))
    have hgd' := gcells_noLoc [⟨gw, ⟨g1, g2, g3, g4, g5⟩, gag, ge, gu⟩]
    refine CallA.lend [(0, false), (1, true), (2, true), (3, true), (4, true), (67, true)] (c29_at (s := { s with l1 := l', gs := [⟨gw, ⟨g1, g2, g3, g4, g5⟩, gag, ge, gu⟩] }) f hJ hps rfl rfl rfl rfl rfl) rfl ⟨trivial, trivial, trivial, hpd, hgd', trivial⟩ rfl ?_
    rintro c H' ⟨rfl, rfl⟩
    refine ⟨⟨trivial, trivial, trivial, hpd, hgd', trivial⟩, ?_⟩
    (conv => whnf)
    exact RetA.gc [(0, false), (1, true), (2, true), (3, true), (4, true), (5, true), (67, true)] rfl ⟨trivial, trivial, trivial, hpd, trivial, hgd', trivial⟩ (wHg_at (s := { s with l1 := l', gs := [⟨gw, ⟨g1, g2, g3, g4, g5⟩, gag, ge, gu⟩] }) f _ (by exact trivial) hJ hps rfl rfl rfl rfl rfl rfl)
theorem a_hear3_1_11 (t : Nat) (ht : t < 150) (s : St) (f : Int) (H : Inv t s) (k h w n : Int) (hk : 0 ≤ k ∧ k < 256) (hh : 0 ≤ h ∧ h < 256) (hw : 0 ≤ w ∧ w < 256) (hn : 0 ≤ n ∧ n < 256) (h6 : k % 6 = 3) (h3 : w % 3 = 1) (hps : bn s.ps = true) (hgs : bn s.gs = true) :
  CallA Try.prog 10 [.ptr 0 0, .agg [.int .u8 k, .int .u8 h, .int .u8 w, .int .u8 n]] (wH s f) (ActK t f) := by
  refine callA_of ok10 (Nat.le_of_ble_eq_true rfl) ?_
  have hmin : IntKind.i64.min = -9223372036854775808 := rfl
  have hmax : IntKind.i64.max = 9223372036854775807 := rfl
  have t6 : k.tmod 6 = 3 := tm6 hk.1 h6
  have hpd := pcells_noLoc s.ps
  have hgd := gcells_noLoc s.gs
  have nps := H.np
  have ngs := H.ng
  have t3 : w.tmod 3 = 1 := tm3 hw.1 h3
  have hm3 : h.tmod 3 = h % 3 := tm3 hh.1 rfl
  have stay : ActK t f (.bool true) (wH s f) := ⟨rfl, s, H.up, .inl rfl⟩
  have npos : 0 < s.ps.length := by cases e : s.ps with
    | nil => rw [e] at hps; cases hps
    | cons p r => simp
  have hq0 : 0 ≤ n % (s.ps.length : Int) := Int.emod_nonneg _ (by omega)
  have hq1 : n % (s.ps.length : Int) < s.ps.length := Int.emod_lt_of_pos _ (by omega)
  obtain ⟨p, hpm, R, hat⟩ := pick_p s.ps n hq0 hq1
  have h17 := c17 1 s.l1 none p (kept1_of H.l1.shape)
  obtain ⟨l', hE, hsh, hkp⟩ := hear_shape (w := 1) H.l1.shape (H.ps p hpm)
  obtain ⟨hW, hG⟩ := hear_ok H.up.l1 (by omega) (H.up.ps p hpm) hsh hkp
  have hgw : (graK 1 (kp s.l1) p).w = 1 := rfl
  rw [hE] at h17
  clear hE hkp
  generalize graK 1 (kp s.l1) p = g at h17 hW hG hgw
  have fin : ∀ (G : List Gra), G = s.gs ++ [g] → Inv (t + 1) { s with l1 := l', gs := G } := fun G hGG => by
    subst hGG
    exact { a := H.up.a.mono, b := H.up.b.mono, c := H.up.c.mono, l0 := H.up.l0.mono (by omega), l1 := hW, l2 := H.up.l2.mono (by omega), ps := H.up.ps, gs := (fun x hx => (List.mem_append.1 hx).elim (H.up.gs x) (fun hx => by simp at hx; subst hx; exact hG)), bk := H.bk.mono, np := H.up.np, ng := (by simp; omega) }
  obtain ⟨gw, ⟨g1, g2, g3, g4, g5⟩, gag, ge, gu⟩ := g
  unfold wH at stay ⊢
  rw [hps, hgs] at stay ⊢
  repeat' ((conv => whnf); first
      | refine Branch.ofT rfl ?_
      | refine Branch.ofF rfl ?_
      | refine Branch.ofT (decide_eq_true t6) ?_
      | refine Branch.ofF (decide_eq_false (by rw [t6]; decide)) ?_
      | refine Branch.ofF (decide_eq_false (by omega)) ?_
      | (rw [hm3]; refine Side.mk ?_ ?_; · omega)
      | (rw [t3]; refine Side.mk ?_ ?_; · omega)
      | (rw [hmin, hmax]; refine Side.mk ?_ ?_; · omega)
      | refine Branch.dec (fun h => ?_) (fun h => ?_)
      | refine Branch.negdec (fun h => ?_) (fun h => ?_)
      | refine Branch.neg (fun h => ?_) (fun h => ?_)
      | refine Branch.mk (fun h => ?_) (fun h => ?_)
      | (refine Side.mk ?_ ?_; · first | omega | decide)
      | (refine SideD.mk ?_ ?_; · first | omega | decide)
      | refine ⟨_, Nat.lt_succ_self _, To.refl (.inl ⟨rfl, ?_⟩)⟩
      | refine takeK_at5 hat ?_
      | refine QCallA.of h17 rfl rfl ?_
      | (refine Side.mk ?_ ?_; · exact ⟨by simp [fits], by intro c hc; simp at hc; rcases hc with rfl | rfl | rfl | rfl | rfl <;> rfl⟩)
      | (refine Side.mk ?_ ?_; · (simp only [if_true]; split <;> omega))
      | (refine Side.mk ?_ ?_; · ((repeat' apply And.intro) <;> first | omega | rfl | exact Nat.zero_le _ | (simp only [pcells_len, gcells_len]; done) | (simp only [fits]; omega) | (simp only [List.length_append, List.length_cons, List.length_nil, pcells_len, gcells_len, rep]; omega) | (repeat' first | exact pcells_scal _ | exact gcells_scal _ | exact scal_nil | apply scal_int | apply scal_bool | apply scal_take)))
      | (refine Side.mk ?_ ?_; · (simp; done))
      | fail
      )
  all_goals (conv => whnf)
  · exact RetA.gc [(0, false), (1, true), (2, true), (3, true), (4, true), (5, true)] rfl ⟨trivial, trivial, trivial, hpd, hgd, trivial⟩ stay
  · have hJ := fin (s.gs ++ [⟨gw, ⟨g1, g2, g3, g4, g5⟩, gag, ge, gu⟩]) (by first | rfl | (rw [hgs]; rfl))
    have hgd' := gcells_noLoc (s.gs ++ [⟨gw, ⟨g1, g2, g3, g4, g5⟩, gag, ge, gu⟩])
    rw [gcells_app] at hgd'
    refine CallA.lend [(0, false), (1, true), (2, true), (3, true), (4, true), (67, true)] (c29_at (s := { s with l1 := l', gs := (s.gs ++ [⟨gw, ⟨g1, g2, g3, g4, g5⟩, gag, ge, gu⟩]) }) f hJ hps (bn_app _ _) rfl (by rw [List.length_append]; rfl) rfl (gcells_app _ _)) rfl ⟨trivial, trivial, trivial, hpd, hgd', trivial⟩ rfl ?_
    rintro c H' ⟨rfl, rfl⟩
    refine ⟨⟨trivial, trivial, trivial, hpd, hgd', trivial⟩, ?_⟩
    (conv => whnf)
    exact RetA.gc [(0, false), (1, true), (2, true), (3, true), (4, true), (5, true), (67, true)] rfl ⟨trivial, trivial, trivial, hpd, trivial, hgd', trivial⟩ (wHg_at (s := { s with l1 := l', gs := (s.gs ++ [⟨gw, ⟨g1, g2, g3, g4, g5⟩, gag, ge, gu⟩]) }) f _ (by exact trivial) hJ hps (bn_app _ _) rfl (by rw [List.length_append]; rfl) rfl (gcells_app _ _) rfl)
theorem a_hear3_2_00 (t : Nat) (ht : t < 150) (s : St) (f : Int) (H : Inv t s) (k h w n : Int) (hk : 0 ≤ k ∧ k < 256) (hh : 0 ≤ h ∧ h < 256) (hw : 0 ≤ w ∧ w < 256) (hn : 0 ≤ n ∧ n < 256) (h6 : k % 6 = 3) (h3 : w % 3 = 2) (hps : s.ps = []) (hgs : s.gs = []) :
  CallA Try.prog 10 [.ptr 0 0, .agg [.int .u8 k, .int .u8 h, .int .u8 w, .int .u8 n]] (wH s f) (ActK t f) := by
  refine callA_of ok10 (Nat.le_of_ble_eq_true rfl) ?_
  have hmin : IntKind.i64.min = -9223372036854775808 := rfl
  have hmax : IntKind.i64.max = 9223372036854775807 := rfl
  have t6 : k.tmod 6 = 3 := tm6 hk.1 h6
  have hpd := pcells_noLoc s.ps
  have hgd := gcells_noLoc s.gs
  have nps := H.np
  have ngs := H.ng
  have t3 : w.tmod 3 = 2 := tm3 hw.1 h3
  have hm3 : h.tmod 3 = h % 3 := tm3 hh.1 rfl
  have stay : ActK t f (.bool true) (wH s f) := ⟨rfl, s, H.up, .inl rfl⟩
  unfold wH at stay ⊢
  rw [hps, hgs] at stay ⊢
  repeat' ((conv => whnf); first
      | refine Branch.ofT rfl ?_
      | refine Branch.ofF rfl ?_
      | refine Branch.ofT (decide_eq_true t6) ?_
      | refine Branch.ofF (decide_eq_false (by rw [t6]; decide)) ?_
      | refine Branch.ofF (decide_eq_false (by omega)) ?_
      | (rw [hm3]; refine Side.mk ?_ ?_; · omega)
      | (rw [t3]; refine Side.mk ?_ ?_; · omega)
      | (rw [hmin, hmax]; refine Side.mk ?_ ?_; · omega)
      | refine Branch.dec (fun h => ?_) (fun h => ?_)
      | refine Branch.negdec (fun h => ?_) (fun h => ?_)
      | refine Branch.neg (fun h => ?_) (fun h => ?_)
      | refine Branch.mk (fun h => ?_) (fun h => ?_)
      | (refine Side.mk ?_ ?_; · first | omega | decide)
      | (refine SideD.mk ?_ ?_; · first | omega | decide)
      | refine ⟨_, Nat.lt_succ_self _, To.refl (.inl ⟨rfl, ?_⟩)⟩
      | refine takeK_at5 hat ?_
      | refine QCallA.of h17 rfl rfl ?_
      | (refine Side.mk ?_ ?_; · exact ⟨by simp [fits], by intro c hc; simp at hc; rcases hc with rfl | rfl | rfl | rfl | rfl <;> rfl⟩)
      | (refine Side.mk ?_ ?_; · (simp only [if_true]; split <;> omega))
      | (refine Side.mk ?_ ?_; · ((repeat' apply And.intro) <;> first | omega | rfl | exact Nat.zero_le _ | (simp only [pcells_len, gcells_len]; done) | (simp only [fits]; omega) | (simp only [List.length_append, List.length_cons, List.length_nil, pcells_len, gcells_len, rep]; omega) | (repeat' first | exact pcells_scal _ | exact gcells_scal _ | exact scal_nil | apply scal_int | apply scal_bool | apply scal_take)))
      | (refine Side.mk ?_ ?_; · (simp; done))
      | fail
      )
  all_goals (conv => whnf)
  · exact RetA.gc [(0, false), (1, true), (2, true), (3, true), (4, true), (5, true)] rfl ⟨trivial, trivial, trivial, trivial, trivial, trivial⟩ stay
theorem a_hear3_2_01 (t : Nat) (ht : t < 150) (s : St) (f : Int) (H : Inv t s) (k h w n : Int) (hk : 0 ≤ k ∧ k < 256) (hh : 0 ≤ h ∧ h < 256) (hw : 0 ≤ w ∧ w < 256) (hn : 0 ≤ n ∧ n < 256) (h6 : k % 6 = 3) (h3 : w % 3 = 2) (hps : s.ps = []) (hgs : bn s.gs = true) :
  CallA Try.prog 10 [.ptr 0 0, .agg [.int .u8 k, .int .u8 h, .int .u8 w, .int .u8 n]] (wH s f) (ActK t f) := by
  refine callA_of ok10 (Nat.le_of_ble_eq_true rfl) ?_
  have hmin : IntKind.i64.min = -9223372036854775808 := rfl
  have hmax : IntKind.i64.max = 9223372036854775807 := rfl
  have t6 : k.tmod 6 = 3 := tm6 hk.1 h6
  have hpd := pcells_noLoc s.ps
  have hgd := gcells_noLoc s.gs
  have nps := H.np
  have ngs := H.ng
  have t3 : w.tmod 3 = 2 := tm3 hw.1 h3
  have hm3 : h.tmod 3 = h % 3 := tm3 hh.1 rfl
  have stay : ActK t f (.bool true) (wH s f) := ⟨rfl, s, H.up, .inl rfl⟩
  unfold wH at stay ⊢
  rw [hps, hgs] at stay ⊢
  repeat' ((conv => whnf); first
      | refine Branch.ofT rfl ?_
      | refine Branch.ofF rfl ?_
      | refine Branch.ofT (decide_eq_true t6) ?_
      | refine Branch.ofF (decide_eq_false (by rw [t6]; decide)) ?_
      | refine Branch.ofF (decide_eq_false (by omega)) ?_
      | (rw [hm3]; refine Side.mk ?_ ?_; · omega)
      | (rw [t3]; refine Side.mk ?_ ?_; · omega)
      | (rw [hmin, hmax]; refine Side.mk ?_ ?_; · omega)
      | refine Branch.dec (fun h => ?_) (fun h => ?_)
      | refine Branch.negdec (fun h => ?_) (fun h => ?_)
      | refine Branch.neg (fun h => ?_) (fun h => ?_)
      | refine Branch.mk (fun h => ?_) (fun h => ?_)
      | (refine Side.mk ?_ ?_; · first | omega | decide)
      | (refine SideD.mk ?_ ?_; · first | omega | decide)
      | refine ⟨_, Nat.lt_succ_self _, To.refl (.inl ⟨rfl, ?_⟩)⟩
      | refine takeK_at5 hat ?_
      | refine QCallA.of h17 rfl rfl ?_
      | (refine Side.mk ?_ ?_; · exact ⟨by simp [fits], by intro c hc; simp at hc; rcases hc with rfl | rfl | rfl | rfl | rfl <;> rfl⟩)
      | (refine Side.mk ?_ ?_; · (simp only [if_true]; split <;> omega))
      | (refine Side.mk ?_ ?_; · ((repeat' apply And.intro) <;> first | omega | rfl | exact Nat.zero_le _ | (simp only [pcells_len, gcells_len]; done) | (simp only [fits]; omega) | (simp only [List.length_append, List.length_cons, List.length_nil, pcells_len, gcells_len, rep]; omega) | (repeat' first | exact pcells_scal _ | exact gcells_scal _ | exact scal_nil | apply scal_int | apply scal_bool | apply scal_take)))
      | (refine Side.mk ?_ ?_; · (simp; done))
      | fail
      )
  all_goals (conv => whnf)
  · exact RetA.gc [(0, false), (1, true), (2, true), (3, true), (4, true), (5, true)] rfl ⟨trivial, trivial, trivial, trivial, hgd, trivial⟩ stay
theorem a_hear3_2_10 (t : Nat) (ht : t < 150) (s : St) (f : Int) (H : Inv t s) (k h w n : Int) (hk : 0 ≤ k ∧ k < 256) (hh : 0 ≤ h ∧ h < 256) (hw : 0 ≤ w ∧ w < 256) (hn : 0 ≤ n ∧ n < 256) (h6 : k % 6 = 3) (h3 : w % 3 = 2) (hps : bn s.ps = true) (hgs : s.gs = []) :
  CallA Try.prog 10 [.ptr 0 0, .agg [.int .u8 k, .int .u8 h, .int .u8 w, .int .u8 n]] (wH s f) (ActK t f) := by
  refine callA_of ok10 (Nat.le_of_ble_eq_true rfl) ?_
  have hmin : IntKind.i64.min = -9223372036854775808 := rfl
  have hmax : IntKind.i64.max = 9223372036854775807 := rfl
  have t6 : k.tmod 6 = 3 := tm6 hk.1 h6
  have hpd := pcells_noLoc s.ps
  have hgd := gcells_noLoc s.gs
  have nps := H.np
  have ngs := H.ng
  have t3 : w.tmod 3 = 2 := tm3 hw.1 h3
  have hm3 : h.tmod 3 = h % 3 := tm3 hh.1 rfl
  have stay : ActK t f (.bool true) (wH s f) := ⟨rfl, s, H.up, .inl rfl⟩
  have npos : 0 < s.ps.length := by cases e : s.ps with
    | nil => rw [e] at hps; cases hps
    | cons p r => simp
  have hq0 : 0 ≤ n % (s.ps.length : Int) := Int.emod_nonneg _ (by omega)
  have hq1 : n % (s.ps.length : Int) < s.ps.length := Int.emod_lt_of_pos _ (by omega)
  obtain ⟨p, hpm, R, hat⟩ := pick_p s.ps n hq0 hq1
  have h17 := c17 2 s.l2 none p (kept1_of H.l2.shape)
  obtain ⟨l', hE, hsh, hkp⟩ := hear_shape (w := 2) H.l2.shape (H.ps p hpm)
  obtain ⟨hW, hG⟩ := hear_ok H.up.l2 (by omega) (H.up.ps p hpm) hsh hkp
  have hgw : (graK 2 (kp s.l2) p).w = 2 := rfl
  rw [hE] at h17
  clear hE hkp
  generalize graK 2 (kp s.l2) p = g at h17 hW hG hgw
  have fin : ∀ (G : List Gra), G = s.gs ++ [g] → Inv (t + 1) { s with l2 := l', gs := G } := fun G hGG => by
    subst hGG
    exact { a := H.up.a.mono, b := H.up.b.mono, c := H.up.c.mono, l0 := H.up.l0.mono (by omega), l1 := H.up.l1.mono (by omega), l2 := hW, ps := H.up.ps, gs := (fun x hx => (List.mem_append.1 hx).elim (H.up.gs x) (fun hx => by simp at hx; subst hx; exact hG)), bk := H.bk.mono, np := H.up.np, ng := (by simp; omega) }
  obtain ⟨gw, ⟨g1, g2, g3, g4, g5⟩, gag, ge, gu⟩ := g
  unfold wH at stay ⊢
  rw [hps, hgs] at stay ⊢
  repeat' ((conv => whnf); first
      | refine Branch.ofT rfl ?_
      | refine Branch.ofF rfl ?_
      | refine Branch.ofT (decide_eq_true t6) ?_
      | refine Branch.ofF (decide_eq_false (by rw [t6]; decide)) ?_
      | refine Branch.ofF (decide_eq_false (by omega)) ?_
      | (rw [hm3]; refine Side.mk ?_ ?_; · omega)
      | (rw [t3]; refine Side.mk ?_ ?_; · omega)
      | (rw [hmin, hmax]; refine Side.mk ?_ ?_; · omega)
      | refine Branch.dec (fun h => ?_) (fun h => ?_)
      | refine Branch.negdec (fun h => ?_) (fun h => ?_)
      | refine Branch.neg (fun h => ?_) (fun h => ?_)
      | refine Branch.mk (fun h => ?_) (fun h => ?_)
      | (refine Side.mk ?_ ?_; · first | omega | decide)
      | (refine SideD.mk ?_ ?_; · first | omega | decide)
      | refine ⟨_, Nat.lt_succ_self _, To.refl (.inl ⟨rfl, ?_⟩)⟩
      | refine takeK_at5 hat ?_
      | refine QCallA.of h17 rfl rfl ?_
      | (refine Side.mk ?_ ?_; · exact ⟨by simp [fits], by intro c hc; simp at hc; rcases hc with rfl | rfl | rfl | rfl | rfl <;> rfl⟩)
      | (refine Side.mk ?_ ?_; · (simp only [if_true]; split <;> omega))
      | (refine Side.mk ?_ ?_; · ((repeat' apply And.intro) <;> first | omega | rfl | exact Nat.zero_le _ | (simp only [pcells_len, gcells_len]; done) | (simp only [fits]; omega) | (simp only [List.length_append, List.length_cons, List.length_nil, pcells_len, gcells_len, rep]; omega) | (repeat' first | exact pcells_scal _ | exact gcells_scal _ | exact scal_nil | apply scal_int | apply scal_bool | apply scal_take)))
      | (refine Side.mk ?_ ?_; · (simp; done))
      | fail
      )
  all_goals (conv => whnf)
  · exact RetA.gc [(0, false), (1, true), (2, true), (3, true), (4, true), (5, true)] rfl ⟨trivial, trivial, trivial, hpd, trivial, trivial⟩ stay
  · have hJ := fin [⟨gw, ⟨g1, g2, g3, g4, g5⟩, gag, ge, gu⟩] (by first | rfl | (rw [hgs]; rfl))
    have hgd' := gcells_noLoc [⟨gw, ⟨g1, g2, g3, g4, g5⟩, gag, ge, gu⟩]
    refine CallA.lend [(0, false), (1, true), (2, true), (3, true), (4, true), (67, true)] (c29_at (s := { s with l2 := l', gs := [⟨gw, ⟨g1, g2, g3, g4, g5⟩, gag, ge, gu⟩] }) f hJ hps rfl rfl rfl rfl rfl) rfl ⟨trivial, trivial, trivial, hpd, hgd', trivial⟩ rfl ?_
    rintro c H' ⟨rfl, rfl⟩
    refine ⟨⟨trivial, trivial, trivial, hpd, hgd', trivial⟩, ?_⟩
    (conv => whnf)
    exact RetA.gc [(0, false), (1, true), (2, true), (3, true), (4, true), (5, true), (67, true)] rfl ⟨trivial, trivial, trivial, hpd, trivial, hgd', trivial⟩ (wHg_at (s := { s with l2 := l', gs := [⟨gw, ⟨g1, g2, g3, g4, g5⟩, gag, ge, gu⟩] }) f _ (by exact trivial) hJ hps rfl rfl rfl rfl rfl rfl)
theorem a_hear3_2_11 (t : Nat) (ht : t < 150) (s : St) (f : Int) (H : Inv t s) (k h w n : Int) (hk : 0 ≤ k ∧ k < 256) (hh : 0 ≤ h ∧ h < 256) (hw : 0 ≤ w ∧ w < 256) (hn : 0 ≤ n ∧ n < 256) (h6 : k % 6 = 3) (h3 : w % 3 = 2) (hps : bn s.ps = true) (hgs : bn s.gs = true) :
  CallA Try.prog 10 [.ptr 0 0, .agg [.int .u8 k, .int .u8 h, .int .u8 w, .int .u8 n]] (wH s f) (ActK t f) := by
  refine callA_of ok10 (Nat.le_of_ble_eq_true rfl) ?_
  have hmin : IntKind.i64.min = -9223372036854775808 := rfl
  have hmax : IntKind.i64.max = 9223372036854775807 := rfl
  have t6 : k.tmod 6 = 3 := tm6 hk.1 h6
  have hpd := pcells_noLoc s.ps
  have hgd := gcells_noLoc s.gs
  have nps := H.np
  have ngs := H.ng
  have t3 : w.tmod 3 = 2 := tm3 hw.1 h3
  have hm3 : h.tmod 3 = h % 3 := tm3 hh.1 rfl
  have stay : ActK t f (.bool true) (wH s f) := ⟨rfl, s, H.up, .inl rfl⟩
  have npos : 0 < s.ps.length := by cases e : s.ps with
    | nil => rw [e] at hps; cases hps
    | cons p r => simp
  have hq0 : 0 ≤ n % (s.ps.length : Int) := Int.emod_nonneg _ (by omega)
  have hq1 : n % (s.ps.length : Int) < s.ps.length := Int.emod_lt_of_pos _ (by omega)
  obtain ⟨p, hpm, R, hat⟩ := pick_p s.ps n hq0 hq1
  have h17 := c17 2 s.l2 none p (kept1_of H.l2.shape)
  obtain ⟨l', hE, hsh, hkp⟩ := hear_shape (w := 2) H.l2.shape (H.ps p hpm)
  obtain ⟨hW, hG⟩ := hear_ok H.up.l2 (by omega) (H.up.ps p hpm) hsh hkp
  have hgw : (graK 2 (kp s.l2) p).w = 2 := rfl
  rw [hE] at h17
  clear hE hkp
  generalize graK 2 (kp s.l2) p = g at h17 hW hG hgw
  have fin : ∀ (G : List Gra), G = s.gs ++ [g] → Inv (t + 1) { s with l2 := l', gs := G } := fun G hGG => by
    subst hGG
    exact { a := H.up.a.mono, b := H.up.b.mono, c := H.up.c.mono, l0 := H.up.l0.mono (by omega), l1 := H.up.l1.mono (by omega), l2 := hW, ps := H.up.ps, gs := (fun x hx => (List.mem_append.1 hx).elim (H.up.gs x) (fun hx => by simp at hx; subst hx; exact hG)), bk := H.bk.mono, np := H.up.np, ng := (by simp; omega) }
  obtain ⟨gw, ⟨g1, g2, g3, g4, g5⟩, gag, ge, gu⟩ := g
  unfold wH at stay ⊢
  rw [hps, hgs] at stay ⊢
  repeat' ((conv => whnf); first
      | refine Branch.ofT rfl ?_
      | refine Branch.ofF rfl ?_
      | refine Branch.ofT (decide_eq_true t6) ?_
      | refine Branch.ofF (decide_eq_false (by rw [t6]; decide)) ?_
      | refine Branch.ofF (decide_eq_false (by omega)) ?_
      | (rw [hm3]; refine Side.mk ?_ ?_; · omega)
      | (rw [t3]; refine Side.mk ?_ ?_; · omega)
      | (rw [hmin, hmax]; refine Side.mk ?_ ?_; · omega)
      | refine Branch.dec (fun h => ?_) (fun h => ?_)
      | refine Branch.negdec (fun h => ?_) (fun h => ?_)
      | refine Branch.neg (fun h => ?_) (fun h => ?_)
      | refine Branch.mk (fun h => ?_) (fun h => ?_)
      | (refine Side.mk ?_ ?_; · first | omega | decide)
      | (refine SideD.mk ?_ ?_; · first | omega | decide)
      | refine ⟨_, Nat.lt_succ_self _, To.refl (.inl ⟨rfl, ?_⟩)⟩
      | refine takeK_at5 hat ?_
      | refine QCallA.of h17 rfl rfl ?_
      | (refine Side.mk ?_ ?_; · exact ⟨by simp [fits], by intro c hc; simp at hc; rcases hc with rfl | rfl | rfl | rfl | rfl <;> rfl⟩)
      | (refine Side.mk ?_ ?_; · (simp only [if_true]; split <;> omega))
      | (refine Side.mk ?_ ?_; · ((repeat' apply And.intro) <;> first | omega | rfl | exact Nat.zero_le _ | (simp only [pcells_len, gcells_len]; done) | (simp only [fits]; omega) | (simp only [List.length_append, List.length_cons, List.length_nil, pcells_len, gcells_len, rep]; omega) | (repeat' first | exact pcells_scal _ | exact gcells_scal _ | exact scal_nil | apply scal_int | apply scal_bool | apply scal_take)))
      | (refine Side.mk ?_ ?_; · (simp; done))
      | fail
      )
  all_goals (conv => whnf)
  · exact RetA.gc [(0, false), (1, true), (2, true), (3, true), (4, true), (5, true)] rfl ⟨trivial, trivial, trivial, hpd, hgd, trivial⟩ stay
  · have hJ := fin (s.gs ++ [⟨gw, ⟨g1, g2, g3, g4, g5⟩, gag, ge, gu⟩]) (by first | rfl | (rw [hgs]; rfl))
    have hgd' := gcells_noLoc (s.gs ++ [⟨gw, ⟨g1, g2, g3, g4, g5⟩, gag, ge, gu⟩])
    rw [gcells_app] at hgd'
    refine CallA.lend [(0, false), (1, true), (2, true), (3, true), (4, true), (67, true)] (c29_at (s := { s with l2 := l', gs := (s.gs ++ [⟨gw, ⟨g1, g2, g3, g4, g5⟩, gag, ge, gu⟩]) }) f hJ hps (bn_app _ _) rfl (by rw [List.length_append]; rfl) rfl (gcells_app _ _)) rfl ⟨trivial, trivial, trivial, hpd, hgd', trivial⟩ rfl ?_
    rintro c H' ⟨rfl, rfl⟩
    refine ⟨⟨trivial, trivial, trivial, hpd, hgd', trivial⟩, ?_⟩
    (conv => whnf)
    exact RetA.gc [(0, false), (1, true), (2, true), (3, true), (4, true), (5, true), (67, true)] rfl ⟨trivial, trivial, trivial, hpd, trivial, hgd', trivial⟩ (wHg_at (s := { s with l2 := l', gs := (s.gs ++ [⟨gw, ⟨g1, g2, g3, g4, g5⟩, gag, ge, gu⟩]) }) f _ (by exact trivial) hJ hps (bn_app _ _) rfl (by rw [List.length_append]; rfl) rfl (gcells_app _ _) rfl)
end Go.Proofs

namespace Go.Proofs
open Go Go.Eng
set_option maxRecDepth 100000
set_option maxHeartbeats 4000000
attribute [local irreducible] Hol.holds Hol.rel
theorem a_take4_0_01 (t : Nat) (ht : t < 150) (s : St) (f : Int) (H : Inv t s) (k h w n : Int) (hk : 0 ≤ k ∧ k < 256) (hh : 0 ≤ h ∧ h < 256) (hw : 0 ≤ w ∧ w < 256) (hn : 0 ≤ n ∧ n < 256) (h6 : k % 6 = 4) (hps : s.ps = []) (hgs : bn s.gs = true) (g : Gra) (R : List AV) (hgm : g ∈ s.gs) (hat : List.drop (0 + ((s.gs.length : Int) - 1 - n % (s.gs.length : Int)).toNat * 9) (gcells s.gs) = g.av ++ R) (g3 : g.p.h = 1) (hq0 : 0 ≤ n % (s.gs.length : Int)) (hq1 : n % (s.gs.length : Int) < s.gs.length) :
  CallA Try.prog 10 [.ptr 0 0, .agg [.int .u8 k, .int .u8 h, .int .u8 w, .int .u8 n]] (wH s f) (ActK t f) := by
  refine callA_of ok10 (Nat.le_of_ble_eq_true rfl) ?_
  have hmin : IntKind.i64.min = -9223372036854775808 := rfl
  have hmax : IntKind.i64.max = 9223372036854775807 := rfl
  have t6 : k.tmod 6 = 4 := tm6 hk.1 h6
  have hpd := pcells_noLoc s.ps
  have hgd := gcells_noLoc s.gs
  have nps := H.np
  have ngs := H.ng
  have hm3 : h.tmod 3 = h % 3 := tm3 hh.1 rfl
  have hT := take_ok H.up.a (H.up.gs g hgm) hgm
  have h23 := c23 s.a g
  generalize s.a.take g = x' at hT h23
  have fin : Inv (t + 1) { s with a := x' } := { H.up with a := hT }
  obtain ⟨gw, ⟨g1, g2, g3', g4, g5⟩, gag, ge, gu⟩ := g
  have g3 : g3' = 1 := g3
  subst g3
  unfold wH
  rw [hps, hgs]
  repeat' ((conv => whnf); first
      | refine Branch.ofT rfl ?_
      | refine Branch.ofF rfl ?_
      | refine Branch.ofT (decide_eq_true t6) ?_
      | refine Branch.ofF (decide_eq_false (by rw [t6]; decide)) ?_
      | refine Branch.ofT (decide_eq_true (by omega)) ?_
      | (rw [hm3]; refine Side.mk ?_ ?_; · omega)
      | (rw [hmin, hmax]; refine Side.mk ?_ ?_; · omega)
      | refine Branch.dec (fun h => ?_) (fun h => ?_)
      | refine Branch.negdec (fun h => ?_) (fun h => ?_)
      | refine Branch.neg (fun h => ?_) (fun h => ?_)
      | refine Branch.mk (fun h => ?_) (fun h => ?_)
      | (refine Side.mk ?_ ?_; · first | omega | decide)
      | (refine SideD.mk ?_ ?_; · first | omega | decide)
      | refine ⟨_, Nat.lt_succ_self _, To.refl (.inl ⟨rfl, ?_⟩)⟩
      | refine takeK_at9 hat ?_
      | refine QCallA.of h23 rfl rfl ?_
      | (refine Side.mk ?_ ?_; · exact ⟨by simp [fits], by intro c hc; simp at hc; rcases hc with rfl | rfl | rfl | rfl | rfl <;> rfl⟩)
      | (refine Side.mk ?_ ?_; · (simp only [if_true]; split <;> omega))
      | (refine Side.mk ?_ ?_; · ((repeat' apply And.intro) <;> first | omega | rfl | exact Nat.zero_le _ | (simp only [pcells_len, gcells_len]; done) | (simp only [fits]; omega) | (simp only [List.length_append, List.length_cons, List.length_nil, pcells_len, gcells_len, rep]; omega) | (repeat' first | exact pcells_scal _ | exact gcells_scal _ | exact scal_nil | apply scal_int | apply scal_bool | apply scal_take)))
      | (refine Side.mk ?_ ?_; · (simp; done))
      | fail
      )
  all_goals (conv => whnf)
  · refine CallA.lend [(0, false), (1, true), (2, true), (3, true), (4, true), (5, true)] (c29_at (s := { s with a := x' }) (bp := false) (np := 0) (PC := []) f fin (by rw [hps]; rfl) hgs (by rw [hps]; rfl) rfl (by rw [hps]; rfl) rfl) rfl ⟨trivial, trivial, trivial, trivial, hgd, trivial⟩ rfl ?_
    rintro c H' ⟨rfl, rfl⟩
    refine ⟨⟨trivial, trivial, trivial, trivial, hgd, trivial⟩, ?_⟩
    (conv => whnf)
    exact RetA.gc [(0, false), (1, true), (2, true), (3, true), (4, true), (5, true)] rfl ⟨trivial, trivial, trivial, trivial, hgd, trivial⟩ (wHs_at (s := { s with a := x' }) (bp := false) (np := 0) (PC := []) f fin (by rw [hps]; rfl) hgs (by rw [hps]; rfl) rfl (by rw [hps]; rfl) rfl rfl)
theorem a_take4_0_11 (t : Nat) (ht : t < 150) (s : St) (f : Int) (H : Inv t s) (k h w n : Int) (hk : 0 ≤ k ∧ k < 256) (hh : 0 ≤ h ∧ h < 256) (hw : 0 ≤ w ∧ w < 256) (hn : 0 ≤ n ∧ n < 256) (h6 : k % 6 = 4) (hps : bn s.ps = true) (hgs : bn s.gs = true) (g : Gra) (R : List AV) (hgm : g ∈ s.gs) (hat : List.drop (0 + ((s.gs.length : Int) - 1 - n % (s.gs.length : Int)).toNat * 9) (gcells s.gs) = g.av ++ R) (g3 : g.p.h = 1) (hq0 : 0 ≤ n % (s.gs.length : Int)) (hq1 : n % (s.gs.length : Int) < s.gs.length) :
  CallA Try.prog 10 [.ptr 0 0, .agg [.int .u8 k, .int .u8 h, .int .u8 w, .int .u8 n]] (wH s f) (ActK t f) := by
  refine callA_of ok10 (Nat.le_of_ble_eq_true rfl) ?_
  have hmin : IntKind.i64.min = -9223372036854775808 := rfl
  have hmax : IntKind.i64.max = 9223372036854775807 := rfl
  have t6 : k.tmod 6 = 4 := tm6 hk.1 h6
  have hpd := pcells_noLoc s.ps
  have hgd := gcells_noLoc s.gs
  have nps := H.np
  have ngs := H.ng
  have hm3 : h.tmod 3 = h % 3 := tm3 hh.1 rfl
  have hT := take_ok H.up.a (H.up.gs g hgm) hgm
  have h23 := c23 s.a g
  generalize s.a.take g = x' at hT h23
  have fin : Inv (t + 1) { s with a := x' } := { H.up with a := hT }
  obtain ⟨gw, ⟨g1, g2, g3', g4, g5⟩, gag, ge, gu⟩ := g
  have g3 : g3' = 1 := g3
  subst g3
  unfold wH
  rw [hps, hgs]
  repeat' ((conv => whnf); first
      | refine Branch.ofT rfl ?_
      | refine Branch.ofF rfl ?_
      | refine Branch.ofT (decide_eq_true t6) ?_
      | refine Branch.ofF (decide_eq_false (by rw [t6]; decide)) ?_
      | refine Branch.ofT (decide_eq_true (by omega)) ?_
      | (rw [hm3]; refine Side.mk ?_ ?_; · omega)
      | (rw [hmin, hmax]; refine Side.mk ?_ ?_; · omega)
      | refine Branch.dec (fun h => ?_) (fun h => ?_)
      | refine Branch.negdec (fun h => ?_) (fun h => ?_)
      | refine Branch.neg (fun h => ?_) (fun h => ?_)
      | refine Branch.mk (fun h => ?_) (fun h => ?_)
      | (refine Side.mk ?_ ?_; · first | omega | decide)
      | (refine SideD.mk ?_ ?_; · first | omega | decide)
      | refine ⟨_, Nat.lt_succ_self _, To.refl (.inl ⟨rfl, ?_⟩)⟩
      | refine takeK_at9 hat ?_
      | refine QCallA.of h23 rfl rfl ?_
      | (refine Side.mk ?_ ?_; · exact ⟨by simp [fits], by intro c hc; simp at hc; rcases hc with rfl | rfl | rfl | rfl | rfl <;> rfl⟩)
      | (refine Side.mk ?_ ?_; · (simp only [if_true]; split <;> omega))
      | (refine Side.mk ?_ ?_; · ((repeat' apply And.intro) <;> first | omega | rfl | exact Nat.zero_le _ | (simp only [pcells_len, gcells_len]; done) | (simp only [fits]; omega) | (simp only [List.length_append, List.length_cons, List.length_nil, pcells_len, gcells_len, rep]; omega) | (repeat' first | exact pcells_scal _ | exact gcells_scal _ | exact scal_nil | apply scal_int | apply scal_bool | apply scal_take)))
      | (refine Side.mk ?_ ?_; · (simp; done))
      | fail
      )
  all_goals (conv => whnf)
  · refine CallA.lend [(0, false), (1, true), (2, true), (3, true), (4, true), (5, true)] (c29_at (s := { s with a := x' }) f fin hps hgs rfl rfl rfl rfl) rfl ⟨trivial, trivial, trivial, hpd, hgd, trivial⟩ rfl ?_
    rintro c H' ⟨rfl, rfl⟩
    refine ⟨⟨trivial, trivial, trivial, hpd, hgd, trivial⟩, ?_⟩
    (conv => whnf)
    exact RetA.gc [(0, false), (1, true), (2, true), (3, true), (4, true), (5, true)] rfl ⟨trivial, trivial, trivial, hpd, hgd, trivial⟩ (wHs_at (s := { s with a := x' }) f fin hps hgs rfl rfl rfl rfl rfl)
theorem a_take4_1_01 (t : Nat) (ht : t < 150) (s : St) (f : Int) (H : Inv t s) (k h w n : Int) (hk : 0 ≤ k ∧ k < 256) (hh : 0 ≤ h ∧ h < 256) (hw : 0 ≤ w ∧ w < 256) (hn : 0 ≤ n ∧ n < 256) (h6 : k % 6 = 4) (hps : s.ps = []) (hgs : bn s.gs = true) (g : Gra) (R : List AV) (hgm : g ∈ s.gs) (hat : List.drop (0 + ((s.gs.length : Int) - 1 - n % (s.gs.length : Int)).toNat * 9) (gcells s.gs) = g.av ++ R) (g3 : g.p.h = 2) (hq0 : 0 ≤ n % (s.gs.length : Int)) (hq1 : n % (s.gs.length : Int) < s.gs.length) :
  CallA Try.prog 10 [.ptr 0 0, .agg [.int .u8 k, .int .u8 h, .int .u8 w, .int .u8 n]] (wH s f) (ActK t f) := by
  refine callA_of ok10 (Nat.le_of_ble_eq_true rfl) ?_
  have hmin : IntKind.i64.min = -9223372036854775808 := rfl
  have hmax : IntKind.i64.max = 9223372036854775807 := rfl
  have t6 : k.tmod 6 = 4 := tm6 hk.1 h6
  have hpd := pcells_noLoc s.ps
  have hgd := gcells_noLoc s.gs
  have nps := H.np
  have ngs := H.ng
  have hm3 : h.tmod 3 = h % 3 := tm3 hh.1 rfl
  have hT := take_ok H.up.b (H.up.gs g hgm) hgm
  have h23 := c23 s.b g
  generalize s.b.take g = x' at hT h23
  have fin : Inv (t + 1) { s with b := x' } := { H.up with b := hT }
  obtain ⟨gw, ⟨g1, g2, g3', g4, g5⟩, gag, ge, gu⟩ := g
  have g3 : g3' = 2 := g3
  subst g3
  unfold wH
  rw [hps, hgs]
  repeat' ((conv => whnf); first
      | refine Branch.ofT rfl ?_
      | refine Branch.ofF rfl ?_
      | refine Branch.ofT (decide_eq_true t6) ?_
      | refine Branch.ofF (decide_eq_false (by rw [t6]; decide)) ?_
      | refine Branch.ofT (decide_eq_true (by omega)) ?_
      | (rw [hm3]; refine Side.mk ?_ ?_; · omega)
      | (rw [hmin, hmax]; refine Side.mk ?_ ?_; · omega)
      | refine Branch.dec (fun h => ?_) (fun h => ?_)
      | refine Branch.negdec (fun h => ?_) (fun h => ?_)
      | refine Branch.neg (fun h => ?_) (fun h => ?_)
      | refine Branch.mk (fun h => ?_) (fun h => ?_)
      | (refine Side.mk ?_ ?_; · first | omega | decide)
      | (refine SideD.mk ?_ ?_; · first | omega | decide)
      | refine ⟨_, Nat.lt_succ_self _, To.refl (.inl ⟨rfl, ?_⟩)⟩
      | refine takeK_at9 hat ?_
      | refine QCallA.of h23 rfl rfl ?_
      | (refine Side.mk ?_ ?_; · exact ⟨by simp [fits], by intro c hc; simp at hc; rcases hc with rfl | rfl | rfl | rfl | rfl <;> rfl⟩)
      | (refine Side.mk ?_ ?_; · (simp only [if_true]; split <;> omega))
      | (refine Side.mk ?_ ?_; · ((repeat' apply And.intro) <;> first | omega | rfl | exact Nat.zero_le _ | (simp only [pcells_len, gcells_len]; done) | (simp only [fits]; omega) | (simp only [List.length_append, List.length_cons, List.length_nil, pcells_len, gcells_len, rep]; omega) | (repeat' first | exact pcells_scal _ | exact gcells_scal _ | exact scal_nil | apply scal_int | apply scal_bool | apply scal_take)))
      | (refine Side.mk ?_ ?_; · (simp; done))
      | fail
      )
  all_goals (conv => whnf)
  · refine CallA.lend [(0, false), (1, true), (2, true), (3, true), (4, true), (5, true)] (c29_at (s := { s with b := x' }) (bp := false) (np := 0) (PC := []) f fin (by rw [hps]; rfl) hgs (by rw [hps]; rfl) rfl (by rw [hps]; rfl) rfl) rfl ⟨trivial, trivial, trivial, trivial, hgd, trivial⟩ rfl ?_
    rintro c H' ⟨rfl, rfl⟩
    refine ⟨⟨trivial, trivial, trivial, trivial, hgd, trivial⟩, ?_⟩
    (conv => whnf)
    exact RetA.gc [(0, false), (1, true), (2, true), (3, true), (4, true), (5, true)] rfl ⟨trivial, trivial, trivial, trivial, hgd, trivial⟩ (wHs_at (s := { s with b := x' }) (bp := false) (np := 0) (PC := []) f fin (by rw [hps]; rfl) hgs (by rw [hps]; rfl) rfl (by rw [hps]; rfl) rfl rfl)
theorem a_take4_1_11 (t : Nat) (ht : t < 150) (s : St) (f : Int) (H : Inv t s) (k h w n : Int) (hk : 0 ≤ k ∧ k < 256) (hh : 0 ≤ h ∧ h < 256) (hw : 0 ≤ w ∧ w < 256) (hn : 0 ≤ n ∧ n < 256) (h6 : k % 6 = 4) (hps : bn s.ps = true) (hgs : bn s.gs = true) (g : Gra) (R : List AV) (hgm : g ∈ s.gs) (hat : List.drop (0 + ((s.gs.length : Int) - 1 - n % (s.gs.length : Int)).toNat * 9) (gcells s.gs) = g.av ++ R) (g3 : g.p.h = 2) (hq0 : 0 ≤ n % (s.gs.length : Int)) (hq1 : n % (s.gs.length : Int) < s.gs.length) :
  CallA Try.prog 10 [.ptr 0 0, .agg [.int .u8 k, .int .u8 h, .int .u8 w, .int .u8 n]] (wH s f) (ActK t f) := by
  refine callA_of ok10 (Nat.le_of_ble_eq_true rfl) ?_
  have hmin : IntKind.i64.min = -9223372036854775808 := rfl
  have hmax : IntKind.i64.max = 9223372036854775807 := rfl
  have t6 : k.tmod 6 = 4 := tm6 hk.1 h6
  have hpd := pcells_noLoc s.ps
  have hgd := gcells_noLoc s.gs
  have nps := H.np
  have ngs := H.ng
  have hm3 : h.tmod 3 = h % 3 := tm3 hh.1 rfl
  have hT := take_ok H.up.b (H.up.gs g hgm) hgm
  have h23 := c23 s.b g
  generalize s.b.take g = x' at hT h23
  have fin : Inv (t + 1) { s with b := x' } := { H.up with b := hT }
  obtain ⟨gw, ⟨g1, g2, g3', g4, g5⟩, gag, ge, gu⟩ := g
  have g3 : g3' = 2 := g3
  subst g3
  unfold wH
  rw [hps, hgs]
  repeat' ((conv => whnf); first
      | refine Branch.ofT rfl ?_
      | refine Branch.ofF rfl ?_
      | refine Branch.ofT (decide_eq_true t6) ?_
      | refine Branch.ofF (decide_eq_false (by rw [t6]; decide)) ?_
      | refine Branch.ofT (decide_eq_true (by omega)) ?_
      | (rw [hm3]; refine Side.mk ?_ ?_; · omega)
      | (rw [hmin, hmax]; refine Side.mk ?_ ?_; · omega)
      | refine Branch.dec (fun h => ?_) (fun h => ?_)
      | refine Branch.negdec (fun h => ?_) (fun h => ?_)
      | refine Branch.neg (fun h => ?_) (fun h => ?_)
      | refine Branch.mk (fun h => ?_) (fun h => ?_)
      | (refine Side.mk ?_ ?_; · first | omega | decide)
      | (refine SideD.mk ?_ ?_; · first | omega | decide)
      | refine ⟨_, Nat.lt_succ_self _, To.refl (.inl ⟨rfl, ?_⟩)⟩
      | refine takeK_at9 hat ?_
      | refine QCallA.of h23 rfl rfl ?_
      | (refine Side.mk ?_ ?_; · exact ⟨by simp [fits], by intro c hc; simp at hc; rcases hc with rfl | rfl | rfl | rfl | rfl <;> rfl⟩)
      | (refine Side.mk ?_ ?_; · (simp only [if_true]; split <;> omega))
      | (refine Side.mk ?_ ?_; · ((repeat' apply And.intro) <;> first | omega | rfl | exact Nat.zero_le _ | (simp only [pcells_len, gcells_len]; done) | (simp only [fits]; omega) | (simp only [List.length_append, List.length_cons, List.length_nil, pcells_len, gcells_len, rep]; omega) | (repeat' first | exact pcells_scal _ | exact gcells_scal _ | exact scal_nil | apply scal_int | apply scal_bool | apply scal_take)))
      | (refine Side.mk ?_ ?_; · (simp; done))
      | fail
      )
  all_goals (conv => whnf)
  · refine CallA.lend [(0, false), (1, true), (2, true), (3, true), (4, true), (5, true)] (c29_at (s := { s with b := x' }) f fin hps hgs rfl rfl rfl rfl) rfl ⟨trivial, trivial, trivial, hpd, hgd, trivial⟩ rfl ?_
    rintro c H' ⟨rfl, rfl⟩
    refine ⟨⟨trivial, trivial, trivial, hpd, hgd, trivial⟩, ?_⟩
    (conv => whnf)
    exact RetA.gc [(0, false), (1, true), (2, true), (3, true), (4, true), (5, true)] rfl ⟨trivial, trivial, trivial, hpd, hgd, trivial⟩ (wHs_at (s := { s with b := x' }) f fin hps hgs rfl rfl rfl rfl rfl)
theorem a_take4_2_01 (t : Nat) (ht : t < 150) (s : St) (f : Int) (H : Inv t s) (k h w n : Int) (hk : 0 ≤ k ∧ k < 256) (hh : 0 ≤ h ∧ h < 256) (hw : 0 ≤ w ∧ w < 256) (hn : 0 ≤ n ∧ n < 256) (h6 : k % 6 = 4) (hps : s.ps = []) (hgs : bn s.gs = true) (g : Gra) (R : List AV) (hgm : g ∈ s.gs) (hat : List.drop (0 + ((s.gs.length : Int) - 1 - n % (s.gs.length : Int)).toNat * 9) (gcells s.gs) = g.av ++ R) (g3 : g.p.h = 3) (hq0 : 0 ≤ n % (s.gs.length : Int)) (hq1 : n % (s.gs.length : Int) < s.gs.length) :
  CallA Try.prog 10 [.ptr 0 0, .agg [.int .u8 k, .int .u8 h, .int .u8 w, .int .u8 n]] (wH s f) (ActK t f) := by
  refine callA_of ok10 (Nat.le_of_ble_eq_true rfl) ?_
  have hmin : IntKind.i64.min = -9223372036854775808 := rfl
  have hmax : IntKind.i64.max = 9223372036854775807 := rfl
  have t6 : k.tmod 6 = 4 := tm6 hk.1 h6
  have hpd := pcells_noLoc s.ps
  have hgd := gcells_noLoc s.gs
  have nps := H.np
  have ngs := H.ng
  have hm3 : h.tmod 3 = h % 3 := tm3 hh.1 rfl
  have hT := take_ok H.up.c (H.up.gs g hgm) hgm
  have h23 := c23 s.c g
  generalize s.c.take g = x' at hT h23
  have fin : Inv (t + 1) { s with c := x' } := { H.up with c := hT }
  obtain ⟨gw, ⟨g1, g2, g3', g4, g5⟩, gag, ge, gu⟩ := g
  have g3 : g3' = 3 := g3
  subst g3
  unfold wH
  rw [hps, hgs]
  repeat' ((conv => whnf); first
      | refine Branch.ofT rfl ?_
      | refine Branch.ofF rfl ?_
      | refine Branch.ofT (decide_eq_true t6) ?_
      | refine Branch.ofF (decide_eq_false (by rw [t6]; decide)) ?_
      | refine Branch.ofT (decide_eq_true (by omega)) ?_
      | (rw [hm3]; refine Side.mk ?_ ?_; · omega)
      | (rw [hmin, hmax]; refine Side.mk ?_ ?_; · omega)
      | refine Branch.dec (fun h => ?_) (fun h => ?_)
      | refine Branch.negdec (fun h => ?_) (fun h => ?_)
      | refine Branch.neg (fun h => ?_) (fun h => ?_)
      | refine Branch.mk (fun h => ?_) (fun h => ?_)
      | (refine Side.mk ?_ ?_; · first | omega | decide)
      | (refine SideD.mk ?_ ?_; · first | omega | decide)
      | refine ⟨_, Nat.lt_succ_self _, To.refl (.inl ⟨rfl, ?_⟩)⟩
      | refine takeK_at9 hat ?_
      | refine QCallA.of h23 rfl rfl ?_
      | (refine Side.mk ?_ ?_; · exact ⟨by simp [fits], by intro c hc; simp at hc; rcases hc with rfl | rfl | rfl | rfl | rfl <;> rfl⟩)
      | (refine Side.mk ?_ ?_; · (simp only [if_true]; split <;> omega))
      | (refine Side.mk ?_ ?_; · ((repeat' apply And.intro) <;> first | omega | rfl | exact Nat.zero_le _ | (simp only [pcells_len, gcells_len]; done) | (simp only [fits]; omega) | (simp only [List.length_append, List.length_cons, List.length_nil, pcells_len, gcells_len, rep]; omega) | (repeat' first | exact pcells_scal _ | exact gcells_scal _ | exact scal_nil | apply scal_int | apply scal_bool | apply scal_take)))
      | (refine Side.mk ?_ ?_; · (simp; done))
      | fail
      )
  all_goals (conv => whnf)
  · refine CallA.lend [(0, false), (1, true), (2, true), (3, true), (4, true), (5, true)] (c29_at (s := { s with c := x' }) (bp := false) (np := 0) (PC := []) f fin (by rw [hps]; rfl) hgs (by rw [hps]; rfl) rfl (by rw [hps]; rfl) rfl) rfl ⟨trivial, trivial, trivial, trivial, hgd, trivial⟩ rfl ?_
    rintro c H' ⟨rfl, rfl⟩
    refine ⟨⟨trivial, trivial, trivial, trivial, hgd, trivial⟩, ?_⟩
    (conv => whnf)
    exact RetA.gc [(0, false), (1, true), (2, true), (3, true), (4, true), (5, true)] rfl ⟨trivial, trivial, trivial, trivial, hgd, trivial⟩ (wHs_at (s := { s with c := x' }) (bp := false) (np := 0) (PC := []) f fin (by rw [hps]; rfl) hgs (by rw [hps]; rfl) rfl (by rw [hps]; rfl) rfl rfl)
theorem a_take4_2_11 (t : Nat) (ht : t < 150) (s : St) (f : Int) (H : Inv t s) (k h w n : Int) (hk : 0 ≤ k ∧ k < 256) (hh : 0 ≤ h ∧ h < 256) (hw : 0 ≤ w ∧ w < 256) (hn : 0 ≤ n ∧ n < 256) (h6 : k % 6 = 4) (hps : bn s.ps = true) (hgs : bn s.gs = true) (g : Gra) (R : List AV) (hgm : g ∈ s.gs) (hat : List.drop (0 + ((s.gs.length : Int) - 1 - n % (s.gs.length : Int)).toNat * 9) (gcells s.gs) = g.av ++ R) (g3 : g.p.h = 3) (hq0 : 0 ≤ n % (s.gs.length : Int)) (hq1 : n % (s.gs.length : Int) < s.gs.length) :
  CallA Try.prog 10 [.ptr 0 0, .agg [.int .u8 k, .int .u8 h, .int .u8 w, .int .u8 n]] (wH s f) (ActK t f) := by
  refine callA_of ok10 (Nat.le_of_ble_eq_true rfl) ?_
  have hmin : IntKind.i64.min = -9223372036854775808 := rfl
  have hmax : IntKind.i64.max = 9223372036854775807 := rfl
  have t6 : k.tmod 6 = 4 := tm6 hk.1 h6
  have hpd := pcells_noLoc s.ps
  have hgd := gcells_noLoc s.gs
  have nps := H.np
  have ngs := H.ng
  have hm3 : h.tmod 3 = h % 3 := tm3 hh.1 rfl
  have hT := take_ok H.up.c (H.up.gs g hgm) hgm
  have h23 := c23 s.c g
  generalize s.c.take g = x' at hT h23
  have fin : Inv (t + 1) { s with c := x' } := { H.up with c := hT }
  obtain ⟨gw, ⟨g1, g2, g3', g4, g5⟩, gag, ge, gu⟩ := g
  have g3 : g3' = 3 := g3
  subst g3
  unfold wH
  rw [hps, hgs]
  repeat' ((conv => whnf); first
      | refine Branch.ofT rfl ?_
      | refine Branch.ofF rfl ?_
      | refine Branch.ofT (decide_eq_true t6) ?_
      | refine Branch.ofF (decide_eq_false (by rw [t6]; decide)) ?_
      | refine Branch.ofT (decide_eq_true (by omega)) ?_
      | (rw [hm3]; refine Side.mk ?_ ?_; · omega)
      | (rw [hmin, hmax]; refine Side.mk ?_ ?_; · omega)
      | refine Branch.dec (fun h => ?_) (fun h => ?_)
      | refine Branch.negdec (fun h => ?_) (fun h => ?_)
      | refine Branch.neg (fun h => ?_) (fun h => ?_)
      | refine Branch.mk (fun h => ?_) (fun h => ?_)
      | (refine Side.mk ?_ ?_; · first | omega | decide)
      | (refine SideD.mk ?_ ?_; · first | omega | decide)
      | refine ⟨_, Nat.lt_succ_self _, To.refl (.inl ⟨rfl, ?_⟩)⟩
      | refine takeK_at9 hat ?_
      | refine QCallA.of h23 rfl rfl ?_
      | (refine Side.mk ?_ ?_; · exact ⟨by simp [fits], by intro c hc; simp at hc; rcases hc with rfl | rfl | rfl | rfl | rfl <;> rfl⟩)
      | (refine Side.mk ?_ ?_; · (simp only [if_true]; split <;> omega))
      | (refine Side.mk ?_ ?_; · ((repeat' apply And.intro) <;> first | omega | rfl | exact Nat.zero_le _ | (simp only [pcells_len, gcells_len]; done) | (simp only [fits]; omega) | (simp only [List.length_append, List.length_cons, List.length_nil, pcells_len, gcells_len, rep]; omega) | (repeat' first | exact pcells_scal _ | exact gcells_scal _ | exact scal_nil | apply scal_int | apply scal_bool | apply scal_take)))
      | (refine Side.mk ?_ ?_; · (simp; done))
      | fail
      )
  all_goals (conv => whnf)
  · refine CallA.lend [(0, false), (1, true), (2, true), (3, true), (4, true), (5, true)] (c29_at (s := { s with c := x' }) f fin hps hgs rfl rfl rfl rfl) rfl ⟨trivial, trivial, trivial, hpd, hgd, trivial⟩ rfl ?_
    rintro c H' ⟨rfl, rfl⟩
    refine ⟨⟨trivial, trivial, trivial, hpd, hgd, trivial⟩, ?_⟩
    (conv => whnf)
    exact RetA.gc [(0, false), (1, true), (2, true), (3, true), (4, true), (5, true)] rfl ⟨trivial, trivial, trivial, hpd, hgd, trivial⟩ (wHs_at (s := { s with c := x' }) f fin hps hgs rfl rfl rfl rfl rfl)
theorem a_take5_0_01 (t : Nat) (ht : t < 150) (s : St) (f : Int) (H : Inv t s) (k h w n : Int) (hk : 0 ≤ k ∧ k < 256) (hh : 0 ≤ h ∧ h < 256) (hw : 0 ≤ w ∧ w < 256) (hn : 0 ≤ n ∧ n < 256) (h6 : k % 6 = 5) (hps : s.ps = []) (hgs : bn s.gs = true) (g : Gra) (R : List AV) (hgm : g ∈ s.gs) (hat : List.drop (0 + ((s.gs.length : Int) - 1 - n % (s.gs.length : Int)).toNat * 9) (gcells s.gs) = g.av ++ R) (g3 : g.p.h = 1) (hq0 : 0 ≤ n % (s.gs.length : Int)) (hq1 : n % (s.gs.length : Int) < s.gs.length) :
  CallA Try.prog 10 [.ptr 0 0, .agg [.int .u8 k, .int .u8 h, .int .u8 w, .int .u8 n]] (wH s f) (ActK t f) := by
  refine callA_of ok10 (Nat.le_of_ble_eq_true rfl) ?_
  have hmin : IntKind.i64.min = -9223372036854775808 := rfl
  have hmax : IntKind.i64.max = 9223372036854775807 := rfl
  have t6 : k.tmod 6 = 5 := tm6 hk.1 h6
  have hpd := pcells_noLoc s.ps
  have hgd := gcells_noLoc s.gs
  have nps := H.np
  have ngs := H.ng
  have hm3 : h.tmod 3 = h % 3 := tm3 hh.1 rfl
  have hT := take_ok H.up.a (H.up.gs g hgm) hgm
  have h23 := c23 s.a g
  generalize s.a.take g = x' at hT h23
  have fin : Inv (t + 1) { s with a := x' } := { H.up with a := hT }
  obtain ⟨gw, ⟨g1, g2, g3', g4, g5⟩, gag, ge, gu⟩ := g
  have g3 : g3' = 1 := g3
  subst g3
  unfold wH
  rw [hps, hgs]
  repeat' ((conv => whnf); first
      | refine Branch.ofT rfl ?_
      | refine Branch.ofF rfl ?_
      | refine Branch.ofT (decide_eq_true t6) ?_
      | refine Branch.ofF (decide_eq_false (by rw [t6]; decide)) ?_
      | refine Branch.ofT (decide_eq_true (by omega)) ?_
      | (rw [hm3]; refine Side.mk ?_ ?_; · omega)
      | (rw [hmin, hmax]; refine Side.mk ?_ ?_; · omega)
      | refine Branch.dec (fun h => ?_) (fun h => ?_)
      | refine Branch.negdec (fun h => ?_) (fun h => ?_)
      | refine Branch.neg (fun h => ?_) (fun h => ?_)
      | refine Branch.mk (fun h => ?_) (fun h => ?_)
      | (refine Side.mk ?_ ?_; · first | omega | decide)
      | (refine SideD.mk ?_ ?_; · first | omega | decide)
      | refine ⟨_, Nat.lt_succ_self _, To.refl (.inl ⟨rfl, ?_⟩)⟩
      | refine takeK_at9 hat ?_
      | refine QCallA.of h23 rfl rfl ?_
      | (refine Side.mk ?_ ?_; · exact ⟨by simp [fits], by intro c hc; simp at hc; rcases hc with rfl | rfl | rfl | rfl | rfl <;> rfl⟩)
      | (refine Side.mk ?_ ?_; · (simp only [if_true]; split <;> omega))
      | (refine Side.mk ?_ ?_; · ((repeat' apply And.intro) <;> first | omega | rfl | exact Nat.zero_le _ | (simp only [pcells_len, gcells_len]; done) | (simp only [fits]; omega) | (simp only [List.length_append, List.length_cons, List.length_nil, pcells_len, gcells_len, rep]; omega) | (repeat' first | exact pcells_scal _ | exact gcells_scal _ | exact scal_nil | apply scal_int | apply scal_bool | apply scal_take)))
      | (refine Side.mk ?_ ?_; · (simp; done))
      | fail
      )
  all_goals (conv => whnf)
  · refine CallA.lend [(0, false), (1, true), (2, true), (3, true), (4, true), (5, true)] (c29_at (s := { s with a := x' }) (bp := false) (np := 0) (PC := []) f fin (by rw [hps]; rfl) hgs (by rw [hps]; rfl) rfl (by rw [hps]; rfl) rfl) rfl ⟨trivial, trivial, trivial, trivial, hgd, trivial⟩ rfl ?_
    rintro c H' ⟨rfl, rfl⟩
    refine ⟨⟨trivial, trivial, trivial, trivial, hgd, trivial⟩, ?_⟩
    (conv => whnf)
    exact RetA.gc [(0, false), (1, true), (2, true), (3, true), (4, true), (5, true)] rfl ⟨trivial, trivial, trivial, trivial, hgd, trivial⟩ (wHs_at (s := { s with a := x' }) (bp := false) (np := 0) (PC := []) f fin (by rw [hps]; rfl) hgs (by rw [hps]; rfl) rfl (by rw [hps]; rfl) rfl rfl)
theorem a_take5_0_11 (t : Nat) (ht : t < 150) (s : St) (f : Int) (H : Inv t s) (k h w n : Int) (hk : 0 ≤ k ∧ k < 256) (hh : 0 ≤ h ∧ h < 256) (hw : 0 ≤ w ∧ w < 256) (hn : 0 ≤ n ∧ n < 256) (h6 : k % 6 = 5) (hps : bn s.ps = true) (hgs : bn s.gs = true) (g : Gra) (R : List AV) (hgm : g ∈ s.gs) (hat : List.drop (0 + ((s.gs.length : Int) - 1 - n % (s.gs.length : Int)).toNat * 9) (gcells s.gs) = g.av ++ R) (g3 : g.p.h = 1) (hq0 : 0 ≤ n % (s.gs.length : Int)) (hq1 : n % (s.gs.length : Int) < s.gs.length) :
  CallA Try.prog 10 [.ptr 0 0, .agg [.int .u8 k, .int .u8 h, .int .u8 w, .int .u8 n]] (wH s f) (ActK t f) := by
  refine callA_of ok10 (Nat.le_of_ble_eq_true rfl) ?_
  have hmin : IntKind.i64.min = -9223372036854775808 := rfl
  have hmax : IntKind.i64.max = 9223372036854775807 := rfl
  have t6 : k.tmod 6 = 5 := tm6 hk.1 h6
  have hpd := pcells_noLoc s.ps
  have hgd := gcells_noLoc s.gs
  have nps := H.np
  have ngs := H.ng
  have hm3 : h.tmod 3 = h % 3 := tm3 hh.1 rfl
  have hT := take_ok H.up.a (H.up.gs g hgm) hgm
  have h23 := c23 s.a g
  generalize s.a.take g = x' at hT h23
  have fin : Inv (t + 1) { s with a := x' } := { H.up with a := hT }
  obtain ⟨gw, ⟨g1, g2, g3', g4, g5⟩, gag, ge, gu⟩ := g
  have g3 : g3' = 1 := g3
  subst g3
  unfold wH
  rw [hps, hgs]
  repeat' ((conv => whnf); first
      | refine Branch.ofT rfl ?_
      | refine Branch.ofF rfl ?_
      | refine Branch.ofT (decide_eq_true t6) ?_
      | refine Branch.ofF (decide_eq_false (by rw [t6]; decide)) ?_
      | refine Branch.ofT (decide_eq_true (by omega)) ?_
      | (rw [hm3]; refine Side.mk ?_ ?_; · omega)
      | (rw [hmin, hmax]; refine Side.mk ?_ ?_; · omega)
      | refine Branch.dec (fun h => ?_) (fun h => ?_)
      | refine Branch.negdec (fun h => ?_) (fun h => ?_)
      | refine Branch.neg (fun h => ?_) (fun h => ?_)
      | refine Branch.mk (fun h => ?_) (fun h => ?_)
      | (refine Side.mk ?_ ?_; · first | omega | decide)
      | (refine SideD.mk ?_ ?_; · first | omega | decide)
      | refine ⟨_, Nat.lt_succ_self _, To.refl (.inl ⟨rfl, ?_⟩)⟩
      | refine takeK_at9 hat ?_
      | refine QCallA.of h23 rfl rfl ?_
      | (refine Side.mk ?_ ?_; · exact ⟨by simp [fits], by intro c hc; simp at hc; rcases hc with rfl | rfl | rfl | rfl | rfl <;> rfl⟩)
      | (refine Side.mk ?_ ?_; · (simp only [if_true]; split <;> omega))
      | (refine Side.mk ?_ ?_; · ((repeat' apply And.intro) <;> first | omega | rfl | exact Nat.zero_le _ | (simp only [pcells_len, gcells_len]; done) | (simp only [fits]; omega) | (simp only [List.length_append, List.length_cons, List.length_nil, pcells_len, gcells_len, rep]; omega) | (repeat' first | exact pcells_scal _ | exact gcells_scal _ | exact scal_nil | apply scal_int | apply scal_bool | apply scal_take)))
      | (refine Side.mk ?_ ?_; · (simp; done))
      | fail
      )
  all_goals (conv => whnf)
  · refine CallA.lend [(0, false), (1, true), (2, true), (3, true), (4, true), (5, true)] (c29_at (s := { s with a := x' }) f fin hps hgs rfl rfl rfl rfl) rfl ⟨trivial, trivial, trivial, hpd, hgd, trivial⟩ rfl ?_
    rintro c H' ⟨rfl, rfl⟩
    refine ⟨⟨trivial, trivial, trivial, hpd, hgd, trivial⟩, ?_⟩
    (conv => whnf)
    exact RetA.gc [(0, false), (1, true), (2, true), (3, true), (4, true), (5, true)] rfl ⟨trivial, trivial, trivial, hpd, hgd, trivial⟩ (wHs_at (s := { s with a := x' }) f fin hps hgs rfl rfl rfl rfl rfl)
theorem a_take5_1_01 (t : Nat) (ht : t < 150) (s : St) (f : Int) (H : Inv t s) (k h w n : Int) (hk : 0 ≤ k ∧ k < 256) (hh : 0 ≤ h ∧ h < 256) (hw : 0 ≤ w ∧ w < 256) (hn : 0 ≤ n ∧ n < 256) (h6 : k % 6 = 5) (hps : s.ps = []) (hgs : bn s.gs = true) (g : Gra) (R : List AV) (hgm : g ∈ s.gs) (hat : List.drop (0 + ((s.gs.length : Int) - 1 - n % (s.gs.length : Int)).toNat * 9) (gcells s.gs) = g.av ++ R) (g3 : g.p.h = 2) (hq0 : 0 ≤ n % (s.gs.length : Int)) (hq1 : n % (s.gs.length : Int) < s.gs.length) :
  CallA Try.prog 10 [.ptr 0 0, .agg [.int .u8 k, .int .u8 h, .int .u8 w, .int .u8 n]] (wH s f) (ActK t f) := by
  refine callA_of ok10 (Nat.le_of_ble_eq_true rfl) ?_
  have hmin : IntKind.i64.min = -9223372036854775808 := rfl
  have hmax : IntKind.i64.max = 9223372036854775807 := rfl
  have t6 : k.tmod 6 = 5 := tm6 hk.1 h6
  have hpd := pcells_noLoc s.ps
  have hgd := gcells_noLoc s.gs
  have nps := H.np
  have ngs := H.ng
  have hm3 : h.tmod 3 = h % 3 := tm3 hh.1 rfl
  have hT := take_ok H.up.b (H.up.gs g hgm) hgm
  have h23 := c23 s.b g
  generalize s.b.take g = x' at hT h23
  have fin : Inv (t + 1) { s with b := x' } := { H.up with b := hT }
  obtain ⟨gw, ⟨g1, g2, g3', g4, g5⟩, gag, ge, gu⟩ := g
  have g3 : g3' = 2 := g3
  subst g3
  unfold wH
  rw [hps, hgs]
  repeat' ((conv => whnf); first
      | refine Branch.ofT rfl ?_
      | refine Branch.ofF rfl ?_
      | refine Branch.ofT (decide_eq_true t6) ?_
      | refine Branch.ofF (decide_eq_false (by rw [t6]; decide)) ?_
      | refine Branch.ofT (decide_eq_true (by omega)) ?_
      | (rw [hm3]; refine Side.mk ?_ ?_; · omega)
      | (rw [hmin, hmax]; refine Side.mk ?_ ?_; · omega)
      | refine Branch.dec (fun h => ?_) (fun h => ?_)
      | refine Branch.negdec (fun h => ?_) (fun h => ?_)
      | refine Branch.neg (fun h => ?_) (fun h => ?_)
      | refine Branch.mk (fun h => ?_) (fun h => ?_)
      | (refine Side.mk ?_ ?_; · first | omega | decide)
      | (refine SideD.mk ?_ ?_; · first | omega | decide)
      | refine ⟨_, Nat.lt_succ_self _, To.refl (.inl ⟨rfl, ?_⟩)⟩
      | refine takeK_at9 hat ?_
      | refine QCallA.of h23 rfl rfl ?_
      | (refine Side.mk ?_ ?_; · exact ⟨by simp [fits], by intro c hc; simp at hc; rcases hc with rfl | rfl | rfl | rfl | rfl <;> rfl⟩)
      | (refine Side.mk ?_ ?_; · (simp only [if_true]; split <;> omega))
      | (refine Side.mk ?_ ?_; · ((repeat' apply And.intro) <;> first | omega | rfl | exact Nat.zero_le _ | (simp only [pcells_len, gcells_len]; done) | (simp only [fits]; omega) | (simp only [List.length_append, List.length_cons, List.length_nil, pcells_len, gcells_len, rep]; omega) | (repeat' first | exact pcells_scal _ | exact gcells_scal _ | exact scal_nil | apply scal_int | apply scal_bool | apply scal_take)))
      | (refine Side.mk ?_ ?_; · (simp; done))
      | fail
      )
  all_goals (conv => whnf)
  · refine CallA.lend [(0, false), (1, true), (2, true), (3, true), (4, true), (5, true)] (c29_at (s := { s with b := x' }) (bp := false) (np := 0) (PC := []) f fin (by rw [hps]; rfl) hgs (by rw [hps]; rfl) rfl (by rw [hps]; rfl) rfl) rfl ⟨trivial, trivial, trivial, trivial, hgd, trivial⟩ rfl ?_
    rintro c H' ⟨rfl, rfl⟩
    refine ⟨⟨trivial, trivial, trivial, trivial, hgd, trivial⟩, ?_⟩
    (conv => whnf)
    exact RetA.gc [(0, false), (1, true), (2, true), (3, true), (4, true), (5, true)] rfl ⟨trivial, trivial, trivial, trivial, hgd, trivial⟩ (wHs_at (s := { s with b := x' }) (bp := false) (np := 0) (PC := []) f fin (by rw [hps]; rfl) hgs (by rw [hps]; rfl) rfl (by rw [hps]; rfl) rfl rfl)
theorem a_take5_1_11 (t : Nat) (ht : t < 150) (s : St) (f : Int) (H : Inv t s) (k h w n : Int) (hk : 0 ≤ k ∧ k < 256) (hh : 0 ≤ h ∧ h < 256) (hw : 0 ≤ w ∧ w < 256) (hn : 0 ≤ n ∧ n < 256) (h6 : k % 6 = 5) (hps : bn s.ps = true) (hgs : bn s.gs = true) (g : Gra) (R : List AV) (hgm : g ∈ s.gs) (hat : List.drop (0 + ((s.gs.length : Int) - 1 - n % (s.gs.length : Int)).toNat * 9) (gcells s.gs) = g.av ++ R) (g3 : g.p.h = 2) (hq0 : 0 ≤ n % (s.gs.length : Int)) (hq1 : n % (s.gs.length : Int) < s.gs.length) :
  CallA Try.prog 10 [.ptr 0 0, .agg [.int .u8 k, .int .u8 h, .int .u8 w, .int .u8 n]] (wH s f) (ActK t f) := by
  refine callA_of ok10 (Nat.le_of_ble_eq_true rfl) ?_
  have hmin : IntKind.i64.min = -9223372036854775808 := rfl
  have hmax : IntKind.i64.max = 9223372036854775807 := rfl
  have t6 : k.tmod 6 = 5 := tm6 hk.1 h6
  have hpd := pcells_noLoc s.ps
  have hgd := gcells_noLoc s.gs
  have nps := H.np
  have ngs := H.ng
  have hm3 : h.tmod 3 = h % 3 := tm3 hh.1 rfl
  have hT := take_ok H.up.b (H.up.gs g hgm) hgm
  have h23 := c23 s.b g
  generalize s.b.take g = x' at hT h23
  have fin : Inv (t + 1) { s with b := x' } := { H.up with b := hT }
  obtain ⟨gw, ⟨g1, g2, g3', g4, g5⟩, gag, ge, gu⟩ := g
  have g3 : g3' = 2 := g3
  subst g3
  unfold wH
  rw [hps, hgs]
  repeat' ((conv => whnf); first
      | refine Branch.ofT rfl ?_
      | refine Branch.ofF rfl ?_
      | refine Branch.ofT (decide_eq_true t6) ?_
      | refine Branch.ofF (decide_eq_false (by rw [t6]; decide)) ?_
      | refine Branch.ofT (decide_eq_true (by omega)) ?_
      | (rw [hm3]; refine Side.mk ?_ ?_; · omega)
      | (rw [hmin, hmax]; refine Side.mk ?_ ?_; · omega)
      | refine Branch.dec (fun h => ?_) (fun h => ?_)
      | refine Branch.negdec (fun h => ?_) (fun h => ?_)
      | refine Branch.neg (fun h => ?_) (fun h => ?_)
      | refine Branch.mk (fun h => ?_) (fun h => ?_)
      | (refine Side.mk ?_ ?_; · first | omega | decide)
      | (refine SideD.mk ?_ ?_; · first | omega | decide)
      | refine ⟨_, Nat.lt_succ_self _, To.refl (.inl ⟨rfl, ?_⟩)⟩
      | refine takeK_at9 hat ?_
      | refine QCallA.of h23 rfl rfl ?_
      | (refine Side.mk ?_ ?_; · exact ⟨by simp [fits], by intro c hc; simp at hc; rcases hc with rfl | rfl | rfl | rfl | rfl <;> rfl⟩)
      | (refine Side.mk ?_ ?_; · (simp only [if_true]; split <;> omega))
      | (refine Side.mk ?_ ?_; · ((repeat' apply And.intro) <;> first | omega | rfl | exact Nat.zero_le _ | (simp only [pcells_len, gcells_len]; done) | (simp only [fits]; omega) | (simp only [List.length_append, List.length_cons, List.length_nil, pcells_len, gcells_len, rep]; omega) | (repeat' first | exact pcells_scal _ | exact gcells_scal _ | exact scal_nil | apply scal_int | apply scal_bool | apply scal_take)))
      | (refine Side.mk ?_ ?_; · (simp; done))
      | fail
      )
  all_goals (conv => whnf)
  · refine CallA.lend [(0, false), (1, true), (2, true), (3, true), (4, true), (5, true)] (c29_at (s := { s with b := x' }) f fin hps hgs rfl rfl rfl rfl) rfl ⟨trivial, trivial, trivial, hpd, hgd, trivial⟩ rfl ?_
    rintro c H' ⟨rfl, rfl⟩
    refine ⟨⟨trivial, trivial, trivial, hpd, hgd, trivial⟩, ?_⟩
    (conv => whnf)
    exact RetA.gc [(0, false), (1, true), (2, true), (3, true), (4, true), (5, true)] rfl ⟨trivial, trivial, trivial, hpd, hgd, trivial⟩ (wHs_at (s := { s with b := x' }) f fin hps hgs rfl rfl rfl rfl rfl)
theorem a_take5_2_01 (t : Nat) (ht : t < 150) (s : St) (f : Int) (H : Inv t s) (k h w n : Int) (hk : 0 ≤ k ∧ k < 256) (hh : 0 ≤ h ∧ h < 256) (hw : 0 ≤ w ∧ w < 256) (hn : 0 ≤ n ∧ n < 256) (h6 : k % 6 = 5) (hps : s.ps = []) (hgs : bn s.gs = true) (g : Gra) (R : List AV) (hgm : g ∈ s.gs) (hat : List.drop (0 + ((s.gs.length : Int) - 1 - n % (s.gs.length : Int)).toNat * 9) (gcells s.gs) = g.av ++ R) (g3 : g.p.h = 3) (hq0 : 0 ≤ n % (s.gs.length : Int)) (hq1 : n % (s.gs.length : Int) < s.gs.length) :
  CallA Try.prog 10 [.ptr 0 0, .agg [.int .u8 k, .int .u8 h, .int .u8 w, .int .u8 n]] (wH s f) (ActK t f) := by
  refine callA_of ok10 (Nat.le_of_ble_eq_true rfl) ?_
  have hmin : IntKind.i64.min = -9223372036854775808 := rfl
  have hmax : IntKind.i64.max = 9223372036854775807 := rfl
  have t6 : k.tmod 6 = 5 := tm6 hk.1 h6
  have hpd := pcells_noLoc s.ps
  have hgd := gcells_noLoc s.gs
  have nps := H.np
  have ngs := H.ng
  have hm3 : h.tmod 3 = h % 3 := tm3 hh.1 rfl
  have hT := take_ok H.up.c (H.up.gs g hgm) hgm
  have h23 := c23 s.c g
  generalize s.c.take g = x' at hT h23
  have fin : Inv (t + 1) { s with c := x' } := { H.up with c := hT }
  obtain ⟨gw, ⟨g1, g2, g3', g4, g5⟩, gag, ge, gu⟩ := g
  have g3 : g3' = 3 := g3
  subst g3
  unfold wH
  rw [hps, hgs]
  repeat' ((conv => whnf); first
      | refine Branch.ofT rfl ?_
      | refine Branch.ofF rfl ?_
      | refine Branch.ofT (decide_eq_true t6) ?_
      | refine Branch.ofF (decide_eq_false (by rw [t6]; decide)) ?_
      | refine Branch.ofT (decide_eq_true (by omega)) ?_
      | (rw [hm3]; refine Side.mk ?_ ?_; · omega)
      | (rw [hmin, hmax]; refine Side.mk ?_ ?_; · omega)
      | refine Branch.dec (fun h => ?_) (fun h => ?_)
      | refine Branch.negdec (fun h => ?_) (fun h => ?_)
      | refine Branch.neg (fun h => ?_) (fun h => ?_)
      | refine Branch.mk (fun h => ?_) (fun h => ?_)
      | (refine Side.mk ?_ ?_; · first | omega | decide)
      | (refine SideD.mk ?_ ?_; · first | omega | decide)
      | refine ⟨_, Nat.lt_succ_self _, To.refl (.inl ⟨rfl, ?_⟩)⟩
      | refine takeK_at9 hat ?_
      | refine QCallA.of h23 rfl rfl ?_
      | (refine Side.mk ?_ ?_; · exact ⟨by simp [fits], by intro c hc; simp at hc; rcases hc with rfl | rfl | rfl | rfl | rfl <;> rfl⟩)
      | (refine Side.mk ?_ ?_; · (simp only [if_true]; split <;> omega))
      | (refine Side.mk ?_ ?_; · ((repeat' apply And.intro) <;> first | omega | rfl | exact Nat.zero_le _ | (simp only [pcells_len, gcells_len]; done) | (simp only [fits]; omega) | (simp only [List.length_append, List.length_cons, List.length_nil, pcells_len, gcells_len, rep]; omega) | (repeat' first | exact pcells_scal _ | exact gcells_scal _ | exact scal_nil | apply scal_int | apply scal_bool | apply scal_take)))
      | (refine Side.mk ?_ ?_; · (simp; done))
      | fail
      )
  all_goals (conv => whnf)
  · refine CallA.lend [(0, false), (1, true), (2, true), (3, true), (4, true), (5, true)] (c29_at (s := { s with c := x' }) (bp := false) (np := 0) (PC := []) f fin (by rw [hps]; rfl) hgs (by rw [hps]; rfl) rfl (by rw [hps]; rfl) rfl) rfl ⟨trivial, trivial, trivial, trivial, hgd, trivial⟩ rfl ?_
    rintro c H' ⟨rfl, rfl⟩
    refine ⟨⟨trivial, trivial, trivial, trivial, hgd, trivial⟩, ?_⟩
    (conv => whnf)
    exact RetA.gc [(0, false), (1, true), (2, true), (3, true), (4, true), (5, true)] rfl ⟨trivial, trivial, trivial, trivial, hgd, trivial⟩ (wHs_at (s := { s with c := x' }) (bp := false) (np := 0) (PC := []) f fin (by rw [hps]; rfl) hgs (by rw [hps]; rfl) rfl (by rw [hps]; rfl) rfl rfl)
theorem a_take5_2_11 (t : Nat) (ht : t < 150) (s : St) (f : Int) (H : Inv t s) (k h w n : Int) (hk : 0 ≤ k ∧ k < 256) (hh : 0 ≤ h ∧ h < 256) (hw : 0 ≤ w ∧ w < 256) (hn : 0 ≤ n ∧ n < 256) (h6 : k % 6 = 5) (hps : bn s.ps = true) (hgs : bn s.gs = true) (g : Gra) (R : List AV) (hgm : g ∈ s.gs) (hat : List.drop (0 + ((s.gs.length : Int) - 1 - n % (s.gs.length : Int)).toNat * 9) (gcells s.gs) = g.av ++ R) (g3 : g.p.h = 3) (hq0 : 0 ≤ n % (s.gs.length : Int)) (hq1 : n % (s.gs.length : Int) < s.gs.length) :
  CallA Try.prog 10 [.ptr 0 0, .agg [.int .u8 k, .int .u8 h, .int .u8 w, .int .u8 n]] (wH s f) (ActK t f) := by
  refine callA_of ok10 (Nat.le_of_ble_eq_true rfl) ?_
  have hmin : IntKind.i64.min = -9223372036854775808 := rfl
  have hmax : IntKind.i64.max = 9223372036854775807 := rfl
  have t6 : k.tmod 6 = 5 := tm6 hk.1 h6
  have hpd := pcells_noLoc s.ps
  have hgd := gcells_noLoc s.gs
  have nps := H.np
  have ngs := H.ng
  have hm3 : h.tmod 3 = h % 3 := tm3 hh.1 rfl
  have hT := take_ok H.up.c (H.up.gs g hgm) hgm
  have h23 := c23 s.c g
  generalize s.c.take g = x' at hT h23
  have fin : Inv (t + 1) { s with c := x' } := { H.up with c := hT }
  obtain ⟨gw, ⟨g1, g2, g3', g4, g5⟩, gag, ge, gu⟩ := g
  have g3 : g3' = 3 := g3
  subst g3
  unfold wH
  rw [hps, hgs]
  repeat' ((conv => whnf); first
      | refine Branch.ofT rfl ?_
      | refine Branch.ofF rfl ?_
      | refine Branch.ofT (decide_eq_true t6) ?_
      | refine Branch.ofF (decide_eq_false (by rw [t6]; decide)) ?_
      | refine Branch.ofT (decide_eq_true (by omega)) ?_
      | (rw [hm3]; refine Side.mk ?_ ?_; · omega)
      | (rw [hmin, hmax]; refine Side.mk ?_ ?_; · omega)
      | refine Branch.dec (fun h => ?_) (fun h => ?_)
      | refine Branch.negdec (fun h => ?_) (fun h => ?_)
      | refine Branch.neg (fun h => ?_) (fun h => ?_)
      | refine Branch.mk (fun h => ?_) (fun h => ?_)
      | (refine Side.mk ?_ ?_; · first | omega | decide)
      | (refine SideD.mk ?_ ?_; · first | omega | decide)
      | refine ⟨_, Nat.lt_succ_self _, To.refl (.inl ⟨rfl, ?_⟩)⟩
      | refine takeK_at9 hat ?_
      | refine QCallA.of h23 rfl rfl ?_
      | (refine Side.mk ?_ ?_; · exact ⟨by simp [fits], by intro c hc; simp at hc; rcases hc with rfl | rfl | rfl | rfl | rfl <;> rfl⟩)
      | (refine Side.mk ?_ ?_; · (simp only [if_true]; split <;> omega))
      | (refine Side.mk ?_ ?_; · ((repeat' apply And.intro) <;> first | omega | rfl | exact Nat.zero_le _ | (simp only [pcells_len, gcells_len]; done) | (simp only [fits]; omega) | (simp only [List.length_append, List.length_cons, List.length_nil, pcells_len, gcells_len, rep]; omega) | (repeat' first | exact pcells_scal _ | exact gcells_scal _ | exact scal_nil | apply scal_int | apply scal_bool | apply scal_take)))
      | (refine Side.mk ?_ ?_; · (simp; done))
      | fail
      )
  all_goals (conv => whnf)
  · refine CallA.lend [(0, false), (1, true), (2, true), (3, true), (4, true), (5, true)] (c29_at (s := { s with c := x' }) f fin hps hgs rfl rfl rfl rfl) rfl ⟨trivial, trivial, trivial, hpd, hgd, trivial⟩ rfl ?_
    rintro c H' ⟨rfl, rfl⟩
    refine ⟨⟨trivial, trivial, trivial, hpd, hgd, trivial⟩, ?_⟩
    (conv => whnf)
    exact RetA.gc [(0, false), (1, true), (2, true), (3, true), (4, true), (5, true)] rfl ⟨trivial, trivial, trivial, hpd, hgd, trivial⟩ (wHs_at (s := { s with c := x' }) f fin hps hgs rfl rfl rfl rfl rfl)
theorem a_take4_0_00 (t : Nat) (ht : t < 150) (s : St) (f : Int) (H : Inv t s) (k h w n : Int) (hk : 0 ≤ k ∧ k < 256) (hh : 0 ≤ h ∧ h < 256) (hw : 0 ≤ w ∧ w < 256) (hn : 0 ≤ n ∧ n < 256) (h6 : k % 6 = 4) (hps : s.ps = []) (hgs : s.gs = []) :
  CallA Try.prog 10 [.ptr 0 0, .agg [.int .u8 k, .int .u8 h, .int .u8 w, .int .u8 n]] (wH s f) (ActK t f) := by
  refine callA_of ok10 (Nat.le_of_ble_eq_true rfl) ?_
  have hmin : IntKind.i64.min = -9223372036854775808 := rfl
  have hmax : IntKind.i64.max = 9223372036854775807 := rfl
  have t6 : k.tmod 6 = 4 := tm6 hk.1 h6
  have hpd := pcells_noLoc s.ps
  have hgd := gcells_noLoc s.gs
  have nps := H.np
  have ngs := H.ng
  have hm3 : h.tmod 3 = h % 3 := tm3 hh.1 rfl
  unfold wH
  rw [hps, hgs]
  repeat' ((conv => whnf); first
      | refine Branch.ofT rfl ?_
      | refine Branch.ofF rfl ?_
      | refine Branch.ofT (decide_eq_true t6) ?_
      | refine Branch.ofF (decide_eq_false (by rw [t6]; decide)) ?_
      | refine Branch.ofT (decide_eq_true (by omega)) ?_
      | (rw [hm3]; refine Side.mk ?_ ?_; · omega)
      | (rw [hmin, hmax]; refine Side.mk ?_ ?_; · omega)
      | refine Branch.dec (fun h => ?_) (fun h => ?_)
      | refine Branch.negdec (fun h => ?_) (fun h => ?_)
      | refine Branch.neg (fun h => ?_) (fun h => ?_)
      | refine Branch.mk (fun h => ?_) (fun h => ?_)
      | (refine Side.mk ?_ ?_; · first | omega | decide)
      | (refine SideD.mk ?_ ?_; · first | omega | decide)
      | refine ⟨_, Nat.lt_succ_self _, To.refl (.inl ⟨rfl, ?_⟩)⟩
      | refine takeK_at9 hat ?_
      | refine QCallA.of h23 rfl rfl ?_
      | (refine Side.mk ?_ ?_; · exact ⟨by simp [fits], by intro c hc; simp at hc; rcases hc with rfl | rfl | rfl | rfl | rfl <;> rfl⟩)
      | (refine Side.mk ?_ ?_; · (simp only [if_true]; split <;> omega))
      | (refine Side.mk ?_ ?_; · ((repeat' apply And.intro) <;> first | omega | rfl | exact Nat.zero_le _ | (simp only [pcells_len, gcells_len]; done) | (simp only [fits]; omega) | (simp only [List.length_append, List.length_cons, List.length_nil, pcells_len, gcells_len, rep]; omega) | (repeat' first | exact pcells_scal _ | exact gcells_scal _ | exact scal_nil | apply scal_int | apply scal_bool | apply scal_take)))
      | (refine Side.mk ?_ ?_; · (simp; done))
      | fail
      )
  all_goals (conv => whnf)
  · refine CallA.lend [(0, false), (1, true), (2, true), (3, true), (4, true), (5, true)] (c29_at (s := s) (bp := false) (np := 0) (PC := []) (bg := false) (ng := 0) (GC := []) f H.up (by rw [hps]; rfl) (by rw [hgs]; rfl) (by rw [hps]; rfl) (by rw [hgs]; rfl) (by rw [hps]; rfl) (by rw [hgs]; rfl)) rfl ⟨trivial, trivial, trivial, trivial, trivial, trivial⟩ rfl ?_
    rintro c H' ⟨rfl, rfl⟩
    refine ⟨⟨trivial, trivial, trivial, trivial, trivial, trivial⟩, ?_⟩
    (conv => whnf)
    exact RetA.gc [(0, false), (1, true), (2, true), (3, true), (4, true), (5, true)] rfl ⟨trivial, trivial, trivial, trivial, trivial, trivial⟩ (wHs_at (s := s) (bp := false) (np := 0) (PC := []) (bg := false) (ng := 0) (GC := []) f H.up (by rw [hps]; rfl) (by rw [hgs]; rfl) (by rw [hps]; rfl) (by rw [hgs]; rfl) (by rw [hps]; rfl) (by rw [hgs]; rfl) rfl)
theorem a_take4_0_10 (t : Nat) (ht : t < 150) (s : St) (f : Int) (H : Inv t s) (k h w n : Int) (hk : 0 ≤ k ∧ k < 256) (hh : 0 ≤ h ∧ h < 256) (hw : 0 ≤ w ∧ w < 256) (hn : 0 ≤ n ∧ n < 256) (h6 : k % 6 = 4) (hps : bn s.ps = true) (hgs : s.gs = []) :
  CallA Try.prog 10 [.ptr 0 0, .agg [.int .u8 k, .int .u8 h, .int .u8 w, .int .u8 n]] (wH s f) (ActK t f) := by
  refine callA_of ok10 (Nat.le_of_ble_eq_true rfl) ?_
  have hmin : IntKind.i64.min = -9223372036854775808 := rfl
  have hmax : IntKind.i64.max = 9223372036854775807 := rfl
  have t6 : k.tmod 6 = 4 := tm6 hk.1 h6
  have hpd := pcells_noLoc s.ps
  have hgd := gcells_noLoc s.gs
  have nps := H.np
  have ngs := H.ng
  have hm3 : h.tmod 3 = h % 3 := tm3 hh.1 rfl
  unfold wH
  rw [hps, hgs]
  repeat' ((conv => whnf); first
      | refine Branch.ofT rfl ?_
      | refine Branch.ofF rfl ?_
      | refine Branch.ofT (decide_eq_true t6) ?_
      | refine Branch.ofF (decide_eq_false (by rw [t6]; decide)) ?_
      | refine Branch.ofT (decide_eq_true (by omega)) ?_
      | (rw [hm3]; refine Side.mk ?_ ?_; · omega)
      | (rw [hmin, hmax]; refine Side.mk ?_ ?_; · omega)
      | refine Branch.dec (fun h => ?_) (fun h => ?_)
      | refine Branch.negdec (fun h => ?_) (fun h => ?_)
      | refine Branch.neg (fun h => ?_) (fun h => ?_)
      | refine Branch.mk (fun h => ?_) (fun h => ?_)
      | (refine Side.mk ?_ ?_; · first | omega | decide)
      | (refine SideD.mk ?_ ?_; · first | omega | decide)
      | refine ⟨_, Nat.lt_succ_self _, To.refl (.inl ⟨rfl, ?_⟩)⟩
      | refine takeK_at9 hat ?_
      | refine QCallA.of h23 rfl rfl ?_
      | (refine Side.mk ?_ ?_; · exact ⟨by simp [fits], by intro c hc; simp at hc; rcases hc with rfl | rfl | rfl | rfl | rfl <;> rfl⟩)
      | (refine Side.mk ?_ ?_; · (simp only [if_true]; split <;> omega))
      | (refine Side.mk ?_ ?_; · ((repeat' apply And.intro) <;> first | omega | rfl | exact Nat.zero_le _ | (simp only [pcells_len, gcells_len]; done) | (simp only [fits]; omega) | (simp only [List.length_append, List.length_cons, List.length_nil, pcells_len, gcells_len, rep]; omega) | (repeat' first | exact pcells_scal _ | exact gcells_scal _ | exact scal_nil | apply scal_int | apply scal_bool | apply scal_take)))
      | (refine Side.mk ?_ ?_; · (simp; done))
      | fail
      )
  all_goals (conv => whnf)
  · refine CallA.lend [(0, false), (1, true), (2, true), (3, true), (4, true), (5, true)] (c29_at (s := s) (bg := false) (ng := 0) (GC := []) f H.up hps (by rw [hgs]; rfl) rfl (by rw [hgs]; rfl) rfl (by rw [hgs]; rfl)) rfl ⟨trivial, trivial, trivial, hpd, trivial, trivial⟩ rfl ?_
    rintro c H' ⟨rfl, rfl⟩
    refine ⟨⟨trivial, trivial, trivial, hpd, trivial, trivial⟩, ?_⟩
    (conv => whnf)
    exact RetA.gc [(0, false), (1, true), (2, true), (3, true), (4, true), (5, true)] rfl ⟨trivial, trivial, trivial, hpd, trivial, trivial⟩ (wHs_at (s := s) (bg := false) (ng := 0) (GC := []) f H.up hps (by rw [hgs]; rfl) rfl (by rw [hgs]; rfl) rfl (by rw [hgs]; rfl) rfl)
theorem a_take5_0_00 (t : Nat) (ht : t < 150) (s : St) (f : Int) (H : Inv t s) (k h w n : Int) (hk : 0 ≤ k ∧ k < 256) (hh : 0 ≤ h ∧ h < 256) (hw : 0 ≤ w ∧ w < 256) (hn : 0 ≤ n ∧ n < 256) (h6 : k % 6 = 5) (hps : s.ps = []) (hgs : s.gs = []) :
  CallA Try.prog 10 [.ptr 0 0, .agg [.int .u8 k, .int .u8 h, .int .u8 w, .int .u8 n]] (wH s f) (ActK t f) := by
  refine callA_of ok10 (Nat.le_of_ble_eq_true rfl) ?_
  have hmin : IntKind.i64.min = -9223372036854775808 := rfl
  have hmax : IntKind.i64.max = 9223372036854775807 := rfl
  have t6 : k.tmod 6 = 5 := tm6 hk.1 h6
  have hpd := pcells_noLoc s.ps
  have hgd := gcells_noLoc s.gs
  have nps := H.np
  have ngs := H.ng
  have hm3 : h.tmod 3 = h % 3 := tm3 hh.1 rfl
  unfold wH
  rw [hps, hgs]
  repeat' ((conv => whnf); first
      | refine Branch.ofT rfl ?_
      | refine Branch.ofF rfl ?_
      | refine Branch.ofT (decide_eq_true t6) ?_
      | refine Branch.ofF (decide_eq_false (by rw [t6]; decide)) ?_
      | refine Branch.ofT (decide_eq_true (by omega)) ?_
      | (rw [hm3]; refine Side.mk ?_ ?_; · omega)
      | (rw [hmin, hmax]; refine Side.mk ?_ ?_; · omega)
      | refine Branch.dec (fun h => ?_) (fun h => ?_)
      | refine Branch.negdec (fun h => ?_) (fun h => ?_)
      | refine Branch.neg (fun h => ?_) (fun h => ?_)
      | refine Branch.mk (fun h => ?_) (fun h => ?_)
      | (refine Side.mk ?_ ?_; · first | omega | decide)
      | (refine SideD.mk ?_ ?_; · first | omega | decide)
      | refine ⟨_, Nat.lt_succ_self _, To.refl (.inl ⟨rfl, ?_⟩)⟩
      | refine takeK_at9 hat ?_
      | refine QCallA.of h23 rfl rfl ?_
      | (refine Side.mk ?_ ?_; · exact ⟨by simp [fits], by intro c hc; simp at hc; rcases hc with rfl | rfl | rfl | rfl | rfl <;> rfl⟩)
      | (refine Side.mk ?_ ?_; · (simp only [if_true]; split <;> omega))
      | (refine Side.mk ?_ ?_; · ((repeat' apply And.intro) <;> first | omega | rfl | exact Nat.zero_le _ | (simp only [pcells_len, gcells_len]; done) | (simp only [fits]; omega) | (simp only [List.length_append, List.length_cons, List.length_nil, pcells_len, gcells_len, rep]; omega) | (repeat' first | exact pcells_scal _ | exact gcells_scal _ | exact scal_nil | apply scal_int | apply scal_bool | apply scal_take)))
      | (refine Side.mk ?_ ?_; · (simp; done))
      | fail
      )
  all_goals (conv => whnf)
  · refine CallA.lend [(0, false), (1, true), (2, true), (3, true), (4, true), (5, true)] (c29_at (s := s) (bp := false) (np := 0) (PC := []) (bg := false) (ng := 0) (GC := []) f H.up (by rw [hps]; rfl) (by rw [hgs]; rfl) (by rw [hps]; rfl) (by rw [hgs]; rfl) (by rw [hps]; rfl) (by rw [hgs]; rfl)) rfl ⟨trivial, trivial, trivial, trivial, trivial, trivial⟩ rfl ?_
    rintro c H' ⟨rfl, rfl⟩
    refine ⟨⟨trivial, trivial, trivial, trivial, trivial, trivial⟩, ?_⟩
    (conv => whnf)
    exact RetA.gc [(0, false), (1, true), (2, true), (3, true), (4, true), (5, true)] rfl ⟨trivial, trivial, trivial, trivial, trivial, trivial⟩ (wHs_at (s := s) (bp := false) (np := 0) (PC := []) (bg := false) (ng := 0) (GC := []) f H.up (by rw [hps]; rfl) (by rw [hgs]; rfl) (by rw [hps]; rfl) (by rw [hgs]; rfl) (by rw [hps]; rfl) (by rw [hgs]; rfl) rfl)
theorem a_take5_0_10 (t : Nat) (ht : t < 150) (s : St) (f : Int) (H : Inv t s) (k h w n : Int) (hk : 0 ≤ k ∧ k < 256) (hh : 0 ≤ h ∧ h < 256) (hw : 0 ≤ w ∧ w < 256) (hn : 0 ≤ n ∧ n < 256) (h6 : k % 6 = 5) (hps : bn s.ps = true) (hgs : s.gs = []) :
  CallA Try.prog 10 [.ptr 0 0, .agg [.int .u8 k, .int .u8 h, .int .u8 w, .int .u8 n]] (wH s f) (ActK t f) := by
  refine callA_of ok10 (Nat.le_of_ble_eq_true rfl) ?_
  have hmin : IntKind.i64.min = -9223372036854775808 := rfl
  have hmax : IntKind.i64.max = 9223372036854775807 := rfl
  have t6 : k.tmod 6 = 5 := tm6 hk.1 h6
  have hpd := pcells_noLoc s.ps
  have hgd := gcells_noLoc s.gs
  have nps := H.np
  have ngs := H.ng
  have hm3 : h.tmod 3 = h % 3 := tm3 hh.1 rfl
  unfold wH
  rw [hps, hgs]
  repeat' ((conv => whnf); first
      | refine Branch.ofT rfl ?_
      | refine Branch.ofF rfl ?_
      | refine Branch.ofT (decide_eq_true t6) ?_
      | refine Branch.ofF (decide_eq_false (by rw [t6]; decide)) ?_
      | refine Branch.ofT (decide_eq_true (by omega)) ?_
      | (rw [hm3]; refine Side.mk ?_ ?_; · omega)
      | (rw [hmin, hmax]; refine Side.mk ?_ ?_; · omega)
      | refine Branch.dec (fun h => ?_) (fun h => ?_)
      | refine Branch.negdec (fun h => ?_) (fun h => ?_)
      | refine Branch.neg (fun h => ?_) (fun h => ?_)
      | refine Branch.mk (fun h => ?_) (fun h => ?_)
      | (refine Side.mk ?_ ?_; · first | omega | decide)
      | (refine SideD.mk ?_ ?_; · first | omega | decide)
      | refine ⟨_, Nat.lt_succ_self _, To.refl (.inl ⟨rfl, ?_⟩)⟩
      | refine takeK_at9 hat ?_
      | refine QCallA.of h23 rfl rfl ?_
      | (refine Side.mk ?_ ?_; · exact ⟨by simp [fits], by intro c hc; simp at hc; rcases hc with rfl | rfl | rfl | rfl | rfl <;> rfl⟩)
      | (refine Side.mk ?_ ?_; · (simp only [if_true]; split <;> omega))
      | (refine Side.mk ?_ ?_; · ((repeat' apply And.intro) <;> first | omega | rfl | exact Nat.zero_le _ | (simp only [pcells_len, gcells_len]; done) | (simp only [fits]; omega) | (simp only [List.length_append, List.length_cons, List.length_nil, pcells_len, gcells_len, rep]; omega) | (repeat' first | exact pcells_scal _ | exact gcells_scal _ | exact scal_nil | apply scal_int | apply scal_bool | apply scal_take)))
      | (refine Side.mk ?_ ?_; · (simp; done))
      | fail
      )
  all_goals (conv => whnf)
  · refine CallA.lend [(0, false), (1, true), (2, true), (3, true), (4, true), (5, true)] (c29_at (s := s) (bg := false) (ng := 0) (GC := []) f H.up hps (by rw [hgs]; rfl) rfl (by rw [hgs]; rfl) rfl (by rw [hgs]; rfl)) rfl ⟨trivial, trivial, trivial, hpd, trivial, trivial⟩ rfl ?_
    rintro c H' ⟨rfl, rfl⟩
    refine ⟨⟨trivial, trivial, trivial, hpd, trivial, trivial⟩, ?_⟩
    (conv => whnf)
    exact RetA.gc [(0, false), (1, true), (2, true), (3, true), (4, true), (5, true)] rfl ⟨trivial, trivial, trivial, hpd, trivial, trivial⟩ (wHs_at (s := s) (bg := false) (ng := 0) (GC := []) f H.up hps (by rw [hgs]; rfl) rfl (by rw [hgs]; rfl) rfl (by rw [hgs]; rfl) rfl)
end Go.Proofs

namespace Go.Proofs
open Go Go.Eng
set_option maxRecDepth 100000
/-- One act keeps the world right. -/
theorem c10 (t : Nat) (ht : t < 150) (s : St) (f : Int) (H : Inv t s) (k h w n : Int) (hk : 0 ≤ k ∧ k < 256) (hh : 0 ≤ h ∧ h < 256) (hw : 0 ≤ w ∧ w < 256) (hn : 0 ≤ n ∧ n < 256) :
  CallA Try.prog 10 [.ptr 0 0, .agg [.int .u8 k, .int .u8 h, .int .u8 w, .int .u8 n]] (wH s f) (ActK t f) := by
  have P : s.ps = [] ∨ bn s.ps = true := by cases s.ps <;> simp [bn]
  have G : s.gs = [] ∨ bn s.gs = true := by cases s.gs <;> simp [bn]
  have h3 : h % 3 = 0 ∨ h % 3 = 1 ∨ h % 3 = 2 := by omega
  have w3 : w % 3 = 0 ∨ w % 3 = 1 ∨ w % 3 = 2 := by omega
  have k6 : k % 6 = 0 ∨ k % 6 = 1 ∨ k % 6 = 2 ∨ k % 6 = 3 ∨ k % 6 = 4 ∨ k % 6 = 5 := by omega
  have gpos : bn s.gs = true → 0 < s.gs.length := fun hb => by cases e : s.gs with
    | nil => rw [e] at hb; cases hb
    | cons p r => simp
  rcases k6 with k6 | k6 | k6 | k6 | k6 | k6
  · rcases h3 with e | e | e <;> rcases P with P | P <;> rcases G with G | G
    · exact a_seek_0_00 t ht s f H k h w n hk hh hw hn k6 e P G
    · exact a_seek_0_01 t ht s f H k h w n hk hh hw hn k6 e P G
    · exact a_seek_0_10 t ht s f H k h w n hk hh hw hn k6 e P G
    · exact a_seek_0_11 t ht s f H k h w n hk hh hw hn k6 e P G
    · exact a_seek_1_00 t ht s f H k h w n hk hh hw hn k6 e P G
    · exact a_seek_1_01 t ht s f H k h w n hk hh hw hn k6 e P G
    · exact a_seek_1_10 t ht s f H k h w n hk hh hw hn k6 e P G
    · exact a_seek_1_11 t ht s f H k h w n hk hh hw hn k6 e P G
    · exact a_seek_2_00 t ht s f H k h w n hk hh hw hn k6 e P G
    · exact a_seek_2_01 t ht s f H k h w n hk hh hw hn k6 e P G
    · exact a_seek_2_10 t ht s f H k h w n hk hh hw hn k6 e P G
    · exact a_seek_2_11 t ht s f H k h w n hk hh hw hn k6 e P G
  · rcases h3 with e | e | e <;> rcases P with P | P <;> rcases G with G | G
    · exact a_offer_0_00 t ht s f H k h w n hk hh hw hn k6 e P G
    · exact a_offer_0_01 t ht s f H k h w n hk hh hw hn k6 e P G
    · exact a_offer_0_10 t ht s f H k h w n hk hh hw hn k6 e P G
    · exact a_offer_0_11 t ht s f H k h w n hk hh hw hn k6 e P G
    · exact a_offer_1_00 t ht s f H k h w n hk hh hw hn k6 e P G
    · exact a_offer_1_01 t ht s f H k h w n hk hh hw hn k6 e P G
    · exact a_offer_1_10 t ht s f H k h w n hk hh hw hn k6 e P G
    · exact a_offer_1_11 t ht s f H k h w n hk hh hw hn k6 e P G
    · exact a_offer_2_00 t ht s f H k h w n hk hh hw hn k6 e P G
    · exact a_offer_2_01 t ht s f H k h w n hk hh hw hn k6 e P G
    · exact a_offer_2_10 t ht s f H k h w n hk hh hw hn k6 e P G
    · exact a_offer_2_11 t ht s f H k h w n hk hh hw hn k6 e P G
  · rcases w3 with e | e | e <;> rcases P with P | P <;> rcases G with G | G
    · exact a_hear2_0_00 t ht s f H k h w n hk hh hw hn k6 e P G
    · exact a_hear2_0_01 t ht s f H k h w n hk hh hw hn k6 e P G
    · exact a_hear2_0_10 t ht s f H k h w n hk hh hw hn k6 e P G
    · exact a_hear2_0_11 t ht s f H k h w n hk hh hw hn k6 e P G
    · exact a_hear2_1_00 t ht s f H k h w n hk hh hw hn k6 e P G
    · exact a_hear2_1_01 t ht s f H k h w n hk hh hw hn k6 e P G
    · exact a_hear2_1_10 t ht s f H k h w n hk hh hw hn k6 e P G
    · exact a_hear2_1_11 t ht s f H k h w n hk hh hw hn k6 e P G
    · exact a_hear2_2_00 t ht s f H k h w n hk hh hw hn k6 e P G
    · exact a_hear2_2_01 t ht s f H k h w n hk hh hw hn k6 e P G
    · exact a_hear2_2_10 t ht s f H k h w n hk hh hw hn k6 e P G
    · exact a_hear2_2_11 t ht s f H k h w n hk hh hw hn k6 e P G
  · rcases w3 with e | e | e <;> rcases P with P | P <;> rcases G with G | G
    · exact a_hear3_0_00 t ht s f H k h w n hk hh hw hn k6 e P G
    · exact a_hear3_0_01 t ht s f H k h w n hk hh hw hn k6 e P G
    · exact a_hear3_0_10 t ht s f H k h w n hk hh hw hn k6 e P G
    · exact a_hear3_0_11 t ht s f H k h w n hk hh hw hn k6 e P G
    · exact a_hear3_1_00 t ht s f H k h w n hk hh hw hn k6 e P G
    · exact a_hear3_1_01 t ht s f H k h w n hk hh hw hn k6 e P G
    · exact a_hear3_1_10 t ht s f H k h w n hk hh hw hn k6 e P G
    · exact a_hear3_1_11 t ht s f H k h w n hk hh hw hn k6 e P G
    · exact a_hear3_2_00 t ht s f H k h w n hk hh hw hn k6 e P G
    · exact a_hear3_2_01 t ht s f H k h w n hk hh hw hn k6 e P G
    · exact a_hear3_2_10 t ht s f H k h w n hk hh hw hn k6 e P G
    · exact a_hear3_2_11 t ht s f H k h w n hk hh hw hn k6 e P G
  · rcases G with G | G
    · rcases P with P | P
      · exact a_take4_0_00 t ht s f H k h w n hk hh hw hn k6 P G
      · exact a_take4_0_10 t ht s f H k h w n hk hh hw hn k6 P G
    · have q0 : 0 ≤ n % (s.gs.length : Int) := Int.emod_nonneg _ (by have := gpos G; omega)
      have q1 : n % (s.gs.length : Int) < s.gs.length := Int.emod_lt_of_pos _ (by have := gpos G; omega)
      obtain ⟨g, hgm, R, hat⟩ := pick_g s.gs n q0 q1
      have g1 := (H.gs g hgm).p.h1
      have g3 := (H.gs g hgm).p.h3
      rcases (show g.p.h = 1 ∨ g.p.h = 2 ∨ g.p.h = 3 by omega) with e | e | e <;> rcases P with P | P
      · exact a_take4_0_01 t ht s f H k h w n hk hh hw hn k6 P G g R hgm hat e q0 q1
      · exact a_take4_0_11 t ht s f H k h w n hk hh hw hn k6 P G g R hgm hat e q0 q1
      · exact a_take4_1_01 t ht s f H k h w n hk hh hw hn k6 P G g R hgm hat e q0 q1
      · exact a_take4_1_11 t ht s f H k h w n hk hh hw hn k6 P G g R hgm hat e q0 q1
      · exact a_take4_2_01 t ht s f H k h w n hk hh hw hn k6 P G g R hgm hat e q0 q1
      · exact a_take4_2_11 t ht s f H k h w n hk hh hw hn k6 P G g R hgm hat e q0 q1
  · rcases G with G | G
    · rcases P with P | P
      · exact a_take5_0_00 t ht s f H k h w n hk hh hw hn k6 P G
      · exact a_take5_0_10 t ht s f H k h w n hk hh hw hn k6 P G
    · have q0 : 0 ≤ n % (s.gs.length : Int) := Int.emod_nonneg _ (by have := gpos G; omega)
      have q1 : n % (s.gs.length : Int) < s.gs.length := Int.emod_lt_of_pos _ (by have := gpos G; omega)
      obtain ⟨g, hgm, R, hat⟩ := pick_g s.gs n q0 q1
      have g1 := (H.gs g hgm).p.h1
      have g3 := (H.gs g hgm).p.h3
      rcases (show g.p.h = 1 ∨ g.p.h = 2 ∨ g.p.h = 3 by omega) with e | e | e <;> rcases P with P | P
      · exact a_take5_0_01 t ht s f H k h w n hk hh hw hn k6 P G g R hgm hat e q0 q1
      · exact a_take5_0_11 t ht s f H k h w n hk hh hw hn k6 P G g R hgm hat e q0 q1
      · exact a_take5_1_01 t ht s f H k h w n hk hh hw hn k6 P G g R hgm hat e q0 q1
      · exact a_take5_1_11 t ht s f H k h w n hk hh hw hn k6 P G g R hgm hat e q0 q1
      · exact a_take5_2_01 t ht s f H k h w n hk hh hw hn k6 P G g R hgm hat e q0 q1
      · exact a_take5_2_11 t ht s f H k h w n hk hh hw hn k6 P G g R hgm hat e q0 q1
end Go.Proofs

namespace Go.Proofs
open Go Go.Eng
set_option maxRecDepth 100000
set_option maxHeartbeats 4000000
def h0 (i : Int) : Hol := ⟨7, i, 0, false, false, false, 0, 0, 0, 0, 0⟩
def s0 : St := ⟨h0 1, h0 2, h0 3, [], [], [], [], [], ⟨[], [], []⟩⟩
theorem hol0 (i : Int) : HolOk (0 : Nat) [] i (h0 i) :=
  ⟨rfl, rfl, Int.le_refl 0, Int.le_refl 0, Int.le_refl 0, Int.le_refl 0, fun h => (by cases h), fun h => (by cases h), fun h => (by cases h), .inl (Int.le_refl 0), .inl (Int.le_refl 0), .inl (Int.le_refl 0), Int.le_refl 0, Int.le_refl 0, Int.le_refl 0⟩
theorem wit0 (w : Int) : WitOk (0 : Nat) [] w [] :=
  ⟨.inl rfl, Int.le_refl 0, Int.le_refl 0, Int.le_refl 0, fun g h => (by cases h), fun g h => (by cases h), fun g h => (by cases h), fun g h => (by cases h)⟩
theorem inv0 : Inv 0 s0 :=
  ⟨hol0 1, hol0 2, hol0 3, wit0 0, wit0 1, wit0 2, fun p h => (by cases h), fun p h => (by cases h), ⟨fun e h he => (by cases he), fun e h he => (by cases he), fun e h he => (by cases he), fun e h he => (by cases he)⟩, Nat.le_refl 0, Nat.le_refl 0⟩
structure Act where
  (k h w n : Int)
def Act.ok (a : Act) : Prop := (0 ≤ a.k ∧ a.k < 256) ∧ (0 ≤ a.h ∧ a.h < 256) ∧ (0 ≤ a.w ∧ a.w < 256) ∧ (0 ≤ a.n ∧ a.n < 256)
def Act.av (a : Act) : List AV := [.int .u8 a.k, .int .u8 a.h, .int .u8 a.w, .int .u8 a.n]
def acells : List Act → List AV
  | [] => []
  | a :: r => a.av ++ acells r
theorem acells_at : ∀ (i : Nat) (l : List Act) (h : i < l.length), (acells l).drop (i * 4) = l[i].av ++ acells (l.drop (i + 1))
  | 0, p :: r, _ => by simp [acells]
  | i + 1, p :: r, h => by
    have e : (i + 1) * 4 = p.av.length + i * 4 := by simp [Act.av]; omega
    rw [acells, e, List.drop_append, List.drop_eq_nil_of_le (by omega), Nat.add_sub_cancel_left, acells_at i r (by simpa using h)]
    rfl
theorem takeK_atA {cs : List AV} {p : Act} {R : List AV} {K : List AV → Prop} (e : cs = p.av ++ R) (h : K p.av) : takeK 4 cs K := by subst e; exact h
theorem noLocL_of {l : List AV} (h : ∀ c ∈ l, noLoc c = true) : noLocL l = true := by
  induction l with
  | nil => rfl
  | cons c r ih => simp [noLocL, h c (by simp), ih fun c hc => h c (by simp [hc])]
theorem ren_p (f : Nat → Option Nat) (l : List Ple) : renL f (pcells l) = pcells l := renL_data f _ (noLocL_of (pcells_noLoc l))
theorem ren_g (f : Nat → Option Nat) (l : List Gra) : renL f (gcells l) = gcells l := renL_data f _ (noLocL_of (gcells_noLoc l))
def L3 (l : List Act) (cap : Option Nat) (fa wn : Int) (m : Nat) (fr : Fr) (H : Heap) : Prop := ∃ (i : Nat) (s : St) (f : Int), i ≤ l.length ∧ m = l.length - i ∧ Inv i s ∧ fr = [(1, .int .u8 fa), (2, .int .u8 wn), (6, .bool false), (7, .ptr 0 0), (15, .dslice (acells l) l.length cap), (16, I l.length), (17, I i)] ∧ H = wH s f
theorem c3 (l : List Act) (cap : Option Nat) (fa wn : Int) (hl : l.length ≤ 9223372036854775807) (hok : ∀ a ∈ l, a.ok) (hfa : 0 ≤ fa ∧ fa < 256) (hwn : 0 ≤ wn ∧ wn < 256) :
  CallA Try.prog 3 [.dslice (acells l) l.length cap, .int .u8 fa, .int .u8 wn] Heap.nil fun v H' => v = .bool true ∧ H' = Heap.nil := by
  refine callA_of ok3 (Nat.le_of_ble_eq_true rfl) ?_
  have hmin : IntKind.i64.min = -9223372036854775808 := rfl
  have hmax : IntKind.i64.max = 9223372036854775807 := rfl
  have h8 := san
  have hfm : fa.tmod 3 = fa % 3 := tm3 hfa.1 rfl
  repeat' ((conv => whnf); first
      | refine Branch.ofT rfl ?_
      | refine Branch.ofF rfl ?_
      | refine Branch.dec (fun h => ?_) (fun h => ?_)
      | refine Branch.negdec (fun h => ?_) (fun h => ?_)
      | refine Branch.neg (fun h => ?_) (fun h => ?_)
      | refine Branch.mk (fun h => ?_) (fun h => ?_)
      | (refine Side.mk ?_ ?_; · first | omega | decide)
      | (refine SideD.mk ?_ ?_; · first | omega | decide)
      | refine ⟨_, Nat.lt_succ_self _, To.refl (.inl ⟨rfl, ?_⟩)⟩
      | refine CallA.pure h8 rfl rfl ?_
      | refine CallA.ext c9 ?_
      | (rintro v H' ⟨rfl, rfl⟩; refine ⟨_, rfl, rfl, ?_⟩)
      | (refine Side.mk ?_ ?_; · (simp; done))
      | fail
      )
  all_goals (conv => whnf)
  · exact RetA.data rfl ⟨rfl, rfl⟩
  have lw : WeakL (hb 1 ++ (hb 2 ++ (hb 3 ++ (I 0 :: .nils :: I 1 :: .nils :: I 2 :: .nils :: .nils :: .nils :: I (-1) :: .map 0 :: .map 1 :: .map 2 :: [])))) (hb 1 ++ (hb 2 ++ (hb 3 ++ (I 0 :: .dslice [] 0 none :: I 1 :: .dslice [] 0 none :: I 2 :: .dslice [] 0 none :: .nils :: .nils :: I (-1) :: .map 0 :: .map 1 :: .map 2 :: [])))) := by
    repeat' first | exact .nil | (refine .cons (.same _) ?_) | (refine .cons .nil ?_)
  refine ⟨L3 l cap fa wn, l.length, To.weak 3 rfl lw (To.gc [(3, false), (0, true), (1, true), (2, true), (100, true), (101, true)] [1, 2, 6, 7, 15, 16, 17] rfl ⟨trivial, trivial, trivial, trivial, trivial, trivial⟩ ⟨0, s0, -1, by omega, by omega, inv0, rfl, rfl⟩), ?_⟩
  rintro m fr H ⟨i, s, f, hi, rfl, hI, rfl, rfl⟩
  have hhat := acells_at i l
  by_cases hil : i < l.length
  · have hit : i < 150 := by omega
    have hact := hok _ (List.getElem_mem hil)
    have hat := hhat hil
    generalize l[i] = a at hact hat
    obtain ⟨ak, ah, aw, an⟩ := a
    have h10 := fun g => c10 i hit s g hI ak ah aw an hact.1 hact.2.1 hact.2.2.1 hact.2.2.2
    have dp := data_p s.ps
    have dg := data_g s.gs
    have kc : ∀ (a : Hol) (b c : Hol) (x0 x1 x2 : List Kep) (p g : AV) (f f' : Int), (Ww a b c (Xw x0 x1 x2 p g f)).length = 45 := fun a b c x0 x1 x2 p g f f' => rfl
    have P : s.ps = [] ∨ bn s.ps = true := by cases s.ps <;> simp [bn]
    have G : s.gs = [] ∨ bn s.gs = true := by cases s.gs <;> simp [bn]
    unfold wH at h10 ⊢
    rcases P with P | P <;> rcases G with G | G <;> rw [P, G] at h10 ⊢ <;> rw [P] at dp <;> rw [G] at dg
    · repeat' ((conv => whnf); first
          | refine Branch.ofT rfl ?_
          | refine Branch.ofF rfl ?_
          | refine Branch.ofT (decide_eq_true (by omega)) ?_
          | (rw [hfm, hmin, hmax]; refine Side.mk ?_ ?_; · omega)
          | refine Branch.dec (fun h => ?_) (fun h => ?_)
          | refine Branch.negdec (fun h => ?_) (fun h => ?_)
          | refine Branch.neg (fun h => ?_) (fun h => ?_)
          | refine Branch.mk (fun h => ?_) (fun h => ?_)
          | (refine Side.mk ?_ ?_; · first | omega | decide)
          | (refine SideD.mk ?_ ?_; · first | omega | decide)
          | refine ⟨_, Nat.lt_succ_self _, To.refl (.inl ⟨rfl, ?_⟩)⟩
          | refine takeK_atA hat ?_
          | (refine CallA.lend [(0, false), (1, true), (2, true), (3, true), (4, true), (5, true)] (h10 _) rfl ⟨trivial, trivial, trivial, dp, dg, trivial⟩ rfl ?_; rintro c H' ⟨rfl, s', hI', hH⟩; have dp' := data_p s'.ps; have dg' := data_g s'.gs; unfold wH wHp wHg HWp HWg at hH; generalize hbp : bn s'.ps = bp at hH dp'; generalize hbg : bn s'.gs = bg at hH dg'; cases bp <;> cases bg <;> rcases hH with rfl | ⟨hb, O, hO, rfl⟩ | ⟨hb, O, hO, rfl⟩ <;> first | (cases hb; done) | (refine ⟨⟨trivial, trivial, trivial, dp', dg', trivial⟩, ?_⟩) | (refine ⟨⟨trivial, trivial, trivial, hO, dg', trivial⟩, ?_⟩) | (refine ⟨⟨trivial, trivial, trivial, dp', hO, trivial⟩, ?_⟩))
          | (refine Side.mk ?_ ?_; · (simp; done))
          | fail
          )
      all_goals (conv => whnf)
      all_goals first
        | exact ⟨l.length - (i + 1), by omega, To.gc [(0, false), (1, true), (2, true), (3, true), (4, true), (5, true)] [1, 2, 6, 7, 15, 16, 17] rfl ⟨trivial, trivial, trivial, dp', dg', trivial⟩ ⟨i + 1, s', _, by omega, rfl, hI', rfl, by unfold wH; rw [hbp, hbg]; rfl⟩⟩
        | (have nl : ∀ f, ∀ c ∈ renL f (pcells s'.ps), noLoc c = true := (fun f => by rw [ren_p]; exact pcells_noLoc s'.ps)
           exact ⟨l.length - (i + 1), by omega, To.gc [(0, false), (1, true), (2, true), (3, true), (7, true), (5, true)] [1, 2, 6, 7, 15, 16, 17] rfl ⟨trivial, trivial, trivial, nl _, dg', trivial⟩ ⟨i + 1, s', _, by omega, rfl, hI', rfl, by unfold wH; rw [hbp, hbg]; show (⟨6, [(0, _), (1, _), (2, _), (3, _), (4, .cells (renL _ (pcells s'.ps))), (5, _)]⟩ : Heap) = _; rw [ren_p]; rfl⟩⟩)
        | (have nl : ∀ f, ∀ c ∈ renL f (gcells s'.gs), noLoc c = true := (fun f => by rw [ren_g]; exact gcells_noLoc s'.gs)
           exact ⟨l.length - (i + 1), by omega, To.gc [(0, false), (1, true), (2, true), (3, true), (4, true), (7, true)] [1, 2, 6, 7, 15, 16, 17] rfl ⟨trivial, trivial, trivial, dp', nl _, trivial⟩ ⟨i + 1, s', _, by omega, rfl, hI', rfl, by unfold wH; rw [hbp, hbg]; show (⟨6, [(0, _), (1, _), (2, _), (3, _), (4, _), (5, .cells (renL _ (gcells s'.gs)))]⟩ : Heap) = _; rw [ren_g]; rfl⟩⟩)
    · repeat' ((conv => whnf); first
          | refine Branch.ofT rfl ?_
          | refine Branch.ofF rfl ?_
          | refine Branch.ofT (decide_eq_true (by omega)) ?_
          | (rw [hfm, hmin, hmax]; refine Side.mk ?_ ?_; · omega)
          | refine Branch.dec (fun h => ?_) (fun h => ?_)
          | refine Branch.negdec (fun h => ?_) (fun h => ?_)
          | refine Branch.neg (fun h => ?_) (fun h => ?_)
          | refine Branch.mk (fun h => ?_) (fun h => ?_)
          | (refine Side.mk ?_ ?_; · first | omega | decide)
          | (refine SideD.mk ?_ ?_; · first | omega | decide)
          | refine ⟨_, Nat.lt_succ_self _, To.refl (.inl ⟨rfl, ?_⟩)⟩
          | refine takeK_atA hat ?_
          | (refine CallA.lend [(0, false), (1, true), (2, true), (3, true), (4, true), (5, true)] (h10 _) rfl ⟨trivial, trivial, trivial, dp, dg, trivial⟩ rfl ?_; rintro c H' ⟨rfl, s', hI', hH⟩; have dp' := data_p s'.ps; have dg' := data_g s'.gs; unfold wH wHp wHg HWp HWg at hH; generalize hbp : bn s'.ps = bp at hH dp'; generalize hbg : bn s'.gs = bg at hH dg'; cases bp <;> cases bg <;> rcases hH with rfl | ⟨hb, O, hO, rfl⟩ | ⟨hb, O, hO, rfl⟩ <;> first | (cases hb; done) | (refine ⟨⟨trivial, trivial, trivial, dp', dg', trivial⟩, ?_⟩) | (refine ⟨⟨trivial, trivial, trivial, hO, dg', trivial⟩, ?_⟩) | (refine ⟨⟨trivial, trivial, trivial, dp', hO, trivial⟩, ?_⟩))
          | (refine Side.mk ?_ ?_; · (simp; done))
          | fail
          )
      all_goals (conv => whnf)
      all_goals first
        | exact ⟨l.length - (i + 1), by omega, To.gc [(0, false), (1, true), (2, true), (3, true), (4, true), (5, true)] [1, 2, 6, 7, 15, 16, 17] rfl ⟨trivial, trivial, trivial, dp', dg', trivial⟩ ⟨i + 1, s', _, by omega, rfl, hI', rfl, by unfold wH; rw [hbp, hbg]; rfl⟩⟩
        | (have nl : ∀ f, ∀ c ∈ renL f (pcells s'.ps), noLoc c = true := (fun f => by rw [ren_p]; exact pcells_noLoc s'.ps)
           exact ⟨l.length - (i + 1), by omega, To.gc [(0, false), (1, true), (2, true), (3, true), (7, true), (5, true)] [1, 2, 6, 7, 15, 16, 17] rfl ⟨trivial, trivial, trivial, nl _, dg', trivial⟩ ⟨i + 1, s', _, by omega, rfl, hI', rfl, by unfold wH; rw [hbp, hbg]; show (⟨6, [(0, _), (1, _), (2, _), (3, _), (4, .cells (renL _ (pcells s'.ps))), (5, _)]⟩ : Heap) = _; rw [ren_p]; rfl⟩⟩)
        | (have nl : ∀ f, ∀ c ∈ renL f (gcells s'.gs), noLoc c = true := (fun f => by rw [ren_g]; exact gcells_noLoc s'.gs)
           exact ⟨l.length - (i + 1), by omega, To.gc [(0, false), (1, true), (2, true), (3, true), (4, true), (7, true)] [1, 2, 6, 7, 15, 16, 17] rfl ⟨trivial, trivial, trivial, dp', nl _, trivial⟩ ⟨i + 1, s', _, by omega, rfl, hI', rfl, by unfold wH; rw [hbp, hbg]; show (⟨6, [(0, _), (1, _), (2, _), (3, _), (4, _), (5, .cells (renL _ (gcells s'.gs)))]⟩ : Heap) = _; rw [ren_g]; rfl⟩⟩)
    · repeat' ((conv => whnf); first
          | refine Branch.ofT rfl ?_
          | refine Branch.ofF rfl ?_
          | refine Branch.ofT (decide_eq_true (by omega)) ?_
          | (rw [hfm, hmin, hmax]; refine Side.mk ?_ ?_; · omega)
          | refine Branch.dec (fun h => ?_) (fun h => ?_)
          | refine Branch.negdec (fun h => ?_) (fun h => ?_)
          | refine Branch.neg (fun h => ?_) (fun h => ?_)
          | refine Branch.mk (fun h => ?_) (fun h => ?_)
          | (refine Side.mk ?_ ?_; · first | omega | decide)
          | (refine SideD.mk ?_ ?_; · first | omega | decide)
          | refine ⟨_, Nat.lt_succ_self _, To.refl (.inl ⟨rfl, ?_⟩)⟩
          | refine takeK_atA hat ?_
          | (refine CallA.lend [(0, false), (1, true), (2, true), (3, true), (4, true), (5, true)] (h10 _) rfl ⟨trivial, trivial, trivial, dp, dg, trivial⟩ rfl ?_; rintro c H' ⟨rfl, s', hI', hH⟩; have dp' := data_p s'.ps; have dg' := data_g s'.gs; unfold wH wHp wHg HWp HWg at hH; generalize hbp : bn s'.ps = bp at hH dp'; generalize hbg : bn s'.gs = bg at hH dg'; cases bp <;> cases bg <;> rcases hH with rfl | ⟨hb, O, hO, rfl⟩ | ⟨hb, O, hO, rfl⟩ <;> first | (cases hb; done) | (refine ⟨⟨trivial, trivial, trivial, dp', dg', trivial⟩, ?_⟩) | (refine ⟨⟨trivial, trivial, trivial, hO, dg', trivial⟩, ?_⟩) | (refine ⟨⟨trivial, trivial, trivial, dp', hO, trivial⟩, ?_⟩))
          | (refine Side.mk ?_ ?_; · (simp; done))
          | fail
          )
      all_goals (conv => whnf)
      all_goals first
        | exact ⟨l.length - (i + 1), by omega, To.gc [(0, false), (1, true), (2, true), (3, true), (4, true), (5, true)] [1, 2, 6, 7, 15, 16, 17] rfl ⟨trivial, trivial, trivial, dp', dg', trivial⟩ ⟨i + 1, s', _, by omega, rfl, hI', rfl, by unfold wH; rw [hbp, hbg]; rfl⟩⟩
        | (have nl : ∀ f, ∀ c ∈ renL f (pcells s'.ps), noLoc c = true := (fun f => by rw [ren_p]; exact pcells_noLoc s'.ps)
           exact ⟨l.length - (i + 1), by omega, To.gc [(0, false), (1, true), (2, true), (3, true), (7, true), (5, true)] [1, 2, 6, 7, 15, 16, 17] rfl ⟨trivial, trivial, trivial, nl _, dg', trivial⟩ ⟨i + 1, s', _, by omega, rfl, hI', rfl, by unfold wH; rw [hbp, hbg]; show (⟨6, [(0, _), (1, _), (2, _), (3, _), (4, .cells (renL _ (pcells s'.ps))), (5, _)]⟩ : Heap) = _; rw [ren_p]; rfl⟩⟩)
        | (have nl : ∀ f, ∀ c ∈ renL f (gcells s'.gs), noLoc c = true := (fun f => by rw [ren_g]; exact gcells_noLoc s'.gs)
           exact ⟨l.length - (i + 1), by omega, To.gc [(0, false), (1, true), (2, true), (3, true), (4, true), (7, true)] [1, 2, 6, 7, 15, 16, 17] rfl ⟨trivial, trivial, trivial, dp', nl _, trivial⟩ ⟨i + 1, s', _, by omega, rfl, hI', rfl, by unfold wH; rw [hbp, hbg]; show (⟨6, [(0, _), (1, _), (2, _), (3, _), (4, _), (5, .cells (renL _ (gcells s'.gs)))]⟩ : Heap) = _; rw [ren_g]; rfl⟩⟩)
    · repeat' ((conv => whnf); first
          | refine Branch.ofT rfl ?_
          | refine Branch.ofF rfl ?_
          | refine Branch.ofT (decide_eq_true (by omega)) ?_
          | (rw [hfm, hmin, hmax]; refine Side.mk ?_ ?_; · omega)
          | refine Branch.dec (fun h => ?_) (fun h => ?_)
          | refine Branch.negdec (fun h => ?_) (fun h => ?_)
          | refine Branch.neg (fun h => ?_) (fun h => ?_)
          | refine Branch.mk (fun h => ?_) (fun h => ?_)
          | (refine Side.mk ?_ ?_; · first | omega | decide)
          | (refine SideD.mk ?_ ?_; · first | omega | decide)
          | refine ⟨_, Nat.lt_succ_self _, To.refl (.inl ⟨rfl, ?_⟩)⟩
          | refine takeK_atA hat ?_
          | (refine CallA.lend [(0, false), (1, true), (2, true), (3, true), (4, true), (5, true)] (h10 _) rfl ⟨trivial, trivial, trivial, dp, dg, trivial⟩ rfl ?_; rintro c H' ⟨rfl, s', hI', hH⟩; have dp' := data_p s'.ps; have dg' := data_g s'.gs; unfold wH wHp wHg HWp HWg at hH; generalize hbp : bn s'.ps = bp at hH dp'; generalize hbg : bn s'.gs = bg at hH dg'; cases bp <;> cases bg <;> rcases hH with rfl | ⟨hb, O, hO, rfl⟩ | ⟨hb, O, hO, rfl⟩ <;> first | (cases hb; done) | (refine ⟨⟨trivial, trivial, trivial, dp', dg', trivial⟩, ?_⟩) | (refine ⟨⟨trivial, trivial, trivial, hO, dg', trivial⟩, ?_⟩) | (refine ⟨⟨trivial, trivial, trivial, dp', hO, trivial⟩, ?_⟩))
          | (refine Side.mk ?_ ?_; · (simp; done))
          | fail
          )
      all_goals (conv => whnf)
      all_goals first
        | exact ⟨l.length - (i + 1), by omega, To.gc [(0, false), (1, true), (2, true), (3, true), (4, true), (5, true)] [1, 2, 6, 7, 15, 16, 17] rfl ⟨trivial, trivial, trivial, dp', dg', trivial⟩ ⟨i + 1, s', _, by omega, rfl, hI', rfl, by unfold wH; rw [hbp, hbg]; rfl⟩⟩
        | (have nl : ∀ f, ∀ c ∈ renL f (pcells s'.ps), noLoc c = true := (fun f => by rw [ren_p]; exact pcells_noLoc s'.ps)
           exact ⟨l.length - (i + 1), by omega, To.gc [(0, false), (1, true), (2, true), (3, true), (7, true), (5, true)] [1, 2, 6, 7, 15, 16, 17] rfl ⟨trivial, trivial, trivial, nl _, dg', trivial⟩ ⟨i + 1, s', _, by omega, rfl, hI', rfl, by unfold wH; rw [hbp, hbg]; show (⟨6, [(0, _), (1, _), (2, _), (3, _), (4, .cells (renL _ (pcells s'.ps))), (5, _)]⟩ : Heap) = _; rw [ren_p]; rfl⟩⟩)
        | (have nl : ∀ f, ∀ c ∈ renL f (gcells s'.gs), noLoc c = true := (fun f => by rw [ren_g]; exact gcells_noLoc s'.gs)
           exact ⟨l.length - (i + 1), by omega, To.gc [(0, false), (1, true), (2, true), (3, true), (4, true), (7, true)] [1, 2, 6, 7, 15, 16, 17] rfl ⟨trivial, trivial, trivial, dp', nl _, trivial⟩ ⟨i + 1, s', _, by omega, rfl, hI', rfl, by unfold wH; rw [hbp, hbg]; show (⟨6, [(0, _), (1, _), (2, _), (3, _), (4, _), (5, .cells (renL _ (gcells s'.gs)))]⟩ : Heap) = _; rw [ren_g]; rfl⟩⟩)
  · have hie : i = l.length := by omega
    repeat' ((conv => whnf); first
        | refine Branch.ofT rfl ?_
        | refine Branch.ofF rfl ?_
        | refine Branch.ofF (decide_eq_false (by omega)) ?_
        | refine Branch.dec (fun h => ?_) (fun h => ?_)
        | refine Branch.negdec (fun h => ?_) (fun h => ?_)
        | refine Branch.neg (fun h => ?_) (fun h => ?_)
        | refine Branch.mk (fun h => ?_) (fun h => ?_)
        | (refine Side.mk ?_ ?_; · first | omega | decide)
        | (refine SideD.mk ?_ ?_; · first | omega | decide)
        | refine ⟨_, Nat.lt_succ_self _, To.refl (.inl ⟨rfl, ?_⟩)⟩
        | refine CallA.pure h8 rfl rfl ?_
        | (refine Side.mk ?_ ?_; · (simp; done))
        | fail
        )
    all_goals (conv => whnf)
    exact RetA.data rfl ⟨rfl, rfl⟩
end Go.Proofs

