/- Part of a proof about the given program: lemmas that the other parts use. -/
import Derived.Test.YtngmlbaiboinnaaGreatDoorPart5
import Derived.Shelf.Sort.Plain
import Derived.KernelRfl

set_option linter.all false
set_option linter.unusedSimpArgs false
set_option linter.unusedVariables false
namespace Go.Proofs.M20
open Go Go.Eng Go.Proofs
set_option maxRecDepth 100000
set_option maxHeartbeats 4000000

def padN (m : List Nat) : List Nat := m ++ 128 :: (List.replicate 35 0 ++ [0, 0, 0, 0, 0, 0, 0, 160])
def L59 (m : List Nat) (cap : Option Nat) (k : Nat) (fr : Fr) (H : Heap) : Prop := ∃ j : Nat, j ≤ 35 ∧ k = 35 - j ∧ fr = [(0, .dslice (m.map B) 20 cap), (3, .slice 0 0 (21 + j) none 1)] ∧ H = ⟨1, [(0, .cells ((m ++ 128 :: List.replicate j 0).map B))]⟩
theorem c59 (m : List Nat) (cap : Option Nat) (hm : m.length = 20) : CallA Tryz.prog 109 [.dslice (m.map B) 20 cap] Heap.nil fun v H' => v = .dslice ((padN m).map B) 64 none ∧ H' = Heap.nil := by
 refine callA_of ok109 (Nat.le_of_ble_eq_true rfl) ?_
 have e0 := tkm hm
 repeat' ((conv => whnf); first | refine Branch.ofT rfl ?_ | refine Branch.ofF rfl ?_ | refine Branch.dec (fun h => ?_) (fun h => ?_) | refine Branch.negdec (fun h => ?_) (fun h => ?_) | refine Branch.neg (fun h => ?_) (fun h => ?_) | refine Branch.mk (fun h => ?_) (fun h => ?_) | (refine Side.mk ?_ ?_; · first | omega | decide) | (refine SideD.mk ?_ ?_; · first | omega | decide) | refine ⟨_, Nat.lt_succ_self _, To.refl (.inl ⟨rfl, ?_⟩)⟩ | refine Side.mk (by simp; omega) ?_ | refine Side.mk (appB (by rfl) (by omega) (by rw [e0]; exact scal_bs m) (by omega)) ?_ | refine Side.mk (appB (by rw [e0]; simp [rep]; omega) (by omega) (by simp [scal]) (by omega)) ?_ | (refine Side.mk ?_ ?_; · (simp; done)) | fail)
 all_goals (conv => whnf)
 have hd : ∀ j, ∀ c ∈ (m ++ 128 :: List.replicate j 0).map B, noLoc c = true := fun j => dat_bs _
 have h1 : rep [AV.int IntKind.u8 0] 0 ++ List.take (20 * 1) (m.map B) ++ [AV.int IntKind.u8 128] = (m ++ 128 :: List.replicate 0 0).map B := by rw [e0]; simp [rep]
 refine ⟨L59 m cap, 35, To.gc [(2, true)] [0, 3] rfl ⟨fun c hc => hd 0 c (by rw [← h1]; exact hc), trivial⟩ ⟨0, by omega, rfl, rfl, by rw [← h1]; rfl⟩, ?_⟩
 rintro k fr H ⟨j, hj, rfl, rfl, rfl⟩
 by_cases hj3 : j < 35
 · have h2 : (m ++ 128 :: List.replicate j 0).map B ++ [AV.int IntKind.u8 0] = (m ++ 128 :: List.replicate (j + 1) 0).map B := by rw [List.replicate_succ']; simp
   repeat' ((conv => whnf); first | refine Branch.ofT rfl ?_ | refine Branch.ofF rfl ?_ | refine Branch.negdec (fun _ => ?_) (fun hn => absurd hn (by omega)) | refine Branch.dec (fun h => ?_) (fun h => ?_) | refine Branch.negdec (fun h => ?_) (fun h => ?_) | refine Branch.neg (fun h => ?_) (fun h => ?_) | refine Branch.mk (fun h => ?_) (fun h => ?_) | (refine Side.mk ?_ ?_; · first | omega | decide) | (refine SideD.mk ?_ ?_; · first | omega | decide) | refine ⟨_, Nat.lt_succ_self _, To.refl (.inl ⟨rfl, ?_⟩)⟩ | refine Side.mk (appB (by simp; omega) (by omega) (by simp [scal]) (by omega)) ?_ | (refine Side.mk ?_ ?_; · (simp; done)) | fail)
   all_goals (conv => whnf)
   exact ⟨35 - (j + 1), by omega, To.gc [(1, true)] [0, 3] rfl ⟨fun c hc => hd (j + 1) c (by rw [← h2]; exact hc), trivial⟩ ⟨j + 1, by omega, rfl, rfl, by rw [← h2]; rfl⟩⟩
 · have : j = 35 := by omega
   subst this
   have h3 : (m ++ 128 :: List.replicate 35 0).map B ++ [AV.int IntKind.u8 0] ++ [AV.int IntKind.u8 0] ++ [AV.int IntKind.u8 0] ++ [AV.int IntKind.u8 0] ++ [AV.int IntKind.u8 0] ++ [AV.int IntKind.u8 0] ++ [AV.int IntKind.u8 0] ++ [AV.int IntKind.u8 160] = (padN m).map B := by
    unfold padN; simp
   generalize hcs : (m ++ 128 :: List.replicate 35 0).map B = cs at h3 hd
   have hcl : cs.length = 56 := by rw [← hcs]; simp [hm]
   repeat' ((conv => whnf); first | refine Branch.ofT rfl ?_ | refine Branch.ofF rfl ?_ | refine Branch.negdec (fun hn => absurd (by omega) hn) (fun _ => ?_) | refine Branch.dec (fun h => ?_) (fun h => ?_) | refine Branch.negdec (fun h => ?_) (fun h => ?_) | refine Branch.neg (fun h => ?_) (fun h => ?_) | refine Branch.mk (fun h => ?_) (fun h => ?_) | (refine Side.mk ?_ ?_; · first | omega | decide) | (refine SideD.mk ?_ ?_; · first | omega | decide) | refine ⟨_, Nat.lt_succ_self _, To.refl (.inl ⟨rfl, ?_⟩)⟩ | refine LoopA.unroll _ _ _ 9 ?_ | refine Side.mk (appB (by simp [hcl]) (by omega) (by simp [scal]) (by omega)) ?_ | (refine Side.mk ?_ ?_; · (simp; done)) | fail)
   all_goals (conv => whnf)
   refine RetA.pub 8 (ds := (padN m).map B) (Eq.trans (by rfl) (congrArg AB.cells h3)) (dat_bs _) ?_
   refine RetA.data rfl ⟨?_, rfl⟩
   show AV.dslice ((((padN m).map B).drop 0).take (64 * 1)) 64 none = _
   rw [List.drop_zero, List.take_of_length_le (by simp [padN, hm])]
def L55a (P : List Nat) (A : Nat → S8) (m : Nat) (fr : Fr) (H : Heap) : Prop := ∃ k : Nat, k ≤ 1 ∧ m = 1 - k ∧ fr = [(2, .ptr 0 0), (3, .ptr 1 0), (4, .dslice (P.map B) 64 none), (5, I (64 * k : Nat))] ∧ H = ⟨2, [(0, .cells z32), (1, .cells (A k).av)]⟩
def L55b (P : List Nat) (k : Nat) (ws : List Nat) (s : S8) (m : Nat) (fr : Fr) (H : Heap) : Prop := ∃ t : Nat, t ≤ 64 ∧ m = 64 - t ∧ fr = [(2, .ptr 0 0), (3, .ptr 1 0), (4, .dslice (P.map B) 64 none), (5, I (64 * k : Nat)), (6, .ptr 2 0), (7, .ptr 3 0), (8, I t)] ∧ H = ⟨4, [(0, .cells z32), (1, .cells s.av), (2, .cells (ws.map W)), (3, .cells (rounds ws s t).av)]⟩
attribute [local irreducible] sched rounds t1N t2N mixN compN
theorem c55a (m : List Nat) (cap : Option Nat) (P : List Nat) (A : Nat → S8) (S : Nat → List Nat)
 (h59 : CallA Tryz.prog 109 [.dslice (m.map B) 20 cap] Heap.nil fun v H' => v = .dslice (P.map B) 64 none ∧ H' = Heap.nil)
 (h60 : ∀ k, k < 1 → ∀ cs len cap, cs = (chunk P k).map B → len = 64 → CallA Tryz.prog 110 [.dslice cs len cap] Heap.nil fun v H' => v = .agg ((S k).map W) ∧ H' = Heap.nil)
 (hP : P.length = 64) (hS : ∀ k, (S k).length = 64) (hA0 : A 0 = iv) (hA : ∀ k, A (k + 1) = (A k).add (rounds (S k) (A k) 64)) (hok : ∀ k, (A k).ok) :
 CallA Tryz.prog 69 [.dslice (m.map B) 20 cap] Heap.nil fun v H' => v = .agg ((outN (A 1)).map B) ∧ H' = Heap.nil := by
 refine callA_of ok69 (Nat.le_of_ble_eq_true rfl) ?_
 repeat' ((conv => whnf); first | refine Branch.ofT rfl ?_ | refine Branch.ofF rfl ?_ | refine Branch.dec (fun h => ?_) (fun h => ?_) | refine Branch.negdec (fun h => ?_) (fun h => ?_) | refine Branch.neg (fun h => ?_) (fun h => ?_) | refine Branch.mk (fun h => ?_) (fun h => ?_) | (refine Side.mk ?_ ?_; · first | omega | decide) | (refine SideD.mk ?_ ?_; · first | omega | decide) | refine ⟨_, Nat.lt_succ_self _, To.refl (.inl ⟨rfl, ?_⟩)⟩ | refine CallA.pure h59 rfl (by simp [noLoc, noLocL_bs]) ?_ | (refine Side.mk ?_ ?_; · (simp; done)) | fail)
 all_goals (conv => whnf)
 refine ⟨L55a P A, 1, To.gc [(0, true), (1, true)] [2, 3, 4, 5] rfl ⟨dat rfl, dat rfl, trivial⟩ ⟨0, by omega, rfl, rfl, by rw [hA0]; rfl⟩, ?_⟩
 rintro n fr H ⟨k, hk, rfl, rfl, rfl⟩
 have hs := hok k
 by_cases hk3 : k < 1
 · have ha := hA k
   have wl := hS k
   have h60 := h60 k hk3
   have hch : List.take ((((64 * k : Nat) : Int) + 64 - ((64 * k : Nat) : Int)).toNat * 1) (List.drop (((64 * k : Nat) : Int).toNat * 1) (P.map B)) = (chunk P k).map B := by
    unfold chunk; rw [List.map_take, List.map_drop, show (((64 * k : Nat) : Int) + 64 - ((64 * k : Nat) : Int)).toNat * 1 = 64 by omega, show ((64 * k : Nat) : Int).toNat * 1 = 64 * k by omega]
   generalize S k = ws at *
   generalize A k = s at *
   repeat' ((conv => whnf); first | refine Branch.ofT rfl ?_ | refine Branch.ofF rfl ?_ | refine Branch.ofT (decide_eq_true (by omega)) ?_ | refine Branch.dec (fun h => ?_) (fun h => ?_) | refine Branch.negdec (fun h => ?_) (fun h => ?_) | refine Branch.neg (fun h => ?_) (fun h => ?_) | refine Branch.mk (fun h => ?_) (fun h => ?_) | (refine Side.mk ?_ ?_; · first | omega | decide) | (refine SideD.mk ?_ ?_; · first | omega | decide) | refine ⟨_, Nat.lt_succ_self _, To.refl (.inl ⟨rfl, ?_⟩)⟩ | refine CallA.pure (h60 _ _ _ hch (by omega)) rfl (noLocL_ws ws) ?_ | refine condT (by simp [wl]) ?_ | refine lputA (by simp [wl]) (scal_ws _) ?_ | (refine Side.mk ?_ ?_; · (simp; done)) | fail)
   all_goals (conv => whnf)
   refine ⟨L55b P k ws s, 64, To.gc [(0, true), (1, true), (2, true), (3, true)] [2, 3, 4, 5, 6, 7, 8] rfl ⟨dat rfl, dat rfl, dat_ws ws, dat rfl, trivial⟩ ⟨0, by omega, rfl, rfl, by rw [rounds_zero]; rfl⟩, ?_⟩
   rintro n fr H ⟨t, ht, rfl, rfl, rfl⟩
   have hr := rounds_ok (ws := ws) hs t
   have hn : rounds ws s (t + 1) = (rounds ws s t).round (KS.getD t 0) (ws.getD t 0) := rounds_succ ws s t
   generalize hr0 : rounds ws s t = r at hr hn
   by_cases h64 : t < 64
   · repeat' ((conv => whnf); first | refine Branch.ofT rfl ?_ | refine Branch.ofF rfl ?_ | refine Branch.ofT (decide_eq_true (by omega)) ?_ | refine Branch.dec (fun h => ?_) (fun h => ?_) | refine Branch.negdec (fun h => ?_) (fun h => ?_) | refine Branch.neg (fun h => ?_) (fun h => ?_) | refine Branch.mk (fun h => ?_) (fun h => ?_) | (refine Side.mk ?_ ?_; · first | omega | decide) | (refine SideD.mk ?_ ?_; · first | omega | decide) | refine ⟨_, Nat.lt_succ_self _, To.refl (.inl ⟨rfl, ?_⟩)⟩ | refine ldW (ws := KS) (i := t) (by omega) (by rw [ks_len]; omega) ?_ | refine ldW (ws := ws) (i := t) (by omega) (by omega) ?_ | refine QCallA.of (c61 r.e 6 hr.2.2.2.2.1 (by decide)) rfl rfl ?_ | refine QCallA.of (c61 r.e 11 hr.2.2.2.2.1 (by decide)) rfl rfl ?_ | refine QCallA.of (c61 r.e 25 hr.2.2.2.2.1 (by decide)) rfl rfl ?_ | refine QCallA.of (c61 r.a 2 hr.1 (by decide)) rfl rfl ?_ | refine QCallA.of (c61 r.a 13 hr.1 (by decide)) rfl rfl ?_ | refine QCallA.of (c61 r.a 22 hr.1 (by decide)) rfl rfl ?_ | (refine Side.mk ?_ ?_; · (simp; done)) | fail)
     all_goals (conv => whnf)
     have hx := rx' hr (KS.getD t 0) (ws.getD t 0)
     have hA := (cong2 hx (ry' hr)).trans (wadd _ _)
     have hE := (congrArg (fun x : Int => IntKind.u32.wrap ((r.d : Int) + x)) hx).trans (wadd _ _)
     exact ⟨64 - (t + 1), by omega, To.gc [(0, true), (1, true), (2, true), (3, true)] [2, 3, 4, 5, 6, 7, 8] rfl ⟨dat rfl, dat rfl, dat_ws ws, dat rfl, trivial⟩ ⟨t + 1, by omega, rfl, rfl, by rw [hn]; exact heq55 hA hE⟩⟩
   · repeat' ((conv => whnf); first | refine Branch.ofT rfl ?_ | refine Branch.ofF rfl ?_ | refine Branch.ofF (decide_eq_false (by omega)) ?_ | refine Branch.dec (fun h => ?_) (fun h => ?_) | refine Branch.negdec (fun h => ?_) (fun h => ?_) | refine Branch.neg (fun h => ?_) (fun h => ?_) | refine Branch.mk (fun h => ?_) (fun h => ?_) | (refine Side.mk ?_ ?_; · first | omega | decide) | (refine SideD.mk ?_ ?_; · first | omega | decide) | refine ⟨_, Nat.lt_succ_self _, To.refl (.inl ⟨rfl, ?_⟩)⟩ | refine LoopA.unroll _ _ _ 9 ?_ | (refine Side.mk ?_ ?_; · (simp; done)) | fail)
     all_goals (conv => whnf)
     have : t = 64 := by omega
     subst this
     rw [hr0] at ha
     have e5 : ((64 * k : Nat) : Int) + 64 = ((64 * (k + 1) : Nat) : Int) := by omega
     exact ⟨1 - (k + 1), by omega, To.gc [(0, true), (1, true)] [2, 3, 4, 5] rfl ⟨dat rfl, dat rfl, trivial⟩ ⟨k + 1, by omega, rfl, by rw [← e5]; rfl, by rw [ha]; exact heqA s r⟩⟩
 · have hk4 : k = 1 := by omega
   subst hk4
   generalize A 1 = s at *
   repeat' ((conv => whnf); first | refine Branch.ofT rfl ?_ | refine Branch.ofF rfl ?_ | refine Branch.ofF (decide_eq_false (by omega)) ?_ | refine Branch.dec (fun h => ?_) (fun h => ?_) | refine Branch.negdec (fun h => ?_) (fun h => ?_) | refine Branch.neg (fun h => ?_) (fun h => ?_) | refine Branch.mk (fun h => ?_) (fun h => ?_) | (refine Side.mk ?_ ?_; · first | omega | decide) | (refine SideD.mk ?_ ?_; · first | omega | decide) | refine ⟨_, Nat.lt_succ_self _, To.refl (.inl ⟨rfl, ?_⟩)⟩ | refine LoopA.unroll _ _ _ 33 ?_ | (refine Side.mk ?_ ?_; · (simp; done)) | fail)
   all_goals (conv => whnf)
   exact RetA.data rfl ⟨out_eq s, rfl⟩
theorem c55 (m : List Nat) (cap : Option Nat) (hm : m.length = 20) (hb : ∀ x ∈ m, x < 256) : CallA Tryz.prog 69 [.dslice (m.map B) 20 cap] Heap.nil fun v H' => v = .agg ((outN (absorb iv (padN m) 1)).map B) ∧ H' = Heap.nil := by
 have hP : (padN m).length = 64 := by simp [padN, hm]
 have hPb : ∀ x ∈ padN m, x < 256 := by
  intro x hx
  simp only [padN, List.mem_append, List.mem_cons, List.mem_replicate, List.not_mem_nil, or_false] at hx
  rcases hx with h | h | h | h
  · exact hb x h
  all_goals omega
 refine c55a m cap (padN m) (absorb iv (padN m)) (fun k => sched (chunk (padN m) k) 64) (c59 m cap hm) ?_ hP (fun k => sched_len _ 64) rfl (fun k => by rw [absorb]; unfold compN; rfl) (absorb_ok iv_ok _)
 rintro k hk _ _ cap rfl rfl
 have hcl : (chunk (padN m) k).length = 64 := by simp [chunk, hP]; omega
 exact c60 _ cap hcl fun x hx => hPb x (List.mem_of_mem_drop (List.mem_of_mem_take hx))
def msg (nb p : List Nat) : List Nat := 184 :: (32 :: nb ++ (2 :: p))
theorem c48 (nb p : List Nat) (cap : Option Nat) (hn : nb.length = 16) (hp : p.length = 1) (hnb : ∀ x ∈ nb, x < 256) (hpb : ∀ x ∈ p, x < 256) : CallA Tryz.prog 33 [I 440, .dslice [.str (txt nb), .str (txt p)] 2 cap] Heap.nil fun v H' => v = .dslice ((msg nb p).map B) 20 none ∧ H' = Heap.nil := by
 refine callA_of ok33 (Nat.le_of_ble_eq_true rfl) ?_
 have h1 := c56 nb [32] 1 16 hnb hn c62_16 rfl (by omega) (by omega) (by omega)
 have h2 := c56 p [2] 1 1 hpb hp c62_1 rfl (by omega) (by omega) (by omega)
 have a1 : List.take ((1 + 16) * 1) (([32] ++ nb).map B) = ([32] ++ nb).map B := List.take_of_length_le (by simp; omega)
 have a2 : List.take ((1 + 1) * 1) (([2] ++ p).map B) = ([2] ++ p).map B := List.take_of_length_le (by simp; omega)
 repeat' ((conv => whnf); first | refine Branch.ofT rfl ?_ | refine Branch.ofF rfl ?_ | refine Branch.ofF (decide_eq_false (by omega)) ?_ | refine Branch.dec (fun h => ?_) (fun h => ?_) | refine Branch.negdec (fun h => ?_) (fun h => ?_) | refine Branch.neg (fun h => ?_) (fun h => ?_) | refine Branch.mk (fun h => ?_) (fun h => ?_) | (refine Side.mk ?_ ?_; · first | omega | decide) | (refine SideD.mk ?_ ?_; · first | omega | decide) | refine ⟨_, Nat.lt_succ_self _, To.refl (.inl ⟨rfl, ?_⟩)⟩ | refine LoopA.unroll _ _ _ 3 ?_ | refine Branch.ofF (by rfl) ?_ | refine CallA.pure h1 rfl (by simp [noLoc, noLocL_bs]) ?_ | refine CallA.pure h2 rfl (by simp [noLoc, noLocL_bs]) ?_ | refine Side.mk (by rw [List.length_map, List.length_append, List.length_cons, List.length_nil, hn]; omega) ?_ | refine Side.mk (by rw [List.length_map, List.length_append, List.length_cons, List.length_nil, hp]; omega) ?_ | refine Side.mk ⟨by rfl, by simp, by unfold fits; omega, by rw [a1]; exact scal_bs _⟩ ?_ | refine Side.mk (appB (by rw [a1]; simp [rep]; omega) (by omega) (by rw [a2]; exact scal_bs _) (by omega)) ?_ | (refine Side.mk ?_ ?_; · (simp; done)) | fail)
 all_goals (conv => whnf)
 refine RetA.pub 1 (ds := (msg nb p).map B) (by show AB.cells ([B 184] ++ List.take ((1 + 16) * 1) (([32] ++ nb).map B) ++ List.take ((1 + 1) * 1) (([2] ++ p).map B)) = _; rw [a1, a2]; simp [msg]) (dat_bs _) ?_
 refine RetA.data rfl ⟨?_, rfl⟩
 show AV.dslice ((((msg nb p).map B).drop 0).take ((1 + (1 + 16) + (1 + 1)) * 1)) (1 + (1 + 16) + (1 + 1)) none = _
 rw [List.drop_zero, List.take_of_length_le (by simp [msg, hn, hp])]
theorem msg_len {nb p : List Nat} (hn : nb.length = 16) (hp : p.length = 1) : (msg nb p).length = 20 := by simp [msg, hn, hp]
theorem msg_lt {nb p : List Nat} (hnb : ∀ x ∈ nb, x < 256) (hpb : ∀ x ∈ p, x < 256) : ∀ x ∈ msg nb p, x < 256 := by
 intro x hx
 simp only [msg, List.mem_cons, List.mem_append] at hx
 rcases hx with rfl | (rfl | h) | rfl | h
 · omega
 · omega
 · exact hnb x h
 · omega
 · exact hpb x h
def dig (m : List Nat) : List Nat := (outN (absorb iv (padN m) 1)).take 16
theorem c47a (m : List Nat) (cap : Option Nat) (s : S8) (h : CallA Tryz.prog 69 [.dslice (m.map B) 20 cap] Heap.nil fun v H' => v = .agg ((outN s).map B) ∧ H' = Heap.nil) : CallA Tryz.prog 32 [.dslice (m.map B) 20 cap] Heap.nil fun v H' => v = .agg (((outN s).take 16).map B) ∧ H' = Heap.nil := by
 refine callA_of ok32 (Nat.le_of_ble_eq_true rfl) ?_
 repeat' ((conv => whnf); first | refine Branch.ofT rfl ?_ | refine Branch.ofF rfl ?_ | refine Branch.dec (fun h => ?_) (fun h => ?_) | refine Branch.negdec (fun h => ?_) (fun h => ?_) | refine Branch.neg (fun h => ?_) (fun h => ?_) | refine Branch.mk (fun h => ?_) (fun h => ?_) | (refine Side.mk ?_ ?_; · first | omega | decide) | (refine SideD.mk ?_ ?_; · first | omega | decide) | refine ⟨_, Nat.lt_succ_self _, To.refl (.inl ⟨rfl, ?_⟩)⟩ | refine CallA.pure h rfl (by simp [noLoc, noLocL_bs]) ?_ | refine LoopA.unroll _ _ _ 17 ?_ | (refine Side.mk ?_ ?_; · (simp; done)) | fail)
 all_goals (conv => whnf)
 exact RetA.data rfl ⟨rfl, rfl⟩
theorem c47 (m : List Nat) (cap : Option Nat) (hm : m.length = 20) (hb : ∀ x ∈ m, x < 256) : CallA Tryz.prog 32 [.dslice (m.map B) 20 cap] Heap.nil fun v H' => v = .agg ((dig m).map B) ∧ H' = Heap.nil :=
 c47a m cap _ (c55 m cap hm hb)
theorem c41a (nb p m d : List Nat) (cap : Option Nat) (h48 : CallA Tryz.prog 33 [I 440, .dslice [.str (txt nb), .str (txt p)] 2 cap] Heap.nil fun v H' => v = .dslice (m.map B) 20 none ∧ H' = Heap.nil)
 (h47 : CallA Tryz.prog 32 [.dslice (m.map B) 20 none] Heap.nil fun v H' => v = .agg (d.map B) ∧ H' = Heap.nil) (hl : d.length = 16) :
 CallA Tryz.prog 11 [I 440, .dslice [.str (txt nb), .str (txt p)] 2 cap] Heap.nil fun v H' => v = .agg (d.map B) ∧ H' = Heap.nil := by
 refine callA_of ok11 (Nat.le_of_ble_eq_true rfl) ?_
 repeat' ((conv => whnf); first | refine Branch.ofT rfl ?_ | refine Branch.ofF rfl ?_ | refine Branch.dec (fun h => ?_) (fun h => ?_) | refine Branch.negdec (fun h => ?_) (fun h => ?_) | refine Branch.neg (fun h => ?_) (fun h => ?_) | refine Branch.mk (fun h => ?_) (fun h => ?_) | (refine Side.mk ?_ ?_; · first | omega | decide) | (refine SideD.mk ?_ ?_; · first | omega | decide) | refine ⟨_, Nat.lt_succ_self _, To.refl (.inl ⟨rfl, ?_⟩)⟩ | refine CallA.pure h48 rfl (by simp [noLoc, noLocL_bs]) ?_ | refine CallA.pure h47 rfl (noLocL_bs _) ?_ | refine condT (by simp [hl]) ?_ | refine lputA (by simp [hl]) (by simp [scal]) ?_ | refine tkBn hl ?_ | (refine Side.mk ?_ ?_; · (simp; done)) | fail)
 all_goals (conv => whnf)
 exact RetA.data (v := .agg (d.map B)) (noLocL_bs d) ⟨rfl, rfl⟩
theorem dig_len (m : List Nat) : (dig m).length = 16 := by simp [dig, outN, out4]
theorem c41 (nb p : List Nat) (cap : Option Nat) (hn : nb.length = 16) (hp : p.length = 1) (hnb : ∀ x ∈ nb, x < 256) (hpb : ∀ x ∈ p, x < 256) : CallA Tryz.prog 11 [I 440, .dslice [.str (txt nb), .str (txt p)] 2 cap] Heap.nil fun v H' => v = .agg ((dig (msg nb p)).map B) ∧ H' = Heap.nil :=
 c41a nb p (msg nb p) (dig (msg nb p)) cap (c48 nb p cap hn hp hnb hpb) (c47 (msg nb p) none (msg_len hn hp) (msg_lt hnb hpb)) (dig_len _)
end Go.Proofs.M20

namespace Go.Proofs.M20
open Go Go.Eng Go.Proofs
set_option maxRecDepth 100000
set_option maxHeartbeats 4000000
attribute [local irreducible] compN
def padT : List Nat := 128 :: (List.replicate 35 0 ++ [0, 0, 0, 0, 0, 0, 0, 160])
theorem padN_eq (m : List Nat) : padN m = m ++ padT := rfl
def z32' : List AV := List.replicate 32 (B 0)
def L54 (s : S8) (b : List Nat) (k : Nat) (fr : Fr) (H : Heap) : Prop := ∃ j : Nat, j ≤ 35 ∧ k = 35 - j ∧
 ((j = 0 ∧ fr = [(1, .ptr 0 0), (2, .ptr 1 0), (3, .int .u64 160), (4, .dslice [B 128] 1 (some 1))] ∧ H = ⟨2, [(0, .cells (St.av ⟨s, b, 20⟩)), (1, .cells z32)]⟩) ∨
  (0 < j ∧ fr = [(1, .ptr 0 0), (2, .ptr 1 0), (3, .int .u64 160), (4, .slice 2 0 (1 + j) none 1)] ∧ H = ⟨3, [(0, .cells (St.av ⟨s, b, 20⟩)), (1, .cells z32), (2, .cells ((128 :: List.replicate j 0).map B))]⟩))
theorem ld140 {s : S8} {b : List Nat} (h : b.length = 64) {K : AV → Prop} (hk : K (U 20)) : nthK 0 ((St.av ⟨s, b, 20⟩).drop 72) K := ldN (σ := ⟨s, b, 20⟩) h hk
theorem c54a (s : S8) (b : List Nat) (σ2 : St) (hb : b.length = 64) (h2 : σ2.b.length = 64) (h52 : CallA Tryz.prog 27 [.agg (St.av ⟨s, b, 20⟩), .str (txt padT)] Heap.nil fun v H' => v = .agg σ2.av ∧ H' = Heap.nil) : CallA Tryz.prog 29 [.agg (St.av ⟨s, b, 20⟩)] Heap.nil fun v H' => v = .agg ((outN σ2.s).map B) ∧ H' = Heap.nil := by
 refine callA_of ok29 (Nat.le_of_ble_eq_true rfl) ?_
 repeat' ((conv => whnf); first | refine Branch.ofT rfl ?_ | refine Branch.ofF rfl ?_ | refine Branch.dec (fun h => ?_) (fun h => ?_) | refine Branch.negdec (fun h => ?_) (fun h => ?_) | refine Branch.neg (fun h => ?_) (fun h => ?_) | refine Branch.mk (fun h => ?_) (fun h => ?_) | (refine Side.mk ?_ ?_; · first | omega | decide) | (refine SideD.mk ?_ ?_; · first | omega | decide) | refine ⟨_, Nat.lt_succ_self _, To.refl (.inl ⟨rfl, ?_⟩)⟩ | refine ld140 hb ?_ | (refine Side.mk ?_ ?_; · (simp; done)) | fail)
 all_goals (conv => whnf)
 have hav : ∀ s : S8, ∀ c ∈ St.av ⟨s, b, 20⟩, noLoc c = true := fun s => dat (by simp [St.av, all_bs, noLoc])
 refine ⟨L54 s b, 35, To.gc [(0, true), (1, true)] [1, 2, 3, 4] rfl ⟨hav s, dat rfl, trivial⟩ ⟨0, by omega, rfl, .inl ⟨rfl, rfl, rfl⟩⟩, ?_⟩
 have hw : IntKind.i64.wrap ((20 : Nat) : Int) = 20 := rfl
 have hw' : IntKind.i64.wrap (20 : Int) = 20 := rfl
 rintro k fr H ⟨j, hj, rfl, h⟩
 have hd : ∀ j, ∀ c ∈ (128 :: List.replicate j 0).map B, noLoc c = true := fun j => dat_bs _
 by_cases hj3 : j < 35
 · have h2 : (128 :: List.replicate j 0).map B ++ [AV.int IntKind.u8 0] = (128 :: List.replicate (j + 1) 0).map B := by rw [List.replicate_succ']; simp
   rcases h with ⟨rfl, rfl, rfl⟩ | ⟨hj0, rfl, rfl⟩
   · repeat' ((conv => whnf); first | refine Branch.ofT rfl ?_ | refine Branch.ofF rfl ?_ | refine Branch.negdec (fun _ => ?_) (fun hn => absurd hn (by omega)) | refine Branch.dec (fun h => ?_) (fun h => ?_) | refine Branch.negdec (fun h => ?_) (fun h => ?_) | refine Branch.neg (fun h => ?_) (fun h => ?_) | refine Branch.mk (fun h => ?_) (fun h => ?_) | (refine Side.mk ?_ ?_; · first | omega | decide) | (refine SideD.mk ?_ ?_; · first | omega | decide) | refine ⟨_, Nat.lt_succ_self _, To.refl (.inl ⟨rfl, ?_⟩)⟩ | refine ld140 hb ?_ | refine Side.mk ⟨by rfl, by simp, by unfold fits; omega, by simp [scal]⟩ ?_ | (refine Side.mk ?_ ?_; · (simp; done)) | fail)
     all_goals (conv => whnf)
     exact ⟨35 - (0 + 1), by omega, To.gc [(0, true), (1, true), (2, true)] [1, 2, 3, 4] rfl ⟨hav s, dat rfl, dat rfl, trivial⟩ ⟨0 + 1, by omega, rfl, .inr ⟨by omega, rfl, rfl⟩⟩⟩
   · repeat' ((conv => whnf); first | refine Branch.ofT rfl ?_ | refine Branch.ofF rfl ?_ | refine Branch.negdec (fun _ => ?_) (fun hn => absurd hn (by omega)) | refine Branch.dec (fun h => ?_) (fun h => ?_) | refine Branch.negdec (fun h => ?_) (fun h => ?_) | refine Branch.neg (fun h => ?_) (fun h => ?_) | refine Branch.mk (fun h => ?_) (fun h => ?_) | (refine Side.mk ?_ ?_; · first | omega | decide) | (refine SideD.mk ?_ ?_; · first | omega | decide) | refine ⟨_, Nat.lt_succ_self _, To.refl (.inl ⟨rfl, ?_⟩)⟩ | refine ld140 hb ?_ | refine Side.mk (appB (by simp; omega) (by omega) (by simp [scal]) (by omega)) ?_ | (refine Side.mk ?_ ?_; · (simp; done)) | fail)
     all_goals (conv => whnf)
     exact ⟨35 - (j + 1), by omega, To.gc [(0, true), (1, true), (3, true)] [1, 2, 3, 4] rfl ⟨hav s, dat rfl, fun c hc => hd (j + 1) c (by rw [← h2]; exact hc), trivial⟩ ⟨j + 1, by omega, rfl, .inr ⟨by omega, rfl, by rw [← h2]; rfl⟩⟩⟩
 · have : j = 35 := by omega
   subst this
   rcases h with ⟨h, _⟩ | ⟨hj0, rfl, rfl⟩
   · omega
   have h3 : (128 :: List.replicate 35 0).map B ++ [AV.int IntKind.u8 0] ++ [AV.int IntKind.u8 0] ++ [AV.int IntKind.u8 0] ++ [AV.int IntKind.u8 0] ++ [AV.int IntKind.u8 0] ++ [AV.int IntKind.u8 0] ++ [AV.int IntKind.u8 0] ++ [AV.int IntKind.u8 160] = padT.map B := by
    unfold padT; simp
   generalize hcs : (128 :: List.replicate 35 0).map B = cs at h3 hd
   have hcl : cs.length = 36 := by rw [← hcs]; simp
   have h4 : ∀ l : List AV, l = padT.map B → List.take ((1 + 35 + 1 + 1 + 1 + 1 + 1 + 1 + 1 + 1) * 1) (List.drop 0 l) = padT.map B := by
    rintro _ rfl; rfl
   have hna : noLocL [.agg (St.av ⟨s, b, 20⟩), .str (txt padT)] = true := by simp [noLocL, noLoc, noLocL_av]
   repeat' ((conv => whnf); first | refine Branch.ofT rfl ?_ | refine Branch.ofF rfl ?_ | refine Branch.negdec (fun hn => absurd (by omega) hn) (fun _ => ?_) | refine Branch.dec (fun h => ?_) (fun h => ?_) | refine Branch.negdec (fun h => ?_) (fun h => ?_) | refine Branch.neg (fun h => ?_) (fun h => ?_) | refine Branch.mk (fun h => ?_) (fun h => ?_) | (refine Side.mk ?_ ?_; · first | omega | decide) | (refine SideD.mk ?_ ?_; · first | omega | decide) | refine ⟨_, Nat.lt_succ_self _, To.refl (.inl ⟨rfl, ?_⟩)⟩ | refine ld140 hb ?_ | refine Side.mk (appB (by simp [hcl]) (by omega) (by simp [scal]) (by omega)) ?_ | refine Side.mk (by simp [hcl]) ?_ | refine bres (h4 _ h3) ?_ | refine tk65 hb ?_ | refine CallA.pure h52 hna (noLocL_av σ2) ?_ | refine tk65 h2 ?_ | refine condT (by simp [av_len h2]) ?_ | refine LoopA.unroll _ _ _ 33 ?_ | refine lput65B hb (by simp [h2]) (scalAv σ2) ?_ | (refine Side.mk ?_ ?_; · (simp; done)) | fail)
   all_goals (conv => whnf)
   exact RetA.data rfl ⟨out_eq σ2.s, rfl⟩
theorem c54 (m : List Nat) (σ : St) (hσ : σ.ok) (h : Str m σ) (hm : m.length = 20) : CallA Tryz.prog 29 [.agg σ.av] Heap.nil fun v H' => v = .agg ((outN (absorb iv (padN m) 1)).map B) ∧ H' = Heap.nil := by
 obtain ⟨s, b, n⟩ := σ
 have hn : n = 20 := h.n.trans hm
 subst hn
 have hpl : padT.length = 44 := rfl
 have hpb : ∀ x ∈ padT, x < 256 := by decide
 have h52 := c52 ⟨s, b, 20⟩ padT hσ hpb (by rw [hpl]; show 20 + 44 ≤ _; omega)
 have hs := str_add padT.length (t := padT) (Nat.le_refl _) h
 rw [← padN_eq] at hs
 have hl : (padN m).length = 64 := by simp [padN, hm]
 have e := hs.s
 rw [hl] at e
 have := c54a s b _ h.l hs.l h52
 rw [e] at this
 exact this
theorem c45a (nb p o : List Nat) (cap : Option Nat) (σ1 σ2 σ3 : St) (l1 : σ1.b.length = 64) (l2 : σ2.b.length = 64) (l3 : σ3.b.length = 64) (hn : nb.length = 16) (hp : p.length = 1) (ho : o.length = 32)
 (h1 : CallA Tryz.prog 27 [.agg σ0.av, .str (txt [184])] Heap.nil fun v H' => v = .agg σ1.av ∧ H' = Heap.nil)
 (h2 : CallA Tryz.prog 27 [.agg σ1.av, .str (txt ([32] ++ nb))] Heap.nil fun v H' => v = .agg σ2.av ∧ H' = Heap.nil)
 (h3 : CallA Tryz.prog 27 [.agg σ2.av, .str (txt ([2] ++ p))] Heap.nil fun v H' => v = .agg σ3.av ∧ H' = Heap.nil)
 (b1 : CallA Tryz.prog 28 [.str (txt nb)] Heap.nil fun v H' => v = .dslice (([32] ++ nb).map B) (1 + 16) none ∧ H' = Heap.nil)
 (b2 : CallA Tryz.prog 28 [.str (txt p)] Heap.nil fun v H' => v = .dslice (([2] ++ p).map B) (1 + 1) none ∧ H' = Heap.nil)
 (h4 : CallA Tryz.prog 29 [.agg σ3.av] Heap.nil fun v H' => v = .agg (o.map B) ∧ H' = Heap.nil) :
 CallA Tryz.prog 8 [I 440, .dslice [.str (txt nb), .str (txt p)] 2 cap] Heap.nil fun v H' => v = .agg ((o.take 16).map B) ∧ H' = Heap.nil := by
 refine callA_of ok8 (Nat.le_of_ble_eq_true rfl) ?_
 have h16 : (o.take 16).length = 16 := by simp [ho]
 have na : ∀ (σ : St) (s : ByteArray), noLocL [.agg σ.av, .str s] = true := fun σ s => by simp [noLocL, noLoc, noLocL_av]
 have a1 : List.take ((1 + 16) * 1) (([32] ++ nb).map B) = ([32] ++ nb).map B := List.take_of_length_le (by simp; omega)
 have a2 : List.take ((1 + 1) * 1) (([2] ++ p).map B) = ([2] ++ p).map B := List.take_of_length_le (by simp; omega)
 repeat' ((conv => whnf); first | refine Branch.ofT rfl ?_ | refine Branch.ofF rfl ?_ | refine Branch.dec (fun h => ?_) (fun h => ?_) | refine Branch.negdec (fun h => ?_) (fun h => ?_) | refine Branch.neg (fun h => ?_) (fun h => ?_) | refine Branch.mk (fun h => ?_) (fun h => ?_) | (refine Side.mk ?_ ?_; · first | omega | decide) | (refine SideD.mk ?_ ?_; · first | omega | decide) | refine ⟨_, Nat.lt_succ_self _, To.refl (.inl ⟨rfl, ?_⟩)⟩ | refine QCallA.of c51 rfl (noLocL_av σ0) ?_ | refine bres (t := [184]) (by rfl) ?_ | refine QCallA.of h1 (na _ _) (noLocL_av σ1) ?_ | refine condT (by rw [av_len l1]; rfl) ?_ | refine condT (by rw [av_len l2]; rfl) ?_ | refine condT (by rw [av_len l3]; rfl) ?_ | refine lputA (by simp [l1]) (List.all_eq_true.2 (scalAv σ1)) ?_ | refine lput65B l1 (by simp [l2]) (scalAv σ2) ?_ | refine lput65B l2 (by simp [l3]) (scalAv σ3) ?_ | refine LoopA.unroll _ _ _ 3 ?_ | refine tk65 l1 ?_ | refine tk65 l2 ?_ | refine tk65 l3 ?_ | refine QCallA.of b1 rfl (by simp [noLoc, noLocL_bs]) ?_ | refine QCallA.of b2 rfl (by simp [noLoc, noLocL_bs]) ?_ | refine bres a1 ?_ | refine bres a2 ?_ | refine Side.mk (by rw [List.length_map, List.length_append, List.length_cons, List.length_nil, hn]; omega) ?_ | refine Side.mk (by rw [List.length_map, List.length_append, List.length_cons, List.length_nil, hp]; omega) ?_ | refine QCallA.of h2 (na _ _) (noLocL_av σ2) ?_ | refine QCallA.of h3 (na _ _) (noLocL_av σ3) ?_ | refine CallA.pure h4 (by simp [noLocL, noLoc, noLocL_av]) (noLocL_bs o) ?_ | refine condT (by rw [List.length_map, ho]; rfl) ?_ | refine lputA (by rw [List.length_map, ho]; rfl) (by rw [List.all_eq_true]; exact scal_bs o) ?_ | refine Side.mk (by rw [List.length_map, ho]; omega) ?_ | refine tk16 (by rfl) ho ?_ | refine condT (by rw [List.length_map, h16]; rfl) ?_ | refine lputA (by rw [List.length_map, h16]; rfl) (by rw [List.all_eq_true]; exact scal_bs _) ?_ | refine tkBn h16 ?_ | (refine Side.mk ?_ ?_; · (simp; done)) | fail)
 all_goals (conv => whnf)
 exact RetA.data (v := .agg ((o.take 16).map B)) (noLocL_bs _) ⟨rfl, rfl⟩
theorem c45 (nb p : List Nat) (cap : Option Nat) (hn : nb.length = 16) (hp : p.length = 1) (hnb : ∀ x ∈ nb, x < 256) (hpb : ∀ x ∈ p, x < 256) : CallA Tryz.prog 8 [I 440, .dslice [.str (txt nb), .str (txt p)] 2 cap] Heap.nil fun v H' => v = .agg ((dig (msg nb p)).map B) ∧ H' = Heap.nil := by
 have t1 : ∀ x ∈ [184], x < 256 := by decide
 have t2 : ∀ x ∈ [32] ++ nb, x < 256 := by
  intro x hx; rcases List.mem_append.1 hx with h | h
  · rw [List.mem_singleton.1 h]; omega
  · exact hnb x h
 have t3 : ∀ x ∈ [2] ++ p, x < 256 := by
  intro x hx; rcases List.mem_append.1 hx with h | h
  · rw [List.mem_singleton.1 h]; omega
  · exact hpb x h
 have s1 := str_add [184].length (t := [184]) (Nat.le_refl _) str0
 have s2 := str_add ([32] ++ nb).length (t := [32] ++ nb) (Nat.le_refl _) s1
 have s3 := str_add ([2] ++ p).length (t := [2] ++ p) (Nat.le_refl _) s2
 have o1 := add_ok [184].length t1 σ0_ok
 have o2 := add_ok ([32] ++ nb).length t2 o1
 have o3 := add_ok ([2] ++ p).length t3 o2
 have h1 := c52 σ0 [184] σ0_ok t1 (by decide)
 have h2 := c52 _ ([32] ++ nb) o1 t2 (by rw [s1.n]; simp; omega)
 have h3 := c52 _ ([2] ++ p) o2 t3 (by rw [s2.n]; simp; omega)
 have hm : [] ++ [184] ++ ([32] ++ nb) ++ ([2] ++ p) = msg nb p := by simp [msg]
 rw [hm] at s3
 have h4 := c54 (msg nb p) _ o3 s3 (msg_len hn hp)
 exact c45a nb p _ cap _ _ _ s1.l s2.l s3.l hn hp (by simp [outN, out4]) h1 h2 h3 (c53 nb [32] 1 16 hnb hn c58_16 rfl (by omega) (by omega) (by omega)) (c53 p [2] 1 1 hpb hp c58_1 rfl (by omega) (by omega) (by omega)) h4
end Go.Proofs.M20

namespace Go.Proofs.M21
open Go Go.Eng Go.Proofs
set_option maxRecDepth 100000
set_option maxHeartbeats 4000000

def padN (m : List Nat) : List Nat := m ++ 128 :: (List.replicate 34 0 ++ [0, 0, 0, 0, 0, 0, 0, 168])
def L59 (m : List Nat) (cap : Option Nat) (k : Nat) (fr : Fr) (H : Heap) : Prop := ∃ j : Nat, j ≤ 34 ∧ k = 34 - j ∧ fr = [(0, .dslice (m.map B) 21 cap), (3, .slice 0 0 (22 + j) none 1)] ∧ H = ⟨1, [(0, .cells ((m ++ 128 :: List.replicate j 0).map B))]⟩
theorem c59 (m : List Nat) (cap : Option Nat) (hm : m.length = 21) : CallA Tryz.prog 109 [.dslice (m.map B) 21 cap] Heap.nil fun v H' => v = .dslice ((padN m).map B) 64 none ∧ H' = Heap.nil := by
 refine callA_of ok109 (Nat.le_of_ble_eq_true rfl) ?_
 have e0 := tkm hm
 repeat' ((conv => whnf); first | refine Branch.ofT rfl ?_ | refine Branch.ofF rfl ?_ | refine Branch.dec (fun h => ?_) (fun h => ?_) | refine Branch.negdec (fun h => ?_) (fun h => ?_) | refine Branch.neg (fun h => ?_) (fun h => ?_) | refine Branch.mk (fun h => ?_) (fun h => ?_) | (refine Side.mk ?_ ?_; · first | omega | decide) | (refine SideD.mk ?_ ?_; · first | omega | decide) | refine ⟨_, Nat.lt_succ_self _, To.refl (.inl ⟨rfl, ?_⟩)⟩ | refine Side.mk (by simp; omega) ?_ | refine Side.mk (appB (by rfl) (by omega) (by rw [e0]; exact scal_bs m) (by omega)) ?_ | refine Side.mk (appB (by rw [e0]; simp [rep]; omega) (by omega) (by simp [scal]) (by omega)) ?_ | (refine Side.mk ?_ ?_; · (simp; done)) | fail)
 all_goals (conv => whnf)
 have hd : ∀ j, ∀ c ∈ (m ++ 128 :: List.replicate j 0).map B, noLoc c = true := fun j => dat_bs _
 have h1 : rep [AV.int IntKind.u8 0] 0 ++ List.take (21 * 1) (m.map B) ++ [AV.int IntKind.u8 128] = (m ++ 128 :: List.replicate 0 0).map B := by rw [e0]; simp [rep]
 refine ⟨L59 m cap, 34, To.gc [(2, true)] [0, 3] rfl ⟨fun c hc => hd 0 c (by rw [← h1]; exact hc), trivial⟩ ⟨0, by omega, rfl, rfl, by rw [← h1]; rfl⟩, ?_⟩
 rintro k fr H ⟨j, hj, rfl, rfl, rfl⟩
 by_cases hj3 : j < 34
 · have h2 : (m ++ 128 :: List.replicate j 0).map B ++ [AV.int IntKind.u8 0] = (m ++ 128 :: List.replicate (j + 1) 0).map B := by rw [List.replicate_succ']; simp
   repeat' ((conv => whnf); first | refine Branch.ofT rfl ?_ | refine Branch.ofF rfl ?_ | refine Branch.negdec (fun _ => ?_) (fun hn => absurd hn (by omega)) | refine Branch.dec (fun h => ?_) (fun h => ?_) | refine Branch.negdec (fun h => ?_) (fun h => ?_) | refine Branch.neg (fun h => ?_) (fun h => ?_) | refine Branch.mk (fun h => ?_) (fun h => ?_) | (refine Side.mk ?_ ?_; · first | omega | decide) | (refine SideD.mk ?_ ?_; · first | omega | decide) | refine ⟨_, Nat.lt_succ_self _, To.refl (.inl ⟨rfl, ?_⟩)⟩ | refine Side.mk (appB (by simp; omega) (by omega) (by simp [scal]) (by omega)) ?_ | (refine Side.mk ?_ ?_; · (simp; done)) | fail)
   all_goals (conv => whnf)
   exact ⟨34 - (j + 1), by omega, To.gc [(1, true)] [0, 3] rfl ⟨fun c hc => hd (j + 1) c (by rw [← h2]; exact hc), trivial⟩ ⟨j + 1, by omega, rfl, rfl, by rw [← h2]; rfl⟩⟩
 · have : j = 34 := by omega
   subst this
   have h3 : (m ++ 128 :: List.replicate 34 0).map B ++ [AV.int IntKind.u8 0] ++ [AV.int IntKind.u8 0] ++ [AV.int IntKind.u8 0] ++ [AV.int IntKind.u8 0] ++ [AV.int IntKind.u8 0] ++ [AV.int IntKind.u8 0] ++ [AV.int IntKind.u8 0] ++ [AV.int IntKind.u8 168] = (padN m).map B := by
    unfold padN; simp
   generalize hcs : (m ++ 128 :: List.replicate 34 0).map B = cs at h3 hd
   have hcl : cs.length = 56 := by rw [← hcs]; simp [hm]
   repeat' ((conv => whnf); first | refine Branch.ofT rfl ?_ | refine Branch.ofF rfl ?_ | refine Branch.negdec (fun hn => absurd (by omega) hn) (fun _ => ?_) | refine Branch.dec (fun h => ?_) (fun h => ?_) | refine Branch.negdec (fun h => ?_) (fun h => ?_) | refine Branch.neg (fun h => ?_) (fun h => ?_) | refine Branch.mk (fun h => ?_) (fun h => ?_) | (refine Side.mk ?_ ?_; · first | omega | decide) | (refine SideD.mk ?_ ?_; · first | omega | decide) | refine ⟨_, Nat.lt_succ_self _, To.refl (.inl ⟨rfl, ?_⟩)⟩ | refine LoopA.unroll _ _ _ 9 ?_ | refine Side.mk (appB (by simp [hcl]) (by omega) (by simp [scal]) (by omega)) ?_ | (refine Side.mk ?_ ?_; · (simp; done)) | fail)
   all_goals (conv => whnf)
   refine RetA.pub 8 (ds := (padN m).map B) (Eq.trans (by rfl) (congrArg AB.cells h3)) (dat_bs _) ?_
   refine RetA.data rfl ⟨?_, rfl⟩
   show AV.dslice ((((padN m).map B).drop 0).take (64 * 1)) 64 none = _
   rw [List.drop_zero, List.take_of_length_le (by simp [padN, hm])]
def L55a (P : List Nat) (A : Nat → S8) (m : Nat) (fr : Fr) (H : Heap) : Prop := ∃ k : Nat, k ≤ 1 ∧ m = 1 - k ∧ fr = [(2, .ptr 0 0), (3, .ptr 1 0), (4, .dslice (P.map B) 64 none), (5, I (64 * k : Nat))] ∧ H = ⟨2, [(0, .cells z32), (1, .cells (A k).av)]⟩
def L55b (P : List Nat) (k : Nat) (ws : List Nat) (s : S8) (m : Nat) (fr : Fr) (H : Heap) : Prop := ∃ t : Nat, t ≤ 64 ∧ m = 64 - t ∧ fr = [(2, .ptr 0 0), (3, .ptr 1 0), (4, .dslice (P.map B) 64 none), (5, I (64 * k : Nat)), (6, .ptr 2 0), (7, .ptr 3 0), (8, I t)] ∧ H = ⟨4, [(0, .cells z32), (1, .cells s.av), (2, .cells (ws.map W)), (3, .cells (rounds ws s t).av)]⟩
attribute [local irreducible] sched rounds t1N t2N mixN compN
theorem c55a (m : List Nat) (cap : Option Nat) (P : List Nat) (A : Nat → S8) (S : Nat → List Nat)
 (h59 : CallA Tryz.prog 109 [.dslice (m.map B) 21 cap] Heap.nil fun v H' => v = .dslice (P.map B) 64 none ∧ H' = Heap.nil)
 (h60 : ∀ k, k < 1 → ∀ cs len cap, cs = (chunk P k).map B → len = 64 → CallA Tryz.prog 110 [.dslice cs len cap] Heap.nil fun v H' => v = .agg ((S k).map W) ∧ H' = Heap.nil)
 (hP : P.length = 64) (hS : ∀ k, (S k).length = 64) (hA0 : A 0 = iv) (hA : ∀ k, A (k + 1) = (A k).add (rounds (S k) (A k) 64)) (hok : ∀ k, (A k).ok) :
 CallA Tryz.prog 69 [.dslice (m.map B) 21 cap] Heap.nil fun v H' => v = .agg ((outN (A 1)).map B) ∧ H' = Heap.nil := by
 refine callA_of ok69 (Nat.le_of_ble_eq_true rfl) ?_
 repeat' ((conv => whnf); first | refine Branch.ofT rfl ?_ | refine Branch.ofF rfl ?_ | refine Branch.dec (fun h => ?_) (fun h => ?_) | refine Branch.negdec (fun h => ?_) (fun h => ?_) | refine Branch.neg (fun h => ?_) (fun h => ?_) | refine Branch.mk (fun h => ?_) (fun h => ?_) | (refine Side.mk ?_ ?_; · first | omega | decide) | (refine SideD.mk ?_ ?_; · first | omega | decide) | refine ⟨_, Nat.lt_succ_self _, To.refl (.inl ⟨rfl, ?_⟩)⟩ | refine CallA.pure h59 rfl (by simp [noLoc, noLocL_bs]) ?_ | (refine Side.mk ?_ ?_; · (simp; done)) | fail)
 all_goals (conv => whnf)
 refine ⟨L55a P A, 1, To.gc [(0, true), (1, true)] [2, 3, 4, 5] rfl ⟨dat rfl, dat rfl, trivial⟩ ⟨0, by omega, rfl, rfl, by rw [hA0]; rfl⟩, ?_⟩
 rintro n fr H ⟨k, hk, rfl, rfl, rfl⟩
 have hs := hok k
 by_cases hk3 : k < 1
 · have ha := hA k
   have wl := hS k
   have h60 := h60 k hk3
   have hch : List.take ((((64 * k : Nat) : Int) + 64 - ((64 * k : Nat) : Int)).toNat * 1) (List.drop (((64 * k : Nat) : Int).toNat * 1) (P.map B)) = (chunk P k).map B := by
    unfold chunk; rw [List.map_take, List.map_drop, show (((64 * k : Nat) : Int) + 64 - ((64 * k : Nat) : Int)).toNat * 1 = 64 by omega, show ((64 * k : Nat) : Int).toNat * 1 = 64 * k by omega]
   generalize S k = ws at *
   generalize A k = s at *
   repeat' ((conv => whnf); first | refine Branch.ofT rfl ?_ | refine Branch.ofF rfl ?_ | refine Branch.ofT (decide_eq_true (by omega)) ?_ | refine Branch.dec (fun h => ?_) (fun h => ?_) | refine Branch.negdec (fun h => ?_) (fun h => ?_) | refine Branch.neg (fun h => ?_) (fun h => ?_) | refine Branch.mk (fun h => ?_) (fun h => ?_) | (refine Side.mk ?_ ?_; · first | omega | decide) | (refine SideD.mk ?_ ?_; · first | omega | decide) | refine ⟨_, Nat.lt_succ_self _, To.refl (.inl ⟨rfl, ?_⟩)⟩ | refine CallA.pure (h60 _ _ _ hch (by omega)) rfl (noLocL_ws ws) ?_ | refine condT (by simp [wl]) ?_ | refine lputA (by simp [wl]) (scal_ws _) ?_ | (refine Side.mk ?_ ?_; · (simp; done)) | fail)
   all_goals (conv => whnf)
   refine ⟨L55b P k ws s, 64, To.gc [(0, true), (1, true), (2, true), (3, true)] [2, 3, 4, 5, 6, 7, 8] rfl ⟨dat rfl, dat rfl, dat_ws ws, dat rfl, trivial⟩ ⟨0, by omega, rfl, rfl, by rw [rounds_zero]; rfl⟩, ?_⟩
   rintro n fr H ⟨t, ht, rfl, rfl, rfl⟩
   have hr := rounds_ok (ws := ws) hs t
   have hn : rounds ws s (t + 1) = (rounds ws s t).round (KS.getD t 0) (ws.getD t 0) := rounds_succ ws s t
   generalize hr0 : rounds ws s t = r at hr hn
   by_cases h64 : t < 64
   · repeat' ((conv => whnf); first | refine Branch.ofT rfl ?_ | refine Branch.ofF rfl ?_ | refine Branch.ofT (decide_eq_true (by omega)) ?_ | refine Branch.dec (fun h => ?_) (fun h => ?_) | refine Branch.negdec (fun h => ?_) (fun h => ?_) | refine Branch.neg (fun h => ?_) (fun h => ?_) | refine Branch.mk (fun h => ?_) (fun h => ?_) | (refine Side.mk ?_ ?_; · first | omega | decide) | (refine SideD.mk ?_ ?_; · first | omega | decide) | refine ⟨_, Nat.lt_succ_self _, To.refl (.inl ⟨rfl, ?_⟩)⟩ | refine ldW (ws := KS) (i := t) (by omega) (by rw [ks_len]; omega) ?_ | refine ldW (ws := ws) (i := t) (by omega) (by omega) ?_ | refine QCallA.of (c61 r.e 6 hr.2.2.2.2.1 (by decide)) rfl rfl ?_ | refine QCallA.of (c61 r.e 11 hr.2.2.2.2.1 (by decide)) rfl rfl ?_ | refine QCallA.of (c61 r.e 25 hr.2.2.2.2.1 (by decide)) rfl rfl ?_ | refine QCallA.of (c61 r.a 2 hr.1 (by decide)) rfl rfl ?_ | refine QCallA.of (c61 r.a 13 hr.1 (by decide)) rfl rfl ?_ | refine QCallA.of (c61 r.a 22 hr.1 (by decide)) rfl rfl ?_ | (refine Side.mk ?_ ?_; · (simp; done)) | fail)
     all_goals (conv => whnf)
     have hx := rx' hr (KS.getD t 0) (ws.getD t 0)
     have hA := (cong2 hx (ry' hr)).trans (wadd _ _)
     have hE := (congrArg (fun x : Int => IntKind.u32.wrap ((r.d : Int) + x)) hx).trans (wadd _ _)
     exact ⟨64 - (t + 1), by omega, To.gc [(0, true), (1, true), (2, true), (3, true)] [2, 3, 4, 5, 6, 7, 8] rfl ⟨dat rfl, dat rfl, dat_ws ws, dat rfl, trivial⟩ ⟨t + 1, by omega, rfl, rfl, by rw [hn]; exact heq55 hA hE⟩⟩
   · repeat' ((conv => whnf); first | refine Branch.ofT rfl ?_ | refine Branch.ofF rfl ?_ | refine Branch.ofF (decide_eq_false (by omega)) ?_ | refine Branch.dec (fun h => ?_) (fun h => ?_) | refine Branch.negdec (fun h => ?_) (fun h => ?_) | refine Branch.neg (fun h => ?_) (fun h => ?_) | refine Branch.mk (fun h => ?_) (fun h => ?_) | (refine Side.mk ?_ ?_; · first | omega | decide) | (refine SideD.mk ?_ ?_; · first | omega | decide) | refine ⟨_, Nat.lt_succ_self _, To.refl (.inl ⟨rfl, ?_⟩)⟩ | refine LoopA.unroll _ _ _ 9 ?_ | (refine Side.mk ?_ ?_; · (simp; done)) | fail)
     all_goals (conv => whnf)
     have : t = 64 := by omega
     subst this
     rw [hr0] at ha
     have e5 : ((64 * k : Nat) : Int) + 64 = ((64 * (k + 1) : Nat) : Int) := by omega
     exact ⟨1 - (k + 1), by omega, To.gc [(0, true), (1, true)] [2, 3, 4, 5] rfl ⟨dat rfl, dat rfl, trivial⟩ ⟨k + 1, by omega, rfl, by rw [← e5]; rfl, by rw [ha]; exact heqA s r⟩⟩
 · have hk4 : k = 1 := by omega
   subst hk4
   generalize A 1 = s at *
   repeat' ((conv => whnf); first | refine Branch.ofT rfl ?_ | refine Branch.ofF rfl ?_ | refine Branch.ofF (decide_eq_false (by omega)) ?_ | refine Branch.dec (fun h => ?_) (fun h => ?_) | refine Branch.negdec (fun h => ?_) (fun h => ?_) | refine Branch.neg (fun h => ?_) (fun h => ?_) | refine Branch.mk (fun h => ?_) (fun h => ?_) | (refine Side.mk ?_ ?_; · first | omega | decide) | (refine SideD.mk ?_ ?_; · first | omega | decide) | refine ⟨_, Nat.lt_succ_self _, To.refl (.inl ⟨rfl, ?_⟩)⟩ | refine LoopA.unroll _ _ _ 33 ?_ | (refine Side.mk ?_ ?_; · (simp; done)) | fail)
   all_goals (conv => whnf)
   exact RetA.data rfl ⟨out_eq s, rfl⟩
theorem c55 (m : List Nat) (cap : Option Nat) (hm : m.length = 21) (hb : ∀ x ∈ m, x < 256) : CallA Tryz.prog 69 [.dslice (m.map B) 21 cap] Heap.nil fun v H' => v = .agg ((outN (absorb iv (padN m) 1)).map B) ∧ H' = Heap.nil := by
 have hP : (padN m).length = 64 := by simp [padN, hm]
 have hPb : ∀ x ∈ padN m, x < 256 := by
  intro x hx
  simp only [padN, List.mem_append, List.mem_cons, List.mem_replicate, List.not_mem_nil, or_false] at hx
  rcases hx with h | h | h | h
  · exact hb x h
  all_goals omega
 refine c55a m cap (padN m) (absorb iv (padN m)) (fun k => sched (chunk (padN m) k) 64) (c59 m cap hm) ?_ hP (fun k => sched_len _ 64) rfl (fun k => by rw [absorb]; unfold compN; rfl) (absorb_ok iv_ok _)
 rintro k hk _ _ cap rfl rfl
 have hcl : (chunk (padN m) k).length = 64 := by simp [chunk, hP]; omega
 exact c60 _ cap hcl fun x hx => hPb x (List.mem_of_mem_drop (List.mem_of_mem_take hx))
def msg (nb p : List Nat) : List Nat := 184 :: (32 :: nb ++ (4 :: p))
theorem c48 (nb p : List Nat) (cap : Option Nat) (hn : nb.length = 16) (hp : p.length = 2) (hnb : ∀ x ∈ nb, x < 256) (hpb : ∀ x ∈ p, x < 256) : CallA Tryz.prog 33 [I 440, .dslice [.str (txt nb), .str (txt p)] 2 cap] Heap.nil fun v H' => v = .dslice ((msg nb p).map B) 21 none ∧ H' = Heap.nil := by
 refine callA_of ok33 (Nat.le_of_ble_eq_true rfl) ?_
 have h1 := c56 nb [32] 1 16 hnb hn c62_16 rfl (by omega) (by omega) (by omega)
 have h2 := c56 p [4] 1 2 hpb hp c62_2 rfl (by omega) (by omega) (by omega)
 have a1 : List.take ((1 + 16) * 1) (([32] ++ nb).map B) = ([32] ++ nb).map B := List.take_of_length_le (by simp; omega)
 have a2 : List.take ((1 + 2) * 1) (([4] ++ p).map B) = ([4] ++ p).map B := List.take_of_length_le (by simp; omega)
 repeat' ((conv => whnf); first | refine Branch.ofT rfl ?_ | refine Branch.ofF rfl ?_ | refine Branch.ofF (decide_eq_false (by omega)) ?_ | refine Branch.dec (fun h => ?_) (fun h => ?_) | refine Branch.negdec (fun h => ?_) (fun h => ?_) | refine Branch.neg (fun h => ?_) (fun h => ?_) | refine Branch.mk (fun h => ?_) (fun h => ?_) | (refine Side.mk ?_ ?_; · first | omega | decide) | (refine SideD.mk ?_ ?_; · first | omega | decide) | refine ⟨_, Nat.lt_succ_self _, To.refl (.inl ⟨rfl, ?_⟩)⟩ | refine LoopA.unroll _ _ _ 3 ?_ | refine Branch.ofF (by rfl) ?_ | refine CallA.pure h1 rfl (by simp [noLoc, noLocL_bs]) ?_ | refine CallA.pure h2 rfl (by simp [noLoc, noLocL_bs]) ?_ | refine Side.mk (by rw [List.length_map, List.length_append, List.length_cons, List.length_nil, hn]; omega) ?_ | refine Side.mk (by rw [List.length_map, List.length_append, List.length_cons, List.length_nil, hp]; omega) ?_ | refine Side.mk ⟨by rfl, by simp, by unfold fits; omega, by rw [a1]; exact scal_bs _⟩ ?_ | refine Side.mk (appB (by rw [a1]; simp [rep]; omega) (by omega) (by rw [a2]; exact scal_bs _) (by omega)) ?_ | (refine Side.mk ?_ ?_; · (simp; done)) | fail)
 all_goals (conv => whnf)
 refine RetA.pub 1 (ds := (msg nb p).map B) (by show AB.cells ([B 184] ++ List.take ((1 + 16) * 1) (([32] ++ nb).map B) ++ List.take ((1 + 2) * 1) (([4] ++ p).map B)) = _; rw [a1, a2]; simp [msg]) (dat_bs _) ?_
 refine RetA.data rfl ⟨?_, rfl⟩
 show AV.dslice ((((msg nb p).map B).drop 0).take ((1 + (1 + 16) + (1 + 2)) * 1)) (1 + (1 + 16) + (1 + 2)) none = _
 rw [List.drop_zero, List.take_of_length_le (by simp [msg, hn, hp])]
theorem msg_len {nb p : List Nat} (hn : nb.length = 16) (hp : p.length = 2) : (msg nb p).length = 21 := by simp [msg, hn, hp]
theorem msg_lt {nb p : List Nat} (hnb : ∀ x ∈ nb, x < 256) (hpb : ∀ x ∈ p, x < 256) : ∀ x ∈ msg nb p, x < 256 := by
 intro x hx
 simp only [msg, List.mem_cons, List.mem_append] at hx
 rcases hx with rfl | (rfl | h) | rfl | h
 · omega
 · omega
 · exact hnb x h
 · omega
 · exact hpb x h
def dig (m : List Nat) : List Nat := (outN (absorb iv (padN m) 1)).take 16
theorem c47a (m : List Nat) (cap : Option Nat) (s : S8) (h : CallA Tryz.prog 69 [.dslice (m.map B) 21 cap] Heap.nil fun v H' => v = .agg ((outN s).map B) ∧ H' = Heap.nil) : CallA Tryz.prog 32 [.dslice (m.map B) 21 cap] Heap.nil fun v H' => v = .agg (((outN s).take 16).map B) ∧ H' = Heap.nil := by
 refine callA_of ok32 (Nat.le_of_ble_eq_true rfl) ?_
 repeat' ((conv => whnf); first | refine Branch.ofT rfl ?_ | refine Branch.ofF rfl ?_ | refine Branch.dec (fun h => ?_) (fun h => ?_) | refine Branch.negdec (fun h => ?_) (fun h => ?_) | refine Branch.neg (fun h => ?_) (fun h => ?_) | refine Branch.mk (fun h => ?_) (fun h => ?_) | (refine Side.mk ?_ ?_; · first | omega | decide) | (refine SideD.mk ?_ ?_; · first | omega | decide) | refine ⟨_, Nat.lt_succ_self _, To.refl (.inl ⟨rfl, ?_⟩)⟩ | refine CallA.pure h rfl (by simp [noLoc, noLocL_bs]) ?_ | refine LoopA.unroll _ _ _ 17 ?_ | (refine Side.mk ?_ ?_; · (simp; done)) | fail)
 all_goals (conv => whnf)
 exact RetA.data rfl ⟨rfl, rfl⟩
theorem c47 (m : List Nat) (cap : Option Nat) (hm : m.length = 21) (hb : ∀ x ∈ m, x < 256) : CallA Tryz.prog 32 [.dslice (m.map B) 21 cap] Heap.nil fun v H' => v = .agg ((dig m).map B) ∧ H' = Heap.nil :=
 c47a m cap _ (c55 m cap hm hb)
theorem c41a (nb p m d : List Nat) (cap : Option Nat) (h48 : CallA Tryz.prog 33 [I 440, .dslice [.str (txt nb), .str (txt p)] 2 cap] Heap.nil fun v H' => v = .dslice (m.map B) 21 none ∧ H' = Heap.nil)
 (h47 : CallA Tryz.prog 32 [.dslice (m.map B) 21 none] Heap.nil fun v H' => v = .agg (d.map B) ∧ H' = Heap.nil) (hl : d.length = 16) :
 CallA Tryz.prog 11 [I 440, .dslice [.str (txt nb), .str (txt p)] 2 cap] Heap.nil fun v H' => v = .agg (d.map B) ∧ H' = Heap.nil := by
 refine callA_of ok11 (Nat.le_of_ble_eq_true rfl) ?_
 repeat' ((conv => whnf); first | refine Branch.ofT rfl ?_ | refine Branch.ofF rfl ?_ | refine Branch.dec (fun h => ?_) (fun h => ?_) | refine Branch.negdec (fun h => ?_) (fun h => ?_) | refine Branch.neg (fun h => ?_) (fun h => ?_) | refine Branch.mk (fun h => ?_) (fun h => ?_) | (refine Side.mk ?_ ?_; · first | omega | decide) | (refine SideD.mk ?_ ?_; · first | omega | decide) | refine ⟨_, Nat.lt_succ_self _, To.refl (.inl ⟨rfl, ?_⟩)⟩ | refine CallA.pure h48 rfl (by simp [noLoc, noLocL_bs]) ?_ | refine CallA.pure h47 rfl (noLocL_bs _) ?_ | refine condT (by simp [hl]) ?_ | refine lputA (by simp [hl]) (by simp [scal]) ?_ | refine tkBn hl ?_ | (refine Side.mk ?_ ?_; · (simp; done)) | fail)
 all_goals (conv => whnf)
 exact RetA.data (v := .agg (d.map B)) (noLocL_bs d) ⟨rfl, rfl⟩
theorem dig_len (m : List Nat) : (dig m).length = 16 := by simp [dig, outN, out4]
theorem c41 (nb p : List Nat) (cap : Option Nat) (hn : nb.length = 16) (hp : p.length = 2) (hnb : ∀ x ∈ nb, x < 256) (hpb : ∀ x ∈ p, x < 256) : CallA Tryz.prog 11 [I 440, .dslice [.str (txt nb), .str (txt p)] 2 cap] Heap.nil fun v H' => v = .agg ((dig (msg nb p)).map B) ∧ H' = Heap.nil :=
 c41a nb p (msg nb p) (dig (msg nb p)) cap (c48 nb p cap hn hp hnb hpb) (c47 (msg nb p) none (msg_len hn hp) (msg_lt hnb hpb)) (dig_len _)
end Go.Proofs.M21

namespace Go.Proofs.M21
open Go Go.Eng Go.Proofs
set_option maxRecDepth 100000
set_option maxHeartbeats 4000000
attribute [local irreducible] compN
def padT : List Nat := 128 :: (List.replicate 34 0 ++ [0, 0, 0, 0, 0, 0, 0, 168])
theorem padN_eq (m : List Nat) : padN m = m ++ padT := rfl
def z32' : List AV := List.replicate 32 (B 0)
def L54 (s : S8) (b : List Nat) (k : Nat) (fr : Fr) (H : Heap) : Prop := ∃ j : Nat, j ≤ 34 ∧ k = 34 - j ∧
 ((j = 0 ∧ fr = [(1, .ptr 0 0), (2, .ptr 1 0), (3, .int .u64 168), (4, .dslice [B 128] 1 (some 1))] ∧ H = ⟨2, [(0, .cells (St.av ⟨s, b, 21⟩)), (1, .cells z32)]⟩) ∨
  (0 < j ∧ fr = [(1, .ptr 0 0), (2, .ptr 1 0), (3, .int .u64 168), (4, .slice 2 0 (1 + j) none 1)] ∧ H = ⟨3, [(0, .cells (St.av ⟨s, b, 21⟩)), (1, .cells z32), (2, .cells ((128 :: List.replicate j 0).map B))]⟩))
theorem ld140 {s : S8} {b : List Nat} (h : b.length = 64) {K : AV → Prop} (hk : K (U 21)) : nthK 0 ((St.av ⟨s, b, 21⟩).drop 72) K := ldN (σ := ⟨s, b, 21⟩) h hk
theorem c54a (s : S8) (b : List Nat) (σ2 : St) (hb : b.length = 64) (h2 : σ2.b.length = 64) (h52 : CallA Tryz.prog 27 [.agg (St.av ⟨s, b, 21⟩), .str (txt padT)] Heap.nil fun v H' => v = .agg σ2.av ∧ H' = Heap.nil) : CallA Tryz.prog 29 [.agg (St.av ⟨s, b, 21⟩)] Heap.nil fun v H' => v = .agg ((outN σ2.s).map B) ∧ H' = Heap.nil := by
 refine callA_of ok29 (Nat.le_of_ble_eq_true rfl) ?_
 repeat' ((conv => whnf); first | refine Branch.ofT rfl ?_ | refine Branch.ofF rfl ?_ | refine Branch.dec (fun h => ?_) (fun h => ?_) | refine Branch.negdec (fun h => ?_) (fun h => ?_) | refine Branch.neg (fun h => ?_) (fun h => ?_) | refine Branch.mk (fun h => ?_) (fun h => ?_) | (refine Side.mk ?_ ?_; · first | omega | decide) | (refine SideD.mk ?_ ?_; · first | omega | decide) | refine ⟨_, Nat.lt_succ_self _, To.refl (.inl ⟨rfl, ?_⟩)⟩ | refine ld140 hb ?_ | (refine Side.mk ?_ ?_; · (simp; done)) | fail)
 all_goals (conv => whnf)
 have hav : ∀ s : S8, ∀ c ∈ St.av ⟨s, b, 21⟩, noLoc c = true := fun s => dat (by simp [St.av, all_bs, noLoc])
 refine ⟨L54 s b, 34, To.gc [(0, true), (1, true)] [1, 2, 3, 4] rfl ⟨hav s, dat rfl, trivial⟩ ⟨0, by omega, rfl, .inl ⟨rfl, rfl, rfl⟩⟩, ?_⟩
 have hw : IntKind.i64.wrap ((21 : Nat) : Int) = 21 := rfl
 have hw' : IntKind.i64.wrap (21 : Int) = 21 := rfl
 rintro k fr H ⟨j, hj, rfl, h⟩
 have hd : ∀ j, ∀ c ∈ (128 :: List.replicate j 0).map B, noLoc c = true := fun j => dat_bs _
 by_cases hj3 : j < 34
 · have h2 : (128 :: List.replicate j 0).map B ++ [AV.int IntKind.u8 0] = (128 :: List.replicate (j + 1) 0).map B := by rw [List.replicate_succ']; simp
   rcases h with ⟨rfl, rfl, rfl⟩ | ⟨hj0, rfl, rfl⟩
   · repeat' ((conv => whnf); first | refine Branch.ofT rfl ?_ | refine Branch.ofF rfl ?_ | refine Branch.negdec (fun _ => ?_) (fun hn => absurd hn (by omega)) | refine Branch.dec (fun h => ?_) (fun h => ?_) | refine Branch.negdec (fun h => ?_) (fun h => ?_) | refine Branch.neg (fun h => ?_) (fun h => ?_) | refine Branch.mk (fun h => ?_) (fun h => ?_) | (refine Side.mk ?_ ?_; · first | omega | decide) | (refine SideD.mk ?_ ?_; · first | omega | decide) | refine ⟨_, Nat.lt_succ_self _, To.refl (.inl ⟨rfl, ?_⟩)⟩ | refine ld140 hb ?_ | refine Side.mk ⟨by rfl, by simp, by unfold fits; omega, by simp [scal]⟩ ?_ | (refine Side.mk ?_ ?_; · (simp; done)) | fail)
     all_goals (conv => whnf)
     exact ⟨34 - (0 + 1), by omega, To.gc [(0, true), (1, true), (2, true)] [1, 2, 3, 4] rfl ⟨hav s, dat rfl, dat rfl, trivial⟩ ⟨0 + 1, by omega, rfl, .inr ⟨by omega, rfl, rfl⟩⟩⟩
   · repeat' ((conv => whnf); first | refine Branch.ofT rfl ?_ | refine Branch.ofF rfl ?_ | refine Branch.negdec (fun _ => ?_) (fun hn => absurd hn (by omega)) | refine Branch.dec (fun h => ?_) (fun h => ?_) | refine Branch.negdec (fun h => ?_) (fun h => ?_) | refine Branch.neg (fun h => ?_) (fun h => ?_) | refine Branch.mk (fun h => ?_) (fun h => ?_) | (refine Side.mk ?_ ?_; · first | omega | decide) | (refine SideD.mk ?_ ?_; · first | omega | decide) | refine ⟨_, Nat.lt_succ_self _, To.refl (.inl ⟨rfl, ?_⟩)⟩ | refine ld140 hb ?_ | refine Side.mk (appB (by simp; omega) (by omega) (by simp [scal]) (by omega)) ?_ | (refine Side.mk ?_ ?_; · (simp; done)) | fail)
     all_goals (conv => whnf)
     exact ⟨34 - (j + 1), by omega, To.gc [(0, true), (1, true), (3, true)] [1, 2, 3, 4] rfl ⟨hav s, dat rfl, fun c hc => hd (j + 1) c (by rw [← h2]; exact hc), trivial⟩ ⟨j + 1, by omega, rfl, .inr ⟨by omega, rfl, by rw [← h2]; rfl⟩⟩⟩
 · have : j = 34 := by omega
   subst this
   rcases h with ⟨h, _⟩ | ⟨hj0, rfl, rfl⟩
   · omega
   have h3 : (128 :: List.replicate 34 0).map B ++ [AV.int IntKind.u8 0] ++ [AV.int IntKind.u8 0] ++ [AV.int IntKind.u8 0] ++ [AV.int IntKind.u8 0] ++ [AV.int IntKind.u8 0] ++ [AV.int IntKind.u8 0] ++ [AV.int IntKind.u8 0] ++ [AV.int IntKind.u8 168] = padT.map B := by
    unfold padT; simp
   generalize hcs : (128 :: List.replicate 34 0).map B = cs at h3 hd
   have hcl : cs.length = 35 := by rw [← hcs]; simp
   have h4 : ∀ l : List AV, l = padT.map B → List.take ((1 + 34 + 1 + 1 + 1 + 1 + 1 + 1 + 1 + 1) * 1) (List.drop 0 l) = padT.map B := by
    rintro _ rfl; rfl
   have hna : noLocL [.agg (St.av ⟨s, b, 21⟩), .str (txt padT)] = true := by simp [noLocL, noLoc, noLocL_av]
   repeat' ((conv => whnf); first | refine Branch.ofT rfl ?_ | refine Branch.ofF rfl ?_ | refine Branch.negdec (fun hn => absurd (by omega) hn) (fun _ => ?_) | refine Branch.dec (fun h => ?_) (fun h => ?_) | refine Branch.negdec (fun h => ?_) (fun h => ?_) | refine Branch.neg (fun h => ?_) (fun h => ?_) | refine Branch.mk (fun h => ?_) (fun h => ?_) | (refine Side.mk ?_ ?_; · first | omega | decide) | (refine SideD.mk ?_ ?_; · first | omega | decide) | refine ⟨_, Nat.lt_succ_self _, To.refl (.inl ⟨rfl, ?_⟩)⟩ | refine ld140 hb ?_ | refine Side.mk (appB (by simp [hcl]) (by omega) (by simp [scal]) (by omega)) ?_ | refine Side.mk (by simp [hcl]) ?_ | refine bres (h4 _ h3) ?_ | refine tk65 hb ?_ | refine CallA.pure h52 hna (noLocL_av σ2) ?_ | refine tk65 h2 ?_ | refine condT (by simp [av_len h2]) ?_ | refine LoopA.unroll _ _ _ 33 ?_ | refine lput65B hb (by simp [h2]) (scalAv σ2) ?_ | (refine Side.mk ?_ ?_; · (simp; done)) | fail)
   all_goals (conv => whnf)
   exact RetA.data rfl ⟨out_eq σ2.s, rfl⟩
theorem c54 (m : List Nat) (σ : St) (hσ : σ.ok) (h : Str m σ) (hm : m.length = 21) : CallA Tryz.prog 29 [.agg σ.av] Heap.nil fun v H' => v = .agg ((outN (absorb iv (padN m) 1)).map B) ∧ H' = Heap.nil := by
 obtain ⟨s, b, n⟩ := σ
 have hn : n = 21 := h.n.trans hm
 subst hn
 have hpl : padT.length = 43 := rfl
 have hpb : ∀ x ∈ padT, x < 256 := by decide
 have h52 := c52 ⟨s, b, 21⟩ padT hσ hpb (by rw [hpl]; show 21 + 43 ≤ _; omega)
 have hs := str_add padT.length (t := padT) (Nat.le_refl _) h
 rw [← padN_eq] at hs
 have hl : (padN m).length = 64 := by simp [padN, hm]
 have e := hs.s
 rw [hl] at e
 have := c54a s b _ h.l hs.l h52
 rw [e] at this
 exact this
theorem c45a (nb p o : List Nat) (cap : Option Nat) (σ1 σ2 σ3 : St) (l1 : σ1.b.length = 64) (l2 : σ2.b.length = 64) (l3 : σ3.b.length = 64) (hn : nb.length = 16) (hp : p.length = 2) (ho : o.length = 32)
 (h1 : CallA Tryz.prog 27 [.agg σ0.av, .str (txt [184])] Heap.nil fun v H' => v = .agg σ1.av ∧ H' = Heap.nil)
 (h2 : CallA Tryz.prog 27 [.agg σ1.av, .str (txt ([32] ++ nb))] Heap.nil fun v H' => v = .agg σ2.av ∧ H' = Heap.nil)
 (h3 : CallA Tryz.prog 27 [.agg σ2.av, .str (txt ([4] ++ p))] Heap.nil fun v H' => v = .agg σ3.av ∧ H' = Heap.nil)
 (b1 : CallA Tryz.prog 28 [.str (txt nb)] Heap.nil fun v H' => v = .dslice (([32] ++ nb).map B) (1 + 16) none ∧ H' = Heap.nil)
 (b2 : CallA Tryz.prog 28 [.str (txt p)] Heap.nil fun v H' => v = .dslice (([4] ++ p).map B) (1 + 2) none ∧ H' = Heap.nil)
 (h4 : CallA Tryz.prog 29 [.agg σ3.av] Heap.nil fun v H' => v = .agg (o.map B) ∧ H' = Heap.nil) :
 CallA Tryz.prog 8 [I 440, .dslice [.str (txt nb), .str (txt p)] 2 cap] Heap.nil fun v H' => v = .agg ((o.take 16).map B) ∧ H' = Heap.nil := by
 refine callA_of ok8 (Nat.le_of_ble_eq_true rfl) ?_
 have h16 : (o.take 16).length = 16 := by simp [ho]
 have na : ∀ (σ : St) (s : ByteArray), noLocL [.agg σ.av, .str s] = true := fun σ s => by simp [noLocL, noLoc, noLocL_av]
 have a1 : List.take ((1 + 16) * 1) (([32] ++ nb).map B) = ([32] ++ nb).map B := List.take_of_length_le (by simp; omega)
 have a2 : List.take ((1 + 2) * 1) (([4] ++ p).map B) = ([4] ++ p).map B := List.take_of_length_le (by simp; omega)
 repeat' ((conv => whnf); first | refine Branch.ofT rfl ?_ | refine Branch.ofF rfl ?_ | refine Branch.dec (fun h => ?_) (fun h => ?_) | refine Branch.negdec (fun h => ?_) (fun h => ?_) | refine Branch.neg (fun h => ?_) (fun h => ?_) | refine Branch.mk (fun h => ?_) (fun h => ?_) | (refine Side.mk ?_ ?_; · first | omega | decide) | (refine SideD.mk ?_ ?_; · first | omega | decide) | refine ⟨_, Nat.lt_succ_self _, To.refl (.inl ⟨rfl, ?_⟩)⟩ | refine QCallA.of c51 rfl (noLocL_av σ0) ?_ | refine bres (t := [184]) (by rfl) ?_ | refine QCallA.of h1 (na _ _) (noLocL_av σ1) ?_ | refine condT (by rw [av_len l1]; rfl) ?_ | refine condT (by rw [av_len l2]; rfl) ?_ | refine condT (by rw [av_len l3]; rfl) ?_ | refine lputA (by simp [l1]) (List.all_eq_true.2 (scalAv σ1)) ?_ | refine lput65B l1 (by simp [l2]) (scalAv σ2) ?_ | refine lput65B l2 (by simp [l3]) (scalAv σ3) ?_ | refine LoopA.unroll _ _ _ 3 ?_ | refine tk65 l1 ?_ | refine tk65 l2 ?_ | refine tk65 l3 ?_ | refine QCallA.of b1 rfl (by simp [noLoc, noLocL_bs]) ?_ | refine QCallA.of b2 rfl (by simp [noLoc, noLocL_bs]) ?_ | refine bres a1 ?_ | refine bres a2 ?_ | refine Side.mk (by rw [List.length_map, List.length_append, List.length_cons, List.length_nil, hn]; omega) ?_ | refine Side.mk (by rw [List.length_map, List.length_append, List.length_cons, List.length_nil, hp]; omega) ?_ | refine QCallA.of h2 (na _ _) (noLocL_av σ2) ?_ | refine QCallA.of h3 (na _ _) (noLocL_av σ3) ?_ | refine CallA.pure h4 (by simp [noLocL, noLoc, noLocL_av]) (noLocL_bs o) ?_ | refine condT (by rw [List.length_map, ho]; rfl) ?_ | refine lputA (by rw [List.length_map, ho]; rfl) (by rw [List.all_eq_true]; exact scal_bs o) ?_ | refine Side.mk (by rw [List.length_map, ho]; omega) ?_ | refine tk16 (by rfl) ho ?_ | refine condT (by rw [List.length_map, h16]; rfl) ?_ | refine lputA (by rw [List.length_map, h16]; rfl) (by rw [List.all_eq_true]; exact scal_bs _) ?_ | refine tkBn h16 ?_ | (refine Side.mk ?_ ?_; · (simp; done)) | fail)
 all_goals (conv => whnf)
 exact RetA.data (v := .agg ((o.take 16).map B)) (noLocL_bs _) ⟨rfl, rfl⟩
theorem c45 (nb p : List Nat) (cap : Option Nat) (hn : nb.length = 16) (hp : p.length = 2) (hnb : ∀ x ∈ nb, x < 256) (hpb : ∀ x ∈ p, x < 256) : CallA Tryz.prog 8 [I 440, .dslice [.str (txt nb), .str (txt p)] 2 cap] Heap.nil fun v H' => v = .agg ((dig (msg nb p)).map B) ∧ H' = Heap.nil := by
 have t1 : ∀ x ∈ [184], x < 256 := by decide
 have t2 : ∀ x ∈ [32] ++ nb, x < 256 := by
  intro x hx; rcases List.mem_append.1 hx with h | h
  · rw [List.mem_singleton.1 h]; omega
  · exact hnb x h
 have t3 : ∀ x ∈ [4] ++ p, x < 256 := by
  intro x hx; rcases List.mem_append.1 hx with h | h
  · rw [List.mem_singleton.1 h]; omega
  · exact hpb x h
 have s1 := str_add [184].length (t := [184]) (Nat.le_refl _) str0
 have s2 := str_add ([32] ++ nb).length (t := [32] ++ nb) (Nat.le_refl _) s1
 have s3 := str_add ([4] ++ p).length (t := [4] ++ p) (Nat.le_refl _) s2
 have o1 := add_ok [184].length t1 σ0_ok
 have o2 := add_ok ([32] ++ nb).length t2 o1
 have o3 := add_ok ([4] ++ p).length t3 o2
 have h1 := c52 σ0 [184] σ0_ok t1 (by decide)
 have h2 := c52 _ ([32] ++ nb) o1 t2 (by rw [s1.n]; simp; omega)
 have h3 := c52 _ ([4] ++ p) o2 t3 (by rw [s2.n]; simp; omega)
 have hm : [] ++ [184] ++ ([32] ++ nb) ++ ([4] ++ p) = msg nb p := by simp [msg]
 rw [hm] at s3
 have h4 := c54 (msg nb p) _ o3 s3 (msg_len hn hp)
 exact c45a nb p _ cap _ _ _ s1.l s2.l s3.l hn hp (by simp [outN, out4]) h1 h2 h3 (c53 nb [32] 1 16 hnb hn c58_16 rfl (by omega) (by omega) (by omega)) (c53 p [4] 1 2 hpb hp c58_2 rfl (by omega) (by omega) (by omega)) h4
end Go.Proofs.M21

namespace Go.Proofs
open Go Go.Eng
set_option maxRecDepth 100000
set_option maxHeartbeats 4000000
def Tryz.lays189_ren : Go.Shelf.Ren := ⟨fun | 125 => 31 | 128 => 67 | 129 => 68 | 189 => 10 | 215 => 108 | 216 => 64 | 257 => 30 | 294 => 58 | 295 => 59 | 296 => 60 | 297 => 61 | 298 => 62 | 299 => 63 | 300 => 65 | 301 => 66 | 328 => 103 | 329 => 104 | 330 => 105 | 331 => 106 | 332 => 107 | 343 => 136 | n => n, fun | 0 => 0 | 3 => 3 | 4 => 4 | 5 => 5 | 9 => 9 | 28 => 24 | 46 => 37 | 51 => 79 | 53 => 108 | 131 => 169 | 182 => 163 | 183 => 164 | 218 => 213 | 222 => 217 | 228 => 248 | 229 => 249 | n => n, fun | n => n⟩
theorem Tryz.lays189 : Lays.n189 Tryz.prog Tryz.lays189_ren := {
 mixed := by kernel_rfl,
 f125 := Tryz.func31.trans (congrArg some (by kernel_rfl)),
 f128 := Tryz.func67.trans (congrArg some (by kernel_rfl)),
 f129 := Tryz.func68.trans (congrArg some (by kernel_rfl)),
 f189 := Tryz.func10.trans (congrArg some (by kernel_rfl)),
 f215 := Tryz.func108.trans (congrArg some (by kernel_rfl)),
 f216 := Tryz.func64.trans (congrArg some (by kernel_rfl)),
 f257 := Tryz.func30.trans (congrArg some (by kernel_rfl)),
 f294 := Tryz.func58.trans (congrArg some (by kernel_rfl)),
 f295 := Tryz.func59.trans (congrArg some (by kernel_rfl)),
 f296 := Tryz.func60.trans (congrArg some (by kernel_rfl)),
 f297 := Tryz.func61.trans (congrArg some (by kernel_rfl)),
 f298 := Tryz.func62.trans (congrArg some (by kernel_rfl)),
 f299 := Tryz.func63.trans (congrArg some (by kernel_rfl)),
 f300 := Tryz.func65.trans (congrArg some (by kernel_rfl)),
 f301 := Tryz.func66.trans (congrArg some (by kernel_rfl)),
 f328 := Tryz.func103.trans (congrArg some (by kernel_rfl)),
 f329 := Tryz.func104.trans (congrArg some (by kernel_rfl)),
 f330 := Tryz.func105.trans (congrArg some (by kernel_rfl)),
 f331 := Tryz.func106.trans (congrArg some (by kernel_rfl)),
 f332 := Tryz.func107.trans (congrArg some (by kernel_rfl)),
 f343 := Tryz.func136.trans (congrArg some (by kernel_rfl)),
 t0 := Tryz.underlying0,
 a0 := Tryz.isAgg0,
 z0 := Tryz.sizeOf0,
 v0 := Tryz.zeroValue0,
 t3 := Tryz.underlying3,
 a3 := Tryz.isAgg3,
 z3 := Tryz.sizeOf3,
 v3 := Tryz.zeroValue3,
 t4 := Tryz.underlying4,
 a4 := Tryz.isAgg4,
 z4 := Tryz.sizeOf4,
 v4 := Tryz.zeroValue4,
 t5 := Tryz.underlying5,
 a5 := Tryz.isAgg5,
 z5 := Tryz.sizeOf5,
 v5 := Tryz.zeroValue5,
 t9 := Tryz.underlying9,
 a9 := Tryz.isAgg9,
 z9 := Tryz.sizeOf9,
 v9 := Tryz.zeroValue9,
 t28 := Tryz.underlying24,
 a28 := Tryz.isAgg24,
 z28 := Tryz.sizeOf24,
 v28 := Tryz.zeroValue24,
 t46 := Tryz.underlying37,
 a46 := Tryz.isAgg37,
 z46 := Tryz.sizeOf37,
 v46 := Tryz.zeroValue37,
 t51 := Tryz.underlying79,
 a51 := Tryz.isAgg79,
 z51 := Tryz.sizeOf79,
 v51 := Tryz.zeroValue79,
 t53 := Tryz.underlying108,
 a53 := Tryz.isAgg108,
 z53 := Tryz.sizeOf108,
 v53 := Tryz.zeroValue108,
 t131 := Tryz.underlying169,
 a131 := Tryz.isAgg169,
 z131 := Tryz.sizeOf169,
 v131 := Tryz.zeroValue169,
 t182 := Tryz.underlying163,
 a182 := Tryz.isAgg163,
 z182 := Tryz.sizeOf163,
 v182 := Tryz.zeroValue163,
 t183 := Tryz.underlying164,
 a183 := Tryz.isAgg164,
 z183 := Tryz.sizeOf164,
 v183 := Tryz.zeroValue164,
 t218 := Tryz.underlying213,
 a218 := Tryz.isAgg213,
 z218 := Tryz.sizeOf213,
 v218 := Tryz.zeroValue213,
 t222 := Tryz.underlying217,
 a222 := Tryz.isAgg217,
 z222 := Tryz.sizeOf217,
 v222 := Tryz.zeroValue217,
 t228 := Tryz.underlying248,
 a228 := Tryz.isAgg248,
 z228 := Tryz.sizeOf248,
 v228 := Tryz.zeroValue248,
 t229 := Tryz.underlying249,
 a229 := Tryz.isAgg249,
 z229 := Tryz.sizeOf249,
 v229 := Tryz.zeroValue249 }
theorem c10 (zs : List Int) (rest : List AV) (hz : zs.length ≤ 1000) (cap : Option Nat) : CallA Tryz.prog 10 [.slice 0 0 zs.length cap 1] ⟨1, [(0, .cells (ints zs ++ rest))]⟩ fun v H' => v = .tuple [] ∧ H' = ⟨1, [(0, .cells (ints (zs.mergeSort fun x y => decide (x ≤ y)) ++ rest))]⟩ :=
 sortB (by kernel_rfl) (fun blk off cap zs w h1 h2 h3 => Any.slices_Sort_int Tryz.lays189 blk off cap zs w h1 h2 h3) zs rest hz cap

def dg (s : List Nat) (p : Nat) : List Nat := if p < 64 then M20.dig (M20.msg s (ip p)) else M21.dig (M21.msg s (ip p))
theorem dg_len (s : List Nat) (p : Nat) : (dg s p).length = 16 := by
 unfold dg; split
 · exact M20.dig_len _
 · exact M21.dig_len _
theorem outN_lt (s : S8) : ∀ x ∈ outN s, x < 256 := by
 intro x hx
 simp only [outN, out4, List.mem_append, List.mem_cons, List.not_mem_nil, or_false] at hx
 have h : ∀ y : Nat, y % 256 < 256 := fun y => Nat.mod_lt _ (by omega)
 rcases hx with (((((((h1 | h1) | h1) | h1) | h1) | h1) | h1) | h1) <;> rcases h1 with rfl | rfl | rfl | rfl <;> exact h _
theorem dg_lt (s : List Nat) (p : Nat) : ∀ x ∈ dg s p, x < 256 := by
 intro x hx
 unfold dg at hx; split at hx
 · exact outN_lt _ x (List.mem_of_mem_take hx)
 · exact outN_lt _ x (List.mem_of_mem_take hx)
theorem ip_lt {p : Nat} (h : p < 256) : ∀ x ∈ ip p, x < 256 := by
 intro x hx
 unfold ip at hx
 split at hx <;> simp only [List.mem_cons, List.not_mem_nil, or_false] at hx <;> omega
theorem c8 (s : List Nat) (p : Nat) (cap : Option Nat) (hs : s.length = 16) (hb : ∀ x ∈ s, x < 256) (hp : p < 256) : CallA Tryz.prog 8 [I 440, .dslice [.str (txt s), .str (txt (ip p))] 2 cap] Heap.nil fun v H' => v = .agg ((dg s p).map B) ∧ H' = Heap.nil := by
 have hl := ip_lt hp
 unfold dg
 split
 · rename_i h
   exact M20.c45 s (ip p) cap hs (by unfold ip; rw [if_pos h]; rfl) hb hl
 · rename_i h
   exact M21.c45 s (ip p) cap hs (by unfold ip; rw [if_neg h]; rfl) hb hl
theorem c11 (s : List Nat) (p : Nat) (cap : Option Nat) (hs : s.length = 16) (hb : ∀ x ∈ s, x < 256) (hp : p < 256) : CallA Tryz.prog 11 [I 440, .dslice [.str (txt s), .str (txt (ip p))] 2 cap] Heap.nil fun v H' => v = .agg ((dg s p).map B) ∧ H' = Heap.nil := by
 have hl := ip_lt hp
 unfold dg
 split
 · rename_i h
   exact M20.c41 s (ip p) cap hs (by unfold ip; rw [if_pos h]; rfl) hb hl
 · rename_i h
   exact M21.c41 s (ip p) cap hs (by unfold ip; rw [if_neg h]; rfl) hb hl

def xv (d : List Nat) : Nat → Nat
 | 0 => 0
 | i + 1 => 256 * xv d i + d.getD i 0
theorem xv_lt {d : List Nat} (h : ∀ x ∈ d, x < 256) : ∀ i, xv d i < 256 ^ i
 | 0 => by simp [xv]
 | i + 1 => by
  have h1 := xv_lt h i
  have h2 : d.getD i 0 < 256 := getD_lt h (by omega) i
  rw [xv, Nat.pow_succ]; omega
theorem i64m {n : Nat} (h : n < 9223372036854775808) : IntKind.i64.wrap (n : Int) = n := wrap_in (by
 have e1 : IntKind.i64.min = -9223372036854775808 := rfl
 have e2 : IntKind.i64.max = 9223372036854775807 := rfl
 omega)
theorem shl_or {x b : Nat} (hx : x < 281474976710656) (hb : b < 256) : IntKind.i64.wrap (BitVec.ofInt IntKind.i64.bits (IntKind.i64.wrap ((x : Int) * 2 ^ 8)) ||| BitVec.ofInt IntKind.i64.bits (b : Int)).toNat = ((256 * x + b : Nat) : Int) := by
 have e1 : IntKind.i64.wrap ((x : Int) * 2 ^ 8) = ((x * 2 ^ 8 : Nat) : Int) := by
  have := i64m (n := x * 2 ^ 8) (by omega)
  rw [← this]; congr 1
 rw [e1]
 show IntKind.i64.wrap (BitVec.ofInt 64 ((x * 2 ^ 8 : Nat) : Int) ||| BitVec.ofInt 64 (b : Int)).toNat = _
 have e2 : (BitVec.ofInt 64 ((x * 2 ^ 8 : Nat) : Int) ||| BitVec.ofInt 64 (b : Int)).toNat = x * 2 ^ 8 ||| b := by
  rw [BitVec.toNat_or, BitVec.toNat_ofInt, BitVec.toNat_ofInt]
  congr 1 <;> omega
 rw [e2, or_add (by omega), i64m (by omega)]; congr 1; omega
end Go.Proofs

set_option maxRecDepth 1000000
set_option maxHeartbeats 0
namespace Go.Proofs
open Go Go.Eng
def fe3 : FE := { f := 3, N := 78, ac := ac3, rs := rs3 }
def fe4 : FE := { f := 4, N := 94, ac := ac4, rs := rs4 }
def fe5 : FE := { f := 5, N := 90, ac := ac5, rs := rs5, pub := true }
def fe6 : FE := { f := 6, N := 26, ac := ac6, rs := rs6 }
def fe7 : FE := { f := 7, N := 247, ac := ac7, rs := rs7 }
def fe8 : FE := { f := 8, N := 32, ac := ac8, rs := rs8 }
def fe9 : FE := { f := 9, N := 27, ac := ac9, rs := rs9 }
def fe10 : FE := { f := 10, N := 11, ac := ac10, rs := rs10 }
def fe11 : FE := { f := 11, N := 9, ac := ac11, rs := rs11 }
def fe12 : FE := { f := 12, N := 17, ac := ac12, rs := rs12 }
def fe13 : FE := { f := 13, N := 31, ac := ac13, rs := rs13 }
def fe14 : FE := { f := 14, N := 48, ac := ac14, rs := rs14 }
def fe15 : FE := { f := 15, N := 37, ac := ac15, rs := rs15 }
def fe16 : FE := { f := 16, N := 16, ac := ac16, rs := rs16, pub := true }
def fe17 : FE := { f := 17, N := 8, ac := ac17, rs := rs17 }
def fe18 : FE := { f := 18, N := 49, ac := ac18, rs := rs18, pub := true }
def fe19 : FE := { f := 19, N := 50, ac := ac19, rs := rs19, pub := true }
def fe20 : FE := { f := 20, N := 90, ac := ac20, rs := rs20, pub := true }
def fe21 : FE := { f := 21, N := 40, ac := ac21, rs := rs21 }
def fe22 : FE := { f := 22, N := 44, ac := ac22, rs := rs22 }
def fe23 : FE := { f := 23, N := 51, ac := ac23, rs := rs23, pub := true }
def fe24 : FE := { f := 24, N := 41, ac := ac24, rs := rs24 }
def fe25 : FE := { f := 25, N := 41, ac := ac25, rs := rs25, pub := true }
def fe26 : FE := { f := 26, N := 3, ac := ac26, rs := rs26 }
def fe28 : FE := { f := 28, N := 8, ac := ac28, rs := rs28 }
def fe30 : FE := { f := 30, N := 134, ac := ac30, rs := rs30 }
def fe31 : FE := { f := 31, N := 8, ac := ac31, rs := rs31 }
def fe32 : FE := { f := 32, N := 19, ac := ac32, rs := rs32 }
def fe33 : FE := { f := 33, N := 24, ac := ac33, rs := rs33 }
def fe34 : FE := { f := 34, N := 34, ac := ac34, rs := rs34 }
def fe35 : FE := { f := 35, N := 53, ac := ac35, rs := rs35 }
def fe36 : FE := { f := 36, N := 28, ac := ac36, rs := rs36 }
def fe37 : FE := { f := 37, N := 42, ac := ac37, rs := rs37 }
def fe38 : FE := { f := 38, N := 16, ac := ac38, rs := rs38 }
def fe39 : FE := { f := 39, N := 17, ac := ac39, rs := rs39 }
def fe40 : FE := { f := 40, N := 15, ac := ac40, rs := rs40 }
def fe41 : FE := { f := 41, N := 77, ac := ac41, rs := rs41 }
def fe42 : FE := { f := 42, N := 97, ac := ac42, rs := rs42 }
def fe43 : FE := { f := 43, N := 22, ac := ac43, rs := rs43 }
def fe44 : FE := { f := 44, N := 4, ac := ac44, rs := rs44 }
def fe45 : FE := { f := 45, N := 36, ac := ac45, rs := rs45, pub := true }
def fe46 : FE := { f := 46, N := 7, ac := ac46, rs := rs46 }
def fe47 : FE := { f := 47, N := 8, ac := ac47, rs := rs47 }
def fe48 : FE := { f := 48, N := 27, ac := ac48, rs := rs48 }
def fe49 : FE := { f := 49, N := 57, ac := ac49, rs := rs49 }
def fe50 : FE := { f := 50, N := 76, ac := ac50, rs := rs50, pub := true }
def fe51 : FE := { f := 51, N := 27, ac := ac51, rs := rs51 }
def fe52 : FE := { f := 52, N := 17, ac := ac52, rs := rs52 }
def fe53 : FE := { f := 53, N := 100, ac := ac53, rs := rs53 }
def fe54 : FE := { f := 54, N := 41, ac := ac54, rs := rs54 }
def fe55 : FE := { f := 55, N := 40, ac := ac55, rs := rs55, pub := true }
def fe56 : FE := { f := 56, N := 30, ac := ac56, rs := rs56, pub := true }
def fe57 : FE := { f := 57, N := 116, ac := ac57, rs := rs57 }
def fe58 : FE := { f := 58, N := 49, ac := ac58, rs := rs58 }
def fe64 : FE := { f := 64, N := 17, ac := ac64, rs := rs64 }
def fe68 : FE := { f := 68, N := 25, ac := ac68, rs := rs68 }
def fe69 : FE := { f := 69, N := 148, ac := ac69, rs := rs69 }
def fe70 : FE := { f := 70, N := 8, ac := ac70, rs := rs70 }
def fe71 : FE := { f := 71, N := 50, ac := ac71, rs := rs71 }
def fe72 : FE := { f := 72, N := 5, ac := ac72, rs := rs72 }
def fe73 : FE := { f := 73, N := 5, ac := ac73, rs := rs73 }
def fe74 : FE := { f := 74, N := 15, ac := ac74, rs := rs74 }
def fe75 : FE := { f := 75, N := 13, ac := ac75, rs := rs75 }
def fe80 : FE := { f := 80, N := 4, ac := ac80, rs := rs80 }
def fe81 : FE := { f := 81, N := 19, ac := ac81, rs := rs81 }
def fe82 : FE := { f := 82, N := 25, ac := ac82, rs := rs82 }
def fe83 : FE := { f := 83, N := 25, ac := ac83, rs := rs83, pub := true }
def fe84 : FE := { f := 84, N := 30, ac := ac84, rs := rs84 }
def fe85 : FE := { f := 85, N := 23, ac := ac85, rs := rs85 }
def fe86 : FE := { f := 86, N := 55, ac := ac86, rs := rs86 }
def fe87 : FE := { f := 87, N := 5, ac := ac87, rs := rs87 }
def fe88 : FE := { f := 88, N := 20, ac := ac88, rs := rs88 }
def fe89 : FE := { f := 89, N := 12, ac := ac89, rs := rs89 }
def fe90 : FE := { f := 90, N := 21, ac := ac90, rs := rs90 }
def fe91 : FE := { f := 91, N := 14, ac := ac91, rs := rs91 }
def fe92 : FE := { f := 92, N := 53, ac := ac92, rs := rs92 }
def fe93 : FE := { f := 93, N := 13, ac := ac93, rs := rs93 }
def fe94 : FE := { f := 94, N := 29, ac := ac94, rs := rs94 }
def fe95 : FE := { f := 95, N := 44, ac := ac95, rs := rs95 }
def fe96 : FE := { f := 96, N := 48, ac := ac96, rs := rs96 }
def fe97 : FE := { f := 97, N := 14, ac := ac97, rs := rs97, pub := true }
def fe98 : FE := { f := 98, N := 39, ac := ac98, rs := rs98, pub := true }
def fe99 : FE := { f := 99, N := 13, ac := ac99, rs := rs99 }
def fe100 : FE := { f := 100, N := 11, ac := ac100, rs := rs100, pub := true }
def fe101 : FE := { f := 101, N := 79, ac := ac101, rs := rs101 }
def fe102 : FE := { f := 102, N := 23, ac := ac102, rs := rs102 }
def fe108 : FE := { f := 108, N := 6, ac := ac108, rs := rs108 }
def fe109 : FE := { f := 109, N := 37, ac := ac109, rs := rs109 }
def fe110 : FE := { f := 110, N := 101, ac := ac110, rs := rs110 }
def fe111 : FE := { f := 111, N := 13, ac := ac111, rs := rs111 }
def fe112 : FE := { f := 112, N := 74, ac := ac112, rs := rs112 }
def fe113 : FE := { f := 113, N := 18, ac := ac113, rs := rs113 }
def fe114 : FE := { f := 114, N := 26, ac := ac114, rs := rs114 }
def fe115 : FE := { f := 115, N := 24, ac := ac115, rs := rs115 }
def fe116 : FE := { f := 116, N := 24, ac := ac116, rs := rs116 }
def fe117 : FE := { f := 117, N := 34, ac := ac117, rs := rs117 }
def fe118 : FE := { f := 118, N := 12, ac := ac118, rs := rs118 }
def fe119 : FE := { f := 119, N := 22, ac := ac119, rs := rs119 }
def fe120 : FE := { f := 120, N := 41, ac := ac120, rs := rs120 }
def fe122 : FE := { f := 122, N := 9, ac := ac122, rs := rs122 }
def fe123 : FE := { f := 123, N := 11, ac := ac123, rs := rs123 }
def fe124 : FE := { f := 124, N := 6, ac := ac124, rs := rs124 }
def fe125 : FE := { f := 125, N := 54, ac := ac125, rs := rs125 }
def fe126 : FE := { f := 126, N := 24, ac := ac126, rs := rs126 }
def fe127 : FE := { f := 127, N := 66, ac := ac127, rs := rs127 }
def fe128 : FE := { f := 128, N := 58, ac := ac128, rs := rs128 }
def fe129 : FE := { f := 129, N := 17, ac := ac129, rs := rs129 }
def fe130 : FE := { f := 130, N := 78, ac := ac130, rs := rs130 }
def fe131 : FE := { f := 131, N := 42, ac := ac131, rs := rs131 }
def fe132 : FE := { f := 132, N := 7, ac := ac132, rs := rs132 }
def fe133 : FE := { f := 133, N := 8, ac := ac133, rs := rs133 }
def fe134 : FE := { f := 134, N := 26, ac := ac134, rs := rs134 }
def fe135 : FE := { f := 135, N := 17, ac := ac135, rs := rs135 }
def fe138 : FE := { f := 138, N := 50, ac := ac138, rs := rs138 }
def fe139 : FE := { f := 139, N := 30, ac := ac139, rs := rs139 }
def fe140 : FE := { f := 140, N := 31, ac := ac140, rs := rs140 }
def fe141 : FE := { f := 141, N := 10, ac := ac141, rs := rs141 }
def fe142 : FE := { f := 142, N := 91, ac := ac142, rs := rs142 }
def fe143 : FE := { f := 143, N := 29, ac := ac143, rs := rs143 }
def fe147 : FE := { f := 147, N := 26, ac := ac147, rs := rs147 }
def fe148 : FE := { f := 148, N := 14, ac := ac148, rs := rs148 }
def fe150 : FE := { f := 150, N := 8, ac := ac150, rs := rs150 }
def fe160 : FE := { f := 160, N := 37, ac := ac160, rs := rs160 }
def fe161 : FE := { f := 161, N := 145, ac := ac161, rs := rs161, pub := true }
def fe163 : FE := { f := 163, N := 9, ac := ac163, rs := rs163 }
def fe171 : FE := { f := 171, N := 40, ac := ac171, rs := rs171, pub := true }
def fe172 : FE := { f := 172, N := 9, ac := ac172, rs := rs172 }
def fe174 : FE := { f := 174, N := 57, ac := ac174, rs := rs174, pub := true }
def fe175 : FE := { f := 175, N := 56, ac := ac175, rs := rs175, pub := true }
def fe176 : FE := { f := 176, N := 62, ac := ac176, rs := rs176 }
def fe177 : FE := { f := 177, N := 26, ac := ac177, rs := rs177, pub := true }
def fe189 : FE := { f := 189, N := 18, ac := ac189, rs := rs189 }
def fe190 : FE := { f := 190, N := 69, ac := acA190, rs := rs190, d := some { qs := qs190, x := 8, B := acB190, g := 205, N := 35, t := 4, ac := ac205 } }
def fe191 : FE := { f := 191, N := 14, ac := ac191, rs := rs191 }
def fe194 : FE := { f := 194, N := 35, ac := ac194, rs := rs194 }
def fe196 : FE := { f := 196, N := 24, ac := ac196, rs := rs196 }
def fe200 : FE := { f := 200, N := 8, ac := ac200, rs := rs200 }
def fe206 : FE := { f := 206, N := 22, ac := ac206, rs := rs206 }
def fe208 : FE := { f := 208, N := 60, ac := ac208, rs := rs208 }
def fe209 : FE := { f := 209, N := 15, ac := ac209, rs := rs209 }
def fe211 : FE := { f := 211, N := 3, ac := ac211, rs := rs211 }
def fe212 : FE := { f := 212, N := 109, ac := ac212, rs := rs212 }
def fe213 : FE := { f := 213, N := 31, ac := ac213, rs := rs213 }
def fe214 : FE := { f := 214, N := 14, ac := ac214, rs := rs214 }
def fe215 : FE := { f := 215, N := 15, ac := ac215, rs := rs215 }
def fe216 : FE := { f := 216, N := 100, ac := ac216, rs := rs216 }
def fe218 : FE := { f := 218, N := 12, ac := ac218, rs := rs218 }
def fe219 : FE := { f := 219, N := 50, ac := ac219, rs := rs219 }
def fe221 : FE := { f := 221, N := 34, ac := ac221, rs := rs221 }
def fe222 : FE := { f := 222, N := 66, ac := ac222, rs := rs222 }
def fe224 : FE := { f := 224, N := 21, ac := ac224, rs := rs224 }
def fe230 : FE := { f := 230, N := 45, ac := ac230, rs := rs230 }
def fe233 : FE := { f := 233, N := 36, ac := ac233, rs := rs233 }
def fe234 : FE := { f := 234, N := 9, ac := ac234, rs := rs234 }
def fe235 : FE := { f := 235, N := 149, ac := acA235, rs := rs235, d := some { qs := qs235, x := 17, B := acB235, g := 241, N := 18, t := 6, ac := ac241 }, pub := true }
def fe242 : FE := { f := 242, N := 6, ac := ac242, rs := rs242 }
def fe280 : FE := { f := 280, N := 28, ac := ac280, rs := rs280 }
def fe293 : FE := { f := 293, N := 50, ac := ac293, rs := rs293, pub := true }
def fe294 : FE := { f := 294, N := 50, ac := ac294, rs := rs294 }
def fe295 : FE := { f := 295, N := 5, ac := ac295, rs := rs295 }
def fe296 : FE := { f := 296, N := 11, ac := ac296, rs := rs296 }
def auTbl : List FE := [fe3, fe4, fe5, fe6, fe7, fe8, fe9, fe10, fe11, fe12, fe13, fe14, fe15, fe16, fe17, fe18, fe19, fe20, fe21, fe22, fe23, fe24, fe25, fe26, fe28, fe30, fe31, fe32, fe33, fe34, fe35, fe36, fe37, fe38, fe39, fe40, fe41, fe42, fe43, fe44, fe45, fe46, fe47, fe48, fe49, fe50, fe51, fe52, fe53, fe54, fe55, fe56, fe57, fe58, fe64, fe68, fe69, fe70, fe71, fe72, fe73, fe74, fe75, fe80, fe81, fe82, fe83, fe84, fe85, fe86, fe87, fe88, fe89, fe90, fe91, fe92, fe93, fe94, fe95, fe96, fe97, fe98, fe99, fe100, fe101, fe102, fe108, fe109, fe110, fe111, fe112, fe113, fe114, fe115, fe116, fe117, fe118, fe119, fe120, fe122, fe123, fe124, fe125, fe126, fe127, fe128, fe129, fe130, fe131, fe132, fe133, fe134, fe135, fe138, fe139, fe140, fe141, fe142, fe143, fe147, fe148, fe150, fe160, fe161, fe163, fe171, fe172, fe174, fe175, fe176, fe177, fe189, fe190, fe191, fe194, fe196, fe200, fe206, fe208, fe209, fe211, fe212, fe213, fe214, fe215, fe216, fe218, fe219, fe221, fe222, fe224, fe230, fe233, fe234, fe235, fe242, fe280, fe293, fe294, fe295, fe296]
def auRt : List RE := [⟨200, [52, 53], rfA200, rfB200⟩, ⟨220, [21, 22], rfA220, rfB220⟩, ⟨390, [10, 11], rfA390, rfB390⟩, ⟨420, [76, 77], rfA420, rfB420⟩, ⟨520, [10, 11], rfA520, rfB520⟩, ⟨1380, [42, 43], rfA1380, rfB1380⟩]
theorem auOk : okAll Tryz.prog auTbl := ⟨ok3, ok4, ok5, ok6, ok7, ok8, ok9, ok10, ok11, ok12, ok13, ok14, ok15, ok16, ok17, ok18, ok19, ok20, ok21, ok22, ok23, ok24, ok25, ok26, ok28, ok30, ok31, ok32, ok33, ok34, ok35, ok36, ok37, ok38, ok39, ok40, ok41, ok42, ok43, ok44, ok45, ok46, ok47, ok48, ok49, ok50, ok51, ok52, ok53, ok54, ok55, ok56, ok57, ok58, ok64, ok68, ok69, ok70, ok71, ok72, ok73, ok74, ok75, ok80, ok81, ok82, ok83, ok84, ok85, ok86, ok87, ok88, ok89, ok90, ok91, ok92, ok93, ok94, ok95, ok96, ok97, ok98, ok99, ok100, ok101, ok102, ok108, ok109, ok110, ok111, ok112, ok113, ok114, ok115, ok116, ok117, ok118, ok119, ok120, ok122, ok123, ok124, ok125, ok126, ok127, ok128, ok129, ok130, ok131, ok132, ok133, ok134, ok135, ok138, ok139, ok140, ok141, ok142, ok143, ok147, ok148, ok150, ok160, ok161, ok163, ok171, ok172, ok174, ok175, ok176, ok177, ok189, ⟨ok190, ok205⟩, ok191, ok194, ok196, ok200, ok206, ok208, ok209, ok211, ok212, ok213, ok214, ok215, ok216, ok218, ok219, ok221, ok222, ok224, ok230, ok233, ok234, ⟨ok235, ok241⟩, ok242, ok280, ok293, ok294, ok295, ok296, trivial⟩
theorem rf20 : ac20.rfAll Tryz.prog := by
 simp only [ac20, AC.rfAll, true_and, and_true]
 exact ⟨at200, rfl, rfl⟩
theorem rf22 : ac22.rfAll Tryz.prog := by
 simp only [ac22, AC.rfAll, true_and, and_true]
 exact ⟨at220, rfl, rfl⟩
theorem rf39 : ac39.rfAll Tryz.prog := by
 simp only [ac39, AC.rfAll, true_and, and_true]
 exact ⟨at390, rfl, rfl⟩
theorem rf42 : ac42.rfAll Tryz.prog := by
 simp only [ac42, AC.rfAll, true_and, and_true]
 exact ⟨at420, rfl, rfl⟩
theorem rf52 : ac52.rfAll Tryz.prog := by
 simp only [ac52, AC.rfAll, true_and, and_true]
 exact ⟨at520, rfl, rfl⟩
theorem rf138 : ac138.rfAll Tryz.prog := by
 simp only [ac138, AC.rfAll, true_and, and_true]
 exact ⟨at1380, rfl, rfl⟩
theorem auRf : rfTbl Tryz.prog auTbl := ⟨FE.rfAll_of rfl, FE.rfAll_of rfl, FE.rfAll_of rfl, FE.rfAll_of rfl, FE.rfAll_of rfl, FE.rfAll_of rfl, FE.rfAll_of rfl, FE.rfAll_of rfl, FE.rfAll_of rfl, FE.rfAll_of rfl, FE.rfAll_of rfl, FE.rfAll_of rfl, FE.rfAll_of rfl, FE.rfAll_of rfl, FE.rfAll_of rfl, FE.rfAll_of rfl, FE.rfAll_of rfl, ⟨rf20, trivial⟩, FE.rfAll_of rfl, ⟨rf22, trivial⟩, FE.rfAll_of rfl, FE.rfAll_of rfl, FE.rfAll_of rfl, FE.rfAll_of rfl, FE.rfAll_of rfl, FE.rfAll_of rfl, FE.rfAll_of rfl, FE.rfAll_of rfl, FE.rfAll_of rfl, FE.rfAll_of rfl, FE.rfAll_of rfl, FE.rfAll_of rfl, FE.rfAll_of rfl, FE.rfAll_of rfl, ⟨rf39, trivial⟩, FE.rfAll_of rfl, FE.rfAll_of rfl, ⟨rf42, trivial⟩, FE.rfAll_of rfl, FE.rfAll_of rfl, FE.rfAll_of rfl, FE.rfAll_of rfl, FE.rfAll_of rfl, FE.rfAll_of rfl, FE.rfAll_of rfl, FE.rfAll_of rfl, FE.rfAll_of rfl, ⟨rf52, trivial⟩, FE.rfAll_of rfl, FE.rfAll_of rfl, FE.rfAll_of rfl, FE.rfAll_of rfl, FE.rfAll_of rfl, FE.rfAll_of rfl, FE.rfAll_of rfl, FE.rfAll_of rfl, FE.rfAll_of rfl, FE.rfAll_of rfl, FE.rfAll_of rfl, FE.rfAll_of rfl, FE.rfAll_of rfl, FE.rfAll_of rfl, FE.rfAll_of rfl, FE.rfAll_of rfl, FE.rfAll_of rfl, FE.rfAll_of rfl, FE.rfAll_of rfl, FE.rfAll_of rfl, FE.rfAll_of rfl, FE.rfAll_of rfl, FE.rfAll_of rfl, FE.rfAll_of rfl, FE.rfAll_of rfl, FE.rfAll_of rfl, FE.rfAll_of rfl, FE.rfAll_of rfl, FE.rfAll_of rfl, FE.rfAll_of rfl, FE.rfAll_of rfl, FE.rfAll_of rfl, FE.rfAll_of rfl, FE.rfAll_of rfl, FE.rfAll_of rfl, FE.rfAll_of rfl, FE.rfAll_of rfl, FE.rfAll_of rfl, FE.rfAll_of rfl, FE.rfAll_of rfl, FE.rfAll_of rfl, FE.rfAll_of rfl, FE.rfAll_of rfl, FE.rfAll_of rfl, FE.rfAll_of rfl, FE.rfAll_of rfl, FE.rfAll_of rfl, FE.rfAll_of rfl, FE.rfAll_of rfl, FE.rfAll_of rfl, FE.rfAll_of rfl, FE.rfAll_of rfl, FE.rfAll_of rfl, FE.rfAll_of rfl, FE.rfAll_of rfl, FE.rfAll_of rfl, FE.rfAll_of rfl, FE.rfAll_of rfl, FE.rfAll_of rfl, FE.rfAll_of rfl, FE.rfAll_of rfl, FE.rfAll_of rfl, FE.rfAll_of rfl, FE.rfAll_of rfl, FE.rfAll_of rfl, ⟨rf138, trivial⟩, FE.rfAll_of rfl, FE.rfAll_of rfl, FE.rfAll_of rfl, FE.rfAll_of rfl, FE.rfAll_of rfl, FE.rfAll_of rfl, FE.rfAll_of rfl, FE.rfAll_of rfl, FE.rfAll_of rfl, FE.rfAll_of rfl, FE.rfAll_of rfl, FE.rfAll_of rfl, FE.rfAll_of rfl, FE.rfAll_of rfl, FE.rfAll_of rfl, FE.rfAll_of rfl, FE.rfAll_of rfl, FE.rfAll_of rfl, FE.rfAll_of rfl, FE.rfAll_of rfl, FE.rfAll_of rfl, FE.rfAll_of rfl, FE.rfAll_of rfl, FE.rfAll_of rfl, FE.rfAll_of rfl, FE.rfAll_of rfl, FE.rfAll_of rfl, FE.rfAll_of rfl, FE.rfAll_of rfl, FE.rfAll_of rfl, FE.rfAll_of rfl, FE.rfAll_of rfl, FE.rfAll_of rfl, FE.rfAll_of rfl, FE.rfAll_of rfl, FE.rfAll_of rfl, FE.rfAll_of rfl, FE.rfAll_of rfl, FE.rfAll_of rfl, FE.rfAll_of rfl, FE.rfAll_of rfl, FE.rfAll_of rfl, FE.rfAll_of rfl, FE.rfAll_of rfl, FE.rfAll_of rfl, FE.rfAll_of rfl, FE.rfAll_of rfl, trivial⟩
theorem auRt_ok : rtAll Tryz.prog auRt := ⟨⟨at200, rfl, rfl⟩, ⟨at220, rfl, rfl⟩, ⟨at390, rfl, rfl⟩, ⟨at420, rfl, rfl⟩, ⟨at520, rfl, rfl⟩, ⟨at1380, rfl, rfl⟩, trivial⟩
end Go.Proofs

namespace Go.Eng
open Go
variable [Globs]

theorem Rel.pubK {M : Mem} {μ : Pos} {H : Heap} {w : World} (R : Rel M μ H w) (k : Nat) {ds : List AV} (hk : H.get k = .cells ds) (hdata : ∀ c ∈ ds, noLoc c = true) :
 ∃ M', Rel M' μ (H.set k .dead) w ∧ (∀ c v, relV M c μ v → relV M' (pubV k ds c) μ v) ∧ ∀ n, Grow n M μ H w M' μ (H.set k .dead) w := by
 obtain ⟨b, sz, c, el, fz, h1, h2, h3, h4, h5⟩ := R.cells k ds hk
 let M' : Mem := fun b' o => if b' = b then c[o]? else M b' o
 have hne : H.get k ≠ .dead := by rw [hk]; simp
 have hM : Mem.le M M' := fun b' o v hv => by
  simp only [M']
  split
  · rename_i e; rw [e, R.apart k b sz hne h1 o] at hv; cases hv
  · exact hv
 have h6 : relP M Pos.none ds c.toList := relP_data ds hdata h5
 have hd : ∀ o, relM M' (ds.drop o) b o := fun o => relM_of_get fun i d hi => by
  rw [List.getElem?_drop] at hi
  obtain ⟨v, hv, hr⟩ := relP_get h6 hi
  exact ⟨v, by simp only [M', if_true]; simpa using hv, relV_mono hM _ (Pos.le_refl _) hr⟩
 obtain ⟨R0, own⟩ := R.kill k (fun es h => by rw [hk] at h; cases h)
 have alive : ∀ j, (H.set k .dead).get j ≠ .dead → H.get j ≠ .dead ∧ j ≠ k := fun j hj => by
  rw [Heap.get_set] at hj
  split at hj
  · exact absurd rfl hj
  · rename_i h; exact ⟨hj, Ne.symm h⟩
 refine ⟨M', ⟨R0.glob.mono hM, R0.dom, R0.top, fun j cs hj => ?_, fun j es hj => ?_, R0.walks_same hM (fun j k' left cur hj => ⟨hj, fun h => h⟩) (Pos.le_refl _) (fun _ _ _ => rfl), R0.recs_same hM (fun j st id fr hj => hj) (Pos.le_refl _) (fun _ _ _ => rfl), R0.inj, fun b' o v hv => ?_, fun j b' s hj hx o => ?_⟩, fun c v h => relV_pub hM h1 hd c h,
  fun n => ⟨hM, fun _ _ => rfl, Keep.refl _ _, fun x hx => .inl (own x hx), fun b' o v hv => ?_⟩⟩
 · obtain ⟨b2, sz2, c2, el2, fz2, g1, g2, g3, g4, g5⟩ := R0.cells j cs hj
   exact ⟨b2, sz2, c2, el2, fz2, g1, g2, g3, g4, relP_mono hM (Pos.le_refl _) _ g5⟩
 · obtain ⟨b2, sz2, ents, clock, g1, g2, g3, g4⟩ := R0.maps j es hj
   exact ⟨b2, sz2, ents, clock, g1, g2, relE_mono hM (Pos.le_refl _) g3, g4⟩
 · simp only [M'] at hv
   split at hv
   · rename_i e; subst e
     simp only [World.cell?, h2]; simpa using hv
   · exact R.imm b' o v hv
 · have hj' := alive j hj
   have hne' : b' ≠ b := fun e => by subst e; exact hj'.2 (R.inj j k b' s sz hj'.1 hne hx h1)
   simp only [M']; rw [if_neg hne']; exact R.apart j b' s hj'.1 hx o
 · simp only [M'] at hv
   split at hv
   · rename_i e; exact .inr (.inl ⟨k, sz, hne, by rw [e]; exact h1⟩)
   · exact .inl hv
theorem CallA.pubK {P : Program} {f : FuncId} {args : List AV} {H : Heap} {K : AV → Heap → Prop} (k : Nat) {ds : List AV} (hk : H.get k = .cells ds) (hdata : ∀ c ∈ ds, noLoc c = true) (h : CallA P f (pubL k ds args) (H.set k .dead) K) : CallA P f args H K := by
 refine ⟨h.ok, fun M μ w vs R hv => ?_⟩
 obtain ⟨M', R', hV, G⟩ := R.pubK k hk hdata
 have hl : ∀ {cs : List AV} {us : List Value}, relL M cs μ us → relL M' (pubL k ds cs) μ us := by
  intro cs
  induction cs with
  | nil => intro us h; simpa only [pubL, relL] using h
  | cons c cs ih => intro us h; simp only [pubL, relL] at h ⊢; obtain ⟨v, r, h1, h2, h3⟩ := h; exact ⟨v, r, h1, hV c v h2, ih h3⟩
 exact (h.run M' μ w vs R' (hl hv)).mono fun e w' ⟨v, M2, μ2, H2, c, h1, h2, h3, ⟨h4, h5, h6⟩, h7⟩ => ⟨v, M2, μ2, H2, c, h1, h2, h3, ⟨h4, (G H.nx).trans h5, h6⟩, h7⟩
def locsV : Nat → AV → List Nat → List Nat
 | 0, _, l => l
 | n + 1, v, l => match v with
  | .slice k _ _ _ _ => consN k l
  | .ptr k _ => consN k l
  | .agg cs => List.foldr (locsV n) l cs
  | .tuple cs => List.foldr (locsV n) l cs
  | _ => l
def locsL (vs : List AV) : List Nat := List.foldr (locsV 4) [] vs
def pubArgs : List Nat → List AV → EH → Option (List AV × EH)
 | [], vs, T => some (vs, T)
 | k :: ks, vs, T => match T.get k with
  | .cells ds => bif noLocL ds then (match T.put k .dead with
   | some T' => pubArgs ks (pubL k ds vs) T'
   | none => none) else none
  | _ => none
theorem pubArgs_run {P : Program} : ∀ {ks : List Nat} {vs vs' : List AV} {T T' : EH} {H : Heap}, pubArgs ks vs T = some (vs', T') → RepH T H → ∃ H', RepH T' H' ∧ ∀ (f : FuncId) (K : AV → Heap → Prop), CallA P f vs' H' K → CallA P f vs H K
 | [], vs, vs', T, T', H, h, R => by simp only [pubArgs] at h; cases h; exact ⟨H, R, fun _ _ h => h⟩
 | k :: ks, vs, vs', T, T', H, h, R => by
  simp only [pubArgs] at h
  split at h
  · rename_i ds hg
    cases hb : noLocL ds <;> simp only [hb, cond_true, cond_false] at h
    · cases h
    · split at h
      · rename_i T1 h1
        obtain ⟨H', R', hK⟩ := pubArgs_run h (R.put h1)
        exact ⟨H', R', fun f K hk => CallA.pubK k (by rw [R.get]; exact hg) (noLocL_all hb) (hK f K hk)⟩
      · cases h
  · cases h
def ovP (pf : FuncId) (inner ov : CallE) : CallE := fun f vs T => bif Nat.beq f pf then (match pubArgs (locsL vs) vs T with
 | some (vs', T') => inner f vs' T'
 | none => none) else ov f vs T
theorem ovP_ok {P : Program} {pf : FuncId} {inner ov : CallE} (hi : CallOK P inner) (ho : CallOK P ov) : CallOK P (ovP pf inner ov) := ⟨fun f vs T r T' h H R => by
 unfold ovP at h
 cases hb : Nat.beq f pf <;> simp only [hb, cond_true, cond_false] at h
 · exact ho.ok _ _ _ _ _ h H R
 · split at h
   · rename_i vs' T1 h1
     obtain ⟨H1, R1, hK⟩ := pubArgs_run (P := P) h1 R
     obtain ⟨H2, R2, hK2⟩ := hi.ok _ _ _ _ _ h H1 R1
     exact ⟨H2, R2, fun K hk => hK f K (hK2 K hk)⟩
   · cases h⟩
end Go.Eng

namespace Go.Eng
open Go
variable [Globs]

def btB : List UInt8 → List UInt8 → Bool
 | [], [] => true
 | a :: r, b :: s => Nat.beq a.toNat b.toNat && btB r s
 | _, _ => false
theorem btB_spec : ∀ {a b : List UInt8}, btB a b = true → a = b
 | [], [], _ => rfl
 | a :: r, b :: s, h => by
  simp only [btB, Bool.and_eq_true] at h
  have e : a = b := UInt8.toNat_inj.1 (Nat.eq_of_beq_eq_true h.1)
  rw [e, btB_spec h.2]
 | [], _ :: _, h => by simp [btB] at h
 | _ :: _, [], h => by simp [btB] at h
def intB : Int → Int → Bool
 | .ofNat a, .ofNat b => Nat.beq a b
 | .negSucc a, .negSucc b => Nat.beq a b
 | _, _ => false
theorem intB_spec : ∀ {a b : Int}, intB a b = true → a = b
 | .ofNat a, .ofNat b, h => by rw [Nat.eq_of_beq_eq_true h]
 | .negSucc a, .negSucc b, h => by rw [Nat.eq_of_beq_eq_true h]
 | .ofNat _, .negSucc _, h => by simp [intB] at h
 | .negSucc _, .ofNat _, h => by simp [intB] at h
def capB : Option Nat → Option Nat → Bool
 | none, none => true
 | some a, some b => Nat.beq a b
 | _, _ => false
theorem capB_spec : ∀ {a b : Option Nat}, capB a b = true → a = b
 | none, none, _ => rfl
 | some a, some b, h => by rw [Nat.eq_of_beq_eq_true h]
 | none, some _, h => by simp [capB] at h
 | some _, none, h => by simp [capB] at h
def allB (f : AV → AV → Bool) : List AV → List AV → Bool
 | [], [] => true
 | a :: r, b :: s => f a b && allB f r s
 | _, _ => false
theorem allB_spec {f : AV → AV → Bool} (hf : ∀ a b, f a b = true → a = b) : ∀ {a b : List AV}, allB f a b = true → a = b
 | [], [], _ => rfl
 | a :: r, b :: s, h => by
  simp only [allB, Bool.and_eq_true] at h
  rw [hf a b h.1, allB_spec hf h.2]
 | [], _ :: _, h => by simp [allB] at h
 | _ :: _, [], h => by simp [allB] at h
def avB : Nat → AV → AV → Bool
 | 0, _, _ => false
 | n + 1, a, b => match a, b with
  | .int j x, .int k y => (if j = k then true else false) && intB x y
  | .bool x, .bool y => x == y
  | .str x, .str y => btB x.data.toList y.data.toList
  | .nils, .nils => true
  | .nilp, .nilp => true
  | .nili, .nili => true
  | .nilf, .nilf => true
  | .nilm, .nilm => true
  | .dslice cs l c, .dslice ds m d => Nat.beq l m && capB c d && allB (avB n) cs ds
  | .agg cs, .agg ds => allB (avB n) cs ds
  | .tuple cs, .tuple ds => allB (avB n) cs ds
  | _, _ => false
theorem avB_spec : ∀ (n : Nat) (a b : AV), avB n a b = true → a = b
 | 0, _, _, h => by simp [avB] at h
 | n + 1, a, b, h => by
  have ih := avB_spec n
  unfold avB at h
  split at h <;> try simp only [Bool.and_eq_true, beq_iff_eq] at h
  · obtain ⟨h1, h2⟩ := h
    split at h1
    · rename_i e; rw [e, intB_spec h2]
    · cases h1
  · rw [h]
  · have := btB_spec h
    congr 1
    exact ByteArray.ext (Array.ext' this)
  · rfl
  · rfl
  · rfl
  · rfl
  · rfl
  · obtain ⟨⟨h1, h2⟩, h3⟩ := h
    rw [Nat.eq_of_beq_eq_true h1, capB_spec h2, allB_spec ih h3]
  · rw [allB_spec ih h]
  · rw [allB_spec ih h]
  · cases h
abbrev MemE := FuncId × List AV × AV
def memF : List MemE → FuncId → List AV → Option AV
 | [], _, _ => none
 | (g, qa, r) :: l, f, vs => bif Nat.beq f g && allB (avB 12) vs qa then some r else memF l f vs
structure MemOk (P : Program) (e : MemE) : Prop where
 run : CallA P e.1 e.2.1 Heap.nil fun v H' => v = e.2.2 ∧ H' = Heap.nil
 arg : noLocL e.2.1 = true
 res : noLoc e.2.2 = true
def memOk (P : Program) : List MemE → Prop
 | [] => True
 | e :: r => MemOk P e ∧ memOk P r
theorem memF_run {P : Program} : ∀ {l : List MemE} {f : FuncId} {vs : List AV} {r : AV}, memOk P l → memF l f vs = some r → ∀ (H : Heap) (K : AV → Heap → Prop), K r H → CallA P f vs H K
 | [], _, _, _, _, h => by simp [memF] at h
 | (g, qa, r0) :: l, f, vs, r, hm, h => by
  intro H K hk
  simp only [memF] at h
  cases hb : (Nat.beq f g && allB (avB 12) vs qa) <;> simp only [hb, cond_true, cond_false] at h
  · exact memF_run hm.2 h H K hk
  · cases h
    simp only [Bool.and_eq_true] at hb
    have e1 := Nat.eq_of_beq_eq_true hb.1
    have e2 := allB_spec (avB_spec 12) hb.2
    subst e1; subst e2
    exact CallA.pure hm.1.run hm.1.arg hm.1.res hk
def ovM (l : List MemE) (ov : CallE) : CallE := fun f vs T => match memF l f vs with
 | some r => some (r, T)
 | none => ov f vs T
theorem ovM_ok {P : Program} {l : List MemE} {ov : CallE} (hm : memOk P l) (ho : CallOK P ov) : CallOK P (ovM l ov) := ⟨fun f vs T r T' h H R => by
 unfold ovM at h
 split at h
 · rename_i r' hr; cases h
   exact ⟨H, R, fun K hk => memF_run hm hr H K hk⟩
 · exact ho.ok _ _ _ _ _ h H R⟩
end Go.Eng

namespace Go.Proofs
open Go Go.Eng
set_option maxRecDepth 100000
set_option maxHeartbeats 2000000

def seqN {β : Type} (m : Nat) (K : Nat → β) : β := match m with
 | 0 => K 0
 | n + 1 => K (n + 1)
theorem seqN_eq {β : Type} (m : Nat) (K : Nat → β) : seqN m K = K m := by cases m <;> rfl
def words16 : List Nat → List Nat → List Nat
 | b0 :: b1 :: b2 :: b3 :: r, out => seqN (word b0 b1 b2 b3) fun w => words16 r (w :: out)
 | _, out => out
def extF : Nat → List Nat → List Nat
 | 0, r => r
 | n + 1, r => seqN (r.getD 14 0) fun p => seqN (r.getD 1 0) fun q => seqN ((((r.getD 15 0 + sg0 p) % 4294967296 + r.getD 6 0) % 4294967296 + sg1 q) % 4294967296) fun w => extF n (w :: r)
def roundsF : List Nat → List Nat → S8 → S8
 | k :: ks, w :: ws, s => seqN (t1N s k w) fun x => seqN ((x + t2N s) % 4294967296) fun a => seqN ((s.d + x) % 4294967296) fun e => roundsF ks ws ⟨a, s.a, s.b, s.c, e, s.e, s.f, s.g⟩
 | _, _, s => s
def revF : List Nat → List Nat → List Nat
 | [], o => o
 | a :: r, o => revF r (a :: o)
def compF (s : S8) (bs : List Nat) : S8 := s.add (roundsF KS (revF (extF 48 (words16 bs [])) []) s)
theorem revF_eq : ∀ (l o : List Nat), revF l o = l.reverse ++ o
 | [], o => rfl
 | a :: r, o => by rw [revF, revF_eq r]; simp
theorem words16_eq {bs : List Nat} : ∀ (n t : Nat), t + n = 16 → bs.length = 64 → words16 (bs.drop (4 * t)) (sched bs t).reverse = (sched bs 16).reverse
 | 0, t, h, hl => by
  have : t = 16 := by omega
  subst this
  rw [List.drop_eq_nil_of_le (by omega)]; rfl
 | n + 1, t, h, hl => by
  have e : bs.drop (4 * t) = bs.getD (4 * t) 0 :: bs.getD (4 * t + 1) 0 :: bs.getD (4 * t + 2) 0 :: bs.getD (4 * t + 3) 0 :: bs.drop (4 * (t + 1)) := by
   have st : ∀ i, i < bs.length → bs.drop i = bs.getD i 0 :: bs.drop (i + 1) := fun i hi => by
    rw [List.drop_eq_getElem_cons hi]; congr 1
    simp [List.getD_eq_getElem?_getD, List.getElem?_eq_getElem hi]
   rw [st (4 * t) (by omega), st (4 * t + 1) (by omega), st (4 * t + 2) (by omega), st (4 * t + 3) (by omega)]; rfl
  rw [e, words16, seqN_eq]
  have : (word (bs.getD (4 * t) 0) (bs.getD (4 * t + 1) 0) (bs.getD (4 * t + 2) 0) (bs.getD (4 * t + 3) 0)) :: (sched bs t).reverse = (sched bs (t + 1)).reverse := by
   show _ = (sched bs t ++ [nxt bs (sched bs t) t]).reverse
   rw [List.reverse_append]; unfold nxt; rw [if_pos (by omega)]; rfl
  rw [this]
  exact words16_eq n (t + 1) (by omega) hl
theorem getD_rev (l : List Nat) (i : Nat) (h : i < l.length) : l.reverse.getD i 0 = l.getD (l.length - 1 - i) 0 := by
 rw [List.getD_eq_getElem?_getD, List.getD_eq_getElem?_getD, List.getElem?_reverse h]
theorem extF_eq {bs : List Nat} : ∀ (n t : Nat), 16 ≤ t → extF n (sched bs t).reverse = (sched bs (t + n)).reverse
 | 0, t, _ => rfl
 | n + 1, t, h => by
  have sl := sched_len bs t
  have g : ∀ i, i < t → (sched bs t).reverse.getD i 0 = (sched bs t).getD (t - 1 - i) 0 := fun i hi => by rw [getD_rev _ _ (by omega), sl]
  simp only [extF, seqN_eq]
  rw [g 14 (by omega), g 1 (by omega), g 15 (by omega), g 6 (by omega)]
  have : ((((sched bs t).getD (t - 1 - 15) 0 + sg0 ((sched bs t).getD (t - 1 - 14) 0)) % 4294967296 + (sched bs t).getD (t - 1 - 6) 0) % 4294967296 + sg1 ((sched bs t).getD (t - 1 - 1) 0)) % 4294967296 :: (sched bs t).reverse = (sched bs (t + 1)).reverse := by
   show _ = (sched bs t ++ [nxt bs (sched bs t) t]).reverse
   rw [List.reverse_append]; unfold nxt; rw [if_neg (by omega)]; rfl
  rw [this, extF_eq n (t + 1) (by omega)]
  congr 2; omega
theorem roundsF_eq {ws : List Nat} (s : S8) (hw : ws.length = 64) : ∀ (n t : Nat), t + n = 64 → roundsF (KS.drop t) (ws.drop t) (rounds ws s t) = rounds ws s 64
 | 0, t, h => by
  have : t = 64 := by omega
  subst this
  rw [List.drop_eq_nil_of_le (by rw [ks_len]; omega), roundsF]
  intros; contradiction
 | n + 1, t, h => by
  have st : ∀ (l : List Nat) i, i < l.length → l.drop i = l.getD i 0 :: l.drop (i + 1) := fun l i hi => by
   rw [List.drop_eq_getElem_cons hi]; congr 1
   simp [List.getD_eq_getElem?_getD, List.getElem?_eq_getElem hi]
  rw [st KS t (by rw [ks_len]; omega), st ws t (by omega), roundsF]
  simp only [seqN_eq]
  exact roundsF_eq s hw n (t + 1) (by omega)
theorem words16_0 {bs : List Nat} (h : bs.length = 64) : words16 bs [] = (sched bs 16).reverse := words16_eq 16 0 rfl h
attribute [local irreducible] sched rounds roundsF extF words16 in
theorem compF_eq (s : S8) {bs : List Nat} (h : bs.length = 64) : compF s bs = compN s bs := by
 unfold compF compN
 rw [words16_0 h, extF_eq 48 16 (by omega), revF_eq, List.reverse_reverse, List.append_nil]
 have h2 := roundsF_eq s (sched_len bs 64) 64 0 rfl
 rw [List.drop_zero, List.drop_zero, rounds_zero] at h2
 rw [show 16 + 48 = 64 from rfl, h2]
def natsOf (k : IntKind) (b : Nat) : List AV → Option (List Nat)
 | [] => some []
 | .int j (.ofNat n) :: r => if j = k then bif Nat.blt n b then (match natsOf k b r with
  | some l => some (n :: l)
  | none => none) else none else none
 | _ => none
theorem natsOf_spec {k : IntKind} {b : Nat} : ∀ {l : List AV} {ns : List Nat}, natsOf k b l = some ns → l = ns.map (fun n : Nat => AV.int k (n : Int)) ∧ ∀ n ∈ ns, n < b
 | [], ns, h => by simp only [natsOf] at h; cases h; exact ⟨rfl, fun _ h => by cases h⟩
 | c :: r, ns, h => by
  cases c <;> try (simp [natsOf] at h; done)
  rename_i j n
  cases n with
  | negSucc m => simp [natsOf] at h
  | ofNat m =>
   simp only [natsOf] at h
   split at h
   · rename_i hj
     subst hj
     cases hb : Nat.blt m b <;> simp only [hb, cond_true, cond_false] at h
     · cases h
     · split at h
       · rename_i l hl
         cases h
         obtain ⟨h1, h2⟩ := natsOf_spec hl
         refine ⟨by rw [List.map_cons, ← h1]; rfl, fun n hn => ?_⟩
         rcases List.mem_cons.1 hn with rfl | hn
         · simpa [Nat.blt_eq] using hb
         · exact h2 n hn
       · cases h
   · cases h
def ov57 (vs : List AV) : Option AV := match vs with
 | [.agg s, .dslice b 64 _] => match natsOf .u32 4294967296 s with
  | some [a, bb, c, d, e, f, g, h] => match natsOf .u8 256 b with
   | some bs => bif Nat.beq bs.length 64 then (match compF ⟨a, bb, c, d, e, f, g, h⟩ bs with
    | ⟨a, b, c, d, e, f, g, h⟩ => seqN a fun a => seqN b fun b => seqN c fun c => seqN d fun d => seqN e fun e => seqN f fun f => seqN g fun g => seqN h fun h => some (.agg [.int .u32 (.ofNat a), .int .u32 (.ofNat b), .int .u32 (.ofNat c), .int .u32 (.ofNat d), .int .u32 (.ofNat e), .int .u32 (.ofNat f), .int .u32 (.ofNat g), .int .u32 (.ofNat h)])) else none
   | none => none
  | _ => none
 | _ => none
def ovH : CallE := fun f vs T => bif Nat.beq f 57 then (match ov57 vs with
 | some r => some (r, T)
 | none => none)
 else none
end Go.Proofs

namespace Go.Proofs
open Go Go.Eng
set_option maxRecDepth 100000
set_option maxHeartbeats 2000000

def seqL {β : Type} : List Nat → (List Nat → β) → β
 | [], K => K []
 | a :: r, K => seqN a fun a => seqL r fun r => K (a :: r)
theorem seqL_eq {β : Type} : ∀ (l : List Nat) (K : List Nat → β), seqL l K = K l
 | [], _ => rfl
 | a :: r, K => by rw [seqL, seqN_eq, seqL_eq r]
def frcS {β : Type} (s : S8) (K : S8 → β) : β := match s with
 | ⟨a, b, c, d, e, f, g, h⟩ => seqN a fun a => seqN b fun b => seqN c fun c => seqN d fun d => seqN e fun e => seqN f fun f => seqN g fun g => seqN h fun h => K ⟨a, b, c, d, e, f, g, h⟩
theorem frcS_eq {β : Type} (s : S8) (K : S8 → β) : frcS s K = K s := by
 unfold frcS; simp only [seqN_eq]
def frcT {β : Type} (σ : St) (K : St → β) : β := match σ with
 | ⟨s, b, n⟩ => seqN n fun n => seqL b fun b => frcS s fun s => K ⟨s, b, n⟩
theorem frcT_eq {β : Type} (σ : St) (K : St → β) : frcT σ K = K σ := by
 unfold frcT; simp only [seqN_eq, seqL_eq, frcS_eq]
def stepG (σ : St) (t : List Nat) : St := ⟨bif Nat.beq (σ.n % 64 + stepK σ t) 64 then compF σ.s (stepB σ t) else σ.s, stepB σ t, σ.n + stepK σ t⟩
attribute [local irreducible] compF compN in
theorem stepG_eq {σ : St} {t : List Nat} (h : σ.ok) (ht : ∀ x ∈ t, x < 256) : stepG σ t = stepF σ t := by
 have hl : (stepB σ t).length = 64 := (step_ok h ht).l
 unfold stepG stepF
 rw [compF_eq _ hl]
 by_cases e : σ.n % 64 + stepK σ t = 64
 · rw [if_pos e, e]; rfl
 · have : Nat.beq (σ.n % 64 + stepK σ t) 64 = false := by
    rw [Bool.eq_false_iff]; intro h; exact e (Nat.eq_of_beq_eq_true h)
   rw [if_neg e, this]; rfl
def addG : Nat → St → List Nat → St
 | 0, σ, _ => σ
 | f + 1, σ, t => match t with
  | [] => σ
  | x :: r => frcT (stepG σ (x :: r)) fun σ' => addG f σ' ((x :: r).drop (stepK σ (x :: r)))
theorem addG_eq : ∀ (f : Nat) (σ : St) (t : List Nat), σ.ok → (∀ x ∈ t, x < 256) → addG f σ t = addF f σ t
 | 0, _, _, _, _ => rfl
 | f + 1, σ, [], _, _ => by rw [addG, addF, if_pos rfl]
 | f + 1, σ, x :: r, h, ht => by
  rw [addG, frcT_eq, addF, if_neg (by simp), stepG_eq h ht]
  exact addG_eq f _ _ (step_ok h ht) fun y hy => ht y (List.mem_of_mem_drop hy)
def stOf (cs : List AV) : Option St := match natsOf .u32 4294967296 (cs.take 8) with
 | some [a, b, c, d, e, f, g, h] => match natsOf .u8 256 ((cs.drop 8).take 64) with
  | some bs => bif Nat.beq bs.length 64 then (match cs.drop 72 with
   | [.int .u64 (.ofNat n)] => bif Nat.ble n 80000 then some ⟨⟨a, b, c, d, e, f, g, h⟩, bs, n⟩ else none
   | _ => none) else none
  | none => none
 | _ => none
theorem stOf_spec {cs : List AV} {σ : St} (h : stOf cs = some σ) : cs = σ.av ∧ σ.ok ∧ σ.n ≤ 80000 := by
 unfold stOf at h
 split at h
 · rename_i a b c d e f g hh hs
   split at h
   · rename_i bs hb
     cases hl : Nat.beq bs.length 64 <;> simp only [hl, cond_true, cond_false] at h
     · cases h
     · split at h
       · rename_i n hd
         cases hn : Nat.ble n 80000 <;> simp only [hn, cond_true, cond_false] at h
         · cases h
         · cases h
           obtain ⟨e1, h1⟩ := natsOf_spec hs
           obtain ⟨e2, h2⟩ := natsOf_spec hb
           have hl := Nat.eq_of_beq_eq_true hl
           refine ⟨?_, ⟨⟨h1 _ (by simp), h1 _ (by simp), h1 _ (by simp), h1 _ (by simp), h1 _ (by simp), h1 _ (by simp), h1 _ (by simp), h1 _ (by simp)⟩, hl, h2⟩, Nat.le_of_ble_eq_true hn⟩
           have e3 : cs = cs.take 8 ++ ((cs.drop 8).take 64 ++ cs.drop 72) := by
            rw [show cs.drop 72 = (cs.drop 8).drop 64 by rw [List.drop_drop], List.take_append_drop, List.take_append_drop]
           rw [e3, e1, e2, hd]; rfl
       · cases h
   · cases h
 · cases h
def forceL {β : Type} : List AV → (List AV → Option β) → Option β
 | [], K => K []
 | c :: r, K => fvE c fun c => forceL r fun r => K (c :: r)
theorem forceL_eq {β : Type} : ∀ (l : List AV) (K : List AV → Option β), forceL l K = K l
 | [], _ => rfl
 | c :: r, K => by rw [forceL, fvE_eq, forceL_eq r]
def btOf (s : ByteArray) : List Nat := s.data.toList.map fun x => x.toNat
theorem btOf_lt (s : ByteArray) : ∀ x ∈ btOf s, x < 256 := by
 intro x hx
 obtain ⟨y, _, rfl⟩ := List.mem_map.1 hx
 exact y.toNat_lt
theorem txt_btOf (s : ByteArray) : txt (btOf s) = s := by
 obtain ⟨⟨l⟩⟩ := s
 unfold txt btOf
 simp only [List.map_map]
 have : l.map (UInt8.ofNat ∘ fun x => x.toNat) = l := by
  rw [show (UInt8.ofNat ∘ fun x : UInt8 => x.toNat) = id from funext fun x => by simp]
  simp
 rw [this]
def ovAdd (vs : List AV) : Option AV := match vs with
 | [.agg cs, .str s] => match stOf cs with
  | some σ => seqL (btOf s) fun t => bif Nat.ble t.length 10000 then forceL (addG t.length σ t).av fun cs' => some (.agg cs') else none
  | none => none
 | _ => none
def ovSum (vs : List AV) : Option AV := match vs with
 | [.agg cs] => match stOf cs with
  | some σ => forceL ((outN (addG (G.padO σ.n).length σ (G.padO σ.n)).s).map B) fun cs' => some (.agg cs')
  | none => none
 | _ => none
theorem ovAdd_run {vs : List AV} {r : AV} (h : ovAdd vs = some r) {H : Heap} {K : AV → Heap → Prop} (hk : K r H) : CallA Tryz.prog 27 vs H K := by
 unfold ovAdd at h
 split at h
 · rename_i cs s
   split at h
   · rename_i σ hσ
     obtain ⟨rfl, ho, hn⟩ := stOf_spec hσ
     rw [seqL_eq] at h
     cases hb : Nat.ble (btOf s).length 10000 <;> simp only [hb, cond_true, cond_false] at h
     · cases h
     · rw [forceL_eq, addG_eq _ _ _ ho (btOf_lt s)] at h
       cases h
       have hb := Nat.le_of_ble_eq_true hb
       have hc := c52 σ (btOf s) ho (btOf_lt s) (by omega)
       rw [txt_btOf] at hc
       exact CallA.pure hc (by simp [noLocL, noLoc, noLocL_av]) (noLocL_av _) hk
   · cases h
 · cases h
theorem ovSum_run {vs : List AV} {r : AV} (h : ovSum vs = some r) {H : Heap} {K : AV → Heap → Prop} (hk : K r H) : CallA Tryz.prog 29 vs H K := by
 unfold ovSum at h
 split at h
 · rename_i cs
   split at h
   · rename_i σ hσ
     obtain ⟨rfl, ho, hn⟩ := stOf_spec hσ
     rw [forceL_eq, addG_eq _ _ _ ho (G.padO_lt _)] at h
     cases h
     exact CallA.pure (G.c54 σ ho (by omega)) (by simp [noLocL, noLoc, noLocL_av]) (noLocL_bs _) hk
   · cases h
 · cases h
def ovI : CallE := fun f vs T => bif Nat.beq f 27 then (match ovAdd vs with
 | some r => some (r, T)
 | none => none)
 else bif Nat.beq f 29 then (match ovSum vs with
  | some r => some (r, T)
  | none => none)
 else none
theorem ovI_ok : CallOK Tryz.prog ovI := ⟨fun f vs T r T' h H R => by
 unfold ovI at h
 cases h1 : Nat.beq f 27 <;> simp only [h1, cond_true, cond_false] at h
 · cases h2 : Nat.beq f 29 <;> simp only [h2, cond_true, cond_false] at h
   · cases h
   · have := Nat.eq_of_beq_eq_true h2; subst this
     split at h
     · rename_i r' hr; cases h
       exact ⟨H, R, fun K hk => ovSum_run hr hk⟩
     · cases h
 · have := Nat.eq_of_beq_eq_true h1; subst this
   split at h
   · rename_i r' hr; cases h
     exact ⟨H, R, fun K hk => ovAdd_run hr hk⟩
   · cases h⟩
end Go.Proofs

set_option maxRecDepth 1000000
set_option maxHeartbeats 0
namespace Go.Proofs
open Go Go.Eng
def mm0a : List AV := [.agg [.int .i64 (0), .int .i64 (1), .dslice [.int .i64 (0), .str ⟨#[65, 0, 64, 64, 32, 0, 64, 188, 1, 0, 68, 64, 32, 0, 64, 188]⟩] 1 (some 1), .nils]]
def mm0r : AV := .agg [.int .u8 (248), .int .u8 (143), .int .u8 (109), .int .u8 (127), .int .u8 (4), .int .u8 (168), .int .u8 (143), .int .u8 (29), .int .u8 (41), .int .u8 (227), .int .u8 (250), .int .u8 (209), .int .u8 (174), .int .u8 (184), .int .u8 (153), .int .u8 (142)]
theorem mm0 : CallA Tryz.prog 17 mm0a Heap.nil fun v H' => v = mm0r ∧ H' = Heap.nil := CallA.computedR ovI_ok auOk auRf auRt_ok 1000 60 (by kernel_rfl)
end Go.Proofs

set_option maxRecDepth 1000000
set_option maxHeartbeats 0
namespace Go.Proofs
open Go Go.Eng
def mm1a : List AV := [.agg [.int .u8 (248), .int .u8 (143), .int .u8 (109), .int .u8 (127), .int .u8 (4), .int .u8 (168), .int .u8 (143), .int .u8 (29), .int .u8 (41), .int .u8 (227), .int .u8 (250), .int .u8 (209), .int .u8 (174), .int .u8 (184), .int .u8 (153), .int .u8 (142), .int .i64 (1), .dslice [.int .i64 (1), .int .i64 (0), .int .i64 (0), .int .i64 (2), .str ⟨#[]⟩, .int .i64 (1), .int .i64 (0), .int .i64 (2), .int .i64 (2), .str ⟨#[]⟩] 2 none, .dslice [.int .i64 (1), .int .u8 (76), .int .u8 (34), .int .u8 (15), .int .u8 (202), .int .u8 (73), .int .u8 (187), .int .u8 (124), .int .u8 (225), .int .u8 (204), .int .u8 (52), .int .u8 (12), .int .u8 (183), .int .u8 (192), .int .u8 (130), .int .u8 (238), .int .u8 (116), .int .u8 (27), .int .u8 (8), .int .u8 (145), .int .u8 (234), .int .u8 (92), .int .u8 (151), .int .u8 (84), .int .u8 (252), .int .u8 (243), .int .u8 (168), .int .u8 (243), .int .u8 (217), .int .u8 (103), .int .u8 (234), .int .u8 (234), .int .u8 (167), .int .i64 (2), .int .u8 (113), .int .u8 (2), .int .u8 (46), .int .u8 (159), .int .u8 (244), .int .u8 (223), .int .u8 (162), .int .u8 (18), .int .u8 (40), .int .u8 (124), .int .u8 (176), .int .u8 (227), .int .u8 (13), .int .u8 (67), .int .u8 (33), .int .u8 (98), .int .u8 (103), .int .u8 (210), .int .u8 (49), .int .u8 (202), .int .u8 (129), .int .u8 (59), .int .u8 (34), .int .u8 (22), .int .u8 (196), .int .u8 (110), .int .u8 (215), .int .u8 (3), .int .u8 (103), .int .u8 (0), .int .u8 (190), .int .u8 (52)] 2 none]]
def mm1r : AV := .int .i64 (0)
theorem mm1 : CallA Tryz.prog 42 mm1a Heap.nil fun v H' => v = mm1r ∧ H' = Heap.nil := CallA.computedR ovI_ok auOk auRf auRt_ok 1000 60 (by kernel_rfl)
end Go.Proofs

set_option maxRecDepth 1000000
set_option maxHeartbeats 0
namespace Go.Proofs
open Go Go.Eng
def mm2a : List AV := [.agg [.int .i64 (0), .int .i64 (1), .dslice [.int .i64 (0), .str ⟨#[65, 0, 64, 64, 32, 0, 64, 188, 1, 0, 68, 64, 32, 0, 64, 188]⟩] 1 (some 1), .nils], .int .i64 (1)]
def mm2r : AV := .tuple [.agg [.dslice [.int .u32 (0), .int .u32 (0), .int .u32 (0), .int .u32 (0), .int .u32 (0), .int .u32 (0), .int .u32 (0), .int .u32 (0), .int .u32 (0), .int .u32 (0), .int .u32 (0), .int .u32 (0), .int .u32 (0), .int .u32 (0), .int .u32 (0), .int .u32 (0), .int .u32 (0), .int .u32 (0), .int .u32 (0), .int .u32 (0), .int .u32 (0), .int .u32 (0), .int .u32 (0), .int .u32 (0), .int .u32 (0), .int .u32 (0), .bool false, .bool false, .bool false, .int .i64 (0)] 1 none, .dslice [.int .u8 (65), .int .u8 (0), .int .u8 (64), .int .u8 (64), .int .u8 (32), .int .u8 (0), .int .u8 (64), .int .u8 (188), .int .u8 (1), .int .u8 (0), .int .u8 (68), .int .u8 (64), .int .u8 (32), .int .u8 (0), .int .u8 (64), .int .u8 (188), .int .u8 (0), .int .u8 (0), .int .u8 (0), .int .u8 (0), .int .u8 (0), .int .u8 (0), .int .u8 (0), .int .u8 (0), .int .u8 (0), .int .u8 (0), .int .u8 (0), .int .u8 (0), .int .u8 (0), .int .u8 (0), .int .u8 (0), .int .u8 (0), .int .u8 (0), .int .u8 (0), .int .u8 (0), .int .u8 (0), .int .u8 (0), .int .u8 (0), .int .u8 (0), .int .u8 (0), .int .u8 (0), .int .u8 (0), .int .u8 (0), .int .u8 (0), .int .u8 (0), .int .u8 (0), .int .u8 (0), .int .u8 (0), .int .u8 (0), .int .u8 (0), .int .u8 (0), .int .u8 (0), .int .u8 (0), .int .u8 (0), .int .u8 (0), .int .u8 (0), .int .u8 (0), .int .u8 (0), .int .u8 (0), .int .u8 (0), .int .u8 (0), .int .u8 (0), .int .u8 (0), .int .u8 (0), .int .u8 (0), .int .u8 (0), .int .u8 (0), .int .u8 (0), .int .u8 (0), .int .u8 (0), .int .u8 (0), .int .u8 (0), .int .u8 (0), .int .u8 (0), .int .u8 (0), .int .u8 (0), .int .u8 (0), .int .u8 (0), .int .u8 (0), .int .u8 (0), .int .u8 (0), .int .u8 (0), .int .u8 (0), .int .u8 (0), .int .u8 (0), .int .u8 (0), .int .u8 (0), .int .u8 (0), .int .u8 (0), .int .u8 (0), .int .u8 (0), .int .u8 (0), .int .u8 (0), .int .u8 (0), .int .u8 (0), .int .u8 (0), .int .u8 (0), .int .u8 (0), .int .u8 (0), .int .u8 (0), .int .u8 (0), .int .u8 (0), .int .u8 (0), .int .u8 (0), .int .u8 (0), .int .u8 (0), .int .u8 (0), .int .u8 (0), .int .u8 (0), .int .u8 (0), .int .u8 (0), .int .u8 (0), .int .u8 (0), .int .u8 (0), .int .u8 (0), .int .u8 (0), .int .u8 (0), .int .u8 (0), .int .u8 (0), .int .u8 (0), .int .u8 (0), .int .u8 (0), .int .u8 (0), .int .u8 (0), .int .u8 (0), .int .u8 (0), .int .u8 (0), .int .u8 (0)] 1 none, .int .i64 (1), .int .u32 (0), .int .u32 (0), .int .u32 (0), .int .u32 (0), .int .u32 (0), .int .u32 (0), .int .u32 (0), .int .u32 (0), .int .i64 (0), .int .i64 (0), .int .i64 (0), .int .i64 (0), .int .i64 (0), .int .i64 (0), .bool false, .bool false, .bool false, .bool false, .int .i64 (0), .int .i64 (0), .int .i64 (0), .int .i64 (0), .int .i64 (0), .int .i64 (0), .int .i64 (0), .int .i64 (0), .str ⟨#[]⟩, .int .i64 (0), .int .u32 (0), .int .u32 (0), .int .i64 (0), .int .i64 (0), .nils, .nils, .int .u32 (0), .int .u32 (0), .int .u32 (0), .int .u32 (0), .int .i64 (0), .int .i64 (0), .int .i64 (0), .int .i64 (0), .nils, .int .i64 (0)], .int .i64 (0)]
theorem mm2 : CallA Tryz.prog 25 mm2a Heap.nil fun v H' => v = mm2r ∧ H' = Heap.nil := CallA.computedR ovI_ok auOk auRf auRt_ok 1000 60 (by kernel_rfl)
end Go.Proofs

set_option maxRecDepth 1000000
set_option maxHeartbeats 0
namespace Go.Proofs
open Go Go.Eng
def mm3a : List AV := [.agg [.dslice [.int .u32 (0), .int .u32 (0), .int .u32 (0), .int .u32 (0), .int .u32 (0), .int .u32 (0), .int .u32 (0), .int .u32 (0), .int .u32 (0), .int .u32 (0), .int .u32 (0), .int .u32 (0), .int .u32 (0), .int .u32 (0), .int .u32 (0), .int .u32 (0), .int .u32 (0), .int .u32 (0), .int .u32 (0), .int .u32 (0), .int .u32 (0), .int .u32 (0), .int .u32 (0), .int .u32 (0), .int .u32 (0), .int .u32 (0), .bool false, .bool false, .bool false, .int .i64 (0)] 1 none, .dslice [.int .u8 (65), .int .u8 (0), .int .u8 (64), .int .u8 (64), .int .u8 (32), .int .u8 (0), .int .u8 (64), .int .u8 (188), .int .u8 (1), .int .u8 (0), .int .u8 (68), .int .u8 (64), .int .u8 (32), .int .u8 (0), .int .u8 (64), .int .u8 (188), .int .u8 (0), .int .u8 (0), .int .u8 (0), .int .u8 (0), .int .u8 (0), .int .u8 (0), .int .u8 (0), .int .u8 (0), .int .u8 (0), .int .u8 (0), .int .u8 (0), .int .u8 (0), .int .u8 (0), .int .u8 (0), .int .u8 (0), .int .u8 (0), .int .u8 (0), .int .u8 (0), .int .u8 (0), .int .u8 (0), .int .u8 (0), .int .u8 (0), .int .u8 (0), .int .u8 (0), .int .u8 (0), .int .u8 (0), .int .u8 (0), .int .u8 (0), .int .u8 (0), .int .u8 (0), .int .u8 (0), .int .u8 (0), .int .u8 (0), .int .u8 (0), .int .u8 (0), .int .u8 (0), .int .u8 (0), .int .u8 (0), .int .u8 (0), .int .u8 (0), .int .u8 (0), .int .u8 (0), .int .u8 (0), .int .u8 (0), .int .u8 (0), .int .u8 (0), .int .u8 (0), .int .u8 (0), .int .u8 (0), .int .u8 (0), .int .u8 (0), .int .u8 (0), .int .u8 (0), .int .u8 (0), .int .u8 (0), .int .u8 (0), .int .u8 (0), .int .u8 (0), .int .u8 (0), .int .u8 (0), .int .u8 (0), .int .u8 (0), .int .u8 (0), .int .u8 (0), .int .u8 (0), .int .u8 (0), .int .u8 (0), .int .u8 (0), .int .u8 (0), .int .u8 (0), .int .u8 (0), .int .u8 (0), .int .u8 (0), .int .u8 (0), .int .u8 (0), .int .u8 (0), .int .u8 (0), .int .u8 (0), .int .u8 (0), .int .u8 (0), .int .u8 (0), .int .u8 (0), .int .u8 (0), .int .u8 (0), .int .u8 (0), .int .u8 (0), .int .u8 (0), .int .u8 (0), .int .u8 (0), .int .u8 (0), .int .u8 (0), .int .u8 (0), .int .u8 (0), .int .u8 (0), .int .u8 (0), .int .u8 (0), .int .u8 (0), .int .u8 (0), .int .u8 (0), .int .u8 (0), .int .u8 (0), .int .u8 (0), .int .u8 (0), .int .u8 (0), .int .u8 (0), .int .u8 (0), .int .u8 (0), .int .u8 (0), .int .u8 (0), .int .u8 (0), .int .u8 (0), .int .u8 (0)] 1 none, .int .i64 (1), .int .u32 (0), .int .u32 (0), .int .u32 (0), .int .u32 (0), .int .u32 (0), .int .u32 (0), .int .u32 (0), .int .u32 (0), .int .i64 (0), .int .i64 (0), .int .i64 (0), .int .i64 (0), .int .i64 (0), .int .i64 (0), .bool false, .bool false, .bool false, .bool false, .int .i64 (0), .int .i64 (0), .int .i64 (0), .int .i64 (0), .int .i64 (0), .int .i64 (0), .int .i64 (0), .int .i64 (0), .str ⟨#[]⟩, .int .i64 (0), .int .u32 (0), .int .u32 (0), .int .i64 (0), .int .i64 (0), .nils, .nils, .int .u32 (0), .int .u32 (0), .int .u32 (0), .int .u32 (0), .int .i64 (0), .int .i64 (0), .int .i64 (0), .int .i64 (0), .nils, .int .i64 (0)], .dslice [.int .i64 (1), .int .i64 (0), .int .i64 (0), .int .i64 (2), .str ⟨#[]⟩] 1 none]
def mm3r : AV := .tuple [.agg [.dslice [.int .u32 (8), .int .u32 (0), .int .u32 (65), .int .u32 (0), .int .u32 (0), .int .u32 (0), .int .u32 (0), .int .u32 (0), .int .u32 (0), .int .u32 (0), .int .u32 (0), .int .u32 (0), .int .u32 (0), .int .u32 (0), .int .u32 (0), .int .u32 (0), .int .u32 (0), .int .u32 (0), .int .u32 (0), .int .u32 (0), .int .u32 (0), .int .u32 (0), .int .u32 (0), .int .u32 (0), .int .u32 (0), .int .u32 (0), .bool false, .bool false, .bool false, .int .i64 (2)] 1 none, .dslice [.int .u8 (65), .int .u8 (0), .int .u8 (64), .int .u8 (64), .int .u8 (32), .int .u8 (0), .int .u8 (64), .int .u8 (188), .int .u8 (1), .int .u8 (0), .int .u8 (68), .int .u8 (64), .int .u8 (32), .int .u8 (0), .int .u8 (64), .int .u8 (188), .int .u8 (0), .int .u8 (0), .int .u8 (0), .int .u8 (0), .int .u8 (0), .int .u8 (0), .int .u8 (0), .int .u8 (0), .int .u8 (0), .int .u8 (0), .int .u8 (0), .int .u8 (0), .int .u8 (0), .int .u8 (0), .int .u8 (0), .int .u8 (0), .int .u8 (0), .int .u8 (0), .int .u8 (0), .int .u8 (0), .int .u8 (0), .int .u8 (0), .int .u8 (0), .int .u8 (0), .int .u8 (0), .int .u8 (0), .int .u8 (0), .int .u8 (0), .int .u8 (0), .int .u8 (0), .int .u8 (0), .int .u8 (0), .int .u8 (0), .int .u8 (0), .int .u8 (0), .int .u8 (0), .int .u8 (0), .int .u8 (0), .int .u8 (0), .int .u8 (0), .int .u8 (0), .int .u8 (0), .int .u8 (0), .int .u8 (0), .int .u8 (0), .int .u8 (0), .int .u8 (0), .int .u8 (0), .int .u8 (0), .int .u8 (0), .int .u8 (0), .int .u8 (0), .int .u8 (0), .int .u8 (0), .int .u8 (0), .int .u8 (0), .int .u8 (0), .int .u8 (0), .int .u8 (0), .int .u8 (0), .int .u8 (0), .int .u8 (0), .int .u8 (0), .int .u8 (0), .int .u8 (0), .int .u8 (0), .int .u8 (0), .int .u8 (0), .int .u8 (0), .int .u8 (0), .int .u8 (0), .int .u8 (0), .int .u8 (0), .int .u8 (0), .int .u8 (0), .int .u8 (0), .int .u8 (0), .int .u8 (0), .int .u8 (0), .int .u8 (0), .int .u8 (0), .int .u8 (0), .int .u8 (0), .int .u8 (0), .int .u8 (0), .int .u8 (0), .int .u8 (0), .int .u8 (0), .int .u8 (0), .int .u8 (0), .int .u8 (0), .int .u8 (0), .int .u8 (0), .int .u8 (0), .int .u8 (0), .int .u8 (0), .int .u8 (0), .int .u8 (0), .int .u8 (0), .int .u8 (0), .int .u8 (0), .int .u8 (0), .int .u8 (0), .int .u8 (0), .int .u8 (0), .int .u8 (0), .int .u8 (0), .int .u8 (0), .int .u8 (0), .int .u8 (0), .int .u8 (0), .int .u8 (0)] 1 none, .int .i64 (1), .int .u32 (0), .int .u32 (0), .int .u32 (0), .int .u32 (0), .int .u32 (0), .int .u32 (0), .int .u32 (0), .int .u32 (0), .int .i64 (0), .int .i64 (0), .int .i64 (0), .int .i64 (0), .int .i64 (0), .int .i64 (0), .bool false, .bool false, .bool false, .bool false, .int .i64 (0), .int .i64 (0), .int .i64 (0), .int .i64 (0), .int .i64 (0), .int .i64 (0), .int .i64 (0), .int .i64 (0), .str ⟨#[]⟩, .int .i64 (0), .int .u32 (0), .int .u32 (0), .int .i64 (0), .int .i64 (0), .nils, .nils, .int .u32 (0), .int .u32 (0), .int .u32 (0), .int .u32 (0), .int .i64 (0), .int .i64 (0), .int .i64 (0), .int .i64 (0), .dslice [.int .i64 (0), .int .i64 (1), .int .i64 (0), .int .i64 (2), .str ⟨#[65]⟩] 1 none, .int .i64 (1)], .int .i64 (1), .int .i64 (0)]
theorem mm3 : CallA Tryz.prog 45 mm3a Heap.nil fun v H' => v = mm3r ∧ H' = Heap.nil := CallA.computedR ovI_ok auOk auRf auRt_ok 1000 60 (by kernel_rfl)
end Go.Proofs

set_option maxRecDepth 1000000
set_option maxHeartbeats 0
namespace Go.Proofs
open Go Go.Eng
def mm4a : List AV := [.agg [.dslice [.int .u32 (8), .int .u32 (0), .int .u32 (65), .int .u32 (0), .int .u32 (0), .int .u32 (0), .int .u32 (0), .int .u32 (0), .int .u32 (0), .int .u32 (0), .int .u32 (0), .int .u32 (0), .int .u32 (0), .int .u32 (0), .int .u32 (0), .int .u32 (0), .int .u32 (0), .int .u32 (0), .int .u32 (0), .int .u32 (0), .int .u32 (0), .int .u32 (0), .int .u32 (0), .int .u32 (0), .int .u32 (0), .int .u32 (0), .bool false, .bool false, .bool false, .int .i64 (2)] 1 none, .dslice [.int .u8 (65), .int .u8 (0), .int .u8 (64), .int .u8 (64), .int .u8 (32), .int .u8 (0), .int .u8 (64), .int .u8 (188), .int .u8 (1), .int .u8 (0), .int .u8 (68), .int .u8 (64), .int .u8 (32), .int .u8 (0), .int .u8 (64), .int .u8 (188), .int .u8 (0), .int .u8 (0), .int .u8 (0), .int .u8 (0), .int .u8 (0), .int .u8 (0), .int .u8 (0), .int .u8 (0), .int .u8 (0), .int .u8 (0), .int .u8 (0), .int .u8 (0), .int .u8 (0), .int .u8 (0), .int .u8 (0), .int .u8 (0), .int .u8 (0), .int .u8 (0), .int .u8 (0), .int .u8 (0), .int .u8 (0), .int .u8 (0), .int .u8 (0), .int .u8 (0), .int .u8 (0), .int .u8 (0), .int .u8 (0), .int .u8 (0), .int .u8 (0), .int .u8 (0), .int .u8 (0), .int .u8 (0), .int .u8 (0), .int .u8 (0), .int .u8 (0), .int .u8 (0), .int .u8 (0), .int .u8 (0), .int .u8 (0), .int .u8 (0), .int .u8 (0), .int .u8 (0), .int .u8 (0), .int .u8 (0), .int .u8 (0), .int .u8 (0), .int .u8 (0), .int .u8 (0), .int .u8 (0), .int .u8 (0), .int .u8 (0), .int .u8 (0), .int .u8 (0), .int .u8 (0), .int .u8 (0), .int .u8 (0), .int .u8 (0), .int .u8 (0), .int .u8 (0), .int .u8 (0), .int .u8 (0), .int .u8 (0), .int .u8 (0), .int .u8 (0), .int .u8 (0), .int .u8 (0), .int .u8 (0), .int .u8 (0), .int .u8 (0), .int .u8 (0), .int .u8 (0), .int .u8 (0), .int .u8 (0), .int .u8 (0), .int .u8 (0), .int .u8 (0), .int .u8 (0), .int .u8 (0), .int .u8 (0), .int .u8 (0), .int .u8 (0), .int .u8 (0), .int .u8 (0), .int .u8 (0), .int .u8 (0), .int .u8 (0), .int .u8 (0), .int .u8 (0), .int .u8 (0), .int .u8 (0), .int .u8 (0), .int .u8 (0), .int .u8 (0), .int .u8 (0), .int .u8 (0), .int .u8 (0), .int .u8 (0), .int .u8 (0), .int .u8 (0), .int .u8 (0), .int .u8 (0), .int .u8 (0), .int .u8 (0), .int .u8 (0), .int .u8 (0), .int .u8 (0), .int .u8 (0), .int .u8 (0), .int .u8 (0), .int .u8 (0), .int .u8 (0), .int .u8 (0)] 1 none, .int .i64 (1), .int .u32 (0), .int .u32 (0), .int .u32 (0), .int .u32 (0), .int .u32 (0), .int .u32 (0), .int .u32 (0), .int .u32 (0), .int .i64 (0), .int .i64 (0), .int .i64 (0), .int .i64 (0), .int .i64 (0), .int .i64 (0), .bool false, .bool false, .bool false, .bool false, .int .i64 (0), .int .i64 (0), .int .i64 (0), .int .i64 (0), .int .i64 (0), .int .i64 (0), .int .i64 (0), .int .i64 (0), .str ⟨#[]⟩, .int .i64 (0), .int .u32 (0), .int .u32 (0), .int .i64 (0), .int .i64 (0), .nils, .nils, .int .u32 (0), .int .u32 (0), .int .u32 (0), .int .u32 (0), .int .i64 (0), .int .i64 (0), .int .i64 (0), .int .i64 (0), .dslice [.int .i64 (0), .int .i64 (1), .int .i64 (0), .int .i64 (2), .str ⟨#[65]⟩] 1 none, .int .i64 (1)]]
def mm4r : AV := .agg [.int .u8 (177), .int .u8 (139), .int .u8 (34), .int .u8 (32), .int .u8 (114), .int .u8 (239), .int .u8 (140), .int .u8 (91), .int .u8 (154), .int .u8 (154), .int .u8 (123), .int .u8 (148), .int .u8 (109), .int .u8 (121), .int .u8 (215), .int .u8 (254)]
theorem mm4 : CallA Tryz.prog 46 mm4a Heap.nil fun v H' => v = mm4r ∧ H' = Heap.nil := CallA.computedR ovI_ok auOk auRf auRt_ok 1000 60 (by kernel_rfl)
end Go.Proofs

set_option maxRecDepth 1000000
set_option maxHeartbeats 0
namespace Go.Proofs
open Go Go.Eng
def mm5a : List AV := [.agg [.dslice [.int .u32 (8), .int .u32 (0), .int .u32 (65), .int .u32 (0), .int .u32 (0), .int .u32 (0), .int .u32 (0), .int .u32 (0), .int .u32 (0), .int .u32 (0), .int .u32 (0), .int .u32 (0), .int .u32 (0), .int .u32 (0), .int .u32 (0), .int .u32 (0), .int .u32 (0), .int .u32 (0), .int .u32 (0), .int .u32 (0), .int .u32 (0), .int .u32 (0), .int .u32 (0), .int .u32 (0), .int .u32 (0), .int .u32 (0), .bool false, .bool false, .bool false, .int .i64 (2)] 1 none, .dslice [.int .u8 (65), .int .u8 (0), .int .u8 (64), .int .u8 (64), .int .u8 (32), .int .u8 (0), .int .u8 (64), .int .u8 (188), .int .u8 (1), .int .u8 (0), .int .u8 (68), .int .u8 (64), .int .u8 (32), .int .u8 (0), .int .u8 (64), .int .u8 (188), .int .u8 (0), .int .u8 (0), .int .u8 (0), .int .u8 (0), .int .u8 (0), .int .u8 (0), .int .u8 (0), .int .u8 (0), .int .u8 (0), .int .u8 (0), .int .u8 (0), .int .u8 (0), .int .u8 (0), .int .u8 (0), .int .u8 (0), .int .u8 (0), .int .u8 (0), .int .u8 (0), .int .u8 (0), .int .u8 (0), .int .u8 (0), .int .u8 (0), .int .u8 (0), .int .u8 (0), .int .u8 (0), .int .u8 (0), .int .u8 (0), .int .u8 (0), .int .u8 (0), .int .u8 (0), .int .u8 (0), .int .u8 (0), .int .u8 (0), .int .u8 (0), .int .u8 (0), .int .u8 (0), .int .u8 (0), .int .u8 (0), .int .u8 (0), .int .u8 (0), .int .u8 (0), .int .u8 (0), .int .u8 (0), .int .u8 (0), .int .u8 (0), .int .u8 (0), .int .u8 (0), .int .u8 (0), .int .u8 (0), .int .u8 (0), .int .u8 (0), .int .u8 (0), .int .u8 (0), .int .u8 (0), .int .u8 (0), .int .u8 (0), .int .u8 (0), .int .u8 (0), .int .u8 (0), .int .u8 (0), .int .u8 (0), .int .u8 (0), .int .u8 (0), .int .u8 (0), .int .u8 (0), .int .u8 (0), .int .u8 (0), .int .u8 (0), .int .u8 (0), .int .u8 (0), .int .u8 (0), .int .u8 (0), .int .u8 (0), .int .u8 (0), .int .u8 (0), .int .u8 (0), .int .u8 (0), .int .u8 (0), .int .u8 (0), .int .u8 (0), .int .u8 (0), .int .u8 (0), .int .u8 (0), .int .u8 (0), .int .u8 (0), .int .u8 (0), .int .u8 (0), .int .u8 (0), .int .u8 (0), .int .u8 (0), .int .u8 (0), .int .u8 (0), .int .u8 (0), .int .u8 (0), .int .u8 (0), .int .u8 (0), .int .u8 (0), .int .u8 (0), .int .u8 (0), .int .u8 (0), .int .u8 (0), .int .u8 (0), .int .u8 (0), .int .u8 (0), .int .u8 (0), .int .u8 (0), .int .u8 (0), .int .u8 (0), .int .u8 (0), .int .u8 (0), .int .u8 (0), .int .u8 (0)] 1 none, .int .i64 (1), .int .u32 (0), .int .u32 (0), .int .u32 (0), .int .u32 (0), .int .u32 (0), .int .u32 (0), .int .u32 (0), .int .u32 (0), .int .i64 (0), .int .i64 (0), .int .i64 (0), .int .i64 (0), .int .i64 (0), .int .i64 (0), .bool false, .bool false, .bool false, .bool false, .int .i64 (0), .int .i64 (0), .int .i64 (0), .int .i64 (0), .int .i64 (0), .int .i64 (0), .int .i64 (0), .int .i64 (0), .str ⟨#[]⟩, .int .i64 (0), .int .u32 (0), .int .u32 (0), .int .i64 (0), .int .i64 (0), .nils, .nils, .int .u32 (0), .int .u32 (0), .int .u32 (0), .int .u32 (0), .int .i64 (0), .int .i64 (0), .int .i64 (0), .int .i64 (0), .dslice [.int .i64 (0), .int .i64 (1), .int .i64 (0), .int .i64 (2), .str ⟨#[65]⟩] 1 none, .int .i64 (1)], .dslice [.int .i64 (1), .int .i64 (0), .int .i64 (2), .int .i64 (2), .str ⟨#[]⟩] 1 none]
def mm5r : AV := .tuple [.agg [.dslice [.int .u32 (16), .int .u32 (0), .int .u32 (66), .int .u32 (0), .int .u32 (0), .int .u32 (0), .int .u32 (0), .int .u32 (0), .int .u32 (0), .int .u32 (0), .int .u32 (0), .int .u32 (0), .int .u32 (0), .int .u32 (0), .int .u32 (0), .int .u32 (0), .int .u32 (0), .int .u32 (0), .int .u32 (0), .int .u32 (0), .int .u32 (0), .int .u32 (0), .int .u32 (0), .int .u32 (0), .int .u32 (0), .int .u32 (0), .bool false, .bool false, .bool false, .int .i64 (4)] 1 none, .dslice [.int .u8 (65), .int .u8 (0), .int .u8 (64), .int .u8 (64), .int .u8 (32), .int .u8 (0), .int .u8 (64), .int .u8 (188), .int .u8 (1), .int .u8 (0), .int .u8 (68), .int .u8 (64), .int .u8 (32), .int .u8 (0), .int .u8 (64), .int .u8 (188), .int .u8 (0), .int .u8 (0), .int .u8 (0), .int .u8 (0), .int .u8 (0), .int .u8 (0), .int .u8 (0), .int .u8 (0), .int .u8 (0), .int .u8 (0), .int .u8 (0), .int .u8 (0), .int .u8 (0), .int .u8 (0), .int .u8 (0), .int .u8 (0), .int .u8 (0), .int .u8 (0), .int .u8 (0), .int .u8 (0), .int .u8 (0), .int .u8 (0), .int .u8 (0), .int .u8 (0), .int .u8 (0), .int .u8 (0), .int .u8 (0), .int .u8 (0), .int .u8 (0), .int .u8 (0), .int .u8 (0), .int .u8 (0), .int .u8 (0), .int .u8 (0), .int .u8 (0), .int .u8 (0), .int .u8 (0), .int .u8 (0), .int .u8 (0), .int .u8 (0), .int .u8 (0), .int .u8 (0), .int .u8 (0), .int .u8 (0), .int .u8 (0), .int .u8 (0), .int .u8 (0), .int .u8 (0), .int .u8 (0), .int .u8 (0), .int .u8 (0), .int .u8 (0), .int .u8 (0), .int .u8 (0), .int .u8 (0), .int .u8 (0), .int .u8 (0), .int .u8 (0), .int .u8 (0), .int .u8 (0), .int .u8 (0), .int .u8 (0), .int .u8 (0), .int .u8 (0), .int .u8 (0), .int .u8 (0), .int .u8 (0), .int .u8 (0), .int .u8 (0), .int .u8 (0), .int .u8 (0), .int .u8 (0), .int .u8 (0), .int .u8 (0), .int .u8 (0), .int .u8 (0), .int .u8 (0), .int .u8 (0), .int .u8 (0), .int .u8 (0), .int .u8 (0), .int .u8 (0), .int .u8 (0), .int .u8 (0), .int .u8 (0), .int .u8 (0), .int .u8 (0), .int .u8 (0), .int .u8 (0), .int .u8 (0), .int .u8 (0), .int .u8 (0), .int .u8 (0), .int .u8 (0), .int .u8 (0), .int .u8 (0), .int .u8 (0), .int .u8 (0), .int .u8 (0), .int .u8 (0), .int .u8 (0), .int .u8 (0), .int .u8 (0), .int .u8 (0), .int .u8 (0), .int .u8 (0), .int .u8 (0), .int .u8 (0), .int .u8 (0), .int .u8 (0), .int .u8 (0), .int .u8 (0)] 1 none, .int .i64 (1), .int .u32 (0), .int .u32 (0), .int .u32 (0), .int .u32 (0), .int .u32 (0), .int .u32 (0), .int .u32 (0), .int .u32 (0), .int .i64 (0), .int .i64 (0), .int .i64 (0), .int .i64 (0), .int .i64 (0), .int .i64 (0), .bool false, .bool false, .bool false, .bool false, .int .i64 (0), .int .i64 (0), .int .i64 (0), .int .i64 (0), .int .i64 (0), .int .i64 (0), .int .i64 (0), .int .i64 (0), .str ⟨#[]⟩, .int .i64 (0), .int .u32 (0), .int .u32 (0), .int .i64 (0), .int .i64 (0), .nils, .nils, .int .u32 (0), .int .u32 (0), .int .u32 (0), .int .u32 (0), .int .i64 (0), .int .i64 (0), .int .i64 (0), .int .i64 (0), .dslice [.int .i64 (0), .int .i64 (1), .int .i64 (0), .int .i64 (2), .str ⟨#[65]⟩, .int .i64 (1), .int .i64 (1), .int .i64 (0), .int .i64 (4), .str ⟨#[66]⟩] 2 none, .int .i64 (2)], .int .i64 (1), .int .i64 (0)]
theorem mm5 : CallA Tryz.prog 45 mm5a Heap.nil fun v H' => v = mm5r ∧ H' = Heap.nil := CallA.computedR ovI_ok auOk auRf auRt_ok 1000 60 (by kernel_rfl)
end Go.Proofs

set_option maxRecDepth 1000000
set_option maxHeartbeats 0
namespace Go.Proofs
open Go Go.Eng
def mm6a : List AV := [.agg [.dslice [.int .u32 (16), .int .u32 (0), .int .u32 (66), .int .u32 (0), .int .u32 (0), .int .u32 (0), .int .u32 (0), .int .u32 (0), .int .u32 (0), .int .u32 (0), .int .u32 (0), .int .u32 (0), .int .u32 (0), .int .u32 (0), .int .u32 (0), .int .u32 (0), .int .u32 (0), .int .u32 (0), .int .u32 (0), .int .u32 (0), .int .u32 (0), .int .u32 (0), .int .u32 (0), .int .u32 (0), .int .u32 (0), .int .u32 (0), .bool false, .bool false, .bool false, .int .i64 (4)] 1 none, .dslice [.int .u8 (65), .int .u8 (0), .int .u8 (64), .int .u8 (64), .int .u8 (32), .int .u8 (0), .int .u8 (64), .int .u8 (188), .int .u8 (1), .int .u8 (0), .int .u8 (68), .int .u8 (64), .int .u8 (32), .int .u8 (0), .int .u8 (64), .int .u8 (188), .int .u8 (0), .int .u8 (0), .int .u8 (0), .int .u8 (0), .int .u8 (0), .int .u8 (0), .int .u8 (0), .int .u8 (0), .int .u8 (0), .int .u8 (0), .int .u8 (0), .int .u8 (0), .int .u8 (0), .int .u8 (0), .int .u8 (0), .int .u8 (0), .int .u8 (0), .int .u8 (0), .int .u8 (0), .int .u8 (0), .int .u8 (0), .int .u8 (0), .int .u8 (0), .int .u8 (0), .int .u8 (0), .int .u8 (0), .int .u8 (0), .int .u8 (0), .int .u8 (0), .int .u8 (0), .int .u8 (0), .int .u8 (0), .int .u8 (0), .int .u8 (0), .int .u8 (0), .int .u8 (0), .int .u8 (0), .int .u8 (0), .int .u8 (0), .int .u8 (0), .int .u8 (0), .int .u8 (0), .int .u8 (0), .int .u8 (0), .int .u8 (0), .int .u8 (0), .int .u8 (0), .int .u8 (0), .int .u8 (0), .int .u8 (0), .int .u8 (0), .int .u8 (0), .int .u8 (0), .int .u8 (0), .int .u8 (0), .int .u8 (0), .int .u8 (0), .int .u8 (0), .int .u8 (0), .int .u8 (0), .int .u8 (0), .int .u8 (0), .int .u8 (0), .int .u8 (0), .int .u8 (0), .int .u8 (0), .int .u8 (0), .int .u8 (0), .int .u8 (0), .int .u8 (0), .int .u8 (0), .int .u8 (0), .int .u8 (0), .int .u8 (0), .int .u8 (0), .int .u8 (0), .int .u8 (0), .int .u8 (0), .int .u8 (0), .int .u8 (0), .int .u8 (0), .int .u8 (0), .int .u8 (0), .int .u8 (0), .int .u8 (0), .int .u8 (0), .int .u8 (0), .int .u8 (0), .int .u8 (0), .int .u8 (0), .int .u8 (0), .int .u8 (0), .int .u8 (0), .int .u8 (0), .int .u8 (0), .int .u8 (0), .int .u8 (0), .int .u8 (0), .int .u8 (0), .int .u8 (0), .int .u8 (0), .int .u8 (0), .int .u8 (0), .int .u8 (0), .int .u8 (0), .int .u8 (0), .int .u8 (0), .int .u8 (0), .int .u8 (0), .int .u8 (0), .int .u8 (0), .int .u8 (0)] 1 none, .int .i64 (1), .int .u32 (0), .int .u32 (0), .int .u32 (0), .int .u32 (0), .int .u32 (0), .int .u32 (0), .int .u32 (0), .int .u32 (0), .int .i64 (0), .int .i64 (0), .int .i64 (0), .int .i64 (0), .int .i64 (0), .int .i64 (0), .bool false, .bool false, .bool false, .bool false, .int .i64 (0), .int .i64 (0), .int .i64 (0), .int .i64 (0), .int .i64 (0), .int .i64 (0), .int .i64 (0), .int .i64 (0), .str ⟨#[]⟩, .int .i64 (0), .int .u32 (0), .int .u32 (0), .int .i64 (0), .int .i64 (0), .nils, .nils, .int .u32 (0), .int .u32 (0), .int .u32 (0), .int .u32 (0), .int .i64 (0), .int .i64 (0), .int .i64 (0), .int .i64 (0), .dslice [.int .i64 (0), .int .i64 (1), .int .i64 (0), .int .i64 (2), .str ⟨#[65]⟩, .int .i64 (1), .int .i64 (1), .int .i64 (0), .int .i64 (4), .str ⟨#[66]⟩] 2 none, .int .i64 (2)]]
def mm6r : AV := .agg [.int .u8 (244), .int .u8 (210), .int .u8 (205), .int .u8 (33), .int .u8 (242), .int .u8 (54), .int .u8 (77), .int .u8 (251), .int .u8 (172), .int .u8 (40), .int .u8 (35), .int .u8 (132), .int .u8 (20), .int .u8 (82), .int .u8 (22), .int .u8 (240)]
theorem mm6 : CallA Tryz.prog 46 mm6a Heap.nil fun v H' => v = mm6r ∧ H' = Heap.nil := CallA.computedR ovI_ok auOk auRf auRt_ok 1000 60 (by kernel_rfl)
end Go.Proofs

set_option maxRecDepth 1000000
set_option maxHeartbeats 0
namespace Go.Proofs
open Go Go.Eng
def mm7a : List AV := [.agg [.dslice [.int .u32 (0), .int .u32 (0), .int .u32 (0), .int .u32 (0), .int .u32 (0), .int .u32 (0), .int .u32 (0), .int .u32 (0), .int .u32 (0), .int .u32 (0), .int .u32 (0), .int .u32 (0), .int .u32 (0), .int .u32 (0), .int .u32 (0), .int .u32 (0), .int .u32 (0), .int .u32 (0), .int .u32 (0), .int .u32 (0), .int .u32 (0), .int .u32 (0), .int .u32 (0), .int .u32 (0), .int .u32 (0), .int .u32 (0), .bool false, .bool false, .bool false, .int .i64 (0)] 1 none, .dslice [.int .u8 (65), .int .u8 (0), .int .u8 (64), .int .u8 (64), .int .u8 (32), .int .u8 (0), .int .u8 (64), .int .u8 (188), .int .u8 (1), .int .u8 (0), .int .u8 (68), .int .u8 (64), .int .u8 (32), .int .u8 (0), .int .u8 (64), .int .u8 (188), .int .u8 (0), .int .u8 (0), .int .u8 (0), .int .u8 (0), .int .u8 (0), .int .u8 (0), .int .u8 (0), .int .u8 (0), .int .u8 (0), .int .u8 (0), .int .u8 (0), .int .u8 (0), .int .u8 (0), .int .u8 (0), .int .u8 (0), .int .u8 (0), .int .u8 (0), .int .u8 (0), .int .u8 (0), .int .u8 (0), .int .u8 (0), .int .u8 (0), .int .u8 (0), .int .u8 (0), .int .u8 (0), .int .u8 (0), .int .u8 (0), .int .u8 (0), .int .u8 (0), .int .u8 (0), .int .u8 (0), .int .u8 (0), .int .u8 (0), .int .u8 (0), .int .u8 (0), .int .u8 (0), .int .u8 (0), .int .u8 (0), .int .u8 (0), .int .u8 (0), .int .u8 (0), .int .u8 (0), .int .u8 (0), .int .u8 (0), .int .u8 (0), .int .u8 (0), .int .u8 (0), .int .u8 (0), .int .u8 (0), .int .u8 (0), .int .u8 (0), .int .u8 (0), .int .u8 (0), .int .u8 (0), .int .u8 (0), .int .u8 (0), .int .u8 (0), .int .u8 (0), .int .u8 (0), .int .u8 (0), .int .u8 (0), .int .u8 (0), .int .u8 (0), .int .u8 (0), .int .u8 (0), .int .u8 (0), .int .u8 (0), .int .u8 (0), .int .u8 (0), .int .u8 (0), .int .u8 (0), .int .u8 (0), .int .u8 (0), .int .u8 (0), .int .u8 (0), .int .u8 (0), .int .u8 (0), .int .u8 (0), .int .u8 (0), .int .u8 (0), .int .u8 (0), .int .u8 (0), .int .u8 (0), .int .u8 (0), .int .u8 (0), .int .u8 (0), .int .u8 (0), .int .u8 (0), .int .u8 (0), .int .u8 (0), .int .u8 (0), .int .u8 (0), .int .u8 (0), .int .u8 (0), .int .u8 (0), .int .u8 (0), .int .u8 (0), .int .u8 (0), .int .u8 (0), .int .u8 (0), .int .u8 (0), .int .u8 (0), .int .u8 (0), .int .u8 (0), .int .u8 (0), .int .u8 (0), .int .u8 (0), .int .u8 (0), .int .u8 (0), .int .u8 (0), .int .u8 (0), .int .u8 (0)] 1 none, .int .i64 (1), .int .u32 (0), .int .u32 (0), .int .u32 (0), .int .u32 (0), .int .u32 (0), .int .u32 (0), .int .u32 (0), .int .u32 (0), .int .i64 (0), .int .i64 (0), .int .i64 (0), .int .i64 (0), .int .i64 (0), .int .i64 (0), .bool false, .bool false, .bool false, .bool false, .int .i64 (0), .int .i64 (0), .int .i64 (0), .int .i64 (0), .int .i64 (0), .int .i64 (0), .int .i64 (0), .int .i64 (0), .str ⟨#[]⟩, .int .i64 (0), .int .u32 (0), .int .u32 (0), .int .i64 (0), .int .i64 (0), .nils, .nils, .int .u32 (0), .int .u32 (0), .int .u32 (0), .int .u32 (0), .int .i64 (0), .int .i64 (0), .int .i64 (0), .int .i64 (0), .nils, .int .i64 (0)]]
def mm7r : AV := .agg [.int .u8 (204), .int .u8 (114), .int .u8 (254), .int .u8 (33), .int .u8 (104), .int .u8 (210), .int .u8 (170), .int .u8 (20), .int .u8 (123), .int .u8 (238), .int .u8 (79), .int .u8 (150), .int .u8 (99), .int .u8 (102), .int .u8 (89), .int .u8 (229)]
theorem mm7 : CallA Tryz.prog 46 mm7a Heap.nil fun v H' => v = mm7r ∧ H' = Heap.nil := CallA.computedR ovI_ok auOk auRf auRt_ok 1000 60 (by kernel_rfl)
end Go.Proofs

set_option maxRecDepth 1000000
set_option maxHeartbeats 0
namespace Go.Proofs
open Go Go.Eng
def auTblM : List FE := [fe3, fe4, fe5, fe6, fe7, fe8, fe9, fe10, fe11, fe12, fe13, fe14, fe15, fe16, fe18, fe19, fe20, fe21, fe22, fe23, fe24, fe26, fe28, fe30, fe31, fe32, fe33, fe34, fe35, fe36, fe37, fe38, fe39, fe40, fe41, fe43, fe44, fe47, fe48, fe49, fe50, fe51, fe52, fe53, fe54, fe55, fe56, fe57, fe58, fe64, fe68, fe69, fe70, fe71, fe72, fe73, fe74, fe75, fe80, fe81, fe82, fe83, fe84, fe85, fe86, fe87, fe88, fe89, fe90, fe91, fe92, fe93, fe94, fe95, fe96, fe97, fe98, fe99, fe100, fe101, fe102, fe108, fe109, fe110, fe111, fe112, fe113, fe114, fe115, fe116, fe117, fe118, fe119, fe120, fe122, fe123, fe124, fe125, fe126, fe127, fe128, fe129, fe130, fe131, fe132, fe133, fe134, fe135, fe138, fe139, fe140, fe141, fe142, fe143, fe147, fe148, fe150, fe160, fe161, fe163, fe171, fe172, fe174, fe175, fe176, fe177, fe189, fe190, fe191, fe194, fe196, fe200, fe206, fe208, fe209, fe211, fe212, fe213, fe214, fe215, fe216, fe218, fe219, fe221, fe222, fe224, fe230, fe233, fe234, fe235, fe242, fe280, fe293, fe294, fe295, fe296]
theorem auOkM : okAll Tryz.prog auTblM := ⟨ok3, ok4, ok5, ok6, ok7, ok8, ok9, ok10, ok11, ok12, ok13, ok14, ok15, ok16, ok18, ok19, ok20, ok21, ok22, ok23, ok24, ok26, ok28, ok30, ok31, ok32, ok33, ok34, ok35, ok36, ok37, ok38, ok39, ok40, ok41, ok43, ok44, ok47, ok48, ok49, ok50, ok51, ok52, ok53, ok54, ok55, ok56, ok57, ok58, ok64, ok68, ok69, ok70, ok71, ok72, ok73, ok74, ok75, ok80, ok81, ok82, ok83, ok84, ok85, ok86, ok87, ok88, ok89, ok90, ok91, ok92, ok93, ok94, ok95, ok96, ok97, ok98, ok99, ok100, ok101, ok102, ok108, ok109, ok110, ok111, ok112, ok113, ok114, ok115, ok116, ok117, ok118, ok119, ok120, ok122, ok123, ok124, ok125, ok126, ok127, ok128, ok129, ok130, ok131, ok132, ok133, ok134, ok135, ok138, ok139, ok140, ok141, ok142, ok143, ok147, ok148, ok150, ok160, ok161, ok163, ok171, ok172, ok174, ok175, ok176, ok177, ok189, ⟨ok190, ok205⟩, ok191, ok194, ok196, ok200, ok206, ok208, ok209, ok211, ok212, ok213, ok214, ok215, ok216, ok218, ok219, ok221, ok222, ok224, ok230, ok233, ok234, ⟨ok235, ok241⟩, ok242, ok280, ok293, ok294, ok295, ok296, trivial⟩
theorem auRfM : rfTbl Tryz.prog auTblM := ⟨FE.rfAll_of rfl, FE.rfAll_of rfl, FE.rfAll_of rfl, FE.rfAll_of rfl, FE.rfAll_of rfl, FE.rfAll_of rfl, FE.rfAll_of rfl, FE.rfAll_of rfl, FE.rfAll_of rfl, FE.rfAll_of rfl, FE.rfAll_of rfl, FE.rfAll_of rfl, FE.rfAll_of rfl, FE.rfAll_of rfl, FE.rfAll_of rfl, FE.rfAll_of rfl, ⟨rf20, trivial⟩, FE.rfAll_of rfl, ⟨rf22, trivial⟩, FE.rfAll_of rfl, FE.rfAll_of rfl, FE.rfAll_of rfl, FE.rfAll_of rfl, FE.rfAll_of rfl, FE.rfAll_of rfl, FE.rfAll_of rfl, FE.rfAll_of rfl, FE.rfAll_of rfl, FE.rfAll_of rfl, FE.rfAll_of rfl, FE.rfAll_of rfl, FE.rfAll_of rfl, ⟨rf39, trivial⟩, FE.rfAll_of rfl, FE.rfAll_of rfl, FE.rfAll_of rfl, FE.rfAll_of rfl, FE.rfAll_of rfl, FE.rfAll_of rfl, FE.rfAll_of rfl, FE.rfAll_of rfl, FE.rfAll_of rfl, ⟨rf52, trivial⟩, FE.rfAll_of rfl, FE.rfAll_of rfl, FE.rfAll_of rfl, FE.rfAll_of rfl, FE.rfAll_of rfl, FE.rfAll_of rfl, FE.rfAll_of rfl, FE.rfAll_of rfl, FE.rfAll_of rfl, FE.rfAll_of rfl, FE.rfAll_of rfl, FE.rfAll_of rfl, FE.rfAll_of rfl, FE.rfAll_of rfl, FE.rfAll_of rfl, FE.rfAll_of rfl, FE.rfAll_of rfl, FE.rfAll_of rfl, FE.rfAll_of rfl, FE.rfAll_of rfl, FE.rfAll_of rfl, FE.rfAll_of rfl, FE.rfAll_of rfl, FE.rfAll_of rfl, FE.rfAll_of rfl, FE.rfAll_of rfl, FE.rfAll_of rfl, FE.rfAll_of rfl, FE.rfAll_of rfl, FE.rfAll_of rfl, FE.rfAll_of rfl, FE.rfAll_of rfl, FE.rfAll_of rfl, FE.rfAll_of rfl, FE.rfAll_of rfl, FE.rfAll_of rfl, FE.rfAll_of rfl, FE.rfAll_of rfl, FE.rfAll_of rfl, FE.rfAll_of rfl, FE.rfAll_of rfl, FE.rfAll_of rfl, FE.rfAll_of rfl, FE.rfAll_of rfl, FE.rfAll_of rfl, FE.rfAll_of rfl, FE.rfAll_of rfl, FE.rfAll_of rfl, FE.rfAll_of rfl, FE.rfAll_of rfl, FE.rfAll_of rfl, FE.rfAll_of rfl, FE.rfAll_of rfl, FE.rfAll_of rfl, FE.rfAll_of rfl, FE.rfAll_of rfl, FE.rfAll_of rfl, FE.rfAll_of rfl, FE.rfAll_of rfl, FE.rfAll_of rfl, FE.rfAll_of rfl, FE.rfAll_of rfl, FE.rfAll_of rfl, FE.rfAll_of rfl, FE.rfAll_of rfl, ⟨rf138, trivial⟩, FE.rfAll_of rfl, FE.rfAll_of rfl, FE.rfAll_of rfl, FE.rfAll_of rfl, FE.rfAll_of rfl, FE.rfAll_of rfl, FE.rfAll_of rfl, FE.rfAll_of rfl, FE.rfAll_of rfl, FE.rfAll_of rfl, FE.rfAll_of rfl, FE.rfAll_of rfl, FE.rfAll_of rfl, FE.rfAll_of rfl, FE.rfAll_of rfl, FE.rfAll_of rfl, FE.rfAll_of rfl, FE.rfAll_of rfl, FE.rfAll_of rfl, FE.rfAll_of rfl, FE.rfAll_of rfl, FE.rfAll_of rfl, FE.rfAll_of rfl, FE.rfAll_of rfl, FE.rfAll_of rfl, FE.rfAll_of rfl, FE.rfAll_of rfl, FE.rfAll_of rfl, FE.rfAll_of rfl, FE.rfAll_of rfl, FE.rfAll_of rfl, FE.rfAll_of rfl, FE.rfAll_of rfl, FE.rfAll_of rfl, FE.rfAll_of rfl, FE.rfAll_of rfl, FE.rfAll_of rfl, FE.rfAll_of rfl, FE.rfAll_of rfl, FE.rfAll_of rfl, FE.rfAll_of rfl, FE.rfAll_of rfl, FE.rfAll_of rfl, FE.rfAll_of rfl, FE.rfAll_of rfl, FE.rfAll_of rfl, FE.rfAll_of rfl, trivial⟩
def auTblN : List FE := [fe3, fe4, fe5, fe6, fe7, fe8, fe9, fe10, fe11, fe12, fe13, fe14, fe15, fe16, fe18, fe19, fe20, fe21, fe23, fe24, fe26, fe28, fe30, fe31, fe32, fe33, fe34, fe35, fe36, fe37, fe38, fe39, fe40, fe41, fe43, fe44, fe47, fe48, fe49, fe50, fe51, fe52, fe53, fe54, fe55, fe56, fe57, fe58, fe64, fe68, fe69, fe70, fe71, fe72, fe73, fe74, fe75, fe80, fe81, fe82, fe83, fe84, fe85, fe86, fe87, fe88, fe89, fe90, fe91, fe92, fe93, fe94, fe95, fe96, fe97, fe98, fe99, fe100, fe101, fe102, fe108, fe109, fe110, fe111, fe112, fe113, fe114, fe115, fe116, fe117, fe118, fe119, fe120, fe122, fe123, fe124, fe125, fe126, fe127, fe128, fe129, fe130, fe131, fe132, fe133, fe134, fe135, fe138, fe139, fe140, fe141, fe142, fe143, fe147, fe148, fe150, fe160, fe161, fe163, fe171, fe172, fe174, fe175, fe176, fe177, fe189, fe190, fe191, fe194, fe196, fe200, fe206, fe208, fe209, fe211, fe212, fe213, fe214, fe215, fe216, fe218, fe219, fe221, fe222, fe224, fe230, fe233, fe234, fe235, fe242, fe280, fe293, fe294, fe295, fe296]
theorem auOkN : okAll Tryz.prog auTblN := ⟨ok3, ok4, ok5, ok6, ok7, ok8, ok9, ok10, ok11, ok12, ok13, ok14, ok15, ok16, ok18, ok19, ok20, ok21, ok23, ok24, ok26, ok28, ok30, ok31, ok32, ok33, ok34, ok35, ok36, ok37, ok38, ok39, ok40, ok41, ok43, ok44, ok47, ok48, ok49, ok50, ok51, ok52, ok53, ok54, ok55, ok56, ok57, ok58, ok64, ok68, ok69, ok70, ok71, ok72, ok73, ok74, ok75, ok80, ok81, ok82, ok83, ok84, ok85, ok86, ok87, ok88, ok89, ok90, ok91, ok92, ok93, ok94, ok95, ok96, ok97, ok98, ok99, ok100, ok101, ok102, ok108, ok109, ok110, ok111, ok112, ok113, ok114, ok115, ok116, ok117, ok118, ok119, ok120, ok122, ok123, ok124, ok125, ok126, ok127, ok128, ok129, ok130, ok131, ok132, ok133, ok134, ok135, ok138, ok139, ok140, ok141, ok142, ok143, ok147, ok148, ok150, ok160, ok161, ok163, ok171, ok172, ok174, ok175, ok176, ok177, ok189, ⟨ok190, ok205⟩, ok191, ok194, ok196, ok200, ok206, ok208, ok209, ok211, ok212, ok213, ok214, ok215, ok216, ok218, ok219, ok221, ok222, ok224, ok230, ok233, ok234, ⟨ok235, ok241⟩, ok242, ok280, ok293, ok294, ok295, ok296, trivial⟩
theorem auRfN : rfTbl Tryz.prog auTblN := ⟨FE.rfAll_of rfl, FE.rfAll_of rfl, FE.rfAll_of rfl, FE.rfAll_of rfl, FE.rfAll_of rfl, FE.rfAll_of rfl, FE.rfAll_of rfl, FE.rfAll_of rfl, FE.rfAll_of rfl, FE.rfAll_of rfl, FE.rfAll_of rfl, FE.rfAll_of rfl, FE.rfAll_of rfl, FE.rfAll_of rfl, FE.rfAll_of rfl, FE.rfAll_of rfl, ⟨rf20, trivial⟩, FE.rfAll_of rfl, FE.rfAll_of rfl, FE.rfAll_of rfl, FE.rfAll_of rfl, FE.rfAll_of rfl, FE.rfAll_of rfl, FE.rfAll_of rfl, FE.rfAll_of rfl, FE.rfAll_of rfl, FE.rfAll_of rfl, FE.rfAll_of rfl, FE.rfAll_of rfl, FE.rfAll_of rfl, FE.rfAll_of rfl, ⟨rf39, trivial⟩, FE.rfAll_of rfl, FE.rfAll_of rfl, FE.rfAll_of rfl, FE.rfAll_of rfl, FE.rfAll_of rfl, FE.rfAll_of rfl, FE.rfAll_of rfl, FE.rfAll_of rfl, FE.rfAll_of rfl, ⟨rf52, trivial⟩, FE.rfAll_of rfl, FE.rfAll_of rfl, FE.rfAll_of rfl, FE.rfAll_of rfl, FE.rfAll_of rfl, FE.rfAll_of rfl, FE.rfAll_of rfl, FE.rfAll_of rfl, FE.rfAll_of rfl, FE.rfAll_of rfl, FE.rfAll_of rfl, FE.rfAll_of rfl, FE.rfAll_of rfl, FE.rfAll_of rfl, FE.rfAll_of rfl, FE.rfAll_of rfl, FE.rfAll_of rfl, FE.rfAll_of rfl, FE.rfAll_of rfl, FE.rfAll_of rfl, FE.rfAll_of rfl, FE.rfAll_of rfl, FE.rfAll_of rfl, FE.rfAll_of rfl, FE.rfAll_of rfl, FE.rfAll_of rfl, FE.rfAll_of rfl, FE.rfAll_of rfl, FE.rfAll_of rfl, FE.rfAll_of rfl, FE.rfAll_of rfl, FE.rfAll_of rfl, FE.rfAll_of rfl, FE.rfAll_of rfl, FE.rfAll_of rfl, FE.rfAll_of rfl, FE.rfAll_of rfl, FE.rfAll_of rfl, FE.rfAll_of rfl, FE.rfAll_of rfl, FE.rfAll_of rfl, FE.rfAll_of rfl, FE.rfAll_of rfl, FE.rfAll_of rfl, FE.rfAll_of rfl, FE.rfAll_of rfl, FE.rfAll_of rfl, FE.rfAll_of rfl, FE.rfAll_of rfl, FE.rfAll_of rfl, FE.rfAll_of rfl, FE.rfAll_of rfl, FE.rfAll_of rfl, FE.rfAll_of rfl, FE.rfAll_of rfl, FE.rfAll_of rfl, FE.rfAll_of rfl, FE.rfAll_of rfl, FE.rfAll_of rfl, FE.rfAll_of rfl, FE.rfAll_of rfl, FE.rfAll_of rfl, FE.rfAll_of rfl, FE.rfAll_of rfl, FE.rfAll_of rfl, ⟨rf138, trivial⟩, FE.rfAll_of rfl, FE.rfAll_of rfl, FE.rfAll_of rfl, FE.rfAll_of rfl, FE.rfAll_of rfl, FE.rfAll_of rfl, FE.rfAll_of rfl, FE.rfAll_of rfl, FE.rfAll_of rfl, FE.rfAll_of rfl, FE.rfAll_of rfl, FE.rfAll_of rfl, FE.rfAll_of rfl, FE.rfAll_of rfl, FE.rfAll_of rfl, FE.rfAll_of rfl, FE.rfAll_of rfl, FE.rfAll_of rfl, FE.rfAll_of rfl, FE.rfAll_of rfl, FE.rfAll_of rfl, FE.rfAll_of rfl, FE.rfAll_of rfl, FE.rfAll_of rfl, FE.rfAll_of rfl, FE.rfAll_of rfl, FE.rfAll_of rfl, FE.rfAll_of rfl, FE.rfAll_of rfl, FE.rfAll_of rfl, FE.rfAll_of rfl, FE.rfAll_of rfl, FE.rfAll_of rfl, FE.rfAll_of rfl, FE.rfAll_of rfl, FE.rfAll_of rfl, FE.rfAll_of rfl, FE.rfAll_of rfl, FE.rfAll_of rfl, FE.rfAll_of rfl, FE.rfAll_of rfl, FE.rfAll_of rfl, FE.rfAll_of rfl, FE.rfAll_of rfl, FE.rfAll_of rfl, FE.rfAll_of rfl, FE.rfAll_of rfl, trivial⟩
def auMem : List MemE := [(17, mm0a, mm0r), (42, mm1a, mm1r), (25, mm2a, mm2r), (45, mm3a, mm3r), (46, mm4a, mm4r), (45, mm5a, mm5r), (46, mm6a, mm6r), (46, mm7a, mm7r)]
theorem auMem_ok : memOk Tryz.prog auMem := ⟨⟨mm0, by kernel_rfl, by kernel_rfl⟩, ⟨mm1, by kernel_rfl, by kernel_rfl⟩, ⟨mm2, by kernel_rfl, by kernel_rfl⟩, ⟨mm3, by kernel_rfl, by kernel_rfl⟩, ⟨mm4, by kernel_rfl, by kernel_rfl⟩, ⟨mm5, by kernel_rfl, by kernel_rfl⟩, ⟨mm6, by kernel_rfl, by kernel_rfl⟩, ⟨mm7, by kernel_rfl, by kernel_rfl⟩, trivial⟩
theorem san_run : resultR (ovP 22 (runO (ovM auMem ovI) auTblM auRt 1000 60) (ovM auMem ovI)) auTblN auRt 1000 60 7 [] = some (.bool true) := by kernel_rfl
theorem san : CallA Tryz.prog 7 [] Heap.nil fun v H' => v = .bool true ∧ H' = Heap.nil := CallA.computedR (ovP_ok (runO_ok (ovM_ok auMem_ok ovI_ok) (okAll_spec auOkM) (rfTbl_spec auRfM) (rtAll_spec auRt_ok) 1000 60) (ovM_ok auMem_ok ovI_ok)) auOkN auRfN auRt_ok 1000 60 san_run
end Go.Proofs

namespace Go.Proofs
open Go Go.Eng
set_option maxRecDepth 100000
set_option maxHeartbeats 4000000

def xN (s : List Nat) (p : Nat) : Int := (xv (dg s p) 7 : Nat)
theorem xv7 (s : List Nat) (p : Nat) : xv (dg s p) 7 < 72057594037927936 := xv_lt (dg_lt s p) 7
theorem pow6 {d : List Nat} (h : ∀ x ∈ d, x < 256) {i : Nat} (hi : i < 7) : xv d i < 281474976710656 := by
 have h1 := xv_lt h i
 have h2 : (256 : Nat) ^ i ≤ 256 ^ 6 := Nat.pow_le_pow_right (by omega) (by omega)
 omega
def jj (s : List Nat) (n p : Nat) : Nat := (p + (xN s p % ((n : Int) - p))).toNat
theorem nums_succ {n i : Nat} (h : i < n) : ((Sm.nums n).take i ++ List.replicate (n - i) 0).set i (i : Int) = (Sm.nums n).take (i + 1) ++ List.replicate (n - (i + 1)) 0 := by
 have hl : (Sm.nums n).length = n := by simp [Sm.nums]
 have e0 : n - i = (n - (i + 1)) + 1 := by omega
 rw [e0, List.replicate_succ, List.set_append, if_neg (by rw [List.length_take, hl]; omega)]
 rw [List.length_take, hl, Nat.min_eq_left (by omega), Nat.sub_self, List.set_cons_zero, List.take_succ]
 have : (Sm.nums n)[i]? = some (i : Int) := by simp [Sm.nums, h]
 rw [this]; simp
def bad (n k : Int) : Prop := n < 0 ∨ n > 256 ∨ k < 0 ∨ k > n
def sdc (s : List Nat) : AB := .cells (s.map B)
def L4a (s : List Nat) (n k : Nat) (m : Nat) (fr : Fr) (H : Heap) : Prop := ∃ i : Nat, i ≤ n ∧ m = n - i ∧ fr = [(1, I n), (2, I k), (3, .ptr 0 0), (8, .slice 1 0 n (some n) 1), (34, I n), (35, I i)] ∧ H = ⟨2, [(0, sdc s), (1, .cells (ints ((Sm.nums n).take i ++ List.replicate (n - i) 0)))]⟩
def L4b (s : List Nat) (n k : Nat) (m : Nat) (fr : Fr) (H : Heap) : Prop := ∃ p : Nat, p ≤ k ∧ m = k - p ∧ fr = [(1, I n), (2, I k), (3, .ptr 0 0), (8, .slice 1 0 n (some n) 1), (43, I k), (44, I p)] ∧ H = ⟨2, [(0, sdc s), (1, .cells (ints (Sm.smp (xN s) n p)))]⟩
def L4c (s : List Nat) (l : List Int) (n k p : Nat) (m : Nat) (fr : Fr) (H : Heap) : Prop := ∃ i : Nat, i ≤ 7 ∧ m = 7 - i ∧ fr = [(1, I n), (2, I k), (3, .ptr 0 0), (8, .slice 1 0 n (some n) 1), (43, I k), (44, I p), (10, I p), (12, I (xv (dg s p) i : Nat)), (54, .slice 2 0 7 (some 16) 1), (55, I 7), (56, I i)] ∧ H = ⟨3, [(0, sdc s), (1, .cells (ints l)), (2, .cells ((dg s p).map B))]⟩
theorem c10e : CallA Tryz.prog 10 [.dslice [] 0 none] Heap.nil fun v H' => v = .tuple [] ∧ H' = Heap.nil := CallA.computedR ovI_ok auOk auRf auRt_ok 1000 60 (by kernel_rfl)
def capS (n k : Nat) : Option Nat := if k = 0 then none else some n
theorem jj_lt {s : List Nat} {n p : Nat} (h : p < n) : p ≤ jj s n p ∧ jj s n p < n := Sm.smp_at h
theorem jj_eq {s : List Nat} {n p : Nat} (h : p < n) : (p : Int) + (xv (dg s p) 7 : Nat) % ((n : Int) - p) = (jj s n p : Nat) := by
 have h1 := Int.emod_nonneg (xN s p) (show (n : Int) - p ≠ 0 by omega)
 have e : (p : Int) + (xv (dg s p) 7 : Nat) % ((n : Int) - p) = p + xN s p % ((n : Int) - p) := rfl
 rw [e]; unfold jj
 rw [Int.toNat_of_nonneg (by omega)]
attribute [local irreducible] dg xv
theorem c4 (s : List Nat) (n k : Nat) (hs : s.length = 16) (hb : ∀ x ∈ s, x < 256) (hn : n ≤ 256) (hk : k ≤ n) : CallA Tryz.prog 4 [.agg (s.map B), I n, I k] Heap.nil fun v H' => v = .tuple [.dslice (ints (Sm.isort ((Sm.smp (xN s) n k).take k))) k (capS n k), I 0] ∧ H' = Heap.nil := by
 refine callA_of ok4 (Nat.le_of_ble_eq_true rfl) ?_
 have dS : dataB (sdc s) := dat_bs s
 have dI : ∀ o : List Int, ∀ c ∈ ints o, noLoc c = true := fun o => Go.Eng.ints_noLoc o
 have hr : rep [I 0] n = ints ((Sm.nums n).take 0 ++ List.replicate (n - 0) 0) := by
  rw [rep_in]; simp
 have hln : (Sm.nums n).length = n := by simp [Sm.nums]
 repeat' ((conv => whnf); first | refine Branch.ofT rfl ?_ | refine Branch.ofF rfl ?_ | refine Branch.ofF (decide_eq_false (by omega)) ?_ | refine Branch.dec (fun h => ?_) (fun h => ?_) | refine Branch.negdec (fun h => ?_) (fun h => ?_) | refine Branch.neg (fun h => ?_) (fun h => ?_) | refine Branch.mk (fun h => ?_) (fun h => ?_) | (refine Side.mk ?_ ?_; · first | omega | decide) | (refine SideD.mk ?_ ?_; · first | omega | decide) | refine ⟨_, Nat.lt_succ_self _, To.refl (.inl ⟨rfl, ?_⟩)⟩ | refine Side.mk (by omega) ?_ | (refine Side.mk ?_ ?_; · (simp; done)) | fail)
 all_goals (conv => whnf)
 refine ⟨L4a s n k, n, To.gc [(0, true), (1, true)] [1, 2, 3, 8, 34, 35] rfl ⟨dS, (show ∀ c ∈ rep [I 0] n, noLoc c = true by rw [hr]; exact dI _), trivial⟩ ⟨0, by omega, by omega, rfl, by rw [← hr]; rfl⟩, ?_⟩
 rintro m fr H ⟨i, hi, rfl, rfl, rfl⟩
 by_cases hin : i < n
 · repeat' ((conv => whnf); first | refine Branch.ofT rfl ?_ | refine Branch.ofF rfl ?_ | refine Branch.ofT (decide_eq_true (by omega)) ?_ | refine Branch.dec (fun h => ?_) (fun h => ?_) | refine Branch.negdec (fun h => ?_) (fun h => ?_) | refine Branch.neg (fun h => ?_) (fun h => ?_) | refine Branch.mk (fun h => ?_) (fun h => ?_) | (refine Side.mk ?_ ?_; · first | omega | decide) | (refine SideD.mk ?_ ?_; · first | omega | decide) | refine ⟨_, Nat.lt_succ_self _, To.refl (.inl ⟨rfl, ?_⟩)⟩ | refine lput_in (i := i) (by simp [hln]; omega) (by omega) ?_ | (refine Side.mk ?_ ?_; · (simp; done)) | fail)
   all_goals (conv => whnf)
   rw [nums_succ hin]
   exact ⟨n - (i + 1), by omega, To.gc [(0, true), (1, true)] [1, 2, 3, 8, 34, 35] rfl ⟨dS, dI _, trivial⟩ ⟨i + 1, by omega, rfl, rfl, rfl⟩⟩
 · have hin : i = n := by omega
   subst hin
   have e0 : (Sm.nums i).take i ++ List.replicate (i - i) 0 = Sm.smp (xN s) i 0 := by
    rw [List.take_of_length_le (by omega), Nat.sub_self]; simp [Sm.smp]
   rw [e0]
   repeat' ((conv => whnf); first | refine Branch.ofT rfl ?_ | refine Branch.ofF rfl ?_ | refine Branch.ofF (decide_eq_false (by omega)) ?_ | refine Branch.dec (fun h => ?_) (fun h => ?_) | refine Branch.negdec (fun h => ?_) (fun h => ?_) | refine Branch.neg (fun h => ?_) (fun h => ?_) | refine Branch.mk (fun h => ?_) (fun h => ?_) | (refine Side.mk ?_ ?_; · first | omega | decide) | (refine SideD.mk ?_ ?_; · first | omega | decide) | refine ⟨_, Nat.lt_succ_self _, To.refl (.inl ⟨rfl, ?_⟩)⟩ | (refine Side.mk ?_ ?_; · (simp; done)) | fail)
   all_goals (conv => whnf)
   refine ⟨L4b s i k, k, To.gc [(0, true), (1, true)] [1, 2, 3, 8, 43, 44] rfl ⟨dS, dI _, trivial⟩ ⟨0, by omega, by omega, rfl, rfl⟩, ?_⟩
   rintro m fr H ⟨p, hp, rfl, rfl, rfl⟩
   have hll := Sm.smp_len (xN s) i p
   have hlk := Sm.smp_len (xN s) i k
   by_cases hpk : p < k
   · have h8 : ∀ cap, _ := fun cap => c8 s p cap hs hb (by omega)
     have hdl := dg_len s p
     have hdb := dg_lt s p
     have hj := jj_lt (s := s) (n := i) (p := p) (by omega)
     have hje := jj_eq (s := s) (n := i) (p := p) (by omega)
     have h7 := xv7 s p
     have hsw : Sm.smp (xN s) i (p + 1) = Sm.sw (Sm.smp (xN s) i p) p (jj s i p) := rfl
     generalize Sm.smp (xN s) i p = l at hll hsw
     have t16 : List.take ((16 - 0) * 1) (List.drop 0 (s.map B)) = s.map B := by rw [List.drop_zero, List.take_of_length_le (by simp [hs])]
     have tip : List.take ((ip p).length * 1) ((ip p).map B) = (ip p).map B := List.take_of_length_le (by simp)
     repeat' ((conv => whnf); first | refine Branch.ofT rfl ?_ | refine Branch.ofF rfl ?_ | refine Branch.ofT (decide_eq_true (by omega)) ?_ | refine Branch.dec (fun h => ?_) (fun h => ?_) | refine Branch.negdec (fun h => ?_) (fun h => ?_) | refine Branch.neg (fun h => ?_) (fun h => ?_) | refine Branch.mk (fun h => ?_) (fun h => ?_) | (refine Side.mk ?_ ?_; · first | omega | decide) | (refine SideD.mk ?_ ?_; · first | omega | decide) | refine ⟨_, Nat.lt_succ_self _, To.refl (.inl ⟨rfl, ?_⟩)⟩ | refine Side.mk (by rw [List.length_map]; omega) ?_ | refine bres t16 ?_ | refine QCallA.of (c9d p (by omega)) rfl (by simp [noLoc, noLocL_bs]) ?_ | refine Side.mk (by simp) ?_ | refine bres tip ?_ | refine QCallA.of (h8 _) rfl (noLocL_bs _) ?_ | refine condT (by simp [hdl]) ?_ | refine lputA (by simp [hdl]) (by rw [List.all_eq_true]; exact scal_bs _) ?_ | refine Side.mk (by rw [List.length_map]; omega) ?_ | (refine Side.mk ?_ ?_; · (simp; done)) | fail)
     all_goals (conv => whnf)
     refine ⟨L4c s l i k p, 7, To.gc [(0, true), (1, true), (9, true)] [1, 2, 3, 8, 43, 44, 10, 12, 54, 55, 56] rfl ⟨dS, dI _, dat_bs _, trivial⟩ ⟨0, by omega, by omega, by rw [show xv (dg s p) 0 = 0 by with_unfolding_all rfl]; rfl, rfl⟩, ?_⟩
     rintro m fr H ⟨q, hq, rfl, rfl, rfl⟩
     by_cases hq7 : q < 7
     · have hx6 := pow6 hdb hq7
       have hbq : (dg s p).getD q 0 < 256 := getD_lt hdb (by omega) q
       have hxs : xv (dg s p) (q + 1) = 256 * xv (dg s p) q + (dg s p).getD q 0 := by with_unfolding_all rfl
       have hso := shl_or hx6 hbq
       rw [← hxs] at hso
       generalize xv (dg s p) q = x at hso hx6
       generalize hx' : xv (dg s p) (q + 1) = x' at hso
       have hcv : IntKind.i64.min ≤ (((dg s p).getD q 0 : Nat) : Int) ∧ (((dg s p).getD q 0 : Nat) : Int) ≤ IntKind.i64.max := by
        have e1 : IntKind.i64.min = -9223372036854775808 := rfl
        have e2 : IntKind.i64.max = 9223372036854775807 := rfl
        omega
       repeat' ((conv => whnf); first | refine Branch.ofT rfl ?_ | refine Branch.ofF rfl ?_ | refine Branch.ofT (decide_eq_true (by omega)) ?_ | refine Branch.dec (fun h => ?_) (fun h => ?_) | refine Branch.negdec (fun h => ?_) (fun h => ?_) | refine Branch.neg (fun h => ?_) (fun h => ?_) | refine Branch.mk (fun h => ?_) (fun h => ?_) | (refine Side.mk ?_ ?_; · first | omega | decide) | (refine SideD.mk ?_ ?_; · first | omega | decide) | refine ⟨_, Nat.lt_succ_self _, To.refl (.inl ⟨rfl, ?_⟩)⟩ | refine ldC (i := q) (by omega) (by omega) ?_ | refine Side.mk hcv ?_ | (refine Side.mk ?_ ?_; · (simp; done)) | fail)
       all_goals (conv => whnf)
       exact ⟨7 - (q + 1), by omega, To.gc [(0, true), (1, true), (2, true)] [1, 2, 3, 8, 43, 44, 10, 12, 54, 55, 56] rfl ⟨dS, dI _, dat_bs _, trivial⟩ ⟨q + 1, by omega, rfl, by rw [hx', ← hso]; rfl, rfl⟩⟩
     · have hq7 : q = 7 := by omega
       subst hq7
       generalize dg s p = d at *
       generalize xv d 7 = x at *
       repeat' ((conv => whnf); first | refine Branch.ofT rfl ?_ | refine Branch.ofF rfl ?_ | refine Branch.ofF (decide_eq_false (by omega)) ?_ | refine Branch.dec (fun h => ?_) (fun h => ?_) | refine Branch.negdec (fun h => ?_) (fun h => ?_) | refine Branch.neg (fun h => ?_) (fun h => ?_) | refine Branch.mk (fun h => ?_) (fun h => ?_) | (refine Side.mk ?_ ?_; · first | omega | decide) | (refine SideD.mk ?_ ?_; · first | omega | decide) | refine ⟨_, Nat.lt_succ_self _, To.refl (.inl ⟨rfl, ?_⟩)⟩ | refine nth_in (i := jj s i p) (by omega) (by rw [hje]; omega) ?_ | refine nth_in (i := p) (by omega) (by omega) ?_ | refine lput_in (i := p) (by omega) (by omega) ?_ | refine lput_in (i := jj s i p) (by rw [List.length_set]; omega) (by rw [hje]; omega) ?_ | (refine Side.mk ?_ ?_; · (simp; done)) | fail)
       all_goals (conv => whnf)
       exact ⟨k - (p + 1), by omega, To.gc [(0, true), (1, true)] [1, 2, 3, 8, 43, 44] rfl ⟨dS, dI _, trivial⟩ ⟨p + 1, by omega, rfl, rfl, by rw [hsw]; rfl⟩⟩
   · have hpk : p = k := by omega
     subst hpk
     generalize hsm : Sm.smp (xN s) i p = l at hll
     by_cases h0 : p = 0
     · subst h0
       repeat' ((conv => whnf); first | refine Branch.ofT rfl ?_ | refine Branch.ofF rfl ?_ | refine Branch.ofF (decide_eq_false (by omega)) ?_ | refine Or.inl (Side.mk (by omega) ?_) | refine Or.inr (Side.mk (by omega) ?_) | refine Branch.dec (fun h => ?_) (fun h => ?_) | refine Branch.negdec (fun h => ?_) (fun h => ?_) | refine Branch.neg (fun h => ?_) (fun h => ?_) | refine Branch.mk (fun h => ?_) (fun h => ?_) | (refine Side.mk ?_ ?_; · first | omega | decide) | (refine SideD.mk ?_ ?_; · first | omega | decide) | refine ⟨_, Nat.lt_succ_self _, To.refl (.inl ⟨rfl, ?_⟩)⟩ | refine CallA.pure c10e rfl rfl ?_ | (refine Side.mk ?_ ?_; · (simp; done)) | fail)
       all_goals (conv => whnf)
       exact RetA.data rfl ⟨rfl, rfl⟩
     · have hst : l = l.take p ++ l.drop p := (List.take_append_drop p l).symm
       have htl : (l.take p).length = p := by rw [List.length_take]; omega
       have hso := c10 (l.take p) (ints (l.drop p)) (by omega) (some i)
       rw [htl, Sm.isort_merge, ← Go.Eng.ints_app, List.take_append_drop, ← Go.Eng.ints_app] at hso
       have hil : (Sm.isort (l.take p)).length = p := by rw [isort_len]; omega
       repeat' ((conv => whnf); first | refine Branch.ofT rfl ?_ | refine Branch.ofF rfl ?_ | refine Branch.ofF (decide_eq_false (by omega)) ?_ | refine Or.inl (Side.mk (by omega) ?_) | refine Or.inr (Side.mk (by omega) ?_) | refine Branch.dec (fun h => ?_) (fun h => ?_) | refine Branch.negdec (fun h => ?_) (fun h => ?_) | refine Branch.neg (fun h => ?_) (fun h => ?_) | refine Branch.mk (fun h => ?_) (fun h => ?_) | (refine Side.mk ?_ ?_; · first | omega | decide) | (refine SideD.mk ?_ ?_; · first | omega | decide) | refine ⟨_, Nat.lt_succ_self _, To.refl (.inl ⟨rfl, ?_⟩)⟩ | (refine CallA.lend [(1, true)] hso rfl ⟨dI _, trivial⟩ rfl ?_; rintro c H' ⟨rfl, rfl⟩; refine ⟨⟨dI _, trivial⟩, ?_⟩) | (refine Side.mk ?_ ?_; · (simp; done)) | fail)
       all_goals (conv => whnf)
       refine RetA.pub 1 rfl (dI _) (RetA.data rfl ⟨?_, rfl⟩)
       show AV.tuple [.dslice (((ints (Sm.isort (l.take p) ++ l.drop p)).drop 0).take (p * 1)) p (some i), I 0] = _
       rw [List.drop_zero, Nat.mul_one, ints_take, List.take_append_of_le_length (by omega), List.take_of_length_le (by omega)]
       unfold capS; rw [if_neg h0]
end Go.Proofs

namespace Go.Proofs
open Go Go.Eng
set_option maxRecDepth 100000
set_option maxHeartbeats 4000000

attribute [local irreducible] dg xv
theorem nums_take {n i : Nat} (h : i < n) : ints ((Sm.nums n).take i) ++ [I (i : Int)] = ints ((Sm.nums n).take (i + 1)) := by
 rw [List.take_succ]
 have : (Sm.nums n)[i]? = some (i : Int) := by simp [Sm.nums, h]
 rw [this, Go.Eng.ints_app]; rfl
def L5a (s : List Nat) (n k : Nat) (m : Nat) (fr : Fr) (H : Heap) : Prop := ∃ i : Nat, i ≤ n ∧ m = n - i ∧
 ((i = 0 ∧ fr = [(1, I n), (2, I k), (3, .ptr 0 0), (6, .ptr 1 0), (7, .nils), (8, I 0)] ∧ H = ⟨2, [(0, sdc s), (1, .cells [.nils, I 0])]⟩) ∨
  (0 < i ∧ fr = [(1, I n), (2, I k), (3, .ptr 0 0), (6, .ptr 1 0), (7, .slice 2 0 i none 1), (8, I i)] ∧ H = ⟨3, [(0, sdc s), (1, .cells [.nils, I 0]), (2, .cells (ints ((Sm.nums n).take i)))]⟩))
def L5b (s : List Nat) (n k : Nat) (m : Nat) (fr : Fr) (H : Heap) : Prop := ∃ p : Nat, p ≤ k ∧ m = k - p ∧ fr = [(1, I n), (2, I k), (3, .ptr 0 0), (6, .ptr 1 0), (7, .slice 2 0 n none 1), (9, I p)] ∧ H = ⟨3, [(0, sdc s), (1, .cells [.nils, I 0]), (2, .cells (ints (Sm.smp (xN s) n p)))]⟩
def L5c (s : List Nat) (l : List Int) (n k p : Nat) (m : Nat) (fr : Fr) (H : Heap) : Prop := ∃ i : Nat, i ≤ 7 ∧ m = 7 - i ∧ fr = [(1, I n), (2, I k), (3, .ptr 0 0), (6, .ptr 1 0), (7, .slice 2 0 n none 1), (9, I p), (10, .ptr 3 0), (11, I (xv (dg s p) i : Nat)), (12, I i)] ∧ H = ⟨4, [(0, sdc s), (1, .cells [.nils, I 0]), (2, .cells (ints l)), (3, .cells ((dg s p).map B))]⟩
def lst5 (o : List Int) : AV := if o.length = 0 then .nils else .dslice (ints o) o.length none
theorem c5z (s : List Nat) (hs : s.length = 16) : CallA Tryz.prog 5 [.agg (s.map B), I 0, I 0] Heap.nil fun v H' => v = .agg [.nils, I 0] ∧ H' = Heap.nil := by
 refine callA_of ok5 (Nat.le_of_ble_eq_true rfl) ?_
 have h14 := c14 [] 0 none (by simp) (by omega)
 have h14' : CallA Tryz.prog 14 [.nils] Heap.nil fun v H' => v = .nils ∧ H' = Heap.nil := by
  refine callA_of ok14 (Nat.le_of_ble_eq_true rfl) ?_
  repeat' ((conv => whnf); first | refine Branch.ofT rfl ?_ | refine Branch.ofF rfl ?_ | refine Branch.dec (fun h => ?_) (fun h => ?_) | refine Branch.negdec (fun h => ?_) (fun h => ?_) | refine Branch.neg (fun h => ?_) (fun h => ?_) | refine Branch.mk (fun h => ?_) (fun h => ?_) | (refine Side.mk ?_ ?_; · first | omega | decide) | (refine SideD.mk ?_ ?_; · first | omega | decide) | refine ⟨_, Nat.lt_succ_self _, To.refl (.inl ⟨rfl, ?_⟩)⟩ | refine LoopA.unroll _ _ _ 3 ?_ | (refine Side.mk ?_ ?_; · (simp; done)) | fail)
  all_goals (conv => whnf)
  exact RetA.data rfl ⟨rfl, rfl⟩
 repeat' ((conv => whnf); first | refine Branch.ofT rfl ?_ | refine Branch.ofF rfl ?_ | refine LoopA.unroll _ _ _ 3 ?_ | refine Branch.dec (fun h => ?_) (fun h => ?_) | refine Branch.negdec (fun h => ?_) (fun h => ?_) | refine Branch.neg (fun h => ?_) (fun h => ?_) | refine Branch.mk (fun h => ?_) (fun h => ?_) | (refine Side.mk ?_ ?_; · first | omega | decide) | (refine SideD.mk ?_ ?_; · first | omega | decide) | refine ⟨_, Nat.lt_succ_self _, To.refl (.inl ⟨rfl, ?_⟩)⟩ | refine CallA.pure h14' rfl rfl ?_ | (refine Side.mk ?_ ?_; · (simp; done)) | fail)
 all_goals (conv => whnf)
 exact RetA.data rfl ⟨rfl, rfl⟩
theorem c5 (s : List Nat) (n k : Nat) (hs : s.length = 16) (hb : ∀ x ∈ s, x < 256) (hn : n ≤ 256) (hk : k ≤ n) (hn0 : 0 < n) : CallA Tryz.prog 5 [.agg (s.map B), I n, I k] Heap.nil fun v H' => v = .agg [lst5 (Sm.isort ((Sm.smp (xN s) n k).take k)), I 0] ∧ H' = Heap.nil := by
 refine callA_of ok5 (Nat.le_of_ble_eq_true rfl) ?_
 have dS : dataB (sdc s) := dat_bs s
 have dI : ∀ o : List Int, ∀ c ∈ ints o, noLoc c = true := fun o => Go.Eng.ints_noLoc o
 have hln : (Sm.nums n).length = n := by simp [Sm.nums]
 repeat' ((conv => whnf); first | refine Branch.ofT rfl ?_ | refine Branch.ofF rfl ?_ | refine Branch.ofF (decide_eq_false (by omega)) ?_ | refine Branch.dec (fun h => ?_) (fun h => ?_) | refine Branch.negdec (fun h => ?_) (fun h => ?_) | refine Branch.neg (fun h => ?_) (fun h => ?_) | refine Branch.mk (fun h => ?_) (fun h => ?_) | (refine Side.mk ?_ ?_; · first | omega | decide) | (refine SideD.mk ?_ ?_; · first | omega | decide) | refine ⟨_, Nat.lt_succ_self _, To.refl (.inl ⟨rfl, ?_⟩)⟩ | (refine Side.mk ?_ ?_; · (simp; done)) | fail)
 all_goals (conv => whnf)
 refine ⟨L5a s n k, n, To.gc [(0, true), (1, true)] [1, 2, 3, 6, 7, 8] rfl ⟨dS, dat rfl, trivial⟩ ⟨0, by omega, by omega, .inl ⟨rfl, rfl, rfl⟩⟩, ?_⟩
 rintro m fr H ⟨i, hi, rfl, h⟩
 by_cases hin : i < n
 · have hns := nums_take hin
   rcases h with ⟨rfl, rfl, rfl⟩ | ⟨hi0, rfl, rfl⟩
   · repeat' ((conv => whnf); first | refine Branch.ofT rfl ?_ | refine Branch.ofF rfl ?_ | refine Branch.ofT (decide_eq_true (by omega)) ?_ | refine Branch.dec (fun h => ?_) (fun h => ?_) | refine Branch.negdec (fun h => ?_) (fun h => ?_) | refine Branch.neg (fun h => ?_) (fun h => ?_) | refine Branch.mk (fun h => ?_) (fun h => ?_) | (refine Side.mk ?_ ?_; · first | omega | decide) | (refine SideD.mk ?_ ?_; · first | omega | decide) | refine ⟨_, Nat.lt_succ_self _, To.refl (.inl ⟨rfl, ?_⟩)⟩ | refine Side.mk ⟨by unfold fits; omega, one_scal _⟩ ?_ | (refine Side.mk ?_ ?_; · (simp; done)) | fail)
     all_goals (conv => whnf)
     exact ⟨n - (0 + 1), by omega, To.gc [(0, true), (1, true), (2, true)] [1, 2, 3, 6, 7, 8] rfl ⟨dS, dat rfl, dat rfl, trivial⟩ ⟨0 + 1, by omega, rfl, .inr ⟨by omega, rfl, by rw [← hns]; rfl⟩⟩⟩
   · have hlt : (ints ((Sm.nums n).take i)).length = i := by rw [Go.Eng.ints_len, List.length_take]; omega
     repeat' ((conv => whnf); first | refine Branch.ofT rfl ?_ | refine Branch.ofF rfl ?_ | refine Branch.ofT (decide_eq_true (by omega)) ?_ | refine Branch.dec (fun h => ?_) (fun h => ?_) | refine Branch.negdec (fun h => ?_) (fun h => ?_) | refine Branch.neg (fun h => ?_) (fun h => ?_) | refine Branch.mk (fun h => ?_) (fun h => ?_) | (refine Side.mk ?_ ?_; · first | omega | decide) | (refine SideD.mk ?_ ?_; · first | omega | decide) | refine ⟨_, Nat.lt_succ_self _, To.refl (.inl ⟨rfl, ?_⟩)⟩ | refine Side.mk (appI hlt (by omega) (one_scal _) (by omega)) ?_ | (refine Side.mk ?_ ?_; · (simp; done)) | fail)
     all_goals (conv => whnf)
     exact ⟨n - (i + 1), by omega, To.gc [(0, true), (1, true), (3, true)] [1, 2, 3, 6, 7, 8] rfl ⟨dS, dat rfl, (show ∀ c ∈ ints ((Sm.nums n).take i) ++ [I (i : Int)], noLoc c = true by rw [hns]; exact dI _), trivial⟩ ⟨i + 1, by omega, rfl, .inr ⟨by omega, rfl, by rw [← hns]; rfl⟩⟩⟩
 · have hin : i = n := by omega
   subst hin
   rcases h with ⟨h, _⟩ | ⟨hi0, rfl, rfl⟩
   · omega
   have e0 : (Sm.nums i).take i = Sm.smp (xN s) i 0 := by
    rw [List.take_of_length_le (by omega)]; rfl
   rw [e0]
   repeat' ((conv => whnf); first | refine Branch.ofT rfl ?_ | refine Branch.ofF rfl ?_ | refine Branch.ofF (decide_eq_false (by omega)) ?_ | refine Branch.dec (fun h => ?_) (fun h => ?_) | refine Branch.negdec (fun h => ?_) (fun h => ?_) | refine Branch.neg (fun h => ?_) (fun h => ?_) | refine Branch.mk (fun h => ?_) (fun h => ?_) | (refine Side.mk ?_ ?_; · first | omega | decide) | (refine SideD.mk ?_ ?_; · first | omega | decide) | refine ⟨_, Nat.lt_succ_self _, To.refl (.inl ⟨rfl, ?_⟩)⟩ | (refine Side.mk ?_ ?_; · (simp; done)) | fail)
   all_goals (conv => whnf)
   refine ⟨L5b s i k, k, To.gc [(0, true), (1, true), (2, true)] [1, 2, 3, 6, 7, 9] rfl ⟨dS, dat rfl, dI _, trivial⟩ ⟨0, by omega, by omega, rfl, rfl⟩, ?_⟩
   rintro m fr H ⟨p, hp, rfl, rfl, rfl⟩
   have hll := Sm.smp_len (xN s) i p
   by_cases hpk : p < k
   · have h11 : ∀ cap, _ := fun cap => c11 s p cap hs hb (by omega)
     have hdl := dg_len s p
     have hdb := dg_lt s p
     have hj := jj_lt (s := s) (n := i) (p := p) (by omega)
     have hje := jj_eq (s := s) (n := i) (p := p) (by omega)
     have h7 := xv7 s p
     have hsw : Sm.smp (xN s) i (p + 1) = Sm.sw (Sm.smp (xN s) i p) p (jj s i p) := rfl
     generalize Sm.smp (xN s) i p = l at hll hsw
     have tip : List.take ((ip p).length * 1) ((ip p).map B) = (ip p).map B := List.take_of_length_le (by simp)
     have tk16 : ∀ K : List AV → Prop, K (s.map B) → takeK 16 (s.map B) K := fun K hk => by
      have := tkBn (d := s) (n := 16) (K := K) hs hk
      rwa [List.drop_zero] at this
     repeat' ((conv => whnf); first | refine Branch.ofT rfl ?_ | refine Branch.ofF rfl ?_ | refine Branch.ofT (decide_eq_true (by omega)) ?_ | refine Branch.dec (fun h => ?_) (fun h => ?_) | refine Branch.negdec (fun h => ?_) (fun h => ?_) | refine Branch.neg (fun h => ?_) (fun h => ?_) | refine Branch.mk (fun h => ?_) (fun h => ?_) | (refine Side.mk ?_ ?_; · first | omega | decide) | (refine SideD.mk ?_ ?_; · first | omega | decide) | refine ⟨_, Nat.lt_succ_self _, To.refl (.inl ⟨rfl, ?_⟩)⟩ | refine tk16 _ ?_ | refine CallA.pure (c12 s hs) (by simp [noLocL, noLoc, noLocL_bs]) rfl ?_ | refine CallA.own (c13 p (by omega)) rfl (noLocL_bs _) ?_ | refine Side.mk (by simp) ?_ | refine bres tip ?_ | refine CallA.pure (h11 _) rfl (noLocL_bs _) ?_ | refine condT (by simp [hdl]) ?_ | refine lputA (by simp [hdl]) (by rw [List.all_eq_true]; exact scal_bs _) ?_ | (refine Side.mk ?_ ?_; · (simp; done)) | fail)
     all_goals (conv => whnf)
     refine ⟨L5c s l i k p, 7, To.gc [(0, true), (1, true), (2, true), (4, true)] [1, 2, 3, 6, 7, 9, 10, 11, 12] rfl ⟨dS, dat rfl, dI _, dat_bs _, trivial⟩ ⟨0, by omega, by omega, by rw [show xv (dg s p) 0 = 0 by with_unfolding_all rfl]; rfl, rfl⟩, ?_⟩
     rintro m fr H ⟨q, hq, rfl, rfl, rfl⟩
     by_cases hq7 : q < 7
     · have hx6 := pow6 hdb hq7
       have hbq : (dg s p).getD q 0 < 256 := getD_lt hdb (by omega) q
       have hxs : xv (dg s p) (q + 1) = 256 * xv (dg s p) q + (dg s p).getD q 0 := by with_unfolding_all rfl
       have hxi : (256 : Int) * (xv (dg s p) q : Nat) + ((dg s p).getD q 0 : Nat) = (xv (dg s p) (q + 1) : Nat) := by omega
       generalize xv (dg s p) q = x at hxi hx6
       generalize hx' : xv (dg s p) (q + 1) = x' at hxi
       have hcv : IntKind.i64.min ≤ (((dg s p).getD q 0 : Nat) : Int) ∧ (((dg s p).getD q 0 : Nat) : Int) ≤ IntKind.i64.max := by
        have e1 : IntKind.i64.min = -9223372036854775808 := rfl
        have e2 : IntKind.i64.max = 9223372036854775807 := rfl
        omega
       repeat' ((conv => whnf); first | refine Branch.ofT rfl ?_ | refine Branch.ofF rfl ?_ | refine Branch.ofT (decide_eq_true (by omega)) ?_ | refine Branch.dec (fun h => ?_) (fun h => ?_) | refine Branch.negdec (fun h => ?_) (fun h => ?_) | refine Branch.neg (fun h => ?_) (fun h => ?_) | refine Branch.mk (fun h => ?_) (fun h => ?_) | (refine Side.mk ?_ ?_; · first | omega | decide) | (refine SideD.mk ?_ ?_; · first | omega | decide) | refine ⟨_, Nat.lt_succ_self _, To.refl (.inl ⟨rfl, ?_⟩)⟩ | refine ldC (i := q) (by omega) (by omega) ?_ | refine Side.mk hcv ?_ | (refine Side.mk ?_ ?_; · (simp; done)) | fail)
       all_goals (conv => whnf)
       exact ⟨7 - (q + 1), by omega, To.gc [(0, true), (1, true), (2, true), (3, true)] [1, 2, 3, 6, 7, 9, 10, 11, 12] rfl ⟨dS, dat rfl, dI _, dat_bs _, trivial⟩ ⟨q + 1, by omega, rfl, by rw [hx', ← hxi]; rfl, rfl⟩⟩
     · have hq7 : q = 7 := by omega
       subst hq7
       generalize dg s p = d at *
       generalize xv d 7 = x at *
       repeat' ((conv => whnf); first | refine Branch.ofT rfl ?_ | refine Branch.ofF rfl ?_ | refine Branch.ofF (decide_eq_false (by omega)) ?_ | refine Branch.dec (fun h => ?_) (fun h => ?_) | refine Branch.negdec (fun h => ?_) (fun h => ?_) | refine Branch.neg (fun h => ?_) (fun h => ?_) | refine Branch.mk (fun h => ?_) (fun h => ?_) | (refine Side.mk ?_ ?_; · first | omega | decide) | (refine SideD.mk ?_ ?_; · first | omega | decide) | refine ⟨_, Nat.lt_succ_self _, To.refl (.inl ⟨rfl, ?_⟩)⟩ | refine nth_in (i := p) (by omega) (by omega) ?_ | refine nth_in (i := jj s i p) (by omega) (by rw [hje]; omega) ?_ | refine lput_in (i := p) (by omega) (by omega) ?_ | refine lput_in (i := jj s i p) (by rw [List.length_set]; omega) (by rw [hje]; omega) ?_ | (refine Side.mk ?_ ?_; · (simp; done)) | fail)
       all_goals (conv => whnf)
       exact ⟨k - (p + 1), by omega, To.gc [(0, true), (1, true), (2, true)] [1, 2, 3, 6, 7, 9] rfl ⟨dS, dat rfl, dI _, trivial⟩ ⟨p + 1, by omega, rfl, rfl, by rw [hsw]; rfl⟩⟩
   · have hpk : p = k := by omega
     subst hpk
     generalize hsm : Sm.smp (xN s) i p = l at hll
     by_cases h0 : p = 0
     · subst h0
       have h14 : CallA Tryz.prog 14 [.dslice [] 0 none] Heap.nil fun v H' => v = .nils ∧ H' = Heap.nil := (c14 [] 0 none (by simp) (by omega)).mono fun v H' h => h.1 rfl
       repeat' ((conv => whnf); first | refine Branch.ofT rfl ?_ | refine Branch.ofF rfl ?_ | refine Branch.ofF (decide_eq_false (by omega)) ?_ | refine Or.inl (Side.mk (by omega) ?_) | refine Or.inr (Side.mk (by omega) ?_) | refine Branch.dec (fun h => ?_) (fun h => ?_) | refine Branch.negdec (fun h => ?_) (fun h => ?_) | refine Branch.neg (fun h => ?_) (fun h => ?_) | refine Branch.mk (fun h => ?_) (fun h => ?_) | (refine Side.mk ?_ ?_; · first | omega | decide) | (refine SideD.mk ?_ ?_; · first | omega | decide) | refine ⟨_, Nat.lt_succ_self _, To.refl (.inl ⟨rfl, ?_⟩)⟩ | refine CallA.pure h14 rfl rfl ?_ | (refine Side.mk ?_ ?_; · (simp; done)) | fail)
       all_goals (conv => whnf)
       exact RetA.data rfl ⟨rfl, rfl⟩
     · have htl : (l.take p).length = p := by rw [List.length_take]; omega
       have h14 : ∀ cs len cap, cs = ints (l.take p) → len = p → CallA Tryz.prog 14 [.dslice cs len cap] Heap.nil fun v H' => v = .slice 0 0 p none 1 ∧ H' = ⟨1, [(0, .cells (ints (Sm.isort (l.take p))))]⟩ := by
        rintro _ len cap rfl hle
        rw [hle]
        refine (c14 (l.take p) p cap (by omega) (by omega)).mono fun v H' h => ?_
        have := h.2 (by omega)
        rwa [List.take_take, Nat.min_self] at this
       have hil : (Sm.isort (l.take p)).length = p := by rw [isort_len]; omega
       have hcut : ∀ n d, n = p → d = 0 → List.take (n * 1) (List.drop d (ints l)) = ints (l.take p) := by
        rintro _ _ rfl rfl; rw [List.drop_zero, Nat.mul_one, ints_take]
       generalize Sm.isort (l.take p) = o at h14 hil
       repeat' ((conv => whnf); first | refine Branch.ofT rfl ?_ | refine Branch.ofF rfl ?_ | refine Branch.ofF (decide_eq_false (by omega)) ?_ | refine Or.inl (Side.mk (by omega) ?_) | refine Or.inr (Side.mk (by omega) ?_) | refine Branch.dec (fun h => ?_) (fun h => ?_) | refine Branch.negdec (fun h => ?_) (fun h => ?_) | refine Branch.neg (fun h => ?_) (fun h => ?_) | refine Branch.mk (fun h => ?_) (fun h => ?_) | (refine Side.mk ?_ ?_; · first | omega | decide) | (refine SideD.mk ?_ ?_; · first | omega | decide) | refine ⟨_, Nat.lt_succ_self _, To.refl (.inl ⟨rfl, ?_⟩)⟩ | (refine CallA.pubK 2 (ds := ints l) rfl (dI _) ?_; refine CallA.own (h14 _ _ _ (hcut _ _ (by omega) (by omega)) (by omega)) rfl (ints_noLocL _) ?_) | (refine Side.mk ?_ ?_; · (simp; done)) | fail)
       all_goals (conv => whnf)
       refine RetA.pub 3 (ds := ints o) rfl (dI _) (RetA.data rfl ⟨?_, rfl⟩)
       show AV.agg [.dslice (((ints o).drop 0).take (p * 1)) p none, I 0] = _
       rw [List.drop_zero, Nat.mul_one, ints_take, List.take_of_length_le (by omega)]
       unfold lst5; rw [if_neg (by omega), hil]
end Go.Proofs

namespace Go.Proofs
open Go Go.Eng
set_option maxRecDepth 100000
set_option maxHeartbeats 4000000

attribute [local irreducible] dg xv
theorem c4x (s : List Nat) (n k : Int) (h : n < 0 ∨ n > 256 ∨ k < 0 ∨ k > n) : CallA Tryz.prog 4 [.agg (s.map B), I n, I k] Heap.nil fun v H' => v = .tuple [.nils, I 1] ∧ H' = Heap.nil := by
 refine callA_of ok4 (Nat.le_of_ble_eq_true rfl) ?_
 repeat' ((conv => whnf); first | refine Branch.ofT rfl ?_ | refine Branch.ofF rfl ?_ | refine Branch.dec (fun h => ?_) (fun h => ?_) | refine Branch.negdec (fun h => ?_) (fun h => ?_) | refine Branch.neg (fun h => ?_) (fun h => ?_) | refine Branch.mk (fun h => ?_) (fun h => ?_) | (refine Side.mk ?_ ?_; · first | omega | decide) | (refine SideD.mk ?_ ?_; · first | omega | decide) | refine ⟨_, Nat.lt_succ_self _, To.refl (.inl ⟨rfl, ?_⟩)⟩ | refine Side.mk (by omega) ?_ | (refine Side.mk ?_ ?_; · (simp; done)) | fail)
 all_goals (conv => whnf)
 all_goals first
  | exact RetA.data rfl ⟨rfl, rfl⟩
  | (exfalso; omega)
theorem c5x (s : List Nat) (n k : Int) (h : n < 0 ∨ n > 256 ∨ k < 0 ∨ k > n) : CallA Tryz.prog 5 [.agg (s.map B), I n, I k] Heap.nil fun v H' => v = .agg [.nils, I 1] ∧ H' = Heap.nil := by
 refine callA_of ok5 (Nat.le_of_ble_eq_true rfl) ?_
 repeat' ((conv => whnf); first | refine Branch.ofT rfl ?_ | refine Branch.ofF rfl ?_ | refine Branch.dec (fun h => ?_) (fun h => ?_) | refine Branch.negdec (fun h => ?_) (fun h => ?_) | refine Branch.neg (fun h => ?_) (fun h => ?_) | refine Branch.mk (fun h => ?_) (fun h => ?_) | (refine Side.mk ?_ ?_; · first | omega | decide) | (refine SideD.mk ?_ ?_; · first | omega | decide) | refine ⟨_, Nat.lt_succ_self _, To.refl (.inl ⟨rfl, ?_⟩)⟩ | refine Side.mk (by omega) ?_ | (refine Side.mk ?_ ?_; · (simp; done)) | fail)
 all_goals (conv => whnf)
 all_goals first
  | exact RetA.data rfl ⟨rfl, rfl⟩
  | (exfalso; omega)
theorem c6nn : CallA Tryz.prog 6 [.nils, .nils] Heap.nil fun v H' => v = .bool true ∧ H' = Heap.nil := by
 refine callA_of ok6 (Nat.le_of_ble_eq_true rfl) ?_
 repeat' ((conv => whnf); first | refine Branch.ofT rfl ?_ | refine Branch.ofF rfl ?_ | refine Branch.dec (fun h => ?_) (fun h => ?_) | refine Branch.negdec (fun h => ?_) (fun h => ?_) | refine Branch.neg (fun h => ?_) (fun h => ?_) | refine Branch.mk (fun h => ?_) (fun h => ?_) | (refine Side.mk ?_ ?_; · first | omega | decide) | (refine SideD.mk ?_ ?_; · first | omega | decide) | refine ⟨_, Nat.lt_succ_self _, To.refl (.inl ⟨rfl, ?_⟩)⟩ | refine LoopA.unroll _ _ _ 3 ?_ | (refine Side.mk ?_ ?_; · (simp; done)) | fail)
 all_goals (conv => whnf)
 exact RetA.data rfl ⟨rfl, rfl⟩
def L3 (s : List Nat) (o : List Int) (n k : Nat) (cap : Option Nat) (m : Nat) (fr : Fr) (H : Heap) : Prop := ∃ p : Nat, p ≤ k ∧ m = k - p ∧ fr = [(1, I n), (2, I k), (7, .dslice (ints o) k cap), (10, I p)] ∧ H = Heap.nil
theorem c3a (s : List Nat) (o : List Int) (n k : Nat) (cap : Option Nat) (w : AV) (hs : s.length = 16) (hn : n ≤ 256) (hk : k ≤ n) (hol : o.length = k) (hso : ∀ p, p + 1 < k → o.getD p 0 < o.getD (p + 1) 0) (hr : ∀ p, p < k → 0 ≤ o.getD p 0 ∧ o.getD p 0 < n)
 (hw : w = .nils ∨ w = .dslice (ints o) k none)
 (h4 : CallA Tryz.prog 4 [.agg (s.map B), I n, I k] Heap.nil fun v H' => v = .tuple [.dslice (ints o) k cap, I 0] ∧ H' = Heap.nil)
 (h5 : CallA Tryz.prog 5 [.agg (s.map B), I n, I k] Heap.nil fun v H' => v = .agg [w, I 0] ∧ H' = Heap.nil)
 (h6 : CallA Tryz.prog 6 [.dslice (ints o) k cap, w] Heap.nil fun v H' => v = .bool true ∧ H' = Heap.nil) : CallA Tryz.prog 3 [.agg (s.map B), I n, I k] Heap.nil fun v H' => v = .bool true ∧ H' = Heap.nil := by
 refine callA_of ok3 (Nat.le_of_ble_eq_true rfl) ?_
 have hwl : noLoc w = true := by rcases hw with rfl | rfl <;> simp [noLoc, ints_noLocL]
 have tk16 : ∀ K : List AV → Prop, K (s.map B) → takeK 16 (s.map B) K := fun K hk => by
  have := tkBn (d := s) (n := 16) (K := K) hs hk
  rwa [List.drop_zero] at this
 have na : noLocL [.agg (s.map B), I n, I k] = true := by simp [noLocL, noLoc, noLocL_bs]
 rcases hw with rfl | rfl
 all_goals
  repeat' ((conv => whnf); first | refine Branch.ofT rfl ?_ | refine Branch.ofF rfl ?_ | refine Branch.dec (fun h => ?_) (fun h => ?_) | refine Branch.negdec (fun h => ?_) (fun h => ?_) | refine Branch.neg (fun h => ?_) (fun h => ?_) | refine Branch.mk (fun h => ?_) (fun h => ?_) | (refine Side.mk ?_ ?_; · first | omega | decide) | (refine SideD.mk ?_ ?_; · first | omega | decide) | refine ⟨_, Nat.lt_succ_self _, To.refl (.inl ⟨rfl, ?_⟩)⟩ | refine tk16 _ ?_ | refine CallA.pure h4 na (by simp [noLoc, noLocL, ints_noLocL]) ?_ | refine CallA.pure h5 na (by simp [noLoc, noLocL, ints_noLocL]) ?_ | refine CallA.pure h6 (by simp [noLoc, noLocL, ints_noLocL]) rfl ?_ | (refine Side.mk ?_ ?_; · (simp; done)) | fail)
  all_goals (conv => whnf)
  refine ⟨L3 s o n k cap, k, To.gc [] [1, 2, 7, 10] rfl trivial ⟨0, by omega, by omega, rfl, rfl⟩, ?_⟩
  rintro m fr H ⟨p, hp, rfl, rfl, rfl⟩
  by_cases hpk : p < k
  · obtain ⟨r1, r2⟩ := hr p hpk
    by_cases hp0 : 0 < p
    · have hs1 := hso (p - 1) (by omega)
      rw [show p - 1 + 1 = p by omega] at hs1
      repeat' ((conv => whnf); first | refine Branch.ofT rfl ?_ | refine Branch.ofF rfl ?_ | refine Branch.ofT (decide_eq_true (by omega)) ?_ | refine Branch.ofF (decide_eq_false (by omega)) ?_ | refine nth_in (i := p) (by omega) (by omega) ?_ | refine nth_in (i := p - 1) (by omega) (by omega) ?_ | refine Branch.dec (fun h => ?_) (fun h => ?_) | refine Branch.negdec (fun h => ?_) (fun h => ?_) | refine Branch.neg (fun h => ?_) (fun h => ?_) | refine Branch.mk (fun h => ?_) (fun h => ?_) | (refine Side.mk ?_ ?_; · first | omega | decide) | (refine SideD.mk ?_ ?_; · first | omega | decide) | refine ⟨_, Nat.lt_succ_self _, To.refl (.inl ⟨rfl, ?_⟩)⟩ | refine Side.mk (by omega) ?_ | (refine Side.mk ?_ ?_; · (simp; done)) | fail)
      all_goals (conv => whnf)
      exact ⟨k - (p + 1), by omega, To.gc [] [1, 2, 7, 10] rfl trivial ⟨p + 1, by omega, rfl, rfl, rfl⟩⟩
    · repeat' ((conv => whnf); first | refine Branch.ofT rfl ?_ | refine Branch.ofF rfl ?_ | refine Branch.ofT (decide_eq_true (by omega)) ?_ | refine Branch.ofF (decide_eq_false (by omega)) ?_ | refine nth_in (i := p) (by omega) (by omega) ?_ | refine Branch.dec (fun h => ?_) (fun h => ?_) | refine Branch.negdec (fun h => ?_) (fun h => ?_) | refine Branch.neg (fun h => ?_) (fun h => ?_) | refine Branch.mk (fun h => ?_) (fun h => ?_) | (refine Side.mk ?_ ?_; · first | omega | decide) | (refine SideD.mk ?_ ?_; · first | omega | decide) | refine ⟨_, Nat.lt_succ_self _, To.refl (.inl ⟨rfl, ?_⟩)⟩ | refine Side.mk (by omega) ?_ | (refine Side.mk ?_ ?_; · (simp; done)) | fail)
      all_goals (conv => whnf)
      exact ⟨k - (p + 1), by omega, To.gc [] [1, 2, 7, 10] rfl trivial ⟨p + 1, by omega, rfl, rfl, rfl⟩⟩
  · repeat' ((conv => whnf); first | refine Branch.ofT rfl ?_ | refine Branch.ofF rfl ?_ | refine Branch.ofF (decide_eq_false (by omega)) ?_ | refine Branch.dec (fun h => ?_) (fun h => ?_) | refine Branch.negdec (fun h => ?_) (fun h => ?_) | refine Branch.neg (fun h => ?_) (fun h => ?_) | refine Branch.mk (fun h => ?_) (fun h => ?_) | (refine Side.mk ?_ ?_; · first | omega | decide) | (refine SideD.mk ?_ ?_; · first | omega | decide) | refine ⟨_, Nat.lt_succ_self _, To.refl (.inl ⟨rfl, ?_⟩)⟩ | refine CallA.pure san rfl rfl ?_ | (refine Side.mk ?_ ?_; · (simp; done)) | fail)
    all_goals (conv => whnf)
    refine RetA.data rfl ⟨?_, rfl⟩
    simp [Go.Eng.one]
theorem c3 (s : List Nat) (n k : Int) (hs : s.length = 16) (hb : ∀ x ∈ s, x < 256) : CallA Tryz.prog 3 [.agg (s.map B), I n, I k] Heap.nil fun v H' => v = .bool true ∧ H' = Heap.nil := by
 by_cases h : n < 0 ∨ n > 256 ∨ k < 0 ∨ k > n
 · have h4 := c4x s n k h
   have h5 := c5x s n k h
   have tk16 : ∀ K : List AV → Prop, K (s.map B) → takeK 16 (s.map B) K := fun K hk => by
    have := tkBn (d := s) (n := 16) (K := K) hs hk
    rwa [List.drop_zero] at this
   have na : noLocL [.agg (s.map B), I n, I k] = true := by simp [noLocL, noLoc, noLocL_bs]
   refine callA_of ok3 (Nat.le_of_ble_eq_true rfl) ?_
   repeat' ((conv => whnf); first | refine Branch.ofT rfl ?_ | refine Branch.ofF rfl ?_ | refine Branch.dec (fun h => ?_) (fun h => ?_) | refine Branch.negdec (fun h => ?_) (fun h => ?_) | refine Branch.neg (fun h => ?_) (fun h => ?_) | refine Branch.mk (fun h => ?_) (fun h => ?_) | (refine Side.mk ?_ ?_; · first | omega | decide) | (refine SideD.mk ?_ ?_; · first | omega | decide) | refine ⟨_, Nat.lt_succ_self _, To.refl (.inl ⟨rfl, ?_⟩)⟩ | refine tk16 _ ?_ | refine CallA.pure h4 na rfl ?_ | refine CallA.pure h5 na rfl ?_ | refine CallA.pure c6nn rfl rfl ?_ | refine CallA.pure san rfl rfl ?_ | (refine Side.mk ?_ ?_; · (simp; done)) | fail)
   all_goals (conv => whnf)
   exact RetA.data rfl ⟨rfl, rfl⟩
 · obtain ⟨n, rfl⟩ : ∃ m : Nat, n = m := ⟨n.toNat, by omega⟩
   obtain ⟨k, rfl⟩ : ∃ m : Nat, k = m := ⟨k.toNat, by omega⟩
   have hn : n ≤ 256 := by omega
   have hk : k ≤ n := by omega
   have h4 := c4 s n k hs hb hn hk
   obtain ⟨q1, q2, q3⟩ := Sm.sample (xN s) hk
   by_cases hn0 : 0 < n
   · have h5 := c5 s n k hs hb hn hk hn0
     generalize Sm.isort ((Sm.smp (xN s) n k).take k) = o at *
     have gd : ∀ p (hp : p < o.length), o.getD p 0 = o[p] := fun p hp => by rw [List.getD_eq_getElem?_getD, List.getElem?_eq_getElem hp]; rfl
     have hso : ∀ p, p + 1 < k → o.getD p 0 < o.getD (p + 1) 0 := fun p hp => by
      rw [gd p (by omega), gd (p + 1) (by omega)]
      exact List.pairwise_iff_getElem.1 q2 p (p + 1) (by omega) (by omega) (by omega)
     have hr : ∀ p, p < k → 0 ≤ o.getD p 0 ∧ o.getD p 0 < n := fun p hp => by
      rw [gd p (by omega)]
      exact q3 _ (List.getElem_mem _)
     by_cases hk0 : k = 0
     · have ho : o = [] := List.eq_nil_of_length_eq_zero (by omega)
       subst ho; subst hk0
       exact c3a s [] n 0 none .nils hs hn hk rfl hso hr (.inl rfl) h4 h5 (c6n none)
     · have e5 : lst5 o = .dslice (ints o) k none := by unfold lst5; rw [if_neg (by omega), q1]
       rw [e5] at h5
       have h6 := c6 o o (capS n k) none (by omega)
       rw [decide_eq_true rfl, q1] at h6
       exact c3a s o n k _ _ hs hn hk q1 hso hr (.inr rfl) h4 h5 h6
   · have hn0 : n = 0 := by omega
     subst hn0
     have hk0 : k = 0 := by omega
     subst hk0
     exact c3a s [] 0 0 none .nils hs hn hk rfl (fun p hp => absurd hp (by omega)) (fun p hp => absurd hp (by omega)) (.inl rfl) h4 (c5z s hs) (c6n none)
end Go.Proofs

