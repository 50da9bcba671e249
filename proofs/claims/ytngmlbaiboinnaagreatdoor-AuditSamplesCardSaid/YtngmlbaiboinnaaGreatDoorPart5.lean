/- Part of a proof about the given program: lemmas that the other parts use. -/
import Derived.Test.YtngmlbaiboinnaaGreatDoorPart3
import Derived.Test.YtngmlbaiboinnaaGreatDoorPart4
import Derived.Test.YtngmlbaiboinnaaGreatDoorPart2
import Derived.Shelf.Sort.Plain

set_option linter.all false
set_option linter.unusedSimpArgs false
set_option linter.unusedVariables false
namespace Go.Eng
open Go
variable [Globs]

inductive BT (α : Type) where
 | nil
 | node (v : Option α) (l r : BT α)
namespace BT
variable {α : Type}
def get : BT α → Nat → Option α
 | nil, _ => none
 | node v l r, n => match n with
  | 0 => v
  | n + 1 => bif Nat.beq (Nat.mod n 2) 0 then l.get (Nat.div n 2) else r.get (Nat.div n 2)
def set (v : α) : Nat → BT α → Nat → Option (BT α)
 | 0, _, _ => none
 | d + 1, nil, n => match n with
  | 0 => some (node (some v) nil nil)
  | n + 1 => bif Nat.beq (Nat.mod n 2) 0 then (match set v d nil (Nat.div n 2) with
   | some l => some (node none l nil)
   | none => none) else (match set v d nil (Nat.div n 2) with
   | some r => some (node none nil r)
   | none => none)
 | d + 1, node u l r, n => match n with
  | 0 => some (node (some v) l r)
  | n + 1 => bif Nat.beq (Nat.mod n 2) 0 then (match set v d l (Nat.div n 2) with
   | some l => some (node u l r)
   | none => none) else (match set v d r (Nat.div n 2) with
   | some r => some (node u l r)
   | none => none)
theorem par {n m : Nat} (h : Nat.mod n 2 = Nat.mod m 2) (k : Nat.div n 2 = Nat.div m 2) : n = m := by
 have h : n % 2 = m % 2 := h
 have k : n / 2 = m / 2 := k
 omega
theorem get_set (v : α) : ∀ {d : Nat} {t t' : BT α} {n : Nat}, set v d t n = some t' → ∀ m, t'.get m = if n = m then some v else t.get m
 | 0, _, _, _, h, _ => by simp [set] at h
 | d + 1, nil, t', n, h, m => by
  cases n with
  | zero =>
   simp only [set, Option.some.injEq] at h; subst h
   cases m with
   | zero => simp [get]
   | succ m => simp [get]
  | succ n =>
   simp only [set] at h
   cases hb : Nat.beq (Nat.mod n 2) 0 <;> simp only [hb, cond_true, cond_false] at h
   all_goals
    split at h
    · rename_i s hs
      simp only [Option.some.injEq] at h; subst h
      have ih := get_set v hs
      cases m with
      | zero => simp [get]
      | succ m =>
       simp only [get, Nat.add_right_cancel_iff]
       have h2 : Nat.mod n 2 < 2 := Nat.mod_lt _ (by decide)
       have h3 : Nat.mod m 2 < 2 := Nat.mod_lt _ (by decide)
       cases hc : Nat.beq (Nat.mod m 2) 0 <;> simp only [cond_true, cond_false]
       all_goals first
        | (rw [ih]
           by_cases e : Nat.div n 2 = Nat.div m 2
           · rw [if_pos e, if_pos]
             refine par ?_ e
             cases hn : Nat.mod n 2 with
             | zero => cases hm : Nat.mod m 2 with
              | zero => rfl
              | succ y => rw [hn] at hb; rw [hm] at hc; simp at hb hc
             | succ x => cases hm : Nat.mod m 2 with
              | zero => rw [hn] at hb; rw [hm] at hc; simp at hb hc
              | succ y => omega
           · rw [if_neg e, if_neg (fun h => e (by rw [h]))]; try rfl)
        | (rw [if_neg]; rintro rfl; rw [hb] at hc; cases hc)
        | (rw [if_neg]; · (try rfl)
           rintro rfl; rw [hb] at hc; cases hc)
    · cases h
 | d + 1, node u l r, t', n, h, m => by
  cases n with
  | zero =>
   simp only [set, Option.some.injEq] at h; subst h
   cases m with
   | zero => simp [get]
   | succ m => simp [get]
  | succ n =>
   simp only [set] at h
   cases hb : Nat.beq (Nat.mod n 2) 0 <;> simp only [hb, cond_true, cond_false] at h
   all_goals
    split at h
    · rename_i s hs
      simp only [Option.some.injEq] at h; subst h
      have ih := get_set v hs
      cases m with
      | zero => simp [get]
      | succ m =>
       simp only [get, Nat.add_right_cancel_iff]
       have h2 : Nat.mod n 2 < 2 := Nat.mod_lt _ (by decide)
       have h3 : Nat.mod m 2 < 2 := Nat.mod_lt _ (by decide)
       cases hc : Nat.beq (Nat.mod m 2) 0 <;> simp only [cond_true, cond_false]
       all_goals first
        | (rw [ih]
           by_cases e : Nat.div n 2 = Nat.div m 2
           · rw [if_pos e, if_pos]
             refine par ?_ e
             cases hn : Nat.mod n 2 with
             | zero => cases hm : Nat.mod m 2 with
              | zero => rfl
              | succ y => rw [hn] at hb; rw [hm] at hc; simp at hb hc
             | succ x => cases hm : Nat.mod m 2 with
              | zero => rw [hn] at hb; rw [hm] at hc; simp at hb hc
              | succ y => omega
           · rw [if_neg e, if_neg (fun h => e (by rw [h]))]; try rfl)
        | (rw [if_neg]; rintro rfl; rw [hb] at hc; cases hc)
        | (rw [if_neg]; · (try rfl)
           rintro rfl; rw [hb] at hc; cases hc)
    · cases h
end BT

section
variable {β : Type}
def forceN (m : Nat) (K : Nat → Option β) : Option β := match m with
 | 0 => K 0
 | n + 1 => K (n + 1)
theorem forceN_eq (m : Nat) (K : Nat → Option β) : forceN m K = K m := by cases m <;> rfl
def forceI (n : Int) (K : Int → Option β) : Option β := match n with
 | .ofNat m => forceN m fun m => K (.ofNat m)
 | .negSucc m => forceN m fun m => K (.negSucc m)
theorem forceI_eq (m : Int) (K : Int → Option β) : forceI m K = K m := by cases m <;> simp [forceI, forceN_eq]
def forceB (b : Bool) (K : Bool → Option β) : Option β := match b with
 | true => K true
 | false => K false
theorem forceB_eq (m : Bool) (K : Bool → Option β) : forceB m K = K m := by cases m <;> rfl
def fvE (v : AV) (K : AV → Option β) : Option β := match v with
 | .bool b => forceB b fun b => K (.bool b)
 | .int k n => forceI n fun n => K (.int k n)
 | .ptr k o => forceN k fun k => forceN o fun o => K (.ptr k o)
 | .slice k o l c e => forceN k fun k => forceN o fun o => forceN l fun l => K (.slice k o l c e)
 | .yld k => forceN k fun k => K (.yld k)
 | .dslice cs l c => forceN l fun l => K (.dslice cs l c)
 | v => K v
theorem fvE_eq (v : AV) (K : AV → Option β) : fvE v K = K v := by cases v <;> simp [fvE, forceN_eq, forceI_eq, forceB_eq]
end

def binIE (op : BinOp) (a b : Int) : Option AV := match op with
 | .add => if (-9223372036854775808 ≤ a + b ∧ a + b ≤ 9223372036854775807) then some (.int .i64 (a + b)) else none
 | .sub => if (-9223372036854775808 ≤ a - b ∧ a - b ≤ 9223372036854775807) then some (.int .i64 (a - b)) else none
 | .mul => if (-9223372036854775808 ≤ a * b ∧ a * b ≤ 9223372036854775807) then some (.int .i64 (a * b)) else none
 | .quo => if (0 ≤ a ∧ a ≤ 9223372036854775807 ∧ 0 < b) then some (.int .i64 (a / b)) else none
 | .rem => if (0 ≤ a ∧ 0 < b) then some (.int .i64 (a % b)) else none
 | .lss => some (.bool (decide (a < b)))
 | .leq => some (.bool (decide (a ≤ b)))
 | .gtr => some (.bool (decide (b < a)))
 | .geq => some (.bool (decide (b ≤ a)))
 | .eql => some (.bool (decide (a = b)))
 | .neq => some (.bool (!decide (a = b)))
 | _ => none
theorem binIE_run {op : BinOp} {a b : Int} {v : AV} {K : AV → Prop} (h : binIE op a b = some v) (hk : K v) : binI op a b K := by
 unfold binIE at h; unfold binI
 cases op <;> simp only at h ⊢ <;> first
  | (cases h; done)
  | (split at h <;> first | (cases h; done) | (rename_i hp; cases h; exact ⟨hp, hk⟩))
  | (cases h; exact hk)
def binWE (op : BinOp) (k : IntKind) (a b : Int) : Option AV := match op with
 | .add => some (.int k (k.wrap (a + b)))
 | .sub => some (.int k (k.wrap (a - b)))
 | .mul => some (.int k (k.wrap (a * b)))
 | .quo => if b ≠ 0 then some (.int k (k.wrap (a.tdiv b))) else none
 | .rem => if b ≠ 0 then some (.int k (a.tmod b)) else none
 | .and => some (.int k (k.wrap (BitVec.ofInt k.bits a &&& BitVec.ofInt k.bits b).toNat))
 | .or => some (.int k (k.wrap (BitVec.ofInt k.bits a ||| BitVec.ofInt k.bits b).toNat))
 | .xor => some (.int k (k.wrap (BitVec.ofInt k.bits a ^^^ BitVec.ofInt k.bits b).toNat))
 | .andNot => some (.int k (k.wrap (BitVec.ofInt k.bits a &&& ~~~(BitVec.ofInt k.bits b)).toNat))
 | .lss => some (.bool (decide (a < b)))
 | .leq => some (.bool (decide (a ≤ b)))
 | .gtr => some (.bool (decide (b < a)))
 | .geq => some (.bool (decide (b ≤ a)))
 | .eql => some (.bool (decide (a = b)))
 | .neq => some (.bool (!decide (a = b)))
 | _ => none
theorem binWE_run {op : BinOp} {k : IntKind} {a b : Int} {v : AV} {K : AV → Prop} (h : binWE op k a b = some v) (hk : K v) : binW op k a b K := by
 unfold binWE at h; unfold binW
 cases op <;> simp only at h ⊢ <;> first
  | (cases h; done)
  | (split at h <;> first | (cases h; done) | (rename_i hp; cases h; exact ⟨hp, hk⟩))
  | (cases h; exact hk)
def mapE (f : AX → AV) : List AX → List AV
 | [] => []
 | x :: r => f x :: mapE f r
theorem mapE_eq (f : AX → AV) : ∀ l, mapE f l = l.map f
 | [] => rfl
 | _ :: r => by simp [mapE, mapE_eq f r]
def POp.e (ev : AX → AV) : POp → Option AV
 | .mov x => some (ev x)
 | .pick c a b => match ev c with
  | .bool t => match t with
   | true => some (ev a)
   | false => some (ev b)
  | _ => none
 | .bin op x y => match ev x, ev y with
  | .int .i64 a, .int .i64 b => binIE op a b
  | .str a, .str b => match op with
   | .eql => some (.bool (decide (a = b)))
   | .neq => some (.bool (!decide (a = b)))
   | .add => if ((a.size + b.size : Nat) : Int) ≤ 9223372036854775807 then some (.str (a ++ b)) else none
   | _ => none
  | _, _ => none
 | .beq neg x y => match ev x, ev y with
  | .bool a, .bool b => some (.bool (if neg then !(a == b) else a == b))
  | _, _ => none
 | .binw op x y => match ev x, ev y with
  | .int k a, .int k' b => match op with
   | .shl => if 0 ≤ b then some (.int k (k.wrap (a * 2 ^ min b.toNat k.bits))) else none
   | .shr => if 0 ≤ b then some (.int k (a.fdiv (2 ^ min b.toNat k.bits))) else none
   | op => if k = k' then binWE op k a b else none
  | _, _ => none
 | .un op x => match op, ev x with
  | .not, .bool b => some (.bool (!b))
  | .neg, .int .i64 n => if (-9223372036854775807 ≤ n ∧ n ≤ 9223372036854775807) then some (.int .i64 (-n)) else none
  | .xor, .int k n => some (.int k (k.wrap (BitVec.ofInt k.bits (if k.signed then -1 else k.max) ^^^ BitVec.ofInt k.bits n).toNat))
  | _, _ => none
 | .conv k x => match ev x with
  | .int _ n => if (k.min ≤ n ∧ n ≤ k.max) then some (.int k n) else none
  | _ => none
 | .convw k x => match ev x with
  | .int _ n => some (.int k (k.wrap n))
  | _ => none
 | .fieldA off x => match ev x with
  | .dptr cs => some (.dptr (cs.drop off))
  | .ptr k o => some (.ptr k (o + off))
  | _ => none
 | .idxA e arr x i => match ev i with
  | .int _ i => match arr, ev x with
   | some n, .dptr cs => if (0 ≤ i ∧ i < n) then some (.dptr (cs.drop (i.toNat * e))) else none
   | some n, .ptr k o => if (0 ≤ i ∧ i < n) then some (.ptr k (o + i.toNat * e)) else none
   | none, .dslice cs n _ => if (0 ≤ i ∧ i < n) then some (.dptr (cs.drop (i.toNat * e))) else none
   | none, .slice k o n _ _ => if (0 ≤ i ∧ i < n) then some (.ptr k (o + i.toNat * e)) else none
   | _, _ => none
  | _ => none
 | .len str x => match str, ev x with
  | false, .dslice _ n _ => some (.int .i64 n)
  | false, .slice _ _ n _ _ => some (.int .i64 n)
  | false, .nils => some (.int .i64 0)
  | true, .str s => some (.int .i64 s.size)
  | _, _ => none
 | .extract i x => match ev x with
  | .tuple cs => cs[i]?
  | _ => none
 | .mkfn f caps => some (.func f (mapE ev caps))
 | .mkme f bs => some (.meth f (mapE ev bs))
 | .nilchk x => match ev x with
  | .ptr k o => some (.ptr k o)
  | .dptr cs => some (.dptr cs)
  | .func f cs => some (.func f cs)
  | _ => none
 | .mm mx x y => match ev x, ev y with
  | .int k a, .int _ b => some (.int k (if mx then (if b > a then b else a) else (if b < a then b else a)))
  | _, _ => none
 | .other => some .any
 | .panic => none
theorem POp.e_run {ev : AX → AV} {K : AV → Prop} {o : POp} {v : AV} (h : o.e ev = some v) (hk : K v) : o.run ev K := by
 cases o <;> simp only [POp.e, POp.run, fv_eq, fvs_eq] at h ⊢
 case mov x => cases h; exact hk
 case pick c a b =>
  generalize ev c = vc at h ⊢
  cases vc <;> simp only at h ⊢
  all_goals first | (cases h; done) | skip
  rename_i t
  cases t <;> simp only at h <;> cases h
  · exact Branch.ofF rfl hk
  · exact Branch.ofT rfl hk
 case bin op x y =>
  generalize ev x = vx at h ⊢
  generalize ev y = vy at h ⊢
  split at h
  · exact binIE_run h hk
  · cases op <;> simp only at h ⊢ <;> first | (cases h; exact hk) | (cases h; done) | skip
    split at h
    · cases h; exact ⟨‹_›, hk⟩
    · cases h
  · cases h
 case beq neg x y =>
  generalize ev x = vx at h ⊢
  generalize ev y = vy at h ⊢
  split at h
  · cases h; exact hk
  · cases h
 case binw op x y =>
  generalize ev x = vx at h ⊢
  generalize ev y = vy at h ⊢
  split at h
  · cases op <;> simp only at h ⊢
    all_goals (split at h <;> first | (cases h; done) | skip)
    all_goals first | (refine ⟨‹_›, ?_⟩; exact binWE_run h hk) | (cases h; exact ⟨‹_›, hk⟩)
  · cases h
 case un op x =>
  generalize ev x = vx at h ⊢
  split at h
  · cases h; exact hk
  · split at h
    · cases h; exact ⟨‹_›, hk⟩
    · cases h
  · cases h; exact hk
  · cases h
 case conv k x =>
  generalize ev x = vx at h ⊢
  split at h
  · split at h
    · cases h; exact ⟨‹_›, hk⟩
    · cases h
  · cases h
 case convw k x =>
  generalize ev x = vx at h ⊢
  split at h
  · cases h; exact hk
  · cases h
 case fieldA off x =>
  generalize ev x = vx at h ⊢
  split at h
  · cases h; exact hk
  · cases h; exact hk
  · cases h
 case idxA e arr x i =>
  generalize ev x = vx at h ⊢
  generalize ev i = vi at h ⊢
  split at h
  · split at h
    · split at h
      · cases h; exact ⟨‹_›, hk⟩
      · cases h
    · split at h
      · cases h; exact ⟨‹_›, hk⟩
      · cases h
    · split at h
      · cases h; exact ⟨‹_›, hk⟩
      · cases h
    · split at h
      · cases h; exact ⟨‹_›, hk⟩
      · cases h
    · cases h
  · cases h
 case len str x =>
  generalize ev x = vx at h ⊢
  split at h <;> first | (cases h; exact hk) | cases h
 case extract i x =>
  generalize ev x = vx at h ⊢
  split at h
  · simp only [h]; exact hk
  · cases h
 case mkfn f caps => cases h; rw [mapE_eq] at hk; exact hk
 case mkme f bs => cases h; rw [mapE_eq] at hk; exact hk
 case nilchk x =>
  generalize ev x = vx at h ⊢
  split at h <;> first | (cases h; exact hk) | cases h
 case mm mx x y =>
  generalize ev x = vx at h ⊢
  generalize ev y = vy at h ⊢
  split at h <;> first | (cases h; exact hk) | cases h
 case other => cases h; exact hk
 case panic => cases h
def takeE : Nat → List AV → Option (List AV)
 | 0, _ => some []
 | n + 1, c :: r => match takeE n r with
  | some l => some (c :: l)
  | none => none
 | _ + 1, [] => none
theorem takeE_run : ∀ {n : Nat} {cs l : List AV} {K : List AV → Prop}, takeE n cs = some l → K l → takeK n cs K
 | 0, _, _, _, h, hk => by simp only [takeE, Option.some.injEq] at h; subst h; exact hk
 | n + 1, c :: r, l, K, h, hk => by
  simp only [takeE] at h
  split at h
  · rename_i l' hl; cases h; simp only [takeK, fv_eq]; exact takeE_run hl hk
  · cases h
 | _ + 1, [], _, _, h, _ => by simp [takeE] at h
def loadE (agg : Bool) (n : Nat) (cs : List AV) : Option AV := match agg with
 | true => match takeE n cs with
  | some l => some (.agg l)
  | none => none
 | false => match cs with
  | c :: _ => some c
  | [] => none
theorem loadE_run {agg : Bool} {n : Nat} {cs : List AV} {v : AV} {K : AV → Prop} (h : loadE agg n cs = some v) (hk : K v) : loadK agg n cs K := by
 unfold loadE at h
 cases agg with
 | true =>
  simp only [loadK] at h ⊢
  split at h
  · rename_i l hl; cases h; exact takeE_run hl hk
  · cases h
 | false =>
  simp only [loadK_false] at h ⊢
  split at h
  · cases h; simp only [fv_eq]; exact hk
  · cases h
def lputE : List AV → Nat → List AV → Option (List AV)
 | cs, 0, [] => some cs
 | _ :: cs, 0, v :: l => bif scal v then (match lputE cs 0 l with
  | some r => some (v :: r)
  | none => none) else none
 | c :: cs, off + 1, l => match lputE cs off l with
  | some r => some (c :: r)
  | none => none
 | [], 0, _ :: _ => none
 | [], _ + 1, _ => none
theorem lputE_run : ∀ {cs : List AV} {off : Nat} {l r : List AV} {K : List AV → Prop}, lputE cs off l = some r → K r → lputK cs off l K
 | [], 0, [], r, K, h, hk => by simp only [lputE, Option.some.injEq] at h; subst h; simpa [lputK] using hk
 | _ :: _, 0, [], r, K, h, hk => by simp only [lputE, Option.some.injEq] at h; subst h; simpa [lputK] using hk
 | _ :: cs, 0, v :: l, r, K, h, hk => by
  simp only [lputE] at h; simp only [lputK]
  cases hv : scal v <;> simp only [hv, cond_true, cond_false] at h ⊢
  · cases h
  · split at h
    · rename_i r' hr; cases h; exact lputE_run hr hk
    · cases h
 | c :: cs, off + 1, l, r, K, h, hk => by
  simp only [lputE] at h; simp only [lputK]
  split at h
  · rename_i r' hr; cases h; exact lputE_run hr hk
  · cases h
 | [], 0, _ :: _, _, _, h, _ => by simp [lputE] at h
 | [], _ + 1, _, _, _, h, _ => by simp [lputE] at h
def eqCellsE : List Sc → List AV → List AV → Option Bool
 | [], [], [] => some true
 | k :: ks, c :: cs, d :: ds => match eqOne k c d with
  | some q => match eqCellsE ks cs ds with
   | some r => some (q && r)
   | none => none
  | none => none
 | _, _, _ => none
theorem eqCellsE_run : ∀ {ks : List Sc} {cs ds : List AV} {r : Bool} {K : Bool → Prop}, eqCellsE ks cs ds = some r → K r → eqCells ks cs ds K
 | [], [], [], r, K, h, hk => by simp only [eqCellsE, Option.some.injEq] at h; subst h; exact hk
 | k :: ks, c :: cs, d :: ds, r, K, h, hk => by
  simp only [eqCellsE] at h; simp only [eqCells]
  split at h
  · rename_i q hq
    split at h
    · rename_i r' hr; cases h; rw [hq]; exact eqCellsE_run hr hk
    · cases h
  · cases h
 | [], [], _ :: _, _, _, h, _ => by simp [eqCellsE] at h
 | [], _ :: _, _, _, _, h, _ => by simp [eqCellsE] at h
 | _ :: _, [], _, _, _, h, _ => by simp [eqCellsE] at h
 | _ :: _, _ :: _, [], _, _, h, _ => by simp [eqCellsE] at h
def buildE (ev : AX → AV) : List (Nat × Nat × AX) → List AV → Option (List AV)
 | [], cs => some cs
 | (off, sz, x) :: r, cs => match cellsOf (ev x) with
  | some l => bif Nat.beq l.length sz then (match lputE cs off l with
   | some cs => buildE ev r cs
   | none => none) else none
  | none => none
theorem buildE_run {ev : AX → AV} : ∀ {ps : List (Nat × Nat × AX)} {cs r : List AV} {K : List AV → Prop}, buildE ev ps cs = some r → K r → buildK ev ps cs K
 | [], _, _, _, h, hk => by simp only [buildE, Option.some.injEq] at h; subst h; exact hk
 | (off, sz, x) :: ps, cs, r, K, h, hk => by
  simp only [buildE] at h; simp only [buildK]
  split at h
  · rename_i l hl
    cases hb : Nat.beq l.length sz <;> simp only [hb, cond_true, cond_false] at h
    · cases h
    · split at h
      · rename_i cs' hcs; simp only [hl, hb, cond_true]; exact lputE_run hcs (buildE_run h hk)
      · cases h
  · cases h
def optE (ev : AX → AV) (d : Int) (x : Option AX) : Option Int := match x with
 | none => some d
 | some x => match ev x with
  | .int _ i => some i
  | _ => none
theorem optE_run {ev : AX → AV} {d i : Int} {x : Option AX} {K : Int → Prop} (h : optE ev d x = some i) (hk : K i) : optI ev d x K := by
 unfold optE at h; unfold optI
 split at h
 · cases h; exact hk
 · split at h
   · rename_i hx; cases h; simp only [hx]; exact hk
   · cases h
def VOp.e (ev : AX → AV) : VOp → Option AV
 | .field agg off n x => match ev x with
  | .agg cs => loadE agg n (cs.drop off)
  | _ => none
 | .idx agg e len x i => match ev x, ev i with
  | .agg cs, .int _ i => if (0 ≤ i ∧ i < len) then loadE agg e (cs.drop (i.toNat * e)) else none
  | _, _ => none
 | .sidx x i => match ev x, ev i with
  | .str s, .int _ i => if (0 ≤ i ∧ i < s.size) then some (.int .u8 ((s.data.getD i.toNat 0).toNat : Nat)) else none
  | _, _ => none
 | .build zero parts => match buildE ev parts zero with
  | some cs => some (.agg cs)
  | none => none
 | .eqa neg ks x y => match ev x, ev y with
  | .agg cs, .agg ds => match eqCellsE ks cs ds with
   | some r => some (.bool (if neg then !r else r))
   | none => none
  | _, _ => none
 | .isnil p neg x y => match p, ev x, ev y with
  | false, .nils, .nils => some (.bool (!neg))
  | false, .slice _ _ _ _ _, .nils => some (.bool neg)
  | false, .dslice _ n _, .nils => if 0 < n then some (.bool neg) else none
  | true, .nilp, .nilp => some (.bool (!neg))
  | true, .ptr _ _, .nilp => some (.bool neg)
  | true, .dptr _, .nilp => some (.bool neg)
  | _, _, _ => none
 | .sub e x lo hi mx => match ev x with
  | .dslice cs len cap => match optE ev 0 lo, optE ev len hi with
   | some l, some h => match mx with
    | none => if (0 ≤ l ∧ l ≤ h ∧ h ≤ len) then some (.dslice ((cs.drop (l.toNat * e)).take ((h - l).toNat * e)) (h - l).toNat (cap.map (· - l.toNat))) else none
    | some mx => match ev mx with
     | .int _ m => if (0 ≤ l ∧ l ≤ h ∧ h ≤ m ∧ m ≤ len) then some (.dslice ((cs.drop (l.toNat * e)).take ((h - l).toNat * e)) (h - l).toNat (some (m - l).toNat)) else none
     | _ => none
   | _, _ => none
  | .nils => match optE ev 0 lo, optE ev 0 hi with
   | some l, some h => match mx with
    | none => if (l = 0 ∧ h = 0) then some .nils else none
    | some mx => match ev mx with
     | .int _ m => if (l = 0 ∧ h = 0 ∧ m = 0) then some .nils else none
     | _ => none
   | _, _ => none
  | .slice k off len cap e' => match optE ev 0 lo, optE ev len hi with
   | some l, some h => match mx with
    | none => if e = e' then (if (0 ≤ l ∧ l < h ∧ h ≤ len) then some (.slice k (off + l.toNat * e) (h - l).toNat (cap.map (· - l.toNat)) e) else if (0 ≤ l ∧ l = h ∧ h ≤ len) then some (.dslice [] 0 none) else none) else none
    | some mx => match ev mx with
     | .int _ m => if (e = e' ∧ 0 ≤ l ∧ l < h ∧ h ≤ m ∧ m ≤ len) then some (.slice k (off + l.toNat * e) (h - l).toNat (some (m - l).toNat) e) else none
     | _ => none
   | _, _ => none
  | _ => none
 | .ssub x lo hi => match ev x with
  | .str s => match optE ev 0 lo, optE ev s.size hi with
   | some l, some h => if (0 ≤ l ∧ l ≤ h ∧ h ≤ s.size) then some (.str (s.extract l.toNat h.toNat)) else none
   | _, _ => none
  | _ => none
 | .s2a n x => match ev x with
  | .dslice cs len _ => if (0 < n ∧ n ≤ len) then some (.dptr cs) else none
  | .slice k off len _ _ => if n ≤ len then some (.ptr k off) else none
  | _ => none
 | .mkI t x => some (.ifc t (ev x))
 | .tas t zero x => match ev x with
  | .nili => some (.tuple [zero, .bool false])
  | .ifc t' c => bif Nat.beq t' t then some (.tuple [c, .bool true]) else some (.tuple [zero, .bool false])
  | _ => none
 | .isni neg x => match ev x with
  | .nili => some (.bool (!neg))
  | .ifc _ _ => some (.bool neg)
  | _ => none
theorem VOp.e_run {ev : AX → AV} {K : AV → Prop} {o : VOp} {v : AV} (h : o.e ev = some v) (hk : K v) : o.run ev K := by
 cases o <;> simp only [VOp.e, VOp.run] at h ⊢
 case field agg off n x =>
  generalize hevx : ev x = vx at h ⊢
  split at h
  · exact loadE_run h hk
  · cases h
 case idx agg e len x i =>
  generalize hevx : ev x = vx at h ⊢
  generalize hevi : ev i = vi at h ⊢
  split at h
  · split at h
    · exact ⟨‹_›, loadE_run h hk⟩
    · cases h
  · cases h
 case sidx x i =>
  generalize hevx : ev x = vx at h ⊢
  generalize hevi : ev i = vi at h ⊢
  split at h
  · split at h
    · cases h; exact ⟨‹_›, hk⟩
    · cases h
  · cases h
 case build zero parts =>
  split at h
  · rename_i cs hcs; cases h; exact buildE_run hcs hk
  · cases h
 case eqa neg ks x y =>
  generalize hevx : ev x = vx at h ⊢
  generalize hevy : ev y = vy at h ⊢
  split at h
  · split at h
    · rename_i r hr; cases h; exact eqCellsE_run hr hk
    · cases h
  · cases h
 case isnil p neg x y =>
  generalize hevx : ev x = vx at h ⊢
  generalize hevy : ev y = vy at h ⊢
  split at h <;> first | (cases h; exact hk) | (split at h <;> first | (cases h; exact ⟨‹_›, hk⟩) | cases h) | cases h
 case sub e x lo hi mx =>
  generalize hevx : ev x = vx at h ⊢
  split at h
  · split at h
    · rename_i l hh h1 h2
      refine optE_run h1 (optE_run h2 ?_)
      split at h
      · split at h
        · cases h; exact ⟨‹_›, hk⟩
        · cases h
      · split at h
        · rename_i hm
          split at h
          · cases h; simp only [hm]; exact ⟨‹_›, hk⟩
          · cases h
        · cases h
    · cases h
  · split at h
    · rename_i l hh h1 h2
      refine optE_run h1 (optE_run h2 ?_)
      split at h
      · split at h
        · cases h; exact ⟨‹_›, hk⟩
        · cases h
      · split at h
        · rename_i hm
          split at h
          · cases h; simp only [hm]; exact ⟨‹_›, hk⟩
          · cases h
        · cases h
    · cases h
  · split at h
    · rename_i l hh h1 h2
      refine optE_run h1 (optE_run h2 ?_)
      split at h
      · split at h
        · rename_i he
          refine ⟨he, ?_⟩
          split at h
          · cases h; exact .inl ⟨‹_›, hk⟩
          · split at h
            · cases h; exact .inr ⟨‹_›, hk⟩
            · cases h
        · cases h
      · split at h
        · rename_i hm
          split at h
          · cases h; simp only [hm]; exact ⟨‹_›, hk⟩
          · cases h
        · cases h
    · cases h
  · cases h
 case ssub x lo hi =>
  generalize hevx : ev x = vx at h ⊢
  split at h
  · split at h
    · rename_i l hh h1 h2
      refine optE_run h1 (optE_run h2 ?_)
      split at h
      · cases h; exact ⟨‹_›, hk⟩
      · cases h
    · cases h
  · cases h
 case s2a n x =>
  generalize hevx : ev x = vx at h ⊢
  split at h
  · split at h
    · cases h; exact ⟨‹_›, hk⟩
    · cases h
  · split at h
    · cases h; exact ⟨‹_›, hk⟩
    · cases h
  · cases h
 case mkI t x => simp only [fv_eq]; cases h; exact hk
 case tas t z x =>
  generalize hevx : ev x = vx at h ⊢
  split at h
  · cases h; exact hk
  · rename_i t' c
    cases hb : Nat.beq t' t <;> simp only [hb, cond_true, cond_false] at h ⊢ <;> (cases h; exact hk)
  · cases h
 case isni neg x =>
  generalize hevx : ev x = vx at h ⊢
  split at h <;> first | (cases h; exact hk) | cases h
end Go.Eng

namespace Go.Eng
open Go
variable [Globs]

structure EH where
 nx : Nat
 bs : BT AB
def EH.get (T : EH) (k : Nat) : AB := match T.bs.get k with
 | some b => b
 | none => .dead
def EH.nil : EH := ⟨0, .nil⟩
def EH.put (T : EH) (k : Nat) (b : AB) : Option EH := bif b.isIt then none else (match BT.set b 40 T.bs k with
 | some bs => some ⟨T.nx, bs⟩
 | none => none)
def EH.push (T : EH) (b : AB) : Option EH := bif b.isIt then none else (match BT.set b 40 T.bs T.nx with
 | some bs => forceN (T.nx + 1) fun n => some ⟨n, bs⟩
 | none => none)
def AB.noit : AB → Prop
 | .iter _ _ _ => False
 | _ => True
theorem isIt_of {b : AB} (h : b.noit) : b.isIt = false := by cases b <;> first | rfl | exact h.elim
theorem noit_of {b : AB} (h : b.isIt = false) : b.noit := by cases b <;> first | trivial | cases h
structure RepH (T : EH) (H : Heap) : Prop where
 nx : H.nx = T.nx
 get : H.get = T.get
 noit : ∀ j, (H.get j).noit
theorem RepH.free {T : EH} {H : Heap} (R : RepH T H) (p n : Nat) : noIter T.get p n = true := noIter_of (fun j k l c e => by have := R.noit j; rw [R.get, e] at this; exact this) n
theorem RepH.nil : RepH EH.nil Heap.nil := ⟨rfl, rfl, fun _ => trivial⟩
theorem RepH.put {T T' : EH} {H : Heap} {k : Nat} {b : AB} (h : T.put k b = some T') (R : RepH T H) : RepH T' (H.set k b) := by
 unfold EH.put at h
 cases hb : b.isIt <;> simp only [hb, cond_true, cond_false, reduceCtorEq] at h
 split at h
 · rename_i bs hbs
   cases h
   refine ⟨R.nx, funext fun j => ?_, fun j => by rw [Heap.get_set]; split; exact noit_of hb; exact R.noit j⟩
   rw [Heap.get_set, R.get]
   simp only [EH.get, BT.get_set b hbs j]
   by_cases e : k = j <;> simp [e]
 · cases h
theorem RepH.push {T T' : EH} {H : Heap} {b : AB} (h : T.push b = some T') (R : RepH T H) : RepH T' (H.push b) := by
 unfold EH.push at h
 cases hb : b.isIt <;> simp only [hb, cond_true, cond_false, reduceCtorEq] at h
 split at h
 · rename_i bs hbs
   rw [forceN_eq] at h; cases h
   refine ⟨by simp [Heap.push, R.nx], funext fun j => ?_, fun j => by rw [Heap.get_push]; split; exact noit_of hb; exact R.noit j⟩
   rw [Heap.get_push, R.get, R.nx]
   simp only [EH.get, BT.get_set b hbs j]
   by_cases e : T.nx = j <;> simp [e]
 · cases h
structure RepF (F : BT AV) (fr : Fr) : Prop where
 get : ∀ t, look fr t = (F.get t).getD .any
def AX.eF (F : BT AV) : AX → AV
 | .t n => match F.get n with
  | some v => v
  | none => .any
 | .c v => v
 | .g n => .dptr (globOf n)
theorem RepF.ev {F : BT AV} {fr : Fr} (R : RepF F fr) : AX.ev fr = AX.eF F := by
 funext x
 cases x with
 | t n => simp only [AX.ev, AX.eF, R.get]; cases F.get n <;> rfl
 | c v => rfl
 | g n => rfl
def putE (F : BT AV) (d : Option Nat) (v : AV) : Option (BT AV) := match d with
 | none => some F
 | some t => fvE v fun v => BT.set v 24 F t
theorem RepF.put {F F' : BT AV} {fr : Fr} {d : Option Nat} {v : AV} (h : putE F d v = some F') (R : RepF F fr) : RepF F' (put fr d v) := by
 cases d with
 | none => simp only [putE, Option.some.injEq] at h; subst h; exact R
 | some t =>
  simp only [putE, fvE_eq] at h
  refine ⟨fun u => ?_⟩
  rw [BT.get_set v h u]
  simp only [Eng.put, look]
  by_cases e : t = u
  · subst e; simp
  · rw [beq_false e, if_neg e]; exact R.get u
theorem RepF.know {F : BT AV} {fr : Fr} {s : Nat} {b : Bool} (R : RepF F fr) (h : look fr s = .bool b) : RepF F ((s, .bool b) :: fr) :=
 ⟨fun u => by
  simp only [look]
  by_cases e : s = u
  · subst e; rw [← R.get, h]; simp
  · rw [beq_false e]; exact R.get u⟩

def HOp.e (ev : AX → AV) (T : EH) : HOp → Option (AV × EH)
 | .load agg n x => match ev x with
  | .dptr cs => match loadE agg n cs with
   | some v => some (v, T)
   | none => none
  | .ptr k off => match T.get k with
   | .cells cs => match loadE agg n (cs.drop off) with
    | some v => some (v, T)
    | none => none
   | _ => none
  | _ => none
 | .alloc zero => match T.push (.cells zero) with
  | some T' => some (.ptr T.nx 0, T')
  | none => none
 | .box x => match cellsOf (ev x) with
  | some l => match T.push (.cells l) with
   | some T' => some (.ptr T.nx 0, T')
   | none => none
  | none => none
 | .store n p x => match ev p with
  | .ptr k off => match T.get k with
   | .cells cs => match cellsOf (ev x) with
    | some l => bif Nat.beq l.length n then (match lputE cs off l with
     | some cs' => match T.put k (.cells cs') with
      | some T' => some (.any, T')
      | none => none
     | none => none) else none
    | none => none
   | _ => none
  | _ => none
theorem HOp.e_run {ev : AX → AV} {T T' : EH} {H : Heap} {o : HOp} {v : AV} (h : o.e ev T = some (v, T')) (R : RepH T H) : ∃ H', RepH T' H' ∧ ∀ K : AV → Heap → Prop, K v H' → o.run ev H K := by
 cases o <;> simp only [HOp.e, HOp.run, R.get, pushK_eq, setK_eq] at h ⊢
 case load agg n x =>
  generalize ev x = vx at h ⊢
  split at h
  · split at h
    · rename_i u hu; cases h; exact ⟨H, R, fun K hk => loadE_run hu hk⟩
    · cases h
  · split at h
    · rename_i cs hcs
      split at h
      · rename_i u hu; cases h; refine ⟨H, R, fun K hk => ?_⟩
        simp only [hcs]; exact loadE_run hu hk
      · cases h
    · cases h
  · cases h
 case alloc zero =>
  split at h
  · rename_i T2 hT; cases h
    exact ⟨_, R.push hT, fun K hk => by rw [R.nx]; exact hk⟩
  · cases h
 case box x =>
  split at h
  · rename_i l hl
    split at h
    · rename_i T2 hT; cases h
      exact ⟨_, R.push hT, fun K hk => by simp only [hl]; rw [R.nx]; exact hk⟩
    · cases h
  · cases h
 case store n p x =>
  generalize ev p = vp at h ⊢
  split at h
  · split at h
    · rename_i cs hcs
      split at h
      · rename_i l hl
        cases hb : Nat.beq l.length n <;> simp only [hb, cond_true, cond_false] at h
        · cases h
        · split at h
          · rename_i cs' hp
            split at h
            · rename_i T2 hT; cases h
              exact ⟨_, R.put hT, fun K hk => by simp only [hcs, hl, hb, cond_true]; exact lputE_run hp hk⟩
            · cases h
          · cases h
      · cases h
    · cases h
  · cases h
def mapE0 (η : Nat → AB) (m : AV) : Option (Option Nat × List (AV × AV)) := match m with
 | .nilm => some (none, [])
 | .map p => match η p with
  | .map es => some (some p, es)
  | _ => none
 | _ => none
theorem mapE0_run {η : Nat → AB} {m : AV} {p : Option Nat} {es : List (AV × AV)} {K : Option Nat → List (AV × AV) → Prop} (h : mapE0 η m = some (p, es)) (hk : K p es) : mapN η m K := by
 unfold mapE0 at h; unfold mapN
 split at h
 · cases h; exact hk
 · split at h
   · rename_i hes; cases h; simp only [hes]; exact hk
   · cases h
 · cases h
def srcE (η : Nat → AB) (e : Nat) (x : AV) : Option (List AV × Nat) := match x with
 | .dslice cs n _ => if n * e ≤ cs.length then some (cs.take (n * e), n) else none
 | .nils => some ([], 0)
 | .slice k off n _ _ => match η k with
  | .cells cs => if off + n * e ≤ cs.length then some ((cs.drop off).take (n * e), n) else none
  | _ => none
 | _ => none
theorem srcE_run {η : Nat → AB} {e n : Nat} {x : AV} {l : List AV} {K : List AV → Nat → Prop} (h : srcE η e x = some (l, n)) (hk : K l n) : srcK η e x K := by
 unfold srcE at h; unfold srcK
 split at h
 · split at h
   · cases h; exact ⟨‹_›, hk⟩
   · cases h
 · cases h; exact hk
 · split at h
   · split at h
     · rename_i hcs _; cases h; simp only [hcs]; exact ⟨‹_›, hk⟩
     · cases h
   · cases h
 · cases h
instance (n bytes : Nat) : Decidable (fits n bytes) := by unfold fits; infer_instance
theorem all_scal {l : List AV} (h : l.all scal = true) : ∀ c ∈ l, scal c = true := by simpa using h
def MOp.e (ev : AX → AV) (T : EH) : MOp → Option (AV × EH)
 | .mk => match T.push (.map []) with
  | some T' => some (.map T.nx, T')
  | none => none
 | .get ok kk zero m k => match mapE0 T.get (ev m) with
  | some (_, es) => bif keyOk kk (ev k) then (match mfind kk (ev k) es with
   | some r => some (mval ok zero r, T)
   | none => none) else none
  | none => none
 | .set kk m k v => match mapE0 T.get (ev m) with
  | some (some p, es) => bif keyOk kk (ev k) then (fvE (ev v) fun v => match mput kk (ev k) v es with
   | some es' => match T.put p (.map es') with
    | some T' => some (.any, T')
    | none => none
   | none => none) else none
  | _ => none
 | .del kk m k => match mapE0 T.get (ev m) with
  | some (some p, es) => bif keyOk kk (ev k) then (match mdel kk (ev k) es with
   | some es' => match T.put p (.map es') with
    | some T' => some (.tuple [], T')
    | none => none
   | none => none) else none
  | _ => none
 | .len m => match mapE0 T.get (ev m) with
  | some (_, es) => some (.int .i64 es.length, T)
  | none => none
 | .range _ => none
 | .next _ => none
 | .entry _ => none
 | .delw _ _ _ _ => none
 | .copyS d s => match ev d with
  | .slice k off n _ e' => match T.get k with
   | .cells cs => match srcE T.get 1 (strD (ev s)) with
    | some (ds, m) => if e' = 1 then (bif Nat.ble m n then (match lputE cs off ds with
     | some cs' => match T.put k (.cells cs') with
      | some T' => some (.int .i64 m, T')
      | none => none
     | none => none) else (match lputE cs off (ds.take (n * 1)) with
     | some cs' => match T.put k (.cells cs') with
      | some T' => some (.int .i64 n, T')
      | none => none
     | none => none)) else none
    | none => none
   | _ => none
  | _ => none
 | .copy e d s => match ev d with
  | .slice k off n _ e' => match T.get k with
   | .cells cs => match srcE T.get e (ev s) with
    | some (ds, m) => if e' = e then (bif Nat.ble m n then (match lputE cs off ds with
     | some cs' => match T.put k (.cells cs') with
      | some T' => some (.int .i64 m, T')
      | none => none
     | none => none) else (match lputE cs off (ds.take (n * e)) with
     | some cs' => match T.put k (.cells cs') with
      | some T' => some (.int .i64 n, T')
      | none => none
     | none => none)) else none
    | none => none
   | _ => none
  | _ => none
theorem MOp.e_run {ev : AX → AV} {T T' : EH} {H : Heap} {o : MOp} {v : AV} (h : o.e ev T = some (v, T')) (R : RepH T H) : ∃ H', RepH T' H' ∧ ∀ K : AV → Heap → Prop, K v H' → o.run ev H K := by
 cases o <;> simp only [MOp.e, MOp.run, mkMapK_eq, mapK, setK_eq, R.get, fvE_eq, R.free, Bool.and_true] at h ⊢
 case mk =>
  split at h
  · rename_i T2 hT; cases h
    exact ⟨_, R.push hT, fun K hk => by rw [R.nx]; exact hk⟩
  · cases h
 case get ok kk zero m k =>
  split at h
  · rename_i p es hm
    cases hb : keyOk kk (ev k) <;> simp only [hb, cond_true, cond_false] at h
    · cases h
    · split at h
      · rename_i r hr; cases h
        exact ⟨H, R, fun K hk => mapE0_run hm (by simp only [cond_true]; exact ⟨r, hr, hk⟩)⟩
      · cases h
  · cases h
 case set kk m k x =>
  split at h
  · rename_i p es hm
    cases hb : (keyOk kk (ev k)) <;> simp only [hb, cond_true, cond_false] at h
    · cases h
    · split at h
      · rename_i es' hr
        split at h
        · rename_i T2 hT; cases h
          exact ⟨_, R.put hT, fun K hk => mapE0_run hm (by simp only [cond_true]; exact ⟨es', hr, hk⟩)⟩
        · cases h
      · cases h
  · cases h
 case del kk m k =>
  split at h
  · rename_i p es hm
    cases hb : keyOk kk (ev k) <;> simp only [hb, cond_true, cond_false] at h
    · cases h
    · split at h
      · rename_i es' hr
        split at h
        · rename_i T2 hT; cases h
          exact ⟨_, R.put hT, fun K hk => mapE0_run hm (by simp only [cond_true]; exact ⟨es', hr, hk⟩)⟩
        · cases h
      · cases h
  · cases h
 case range m => cases h
 case next m => cases h
 case entry m => cases h
 case delw _ _ _ _ => cases h
 case copy e d s =>
  generalize ev d = vd at h ⊢
  split at h
  · rename_i k off n cap e'
    split at h
    · rename_i cs hcs
      split at h
      · rename_i ds m hs
        split at h
        · rename_i he
          cases hb : Nat.ble m n <;> simp only [hb, cond_true, cond_false] at h
          · split at h
            · rename_i cs' hl
              split at h
              · rename_i T2 hT; cases h
                refine ⟨_, R.put hT, fun K hk => ?_⟩
                simp only [hcs]
                exact srcE_run hs ⟨he, .ofF (decide_eq_false (fun e => by have := Nat.ble_eq_true_of_le e; rw [this] at hb; cases hb)) (by unfold cpK; exact lputE_run hl (by rw [setK_eq]; exact hk))⟩
              · cases h
            · cases h
          · split at h
            · rename_i cs' hl
              split at h
              · rename_i T2 hT; cases h
                refine ⟨_, R.put hT, fun K hk => ?_⟩
                simp only [hcs]
                exact srcE_run hs ⟨he, .ofT (decide_eq_true (Nat.le_of_ble_eq_true hb)) (by unfold cpK; exact lputE_run hl (by rw [setK_eq]; exact hk))⟩
              · cases h
            · cases h
        · cases h
      · cases h
    · cases h
  · cases h
 case copyS d s =>
  generalize ev d = vd at h ⊢
  split at h
  · rename_i k off n cap e'
    split at h
    · rename_i cs hcs
      split at h
      · rename_i ds m hs
        split at h
        · rename_i he
          cases hb : Nat.ble m n <;> simp only [hb, cond_true, cond_false] at h
          · split at h
            · rename_i cs' hl
              split at h
              · rename_i T2 hT; cases h
                refine ⟨_, R.put hT, fun K hk => ?_⟩
                simp only [hcs]
                exact srcE_run hs ⟨he, .ofF (decide_eq_false (fun e => by have := Nat.ble_eq_true_of_le e; rw [this] at hb; cases hb)) (by unfold cpK; exact lputE_run hl (by rw [setK_eq]; exact hk))⟩
              · cases h
            · cases h
          · split at h
            · rename_i cs' hl
              split at h
              · rename_i T2 hT; cases h
                refine ⟨_, R.put hT, fun K hk => ?_⟩
                simp only [hcs]
                exact srcE_run hs ⟨he, .ofT (decide_eq_true (Nat.le_of_ble_eq_true hb)) (by unfold cpK; exact lputE_run hl (by rw [setK_eq]; exact hk))⟩
              · cases h
            · cases h
        · cases h
      · cases h
    · cases h
  · cases h
 case len m =>
  split at h
  · rename_i p es hm; cases h
    exact ⟨H, R, fun K hk => mapE0_run hm hk⟩
  · cases h
def DOp.e (ev : AX → AV) (η : Nat → AB) : DOp → Option AV
 | .bslice e len zero parts => match buildE ev (parts.map fun x => (x.1, e, x.2)) (rep zero len) with
  | some cs => bif noLocB cs then some (.dslice cs len (some len)) else none
  | none => none
 | .append e bytes s x => match ev s, ev x with
  | .dslice cs len cap, .dslice ds n _ => if cap = some len ∧ len * e ≤ cs.length ∧ n * e ≤ ds.length ∧ fits (len + n) bytes ∧ (ds.take (n * e)).all scal = true then some (.dslice (cs.take (len * e) ++ ds.take (n * e)) (len + n) none) else none
  | .dslice cs len cap, .nils => if cap = some len then some (.dslice cs len none) else none
  | .nils, .dslice ds n _ => if n * e ≤ ds.length ∧ fits n bytes ∧ (ds.take (n * e)).all scal = true then some (.dslice (ds.take (n * e)) n none) else none
  | _, _ => none
 | .asub e n x lo hi => match ev x with
  | .ptr k off => match η k with
   | .cells cs => match optE ev 0 lo, optE ev n hi with
    | some l, some h => if 0 ≤ l ∧ l < n ∧ l ≤ h ∧ h ≤ n ∧ off + n * e ≤ cs.length then some (.slice k (off + l.toNat * e) (h - l).toNat (some (n - l.toNat)) e) else none
    | _, _ => none
   | _ => none
  | .dptr cs => match optE ev 0 lo, optE ev n hi with
   | some l, some h => if 0 ≤ l ∧ l ≤ h ∧ h ≤ n then some (.dslice ((cs.drop (l.toNat * e)).take ((h - l).toNat * e)) (h - l).toNat (some (n - l.toNat))) else none
   | _, _ => none
  | _ => none
 | .sl2s x => match srcE η 1 (ev x) with
  | some (ds, _) => match bytesOf ds with
   | some l => some (.str (toBytes l))
   | none => none
  | none => none
theorem DOp.e_run {ev : AX → AV} {η : Nat → AB} {o : DOp} {v : AV} {K : AV → Prop} (h : o.e ev η = some v) (hk : K v) : o.run ev η K := by
 cases o <;> simp only [DOp.e, DOp.run] at h ⊢
 case bslice e len zero parts =>
  split at h
  · rename_i cs hcs
    cases hb : noLocB cs <;> simp only [hb, cond_true, cond_false] at h
    · cases h
    · cases h; exact buildE_run hcs (by simp only [hb, cond_true]; exact hk)
  · cases h
 case append e bytes s x =>
  generalize ev s = vs at h ⊢
  generalize ev x = vx at h ⊢
  split at h
  · split at h
    · rename_i hp; cases h; exact ⟨⟨hp.1, hp.2.1, hp.2.2.1, hp.2.2.2.1, all_scal hp.2.2.2.2⟩, hk⟩
    · cases h
  · split at h
    · cases h; exact ⟨‹_›, hk⟩
    · cases h
  · split at h
    · rename_i hp; cases h; exact ⟨⟨hp.1, hp.2.1, all_scal hp.2.2⟩, hk⟩
    · cases h
  · cases h
 case asub e n x lo hi =>
  generalize hev : ev x = vx at h ⊢
  split at h
  · split at h
    · rename_i cs hcs
      split at h
      · rename_i l hh h1 h2
        split at h
        · cases h; simp only [hcs]; exact optE_run h1 (optE_run h2 ⟨‹_›, hk⟩)
        · cases h
      · cases h
    · cases h
  · split at h
    · rename_i l hh h1 h2
      split at h
      · cases h; exact optE_run h1 (optE_run h2 ⟨‹_›, hk⟩)
      · cases h
    · cases h
  · cases h
 case sl2s x =>
  split at h
  · rename_i ds n hs
    split at h
    · rename_i l hl; cases h; exact srcE_run hs ⟨l, hl, hk⟩
    · cases h
  · cases h
def appE (cur : Nat → AB) (p e bytes : Nat) (sv xv : AV) : Option (AV × AB × Option Nat) := match srcE cur e xv with
 | some (ds, n) => match sv with
  | .slice k off len _ e' => match cur k with
   | .cells cs => if e' = e ∧ off = 0 ∧ cs.length = len * e ∧ fits (len + n) bytes ∧ ds.all scal = true then some (.slice p 0 (len + n) none e, .cells (cs ++ ds), some k) else none
   | _ => none
  | .dslice cs len cap => bif Nat.beq n 0 then some (.dslice cs len cap, .dead, none) else if cap = some len ∧ len * e ≤ cs.length ∧ fits (len + n) bytes ∧ ds.all scal = true then some (.slice p 0 (len + n) none e, .cells (cs.take (len * e) ++ ds), none) else none
  | .nils => bif Nat.beq n 0 then some (.nils, .dead, none) else if fits n bytes ∧ ds.all scal = true then some (.slice p 0 n none e, .cells ds, none) else none
  | _ => none
 | none => none
def appFE (cur : Nat → AB) (p e bytes : Nat) (sv xv : AV) : Option (AV × AB × Option Nat) := match sv with
 | .slice k off len (some c) e' => match cur k with
  | .cells cs => match srcE cur e xv with
   | some (ds, n) => if e' = e ∧ c = len ∧ 0 < n ∧ off + len * e ≤ cs.length ∧ fits (len + n) bytes ∧ ds.all scal = true then some (.slice p 0 (len + n) none e, .cells ((cs.drop off).take (len * e) ++ ds), none) else none
   | none => none
  | _ => none
 | _ => none
def LOp.e (ev : AX → AV) (cur : Nat → AB) (p : Nat) : LOp → Option (AV × AB × Option Nat)
 | .make e bytes zero n => match ev n with
  | .int _ i => if 0 ≤ i ∧ (bytes : Int) * i ≤ 281474976710656 ∧ i ≤ 9223372036854775807 then some (.slice p 0 i.toNat (some i.toNat) e, .cells (rep zero i.toNat), none) else none
  | _ => none
 | .makec e bytes zero n c => match ev n, ev c with
  | .int _ i, .int _ j => if 0 ≤ i ∧ i ≤ j ∧ (bytes : Int) * j ≤ 281474976710656 ∧ j ≤ 9223372036854775807 then some (.slice p 0 i.toNat (some j.toNat) e, .cells (rep zero j.toNat), none) else none
  | _, _ => none
 | .s2b x => match ev x with
  | .str s => some (.slice p 0 s.size none 1, .cells (strCells s), none)
  | _ => none
 | .bslice e len zero parts => match buildE ev (parts.map fun x => (x.1, e, x.2)) (rep zero len) with
  | some cs => some (.slice p 0 len (some len) e, .cells cs, none)
  | none => none
 | .append e bytes s x => appE cur p e bytes (ev s) (ev x)
 | .appendS bytes s x => appE cur p 1 bytes (ev s) (strD (ev x))
 | .appendF e bytes s x => match appE cur p e bytes (ev s) (ev x) with
  | some r => some r
  | none => appFE cur p e bytes (ev s) (ev x)
theorem appE_run {cur : Nat → AB} {p e bytes : Nat} {sv xv : AV} {v : AV} {ab : AB} {kl : Option Nat} {K : AV → AB → Option Nat → Prop} (h : appE cur p e bytes sv xv = some (v, ab, kl)) (hk : K v ab kl) : appN cur cur p e bytes sv xv K := by
 unfold appE at h
 split at h
 · rename_i ds n hsrc
   unfold appN
   split at h
   · split at h
     · rename_i cs hcs
       split at h
       · rename_i hp; cases h
         simp only [appK, hcs]
         exact srcE_run hsrc ⟨⟨hp.1, hp.2.1, hp.2.2.1, hp.2.2.2.1, all_scal hp.2.2.2.2⟩, hk⟩
       · cases h
     · cases h
   · cases hb : Nat.beq n 0 <;> simp only [hb, cond_true, cond_false] at h
     · split at h
       · rename_i hp; cases h
         exact srcE_run hsrc (Branch.ofF (decide_eq_false (fun e => by subst e; cases hb)) ⟨⟨hp.1, hp.2.1, hp.2.2.1, all_scal hp.2.2.2⟩, hk⟩)
       · cases h
     · cases h
       exact srcE_run hsrc (Branch.ofT (decide_eq_true (Nat.eq_of_beq_eq_true hb)) hk)
   · cases hb : Nat.beq n 0 <;> simp only [hb, cond_true, cond_false] at h
     · split at h
       · rename_i hp; cases h
         exact srcE_run hsrc (Branch.ofF (decide_eq_false (fun e => by subst e; cases hb)) ⟨⟨hp.1, all_scal hp.2⟩, hk⟩)
       · cases h
     · cases h
       exact srcE_run hsrc (Branch.ofT (decide_eq_true (Nat.eq_of_beq_eq_true hb)) hk)
   · cases h
 · cases h
theorem appFE_run {cur : Nat → AB} {p e bytes : Nat} {sv xv : AV} {v : AV} {ab : AB} {kl : Option Nat} {K : AV → AB → Option Nat → Prop} (h : appFE cur p e bytes sv xv = some (v, ab, kl)) (hk : K v ab kl) : appF0 cur cur p e bytes sv xv K := by
 unfold appFE at h
 unfold appF0
 split at h
 · split at h
   · rename_i cs hcs
     split at h
     · rename_i ds n hsrc
       split at h
       · rename_i hp; cases h
         simp only [hcs]
         exact srcE_run hsrc ⟨⟨hp.1, hp.2.1, hp.2.2.1, hp.2.2.2.1, hp.2.2.2.2.1, all_scal hp.2.2.2.2.2⟩, hk⟩
       · cases h
     · cases h
   · cases h
 · cases h
theorem LOp.e_run {ev : AX → AV} {cur : Nat → AB} {p : Nat} {o : LOp} {v : AV} {ab : AB} {kl : Option Nat} {K : AV → AB → Option Nat → Prop} (h : o.e ev cur p = some (v, ab, kl)) (hk : K v ab kl) : o.run ev cur cur p K := by
 cases o <;> simp only [LOp.e, LOp.run] at h ⊢
 case make e bytes zero n =>
  generalize ev n = vn at h ⊢
  split at h
  · rename_i k i
    split at h
    · cases h; exact ⟨‹_›, hk⟩
    · cases h
  · cases h
 case makec e bytes zero n c =>
  generalize ev n = vn at h ⊢
  generalize ev c = vc at h ⊢
  split at h
  · split at h
    · cases h; exact ⟨‹_›, hk⟩
    · cases h
  · cases h
 case s2b x =>
  generalize ev x = vx at h ⊢
  split at h
  · cases h; exact hk
  · cases h
 case bslice e len zero parts =>
  split at h
  · rename_i cs hcs; cases h; exact buildE_run hcs hk
  · cases h
 case append e bytes s x => exact appE_run h hk
 case appendS bytes s x => exact appE_run h hk
 case appendF e bytes s x =>
  split at h
  · rename_i r hr; cases h
    exact .inl (appE_run hr hk)
  · exact .inr (appFE_run h hk)
end Go.Eng

namespace Go.Eng
open Go
variable [Globs]

def putL (fr : Fr) : List Nat → List AV → Fr
 | t :: ps, v :: vs => putL ((t, v) :: fr) ps vs
 | _, _ => fr
theorem relF_putL {N : Nat} {M : Mem} {μ : Pos} : ∀ {ps : List Nat} {vs : List AV} {us : List Value} {fr : Fr} {tmps : Array Value}, RelF N M μ fr tmps → ps.all (Nat.blt · N) = true → relL M vs μ us → vs.length = ps.length →
 RelF N M μ (putL fr ps vs) ((ps.zip us).foldl (fun tmps x => tmps.setIfInBounds x.1 x.2) tmps)
 | [], [], _, fr, tmps, F, _, _, _ => by simpa [putL] using F
 | t :: ps, v :: vs, us, fr, tmps, F, ha, hr, hl => by
  simp only [relL] at hr
  obtain ⟨u, r, rfl, h1, h2⟩ := hr
  simp only [List.all_cons, Bool.and_eq_true] at ha
  simp only [putL, List.zip_cons_cons, List.foldl_cons]
  have F1 := RelF.put (a := ⟨tmps, []⟩) (d := some t) F (by simpa [dstOk] using ha.1) h1
  exact relF_putL F1 ha.2 h2 (by simpa using hl)
 | [], _ :: _, _, _, _, _, _, _, hl => by simp at hl
 | _ :: _, [], _, _, _, _, _, _, hl => by simp at hl
def roundK (n k : Nat) (K : AV → Heap → Prop) (x : XA) (_ : Fr) (H : Heap) : Prop := match H.get k with
 | .loop .busy id fr2 => match x with
  | .normal => setK H k (.loop .ready id fr2) (RetA n K (.bool true))
  | .ret => setK H k (.loop (.done .ret) id fr2) (RetA n K (.bool false))
  | .exit i => setK H k (.loop (.done (.exit i)) id fr2) (RetA n K (.bool false))
  | .pan _ => False
 | _ => False
def assignK (P : Program) (n k : Nat) (B : AC) (K : AV → Heap → Prop) (x : XA) (fr : Fr) (H : Heap) : Prop := match x with
 | .normal => match H.get k with
  | .loop .ready id fr2 => setK H k (.loop .busy id fr2) fun H2 => B.run P n (roundK n k K) fr H2
  | _ => False
 | _ => False
def rsOf : Option RJ → RS
 | none => .ready
 | some j => .done j
section
variable {P : Program}
theorem end_round [Pend] {n N k b s : Nat} {M0 : Mem} {μ0 : Pos} {H0 H : Heap} {w0 w : World} {id : Nat} {fr fr2 : Fr} {a : Act} {K : AV → Heap → Prop} (S : St N n M0 μ0 H0 w0 fr H a w) (R0 : Rel M0 μ0 H0 w0) (hn0 : H0.nx = n) (hμ0 : μ0 k = some (b, s)) (hk : H.get k = .loop .busy id fr2) (jump : Option RJ)
 (hr : RetA n K (.bool jump.isNone) (H.set k (.loop (rsOf jump) id fr2))) :
 ∃ v w', (Instr.endRound b (jump.map RJ.code)).run P w = .ok v w' ∧ ∃ u M' μ' H' c, Ending.returned v = .returned u ∧ Rel M' μ' H' w' ∧ relV M' c μ' u ∧ Move M0 μ0 H0 w0 M' μ' H' w' ∧ K c H' := by
 obtain ⟨M, μ, R, F, hn, G, _⟩ := S
 have hμ : μ k = some (b, s) := by rw [G.pin k (by rw [← hn0]; exact R0.pos_lt hμ0)]; exact hμ0
 obtain ⟨b', s', g1, r, g2, g3, g4, g5⟩ := R.loops _ _ _ _ hk
 rw [hμ] at g1; cases g1
 have hne : (jump.map RJ.code).isNone = jump.isNone := by cases jump <;> rfl
 obtain ⟨R1, G1⟩ := R.setL (st' := rsOf jump) (r' := { r with state := if (jump.map RJ.code).isNone then .ready else .done, pending := jump.map RJ.code }) hk hμ g2 (by cases jump <;> simp [RS.ok, rsOf]) rfl rfl rfl rfl
 refine ⟨_, _, run_endRound (jump.map RJ.code) g2, ?_⟩
 obtain ⟨v', H2, hi, hK⟩ := hr.ex
 have F1 : RelF 1 M μ [(0, .bool jump.isNone)] #[.bool (jump.map RJ.code).isNone] := ⟨R.glob, rfl, fun t => by
  simp only [look]
  by_cases ht : 0 = t
  · subst ht; simp [relV, hne]
  · rw [beq_false ht]; simp only [cond_false, relV]⟩
 obtain ⟨M2, μ2, R2, F2, hn2, G2⟩ := hi 1 M μ _ _ R1 F1 hn
 refine ⟨_, M2, μ2, H2, v', rfl, R2, ?_, ?_, hK⟩
 · have := F2.slot 0; simpa [look] using this
 · have G := (G.trans (G1.grow.mono hn)).trans G2
   refine ⟨fun q x hx => ?_, by rw [hn0]; exact G, by rw [hn0]; exact hn2⟩
   rw [G.pin q (by rw [← hn0]; exact R0.pos_lt hx)]; exact hx
theorem YieldA.of {k id : Nat} {fr : Fr} {H : Heap} {K : AV → Heap → Prop} {args : List AV} {ps : List Nat} {A B : AC} (hk : H.get k = .loop .ready id fr) (hat : RfAt P id ps A B) (hl : args.length = ps.length) (hr : A.run P H.nx (assignK P H.nx k B K) (putL fr ps args) H) : YieldA P k args H K := by
 refine ⟨fun M μ w vs R hv b s hμ => ?_⟩
 obtain ⟨b', s', g1, r, g2, g3, g4, g5⟩ := R.loops _ _ _ _ hk
 rw [hμ] at g1; cases g1
 obtain ⟨rfl, hall, hA, hB, hnA, hnB⟩ := (hat.iff _ _ _ _).1 g4
 have hsz : vs.size = r.params.size := by
  have := relL_length hv
  simp only [Array.length_toList] at this
  simpa using this.trans hl
 refine ⟨r.fn, _, r.assign, r.body, run_yield g2 hsz, roundIn_of_wpIn trivial ?_⟩
 have hfold : (r.params.zip vs).foldl (fun tmps x => tmps.setIfInBounds x.1 x.2) r.tmps = (r.params.toList.zip vs.toList).foldl (fun tmps x => tmps.setIfInBounds x.1 x.2) r.tmps := by
  rw [← Array.foldl_toList, Array.toList_zip]
 letI : Pend := { D := [] }
 have S : St r.tmps.size H.nx M μ H w (putL fr r.params.toList args) H { tmps := (r.params.zip vs).foldl (fun tmps x => tmps.setIfInBounds x.1 x.2) r.tmps, defers := [] } w :=
  ⟨M, μ, R, by rw [hfold]; exact relF_putL ⟨R.glob, rfl, g5⟩ hall hv hl, Nat.le_refl _, Grow.refl _ _ _ _ _, Marks.nil⟩
 refine wpIn_mono (sound_C (some b) hA (.inr hnA) S hr) ?_
 intro e a1 w1 hx
 obtain ⟨x, fr1, H1, hx, S1, hq⟩ := hx.resolve_right (fun ⟨c, v, fr', H', _, _, _, hq⟩ => hq)
 cases e <;> simp [xa] at hx <;> subst hx
 case normal =>
  simp only [assignK, setK_eq] at hq
  split at hq
  · rename_i id2 fr2 hk1
    obtain ⟨M1, μ1, R1, F1, hn1, G1, hd1⟩ := S1
    have hμ1 : μ1 k = some (b, s) := by rw [G1.pin k (R.pos_lt hμ)]; exact hμ
    obtain ⟨b', s', q1, r1, q2, q3, q4, q5⟩ := R1.loops _ _ _ _ hk1
    rw [hμ1] at q1; cases q1
    obtain ⟨R2, G2⟩ := R1.setL (st' := .busy) (r' := { r1 with state := .busy }) hk1 hμ1 q2 rfl rfl rfl rfl rfl
    refine ⟨_, run_beginRound q2 q3.1, ?_⟩
    have S2 : St r.tmps.size H.nx M μ H w fr1 (H1.set k (.loop .busy id2 fr2)) a1 (w1.putObj b (.loop { r1 with state := .busy })) :=
     ⟨M1, μ1, R2, F1, hn1, G1.trans (G2.grow.mono hn1), hd1.step G2.grow⟩
    refine wpIn_mono (sound_C (some b) hB (.inr hnB) S2 hq) ?_
    intro e a3 w3 hx
    obtain ⟨x, fr3, H3, hx, S3, hq3⟩ := hx.resolve_right (fun ⟨c, v, fr', H', _, _, _, hq⟩ => by unfold roundK at hq; split at hq <;> exact hq)
    unfold roundK at hq3
    simp only [setK_eq] at hq3
    split at hq3
    · rename_i id3 fr4 hk3
      cases e <;> simp [xa] at hx <;> subst hx
      case normal => exact end_round S3 R rfl hμ hk3 none hq3
      case exit i => exact end_round S3 R rfl hμ hk3 (some (.exit i)) hq3
      case ret => exact end_round S3 R rfl hμ hk3 (some .ret) hq3
    · exact hq3.elim
  · exact hq.elim
 all_goals exact hq.elim
end
end Go.Eng

namespace Go.Eng
open Go
variable [Globs]

abbrev CallE := FuncId → List AV → EH → Option (AV × EH)
structure CallOK (P : Program) (call : CallE) : Prop where
 ok : ∀ f vs T r T', call f vs T = some (r, T') → ∀ H, RepH T H → ∃ H', RepH T' H' ∧ ∀ K : AV → Heap → Prop, K r H' → CallA P f vs H K
inductive EO where
 | val (v : AV)
 | pan (c : AV)
abbrev CallXE := FuncId → List AV → EH → Option (EO × EH)
def EO.is (K Kp : AV → Heap → Prop) (H : Heap) : EO → Prop
 | .val v => K v H
 | .pan c => Kp c H
structure CallXOK (P : Program) (cx : CallXE) : Prop where
 ok : ∀ f vs T o T', cx f vs T = some (o, T') → ∀ H, RepH T H → ∃ H', RepH T' H' ∧ ∀ K Kp : AV → Heap → Prop, o.is K Kp H' → CallX P f vs H K Kp
def CallXE.call (cx : CallXE) : CallE := fun f vs T => match cx f vs T with
 | some (.val v, T') => some (v, T')
 | _ => none
theorem CallXOK.toA {P : Program} {cx : CallXE} (h : CallXOK P cx) : CallOK P cx.call := ⟨fun f vs T r T' hr H R => by
 unfold CallXE.call at hr
 split at hr
 · rename_i v T1 h1; cases hr
   obtain ⟨H', R', hK⟩ := h.ok _ _ _ _ _ h1 H R
   exact ⟨H', R', fun K hk => CallX.toA (hK K _ hk)⟩
 · cases hr⟩
abbrev YieldE := Nat → List AV → EH → Option (AV × EH)
structure YieldOK (P : Program) (yl : YieldE) : Prop where
 ok : ∀ k vs T r T', yl k vs T = some (r, T') → ∀ H, RepH T H → ∃ H', RepH T' H' ∧ ∀ K : AV → Heap → Prop, K r H' → YieldA P k vs H K
def callD (call : CallE) (f : FuncId) (vs : List AV) : Option AV := match call f vs EH.nil with
 | some (r, T) => match pubE T.get 8 r with
  | some r' => bif noLocL vs && noLoc r' then some r' else none
  | none => none
 | none => none
theorem callD_run {P : Program} {call : CallE} (hc : CallOK P call) {f : FuncId} {vs : List AV} {r : AV} (h : callD call f vs = some r) {K : AV → Prop} (hk : K r) : QCallA P f vs K := by
 unfold callD at h
 split at h
 · rename_i r' T' hcall
   split at h
   · rename_i r2 hp
     cases hb : (noLocL vs && noLoc r2) <;> simp only [hb, cond_true, cond_false] at h
     · cases h
     · cases h
       simp only [Bool.and_eq_true] at hb
       obtain ⟨H', R', hK⟩ := hc.ok _ _ _ _ _ hcall _ RepH.nil
       refine QCallA.of (CallA.out 8 (hK (fun v H => v = r' ∧ H = H') ⟨rfl, rfl⟩) ?_) hb.1 hb.2 hk
       rintro v H ⟨rfl, rfl⟩
       exact ⟨_, by rw [R'.get]; exact hp, rfl, rfl⟩
   · cases h
 · cases h
def callB (call : CallE) (f : FuncId) (vs : List AV) : Option (Nat × Option Nat × Nat × List AV) := match call f vs EH.nil with
 | some (.slice k off n cp e, T) => match T.get k with
  | .cells cs => bif Nat.beq off 0 && noLocL vs && noLocL cs then some (n, cp, e, cs) else none
  | _ => none
 | _ => none
theorem callB_run {P : Program} {call : CallE} (hc : CallOK P call) {f : FuncId} {vs : List AV} {n : Nat} {cp : Option Nat} {e : Nat} {cs : List AV} (h : callB call f vs = some (n, cp, e, cs)) {K : Nat → Option Nat → Nat → List AV → Prop} (hk : K n cp e cs) : OCallA P f vs K := by
 unfold callB at h
 split at h
 · rename_i k off n' cp' e' T hcall
   split at h
   · rename_i cs' hg
     cases hb : (Nat.beq off 0 && noLocL vs && noLocL cs') <;> simp only [hb, cond_true, cond_false] at h
     · cases h
     · cases h
       simp only [Bool.and_eq_true] at hb
       obtain ⟨⟨h0, h1⟩, h2⟩ := hb
       have h0 := Nat.eq_of_beq_eq_true h0
       subst h0
       obtain ⟨H', R', hK⟩ := hc.ok _ _ _ _ _ hcall _ RepH.nil
       exact ⟨k, n, cp, e, cs, h1, h2, hK _ ⟨rfl, by rw [R'.get]; exact hg⟩, hk⟩
   · cases h
 · cases h
def callQ (call : CallE) (η : Nat → AB) (f : FuncId) (vs : List AV) : Option AV := match atL vs with
 | [] => callD call f vs
 | k :: ks => match callD call f (frz η (k :: ks) vs) with
  | some r => bif flatV r then some r else none
  | none => none
theorem callQ_run {P : Program} {call : CallE} (hc : CallOK P call) {η : Nat → AB} {f : FuncId} {vs : List AV} {r : AV} (h : callQ call η f vs = some r) {K : AV → Prop} (hk : K r) : qcallK P η f vs K := by
 unfold callQ at h; unfold qcallK
 cases he : atL vs with
 | nil => rw [he] at h; exact callD_run hc h hk
 | cons k ks =>
  rw [he] at h
  simp only [fvs_eq] at h ⊢
  split at h
  · rename_i r' hr
    cases hf : flatV r' <;> simp only [hf, cond_true, cond_false, reduceCtorEq] at h
    cases h
    exact callD_run hc hr (by rw [hf]; exact hk)
  · cases h
section
variable (call : CallE)
variable (cx : CallXE)
variable (yl : YieldE)
def AOp.e (F : BT AV) (T : EH) : AOp → Option (AV × EH)
 | .m o => o.e (AX.eF F) T
 | .p o => match o.e (AX.eF F) with
  | some u => some (u, T)
  | none => none
 | .v o => match o.e (AX.eF F) with
  | some u => some (u, T)
  | none => none
 | .h o => o.e (AX.eF F) T
 | .d o => match o.e (AX.eF F) T.get with
  | some u => some (u, T)
  | none => none
 | .l o => match o.e (AX.eF F) T.get T.nx with
  | some (u, ab, kl) => forceN (T.nx + 1) fun n => match kl with
   | none => match EH.put ⟨n, T.bs⟩ T.nx ab with
    | some T' => some (u, T')
    | none => none
   | some k => match EH.put ⟨n, T.bs⟩ k .dead with
    | some T1 => match T1.put T.nx ab with
     | some T' => some (u, T')
     | none => none
    | none => none
  | none => none
 | .call f args => call f (mapE (AX.eF F) args) T
 | .callo f args => call f (mapE (AX.eF F) args) T
 | .callv x args => match x.eF F with
  | .func f caps => call f (mapE (AX.eF F) args ++ caps) T
  | .meth f bs => call f (bs ++ mapE (AX.eF F) args) T
  | .yld k => yl k (mapE (AX.eF F) args) T
  | _ => none
 | .nq neg x => match x.eF F with
  | .nils => some (.bool (!neg), T)
  | .slice _ _ _ _ _ => some (.bool neg, T)
  | .dslice _ n _ => match n with
   | 0 => none
   | _ + 1 => some (.bool neg, T)
  | _ => none
 | .callx _ _ => none
 | .callvx _ _ => none
 | .calli tbl x args => match x.eF F with
  | .ifc t c => match tfind tbl t with
   | some f => call f (c :: mapE (AX.eF F) args) T
   | none => none
  | _ => none
 | .pan _ => none
def AOp.ex (F : BT AV) (T : EH) (o : AOp) : Option (EO × EH) := match o with
 | .callx f args => cx f (mapE (AX.eF F) args) T
 | .callvx x args => match x.eF F with
  | .func f caps => cx f (mapE (AX.eF F) args ++ caps) T
  | .meth f bs => cx f (bs ++ mapE (AX.eF F) args) T
  | _ => none
 | .pan x => match x.eF F with
  | .ifc t c => bif flatV c then some (.pan (.ifc t c), T) else none
  | _ => none
 | o => match o.e call yl F T with
  | some (u, T') => some (.val u, T')
  | none => none
def AO.e (o : AO) (F : BT AV) (T : EH) : Option (XA × BT AV × EH) := match o.guard with
 | none => match o.op.ex call cx yl F T with
  | some (.val v, T') => match putE F o.dst v with
   | some F' => some (.normal, F', T')
   | none => none
  | some (.pan c, T') => some (.pan c, F, T')
  | none => none
 | some (s, want) => match AX.eF F (.t s) with
  | .bool b => bif b == want then (match o.op.ex call cx yl F T with
   | some (.val v, T') => match putE F o.dst v with
    | some F' => some (.normal, F', T')
    | none => none
   | some (.pan c, T') => some (.pan c, F, T')
   | none => none) else (match putE F o.dst (.tuple []) with
   | some F' => some (.normal, F', T)
   | none => none)
  | .tuple [] => match putE F o.dst (.tuple []) with
   | some F' => some (.normal, F', T)
   | none => none
  | _ => none
def opsE : List AO → BT AV → EH → Option (XA × BT AV × EH)
 | [], F, T => some (.normal, F, T)
 | o :: r, F, T => match o.e call cx yl F T with
  | some (.normal, F', T') => opsE r F' T'
  | r => r
def HOp.qe (ev : AX → AV) (η : Nat → AB) (p : Nat) : HOp → Option (AV × Ef)
 | .load agg n x => match ev x with
  | .dptr cs => match loadE agg n cs with
   | some v => some (v, [])
   | none => none
  | .ptr k off => match η k with
   | .cells cs => match loadE agg n (cs.drop off) with
    | some v => some (v, [])
    | none => none
   | _ => none
  | _ => none
 | .alloc zero => some (.ptr p 0, [(p, .cells zero)])
 | .box x => match cellsOf (ev x) with
  | some cs => some (.ptr p 0, [(p, .cells cs)])
  | none => none
 | .store n q x => match ev q with
  | .ptr k off => match η k with
   | .cells cs => match cellsOf (ev x) with
    | some vs => bif Nat.beq vs.length n then (match lputE cs off vs with
     | some cs' => some (.any, [(k, .cells cs')])
     | none => none) else none
    | none => none
   | _ => none
  | _ => none
def MOp.qe (ev : AX → AV) (η : Nat → AB) : MOp → Option (AV × Ef)
 | .mk => none
 | .get ok kk zero m k => match mapE0 η (ev m) with
  | some (_, es) => bif keyOk kk (ev k) then (match mfind kk (ev k) es with
   | some r => some (mval ok zero r, [])
   | none => none) else none
  | none => none
 | .set kk m k v => match mapE0 η (ev m) with
  | some (some p, es) => bif keyOk kk (ev k) then (match mput kk (ev k) (ev v) es with
   | some es' => some (.any, [(p, .map es')])
   | none => none) else none
  | _ => none
 | .del kk m k => match mapE0 η (ev m) with
  | some (some p, es) => bif keyOk kk (ev k) then (match mdel kk (ev k) es with
   | some es' => some (.tuple [], [(p, .map es')])
   | none => none) else none
  | _ => none
 | .range _ => none
 | .next _ => none
 | .entry _ => none
 | .delw _ _ _ _ => none
 | .copyS _ _ => none
 | .copy e d s => match ev d with
  | .slice k off n _ e' => match η k with
   | .cells cs => match srcE η e (ev s) with
    | some (ds, m) => if e' = e then (bif Nat.ble m n then (match lputE cs off ds with
     | some cs' => some (.int .i64 m, [(k, .cells cs')])
     | none => none) else (match lputE cs off (ds.take (n * e)) with
     | some cs' => some (.int .i64 n, [(k, .cells cs')])
     | none => none)) else none
    | none => none
   | _ => none
  | _ => none
 | .len m => match mapE0 η (ev m) with
  | some (_, es) => some (.int .i64 es.length, [])
  | none => none
def AOp.qe (ev : AX → AV) (η : Nat → AB) (p : Nat) : AOp → Option (AV × Ef)
 | .m o => o.qe ev η
 | .p o => match o.e ev with
  | some u => some (u, [])
  | none => none
 | .v o => match o.e ev with
  | some u => some (u, [])
  | none => none
 | .h o => o.qe ev η p
 | .d o => match o.e ev η with
  | some u => some (u, [])
  | none => none
 | .l o => match o.e ev η p with
  | some (u, cs, kl) => some (u, efL p cs kl)
  | none => none
 | .call f args => match callQ call η f (mapE ev args) with
  | some r => some (r, [])
  | none => none
 | .callo f args => match callB call f (mapE ev args) with
  | some (n, cp, e, cs) => some (.slice p 0 n cp e, [(p, .cells cs)])
  | none => none
 | .callv x args => match ev x with
  | .func f caps => match callQ call η f (mapE ev args ++ caps) with
   | some r => some (r, [])
   | none => none
  | .meth f bs => match callQ call η f (bs ++ mapE ev args) with
   | some r => some (r, [])
   | none => none
  | _ => none
 | .nq _ _ => none
 | .callx _ _ => none
 | .callvx _ _ => none
 | .calli _ _ _ => none
 | .pan _ => none
def layE (T : EH) : Ef → Option EH
 | [] => some T
 | (k, x) :: r => match T.put k x with
  | some T' => layE T' r
  | none => none
def logE (dep : List (Nat × Nat)) (i : Nat) (F W : List Nat) (L : List En) : Option (List En) := match F, W with
 | [], [] => some L
 | F, W => bif okLog dep ⟨i, F, W⟩ L then some (⟨i, F, W⟩ :: L) else none
def qwalkE (dep : List (Nat × Nat)) : List AO → Nat → Nat → List En → BT AV → EH → Option (BT AV × EH)
 | [], _, _, _, F, T => some (F, T)
 | q :: r, i, p, L, F, T => match (match q.guard with
  | none => some true
  | some (s, want) => match AX.eF F (.t s) with
   | .bool b => some (b == want)
   | .tuple [] => some false
   | _ => none) with
  | some true => match q.op.qe call (AX.eF F) T.get p with
   | some (v, b) => match logE dep i (q.op.foot (AX.eF F)) (keys b) L with
    | some L' => match putE F q.dst v with
     | some F' => match layE T b with
      | some T' => forceN (i + 1) fun i' => forceN (p + 1) fun p' => qwalkE dep r i' p' L' F' T'
      | none => none
     | none => none
    | none => none
   | none => none
  | some false => match putE F q.dst (.tuple []) with
   | some F' => forceN (i + 1) fun i' => forceN (p + 1) fun p' => qwalkE dep r i' p' L F' T
   | none => none
  | none => none
def loopE (step : BT AV → EH → Option (XA × BT AV × EH)) : Nat → BT AV → EH → Option (XA × BT AV × EH)
 | 0, _, _ => none
 | k + 1, F, T => match step F T with
  | some (.normal, F', T') => loopE step k F' T'
  | r => r
def selO {β : Type} (F : BT AV) : List Nat → (Fr → Option β) → Option β
 | [], K => K []
 | t :: r, K => match F.get t with
  | some v => selO F r fun l => K ((t, v) :: l)
  | none => selO F r fun l => K ((t, .any) :: l)
def rangeO (k : Nat) (F : BT AV) (T : EH) : Option (XA × BT AV × EH) := match T.get k with
 | .loop .ready _ _ => match T.put k .dead with
  | some T' => some (.normal, F, T')
  | none => none
 | .loop (.done .ret) _ _ => match T.put k .dead with
  | some T' => some (.ret, F, T')
  | none => none
 | .loop (.done (.exit i)) _ _ => match T.put k .dead with
  | some T' => some (.exit i, F, T')
  | none => none
 | _ => none
def AOp.rdE (ev : AX → AV) (η : Nat → AB) : AOp → Option AV
 | .p o => o.e ev
 | .v o => o.e ev
 | .h (.load agg n x) => match ev x with
  | .dptr cs => loadE agg n cs
  | .ptr k off => match η k with
   | .cells cs => loadE agg n (cs.drop off)
   | _ => none
  | _ => none
 | .m (.get ok kk zero mm k) => match mapE0 η (ev mm) with
  | some (_, es) => bif keyOk kk (ev k) then (match mfind kk (ev k) es with
   | some r => some (mval ok zero r)
   | none => none) else none
  | none => none
 | _ => none
def rdE (T : EH) : List AO → BT AV → Option (BT AV)
 | [], F => some F
 | q :: r, F => match q.op.rdE (AX.eF F) T.get with
  | some v => match putE F q.dst v with
   | some F' => rdE T r F'
   | none => none
  | none => none
def avEq1 : AV → AV → Bool
 | .int j a, .int k b => decide (j = k) && decide (a = b)
 | .bool a, .bool b => a == b
 | .ptr k o, .ptr k' o' => Nat.beq k k' && Nat.beq o o'
 | .nilp, .nilp => true
 | .nils, .nils => true
 | .slice k o l c e, .slice k' o' l' c' e' => Nat.beq k k' && Nat.beq o o' && Nat.beq l l' && decide (c = c') && Nat.beq e e'
 | .map k, .map k' => Nat.beq k k'
 | .nili, .nili => true
 | _, _ => false
def avEqL : List AV → List AV → Bool
 | [], [] => true
 | c :: cs, d :: ds => avEq1 c d && avEqL cs ds
 | _, _ => false
def avEq : AV → AV → Bool
 | .agg cs, .agg ds => avEqL cs ds
 | .tuple cs, .tuple ds => avEqL cs ds
 | c, d => avEq1 c d
theorem avEq1_spec {c d : AV} (h : avEq1 c d = true) : c = d := by
 unfold avEq1 at h
 split at h <;> simp only [Bool.and_eq_true, decide_eq_true_eq, Nat.beq_eq, beq_iff_eq, reduceCtorEq] at h
 · rw [h.1, h.2]
 · rw [h]
 · rw [h.1, h.2]
 · rfl
 · rfl
 · obtain ⟨⟨⟨⟨rfl, rfl⟩, rfl⟩, rfl⟩, rfl⟩ := h; rfl
 · rw [h]
 · rfl
theorem avEqL_spec : ∀ {cs ds : List AV}, avEqL cs ds = true → cs = ds
 | [], [], _ => rfl
 | c :: cs, d :: ds, h => by
  simp only [avEqL, Bool.and_eq_true] at h
  rw [avEq1_spec h.1, avEqL_spec h.2]
 | [], _ :: _, h => by simp [avEqL] at h
 | _ :: _, [], h => by simp [avEqL] at h
theorem avEq_spec {c d : AV} (h : avEq c d = true) : c = d := by
 unfold avEq at h
 split at h
 · rw [avEqL_spec h]
 · rw [avEqL_spec h]
 · exact avEq1_spec h
def sameE : List AO → BT AV → BT AV → Bool
 | [], _, _ => true
 | q :: r, F, G => (match q.dst with
  | some d => avEq (AX.eF F (.t d)) (AX.eF G (.t d))
  | none => true) && sameE r F G
def forgetE : List AO → BT AV → Option (BT AV)
 | [], F => some F
 | q :: r, F => match forgetE r F with
  | some F' => match q.dst with
   | some d => putE F' (some d) .any
   | none => some F'
  | none => none
def actE (ci : Nat) (tags : List Nat) (qs : List AO) (F : BT AV) (T : EH) : Option (XA × BT AV × EH) := match qs[ci]? with
 | some c => match rdE T (selT isPF tags qs) F with
  | some F0 => match c.op.ex call cx yl F0 T with
   | some (.val v, T1) => match putE F0 c.dst v with
    | some F1 => match rdE T1 (selT isFP tags qs) F1 with
     | some F2 => bif sameE (selT isF tags qs) F0 F2 then some (.normal, F2, T1) else none
     | none => none
    | none => none
   | some (.pan e, T1) => match forgetE qs F with
    | some F' => some (.pan e, F', T1)
    | none => none
   | none => none
  | none => none
 | none => none
def AC.e (lf : Nat) : AC → BT AV → EH → Option (XA × BT AV × EH)
 | .skip, F, T => some (.normal, F, T)
 | .ret, F, T => some (.ret, F, T)
 | .exit id, F, T => some (.exit id, F, T)
 | .reg ops, F, T => opsE call cx yl ops F T
 | .draw m dep ops, F, T => forceN (T.nx + m) fun n => match qwalkE call dep (ops.take m) 0 T.nx [] F ⟨n, T.bs⟩ with
  | some (F', T') => opsE call cx yl (ops.drop m) F' T'
  | none => none
 | .seq a b, F, T => match a.e lf F T with
  | some (.normal, F', T') => b.e lf F' T'
  | r => r
 | .cond c a b, F, T => match c.eF F with
  | .bool t => match t with
   | true => a.e lf F T
   | false => b.e lf F T
  | _ => none
 | .block id a, F, T => match a.e lf F T with
  | some (.exit j, F', T') => bif Nat.beq j id then some (.normal, F', T') else some (.exit j, F', T')
  | r => r
 | .loop a, F, T => loopE (fun F T => a.e lf F T) lf F T
 | .ghost a, F, T => a.e lf F T
 | .scope a, F, T => a.e lf F T
 | .act ci tags qs, F, T => actE call cx yl ci tags qs F T
 | .rangeF id g sl _ _ _, F, T => match g.eF F with
  | .func f caps => selO F sl fun fr0 => match T.push (.loop .ready id fr0) with
   | some T1 => match call f (.yld T.nx :: caps) T1 with
    | some (_, T2) => rangeO T.nx F T2
    | none => none
   | none => none
  | _ => none
def resE (F : BT AV) (T : EH) : List AR → Option (List AV)
 | [] => some []
 | .tmp t :: r => match resE F T r with
  | some vs => some (AX.eF F (.t t) :: vs)
  | none => none
 | .cell t agg n :: r => match AX.eF F (.t t) with
  | .ptr k off => match T.get k with
   | .cells cs => match loadE agg n (cs.drop off) with
    | some v => match resE F T r with
     | some vs => some (v :: vs)
     | none => none
    | none => none
   | _ => none
  | _ => none
def frameE : Nat → List AV → Option (BT AV)
 | _, [] => some .nil
 | i, v :: r => match frameE (i + 1) r with
  | some F => putE F (some i) v
  | none => none
end
structure DE where
 qs : List AO
 x : Nat
 B : AC
 g : FuncId
 N : Nat
 t : Nat
 ac : AC
section
variable (call : CallE) (cx : CallXE) (yl : YieldE)
def DE.fin (d : DE) (lf : Nat) (rs : List AR) (caps : List AV) (r : AV) (F : BT AV) (T : EH) : Option (EO × EH) := match frameE 0 caps with
 | some G => match putE G (some d.t) r with
  | some G' => match d.ac.e call cx yl lf G' T with
   | some (.normal, _, T') => match resE F T' rs with
    | some l => some (.val (one l), T')
    | none => none
   | some (.ret, _, T') => match resE F T' rs with
    | some l => some (.val (one l), T')
    | none => none
   | _ => none
  | none => none
 | none => none
def DE.e (d : DE) (lf : Nat) (rs : List AR) (A : AC) (vs : List AV) (T : EH) : Option (EO × EH) := match frameE 0 vs with
 | some F => match A.e call cx yl lf F T with
  | some (.normal, F1, T1) => match opsE call cx yl d.qs F1 T1 with
   | some (.normal, F2, T2) => match AX.eF F2 (.t d.x) with
    | .func g caps => bif Nat.beq g d.g && Nat.ble caps.length d.N then (match d.B.e call cx yl lf F2 T2 with
     | some (.normal, F3, T3) => d.fin call cx yl lf rs caps .nili F3 T3
     | some (.ret, F3, T3) => d.fin call cx yl lf rs caps .nili F3 T3
     | some (.pan c, F3, T3) => d.fin call cx yl lf rs caps c F3 T3
     | _ => none) else none
    | _ => none
   | some (.pan c, _, T2) => some (.pan c, T2)
   | _ => none
  | some (.pan c, _, T1) => some (.pan c, T1)
  | some (.ret, F1, T1) => match resE F1 T1 rs with
   | some l => some (.val (one l), T1)
   | none => none
  | _ => none
 | none => none
end
structure FE where
 f : FuncId
 N : Nat
 ac : AC
 rs : List AR
 d : Option DE := none
 pub : Bool := false
def FE.ok (P : Program) (e : FE) : Prop := match e.d with
 | none => okF P e.f e.N e.ac e.rs = true
 | some d => okFX P e.f e.N e.ac d.qs d.x d.B e.rs = true ∧ okFD P d.g d.N d.t d.ac = true
def FE.noRF (e : FE) : Bool := e.ac.noRF && (match e.d with
 | none => true
 | some d => d.B.noRF)
section
variable (call : CallE) (cx : CallXE) (yl : YieldE)
def bodyE (lf : Nat) (e : FE) (vs : List AV) (T : EH) : Option (EO × EH) := bif Nat.ble vs.length e.N then (match e.d with
 | some d => d.e call cx yl lf e.rs e.ac vs T
 | none => match frameE 0 vs with
  | some F => match e.ac.e call cx yl lf F T with
   | some (.exit _, _, _) => none
   | some (.pan c, _, T') => some (.pan c, T')
   | some (_, F', T') => match resE F' T' e.rs with
    | some rs => some (.val (one rs), T')
    | none => none
   | none => none
  | none => none) else none
end
def pubR (p : Bool) (T : EH) (r : Option (EO × EH)) : Option (EO × EH) := bif p then (match r with
 | some (.val v, T') => match pubE T'.get 8 v with
  | some d => bif noLoc d then some (.val d, T) else none
  | none => none
 | _ => none) else r
def findE : List FE → FuncId → Option FE
 | [], _ => none
 | e :: r, f => bif Nat.beq e.f f then some e else findE r f
structure RE where
 id : Nat
 ps : List Nat
 A : AC
 B : AC
def findR : List RE → Nat → Option RE
 | [], _ => none
 | e :: r, f => bif Nat.beq e.id f then some e else findR r f
def frBT : Fr → Option (BT AV)
 | [] => some .nil
 | (t, v) :: r => match frBT r with
  | some F => putE F (some t) v
  | none => none
def putLE (F : BT AV) : List Nat → List AV → Option (BT AV)
 | t :: ps, v :: vs => match putE F (some t) v with
  | some F' => putLE F' ps vs
  | none => none
 | [], [] => some F
 | _, _ => none
def endO (k : Nat) (x : XA) (T : EH) : Option (AV × EH) := match T.get k with
 | .loop .busy id fr2 => match x with
  | .normal => match T.put k (.loop .ready id fr2) with
   | some T' => some (.bool true, T')
   | none => none
  | .ret => match T.put k (.loop (.done .ret) id fr2) with
   | some T' => some (.bool false, T')
   | none => none
  | .exit i => match T.put k (.loop (.done (.exit i)) id fr2) with
   | some T' => some (.bool false, T')
   | none => none
  | .pan _ => none
 | _ => none
def runB (ov : CallE) (tbl : List FE) (rt : List RE) (lf : Nat) : Nat → Nat ⊕ Nat → List AV → EH → Option (EO × EH)
 | 0, _, _, _ => none
 | n + 1, .inl f, vs, T => match findE tbl f with
  | none => match ov f vs T with
   | some (v, T') => some (.val v, T')
   | none => none
  | some e => pubR (e.pub && noLocL vs) T (bodyE (CallXE.call fun f => runB ov tbl rt lf n (.inl f)) (fun f => runB ov tbl rt lf n (.inl f)) (CallXE.call fun k => runB ov tbl rt lf n (.inr k)) lf e vs (bif e.pub && noLocL vs then EH.nil else T))
 | n + 1, .inr k, vs, T => match T.get k with
  | .loop .ready id fr => match findR rt id with
   | some e => match frBT fr with
    | some F0 => match putLE F0 e.ps vs with
     | some F1 => match e.A.e (CallXE.call fun f => runB ov tbl rt lf n (.inl f)) (fun f => runB ov tbl rt lf n (.inl f)) (CallXE.call fun k => runB ov tbl rt lf n (.inr k)) lf F1 T with
      | some (.normal, F2, T2) => match T2.get k with
       | .loop .ready id2 fr2 => match T2.put k (.loop .busy id2 fr2) with
        | some T3 => match e.B.e (CallXE.call fun f => runB ov tbl rt lf n (.inl f)) (fun f => runB ov tbl rt lf n (.inl f)) (CallXE.call fun k => runB ov tbl rt lf n (.inr k)) lf F2 T3 with
         | some (x, _, T4) => match endO k x T4 with
          | some (v, T5) => some (.val v, T5)
          | none => none
         | none => none
        | none => none
       | _ => none
      | _ => none
     | none => none
    | none => none
   | none => none
  | _ => none
def runO (ov : CallE) (tbl : List FE) (rt : List RE) (lf n : Nat) : CallE := CallXE.call fun f => runB ov tbl rt lf n (.inl f)
def runE (tbl : List FE) (lf n : Nat) : CallE := runO (fun _ _ _ => none) tbl [] lf n

section
variable {P : Program} {call : CallE} {cx : CallXE} {yl : YieldE}
theorem AOp.e_run (hc : CallOK P call) (hy : YieldOK P yl) {F : BT AV} {fr : Fr} {T T' : EH} {H : Heap} {o : AOp} {v : AV} (h : o.e call yl F T = some (v, T')) (RF : RepF F fr) (R : RepH T H) : ∃ H', RepH T' H' ∧ ∀ K Kp : AV → Heap → Prop, K v H' → o.run P fr H K Kp := by
 cases o <;> simp only [AOp.e, AOp.run, newK0_eq, RF.ev, fvs_eq, mapE_eq] at h ⊢
 case m o => obtain ⟨H', R', hK⟩ := MOp.e_run h R; exact ⟨H', R', fun K _ hk => hK K hk⟩
 case p o =>
  split at h
  · rename_i u hu; cases h; exact ⟨H, R, fun K Kp hk => o.e_run hu hk⟩
  · cases h
 case v o =>
  split at h
  · rename_i u hu; cases h; exact ⟨H, R, fun K Kp hk => o.e_run hu hk⟩
  · cases h
 case h o => obtain ⟨H', R', hK⟩ := HOp.e_run h R; exact ⟨H', R', fun K _ hk => hK K hk⟩
 case d o =>
  split at h
  · rename_i u hu; cases h; exact ⟨H, R, fun K Kp hk => by rw [R.get]; exact o.e_run hu hk⟩
  · cases h
 case l o =>
  split at h
  · rename_i u ab kl hu
    rw [forceN_eq] at h
    have R1 : RepH ⟨T.nx + 1, T.bs⟩ ⟨H.nx + 1, H.bs⟩ := ⟨by simp [R.nx], R.get, R.noit⟩
    split at h
    · split at h
      · rename_i T2 hp; cases h
        refine ⟨_, R1.put hp, fun K Kp hk => ?_⟩
        rw [R.get, R.nx]
        refine LOp.e_run hu ?_
        rw [← R.nx] at hk ⊢; exact hk
      · cases h
    · split at h
      · rename_i T1 h1
        split at h
        · rename_i T2 h2; cases h
          refine ⟨_, (R1.put h1).put h2, fun K Kp hk => ?_⟩
          rw [R.get, R.nx]
          refine LOp.e_run hu ?_
          rw [← R.nx] at hk ⊢; exact hk
        · cases h
      · cases h
  · cases h
 case call f args =>
  obtain ⟨H', R', hK⟩ := hc.ok _ _ _ _ _ h H R
  exact ⟨H', R', fun K _ hk => hK K hk⟩
 case callo f args =>
  obtain ⟨H', R', hK⟩ := hc.ok _ _ _ _ _ h H R
  exact ⟨H', R', fun K _ hk => hK K hk⟩
 case callv x args =>
  rw [← RF.ev] at h
  rw [← RF.ev]
  generalize AX.ev fr x = vx at h ⊢
  split at h
  · obtain ⟨H', R', hK⟩ := hc.ok _ _ _ _ _ h H R
    exact ⟨H', R', fun K _ hk => hK K hk⟩
  · obtain ⟨H', R', hK⟩ := hc.ok _ _ _ _ _ h H R
    exact ⟨H', R', fun K _ hk => hK K hk⟩
  · obtain ⟨H', R', hK⟩ := hy.ok _ _ _ _ _ h H R
    exact ⟨H', R', fun K _ hk => hK K hk⟩
  · cases h
 case nq neg x =>
  generalize AX.eF F x = vx at h ⊢
  cases vx <;> simp only [Option.some.injEq, Prod.mk.injEq, reduceCtorEq] at h ⊢
  case nils => obtain ⟨rfl, rfl⟩ := h; exact ⟨H, R, fun K Kp hk => hk⟩
  case slice => obtain ⟨rfl, rfl⟩ := h; exact ⟨H, R, fun K Kp hk => hk⟩
  case dslice cs n cap =>
   cases n with
   | zero => cases h
   | succ n => cases h; exact ⟨H, R, fun K Kp hk => Unk.pos (Nat.succ_pos n) hk⟩
 case calli tbl x args =>
  rw [← RF.ev] at h
  rw [← RF.ev]
  generalize AX.ev fr x = vx at h ⊢
  split at h
  · split at h
    · rename_i f hf
      obtain ⟨H', R', hK⟩ := hc.ok _ _ _ _ _ h H R
      refine ⟨H', R', fun K _ hk => ?_⟩
      simp only [hf]; exact hK K hk
    · cases h
  · cases h
 all_goals cases h
theorem AOp.ex_run (hc : CallOK P call) (hx : CallXOK P cx) (hy : YieldOK P yl) {F : BT AV} {fr : Fr} {T T' : EH} {H : Heap} {o : AOp} {v : EO} (h : o.ex call cx yl F T = some (v, T')) (RF : RepF F fr) (R : RepH T H) : ∃ H', RepH T' H' ∧ ∀ K Kp : AV → Heap → Prop, v.is K Kp H' → o.run P fr H K Kp := by
 have nrm : (match o.e call yl F T with | some (v, T') => some (EO.val v, T') | none => none) = some (v, T') → ∃ H', RepH T' H' ∧ ∀ K Kp : AV → Heap → Prop, v.is K Kp H' → o.run P fr H K Kp := fun h => by
  split at h
  · rename_i u T1 h1; cases h
    exact AOp.e_run hc hy h1 RF R
  · cases h
 cases o
 case callx f args =>
  simp only [AOp.ex, AOp.run, ← RF.ev, fvs_eq, mapE_eq] at h ⊢
  exact hx.ok _ _ _ _ _ h H R
 case callvx x args =>
  simp only [AOp.ex, AOp.run, ← RF.ev, fvs_eq, mapE_eq] at h ⊢
  generalize AX.ev fr x = vx at h ⊢
  split at h
  · exact hx.ok _ _ _ _ _ h H R
  · exact hx.ok _ _ _ _ _ h H R
  · cases h
 case pan x =>
  simp only [AOp.ex, AOp.run, ← RF.ev] at h ⊢
  generalize AX.ev fr x = vx at h ⊢
  split at h
  · rename_i t c
    cases hf : flatV c <;> simp only [hf, cond_true, cond_false] at h ⊢
    · cases h
    · cases h; exact ⟨H, R, fun K Kp hk => hk⟩
  · cases h
 all_goals exact nrm h
theorem AX.eF_look {F : BT AV} {fr : Fr} (RF : RepF F fr) (s : Nat) : AX.eF F (.t s) = look fr s := by
 have := congrFun RF.ev (.t s); exact this.symm
def XA.isN (K : Fr → Heap → Prop) (Kp : AV → Fr → Heap → Prop) (fr : Fr) (H : Heap) : XA → Prop
 | .normal => K fr H
 | .pan c => Kp c fr H
 | _ => False
theorem AO.e_run (hc : CallOK P call) (hx : CallXOK P cx) (hy : YieldOK P yl) {F F' : BT AV} {fr : Fr} {T T' : EH} {H : Heap} {o : AO} {x : XA} (h : o.e call cx yl F T = some (x, F', T')) (RF : RepF F fr) (R : RepH T H) :
 ∃ fr' H', RepF F' fr' ∧ RepH T' H' ∧ ((∃ c, x = .pan c) ∨ x = .normal) ∧ ∀ (K : Fr → Heap → Prop) (Kp : AV → Fr → Heap → Prop), x.isN K Kp fr' H' → o.run P fr H K Kp := by
 unfold AO.e at h; unfold AO.run
 simp only [putK_eq]
 split at h
 · rename_i hg
   split at h
   · rename_i v T1 hv
     split at h
     · rename_i F1 hF; cases h
       obtain ⟨H', R', hK⟩ := AOp.ex_run hc hx hy hv RF R
       exact ⟨_, H', RF.put hF, R', .inr rfl, fun K Kp hk => by simp only [hg]; exact hK _ _ hk⟩
     · cases h
   · rename_i c T1 hv; cases h
     obtain ⟨H', R', hK⟩ := AOp.ex_run hc hx hy hv RF R
     exact ⟨fr, H', RF, R', .inl ⟨_, rfl⟩, fun K Kp hk => by simp only [hg]; exact hK _ _ hk⟩
   · cases h
 · rename_i s want hg
   rw [AX.eF_look RF] at h
   split at h
   · rename_i b hb
     cases hw : b == want <;> simp only [hw, cond_true, cond_false] at h
     · split at h
       · rename_i F1 hF; cases h
         refine ⟨_, H, (RF.know hb).put hF, R, .inr rfl, fun K Kp hk => ?_⟩
         simp only [hg, hb]
         cases b <;> cases want <;> first | (cases hw; done) | exact Branch.ofT rfl hk | exact Branch.ofF rfl hk
       · cases h
     · split at h
       · rename_i v T1 hv
         split at h
         · rename_i F1 hF; cases h
           obtain ⟨H', R', hK⟩ := AOp.ex_run hc hx hy hv (RF.know hb) R
           refine ⟨_, H', (RF.know hb).put hF, R', .inr rfl, fun K Kp hk => ?_⟩
           simp only [hg, hb]
           cases b <;> cases want <;> first | (cases hw; done) | exact Branch.ofT rfl (hK _ _ hk) | exact Branch.ofF rfl (hK _ _ hk)
         · cases h
       · rename_i c T1 hv; cases h
         obtain ⟨H', R', hK⟩ := AOp.ex_run hc hx hy hv (RF.know hb) R
         refine ⟨_, H', (RF.know hb), R', .inl ⟨_, rfl⟩, fun K Kp hk => ?_⟩
         simp only [hg, hb]
         cases b <;> cases want <;> first | (cases hw; done) | exact Branch.ofT rfl (hK _ _ hk) | exact Branch.ofF rfl (hK _ _ hk)
       · cases h
   · rename_i hb
     split at h
     · rename_i F1 hF; cases h
       exact ⟨_, H, RF.put hF, R, .inr rfl, fun K Kp hk => by simp only [hg, hb]; exact hk⟩
     · cases h
   · cases h
theorem opsE_run (hc : CallOK P call) (hx : CallXOK P cx) (hy : YieldOK P yl) : ∀ {l : List AO} {F F' : BT AV} {fr : Fr} {T T' : EH} {H : Heap} {x : XA}, opsE call cx yl l F T = some (x, F', T') → RepF F fr → RepH T H →
 ∃ fr' H', RepF F' fr' ∧ RepH T' H' ∧ ∀ Q : XA → Fr → Heap → Prop, Q x fr' H' → runOps P (Q .normal) (fun c => Q (.pan c)) l fr H
 | [], F, F', fr, T, T', H, x, h, RF, R => by
  simp only [opsE] at h; cases h; exact ⟨fr, H, RF, R, fun Q hk => hk⟩
 | o :: r, F, F', fr, T, T', H, x, h, RF, R => by
  simp only [opsE] at h
  split at h
  · rename_i F1 T1 h1
    obtain ⟨fr1, H1, RF1, R1, _, hK1⟩ := AO.e_run hc hx hy h1 RF R
    obtain ⟨fr2, H2, RF2, R2, hK2⟩ := opsE_run hc hx hy h RF1 R1
    exact ⟨fr2, H2, RF2, R2, fun Q hk => hK1 _ _ (hK2 Q hk)⟩
  · rename_i hne
    obtain ⟨fr1, H1, RF1, R1, hor, hK1⟩ := AO.e_run hc hx hy h RF R
    refine ⟨fr1, H1, RF1, R1, fun Q hk => ?_⟩
    rcases hor with ⟨c, rfl⟩ | rfl
    · exact hK1 _ (fun c => Q (.pan c)) hk
    · exact absurd h (hne _ _)
theorem HOp.qe_run {ev : AX → AV} {η : Nat → AB} {p : Nat} {o : HOp} {v : AV} {b : Ef} (h : o.qe ev η p = some (v, b)) {K : AV → Ef → Prop} (hk : K v b) : o.q ev η p K := by
 cases o <;> simp only [HOp.qe, HOp.q] at h ⊢
 case load agg n x =>
  generalize ev x = vx at h ⊢
  split at h
  · split at h
    · rename_i u hu; cases h; exact loadE_run hu hk
    · cases h
  · split at h
    · rename_i cs hcs
      split at h
      · rename_i u hu; cases h
        simp only [hcs]; exact loadE_run hu hk
      · cases h
    · cases h
  · cases h
 case alloc zero => cases h; exact hk
 case box x =>
  split at h
  · rename_i l hl; cases h; simp only [hl]; exact hk
  · cases h
 case store n q x =>
  generalize ev q = vp at h ⊢
  split at h
  · split at h
    · rename_i cs hcs
      split at h
      · rename_i l hl
        cases hb : Nat.beq l.length n <;> simp only [hb, cond_true, cond_false] at h
        · cases h
        · split at h
          · rename_i cs' hp; cases h
            simp only [hcs, hl, hb, cond_true]; exact lputE_run hp hk
          · cases h
      · cases h
    · cases h
  · cases h
theorem MOp.qe_run {ev : AX → AV} {η : Nat → AB} {o : MOp} {v : AV} {b : Ef} (h : o.qe ev η = some (v, b)) {K : AV → Ef → Prop} (hk : K v b) : o.q ev η K := by
 cases o <;> simp only [MOp.qe, MOp.q] at h ⊢
 case mk => cases h
 case get ok kk zero m k =>
  split at h
  · rename_i p es hm
    cases hb : keyOk kk (ev k) <;> simp only [hb, cond_true, cond_false] at h
    · cases h
    · split at h
      · rename_i r hr; cases h
        exact mapE0_run hm (by simp only [cond_true]; exact ⟨r, hr, hk⟩)
      · cases h
  · cases h
 case set kk m k x =>
  split at h
  · rename_i p es hm
    cases hb : (keyOk kk (ev k)) <;> simp only [hb, cond_true, cond_false] at h
    · cases h
    · split at h
      · rename_i es' hr; cases h
        exact mapE0_run hm (by simp only [cond_true]; exact ⟨es', hr, hk⟩)
      · cases h
  · cases h
 case del kk m k =>
  split at h
  · rename_i p es hm
    cases hb : keyOk kk (ev k) <;> simp only [hb, cond_true, cond_false] at h
    · cases h
    · split at h
      · rename_i es' hr; cases h
        exact mapE0_run hm (by simp only [cond_true]; exact ⟨es', hr, hk⟩)
      · cases h
  · cases h
 case range m => cases h
 case next m => cases h
 case entry m => cases h
 case delw _ _ _ _ => cases h
 case copyS _ _ => cases h
 case copy e d s =>
  generalize ev d = vd at h ⊢
  split at h
  · rename_i k off n cap e'
    split at h
    · rename_i cs hcs
      split at h
      · rename_i ds m hs
        split at h
        · rename_i he
          cases hb : Nat.ble m n <;> simp only [hb, cond_true, cond_false] at h
          · split at h
            · rename_i cs' hl; cases h
              simp only [hcs]
              exact srcE_run hs ⟨he, .ofF (decide_eq_false (fun e => by have := Nat.ble_eq_true_of_le e; rw [this] at hb; cases hb)) (lputE_run hl hk)⟩
            · cases h
          · split at h
            · rename_i cs' hl; cases h
              simp only [hcs]
              exact srcE_run hs ⟨he, .ofT (decide_eq_true (Nat.le_of_ble_eq_true hb)) (lputE_run hl hk)⟩
            · cases h
        · cases h
      · cases h
    · cases h
  · cases h
 case len m =>
  split at h
  · rename_i p es hm; cases h
    exact mapE0_run hm hk
  · cases h
theorem AOp.qe_run (hc : CallOK P call) {ev : AX → AV} {η : Nat → AB} {p : Nat} {o : AOp} {v : AV} {b : Ef} (h : o.qe call ev η p = some (v, b)) {K : AV → Ef → Prop} (hk : K v b) : o.q P ev η p K := by
 cases o <;> simp only [AOp.qe, AOp.q, fvs_eq, mapE_eq] at h ⊢
 case m o => exact MOp.qe_run h hk
 case nq neg x => cases h
 case callx f args => cases h
 case callvx x args => cases h
 case calli tbl x args => cases h
 case pan x => cases h
 case p o =>
  split at h
  · rename_i u hu; cases h; exact o.e_run hu hk
  · cases h
 case v o =>
  split at h
  · rename_i u hu; cases h; exact o.e_run hu hk
  · cases h
 case h o => exact HOp.qe_run h hk
 case d o =>
  split at h
  · rename_i u hu; cases h; exact o.e_run hu hk
  · cases h
 case l o =>
  split at h
  · rename_i u cs kl hu; cases h; exact LOp.e_run hu hk
  · cases h
 case call f args =>
  split at h
  · rename_i r hr; cases h; exact callQ_run hc hr hk
  · cases h
 case callo f args =>
  split at h
  · rename_i n cp e cs hr; cases h; exact callB_run hc hr hk
  · cases h
 case callv x args =>
  generalize ev x = vx at h ⊢
  split at h
  · split at h
    · rename_i r hr; cases h; exact callQ_run hc hr hk
    · cases h
  · split at h
    · rename_i r hr; cases h; exact callQ_run hc hr hk
    · cases h
  · cases h
theorem layE_run : ∀ {b : Ef} {T T' : EH} {H : Heap}, layE T b = some T' → RepH T H → RepH T' (layH H b)
 | [], T, T', H, h, R => by simp only [layE] at h; cases h; exact R
 | (k, x) :: r, T, T', H, h, R => by
  simp only [layE] at h
  split at h
  · rename_i T1 h1; exact layE_run (H := H.set k x) h (R.put h1)
  · cases h
theorem logE_run {dep : List (Nat × Nat)} {i : Nat} {F W : List Nat} {L L' : List En} (h : logE dep i F W L = some L') {K : List En → Prop} (hk : K L') : logK dep i F W L K := by
 unfold logE at h; unfold logK
 split at h
 · cases h; exact hk
 · split
   · rename_i hn; exact absurd rfl (hn rfl)
   · cases hb : okLog dep ⟨i, F, W⟩ L <;> simp only [hb, cond_true, cond_false] at h ⊢
     · cases h
     · cases h; exact hk
theorem qwalkE_run (hc : CallOK P call) {dep : List (Nat × Nat)} : ∀ {l : List AO} {i p : Nat} {L : List En} {F F' : BT AV} {fr : Fr} {T T' : EH} {H : Heap}, qwalkE call dep l i p L F T = some (F', T') → RepF F fr → RepH T H →
 ∃ fr' H', RepF F' fr' ∧ RepH T' H' ∧ ∀ K : Fr → Heap → Prop, K fr' H' → qwalk P dep K l i p L fr H
 | [], i, p, L, F, F', fr, T, T', H, h, RF, R => by
  simp only [qwalkE] at h; cases h; exact ⟨fr, H, RF, R, fun K hk => hk⟩
 | q :: r, i, p, L, F, F', fr, T, T', H, h, RF, R => by
  simp only [qwalkE, AX.eF_look RF] at h
  -- an operation that is done
  have go : ∀ fr0, RepF F fr0 → (match q.op.qe call (AX.eF F) T.get p with
   | some (v, b) => match logE dep i (q.op.foot (AX.eF F)) (keys b) L with
    | some L' => match putE F q.dst v with
     | some F' => match layE T b with
      | some T' => forceN (i + 1) fun i' => forceN (p + 1) fun p' => qwalkE call dep r i' p' L' F' T'
      | none => none
     | none => none
    | none => none
   | none => none) = some (F', T') → ∃ fr' H', RepF F' fr' ∧ RepH T' H' ∧ ∀ K : Fr → Heap → Prop, K fr' H' →
    q.op.q P (AX.ev fr0) H.get p fun v b => logK dep i (q.op.foot (AX.ev fr0)) (keys b) L fun L => qwalk P dep K r (i + 1) (p + 1) L (put fr0 q.dst v) (layH H b) := by
   intro fr0 RF0 h
   split at h
   · rename_i v b hv
     split at h
     · rename_i L1 hL
       split at h
       · rename_i F1 hF
         split at h
         · rename_i T1 hT
           simp only [forceN_eq] at h
           obtain ⟨fr2, H2, RF2, R2, hK⟩ := qwalkE_run hc h (RF0.put hF) (layE_run hT R)
           refine ⟨fr2, H2, RF2, R2, fun K hk => ?_⟩
           rw [RF0.ev, R.get]
           exact AOp.qe_run hc hv (logE_run hL (hK K hk))
         · cases h
       · cases h
     · cases h
   · cases h
  have skip : ∀ fr0, RepF F fr0 → (match putE F q.dst (.tuple []) with
   | some F' => forceN (i + 1) fun i' => forceN (p + 1) fun p' => qwalkE call dep r i' p' L F' T
   | none => none) = some (F', T') → ∃ fr' H', RepF F' fr' ∧ RepH T' H' ∧ ∀ K : Fr → Heap → Prop, K fr' H' →
    qwalk P dep K r (i + 1) (p + 1) L (put fr0 q.dst (.tuple [])) H := by
   intro fr0 RF0 h
   split at h
   · rename_i F1 hF
     simp only [forceN_eq] at h
     exact qwalkE_run hc h (RF0.put hF) R
   · cases h
  simp only [qwalk_cons, qstep, layK_eq, putK_eq]
  cases hg : q.guard with
  | none =>
   simp only [hg] at h
   obtain ⟨fr', H', a, b, hK⟩ := go fr RF h
   exact ⟨fr', H', a, b, hK⟩
  | some sw =>
   obtain ⟨s, want⟩ := sw
   simp only [hg] at h
   cases hb : look fr s <;> simp only [hb] at h ⊢ <;> try (cases h; done)
   case bool b =>
    cases b <;> cases want <;> simp only [show (false == false) = true from rfl, show (true == true) = true from rfl, show (false == true) = false from rfl, show (true == false) = false from rfl] at h
    · obtain ⟨fr', H', a, b, hK⟩ := go _ (RF.know hb) h
      exact ⟨fr', H', a, b, fun K hk => Branch.ofF rfl (hK K hk)⟩
    · obtain ⟨fr', H', a, b, hK⟩ := skip _ (RF.know hb) h
      exact ⟨fr', H', a, b, fun K hk => Branch.ofF rfl (hK K hk)⟩
    · obtain ⟨fr', H', a, b, hK⟩ := skip _ (RF.know hb) h
      exact ⟨fr', H', a, b, fun K hk => Branch.ofT rfl (hK K hk)⟩
    · obtain ⟨fr', H', a, b, hK⟩ := go _ (RF.know hb) h
      exact ⟨fr', H', a, b, fun K hk => Branch.ofT rfl (hK K hk)⟩
   case tuple cs =>
    cases cs with
    | nil =>
     simp only at h ⊢
     obtain ⟨fr', H', a, b, hK⟩ := skip _ RF h
     exact ⟨fr', H', a, b, hK⟩
    | cons c cs => simp only at h; cases h
theorem loopE_run {n : Nat} {body : (XA → Fr → Heap → Prop) → Fr → Heap → Prop} {step : BT AV → EH → Option (XA × BT AV × EH)}
 (hs : ∀ F T x F' T', step F T = some (x, F', T') → ∀ fr H, RepF F fr → RepH T H → ∃ fr' H', RepF F' fr' ∧ RepH T' H' ∧ ∀ Q : XA → Fr → Heap → Prop, Q x fr' H' → body Q fr H) :
 ∀ (k : Nat) {F F' : BT AV} {fr : Fr} {T T' : EH} {H : Heap} {x : XA}, loopE step k F T = some (x, F', T') → RepF F fr → RepH T H →
  ∃ j fr' H', k = j + 1 ∧ RepF F' fr' ∧ RepH T' H' ∧ ∀ Q : XA → Fr → Heap → Prop, Q x fr' H' → body (lpost n Q j (LoopI n body Q j)) fr H
 | 0, _, _, _, _, _, _, _, h, _, _ => by simp [loopE] at h
 | k + 1, F, F', fr, T, T', H, x, h, RF, R => by
  simp only [loopE] at h
  split at h
  · rename_i F1 T1 h1
    obtain ⟨fr1, H1, RF1, R1, hK1⟩ := hs _ _ _ _ _ h1 fr H RF R
    obtain ⟨j, fr2, H2, rfl, RF2, R2, hK2⟩ := loopE_run (n := n) hs k h RF1 R1
    refine ⟨j + 1, fr2, H2, rfl, RF2, R2, fun Q hq => hK1 _ ?_⟩
    exact ⟨j, Nat.lt_succ_self _, To.refl (.inl ⟨rfl, hK2 Q hq⟩)⟩
  · rename_i hne
    obtain ⟨fr1, H1, RF1, R1, hK1⟩ := hs _ _ _ _ _ h fr H RF R
    refine ⟨k, fr1, H1, rfl, RF1, R1, fun Q hq => hK1 _ ?_⟩
    cases x with
    | normal => exact absurd h (hne _ _)
    | exit id => exact hq
    | ret => exact hq
    | pan c => exact hq
theorem selO_eq {β : Type} {F : BT AV} {fr : Fr} (RF : RepF F fr) : ∀ (l : List Nat) (K : Fr → Option β), selO F l K = K (selF fr l)
 | [], _ => rfl
 | t :: r, K => by
  have hg := RF.get t
  simp only [selO, selF]
  cases h : F.get t with
  | none => rw [h] at hg; simp only [selO_eq RF r, hg, Option.getD_none]
  | some v => rw [h] at hg; simp only [selO_eq RF r, hg, Option.getD_some]
def AC.rfAll (P : Program) : AC → Prop
 | .rangeF id _ _ ps A B => RfAt P id ps A B ∧ A.noRF = true ∧ B.noRF = true
 | .seq a b => a.rfAll P ∧ b.rfAll P
 | .cond _ a b => a.rfAll P ∧ b.rfAll P
 | .block _ a => a.rfAll P
 | .loop a => a.rfAll P
 | .ghost a => a.rfAll P
 | .scope a => a.rfAll P
 | _ => True
theorem AC.rfAll_of : ∀ {ac : AC}, ac.noRF = true → ac.rfAll P
 | .rangeF _ _ _ _ _ _, h => by simp [AC.noRF] at h
 | .seq a b, h => by simp only [AC.noRF, Bool.and_eq_true] at h; exact ⟨AC.rfAll_of h.1, AC.rfAll_of h.2⟩
 | .cond _ a b, h => by simp only [AC.noRF, Bool.and_eq_true] at h; exact ⟨AC.rfAll_of h.1, AC.rfAll_of h.2⟩
 | .block _ a, h => AC.rfAll_of (ac := a) (by simpa [AC.noRF] using h)
 | .loop a, h => AC.rfAll_of (ac := a) (by simpa [AC.noRF] using h)
 | .ghost a, h => AC.rfAll_of (ac := a) (by simpa [AC.noRF] using h)
 | .scope a, h => AC.rfAll_of (ac := a) (by simpa [AC.noRF] using h)
 | .skip, _ => trivial
 | .ret, _ => trivial
 | .exit _, _ => trivial
 | .reg _, _ => trivial
 | .draw _ _ _, _ => trivial
 | .act _ _ _, _ => trivial
theorem AOp.rdE_run {ev : AX → AV} {η : Nat → AB} {K : AV → Prop} {v : AV} : ∀ {o : AOp}, o.rdE ev η = some v → K v → o.rd ev η K
 | .p o, hh, hk => o.e_run hh hk
 | .v o, hh, hk => VOp.e_run hh hk
 | .h (.load agg n x), hh, hk => by
  simp only [AOp.rdE, AOp.rd] at hh ⊢
  generalize ev x = vx at hh ⊢
  split at hh
  · exact loadE_run hh hk
  · split at hh
    · rename_i hcs; simp only [hcs]; exact loadE_run hh hk
    · cases hh
  · cases hh
 | .m (.get ok kk zero mm k), hh, hk => by
  simp only [AOp.rdE, AOp.rd] at hh ⊢
  split at hh
  · rename_i p es hm
    cases hb : keyOk kk (ev k) <;> simp only [hb, cond_true, cond_false] at hh
    · cases hh
    · split at hh
      · rename_i r hr; cases hh
        exact mapE0_run hm (by simp only [cond_true]; exact ⟨r, hr, hk⟩)
      · cases hh
  · cases hh
theorem rdE_run {T : EH} {H : Heap} (R : RepH T H) : ∀ {l : List AO} {F F' : BT AV} {fr : Fr}, rdE T l F = some F' → RepF F fr → ∃ fr', RepF F' fr' ∧ ∀ K : Fr → Prop, K fr' → rdK H K l fr
 | [], F, F', fr, h, RF => by simp only [rdE] at h; cases h; exact ⟨fr, RF, fun K hk => hk⟩
 | q :: r, F, F', fr, h, RF => by
  simp only [rdE] at h
  split at h
  · rename_i v hv
    split at h
    · rename_i F1 h1
      obtain ⟨fr', RF', hK⟩ := rdE_run R h (RF.put h1)
      refine ⟨fr', RF', fun K hk => ?_⟩
      rw [rdK_cons, RF.ev]
      refine AOp.rdE_run (v := v) ?_ (hK K hk)
      have : H.get = T.get := R.get
      rw [this]; exact hv
    · cases h
  · cases h
theorem sameE_run {F G : BT AV} {f g : Fr} (RF : RepF F f) (RG : RepF G g) : ∀ {l : List AO}, sameE l F G = true → sameD l f g
 | [], _ => trivial
 | q :: r, h => by
  simp only [sameE, Bool.and_eq_true] at h
  refine ⟨?_, sameE_run RF RG h.2⟩
  have h1 := h.1
  cases hd : q.dst with
  | none => trivial
  | some d =>
   rw [hd] at h1
   simp only
   rw [← AX.eF_look RF, ← AX.eF_look RG]
   exact avEq_spec h1
theorem forgetE_run {F F' : BT AV} {fr : Fr} (RF : RepF F fr) : ∀ {l : List AO}, forgetE l F = some F' → RepF F' (forgetF l fr)
 | [], h => by simp only [forgetE] at h; cases h; exact RF
 | q :: r, h => by
  simp only [forgetE] at h
  split at h
  · rename_i F1 h1
    have R1 := forgetE_run RF h1
    simp only [forgetF]
    cases hd : q.dst with
    | none => rw [hd] at h; cases h; exact R1
    | some d => rw [hd] at h; exact R1.put h
  · cases h
theorem actE_run (hc : CallOK P call) (hx : CallXOK P cx) (hy : YieldOK P yl) {ci : Nat} {tags : List Nat} {qs : List AO} {F F' : BT AV} {fr : Fr} {T T' : EH} {H : Heap} {x : XA} (h : actE call cx yl ci tags qs F T = some (x, F', T')) (RF : RepF F fr) (R : RepH T H) :
 ∃ fr' H', RepF F' fr' ∧ RepH T' H' ∧ ∀ Q : XA → Fr → Heap → Prop, Q x fr' H' → actK P ci tags qs (Q .normal) (fun c => Q (.pan c)) fr H := by
 unfold actE at h
 split at h
 · rename_i c hci
   split at h
   · rename_i F0 h0
     obtain ⟨fr0, RF0, hK0⟩ := rdE_run R h0 RF
     split at h
     · rename_i v T1 h1
       obtain ⟨H1, R1, hop⟩ := AOp.ex_run hc hx hy h1 RF0 R
       split at h
       · rename_i F1 h2
         split at h
         · rename_i F2 h3
           cases hs : sameE (selT isF tags qs) F0 F2 <;> simp only [hs, cond_true, cond_false] at h
           · cases h
           · cases h
             obtain ⟨fr2, RF2, hK2⟩ := rdE_run R1 h3 (RF0.put h2)
             refine ⟨fr2, H1, RF2, R1, fun Q hq => ?_⟩
             unfold actK
             simp only [hci]
             refine hK0 _ (hop _ _ ?_)
             simp only [EO.is, putK_eq]
             exact hK2 _ ⟨sameE_run RF0 RF2 hs, hq⟩
         · cases h
       · cases h
     · rename_i e T1 h1
       obtain ⟨H1, R1, hop⟩ := AOp.ex_run hc hx hy h1 RF0 R
       split at h
       · rename_i F1 h2; cases h
         refine ⟨_, H1, forgetE_run RF h2, R1, fun Q hq => ?_⟩
         unfold actK
         simp only [hci]
         exact hK0 _ (hop _ _ hq)
       · cases h
     · cases h
   · cases h
 · cases h
theorem AC.e_run (hc : CallOK P call) (hx : CallXOK P cx) (hy : YieldOK P yl) {n lf : Nat} : ∀ (ac : AC), ac.rfAll P → ∀ {F F' : BT AV} {fr : Fr} {T T' : EH} {H : Heap} {x : XA}, ac.e call cx yl lf F T = some (x, F', T') → RepF F fr → RepH T H →
 ∃ fr' H', RepF F' fr' ∧ RepH T' H' ∧ ∀ Q : XA → Fr → Heap → Prop, Q x fr' H' → ac.run P n Q fr H
 | .skip, _, _, _, fr, _, _, H, _, h, RF, R => by simp only [AC.e] at h; cases h; exact ⟨fr, H, RF, R, fun Q hq => hq⟩
 | .ret, _, _, _, fr, _, _, H, _, h, RF, R => by simp only [AC.e] at h; cases h; exact ⟨fr, H, RF, R, fun Q hq => hq⟩
 | .exit id, _, _, _, fr, _, _, H, _, h, RF, R => by simp only [AC.e] at h; cases h; exact ⟨fr, H, RF, R, fun Q hq => hq⟩
 | .reg ops, _, _, _, fr, _, _, H, _, h, RF, R => by
  simp only [AC.e] at h
  obtain ⟨fr1, H1, RF1, R1, hK⟩ := opsE_run hc hx hy h RF R
  exact ⟨fr1, H1, RF1, R1, fun Q hq => hK Q hq⟩
 | .draw m dep ops, _, _, _, fr, T, _, H, _, h, RF, R => by
  simp only [AC.e, forceN_eq] at h
  split at h
  · rename_i F1 T1 h1
    obtain ⟨fr1, H1, RF1, R1, hK1⟩ := qwalkE_run hc h1 RF (H := ⟨H.nx + m, H.bs⟩) ⟨by simp [R.nx], R.get, R.noit⟩
    obtain ⟨fr2, H2, RF2, R2, hK2⟩ := opsE_run hc hx hy h RF1 R1
    refine ⟨fr2, H2, RF2, R2, fun Q hq => ?_⟩
    have := hK1 (fun fr H => runOps P (Q .normal) (fun c => Q (.pan c)) (ops.drop m) fr H) (hK2 Q hq)
    rw [← R.nx] at this
    have hsf : setFree (ops.take m) H.get H.nx = true := by
     rw [setFree, noIts_of (fun j => isIt_of (R.noit j))]; simp
    show (bif setFree (ops.take m) H.get H.nx then _ else False)
    rw [hsf]
    exact this
  · cases h
 | .seq a b, ⟨ra, rb⟩, _, _, fr, _, _, H, x, h, RF, R => by
  simp only [AC.e] at h
  split at h
  · rename_i F1 T1 h1
    obtain ⟨fr1, H1, RF1, R1, hK1⟩ := AC.e_run hc hx hy a ra h1 RF R
    obtain ⟨fr2, H2, RF2, R2, hK2⟩ := AC.e_run hc hx hy b rb h RF1 R1
    exact ⟨fr2, H2, RF2, R2, fun Q hq => hK1 _ (hK2 Q hq)⟩
  · rename_i hne
    obtain ⟨fr1, H1, RF1, R1, hK1⟩ := AC.e_run hc hx hy a ra h RF R
    refine ⟨fr1, H1, RF1, R1, fun Q hq => hK1 _ ?_⟩
    cases x with
    | normal => exact absurd h (hne _ _)
    | exit id => exact hq
    | ret => exact hq
    | pan c => exact hq
 | .cond c a b, ⟨ra, rb⟩, F, _, fr, _, _, H, _, h, RF, R => by
  simp only [AC.e] at h
  simp only [AC.run_cond, RF.ev]
  generalize AX.eF F c = vc at h ⊢
  cases vc <;> simp only at h ⊢ <;> try (cases h; done)
  rename_i t
  cases t <;> simp only at h
  · obtain ⟨fr1, H1, RF1, R1, hK1⟩ := AC.e_run hc hx hy b rb h RF R
    exact ⟨fr1, H1, RF1, R1, fun Q hq => Branch.ofF rfl (hK1 Q hq)⟩
  · obtain ⟨fr1, H1, RF1, R1, hK1⟩ := AC.e_run hc hx hy a ra h RF R
    exact ⟨fr1, H1, RF1, R1, fun Q hq => Branch.ofT rfl (hK1 Q hq)⟩
 | .block id a, ra, _, _, fr, _, _, H, x, h, RF, R => by
  simp only [AC.e] at h
  split at h
  · rename_i j F1 T1 h1
    obtain ⟨fr1, H1, RF1, R1, hK1⟩ := AC.e_run hc hx hy a ra h1 RF R
    cases hb : Nat.beq j id <;> simp only [hb, cond_true, cond_false] at h <;> cases h
    · exact ⟨fr1, H1, RF1, R1, fun Q hq => hK1 (blockK id Q) (by simp only [blockK, hb, cond_false]; exact hq)⟩
    · exact ⟨fr1, H1, RF1, R1, fun Q hq => hK1 (blockK id Q) (by simp only [blockK, hb, cond_true]; exact hq)⟩
  · rename_i hne
    obtain ⟨fr1, H1, RF1, R1, hK1⟩ := AC.e_run hc hx hy a ra h RF R
    refine ⟨fr1, H1, RF1, R1, fun Q hq => hK1 _ ?_⟩
    cases x with
    | normal => exact hq
    | exit id => exact absurd h (hne _ _ _)
    | ret => exact hq
    | pan c => exact hq
 | .loop a, ra, _, _, fr, _, _, H, _, h, RF, R => by
  simp only [AC.e] at h
  obtain ⟨j, fr1, H1, _, RF1, R1, hK⟩ := loopE_run (n := n) (body := a.run P n) (fun F T x F' T' hs fr H RF R => AC.e_run hc hx hy a ra hs RF R) lf h RF R
  exact ⟨fr1, H1, RF1, R1, fun Q hq => LoopA.unroll n (a.run P n) Q j (hK Q hq)⟩
 | .ghost a, ra, _, _, fr, _, _, H, _, h, RF, R => by
  simp only [AC.e] at h
  obtain ⟨fr1, H1, RF1, R1, hK1⟩ := AC.e_run hc hx hy a ra h RF R
  exact ⟨fr1, H1, RF1, R1, fun Q hq => To.refl (hK1 Q hq)⟩
 | .scope a, ra, _, _, fr, _, _, H, _, h, RF, R => by
  simp only [AC.e] at h
  obtain ⟨fr1, H1, RF1, R1, hK1⟩ := AC.e_run hc hx hy a ra h RF R
  exact ⟨fr1, H1, RF1, R1, fun Q hq => hK1 Q hq⟩
 | .act ci tags qs, _, _, _, fr, _, _, H, _, h, RF, R => by
  simp only [AC.e] at h
  exact actE_run hc hx hy h RF R
 | .rangeF id g sl ps A B, hrf, F, F', fr, T, T', H, x, h, RF, R => by
  simp only [AC.e, ← RF.ev] at h
  show ∃ fr' H', RepF F' fr' ∧ RepH T' H' ∧ ∀ Q : XA → Fr → Heap → Prop, Q x fr' H' → rangeE P id sl ps A B (g.ev fr) Q fr H
  simp only [rangeE_eq]
  generalize AX.ev fr g = vg at h ⊢
  split at h
  · rename_i f caps
    rw [selO_eq RF] at h
    split at h
    · rename_i T1 h1
      split at h
      · rename_i r2 T2 h2
        obtain ⟨H2, R2, hK2⟩ := hc.ok _ _ _ _ _ h2 _ (R.push h1)
        unfold rangeO at h
        have go : ∀ (st : RS) (x0 : XA) id' fr', T2.get T.nx = .loop st id' fr' → (∀ Q : XA → Fr → Heap → Prop, rangeK H.nx Q fr H2 = Q x0 fr (H2.set H.nx .dead)) → (match T2.put T.nx .dead with | some T' => some (x0, F, T') | none => none) = some (x, F', T') →
         ∃ fr' H', RepF F' fr' ∧ RepH T' H' ∧ ∀ Q : XA → Fr → Heap → Prop, Q x fr' H' → Side (RfAt P id ps A B ∧ A.noRF = true ∧ B.noRF = true) (CallA P f (.yld H.nx :: caps) (H.push (.loop .ready id (selF fr sl))) fun _ H' => rangeK H.nx Q fr H') := by
         intro st x0 id' fr' hg hk hp
         split at hp
         · rename_i T3 h3; cases hp
           refine ⟨fr, _, RF, (R2.put h3), fun Q hq => ⟨hrf, ?_⟩⟩
           rw [← R.nx] at hq hK2
           exact hK2 _ (by rw [hk]; exact hq)
         · cases hp
        have hkk : ∀ Q : XA → Fr → Heap → Prop, rangeK H.nx Q fr H2 = match T2.get T.nx with
         | .loop .ready _ _ => Q .normal fr (H2.set H.nx .dead)
         | .loop (.done .ret) _ _ => Q .ret fr (H2.set H.nx .dead)
         | .loop (.done (.exit i)) _ _ => Q (.exit i) fr (H2.set H.nx .dead)
         | _ => False := fun Q => by unfold rangeK; rw [R2.get, R.nx]; rfl
        split at h
        · rename_i id' fr' hg; exact go .ready _ _ _ hg (fun Q => by rw [hkk, hg]) h
        · rename_i id' fr' hg; exact go (.done .ret) _ _ _ hg (fun Q => by rw [hkk, hg]) h
        · rename_i i id' fr' hg; exact go (.done (.exit i)) _ _ _ hg (fun Q => by rw [hkk, hg]) h
        · cases h
      · cases h
    · cases h
  · cases h
theorem resE_run {F : BT AV} {fr : Fr} {T : EH} {H : Heap} (RF : RepF F fr) (R : RepH T H) : ∀ {rs : List AR} {vs : List AV}, resE F T rs = some vs → ∀ {K : List AV → Prop}, K vs → resK fr H rs K
 | [], _, h, K, hk => by simp only [resE] at h; cases h; exact hk
 | .tmp t :: r, _, h, K, hk => by
  simp only [resE, AX.eF_look RF] at h
  split at h
  · rename_i vs hv; cases h
    simp only [resK, fv_eq]
    exact resE_run RF R hv hk
  · cases h
 | .cell t agg n :: r, _, h, K, hk => by
  simp only [resE, AX.eF_look RF] at h
  simp only [resK]
  generalize look fr t = vt at h ⊢
  cases vt <;> simp only at h ⊢ <;> try (cases h; done)
  rw [← R.get] at h
  rename_i k off
  generalize H.get k = b at h ⊢
  cases b <;> simp only at h ⊢ <;> try (cases h; done)
  split at h
  · rename_i v hv
    split at h
    · rename_i vs hvs; cases h
      exact loadE_run hv (resE_run RF R hvs hk)
    · cases h
  · cases h
theorem frameE_rep : ∀ {vs : List AV} {i : Nat} {F : BT AV}, frameE i vs = some F → RepF F (frame0 i vs)
 | [], _, _, h => by simp only [frameE] at h; cases h; exact ⟨fun _ => rfl⟩
 | v :: r, i, F, h => by
  simp only [frameE] at h
  split at h
  · rename_i F1 h1; exact (frameE_rep h1).put h
  · cases h
theorem findE_spec : ∀ {tbl : List FE} {f : FuncId} {e : FE}, findE tbl f = some e → e ∈ tbl ∧ e.f = f
 | [], _, _, h => by simp [findE] at h
 | e :: r, f, e', h => by
  simp only [findE] at h
  cases hb : Nat.beq e.f f <;> simp only [hb, cond_true, cond_false] at h
  · have := findE_spec h; exact ⟨List.mem_cons_of_mem _ this.1, this.2⟩
  · cases h; exact ⟨List.mem_cons_self .., Nat.eq_of_beq_eq_true hb⟩
theorem frBT_rep : ∀ {fr : Fr} {F : BT AV}, frBT fr = some F → RepF F fr
 | [], _, h => by simp only [frBT] at h; cases h; exact ⟨fun _ => rfl⟩
 | (t, v) :: r, F, h => by
  simp only [frBT] at h
  split at h
  · rename_i F1 h1; exact (frBT_rep h1).put h
  · cases h
theorem putLE_rep : ∀ {ps : List Nat} {vs : List AV} {F F' : BT AV} {fr : Fr}, putLE F ps vs = some F' → RepF F fr → RepF F' (putL fr ps vs) ∧ vs.length = ps.length
 | [], [], _, _, _, h, R => by simp only [putLE] at h; cases h; exact ⟨R, rfl⟩
 | t :: ps, v :: vs, F, F', fr, h, R => by
  simp only [putLE] at h
  split at h
  · rename_i F1 h1
    obtain ⟨h2, h3⟩ := putLE_rep h (R.put h1)
    exact ⟨h2, by simp [h3]⟩
  · cases h
 | [], _ :: _, _, _, _, h, _ => by simp [putLE] at h
 | _ :: _, [], _, _, _, h, _ => by simp [putLE] at h
theorem findR_spec : ∀ {rt : List RE} {f : Nat} {e : RE}, findR rt f = some e → e ∈ rt ∧ e.id = f
 | [], _, _, h => by simp [findR] at h
 | e :: r, f, e', h => by
  simp only [findR] at h
  cases hb : Nat.beq e.id f <;> simp only [hb, cond_true, cond_false] at h
  · have := findR_spec h; exact ⟨List.mem_cons_of_mem _ this.1, this.2⟩
  · cases h; exact ⟨List.mem_cons_self .., Nat.eq_of_beq_eq_true hb⟩
theorem endO_run {k n : Nat} {x : XA} {T T' : EH} {r : AV} {H : Heap} {fr : Fr} (h : endO k x T = some (r, T')) (R : RepH T H) : ∃ H', RepH T' H' ∧ ∀ K : AV → Heap → Prop, K r H' → roundK n k K x fr H := by
 unfold endO at h
 split at h
 · rename_i id fr2 hk
   have hk' : H.get k = .loop .busy id fr2 := by rw [R.get]; exact hk
   cases x <;> simp only at h
   case pan c => cases h
   all_goals
    split at h
    · rename_i T1 h1; cases h
      refine ⟨_, R.put h1, fun K hq => ?_⟩
      simp only [roundK, hk', setK_eq]
      exact RetA.same hq
    · cases h
 · cases h
def FE.rfAll (P : Program) (e : FE) : Prop := e.ac.rfAll P ∧ match e.d with
 | none => True
 | some d => d.B.rfAll P
theorem FE.rfAll_of {e : FE} (h : e.noRF = true) : e.rfAll P := by
 unfold FE.noRF at h
 simp only [Bool.and_eq_true] at h
 refine ⟨AC.rfAll_of h.1, ?_⟩
 have h2 := h.2
 split
 · trivial
 · rename_i d hd; rw [hd] at h2; exact AC.rfAll_of h2
theorem DE.fin_run (hc : CallOK P call) (hx : CallXOK P cx) (hy : YieldOK P yl) {d : DE} (hd : okFD P d.g d.N d.t d.ac = true) {lf n : Nat} {rs : List AR} {caps : List AV} {m : Option AV} {F : BT AV} {T T' : EH} {H : Heap} {fr : Fr} {v : EO}
 (h : d.fin call cx yl lf rs caps (recV m) F T = some (v, T')) (hle : caps.length ≤ d.N) (RF : RepF F fr) (R : RepH T H) : ∃ H', RepH T' H' ∧ ∀ K Kp : AV → Heap → Prop, v.is K Kp H' → DefA P d.g caps m H fun H3 => resK fr H3 rs fun vs => RetA n K (one vs) H3 := by
 have hnrf : d.ac.noRF = true := by
  unfold okFD at hd; simp only [Bool.and_eq_true] at hd; exact hd.1.2
 unfold DE.fin at h
 split at h
 · rename_i G hG
   split at h
   · rename_i G' hG'
     have RG : RepF G' ((d.t, recV m) :: frame0 0 caps) := (frameE_rep hG).put hG'
     split at h
     · rename_i F4 T4 h4
       obtain ⟨fr4, H4, RF4, R4, hK⟩ := AC.e_run hc hx hy (n := H.nx) d.ac (AC.rfAll_of hnrf) h4 RG R
       split at h
       · rename_i l hl; cases h
         exact ⟨H4, R4, fun K Kp hk => defA_of hd hle (hK _ (RetP.same (resE_run RF R4 hl (RetA.same hk))))⟩
       · cases h
     · rename_i F4 T4 h4
       obtain ⟨fr4, H4, RF4, R4, hK⟩ := AC.e_run hc hx hy (n := H.nx) d.ac (AC.rfAll_of hnrf) h4 RG R
       split at h
       · rename_i l hl; cases h
         exact ⟨H4, R4, fun K Kp hk => defA_of hd hle (hK _ (RetP.same (resE_run RF R4 hl (RetA.same hk))))⟩
       · cases h
     · cases h
   · cases h
 · cases h
theorem DE.e_run (hc : CallOK P call) (hx : CallXOK P cx) (hy : YieldOK P yl) {d : DE} {f : FuncId} {N : Nat} {A : AC} {rs : List AR} (hok : okFX P f N A d.qs d.x d.B rs = true) (hd : okFD P d.g d.N d.t d.ac = true) (hB : d.B.rfAll P) {lf : Nat} {vs : List AV} {T T' : EH} {H : Heap} {v : EO}
 (h : d.e call cx yl lf rs A vs T = some (v, T')) (hN : vs.length ≤ N) (R : RepH T H) : ∃ H', RepH T' H' ∧ ∀ K Kp : AV → Heap → Prop, v.is K Kp H' → CallX P f vs H K Kp := by
 have hA : A.noRF = true := by
  unfold okFX at hok; simp only [Bool.and_eq_true] at hok; exact hok.1.2
 unfold DE.e at h
 split at h
 · rename_i F hF
   split at h
   · rename_i F1 T1 h1
     obtain ⟨fr1, H1, RF1, R1, hK1⟩ := AC.e_run hc hx hy (n := H.nx) A (AC.rfAll_of hA) h1 (frameE_rep hF) R
     split at h
     · rename_i F2 T2 h2
       obtain ⟨fr2, H2, RF2, R2, hK2⟩ := opsE_run hc hx hy h2 RF1 R1
       split at h
       · rename_i g caps hg
         have hg' : look fr2 d.x = .func g caps := by rw [← AX.eF_look RF2]; exact hg
         cases hb : (Nat.beq g d.g && Nat.ble caps.length d.N) <;> simp only [hb, cond_true, cond_false] at h
         · cases h
         · simp only [Bool.and_eq_true] at hb
           have e1 := Nat.eq_of_beq_eq_true hb.1
           have hle := Nat.le_of_ble_eq_true hb.2
           subst e1
           have fin : ∀ {x : XA} {F3 : BT AV} {T3 : EH} {m : Option AV}, d.B.e call cx yl lf F2 T2 = some (x, F3, T3) → (x = .normal ∧ m = none ∨ x = .ret ∧ m = none ∨ ∃ c, x = .pan c ∧ m = some c) → d.fin call cx yl lf rs caps (recV m) F3 T3 = some (v, T') → ∃ H', RepH T' H' ∧ ∀ K Kp : AV → Heap → Prop, v.is K Kp H' → CallX P f vs H K Kp := by
            intro x F3 T3 m h3 hm hf
            obtain ⟨fr3, H3, RF3, R3, hK3⟩ := AC.e_run hc hx hy (n := H2.nx) d.B hB h3 RF2 R2
            obtain ⟨H4, R4, hK4⟩ := DE.fin_run hc hx hy hd (n := H.nx) hf hle RF3 R3
            refine ⟨H4, R4, fun K Kp hk => callXD_of hok hN (hK1 _ ?_)⟩
            refine hK2 (fun e fr H' => match e with
             | .normal => (match look fr d.x with
              | .func g caps => d.B.run P H'.nx (endDx P H.nx g caps rs K) fr H'
              | _ => False)
             | .pan c => RetP H.nx (Kp c) H'
             | _ => False) ?_
            simp only [hg']
            refine hK3 _ ?_
            rcases hm with ⟨rfl, rfl⟩ | ⟨rfl, rfl⟩ | ⟨c, rfl, rfl⟩ <;> exact hK4 K Kp hk
           split at h
           · rename_i F3 T3 h3; exact fin (m := none) h3 (.inl ⟨rfl, rfl⟩) h
           · rename_i F3 T3 h3; exact fin (m := none) h3 (.inr (.inl ⟨rfl, rfl⟩)) h
           · rename_i c F3 T3 h3; exact fin (m := some c) h3 (.inr (.inr ⟨c, rfl, rfl⟩)) h
           · cases h
       · cases h
     · rename_i c F2 T2 h2; cases h
       obtain ⟨fr2, H2, RF2, R2, hK2⟩ := opsE_run hc hx hy h2 RF1 R1
       refine ⟨H2, R2, fun K Kp hk => callXD_of hok hN (hK1 _ ?_)⟩
       refine hK2 (fun e fr H' => match e with
        | .normal => (match look fr d.x with
         | .func g caps => d.B.run P H'.nx (endDx P H.nx g caps rs K) fr H'
         | _ => False)
        | .pan c => RetP H.nx (Kp c) H'
        | _ => False) ?_
       exact RetP.same hk
     · cases h
   · rename_i c F1 T1 h1; cases h
     obtain ⟨fr1, H1, RF1, R1, hK1⟩ := AC.e_run hc hx hy (n := H.nx) A (AC.rfAll_of hA) h1 (frameE_rep hF) R
     exact ⟨H1, R1, fun K Kp hk => callXD_of hok hN (hK1 _ (RetP.same hk))⟩
   · rename_i F1 T1 h1
     obtain ⟨fr1, H1, RF1, R1, hK1⟩ := AC.e_run hc hx hy (n := H.nx) A (AC.rfAll_of hA) h1 (frameE_rep hF) R
     split at h
     · rename_i l hl; cases h
       exact ⟨H1, R1, fun K Kp hk => callXD_of hok hN (hK1 _ (resE_run RF1 R1 hl (RetA.same hk)))⟩
     · cases h
   · cases h
 · cases h
theorem bodyE_run (hc : CallOK P call) (hx : CallXOK P cx) (hy : YieldOK P yl) {lf : Nat} {e : FE} (hok : e.ok P) (hrfe : e.rfAll P) {vs : List AV} {T T' : EH} {H : Heap} {r : EO} (h : bodyE call cx yl lf e vs T = some (r, T')) (R : RepH T H) :
 ∃ H', RepH T' H' ∧ ∀ K Kp : AV → Heap → Prop, r.is K Kp H' → CallX P e.f vs H K Kp := by
 unfold bodyE at h
 cases hb : Nat.ble vs.length e.N <;> simp only [hb, cond_true, cond_false] at h
 · cases h
 · unfold FE.ok at hok
   unfold FE.rfAll at hrfe
   split at h
   · rename_i d hd
     simp only [hd] at hok hrfe
     exact DE.e_run hc hx hy hok.1 hok.2 hrfe.2 h (Nat.le_of_ble_eq_true hb) R
   · rename_i hd
     simp only [hd] at hok hrfe
     split at h
     · rename_i F hF
       split at h
       · cases h
       · rename_i c F' T1 hx1; cases h
         obtain ⟨fr1, H1, RF1, R1, hK⟩ := AC.e_run hc hx hy (n := H.nx) e.ac hrfe.1 hx1 (frameE_rep hF) R
         exact ⟨H1, R1, fun K Kp hk => callX_of hok (Nat.le_of_ble_eq_true hb) (hK _ (RetP.same hk))⟩
       · rename_i x F' T1 hne hnp hx1
         split at h
         · rename_i rs hrs; cases h
           obtain ⟨fr1, H1, RF1, R1, hK⟩ := AC.e_run hc hx hy (n := H.nx) e.ac hrfe.1 hx1 (frameE_rep hF) R
           refine ⟨H1, R1, fun K Kp hk => callX_of hok (Nat.le_of_ble_eq_true hb) (hK _ ?_)⟩
           cases x with
           | normal => exact resE_run RF1 R1 hrs (RetA.same hk)
           | exit id => exact (hne _ rfl).elim
           | ret => exact resE_run RF1 R1 hrs (RetA.same hk)
           | pan c => exact (hnp _ rfl).elim
         · cases h
       · cases h
     · cases h
theorem runB_ok {ov : CallE} (hov : CallOK P ov) {tbl : List FE} (htbl : ∀ e ∈ tbl, e.ok P) (hrf : ∀ e ∈ tbl, e.rfAll P) {rt : List RE} (hrt : ∀ e ∈ rt, RfAt P e.id e.ps e.A e.B ∧ e.A.noRF = true ∧ e.B.noRF = true) (lf : Nat) : ∀ n, CallXOK P (fun f => runB ov tbl rt lf n (.inl f)) ∧ YieldOK P (CallXE.call fun k => runB ov tbl rt lf n (.inr k))
 | 0 => ⟨⟨fun f vs T r T' h => by simp [runB] at h⟩, ⟨fun f vs T r T' h => by simp [runB, CallXE.call] at h⟩⟩
 | n + 1 => by
  obtain ⟨hx, hy⟩ := runB_ok hov htbl hrf hrt lf n
  have hc := hx.toA
  refine ⟨⟨fun f vs T r T' h H R => ?_⟩, ⟨fun k vs T r T' h H R => ?_⟩⟩
  · simp only [runB] at h
    split at h
    · split at h
      · rename_i v T1 h1; cases h
        obtain ⟨H', R', hK⟩ := hov.ok _ _ _ _ _ h1 H R
        exact ⟨H', R', fun K Kp hk => (hK K hk).toX⟩
      · cases h
    · rename_i e he
      obtain ⟨hm, rfl⟩ := findE_spec he
      have hok := htbl e hm
      have hrfe := hrf e hm
      cases hp : (e.pub && noLocL vs) <;> simp only [hp, pubR, cond_true, cond_false] at h
      · exact bodyE_run hc hx hy hok hrfe h R
      · simp only [Bool.and_eq_true] at hp
        split at h
        · rename_i v0 T0 h0
          split at h
          · rename_i d hd
            cases hn : noLoc d <;> simp only [hn, cond_true, cond_false] at h
            · cases h
            · cases h
              obtain ⟨H0, R0, hK⟩ := bodyE_run hc hx hy hok hrfe h0 RepH.nil
              refine ⟨H, R, fun K Kp hk => CallA.toX ?_⟩
              have h1 : CallA P e.f vs Heap.nil fun v H => v = v0 ∧ H = H0 := CallX.toA (hK (fun v H => v = v0 ∧ H = H0) (fun _ _ => False) ⟨rfl, rfl⟩)
              have h2 : CallA P e.f vs Heap.nil fun v H' => v = d ∧ H' = Heap.nil := CallA.out 8 h1 (by
               rintro v H ⟨rfl, rfl⟩
               exact ⟨d, by rw [R0.get]; exact hd, rfl, rfl⟩)
              exact CallA.pure h2 hp.2 hn hk
          · cases h
        · cases h
  · simp only [runB, CallXE.call] at h
    split at h
    · rename_i v1 T9 hh
      cases h
      split at hh
      · rename_i id fr hk
        split at hh
        · rename_i e he
          obtain ⟨hm, rfl⟩ := findR_spec he
          obtain ⟨hat, hnA, hnB⟩ := hrt e hm
          split at hh
          · rename_i F0 h0
            split at hh
            · rename_i F1 h1
              obtain ⟨RF1, hlen⟩ := putLE_rep h1 (frBT_rep h0)
              split at hh
              · rename_i F2 T2 h2
                obtain ⟨fr2, H2, RF2, R2, hK2⟩ := AC.e_run hc hx hy (n := H.nx) e.A (AC.rfAll_of hnA) h2 RF1 R
                split at hh
                · rename_i id2 fr3 hk2
                  split at hh
                  · rename_i T3 h3
                    split at hh
                    · rename_i x F4 T4 h4
                      split at hh
                      · rename_i v5 T5 h5; cases hh
                        obtain ⟨fr4, H4, RF4, R4, hK4⟩ := AC.e_run hc hx hy (n := H.nx) e.B (AC.rfAll_of hnB) h4 RF2 (R2.put h3)
                        obtain ⟨H5, R5, hK5⟩ := endO_run (n := H.nx) (fr := fr4) h5 R4
                        refine ⟨H5, R5, fun K hq => YieldA.of (by rw [R.get]; exact hk) hat hlen (hK2 _ ?_)⟩
                        simp only [assignK, show H2.get k = .loop .ready id2 fr3 by rw [R2.get]; exact hk2, setK_eq]
                        exact hK4 _ (hK5 K hq)
                      · cases hh
                    · cases hh
                  · cases hh
                · cases hh
              · cases hh
            · cases hh
          · cases hh
        · cases hh
      · cases hh
    · cases h
theorem runO_ok {ov : CallE} (hov : CallOK P ov) {tbl : List FE} (htbl : ∀ e ∈ tbl, e.ok P) (hrf : ∀ e ∈ tbl, e.rfAll P) {rt : List RE} (hrt : ∀ e ∈ rt, RfAt P e.id e.ps e.A e.B ∧ e.A.noRF = true ∧ e.B.noRF = true) (lf n : Nat) : CallOK P (runO ov tbl rt lf n) := (runB_ok hov htbl hrf hrt lf n).1.toA
def rfTbl (P : Program) : List FE → Prop
 | [] => True
 | e :: r => e.rfAll P ∧ rfTbl P r
theorem rfTbl_spec : ∀ {tbl : List FE}, rfTbl P tbl → ∀ e ∈ tbl, e.rfAll P
 | [], _, e, he => by cases he
 | e :: r, h, e', he => by
  rcases List.mem_cons.1 he with rfl | he
  · exact h.1
  · exact rfTbl_spec h.2 e' he
def rtAll (P : Program) : List RE → Prop
 | [] => True
 | e :: r => (RfAt P e.id e.ps e.A e.B ∧ e.A.noRF = true ∧ e.B.noRF = true) ∧ rtAll P r
theorem rtAll_spec : ∀ {rt : List RE}, rtAll P rt → ∀ e ∈ rt, RfAt P e.id e.ps e.A e.B ∧ e.A.noRF = true ∧ e.B.noRF = true
 | [], _, e, he => by cases he
 | e :: r, h, e', he => by
  rcases List.mem_cons.1 he with rfl | he
  · exact h.1
  · exact rtAll_spec h.2 e' he
theorem noRF_spec {tbl : List FE} (h : tbl.all (·.noRF) = true) : ∀ e ∈ tbl, e.rfAll P := fun e he => FE.rfAll_of (List.all_eq_true.1 h e he)
theorem runE_ok {tbl : List FE} (htbl : ∀ e ∈ tbl, e.ok P) (hnr : tbl.all (·.noRF) = true) (lf : Nat) (n : Nat) : CallOK P (runE tbl lf n) := runO_ok ⟨fun _ _ _ _ _ h => by cases h⟩ htbl (noRF_spec hnr) (fun _ h => by cases h) lf n
def okAll (P : Program) : List FE → Prop
 | [] => True
 | e :: r => e.ok P ∧ okAll P r
theorem okAll_spec : ∀ {tbl : List FE}, okAll P tbl → ∀ e ∈ tbl, e.ok P
 | [], _, e, he => by cases he
 | e :: r, h, e', he => by
  rcases List.mem_cons.1 he with rfl | he
  · exact h.1
  · exact okAll_spec h.2 e' he
def resultE (tbl : List FE) (lf n : Nat) (f : FuncId) (vs : List AV) : Option AV := match runE tbl lf n f vs EH.nil with
 | some (r, T) => pubE T.get 8 r
 | none => none
theorem CallA.computed {tbl : List FE} (htbl : okAll P tbl) (lf n : Nat) {f : FuncId} {vs : List AV} {r : AV} (h : resultE tbl lf n f vs = some r) (hnr : tbl.all (·.noRF) = true := by rfl) :
 CallA P f vs Heap.nil fun v H' => v = r ∧ H' = Heap.nil := by
 unfold resultE at h
 split at h
 · rename_i r' T' hrun
   obtain ⟨H', R', hK⟩ := (runE_ok (okAll_spec htbl) hnr lf n).ok _ _ _ _ _ hrun _ RepH.nil
   refine CallA.out 8 (hK (fun v H => v = r' ∧ H = H') ⟨rfl, rfl⟩) ?_
   rintro v H ⟨rfl, rfl⟩
   exact ⟨_, by rw [R'.get]; exact h, rfl, rfl⟩
 · cases h
def resultO (ov : CallE) (tbl : List FE) (lf n : Nat) (f : FuncId) (vs : List AV) : Option AV := match runO ov tbl [] lf n f vs EH.nil with
 | some (r, T) => pubE T.get 8 r
 | none => none
def resultR (ov : CallE) (tbl : List FE) (rt : List RE) (lf n : Nat) (f : FuncId) (vs : List AV) : Option AV := match runO ov tbl rt lf n f vs EH.nil with
 | some (r, T) => pubE T.get 8 r
 | none => none
theorem CallA.computedR {ov : CallE} (hov : CallOK P ov) {tbl : List FE} (htbl : okAll P tbl) (hrf : rfTbl P tbl) {rt : List RE} (hrt : rtAll P rt) (lf n : Nat) {f : FuncId} {vs : List AV} {r : AV} (h : resultR ov tbl rt lf n f vs = some r) :
 CallA P f vs Heap.nil fun v H' => v = r ∧ H' = Heap.nil := by
 unfold resultR at h
 split at h
 · rename_i r' T' hrun
   obtain ⟨H', R', hK⟩ := (runO_ok hov (okAll_spec htbl) (rfTbl_spec hrf) (rtAll_spec hrt) lf n).ok _ _ _ _ _ hrun _ RepH.nil
   refine CallA.out 8 (hK (fun v H => v = r' ∧ H = H') ⟨rfl, rfl⟩) ?_
   rintro v H ⟨rfl, rfl⟩
   exact ⟨_, by rw [R'.get]; exact h, rfl, rfl⟩
 · cases h
def noOv : CallE := fun _ _ _ => none
end
end Go.Eng

set_option maxRecDepth 1000000
set_option maxHeartbeats 0
namespace Go.Proofs
open Go Go.Eng
def ks : List AV := [.int .u32 1116352408, .int .u32 1899447441, .int .u32 3049323471, .int .u32 3921009573, .int .u32 961987163, .int .u32 1508970993, .int .u32 2453635748, .int .u32 2870763221, .int .u32 3624381080, .int .u32 310598401, .int .u32 607225278, .int .u32 1426881987, .int .u32 1925078388, .int .u32 2162078206, .int .u32 2614888103, .int .u32 3248222580, .int .u32 3835390401, .int .u32 4022224774, .int .u32 264347078, .int .u32 604807628, .int .u32 770255983, .int .u32 1249150122, .int .u32 1555081692, .int .u32 1996064986, .int .u32 2554220882, .int .u32 2821834349, .int .u32 2952996808, .int .u32 3210313671, .int .u32 3336571891, .int .u32 3584528711, .int .u32 113926993, .int .u32 338241895, .int .u32 666307205, .int .u32 773529912, .int .u32 1294757372, .int .u32 1396182291, .int .u32 1695183700, .int .u32 1986661051, .int .u32 2177026350, .int .u32 2456956037, .int .u32 2730485921, .int .u32 2820302411, .int .u32 3259730800, .int .u32 3345764771, .int .u32 3516065817, .int .u32 3600352804, .int .u32 4094571909, .int .u32 275423344, .int .u32 430227734, .int .u32 506948616, .int .u32 659060556, .int .u32 883997877, .int .u32 958139571, .int .u32 1322822218, .int .u32 1537002063, .int .u32 1747873779, .int .u32 1955562222, .int .u32 2024104815, .int .u32 2227730452, .int .u32 2361852424, .int .u32 2428436474, .int .u32 2756734187, .int .u32 3204031479, .int .u32 3329325298]
instance globs : Globs := { l := [(0, ks), (1, ks)], rf := fun id N ps asg bd => match id with
 | 200 => RfIs Tryz.prog N [52, 53] rfA200 rfB200 ps asg bd
 | 220 => RfIs Tryz.prog N [21, 22] rfA220 rfB220 ps asg bd
 | 390 => RfIs Tryz.prog N [10, 11] rfA390 rfB390 ps asg bd
 | 420 => RfIs Tryz.prog N [76, 77] rfA420 rfB420 ps asg bd
 | 520 => RfIs Tryz.prog N [10, 11] rfA520 rfB520 ps asg bd
 | 1380 => RfIs Tryz.prog N [42, 43] rfA1380 rfB1380 ps asg bd
 | _ => False }
theorem at200 : RfAt Tryz.prog 200 [52, 53] rfA200 rfB200 := ⟨fun _ _ _ _ => Iff.rfl⟩
theorem at220 : RfAt Tryz.prog 220 [21, 22] rfA220 rfB220 := ⟨fun _ _ _ _ => Iff.rfl⟩
theorem at390 : RfAt Tryz.prog 390 [10, 11] rfA390 rfB390 := ⟨fun _ _ _ _ => Iff.rfl⟩
theorem at420 : RfAt Tryz.prog 420 [76, 77] rfA420 rfB420 := ⟨fun _ _ _ _ => Iff.rfl⟩
theorem at520 : RfAt Tryz.prog 520 [10, 11] rfA520 rfB520 := ⟨fun _ _ _ _ => Iff.rfl⟩
theorem at1380 : RfAt Tryz.prog 1380 [42, 43] rfA1380 rfB1380 := ⟨fun _ _ _ _ => Iff.rfl⟩
end Go.Proofs

namespace Go.Proofs
open Go Go.Eng
set_option maxRecDepth 100000

abbrev W (n : Nat) : AV := .int .u32 (n : Int)
abbrev I (n : Int) : AV := .int .i64 n
theorem w32 (n : Int) : IntKind.u32.wrap n = n % 4294967296 := by
 have : IntKind.u32.wrap n = if IntKind.u32.signed then (let r := n % 2 ^ IntKind.u32.bits; if r < 2 ^ (IntKind.u32.bits - 1) then r else r - 2 ^ IntKind.u32.bits) else n % 2 ^ IntKind.u32.bits := by
  first | rfl | (simp [IntKind.wrap])
 rw [this]; rfl
theorem b32 (n : Nat) (h : n < 4294967296) : (BitVec.ofInt 32 (n : Int)).toNat = n := by
 rw [BitVec.toNat_ofInt]
 omega
theorem wand {a b : Nat} (ha : a < 4294967296) (hb : b < 4294967296) : IntKind.u32.wrap (BitVec.ofInt IntKind.u32.bits (a : Int) &&& BitVec.ofInt IntKind.u32.bits (b : Int)).toNat = ((a &&& b : Nat) : Int) := by
 show IntKind.u32.wrap (BitVec.ofInt 32 (a : Int) &&& BitVec.ofInt 32 (b : Int)).toNat = _
 rw [w32, BitVec.toNat_and, b32 a ha, b32 b hb]
 have := Nat.and_lt_two_pow a (n := 32) hb
 omega
theorem wor {a b : Nat} (ha : a < 4294967296) (hb : b < 4294967296) : IntKind.u32.wrap (BitVec.ofInt IntKind.u32.bits (a : Int) ||| BitVec.ofInt IntKind.u32.bits (b : Int)).toNat = ((a ||| b : Nat) : Int) := by
 show IntKind.u32.wrap (BitVec.ofInt 32 (a : Int) ||| BitVec.ofInt 32 (b : Int)).toNat = _
 rw [w32, BitVec.toNat_or, b32 a ha, b32 b hb]
 have := Nat.or_lt_two_pow (n := 32) ha hb
 omega
theorem wxor {a b : Nat} (ha : a < 4294967296) (hb : b < 4294967296) : IntKind.u32.wrap (BitVec.ofInt IntKind.u32.bits (a : Int) ^^^ BitVec.ofInt IntKind.u32.bits (b : Int)).toNat = ((a ^^^ b : Nat) : Int) := by
 show IntKind.u32.wrap (BitVec.ofInt 32 (a : Int) ^^^ BitVec.ofInt 32 (b : Int)).toNat = _
 rw [w32, BitVec.toNat_xor, b32 a ha, b32 b hb]
 have := Nat.xor_lt_two_pow (n := 32) ha hb
 omega
theorem wadd (a b : Nat) : IntKind.u32.wrap ((a : Int) + (b : Int)) = (((a + b) % 4294967296 : Nat) : Int) := by
 rw [w32]; omega
theorem wshl (a k : Nat) : IntKind.u32.wrap ((a : Int) * 2 ^ k) = ((a * 2 ^ k % 4294967296 : Nat) : Int) := by
 rw [w32]; simp
theorem wshr (a k : Nat) : (a : Int).fdiv (2 ^ k) = ((a / 2 ^ k : Nat) : Int) := by
 have : (2 : Int) ^ k = ((2 ^ k : Nat) : Int) := by simp
 rw [this, Int.fdiv_eq_ediv_of_nonneg _ (Int.natCast_nonneg _)]
 simp
theorem shr_lt {a : Nat} (h : a < 4294967296) (k : Nat) : a / 2 ^ k < 4294967296 := Nat.lt_of_le_of_lt (Nat.div_le_self _ _) h
def rotr (x n : Nat) : Nat := (x * 2 ^ (32 - n) % 4294967296) ||| (x / 2 ^ n)
theorem rotr_lt {x : Nat} (h : x < 4294967296) (n : Nat) : rotr x n < 4294967296 := Nat.or_lt_two_pow (n := 32) (Nat.mod_lt _ (by omega)) (shr_lt h n)
def rots : List Nat := [2, 6, 7, 11, 13, 17, 18, 19, 22, 25]
theorem c65 (x n : Nat) (hx : x < 4294967296) (hn : n ∈ rots) : CallA Tryz.prog 135 [W x, .int .i64 (-(n : Int))] Heap.nil fun v H' => v = W (rotr x n) ∧ H' = Heap.nil := by
 refine callA_of ok135 (Nat.le_of_ble_eq_true rfl) ?_
 have fin : ∀ k m : Nat, k + m = 32 → AV.int .u32 (IntKind.u32.wrap (BitVec.ofInt IntKind.u32.bits (IntKind.u32.wrap ((x : Int) * 2 ^ k)) ||| BitVec.ofInt IntKind.u32.bits ((x : Int).fdiv (2 ^ m))).toNat) = W (rotr x m) := by
  intro k m hkm
  rw [wshl, wshr, wor (Nat.mod_lt _ (by omega)) (shr_lt hx m)]
  have : k = 32 - m := by omega
  subst this; rfl
 simp only [rots, List.mem_cons, List.not_mem_nil, or_false] at hn
 rcases hn with rfl | rfl | rfl | rfl | rfl | rfl | rfl | rfl | rfl | rfl
 repeat' ((conv => whnf); first | refine Branch.ofT rfl ?_ | refine Branch.ofF rfl ?_ | refine Branch.dec (fun h => ?_) (fun h => ?_) | refine Branch.negdec (fun h => ?_) (fun h => ?_) | refine Branch.neg (fun h => ?_) (fun h => ?_) | refine Branch.mk (fun h => ?_) (fun h => ?_) | (refine Side.mk ?_ ?_; · first | omega | decide) | (refine SideD.mk ?_ ?_; · first | omega | decide) | refine ⟨_, Nat.lt_succ_self _, To.refl (.inl ⟨rfl, ?_⟩)⟩ | (refine Side.mk ?_ ?_; · (simp; done)) | fail)
 all_goals (conv => whnf)
 all_goals (refine RetA.data rfl ⟨?_, rfl⟩; (try simp only [Go.Eng.one]))
 · exact fin 30 2 rfl
 · exact fin 26 6 rfl
 · exact fin 25 7 rfl
 · exact fin 21 11 rfl
 · exact fin 19 13 rfl
 · exact fin 15 17 rfl
 · exact fin 14 18 rfl
 · exact fin 13 19 rfl
 · exact fin 10 22 rfl
 · exact fin 7 25 rfl
end Go.Proofs

namespace Go.Proofs
open Go Go.Eng
set_option maxRecDepth 100000
set_option maxHeartbeats 1000000
def mixN (x i j k : Nat) : Nat := rotr x i ^^^ rotr x j ^^^ rotr x k
theorem xor_lt {a b : Nat} (ha : a < 4294967296) (hb : b < 4294967296) : a ^^^ b < 4294967296 := Nat.xor_lt_two_pow (n := 32) ha hb
theorem or_lt {a b : Nat} (ha : a < 4294967296) (hb : b < 4294967296) : a ||| b < 4294967296 := Nat.or_lt_two_pow (n := 32) ha hb
theorem and_lt {a b : Nat} (hb : b < 4294967296) : a &&& b < 4294967296 := Nat.and_lt_two_pow (n := 32) a hb
theorem rots_le {n : Nat} (h : n ∈ rots) : n ≤ 25 := by
 simp only [rots, List.mem_cons, List.not_mem_nil, or_false] at h; omega
theorem c64 (x i j k : Nat) (hx : x < 4294967296) (hi : i ∈ rots) (hj : j ∈ rots) (hk : k ∈ rots) : CallA Tryz.prog 102 [W x, I i, I j, I k] Heap.nil fun v H' => v = W (mixN x i j k) ∧ H' = Heap.nil := by
 refine callA_of ok102 (Nat.le_of_ble_eq_true rfl) ?_
 have h1 := rots_le hi
 have h2 := rots_le hj
 have h3 := rots_le hk
 repeat' ((conv => whnf); first | refine Branch.ofT rfl ?_ | refine Branch.ofF rfl ?_ | refine Branch.dec (fun h => ?_) (fun h => ?_) | refine Branch.negdec (fun h => ?_) (fun h => ?_) | refine Branch.neg (fun h => ?_) (fun h => ?_) | refine Branch.mk (fun h => ?_) (fun h => ?_) | (refine Side.mk ?_ ?_; · first | omega | decide) | (refine SideD.mk ?_ ?_; · first | omega | decide) | refine ⟨_, Nat.lt_succ_self _, To.refl (.inl ⟨rfl, ?_⟩)⟩ | refine CallA.pure (c65 x _ hx hi) rfl rfl ?_ | refine CallA.pure (c65 x _ hx hj) rfl rfl ?_ | refine CallA.pure (c65 x _ hx hk) rfl rfl ?_ | (refine Side.mk ?_ ?_; · (simp; done)) | fail)
 all_goals (conv => whnf)
 refine RetA.data rfl ⟨?_, rfl⟩
 simp only [Go.Eng.one]
 rw [wxor (rotr_lt hx i) (rotr_lt hx j), wxor (xor_lt (rotr_lt hx i) (rotr_lt hx j)) (rotr_lt hx k)]; rfl

abbrev B (n : Nat) : AV := .int .u8 (n : Int)
def wstep (y b : Nat) : Nat := y * 2 ^ 8 % 4294967296 ||| b
def word (b0 b1 b2 b3 : Nat) : Nat := wstep (wstep (wstep (wstep 0 b0) b1) b2) b3
theorem wstep_lt (y : Nat) {b : Nat} (h : b < 4294967296) : wstep y b < 4294967296 := or_lt (Nat.mod_lt _ (by omega)) h
def sg0 (p : Nat) : Nat := rotr p 7 ^^^ rotr p 18 ^^^ (p / 2 ^ 3)
def sg1 (p : Nat) : Nat := rotr p 17 ^^^ rotr p 19 ^^^ (p / 2 ^ 10)
def nxt (bs ws : List Nat) (t : Nat) : Nat := if t < 16 then word (bs.getD (4 * t) 0) (bs.getD (4 * t + 1) 0) (bs.getD (4 * t + 2) 0) (bs.getD (4 * t + 3) 0)
 else (((ws.getD (t - 16) 0 + sg0 (ws.getD (t - 15) 0)) % 4294967296 + ws.getD (t - 7) 0) % 4294967296 + sg1 (ws.getD (t - 2) 0)) % 4294967296
def sched (bs : List Nat) : Nat → List Nat
 | 0 => []
 | t + 1 => sched bs t ++ [nxt bs (sched bs t) t]
theorem sched_len (bs : List Nat) : ∀ t, (sched bs t).length = t
 | 0 => rfl
 | t + 1 => by simp [sched, sched_len bs t]
theorem ldI {z : List AV} {ws : List Nat} {i off : Nat} {K : AV → Prop} (e : off = i) (h : i < ws.length) (hk : K (W (ws.getD i 0))) : nthK 0 ((ws.map W ++ z).drop off) K := by
 subst e
 rw [List.drop_append_of_le_length (by simp; omega), List.drop_eq_getElem_cons (by simpa using h)]
 simp only [List.cons_append, nthK, fv_eq, List.getElem_map]
 simpa [List.getD_eq_getElem?_getD, List.getElem?_eq_getElem h] using hk
theorem sched_lt {bs : List Nat} (hb : ∀ x ∈ bs, x < 256) : ∀ (t : Nat), ∀ x ∈ sched bs t, x < 4294967296
 | 0, x, h => by cases h
 | t + 1, x, h => by
  rcases List.mem_append.1 h with h | h
  · exact sched_lt hb t x h
  · simp only [List.mem_singleton] at h
    subst h
    unfold nxt
    split
    · refine wstep_lt _ ?_
      rw [List.getD_eq_getElem?_getD]
      cases hx : bs[4 * t + 3]? with
      | none => simp
      | some y => simp only [Option.getD_some]; exact Nat.lt_trans (hb y (List.mem_of_getElem? hx)) (by omega)
    · exact Nat.mod_lt _ (by omega)
theorem getD_lt {ws : List Nat} {m : Nat} (h : ∀ x ∈ ws, x < m) (hm : 0 < m) (i : Nat) : ws.getD i 0 < m := by
 rw [List.getD_eq_getElem?_getD]
 cases hx : ws[i]? with
 | none => simpa using hm
 | some y => exact h y (List.mem_of_getElem? hx)
theorem ld0 {ws : List Nat} {off n : Nat} {K : AV → Prop} (e : off = ws.length) (h : 0 < n) (hk : K (W 0)) : nthK 0 ((ws.map W ++ List.replicate n (W 0)).drop off) K := by
 subst e
 obtain ⟨m, rfl⟩ : ∃ m, n = m + 1 := ⟨n - 1, by omega⟩
 rw [List.drop_append, List.drop_eq_nil_of_le (by simp)]
 simpa [List.replicate_succ, nthK, fv_eq] using hk
theorem ldL {ws : List Nat} {z : List AV} {y off : Nat} {K : AV → Prop} (e : off = ws.length) (hk : K (W y)) : nthK 0 (((ws ++ [y]).map W ++ z).drop off) K := by
 refine ldI (i := ws.length) e (by simp) ?_
 simpa using hk
theorem ldB {bs : List Nat} {off off' j j' n : Nat} {K : AV → Prop} (e : off' = off) (e2 : j' = j) (e3 : n = 4) (hj : j < 4) (h : off + j < bs.length) (hk : K (B (bs.getD (off + j) 0))) : nthK 0 (((bs.map B).drop off' |>.take n).drop j') K := by
 subst e e2 e3
 have : ((bs.map B).drop off' |>.take 4).drop j' = B (bs.getD (off' + j') 0) :: (((bs.map B).drop off' |>.take 4).drop (j' + 1)) := by
  rw [List.drop_eq_getElem_cons (by simp; omega)]
  congr 1
  simp [List.getD_eq_getElem?_getD, List.getElem?_eq_getElem h]
 rw [this]
 simpa [nthK, fv_eq] using hk
theorem u32ok {x : Nat} (h : x < 4294967296) : IntKind.u32.min ≤ (x : Int) ∧ (x : Int) ≤ IntKind.u32.max := by
 have h1 : IntKind.u32.min = 0 := rfl
 have h2 : IntKind.u32.max = 4294967295 := rfl
 omega
theorem lput1 {a z : List AV} {c v : AV} {off : Nat} {K : List AV → Prop} (e : off = a.length) (hs : scal v = true) (hk : K (a ++ v :: z)) : lputK (a ++ c :: z) off [v] K := by
 subst e
 refine lputK_eq (by simp) (by simpa using hs) ?_
 simpa using hk
theorem stV {ws : List Nat} {y off n : Nat} {z : Int} {K : List AV → Prop} (e : off = ws.length) (hz : z = (y : Int)) (hn : 0 < n) (hk : K ((ws ++ [y]).map W ++ List.replicate (n - 1) (W 0))) : lputK (ws.map W ++ List.replicate n (W 0)) off [.int .u32 z] K := by
 subst hz
 obtain ⟨m, rfl⟩ : ∃ m, n = m + 1 := ⟨n - 1, by omega⟩
 rw [List.replicate_succ]
 refine lput1 (by simpa using e) rfl ?_
 simpa using hk
theorem stU {ws : List Nat} {y y0 off : Nat} {z : Int} {r : List AV} {K : List AV → Prop} (e : off = ws.length) (hz : z = (y : Int)) (hk : K ((ws ++ [y]).map W ++ r)) : lputK ((ws ++ [y0]).map W ++ r) off [.int .u32 z] K := by
 subst hz
 have e1 : ∀ y, (ws ++ [y]).map W ++ r = ws.map W ++ W y :: r := fun y => by simp
 rw [e1] at hk ⊢
 exact lput1 (by simpa using e) rfl hk
theorem rstep {y b : Nat} (hb : b < 4294967296) : IntKind.u32.wrap (BitVec.ofInt IntKind.u32.bits (IntKind.u32.wrap ((y : Int) * 2 ^ 8)) ||| BitVec.ofInt IntKind.u32.bits (b : Int)).toNat = ((wstep y b : Nat) : Int) := by
 rw [wshl, wor (Nat.mod_lt _ (by omega)) hb]; rfl
theorem rsg {p i j k : Nat} (hp : p < 4294967296) : IntKind.u32.wrap (BitVec.ofInt IntKind.u32.bits (IntKind.u32.wrap (BitVec.ofInt IntKind.u32.bits ((rotr p i : Nat) : Int) ^^^ BitVec.ofInt IntKind.u32.bits ((rotr p j : Nat) : Int)).toNat) ^^^ BitVec.ofInt IntKind.u32.bits ((p : Int).fdiv (2 ^ k))).toNat = ((rotr p i ^^^ rotr p j ^^^ (p / 2 ^ k) : Nat) : Int) := by
 rw [wxor (rotr_lt hp i) (rotr_lt hp j), wshr, wxor (xor_lt (rotr_lt hp i) (rotr_lt hp j)) (shr_lt hp k)]
theorem rnxt {a p c q : Nat} (hp : p < 4294967296) (hq : q < 4294967296) :
 IntKind.u32.wrap (IntKind.u32.wrap (IntKind.u32.wrap ((a : Int) + IntKind.u32.wrap (BitVec.ofInt IntKind.u32.bits (IntKind.u32.wrap (BitVec.ofInt IntKind.u32.bits ((rotr p 7 : Nat) : Int) ^^^ BitVec.ofInt IntKind.u32.bits ((rotr p 18 : Nat) : Int)).toNat) ^^^ BitVec.ofInt IntKind.u32.bits ((p : Int).fdiv (2 ^ 3))).toNat) + (c : Int)) +
  IntKind.u32.wrap (BitVec.ofInt IntKind.u32.bits (IntKind.u32.wrap (BitVec.ofInt IntKind.u32.bits ((rotr q 17 : Nat) : Int) ^^^ BitVec.ofInt IntKind.u32.bits ((rotr q 19 : Nat) : Int)).toNat) ^^^ BitVec.ofInt IntKind.u32.bits ((q : Int).fdiv (2 ^ 10))).toNat) =
 (((((a + sg0 p) % 4294967296 + c) % 4294967296 + sg1 q) % 4294967296 : Nat) : Int) := by
 rw [rsg hp, rsg hq, wadd, wadd, wadd]; rfl
theorem tkW {ws : List Nat} {z : List AV} {K : List AV → Prop} {n : Nat} (h : ws.length = n) (hk : K (ws.map W)) : takeK n ((ws.map W ++ z).drop 0) K := by
 subst h
 rw [List.drop_zero, takeK_eq _ _ _ (by simp)]
 rw [List.take_append_of_le_length (by simp), List.take_of_length_le (by simp)]
 exact hk
theorem tkW' {ws : List Nat} {K : List AV → Prop} {n : Nat} (h : ws.length = n) (hk : K (ws.map W)) : takeK n ((ws.map W).drop 0) K := by
 have := tkW (z := []) h hk
 rwa [List.append_nil] at this
theorem condT {b : Bool} {P : Prop} (h : b = true) (hp : P) : (bif b then P else False) := by rw [h]; exact hp
theorem lputA {cs vs : List AV} {K : List AV → Prop} (h : vs.length = cs.length) (hs : vs.all scal = true) (hk : K vs) : lputK cs 0 vs K := by
 refine lputK_eq (by omega) hs ?_
 simpa [h] using hk
theorem scal_ws (ws : List Nat) : (ws.map W).all scal = true := by
 rw [List.all_eq_true]; intro c h; obtain ⟨x, _, rfl⟩ := List.mem_map.1 h; rfl
def L63 (bs : List Nat) (cap : Option Nat) (m : Nat) (fr : Fr) (H : Heap) : Prop := ∃ t : Nat, t ≤ 64 ∧ m = 64 - t ∧ fr = [(0, .dslice (bs.map B) 64 cap), (2, .ptr 0 0), (3, .ptr 1 0), (11, I t)] ∧ H = ⟨2, [(0, .cells (List.replicate 64 (W 0))), (1, .cells ((sched bs t).map W ++ List.replicate (64 - t) (W 0)))]⟩
theorem noLoc_ws (ws : List Nat) (n : Nat) : ∀ c ∈ ws.map W ++ List.replicate n (W 0), noLoc c = true := by
 intro c h
 rcases List.mem_append.1 h with h | h
 · obtain ⟨x, _, rfl⟩ := List.mem_map.1 h; rfl
 · rw [(List.mem_replicate.1 h).2]; rfl
theorem noLocL_ws : ∀ ws : List Nat, noLocL (ws.map W) = true
 | [] => rfl
 | x :: r => by simp [noLocL, noLoc, noLocL_ws r]
theorem c63 (bs : List Nat) (cap : Option Nat) (hl : bs.length = 64) (hb : ∀ x ∈ bs, x < 256) : CallA Tryz.prog 101 [.dslice (bs.map B) 64 cap] Heap.nil fun v H' => v = .agg ((sched bs 64).map W) ∧ H' = Heap.nil := by
 refine callA_of ok101 (Nat.le_of_ble_eq_true rfl) ?_
 repeat' ((conv => whnf); first | refine Branch.ofT rfl ?_ | refine Branch.ofF rfl ?_ | refine Branch.dec (fun h => ?_) (fun h => ?_) | refine Branch.negdec (fun h => ?_) (fun h => ?_) | refine Branch.neg (fun h => ?_) (fun h => ?_) | refine Branch.mk (fun h => ?_) (fun h => ?_) | (refine Side.mk ?_ ?_; · first | omega | decide) | (refine SideD.mk ?_ ?_; · first | omega | decide) | refine ⟨_, Nat.lt_succ_self _, To.refl (.inl ⟨rfl, ?_⟩)⟩ | (refine Side.mk ?_ ?_; · (simp; done)) | fail)
 all_goals (conv => whnf)
 refine ⟨L63 bs cap, 64, To.gc [(0, true), (1, true)] [0, 2, 3, 11] rfl ⟨noLoc_ws [] 64, noLoc_ws [] 64, trivial⟩ ⟨0, by omega, rfl, rfl, rfl⟩, ?_⟩
 rintro m fr H ⟨t, ht, rfl, rfl, rfl⟩
 have hg : ∀ i, (sched bs t).getD i 0 < 4294967296 := getD_lt (sched_lt hb t) (by omega)
 have hB : ∀ i, bs.getD i 0 < 4294967296 := fun i => Nat.lt_trans (getD_lt hb (by omega) i) (by omega)
 have g15 := hg (t - 15)
 have g2 := hg (t - 2)
 have sl := sched_len bs t
 by_cases h64 : t < 64
 · by_cases h16 : t < 16
   · repeat' ((conv => whnf); first | refine Branch.ofT rfl ?_ | refine Branch.ofF rfl ?_ | refine Branch.ofT (decide_eq_true (by omega)) ?_ | refine Branch.ofF (decide_eq_false (by omega)) ?_ | refine Branch.dec (fun h => ?_) (fun h => ?_) | refine Branch.negdec (fun h => ?_) (fun h => ?_) | refine Branch.neg (fun h => ?_) (fun h => ?_) | refine Branch.mk (fun h => ?_) (fun h => ?_) | (refine Side.mk ?_ ?_; · first | omega | decide) | (refine SideD.mk ?_ ?_; · first | omega | decide) | refine ⟨_, Nat.lt_succ_self _, To.refl (.inl ⟨rfl, ?_⟩)⟩ | refine LoopA.unroll _ _ _ 4 ?_ | refine ldB (off := 4 * t) (j := 0) (by omega) (by rfl) (by omega) (by omega) (by omega) ?_ | refine ldB (off := 4 * t) (j := 1) (by omega) (by rfl) (by omega) (by omega) (by omega) ?_ | refine ldB (off := 4 * t) (j := 2) (by omega) (by rfl) (by omega) (by omega) (by omega) ?_ | refine ldB (off := 4 * t) (j := 3) (by omega) (by rfl) (by omega) (by omega) (by omega) ?_ | refine Side.mk (u32ok (hB _)) ?_ | refine ldL (by omega) ?_ | refine ld0 (by omega) (by omega) ?_ | refine stU (by omega) (rstep (hB _)) ?_ | refine stV (by omega) (rstep (hB _)) (by omega) ?_ | (refine Side.mk ?_ ?_; · (simp; done)) | fail)
     all_goals (conv => whnf)
     have e1 : sched bs (t + 1) = sched bs t ++ [word (bs.getD (4 * t) 0) (bs.getD (4 * t + 1) 0) (bs.getD (4 * t + 2) 0) (bs.getD (4 * t + 3) 0)] := by
      show sched bs t ++ [nxt bs (sched bs t) t] = _
      unfold nxt; rw [if_pos h16]
     exact ⟨64 - (t + 1), by omega, To.gc [(0, true), (1, true)] [0, 2, 3, 11] rfl ⟨noLoc_ws [] 64, noLoc_ws _ _, trivial⟩ ⟨t + 1, by omega, rfl, rfl, by rw [e1, show 64 - (t + 1) = 64 - t - 1 by omega]; rfl⟩⟩
   · have e : nxt bs (sched bs t) t = ((((sched bs t).getD (t - 16) 0 + sg0 ((sched bs t).getD (t - 15) 0)) % 4294967296 + (sched bs t).getD (t - 7) 0) % 4294967296 + sg1 ((sched bs t).getD (t - 2) 0)) % 4294967296 := by unfold nxt; rw [if_neg h16]
     repeat' ((conv => whnf); first | refine Branch.ofT rfl ?_ | refine Branch.ofF rfl ?_ | refine Branch.ofT (decide_eq_true (by omega)) ?_ | refine Branch.ofF (decide_eq_false (by omega)) ?_ | refine Branch.dec (fun h => ?_) (fun h => ?_) | refine Branch.negdec (fun h => ?_) (fun h => ?_) | refine Branch.neg (fun h => ?_) (fun h => ?_) | refine Branch.mk (fun h => ?_) (fun h => ?_) | (refine Side.mk ?_ ?_; · first | omega | decide) | (refine SideD.mk ?_ ?_; · first | omega | decide) | refine ⟨_, Nat.lt_succ_self _, To.refl (.inl ⟨rfl, ?_⟩)⟩ | refine ldI (i := t - 15) (by omega) (by rw [sched_len]; omega) ?_ | refine ldI (i := t - 2) (by omega) (by rw [sched_len]; omega) ?_ | refine ldI (i := t - 16) (by omega) (by rw [sched_len]; omega) ?_ | refine ldI (i := t - 7) (by omega) (by rw [sched_len]; omega) ?_ | refine CallA.pure (c65 _ 7 (by assumption) (by decide)) rfl rfl ?_ | refine CallA.pure (c65 _ 18 (by assumption) (by decide)) rfl rfl ?_ | refine CallA.pure (c65 _ 17 (by assumption) (by decide)) rfl rfl ?_ | refine CallA.pure (c65 _ 19 (by assumption) (by decide)) rfl rfl ?_ | refine stV (by omega) ((rnxt g15 g2).trans (by rw [← e])) (by omega) ?_ | (refine Side.mk ?_ ?_; · (simp; done)) | fail)
     all_goals (conv => whnf)
     exact ⟨64 - (t + 1), by omega, To.gc [(0, true), (1, true)] [0, 2, 3, 11] rfl ⟨noLoc_ws [] 64, noLoc_ws _ _, trivial⟩ ⟨t + 1, by omega, rfl, rfl, by rw [show 64 - (t + 1) = 64 - t - 1 by omega]; rfl⟩⟩
 · repeat' ((conv => whnf); first | refine Branch.ofT rfl ?_ | refine Branch.ofF rfl ?_ | refine Branch.ofF (decide_eq_false (by omega)) ?_ | refine Branch.dec (fun h => ?_) (fun h => ?_) | refine Branch.negdec (fun h => ?_) (fun h => ?_) | refine Branch.neg (fun h => ?_) (fun h => ?_) | refine Branch.mk (fun h => ?_) (fun h => ?_) | (refine Side.mk ?_ ?_; · first | omega | decide) | (refine SideD.mk ?_ ?_; · first | omega | decide) | refine ⟨_, Nat.lt_succ_self _, To.refl (.inl ⟨rfl, ?_⟩)⟩ | refine tkW (by omega) ?_ | refine tkW' (by omega) ?_ | refine condT (by simp [sl]; omega) ?_ | refine lputA (by simp; omega) (scal_ws _) ?_ | (refine Side.mk ?_ ?_; · (simp; done)) | fail)
   all_goals (conv => whnf)
   have : t = 64 := by omega
   subst this
   generalize sched bs 64 = ws
   exact RetA.data (v := .agg (ws.map W)) (noLocL_ws ws) ⟨rfl, rfl⟩
end Go.Proofs

namespace Go.Proofs
open Go Go.Eng
set_option maxRecDepth 100000
set_option maxHeartbeats 4000000
def KS : List Nat := [1116352408, 1899447441, 3049323471, 3921009573, 961987163, 1508970993, 2453635748, 2870763221, 3624381080, 310598401, 607225278, 1426881987, 1925078388, 2162078206, 2614888103, 3248222580, 3835390401, 4022224774, 264347078, 604807628, 770255983, 1249150122, 1555081692, 1996064986, 2554220882, 2821834349, 2952996808, 3210313671, 3336571891, 3584528711, 113926993, 338241895, 666307205, 773529912, 1294757372, 1396182291, 1695183700, 1986661051, 2177026350, 2456956037, 2730485921, 2820302411, 3259730800, 3345764771, 3516065817, 3600352804, 4094571909, 275423344, 430227734, 506948616, 659060556, 883997877, 958139571, 1322822218, 1537002063, 1747873779, 1955562222, 2024104815, 2227730452, 2361852424, 2428436474, 2756734187, 3204031479, 3329325298]
theorem ks_eq : ks = KS.map W := rfl
structure S8 where
 (a b c d e f g h : Nat)
def S8.ok (s : S8) : Prop := s.a < 4294967296 ∧ s.b < 4294967296 ∧ s.c < 4294967296 ∧ s.d < 4294967296 ∧ s.e < 4294967296 ∧ s.f < 4294967296 ∧ s.g < 4294967296 ∧ s.h < 4294967296
def chN (e f g : Nat) : Nat := (e &&& f) ^^^ ((4294967295 ^^^ e) &&& g)
def majN (a b c : Nat) : Nat := (a &&& b) ^^^ (a &&& c) ^^^ (b &&& c)
def t1N (s : S8) (k w : Nat) : Nat := ((((s.h + mixN s.e 6 11 25) % 4294967296 + chN s.e s.f s.g) % 4294967296 + k) % 4294967296 + w) % 4294967296
def t2N (s : S8) : Nat := (mixN s.a 2 13 22 + majN s.a s.b s.c) % 4294967296
def S8.round (s : S8) (k w : Nat) : S8 := ⟨(t1N s k w + t2N s) % 4294967296, s.a, s.b, s.c, (s.d + t1N s k w) % 4294967296, s.e, s.f, s.g⟩
def rounds (ws : List Nat) (s : S8) : Nat → S8
 | 0 => s
 | t + 1 => (rounds ws s t).round (KS.getD t 0) (ws.getD t 0)
def S8.add (s v : S8) : S8 := ⟨(s.a + v.a) % 4294967296, (s.b + v.b) % 4294967296, (s.c + v.c) % 4294967296, (s.d + v.d) % 4294967296, (s.e + v.e) % 4294967296, (s.f + v.f) % 4294967296, (s.g + v.g) % 4294967296, (s.h + v.h) % 4294967296⟩
def S8.av (s : S8) : List AV := [W s.a, W s.b, W s.c, W s.d, W s.e, W s.f, W s.g, W s.h]
def compN (s : S8) (bs : List Nat) : S8 := s.add (rounds (sched bs 64) s 64)
theorem round_ok {s : S8} (h : s.ok) (k w : Nat) : (s.round k w).ok := ⟨Nat.mod_lt _ (by omega), h.1, h.2.1, h.2.2.1, Nat.mod_lt _ (by omega), h.2.2.2.2.1, h.2.2.2.2.2.1, h.2.2.2.2.2.2.1⟩
theorem rounds_ok {ws : List Nat} {s : S8} (h : s.ok) : ∀ t, (rounds ws s t).ok
 | 0 => h
 | t + 1 => round_ok (rounds_ok h t) _ _
def v4 (s : S8) : List AV := [W s.a, W s.b, W s.c, W s.d]
def e4 (s : S8) : List AV := [W s.e, W s.f, W s.g, W s.h]
def z8 : List AV := [W 0, W 0, W 0, W 0, W 0, W 0, W 0, W 0]
attribute [local irreducible] sched
def L57 (ws : List Nat) (s : S8) (m : Nat) (fr : Fr) (H : Heap) : Prop := ∃ t : Nat, t ≤ 64 ∧ m = 64 - t ∧ fr = [(2, .ptr 0 0), (4, .ptr 1 0), (5, .ptr 2 0), (6, .ptr 3 0), (7, .ptr 4 0), (21, .agg (KS.map W)), (22, I t)] ∧ H = ⟨5, [(0, .cells s.av), (1, .cells z8), (2, .cells (ws.map W)), (3, .cells (v4 (rounds ws s t))), (4, .cells (e4 (rounds ws s t)))]⟩
abbrev bA (a b : Int) : Int := IntKind.u32.wrap (BitVec.ofInt IntKind.u32.bits a &&& BitVec.ofInt IntKind.u32.bits b).toNat
abbrev bX (a b : Int) : Int := IntKind.u32.wrap (BitVec.ofInt IntKind.u32.bits a ^^^ BitVec.ofInt IntKind.u32.bits b).toNat
theorem bA_eq {a b : Nat} (ha : a < 4294967296) (hb : b < 4294967296) : bA a b = ((a &&& b : Nat) : Int) := wand ha hb
theorem bX_eq {a b : Nat} (ha : a < 4294967296) (hb : b < 4294967296) : bX a b = ((a ^^^ b : Nat) : Int) := wxor ha hb
theorem bN {e : Nat} (h : e < 4294967296) : bX (if IntKind.u32.signed then -1 else IntKind.u32.max) (e : Int) = ((4294967295 ^^^ e : Nat) : Int) := by
 have : (if IntKind.u32.signed then -1 else IntKind.u32.max) = ((4294967295 : Nat) : Int) := rfl
 rw [this]; exact wxor (by omega) h
theorem rx {s : S8} (hs : s.ok) (k w : Nat) : IntKind.u32.wrap (IntKind.u32.wrap (IntKind.u32.wrap (IntKind.u32.wrap ((s.h : Int) + ((mixN s.e 6 11 25 : Nat) : Int)) + bX (bA s.e s.f) (bA (bX (if IntKind.u32.signed then -1 else IntKind.u32.max) (s.e : Int)) s.g)) + (k : Int)) + (w : Int)) = ((t1N s k w : Nat) : Int) := by
 obtain ⟨_, _, _, _, he, hf, hg, _⟩ := hs
 rw [bN he, bA_eq he hf, bA_eq (xor_lt (by omega) he) hg, bX_eq (and_lt hf) (and_lt hg), wadd, wadd, wadd, wadd]; rfl
theorem ry {s : S8} (hs : s.ok) : IntKind.u32.wrap (((mixN s.a 2 13 22 : Nat) : Int) + bX (bX (bA s.a s.b) (bA s.a s.c)) (bA s.b s.c)) = ((t2N s : Nat) : Int) := by
 obtain ⟨ha, hb, hc, _⟩ := hs
 rw [bA_eq ha hb, bA_eq ha hc, bA_eq hb hc, bX_eq (and_lt hb) (and_lt hc), bX_eq (xor_lt (and_lt hb) (and_lt hc)) (and_lt hc), wadd]; rfl
theorem cong2 {a b c d : Int} (h : a = b) (k : c = d) : IntKind.u32.wrap (a + c) = IntKind.u32.wrap (b + d) := by rw [h, k]
theorem heq57 {C0 C1 C2 : List AV} {A E A' E' : Int} {b c d f g h : AV} (hA : A = A') (hE : E = E') : (⟨5, [(0, .cells C0), (1, .cells C1), (2, .cells C2), (3, .cells [.int .u32 A, b, c, d]), (4, .cells [.int .u32 E, f, g, h])]⟩ : Heap) = ⟨5, [(0, .cells C0), (1, .cells C1), (2, .cells C2), (3, .cells [.int .u32 A', b, c, d]), (4, .cells [.int .u32 E', f, g, h])]⟩ := by
 subst hA hE; rfl
theorem ldW {ws : List Nat} {i off : Nat} {K : AV → Prop} (e : off = i) (h : i < ws.length) (hk : K (W (ws.getD i 0))) : nthK 0 ((ws.map W).drop off) K := by
 have := ldI (z := []) e h hk
 rwa [List.append_nil] at this
theorem dat {l : List AV} (h : l.all noLoc = true) : ∀ c ∈ l, noLoc c = true := by simpa using h
theorem dat_ws (ws : List Nat) : ∀ c ∈ ws.map W, noLoc c = true := by
 intro c h; obtain ⟨x, _, rfl⟩ := List.mem_map.1 h; rfl
theorem ks_len : KS.length = 64 := rfl
theorem rounds_zero (ws : List Nat) (s : S8) : rounds ws s 0 = s := rfl
theorem rounds_succ (ws : List Nat) (s : S8) (t : Nat) : rounds ws s (t + 1) = (rounds ws s t).round (KS.getD t 0) (ws.getD t 0) := rfl
attribute [local irreducible] rounds t1N t2N mixN
theorem c57a (s : S8) (bs ws : List Nat) (cap : Option Nat) (hs : s.ok) (h63 : CallA Tryz.prog 101 [.dslice (bs.map B) 64 cap] Heap.nil fun v H' => v = .agg (ws.map W) ∧ H' = Heap.nil) (wl : ws.length = 64) (wlt : ∀ x ∈ ws, x < 4294967296) : CallA Tryz.prog 57 [.agg s.av, .dslice (bs.map B) 64 cap] Heap.nil fun v H' => v = .agg (s.add (rounds ws s 64)).av ∧ H' = Heap.nil := by
 refine callA_of ok57 (Nat.le_of_ble_eq_true rfl) ?_
 repeat' ((conv => whnf); first | refine Branch.ofT rfl ?_ | refine Branch.ofF rfl ?_ | refine Branch.dec (fun h => ?_) (fun h => ?_) | refine Branch.negdec (fun h => ?_) (fun h => ?_) | refine Branch.neg (fun h => ?_) (fun h => ?_) | refine Branch.mk (fun h => ?_) (fun h => ?_) | (refine Side.mk ?_ ?_; · first | omega | decide) | (refine SideD.mk ?_ ?_; · first | omega | decide) | refine ⟨_, Nat.lt_succ_self _, To.refl (.inl ⟨rfl, ?_⟩)⟩ | refine CallA.pure h63 rfl (noLocL_ws ws) ?_ | refine condT (by simp [wl]) ?_ | refine lputA (by simp [wl]) (scal_ws _) ?_ | refine Side.mk (by simp [S8.av]) ?_ | (refine Side.mk ?_ ?_; · (simp; done)) | fail)
 all_goals (conv => whnf)
 refine ⟨L57 ws s, 64, To.gc [(0, true), (1, true), (2, true), (9, true), (10, true)] [2, 4, 5, 6, 7, 21, 22] rfl ⟨dat rfl, dat rfl, dat_ws ws, dat rfl, dat rfl, trivial⟩ ⟨0, by omega, rfl, ?_, ?_⟩, ?_⟩
 · rfl
 · rw [rounds_zero]; rfl
 rintro m fr H ⟨t, ht, rfl, rfl, rfl⟩
 have hr := rounds_ok (ws := ws) hs t
 have hn : rounds ws s (t + 1) = (rounds ws s t).round (KS.getD t 0) (ws.getD t 0) := rounds_succ ws s t
 generalize hr0 : rounds ws s t = r at hr hn
 by_cases h64 : t < 64
 · repeat' ((conv => whnf); first | refine Branch.ofT rfl ?_ | refine Branch.ofF rfl ?_ | refine Branch.ofT (decide_eq_true (by omega)) ?_ | refine Branch.dec (fun h => ?_) (fun h => ?_) | refine Branch.negdec (fun h => ?_) (fun h => ?_) | refine Branch.neg (fun h => ?_) (fun h => ?_) | refine Branch.mk (fun h => ?_) (fun h => ?_) | (refine Side.mk ?_ ?_; · first | omega | decide) | (refine SideD.mk ?_ ?_; · first | omega | decide) | refine ⟨_, Nat.lt_succ_self _, To.refl (.inl ⟨rfl, ?_⟩)⟩ | refine ldW (ws := KS) (i := t) (by omega) (by rw [ks_len]; omega) ?_ | refine ldW (ws := ws) (i := t) (by omega) (by omega) ?_ | refine QCallA.of (c64 r.e 6 11 25 hr.2.2.2.2.1 (by decide) (by decide) (by decide)) rfl rfl ?_ | refine QCallA.of (c64 r.a 2 13 22 hr.1 (by decide) (by decide) (by decide)) rfl rfl ?_ | (refine Side.mk ?_ ?_; · (simp; done)) | fail)
   all_goals (conv => whnf)
   have hx := rx hr (KS.getD t 0) (ws.getD t 0)
   have hA := (cong2 hx (ry hr)).trans (wadd _ _)
   have hE := (congrArg (fun x : Int => IntKind.u32.wrap ((r.d : Int) + x)) hx).trans (wadd _ _)
   exact ⟨64 - (t + 1), by omega, To.gc [(0, true), (1, true), (2, true), (3, true), (4, true)] [2, 4, 5, 6, 7, 21, 22] rfl ⟨dat rfl, dat rfl, dat_ws ws, dat rfl, dat rfl, trivial⟩ ⟨t + 1, by omega, rfl, rfl, by rw [hn]; exact heq57 hA hE⟩⟩
 · repeat' ((conv => whnf); first | refine Branch.ofT rfl ?_ | refine Branch.ofF rfl ?_ | refine Branch.ofF (decide_eq_false (by omega)) ?_ | refine Branch.dec (fun h => ?_) (fun h => ?_) | refine Branch.negdec (fun h => ?_) (fun h => ?_) | refine Branch.neg (fun h => ?_) (fun h => ?_) | refine Branch.mk (fun h => ?_) (fun h => ?_) | (refine Side.mk ?_ ?_; · first | omega | decide) | (refine SideD.mk ?_ ?_; · first | omega | decide) | refine ⟨_, Nat.lt_succ_self _, To.refl (.inl ⟨rfl, ?_⟩)⟩ | refine LoopA.unroll _ _ _ 4 ?_ | refine Side.mk (by simp [S8.av]) ?_ | (refine Side.mk ?_ ?_; · (simp; done)) | fail)
   all_goals (conv => whnf)
   have : t = 64 := by omega
   subst this
   rw [hr0]
   refine RetA.data (v := .agg [_, _, _, _, _, _, _, _]) rfl ⟨?_, rfl⟩
   simp only [wadd]
   rfl
theorem c57 (s : S8) (bs : List Nat) (cap : Option Nat) (hs : s.ok) (hl : bs.length = 64) (hb : ∀ x ∈ bs, x < 256) : CallA Tryz.prog 57 [.agg s.av, .dslice (bs.map B) 64 cap] Heap.nil fun v H' => v = .agg (compN s bs).av ∧ H' = Heap.nil :=
 c57a s bs (sched bs 64) cap hs (c63 bs cap hl hb) (sched_len bs 64) (sched_lt hb 64)
end Go.Proofs

namespace Go.Proofs
open Go Go.Eng
set_option maxRecDepth 100000
set_option maxHeartbeats 1000000

theorem c61 (x n : Nat) (hx : x < 4294967296) (hn : n ∈ rots) : CallA Tryz.prog 111 [W x, I n] Heap.nil fun v H' => v = W (rotr x n) ∧ H' = Heap.nil := by
 refine callA_of ok111 (Nat.le_of_ble_eq_true rfl) ?_
 have fin : ∀ k m : Nat, k + m = 32 → AV.int .u32 (IntKind.u32.wrap (BitVec.ofInt IntKind.u32.bits ((x : Int).fdiv (2 ^ m)) ||| BitVec.ofInt IntKind.u32.bits (IntKind.u32.wrap ((x : Int) * 2 ^ k))).toNat) = W (rotr x m) := by
  intro k m hkm
  rw [wshl, wshr, wor (shr_lt hx m) (Nat.mod_lt _ (by omega)), Nat.or_comm]
  have : k = 32 - m := by omega
  subst this; rfl
 simp only [rots, List.mem_cons, List.not_mem_nil, or_false] at hn
 rcases hn with rfl | rfl | rfl | rfl | rfl | rfl | rfl | rfl | rfl | rfl
 repeat' ((conv => whnf); first | refine Branch.ofT rfl ?_ | refine Branch.ofF rfl ?_ | refine Branch.dec (fun h => ?_) (fun h => ?_) | refine Branch.negdec (fun h => ?_) (fun h => ?_) | refine Branch.neg (fun h => ?_) (fun h => ?_) | refine Branch.mk (fun h => ?_) (fun h => ?_) | (refine Side.mk ?_ ?_; · first | omega | decide) | (refine SideD.mk ?_ ?_; · first | omega | decide) | refine ⟨_, Nat.lt_succ_self _, To.refl (.inl ⟨rfl, ?_⟩)⟩ | (refine Side.mk ?_ ?_; · (simp; done)) | fail)
 all_goals (conv => whnf)
 all_goals (refine RetA.data rfl ⟨?_, rfl⟩; (try simp only [one]))
 · exact fin 30 2 rfl
 · exact fin 26 6 rfl
 · exact fin 25 7 rfl
 · exact fin 21 11 rfl
 · exact fin 19 13 rfl
 · exact fin 15 17 rfl
 · exact fin 14 18 rfl
 · exact fin 13 19 rfl
 · exact fin 10 22 rfl
 · exact fin 7 25 rfl
theorem or_add {a b i : Nat} (h : b < 2 ^ i) : a * 2 ^ i ||| b = a * 2 ^ i + b := by
 rw [Nat.mul_comm, Nat.two_pow_add_eq_or_of_lt h]
theorem wstep_eq {y b : Nat} (hy : y < 16777216) (hb : b < 256) : wstep y b = y * 256 + b := by
 unfold wstep
 rw [Nat.mod_eq_of_lt (by omega), or_add (by omega)]
theorem word_eq {a b c d : Nat} (ha : a < 256) (hb : b < 256) (hc : c < 256) (hd : d < 256) : word a b c d = a * 16777216 + b * 65536 + c * 256 + d := by
 unfold word
 rw [wstep_eq (y := 0) (by omega) ha, wstep_eq (by omega) hb, wstep_eq (by omega) hc, wstep_eq (by omega) hd]
 omega
theorem rword {a b c d : Nat} (ha : a < 256) (hb : b < 256) (hc : c < 256) (hd : d < 256) :
 IntKind.u32.wrap (BitVec.ofInt IntKind.u32.bits (IntKind.u32.wrap (BitVec.ofInt IntKind.u32.bits (IntKind.u32.wrap (BitVec.ofInt IntKind.u32.bits (IntKind.u32.wrap ((a : Int) * 2 ^ 24)) ||| BitVec.ofInt IntKind.u32.bits (IntKind.u32.wrap ((b : Int) * 2 ^ 16))).toNat) ||| BitVec.ofInt IntKind.u32.bits (IntKind.u32.wrap ((c : Int) * 2 ^ 8))).toNat) ||| BitVec.ofInt IntKind.u32.bits (d : Int)).toNat = ((word a b c d : Nat) : Int) := by
 have e1 : a * 2 ^ 24 % 4294967296 = a * 2 ^ 24 := Nat.mod_eq_of_lt (by omega)
 have e2 : b * 2 ^ 16 % 4294967296 = b * 2 ^ 16 := Nat.mod_eq_of_lt (by omega)
 have e3 : c * 2 ^ 8 % 4294967296 = c * 2 ^ 8 := Nat.mod_eq_of_lt (by omega)
 rw [wshl, wshl, wshl, e1, e2, e3, wor (by omega) (by omega), or_add (by omega), wor (by omega) (by omega),
  show a * 2 ^ 24 + b * 2 ^ 16 = (a * 256 + b) * 2 ^ 16 by omega, or_add (by omega), wor (by omega) (by omega),
  show (a * 256 + b) * 2 ^ 16 + c * 2 ^ 8 = (a * 65536 + b * 256 + c) * 2 ^ 8 by omega, or_add (by omega), word_eq ha hb hc hd]
 congr 1; omega
def L60a (bs : List Nat) (cap : Option Nat) (m : Nat) (fr : Fr) (H : Heap) : Prop := ∃ t : Nat, t ≤ 16 ∧ m = 16 - t ∧ fr = [(0, .dslice (bs.map B) 64 cap), (2, .ptr 0 0), (3, .ptr 1 0), (4, I t)] ∧ H = ⟨2, [(0, .cells (List.replicate 64 (W 0))), (1, .cells ((sched bs t).map W ++ List.replicate (64 - t) (W 0)))]⟩
def L60b (bs : List Nat) (cap : Option Nat) (m : Nat) (fr : Fr) (H : Heap) : Prop := ∃ t : Nat, 16 ≤ t ∧ t ≤ 64 ∧ m = 64 - t ∧ fr = [(0, .dslice (bs.map B) 64 cap), (2, .ptr 0 0), (3, .ptr 1 0), (5, I t)] ∧ H = ⟨2, [(0, .cells (List.replicate 64 (W 0))), (1, .cells ((sched bs t).map W ++ List.replicate (64 - t) (W 0)))]⟩
theorem ldC {bs : List Nat} {i off : Nat} {K : AV → Prop} (e : off = i) (h : i < bs.length) (hk : K (B (bs.getD i 0))) : nthK 0 ((bs.map B).drop off) K := by
 subst e
 rw [List.drop_eq_getElem_cons (by simpa using h)]
 simp only [nthK, fv_eq, List.getElem_map]
 simpa [List.getD_eq_getElem?_getD, List.getElem?_eq_getElem h] using hk
theorem c60 (bs : List Nat) (cap : Option Nat) (hl : bs.length = 64) (hb : ∀ x ∈ bs, x < 256) : CallA Tryz.prog 110 [.dslice (bs.map B) 64 cap] Heap.nil fun v H' => v = .agg ((sched bs 64).map W) ∧ H' = Heap.nil := by
 refine callA_of ok110 (Nat.le_of_ble_eq_true rfl) ?_
 have hB : ∀ i, bs.getD i 0 < 256 := getD_lt hb (by omega)
 have hB4 : ∀ i, bs.getD i 0 < 4294967296 := fun i => Nat.lt_trans (hB i) (by omega)
 repeat' ((conv => whnf); first | refine Branch.ofT rfl ?_ | refine Branch.ofF rfl ?_ | refine Branch.dec (fun h => ?_) (fun h => ?_) | refine Branch.negdec (fun h => ?_) (fun h => ?_) | refine Branch.neg (fun h => ?_) (fun h => ?_) | refine Branch.mk (fun h => ?_) (fun h => ?_) | (refine Side.mk ?_ ?_; · first | omega | decide) | (refine SideD.mk ?_ ?_; · first | omega | decide) | refine ⟨_, Nat.lt_succ_self _, To.refl (.inl ⟨rfl, ?_⟩)⟩ | (refine Side.mk ?_ ?_; · (simp; done)) | fail)
 all_goals (conv => whnf)
 refine ⟨L60a bs cap, 16, To.gc [(0, true), (1, true)] [0, 2, 3, 4] rfl ⟨noLoc_ws [] 64, noLoc_ws [] 64, trivial⟩ ⟨0, by omega, rfl, rfl, rfl⟩, ?_⟩
 rintro m fr H ⟨t, ht, rfl, rfl, rfl⟩
 have sl := sched_len bs t
 by_cases h16 : t < 16
 · repeat' ((conv => whnf); first | refine Branch.ofT rfl ?_ | refine Branch.ofF rfl ?_ | refine Branch.ofT (decide_eq_true (by omega)) ?_ | refine Branch.dec (fun h => ?_) (fun h => ?_) | refine Branch.negdec (fun h => ?_) (fun h => ?_) | refine Branch.neg (fun h => ?_) (fun h => ?_) | refine Branch.mk (fun h => ?_) (fun h => ?_) | (refine Side.mk ?_ ?_; · first | omega | decide) | (refine SideD.mk ?_ ?_; · first | omega | decide) | refine ⟨_, Nat.lt_succ_self _, To.refl (.inl ⟨rfl, ?_⟩)⟩ | refine ldC (i := 4 * t) (by omega) (by omega) ?_ | refine ldC (i := 4 * t + 1) (by omega) (by omega) ?_ | refine ldC (i := 4 * t + 2) (by omega) (by omega) ?_ | refine ldC (i := 4 * t + 3) (by omega) (by omega) ?_ | refine Side.mk (u32ok (hB4 _)) ?_ | refine stV (by omega) (rword (hB _) (hB _) (hB _) (hB _)) (by omega) ?_ | (refine Side.mk ?_ ?_; · (simp; done)) | fail)
   all_goals (conv => whnf)
   have e1 : sched bs (t + 1) = sched bs t ++ [word (bs.getD (4 * t) 0) (bs.getD (4 * t + 1) 0) (bs.getD (4 * t + 2) 0) (bs.getD (4 * t + 3) 0)] := by
    show sched bs t ++ [nxt bs (sched bs t) t] = _
    unfold nxt; rw [if_pos h16]
   exact ⟨16 - (t + 1), by omega, To.gc [(0, true), (1, true)] [0, 2, 3, 4] rfl ⟨noLoc_ws [] 64, noLoc_ws _ _, trivial⟩ ⟨t + 1, by omega, rfl, rfl, by rw [e1, show 64 - (t + 1) = 64 - t - 1 by omega]; rfl⟩⟩
 · have : t = 16 := by omega
   subst this
   repeat' ((conv => whnf); first | refine Branch.ofT rfl ?_ | refine Branch.ofF rfl ?_ | refine Branch.ofF (decide_eq_false (by omega)) ?_ | refine Branch.dec (fun h => ?_) (fun h => ?_) | refine Branch.negdec (fun h => ?_) (fun h => ?_) | refine Branch.neg (fun h => ?_) (fun h => ?_) | refine Branch.mk (fun h => ?_) (fun h => ?_) | (refine Side.mk ?_ ?_; · first | omega | decide) | (refine SideD.mk ?_ ?_; · first | omega | decide) | refine ⟨_, Nat.lt_succ_self _, To.refl (.inl ⟨rfl, ?_⟩)⟩ | (refine Side.mk ?_ ?_; · (simp; done)) | fail)
   all_goals (conv => whnf)
   refine ⟨L60b bs cap, 48, To.gc [(0, true), (1, true)] [0, 2, 3, 5] rfl ⟨noLoc_ws [] 64, noLoc_ws _ _, trivial⟩ ⟨16, by omega, by omega, rfl, rfl, rfl⟩, ?_⟩
   rintro m fr H ⟨t, ht0, ht, rfl, rfl, rfl⟩
   have hg : ∀ i, (sched bs t).getD i 0 < 4294967296 := getD_lt (sched_lt hb t) (by omega)
   have g15 := hg (t - 15)
   have g2 := hg (t - 2)
   have sl := sched_len bs t
   by_cases h64 : t < 64
   · have e : nxt bs (sched bs t) t = ((((sched bs t).getD (t - 16) 0 + sg0 ((sched bs t).getD (t - 15) 0)) % 4294967296 + (sched bs t).getD (t - 7) 0) % 4294967296 + sg1 ((sched bs t).getD (t - 2) 0)) % 4294967296 := by unfold nxt; rw [if_neg (by omega)]
     repeat' ((conv => whnf); first | refine Branch.ofT rfl ?_ | refine Branch.ofF rfl ?_ | refine Branch.ofT (decide_eq_true (by omega)) ?_ | refine Branch.dec (fun h => ?_) (fun h => ?_) | refine Branch.negdec (fun h => ?_) (fun h => ?_) | refine Branch.neg (fun h => ?_) (fun h => ?_) | refine Branch.mk (fun h => ?_) (fun h => ?_) | (refine Side.mk ?_ ?_; · first | omega | decide) | (refine SideD.mk ?_ ?_; · first | omega | decide) | refine ⟨_, Nat.lt_succ_self _, To.refl (.inl ⟨rfl, ?_⟩)⟩ | refine ldI (i := t - 15) (by omega) (by rw [sched_len]; omega) ?_ | refine ldI (i := t - 2) (by omega) (by rw [sched_len]; omega) ?_ | refine ldI (i := t - 16) (by omega) (by rw [sched_len]; omega) ?_ | refine ldI (i := t - 7) (by omega) (by rw [sched_len]; omega) ?_ | refine QCallA.of (c61 _ 7 (by assumption) (by decide)) rfl rfl ?_ | refine QCallA.of (c61 _ 18 (by assumption) (by decide)) rfl rfl ?_ | refine QCallA.of (c61 _ 17 (by assumption) (by decide)) rfl rfl ?_ | refine QCallA.of (c61 _ 19 (by assumption) (by decide)) rfl rfl ?_ | refine stV (by omega) ((rnxt g15 g2).trans (congrArg Nat.cast e.symm)) (by omega) ?_ | (refine Side.mk ?_ ?_; · (simp; done)) | fail)
     all_goals (conv => whnf)
     exact ⟨64 - (t + 1), by omega, To.gc [(0, true), (1, true)] [0, 2, 3, 5] rfl ⟨noLoc_ws [] 64, noLoc_ws _ _, trivial⟩ ⟨t + 1, by omega, by omega, rfl, rfl, by rw [show 64 - (t + 1) = 64 - t - 1 by omega]; rfl⟩⟩
   · repeat' ((conv => whnf); first | refine Branch.ofT rfl ?_ | refine Branch.ofF rfl ?_ | refine Branch.ofF (decide_eq_false (by omega)) ?_ | refine Branch.dec (fun h => ?_) (fun h => ?_) | refine Branch.negdec (fun h => ?_) (fun h => ?_) | refine Branch.neg (fun h => ?_) (fun h => ?_) | refine Branch.mk (fun h => ?_) (fun h => ?_) | (refine Side.mk ?_ ?_; · first | omega | decide) | (refine SideD.mk ?_ ?_; · first | omega | decide) | refine ⟨_, Nat.lt_succ_self _, To.refl (.inl ⟨rfl, ?_⟩)⟩ | refine tkW (by omega) ?_ | refine tkW' (by omega) ?_ | refine condT (by simp [sl]; omega) ?_ | refine lputA (by simp; omega) (scal_ws _) ?_ | (refine Side.mk ?_ ?_; · (simp; done)) | fail)
     all_goals (conv => whnf)
     have : t = 64 := by omega
     subst this
     generalize sched bs 64 = ws
     exact RetA.data (v := .agg (ws.map W)) (noLocL_ws ws) ⟨rfl, rfl⟩
end Go.Proofs

namespace Go.Proofs
open Go Go.Eng
set_option maxRecDepth 100000
set_option maxHeartbeats 1000000

def txt (t : List Nat) : ByteArray := ⟨(t.map UInt8.ofNat).toArray⟩
theorem txt_size (t : List Nat) : (txt t).size = t.length := by simp [txt, ByteArray.size]
theorem txt_nil : txt [] = ⟨#[]⟩ := rfl
theorem txt_ne {t : List Nat} (h : t ≠ []) : txt t ≠ ⟨#[]⟩ := by
 intro e
 have := txt_size t
 rw [e] at this
 exact h (List.eq_nil_of_length_eq_zero this.symm)
theorem txt_cells {t : List Nat} (h : ∀ x ∈ t, x < 256) : strCells (txt t) = t.map B := by
 unfold strCells txt
 simp only [List.map_map]
 refine List.map_congr_left fun x hx => ?_
 have : (UInt8.ofNat x).toNat = x := by rw [UInt8.toNat_ofNat']; exact Nat.mod_eq_of_lt (h x hx)
 simp only [Function.comp, this]
theorem txt_bytes (t : List Nat) : bytesOf (t.map B) = some (t.map fun n : Nat => (n : Int)) := by
 induction t with
 | nil => rfl
 | cons x r ih => simp only [List.map_cons, bytesOf, ih]
theorem toBytes_txt (t : List Nat) : toBytes (t.map fun n : Nat => (n : Int)) = txt t := by
 have key : ∀ (t : List Nat) (b : ByteArray), (t.map fun n : Nat => (n : Int)).foldl (fun r n => r.push (UInt8.ofNat n.toNat)) b = ⟨b.data ++ (t.map UInt8.ofNat).toArray⟩ := by
  intro t
  induction t with
  | nil => intro b; simp
  | cons x r ih =>
   intro b
   rw [List.map_cons, List.foldl_cons, ih]
   simp [ByteArray.push, ← Array.append_assoc]
 unfold toBytes
 rw [key]
 show ByteArray.mk (#[] ++ (t.map UInt8.ofNat).toArray) = _
 rw [Array.empty_append]; rfl
theorem txt_drop {t : List Nat} {k n : Nat} (h : n = t.length) (hk : k ≤ n) : (txt t).extract k n = txt (t.drop k) := by
 subst h
 have : (txt t).extract k t.length = ⟨(txt t).data.extract k t.length⟩ := by
  simp only [ByteArray.extract, ByteArray.copySlice]
  simp [show k + (t.length - k) = t.length by omega]
 rw [this]
 simp [txt, List.take_of_length_le]
theorem bres {t : List Nat} {cs : List AV} {K : ByteArray → Prop} (e : cs = t.map B) (h : K (txt t)) : BRes (bytesOf cs) K := by
 subst e; exact ⟨_, txt_bytes t, by rw [toBytes_txt]; exact h⟩
theorem dat_bs (bs : List Nat) : ∀ c ∈ bs.map B, noLoc c = true := by
 intro c h; obtain ⟨x, _, rfl⟩ := List.mem_map.1 h; rfl
theorem scal_bs (bs : List Nat) : ∀ c ∈ bs.map B, scal c = true := by
 intro c h; obtain ⟨x, _, rfl⟩ := List.mem_map.1 h; rfl
theorem noLocL_bs : ∀ bs : List Nat, noLocL (bs.map B) = true
 | [] => rfl
 | x :: r => by simp [noLocL, noLoc, noLocL_bs r]
theorem wu8 (n : Int) : IntKind.u8.wrap n = n % 256 := by
 have : IntKind.u8.wrap n = if IntKind.u8.signed then (let r := n % 2 ^ IntKind.u8.bits; if r < 2 ^ (IntKind.u8.bits - 1) then r else r - 2 ^ IntKind.u8.bits) else n % 2 ^ IntKind.u8.bits := by
  first | rfl | (simp [IntKind.wrap])
 rw [this]; rfl
theorem appB {a : List AV} {n : Nat} {ds : List AV} (h : a.length = n) (hf : n ≤ 100000) (hs : ∀ c ∈ ds, scal c = true) {m : Nat} (hm : m ≤ 100000) : 1 = 1 ∧ 0 = 0 ∧ a.length = n * 1 ∧ fits (n + m) 1 ∧ ∀ c ∈ ds, scal c = true :=
 ⟨rfl, rfl, by omega, by unfold fits; omega, hs⟩
theorem tkm {m : List Nat} {n : Nat} (h : m.length = n) : List.take (n * 1) (m.map B) = m.map B := List.take_of_length_le (by simp; omega)
end Go.Proofs

namespace Go.Proofs
open Go Go.Eng
set_option maxRecDepth 100000
set_option maxHeartbeats 4000000

def iv : S8 := ⟨1779033703, 3144134277, 1013904242, 2773480762, 1359893119, 2600822924, 528734635, 1541459225⟩
def chunk (m : List Nat) (k : Nat) : List Nat := (m.drop (64 * k)).take 64
def absorb (s : S8) (m : List Nat) : Nat → S8
 | 0 => s
 | k + 1 => compN (absorb s m k) (chunk m k)
theorem comp_ok {s : S8} (h : s.ok) (bs : List Nat) : (compN s bs).ok := by
 unfold compN S8.add S8.ok
 exact ⟨Nat.mod_lt _ (by omega), Nat.mod_lt _ (by omega), Nat.mod_lt _ (by omega), Nat.mod_lt _ (by omega), Nat.mod_lt _ (by omega), Nat.mod_lt _ (by omega), Nat.mod_lt _ (by omega), Nat.mod_lt _ (by omega)⟩
theorem iv_ok : iv.ok := by unfold iv S8.ok; decide
theorem absorb_ok {s : S8} (h : s.ok) (m : List Nat) : ∀ k, (absorb s m k).ok
 | 0 => h
 | k + 1 => comp_ok (absorb_ok h m k) _
def out4 (x : Nat) : List Nat := [x / 2 ^ 24 % 256, x / 2 ^ 16 % 256, x / 2 ^ 8 % 256, x / 2 ^ 0 % 256]
def outN (s : S8) : List Nat := out4 s.a ++ out4 s.b ++ out4 s.c ++ out4 s.d ++ out4 s.e ++ out4 s.f ++ out4 s.g ++ out4 s.h
def z32 : List AV := List.replicate 32 (B 0)
theorem bN' {e : Nat} (h : e < 4294967296) : bX (e : Int) 4294967295 = ((4294967295 ^^^ e : Nat) : Int) := by
 have : (4294967295 : Int) = ((4294967295 : Nat) : Int) := rfl
 rw [this, bX_eq h (by omega), Nat.xor_comm]
theorem mixX {x i j k : Nat} (hx : x < 4294967296) : bX (bX ((rotr x i : Nat) : Int) ((rotr x j : Nat) : Int)) ((rotr x k : Nat) : Int) = ((mixN x i j k : Nat) : Int) := by
 rw [bX_eq (rotr_lt hx i) (rotr_lt hx j), bX_eq (xor_lt (rotr_lt hx i) (rotr_lt hx j)) (rotr_lt hx k)]; rfl
theorem rx' {s : S8} (hs : s.ok) (k w : Nat) : IntKind.u32.wrap (IntKind.u32.wrap (IntKind.u32.wrap (IntKind.u32.wrap ((s.h : Int) + bX (bX ((rotr s.e 6 : Nat) : Int) ((rotr s.e 11 : Nat) : Int)) ((rotr s.e 25 : Nat) : Int)) + bX (bA s.e s.f) (bA (bX (s.e : Int) 4294967295) s.g)) + (k : Int)) + (w : Int)) = ((t1N s k w : Nat) : Int) := by
 obtain ⟨_, _, _, _, he, hf, hg, _⟩ := hs
 rw [mixX he, bN' he, bA_eq he hf, bA_eq (xor_lt (by omega) he) hg, bX_eq (and_lt hf) (and_lt hg), wadd, wadd, wadd, wadd]; rfl
theorem ry' {s : S8} (hs : s.ok) : IntKind.u32.wrap (bX (bX ((rotr s.a 2 : Nat) : Int) ((rotr s.a 13 : Nat) : Int)) ((rotr s.a 22 : Nat) : Int) + bX (bX (bA s.a s.b) (bA s.a s.c)) (bA s.b s.c)) = ((t2N s : Nat) : Int) := by
 obtain ⟨ha, hb, hc, _⟩ := hs
 rw [mixX ha, bA_eq ha hb, bA_eq ha hc, bA_eq hb hc, bX_eq (and_lt hb) (and_lt hc), bX_eq (xor_lt (and_lt hb) (and_lt hc)) (and_lt hc), wadd]; rfl
attribute [local irreducible] sched rounds t1N t2N mixN compN
theorem heq55 {C0 C1 C2 : List AV} {A E A' E' : Int} {b c d f g h : AV} (hA : A = A') (hE : E = E') : (⟨4, [(0, .cells C0), (1, .cells C1), (2, .cells C2), (3, .cells [.int .u32 A, b, c, d, .int .u32 E, f, g, h])]⟩ : Heap) = ⟨4, [(0, .cells C0), (1, .cells C1), (2, .cells C2), (3, .cells [.int .u32 A', b, c, d, .int .u32 E', f, g, h])]⟩ := by
 subst hA hE; rfl
theorem heqA {C0 : List AV} (s v : S8) : (⟨2, [(0, .cells C0), (1, .cells [.int .u32 (IntKind.u32.wrap ((s.a : Int) + v.a)), .int .u32 (IntKind.u32.wrap ((s.b : Int) + v.b)), .int .u32 (IntKind.u32.wrap ((s.c : Int) + v.c)), .int .u32 (IntKind.u32.wrap ((s.d : Int) + v.d)), .int .u32 (IntKind.u32.wrap ((s.e : Int) + v.e)), .int .u32 (IntKind.u32.wrap ((s.f : Int) + v.f)), .int .u32 (IntKind.u32.wrap ((s.g : Int) + v.g)), .int .u32 (IntKind.u32.wrap ((s.h : Int) + v.h))])]⟩ : Heap) = ⟨2, [(0, .cells C0), (1, .cells (s.add v).av)]⟩ := by
 simp only [wadd]; rfl
theorem wb (x j : Nat) : IntKind.u8.wrap ((x : Int).fdiv (2 ^ j)) = ((x / 2 ^ j % 256 : Nat) : Int) := by
 rw [wshr, wu8]; omega
theorem out_eq (s : S8) : AV.agg [.int .u8 (IntKind.u8.wrap ((s.a : Int).fdiv (2 ^ 24))), .int .u8 (IntKind.u8.wrap ((s.a : Int).fdiv (2 ^ 16))), .int .u8 (IntKind.u8.wrap ((s.a : Int).fdiv (2 ^ 8))), .int .u8 (IntKind.u8.wrap ((s.a : Int).fdiv (2 ^ 0))), .int .u8 (IntKind.u8.wrap ((s.b : Int).fdiv (2 ^ 24))), .int .u8 (IntKind.u8.wrap ((s.b : Int).fdiv (2 ^ 16))), .int .u8 (IntKind.u8.wrap ((s.b : Int).fdiv (2 ^ 8))), .int .u8 (IntKind.u8.wrap ((s.b : Int).fdiv (2 ^ 0))), .int .u8 (IntKind.u8.wrap ((s.c : Int).fdiv (2 ^ 24))), .int .u8 (IntKind.u8.wrap ((s.c : Int).fdiv (2 ^ 16))), .int .u8 (IntKind.u8.wrap ((s.c : Int).fdiv (2 ^ 8))), .int .u8 (IntKind.u8.wrap ((s.c : Int).fdiv (2 ^ 0))), .int .u8 (IntKind.u8.wrap ((s.d : Int).fdiv (2 ^ 24))), .int .u8 (IntKind.u8.wrap ((s.d : Int).fdiv (2 ^ 16))), .int .u8 (IntKind.u8.wrap ((s.d : Int).fdiv (2 ^ 8))), .int .u8 (IntKind.u8.wrap ((s.d : Int).fdiv (2 ^ 0))), .int .u8 (IntKind.u8.wrap ((s.e : Int).fdiv (2 ^ 24))), .int .u8 (IntKind.u8.wrap ((s.e : Int).fdiv (2 ^ 16))), .int .u8 (IntKind.u8.wrap ((s.e : Int).fdiv (2 ^ 8))), .int .u8 (IntKind.u8.wrap ((s.e : Int).fdiv (2 ^ 0))), .int .u8 (IntKind.u8.wrap ((s.f : Int).fdiv (2 ^ 24))), .int .u8 (IntKind.u8.wrap ((s.f : Int).fdiv (2 ^ 16))), .int .u8 (IntKind.u8.wrap ((s.f : Int).fdiv (2 ^ 8))), .int .u8 (IntKind.u8.wrap ((s.f : Int).fdiv (2 ^ 0))), .int .u8 (IntKind.u8.wrap ((s.g : Int).fdiv (2 ^ 24))), .int .u8 (IntKind.u8.wrap ((s.g : Int).fdiv (2 ^ 16))), .int .u8 (IntKind.u8.wrap ((s.g : Int).fdiv (2 ^ 8))), .int .u8 (IntKind.u8.wrap ((s.g : Int).fdiv (2 ^ 0))), .int .u8 (IntKind.u8.wrap ((s.h : Int).fdiv (2 ^ 24))), .int .u8 (IntKind.u8.wrap ((s.h : Int).fdiv (2 ^ 16))), .int .u8 (IntKind.u8.wrap ((s.h : Int).fdiv (2 ^ 8))), .int .u8 (IntKind.u8.wrap ((s.h : Int).fdiv (2 ^ 0)))] = .agg ((outN s).map B) := by
 simp only [wb]; rfl
end Go.Proofs

namespace Go.Proofs
open Go Go.Eng
set_option maxRecDepth 100000
set_option maxHeartbeats 4000000
theorem lentOk_nl (η : Nat → AB) : ∀ n, lentOk [] η n = true
 | 0 => rfl
 | n + 1 => by
  rw [lentOk_succ]
  split
  · exact lentOk_nl η n
  · exact lentOk_nl η n
theorem _root_.Go.Eng.CallA.own {P : Program} {f : FuncId} {args : List AV} {cs : List AV} {n : Nat} (h : CallA P f args Heap.nil fun v H' => v = .slice 0 0 n none 1 ∧ H' = ⟨1, [(0, .cells cs)]⟩) (ha : renL (posOf []) args = args) (hc : noLocL cs = true) {H : Heap} {K : AV → Heap → Prop} (hk : K (.slice H.nx 0 n none 1) ⟨H.nx + 1, (H.nx, .cells cs) :: H.bs⟩) : CallA P f args H K := by
 refine CallA.lend [] (by rw [ha]; exact h) rfl trivial rfl ?_ (lentOk_nl _ _)
 rintro c H' ⟨rfl, rfl⟩
 refine ⟨trivial, ?_⟩
 have e : lendH [] H ⟨1, [(0, .cells cs)]⟩ = ⟨H.nx + 1, (H.nx, .cells (renL (fun j => some (backK [] H.nx j)) cs)) :: H.bs⟩ := rfl
 rw [e, renL_data _ _ hc]
 exact hk

theorem c62_16 : CallA Tryz.prog 13 [I (16 : Nat)] Heap.nil fun v H' => v = .slice 0 0 1 none 1 ∧ H' = ⟨1, [(0, .cells ([32].map B))]⟩ := by
 refine callA_of ok13 (Nat.le_of_ble_eq_true rfl) ?_
 repeat' ((conv => whnf); first | refine Branch.ofT rfl ?_ | refine Branch.ofF rfl ?_ | refine Branch.ofF (decide_eq_false (by omega)) ?_ | refine Branch.dec (fun h => ?_) (fun h => ?_) | refine Branch.negdec (fun h => ?_) (fun h => ?_) | refine Branch.neg (fun h => ?_) (fun h => ?_) | refine Branch.mk (fun h => ?_) (fun h => ?_) | (refine Side.mk ?_ ?_; · first | omega | decide) | (refine SideD.mk ?_ ?_; · first | omega | decide) | refine ⟨_, Nat.lt_succ_self _, To.refl (.inl ⟨rfl, ?_⟩)⟩ | refine LoopA.unroll _ _ _ 3 ?_ | refine Branch.ofF (by rfl) ?_ | refine Side.mk ⟨by unfold fits; omega, by simp [scal]⟩ ?_ | (refine Side.mk ?_ ?_; · (simp; done)) | fail)
 all_goals (conv => whnf)
 exact RetA.gc [(0, true)] rfl ⟨dat rfl, trivial⟩ ⟨rfl, rfl⟩
theorem c62_1 : CallA Tryz.prog 13 [I (1 : Nat)] Heap.nil fun v H' => v = .slice 0 0 1 none 1 ∧ H' = ⟨1, [(0, .cells ([2].map B))]⟩ := by
 refine callA_of ok13 (Nat.le_of_ble_eq_true rfl) ?_
 repeat' ((conv => whnf); first | refine Branch.ofT rfl ?_ | refine Branch.ofF rfl ?_ | refine Branch.ofF (decide_eq_false (by omega)) ?_ | refine Branch.dec (fun h => ?_) (fun h => ?_) | refine Branch.negdec (fun h => ?_) (fun h => ?_) | refine Branch.neg (fun h => ?_) (fun h => ?_) | refine Branch.mk (fun h => ?_) (fun h => ?_) | (refine Side.mk ?_ ?_; · first | omega | decide) | (refine SideD.mk ?_ ?_; · first | omega | decide) | refine ⟨_, Nat.lt_succ_self _, To.refl (.inl ⟨rfl, ?_⟩)⟩ | refine LoopA.unroll _ _ _ 3 ?_ | refine Branch.ofF (by rfl) ?_ | refine Side.mk ⟨by unfold fits; omega, by simp [scal]⟩ ?_ | (refine Side.mk ?_ ?_; · (simp; done)) | fail)
 all_goals (conv => whnf)
 exact RetA.gc [(0, true)] rfl ⟨dat rfl, trivial⟩ ⟨rfl, rfl⟩
theorem c62_2 : CallA Tryz.prog 13 [I (2 : Nat)] Heap.nil fun v H' => v = .slice 0 0 1 none 1 ∧ H' = ⟨1, [(0, .cells ([4].map B))]⟩ := by
 refine callA_of ok13 (Nat.le_of_ble_eq_true rfl) ?_
 repeat' ((conv => whnf); first | refine Branch.ofT rfl ?_ | refine Branch.ofF rfl ?_ | refine Branch.ofF (decide_eq_false (by omega)) ?_ | refine Branch.dec (fun h => ?_) (fun h => ?_) | refine Branch.negdec (fun h => ?_) (fun h => ?_) | refine Branch.neg (fun h => ?_) (fun h => ?_) | refine Branch.mk (fun h => ?_) (fun h => ?_) | (refine Side.mk ?_ ?_; · first | omega | decide) | (refine SideD.mk ?_ ?_; · first | omega | decide) | refine ⟨_, Nat.lt_succ_self _, To.refl (.inl ⟨rfl, ?_⟩)⟩ | refine LoopA.unroll _ _ _ 3 ?_ | refine Branch.ofF (by rfl) ?_ | refine Side.mk ⟨by unfold fits; omega, by simp [scal]⟩ ?_ | (refine Side.mk ?_ ?_; · (simp; done)) | fail)
 all_goals (conv => whnf)
 exact RetA.gc [(0, true)] rfl ⟨dat rfl, trivial⟩ ⟨rfl, rfl⟩
theorem c56 (t e : List Nat) (k n : Nat) (ht : ∀ x ∈ t, x < 256) (hn : t.length = n) (h62 : CallA Tryz.prog 13 [I n] Heap.nil fun v H' => v = .slice 0 0 k none 1 ∧ H' = ⟨1, [(0, .cells (e.map B))]⟩) (hk : e.length = k) (hk1 : k ≤ 10) (ht0 : 0 < n) (ht1 : n ≤ 1000) : CallA Tryz.prog 70 [.str (txt t)] Heap.nil fun v H' => v = .dslice ((e ++ t).map B) (k + n) none ∧ H' = Heap.nil := by
 refine callA_of ok70 (Nat.le_of_ble_eq_true rfl) ?_
 have e1 := txt_size t
 have e2 : List.take ((txt t).size * 1) (strCells (txt t)) = t.map B := by rw [txt_cells ht, List.take_of_length_le (by simp [e1])]
 rw [hn] at e1
 rw [← e1] at h62
 repeat' ((conv => whnf); first | refine Branch.ofT rfl ?_ | refine Branch.ofF rfl ?_ | refine Branch.dec (fun h => ?_) (fun h => ?_) | refine Branch.negdec (fun h => ?_) (fun h => ?_) | refine Branch.neg (fun h => ?_) (fun h => ?_) | refine Branch.mk (fun h => ?_) (fun h => ?_) | (refine Side.mk ?_ ?_; · first | omega | decide) | (refine SideD.mk ?_ ?_; · first | omega | decide) | refine ⟨_, Nat.lt_succ_self _, To.refl (.inl ⟨rfl, ?_⟩)⟩ | refine CallA.own h62 rfl (noLocL_bs e) ?_ | refine Side.mk (by rw [txt_cells ht, List.length_map]; omega) ?_ | refine Side.mk (appB (by simp; omega) (by omega) (by rw [e2]; exact scal_bs t) (by omega)) ?_ | (refine Side.mk ?_ ?_; · (simp; done)) | fail)
 all_goals (conv => whnf)
 refine RetA.pub 1 (ds := (e ++ t).map B) (by show AB.cells (e.map B ++ List.take ((txt t).size * 1) (strCells (txt t))) = _; rw [e2, List.map_append]) (dat_bs _) ?_
 refine RetA.data rfl ⟨?_, rfl⟩
 show AV.dslice ((((e ++ t).map B).drop 0).take ((k + (txt t).size) * 1)) (k + (txt t).size) none = _
 rw [e1, List.drop_zero, List.take_of_length_le (by simp; omega)]
theorem tkBn {d : List Nat} {n : Nat} {K : List AV → Prop} (h : d.length = n) (hk : K (d.map B)) : takeK n ((d.map B).drop 0) K := by
 subst h
 rw [List.drop_zero, takeK_eq _ _ _ (by simp)]
 rw [List.take_of_length_le (by simp)]
 exact hk
end Go.Proofs

namespace Go.Proofs
open Go Go.Eng
set_option maxRecDepth 100000
set_option maxHeartbeats 4000000

structure St where
 (s : S8) (b : List Nat) (n : Nat)
abbrev U (n : Nat) : AV := .int .u64 (n : Int)
def St.av (σ : St) : List AV := W σ.s.a :: W σ.s.b :: W σ.s.c :: W σ.s.d :: W σ.s.e :: W σ.s.f :: W σ.s.g :: W σ.s.h :: (σ.b.map B ++ [U σ.n])
structure St.ok (σ : St) : Prop where
 s : σ.s.ok
 l : σ.b.length = 64
 b : ∀ x ∈ σ.b, x < 256
def stepK (σ : St) (t : List Nat) : Nat := min (64 - σ.n % 64) t.length
def stepB (σ : St) (t : List Nat) : List Nat := σ.b.take (σ.n % 64) ++ t.take (stepK σ t) ++ σ.b.drop (σ.n % 64 + stepK σ t)
def stepF (σ : St) (t : List Nat) : St := ⟨if σ.n % 64 + stepK σ t = 64 then compN σ.s (stepB σ t) else σ.s, stepB σ t, σ.n + stepK σ t⟩
def addF : Nat → St → List Nat → St
 | 0, σ, _ => σ
 | f + 1, σ, t => if t = [] then σ else addF f (stepF σ t) (t.drop (stepK σ t))
theorem stepK_le (σ : St) (t : List Nat) : stepK σ t ≤ t.length ∧ σ.n % 64 + stepK σ t ≤ 64 := by unfold stepK; omega
theorem stepK_pos {σ : St} {t : List Nat} (h : t ≠ []) : 0 < stepK σ t := by
 have := List.length_pos_iff.2 h
 unfold stepK; omega
theorem step_ok {σ : St} {t : List Nat} (h : σ.ok) (ht : ∀ x ∈ t, x < 256) : (stepF σ t).ok := by
 have := stepK_le σ t
 refine ⟨?_, ?_, ?_⟩
 · unfold stepF; dsimp only; split
   · exact comp_ok h.s _
   · exact h.s
 · simp [stepF, stepB, h.l]; omega
 · intro x hx
   simp only [stepF, stepB, List.mem_append] at hx
   rcases hx with (hx | hx) | hx
   · exact h.b x (List.mem_of_mem_take hx)
   · exact ht x (List.mem_of_mem_take hx)
   · exact h.b x (List.mem_of_mem_drop hx)
attribute [local irreducible] compN
theorem frz1 {η : Nat → AB} {k : Nat} {ds vs us : List AV} {K : List AV → Prop} (h : η k = .cells ds) (hd : ds.all noLoc = true) (he : pubL k ds vs = us) (hk : fvs us K) : fvs (frz η [k] vs) K := by
 have : frz η [k] vs = us := by
  simp only [frz, h, hd, cond_true]; exact he
 rw [this]; exact hk
theorem lputE {cs : List AV} {K : List AV → Prop} (hk : K cs) : lputK cs 0 [] K := lputK_eq (by simp) rfl (by simpa using hk)
theorem all_bs (bs : List Nat) : (bs.map B).all noLoc = true := by rw [List.all_eq_true]; exact dat_bs bs
def z73 : List AV := List.replicate 8 (W 0) ++ List.replicate 64 (B 0) ++ [U 0]
def L52 (fin : St) (m : Nat) (fr : Fr) (H : Heap) : Prop := ∃ (f : Nat) (σ : St) (t : List Nat), t.length ≤ f ∧ addF f σ t = fin ∧ σ.ok ∧ (∀ x ∈ t, x < 256) ∧ σ.n + t.length ≤ 100000 ∧ m = t.length ∧ fr = [(1, .str (txt t)), (2, .ptr 0 0), (4, .ptr 1 0)] ∧ H = ⟨2, [(0, .cells σ.av), (1, .cells z73)]⟩
theorem ldN {σ : St} (h : σ.b.length = 64) {K : AV → Prop} (hk : K (U σ.n)) : nthK 0 (σ.av.drop 72) K := by
 have : σ.av.drop 72 = [U σ.n] := by
  show (σ.b.map B ++ [U σ.n]).drop 64 = _
  rw [List.drop_append, List.drop_eq_nil_of_le (by simp [h]), List.length_map, h]; rfl
 rw [this]; exact hk
theorem av_len {σ : St} (h : σ.b.length = 64) : σ.av.length = 73 := by simp [St.av, h]
theorem w64i {n : Nat} (h : n ≤ 100000) : IntKind.i64.wrap ((n : Int).tmod 64) = ((n % 64 : Nat) : Int) := by
 rw [Int.tmod_eq_emod_of_nonneg (by omega)]
 have : IntKind.i64.wrap ((n : Int) % 64) = (n : Int) % 64 := wrap_in (by
  have e1 : IntKind.i64.min = -9223372036854775808 := rfl
  have e2 : IntKind.i64.max = 9223372036854775807 := rfl
  omega)
 rw [this]; omega
theorem stC {σ : St} {t : List Nat} {off : Nat} {ds : List AV} {K : List AV → Prop} (h : σ.b.length = 64) (e : off = 8 + σ.n % 64) (hd : ds = (t.take (stepK σ t)).map B) (hk : K (St.av ⟨σ.s, stepB σ t, σ.n⟩)) : lputK σ.av off ds K := by
 subst e hd
 have h1 := stepK_le σ t
 refine lputK_eq (by rw [av_len h]; simp; omega) (by rw [List.all_eq_true]; exact fun c hc => scal_bs _ c hc) ?_
 have : σ.av.take (8 + σ.n % 64) ++ (t.take (stepK σ t)).map B ++ σ.av.drop (8 + σ.n % 64 + ((t.take (stepK σ t)).map B).length) = St.av ⟨σ.s, stepB σ t, σ.n⟩ := by
  have e1 : σ.av = [W σ.s.a, W σ.s.b, W σ.s.c, W σ.s.d, W σ.s.e, W σ.s.f, W σ.s.g, W σ.s.h] ++ (σ.b.map B ++ [U σ.n]) := rfl
  have e2 : St.av ⟨σ.s, stepB σ t, σ.n⟩ = [W σ.s.a, W σ.s.b, W σ.s.c, W σ.s.d, W σ.s.e, W σ.s.f, W σ.s.g, W σ.s.h] ++ ((stepB σ t).map B ++ [U σ.n]) := rfl
  rw [e1, e2, List.length_map, List.length_take, Nat.min_eq_left h1.1, Nat.add_assoc 8]
  rw [List.take_append, List.drop_append, List.take_of_length_le (by simp), List.drop_eq_nil_of_le (by simp)]
  simp only [List.length_cons, List.length_nil, List.nil_append, List.append_assoc, Nat.zero_add, Nat.add_sub_cancel_left, Nat.reduceAdd]
  rw [List.take_append_of_le_length (by simp [h]; omega), List.drop_append_of_le_length (by simp [h]; omega)]
  simp only [stepB, List.map_append, List.map_take, List.map_drop, List.append_assoc]
 rw [this]; exact hk
theorem stN {b : List Nat} {n m : Nat} {z : Int} {K : List AV → Prop} (h : b.length = 64) (e : z = (m : Int)) (hk : K (b.map B ++ [U m])) : lputK (b.map B ++ [U n]) 64 [.int .u64 z] K := by
 subst e
 exact lput1 (by simp [h]) rfl hk
theorem wu64 {n : Nat} (h : n ≤ 1000000000) : IntKind.u64.wrap (n : Int) = n := wrap_in (by
 have e1 : IntKind.u64.min = 0 := rfl
 have e2 : IntKind.u64.max = 18446744073709551615 := rfl
 omega)
theorem uadd {n k m : Nat} (h : n + k ≤ 1000000000) (e : n + k = m) : IntKind.u64.wrap ((n : Int) + IntKind.u64.wrap (k : Int)) = (m : Int) := by
 subst e
 rw [wu64 (n := k) (by omega), ← wu64 (n := n + k) h]; congr 1
theorem tk65 {b : List Nat} {n : Nat} {K : List AV → Prop} (h : b.length = 64) (hk : K (b.map B ++ [U n])) : takeK 65 (b.map B ++ [U n]) K := by
 rw [takeK_eq _ _ _ (by simp [h]), List.take_of_length_le (by simp [h])]
 exact hk
theorem noLocL_app : ∀ (a b : List AV), noLocL a = true → noLocL b = true → noLocL (a ++ b) = true
 | [], _, _, h => h
 | c :: a, b, h, k => by
  simp only [noLocL, List.cons_append, Bool.and_eq_true] at h ⊢
  exact ⟨h.1, noLocL_app a b h.2 k⟩
theorem noLocL_av (σ : St) : noLocL σ.av = true :=
 noLocL_app (W σ.s.a :: W σ.s.b :: W σ.s.c :: W σ.s.d :: W σ.s.e :: W σ.s.f :: W σ.s.g :: W σ.s.h :: σ.b.map B) [U σ.n] (by simp [noLocL, noLoc, noLocL_bs]) rfl
theorem c52 (σ : St) (t : List Nat) (hσ : σ.ok) (ht : ∀ x ∈ t, x < 256) (hn : σ.n + t.length ≤ 100000) : CallA Tryz.prog 27 [.agg σ.av, .str (txt t)] Heap.nil fun v H' => v = .agg (addF t.length σ t).av ∧ H' = Heap.nil := by
 refine callA_of ok27 (Nat.le_of_ble_eq_true rfl) ?_
 repeat' ((conv => whnf); first | refine Branch.ofT rfl ?_ | refine Branch.ofF rfl ?_ | refine Branch.dec (fun h => ?_) (fun h => ?_) | refine Branch.negdec (fun h => ?_) (fun h => ?_) | refine Branch.neg (fun h => ?_) (fun h => ?_) | refine Branch.mk (fun h => ?_) (fun h => ?_) | (refine Side.mk ?_ ?_; · first | omega | decide) | (refine SideD.mk ?_ ?_; · first | omega | decide) | refine ⟨_, Nat.lt_succ_self _, To.refl (.inl ⟨rfl, ?_⟩)⟩ | (refine Side.mk ?_ ?_; · (simp; done)) | fail)
 all_goals (conv => whnf)
 refine ⟨L52 (addF t.length σ t), t.length, To.gc [(0, true), (1, true)] [1, 2, 4] rfl ⟨?_, dat rfl, trivial⟩ ⟨t.length, σ, t, by omega, rfl, hσ, ht, hn, rfl, rfl, rfl⟩, ?_⟩
 · exact dat (by simp [St.av, all_bs, noLoc])
 generalize addF t.length σ t = fin
 rintro n fr H ⟨f, σ, t, hf, hfin, hσ, ht, hn, rfl, rfl, rfl⟩
 have hl := hσ.l
 by_cases he : t = []
 · subst he
   have hfs : fin = σ := by
    rw [← hfin]; cases f with
    | zero => rfl
    | succ f => rw [addF, if_pos rfl]
   subst hfs
   have hal := av_len hl
   repeat' ((conv => whnf); first | refine Branch.ofT rfl ?_ | refine Branch.ofF rfl ?_ | refine Branch.negdec (fun hn => absurd txt_nil hn) (fun _ => ?_) | refine Branch.dec (fun h => ?_) (fun h => ?_) | refine Branch.negdec (fun h => ?_) (fun h => ?_) | refine Branch.neg (fun h => ?_) (fun h => ?_) | refine Branch.mk (fun h => ?_) (fun h => ?_) | (refine Side.mk ?_ ?_; · first | omega | decide) | (refine SideD.mk ?_ ?_; · first | omega | decide) | refine ⟨_, Nat.lt_succ_self _, To.refl (.inl ⟨rfl, ?_⟩)⟩ | refine tk65 hl ?_ | refine condT (by simp [hl]) ?_ | refine lputA (by simp [hl]) (by simp [scal]) ?_ | (refine Side.mk ?_ ?_; · (simp; done)) | fail)
   all_goals (conv => whnf)
   exact RetA.data (v := .agg fin.av) (noLocL_av fin) ⟨rfl, rfl⟩
 · have hne := txt_ne he
   have hw := w64i (n := σ.n) (by omega)
   obtain ⟨a, ha⟩ : ∃ a, a = σ.n % 64 := ⟨_, rfl⟩
   have ha64 : a < 64 := by omega
   rw [← ha] at hw
   have ec := txt_cells ht
   have es := txt_size t
   have hal := av_len hl
   have hk := stepK_le σ t
   have d0 : List.take ((txt t).size * 1) (strCells (txt t)) = t.map B := by rw [ec, List.take_of_length_le (by simp [es])]
   have d1 : t.length ≤ 64 - a → List.take ((txt t).size * 1) (strCells (txt t)) = (t.take (stepK σ t)).map B := fun h => by
    rw [d0, List.take_of_length_le (by unfold stepK; omega)]
   have d2 : ¬ t.length ≤ 64 - a → ∀ q, q = 64 - a → List.take (q * 1) (List.take ((txt t).size * 1) (strCells (txt t))) = (t.take (stepK σ t)).map B := fun h q hq => by
    rw [d0, ← List.map_take, show q * 1 = stepK σ t by unfold stepK; omega]
   have k1 : t.length ≤ 64 - a → stepK σ t = t.length := fun h => by unfold stepK; omega
   have k2 : ¬ t.length ≤ 64 - a → stepK σ t = 64 - a := fun h => by unfold stepK; omega
   have hl' : (stepB σ t).length = 64 := by simp [stepB, hl]; omega
   have h57 : ∀ cs len cap, cs = (stepB σ t).map B → len = 64 → CallA Tryz.prog 57 [.agg σ.s.av, .dslice cs len cap] Heap.nil fun v H' => v = .agg (compN σ.s (stepB σ t)).av ∧ H' = Heap.nil := by
    rintro _ _ cap rfl rfl; exact c57 σ.s (stepB σ t) cap hσ.s hl' (step_ok hσ ht).b
   have hF1 : σ.n % 64 + stepK σ t = 64 → stepF σ t = ⟨compN σ.s (stepB σ t), stepB σ t, σ.n + stepK σ t⟩ := fun h => by unfold stepF; rw [if_pos h]
   have hF2 : σ.n % 64 + stepK σ t ≠ 64 → stepF σ t = ⟨σ.s, stepB σ t, σ.n + stepK σ t⟩ := fun h => by unfold stepF; rw [if_neg h]
   generalize compN σ.s (stepB σ t) = s2 at h57 hF1
   have hso := step_ok hσ ht
   obtain ⟨g, rfl⟩ : ∃ g, f = g + 1 := ⟨f - 1, by have := List.length_pos_iff.2 he; omega⟩
   have hkp := stepK_pos (σ := σ) he
   rw [addF, if_neg he] at hfin
   have hdl : (t.drop (stepK σ t)).length = t.length - stepK σ t := List.length_drop
   have hnF : (stepF σ t).n = σ.n + stepK σ t := rfl
   have hdb : ∀ x ∈ t.drop (stepK σ t), x < 256 := fun x hx => ht x (List.mem_of_mem_drop hx)
   have ex : ∀ x y : Nat, x = stepK σ t → y = t.length → (txt t).extract x y = txt (t.drop (stepK σ t)) := by
    rintro _ _ rfl rfl; exact txt_drop rfl hk.1
   have hdat : ∀ s : S8, ∀ c ∈ St.av ⟨s, stepB σ t, σ.n + stepK σ t⟩, noLoc c = true := fun s => dat (by simp [St.av, all_bs, noLoc])
   repeat' ((conv => whnf); first | refine Branch.ofT rfl ?_ | refine Branch.ofF rfl ?_ | refine Branch.negdec (fun _ => ?_) (fun hn => absurd hn hne) | refine Branch.dec (fun h => ?_) (fun h => ?_) | refine Branch.negdec (fun h => ?_) (fun h => ?_) | refine Branch.neg (fun h => ?_) (fun h => ?_) | refine Branch.mk (fun h => ?_) (fun h => ?_) | (refine Side.mk ?_ ?_; · first | omega | decide) | (refine SideD.mk ?_ ?_; · first | omega | decide) | refine ⟨_, Nat.lt_succ_self _, To.refl (.inl ⟨rfl, ?_⟩)⟩ | refine ldN hl ?_ | refine ldN (σ := ⟨σ.s, stepB σ t, σ.n⟩) hl' ?_ | refine Side.mk (by rw [ec, List.length_map]; omega) ?_ | refine stC hl (by omega) (d1 (by omega)) ?_ | refine stC hl (by omega) (d2 (by omega) _ (by omega)) ?_ | refine stN (m := σ.n + stepK σ t) hl' (uadd (n := σ.n) (by omega) (by omega)) ?_ | refine Side.mk ⟨by decide, by decide, by decide, by decide, by simp [hl']⟩ ?_ | refine lputE ?_ | refine frz1 (by rfl) (by simp [noLoc, all_bs]) (by rfl) ?_ | refine QCallA.of (h57 _ _ _ (by simp [hl']) (by rfl)) rfl rfl ?_ | (refine Side.mk ?_ ?_; · (simp; done)) | fail)
   all_goals (conv => whnf)
   all_goals first
    | exact ⟨(t.drop (stepK σ t)).length, by omega, To.gc [(0, true), (1, true)] [1, 2, 4] rfl ⟨hdat _, dat rfl, trivial⟩ ⟨g, stepF σ t, t.drop (stepK σ t), by omega, hfin, hso, hdb, by omega, rfl, congrArg (fun z => [(1, AV.str z), (2, .ptr 0 0), (4, .ptr 1 0)]) (ex _ _ (by omega) (by omega)), by rw [hF1 (by omega)]; rfl⟩⟩
    | exact ⟨(t.drop (stepK σ t)).length, by omega, To.gc [(0, true), (1, true)] [1, 2, 4] rfl ⟨hdat _, dat rfl, trivial⟩ ⟨g, stepF σ t, t.drop (stepK σ t), by omega, hfin, hso, hdb, by omega, rfl, congrArg (fun z => [(1, AV.str z), (2, .ptr 0 0), (4, .ptr 1 0)]) (ex _ _ (by omega) (by omega)), by rw [hF2 (by omega)]; rfl⟩⟩
end Go.Proofs

namespace Go.Proofs
open Go Go.Eng
set_option maxRecDepth 100000
set_option maxHeartbeats 4000000

structure Str (m : List Nat) (σ : St) : Prop where
 n : σ.n = m.length
 s : σ.s = absorb iv m (m.length / 64)
 l : σ.b.length = 64
 b : σ.b.take (m.length % 64) = m.drop (64 * (m.length / 64))
theorem chunk_app (m x : List Nat) (k : Nat) (h : 64 * (k + 1) ≤ m.length) : chunk (m ++ x) k = chunk m k := by
 unfold chunk
 rw [List.drop_append_of_le_length (by omega), List.take_append_of_le_length (by simp; omega)]
theorem absorb_app (s : S8) (m x : List Nat) : ∀ k, 64 * k ≤ m.length → absorb s (m ++ x) k = absorb s m k
 | 0, _ => rfl
 | k + 1, h => by
  rw [absorb, absorb, absorb_app s m x k (by omega), chunk_app m x k h]
attribute [local irreducible] compN
theorem str_step {m t : List Nat} {σ : St} (h : Str m σ) : Str (m ++ t.take (stepK σ t)) (stepF σ t) := by
 obtain ⟨hn, hs, hl, hb⟩ := h
 have hk := stepK_le σ t
 have hlen : (m ++ t.take (stepK σ t)).length = m.length + stepK σ t := by simp; omega
 have hbl : (stepB σ t).length = 64 := by simp [stepB, hl]; omega
 rw [hn] at hk
 have e1 : m.length = 64 * (m.length / 64) + m.length % 64 := by omega
 have hd : (m ++ t.take (stepK σ t)).drop (64 * (m.length / 64)) = σ.b.take (m.length % 64) ++ t.take (stepK σ t) := by
  rw [List.drop_append_of_le_length (by omega), hb]
 by_cases hf : m.length % 64 + stepK σ t = 64
 · have q1 : (m.length + stepK σ t) / 64 = m.length / 64 + 1 := by omega
   have q2 : (m.length + stepK σ t) % 64 = 0 := by omega
   have hB : stepB σ t = σ.b.take (m.length % 64) ++ t.take (stepK σ t) := by
    unfold stepB; rw [hn, hf, List.drop_eq_nil_of_le (by omega), List.append_nil]
   refine ⟨by rw [hlen]; unfold stepF; dsimp only; rw [hn], ?_, hbl, ?_⟩
   · rw [hlen, q1, absorb, absorb_app _ _ _ _ (by omega), ← hs]
     unfold stepF; dsimp only; rw [hn, if_pos hf]
     congr 1
     unfold chunk
     rw [hd, ← hB, List.take_of_length_le (by omega)]
   · rw [hlen, q1, q2, List.take_zero, List.drop_eq_nil_of_le (by omega)]
 · have q1 : (m.length + stepK σ t) / 64 = m.length / 64 := by omega
   have q2 : (m.length + stepK σ t) % 64 = m.length % 64 + stepK σ t := by omega
   refine ⟨by rw [hlen]; unfold stepF; dsimp only; rw [hn], ?_, hbl, ?_⟩
   · rw [hlen, q1, absorb_app _ _ _ _ (by omega), ← hs]
     unfold stepF; dsimp only; rw [hn, if_neg hf]
   · rw [hlen, q1, q2, hd]
     show (stepB σ t).take _ = _
     unfold stepB
     rw [hn, List.take_append_of_le_length (by simp [hl]; omega), List.take_of_length_le (by simp [hl]; omega)]
theorem str_add : ∀ (f : Nat) {m t : List Nat} {σ : St}, t.length ≤ f → Str m σ → Str (m ++ t) (addF f σ t)
 | 0, m, t, σ, hf, h => by
  have : t = [] := List.eq_nil_of_length_eq_zero (by omega)
  subst this; rw [List.append_nil]; exact h
 | f + 1, m, t, σ, hf, h => by
  rw [addF]
  split
  · rename_i he; subst he; rw [List.append_nil]; exact h
  · rename_i he
    have hk := stepK_pos (σ := σ) he
    have := str_add f (t := t.drop (stepK σ t)) (by simp; omega) (str_step (t := t) h)
    rw [List.append_assoc, List.take_append_drop] at this
    exact this
theorem add_ok : ∀ (f : Nat) {t : List Nat} {σ : St}, (∀ x ∈ t, x < 256) → σ.ok → (addF f σ t).ok
 | 0, _, _, _, h => h
 | f + 1, t, σ, ht, h => by
  rw [addF]
  split
  · exact h
  · exact add_ok f (fun x hx => ht x (List.mem_of_mem_drop hx)) (step_ok h ht)
theorem lput65B {b : List Nat} {n : Nat} {vs : List AV} {K : List AV → Prop} (h : b.length = 64) (hv : vs.length = 65) (hs : ∀ c ∈ vs, scal c = true) (hk : K vs) : lputK (b.map B ++ [U n]) 0 vs K :=
 lputA (by simp [h, hv]) (List.all_eq_true.2 hs) hk
theorem scalAv (σ : St) : ∀ c ∈ σ.b.map B ++ [U σ.n], scal c = true := by
 intro c hc
 rcases List.mem_append.1 hc with h | h
 · exact scal_bs _ c h
 · rw [List.mem_singleton.1 h]; rfl
end Go.Proofs

namespace Go.Proofs
open Go Go.Eng
set_option maxRecDepth 100000
set_option maxHeartbeats 4000000

def zb : List Nat := List.replicate 64 0
def σ0 : St := ⟨iv, zb, 0⟩
theorem c51 : CallA Tryz.prog 26 [] Heap.nil fun v H' => v = .agg σ0.av ∧ H' = Heap.nil := by
 refine callA_of ok26 (Nat.le_of_ble_eq_true rfl) ?_
 repeat' ((conv => whnf); first | refine Branch.ofT rfl ?_ | refine Branch.ofF rfl ?_ | refine Branch.dec (fun h => ?_) (fun h => ?_) | refine Branch.negdec (fun h => ?_) (fun h => ?_) | refine Branch.neg (fun h => ?_) (fun h => ?_) | refine Branch.mk (fun h => ?_) (fun h => ?_) | (refine Side.mk ?_ ?_; · first | omega | decide) | (refine SideD.mk ?_ ?_; · first | omega | decide) | refine ⟨_, Nat.lt_succ_self _, To.refl (.inl ⟨rfl, ?_⟩)⟩ | (refine Side.mk ?_ ?_; · (simp; done)) | fail)
 all_goals (conv => whnf)
 exact RetA.data rfl ⟨rfl, rfl⟩
theorem c58_16 : CallA Tryz.prog 9 [I (16 : Nat)] Heap.nil fun v H' => v = .slice 0 0 1 none 1 ∧ H' = ⟨1, [(0, .cells ([32].map B))]⟩ := by
 refine callA_of ok9 (Nat.le_of_ble_eq_true rfl) ?_
 repeat' ((conv => whnf); first | refine Branch.ofT rfl ?_ | refine Branch.ofF rfl ?_ | refine Branch.ofF (decide_eq_false (by omega)) ?_ | refine Branch.dec (fun h => ?_) (fun h => ?_) | refine Branch.negdec (fun h => ?_) (fun h => ?_) | refine Branch.neg (fun h => ?_) (fun h => ?_) | refine Branch.mk (fun h => ?_) (fun h => ?_) | (refine Side.mk ?_ ?_; · first | omega | decide) | (refine SideD.mk ?_ ?_; · first | omega | decide) | refine ⟨_, Nat.lt_succ_self _, To.refl (.inl ⟨rfl, ?_⟩)⟩ | refine LoopA.unroll _ _ _ 3 ?_ | refine Branch.ofF (by rfl) ?_ | refine Side.mk ⟨by unfold fits; omega, by simp [scal]⟩ ?_ | (refine Side.mk ?_ ?_; · (simp; done)) | fail)
 all_goals (conv => whnf)
 exact RetA.gc [(0, true)] rfl ⟨dat rfl, trivial⟩ ⟨rfl, rfl⟩
theorem c58_1 : CallA Tryz.prog 9 [I (1 : Nat)] Heap.nil fun v H' => v = .slice 0 0 1 none 1 ∧ H' = ⟨1, [(0, .cells ([2].map B))]⟩ := by
 refine callA_of ok9 (Nat.le_of_ble_eq_true rfl) ?_
 repeat' ((conv => whnf); first | refine Branch.ofT rfl ?_ | refine Branch.ofF rfl ?_ | refine Branch.ofF (decide_eq_false (by omega)) ?_ | refine Branch.dec (fun h => ?_) (fun h => ?_) | refine Branch.negdec (fun h => ?_) (fun h => ?_) | refine Branch.neg (fun h => ?_) (fun h => ?_) | refine Branch.mk (fun h => ?_) (fun h => ?_) | (refine Side.mk ?_ ?_; · first | omega | decide) | (refine SideD.mk ?_ ?_; · first | omega | decide) | refine ⟨_, Nat.lt_succ_self _, To.refl (.inl ⟨rfl, ?_⟩)⟩ | refine LoopA.unroll _ _ _ 3 ?_ | refine Branch.ofF (by rfl) ?_ | refine Side.mk ⟨by unfold fits; omega, by simp [scal]⟩ ?_ | (refine Side.mk ?_ ?_; · (simp; done)) | fail)
 all_goals (conv => whnf)
 exact RetA.gc [(0, true)] rfl ⟨dat rfl, trivial⟩ ⟨rfl, rfl⟩
theorem c58_2 : CallA Tryz.prog 9 [I (2 : Nat)] Heap.nil fun v H' => v = .slice 0 0 1 none 1 ∧ H' = ⟨1, [(0, .cells ([4].map B))]⟩ := by
 refine callA_of ok9 (Nat.le_of_ble_eq_true rfl) ?_
 repeat' ((conv => whnf); first | refine Branch.ofT rfl ?_ | refine Branch.ofF rfl ?_ | refine Branch.ofF (decide_eq_false (by omega)) ?_ | refine Branch.dec (fun h => ?_) (fun h => ?_) | refine Branch.negdec (fun h => ?_) (fun h => ?_) | refine Branch.neg (fun h => ?_) (fun h => ?_) | refine Branch.mk (fun h => ?_) (fun h => ?_) | (refine Side.mk ?_ ?_; · first | omega | decide) | (refine SideD.mk ?_ ?_; · first | omega | decide) | refine ⟨_, Nat.lt_succ_self _, To.refl (.inl ⟨rfl, ?_⟩)⟩ | refine LoopA.unroll _ _ _ 3 ?_ | refine Branch.ofF (by rfl) ?_ | refine Side.mk ⟨by unfold fits; omega, by simp [scal]⟩ ?_ | (refine Side.mk ?_ ?_; · (simp; done)) | fail)
 all_goals (conv => whnf)
 exact RetA.gc [(0, true)] rfl ⟨dat rfl, trivial⟩ ⟨rfl, rfl⟩
theorem c53 (t e : List Nat) (k n : Nat) (ht : ∀ x ∈ t, x < 256) (hn : t.length = n) (h62 : CallA Tryz.prog 9 [I n] Heap.nil fun v H' => v = .slice 0 0 k none 1 ∧ H' = ⟨1, [(0, .cells (e.map B))]⟩) (hk : e.length = k) (hk1 : k ≤ 10) (ht0 : 0 < n) (ht1 : n ≤ 1000) : CallA Tryz.prog 28 [.str (txt t)] Heap.nil fun v H' => v = .dslice ((e ++ t).map B) (k + n) none ∧ H' = Heap.nil := by
 refine callA_of ok28 (Nat.le_of_ble_eq_true rfl) ?_
 have e1 := txt_size t
 have e2 : List.take ((txt t).size * 1) (strCells (txt t)) = t.map B := by rw [txt_cells ht, List.take_of_length_le (by simp [e1])]
 rw [hn] at e1
 rw [← e1] at h62
 repeat' ((conv => whnf); first | refine Branch.ofT rfl ?_ | refine Branch.ofF rfl ?_ | refine Branch.dec (fun h => ?_) (fun h => ?_) | refine Branch.negdec (fun h => ?_) (fun h => ?_) | refine Branch.neg (fun h => ?_) (fun h => ?_) | refine Branch.mk (fun h => ?_) (fun h => ?_) | (refine Side.mk ?_ ?_; · first | omega | decide) | (refine SideD.mk ?_ ?_; · first | omega | decide) | refine ⟨_, Nat.lt_succ_self _, To.refl (.inl ⟨rfl, ?_⟩)⟩ | refine CallA.own h62 rfl (noLocL_bs e) ?_ | refine Side.mk (by rw [txt_cells ht, List.length_map]; omega) ?_ | refine Side.mk (appB (by simp; omega) (by omega) (by rw [e2]; exact scal_bs t) (by omega)) ?_ | (refine Side.mk ?_ ?_; · (simp; done)) | fail)
 all_goals (conv => whnf)
 refine RetA.pub 1 (ds := (e ++ t).map B) (by show AB.cells (e.map B ++ List.take ((txt t).size * 1) (strCells (txt t))) = _; rw [e2, List.map_append]) (dat_bs _) ?_
 refine RetA.data rfl ⟨?_, rfl⟩
 show AV.dslice ((((e ++ t).map B).drop 0).take ((k + (txt t).size) * 1)) (k + (txt t).size) none = _
 rw [e1, List.drop_zero, List.take_of_length_le (by simp; omega)]
theorem tk16 {o : List Nat} {off : Nat} {K : List AV → Prop} (e : off = 0) (h : o.length = 32) (hk : K ((o.take 16).map B)) : takeK 16 ((o.map B).drop off) K := by
 subst e
 rw [List.drop_zero, takeK_eq _ _ _ (by simp [h]), ← List.map_take]
 exact hk
theorem σ0_ok : σ0.ok := ⟨iv_ok, rfl, by decide⟩
theorem str0 : Str [] σ0 := ⟨rfl, rfl, rfl, rfl⟩
end Go.Proofs

namespace Go.Proofs.G
open Go Go.Eng Go.Proofs
set_option maxRecDepth 100000
set_option maxHeartbeats 4000000
attribute [local irreducible] compN

def zOf (n : Nat) : Nat := (119 - n % 64) % 64
def be8 (n : Nat) : List Nat := [n / 2 ^ 56 % 256, n / 2 ^ 48 % 256, n / 2 ^ 40 % 256, n / 2 ^ 32 % 256, n / 2 ^ 24 % 256, n / 2 ^ 16 % 256, n / 2 ^ 8 % 256, n / 2 ^ 0 % 256]
def padO (n : Nat) : List Nat := 128 :: (List.replicate (zOf n) 0 ++ be8 (8 * n))
theorem w8n {n : Nat} (h : n ≤ 100000) : IntKind.u64.wrap (8 * (n : Int)) = ((8 * n : Nat) : Int) := by
 have := wu64 (n := 8 * n) (by omega)
 rw [← this]; congr 1
theorem i64n {n : Nat} (h : n ≤ 1000000000) : IntKind.i64.wrap (n : Int) = n := wrap_in (by
 have e1 : IntKind.i64.min = -9223372036854775808 := rfl
 have e2 : IntKind.i64.max = 9223372036854775807 := rfl
 omega)
def L54 (n : Nat) (s : S8) (b : List Nat) (k : Nat) (fr : Fr) (H : Heap) : Prop := ∃ j : Nat, j ≤ zOf n ∧ k = zOf n - j ∧
 ((j = 0 ∧ fr = [(1, .ptr 0 0), (2, .ptr 1 0), (3, .int .u64 ((8 * n : Nat) : Int)), (4, .dslice [B 128] 1 (some 1))] ∧ H = ⟨2, [(0, .cells (St.av ⟨s, b, n⟩)), (1, .cells z32)]⟩) ∨
  (0 < j ∧ fr = [(1, .ptr 0 0), (2, .ptr 1 0), (3, .int .u64 ((8 * n : Nat) : Int)), (4, .slice 2 0 (1 + j) none 1)] ∧ H = ⟨3, [(0, .cells (St.av ⟨s, b, n⟩)), (1, .cells z32), (2, .cells ((128 :: List.replicate j 0).map B))]⟩))
theorem ldn {n : Nat} {s : S8} {b : List Nat} (h : b.length = 64) {K : AV → Prop} (hk : K (U n)) : nthK 0 ((St.av ⟨s, b, n⟩).drop 72) K := ldN (σ := ⟨s, b, n⟩) h hk
theorem c54a (n : Nat) (s : S8) (b : List Nat) (σ2 : St) (hn : n ≤ 90000) (hb : b.length = 64) (h2 : σ2.b.length = 64) (h52 : CallA Tryz.prog 27 [.agg (St.av ⟨s, b, n⟩), .str (txt (padO n))] Heap.nil fun v H' => v = .agg σ2.av ∧ H' = Heap.nil) : CallA Tryz.prog 29 [.agg (St.av ⟨s, b, n⟩)] Heap.nil fun v H' => v = .agg ((outN σ2.s).map B) ∧ H' = Heap.nil := by
 refine callA_of ok29 (Nat.le_of_ble_eq_true rfl) ?_
 repeat' ((conv => whnf); first | refine Branch.ofT rfl ?_ | refine Branch.ofF rfl ?_ | refine Branch.dec (fun h => ?_) (fun h => ?_) | refine Branch.negdec (fun h => ?_) (fun h => ?_) | refine Branch.neg (fun h => ?_) (fun h => ?_) | refine Branch.mk (fun h => ?_) (fun h => ?_) | (refine Side.mk ?_ ?_; · first | omega | decide) | (refine SideD.mk ?_ ?_; · first | omega | decide) | refine ⟨_, Nat.lt_succ_self _, To.refl (.inl ⟨rfl, ?_⟩)⟩ | refine ldn hb ?_ | (refine Side.mk ?_ ?_; · (simp; done)) | fail)
 all_goals (conv => whnf)
 have hav : ∀ s : S8, ∀ c ∈ St.av ⟨s, b, n⟩, noLoc c = true := fun s => dat (by simp [St.av, all_bs, noLoc])
 have h8 := w8n (n := n) (by omega)
 refine ⟨L54 n s b, zOf n, To.gc [(0, true), (1, true)] [1, 2, 3, 4] rfl ⟨hav s, dat rfl, trivial⟩ ⟨0, by omega, rfl, .inl ⟨rfl, by rw [← h8]; rfl, rfl⟩⟩, ?_⟩
 have hw : IntKind.i64.wrap ((n : Nat) : Int) = n := i64n (by omega)
 have hz : zOf n = (119 - n % 64) % 64 := rfl
 rintro k fr H ⟨j, hj, rfl, h⟩
 have hd : ∀ j, ∀ c ∈ (128 :: List.replicate j 0).map B, noLoc c = true := fun j => dat_bs _
 by_cases hj3 : j < zOf n
 · have h2 : (128 :: List.replicate j 0).map B ++ [AV.int IntKind.u8 0] = (128 :: List.replicate (j + 1) 0).map B := by rw [List.replicate_succ']; simp
   rcases h with ⟨rfl, rfl, rfl⟩ | ⟨hj0, rfl, rfl⟩
   · repeat' ((conv => whnf); first | refine Branch.ofT rfl ?_ | refine Branch.ofF rfl ?_ | refine Branch.negdec (fun _ => ?_) (fun hn => absurd hn (by omega)) | refine Branch.dec (fun h => ?_) (fun h => ?_) | refine Branch.negdec (fun h => ?_) (fun h => ?_) | refine Branch.neg (fun h => ?_) (fun h => ?_) | refine Branch.mk (fun h => ?_) (fun h => ?_) | (refine Side.mk ?_ ?_; · first | omega | decide) | (refine SideD.mk ?_ ?_; · first | omega | decide) | refine ⟨_, Nat.lt_succ_self _, To.refl (.inl ⟨rfl, ?_⟩)⟩ | refine ldn hb ?_ | refine Side.mk ⟨by rfl, by simp, by unfold fits; omega, by simp [scal]⟩ ?_ | (refine Side.mk ?_ ?_; · (simp; done)) | fail)
     all_goals (conv => whnf)
     exact ⟨zOf n - (0 + 1), by omega, To.gc [(0, true), (1, true), (2, true)] [1, 2, 3, 4] rfl ⟨hav s, dat rfl, dat rfl, trivial⟩ ⟨0 + 1, by omega, rfl, .inr ⟨by omega, rfl, rfl⟩⟩⟩
   · repeat' ((conv => whnf); first | refine Branch.ofT rfl ?_ | refine Branch.ofF rfl ?_ | refine Branch.negdec (fun _ => ?_) (fun hn => absurd hn (by omega)) | refine Branch.dec (fun h => ?_) (fun h => ?_) | refine Branch.negdec (fun h => ?_) (fun h => ?_) | refine Branch.neg (fun h => ?_) (fun h => ?_) | refine Branch.mk (fun h => ?_) (fun h => ?_) | (refine Side.mk ?_ ?_; · first | omega | decide) | (refine SideD.mk ?_ ?_; · first | omega | decide) | refine ⟨_, Nat.lt_succ_self _, To.refl (.inl ⟨rfl, ?_⟩)⟩ | refine ldn hb ?_ | refine Side.mk (appB (by simp; omega) (by omega) (by simp [scal]) (by omega)) ?_ | (refine Side.mk ?_ ?_; · (simp; done)) | fail)
     all_goals (conv => whnf)
     exact ⟨zOf n - (j + 1), by omega, To.gc [(0, true), (1, true), (3, true)] [1, 2, 3, 4] rfl ⟨hav s, dat rfl, fun c hc => hd (j + 1) c (by rw [← h2]; exact hc), trivial⟩ ⟨j + 1, by omega, rfl, .inr ⟨by omega, rfl, by rw [← h2]; rfl⟩⟩⟩
 · have hjz : j = zOf n := by omega
   have h3 : ∀ cs, cs = (128 :: List.replicate j 0).map B → cs ++ [AV.int IntKind.u8 (IntKind.u8.wrap (((8 * n : Nat) : Int).fdiv (2 ^ 56)))] ++ [AV.int IntKind.u8 (IntKind.u8.wrap (((8 * n : Nat) : Int).fdiv (2 ^ 48)))] ++ [AV.int IntKind.u8 (IntKind.u8.wrap (((8 * n : Nat) : Int).fdiv (2 ^ 40)))] ++ [AV.int IntKind.u8 (IntKind.u8.wrap (((8 * n : Nat) : Int).fdiv (2 ^ 32)))] ++ [AV.int IntKind.u8 (IntKind.u8.wrap (((8 * n : Nat) : Int).fdiv (2 ^ 24)))] ++ [AV.int IntKind.u8 (IntKind.u8.wrap (((8 * n : Nat) : Int).fdiv (2 ^ 16)))] ++ [AV.int IntKind.u8 (IntKind.u8.wrap (((8 * n : Nat) : Int).fdiv (2 ^ 8)))] ++ [AV.int IntKind.u8 (IntKind.u8.wrap (((8 * n : Nat) : Int).fdiv (2 ^ 0)))] = (padO n).map B := by
    rintro _ rfl
    simp only [wb]
    unfold padO be8
    rw [hjz]; simp
   have hna : noLocL [.agg (St.av ⟨s, b, n⟩), .str (txt (padO n))] = true := by simp [noLocL, noLoc, noLocL_av]
   have hlen : (padO n).length = zOf n + 9 := by simp [padO, be8]
   have h4 : ∀ (l : List AV) (m : Nat), m = zOf n + 9 → l = (padO n).map B → List.take (m * 1) (List.drop 0 l) = (padO n).map B := by
    rintro _ _ rfl rfl; rw [List.drop_zero, List.take_of_length_le (by simp [hlen])]
   rcases h with ⟨rfl, rfl, rfl⟩ | ⟨hj0, rfl, rfl⟩
   · have h3 := h3 [B 128] rfl
     repeat' ((conv => whnf); first | refine Branch.ofT rfl ?_ | refine Branch.ofF rfl ?_ | refine Branch.negdec (fun hn => absurd (by omega) hn) (fun _ => ?_) | refine Branch.dec (fun h => ?_) (fun h => ?_) | refine Branch.negdec (fun h => ?_) (fun h => ?_) | refine Branch.neg (fun h => ?_) (fun h => ?_) | refine Branch.mk (fun h => ?_) (fun h => ?_) | (refine Side.mk ?_ ?_; · first | omega | decide) | (refine SideD.mk ?_ ?_; · first | omega | decide) | refine ⟨_, Nat.lt_succ_self _, To.refl (.inl ⟨rfl, ?_⟩)⟩ | refine ldn hb ?_ | refine Side.mk ⟨by rfl, by simp, by unfold fits; omega, by simp [scal]⟩ ?_ | refine Side.mk (appB (by simp) (by omega) (by simp [scal]) (by omega)) ?_ | refine Side.mk (by simp) ?_ | refine bres (h4 _ _ (by omega) h3) ?_ | refine tk65 hb ?_ | refine CallA.pure h52 hna (noLocL_av σ2) ?_ | refine tk65 h2 ?_ | refine condT (by simp [av_len h2]) ?_ | refine LoopA.unroll _ _ _ 33 ?_ | refine lput65B hb (by simp [h2]) (scalAv σ2) ?_ | (refine Side.mk ?_ ?_; · (simp; done)) | fail)
     all_goals (conv => whnf)
     exact RetA.data rfl ⟨out_eq σ2.s, rfl⟩
   · have h3 := h3 _ rfl
     generalize hcs : (128 :: List.replicate j 0).map B = cs at h3 hd
     have hcl : cs.length = j + 1 := by rw [← hcs]; simp
     repeat' ((conv => whnf); first | refine Branch.ofT rfl ?_ | refine Branch.ofF rfl ?_ | refine Branch.negdec (fun hn => absurd (by omega) hn) (fun _ => ?_) | refine Branch.dec (fun h => ?_) (fun h => ?_) | refine Branch.negdec (fun h => ?_) (fun h => ?_) | refine Branch.neg (fun h => ?_) (fun h => ?_) | refine Branch.mk (fun h => ?_) (fun h => ?_) | (refine Side.mk ?_ ?_; · first | omega | decide) | (refine SideD.mk ?_ ?_; · first | omega | decide) | refine ⟨_, Nat.lt_succ_self _, To.refl (.inl ⟨rfl, ?_⟩)⟩ | refine ldn hb ?_ | refine Side.mk (appB (by simp [hcl]; omega) (by omega) (by simp [scal]) (by omega)) ?_ | refine Side.mk (by simp [hcl]; omega) ?_ | refine bres (h4 _ _ (by omega) h3) ?_ | refine tk65 hb ?_ | refine CallA.pure h52 hna (noLocL_av σ2) ?_ | refine tk65 h2 ?_ | refine condT (by simp [av_len h2]) ?_ | refine LoopA.unroll _ _ _ 33 ?_ | refine lput65B hb (by simp [h2]) (scalAv σ2) ?_ | (refine Side.mk ?_ ?_; · (simp; done)) | fail)
     all_goals (conv => whnf)
     exact RetA.data rfl ⟨out_eq σ2.s, rfl⟩
def sumN (σ : St) : List Nat := outN (addF (padO σ.n).length σ (padO σ.n)).s
theorem padO_lt (n : Nat) : ∀ x ∈ padO n, x < 256 := by
 intro x hx
 simp only [padO, be8, List.mem_cons, List.mem_append, List.mem_replicate, List.not_mem_nil, or_false] at hx
 omega
theorem padO_len (n : Nat) : (padO n).length ≤ 72 := by
 simp only [padO, be8, zOf, List.length_cons, List.length_append, List.length_replicate, List.length_nil]; omega
theorem c54 (σ : St) (hσ : σ.ok) (hn : σ.n ≤ 90000) : CallA Tryz.prog 29 [.agg σ.av] Heap.nil fun v H' => v = .agg ((sumN σ).map B) ∧ H' = Heap.nil := by
 obtain ⟨s, b, n⟩ := σ
 have hp := padO_len n
 have hn : n ≤ 90000 := hn
 exact c54a n s b _ hn hσ.l (add_ok _ (padO_lt n) hσ).l (c52 ⟨s, b, n⟩ (padO n) hσ (padO_lt n) (by show n + _ ≤ _; omega))
end Go.Proofs.G

namespace Go.Eng
open Go Go.Sort
variable [Globs]

def ints (o : List Int) : List AV := o.map (AV.int .i64)
theorem ints_len (o : List Int) : (ints o).length = o.length := by simp [ints]
theorem ints_at : ∀ (i : Nat) (o : List Int) (h : i < o.length), (ints o).drop i = AV.int .i64 o[i] :: ints (o.drop (i + 1))
 | 0, x :: r, _ => rfl
 | i + 1, x :: r, h => by
  show (ints r).drop i = _
  rw [ints_at i r (by simpa using h)]; rfl
theorem ints_noLoc (o : List Int) : ∀ c ∈ ints o, noLoc c = true := by
 intro c hc
 simp only [ints, List.mem_map] at hc
 obtain ⟨i, _, rfl⟩ := hc
 rfl
theorem ints_app (a b : List Int) : ints (a ++ b) = ints a ++ ints b := by simp [ints]
theorem sorted_heap {w : World} {b n : Nat} {os : Array Obj} {d : Array Int} {c : Array Value} {el : TypeId} {fz : Nat × Nat} (hb : w.heap[b]? = some (.cells c el fz)) (x : Nat) (hx : x < w.heap.size) :
 (grow (putRow (Value.int .i64) (Sort.ahead w n) b 0 d) os).heap[x]? = if x = b then some (.cells (putCells (Value.int .i64) 0 d c) el fz) else w.heap[x]? := by
 have hbs : b < w.heap.size := (Array.getElem?_eq_some_iff.1 hb).1
 simp only [grow, putRow, mapBlock, Sort.ahead]
 rw [Array.getElem?_append_left (by simpa using hx), Array.getElem?_modify]
 by_cases e : x = b
 · subst e; rw [if_pos rfl, if_pos rfl, hb]; rfl
 · rw [if_neg (Ne.symm e), if_neg e]
theorem sortB {P : Program} {f : FuncId} (hok : callable P f = true) (hS : ∀ (blk off cap : Nat) (zs : List Int) (w : World), Holds (Value.int .i64) w blk off zs.toArray → blk < w.heap.size → zs.length < 4611686018427387904 →
 Calls P f #[.slice (some ⟨blk, off, none⟩) zs.length cap] w fun e w' => e = .returned (.tuple #[]) ∧ ∃ n os, w' = grow (putRow (Value.int .i64) (Sort.ahead w n) blk off (zs.mergeSort fun x y => decide (x ≤ y)).toArray) os)
 (zs : List Int) (rest : List AV) (hz : zs.length ≤ 1000) (cap : Option Nat) : CallA P f [.slice 0 0 zs.length cap 1] ⟨1, [(0, .cells (ints zs ++ rest))]⟩ fun v H' => v = .tuple [] ∧ H' = ⟨1, [(0, .cells (ints (zs.mergeSort fun x y => decide (x ≤ y)) ++ rest))]⟩ := by
 refine ⟨hok, fun M μ w vs R hv => ?_⟩
 simp only [relL, relV] at hv
 obtain ⟨v, r, hvs, ⟨b, sz, cp, hμ, rfl, h1, h2, _⟩, rfl⟩ := hv
 obtain ⟨b', sz', c, el, fz, hμ', hb, hcs, hfz, hP⟩ := R.cells 0 (ints zs ++ rest) rfl
 rw [hμ] at hμ'
 cases hμ'
 have hvs' : vs = #[.slice (some ⟨b, 0, none⟩) zs.length cp] := by
  apply Array.ext'; simpa using hvs
 subst hvs'
 have hbs : b < w.heap.size := (Array.getElem?_eq_some_iff.1 hb).1
 have hlen : (zs.mergeSort fun x y => decide (x ≤ y)).length = zs.length := List.length_mergeSort zs
 have hgetz : ∀ j (hj : j < zs.length), c.toList[j]? = some (.int .i64 zs[j]) := fun j hj => by
  obtain ⟨v, hv, hr⟩ := relP_get (i := j) (c := .int .i64 zs[j]) hP (by rw [List.getElem?_append_left (by rw [ints_len]; exact hj)]; simp [ints, hj])
  simp only [relV] at hr
  rw [hv, hr]
 have hH : Holds (Value.int .i64) w b 0 zs.toArray := by
  intro j hj
  have hj' : j < zs.length := by simpa using hj
  refine ⟨?_, ?_⟩
  · have := hgetz j hj'
    simp only [World.cell?, hb, Nat.zero_add, Option.isSome_none, Bool.false_eq_true, if_false]
    rw [← Array.getElem?_toList, this]
    simp [hj']
  · simp only [World.frozen?, hb, Nat.zero_add]
    rcases hfz with rfl | hfz
    · simp
    · have : ¬ fz.1 ≤ j := by omega
      simp [this]
 refine (hS b 0 cp zs w hH hbs (by omega)).mono ?_
 rintro e w' ⟨rfl, n, os, rfl⟩
 generalize hd : (zs.mergeSort fun x y => decide (x ≤ y)) = ds at *
 have heap := fun x hx => sorted_heap (n := n) (os := os) (d := ds.toArray) hb x hx
 generalize hw' : grow (putRow (Value.int .i64) (Sort.ahead w n) b 0 ds.toArray) os = w' at *
 have hsz : w.heap.size ≤ w'.heap.size := by rw [← hw']; simp [grow, putRow, mapBlock, Sort.ahead]
 have hc' : (putCells (Value.int .i64) 0 ds.toArray c).size = sz := by simp [putCells, hcs]
 have hlc : (ints zs ++ rest).length ≤ c.size := by simpa using relP_length hP
 have hP' : relP M μ (ints ds ++ rest) (putCells (Value.int .i64) 0 ds.toArray c).toList := relP_of_get fun j x hx => by
  simp only [List.length_append, ints_len] at hlc
  rcases Nat.lt_or_ge j ds.length with hj | hj
  · rw [List.getElem?_append_left (by rw [ints_len]; exact hj)] at hx
    have hjc : j < c.size := by omega
    refine ⟨.int .i64 ds[j], ?_, ?_⟩
    · rw [Array.getElem?_toList]; simp [putCells, hj, hjc]
    · simp [ints, hj] at hx; subst hx; simp only [relV]
  · rw [List.getElem?_append_right (by rw [ints_len]; exact hj), ints_len] at hx
    obtain ⟨v, hv, hr⟩ := relP_get (i := j) (c := x) hP (by rw [List.getElem?_append_right (by rw [ints_len]; omega), ints_len, ← hlen]; exact hx)
    refine ⟨v, ?_, hr⟩
    rw [Array.getElem?_toList] at hv ⊢
    have hjc : j < c.size := by
     rcases Nat.lt_or_ge j c.size with h | h
     · exact h
     · simp [Array.getElem?_eq_none h] at hv
    simp [hjc] at hv
    simp [putCells, hjc, hv, Nat.not_lt.2 hj]
 obtain ⟨R1, G1⟩ := R.write (cs' := ints ds ++ rest) rfl hμ hb hfz hc' hP'
 have hset : ∀ x, x < w.heap.size → w'.heap[x]? = (w.setRow b (putCells (Value.int .i64) 0 ds.toArray c)).heap[x]? := by
  intro x hx
  rw [heap x hx]
  by_cases e : x = b
  · subst e; rw [if_pos rfl, setRow_heap w x c _ el fz hb]
  · rw [if_neg e, setRow_other w b x _ e]
 have hss : (w.setRow b (putCells (Value.int .i64) 0 ds.toArray c)).heap.size = w.heap.size := by simp [World.setRow]
 have R2 : Rel M μ (Heap.set ⟨1, [(0, .cells (ints zs ++ rest))]⟩ 0 (.cells (ints ds ++ rest))) w' := R1.off (fun x hx => hset x (by have := R1.own_lt hx; omega)) (fun x o v hv => hset x (R.cell_lt hv))
 have hget : (Heap.set ⟨1, [(0, .cells (ints zs ++ rest))]⟩ 0 (.cells (ints ds ++ rest))).get = Heap.get ⟨1, [(0, .cells (ints ds ++ rest))]⟩ := by
  funext j
  rw [Heap.get_set]
  by_cases e : 0 = j
  · subst e; rfl
  · rw [if_neg e]; simp [Heap.get, bget, beq_false e]
 have G2 : Grow 1 M μ ⟨1, [(0, .cells (ints zs ++ rest))]⟩ w M μ (Heap.set ⟨1, [(0, .cells (ints zs ++ rest))]⟩ 0 (.cells (ints ds ++ rest))) w' :=
  ⟨G1.grow.mem, G1.grow.pin, ⟨by rw [← hw']; rfl, by rw [← hw']; rfl, by rw [← hw']; rfl, hsz, fun x hx hn => by rw [hset x hx]; exact G1.grow.keep.block x hx hn⟩, G1.grow.own, G1.grow.fresh⟩
 exact ⟨_, M, μ, ⟨1, [(0, .cells (ints ds ++ rest))]⟩, .tuple [], rfl, R2.ext hget rfl, by simp [relV, relL], ⟨Pos.le_refl _, G2.ext hget, Nat.le_refl _⟩, rfl, rfl⟩
end Go.Eng

namespace Go.Proofs
open Go Go.Eng
set_option maxRecDepth 100000
set_option maxHeartbeats 2000000

def ip (p : Nat) : List Nat := if p < 64 then [2 * p] else [2 * p % 128 + 128, 2 * p / 128]
theorem u2 {p : Nat} (h : p < 256) : IntKind.u64.wrap (IntKind.u64.wrap (p : Int) * 2) = ((2 * p : Nat) : Int) := by
 rw [wu64 (by omega)]
 have := wu64 (n := 2 * p) (by omega)
 rw [← this]; congr 1; omega
theorem u2s {p : Nat} (h : p < 256) : IntKind.u64.wrap (IntKind.u64.wrap (p : Int) * 2 ^ 1) = ((2 * p : Nat) : Int) := u2 h
theorem c13a (p : Nat) (hp : p < 64) : CallA Tryz.prog 13 [I p] Heap.nil fun v H' => v = .slice 0 0 1 none 1 ∧ H' = ⟨1, [(0, .cells ([2 * p].map B))]⟩ := by
 refine callA_of ok13 (Nat.le_of_ble_eq_true rfl) ?_
 have h2 := u2 (p := p) (by omega)
 have e : [AV.int .u8 (IntKind.u8.wrap (IntKind.u64.wrap (IntKind.u64.wrap (p : Int) * 2)))] = [2 * p].map B := by
  rw [h2, wu8]; simp; omega
 repeat' ((conv => whnf); first | refine Branch.ofT rfl ?_ | refine Branch.ofF rfl ?_ | refine Branch.ofF (decide_eq_false (by omega)) ?_ | refine Branch.dec (fun h => ?_) (fun h => ?_) | refine Branch.negdec (fun h => ?_) (fun h => ?_) | refine Branch.neg (fun h => ?_) (fun h => ?_) | refine Branch.mk (fun h => ?_) (fun h => ?_) | (refine Side.mk ?_ ?_; · first | omega | decide) | (refine SideD.mk ?_ ?_; · first | omega | decide) | refine ⟨_, Nat.lt_succ_self _, To.refl (.inl ⟨rfl, ?_⟩)⟩ | refine LoopA.unroll _ _ _ 3 ?_ | refine Branch.ofF (by rw [h2]; exact decide_eq_false (by omega)) ?_ | refine Side.mk ⟨by unfold fits; omega, by simp [scal]⟩ ?_ | (refine Side.mk ?_ ?_; · (simp; done)) | fail)
 all_goals (conv => whnf)
 exact RetA.gc [(0, true)] rfl ⟨dat rfl, trivial⟩ ⟨rfl, by rw [← e]; rfl⟩
theorem u3 {p : Nat} (h : p < 256) : IntKind.u64.wrap ((IntKind.u64.wrap (IntKind.u64.wrap (p : Int) * 2)).tdiv 128) = ((2 * p / 128 : Nat) : Int) := by
 rw [u2 h, Int.tdiv_eq_ediv_of_nonneg (by omega)]
 have := wu64 (n := 2 * p / 128) (by omega)
 rw [← this]; congr 1
theorem u4 {p : Nat} (h : p < 256) : IntKind.u8.wrap (IntKind.u8.wrap ((IntKind.u64.wrap (IntKind.u64.wrap (p : Int) * 2)).tmod 128) + 128) = ((2 * p % 128 + 128 : Nat) : Int) := by
 rw [u2 h, Int.tmod_eq_emod_of_nonneg (by omega), wu8, wu8]; omega
theorem c13b (p : Nat) (hp : 64 ≤ p) (hp2 : p < 256) : CallA Tryz.prog 13 [I p] Heap.nil fun v H' => v = .slice 0 0 2 none 1 ∧ H' = ⟨1, [(0, .cells ([2 * p % 128 + 128, 2 * p / 128].map B))]⟩ := by
 refine callA_of ok13 (Nat.le_of_ble_eq_true rfl) ?_
 have h2 := u2 (p := p) hp2
 have h3 := u3 (p := p) hp2
 have e : [AV.int .u8 (IntKind.u8.wrap (IntKind.u8.wrap ((IntKind.u64.wrap (IntKind.u64.wrap (p : Int) * 2)).tmod 128) + 128))] ++ [AV.int .u8 (IntKind.u8.wrap (IntKind.u64.wrap ((IntKind.u64.wrap (IntKind.u64.wrap (p : Int) * 2)).tdiv 128)))] = [2 * p % 128 + 128, 2 * p / 128].map B := by
  rw [h3, u4 hp2, wu8]; simp; omega
 repeat' ((conv => whnf); first | refine Branch.ofT rfl ?_ | refine Branch.ofF rfl ?_ | refine Branch.ofF (decide_eq_false (by omega)) ?_ | refine LoopA.unroll _ _ _ 3 ?_ | refine Branch.ofT (by rw [h2]; exact decide_eq_true (by omega)) ?_ | refine Branch.ofF (by rw [h3]; exact decide_eq_false (by omega)) ?_ | refine Branch.dec (fun h => ?_) (fun h => ?_) | refine Branch.negdec (fun h => ?_) (fun h => ?_) | refine Branch.neg (fun h => ?_) (fun h => ?_) | refine Branch.mk (fun h => ?_) (fun h => ?_) | (refine Side.mk ?_ ?_; · first | omega | decide) | (refine SideD.mk ?_ ?_; · first | omega | decide) | refine ⟨_, Nat.lt_succ_self _, To.refl (.inl ⟨rfl, ?_⟩)⟩ | refine Side.mk ⟨by unfold fits; omega, by simp [scal]⟩ ?_ | refine Side.mk (appB (by rfl) (by omega) (by simp [scal]) (by omega)) ?_ | (refine Side.mk ?_ ?_; · (simp; done)) | fail)
 all_goals (conv => whnf)
 exact RetA.gc [(1, true)] rfl ⟨dat rfl, trivial⟩ ⟨rfl, by rw [← e]; rfl⟩
theorem c13 (p : Nat) (hp : p < 256) : CallA Tryz.prog 13 [I p] Heap.nil fun v H' => v = .slice 0 0 (ip p).length none 1 ∧ H' = ⟨1, [(0, .cells ((ip p).map B))]⟩ := by
 unfold ip
 split
 · exact c13a p (by assumption)
 · exact c13b p (by omega) hp

theorem v2 {p : Nat} (h : p < 256) : IntKind.u64.wrap (BitVec.ofInt IntKind.u64.bits (IntKind.u64.wrap (IntKind.u64.wrap (p : Int) * 2 ^ 1)) ^^^ BitVec.ofInt IntKind.u64.bits (IntKind.u64.wrap ((p : Int).fdiv (2 ^ 63)))).toNat = ((2 * p : Nat) : Int) := by
 have e : (p : Int).fdiv (2 ^ 63) = 0 := by rw [wshr]; omega
 rw [u2s h, e]
 show IntKind.u64.wrap (BitVec.ofInt 64 ((2 * p : Nat) : Int) ^^^ BitVec.ofInt 64 0).toNat = _
 have : (BitVec.ofInt 64 ((2 * p : Nat) : Int) ^^^ BitVec.ofInt 64 0).toNat = 2 * p := by
  rw [show BitVec.ofInt 64 0 = 0#64 from rfl, BitVec.xor_zero, BitVec.toNat_ofInt]; omega
 rw [this, wu64 (by omega)]
theorem gtF {x : Int} {n : Nat} (e : x = (n : Int)) (h : n ≤ 127) : decide (127 < x) = false := by subst e; exact decide_eq_false (by omega)
theorem gtT {x : Int} {n : Nat} (e : x = (n : Int)) (h : 127 < n) : decide (127 < x) = true := by subst e; exact decide_eq_true (by omega)
def zz (p : Nat) : Int := IntKind.u64.wrap (BitVec.ofInt IntKind.u64.bits (IntKind.u64.wrap (IntKind.u64.wrap (p : Int) * 2 ^ 1)) ^^^ BitVec.ofInt IntKind.u64.bits (IntKind.u64.wrap ((p : Int).fdiv (2 ^ 63)))).toNat
theorem v3 {p : Nat} (h : p < 256) : (zz p).fdiv (2 ^ 7) = ((2 * p / 128 : Nat) : Int) := by
 unfold zz; rw [v2 h, wshr]
theorem or128 {a : Nat} (h : a < 256) : IntKind.u8.wrap (BitVec.ofInt IntKind.u8.bits (a : Int) ||| BitVec.ofInt IntKind.u8.bits 128).toNat = ((a % 128 + 128 : Nat) : Int) := by
 have : ∀ a : Fin 256, (BitVec.ofInt 8 (a.val : Int) ||| BitVec.ofInt 8 128).toNat = a.val % 128 + 128 := by decide
 have := this ⟨a, h⟩
 simp only at this
 show IntKind.u8.wrap (BitVec.ofInt 8 (a : Int) ||| BitVec.ofInt 8 128).toNat = _
 rw [this, wu8]; omega
theorem v5 {p : Nat} (h : p < 256) : IntKind.u8.wrap (BitVec.ofInt IntKind.u8.bits (IntKind.u8.wrap (zz p)) ||| BitVec.ofInt IntKind.u8.bits 128).toNat = ((2 * p % 128 + 128 : Nat) : Int) := by
 unfold zz
 have e : IntKind.u8.wrap ((2 * p : Nat) : Int) = ((2 * p % 256 : Nat) : Int) := by rw [wu8]; omega
 rw [v2 h, e, or128 (Nat.mod_lt _ (by omega))]
 congr 2; omega
theorem c9a (p : Nat) (hp : p < 64) : CallA Tryz.prog 9 [I p] Heap.nil fun v H' => v = .slice 0 0 1 none 1 ∧ H' = ⟨1, [(0, .cells ([2 * p].map B))]⟩ := by
 refine callA_of ok9 (Nat.le_of_ble_eq_true rfl) ?_
 have h2 : zz p = _ := v2 (p := p) (by omega)
 have e : [AV.int .u8 (IntKind.u8.wrap (zz p))] = [2 * p].map B := by
  rw [h2, wu8]; simp; omega
 repeat' ((conv => whnf); first | refine Branch.ofT rfl ?_ | refine Branch.ofF rfl ?_ | refine LoopA.unroll _ _ _ 3 ?_ | refine Branch.ofF (gtF h2 (by omega)) ?_ | refine Branch.dec (fun h => ?_) (fun h => ?_) | refine Branch.negdec (fun h => ?_) (fun h => ?_) | refine Branch.neg (fun h => ?_) (fun h => ?_) | refine Branch.mk (fun h => ?_) (fun h => ?_) | (refine Side.mk ?_ ?_; · first | omega | decide) | (refine SideD.mk ?_ ?_; · first | omega | decide) | refine ⟨_, Nat.lt_succ_self _, To.refl (.inl ⟨rfl, ?_⟩)⟩ | refine Side.mk ⟨by unfold fits; omega, by simp [scal]⟩ ?_ | (refine Side.mk ?_ ?_; · (simp; done)) | fail)
 all_goals (conv => whnf)
 exact RetA.gc [(0, true)] rfl ⟨dat rfl, trivial⟩ ⟨rfl, by rw [← e]; rfl⟩
theorem c9b (p : Nat) (hp : 64 ≤ p) (hp2 : p < 256) : CallA Tryz.prog 9 [I p] Heap.nil fun v H' => v = .slice 0 0 2 none 1 ∧ H' = ⟨1, [(0, .cells ([2 * p % 128 + 128, 2 * p / 128].map B))]⟩ := by
 refine callA_of ok9 (Nat.le_of_ble_eq_true rfl) ?_
 have h2 : zz p = _ := v2 (p := p) hp2
 have h3 := v3 hp2
 have e : [AV.int .u8 (IntKind.u8.wrap (BitVec.ofInt IntKind.u8.bits (IntKind.u8.wrap (zz p)) ||| BitVec.ofInt IntKind.u8.bits 128).toNat)] ++ [AV.int .u8 (IntKind.u8.wrap ((zz p).fdiv (2 ^ 7)))] = [2 * p % 128 + 128, 2 * p / 128].map B := by
  rw [h3, v5 hp2, wu8]; simp; omega
 repeat' ((conv => whnf); first | refine Branch.ofT rfl ?_ | refine Branch.ofF rfl ?_ | refine LoopA.unroll _ _ _ 3 ?_ | refine Branch.ofT (gtT h2 (by omega)) ?_ | refine Branch.ofF (gtF h3 (by omega)) ?_ | refine Branch.dec (fun h => ?_) (fun h => ?_) | refine Branch.negdec (fun h => ?_) (fun h => ?_) | refine Branch.neg (fun h => ?_) (fun h => ?_) | refine Branch.mk (fun h => ?_) (fun h => ?_) | (refine Side.mk ?_ ?_; · first | omega | decide) | (refine SideD.mk ?_ ?_; · first | omega | decide) | refine ⟨_, Nat.lt_succ_self _, To.refl (.inl ⟨rfl, ?_⟩)⟩ | refine Side.mk ⟨by unfold fits; omega, by simp [scal]⟩ ?_ | refine Side.mk (appB (by rfl) (by omega) (by simp [scal]) (by omega)) ?_ | (refine Side.mk ?_ ?_; · (simp; done)) | fail)
 all_goals (conv => whnf)
 exact RetA.gc [(1, true)] rfl ⟨dat rfl, trivial⟩ ⟨rfl, by rw [← e]; rfl⟩
theorem c9 (p : Nat) (hp : p < 256) : CallA Tryz.prog 9 [I p] Heap.nil fun v H' => v = .slice 0 0 (ip p).length none 1 ∧ H' = ⟨1, [(0, .cells ((ip p).map B))]⟩ := by
 unfold ip
 split
 · exact c9a p (by assumption)
 · exact c9b p (by omega) hp
theorem c9d (p : Nat) (hp : p < 256) : CallA Tryz.prog 9 [I p] Heap.nil fun v H' => v = .dslice ((ip p).map B) (ip p).length none ∧ H' = Heap.nil := by
 refine CallA.out 8 (c9 p hp) ?_
 rintro v H ⟨rfl, rfl⟩
 refine ⟨.dslice ((ip p).map B) (ip p).length none, ?_, rfl, rfl⟩
 unfold ip; split <;> rfl
end Go.Proofs

-- The plain law of samples: numbers swapped, and then sorted (no program in sight).
namespace Go.Eng.Sm
open List
def sw (l : List Int) (p j : Nat) : List Int := (l.set p (l.getD j 0)).set j (l.getD p 0)
theorem sw_len (l : List Int) (p j : Nat) : (sw l p j).length = l.length := by simp [sw]
theorem sw_perm {l : List Int} {p j : Nat} (hp : p < l.length) (hj : j < l.length) : sw l p j ~ l := by
 have : (l.set p l[j]).set j l[p] ~ l := List.set_set_perm hp hj
 simpa [sw, List.getD, List.getElem?_eq_getElem hp, List.getElem?_eq_getElem hj] using this
def nums (n : Nat) : List Int := (List.range n).map fun (i : Nat) => (i : Int)
def smp (X : Nat → Int) (n : Nat) : Nat → List Int
 | 0 => nums n
 | p + 1 => sw (smp X n p) p (p + (X p % ((n : Int) - p))).toNat
theorem smp_len (X : Nat → Int) (n p : Nat) : (smp X n p).length = n := by
 induction p with
 | zero => simp [smp, nums]
 | succ p ih => simp [smp, sw_len, ih]
theorem smp_at {X : Nat → Int} {n p : Nat} (hp : p < n) : p ≤ (p + (X p % ((n : Int) - p))).toNat ∧ (p + (X p % ((n : Int) - p))).toNat < n := by
 have h0 : (0 : Int) < (n : Int) - p := by omega
 have h1 := Int.emod_nonneg (X p) (show (n : Int) - p ≠ 0 by omega)
 have h2 := Int.emod_lt_of_pos (X p) h0
 omega
theorem smp_perm (X : Nat → Int) (n : Nat) : ∀ p, p ≤ n → smp X n p ~ nums n
 | 0, _ => Perm.refl _
 | p + 1, h => by
  obtain ⟨_, h2⟩ := smp_at (X := X) (show p < n by omega)
  exact (sw_perm (by rw [smp_len]; omega) (by rw [smp_len]; omega)).trans (smp_perm X n p (by omega))
def ins (out : List Int) (x : Int) : List Int := out.takeWhile (fun y => decide (y < x)) ++ x :: out.dropWhile (fun y => decide (y < x))
def isort (l : List Int) : List Int := l.foldl ins []
theorem ins_perm (out : List Int) (x : Int) : ins out x ~ x :: out := by
 have h : out.takeWhile (fun y => decide (y < x)) ++ out.dropWhile (fun y => decide (y < x)) = out := List.takeWhile_append_dropWhile
 unfold ins
 exact perm_middle.trans (by rw [h])
theorem ins_sorted {out : List Int} (h : out.Pairwise (· ≤ ·)) (x : Int) : (ins out x).Pairwise (· ≤ ·) := by
 induction out with
 | nil => simp [ins]
 | cons y r ih =>
  rw [List.pairwise_cons] at h
  unfold ins
  by_cases hy : y < x
  · simp only [List.takeWhile_cons, List.dropWhile_cons, hy, decide_true, if_true, List.cons_append]
    rw [List.pairwise_cons]
    refine ⟨fun z hz => ?_, ih h.2⟩
    have hz : z ∈ ins r x := hz
    have := (ins_perm r x).mem_iff.1 hz
    rcases List.mem_cons.1 this with rfl | hz
    · omega
    · exact h.1 z hz
  · simp only [List.takeWhile_cons, List.dropWhile_cons, hy, decide_false, Bool.false_eq_true, if_false, List.nil_append]
    rw [List.pairwise_cons]
    refine ⟨fun z hz => ?_, List.pairwise_cons.2 h⟩
    rcases List.mem_cons.1 hz with rfl | hz
    · omega
    · have := h.1 z hz; omega
theorem isort_spec (l : List Int) : ∀ out : List Int, out.Pairwise (· ≤ ·) → (l.foldl ins out).Pairwise (· ≤ ·) ∧ l.foldl ins out ~ out ++ l := by
 induction l with
 | nil => intro out h; simpa using h
 | cons x l ih =>
  intro out h
  obtain ⟨h1, h2⟩ := ih (ins out x) (ins_sorted h x)
  refine ⟨h1, h2.trans ?_⟩
  exact ((ins_perm out x).append_right l).trans (by simpa using (perm_middle (a := x) (l₁ := out) (l₂ := l)).symm)
theorem isort_perm (l : List Int) : isort l ~ l := (isort_spec l [] Pairwise.nil).2
theorem isort_sorted (l : List Int) : (isort l).Pairwise (· ≤ ·) := (isort_spec l [] Pairwise.nil).1
theorem isort_merge (l : List Int) : l.mergeSort (fun x y => decide (x ≤ y)) = isort l := by
 refine Perm.eq_of_pairwise (le := fun a b : Int => a ≤ b) (fun a b _ _ h1 h2 => by omega) ?_ (isort_sorted l) ((mergeSort_perm l _).trans (isort_perm l).symm)
 have := pairwise_mergeSort (le := fun x y : Int => decide (x ≤ y)) (fun a b c h1 h2 => by simp at *; omega) (fun a b => by simp; omega) l
 exact this.imp fun h => by simpa using h
theorem sample (X : Nat → Int) {n k : Nat} (hk : k ≤ n) : (isort ((smp X n k).take k)).length = k ∧ (isort ((smp X n k).take k)).Pairwise (· < ·) ∧ ∀ x ∈ isort ((smp X n k).take k), 0 ≤ x ∧ x < n := by
 have hp := isort_perm ((smp X n k).take k)
 have hlen : (isort ((smp X n k).take k)).length = k := by rw [hp.length_eq, List.length_take, smp_len]; omega
 have hnd : (nums n).Nodup := by
  unfold nums
  refine List.Pairwise.map _ (fun a b h => ?_) (List.nodup_range (n := n))
  exact fun e => h (by omega)
 have hnd2 : (isort ((smp X n k).take k)).Nodup := hp.nodup_iff.2 (List.Sublist.nodup (List.take_sublist _ _) ((smp_perm X n k hk).nodup_iff.2 hnd))
 refine ⟨hlen, ?_, fun x hx => ?_⟩
 · have hs := isort_sorted ((smp X n k).take k)
   refine (hs.and hnd2).imp fun h => ?_
   have := h.1; have := h.2; omega
 · have h1 := hp.mem_iff.1 hx
   have h2 := (smp_perm X n k hk).mem_iff.1 (List.mem_of_mem_take h1)
   unfold nums at h2
   obtain ⟨i, hi, rfl⟩ := List.mem_map.1 h2
   have := List.mem_range.1 hi
   omega
end Go.Eng.Sm

namespace Go.Proofs
open Go Go.Eng
set_option maxRecDepth 100000
set_option maxHeartbeats 4000000

theorem ints_scal (o : List Int) : ∀ c ∈ ints o, scal c = true := by
 intro c hc
 simp only [ints, List.mem_map] at hc
 obtain ⟨i, _, rfl⟩ := hc
 rfl
theorem ints_noLocL : ∀ o : List Int, noLocL (ints o) = true
 | [] => rfl
 | x :: r => by
  show (noLoc (I x) && noLocL (ints r)) = true
  rw [ints_noLocL r]; rfl
theorem nth_in {o : List Int} {i off : Nat} (h : i < o.length) (ho : off = i) {K : AV → Prop} (hk : K (I (o.getD i 0))) : nthK 0 ((ints o).drop off) K := by
 subst ho
 refine nthK_at (Go.Eng.ints_at off o h) ?_
 rw [List.getD_eq_getElem?_getD, List.getElem?_eq_getElem h] at hk
 exact hk
theorem lput_in {o : List Int} {i off : Nat} {x : Int} (h : i < o.length) (ho : off = i) {K : List AV → Prop} (hk : K (ints (o.set i x))) : lputK (ints o) off [I x] K := by
 subst ho
 refine lputK_eq ?_ rfl ?_
 · rw [Go.Eng.ints_len]; simp; omega
 · have : (ints o).take off ++ [I x] ++ (ints o).drop (off + [I x].length) = ints (o.set off x) := by
    rw [List.set_eq_take_append_cons_drop, if_pos h, Go.Eng.ints_app]
    simp [ints]
   rw [this]; exact hk
theorem rep_in : ∀ n, rep [I 0] n = ints (List.replicate n 0)
 | 0 => rfl
 | n + 1 => by
  show I 0 :: rep [I 0] n = _
  rw [rep_in n]; rfl
theorem ints_take (o : List Int) (n : Nat) : (ints o).take n = ints (o.take n) := by simp [ints]
theorem ints_drop (o : List Int) (n : Nat) : (ints o).drop n = ints (o.drop n) := by simp [ints]

theorem c12 (d : List Nat) (hd : d.length = 16) : CallA Tryz.prog 12 [.agg (d.map B)] Heap.nil fun v H' => v = .str (txt d) ∧ H' = Heap.nil := by
 refine callA_of ok12 (Nat.le_of_ble_eq_true rfl) ?_
 match d, hd with
 | [a0, a1, a2, a3, a4, a5, a6, a7, a8, a9, a10, a11, a12, a13, a14, a15], _ =>
  repeat' ((conv => whnf); first | refine Branch.ofT rfl ?_ | refine Branch.ofF rfl ?_ | refine Branch.dec (fun h => ?_) (fun h => ?_) | refine Branch.negdec (fun h => ?_) (fun h => ?_) | refine Branch.neg (fun h => ?_) (fun h => ?_) | refine Branch.mk (fun h => ?_) (fun h => ?_) | (refine Side.mk ?_ ?_; · first | omega | decide) | (refine SideD.mk ?_ ?_; · first | omega | decide) | refine ⟨_, Nat.lt_succ_self _, To.refl (.inl ⟨rfl, ?_⟩)⟩ | refine LoopA.unroll _ _ _ 17 ?_ | refine Side.mk ⟨by unfold fits; omega, by simp [scal]⟩ ?_ | refine Side.mk ⟨by rfl, by rfl, by rfl, by unfold fits; omega, by simp [scal]⟩ ?_ | refine bres (t := [a0, a1, a2, a3, a4, a5, a6, a7, a8, a9, a10, a11, a12, a13, a14, a15]) (by rfl) ?_ | (refine Side.mk ?_ ?_; · (simp; done)) | fail)
  all_goals (conv => whnf)
  exact RetA.data rfl ⟨rfl, rfl⟩

theorem take_succ' {a : List Int} {i : Nat} (h : i < a.length) : a.take (i + 1) = a.take i ++ [a.getD i 0] := by
 rw [List.take_succ, List.getD_eq_getElem?_getD, List.getElem?_eq_getElem h]; rfl
def L6 (a b : List Int) (ca cb : Option Nat) (m : Nat) (fr : Fr) (H : Heap) : Prop := ∃ i : Nat, i ≤ a.length ∧ m = a.length - i ∧ a.take i = b.take i ∧ fr = [(0, .dslice (ints a) a.length ca), (1, .dslice (ints b) b.length cb), (5, I i)] ∧ H = Heap.nil
theorem c6 (a b : List Int) (ca cb : Option Nat) (hA : a.length ≤ 1000) : CallA Tryz.prog 6 [.dslice (ints a) a.length ca, .dslice (ints b) b.length cb] Heap.nil fun v H' => v = .bool (decide (a = b)) ∧ H' = Heap.nil := by
 refine callA_of ok6 (Nat.le_of_ble_eq_true rfl) ?_
 by_cases hl : a.length = b.length
 · repeat' ((conv => whnf); first | refine Branch.ofT rfl ?_ | refine Branch.ofF rfl ?_ | refine Branch.negdec (fun hn => absurd (by omega) hn) (fun _ => ?_) | refine Branch.dec (fun h => ?_) (fun h => ?_) | refine Branch.negdec (fun h => ?_) (fun h => ?_) | refine Branch.neg (fun h => ?_) (fun h => ?_) | refine Branch.mk (fun h => ?_) (fun h => ?_) | (refine Side.mk ?_ ?_; · first | omega | decide) | (refine SideD.mk ?_ ?_; · first | omega | decide) | refine ⟨_, Nat.lt_succ_self _, To.refl (.inl ⟨rfl, ?_⟩)⟩ | (refine Side.mk ?_ ?_; · (simp; done)) | fail)
   all_goals (conv => whnf)
   refine ⟨L6 a b ca cb, a.length, To.gc [] [0, 1, 5] rfl trivial ⟨0, by omega, by omega, rfl, rfl, rfl⟩, ?_⟩
   rintro m fr H ⟨i, hi, rfl, he, rfl, rfl⟩
   by_cases h : i < a.length
   · by_cases hx : a.getD i 0 = b.getD i 0
     · repeat' ((conv => whnf); first | refine Branch.ofT rfl ?_ | refine Branch.ofF rfl ?_ | refine Branch.ofT (decide_eq_true (by omega)) ?_ | refine nth_in h (by omega) ?_ | refine nth_in (o := b) (i := i) (by omega) (by omega) ?_ | refine Branch.negdec (fun hn => absurd hx hn) (fun _ => ?_) | refine Branch.dec (fun h => ?_) (fun h => ?_) | refine Branch.negdec (fun h => ?_) (fun h => ?_) | refine Branch.neg (fun h => ?_) (fun h => ?_) | refine Branch.mk (fun h => ?_) (fun h => ?_) | (refine Side.mk ?_ ?_; · first | omega | decide) | (refine SideD.mk ?_ ?_; · first | omega | decide) | refine ⟨_, Nat.lt_succ_self _, To.refl (.inl ⟨rfl, ?_⟩)⟩ | (refine Side.mk ?_ ?_; · (simp; done)) | fail)
       all_goals (conv => whnf)
       have ht : a.take (i + 1) = b.take (i + 1) := by rw [take_succ' h, take_succ' (by omega), he, hx]
       refine ⟨a.length - (i + 1), ?_⟩
       refine ⟨by omega, ?_⟩
       exact To.gc [] [0, 1, 5] rfl trivial ⟨i + 1, by omega, rfl, ht, rfl, rfl⟩
     · repeat' ((conv => whnf); first | refine Branch.ofT rfl ?_ | refine Branch.ofF rfl ?_ | refine Branch.ofT (decide_eq_true (by omega)) ?_ | refine nth_in h (by omega) ?_ | refine nth_in (o := b) (i := i) (by omega) (by omega) ?_ | refine Branch.negdec (fun _ => ?_) (fun hn => absurd hn hx) | refine Branch.dec (fun h => ?_) (fun h => ?_) | refine Branch.negdec (fun h => ?_) (fun h => ?_) | refine Branch.neg (fun h => ?_) (fun h => ?_) | refine Branch.mk (fun h => ?_) (fun h => ?_) | (refine Side.mk ?_ ?_; · first | omega | decide) | (refine SideD.mk ?_ ?_; · first | omega | decide) | refine ⟨_, Nat.lt_succ_self _, To.refl (.inl ⟨rfl, ?_⟩)⟩ | (refine Side.mk ?_ ?_; · (simp; done)) | fail)
       all_goals (conv => whnf)
       refine RetA.data rfl ⟨?_, rfl⟩
       rw [decide_eq_false (fun e => hx (by rw [e]))]; rfl
   · repeat' ((conv => whnf); first | refine Branch.ofT rfl ?_ | refine Branch.ofF rfl ?_ | refine Branch.ofF (decide_eq_false (by omega)) ?_ | refine Branch.dec (fun h => ?_) (fun h => ?_) | refine Branch.negdec (fun h => ?_) (fun h => ?_) | refine Branch.neg (fun h => ?_) (fun h => ?_) | refine Branch.mk (fun h => ?_) (fun h => ?_) | (refine Side.mk ?_ ?_; · first | omega | decide) | (refine SideD.mk ?_ ?_; · first | omega | decide) | refine ⟨_, Nat.lt_succ_self _, To.refl (.inl ⟨rfl, ?_⟩)⟩ | (refine Side.mk ?_ ?_; · (simp; done)) | fail)
     all_goals (conv => whnf)
     refine RetA.data rfl ⟨?_, rfl⟩
     rw [List.take_of_length_le (by omega), List.take_of_length_le (by omega)] at he
     rw [decide_eq_true he]; rfl
 · repeat' ((conv => whnf); first | refine Branch.ofT rfl ?_ | refine Branch.ofF rfl ?_ | refine Branch.negdec (fun _ => ?_) (fun hn => absurd (by omega) hl) | refine Branch.dec (fun h => ?_) (fun h => ?_) | refine Branch.negdec (fun h => ?_) (fun h => ?_) | refine Branch.neg (fun h => ?_) (fun h => ?_) | refine Branch.mk (fun h => ?_) (fun h => ?_) | (refine Side.mk ?_ ?_; · first | omega | decide) | (refine SideD.mk ?_ ?_; · first | omega | decide) | refine ⟨_, Nat.lt_succ_self _, To.refl (.inl ⟨rfl, ?_⟩)⟩ | (refine Side.mk ?_ ?_; · (simp; done)) | fail)
   all_goals (conv => whnf)
   refine RetA.data rfl ⟨?_, rfl⟩
   rw [decide_eq_false (fun e => hl (by rw [e]))]; rfl
theorem c6n (ca : Option Nat) : CallA Tryz.prog 6 [.dslice [] 0 ca, .nils] Heap.nil fun v H' => v = .bool true ∧ H' = Heap.nil := by
 refine callA_of ok6 (Nat.le_of_ble_eq_true rfl) ?_
 repeat' ((conv => whnf); first | refine Branch.ofT rfl ?_ | refine Branch.ofF rfl ?_ | refine Branch.dec (fun h => ?_) (fun h => ?_) | refine Branch.negdec (fun h => ?_) (fun h => ?_) | refine Branch.neg (fun h => ?_) (fun h => ?_) | refine Branch.mk (fun h => ?_) (fun h => ?_) | (refine Side.mk ?_ ?_; · first | omega | decide) | (refine SideD.mk ?_ ?_; · first | omega | decide) | refine ⟨_, Nat.lt_succ_self _, To.refl (.inl ⟨rfl, ?_⟩)⟩ | refine LoopA.unroll _ _ _ 3 ?_ | (refine Side.mk ?_ ?_; · (simp; done)) | fail)
 all_goals (conv => whnf)
 exact RetA.data rfl ⟨rfl, rfl⟩
end Go.Proofs

namespace Go.Proofs
open Go Go.Eng
set_option maxRecDepth 100000
set_option maxHeartbeats 4000000

def pos (o : List Int) (x : Int) : Nat := (o.takeWhile fun y => decide (y < x)).length
theorem pos_le (o : List Int) (x : Int) : pos o x ≤ o.length := by
 unfold pos
 induction o with
 | nil => simp
 | cons y r ih => rw [List.takeWhile_cons]; split <;> simp; omega
theorem pos_lt : ∀ {o : List Int} {x : Int} {j : Nat}, j < pos o x → o.getD j 0 < x
 | y :: r, x, j, h => by
  unfold pos at h
  rw [List.takeWhile_cons] at h
  by_cases hy : y < x
  · rw [if_pos (decide_eq_true hy)] at h
    cases j with
    | zero => simpa using hy
    | succ j =>
     have := pos_lt (o := r) (x := x) (j := j) (by unfold pos; simpa using h)
     simpa using this
  · rw [if_neg (by simpa using hy)] at h; simp at h
theorem pos_ge : ∀ {o : List Int} {x : Int}, pos o x < o.length → ¬ o.getD (pos o x) 0 < x
 | y :: r, x, h => by
  unfold pos at h ⊢
  rw [List.takeWhile_cons] at h ⊢
  by_cases hy : y < x
  · rw [if_pos (decide_eq_true hy)] at h ⊢
    have := pos_ge (o := r) (x := x) (by unfold pos; simpa using h)
    simpa [pos] using this
  · rw [if_neg (by simpa using hy)]; simpa using hy
theorem ins_pos (o : List Int) (x : Int) : o.take (pos o x) ++ [x] ++ o.drop (pos o x) = Sm.ins o x := by
 have h1 : o.take (pos o x) = o.takeWhile fun y => decide (y < x) := by
  unfold pos
  induction o with
  | nil => rfl
  | cons y r ih => rw [List.takeWhile_cons]; split <;> simp [ih]
 have h2 : o.drop (pos o x) = o.dropWhile fun y => decide (y < x) := by
  unfold pos
  clear h1
  induction o with
  | nil => rfl
  | cons y r ih => rw [List.takeWhile_cons, List.dropWhile_cons]; split <;> simp [ih]
 rw [h1, h2]; unfold Sm.ins; simp
theorem isort_succ {z : List Int} {i : Nat} (h : i < z.length) : Sm.isort (z.take (i + 1)) = Sm.ins (Sm.isort (z.take i)) (z.getD i 0) := by
 unfold Sm.isort; rw [take_succ' h, List.foldl_append]; rfl
theorem isort_len (l : List Int) : (Sm.isort l).length = l.length := (Sm.isort_perm l).length_eq
def out14 (o : List Int) : AV := if o.length = 0 then .nils else .slice 0 0 o.length none 1
def hp14 (o : List Int) : Heap := if o.length = 0 then Heap.nil else ⟨1, [(0, .cells (ints o))]⟩
def L14 (z : List Int) (k : Nat) (cap : Option Nat) (m : Nat) (fr : Fr) (H : Heap) : Prop := ∃ i : Nat, i ≤ k ∧ m = k - i ∧
 ((i = 0 ∧ fr = [(0, .dslice (ints z) k cap), (3, .nils), (4, I 0)] ∧ H = Heap.nil) ∨
  (0 < i ∧ fr = [(0, .dslice (ints z) k cap), (3, .slice 0 0 i none 1), (4, I i)] ∧ H = ⟨1, [(0, .cells (ints (Sm.isort (z.take i))))]⟩))
def L14b (z o : List Int) (k i : Nat) (cap : Option Nat) (m : Nat) (fr : Fr) (H : Heap) : Prop := ∃ t : Nat, t ≤ pos o (z.getD i 0) ∧ m = i - t ∧ fr = [(0, .dslice (ints z) k cap), (3, .slice 0 0 i none 1), (4, I i), (5, I t)] ∧ H = ⟨1, [(0, .cells (ints o))]⟩
theorem one_scal (x : Int) : ∀ c ∈ [I x], scal c = true := fun c hc => by rw [List.mem_singleton.1 hc]; rfl
theorem scal_of {ds : List AV} {w : List Int} (e : ds = ints w) : ∀ c ∈ ds, scal c = true := by subst e; exact ints_scal w
theorem appI {a : List AV} {n : Nat} {ds : List AV} {m : Nat} (h : a.length = n) (hf : n ≤ 100000) (hs : ∀ c ∈ ds, scal c = true) (hm : m ≤ 100000) : 1 = 1 ∧ 0 = 0 ∧ a.length = n * 1 ∧ fits (n + m) 8 ∧ ∀ c ∈ ds, scal c = true :=
 ⟨rfl, rfl, by omega, by unfold fits; omega, hs⟩
theorem c14 (z : List Int) (k : Nat) (cap : Option Nat) (hk : k ≤ z.length) (hk2 : k ≤ 1000) : CallA Tryz.prog 14 [.dslice (ints z) k cap] Heap.nil fun v H' => (k = 0 → v = .nils ∧ H' = Heap.nil) ∧ (0 < k → v = .slice 0 0 k none 1 ∧ H' = ⟨1, [(0, .cells (ints (Sm.isort (z.take k))))]⟩) := by
 refine callA_of ok14 (Nat.le_of_ble_eq_true rfl) ?_
 have dI : ∀ o : List Int, ∀ c ∈ ints o, noLoc c = true := fun o => Go.Eng.ints_noLoc o
 repeat' ((conv => whnf); first | refine Branch.ofT rfl ?_ | refine Branch.ofF rfl ?_ | refine Branch.dec (fun h => ?_) (fun h => ?_) | refine Branch.negdec (fun h => ?_) (fun h => ?_) | refine Branch.neg (fun h => ?_) (fun h => ?_) | refine Branch.mk (fun h => ?_) (fun h => ?_) | (refine Side.mk ?_ ?_; · first | omega | decide) | (refine SideD.mk ?_ ?_; · first | omega | decide) | refine ⟨_, Nat.lt_succ_self _, To.refl (.inl ⟨rfl, ?_⟩)⟩ | (refine Side.mk ?_ ?_; · (simp; done)) | fail)
 all_goals (conv => whnf)
 refine ⟨L14 z k cap, k, To.gc [] [0, 3, 4] rfl trivial ⟨0, by omega, by omega, .inl ⟨rfl, rfl, rfl⟩⟩, ?_⟩
 rintro m fr H ⟨i, hi, rfl, h⟩
 by_cases hik : i < k
 · have hz : i < z.length := by omega
   have hs := isort_succ hz
   rcases h with ⟨rfl, rfl, rfl⟩ | ⟨hi0, rfl, rfl⟩
   · repeat' ((conv => whnf); first | refine Branch.ofT rfl ?_ | refine Branch.ofF rfl ?_ | refine Branch.ofT (decide_eq_true (by omega)) ?_ | refine Branch.dec (fun h => ?_) (fun h => ?_) | refine Branch.negdec (fun h => ?_) (fun h => ?_) | refine Branch.neg (fun h => ?_) (fun h => ?_) | refine Branch.mk (fun h => ?_) (fun h => ?_) | (refine Side.mk ?_ ?_; · first | omega | decide) | (refine SideD.mk ?_ ?_; · first | omega | decide) | refine ⟨_, Nat.lt_succ_self _, To.refl (.inl ⟨rfl, ?_⟩)⟩ | refine LoopA.unroll _ _ _ 3 ?_ | refine nth_in hz (by omega) ?_ | refine Side.mk (appI (by first | rfl | (simp [rep]; done)) (by omega) (by first | (intro c hc; cases hc; done) | exact one_scal _) (by omega)) ?_ | (refine Side.mk ?_ ?_; · (simp; done)) | fail)
     all_goals (conv => whnf)
     exact ⟨k - (0 + 1), by omega, To.gc [(18, true)] [0, 3, 4] rfl ⟨dat rfl, trivial⟩ ⟨0 + 1, by omega, rfl, .inr ⟨by omega, rfl, by rw [hs]; rfl⟩⟩⟩
   · generalize ho : Sm.isort (z.take i) = o at hs
     have hol : o.length = i := by rw [← ho, isort_len, List.length_take]; omega
     have hp := pos_le o (z.getD i 0)
     repeat' ((conv => whnf); first | refine Branch.ofT rfl ?_ | refine Branch.ofF rfl ?_ | refine Branch.ofT (decide_eq_true (by omega)) ?_ | refine Branch.dec (fun h => ?_) (fun h => ?_) | refine Branch.negdec (fun h => ?_) (fun h => ?_) | refine Branch.neg (fun h => ?_) (fun h => ?_) | refine Branch.mk (fun h => ?_) (fun h => ?_) | (refine Side.mk ?_ ?_; · first | omega | decide) | (refine SideD.mk ?_ ?_; · first | omega | decide) | refine ⟨_, Nat.lt_succ_self _, To.refl (.inl ⟨rfl, ?_⟩)⟩ | (refine Side.mk ?_ ?_; · (simp; done)) | fail)
     all_goals (conv => whnf)
     refine ⟨L14b z o k i cap, i, To.gc [(0, true)] [0, 3, 4, 5] rfl ⟨dI o, trivial⟩ ⟨0, by omega, rfl, rfl, rfl⟩, ?_⟩
     rintro m fr H ⟨t, ht, rfl, rfl, rfl⟩
     by_cases htp : t < pos o (z.getD i 0)
     · have hlt := pos_lt htp
       repeat' ((conv => whnf); first | refine Branch.ofT rfl ?_ | refine Branch.ofF rfl ?_ | refine Branch.ofT (decide_eq_true (by omega)) ?_ | refine nth_in (o := o) (i := t) (by omega) (by omega) ?_ | refine nth_in hz (by omega) ?_ | refine Branch.ofT (decide_eq_true hlt) ?_ | refine Branch.dec (fun h => ?_) (fun h => ?_) | refine Branch.negdec (fun h => ?_) (fun h => ?_) | refine Branch.neg (fun h => ?_) (fun h => ?_) | refine Branch.mk (fun h => ?_) (fun h => ?_) | (refine Side.mk ?_ ?_; · first | omega | decide) | (refine SideD.mk ?_ ?_; · first | omega | decide) | refine ⟨_, Nat.lt_succ_self _, To.refl (.inl ⟨rfl, ?_⟩)⟩ | (refine Side.mk ?_ ?_; · (simp; done)) | fail)
       all_goals (conv => whnf)
       exact ⟨i - (t + 1), by omega, To.gc [(0, true)] [0, 3, 4, 5] rfl ⟨dI o, trivial⟩ ⟨t + 1, by omega, rfl, rfl, rfl⟩⟩
     · have htp : t = pos o (z.getD i 0) := by omega
       have hge : t < o.length → ¬ o.getD t 0 < z.getD i 0 := fun h => by rw [htp]; exact pos_ge (by rw [← htp]; exact h)
       have hins := ins_pos o (z.getD i 0)
       rw [← htp] at hins
       have e2 : ints (o.take t) ++ [I (z.getD i 0)] ++ ints (o.drop t) = ints (Sm.ins o (z.getD i 0)) := by
        rw [← hins, Go.Eng.ints_app, Go.Eng.ints_app]; rfl
       have e3 : ∀ n d, n = o.length - t → d = t → List.take (n * 1) (List.drop d (ints o)) = ints (o.drop t) := by
        rintro _ _ rfl rfl; rw [ints_drop, List.take_of_length_le (by rw [Go.Eng.ints_len, List.length_drop]; omega)]
       have e4 : ∀ n d, n = t → d = 0 → List.take (n * 1) (List.drop d (ints o)) = ints (o.take t) := by
        rintro _ _ rfl rfl; rw [List.drop_zero, Nat.mul_one, ints_take]
       have hcs : ∀ a b : List AV, a = ints (o.take t) → b = ints (o.drop t) → ([] ++ a) ++ [I (z.getD i 0)] ++ b = ints (Sm.ins o (z.getD i 0)) := by
        rintro _ _ rfl rfl; exact e2
       have dX : ∀ a b : List AV, a = ints (o.take t) → b = ints (o.drop t) → ∀ c ∈ ([] ++ a) ++ [I (z.getD i 0)] ++ b, noLoc c = true := by
        intro a b ha hb; rw [hcs a b ha hb]; exact dI _
       have lenA : ∀ a : List AV, a = ints (o.take t) → ([] ++ a).length = t := by
        rintro _ rfl; simp [Go.Eng.ints_len]; omega
       have lenB : ∀ a : List AV, a = ints (o.take t) → ([] ++ a ++ [I (z.getD i 0)]).length = t + 1 := by
        rintro _ rfl; simp [Go.Eng.ints_len]; omega
       have hfr : ∀ n : Nat, n = i + 1 → ([(0, .dslice (ints z) k cap), (3, .slice 0 0 n none 1), (4, I ((i : Int) + 1))] : Fr) = [(0, .dslice (ints z) k cap), (3, .slice 0 0 (i + 1) none 1), (4, I ((i + 1 : Nat) : Int))] := by
        rintro _ rfl; rfl
       have hhp : ∀ cs : List AV, cs = ints (Sm.ins o (z.getD i 0)) → (⟨1, [(0, .cells cs)]⟩ : Heap) = ⟨1, [(0, .cells (ints (Sm.isort (z.take (i + 1)))))]⟩ := by
        rintro _ rfl; rw [hs]
       by_cases hto : t < o.length
       · have hge := hge hto
         by_cases h0 : t = 0
         · have ht0 : ints (o.take t) = [] := by rw [h0]; rfl
           repeat' ((conv => whnf); first | refine Branch.ofT rfl ?_ | refine Branch.ofF rfl ?_ | refine Branch.ofT (decide_eq_true (by omega)) ?_ | refine nth_in (o := o) (i := t) (by omega) (by omega) ?_ | refine nth_in hz (by omega) ?_ | refine Branch.ofF (decide_eq_false (by first | exact hge | omega)) ?_ | refine Or.inl (Side.mk (by omega) ?_) | refine Or.inr (Side.mk (by omega) ?_) | refine Branch.dec (fun h => ?_) (fun h => ?_) | refine Branch.negdec (fun h => ?_) (fun h => ?_) | refine Branch.neg (fun h => ?_) (fun h => ?_) | refine Branch.mk (fun h => ?_) (fun h => ?_) | (refine Side.mk ?_ ?_; · first | omega | decide) | (refine SideD.mk ?_ ?_; · first | omega | decide) | refine ⟨_, Nat.lt_succ_self _, To.refl (.inl ⟨rfl, ?_⟩)⟩ | refine Side.mk (appI (by first | rfl | (simp [rep]; done) | exact Eq.trans (lenA _ (e4 _ _ (by omega) (by omega))) (by omega) | exact Eq.trans (lenB _ (e4 _ _ (by omega) (by omega))) (by omega)) (by omega) (by first | (intro c hc; cases hc; done) | exact one_scal _ | exact scal_of (e4 _ _ (by omega) (by omega)) | exact scal_of (e3 _ _ (by omega) (by omega))) (by omega)) ?_ | refine Side.mk (by rw [Go.Eng.ints_len]; omega) ?_ | (refine Side.mk ?_ ?_; · (simp; done)) | fail)
           all_goals (conv => whnf)
           exact ⟨k - (i + 1), by omega, To.gc [(19, true)] [0, 3, 4] rfl ⟨dX _ _ (by rw [ht0]; rfl) (by exact e3 _ _ (by omega) (by omega)), trivial⟩ ⟨i + 1, by omega, rfl, .inr ⟨by omega, hfr _ (by omega), hhp _ (hcs _ _ (by rw [ht0]; rfl) (by exact e3 _ _ (by omega) (by omega)))⟩⟩⟩
         · repeat' ((conv => whnf); first | refine Branch.ofT rfl ?_ | refine Branch.ofF rfl ?_ | refine Branch.ofT (decide_eq_true (by omega)) ?_ | refine nth_in (o := o) (i := t) (by omega) (by omega) ?_ | refine nth_in hz (by omega) ?_ | refine Branch.ofF (decide_eq_false (by first | exact hge | omega)) ?_ | refine Or.inl (Side.mk (by omega) ?_) | refine Or.inr (Side.mk (by omega) ?_) | refine Branch.dec (fun h => ?_) (fun h => ?_) | refine Branch.negdec (fun h => ?_) (fun h => ?_) | refine Branch.neg (fun h => ?_) (fun h => ?_) | refine Branch.mk (fun h => ?_) (fun h => ?_) | (refine Side.mk ?_ ?_; · first | omega | decide) | (refine SideD.mk ?_ ?_; · first | omega | decide) | refine ⟨_, Nat.lt_succ_self _, To.refl (.inl ⟨rfl, ?_⟩)⟩ | refine Side.mk (appI (by first | rfl | (simp [rep]; done) | exact Eq.trans (lenA _ (e4 _ _ (by omega) (by omega))) (by omega) | exact Eq.trans (lenB _ (e4 _ _ (by omega) (by omega))) (by omega)) (by omega) (by first | (intro c hc; cases hc; done) | exact one_scal _ | exact scal_of (e4 _ _ (by omega) (by omega)) | exact scal_of (e3 _ _ (by omega) (by omega))) (by omega)) ?_ | refine Side.mk (by rw [Go.Eng.ints_len]; omega) ?_ | (refine Side.mk ?_ ?_; · (simp; done)) | fail)
           all_goals (conv => whnf)
           exact ⟨k - (i + 1), by omega, To.gc [(19, true)] [0, 3, 4] rfl ⟨dX _ _ (by exact e4 _ _ (by omega) (by omega)) (by exact e3 _ _ (by omega) (by omega)), trivial⟩ ⟨i + 1, by omega, rfl, .inr ⟨by omega, hfr _ (by omega), hhp _ (hcs _ _ (by exact e4 _ _ (by omega) (by omega)) (by exact e3 _ _ (by omega) (by omega)))⟩⟩⟩
       · repeat' ((conv => whnf); first | refine Branch.ofT rfl ?_ | refine Branch.ofF rfl ?_ | refine Branch.ofF (decide_eq_false (by omega)) ?_ | refine nth_in hz (by omega) ?_ | refine Or.inl (Side.mk (by omega) ?_) | refine Or.inr (Side.mk (by omega) ?_) | refine Branch.dec (fun h => ?_) (fun h => ?_) | refine Branch.negdec (fun h => ?_) (fun h => ?_) | refine Branch.neg (fun h => ?_) (fun h => ?_) | refine Branch.mk (fun h => ?_) (fun h => ?_) | (refine Side.mk ?_ ?_; · first | omega | decide) | (refine SideD.mk ?_ ?_; · first | omega | decide) | refine ⟨_, Nat.lt_succ_self _, To.refl (.inl ⟨rfl, ?_⟩)⟩ | refine Side.mk (appI (by first | rfl | (simp [rep]; done) | exact Eq.trans (lenA _ (e4 _ _ (by omega) (by omega))) (by omega) | exact Eq.trans (lenB _ (e4 _ _ (by omega) (by omega))) (by omega)) (by omega) (by first | (intro c hc; cases hc; done) | exact one_scal _ | exact scal_of (e4 _ _ (by omega) (by omega)) | exact scal_of (e3 _ _ (by omega) (by omega))) (by omega)) ?_ | refine Side.mk (by rw [Go.Eng.ints_len]; omega) ?_ | (refine Side.mk ?_ ?_; · (simp; done)) | fail)
         all_goals (conv => whnf)
         exact ⟨k - (i + 1), by omega, To.gc [(19, true)] [0, 3, 4] rfl ⟨dX _ _ (by exact e4 _ _ (by omega) (by omega)) (by rw [List.drop_eq_nil_of_le (by omega)]; rfl), trivial⟩ ⟨i + 1, by omega, rfl, .inr ⟨by omega, hfr _ (by omega), hhp _ (hcs _ _ (by exact e4 _ _ (by omega) (by omega)) (by rw [List.drop_eq_nil_of_le (by omega)]; rfl))⟩⟩⟩
 · have hik : i = k := by omega
   subst hik
   rcases h with ⟨rfl, rfl, rfl⟩ | ⟨hi0, rfl, rfl⟩
   · repeat' ((conv => whnf); first | refine Branch.ofT rfl ?_ | refine Branch.ofF rfl ?_ | refine Branch.ofF (decide_eq_false (by omega)) ?_ | refine Branch.dec (fun h => ?_) (fun h => ?_) | refine Branch.negdec (fun h => ?_) (fun h => ?_) | refine Branch.neg (fun h => ?_) (fun h => ?_) | refine Branch.mk (fun h => ?_) (fun h => ?_) | (refine Side.mk ?_ ?_; · first | omega | decide) | (refine SideD.mk ?_ ?_; · first | omega | decide) | refine ⟨_, Nat.lt_succ_self _, To.refl (.inl ⟨rfl, ?_⟩)⟩ | (refine Side.mk ?_ ?_; · (simp; done)) | fail)
     all_goals (conv => whnf)
     exact RetA.gc [] rfl trivial ⟨fun _ => ⟨rfl, rfl⟩, fun h => absurd h (by omega)⟩
   · repeat' ((conv => whnf); first | refine Branch.ofT rfl ?_ | refine Branch.ofF rfl ?_ | refine Branch.ofF (decide_eq_false (by omega)) ?_ | refine Branch.dec (fun h => ?_) (fun h => ?_) | refine Branch.negdec (fun h => ?_) (fun h => ?_) | refine Branch.neg (fun h => ?_) (fun h => ?_) | refine Branch.mk (fun h => ?_) (fun h => ?_) | (refine Side.mk ?_ ?_; · first | omega | decide) | (refine SideD.mk ?_ ?_; · first | omega | decide) | refine ⟨_, Nat.lt_succ_self _, To.refl (.inl ⟨rfl, ?_⟩)⟩ | (refine Side.mk ?_ ?_; · (simp; done)) | fail)
     all_goals (conv => whnf)
     exact RetA.gc [(0, true)] rfl ⟨dI _, trivial⟩ ⟨fun h => absurd h (by omega), fun _ => ⟨rfl, rfl⟩⟩
end Go.Proofs

