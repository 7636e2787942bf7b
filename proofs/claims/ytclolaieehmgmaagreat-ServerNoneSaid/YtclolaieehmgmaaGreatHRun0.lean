/- The layer, run: a heap that can be looked up, and the operations as functions. -/
import Derived.Test.YtclolaieehmgmaaGreatHFun
set_option linter.unusedVariables false
set_option linter.unusedSimpArgs false
namespace Go.H

inductive Tr (α : Type) where
  | nil
  | node (v : Option α) (l r : Tr α)

def Tr.get {α : Type} : Tr α → Nat → Option α
  | .nil, _ => none
  | .node v l r, n => match Nat.beq n 0 with
    | true => v
    | false => match Nat.beq (n % 2) 1 with
      | true => l.get (n / 2)
      | false => r.get (n / 2 - 1)
def Tr.set {α : Type} (a : α) : Nat → Tr α → Nat → Tr α
  | 0, t, _ => t
  | f + 1, .nil, n => match Nat.beq n 0 with
    | true => .node (some a) .nil .nil
    | false => match Nat.beq (n % 2) 1 with
      | true => .node none (Tr.set a f .nil (n / 2)) .nil
      | false => .node none .nil (Tr.set a f .nil (n / 2 - 1))
  | f + 1, .node v l r, n => match Nat.beq n 0 with
    | true => .node (some a) l r
    | false => match Nat.beq (n % 2) 1 with
      | true => .node v (Tr.set a f l (n / 2)) r
      | false => .node v l (Tr.set a f r (n / 2 - 1))

theorem beqf {a b : Nat} (h : a ≠ b) : Nat.beq a b = false := by
  cases hb : Nat.beq a b with
  | false => rfl
  | true => exact absurd (Nat.eq_of_beq_eq_true hb) h
theorem beqn {a b : Nat} (h : Nat.beq a b = false) : a ≠ b := Nat.ne_of_beq_eq_false h
theorem beqt {a b : Nat} (h : Nat.beq a b = true) : a = b := Nat.eq_of_beq_eq_true h
theorem beqe {a b : Nat} (h : a = b) : Nat.beq a b = true := by subst h; simp

theorem Tr.get_set {α : Type} (a : α) : ∀ (f : Nat) (t : Tr α) (n m : Nat), n < f → (t.set a f n).get m = if m = n then some a else t.get m
  | 0, t, n, m, h => by omega
  | f + 1, t, n, m, h => by
    have fin : ∀ (v : Option α) (l r : Tr α), (Tr.set a (f + 1) (.node v l r) n).get m = if m = n then some a else (Tr.node v l r).get m := by
      intro v l r
      simp only [Tr.set]
      split
      · rename_i h0
        have h0 : n = 0 := beqt h0
        subst h0
        by_cases hm : m = 0
        · subst hm; simp [Tr.get]
        · rw [if_neg hm]
          have : Nat.beq m 0 = false := beqf hm
          simp only [Tr.get, this]
      · rename_i h0
        have h0 : n ≠ 0 := beqn h0
        split
        · rename_i h1
          have h1 : n % 2 = 1 := beqt h1
          by_cases hm : m = 0
          · subst hm; rw [if_neg (by omega)]; simp [Tr.get]
          · have e0 : Nat.beq m 0 = false := beqf hm
            by_cases hp : m % 2 = 1
            · have e1 : Nat.beq (m % 2) 1 = true := beqe hp
              simp only [Tr.get, e0, e1]
              rw [Tr.get_set a f l (n / 2) (m / 2) (by omega)]
              have : (m / 2 = n / 2) ↔ m = n := by omega
              simp only [this]
            · have e1 : Nat.beq (m % 2) 1 = false := beqf hp
              simp only [Tr.get, e0, e1]
              rw [if_neg (by omega)]
        · rename_i h1
          have h1 : n % 2 ≠ 1 := beqn h1
          by_cases hm : m = 0
          · subst hm; rw [if_neg (by omega)]; simp [Tr.get]
          · have e0 : Nat.beq m 0 = false := beqf hm
            by_cases hp : m % 2 = 1
            · have e1 : Nat.beq (m % 2) 1 = true := beqe hp
              simp only [Tr.get, e0, e1]
              rw [if_neg (by omega)]
            · have e1 : Nat.beq (m % 2) 1 = false := beqf hp
              simp only [Tr.get, e0, e1]
              rw [Tr.get_set a f r (n / 2 - 1) (m / 2 - 1) (by omega)]
              have : (m / 2 - 1 = n / 2 - 1) ↔ m = n := by omega
              simp only [this]
    cases t with
    | node v l r => exact fin v l r
    | nil =>
      have h1 : Tr.set a (f + 1) .nil n = Tr.set a (f + 1) (.node none .nil .nil) n := by simp only [Tr.set]
      have h2 : ∀ m, (Tr.nil : Tr α).get m = (Tr.node none .nil .nil : Tr α).get m := by
        intro m
        simp only [Tr.get]
        split
        · rfl
        · split <;> rfl
      rw [h1, fin, h2]

def Tr.del {α : Type} : Nat → Tr α → Nat → Tr α
  | 0, t, _ => t
  | _ + 1, .nil, _ => .nil
  | f + 1, .node v l r, n => match Nat.beq n 0 with
    | true => .node none l r
    | false => match Nat.beq (n % 2) 1 with
      | true => .node v (Tr.del f l (n / 2)) r
      | false => .node v l (Tr.del f r (n / 2 - 1))

theorem Tr.get_del {α : Type} : ∀ (f : Nat) (t : Tr α) (n m : Nat), n < f → (t.del f n).get m = if m = n then none else t.get m
  | 0, t, n, m, h => by omega
  | f + 1, .nil, n, m, h => by simp [Tr.del, Tr.get]
  | f + 1, .node v l r, n, m, h => by
    simp only [Tr.del]
    split
    · rename_i h0
      have h0 : n = 0 := beqt h0
      subst h0
      by_cases hm : m = 0
      · subst hm; simp [Tr.get]
      · rw [if_neg hm]
        have : Nat.beq m 0 = false := beqf hm
        simp only [Tr.get, this]
    · rename_i h0
      have h0 : n ≠ 0 := beqn h0
      split
      · rename_i h1
        have h1 : n % 2 = 1 := beqt h1
        by_cases hm : m = 0
        · subst hm; rw [if_neg (by omega)]; simp [Tr.get]
        · have e0 : Nat.beq m 0 = false := beqf hm
          by_cases hp : m % 2 = 1
          · have e1 : Nat.beq (m % 2) 1 = true := beqe hp
            simp only [Tr.get, e0, e1]
            rw [Tr.get_del f l (n / 2) (m / 2) (by omega)]
            have : (m / 2 = n / 2) ↔ m = n := by omega
            simp only [this]
          · have e1 : Nat.beq (m % 2) 1 = false := beqf hp
            simp only [Tr.get, e0, e1]
            rw [if_neg (by omega)]
      · rename_i h1
        have h1 : n % 2 ≠ 1 := beqn h1
        by_cases hm : m = 0
        · subst hm; rw [if_neg (by omega)]; simp [Tr.get]
        · have e0 : Nat.beq m 0 = false := beqf hm
          by_cases hp : m % 2 = 1
          · have e1 : Nat.beq (m % 2) 1 = true := beqe hp
            simp only [Tr.get, e0, e1]
            rw [if_neg (by omega)]
          · have e1 : Nat.beq (m % 2) 1 = false := beqf hp
            simp only [Tr.get, e0, e1]
            rw [Tr.get_del f r (n / 2 - 1) (m / 2 - 1) (by omega)]
            have : (m / 2 - 1 = n / 2 - 1) ↔ m = n := by omega
            simp only [this]

structure XS where
  t : Tr HObj
  nx : Nat
def XS.get (s : XS) (x : Nat) : Option HObj := s.t.get x
def XS.hh (s : XS) : HH := ⟨s.t.get, s.nx⟩
def XS.set (s : XS) (x : Nat) (ob : HObj) : XS := ⟨s.t.set ob (x + 1) x, s.nx⟩
def XS.push (s : XS) (ob : HObj) : XS := ⟨s.t.set ob (s.nx + 1) s.nx, s.nx + 1⟩

theorem XS.hh_get (s : XS) (x : Nat) : s.hh x = s.get x := rfl
theorem XS.hh_nx (s : XS) : s.hh.nx = s.nx := rfl
theorem XS.hh_set (s : XS) (x : Nat) (ob : HObj) : (s.set x ob).hh = s.hh.set x ob :=
  HH.ext (fun y => by show (s.t.set ob (x + 1) x).get y = _; rw [Tr.get_set _ _ _ _ _ (by omega)]; rfl) rfl
theorem XS.hh_push (s : XS) (ob : HObj) : (s.push ob).hh = s.hh.push ob :=
  HH.ext (fun y => by show (s.t.set ob (s.nx + 1) s.nx).get y = _; rw [Tr.get_set _ _ _ _ _ (by omega)]; rfl) rfl

/-! ### operations that only compute -/
def xbin (op : BinOp) (a b : HV) : Option HV :=
  match op, a, b with
  | .shl, .int k x, .int _ y => if 0 ≤ y then some (.int k (k.wrap (x * 2 ^ (min y.toNat k.bits)))) else none
  | .shr, .int k x, .int _ y => if 0 ≤ y then some (.int k (x.fdiv (2 ^ (min y.toNat k.bits)))) else none
  | .add, .int k x, .int k' y => if k = k' then some (.int k (k.wrap (x + y))) else none
  | .sub, .int k x, .int k' y => if k = k' then some (.int k (k.wrap (x - y))) else none
  | .mul, .int k x, .int k' y => if k = k' then some (.int k (k.wrap (x * y))) else none
  | .quo, .int k x, .int k' y => if k = k' ∧ y ≠ 0 then some (.int k (k.wrap (x.tdiv y))) else none
  | .rem, .int k x, .int k' y => if k = k' ∧ y ≠ 0 then some (.int k (x.tmod y)) else none
  | .and, .int k x, .int k' y => if k = k' then some (.int k (k.wrap (BitVec.ofInt k.bits x &&& BitVec.ofInt k.bits y).toNat)) else none
  | .or, .int k x, .int k' y => if k = k' then some (.int k (k.wrap (BitVec.ofInt k.bits x ||| BitVec.ofInt k.bits y).toNat)) else none
  | .xor, .int k x, .int k' y => if k = k' then some (.int k (k.wrap (BitVec.ofInt k.bits x ^^^ BitVec.ofInt k.bits y).toNat)) else none
  | .eql, .int k x, .int k' y => if k = k' then some (.bool (decide (x = y))) else none
  | .neq, .int k x, .int k' y => if k = k' then some (.bool (decide (x ≠ y))) else none
  | .lss, .int k x, .int k' y => if k = k' then some (.bool (decide (x < y))) else none
  | .leq, .int k x, .int k' y => if k = k' then some (.bool (decide (x ≤ y))) else none
  | .gtr, .int k x, .int k' y => if k = k' then some (.bool (decide (x > y))) else none
  | .geq, .int k x, .int k' y => if k = k' then some (.bool (decide (x ≥ y))) else none
  | .add, .str x, .str y => if x.length + y.length ≤ 9223372036854775807 then some (.str (x ++ y)) else none
  | .eql, .str x, .str y => some (.bool (decide (x = y)))
  | .neq, .str x, .str y => some (.bool (decide (x ≠ y)))
  | .lss, .str x, .str y => some (.bool (Op.bytesLess x y))
  | .leq, .str x, .str y => some (.bool (Op.bytesLess x y || decide (x = y)))
  | .gtr, .str x, .str y => some (.bool !(Op.bytesLess x y || decide (x = y)))
  | .geq, .str x, .str y => some (.bool !(Op.bytesLess x y))
  | _, _, _ => none

theorem xbin_ok {op : BinOp} {a b v : HV} (h : xbin op a b = some v) : hbin op a b fun u => u = v := by
  unfold xbin at h
  unfold hbin
  split at h
  all_goals first
    | (cases h; done)
    | (split at h
       · rename_i hc
         cases h
         first | exact ⟨hc, rfl⟩ | exact ⟨hc.1, hc.2, rfl⟩
       · cases h)
    | (cases h; rfl)

def xplace (v : HV) (k : Nat) : Option HV :=
  match v with
  | .ptr x o => some (.ptr x (o + k))
  | .eptr cs => some (.eptr (cs.drop k))
  | .mptr x n i o => some (.mptr x n i (o + k))
  | _ => none
theorem xplace_ok {v u : HV} {k : Nat} (h : xplace v k = some u) : hplace v k fun w => w = u := by
  unfold xplace at h; unfold hplace
  split at h <;> first | (cases h; done) | (cases h; rfl)

def xelem (P : Program) (t : TypeId) (v i : HV) : Option HV :=
  match v, i with
  | .sl _ ds, .int _ i => if sliceElem P t = true ∧ 0 ≤ i ∧ i < ds.length ∧ ((ds.getD i.toNat .any).cells.length == P.cellsOf (P.elem t)) = true then some (.eptr ((ds.getD i.toNat .any).cells)) else none
  | .msl x n sz, .int _ i => if sliceElem P t = true ∧ 0 ≤ i ∧ i < n ∧ sz = P.cellsOf (P.elem t) then some (.mptr x n i.toNat 0) else none
  | .asl x o n _, .int _ i => if sliceElem P t = true ∧ 0 ≤ i ∧ i < n ∧ P.cellsOf (P.elem t) = 1 then some (.ptr x (o + i.toNat)) else none
  | .ptr x o, .int _ i => if 1 < arrLen P t ∧ 0 ≤ i ∧ i < arrLen P t then some (.ptr x (o + i.toNat * P.cellsOf (P.elem t))) else none
  | _, _ => none
theorem xelem_ok {P : Program} {t : TypeId} {v i u : HV} (h : xelem P t v i = some u) : helem P t v i fun w => w = u := by
  unfold xelem at h; unfold helem
  split at h
  · split at h
    · rename_i k i hc
      cases h
      refine ⟨hc.1, hc.2.1, hc.2.2.1, fun d hd => ?_, rfl⟩
      have := hc.2.2.2
      rw [List.getD_eq_getElem?_getD, hd] at this
      simpa using this
    · cases h
  · split at h
    · rename_i hc; cases h; exact ⟨hc.1, hc.2.1, hc.2.2.1, hc.2.2.2, rfl⟩
    · cases h
  · split at h
    · rename_i hc; cases h; exact ⟨hc.1, hc.2.1, hc.2.2.1, hc.2.2.2, rfl⟩
    · cases h
  · split at h
    · rename_i hc; cases h; exact ⟨hc.1, hc.2.1, hc.2.2, rfl⟩
    · cases h
  · cases h

def xsliceB (lo hi : Option HV) (n : Nat) : Option (Nat × Nat) :=
  match lo, hi with
  | none, none => some (0, n)
  | some (.int _ l), none => if 0 ≤ l ∧ l ≤ n then some (l.toNat, n) else none
  | none, some (.int _ m) => if 0 ≤ m ∧ m ≤ n then some (0, m.toNat) else none
  | some (.int _ l), some (.int _ m) => if 0 ≤ l ∧ l ≤ m ∧ m ≤ n then some (l.toNat, m.toNat) else none
  | _, _ => none
theorem xsliceB_ok {lo hi : Option HV} {n : Nat} {p : Nat × Nat} (h : xsliceB lo hi n = some p) : hsliceB lo hi n fun l m => l = p.1 ∧ m = p.2 := by
  unfold xsliceB at h; unfold hsliceB
  split at h
  · cases h; exact ⟨rfl, rfl⟩
  · split at h
    · rename_i hc; cases h; exact ⟨hc.1, hc.2, rfl, rfl⟩
    · cases h
  · split at h
    · rename_i hc; cases h; exact ⟨hc.1, hc.2, rfl, rfl⟩
    · cases h
  · split at h
    · rename_i hc; cases h; exact ⟨hc.1, hc.2.1, hc.2.2, rfl, rfl⟩
    · cases h
  · cases h

theorem hsliceB_mono {lo hi : Option HV} {n : Nat} {K K' : Nat → Nat → Prop} (hk : ∀ l m, K l m → K' l m) (h : hsliceB lo hi n K) : hsliceB lo hi n K' := by
  unfold hsliceB at h ⊢
  split at h
  · exact hk _ _ h
  · exact ⟨h.1, h.2.1, hk _ _ h.2.2⟩
  · exact ⟨h.1, h.2.1, hk _ _ h.2.2⟩
  · exact ⟨h.1, h.2.1, h.2.2.1, hk _ _ h.2.2.2⟩
  · exact h.elim

def xesz (P : Program) (e : TypeId) (ys : List HV) : Bool := ys.all fun d => Nat.beq d.cells.length (P.cellsOf e)
theorem xesz_ok {P : Program} {e : TypeId} {ys : List HV} (h : xesz P e ys = true) : esz P e ys := fun d hd => by
  have := List.all_eq_true.1 h d hd
  simpa using this

def isStr (P : Program) (t : TypeId) : Bool := match P.underlying t with | some .string => true | _ => false
def isBoo (P : Program) (t : TypeId) : Bool := match P.underlying t with | some .bool => true | _ => false
theorem isStr_of {P : Program} {t : TypeId} (h : isStr P t = true) : P.underlying t = some .string := by
  unfold isStr at h
  split at h
  · assumption
  · cases h
theorem isBoo_of {P : Program} {t : TypeId} (h : isBoo P t = true) : P.underlying t = some .bool := by
  unfold isBoo at h
  split at h
  · assumption
  · cases h

def xslice (P : Program) (t : TypeId) (x : HV) (lo hi : Option HV) (mx : Option HV) : Option HV :=
  match x, mx with
  | .str s, none => if isStr P t = true then (xsliceB lo hi s.length).map fun p => .str ((s.drop p.1).take (p.2 - p.1)) else none
  | .sl full ds, none => if sliceElem P t = true ∧ (P.info? (P.elem t)).isSome = true ∧ xesz P (P.elem t) ds = true then
      (xsliceB lo hi ds.length).map fun p => .sl (full && decide (p.2 = ds.length)) ((ds.drop p.1).take (p.2 - p.1)) else none
  | .sl full ds, some (.int _ m) => if sliceElem P t = true ∧ (P.info? (P.elem t)).isSome = true ∧ xesz P (P.elem t) ds = true ∧ hi.isSome = true ∧ 0 ≤ m ∧ m ≤ ds.length then
      (xsliceB lo hi m.toNat).map fun p => .sl (decide (p.2 = m.toNat)) ((ds.drop p.1).take (p.2 - p.1)) else none
  | .ptr y o, none => if arrPtr P t = true then (xsliceB lo hi (arrLen P t)).map fun p => aslOf y o p.1 p.2 (arrLen P t) else none
  | .asl y o n c, none => if sliceElem P t = true ∧ (P.info? (P.elem t)).isSome = true ∧ P.cellsOf (P.elem t) = 1 then (xsliceB lo hi n).map fun p => aslOf y o p.1 p.2 c else none
  | _, _ => none

def xloadOk (P : Program) (t : TypeId) (cs : List HV) (o : Nat) : Bool :=
  (P.underlying t).isSome && (if agg? P t = true then Nat.ble (o + P.cellsOf t) cs.length else Nat.blt o cs.length)
theorem xloadOk_ok {P : Program} {t : TypeId} {cs : List HV} {o : Nat} (h : xloadOk P t cs o = true) : hloadOk P t cs o := by
  unfold xloadOk at h
  simp only [Bool.and_eq_true] at h
  refine ⟨h.1, ?_⟩
  have h2 := h.2
  split
  · rename_i ha; rw [if_pos ha] at h2; exact Nat.le_of_ble_eq_true h2
  · rename_i ha; rw [if_neg ha] at h2; exact Nat.le_of_ble_eq_true h2

def xpure (P : Program) (op : Op) (ρ : Operand → HV) : Option HV :=
  match op with
  | .move x | .assign x => some (ρ x)
  | .pick c a b => match ρ c with | .bool t => some (if t then ρ a else ρ b) | _ => none
  | .nilCheck x => match ρ x with
    | .ptr x o => some (.ptr x o) | .eptr cs => some (.eptr cs) | .mptr x n i o => some (.mptr x n i o) | .fn f a b => some (.fn f a b) | .ifc t v => some (.ifc t v) | _ => none
  | .binOp op t x y _ =>
    match op, ρ x, ρ y with
    | .eql, .ptr _ _, .nilp | .eql, .eptr _, .nilp | .eql, .mptr .., .nilp => if hpure.isPtr P t = true then some (.bool false) else none
    | .neq, .ptr _ _, .nilp | .neq, .eptr _, .nilp | .neq, .mptr .., .nilp => if hpure.isPtr P t = true then some (.bool true) else none
    | .eql, .nilp, .nilp => if hpure.isPtr P t = true then some (.bool true) else none
    | .neq, .nilp, .nilp => if hpure.isPtr P t = true then some (.bool false) else none
    | .eql, .bool x, .bool y => if isBoo P t = true then some (.bool (x == y)) else none
    | .neq, .bool x, .bool y => if isBoo P t = true then some (.bool (x != y)) else none
    | .eql, .agg xs, .agg ys => (aggEq P t xs ys).map .bool
    | .neq, .agg xs, .agg ys => (aggEq P t xs ys).map fun r => .bool !r
    | op, a, b => xbin op a b
  | .unOp op _ x => match op, ρ x with
    | .not, .bool b => some (.bool !b)
    | .neg, .int k n => some (.int k (k.wrap (0 - n)))
    | .xor, .int k n => some (.int k (k.wrap (BitVec.ofInt k.bits (if k.signed then -1 else k.max) ^^^ BitVec.ofInt k.bits n).toNat))
    | _, _ => none
  | .convert src dst x => match P.underlying src, P.underlying dst, ρ x with
    | some _, some (.int k), .int _ n => some (.int k (k.wrap n))
    | some _, some .string, .str s => some (.str s)
    | _, _, _ => none
  | .makeInterface t x => if (P.underlying t).isSome = true ∧ hpure.isIface P t = false then some (.ifc t (ρ x)) else none
  | .makeFunc fn first cap => match fn with | .func f => some (.fn f (first.toList.map ρ) (cap.toList.map ρ)) | _ => none
  | .fieldAddr t x f => if isField P t f = true then xplace (ρ x) (foff P t f) else none
  | .indexAddr t x i => if (P.info? (P.elem t)).isSome = true then xelem P t (ρ x) (ρ i) else none
  | .index t x i => match ρ x, ρ i with
    | .str s, .int _ i => if isStr P t = true ∧ 0 ≤ i ∧ i < s.length then some (.int .u8 ((s.getD i.toNat 0).toNat)) else none
    | _, _ => none
  | .slice t x lo hi mx => xslice P t (ρ x) (lo.map ρ) (hi.map ρ) (mx.map ρ)
  | .extract x i => match ρ x with | .tup vs => vs[i]? | _ => none
  | .field t x f => match ρ x with
    | .agg cs => if isField P t f = true ∧ xloadOk P (ftyp P t f) cs (foff P t f) = true then some (hload P (ftyp P t f) cs (foff P t f)) else none
    | _ => none
  | .typeAssert x _ a ok => match ρ x with
    | .ifc t v => if t = a ∧ (P.underlying a).isSome = true ∧ hpure.isIface P a = false then some (if ok then .tup [v, .bool true] else v) else none
    | _ => none
  | _ => none

theorem xslice_ok {P : Program} {t : TypeId} {x : Operand} {lo hi mx : Option Operand} {ρ : Operand → HV} {v : HV} (h : xslice P t (ρ x) (lo.map ρ) (hi.map ρ) (mx.map ρ) = some v) : hpure P (.slice t x lo hi mx) ρ fun u => u = v := by
  unfold hpure
  simp only
  unfold xslice at h
  have bnd : ∀ {n : Nat} {f : Nat × Nat → HV}, (xsliceB (lo.map ρ) (hi.map ρ) n).map f = some v → hsliceB (lo.map ρ) (hi.map ρ) n fun l m => f (l, m) = v := by
    intro n f hb
    rw [Option.map_eq_some_iff] at hb
    obtain ⟨p, h1, h2⟩ := hb
    exact hsliceB_mono (fun l m e => by rw [e.1, e.2]; exact h2) (xsliceB_ok h1)
  generalize ρ x = vx at h ⊢
  cases mx with
  | none =>
    simp only [Option.map_none] at h
    split at h
    · split at h
      · rename_i hc
        exact ⟨isStr_of hc, bnd h⟩
      · cases h
    · split at h
      · rename_i hc; exact ⟨hc.1, hc.2.1, xesz_ok hc.2.2, bnd h⟩
      · cases h
    · rename_i heq; cases heq
    · split at h
      · rename_i hc; exact ⟨hc, bnd h⟩
      · cases h
    · split at h
      · rename_i hc; exact ⟨hc.1, hc.2.1, hc.2.2, bnd h⟩
      · cases h
    · cases h
  | some m =>
    simp only [Option.map_some] at h
    split at h
    · rename_i heq; cases heq
    · rename_i heq; cases heq
    · rename_i k n heq
      simp only [Option.some.injEq] at heq
      split at h
      · rename_i hc
        refine ⟨hc.1, hc.2.1, xesz_ok hc.2.2.1, by simpa using hc.2.2.2.1, ?_⟩
        rw [heq]
        exact ⟨hc.2.2.2.2.1, hc.2.2.2.2.2, bnd h⟩
      · cases h
    · rename_i heq; cases heq
    · rename_i heq; cases heq
    · cases h

theorem xpure_ok {P : Program} {op : Op} {ρ : Operand → HV} {v : HV} (h : xpure P op ρ = some v) : hpure P op ρ fun u => u = v := by
  cases op with
  | binOp bop t x y yt =>
    simp only [xpure] at h
    simp only [hpure]
    generalize ρ x = vx at h ⊢
    generalize ρ y = vy at h ⊢
    split at h
    case h_13 =>
      split
      case h_13 => exact xbin_ok h
      all_goals (exfalso; simp [xbin] at h)
    all_goals first
      | (split at h
         · rename_i hc; cases h; exact ⟨hc, rfl⟩
         · cases h)
      | (split at h
         · rename_i hc; cases h; exact ⟨isBoo_of hc, rfl⟩
         · cases h)
      | (rw [Option.map_eq_some_iff] at h
         obtain ⟨r, h1, h2⟩ := h
         simp only [h1]; exact h2)
  | slice t x lo hi mx => exact xslice_ok h
  | fieldAddr t x f =>
    simp only [xpure] at h
    simp only [hpure]
    split at h
    · rename_i hc; exact ⟨hc, xplace_ok h⟩
    · cases h
  | indexAddr t x i =>
    simp only [xpure] at h
    simp only [hpure]
    split at h
    · rename_i hc; exact ⟨hc, xelem_ok h⟩
    · cases h
  | index t x i =>
    simp only [xpure] at h
    simp only [hpure]
    split at h
    · split at h
      · rename_i e1 e2 hc
        cases h
        rw [e1, e2]
        exact ⟨isStr_of hc.1, hc.2.1, hc.2.2, rfl⟩
      · cases h
    · cases h
  | extract x i =>
    simp only [xpure] at h
    simp only [hpure]
    split at h
    · rename_i vs e; rw [e]; simp only [h]
    · cases h
  | makeInterface t x =>
    simp only [xpure] at h
    simp only [hpure]
    split at h
    · rename_i hc; cases h; exact ⟨hc.1, hc.2, rfl⟩
    · cases h
  | field t x f =>
    simp only [xpure] at h
    simp only [hpure]
    split at h
    · rename_i cs e
      rw [e]
      split at h
      · rename_i hc; cases h; exact ⟨hc.1, xloadOk_ok hc.2, rfl⟩
      · cases h
    · cases h
  | typeAssert x xt a ok =>
    simp only [xpure] at h
    simp only [hpure]
    split at h
    · rename_i t v e
      rw [e]
      split at h
      · rename_i hc; cases h; exact ⟨hc.1, hc.2.1, hc.2.2, rfl⟩
      · cases h
    · cases h
  | makeFunc fn first cap =>
    simp only [xpure] at h
    simp only [hpure]
    split at h
    · cases h; rfl
    · cases h
  | pick c a b =>
    simp only [xpure] at h
    simp only [hpure]
    split at h
    · rename_i t e; cases h; rw [e]
    · cases h
  | nilCheck x =>
    simp only [xpure] at h
    simp only [hpure]
    split at h <;> first | (cases h; done) | (rename_i e; cases h; rw [e])
  | unOp u t x =>
    simp only [xpure] at h
    simp only [hpure]
    split at h <;> first | (cases h; done) | (rename_i e; cases h; rw [e])
  | convert s d x =>
    simp only [xpure] at h
    simp only [hpure]
    split at h <;> first | (cases h; done) | (rename_i e1 e2 e3; cases h; rw [e1, e2, e3])
  | move x => simp only [xpure] at h; cases h; rfl
  | assign x => simp only [xpure] at h; cases h; rfl
  | _ => simp [xpure] at h
end Go.H
