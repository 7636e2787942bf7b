/- An evaluator made for the kernel: what a value is seen as, variables in a small tree, numbers. -/
import Derived.Test.YtclolaieehmgmaaGreatHRun5
set_option linter.unusedVariables false
set_option linter.unusedSimpArgs false
namespace Go.H
noncomputable section

/-! ### views -/
inductive VI where
  | no
  | ok (n : Int)
inductive VB where
  | no
  | tt
  | ff
inductive VP where
  | no
  | ptr (x o : Nat)
  | eptr (cs : List HV)
  | mptr (x n i o : Nat)
inductive VF where
  | no
  | ok (f : FuncId) (a b : List HV)
inductive VT where
  | no
  | ok (vs : List HV)
inductive VS where
  | no
  | str (s : List UInt8)
  | sl (ds : List HV)
  | msl (x n : Nat)
def asI (v : HV) : VI := HV.rec (motive_1 := fun _ => VI) (motive_2 := fun _ => Unit) .no (fun _ => .no) (fun k n => IntKind.rec (motive := fun _ => VI) .no .no .no (.ok n) .no .no .no .no k) (fun _ => .no) .no (fun _ _ => .no) (fun _ _ => .no) (fun _ _ _ _ => .no) (fun _ _ _ => .no) (fun _ _ _ => .no) (fun _ _ _ _ => .no) (fun _ => .no) (fun _ _ _ _ _ => .no) .no (fun _ _ _ => .no) .no (fun _ _ => .no) (fun _ _ => .no) () (fun _ _ _ _ => ()) v
def asN (v : HV) : VI := HV.rec (motive_1 := fun _ => VI) (motive_2 := fun _ => Unit) .no (fun _ => .no) (fun _ n => .ok n) (fun _ => .no) .no (fun _ _ => .no) (fun _ _ => .no) (fun _ _ _ _ => .no) (fun _ _ _ => .no) (fun _ _ _ => .no) (fun _ _ _ _ => .no) (fun _ => .no) (fun _ _ _ _ _ => .no) .no (fun _ _ _ => .no) .no (fun _ _ => .no) (fun _ _ => .no) () (fun _ _ _ _ => ()) v
def asB (v : HV) : VB := HV.rec (motive_1 := fun _ => VB) (motive_2 := fun _ => Unit) .no (fun b => Bool.rec (motive := fun _ => VB) .ff .tt b) (fun _ _ => .no) (fun _ => .no) .no (fun _ _ => .no) (fun _ _ => .no) (fun _ _ _ _ => .no) (fun _ _ _ => .no) (fun _ _ _ => .no) (fun _ _ _ _ => .no) (fun _ => .no) (fun _ _ _ _ _ => .no) .no (fun _ _ _ => .no) .no (fun _ _ => .no) (fun _ _ => .no) () (fun _ _ _ _ => ()) v
def asP (v : HV) : VP := HV.rec (motive_1 := fun _ => VP) (motive_2 := fun _ => Unit) .no (fun _ => .no) (fun _ _ => .no) (fun _ => .no) .no (fun x o => .ptr x o) (fun cs _ => .eptr cs) (fun x n i o => .mptr x n i o) (fun _ _ _ => .no) (fun _ _ _ => .no) (fun _ _ _ _ => .no) (fun _ => .no) (fun _ _ _ _ _ => .no) .no (fun _ _ _ => .no) .no (fun _ _ => .no) (fun _ _ => .no) () (fun _ _ _ _ => ()) v
def asF (v : HV) : VF := HV.rec (motive_1 := fun _ => VF) (motive_2 := fun _ => Unit) .no (fun _ => .no) (fun _ _ => .no) (fun _ => .no) .no (fun _ _ => .no) (fun _ _ => .no) (fun _ _ _ _ => .no) (fun _ _ _ => .no) (fun _ _ _ => .no) (fun _ _ _ _ => .no) (fun _ => .no) (fun f a b _ _ => .ok f a b) .no (fun _ _ _ => .no) .no (fun _ _ => .no) (fun _ _ => .no) () (fun _ _ _ _ => ()) v
def asT (v : HV) : VT := HV.rec (motive_1 := fun _ => VT) (motive_2 := fun _ => Unit) .no (fun _ => .no) (fun _ _ => .no) (fun _ => .no) .no (fun _ _ => .no) (fun _ _ => .no) (fun _ _ _ _ => .no) (fun _ _ _ => .no) (fun _ _ _ => .no) (fun _ _ _ _ => .no) (fun _ => .no) (fun _ _ _ _ _ => .no) .no (fun _ _ _ => .no) .no (fun _ _ => .no) (fun vs _ => .ok vs) () (fun _ _ _ _ => ()) v
def asS (v : HV) : VS := HV.rec (motive_1 := fun _ => VS) (motive_2 := fun _ => Unit) .no (fun _ => .no) (fun _ _ => .no) (fun s => .str s) .no (fun _ _ => .no) (fun _ _ => .no) (fun _ _ _ _ => .no) (fun _ ds _ => .sl ds) (fun x n _ => .msl x n) (fun _ _ _ _ => .no) (fun _ => .no) (fun _ _ _ _ _ => .no) .no (fun _ _ _ => .no) .no (fun _ _ => .no) (fun _ _ => .no) () (fun _ _ _ _ => ()) v
def cellsF (v : HV) : List HV := HV.rec (motive_1 := fun _ => List HV) (motive_2 := fun _ => Unit) [.any] (fun b => [.bool b]) (fun k n => [.int k n]) (fun s => [.str s]) [.nilp] (fun x o => [.ptr x o]) (fun cs _ => [.eptr cs]) (fun x n i o => [.mptr x n i o]) (fun f ds _ => [.sl f ds]) (fun x n z => [.msl x n z]) (fun x o n c => [.asl x o n c]) (fun x => [.map x]) (fun f a b _ _ => [.fn f a b]) [.nilf] (fun t v _ => [.ifc t v]) [.nili] (fun cs _ => cs) (fun vs _ => [.tup vs]) () (fun _ _ _ _ => ()) v
def oneF (v : HV) : Bool := HV.rec (motive_1 := fun _ => Bool) (motive_2 := fun _ => Unit) false (fun _ => true) (fun _ _ => true) (fun _ => true) true (fun _ _ => true) (fun _ _ => true) (fun _ _ _ _ => true) (fun _ _ _ => true) (fun _ _ _ => true) (fun _ _ _ _ => true) (fun _ => true) (fun _ _ _ _ _ => true) true (fun _ _ _ => true) true (fun _ _ => false) (fun _ _ => false) () (fun _ _ _ _ => ()) v

theorem asI_ok {v : HV} {n : Int} (h : asI v = .ok n) : v = .int .i64 n := by
  cases v with
  | int k m => cases k <;> first | (cases h; rfl) | cases h
  | _ => cases h
theorem asN_ok {v : HV} {n : Int} (h : asN v = .ok n) : ∃ k, v = .int k n := by
  cases v with
  | int k m => cases h; exact ⟨k, rfl⟩
  | _ => cases h
theorem asB_tt {v : HV} (h : asB v = .tt) : v = .bool true := by
  cases v with
  | bool b => cases b <;> first | rfl | cases h
  | _ => cases h
theorem asB_ff {v : HV} (h : asB v = .ff) : v = .bool false := by
  cases v with
  | bool b => cases b <;> first | rfl | cases h
  | _ => cases h
theorem asP_ptr {v : HV} {x o : Nat} (h : asP v = .ptr x o) : v = .ptr x o := by
  cases v <;> first | (cases h; rfl) | cases h
theorem asP_eptr {v : HV} {cs : List HV} (h : asP v = .eptr cs) : v = .eptr cs := by
  cases v <;> first | (cases h; rfl) | cases h
theorem asP_mptr {v : HV} {x n i o : Nat} (h : asP v = .mptr x n i o) : v = .mptr x n i o := by
  cases v <;> first | (cases h; rfl) | cases h
theorem asF_ok {v : HV} {f : FuncId} {a b : List HV} (h : asF v = .ok f a b) : v = .fn f a b := by
  cases v <;> first | (cases h; rfl) | cases h
theorem asT_ok {v : HV} {vs : List HV} (h : asT v = .ok vs) : v = .tup vs := by
  cases v <;> first | (cases h; rfl) | cases h
theorem asS_str {v : HV} {s : List UInt8} (h : asS v = .str s) : v = .str s := by
  cases v <;> first | (cases h; rfl) | cases h
theorem asS_sl {v : HV} {ds : List HV} (h : asS v = .sl ds) : ∃ f, v = .sl f ds := by
  cases v <;> first | (cases h; exact ⟨_, rfl⟩) | cases h
theorem asS_msl {v : HV} {x n : Nat} (h : asS v = .msl x n) : ∃ z, v = .msl x n z := by
  cases v <;> first | (cases h; exact ⟨_, rfl⟩) | cases h
theorem cellsF_eq (v : HV) : cellsF v = v.cells := by cases v <;> rfl
theorem oneF_ok {v : HV} (h : oneF v = true) : v.val = true ∧ v.cells = [v] := by
  cases v <;> first | exact ⟨rfl, rfl⟩ | cases h

/-! ### numbers -/
def forceN {α : Type} (n : Nat) (k : Nat → α) : α := Nat.rec (motive := fun _ => α) (k 0) (fun p _ => k (Nat.succ p)) n
theorem forceN_eq {α : Type} (n : Nat) (k : Nat → α) : forceN n k = k n := by cases n <;> rfl
def forceZ {α : Type} (n : Int) (k : Int → α) : α := Int.rec (motive := fun _ => α) (fun a => forceN a fun a => k (.ofNat a)) (fun a => forceN a fun a => k (.negSucc a)) n
theorem forceZ_eq {α : Type} (n : Int) (k : Int → α) : forceZ n k = k n := by
  cases n with
  | ofNat a => exact forceN_eq a fun a => k (.ofNat a)
  | negSucc a => exact forceN_eq a fun a => k (.negSucc a)
def w64 {α : Type} (n : Int) (k : Int → α) : α :=
  Int.rec (motive := fun _ => α) (fun a => Bool.rec (motive := fun _ => α) (forceZ (IntKind.i64.wrap (.ofNat a)) k) (forceN a fun a => k (.ofNat a)) (Nat.ble a 9223372036854775807))
    (fun a => Bool.rec (motive := fun _ => α) (forceZ (IntKind.i64.wrap (.negSucc a)) k) (forceN a fun a => k (.negSucc a)) (Nat.ble a 9223372036854775807)) n
theorem wrap_id {n : Int} (h1 : -9223372036854775808 ≤ n) (h2 : n ≤ 9223372036854775807) : IntKind.i64.wrap n = n := by
  simp [IntKind.wrap, IntKind.signed, IntKind.bits]; omega
theorem w64_eq {α : Type} (n : Int) (k : Int → α) : w64 n k = k (IntKind.i64.wrap n) := by
  cases n with
  | ofNat a =>
    simp only [w64]
    cases h : Nat.ble a 9223372036854775807 with
    | true =>
      have := Nat.le_of_ble_eq_true h
      simp only [forceN_eq]
      rw [wrap_id] <;> simp <;> omega
    | false => simp only [forceZ_eq]
  | negSucc a =>
    simp only [w64]
    cases h : Nat.ble a 9223372036854775807 with
    | true =>
      have := Nat.le_of_ble_eq_true h
      simp only [forceN_eq]
      rw [wrap_id] <;> omega
    | false => simp only [forceZ_eq]
def cmpI (f g : Nat → Nat → Bool) (p q : Bool) (x y : Int) : Bool :=
  Int.rec (motive := fun _ => Bool) (fun a => Int.rec (motive := fun _ => Bool) (fun b => f a b) (fun _ => p) y) (fun a => Int.rec (motive := fun _ => Bool) (fun _ => q) (fun b => g a b) y) x
def eqI : Int → Int → Bool := cmpI Nat.beq Nat.beq false false
def leI : Int → Int → Bool := cmpI Nat.ble (fun a b => Nat.ble b a) false true
def ltI : Int → Int → Bool := cmpI (fun a b => Nat.ble (Nat.succ a) b) (fun a b => Nat.ble (Nat.succ b) a) false true
theorem eqI_eq (x y : Int) : eqI x y = decide (x = y) := by
  rw [Bool.eq_iff_iff]
  cases x <;> cases y <;> simp only [eqI, cmpI, decide_eq_true_eq, Nat.beq_eq, Nat.ble_eq, Bool.false_eq_true, Int.ofNat_eq_natCast, false_iff, true_iff, Int.negSucc.injEq] <;> omega
theorem leI_eq (x y : Int) : leI x y = decide (x ≤ y) := by
  rw [Bool.eq_iff_iff]
  cases x <;> cases y <;> simp only [leI, cmpI, decide_eq_true_eq, Nat.beq_eq, Nat.ble_eq, Bool.false_eq_true, Int.ofNat_eq_natCast, false_iff, true_iff, Int.negSucc.injEq] <;> omega
theorem ltI_eq (x y : Int) : ltI x y = decide (x < y) := by
  rw [Bool.eq_iff_iff]
  cases x <;> cases y <;> simp only [ltI, cmpI, decide_eq_true_eq, Nat.beq_eq, Nat.ble_eq, Bool.false_eq_true, Int.ofNat_eq_natCast, false_iff, true_iff, Int.negSucc.injEq] <;> omega

/-! ### lists -/
def nthL {α : Type} (l : List α) : Nat → Option α :=
  List.rec (motive := fun _ => Nat → Option α) (fun _ => none) (fun a _ ih i => Nat.rec (motive := fun _ => Option α) (some a) (fun j _ => ih j) i) l
theorem nthL_eq {α : Type} : ∀ (l : List α) (i : Nat), nthL l i = l[i]?
  | [], i => by simp [nthL]
  | a :: l, 0 => rfl
  | a :: l, i + 1 => by rw [List.getElem?_cons_succ, ← nthL_eq l i]; rfl
def setL (x : HV) (l : List HV) : Nat → List HV :=
  List.rec (motive := fun _ => Nat → List HV) (fun _ => []) (fun a as ih i => Nat.rec (motive := fun _ => List HV) (x :: as) (fun j _ => a :: ih j) i) l
theorem setL_eq (x : HV) : ∀ (l : List HV) (i : Nat), i < l.length → setL x l i = splice l i [x]
  | [], i, h => by simp at h
  | a :: l, 0, h => by show x :: l = _; simp [splice]
  | a :: l, i + 1, h => by
    have := setL_eq x l i (by simpa using h)
    show a :: setL x l i = _
    rw [this]
    have e : i + 1 + 1 = (i + 1) + 1 := rfl
    simp [splice]
def lenL {α : Type} (l : List α) : Nat → Nat := List.rec (motive := fun _ => Nat → Nat) (fun n => n) (fun _ _ ih n => ih (Nat.succ n)) l
theorem lenL_add {α : Type} : ∀ (l : List α) (n : Nat), lenL l n = l.length + n
  | [], n => by simp [lenL]
  | a :: l, n => by
    show lenL l (Nat.succ n) = _
    rw [lenL_add l]; simp; omega
theorem lenL_eq {α : Type} (l : List α) : lenL l 0 = l.length := by rw [lenL_add]; rfl

/-! ### the heap -/
def look (t : Tr HObj) : Nat → Option HObj :=
  Tr.rec (motive := fun _ => Nat → Option HObj) (fun _ => none) (fun v _ _ il ir n => Bool.rec (motive := fun _ => Option HObj)
    (Bool.rec (motive := fun _ => Option HObj) (ir (Nat.sub (Nat.div n 2) 1)) (il (Nat.div n 2)) (Nat.beq (Nat.mod n 2) 1)) v (Nat.beq n 0)) t
theorem look_eq : ∀ (t : Tr HObj) (n : Nat), look t n = t.get n
  | .nil, n => by simp [look, Tr.get]
  | .node v l r, n => by
    simp only [Tr.get]
    show (Bool.rec (motive := fun _ => Option HObj) (Bool.rec (motive := fun _ => Option HObj) (look r (n / 2 - 1)) (look l (n / 2)) (Nat.beq (n % 2) 1)) v (Nat.beq n 0)) = _
    rw [look_eq l, look_eq r]
    cases Nat.beq n 0 <;> simp only <;> cases Nat.beq (n % 2) 1 <;> rfl
def lay (a : HObj) (t : Tr HObj) : Nat → Tr HObj :=
  Tr.rec (motive := fun _ => Nat → Tr HObj) (fun n => Tr.set a (n + 1) .nil n) (fun v l r il ir n => Bool.rec (motive := fun _ => Tr HObj)
    (Bool.rec (motive := fun _ => Tr HObj) (.node v l (ir (Nat.sub (Nat.div n 2) 1))) (.node v (il (Nat.div n 2)) r) (Nat.beq (Nat.mod n 2) 1)) (.node (some a) l r) (Nat.beq n 0)) t
theorem set_fuel {α : Type} (a : α) : ∀ (f g : Nat) (t : Tr α) (n : Nat), n < f → n < g → Tr.set a f t n = Tr.set a g t n
  | 0, _, _, n, h, _ => by omega
  | _ + 1, 0, _, n, _, h => by omega
  | f + 1, g + 1, .nil, n, h1, h2 => by
    simp only [Tr.set]
    split
    · rfl
    · rename_i h0
      have h0 : n ≠ 0 := beqn h0
      split
      · rw [set_fuel a f g _ _ (by omega) (by omega)]
      · rw [set_fuel a f g _ _ (by omega) (by omega)]
  | f + 1, g + 1, .node v l r, n, h1, h2 => by
    simp only [Tr.set]
    split
    · rfl
    · rename_i h0
      have h0 : n ≠ 0 := beqn h0
      split
      · rw [set_fuel a f g _ _ (by omega) (by omega)]
      · rw [set_fuel a f g _ _ (by omega) (by omega)]
theorem lay_eq (a : HObj) : ∀ (t : Tr HObj) (n : Nat), lay a t n = t.set a (n + 1) n
  | .nil, n => rfl
  | .node v l r, n => by
    show (Bool.rec (motive := fun _ => Tr HObj) (Bool.rec (motive := fun _ => Tr HObj) (.node v l (lay a r (n / 2 - 1))) (.node v (lay a l (n / 2)) r) (Nat.beq (n % 2) 1)) (.node (some a) l r) (Nat.beq n 0)) = _
    rw [lay_eq a l, lay_eq a r]
    simp only [Tr.set]
    cases h0 : Nat.beq n 0 with
    | true => rfl
    | false =>
      have h0 : n ≠ 0 := beqn h0
      simp only
      cases Nat.beq (n % 2) 1 with
      | true => simp only; rw [set_fuel a (n / 2 + 1) n _ _ (by omega) (by omega)]
      | false => simp only; rw [set_fuel a (n / 2 - 1 + 1) n _ _ (by omega) (by omega)]
def xput (s : XS) (x : Nat) (ob : HObj) : XS := ⟨lay ob s.t x, s.nx⟩
theorem xput_eq (s : XS) (x : Nat) (ob : HObj) : xput s x ob = s.set x ob := by simp only [xput, lay_eq, XS.set]
def xpush {α : Type} (s : XS) (ob : HObj) (k : Nat → XS → α) : α := forceN s.nx fun n => k n ⟨lay ob s.t n, Nat.succ n⟩
theorem xpush_eq {α : Type} (s : XS) (ob : HObj) (k : Nat → XS → α) : xpush s ob k = k s.nx (s.push ob) := by
  simp only [xpush, forceN_eq, lay_eq, XS.push]

/-! ### variables that live from region to region: 64 places -/
inductive N8 (α : Type) where
  | nil
  | node (a b c d e f g h : α)
inductive D8 where
  | a | b | c | d | e | f | g | h
  deriving DecidableEq
def D8.of : Nat → D8
  | 0 => .a | 1 => .b | 2 => .c | 3 => .d | 4 => .e | 5 => .f | 6 => .g | _ => .h
def N8.get {α : Type} (z : α) (i : D8) (t : N8 α) : α := N8.rec (motive := fun _ => α) z (fun a b c d e f g h => D8.rec (motive := fun _ => α) a b c d e f g h i) t
def N8.put {α : Type} (z : α) (i : D8) (k : α → α) (t : N8 α) : N8 α :=
  N8.rec (motive := fun _ => N8 α)
    (D8.rec (motive := fun _ => N8 α) (.node (k z) z z z z z z z) (.node z (k z) z z z z z z) (.node z z (k z) z z z z z) (.node z z z (k z) z z z z)
      (.node z z z z (k z) z z z) (.node z z z z z (k z) z z) (.node z z z z z z (k z) z) (.node z z z z z z z (k z)) i)
    (fun a b c d e f g h => D8.rec (motive := fun _ => N8 α) (.node (k a) b c d e f g h) (.node a (k b) c d e f g h) (.node a b (k c) d e f g h) (.node a b c (k d) e f g h)
      (.node a b c d (k e) f g h) (.node a b c d e (k f) g h) (.node a b c d e f (k g) h) (.node a b c d e f g (k h)) i) t
theorem N8.get_put {α : Type} (z : α) (i j : D8) (k : α → α) (t : N8 α) : (t.put z i k).get z j = if j = i then k (t.get z i) else t.get z j := by
  cases t <;> cases i <;> cases j <;> rfl
abbrev UT := N8 (N8 HV)
def UT.get (i j : D8) (t : UT) : HV := N8.get .any j (N8.get .nil i t)
def UT.put (i j : D8) (v : HV) (t : UT) : UT := N8.put .nil i (fun u => N8.put .any j (fun _ => v) u) t
theorem UT.get_put (i j i' j' : D8) (v : HV) (t : UT) : (UT.put i j v t).get i' j' = if i' = i ∧ j' = j then v else t.get i' j' := by
  simp only [UT.get, UT.put, N8.get_put]
  by_cases h1 : i' = i
  · subst h1
    simp only [if_true, N8.get_put, true_and]
  · simp only [h1, if_false, false_and]
/-- a place that is known beforehand -/
inductive Pf (α : Type) where
  | mk (f : (α → α) → N8 α → N8 α)
def Pf.run {α : Type} (p : Pf α) : (α → α) → N8 α → N8 α := Pf.rec (motive := fun _ => (α → α) → N8 α → N8 α) (fun f => f) p
def pf {α : Type} (z : α) : D8 → Pf α
  | .a => .mk fun k t => N8.rec (motive := fun _ => N8 α) (.node (k z) z z z z z z z) (fun a b c d e f g h => .node (k a) b c d e f g h) t
  | .b => .mk fun k t => N8.rec (motive := fun _ => N8 α) (.node z (k z) z z z z z z) (fun a b c d e f g h => .node a (k b) c d e f g h) t
  | .c => .mk fun k t => N8.rec (motive := fun _ => N8 α) (.node z z (k z) z z z z z) (fun a b c d e f g h => .node a b (k c) d e f g h) t
  | .d => .mk fun k t => N8.rec (motive := fun _ => N8 α) (.node z z z (k z) z z z z) (fun a b c d e f g h => .node a b c (k d) e f g h) t
  | .e => .mk fun k t => N8.rec (motive := fun _ => N8 α) (.node z z z z (k z) z z z) (fun a b c d e f g h => .node a b c d (k e) f g h) t
  | .f => .mk fun k t => N8.rec (motive := fun _ => N8 α) (.node z z z z z (k z) z z) (fun a b c d e f g h => .node a b c d e (k f) g h) t
  | .g => .mk fun k t => N8.rec (motive := fun _ => N8 α) (.node z z z z z z (k z) z) (fun a b c d e f g h => .node a b c d e f (k g) h) t
  | .h => .mk fun k t => N8.rec (motive := fun _ => N8 α) (.node z z z z z z z (k z)) (fun a b c d e f g h => .node a b c d e f g (k h)) t
theorem pf_run {α : Type} (z : α) (i : D8) (k : α → α) (t : N8 α) : (pf z i).run k t = t.put z i k := by cases i <;> cases t <;> rfl
inductive Gf (α : Type) where
  | mk (f : N8 α → α)
def Gf.run {α : Type} (p : Gf α) : N8 α → α := Gf.rec (motive := fun _ => N8 α → α) (fun f => f) p
def gf {α : Type} (z : α) : D8 → Gf α
  | .a => .mk fun t => N8.rec (motive := fun _ => α) z (fun a b c d e f g h => a) t
  | .b => .mk fun t => N8.rec (motive := fun _ => α) z (fun a b c d e f g h => b) t
  | .c => .mk fun t => N8.rec (motive := fun _ => α) z (fun a b c d e f g h => c) t
  | .d => .mk fun t => N8.rec (motive := fun _ => α) z (fun a b c d e f g h => d) t
  | .e => .mk fun t => N8.rec (motive := fun _ => α) z (fun a b c d e f g h => e) t
  | .f => .mk fun t => N8.rec (motive := fun _ => α) z (fun a b c d e f g h => f) t
  | .g => .mk fun t => N8.rec (motive := fun _ => α) z (fun a b c d e f g h => g) t
  | .h => .mk fun t => N8.rec (motive := fun _ => α) z (fun a b c d e f g h => h) t
theorem gf_run {α : Type} (z : α) (i : D8) (t : N8 α) : (gf z i).run t = t.get z i := by cases i <;> cases t <;> rfl
end
end Go.H
