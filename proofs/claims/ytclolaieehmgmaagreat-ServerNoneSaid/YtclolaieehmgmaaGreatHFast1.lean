/- An evaluator made for the kernel: operations as closures. -/
import Derived.Test.YtclolaieehmgmaaGreatHFast0
set_option linter.unusedVariables false
set_option linter.unusedSimpArgs false
namespace Go.H
noncomputable section

def topS (st : List HV) : Nat → HV := List.rec (motive := fun _ => Nat → HV) (fun _ => .any) (fun a _ ih i => Nat.rec (motive := fun _ => HV) a (fun j _ => ih j) i) st
theorem topS_eq : ∀ (st : List HV) (i : Nat), topS st i = st.getD i .any
  | [], i => by simp [topS]
  | a :: l, 0 => rfl
  | a :: l, i + 1 => by
    show topS l i = _
    rw [topS_eq l i]; simp

inductive FO where
  | l (i : Nat)
  | g (i j : D8)
  | c (v : HV)
def FO.get (o : FO) (st : List HV) (U : UT) : HV := FO.rec (motive := fun _ => HV) (fun i => topS st i) (fun i j => (gf HV.any j).run ((gf N8.nil i).run U)) (fun v => v) o

def idx (t : Nat) (l : List Nat) : Nat → Option Nat :=
  List.rec (motive := fun _ => Nat → Option Nat) (fun _ => none) (fun a _ ih i => Bool.rec (motive := fun _ => Option Nat) (ih (Nat.succ i)) (some i) (Nat.beq a t)) l
theorem idx_nil (t i : Nat) : idx t [] i = none := rfl
theorem idx_cons (t a : Nat) (l : List Nat) (i : Nat) : idx t (a :: l) i = match Nat.beq a t with | true => some i | false => idx t l (i + 1) := by
  show Bool.rec (motive := fun _ => Option Nat) (idx t l (i + 1)) (some i) (Nat.beq a t) = _
  cases Nat.beq a t <;> rfl
def lk (ks loc : List Nat) (st : List HV) (U : UT) (t : Nat) : HV :=
  match idx t loc 0 with
  | some i => st.getD i .any
  | none => match idx t ks 0 with
    | some n => U.get (D8.of (n / 8)) (D8.of (n % 8))
    | none => .any
def hevS (ks loc : List Nat) (st : List HV) (U : UT) : Operand → HV
  | .tmp t => lk ks loc st U t
  | .const v => hv v
  | .global _ => .any
  | .func f => .fn f [] []
def fop (ks loc : List Nat) : Operand → FO
  | .tmp t => match idx t loc 0 with
    | some i => .l i
    | none => match idx t ks 0 with
      | some n => .g (D8.of (n / 8)) (D8.of (n % 8))
      | none => .c .any
  | .const v => .c (hv v)
  | .global _ => .c .any
  | .func f => .c (.fn f [] [])
theorem fop_get (ks loc : List Nat) (st : List HV) (U : UT) (o : Operand) : (fop ks loc o).get st U = hevS ks loc st U o := by
  cases o with
  | tmp t =>
    simp only [fop, hevS, lk]
    cases idx t loc 0 with
    | some i => exact topS_eq st i
    | none =>
      cases idx t ks 0 with
      | none => rfl
      | some n => simp only [FO.get, gf_run]; rfl
  | _ => rfl

inductive R1 where
  | no
  | ok (v : HV) (s : XS)
abbrev FCall := FuncId → List HV → XS → R1
inductive Clo where
  | no
  | mk (f : FCall → List HV → UT → XS → R1)
def Clo.run (c : Clo) : FCall → List HV → UT → XS → R1 := Clo.rec (motive := fun _ => FCall → List HV → UT → XS → R1) (fun _ _ _ _ => .no) (fun f => f) c

def r1 : Option (HV × XS) → R1
  | some (v, s) => .ok v s
  | none => .no
def r1v (s : XS) (o : Option HV) : R1 := Option.rec (motive := fun _ => R1) .no (fun v => .ok v s) o
theorem r1_ok {o : Option (HV × XS)} {v : HV} {s : XS} (h : r1 o = .ok v s) : o = some (v, s) := by
  unfold r1 at h
  split at h
  · cases h; rfl
  · cases h
theorem r1v_ok {o : Option HV} {v : HV} {s s' : XS} (h : r1v s o = .ok v s') : o.map (fun v => (v, s)) = some (v, s') := by
  cases o with
  | none => cases h
  | some u => cases h; rfl
def xcOf (c : FCall) : XCall := fun f a s => R1.rec (motive := fun _ => Option (HV × XS)) none (fun v s => some (v, s)) (c f a s)
theorem xcOf_ok {c : FCall} {f : FuncId} {a : List HV} {s s' : XS} {v : HV} (h : c f a s = .ok v s') : xcOf c f a s = some (v, s') := by
  simp only [xcOf, h]

/-! ### closures -/
def fMove (x : FO) : Clo := .mk fun _ st U s => .ok (x.get st U) s

/-- two whole numbers of 64 bits, or something else -/
def fI2 (f : Int → Int → XS → R1) (alt : HV → HV → XS → R1) (x y : FO) : Clo := .mk fun _ st U s =>
  VI.rec (motive := fun _ => R1) (alt (x.get st U) (y.get st U) s) (fun n => VI.rec (motive := fun _ => R1) (alt (x.get st U) (y.get st U) s) (fun m => f n m s) (asI (y.get st U))) (asI (x.get st U))
theorem fI2_ok {f : Int → Int → XS → R1} {alt : HV → HV → XS → R1} {x y : FO} {c : FCall} {st : List HV} {U : UT} {s s' : XS} {v : HV} (h : (fI2 f alt x y).run c st U s = .ok v s') {G : Prop}
    (hf : ∀ n m, x.get st U = .int .i64 n → y.get st U = .int .i64 m → f n m s = .ok v s' → G) (ha : alt (x.get st U) (y.get st U) s = .ok v s' → G) : G := by
  simp only [fI2, Clo.run] at h
  cases hx : asI (x.get st U) with
  | no => rw [hx] at h; exact ha h
  | ok n =>
    rw [hx] at h
    cases hy : asI (y.get st U) with
    | no => rw [hy] at h; exact ha h
    | ok m => rw [hy] at h; exact hf n m (asI_ok hx) (asI_ok hy) h

def xbop (P : Program) (op : BinOp) (t : TypeId) (x y : HV) : Option HV :=
  match op, x, y with
    | .eql, .ptr _ _, .nilp | .eql, .eptr _, .nilp | .eql, .mptr .., .nilp => if hpure.isPtr P t = true then some (.bool false) else none
    | .neq, .ptr _ _, .nilp | .neq, .eptr _, .nilp | .neq, .mptr .., .nilp => if hpure.isPtr P t = true then some (.bool true) else none
    | .eql, .nilp, .nilp => if hpure.isPtr P t = true then some (.bool true) else none
    | .neq, .nilp, .nilp => if hpure.isPtr P t = true then some (.bool false) else none
    | .eql, .bool x, .bool y => if isBoo P t = true then some (.bool (x == y)) else none
    | .neq, .bool x, .bool y => if isBoo P t = true then some (.bool (x != y)) else none
    | .eql, .agg xs, .agg ys => (aggEq P t xs ys).map .bool
    | .neq, .agg xs, .agg ys => (aggEq P t xs ys).map fun r => .bool !r
    | op, a, b => xbin op a b
theorem xbop_eq (P : Program) (op : BinOp) (t : TypeId) (x y : Operand) (yt : TypeId) (ρ : Operand → HV) : xpure P (.binOp op t x y yt) ρ = xbop P op t (ρ x) (ρ y) := by
  rfl

def fBin (P : Program) (op : BinOp) (t : TypeId) (x y : FO) : Clo :=
  match op with
  | .add => fI2 (fun n m s => w64 (n + m) fun n => .ok (.int .i64 n) s) (fun a b s => r1v s (xbop P .add t a b)) x y
  | .sub => fI2 (fun n m s => w64 (n - m) fun n => .ok (.int .i64 n) s) (fun a b s => r1v s (xbop P .sub t a b)) x y
  | .eql => fI2 (fun n m s => .ok (.bool (eqI n m)) s) (fun a b s => r1v s (xbop P .eql t a b)) x y
  | .neq => fI2 (fun n m s => .ok (.bool (!eqI n m)) s) (fun a b s => r1v s (xbop P .neq t a b)) x y
  | .lss => fI2 (fun n m s => .ok (.bool (ltI n m)) s) (fun a b s => r1v s (xbop P .lss t a b)) x y
  | .leq => fI2 (fun n m s => .ok (.bool (leI n m)) s) (fun a b s => r1v s (xbop P .leq t a b)) x y
  | .gtr => fI2 (fun n m s => .ok (.bool (ltI m n)) s) (fun a b s => r1v s (xbop P .gtr t a b)) x y
  | .geq => fI2 (fun n m s => .ok (.bool (leI m n)) s) (fun a b s => r1v s (xbop P .geq t a b)) x y
  | op => .mk fun _ st U s => r1v s (xbop P op t (x.get st U) (y.get st U))

section
variable {P : Program} {c : FCall} {st : List HV} {U : UT} {s s' : XS} {v : HV}

theorem fBin_ok {op : BinOp} {t : TypeId} {x y : FO} (h : (fBin P op t x y).run c st U s = .ok v s') : (xbop P op t (x.get st U) (y.get st U)).map (fun v => (v, s)) = some (v, s') := by
  unfold fBin at h
  split at h
  · refine fI2_ok h (fun n m hx hy hf => ?_) (fun ha => r1v_ok ha)
    rw [w64_eq] at hf; cases hf
    simp [hx, hy, xbop, xbin]
  · refine fI2_ok h (fun n m hx hy hf => ?_) (fun ha => r1v_ok ha)
    rw [w64_eq] at hf; cases hf
    simp [hx, hy, xbop, xbin]
  · refine fI2_ok h (fun n m hx hy hf => ?_) (fun ha => r1v_ok ha)
    rw [eqI_eq] at hf; cases hf
    simp [hx, hy, xbop, xbin]
  · refine fI2_ok h (fun n m hx hy hf => ?_) (fun ha => r1v_ok ha)
    rw [eqI_eq] at hf; cases hf
    simp [hx, hy, xbop, xbin]
  · refine fI2_ok h (fun n m hx hy hf => ?_) (fun ha => r1v_ok ha)
    rw [ltI_eq] at hf; cases hf
    simp [hx, hy, xbop, xbin]
  · refine fI2_ok h (fun n m hx hy hf => ?_) (fun ha => r1v_ok ha)
    rw [leI_eq] at hf; cases hf
    simp [hx, hy, xbop, xbin]
  · refine fI2_ok h (fun n m hx hy hf => ?_) (fun ha => r1v_ok ha)
    rw [ltI_eq] at hf; cases hf
    simp [hx, hy, xbop, xbin]
  · refine fI2_ok h (fun n m hx hy hf => ?_) (fun ha => r1v_ok ha)
    rw [leI_eq] at hf; cases hf
    simp [hx, hy, xbop, xbin]
  · exact r1v_ok h

def fPick (x a b : FO) : Clo := .mk fun _ st U s => VB.rec (motive := fun _ => R1) .no (.ok (a.get st U) s) (.ok (b.get st U) s) (asB (x.get st U))
theorem fPick_ok {x a b : FO} (h : (fPick x a b).run c st U s = .ok v s') : (match x.get st U with | .bool t => some (if t then a.get st U else b.get st U) | _ => none).map (fun v => (v, s)) = some (v, s') := by
  simp only [fPick, Clo.run] at h
  cases hx : asB (x.get st U) with
  | no => rw [hx] at h; cases h
  | tt => rw [hx] at h; cases h; rw [asB_tt hx]; rfl
  | ff => rw [hx] at h; cases h; rw [asB_ff hx]; rfl

def fNot (x : FO) : Clo := .mk fun _ st U s => VB.rec (motive := fun _ => R1) .no (.ok (.bool false) s) (.ok (.bool true) s) (asB (x.get st U))
theorem fNot_ok {x : FO} (h : (fNot x).run c st U s = .ok v s') : ∃ b, x.get st U = .bool b ∧ v = .bool !b ∧ s' = s := by
  simp only [fNot, Clo.run] at h
  cases hx : asB (x.get st U) with
  | no => rw [hx] at h; cases h
  | tt => rw [hx] at h; cases h; exact ⟨true, asB_tt hx, rfl, rfl⟩
  | ff => rw [hx] at h; cases h; exact ⟨false, asB_ff hx, rfl, rfl⟩

def xnil (v : HV) : Option HV := match v with
  | .ptr x o => some (.ptr x o) | .eptr cs => some (.eptr cs) | .mptr x n i o => some (.mptr x n i o) | .fn f a b => some (.fn f a b) | .ifc t v => some (.ifc t v) | _ => none
def fNil (x : FO) : Clo := .mk fun _ st U s => VP.rec (motive := fun _ => R1) (r1v s (xnil (x.get st U))) (fun a o => .ok (.ptr a o) s) (fun cs => .ok (.eptr cs) s) (fun a n i o => .ok (.mptr a n i o) s) (asP (x.get st U))
theorem fNil_ok {x : FO} (h : (fNil x).run c st U s = .ok v s') : (xnil (x.get st U)).map (fun v => (v, s)) = some (v, s') := by
  simp only [fNil, Clo.run] at h
  cases hx : asP (x.get st U) with
  | no => rw [hx] at h; exact r1v_ok h
  | ptr => rw [hx] at h; cases h; rw [asP_ptr hx]; rfl
  | eptr => rw [hx] at h; cases h; rw [asP_eptr hx]; rfl
  | mptr => rw [hx] at h; cases h; rw [asP_mptr hx]; rfl

def fField (k : Nat) (x : FO) : Clo := .mk fun _ st U s => VP.rec (motive := fun _ => R1) .no (fun a o => forceN (Nat.add o k) fun o => .ok (.ptr a o) s) (fun cs => .ok (.eptr (cs.drop k)) s)
  (fun a n i o => forceN (Nat.add o k) fun o => .ok (.mptr a n i o) s) (asP (x.get st U))
theorem fField_ok {k : Nat} {x : FO} (h : (fField k x).run c st U s = .ok v s') : (xplace (x.get st U) k).map (fun v => (v, s)) = some (v, s') := by
  simp only [fField, Clo.run] at h
  cases hx : asP (x.get st U) with
  | no => rw [hx] at h; cases h
  | ptr => rw [hx] at h; simp only [forceN_eq] at h; cases h; rw [asP_ptr hx]; rfl
  | eptr => rw [hx] at h; cases h; rw [asP_eptr hx]; rfl
  | mptr => rw [hx] at h; simp only [forceN_eq] at h; cases h; rw [asP_mptr hx]; rfl

/-- one cell that lies at a place -/
def cellAt (s : XS) (v : HV) : Option HV := VP.rec (motive := fun _ => Option HV) none
  (fun x o => Option.rec (motive := fun _ => Option HV) none (fun ob => HObj.rec (motive := fun _ => Option HV) (fun cs => nthL cs o) (fun _ _ _ => none) (fun _ _ => none) (fun _ _ _ _ => none) ob) (look s.t x))
  (fun cs => nthL cs 0)
  (fun x n i o => Option.rec (motive := fun _ => Option HV) none (fun ob => HObj.rec (motive := fun _ => Option HV) (fun _ => none)
    (fun _ _ ds => Bool.rec (motive := fun _ => Option HV) none (Option.rec (motive := fun _ => Option HV) none (fun d => nthL (cellsF d) o) (nthL ds i)) (Nat.beq (lenL ds 0) n)) (fun _ _ => none) (fun _ _ _ _ => none) ob) (look s.t x))
  (asP v)
theorem cellAt_ok {v u : HV} (h : cellAt s v = some u) : ∃ q, hcells s.hh v = some q ∧ q.1[q.2]? = some u := by
  simp only [cellAt] at h
  cases hv : asP v with
  | no => rw [hv] at h; cases h
  | ptr x o =>
    simp only [hv, look_eq] at h
    cases hl : s.t.get x with
    | none => simp only [hl] at h; cases h
    | some ob =>
      simp only [hl] at h
      cases ob with
      | cells cs =>
        simp only [nthL_eq] at h
        rw [asP_ptr hv]
        exact ⟨(cs, o), by simp only [hcells, XS.hh, hl], h⟩
      | _ => cases h
  | eptr cs =>
    simp only [hv, nthL_eq] at h
    rw [asP_eptr hv]
    exact ⟨(cs, 0), rfl, h⟩
  | mptr x n i o =>
    simp only [hv, look_eq] at h
    cases hl : s.t.get x with
    | none => simp only [hl] at h; cases h
    | some ob =>
      simp only [hl] at h
      cases ob with
      | row im e ds =>
        simp only [lenL_eq, nthL_eq] at h
        cases hb : Nat.beq ds.length n with
        | false => simp only [hb] at h; cases h
        | true =>
          simp only [hb] at h
          cases hd : ds[i]? with
          | none => simp only [hd] at h; cases h
          | some d =>
            simp only [hd, cellsF_eq] at h
            rw [asP_mptr hv]
            refine ⟨(d.cells, o), ?_, h⟩
            simp only [hcells, XS.hh, hl, if_pos (beqt hb), hd, Option.map_some]
      | _ => cases h

def fLoad1 (x : FO) : Clo := .mk fun _ st U s => r1v s (cellAt s (x.get st U))
theorem fLoad1_ok {t : TypeId} (ht : ((P.underlying t).isSome && !agg? P t) = true) {x : Operand} {ks loc : List Nat} (h : (fLoad1 (fop ks loc x)).run c st U s = .ok v s') :
    xop P (xcOf c) (.load t x) (hevS ks loc st U) s = some (v, s') := by
  have h2 := r1v_ok h
  rw [Option.map_eq_some_iff] at h2
  obtain ⟨u, h3, h4⟩ := h2
  cases h4
  obtain ⟨q, h5, h6⟩ := cellAt_ok h3
  rw [fop_get] at h5
  simp only [Bool.and_eq_true, Bool.not_eq_true'] at ht
  have hlt : q.2 < q.1.length := (List.getElem?_eq_some_iff.1 h6).1
  have hb : Nat.blt q.2 q.1.length = true := Nat.ble_eq_true_of_le hlt
  have hok : okLoad P t q.1 q.2 = true := by simp only [okLoad, ht.1, ht.2, Bool.false_eq_true, if_false, hb, Bool.and_self]
  have hld : hload P t q.1 q.2 = v := by
    simp only [hload, ht.2, Bool.false_eq_true, if_false, List.getD_eq_getElem?_getD, h6, Option.getD_some]
  simp only [xop, isPure, Bool.false_eq_true, if_false, xmem, h5, hok, if_true, hld]

def fStore1 (x y : FO) (alt : HV → HV → XS → R1) : Clo := .mk fun _ st U s => VP.rec (motive := fun _ => R1) (alt (x.get st U) (y.get st U) s)
  (fun a o => Bool.rec (motive := fun _ => R1) (alt (x.get st U) (y.get st U) s)
    (Option.rec (motive := fun _ => R1) .no (fun ob => HObj.rec (motive := fun _ => R1) (fun cs => Bool.rec (motive := fun _ => R1) .no (.ok .any (xput s a (.cells (setL (y.get st U) cs o)))) (Nat.ble (Nat.succ o) (lenL cs 0)))
      (fun _ _ _ => .no) (fun _ _ => .no) (fun _ _ _ _ => .no) ob) (look s.t a)) (oneF (y.get st U)))
  (fun _ => alt (x.get st U) (y.get st U) s) (fun _ _ _ _ => alt (x.get st U) (y.get st U) s) (asP (x.get st U))
def altStore (P : Program) (t : TypeId) (p v : HV) (s : XS) : R1 := match xstore P t p v s with | some s' => .ok .any s' | none => .no
theorem fStore1_ok {t : TypeId} (ht : ((P.info? t).isSome && Nat.beq (P.cellsOf t) 1) = true) {x y : Operand} {ks loc : List Nat} (h : (fStore1 (fop ks loc x) (fop ks loc y) (altStore P t)).run c st U s = .ok v s') :
    xop P (xcOf c) (.store t x y) (hevS ks loc st U) s = some (v, s') := by
  simp only [Bool.and_eq_true] at ht
  have alt : altStore P t (hevS ks loc st U x) (hevS ks loc st U y) s = .ok v s' → xop P (xcOf c) (.store t x y) (hevS ks loc st U) s = some (v, s') := by
    intro ha
    simp only [xop, isPure, Bool.false_eq_true, if_false, xmem]
    unfold altStore at ha
    split at ha
    · rename_i e; cases ha; rw [e]; rfl
    · cases ha
  simp only [fStore1, Clo.run, fop_get] at h
  cases hx : asP (hevS ks loc st U x) with
  | no => rw [hx] at h; exact alt h
  | eptr => rw [hx] at h; exact alt h
  | mptr => rw [hx] at h; exact alt h
  | ptr a o =>
    rw [hx] at h
    cases hy : oneF (hevS ks loc st U y) with
    | false => simp only [hy] at h; exact alt h
    | true =>
      simp only [hy, look_eq] at h
      cases hl : s.t.get a with
      | none => simp only [hl] at h; cases h
      | some ob =>
        simp only [hl] at h
        cases ob with
        | cells cs =>
          simp only [lenL_eq] at h
          cases hb : Nat.ble (Nat.succ o) cs.length with
          | false => simp only [hb] at h; cases h
          | true =>
            simp only [hb] at h
            cases h
            have hlt : o < cs.length := Nat.le_of_ble_eq_true hb
            obtain ⟨h1, h2⟩ := oneF_ok hy
            have h3 : (Nat.beq (hevS ks loc st U y).cells.length (P.cellsOf t)) = true := by rw [h2, beqt ht.2]; rfl
            have h4 : o + (hevS ks loc st U y).cells.length ≤ cs.length := by rw [h2]; exact hlt
            have hs : xstore P t (hevS ks loc st U x) (hevS ks loc st U y) s = some (s.set a (.cells (splice cs o (hevS ks loc st U y).cells))) := by
              unfold xstore
              rw [if_pos ⟨h1, h3, ht.1⟩, asP_ptr hx]
              simp only [XS.get, hl, if_pos h4]
            simp only [xop, isPure, Bool.false_eq_true, if_false, xmem, hs, Option.map_some, xput_eq, setL_eq _ _ _ hlt, h2]
        | _ => cases h

def fLen (P : Program) (t : TypeId) (x : FO) : Clo :=
  match sliceElem P t with
  | true => .mk fun _ st U s => VS.rec (motive := fun _ => R1) (r1v s (xlen P t (x.get st U) s)) (fun _ => .no) (fun ds => forceN (lenL ds 0) fun n => .ok (.int .i64 (.ofNat n)) s) (fun _ n => .ok (.int .i64 (.ofNat n)) s) (asS (x.get st U))
  | false => match isStr P t with
    | true => .mk fun _ st U s => VS.rec (motive := fun _ => R1) .no (fun b => forceN (lenL b 0) fun n => .ok (.int .i64 (.ofNat n)) s) (fun _ => .no) (fun _ _ => .no) (asS (x.get st U))
    | false => .mk fun _ st U s => r1v s (xlen P t (x.get st U) s)
theorem fLen_ok {t : TypeId} {x : FO} (h : (fLen P t x).run c st U s = .ok v s') : (xlen P t (x.get st U) s).map (fun v => (v, s)) = some (v, s') := by
  unfold fLen at h
  split at h
  · rename_i ht
    simp only [Clo.run] at h
    cases hx : asS (x.get st U) with
    | no => rw [hx] at h; exact r1v_ok h
    | str => rw [hx] at h; cases h
    | sl ds => rw [hx] at h; simp only [forceN_eq, lenL_eq] at h; cases h; obtain ⟨f, e⟩ := asS_sl hx; simp [e, xlen, ht]
    | msl a n => rw [hx] at h; cases h; obtain ⟨f, e⟩ := asS_msl hx; simp [e, xlen, ht]
  · split at h
    · rename_i ht
      simp only [Clo.run] at h
      cases hx : asS (x.get st U) with
      | str b => rw [hx] at h; simp only [forceN_eq, lenL_eq] at h; cases h; simp [asS_str hx, xlen, ht]
      | _ => rw [hx] at h; cases h
    · exact r1v_ok h

def fExtract (i : Nat) (x : FO) : Clo := .mk fun _ st U s => VT.rec (motive := fun _ => R1) .no (fun vs => r1v s (nthL vs i)) (asT (x.get st U))
theorem fExtract_ok {i : Nat} {x : FO} (h : (fExtract i x).run c st U s = .ok v s') : (match x.get st U with | .tup vs => vs[i]? | _ => none).map (fun v => (v, s)) = some (v, s') := by
  simp only [fExtract, Clo.run] at h
  cases hx : asT (x.get st U) with
  | no => rw [hx] at h; cases h
  | ok vs => rw [hx] at h; rw [asT_ok hx]; have := r1v_ok h; rw [nthL_eq] at this; exact this

def evs (st : List HV) (U : UT) (as : List FO) : List HV := List.rec (motive := fun _ => List HV) [] (fun a _ ih => a.get st U :: ih) as
theorem evs_eq (st : List HV) (U : UT) : ∀ as : List FO, evs st U as = as.map fun a => a.get st U
  | [] => rfl
  | a :: l => by show a.get st U :: evs st U l = _; rw [evs_eq st U l]; rfl
def appL (a b : List HV) : List HV := List.rec (motive := fun _ => List HV) b (fun x _ ih => x :: ih) a
theorem appL_eq : ∀ a b : List HV, appL a b = a ++ b
  | [], b => rfl
  | x :: a, b => by show x :: appL a b = _; rw [appL_eq a b]; rfl
def fCall (f : FO) (as : List FO) : Clo := .mk fun c st U s => VF.rec (motive := fun _ => R1) .no (fun n a b => c n (appL a (appL (evs st U as) b)) s) (asF (f.get st U))
theorem fCall_ok {f : Operand} {args : Array Operand} {ts : Array TypeId} {ks loc : List Nat} (h : (fCall (fop ks loc f) (args.toList.map (fop ks loc))).run c st U s = .ok v s') :
    xop P (xcOf c) (.call ⟨.value f, args, ts⟩) (hevS ks loc st U) s = some (v, s') := by
  simp only [fCall, Clo.run] at h
  cases hx : asF ((fop ks loc f).get st U) with
  | no => rw [hx] at h; cases h
  | ok n a b =>
    rw [hx] at h
    have hx := asF_ok hx
    rw [fop_get] at hx
    simp only [appL_eq, evs_eq, List.map_map] at h
    have hm : (List.map ((fun a => FO.get a st U) ∘ fop ks loc) args.toList) = args.toList.map (hevS ks loc st U) := List.map_congr_left fun o _ => fop_get ks loc st U o
    rw [hm, ← List.append_assoc] at h
    simp only [xop, isPure, Bool.false_eq_true, if_false, xmem, hx]
    exact xcOf_ok h

def fIndex (P : Program) (t : TypeId) (x i : FO) : Clo :=
  match isStr P t with
  | true => .mk fun _ st U s => VS.rec (motive := fun _ => R1) .no (fun b => VI.rec (motive := fun _ => R1) .no (fun n => Int.rec (motive := fun _ => R1) (fun n => Option.rec (motive := fun _ => R1) .no (fun u => forceN u.toNat fun m => .ok (.int .u8 (.ofNat m)) s) (nthL b n)) (fun _ => .no) n) (asN (i.get st U)))
      (fun _ => .no) (fun _ _ => .no) (asS (x.get st U))
  | false => .no
theorem fIndex_ok {t : TypeId} {x i : Operand} {ks loc : List Nat} (h : (fIndex P t (fop ks loc x) (fop ks loc i)).run c st U s = .ok v s') :
    xop P (xcOf c) (.index t x i) (hevS ks loc st U) s = some (v, s') := by
  unfold fIndex at h
  split at h
  · rename_i ht
    simp only [Clo.run, fop_get] at h
    cases hx : asS (hevS ks loc st U x) with
    | str b =>
      rw [hx] at h
      cases hi : asN (hevS ks loc st U i) with
      | no => simp only [hi] at h; cases h
      | ok n =>
        simp only [hi] at h
        cases n with
        | negSucc n => cases h
        | ofNat n =>
          simp only [nthL_eq] at h
          cases hb : b[n]? with
          | none => simp only [hb] at h; cases h
          | some u =>
            simp only [hb, forceN_eq] at h
            cases h
            obtain ⟨k, hk⟩ := asN_ok hi
            have hlt : n < b.length := (List.getElem?_eq_some_iff.1 hb).1
            simp only [xop, isPure, if_true, xpure, asS_str hx, hk, ht, Int.ofNat_eq_natCast]
            have hu : b[n] = u := by rw [List.getElem?_eq_getElem hlt] at hb; simpa using hb
            simp [hlt, List.getD_eq_getElem?_getD, hb, hu]
    | _ => rw [hx] at h; cases h
  · cases h

def fIndexAddr (P : Program) (t : TypeId) (x i : FO) (alt : HV → HV → XS → R1) : Clo :=
  match (P.info? (P.elem t)).isSome && sliceElem P t with
  | true => .mk fun _ st U s => VS.rec (motive := fun _ => R1) (alt (x.get st U) (i.get st U) s) (fun _ => .no)
      (fun ds => VI.rec (motive := fun _ => R1) .no (fun n => Int.rec (motive := fun _ => R1) (fun n => Option.rec (motive := fun _ => R1) .no
        (fun d => Bool.rec (motive := fun _ => R1) .no (.ok (.eptr (cellsF d)) s) (Nat.beq (lenL (cellsF d) 0) (P.cellsOf (P.elem t)))) (nthL ds n)) (fun _ => .no) n) (asN (i.get st U)))
      (fun _ _ => alt (x.get st U) (i.get st U) s) (asS (x.get st U))
  | false => .mk fun _ st U s => alt (x.get st U) (i.get st U) s
def altIndex (P : Program) (t : TypeId) (x i : HV) (s : XS) : R1 := r1v s (if (P.info? (P.elem t)).isSome = true then xelem P t x i else none)
theorem fIndexAddr_ok {t : TypeId} {x i : Operand} {ks loc : List Nat} (h : (fIndexAddr P t (fop ks loc x) (fop ks loc i) (altIndex P t)).run c st U s = .ok v s') :
    xop P (xcOf c) (.indexAddr t x i) (hevS ks loc st U) s = some (v, s') := by
  have alt : altIndex P t (hevS ks loc st U x) (hevS ks loc st U i) s = .ok v s' → xop P (xcOf c) (.indexAddr t x i) (hevS ks loc st U) s = some (v, s') := by
    intro ha
    simp only [xop, isPure, if_true, xpure]
    exact r1v_ok ha
  unfold fIndexAddr at h
  split at h
  · rename_i ht
    simp only [Bool.and_eq_true] at ht
    simp only [Clo.run, fop_get] at h
    cases hx : asS (hevS ks loc st U x) with
    | no => rw [hx] at h; exact alt h
    | msl => rw [hx] at h; exact alt h
    | str => rw [hx] at h; cases h
    | sl ds =>
      rw [hx] at h
      cases hi : asN (hevS ks loc st U i) with
      | no => simp only [hi] at h; cases h
      | ok n =>
        simp only [hi] at h
        cases n with
        | negSucc n => cases h
        | ofNat n =>
          simp only [nthL_eq] at h
          cases hd : ds[n]? with
          | none => simp only [hd] at h; cases h
          | some d =>
            simp only [hd, lenL_eq, cellsF_eq] at h
            cases hb : Nat.beq d.cells.length (P.cellsOf (P.elem t)) with
            | false => simp only [hb] at h; cases h
            | true =>
              simp only [hb] at h
              cases h
              obtain ⟨f, hf⟩ := asS_sl hx
              obtain ⟨k, hk⟩ := asN_ok hi
              have hlt : n < ds.length := (List.getElem?_eq_some_iff.1 hd).1
              have hbe : (d.cells.length == P.cellsOf (P.elem t)) = true := by rw [beqt hb]; simp
              simp only [xop, isPure, if_true, xpure, ht.1, xelem, hf, hk, Int.ofNat_eq_natCast, Int.toNat_natCast, List.getD_eq_getElem?_getD, hd, Option.getD_some, hbe]
              simp [hlt, ht.2]
  · simp only [Clo.run, fop_get] at h; exact alt h

def fAlloc (P : Program) (e : TypeId) : Clo := match zok0 P e with
  | true => .mk fun _ _ _ s => xpush s (.cells (zcells P e)) fun n s => .ok (.ptr n 0) s
  | false => .no
theorem fAlloc_ok {e : TypeId} {ρ : Operand → HV} (h : (fAlloc P e).run c st U s = .ok v s') : xop P (xcOf c) (.alloc e) ρ s = some (v, s') := by
  unfold fAlloc at h
  split at h
  · rename_i hz
    simp only [Clo.run, xpush_eq] at h
    cases h
    simp only [xop, isPure, Bool.false_eq_true, if_false, xmem, hz, if_true]
  · cases h
def fBox (x : FO) : Clo := .mk fun _ st U s => Bool.rec (motive := fun _ => R1) .no (xpush s (.cells (cellsF (x.get st U))) fun n s => .ok (.ptr n 0) s) (x.get st U).val
theorem fBox_ok {e : TypeId} {x : Operand} {ks loc : List Nat} (h : (fBox (fop ks loc x)).run c st U s = .ok v s') : xop P (xcOf c) (.box e x) (hevS ks loc st U) s = some (v, s') := by
  simp only [fBox, Clo.run, fop_get, cellsF_eq] at h
  cases hv : (hevS ks loc st U x).val with
  | false => simp only [hv] at h; cases h
  | true =>
    simp only [hv, xpush_eq] at h
    cases h
    simp only [xop, isPure, Bool.false_eq_true, if_false, xmem, hv, if_true]

def fGen (P : Program) (ks loc : List Nat) (op : Op) : Clo := .mk fun c st U s => r1 (xop P (xcOf c) op (hevS ks loc st U) s)
theorem fGen_ok {ks loc : List Nat} {op : Op} (h : (fGen P ks loc op).run c st U s = .ok v s') : xop P (xcOf c) op (hevS ks loc st U) s = some (v, s') := r1_ok h

def ccall (P : Program) (ks loc : List Nat) (cl : Call) : Clo :=
  match cl.callee with
  | .value f => fCall (fop ks loc f) (cl.args.toList.map (fop ks loc))
  | .builtin .len => (match cl.argTypes.toList, cl.args.toList with
    | [t], [x] => fLen P t (fop ks loc x)
    | _, _ => .no)
  | _ => fGen P ks loc (.call cl)
theorem ccall_ok {ks loc : List Nat} {cl : Call} (h : (ccall P ks loc cl).run c st U s = .ok v s') : xop P (xcOf c) (.call cl) (hevS ks loc st U) s = some (v, s') := by
  obtain ⟨callee, args, ts⟩ := cl
  unfold ccall at h
  simp only at h
  split at h
  · exact fCall_ok h
  · split at h
    · rename_i e1 e2
      have := fLen_ok h
      rw [fop_get] at this
      simp only [xop, isPure, Bool.false_eq_true, if_false, xmem, xbuiltin, e1, e2, List.map_cons, List.map_nil]
      rw [Option.map_eq_some_iff] at this ⊢
      exact this
    · cases h
  · exact fGen_ok h

def cop (P : Program) (ks loc : List Nat) (op : Op) : Clo :=
  match op with
  | .move x => fMove (fop ks loc x)
  | .assign x => fMove (fop ks loc x)
  | .pick c a b => fPick (fop ks loc c) (fop ks loc a) (fop ks loc b)
  | .nilCheck x => fNil (fop ks loc x)
  | .binOp o t x y _ => fBin P o t (fop ks loc x) (fop ks loc y)
  | .unOp u t x => (match u with | .not => fNot (fop ks loc x) | u => fGen P ks loc (.unOp u t x))
  | .fieldAddr t x f => (match isField P t f with | true => fField (foff P t f) (fop ks loc x) | false => .no)
  | .indexAddr t x i => fIndexAddr P t (fop ks loc x) (fop ks loc i) (altIndex P t)
  | .index t x i => fIndex P t (fop ks loc x) (fop ks loc i)
  | .load t a => (match (P.underlying t).isSome && !agg? P t with | true => fLoad1 (fop ks loc a) | false => fGen P ks loc (.load t a))
  | .store t a v => (match (P.info? t).isSome && Nat.beq (P.cellsOf t) 1 with | true => fStore1 (fop ks loc a) (fop ks loc v) (altStore P t) | false => fGen P ks loc (.store t a v))
  | .extract x i => fExtract i (fop ks loc x)
  | .alloc e => fAlloc P e
  | .box e x => fBox (fop ks loc x)
  | .call cl => ccall P ks loc cl
  | op => fGen P ks loc op
theorem cop_ok {ks loc : List Nat} {op : Op} (h : (cop P ks loc op).run c st U s = .ok v s') : xop P (xcOf c) op (hevS ks loc st U) s = some (v, s') := by
  cases op with
  | move x =>
    simp only [cop, fMove, Clo.run, fop_get] at h
    cases h
    simp [xop, isPure, xpure]
  | assign x =>
    simp only [cop, fMove, Clo.run, fop_get] at h
    cases h
    simp [xop, isPure, xpure]
  | pick x a b =>
    have := fPick_ok h
    simp only [fop_get] at this
    simp only [xop, isPure, if_true, xpure]
    exact this
  | nilCheck x =>
    have := fNil_ok h
    simp only [fop_get] at this
    simp only [xop, isPure, if_true, xpure]
    exact this
  | binOp o t x y yt =>
    have := fBin_ok h
    simp only [fop_get] at this
    simpa only [xop, isPure, if_true, xbop_eq] using this
  | unOp u t x =>
    cases u with
    | not =>
      obtain ⟨b, h1, h2, h3⟩ := fNot_ok (show (fNot (fop ks loc x)).run c st U s = .ok v s' from h)
      rw [fop_get] at h1
      subst h2 h3
      simp only [xop, isPure, if_true, xpure, h1, Option.map_some]
    | _ => exact fGen_ok h
  | fieldAddr t x f =>
    simp only [cop] at h
    split at h
    · rename_i hf
      have := fField_ok h
      simp only [fop_get] at this
      simpa only [xop, isPure, if_true, xpure, hf] using this
    · cases h
  | indexAddr t x i => exact fIndexAddr_ok h
  | index t x i => exact fIndex_ok h
  | load t a =>
    simp only [cop] at h
    split at h
    · rename_i ht; exact fLoad1_ok ht h
    · exact fGen_ok h
  | store t a u =>
    simp only [cop] at h
    split at h
    · rename_i ht; exact fStore1_ok ht h
    · exact fGen_ok h
  | extract x i =>
    have := fExtract_ok h
    simp only [fop_get] at this
    simp only [xop, isPure, if_true, xpure]
    exact this
  | alloc e => exact fAlloc_ok h
  | box e x => exact fBox_ok h
  | call cl => exact ccall_ok h
  | _ => exact fGen_ok h
end
end
end Go.H
