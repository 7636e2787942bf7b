/- The layer H: values whose slices are plain lists, a small heap of names, how both stand to the model's values and world. Generic in the program. -/
import Derived.WalkKit
import Derived.Scope
import Derived.Laws.AppendOwn
set_option linter.unusedVariables false
set_option linter.unusedSimpArgs false
namespace Go.H

/-- A value of the layer: `any` says nothing; `eptr` leads to cells that nobody writes any more; `msl` and `mptr` are about a row of the heap; `sl true` has no room behind it. -/
inductive HV where
  | any
  | bool (b : Bool)
  | int (k : IntKind) (n : Int)
  | str (s : List UInt8)
  | nilp
  | ptr (x o : Nat)
  | eptr (cs : List HV)
  | mptr (x n i o : Nat)
  | sl (full : Bool) (ds : List HV)
  | msl (x n sz : Nat)
  | asl (x o n c : Nat)
  | map (x : Nat)
  | fn (f : FuncId) (first cap : List HV)
  | nilf
  | ifc (t : TypeId) (v : HV)
  | nili
  | agg (cs : List HV)
  | tup (vs : List HV)
  deriving Inhabited

def HV.cells : HV → List HV
  | .agg cs => cs
  | v => [v]

/-- a value of one cell -/
def HV.one : HV → Bool
  | .agg _ | .tup _ | .any => false
  | _ => true

/-- the key of an entry of a map -/
inductive HKey where
  | str (s : List UInt8)
  | int (k : IntKind) (n : Int)
  deriving DecidableEq
def HKey.hv : HKey → HV
  | .str s => .str s
  | .int k n => .int k n
def HKey.value : HKey → Value
  | .str s => .string ⟨s.toArray⟩
  | .int k n => .int k n
abbrev HMap := List (HKey × HV × Nat)

inductive HObj where
  | cells (cs : List HV)
  | row (im : Bool) (e : TypeId) (ds : List HV)
  | map (clock : Nat) (es : HMap)
  | iter (x since : Nat) (seen : List Nat) (last : Nat)

structure HH where
  get : Nat → Option HObj
  nx : Nat
instance : CoeFun HH (fun _ => Nat → Option HObj) := ⟨HH.get⟩

structure Ghost where
  nx : Nat
  var : Nat → Option Nat
  row : Nat → Nat → Option (Nat × Nat × Nat)
  top : Nat → Nat
  imm : Nat → Nat → Option Value
  mp : Nat → Nat → Option (Array MapEntry × Nat)

inductive VR (g : Ghost) : HV → Value → Prop
  | any (v : Value) : VR g .any v
  | bool (b : Bool) : VR g (.bool b) (.bool b)
  | int (k : IntKind) (n : Int) : VR g (.int k n) (.int k n)
  | str (s : List UInt8) : VR g (.str s) (.string ⟨s.toArray⟩)
  | nilp : VR g .nilp (.pointer none)
  | ptr (x o b : Nat) (h : g.var x = some b) : VR g (.ptr x o) (.pointer (some ⟨b, o, none⟩))
  | eptr (cs : List HV) (b o : Nat) (h1 : ∀ (j : Nat) (v : HV), cs[j]? = some v → (g.imm b (o + j)).isSome = true)
      (h2 : ∀ (j : Nat) (v : HV), cs[j]? = some v → VR g v ((g.imm b (o + j)).getD undef)) : VR g (.eptr cs) (.pointer (some ⟨b, o, none⟩))
  | mptr (x n i o b c sz : Nat) (h : g.row x n = some (b, c, sz)) : VR g (.mptr x n i o) (.pointer (some ⟨b, i * sz + o, none⟩))
  | sl (full : Bool) (ds : List HV) (a : Option Addr) (n c b o sz : Nat) (hn : n = ds.length) (hc : n ≤ c) (hf : full = true → c = n) (hm : c ≤ maxLen)
      (ha : ds ≠ [] → a = some ⟨b, o, none⟩) (h0 : ∀ (i : Nat) (d : HV), ds[i]? = some d → d.cells.length = sz)
      (h1 : ∀ (i : Nat) (d : HV) (j : Nat) (v : HV), ds[i]? = some d → d.cells[j]? = some v → (g.imm b (o + i * sz + j)).isSome = true)
      (h2 : ∀ (i : Nat) (d : HV) (j : Nat) (v : HV), ds[i]? = some d → d.cells[j]? = some v → VR g v ((g.imm b (o + i * sz + j)).getD undef)) : VR g (.sl full ds) (.slice a n c)
  | msl0 (x b sz : Nat) (a : Option Addr) (h : g.row x 0 = some (b, 0, sz)) : VR g (.msl x 0 sz) (.slice a 0 0)
  | msl (x n b c sz : Nat) (h : g.row x n = some (b, c, sz)) (hc : n ≤ c) (hp : 0 < c) (hm : c ≤ maxLen) : VR g (.msl x n sz) (.slice (some ⟨b, 0, none⟩) n c)
  | asl (x o n c b : Nat) (h : g.var x = some b) (hc : n ≤ c) (hp : 0 < c) (hm : c ≤ maxLen) : VR g (.asl x o n c) (.slice (some ⟨b, o, none⟩) n c)
  | map (x b : Nat) (h : g.var x = some b) : VR g (.map x) (.map (some b))
  | fn (f : FuncId) (l m : List HV) (a b : Array Value) (ha : a.size = l.length) (hb : b.size = m.length)
      (h1 : ∀ (j : Nat) (v : HV), l[j]? = some v → VR g v (a.getD j undef)) (h2 : ∀ (j : Nat) (v : HV), m[j]? = some v → VR g v (b.getD j undef)) : VR g (.fn f l m) (.func (.func f) a b)
  | nilf : VR g .nilf .nilFunc
  | ifc (t : TypeId) (v : HV) (c : Value) (h : VR g v c) : VR g (.ifc t v) (.iface t c)
  | nili : VR g .nili .nilIface
  | agg (cs : List HV) (a : Array Value) (hs : a.size = cs.length) (h1 : ∀ (j : Nat) (v : Value), a[j]? = some v → v.oneCell' = true) (h : ∀ (j : Nat) (v : HV), cs[j]? = some v → VR g v (a.getD j undef)) : VR g (.agg cs) (.agg a)
  | tup (cs : List HV) (a : Array Value) (hs : a.size = cs.length) (h : ∀ (j : Nat) (v : HV), cs[j]? = some v → VR g v (a.getD j undef)) : VR g (.tup cs) (.tuple a)

/-- what grows alone -/
structure Ghost.wle (g g' : Ghost) : Prop where
  nx : g.nx ≤ g'.nx
  var : ∀ x b, g.var x = some b → g'.var x = some b
  row : ∀ x n r, g.row x n = some r → g'.row x n = some r
  imm : ∀ b o v, g.imm b o = some v → g'.imm b o = some v
  mp : ∀ x v r, g.mp x v = some r → g'.mp x v = some r

/-- a name that means what it meant -/
def Ghost.same (g g' : Ghost) (x : Nat) : Prop := g'.var x = g.var x ∧ ((∀ n, g.row x n = none) → ∀ n, g'.row x n = none)

structure Ghost.le (g g' : Ghost) : Prop where
  nx : g.nx ≤ g'.nx
  var : ∀ x b, g.var x = some b → g'.var x = some b
  row : ∀ x n r, g.row x n = some r → g'.row x n = some r
  imm : ∀ b o v, g.imm b o = some v → g'.imm b o = some v
  mp : ∀ x v r, g.mp x v = some r → g'.mp x v = some r
  varo : ∀ x, x < g.nx → g'.var x = g.var x
  rowo : ∀ x, x < g.nx → (∀ n, g.row x n = none) → ∀ n, g'.row x n = none

theorem Ghost.le.refl (g : Ghost) : g.le g := ⟨Nat.le_refl _, fun _ _ h => h, fun _ _ _ h => h, fun _ _ _ h => h, fun _ _ _ h => h, fun _ _ => rfl, fun _ _ h => h⟩
theorem Ghost.le.trans {a b c : Ghost} (h : a.le b) (k : b.le c) : a.le c :=
  ⟨Nat.le_trans h.nx k.nx, fun x y e => k.var _ _ (h.var _ _ e), fun x n r e => k.row _ _ _ (h.row _ _ _ e), fun x n r e => k.imm _ _ _ (h.imm _ _ _ e),
    fun x n r e => k.mp _ _ _ (h.mp _ _ _ e), fun x hx => (k.varo x (Nat.lt_of_lt_of_le hx h.nx)).trans (h.varo x hx),
    fun x hx e => k.rowo x (Nat.lt_of_lt_of_le hx h.nx) (h.rowo x hx e)⟩

theorem Ghost.le.w {g g' : Ghost} (h : g.le g') : g.wle g' := ⟨h.nx, h.var, h.row, h.imm, h.mp⟩
theorem Ghost.le.same {g g' : Ghost} (h : g.le g') {x : Nat} (hx : x < g.nx) : g.same g' x := ⟨h.varo x hx, h.rowo x hx⟩
theorem Ghost.wle.refl (g : Ghost) : g.wle g := (Ghost.le.refl g).w
theorem Ghost.wle.trans {a b c : Ghost} (h : a.wle b) (k : b.wle c) : a.wle c :=
  ⟨Nat.le_trans h.nx k.nx, fun x y e => k.var _ _ (h.var _ _ e), fun x n r e => k.row _ _ _ (h.row _ _ _ e), fun x n r e => k.imm _ _ _ (h.imm _ _ _ e), fun x n r e => k.mp _ _ _ (h.mp _ _ _ e)⟩

theorem imm_keep {g g' : Ghost} (h : g.wle g') {b o : Nat} (hs : (g.imm b o).isSome = true) : g'.imm b o = g.imm b o := by
  obtain ⟨v, hv⟩ := Option.isSome_iff_exists.1 hs
  rw [hv, h.imm _ _ _ hv]

theorem VR.wmono {g g' : Ghost} {v : HV} {c : Value} (h : VR g v c) (hg : g.wle g') : VR g' v c := by
  induction h with
  | any v => exact .any v
  | bool b => exact .bool b
  | int k n => exact .int k n
  | str s => exact .str s
  | nilp => exact .nilp
  | ptr x o b h => exact .ptr x o b (hg.var _ _ h)
  | eptr cs b o h1 h2 ih => exact .eptr cs b o (fun j v e => by rw [imm_keep hg (h1 j v e)]; exact h1 j v e) (fun j v e => by rw [imm_keep hg (h1 j v e)]; exact ih j v e)
  | mptr x n i o b c sz h => exact .mptr x n i o b c sz (hg.row _ _ _ h)
  | sl full ds a n c b o sz hn hc hf hm ha h0 h1 h2 ih =>
    exact .sl full ds a n c b o sz hn hc hf hm ha h0 (fun i d j v e e' => by rw [imm_keep hg (h1 i d j v e e')]; exact h1 i d j v e e')
      (fun i d j v e e' => by rw [imm_keep hg (h1 i d j v e e')]; exact ih i d j v e e')
  | msl0 x b sz a h => exact .msl0 x b sz a (hg.row _ _ _ h)
  | msl x n b c sz h hc hp hm => exact .msl x n b c sz (hg.row _ _ _ h) hc hp hm
  | asl x o n c b h hc hp hm => exact .asl x o n c b (hg.var _ _ h) hc hp hm
  | map x b h => exact .map x b (hg.var _ _ h)
  | fn f l m a b ha hb h1 h2 ih1 ih2 => exact .fn f l m a b ha hb ih1 ih2
  | nilf => exact .nilf
  | ifc t v c h ih => exact .ifc t v c ih
  | nili => exact .nili
  | agg cs a hs h1 h ih => exact .agg cs a hs h1 ih
  | tup cs a hs h ih => exact .tup cs a hs ih

theorem VR.mono {g g' : Ghost} {v : HV} {c : Value} (h : VR g v c) (hg : g.le g') : VR g' v c := h.wmono hg.w

def Ghost.blk (g : Ghost) (x : Nat) : HObj → Option Nat
  | .row _ _ ds => (g.row x ds.length).bind fun r => if r.2.1 = 0 then none else some r.1
  | _ => g.var x

def MapR (g : Ghost) (ents : Array MapEntry) (es : HMap) : Prop :=
  ents.size = es.length ∧ ∀ (i : Nat) (e : HKey × HV × Nat), es[i]? = some e → ∃ en : MapEntry, ents[i]? = some en ∧ en.key = e.1.value ∧ VR g e.2.1 en.val ∧ en.born = e.2.2

/-- no cell of a block is shared with a string -/
def frOk (fr : Nat × Nat) (n : Nat) : Prop := fr.2 = 0 ∨ n ≤ fr.1

def ObjR (P : Program) (g : Ghost) (w : World) (x : Nat) : HObj → Prop
  | .cells cs => ∀ b, g.var x = some b → ∃ arr e, w.heap[b]? = some (.cells arr e (0, 0)) ∧ arr.size = cs.length ∧
      (∀ (j : Nat) (v : Value), arr[j]? = some v → v.oneCell' = true) ∧ ∀ (j : Nat) (v : HV), cs[j]? = some v → VR g v (arr.getD j undef)
  | .row im e ds => (g.row x ds.length = none → ∀ n, g.row x n = none) ∧ ∀ b c sz, g.row x ds.length = some (b, c, sz) → g.top x = ds.length ∧ sz = P.cellsOf e ∧ ds.length ≤ c ∧ c ≤ maxLen ∧
      (c ≠ 0 → ∃ cur, (∃ fr, w.heap[b]? = some (.cells cur e fr) ∧ frOk fr cur.size) ∧ cur.size = c * sz ∧ (∀ (j : Nat) (v : Value), cur[j]? = some v → v.oneCell' = true) ∧
        (∀ (i : Nat) (d : HV), ds[i]? = some d → d.cells.length = sz) ∧
        (∀ (i : Nat) (d : HV) (j : Nat) (v : HV), ds[i]? = some d → d.cells[j]? = some v → VR g v (cur.getD (i * sz + j) undef)) ∧
        (im = true → ∀ k, k < ds.length * sz → g.imm b k = some (cur.getD k undef)))
  | .map clock es => ∀ b, g.var x = some b → ∃ ents, w.heap[b]? = some (.map ents clock) ∧ MapR g ents es
  | .iter y since seen last => ∀ b, g.var x = some b → ∃ bm, g.var y = some bm ∧ w.heap[b]? = some (.mapIter (some bm) since seen.toArray last)

/-- which cells of its block an object has for itself -/
def HObj.mine (P : Program) : HObj → Nat → Prop
  | .row true e ds, o => ds.length * P.cellsOf e ≤ o
  | _, _ => True

structure Rel (P : Program) (Fr : Nat → Prop) (g : Ghost) (h : HH) (w : World) : Prop where
  frlt : ∀ b, Fr b → b < w.heap.size
  imm : ∀ b o v, g.imm b o = some v → w.cell? ⟨b, o, none⟩ = some v ∧ v.oneCell' = true
  obj : ∀ x ob, h x = some ob → ObjR P g w x ob
  uniq : ∀ x y ox oy b, h x = some ox → h y = some oy → g.blk x ox = some b → g.blk y oy = some b → x = y
  apart : ∀ x ox b, h x = some ox → g.blk x ox = some b → ¬ Fr b ∧ (∀ o, ox.mine P o → g.imm b o = none) ∧ b < w.heap.size
  fresh : ∀ x, g.nx ≤ x → h x = none ∧ g.var x = none ∧ (∀ n, g.row x n = none) ∧ (∀ v, g.mp x v = none)
  rtop : ∀ x k r, g.row x k = some r → k ≤ g.top x
  sup : g.nx ≤ h.nx

structure Kept (Fr : Nat → Prop) (w w' : World) : Prop where
  os : w'.os = w.os
  tape : w'.tape = w.tape
  output : w'.output = w.output
  size : w.heap.size ≤ w'.heap.size
  block : ∀ b, Fr b → w'.heap[b]? = w.heap[b]?

theorem Kept.refl (Fr : Nat → Prop) (w : World) : Kept Fr w w := ⟨rfl, rfl, rfl, Nat.le_refl _, fun _ _ => rfl⟩
theorem Kept.trans {Fr : Nat → Prop} {a b c : World} (h : Kept Fr a b) (k : Kept Fr b c) : Kept Fr a c :=
  ⟨k.os.trans h.os, k.tape.trans h.tape, k.output.trans h.output, Nat.le_trans h.size k.size, fun x hx => (k.block x hx).trans (h.block x hx)⟩

/-- The heap has less: some names are dropped. -/
structure Sub (h' h : HH) : Prop where
  ob : ∀ x ob, h' x = some ob → h x = some ob
  nx : h.nx ≤ h'.nx
theorem Sub.refl (h : HH) : Sub h h := ⟨fun _ _ e => e, Nat.le_refl _⟩
theorem Sub.trans {a b c : HH} (s : Sub a b) (t : Sub b c) : Sub a c := ⟨fun x o e => t.ob _ _ (s.ob _ _ e), Nat.le_trans t.nx s.nx⟩

theorem Rel.sub {P : Program} {Fr : Nat → Prop} {g : Ghost} {h h' : HH} {w : World} (r : Rel P Fr g h w) (s : Sub h' h) : Rel P Fr g h' w where
  frlt := r.frlt
  imm := r.imm
  obj := fun x ob e => r.obj x ob (s.ob x ob e)
  uniq := fun x y ox oy b e1 e2 => r.uniq x y ox oy b (s.ob _ _ e1) (s.ob _ _ e2)
  apart := fun x ox b e => r.apart x ox b (s.ob _ _ e)
  fresh := fun x hx => by
    obtain ⟨h1, h2⟩ := r.fresh x hx
    refine ⟨?_, h2⟩
    cases e : h' x with
    | none => rfl
    | some ob => rw [s.ob x ob e] at h1; cases h1
  rtop := r.rtop
  sup := Nat.le_trans r.sup s.nx

/-- a function that has a text -/
def hasBody (P : Program) (f : FuncId) : Bool :=
  match P.funcs[f]? with
  | some fn => fn.name != "runtime.NumGoroutine" && fn.body.isSome
  | none => false

/-- What a call of the layer comes to. -/
def HCalls (P : Program) (f : FuncId) (args : List HV) (h : HH) (Q : HV → HH → Prop) : Prop :=
  hasBody P f = true ∧ ∀ Fr g w (cargs : Array Value), Rel P Fr g h w → cargs.size = args.length → (∀ (j : Nat) (v : HV), args[j]? = some v → VR g v (cargs.getD j undef)) →
    Calls P f cargs w fun e w' => ∃ cv v h' g', e = .returned cv ∧ Q v h' ∧ g.le g' ∧ VR g' v cv ∧ Rel P Fr g' h' w' ∧ Kept Fr w w'

theorem HCalls.mono {P : Program} {f : FuncId} {args : List HV} {h : HH} {Q Q' : HV → HH → Prop} (c : HCalls P f args h Q) (q : ∀ v h', Q v h' → Q' v h') :
    HCalls P f args h Q' :=
  ⟨c.1, fun Fr g w cargs r hs ha => (c.2 Fr g w cargs r hs ha).mono fun _ _ ⟨cv, v, h', g', he, hq, rest⟩ => ⟨cv, v, h', g', he, q _ _ hq, rest⟩⟩

/-- Names may be dropped behind a call. -/
theorem HCalls.drop {P : Program} {f : FuncId} {args : List HV} {h : HH} {Q Q' : HV → HH → Prop} (c : HCalls P f args h Q) (q : ∀ v h', Q v h' → ∃ h'', Sub h'' h' ∧ Q' v h'') :
    HCalls P f args h Q' :=
  ⟨c.1, fun Fr g w cargs r hs ha => (c.2 Fr g w cargs r hs ha).mono fun _ _ ⟨cv, v, h', g', he, hq, hl, hv, hr, hk⟩ =>
    let ⟨h'', hs, hq'⟩ := q _ _ hq
    ⟨cv, v, h'', g', he, hq', hl, hv, hr.sub hs, hk⟩⟩

end Go.H
