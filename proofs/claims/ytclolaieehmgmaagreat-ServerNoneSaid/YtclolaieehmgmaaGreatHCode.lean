/- All operations, regions in the order of the text, statements: what the layer says of code, and that it holds in the model. -/
import Derived.Test.YtclolaieehmgmaaGreatHPure
set_option linter.unusedVariables false
set_option linter.unusedSimpArgs false
namespace Go.H

def bplace (P : Program) (t : TypeId) : Nat → Option (Nat × Nat) :=
  match P.underlying t with
  | some (.array _ e) => fun i => some (i * P.cellsOf e, P.cellsOf e)
  | some (.struct fs) => match fs.toList.mapM (fun f => (P.info? f.type).map fun i => (f.offset, i.size)) with
    | some pl => fun i => pl[i]?
    | none => fun _ => none
  | _ => fun _ => none

def buildOk (P : Program) (t : TypeId) : Bool :=
  zok0 P t && match P.underlying t with
  | some (.array _ e) => (P.info? e).isSome
  | some (.struct fs) => (fs.toList.mapM (fun f => (P.info? f.type).map fun i => (f.offset, i.size))).isSome
  | _ => false

def hfill (place : Nat → Option (Nat × Nat)) (ρ : Operand → HV) : List (Nat × Operand) → List HV → (List HV → Prop) → Prop
  | [], cs, K => K cs
  | p :: ps, cs, K => match place p.1 with
    | some q => (ρ p.2).val = true ∧ (ρ p.2).cells.length = q.2 ∧ q.1 + q.2 ≤ cs.length ∧ hfill place ρ ps (splice cs q.1 (ρ p.2).cells) K
    | none => False

/-! ### bytes, maps, methods -/
def hbyte : HV → UInt8
  | .int _ n => UInt8.ofNat n.toNat
  | _ => 0
def isByte : HV → Bool
  | .int .u8 _ => true
  | _ => false
def bytesT (P : Program) (t : TypeId) : Bool :=
  match P.underlying t with
  | some (.slice e) => match P.underlying e with | some (.int .u8) => P.cellsOf e == 1 | _ => false
  | _ => false
def hconvs (P : Program) (d : TypeId) (v : HV) : Bool :=
  match P.underlying d, v with
  | some .string, .sl _ _ | some .string, .msl _ _ _ | some .string, .asl _ _ _ _ | some (.slice _), .str _ => true
  | _, _ => false
def hconv (P : Program) (s d : TypeId) (v : HV) (h : HH) (K : HV → HH → Prop) : Prop :=
  match v with
  | .str b => (P.underlying s).isSome = true ∧ bytesT P d = true ∧ b.length ≤ maxLen ∧
      (h h.nx = none → K (.msl h.nx b.length 1) (h.push (.row false (P.elem d) (b.map fun x => .int .u8 x.toNat))))
  | v => bytesT P s = true ∧ (match hsrc h v with | some ys => ys.all isByte = true ∧ K (.str (ys.map hbyte)) h | none => False)

def zelem (P : Program) (e : TypeId) : HV :=
  match zcells P e with
  | [v] => if agg? P e then .agg [v] else v
  | cs => .agg cs
def hmake (P : Program) (t : TypeId) (l c : HV) (h : HH) (K : HV → HH → Prop) : Prop :=
  match l, c with
  | .int _ n, .int _ m => sliceElem P t = true ∧ zok P (P.elem t) = true ∧ 0 ≤ n ∧ n ≤ m ∧ m ≤ maxLen ∧ m.toNat * P.bytesOf (P.elem t) ≤ 140737488355328 ∧
      (h h.nx = none → K (.msl h.nx n.toNat (P.cellsOf (P.elem t))) (h.push (.row false (P.elem t) (List.replicate n.toNat (zelem P (P.elem t))))))
  | _, _ => False

def strMap (P : Program) (t : TypeId) : Bool :=
  match P.underlying t with
  | some (.map _ _) => true
  | _ => false
def hkey : HV → Option HKey
  | .str s => some (.str s)
  | .int k n => some (.int k n)
  | _ => none
def HKey.same : HKey → HKey → Bool
  | .str _, .str _ => true
  | .int k _, .int k' _ => decide (k = k')
  | _, _ => false
def HKey.desc : HKey → TypeDesc
  | .str _ => .string
  | .int k _ => .int k
def HKey.fits (P : Program) (t : TypeId) (k : HKey) : Bool :=
  match P.underlying t with
  | some (.map kt _) => match P.underlying kt, k with
    | some .string, .str _ => true
    | some (.int k), .int k' _ => decide (k = k')
    | _, _ => false
  | _ => false
def HKey.among (k : HKey) (es : HMap) : Bool := es.all fun e => k.same e.1
def mapElem (P : Program) (t : TypeId) : TypeId := match P.underlying t with | some (.map _ e) => e | _ => 0
def zsome (P : Program) (e : TypeId) : Bool := match P.info? e with | some i => i.zero.isSome | none => false
def zval (P : Program) (e : TypeId) : HV :=
  match P.info? e with
  | some i => match i.zero with | some z => hv z | none => .any
  | none => .any
def hfind (k : HKey) : HMap → Nat → Option (Nat × HV)
  | [], _ => none
  | e :: es, i => if e.1 = k then some (i, e.2.1) else hfind k es (i + 1)
def hlookup (P : Program) (t : TypeId) (m k : HV) (ok : Bool) (h : HH) (K : HV → Prop) : Prop :=
  strMap P t = true ∧ zsome P (mapElem P t) = true ∧
  match m, hkey k with
  | .map x, some k => k.fits P t = true ∧ (match h x with
    | some (.map _ es) => k.among es = true ∧ (match hfind k es 0 with
      | some (_, v) => K (if ok then .tup [v, .bool true] else v)
      | none => K (if ok then .tup [zval P (mapElem P t), .bool false] else zval P (mapElem P t)))
    | _ => False)
  | _, _ => False
def mput (k : HKey) (v : HV) (clock : Nat) (es : HMap) : Nat × HMap :=
  match hfind k es 0 with
  | some (i, _) => (clock, es.modify i fun e => (k, v, e.2.2))
  | none => (clock + 1, es ++ [(k, v, clock)])
def mdel (k : HKey) (es : HMap) : HMap :=
  match hfind k es 0 with
  | some (i, _) => es.eraseIdx i
  | none => es
def hmapset (P : Program) (t : TypeId) (m k v : HV) (h : HH) (K : HH → Prop) : Prop :=
  strMap P t = true ∧
  match m, hkey k with
  | .map x, some k => k.fits P t = true ∧ (match h x with
    | some (.map clock es) => k.among es = true ∧ K (h.set x (.map (mput k v clock es).1 (mput k v clock es).2))
    | _ => False)
  | _, _ => False
def hmapdel (P : Program) (t : TypeId) (m k : HV) (h : HH) (K : HV → HH → Prop) : Prop :=
  strMap P t = true ∧
  match m, hkey k with
  | .map x, some k => k.fits P t = true ∧ (match h x with
    | some (.map clock es) => k.among es = true ∧ K (.tup []) (h.set x (.map clock (mdel k es)))
    | _ => False)
  | _, _ => False
def hrange (P : Program) (t : TypeId) (m : HV) (h : HH) (K : HV → HH → Prop) : Prop :=
  strMap P t = true ∧
  match m with
  | .map x => (match h x with
    | some (.map clock _) => (h h.nx = none → K (.ptr h.nx 0) (h.push (.iter x clock [] clock)))
    | _ => False)
  | _ => False
/-- the next entry is any of those that are left; nothing was put in since the range began -/
def hnext (it : HV) (isString : Bool) (h : HH) (K : HV → HH → Prop) : Prop :=
  isString = false ∧
  match it with
  | .ptr x 0 => (match h x with
    | some (.iter y since seen last) => (match h y with
      | some (.map clock es) => clock = since ∧ last = since ∧ es.all (fun e => decide (e.2.2 < since)) = true ∧
          (es.all (fun e => seen.contains e.2.2) = true → K (.tup [.bool false]) h) ∧
          ∀ e ∈ es, seen.contains e.2.2 = false → K (.tup [.bool true, e.1.hv, e.2.1]) (h.set x (.iter y since (seen ++ [e.2.2]) clock))
      | _ => False)
    | _ => False)
  | _ => False
def hentry (it : HV) (h : HH) (K : HV → Prop) : Prop :=
  match it with
  | .ptr x 0 => (match h x with
    | some (.iter y since seen last) => (match h y with
      | some (.map clock es) => clock = last ∧ (match seen.getLast? with
        | some n => (match es.find? (fun e => e.2.2 == n) with
          | some e => K (.tup [e.1.hv, e.2.1])
          | none => False)
        | none => False)
      | _ => False)
    | _ => False)
  | _ => False
def hcopy (P : Program) (t : TypeId) (d s : HV) (h : HH) (K : HV → HH → Prop) : Prop :=
  sliceElem P t = true ∧ zok P (P.elem t) = true ∧
  match d, hsrc h s with
  | .msl x n sz, some ys => (match h x with
    | some (.row false e ds) => ds.length = n ∧ e = P.elem t ∧ esz P e ys ∧ ys.length ≤ n ∧ K (.int .i64 ys.length) (h.set x (.row false e (ys ++ ds.drop ys.length)))
    | _ => False)
  | _, _ => False
/-! ### slices of what can be written: the variable is given up, the row is frozen -/
def hslices (v : HV) (b : Bool) : Bool :=
  match v with
  | .msl _ _ _ => b
  | _ => false
def hslice2 (P : Program) (t : TypeId) (x : HV) (lo hi : Option HV) (h : HH) (K : HV → HH → Prop) : Prop :=
  match x with
  | .msl y n _ => sliceElem P t = true ∧ (P.info? (P.elem t)).isSome = true ∧ (match h y with
    | some (.row _ e ds) => ds.length = n ∧ esz P (P.elem t) ds ∧ hsliceB lo hi n fun l m => K (.sl false ((ds.drop l).take (m - l))) (h.set y (.row true e ds))
    | _ => False)
  | _ => False

def methodOf (P : Program) (t : TypeId) (name : String) : Option FuncId :=
  match P.info? t with
  | some i => match i.methods.find? (·.name == name) with
    | some m => match m.func with
      | some (f, true) => if m.path.isEmpty && hpure.isPtr P t then some f else none
      | _ => none
    | none => none
  | none => none

def hlen (P : Program) (t : TypeId) (v : HV) (h : HH) (K : HV → Prop) : Prop :=
  match v with
  | .sl _ ds => sliceElem P t = true ∧ K (.int .i64 ds.length)
  | .msl _ n _ => sliceElem P t = true ∧ K (.int .i64 n)
  | .asl _ _ n _ => sliceElem P t = true ∧ K (.int .i64 n)
  | .str s => P.underlying t = some .string ∧ K (.int .i64 s.length)
  | .map x => strMap P t = true ∧ (match h x with | some (.map _ es) => K (.int .i64 es.length) | _ => False)
  | _ => False

def happend (P : Program) (t u : TypeId) (s x : HV) (h : HH) (K : HV → HH → Prop) : Prop :=
  sliceElem P t = true ∧ srcType P u = true ∧ zok P (P.elem t) = true ∧
  match hsrc h x with
  | some ys => esz P (P.elem t) ys ∧ (match s with
    | .sl true ds => esz P (P.elem t) ds ∧ (ds = [] ∨ ys ≠ []) ∧ ds.length + ys.length ≤ maxLen ∧ (ds.length + ys.length) * P.bytesOf (P.elem t) ≤ 140737488355328 ∧
        (h h.nx = none → K (.msl h.nx (ds.length + ys.length) (P.cellsOf (P.elem t))) (h.push (.row false (P.elem t) (ds ++ ys))))
    | .msl y n sz => match h y with
      | some (.row im e ds) => ds.length = n ∧ e = P.elem t ∧ n + ys.length ≤ maxLen ∧ (n + ys.length) * P.bytesOf e ≤ 140737488355328 ∧
          K (.msl y (n + ys.length) sz) (h.set y (.row im e (ds ++ ys)))
      | _ => False
    | _ => False)
  | none => False

def hbuiltin (P : Program) (b : Builtin) (ts : Array TypeId) (args : List HV) (h : HH) (K : HV → HH → Prop) : Prop :=
  match b, ts.toList, args with
  | .len, [t], [v] => hlen P t v h fun v => K v h
  | .append, [t, u], [s, x] => happend P t u s x h K
  | .copy, t :: _, [d, s] => hcopy P t d s h K
  | .delete, t :: _, [m, k] => hmapdel P t m k h K
  | .max, _, [.int k x, .int _ y] => K (.int k (if y > x then y else x)) h
  | .min, _, [.int k x, .int _ y] => K (.int k (if y < x then y else x)) h
  | _, _, _ => False

def hmem (P : Program) (op : Op) (ρ : Operand → HV) (h : HH) (K : HV → HH → Prop) : Prop :=
  match op with
  | .alloc e => zok0 P e = true ∧ (h h.nx = none → K (.ptr h.nx 0) (h.push (.cells (zcells P e))))
  | .box e v => (ρ v).val = true ∧ (h h.nx = none → K (.ptr h.nx 0) (h.push (.cells (ρ v).cells)))
  | .build t parts => buildOk P t = true ∧ hfill (bplace P t) ρ parts.toList (zcells P t) fun cs => K (.agg cs) h
  | .buildSlice t len parts => sliceElem P t = true ∧ zok P (P.elem t) = true ∧ parts.toList.map (·.1) = List.range len ∧ len * P.cellsOf (P.elem t) ≤ 16777216 ∧
      (∀ v ∈ parts.toList.map (fun p => ρ p.2), v.val = true ∧ v.cells.length = P.cellsOf (P.elem t)) ∧ K (.sl true (parts.toList.map fun p => ρ p.2)) h
  | .load t a => match hcells h (ρ a) with
    | some q => hloadOk P t q.1 q.2 ∧ K (hload P t q.1 q.2) h
    | none => False
  | .store t a v => hstore P t (ρ a) (ρ v) h fun h => K .any h
  | .call c => match c.callee with
    | .value f => match ρ f with
      | .fn n first cap => HCalls P n (first ++ c.args.toList.map ρ ++ cap) h K
      | _ => False
    | .builtin b => hbuiltin P b c.argTypes (c.args.toList.map ρ) h K
    | .invoke x name => match ρ x with
      | .ifc t v => (match methodOf P t name with | some f => HCalls P f (v :: c.args.toList.map ρ) h K | none => False)
      | _ => False
  | .convert s d x => if hconvs P d (ρ x) = true then hconv P s d (ρ x) h K else hpure P (.convert s d x) ρ fun v => K v h
  | .slice t x lo hi mx => if hslices (ρ x) mx.isNone = true then hslice2 P t (ρ x) (lo.map ρ) (hi.map ρ) h K else hpure P (.slice t x lo hi mx) ρ fun v => K v h
  | .makeSlice t l c => hmake P t (ρ l) (ρ c) h K
  | .makeMap t r => r = none ∧ (h h.nx = none → K (.map h.nx) (h.push (.map 0 [])))
  | .lookup t m k ok => hlookup P t (ρ m) (ρ k) ok h fun v => K v h
  | .mapUpdate t m k v => hmapset P t (ρ m) (ρ k) (ρ v) h fun h => K .any h
  | .range t m => hrange P t (ρ m) h K
  | .next it s => hnext (ρ it) s h K
  | .entry it => hentry (ρ it) h fun v => K v h
  | _ => False

def hop (P : Program) (op : Op) (ρ : Operand → HV) (h : HH) (K : HV → HH → Prop) : Prop :=
  if isPure op then hpure P op ρ fun v => K v h else hmem P op ρ h K

theorem bplace_fill {P : Program} {t : TypeId} (h : buildOk P t = true) {parts : List (Nat × Value)} {z : Value} {i : TypeInfo} (hi : P.info? t = some i) (hz : i.zero = some z) :
    P.built t parts = Instr.fill (bplace P t) z.cells parts := by
  unfold buildOk at h
  simp only [Bool.and_eq_true] at h
  obtain ⟨_, h⟩ := h
  unfold Program.built bplace
  split at h
  · rename_i n e hu
    obtain ⟨ie, hie⟩ := Option.isSome_iff_exists.1 h
    simp [hi, hu, hz, hie, Program.cellsOf]
  · rename_i fs hu
    obtain ⟨pl, hpl⟩ := Option.isSome_iff_exists.1 h
    simp [hi, hu, hz, hpl]
  · cases h

/-- related cells -/
structure CellsR (g : Ghost) (cs : List HV) (arr : Array Value) : Prop where
  size : arr.size = cs.length
  one : ∀ (j : Nat) (v : Value), arr[j]? = some v → v.oneCell' = true
  rd : ∀ (j : Nat) (v : HV), cs[j]? = some v → VR g v (arr.getD j undef)

theorem foldl_set (vs : List Value) : ∀ (k off : Nat) (cells : Array Value), off + k + vs.length ≤ cells.size →
    ((vs.zipIdx k).foldl (fun cs (x : Value × Nat) => cs.setIfInBounds (off + x.2) x.1) cells) = (cells.toList.take (off + k) ++ vs ++ cells.toList.drop (off + k + vs.length)).toArray := by
  induction vs with
  | nil => intro k off cells h; simp
  | cons v vs ih =>
    intro k off cells h
    simp only [List.zipIdx_cons, List.foldl_cons]
    simp only [List.length_cons] at h
    rw [ih (k + 1) off _ (by simp; omega)]
    apply Array.ext'
    simp only [Array.toList_setIfInBounds, List.length_cons]
    have hn : off + k < cells.toList.length := by simp; omega
    have t1 : (cells.toList.set (off + k) v).take (off + (k + 1)) = cells.toList.take (off + k) ++ [v] := by
      rw [show off + (k + 1) = off + k + 1 from by omega, List.take_succ_eq_append_getElem (by simpa using hn)]
      simp [List.take_set_of_le]
    have t2 : (cells.toList.set (off + k) v).drop (off + (k + 1) + vs.length) = cells.toList.drop (off + k + (vs.length + 1)) := by
      rw [List.drop_set_of_lt (by omega)]; congr 1; omega
    rw [t1, t2]
    simp

theorem CellsR.put {g : Ghost} {cs : List HV} {arr : Array Value} (h : CellsR g cs arr) {v : HV} {c : Value} (hc : VR g v c) (hv : v.val = true) {o : Nat} (ho : o + v.cells.length ≤ cs.length) :
    CellsR g (splice cs o v.cells) (c.cells.zipIdx.foldl (fun cs (x : Value × Nat) => cs.setIfInBounds (o + x.2) x.1) arr) := by
  obtain ⟨c1, c2, c3⟩ := cells_of hc hv
  have hl : o + c.cells.toList.length ≤ arr.size := by simp [c1, h.size]; omega
  have hfold : (c.cells.zipIdx.foldl (fun cs (x : Value × Nat) => cs.setIfInBounds (o + x.2) x.1) arr) = (arr.toList.take o ++ c.cells.toList ++ arr.toList.drop (o + c.cells.toList.length)).toArray := by
    have := foldl_set c.cells.toList 0 o arr (by simpa using hl)
    simp only [Nat.add_zero] at this
    rw [← this, ← Array.foldl_toList]
    simp
  rw [hfold]
  refine ⟨by rw [size_splice hl, h.size, length_splice ho], one_splice h.one (ones_list c2), fun j u eu => ?_⟩
  rw [getD_splice hl]
  rw [get_splice ho] at eu
  simp only [Array.length_toList, c1] at *
  split at eu
  · rename_i hj; rw [if_pos hj]; exact h.rd j u eu
  · rename_i hj
    rw [if_neg hj]
    split at eu
    · rename_i hj2
      rw [if_pos hj2]
      have := c3 (j - o) u eu
      simpa [Array.getD_eq_getD_getElem?, List.getD_eq_getElem?_getD] using this
    · rename_i hj2; rw [if_neg hj2]; exact h.rd j u eu

theorem hfill_sound {g : Ghost} {place : Nat → Option (Nat × Nat)} {ρ : Operand → HV} {c : Operand → Value} (hρ : ∀ x, VR g (ρ x) (c x)) : ∀ (parts : List (Nat × Operand)) {cs : List HV} {arr : Array Value} {K : List HV → Prop},
    CellsR g cs arr → hfill place ρ parts cs K → ∃ cs' arr', K cs' ∧ CellsR g cs' arr' ∧ Instr.fill place arr (parts.map fun p => (p.1, c p.2)) = some arr'
  | [], cs, arr, K, h, hk => ⟨cs, arr, hk, h, rfl⟩
  | p :: ps, cs, arr, K, h, hk => by
    simp only [hfill] at hk
    split at hk
    · rename_i q hq
      obtain ⟨k1, k2, k3, k4⟩ := hk
      have hsz := (cells_of (hρ p.2) k1).1
      obtain ⟨cs', arr', r1, r2, r3⟩ := hfill_sound hρ ps (h.put (hρ p.2) k1 (by rw [k2]; exact k3)) k4
      refine ⟨cs', arr', r1, r2, ?_⟩
      obtain ⟨q1, q2⟩ := q
      simp only [List.map_cons, Instr.fill, hq]
      simp only at k2 k3
      have hsz2 : (c p.2).cells.size = q2 := hsz.trans k2
      rw [if_neg (by simp [hsz2, h.size]; omega)]
      exact r3
    · exact hk.elim

theorem CellsR.zero {g : Ghost} {P : Program} {t : TypeId} (h : zok0 P t = true) : ∃ i z, P.info? t = some i ∧ i.zero = some z ∧ CellsR g (zcells P t) z.cells ∧ z.cells.size = P.cellsOf t := by
  obtain ⟨i, z, hi, hz, h1, h2, h4⟩ := zok0_of h
  refine ⟨i, z, hi, hz, ⟨by simp [zcells, hi, hz], fun j v e => h2 v (by simpa using Array.mem_of_getElem? e), fun j v e => ?_⟩, by rw [h1, h4]⟩
  simp only [zcells, hi, hz, List.getElem?_map] at e
  cases hj : z.cells.toList[j]? with
  | none => rw [hj] at e; cases e
  | some u =>
    rw [hj] at e; cases e
    have hj' : z.cells[j]? = some u := by simpa using hj
    simp [Array.getD_eq_getD_getElem?, hj']; exact VR_hv1 g u

end Go.H
