/- One operation, at the layer. -/
import Derived.Test.YtclolaieehmgmaaGreatHOps
set_option linter.unusedVariables false
set_option linter.unusedSimpArgs false
namespace Go.H

/-! ### what leaves a function's hands is read alone -/
def sealC : HV → HH → HV × HH
  | .msl x n _, h => match h x with
    | some (.row _ e ds) => if ds.length = n then (.sl false ds, h.set x (.row true e ds)) else (.any, h)
    | _ => (.any, h)
  | v, h => (v, h)
def sealL : List HV → HH → List HV × HH
  | [], h => ([], h)
  | v :: vs, h => let r := sealC v h; let q := sealL vs r.2; (r.1 :: q.1, q.2)
def hseal : HV → HH → HV × HH
  | .agg cs, h => let r := sealL cs h; (.agg r.1, r.2)
  | v, h => sealC v h
def seals : List HV → HH → List HV × HH
  | [], h => ([], h)
  | v :: vs, h => let r := hseal v h; let q := seals vs r.2; (r.1 :: q.1, q.2)
def sealT : HV → HH → HV × HH
  | .tup cs, h => let r := seals cs h; (.tup r.1, r.2)
  | v, h => hseal v h

/-! ### places -/
def foff (P : Program) (t : TypeId) (f : Nat) : Nat :=
  match P.underlying t with
  | some (.struct fs) => match fs[f]? with | some x => x.offset | none => 0
  | some (.array _ e) => f * P.cellsOf e
  | _ => 0
def fsz (P : Program) (t : TypeId) (f : Nat) : Nat :=
  match P.underlying t with
  | some (.struct fs) => match fs[f]? with | some x => P.cellsOf x.type | none => 0
  | some (.array _ e) => P.cellsOf e
  | _ => 0
def isField (P : Program) (t : TypeId) (f : Nat) : Bool :=
  match P.underlying t with
  | some (.struct fs) => f < fs.size && 0 < fsz P t f
  | _ => false
def ftyp (P : Program) (t : TypeId) (f : Nat) : TypeId :=
  match P.underlying t with
  | some (.struct fs) => match fs[f]? with | some x => x.type | none => 0
  | some (.array _ e) => e
  | _ => 0

def hplace (v : HV) (k : Nat) (K : HV → Prop) : Prop :=
  match v with
  | .ptr x o => K (.ptr x (o + k))
  | .eptr cs => K (.eptr (cs.drop k))
  | .mptr x n i o => K (.mptr x n i (o + k))
  | _ => False

def sliceElem (P : Program) (t : TypeId) : Bool := match P.underlying t with | some (.slice _) => true | _ => false
def arrLen (P : Program) (t : TypeId) : Nat := match P.underlying t with | some (.array n _) => n | _ => 0

def helem (P : Program) (t : TypeId) (v i : HV) (K : HV → Prop) : Prop :=
  match v, i with
  | .sl _ ds, .int _ i => sliceElem P t = true ∧ 0 ≤ i ∧ i < ds.length ∧ (∀ d, ds[i.toNat]? = some d → d.cells.length = P.cellsOf (P.elem t)) ∧ K (.eptr ((ds.getD i.toNat .any).cells))
  | .msl x n sz, .int _ i => sliceElem P t = true ∧ 0 ≤ i ∧ i < n ∧ sz = P.cellsOf (P.elem t) ∧ K (.mptr x n i.toNat 0)
  | .asl x o n _, .int _ i => sliceElem P t = true ∧ 0 ≤ i ∧ i < n ∧ P.cellsOf (P.elem t) = 1 ∧ K (.ptr x (o + i.toNat))
  | .ptr x o, .int _ i => 1 < arrLen P t ∧ 0 ≤ i ∧ i < arrLen P t ∧ K (.ptr x (o + i.toNat * P.cellsOf (P.elem t)))
  | _, _ => False

def zcells (P : Program) (t : TypeId) : List HV :=
  match P.info? t with
  | some i => match i.zero with
    | some z => z.cells.toList.map hv1
    | none => []
  | none => []

def putElem (d : HV) (o : Nat) (v : HV) : HV :=
  match d with
  | .agg cs => .agg (splice cs o v.cells)
  | _ => v

def hstore (P : Program) (t : TypeId) (p v : HV) (h : HH) (K : HH → Prop) : Prop :=
  v.val = true ∧ v.cells.length = P.cellsOf t ∧ (P.info? t).isSome = true ∧
  match p with
  | .ptr x o => match h x with
    | some (.cells cs) => o + v.cells.length ≤ cs.length ∧ K (h.set x (.cells (splice cs o v.cells)))
    | _ => False
  | .mptr x n i o => match h x with
    | some (.row false e ds) => ds.length = n ∧ i < n ∧ 0 < v.cells.length ∧ o + v.cells.length ≤ (ds.getD i .any).cells.length ∧ K (h.set x (.row false e (ds.set i (putElem (ds.getD i .any) o v))))
    | _ => False
  | _ => False

theorem sealC_sound {P : Program} {Fr : Nat → Prop} {g : Ghost} {h : HH} {w : World} (r : Rel P Fr g h w) {v : HV} {c : Value} (hv : VR g v c) :
    ∃ g', g.le g' ∧ VR g' (sealC v h).1 c ∧ Rel P Fr g' (sealC v h).2 w := by
  have same : ∀ v, VR g v c → sealC v h = (v, h) → ∃ g', g.le g' ∧ VR g' (sealC v h).1 c ∧ Rel P Fr g' (sealC v h).2 w := by
    intro v hv e; rw [e]; exact ⟨g, Ghost.le.refl g, hv, r⟩
  have anyc : sealC v h = (.any, h) → ∃ g', g.le g' ∧ VR g' (sealC v h).1 c ∧ Rel P Fr g' (sealC v h).2 w := by
    intro e; rw [e]; exact ⟨g, Ghost.le.refl g, .any _, r⟩
  cases v with
  | msl x n sz =>
    cases hx : h x with
    | none => exact anyc (by simp [sealC, hx])
    | some ob =>
      cases ob with
      | row im e ds =>
        by_cases hn : ds.length = n
        · have he : sealC (.msl x n sz) h = (.sl false ds, h.set x (.row true e ds)) := by simp [sealC, hx, hn]
          rw [he]
          show ∃ g', g.le g' ∧ VR g' (.sl false ds) c ∧ Rel P Fr g' (h.set x (.row true e ds)) w
          subst hn
          have hstay : ∀ {hd}, g.row x ds.length = some hd → hd.2.1 = 0 → ∃ g', g.le g' ∧ VR g' (.sl false ds) c ∧ Rel P Fr g' (h.set x (.row true e ds)) w := by
            intro hd hrow hc0
            obtain ⟨b, c', sz⟩ := hd
            simp only at hc0
            subst hc0
            obtain ⟨t0, t1, t2, t3, t4⟩ := (r.obj x _ hx).2 b 0 sz hrow
            have hde : ds = [] := List.eq_nil_of_length_eq_zero (by omega)
            subst hde
            refine ⟨g, Ghost.le.refl g, ?_, r.step (Ghost.le.refl g) (Nat.le_refl _) r.imm (fun y oy ey => ?_) (fun y hy => ?_) r.rtop r.sup⟩
            · generalize hv0 : ([] : List HV).length = n0 at hv
              cases hv with
              | msl0 _ b _ a h0 => exact .sl false [] a 0 0 0 0 0 rfl (Nat.le_refl _) (fun h => by cases h) (Nat.zero_le _) (fun h => absurd rfl h) (by simp) (by simp) (by simp)
              | msl _ _ b c _ h0 hc hp hm => subst hv0; rw [h0] at hrow; cases hrow; omega
            · by_cases hyx : y = x
              · subst hyx
                rw [HH.set_same] at ey
                cases ey
                refine .inr ⟨⟨(r.obj y _ hx).1, fun b' c'' sz' h' => ?_⟩, fun b' hb' => ?_⟩
                · rw [hrow] at h'; cases h'; exact ⟨t0, t1, t2, t3, fun h => absurd rfl h⟩
                · have hrow0 : g.row y 0 = some (b, 0, sz) := hrow
                  simp [Ghost.blk, hrow0] at hb'
              · rw [HH.set_ne _ _ hyx] at ey
                exact .inl ⟨ey, rfl, fun b' hb' => ⟨rfl, (r.apart y oy b' ey hb').2.1⟩⟩
            · obtain ⟨f1, f2⟩ := r.fresh y hy
              have : y ≠ x := by rintro rfl; rw [f1] at hx; cases hx
              exact ⟨by rw [HH.set_ne _ _ this]; exact f1, f2⟩
          generalize hn0 : ds.length = n0 at hv
          cases hv with
          | msl0 _ b _ a hrow => exact hstay (hd := (b, 0, sz)) (by rw [hn0]; exact hrow) rfl
          | msl _ _ b c' _ hrow hc hp hm =>
            subst hn0
            obtain ⟨t0, t1, t2, t3, t4⟩ := (r.obj x _ hx).2 b c' sz hrow
            obtain ⟨cur, ⟨fr, b1, bf⟩, b2, b3, b4, b5, b6⟩ := t4 (by omega)
            have hbk : g.blk x (.row im e ds) = some b := by simp [Ghost.blk, hrow]; omega
            have hi : ∀ o v, g.imm b o = some v → cur[o]? = some v := fun o v e' => by have := (r.imm b o v e').1; simpa [World.cell?, b1] using this
            -- the row's cells are frozen
            let g1 := g.freeze b cur (ds.length * sz)
            have hl : g.le g1 := Ghost.freeze_le fun o v _ e' => hi o v e'
            have himm : ∀ k, k < ds.length * sz → g1.imm b k = some (cur.getD k undef) := fun k hk => by
              have hks : k < cur.size := by rw [b2]; exact Nat.lt_of_lt_of_le hk (Nat.mul_le_mul_right _ hc)
              simp only [g1, Ghost.freeze, true_and, hk, if_true]; simp [Array.getD, hks]
            refine ⟨g1, hl, ?_, r.step hl (Nat.le_refl _) (fun b' o v e' => ?_) (fun y oy ey => ?_) (fun y hy => ?_) r.rtop r.sup⟩
            · refine .sl false ds (some ⟨b, 0, none⟩) _ c' b 0 sz rfl hc (fun h => by cases h) hm (fun _ => rfl) b4 (fun i d j v e1 e2 => ?_) (fun i d j v e1 e2 => ?_)
              · have hj : j < sz := by rw [← b4 i d e1]; exact (List.getElem?_eq_some_iff.1 e2).1
                rw [Nat.zero_add, himm _ (idx_lt (List.getElem?_eq_some_iff.1 e1).1 hj)]; rfl
              · have hj : j < sz := by rw [← b4 i d e1]; exact (List.getElem?_eq_some_iff.1 e2).1
                rw [Nat.zero_add, himm _ (idx_lt (List.getElem?_eq_some_iff.1 e1).1 hj)]
                exact (b5 i d j v e1 e2).mono hl
            · simp only [g1, Ghost.freeze] at e'
              split at e'
              · rename_i hcc; obtain ⟨rfl, h2⟩ := hcc
                exact ⟨by simp only [World.cell?, b1]; exact e', b3 o v e'⟩
              · exact r.imm b' o v e'
            · have hmine : ∀ k o, (k = b → ¬ o < ds.length * sz) → g.imm k o = none → g1.imm k o = none := fun k o hk hn => by
                simp only [g1, Ghost.freeze]
                split
                · rename_i hcc; exact absurd hcc.2 (hk hcc.1)
                · exact hn
              by_cases hyx : y = x
              · subst hyx
                rw [HH.set_same] at ey
                cases ey
                refine .inr ⟨⟨fun hn => (by have : g.row y ds.length = none := hn; rw [hrow] at this; cases this), fun b' c'' sz' h' => ?_⟩, fun k hk => ?_⟩
                · have h'' : g.row y ds.length = some (b', c'', sz') := h'
                  rw [hrow] at h''; cases h''
                  exact ⟨t0, t1, t2, t3, fun _ => ⟨cur, ⟨fr, b1, bf⟩, b2, b3, b4, fun i d j v e1 e2 => (b5 i d j v e1 e2).mono hl, fun _ => himm⟩⟩
                · have hkb : k = b := by
                    have : g.blk y (.row im e ds) = some k := hk
                    rw [hbk] at this; cases this; rfl
                  subst hkb
                  obtain ⟨q1, q2, q3⟩ := r.apart y _ k hx hbk
                  refine ⟨q1, fun o hm' => ?_, q3, fun z oz hz ez hbz => ?_⟩
                  · simp only [HObj.mine] at hm'
                    rw [← t1] at hm'
                    refine hmine k o (fun _ => by omega) (q2 o ?_)
                    cases im with
                    | false => trivial
                    | true => simp only [HObj.mine]; rw [← t1]; exact hm'
                  · rw [HH.set_ne _ _ hz] at ez
                    have : g.blk z oz = some k := by cases oz <;> exact hbz
                    exact hz (r.uniq z y oz _ k ez hx this hbk)
              · rw [HH.set_ne _ _ hyx] at ey
                refine .inl ⟨ey, rfl, fun k hk => ⟨rfl, fun o hm' => ?_⟩⟩
                have hkb : k ≠ b := fun q => hyx (r.uniq y x oy _ k ey hx hk (by rw [q]; exact hbk))
                exact hmine k o (fun q => absurd q hkb) ((r.apart y oy k ey hk).2.1 o hm')
            · obtain ⟨f1, f2⟩ := r.fresh y hy
              have : y ≠ x := by rintro rfl; rw [f1] at hx; cases hx
              exact ⟨by rw [HH.set_ne _ _ this]; exact f1, f2⟩
        · exact anyc (by simp [sealC, hx, hn])
      | _ => exact anyc (by simp [sealC, hx])
  | _ => exact same _ hv rfl

theorem sealL_sound {P : Program} {Fr : Nat → Prop} {w : World} : ∀ (cs : List HV) {g : Ghost} {h : HH} (r : Rel P Fr g h w) (c : Nat → Value), (∀ (j : Nat) (v : HV), cs[j]? = some v → VR g v (c j)) →
    ∃ g', g.le g' ∧ (sealL cs h).1.length = cs.length ∧ (∀ (j : Nat) (v : HV), (sealL cs h).1[j]? = some v → VR g' v (c j)) ∧ Rel P Fr g' (sealL cs h).2 w
  | [], g, h, r, c, hc => ⟨g, Ghost.le.refl g, rfl, (fun j v e => by cases e), r⟩
  | v :: vs, g, h, r, c, hc => by
    obtain ⟨g1, l1, v1, r1⟩ := sealC_sound r (hc 0 v rfl)
    obtain ⟨g2, l2, n2, v2, r2⟩ := sealL_sound vs r1 (fun j => c (j + 1)) fun j u e => (hc (j + 1) u e).mono l1
    refine ⟨g2, l1.trans l2, by simp [sealL, n2], fun j u e => ?_, r2⟩
    cases j with
    | zero => simp only [sealL, List.getElem?_cons_zero, Option.some.injEq] at e; subst e; exact v1.mono l2
    | succ j => simp only [sealL, List.getElem?_cons_succ] at e; exact v2 j u e

theorem hseal_sound {P : Program} {Fr : Nat → Prop} {g : Ghost} {h : HH} {w : World} (r : Rel P Fr g h w) {v : HV} {c : Value} (hv : VR g v c) :
    ∃ g', g.le g' ∧ VR g' (hseal v h).1 c ∧ Rel P Fr g' (hseal v h).2 w := by
  cases hv with
  | agg cs a hs h1 h2 =>
    obtain ⟨g', l, n, v, r'⟩ := sealL_sound cs r (fun j => a.getD j undef) h2
    exact ⟨g', l, .agg _ _ (by rw [hs]; exact n.symm) h1 v, r'⟩
  | _ => exact sealC_sound r (by constructor <;> assumption)

theorem seals_sound {P : Program} {Fr : Nat → Prop} {w : World} : ∀ (cs : List HV) {g : Ghost} {h : HH} (r : Rel P Fr g h w) (c : Nat → Value), (∀ (j : Nat) (v : HV), cs[j]? = some v → VR g v (c j)) →
    ∃ g', g.le g' ∧ (seals cs h).1.length = cs.length ∧ (∀ (j : Nat) (v : HV), (seals cs h).1[j]? = some v → VR g' v (c j)) ∧ Rel P Fr g' (seals cs h).2 w
  | [], g, h, r, c, hc => ⟨g, Ghost.le.refl g, rfl, (fun j v e => by cases e), r⟩
  | v :: vs, g, h, r, c, hc => by
    obtain ⟨g1, l1, v1, r1⟩ := hseal_sound r (hc 0 v rfl)
    obtain ⟨g2, l2, n2, v2, r2⟩ := seals_sound vs r1 (fun j => c (j + 1)) fun j u e => (hc (j + 1) u e).mono l1
    refine ⟨g2, l1.trans l2, by simp [seals, n2], fun j u e => ?_, r2⟩
    cases j with
    | zero => simp only [seals, List.getElem?_cons_zero, Option.some.injEq] at e; subst e; exact v1.mono l2
    | succ j => simp only [seals, List.getElem?_cons_succ] at e; exact v2 j u e

theorem sealT_sound {P : Program} {Fr : Nat → Prop} {g : Ghost} {h : HH} {w : World} (r : Rel P Fr g h w) {v : HV} {c : Value} (hv : VR g v c) :
    ∃ g', g.le g' ∧ VR g' (sealT v h).1 c ∧ Rel P Fr g' (sealT v h).2 w := by
  cases hv with
  | tup cs a hs h2 =>
    obtain ⟨g', l, n, v, r'⟩ := seals_sound cs r (fun j => a.getD j undef) h2
    exact ⟨g', l, .tup _ _ (by rw [hs]; exact n.symm) v, r'⟩
  | _ => exact hseal_sound r (by constructor <;> assumption)

/-! ### one operation -/
def hsliceB (lo hi : Option HV) (n : Nat) (K : Nat → Nat → Prop) : Prop :=
  match lo, hi with
  | none, none => K 0 n
  | some (.int _ l), none => 0 ≤ l ∧ l ≤ n ∧ K l.toNat n
  | none, some (.int _ m) => 0 ≤ m ∧ m ≤ n ∧ K 0 m.toNat
  | some (.int _ l), some (.int _ m) => 0 ≤ l ∧ l ≤ m ∧ m ≤ n ∧ K l.toNat m.toNat
  | _, _ => False

/-- pure operations -/
def arrPtr (P : Program) (t : TypeId) : Bool :=
  match P.underlying t with
  | some (.array m e) => (P.info? e).isSome && P.cellsOf e == 1 && Nat.ble m maxLen
  | _ => false
/-- a slice onto a variable's cells -/
def aslOf (x o l m c : Nat) : HV := if c - l = 0 then .sl true [] else .asl x (o + l) (m - l) (c - l)
def eqv (P : Program) (t : TypeId) (a b : HV) : Option Bool :=
  match P.underlying t, a, b with
  | some (.int _), .int k x, .int k' y => if k = k' then some (decide (x = y)) else none
  | some .bool, .bool x, .bool y => some (x == y)
  | some .string, .str x, .str y => some (decide (x = y))
  | _, _, _ => none
def fieldsEq (P : Program) : List Field → Nat → List HV → List HV → Option Bool
  | [], _, _, _ => some true
  | f :: fs, i, a :: xs, b :: ys => if f.name ≠ "_" ∧ f.offset = i then
      match eqv P f.type a b with
      | some true => fieldsEq P fs (i + 1) xs ys
      | some false => some false
      | none => none
    else none
  | _ :: _, _, _, _ => none
def aggEq (P : Program) (t : TypeId) (xs ys : List HV) : Option Bool :=
  match P.underlying t with
  | some (.struct fs) => if P.stoodInHeld t = false ∧ P.eqGuardType P.depth t = false then fieldsEq P fs.toList 0 xs ys else none
  | _ => none

def hpure (P : Program) (op : Op) (ρ : Operand → HV) (K : HV → Prop) : Prop :=
  match op with
  | .move x | .assign x => K (ρ x)
  | .pick c a b => match ρ c with | .bool t => K (if t then ρ a else ρ b) | _ => False
  | .nilCheck x => match ρ x with
    | .ptr x o => K (.ptr x o) | .eptr cs => K (.eptr cs) | .mptr x n i o => K (.mptr x n i o) | .fn f a b => K (.fn f a b) | .ifc t v => K (.ifc t v) | _ => False
  | .binOp op t x y _ =>
    match op, ρ x, ρ y with
    | .eql, .ptr _ _, .nilp | .eql, .eptr _, .nilp | .eql, .mptr .., .nilp => isPtr P t = true ∧ K (.bool false)
    | .neq, .ptr _ _, .nilp | .neq, .eptr _, .nilp | .neq, .mptr .., .nilp => isPtr P t = true ∧ K (.bool true)
    | .eql, .nilp, .nilp => isPtr P t = true ∧ K (.bool true)
    | .neq, .nilp, .nilp => isPtr P t = true ∧ K (.bool false)
    | .eql, .bool x, .bool y => P.underlying t = some .bool ∧ K (.bool (x == y))
    | .neq, .bool x, .bool y => P.underlying t = some .bool ∧ K (.bool (x != y))
    | .eql, .agg xs, .agg ys => match aggEq P t xs ys with | some r => K (.bool r) | none => False
    | .neq, .agg xs, .agg ys => match aggEq P t xs ys with | some r => K (.bool !r) | none => False
    | op, a, b => hbin op a b K
  | .unOp op _ x => match op, ρ x with
    | .not, .bool b => K (.bool !b)
    | .neg, .int k n => K (.int k (k.wrap (0 - n)))
    | .xor, .int k n => K (.int k (k.wrap (BitVec.ofInt k.bits (if k.signed then -1 else k.max) ^^^ BitVec.ofInt k.bits n).toNat))
    | _, _ => False
  | .convert src dst x => match P.underlying src, P.underlying dst, ρ x with
    | some _, some (.int k), .int _ n => K (.int k (k.wrap n))
    | some _, some .string, .str s => K (.str s)
    | _, _, _ => False
  | .makeInterface t x => (P.underlying t).isSome = true ∧ isIface P t = false ∧ K (.ifc t (ρ x))
  | .makeFunc fn first cap => match fn with | .func f => K (.fn f (first.toList.map ρ) (cap.toList.map ρ)) | _ => False
  | .fieldAddr t x f => isField P t f = true ∧ hplace (ρ x) (foff P t f) K
  | .indexAddr t x i => (P.info? (P.elem t)).isSome = true ∧ helem P t (ρ x) (ρ i) K
  | .index t x i => match ρ x, ρ i with
    | .str s, .int _ i => P.underlying t = some .string ∧ 0 ≤ i ∧ i < s.length ∧ K (.int .u8 ((s.getD i.toNat 0).toNat))
    | _, _ => False
  | .slice t x lo hi mx => match ρ x, mx with
    | .str s, none => P.underlying t = some .string ∧ hsliceB (lo.map ρ) (hi.map ρ) s.length fun l m => K (.str ((s.drop l).take (m - l)))
    | .sl full ds, none => sliceElem P t = true ∧ (P.info? (P.elem t)).isSome = true ∧ esz P (P.elem t) ds ∧ hsliceB (lo.map ρ) (hi.map ρ) ds.length fun l m => K (.sl (full && decide (m = ds.length)) ((ds.drop l).take (m - l)))
    | .sl full ds, some m => sliceElem P t = true ∧ (P.info? (P.elem t)).isSome = true ∧ esz P (P.elem t) ds ∧ hi.isSome = true ∧ (match ρ m with
      | .int _ m => 0 ≤ m ∧ m ≤ ds.length ∧ hsliceB (lo.map ρ) (hi.map ρ) m.toNat fun l k => K (.sl (decide (k = m.toNat)) ((ds.drop l).take (k - l)))
      | _ => False)
    | .ptr y o, none => arrPtr P t = true ∧ hsliceB (lo.map ρ) (hi.map ρ) (arrLen P t) fun l m => K (aslOf y o l m (arrLen P t))
    | .asl y o n c, none => sliceElem P t = true ∧ (P.info? (P.elem t)).isSome = true ∧ P.cellsOf (P.elem t) = 1 ∧ hsliceB (lo.map ρ) (hi.map ρ) n fun l m => K (aslOf y o l m c)
    | _, _ => False
  | .extract x i => match ρ x with | .tup vs => (match vs[i]? with | some v => K v | none => False) | _ => False
  | .field t x f => match ρ x with
    | .agg cs => isField P t f = true ∧ hloadOk P (ftyp P t f) cs (foff P t f) ∧ K (hload P (ftyp P t f) cs (foff P t f))
    | _ => False
  | .typeAssert x _ a ok => match ρ x with
    | .ifc t v => t = a ∧ (P.underlying a).isSome = true ∧ isIface P a = false ∧ K (if ok then .tup [v, .bool true] else v)
    | _ => False
  | _ => False
where
  isPtr (P : Program) (t : TypeId) : Bool := match P.underlying t with | some (.pointer _) => true | _ => false
  isIface (P : Program) (t : TypeId) : Bool := match P.underlying t with | some (.interface _) => true | _ => false

/-- the operations that `hpure` speaks of -/
def isPure : Op → Bool
  | .move _ | .assign _ | .pick .. | .nilCheck _ | .binOp .. | .unOp .. | .makeInterface .. | .makeFunc .. | .fieldAddr .. | .indexAddr .. | .index .. | .extract .. | .typeAssert .. | .field .. => true
  | _ => false

theorem hplace_sound {g : Ghost} {v : HV} {c : Value} {k : Nat} {K : HV → Prop} (hv : VR g v c) (h : hplace v k K) : ∃ b o u, c = .pointer (some ⟨b, o, none⟩) ∧ K u ∧ VR g u (.pointer (some ⟨b, o + k, none⟩)) := by
  cases hv with
  | ptr x o b hx => exact ⟨b, o, _, rfl, h, .ptr x (o + k) b hx⟩
  | eptr cs b o h1 h2 =>
    refine ⟨b, o, _, rfl, h, .eptr (cs.drop k) b (o + k) (fun j v e => ?_) (fun j v e => ?_)⟩
    · rw [List.getElem?_drop] at e; rw [Nat.add_assoc]; exact h1 _ _ e
    · rw [List.getElem?_drop] at e; rw [Nat.add_assoc]; exact h2 _ _ e
  | mptr x n i o b c sz hx => exact ⟨b, i * sz + o, _, rfl, h, by rw [Nat.add_assoc]; exact .mptr x n i (o + k) b c sz hx⟩
  | _ => exact h.elim

theorem run_sizeOf_some {P : Program} {t : TypeId} (h : (P.info? t).isSome = true) (w : World) : (sizeOf t).run P w = .ok (P.cellsOf t) w := by
  obtain ⟨i, hi⟩ := Option.isSome_iff_exists.1 h
  exact run_sizeOf hi w

theorem sliceElem_of {P : Program} {t : TypeId} (h : sliceElem P t = true) : P.underlying t = some (.slice (P.elem t)) := by
  unfold sliceElem at h
  unfold Program.elem
  split at h
  · rename_i e he; rw [he]
  · cases h

theorem arrLen_of {P : Program} {t : TypeId} (h : 0 < arrLen P t) : P.underlying t = some (.array (arrLen P t) (P.elem t)) := by
  unfold arrLen at h ⊢
  unfold Program.elem
  split at h
  · rename_i n e he; rw [he]
  · omega

theorem helem_sound {P : Program} {Fr : Nat → Prop} {g : Ghost} {hh : HH} {w : World} (r : Rel P Fr g hh w) {t : TypeId} {v i : HV} {c ci : Value} {K : HV → Prop} (hi : (P.info? (P.elem t)).isSome = true) (hv : VR g v c) (hx : VR g i ci) (h : helem P t v i K) :
    ∃ u cu, K u ∧ VR g u cu ∧ (Instr.indexAt t c ci).run P w = .ok cu w := by
  unfold helem at h
  split at h
  · obtain ⟨h1, h2, h3, h4, h5⟩ := h
    rename_i full ds k n
    cases hx
    have hlt : n.toNat < ds.length := by omega
    have hd : ds[n.toNat]? = some (ds.getD n.toNat .any) := by simp [List.getD, List.getElem?_eq_getElem hlt]
    cases hv with
    | sl _ _ a n' c' b o sz hn hc hf hm ha q0 q1 q2 =>
      subst hn
      have hne : ds ≠ [] := by rintro rfl; simp at hlt
      rw [ha hne]
      have hsz : sz = P.cellsOf (P.elem t) := (q0 _ _ hd).symm.trans (h4 _ hd)
      refine ⟨_, _, h5, .eptr _ b (o + n.toNat * sz) (fun j v e => q1 _ _ j v hd e) (fun j v e => q2 _ _ j v hd e), ?_⟩
      rw [run_indexAt_slice w t _ _ _ k n (sliceElem_of h1), if_pos ⟨h2, h3⟩, run_sizeOf_some hi, Result.andThen_ok, addr_add, hsz]
  · obtain ⟨h1, h2, h3, h5, h4⟩ := h
    rename_i x n sz k m
    cases hx
    cases hv with
    | msl0 => omega
    | msl _ _ b c _ hrow hc hp hm =>
      subst h5
      refine ⟨_, _, h4, .mptr x n m.toNat 0 b c _ hrow, ?_⟩
      rw [run_indexAt_slice w t _ _ _ k m (sliceElem_of h1), if_pos ⟨h2, h3⟩, run_sizeOf_some hi, Result.andThen_ok, addr_add]
      simp
  · obtain ⟨h1, h2, h3, h5, h4⟩ := h
    rename_i x o n c0 k m
    cases hx
    cases hv with
    | asl _ _ _ _ b hb hc hp hm =>
      refine ⟨_, _, h4, .ptr x (o + m.toNat) b hb, ?_⟩
      rw [run_indexAt_slice w t _ _ _ k m (sliceElem_of h1), if_pos ⟨h2, h3⟩, run_sizeOf_some hi, Result.andThen_ok, addr_add, h5]
      simp
  · obtain ⟨h1, h2, h3, h4⟩ := h
    rename_i x o k m
    cases hx
    cases hv with
    | ptr _ _ b hb =>
      have hu := arrLen_of (P := P) (t := t) (by omega)
      refine ⟨_, _, h4, .ptr x _ b hb, ?_⟩
      have hal : P.arrayLen t = arrLen P t := by unfold Program.arrayLen arrLen; rfl
      rw [run_indexAt_array w t _ k m (by rw [hal]; exact hu), hal, if_pos ⟨h2, h3⟩, run_sizeOf_some hi, Result.andThen_ok, addr_add]
  · exact h.elim

end Go.H
