/- The operations on memory as functions. -/
import Derived.Test.YtclolaieehmgmaaGreatHRun0
set_option linter.unusedVariables false
set_option linter.unusedSimpArgs false
namespace Go.H

mutual
def HV.beq : HV → HV → Bool
  | .any, .any => true
  | .bool a, .bool b => a == b
  | .int k x, .int l y => decide (k = l) && decide (x = y)
  | .str a, .str b => decide (a = b)
  | .nilp, .nilp => true
  | .ptr x o, .ptr y p => Nat.beq x y && Nat.beq o p
  | .eptr a, .eptr b => HVs.beq a b
  | .mptr x n i o, .mptr x' n' i' o' => Nat.beq x x' && Nat.beq n n' && Nat.beq i i' && Nat.beq o o'
  | .sl f a, .sl g b => f == g && HVs.beq a b
  | .msl x n s, .msl y m t => Nat.beq x y && Nat.beq n m && Nat.beq s t
  | .asl x n i o, .asl x' n' i' o' => Nat.beq x x' && Nat.beq n n' && Nat.beq i i' && Nat.beq o o'
  | .map x, .map y => Nat.beq x y
  | .fn f a b, .fn g c d => Nat.beq f g && HVs.beq a c && HVs.beq b d
  | .nilf, .nilf => true
  | .ifc t v, .ifc u w => Nat.beq t u && HV.beq v w
  | .nili, .nili => true
  | .agg a, .agg b => HVs.beq a b
  | .tup a, .tup b => HVs.beq a b
  | _, _ => false
def HVs.beq : List HV → List HV → Bool
  | [], [] => true
  | a :: as, b :: bs => HV.beq a b && HVs.beq as bs
  | _, _ => false
end

mutual
theorem HV.beq_eq : ∀ (a b : HV), HV.beq a b = true → a = b := by
  intro a b h
  cases a <;> cases b <;> simp only [HV.beq, Bool.and_eq_true, beq_iff_eq, decide_eq_true_eq, Bool.false_eq_true] at h <;> first
    | rfl
    | (subst h; rfl)
    | (obtain ⟨rfl, rfl⟩ := h; rfl)
    | (rw [beqt h])
    | (rw [beqt h.1, beqt h.2])
    | (rw [beqt h.1.1, beqt h.1.2, beqt h.2])
    | (rw [beqt h.1.1.1, beqt h.1.1.2, beqt h.1.2, beqt h.2])
    | (rw [HVs.beq_eq _ _ h])
    | (rw [h.1, HVs.beq_eq _ _ h.2])
    | (rw [beqt h.1.1, HVs.beq_eq _ _ h.1.2, HVs.beq_eq _ _ h.2])
    | (rw [beqt h.1, HV.beq_eq _ _ h.2])
theorem HVs.beq_eq : ∀ (a b : List HV), HVs.beq a b = true → a = b
  | [], [], _ => rfl
  | a :: as, b :: bs, h => by
    simp only [HVs.beq, Bool.and_eq_true] at h
    rw [HV.beq_eq a b h.1, HVs.beq_eq as bs h.2]
  | [], _ :: _, h => by simp [HVs.beq] at h
  | _ :: _, [], h => by simp [HVs.beq] at h
end

def xsealC : HV → XS → HV × XS
  | .msl x n _, s => match s.get x with
    | some (.row _ e ds) => match Nat.beq ds.length n with
      | true => (.sl false ds, s.set x (.row true e ds))
      | false => (.any, s)
    | _ => (.any, s)
  | v, s => (v, s)
def xsealL : List HV → XS → List HV × XS
  | [], s => ([], s)
  | v :: vs, s => match xsealC v s with
    | (u, s1) => match xsealL vs s1 with
      | (us, s2) => (u :: us, s2)
def xseal : HV → XS → HV × XS
  | .agg cs, s => match xsealL cs s with | (r, s1) => (.agg r, s1)
  | v, s => xsealC v s
def xseals : List HV → XS → List HV × XS
  | [], s => ([], s)
  | v :: vs, s => match xseal v s with
    | (u, s1) => match xseals vs s1 with
      | (us, s2) => (u :: us, s2)

theorem xsealC_ok (v : HV) (s : XS) : sealC v s.hh = ((xsealC v s).1, (xsealC v s).2.hh) := by
  cases v with
  | msl x n z =>
    simp only [sealC, xsealC, XS.hh_get]
    split
    · rename_i im e ds hd
      by_cases hn : ds.length = n
      · simp only [hn, if_true, hd, Nat.beq_refl, XS.hh_set]
      · simp only [hn, if_false, hd, beqf hn]
    · rename_i hd
      split
      · rename_i im e ds hd2; exact absurd hd2 (hd _ _ _)
      · rfl
  | _ => rfl
theorem xsealL_ok : ∀ (vs : List HV) (s : XS), sealL vs s.hh = ((xsealL vs s).1, (xsealL vs s).2.hh)
  | [], s => rfl
  | v :: vs, s => by simp only [sealL, xsealL, xsealC_ok v s, xsealL_ok vs]
theorem xseal_ok (v : HV) (s : XS) : hseal v s.hh = ((xseal v s).1, (xseal v s).2.hh) := by
  cases v with
  | agg cs => simp only [hseal, xseal, xsealL_ok cs s]
  | _ => simp only [hseal, xseal]; exact xsealC_ok _ s
theorem xseals_ok : ∀ (vs : List HV) (s : XS), seals vs s.hh = ((xseals vs s).1, (xseals vs s).2.hh)
  | [], s => rfl
  | v :: vs, s => by simp only [seals, xseals, xseal_ok v s, xseals_ok vs]

/-- nothing in it grows -/
def noMsl : HV → Bool
  | .msl _ _ _ => false
  | .agg cs => cs.all fun | .msl _ _ _ => false | _ => true
  | _ => true
theorem sealC_plain {v : HV} (hv : (match v with | .msl _ _ _ => false | _ => true) = true) (h : HH) : sealC v h = (v, h) := by
  cases v <;> first | rfl | simp at hv
theorem sealL_plain : ∀ {cs : List HV}, (cs.all fun | .msl _ _ _ => false | _ => true) = true → ∀ h : HH, sealL cs h = (cs, h)
  | [], _, h => rfl
  | v :: vs, hv, h => by
    rw [List.all_cons, Bool.and_eq_true] at hv
    simp only [sealL, sealC_plain hv.1 h, sealL_plain hv.2 h]
theorem seal_plain {v : HV} (hv : noMsl v = true) (h : HH) : hseal v h = (v, h) := by
  cases v with
  | agg cs => simp only [hseal, sealL_plain (by simpa [noMsl] using hv) h]
  | msl => simp [noMsl] at hv
  | _ => rfl
theorem seals_plain : ∀ {vs : List HV}, vs.all noMsl = true → ∀ h : HH, seals vs h = (vs, h)
  | [], _, h => rfl
  | v :: vs, hv, h => by
    simp only [List.all_cons, Bool.and_eq_true] at hv
    simp only [seals, seal_plain hv.1 h, seals_plain hv.2 h]

/-! ### memory -/
def okLoad (P : Program) (t : TypeId) (cs : List HV) (o : Nat) : Bool :=
  (P.underlying t).isSome && (if agg? P t = true then Nat.ble (o + P.cellsOf t) cs.length else Nat.blt o cs.length)
theorem okLoad_ok {P : Program} {t : TypeId} {cs : List HV} {o : Nat} (h : okLoad P t cs o = true) : hloadOk P t cs o := by
  unfold okLoad at h
  simp only [Bool.and_eq_true] at h
  refine ⟨h.1, ?_⟩
  have h2 := h.2
  split
  · rename_i ha; rw [if_pos ha] at h2; exact Nat.le_of_ble_eq_true h2
  · rename_i ha; rw [if_neg ha] at h2; exact Nat.le_of_ble_eq_true h2

def xstore (P : Program) (t : TypeId) (p v : HV) (s : XS) : Option XS :=
  if v.val = true ∧ Nat.beq v.cells.length (P.cellsOf t) = true ∧ (P.info? t).isSome = true then
    match p with
    | .ptr x o => match s.get x with
      | some (.cells cs) => if o + v.cells.length ≤ cs.length then some (s.set x (.cells (splice cs o v.cells))) else none
      | _ => none
    | .mptr x n i o => match s.get x with
      | some (.row false e ds) => if ds.length = n ∧ i < n ∧ 0 < v.cells.length ∧ o + v.cells.length ≤ (ds.getD i .any).cells.length then
          some (s.set x (.row false e (ds.set i (putElem (ds.getD i .any) o v)))) else none
      | _ => none
    | _ => none
  else none
theorem xstore_ok {P : Program} {t : TypeId} {p v : HV} {s s' : XS} (h : xstore P t p v s = some s') : hstore P t p v s.hh fun h => h = s'.hh := by
  unfold xstore at h
  split at h
  · rename_i hc
    refine ⟨hc.1, beqt hc.2.1, hc.2.2, ?_⟩
    cases p with
    | ptr x o =>
      simp only [XS.hh_get] at h ⊢
      split at h
      · rename_i cs hx
        simp only [hx]
        split at h
        · rename_i ho; cases h; exact ⟨ho, by rw [XS.hh_set]⟩
        · cases h
      · cases h
    | mptr x n i o =>
      simp only [XS.hh_get] at h ⊢
      split at h
      · rename_i e ds hx
        simp only [hx]
        split at h
        · rename_i ho; cases h; exact ⟨ho.1, ho.2.1, ho.2.2.1, ho.2.2.2, by rw [XS.hh_set]⟩
        · cases h
      · cases h
    | _ => cases h
  · cases h

def xfill (place : Nat → Option (Nat × Nat)) (ρ : Operand → HV) : List (Nat × Operand) → List HV → Option (List HV)
  | [], cs => some cs
  | p :: ps, cs => match place p.1 with
    | some q => if (ρ p.2).val = true ∧ (ρ p.2).cells.length = q.2 ∧ q.1 + q.2 ≤ cs.length then xfill place ρ ps (splice cs q.1 (ρ p.2).cells) else none
    | none => none
theorem xfill_ok {place : Nat → Option (Nat × Nat)} {ρ : Operand → HV} : ∀ (ps : List (Nat × Operand)) (cs : List HV) {r : List HV}, xfill place ρ ps cs = some r → hfill place ρ ps cs fun u => u = r
  | [], cs, r, h => by cases h; rfl
  | p :: ps, cs, r, h => by
    simp only [xfill] at h
    simp only [hfill]
    split at h
    · rename_i q hq
      simp only [hq]
      split at h
      · rename_i hc; exact ⟨hc.1, hc.2.1, hc.2.2, xfill_ok ps _ h⟩
      · cases h
    · cases h

def xlen (P : Program) (t : TypeId) (v : HV) (s : XS) : Option HV :=
  match v with
  | .sl _ ds => if sliceElem P t = true then some (.int .i64 ds.length) else none
  | .msl _ n _ => if sliceElem P t = true then some (.int .i64 n) else none
  | .asl _ _ n _ => if sliceElem P t = true then some (.int .i64 n) else none
  | .str b => if isStr P t = true then some (.int .i64 b.length) else none
  | .map x => if strMap P t = true then (match s.get x with | some (.map _ es) => some (.int .i64 es.length) | _ => none) else none
  | _ => none
theorem xlen_ok {P : Program} {t : TypeId} {v u : HV} {s : XS} (h : xlen P t v s = some u) : hlen P t v s.hh fun w => w = u := by
  unfold xlen at h; unfold hlen
  split at h
  · split at h
    · rename_i hc; cases h; exact ⟨hc, rfl⟩
    · cases h
  · split at h
    · rename_i hc; cases h; exact ⟨hc, rfl⟩
    · cases h
  · split at h
    · rename_i hc; cases h; exact ⟨hc, rfl⟩
    · cases h
  · split at h
    · rename_i hc; cases h; exact ⟨isStr_of hc, rfl⟩
    · cases h
  · split at h
    · rename_i hc
      refine ⟨hc, ?_⟩
      simp only [XS.hh_get]
      split at h
      · rename_i hx; cases h; simp only [hx]
      · cases h
    · cases h
  · cases h

def xappend (P : Program) (t u : TypeId) (v x : HV) (s : XS) : Option (HV × XS) :=
  if sliceElem P t = true ∧ srcType P u = true ∧ zok P (P.elem t) = true then
    match hsrc s.hh x with
    | some ys => if xesz P (P.elem t) ys = true then (match v with
      | .sl true ds => if xesz P (P.elem t) ds = true ∧ (ds.isEmpty || !ys.isEmpty) = true ∧ ds.length + ys.length ≤ maxLen ∧ (ds.length + ys.length) * P.bytesOf (P.elem t) ≤ 140737488355328 then
          some (.msl s.nx (ds.length + ys.length) (P.cellsOf (P.elem t)), s.push (.row false (P.elem t) (ds ++ ys))) else none
      | .msl y n sz => match s.get y with
        | some (.row im e ds) => if ds.length = n ∧ e = P.elem t ∧ n + ys.length ≤ maxLen ∧ (n + ys.length) * P.bytesOf e ≤ 140737488355328 then
            some (.msl y (n + ys.length) sz, s.set y (.row im e (ds ++ ys))) else none
        | _ => none
      | _ => none) else none
    | none => none
  else none
theorem xappend_ok {P : Program} {t u : TypeId} {v x r : HV} {s s' : XS} (h : xappend P t u v x s = some (r, s')) : happend P t u v x s.hh fun w h => w = r ∧ h = s'.hh := by
  unfold xappend at h
  split at h
  · rename_i hc
    refine ⟨hc.1, hc.2.1, hc.2.2, ?_⟩
    split at h
    · rename_i ys hy
      simp only [hy]
      split at h
      · rename_i hz
        refine ⟨xesz_ok hz, ?_⟩
        split at h
        · rename_i ds
          split at h
          · rename_i hd
            cases h
            refine ⟨xesz_ok hd.1, ?_, hd.2.2.1, hd.2.2.2, fun _ => ⟨rfl, by rw [XS.hh_push]⟩⟩
            have := hd.2.1
            cases ds with
            | nil => exact .inl rfl
            | cons a l => right; rintro rfl; simp at this
          · cases h
        · rename_i y n sz
          simp only [XS.hh_get]
          split at h
          · rename_i im e ds hx
            simp only [hx]
            split at h
            · rename_i hd; cases h; exact ⟨hd.1, hd.2.1, hd.2.2.1, hd.2.2.2, rfl, by rw [XS.hh_set]⟩
            · cases h
          · cases h
        · cases h
      · cases h
    · cases h
  · cases h

def xcopy (P : Program) (t : TypeId) (d x : HV) (s : XS) : Option (HV × XS) :=
  if sliceElem P t = true ∧ zok P (P.elem t) = true then
    match d, hsrc s.hh x with
    | .msl y n sz, some ys => match s.get y with
      | some (.row false e ds) => if ds.length = n ∧ e = P.elem t ∧ xesz P e ys = true ∧ ys.length ≤ n then some (.int .i64 ys.length, s.set y (.row false e (ys ++ ds.drop ys.length))) else none
      | _ => none
    | _, _ => none
  else none
theorem xcopy_ok {P : Program} {t : TypeId} {d x r : HV} {s s' : XS} (h : xcopy P t d x s = some (r, s')) : hcopy P t d x s.hh fun w h => w = r ∧ h = s'.hh := by
  unfold xcopy at h
  split at h
  · rename_i hc
    refine ⟨hc.1, hc.2, ?_⟩
    split at h
    · rename_i y n sz ys e2
      simp only [e2, XS.hh_get]
      split at h
      · rename_i e ds hx
        simp only [hx]
        split at h
        · rename_i hd; cases h; exact ⟨hd.1, hd.2.1, xesz_ok hd.2.2.1, hd.2.2.2, rfl, by rw [XS.hh_set]⟩
        · cases h
      · cases h
    · cases h
  · cases h

def xbuiltin (P : Program) (b : Builtin) (ts : Array TypeId) (args : List HV) (s : XS) : Option (HV × XS) :=
  match b, ts.toList, args with
  | .len, [t], [v] => (xlen P t v s).map fun u => (u, s)
  | .append, [t, u], [v, x] => xappend P t u v x s
  | .copy, t :: _, [d, x] => xcopy P t d x s
  | .delete, t :: _, [m, k] => if strMap P t = true then (match m, hkey k with
    | .map x, some k => if k.fits P t = true then (match s.get x with | some (.map clock es) => if k.among es = true then some (.tup [], s.set x (.map clock (mdel k es))) else none | _ => none) else none
    | _, _ => none) else none
  | .max, _, [.int k x, .int _ y] => some (.int k (if y > x then y else x), s)
  | .min, _, [.int k x, .int _ y] => some (.int k (if y < x then y else x), s)
  | _, _, _ => none
theorem hlen_mono {P : Program} {t : TypeId} {v : HV} {h : HH} {K K' : HV → Prop} (hk : ∀ u, K u → K' u) (q : hlen P t v h K) : hlen P t v h K' := by
  unfold hlen at q ⊢
  split at q
  · exact ⟨q.1, hk _ q.2⟩
  · exact ⟨q.1, hk _ q.2⟩
  · exact ⟨q.1, hk _ q.2⟩
  · exact ⟨q.1, hk _ q.2⟩
  · refine ⟨q.1, ?_⟩
    have q2 := q.2
    split at q2
    · exact hk _ q2
    · exact q2.elim
  · exact q.elim
theorem xbuiltin_ok {P : Program} {b : Builtin} {ts : Array TypeId} {args : List HV} {r : HV} {s s' : XS} (h : xbuiltin P b ts args s = some (r, s')) : hbuiltin P b ts args s.hh fun w h => w = r ∧ h = s'.hh := by
  unfold xbuiltin at h
  unfold hbuiltin
  split at h
  · rename_i e1
    simp only [e1]
    rw [Option.map_eq_some_iff] at h
    obtain ⟨u, h1, h2⟩ := h
    cases h2
    exact hlen_mono (fun w e => ⟨e, rfl⟩) (xlen_ok h1)
  · rename_i e1; simp only [e1]; exact xappend_ok h
  · rename_i e1; simp only [e1]; exact xcopy_ok h
  · rename_i e1
    simp only [e1]
    split at h
    · rename_i hm
      refine ⟨hm, ?_⟩
      split at h
      · rename_i hk
        simp only [hk, XS.hh_get]
        split at h
        · rename_i hf
          split at h
          · rename_i hx
            simp only [hx]
            split at h
            · rename_i ha; cases h; exact ⟨hf, ha, rfl, by rw [XS.hh_set]⟩
            · cases h
          · cases h
        · cases h
      · cases h
    · cases h
  · cases h; exact ⟨rfl, rfl⟩
  · cases h; exact ⟨rfl, rfl⟩
  · cases h
end Go.H
