/- One operation as a function. -/
import Derived.Test.YtclolaieehmgmaaGreatHRun1
set_option linter.unusedVariables false
set_option linter.unusedSimpArgs false
namespace Go.H

def xconv (P : Program) (a d : TypeId) (v : HV) (s : XS) : Option (HV × XS) :=
  match v with
  | .str b => if (P.underlying a).isSome = true ∧ bytesT P d = true ∧ b.length ≤ maxLen then
      some (.msl s.nx b.length 1, s.push (.row false (P.elem d) (b.map fun x => .int .u8 x.toNat))) else none
  | v => if bytesT P a = true then (match hsrc s.hh v with | some ys => if ys.all isByte = true then some (.str (ys.map hbyte), s) else none | none => none) else none
theorem xconv_ok {P : Program} {a d : TypeId} {v r : HV} {s s' : XS} (h : xconv P a d v s = some (r, s')) : hconv P a d v s.hh fun w h => w = r ∧ h = s'.hh := by
  unfold xconv at h; unfold hconv
  split at h
  · split at h
    · rename_i hc; cases h; exact ⟨hc.1, hc.2.1, hc.2.2, fun _ => ⟨rfl, by rw [XS.hh_push]⟩⟩
    · cases h
  · rename_i hn
    split
    · exact absurd rfl (hn _)
    · split at h
      · rename_i hb
        refine ⟨hb, ?_⟩
        split at h
        · rename_i ys hy
          simp only [hy]
          split at h
          · rename_i ha; cases h; exact ⟨ha, rfl, rfl⟩
          · cases h
        · cases h
      · cases h

def xlookup (P : Program) (t : TypeId) (m k : HV) (ok : Bool) (s : XS) : Option HV :=
  if strMap P t = true ∧ zsome P (mapElem P t) = true then
    match m, hkey k with
    | .map x, some k => if k.fits P t = true then (match s.get x with
      | some (.map _ es) => if k.among es = true then (match hfind k es 0 with
        | some (_, v) => some (if ok then .tup [v, .bool true] else v)
        | none => some (if ok then .tup [zval P (mapElem P t), .bool false] else zval P (mapElem P t))) else none
      | _ => none) else none
    | _, _ => none
  else none
theorem xlookup_ok {P : Program} {t : TypeId} {m k r : HV} {ok : Bool} {s : XS} (h : xlookup P t m k ok s = some r) : hlookup P t m k ok s.hh fun w => w = r := by
  unfold xlookup at h
  split at h
  · rename_i hc
    refine ⟨hc.1, hc.2, ?_⟩
    split at h
    · rename_i hk
      simp only [hk, XS.hh_get]
      split at h
      · rename_i hft
        split at h
        · rename_i hx
          simp only [hx]
          split at h
          · rename_i ha
            refine ⟨hft, ha, ?_⟩
            split at h
            · rename_i hf; simp only [hf]; cases h; rfl
            · rename_i hf; simp only [hf]; cases h; rfl
          · cases h
        · cases h
      · cases h
    · cases h
  · cases h

def xnext (it : HV) (isString : Bool) (s : XS) : Option (HV × XS) :=
  match isString, it with
  | false, .ptr x 0 => (match s.get x with
    | some (.iter y since seen last) => (match s.get y with
      | some (.map clock es) => if clock = since ∧ last = since ∧ es.all (fun e => decide (e.2.2 < since)) = true then
          (match es.filter (fun e => !seen.contains e.2.2) with
          | [] => some (.tup [.bool false], s)
          | [e] => some (.tup [.bool true, e.1.hv, e.2.1], s.set x (.iter y since (seen ++ [e.2.2]) clock))
          | _ => none) else none
      | _ => none)
    | _ => none)
  | _, _ => none
theorem xnext_ok {it r : HV} {b : Bool} {s s' : XS} (h : xnext it b s = some (r, s')) : hnext it b s.hh fun w h => w = r ∧ h = s'.hh := by
  unfold xnext at h
  split at h
  · rename_i x
    refine ⟨rfl, ?_⟩
    simp only [XS.hh_get]
    split at h
    · rename_i y since seen last hx
      simp only [hx]
      split at h
      · rename_i clock es hy
        simp only [hy]
        split at h
        · rename_i hc
          refine ⟨hc.1, hc.2.1, hc.2.2, ?_⟩
          have hmem : ∀ e, e ∈ es.filter (fun e => !seen.contains e.2.2) ↔ e ∈ es ∧ seen.contains e.2.2 = false := by
            intro e; rw [List.mem_filter]; simp
          split at h
          · rename_i hf
            cases h
            refine ⟨fun _ => ⟨rfl, rfl⟩, fun e he hs => ?_⟩
            have := (hmem e).2 ⟨he, hs⟩
            rw [hf] at this; cases this
          · rename_i e hf
            cases h
            refine ⟨fun hall => ?_, fun e' he hs => ?_⟩
            · have h1 := (hmem e).1 (by rw [hf]; simp)
              have h2 := List.all_eq_true.1 hall e h1.1
              rw [h1.2] at h2; cases h2
            · have := (hmem e').2 ⟨he, hs⟩
              rw [hf] at this
              have : e' = e := by simpa using this
              subst this
              exact ⟨rfl, by rw [XS.hh_set]⟩
          · cases h
        · cases h
      · cases h
    · cases h
  · cases h

def xentry (it : HV) (s : XS) : Option HV :=
  match it with
  | .ptr x 0 => (match s.get x with
    | some (.iter y since seen last) => (match s.get y with
      | some (.map clock es) => if clock = last then (match seen.getLast? with
        | some n => (match es.find? (fun e => e.2.2 == n) with
          | some e => some (.tup [e.1.hv, e.2.1])
          | none => none)
        | none => none) else none
      | _ => none)
    | _ => none)
  | _ => none
theorem xentry_ok {it r : HV} {s : XS} (h : xentry it s = some r) : hentry it s.hh fun w => w = r := by
  unfold xentry at h; unfold hentry
  split at h
  · simp only [XS.hh_get]
    split at h
    · rename_i hx
      simp only [hx]
      split at h
      · rename_i hy
        simp only [hy]
        split at h
        · rename_i hc
          refine ⟨hc, ?_⟩
          split at h
          · rename_i hl
            simp only [hl]
            split at h
            · rename_i hf; simp only [hf]; cases h; rfl
            · cases h
          · cases h
        · cases h
      · cases h
    · cases h
  · cases h

def XS.del (s : XS) (x : Nat) : XS := ⟨s.t.del (x + 1) x, s.nx⟩
theorem XS.hh_del (s : XS) (x : Nat) : (s.del x).hh = s.hh.del x :=
  HH.ext (fun y => by show (s.t.del (x + 1) x).get y = _; rw [Tr.get_del _ _ _ _ (by omega)]; rfl) rfl

def xslice2 (P : Program) (t : TypeId) (x : HV) (lo hi : Option HV) (s : XS) : Option (HV × XS) :=
  match x with
  | .msl y n _ => if sliceElem P t = true ∧ (P.info? (P.elem t)).isSome = true then (match s.get y with
    | some (.row _ e ds) => if ds.length = n ∧ xesz P (P.elem t) ds = true then (xsliceB lo hi n).map fun p => (.sl false ((ds.drop p.1).take (p.2 - p.1)), s.set y (.row true e ds)) else none
    | _ => none) else none
  | _ => none
theorem xslice2_ok {P : Program} {t : TypeId} {x r : HV} {lo hi : Option HV} {s s' : XS} (h : xslice2 P t x lo hi s = some (r, s')) : hslice2 P t x lo hi s.hh fun w h => w = r ∧ h = s'.hh := by
  unfold xslice2 at h; unfold hslice2
  split at h
  · simp only [XS.hh_get]
    split at h
    · rename_i hc
      refine ⟨hc.1, hc.2, ?_⟩
      split at h
      · rename_i im e ds hx
        simp only [hx]
        split at h
        · rename_i hd
          rw [Option.map_eq_some_iff] at h
          obtain ⟨p, h1, h2⟩ := h
          cases h2
          exact ⟨hd.1, xesz_ok hd.2, hsliceB_mono (fun l m e => by rw [e.1, e.2, XS.hh_set]; exact ⟨rfl, rfl⟩) (xsliceB_ok h1)⟩
        · cases h
      · cases h
    · cases h
  · cases h

abbrev XCall := FuncId → List HV → XS → Option (HV × XS)

def xmem (P : Program) (call : XCall) (op : Op) (ρ : Operand → HV) (s : XS) : Option (HV × XS) :=
  match op with
  | .alloc e => if zok0 P e = true then some (.ptr s.nx 0, s.push (.cells (zcells P e))) else none
  | .box e v => if (ρ v).val = true then some (.ptr s.nx 0, s.push (.cells (ρ v).cells)) else none
  | .build t parts => if buildOk P t = true then (xfill (bplace P t) ρ parts.toList (zcells P t)).map fun cs => (.agg cs, s) else none
  | .buildSlice t len parts => if sliceElem P t = true ∧ zok P (P.elem t) = true ∧ parts.toList.map (·.1) = List.range len ∧ len * P.cellsOf (P.elem t) ≤ 16777216 then
      (match parts.toList.map (fun p => ρ p.2) with
      | vs => if (vs.all fun v => v.val && Nat.beq v.cells.length (P.cellsOf (P.elem t))) = true then
          some (.sl true vs, s) else none) else none
  | .load t a => match hcells s.hh (ρ a) with
    | some q => if okLoad P t q.1 q.2 = true then some (hload P t q.1 q.2, s) else none
    | none => none
  | .store t a v => (xstore P t (ρ a) (ρ v) s).map fun s' => (.any, s')
  | .call c => match c.callee with
    | .value f => match ρ f with
      | .fn n first cap => call n (first ++ c.args.toList.map ρ ++ cap) s
      | _ => none
    | .builtin b => xbuiltin P b c.argTypes (c.args.toList.map ρ) s
    | .invoke x name => match ρ x with
      | .ifc t v => (match methodOf P t name with | some f => call f (v :: c.args.toList.map ρ) s | none => none)
      | _ => none
  | .convert a d x => if hconvs P d (ρ x) = true then xconv P a d (ρ x) s else (xpure P (.convert a d x) ρ).map fun v => (v, s)
  | .slice t x lo hi mx => if hslices (ρ x) mx.isNone = true then xslice2 P t (ρ x) (lo.map ρ) (hi.map ρ) s else (xpure P (.slice t x lo hi mx) ρ).map fun v => (v, s)
  | .makeSlice t l c => match ρ l, ρ c with
    | .int _ n, .int _ m => if sliceElem P t = true ∧ zok P (P.elem t) = true ∧ 0 ≤ n ∧ n ≤ m ∧ m ≤ maxLen ∧ m.toNat * P.bytesOf (P.elem t) ≤ 140737488355328 then
        some (.msl s.nx n.toNat (P.cellsOf (P.elem t)), s.push (.row false (P.elem t) (List.replicate n.toNat (zelem P (P.elem t))))) else none
    | _, _ => none
  | .makeMap t r => match r with | none => some (.map s.nx, s.push (.map 0 [])) | some _ => none
  | .lookup t m k ok => (xlookup P t (ρ m) (ρ k) ok s).map fun v => (v, s)
  | .mapUpdate t m k v => if strMap P t = true then (match ρ m, hkey (ρ k) with
    | .map x, some k => if k.fits P t = true then (match s.get x with
      | some (.map clock es) => if k.among es = true then some (.any, s.set x (.map (mput k (ρ v) clock es).1 (mput k (ρ v) clock es).2)) else none
      | _ => none) else none
    | _, _ => none) else none
  | .range t m => if strMap P t = true then (match ρ m with
    | .map x => (match s.get x with
      | some (.map clock _) => some (.ptr s.nx 0, s.push (.iter x clock [] clock))
      | _ => none)
    | _ => none) else none
  | .next it b => xnext (ρ it) b s
  | .entry it => (xentry (ρ it) s).map fun v => (v, s)
  | _ => none

def xop (P : Program) (call : XCall) (op : Op) (ρ : Operand → HV) (s : XS) : Option (HV × XS) :=
  if isPure op then (xpure P op ρ).map fun v => (v, s) else xmem P call op ρ s

def XOk (P : Program) (call : XCall) : Prop := ∀ f args s v s', call f args s = some (v, s') → HCalls P f args s.hh fun u h => u = v ∧ h = s'.hh

theorem hpure_mono {P : Program} {op : Op} {ρ : Operand → HV} {K K' : HV → Prop} (hk : ∀ u, K u → K' u) (h : hpure P op ρ K) : hpure P op ρ K' := by
  obtain ⟨v, h1, h2⟩ := hpure_det h
  exact h2 _ (hk _ h1)

theorem xmem_ok {P : Program} {call : XCall} (hcall : XOk P call) {op : Op} {ρ : Operand → HV} {s s' : XS} {r : HV} (h : xmem P call op ρ s = some (r, s')) : hmem P op ρ s.hh fun w h => w = r ∧ h = s'.hh := by
  have mp : ∀ {o : Option HV}, o.map (fun v => (v, s)) = some (r, s') → o = some r ∧ s' = s := by
    intro o e
    rw [Option.map_eq_some_iff] at e
    obtain ⟨u, h1, h2⟩ := e
    cases h2
    exact ⟨h1, rfl⟩
  cases op with
  | alloc e =>
    simp only [xmem] at h; simp only [hmem]
    split at h
    · rename_i hc; cases h; exact ⟨hc, fun _ => ⟨rfl, by rw [XS.hh_push]⟩⟩
    · cases h
  | box e v =>
    simp only [xmem] at h; simp only [hmem]
    split at h
    · rename_i hc; cases h; exact ⟨hc, fun _ => ⟨rfl, by rw [XS.hh_push]⟩⟩
    · cases h
  | build t parts =>
    simp only [xmem] at h; simp only [hmem]
    split at h
    · rename_i hc
      rw [Option.map_eq_some_iff] at h
      obtain ⟨cs, h1, h2⟩ := h
      cases h2
      exact ⟨hc, hfill_rows.hfill_mono _ _ _ (fun u e => ⟨by rw [e], rfl⟩) (xfill_ok _ _ h1)⟩
    · cases h
  | buildSlice t len parts =>
    simp only [xmem] at h; simp only [hmem]
    split at h
    · rename_i hc
      split at h
      · rename_i ha
        cases h
        refine ⟨hc.1, hc.2.1, hc.2.2.1, hc.2.2.2, fun v hv => ?_, rfl, rfl⟩
        have := List.all_eq_true.1 ha v hv
        simp only [Bool.and_eq_true] at this
        exact ⟨this.1, beqt this.2⟩
      · cases h
    · cases h
  | load t a =>
    simp only [xmem] at h; simp only [hmem]
    split at h
    · rename_i q hq
      simp only [hq]
      split at h
      · rename_i hc; cases h; exact ⟨okLoad_ok hc, rfl, rfl⟩
      · cases h
    · cases h
  | store t a v =>
    simp only [xmem] at h; simp only [hmem]
    rw [Option.map_eq_some_iff] at h
    obtain ⟨s1, h1, h2⟩ := h
    cases h2
    have := xstore_ok h1
    unfold hstore at this ⊢
    refine ⟨this.1, this.2.1, this.2.2.1, ?_⟩
    have t4 := this.2.2.2
    split at t4
    · split at t4
      · exact ⟨t4.1, rfl, t4.2⟩
      · exact t4.elim
    · split at t4
      · exact ⟨t4.1, t4.2.1, t4.2.2.1, t4.2.2.2.1, rfl, t4.2.2.2.2⟩
      · exact t4.elim
    · exact t4.elim
  | call c =>
    simp only [xmem] at h; simp only [hmem]
    split at h
    · split at h
      · rename_i e1 _ _ _ _ e2
        simp only [e1, e2]
        exact hcall _ _ _ _ _ h
      · cases h
    · rename_i e1; simp only [e1]; exact xbuiltin_ok h
    · split at h
      · rename_i e1 _ _ _ e2
        simp only [e1, e2]
        split at h
        · rename_i e3; simp only [e3]; exact hcall _ _ _ _ _ h
        · cases h
      · cases h
  | convert a d x =>
    simp only [xmem] at h; simp only [hmem]
    split at h
    · rename_i hc; rw [if_pos hc]; exact xconv_ok h
    · rename_i hc
      rw [if_neg hc]
      obtain ⟨h1, rfl⟩ := mp h
      exact hpure_mono (fun u e => ⟨e, rfl⟩) (xpure_ok h1)
  | slice t x lo hi mx =>
    simp only [xmem] at h; simp only [hmem]
    split at h
    · rename_i hc; rw [if_pos hc]; exact xslice2_ok h
    · rename_i hc
      rw [if_neg hc]
      obtain ⟨h1, rfl⟩ := mp h
      exact hpure_mono (fun u e => ⟨e, rfl⟩) (xpure_ok h1)
  | makeSlice t l c =>
    simp only [xmem] at h; simp only [hmem, hmake]
    split at h
    · rename_i e1 e2
      simp only [e1, e2]
      split at h
      · rename_i hc; cases h; exact ⟨hc.1, hc.2.1, hc.2.2.1, hc.2.2.2.1, hc.2.2.2.2.1, hc.2.2.2.2.2, fun _ => ⟨rfl, by rw [XS.hh_push]⟩⟩
      · cases h
    · cases h
  | makeMap t res =>
    simp only [xmem] at h; simp only [hmem]
    split at h
    · cases h; exact ⟨rfl, fun _ => ⟨rfl, by rw [XS.hh_push]⟩⟩
    · cases h
  | lookup t m k ok =>
    simp only [xmem] at h; simp only [hmem]
    obtain ⟨h1, rfl⟩ := mp h
    have := xlookup_ok h1
    unfold hlookup at this ⊢
    refine ⟨this.1, this.2.1, ?_⟩
    have t3 := this.2.2
    split at t3
    · obtain ⟨t4, t3⟩ := t3
      refine ⟨t4, ?_⟩
      split at t3
      · obtain ⟨t5, t3⟩ := t3
        refine ⟨t5, ?_⟩
        split at t3
        · exact ⟨t3, rfl⟩
        · exact ⟨t3, rfl⟩
      · exact t3.elim
    · exact t3.elim
  | mapUpdate t m k v =>
    simp only [xmem] at h; simp only [hmem, hmapset]
    split at h
    · rename_i hc
      refine ⟨hc, ?_⟩
      split at h
      · rename_i e1 e2
        simp only [e1, e2, XS.hh_get]
        split at h
        · rename_i hft
          split at h
          · rename_i hx
            simp only [hx]
            split at h
            · rename_i ha; cases h; exact ⟨hft, ha, rfl, by rw [XS.hh_set]⟩
            · cases h
          · cases h
        · cases h
      · cases h
    · cases h
  | range t m =>
    simp only [xmem] at h; simp only [hmem, hrange]
    split at h
    · rename_i hc
      refine ⟨hc, ?_⟩
      split at h
      · rename_i e1
        simp only [e1, XS.hh_get]
        split at h
        · rename_i hx; simp only [hx]; cases h; exact fun _ => ⟨rfl, by rw [XS.hh_push]⟩
        · cases h
      · cases h
    · cases h
  | next it b => exact xnext_ok h
  | entry it =>
    simp only [xmem] at h; simp only [hmem]
    obtain ⟨h1, rfl⟩ := mp h
    have := xentry_ok h1
    unfold hentry at this ⊢
    split at this
    · split at this
      · split at this
        · refine ⟨this.1, ?_⟩
          have t2 := this.2
          split at t2
          · split at t2
            · exact ⟨t2, rfl⟩
            · exact t2.elim
          · exact t2.elim
        · exact this.elim
      · exact this.elim
    · exact this.elim
  | _ => simp [xmem] at h

theorem xop_ok {P : Program} {call : XCall} (hcall : XOk P call) {op : Op} {ρ : Operand → HV} {s s' : XS} {r : HV} (h : xop P call op ρ s = some (r, s')) : hop P op ρ s.hh fun w h => w = r ∧ h = s'.hh := by
  unfold xop at h; unfold hop
  split at h
  · rename_i hp
    rw [if_pos hp]
    rw [Option.map_eq_some_iff] at h
    obtain ⟨u, h1, h2⟩ := h
    cases h2
    exact hpure_mono (fun u e => ⟨e, rfl⟩) (xpure_ok h1)
  · rename_i hp
    rw [if_neg hp]
    exact xmem_ok hcall h
end Go.H
