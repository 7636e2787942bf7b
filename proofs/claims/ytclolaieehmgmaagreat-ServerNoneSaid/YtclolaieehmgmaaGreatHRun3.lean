/- Regions as functions. -/
import Derived.Test.YtclolaieehmgmaaGreatHRun2
set_option linter.unusedVariables false
set_option linter.unusedSimpArgs false
namespace Go.H

theorem hmem_mono {P : Program} {op : Op} {ρ : Operand → HV} {h : HH} {K K' : HV → HH → Prop} (hk : ∀ v h, K v h → K' v h) (q : hmem P op ρ h K) : hmem P op ρ h K' := by
  cases op with
  | alloc e => exact ⟨q.1, fun n => hk _ _ (q.2 n)⟩
  | box e v => exact ⟨q.1, fun n => hk _ _ (q.2 n)⟩
  | build t parts => exact ⟨q.1, hfill_rows.hfill_mono _ _ _ (fun cs => hk _ _) q.2⟩
  | buildSlice t len parts => exact ⟨q.1, q.2.1, q.2.2.1, q.2.2.2.1, q.2.2.2.2.1, hk _ _ q.2.2.2.2.2⟩
  | load t a =>
    simp only [hmem] at q ⊢
    split at q
    · exact ⟨q.1, hk _ _ q.2⟩
    · exact q.elim
  | store t a v =>
    simp only [hmem] at q ⊢
    unfold hstore at q ⊢
    refine ⟨q.1, q.2.1, q.2.2.1, ?_⟩
    have q4 := q.2.2.2
    split at q4
    · split at q4
      · exact ⟨q4.1, hk _ _ q4.2⟩
      · exact q4.elim
    · split at q4
      · exact ⟨q4.1, q4.2.1, q4.2.2.1, q4.2.2.2.1, hk _ _ q4.2.2.2.2⟩
      · exact q4.elim
    · exact q4.elim
  | call c =>
    simp only [hmem] at q ⊢
    split at q
    · split at q
      · exact q.mono hk
      · exact q.elim
    · unfold hbuiltin at q ⊢
      split at q
      · exact hlen_mono (fun u => hk _ _) q
      · unfold happend at q ⊢
        refine ⟨q.1, q.2.1, q.2.2.1, ?_⟩
        have q4 := q.2.2.2
        split at q4
        · refine ⟨q4.1, ?_⟩
          have q5 := q4.2
          split at q5
          · exact ⟨q5.1, q5.2.1, q5.2.2.1, q5.2.2.2.1, fun n => hk _ _ (q5.2.2.2.2 n)⟩
          · split at q5
            · exact ⟨q5.1, q5.2.1, q5.2.2.1, q5.2.2.2.1, hk _ _ q5.2.2.2.2⟩
            · exact q5.elim
          · exact q5.elim
        · exact q4.elim
      · unfold hcopy at q ⊢
        refine ⟨q.1, q.2.1, ?_⟩
        have q3 := q.2.2
        split at q3
        · split at q3
          · exact ⟨q3.1, q3.2.1, q3.2.2.1, q3.2.2.2.1, hk _ _ q3.2.2.2.2⟩
          · exact q3.elim
        · exact q3.elim
      · unfold hmapdel at q ⊢
        refine ⟨q.1, ?_⟩
        have q2 := q.2
        split at q2
        · obtain ⟨q3, q2⟩ := q2
          refine ⟨q3, ?_⟩
          split at q2
          · exact ⟨q2.1, hk _ _ q2.2⟩
          · exact q2.elim
        · exact q2.elim
      · exact hk _ _ q
      · exact hk _ _ q
      · exact q.elim
    · split at q
      · split at q
        · exact q.mono hk
        · exact q.elim
      · exact q.elim
  | convert s d x =>
    simp only [hmem] at q ⊢
    split at q
    · rename_i hc
      rw [if_pos hc]
      unfold hconv at q ⊢
      split at q
      · exact ⟨q.1, q.2.1, q.2.2.1, fun n => hk _ _ (q.2.2.2 n)⟩
      · refine ⟨q.1, ?_⟩
        have q2 := q.2
        split at q2
        · exact ⟨q2.1, hk _ _ q2.2⟩
        · exact q2.elim
    · rename_i hc
      rw [if_neg hc]
      exact hpure_mono (fun u => hk _ _) q
  | slice t x lo hi mx =>
    simp only [hmem] at q ⊢
    split at q
    · rename_i hc
      rw [if_pos hc]
      unfold hslice2 at q ⊢
      split at q
      · refine ⟨q.1, q.2.1, ?_⟩
        have q3 := q.2.2
        split at q3
        · exact ⟨q3.1, q3.2.1, hsliceB_mono (fun l m => hk _ _) q3.2.2⟩
        · exact q3.elim
      · exact q.elim
    · rename_i hc
      rw [if_neg hc]
      exact hpure_mono (fun u => hk _ _) q
  | makeSlice t l c =>
    simp only [hmem] at q ⊢
    unfold hmake at q ⊢
    split at q
    · exact ⟨q.1, q.2.1, q.2.2.1, q.2.2.2.1, q.2.2.2.2.1, q.2.2.2.2.2.1, fun n => hk _ _ (q.2.2.2.2.2.2 n)⟩
    · exact q.elim
  | makeMap t r => exact ⟨q.1, fun n => hk _ _ (q.2 n)⟩
  | lookup t m k ok =>
    simp only [hmem] at q ⊢
    unfold hlookup at q ⊢
    refine ⟨q.1, q.2.1, ?_⟩
    have q3 := q.2.2
    split at q3
    · obtain ⟨q4, q3⟩ := q3
      refine ⟨q4, ?_⟩
      split at q3
      · obtain ⟨q5, q3⟩ := q3
        refine ⟨q5, ?_⟩
        split at q3
        · exact hk _ _ q3
        · exact hk _ _ q3
      · exact q3.elim
    · exact q3.elim
  | mapUpdate t m k v =>
    simp only [hmem] at q ⊢
    unfold hmapset at q ⊢
    refine ⟨q.1, ?_⟩
    have q2 := q.2
    split at q2
    · obtain ⟨q3, q2⟩ := q2
      refine ⟨q3, ?_⟩
      split at q2
      · exact ⟨q2.1, hk _ _ q2.2⟩
      · exact q2.elim
    · exact q2.elim
  | range t m =>
    simp only [hmem] at q ⊢
    unfold hrange at q ⊢
    refine ⟨q.1, ?_⟩
    have q2 := q.2
    split at q2
    · split at q2
      · exact fun n => hk _ _ (q2 n)
      · exact q2.elim
    · exact q2.elim
  | next it s =>
    simp only [hmem] at q ⊢
    unfold hnext at q ⊢
    refine ⟨q.1, ?_⟩
    have q2 := q.2
    split at q2
    · split at q2
      · split at q2
        · exact ⟨q2.1, q2.2.1, q2.2.2.1, fun n => hk _ _ (q2.2.2.2.1 n), fun e he hs => hk _ _ (q2.2.2.2.2 e he hs)⟩
        · exact q2.elim
      · exact q2.elim
    · exact q2.elim
  | entry it =>
    simp only [hmem] at q ⊢
    unfold hentry at q ⊢
    split at q
    · split at q
      · split at q
        · refine ⟨q.1, ?_⟩
          have q2 := q.2
          split at q2
          · split at q2
            · exact hk _ _ q2
            · exact q2.elim
          · exact q2.elim
        · exact q.elim
      · exact q.elim
    · exact q.elim
  | _ => exact q.elim

theorem hop_mono {P : Program} {op : Op} {ρ : Operand → HV} {h : HH} {K K' : HV → HH → Prop} (hk : ∀ v h, K v h → K' v h) (q : hop P op ρ h K) : hop P op ρ h K' := by
  unfold hop at q ⊢
  split at q
  · rename_i hp; rw [if_pos hp]; exact hpure_mono (fun u => hk _ _) q
  · rename_i hp; rw [if_neg hp]; exact hmem_mono hk q

theorem xop_then {P : Program} {call : XCall} (hcall : XOk P call) {op : Op} {ρ : Operand → HV} {s s' : XS} {r : HV} (h : xop P call op ρ s = some (r, s')) {K : HV → HH → Prop} (k : K r s'.hh) : hop P op ρ s.hh K :=
  hop_mono (fun v h e => by rw [e.1, e.2]; exact k) (xop_ok hcall h)

def xbind (nt : Nat) (dst : Option Tmp) (v : HV) (T : Env) : Option Env :=
  match dst with
  | none => some T
  | some d => match Nat.blt d nt with | true => some ((d, v) :: T) | false => none
theorem xbind_then {nt : Nat} {dst : Option Tmp} {v : HV} {T T' : Env} (h : xbind nt dst v T = some T') {K : Env → Prop} (k : K T') : hbind nt dst v T K := by
  unfold xbind at h; unfold hbind
  split at h
  · cases h; exact k
  · split at h
    · rename_i hd; cases h; exact ⟨Nat.le_of_ble_eq_true hd, k⟩
    · cases h

def xops (P : Program) (call : XCall) (nt : Nat) (ds : List (Option Tmp)) : List Oper → Env → XS → Option (Env × XS)
  | [], T, s => some (T, s)
  | o :: rest, T, s => match o.guard with
    | none => match xop P call o.op (hev T) s with
      | some (v, s') => match xbind nt o.dst v T with
        | some T' => xops P call nt ds rest T' s'
        | none => none
      | none => none
    | some p => match gslot ds p.1 with
      | some d => match T.get d with
        | .bool b => match b == p.2 with
          | true => match xop P call o.op (hev ((d, .bool p.2) :: T)) s with
            | some (v, s') => match xbind nt o.dst v ((d, .bool p.2) :: T) with
              | some T' => xops P call nt ds rest T' s'
              | none => none
            | none => none
          | false => match xbind nt o.dst (.tup []) ((d, .bool !p.2) :: T) with
            | some T' => xops P call nt ds rest T' s
            | none => none
        | .tup [] => match xbind nt o.dst (.tup []) T with
          | some T' => xops P call nt ds rest T' s
          | none => none
        | _ => none
      | none => none

theorem xops_ok {P : Program} {call : XCall} (hcall : XOk P call) {nt : Nat} {ds : List (Option Tmp)} : ∀ (l : List Oper) {T T' : Env} {s s' : XS}, xops P call nt ds l T s = some (T', s') → ∀ {Q : Env → HH → Prop}, Q T' s'.hh → hops P nt ds Q l T s.hh
  | [], T, T', s, s', h, Q, q => by simp only [xops, Option.some.injEq, Prod.mk.injEq] at h; obtain ⟨rfl, rfl⟩ := h; exact q
  | o :: rest, T, T', s, s', h, Q, q => by
    have step : ∀ {T0 : Env}, (match xop P call o.op (hev T0) s with
      | some (v, s') => match xbind nt o.dst v T0 with
        | some T' => xops P call nt ds rest T' s'
        | none => none
      | none => none) = some (T', s') → hop P o.op (hev T0) s.hh fun v h' => hbind nt o.dst v T0 fun T' => hops P nt ds Q rest T' h' := by
      intro T0 h
      split at h
      · rename_i v s1 h1
        split at h
        · rename_i T1 h2
          exact xop_then hcall h1 (xbind_then h2 (xops_ok hcall rest h q))
        · cases h
      · cases h
    simp only [xops] at h
    simp only [hops]
    split at h
    · rename_i hg; simp only [hg]; exact step h
    · rename_i p hp
      simp only [hp]
      split at h
      · rename_i d hd
        simp only [hd]
        split at h
        · rename_i b hb
          simp only [hb]
          split at h
          · rename_i he
            have he : b = p.2 := by simpa using he
            refine ⟨fun _ => step h, fun hn => ?_⟩
            subst he; cases hb2 : p.2 <;> rw [hb2] at hn <;> cases hn
          · rename_i he
            have he : b ≠ p.2 := by simpa using he
            refine ⟨fun e => absurd e he, fun _ => ?_⟩
            split at h
            · rename_i T1 h2; exact xbind_then h2 (xops_ok hcall rest h q)
            · cases h
        · rename_i hb
          simp only [hb]
          split at h
          · rename_i T1 h2; exact xbind_then h2 (xops_ok hcall rest h q)
          · cases h
        · cases h
      · cases h

/-! ### regions that draw their order -/
def xne (P : Program) (i : Nat) (op : Op) (ρ : Operand → HV) (s : XS) : Option (HV × XS × List Pr) :=
  match op with
  | .load t a => match hcells s.hh (ρ a) with
    | some q => if okLoad P t q.1 q.2 = true then some (hload P t q.1 q.2, s, [.rd i (.load t (ρ a)) (hload P t q.1 q.2)]) else none
    | none => none
  | .lookup t m k ok => (xlookup P t (ρ m) (ρ k) ok s).map fun v => (v, s, [.rd i (.look t (ρ m) (ρ k) ok) v])
  | .alloc e => if zok0 P e = true then some (.ptr s.nx 0, s.push (.cells (zcells P e)), [.obj i s.nx (.cells (zcells P e))]) else none
  | .box e v => if (ρ v).val = true then some (.ptr s.nx 0, s.push (.cells (ρ v).cells), [.obj i s.nx (.cells (ρ v).cells)]) else none
  | .build t parts => if buildOk P t = true then (xfill (bplace P t) ρ parts.toList (zcells P t)).map fun cs => (.agg cs, s, []) else none
  | .buildSlice t len parts => if sliceElem P t = true ∧ zok P (P.elem t) = true ∧ parts.toList.map (·.1) = List.range len ∧ len * P.cellsOf (P.elem t) ≤ 16777216 ∧
      ((parts.toList.map fun p => ρ p.2).all fun v => v.val && Nat.beq v.cells.length (P.cellsOf (P.elem t))) = true then
      some (.sl true (parts.toList.map fun p => ρ p.2), s, []) else none
  | .call c => match c.callee with
    | .builtin b => match b, c.argTypes.toList, c.args.toList.map ρ with
      | .len, [t], [v] => (xlen P t v s).map fun u => (u, s, if v.isMap then [.rd i (.mlen t v) u] else [])
      | .max, _, [.int k x, .int _ y] => some (.int k (if y > x then y else x), s, [])
      | .min, _, [.int k x, .int _ y] => some (.int k (if y < x then y else x), s, [])
      | _, _, _ => none
    | _ => none
  | .convert a d x => if hconvs P d (ρ x) = true then (match ρ x with
      | .sl _ ys => if bytesT P a = true ∧ isStr P d = true ∧ ys.all isByte = true then some (.str (ys.map hbyte), s, []) else none
      | _ => none) else (xpure P (.convert a d x) ρ).map fun v => (v, s, [])
  | .slice t x lo hi mx => if hslices (ρ x) mx.isNone = false then (xpure P (.slice t x lo hi mx) ρ).map fun v => (v, s, []) else none
  | .makeSlice t l c => match ρ l, ρ c with
    | .int _ n, .int _ m => if sliceElem P t = true ∧ zok P (P.elem t) = true ∧ 0 ≤ n ∧ n ≤ m ∧ m ≤ maxLen ∧ m.toNat * P.bytesOf (P.elem t) ≤ 140737488355328 then
        some (.msl s.nx n.toNat (P.cellsOf (P.elem t)), s.push (.row false (P.elem t) (List.replicate n.toNat (zelem P (P.elem t)))), [.obj i s.nx (.row false (P.elem t) (List.replicate n.toNat (zelem P (P.elem t))))]) else none
    | _, _ => none
  | .makeMap _ none => some (.map s.nx, s.push (.map 0 []), [.obj i s.nx (.map 0 [])])
  | op => (xpure P op ρ).map fun v => (v, s, [])

theorem xne_then {P : Program} {i : Nat} {op : Op} {ρ : Operand → HV} {s s' : XS} {r : HV} {pr : List Pr} (h : xne P i op ρ s = some (r, s', pr)) {K : HV → HH → List Pr → Prop} (k : K r s'.hh pr) : hne P i op ρ s.hh K := by
  have pure : ∀ {op : Op}, ((xpure P op ρ).map fun v => (v, s, ([] : List Pr))) = some (r, s', pr) → hpure P op ρ fun v => K v s.hh [] := by
    intro op e
    rw [Option.map_eq_some_iff] at e
    obtain ⟨u, h1, h2⟩ := e
    cases h2
    exact hpure_mono (fun w e => by rw [e]; exact k) (xpure_ok h1)
  cases op with
  | load t a =>
    simp only [xne] at h; simp only [hne]
    split at h
    · rename_i q hq
      simp only [hq]
      split at h
      · rename_i hc; cases h; exact ⟨okLoad_ok hc, k⟩
      · cases h
    · cases h
  | lookup t m k ok =>
    simp only [xne] at h; simp only [hne]
    rw [Option.map_eq_some_iff] at h
    obtain ⟨u, h1, h2⟩ := h
    cases h2
    have := xlookup_ok h1
    obtain ⟨w, h3, h4⟩ := hlookup_det this
    subst h3
    unfold hlookup at h4 ⊢
    refine ⟨h4.1, h4.2.1, ?_⟩
    have t3 := h4.2.2
    split at t3
    · obtain ⟨t4, t3⟩ := t3
      refine ⟨t4, ?_⟩
      split at t3
      · obtain ⟨t5, t3⟩ := t3
        refine ⟨t5, ?_⟩
        split at t3
        · rw [t3]; exact k
        · rw [t3]; exact k
      · exact t3.elim
    · exact t3.elim
  | alloc e =>
    simp only [xne] at h; simp only [hne]
    split at h
    · rename_i hc; cases h; rw [XS.hh_push] at k; exact ⟨hc, fun _ => k⟩
    · cases h
  | box e v =>
    simp only [xne] at h; simp only [hne]
    split at h
    · rename_i hc; cases h; rw [XS.hh_push] at k; exact ⟨hc, fun _ => k⟩
    · cases h
  | build t parts =>
    simp only [xne] at h; simp only [hne]
    split at h
    · rename_i hc
      rw [Option.map_eq_some_iff] at h
      obtain ⟨cs, h1, h2⟩ := h
      cases h2
      exact ⟨hc, hfill_rows.hfill_mono _ _ _ (fun u e => by rw [e]; exact k) (xfill_ok _ _ h1)⟩
    · cases h
  | buildSlice t len parts =>
    simp only [xne] at h; simp only [hne]
    split at h
    · rename_i hc
      cases h
      have hall := List.all_eq_true.1 hc.2.2.2.2
      refine ⟨hc.1, hc.2.1, hc.2.2.1, hc.2.2.2.1, fun v hv => ?_, k⟩
      have := hall v hv
      simp only [Bool.and_eq_true] at this
      exact ⟨this.1, beqt this.2⟩
    · cases h
  | call c =>
    simp only [xne] at h; simp only [hne]
    split at h
    · rename_i b hb
      simp only [hb]
      unfold hbi
      split at h
      · rename_i e1 e2
        simp only [opRead, hb, e1, e2]
        rw [Option.map_eq_some_iff] at h
        obtain ⟨u, h1, h2⟩ := h
        cases h2
        split
        · rename_i hm
          split at hm
          · rename_i hv
            cases hm
            rw [if_pos hv] at k
            exact hlen_mono (fun w e => by rw [e]; exact k) (xlen_ok h1)
          · cases hm
        · rename_i hm
          split at hm
          · exact absurd rfl (hm _ _)
          · rename_i hv
            rw [if_neg hv] at k
            exact ⟨by simpa using hv, hlen_mono (fun w e => by rw [e]; exact k) (xlen_ok h1)⟩
      · rename_i e2; simp only [opRead, hb, e2]; cases h; exact k
      · rename_i e2; simp only [opRead, hb, e2]; cases h; exact k
      · cases h
    · cases h
  | convert a d x =>
    simp only [xne] at h; simp only [hne]
    split at h
    · rename_i hc
      rw [if_pos hc]
      unfold hconv0
      split at h
      · rename_i ys hy
        simp only [hy]
        split at h
        · rename_i hd; cases h; exact ⟨hd.1, isStr_of hd.2.1, hd.2.2, k⟩
        · cases h
      · cases h
    · rename_i hc
      rw [if_neg hc]
      exact pure h
  | slice t x lo hi mx =>
    simp only [xne] at h; simp only [hne]
    split at h
    · rename_i hc; exact ⟨hc, pure h⟩
    · cases h
  | makeSlice t l c =>
    simp only [xne] at h; simp only [hne]
    split at h
    · rename_i e1 e2
      simp only [e1, e2]
      split at h
      · rename_i hc; cases h; rw [XS.hh_push] at k; exact ⟨hc.1, hc.2.1, hc.2.2.1, hc.2.2.2.1, hc.2.2.2.2.1, hc.2.2.2.2.2, fun _ => k⟩
      · cases h
    · cases h
  | makeMap t res =>
    cases res with
    | none => simp only [xne] at h; simp only [hne]; cases h; rw [XS.hh_push] at k; exact fun _ => k
    | some y => simp only [xne] at h; simp only [hne]; exact pure h
  | _ => simp only [xne] at h; simp only [hne]; exact pure h

def HObj.same : HObj → HObj → Bool
  | .cells cs, .cells cs' => HVs.beq cs cs'
  | .row im e ds, .row im' e' ds' => im == im' && Nat.beq e e' && HVs.beq ds ds'
  | .map c [], .map c' [] => decide (c = c')
  | _, _ => false
theorem HObj.same_eq {a b : HObj} (h : HObj.same a b = true) : a = b := by
  unfold HObj.same at h
  split at h
  · rw [HVs.beq_eq _ _ h]
  · simp only [Bool.and_eq_true, beq_iff_eq] at h
    rw [h.1.1, beqt h.1.2, HVs.beq_eq _ _ h.2]
  · simp only [decide_eq_true_eq] at h; rw [h]
  · cases h

def Pr.okB (P : Program) (s : XS) : Pr → Bool
  | .rd _ (.load t p) v => match hcells s.hh p with | some q => okLoad P t q.1 q.2 && HV.beq (hload P t q.1 q.2) v | none => false
  | .rd _ (.mlen t m) v => match xlen P t m s with | some u => HV.beq u v | none => false
  | .rd _ (.look t m k ok) v => match xlookup P t m k ok s with | some u => HV.beq u v | none => false
  | .obj _ x ob => match s.get x with | some ob' => HObj.same ob' ob | none => false
theorem Pr.okB_ok {P : Program} {s : XS} {r : Pr} (h : r.okB P s = true) : r.ok P s.hh := by
  cases r with
  | rd i q v =>
    cases q with
    | load t p =>
      simp only [Pr.okB] at h
      simp only [Pr.ok, HRead.ok]
      split at h
      · rename_i q hq
        simp only [hq]
        simp only [Bool.and_eq_true] at h
        exact ⟨okLoad_ok h.1, HV.beq_eq _ _ h.2⟩
      · cases h
    | mlen t m =>
      simp only [Pr.okB] at h
      simp only [Pr.ok, HRead.ok]
      split at h
      · rename_i u hu; rw [← HV.beq_eq _ _ h]; exact xlen_ok hu
      · cases h
    | look t m k ok =>
      simp only [Pr.okB] at h
      simp only [Pr.ok, HRead.ok]
      split at h
      · rename_i u hu; rw [← HV.beq_eq _ _ h]; exact xlookup_ok hu
      · cases h
  | obj i x ob =>
    simp only [Pr.okB] at h
    simp only [Pr.ok, XS.hh_get]
    split at h
    · rename_i ob' hx; rw [hx, HObj.same_eq h]
    · cases h

abbrev XScan := List (Nat × Oper) × Env × XS × List Pr

def xscan (P : Program) (nt : Nat) (ds : List (Option Tmp)) : List (Nat × Oper) → List Nat → List (Nat × Oper) → Env → XS → List Pr → Option XScan
  | [], pend, D, T, s, prs => some (D.reverse, T, s, prs)
  | p :: l, pend, D, T, s, prs =>
    match (dep p.2).any pend.contains with
    | true => xscan P nt ds l (p.1 :: pend) (p :: D) T s prs
    | false => match p.2.guard with
      | none => match eff p.2.op with
        | true => xscan P nt ds l (p.1 :: pend) (p :: D) T s prs
        | false => match xne P p.1 p.2.op (hev T) s with
          | some (v, s', pr) => match xbind nt p.2.dst v T with
            | some T' => xscan P nt ds l pend D T' s' (pr ++ prs)
            | none => none
          | none => none
      | some q => match gslot ds q.1 with
        | some d => match T.get d with
          | .bool b => match b == q.2 with
            | true => match eff p.2.op with
              | true => xscan P nt ds l (p.1 :: pend) (p :: D) ((d, .bool q.2) :: T) s prs
              | false => match xne P p.1 p.2.op (hev ((d, .bool q.2) :: T)) s with
                | some (v, s', pr) => match xbind nt p.2.dst v ((d, .bool q.2) :: T) with
                  | some T' => xscan P nt ds l pend D T' s' (pr ++ prs)
                  | none => none
                | none => none
            | false => match xbind nt p.2.dst (.tup []) ((d, .bool !q.2) :: T) with
              | some T' => xscan P nt ds l pend D T' s prs
              | none => none
          | .tup [] => match xbind nt p.2.dst (.tup []) T with
            | some T' => xscan P nt ds l pend D T' s prs
            | none => none
          | _ => none
        | none => none

theorem xscan_then {P : Program} {nt : Nat} {ds : List (Option Tmp)} : ∀ (l : List (Nat × Oper)) (pend : List Nat) (D : List (Nat × Oper)) {T : Env} {s : XS} {prs : List Pr} {r : XScan}, xscan P nt ds l pend D T s prs = some r →
    ∀ {K : List (Nat × Oper) → Env → HH → List Pr → Prop}, K r.1 r.2.1 r.2.2.1.hh r.2.2.2 → hscan P nt ds l pend D T s.hh prs K
  | [], pend, D, T, s, prs, r, h, K, k => by simp only [xscan, Option.some.injEq] at h; subst h; exact k
  | p :: l, pend, D, T, s, prs, r, h, K, k => by
    have step : ∀ {T0 : Env}, (match xne P p.1 p.2.op (hev T0) s with
        | some (v, s', pr) => match xbind nt p.2.dst v T0 with
          | some T' => xscan P nt ds l pend D T' s' (pr ++ prs)
          | none => none
        | none => none) = some r → hne P p.1 p.2.op (hev T0) s.hh fun v h' pr => hbind nt p.2.dst v T0 fun T' => hscan P nt ds l pend D T' h' (pr ++ prs) K := by
      intro T0 h
      split at h
      · rename_i v s1 pr h1
        split at h
        · rename_i T1 h2
          exact xne_then h1 (xbind_then h2 (xscan_then l pend D h k))
        · cases h
      · cases h
    simp only [xscan] at h
    simp only [hscan]
    split at h
    · rename_i hp; rw [if_pos hp]; exact xscan_then l _ _ h k
    · rename_i hp
      rw [if_neg (by rw [hp]; simp)]
      split at h
      · rename_i hg
        simp only [hg]
        split at h
        · rename_i he; rw [if_pos he]; exact xscan_then l _ _ h k
        · rename_i he; rw [if_neg (by rw [he]; simp)]; exact step h
      · rename_i q hg
        simp only [hg]
        split at h
        · rename_i d hd
          simp only [hd]
          split at h
          · rename_i b hb
            simp only [hb]
            split at h
            · rename_i hq
              have hq : b = q.2 := by simpa using hq
              refine ⟨fun _ => ?_, fun hn => ?_⟩
              · split at h
                · rename_i he; rw [if_pos he]; exact xscan_then l _ _ h k
                · rename_i he; rw [if_neg (by rw [he]; simp)]; exact step h
              · subst hq; cases hb2 : q.2 <;> rw [hb2] at hn <;> cases hn
            · rename_i hq
              have hq : b ≠ q.2 := by simpa using hq
              refine ⟨fun e => absurd e hq, fun _ => ?_⟩
              split at h
              · rename_i T1 h2; exact xbind_then h2 (xscan_then l _ _ h k)
              · cases h
          · rename_i hb
            simp only [hb]
            split at h
            · rename_i T1 h2; exact xbind_then h2 (xscan_then l _ _ h k)
            · cases h
          · cases h
        · cases h

def xround (P : Program) (call : XCall) (nt : Nat) (ds : List (Option Tmp)) (dl : List (List Nat)) : Nat → List (Nat × Oper) → Env → XS → List Pr → Option (Env × XS)
  | _, [], T, s, prs => some (T, s)
  | 0, _ :: _, T, s, prs => none
  | n + 1, p :: D, T, s, prs =>
    match eff p.2.op && (D.all fun q => (ancs dl q.1).contains p.1) && (match p.2.guard with
        | none => true
        | some q => match gslot ds q.1 with
          | some d => match T.get d with | .bool b => b == q.2 | _ => false
          | none => false) with
    | false => none
    | true => match xop P call p.2.op (hev T) s with
      | none => none
      | some (v, s') => match prs.all fun r => (ancs dl p.1).contains r.idx || r.okB P s' with
        | false => none
        | true => match xbind nt p.2.dst v T with
          | none => none
          | some T' => match xscan P nt ds D [] [] T' s' prs with
            | none => none
            | some (D', T'', s'', prs') => xround P call nt ds dl n D' T'' s'' prs'

theorem xround_ok {P : Program} {call : XCall} (hcall : XOk P call) {nt : Nat} {ds : List (Option Tmp)} {dl : List (List Nat)} : ∀ (n : Nat) (D : List (Nat × Oper)) {T T' : Env} {s s' : XS} {prs : List Pr}, xround P call nt ds dl n D T s prs = some (T', s') →
    ∀ {Q : Env → HH → Prop}, Q T' s'.hh → hround P nt ds dl Q n D T s.hh prs
  | 0, [], T, T', s, s', prs, h, Q, q => by simp only [xround, Option.some.injEq, Prod.mk.injEq] at h; obtain ⟨rfl, rfl⟩ := h; exact q
  | n + 1, [], T, T', s, s', prs, h, Q, q => by simp only [xround, Option.some.injEq, Prod.mk.injEq] at h; obtain ⟨rfl, rfl⟩ := h; exact q
  | 0, _ :: _, T, T', s, s', prs, h, Q, q => by simp [xround] at h
  | n + 1, p :: D, T, T', s, s', prs, h, Q, q => by
    simp only [xround] at h
    split at h
    · cases h
    · rename_i hc
      simp only [Bool.and_eq_true] at hc
      split at h
      · cases h
      · rename_i v s1 h1
        split at h
        · cases h
        · rename_i hp
          split at h
          · cases h
          · rename_i T1 h2
            split at h
            · cases h
            · rename_i D' T'' s'' prs' h3
              simp only [hround]
              refine ⟨hc.1.1, fun a ha => ?_, ?_, xop_then hcall h1 ⟨fun r hr => ?_, xbind_then h2 (xscan_then _ _ _ h3 (xround_ok hcall n D' h q))⟩⟩
              · obtain ⟨b, hb, rfl⟩ := List.mem_map.1 ha
                have := List.all_eq_true.1 hc.1.2 b hb
                simpa using this
              · have hg := hc.2
                split at hg
                · rename_i hq; simp only [hq]
                · rename_i qq hq
                  simp only [hq]
                  split at hg
                  · rename_i d hd
                    simp only [hd]
                    split at hg
                    · rename_i b hb; rw [hb]; simp at hg; rw [hg]
                    · cases hg
                  · cases hg
              · have := List.all_eq_true.1 hp r hr
                simp only [Bool.or_eq_true] at this
                rcases this with h' | h'
                · left; simpa using h'
                · right; exact Pr.okB_ok h'

def xdraw (P : Program) (call : XCall) (nt : Nat) (ops : List Oper) (T : Env) (s : XS) : Option (Env × XS) :=
  match xscan P nt (ops.map (·.dst)) (ops.zipIdx.map fun x => (x.2, x.1)) [] [] T s [] with
  | some (D, T', s', prs) => xround P call nt (ops.map (·.dst)) (ops.map dep) ops.length D T' s' prs
  | none => none
theorem xdraw_ok {P : Program} {call : XCall} (hcall : XOk P call) {nt : Nat} {ops : List Oper} {T T' : Env} {s s' : XS} (h : xdraw P call nt ops T s = some (T', s')) {Q : Env → HH → Prop} (q : Q T' s'.hh) : hdraw P nt ops Q T s.hh := by
  unfold xdraw at h
  split at h
  · rename_i D T1 s1 prs h1
    exact xscan_then _ _ _ h1 (xround_ok hcall _ _ h q)
  · cases h
end Go.H
