/- Code and calls as functions. -/
import Derived.Test.YtclolaieehmgmaaGreatHRun3
set_option linter.unusedVariables false
set_option linter.unusedSimpArgs false
namespace Go.H

abbrev XR := Option (Exit × Env × XS)

def xloop (body : Env → XS → XR) : Nat → Env → XS → XR
  | 0, _, _ => none
  | n + 1, T, s => match body T s with
    | some (.normal, T', s') => xloop body n T' s'
    | r => r

def xcode (P : Program) (call : XCall) (lf : Nat) (ks : List Nat) (nt : Nat) : Code → Env → XS → XR
  | .skip, T, s => some (.normal, T, s)
  | .region _ ops false, T, s => match xops P call nt (ops.toList.map (·.dst)) ops.toList (T.prune ks) s with
    | some (T', s') => some (.normal, T', s')
    | none => none
  | .region _ ops true, T, s => match xdraw P call nt ops.toList (T.prune ks) s with
    | some (T', s') => some (.normal, T', s')
    | none => none
  | .seq a b, T, s => match xcode P call lf ks nt a T s with
    | some (.normal, T', s') => xcode P call lf ks nt b T' s'
    | r => r
  | .cond x a b, T, s => match hev T x with
    | .bool true => xcode P call lf ks nt a T s
    | .bool false => xcode P call lf ks nt b T s
    | _ => none
  | .block id c, T, s => match xcode P call lf ks nt c T s with
    | some (.exit k, T', s') => if k = id then some (.normal, T', s') else some (.exit k, T', s')
    | r => r
  | .scope c, T, s => match xcode P call lf ks nt c T s with
    | some (.goto _, _, _) => none
    | r => r
  | .loop c, T, s => xloop (xcode P call lf ks nt c) lf T s
  | .exit id, T, s => some (.exit id, T, s)
  | .ret, T, s => some (.ret, T, s)
  | .label _, T, s => some (.normal, T, s)
  | .goto l, T, s => some (.goto l, T, s)
  | _, _, _ => none

def XQ (e : Exit) (T : Env) (s : XS) : Exit → Env → HH → Prop := fun e1 T1 h1 => e1 = e ∧ T1 = T ∧ h1 = s.hh

theorem xloop_trace {body : Env → XS → XR} : ∀ (n : Nat) {T T' : Env} {s s' : XS} {e : Exit}, xloop body n T s = some (e, T', s') →
    ∃ (m : Nat) (E : Nat → Env) (S : Nat → XS), E 0 = T ∧ S 0 = s ∧ (∀ k, k < m → body (E k) (S k) = some (.normal, E (k + 1), S (k + 1))) ∧ body (E m) (S m) = some (e, T', s') ∧ e ≠ .normal
  | 0, T, T', s, s', e, h => by simp [xloop] at h
  | n + 1, T, T', s, s', e, h => by
    simp only [xloop] at h
    split at h
    · rename_i T1 s1 hb
      obtain ⟨m, E, S, h1, h2, h3, h4, h5⟩ := xloop_trace n h
      refine ⟨m + 1, fun k => match k with | 0 => T | k + 1 => E k, fun k => match k with | 0 => s | k + 1 => S k, rfl, rfl, fun k hk => ?_, h4, h5⟩
      cases k with
      | zero => simp only [h1, h2]; exact hb
      | succ k => exact h3 k (by omega)
    · rename_i hn
      refine ⟨0, fun _ => T, fun _ => s, rfl, rfl, fun k hk => by omega, h, fun he => ?_⟩
      subst he
      exact hn _ _ h

theorem xcode_ok {P : Program} {call : XCall} (hcall : XOk P call) (hm : P.follows .mixedOrders = true) {lf : Nat} {ks : List Nat} {nt : Nat} : ∀ (c : Code), drawsOk nt c = true → ∀ {T T' : Env} {s s' : XS} {e : Exit},
    xcode P call lf ks nt c T s = some (e, T', s') → HWp P nt c (XQ e T' s') T s.hh
  | .skip, d, T, T', s, s', e, h => by
    simp only [xcode, Option.some.injEq, Prod.mk.injEq] at h
    obtain ⟨rfl, rfl, rfl⟩ := h
    exact HWp.now (e := .normal) ⟨rfl, rfl, rfl⟩ fun _ _ _ q => wp_skip q
  | .region _ ops false, d, T, T', s, s', e, h => by
    simp only [xcode] at h
    split at h
    · rename_i T1 s1 h1
      cases h
      exact HWp.forget ks (HWp.region (xops_ok hcall _ h1 ⟨rfl, rfl, rfl⟩))
    · cases h
  | .region i ops true, d, T, T', s, s', e, h => by
    simp only [drawsOk, Bool.and_eq_true] at d
    simp only [xcode] at h
    split at h
    · rename_i T1 s1 h1
      cases h
      exact HWp.forget ks (HWp.draw hm d.1 d.2 (xdraw_ok hcall h1 ⟨rfl, rfl, rfl⟩))
    · cases h
  | .seq a b, d, T, T', s, s', e, h => by
    simp only [drawsOk, Bool.and_eq_true] at d
    simp only [xcode] at h
    refine HWp.seq ?_
    split at h
    · rename_i T1 s1 h1
      refine (xcode_ok hcall hm a d.1 h1).mono ?_
      rintro e1 T2 h2 ⟨rfl, rfl, rfl⟩
      exact xcode_ok hcall hm b d.2 h
    · rename_i hn
      refine (xcode_ok hcall hm a d.1 h).mono ?_
      rintro e1 T2 h2 ⟨rfl, rfl, rfl⟩
      cases e1 with
      | normal => exact absurd h (hn _ _)
      | _ => exact ⟨rfl, rfl, rfl⟩
  | .cond x a b, d, T, T', s, s', e, h => by
    simp only [drawsOk, Bool.and_eq_true] at d
    simp only [xcode] at h
    split at h
    · rename_i hx; exact HWp.cond hx (fun _ => xcode_ok hcall hm a d.1 h) (fun hh => by cases hh)
    · rename_i hx; exact HWp.cond hx (fun hh => by cases hh) (fun _ => xcode_ok hcall hm b d.2 h)
    · cases h
  | .block id c, d, T, T', s, s', e, h => by
    simp only [drawsOk] at d
    simp only [xcode] at h
    refine HWp.block ?_
    split at h
    · rename_i k T1 s1 h1
      refine (xcode_ok hcall hm c d h1).mono ?_
      rintro e1 T2 h2 ⟨rfl, rfl, rfl⟩
      simp only [HBlk]
      split at h
      · rename_i hk; rw [if_pos hk]; cases h; exact ⟨rfl, rfl, rfl⟩
      · rename_i hk; rw [if_neg hk]; cases h; exact ⟨rfl, rfl, rfl⟩
    · rename_i hn
      refine (xcode_ok hcall hm c d h).mono ?_
      rintro e1 T2 h2 ⟨rfl, rfl, rfl⟩
      cases e1 with
      | exit k => exact absurd h (hn _ _ _)
      | _ => exact ⟨rfl, rfl, rfl⟩
  | .scope c, d, T, T', s, s', e, h => by
    simp only [drawsOk] at d
    simp only [xcode] at h
    refine HWp.scope ?_
    split at h
    · cases h
    · rename_i hn
      refine (xcode_ok hcall hm c d h).mono ?_
      rintro e1 T2 h2 ⟨rfl, rfl, rfl⟩
      cases e1 with
      | goto k => exact absurd h (hn _ _ _)
      | _ => exact ⟨rfl, rfl, rfl⟩
  | .loop c, d, T, T', s, s', e, h => by
    simp only [drawsOk] at d
    simp only [xcode] at h
    obtain ⟨m, E, S, e0, s0, hstep, hlast, hne⟩ := xloop_trace _ h
    refine HWp.loop (α := Nat) E (fun k => (S k).hh) (fun k => k ≤ m) (fun k => m - k) ⟨0, Nat.zero_le _, by rw [s0], fun k => .inr (by rw [e0])⟩ fun k hk => ?_
    by_cases hkm : k = m
    · subst hkm
      refine (xcode_ok hcall hm c d hlast).mono ?_
      rintro e1 T2 h2 ⟨rfl, rfl, rfl⟩
      cases e1 with
      | normal => exact absurd rfl hne
      | _ => exact ⟨rfl, rfl, rfl⟩
    · refine (xcode_ok hcall hm c d (hstep k (by omega))).mono ?_
      rintro e1 T2 h2 ⟨rfl, rfl, rfl⟩
      exact ⟨k + 1, by omega, by omega, rfl, fun _ => .inr rfl⟩
  | .exit id, d, T, T', s, s', e, h => by
    simp only [xcode, Option.some.injEq, Prod.mk.injEq] at h
    obtain ⟨rfl, rfl, rfl⟩ := h
    exact HWp.now (e := .exit id) ⟨rfl, rfl, rfl⟩ fun _ _ _ q => wp_exit q
  | .ret, d, T, T', s, s', e, h => by
    simp only [xcode, Option.some.injEq, Prod.mk.injEq] at h
    obtain ⟨rfl, rfl, rfl⟩ := h
    exact HWp.now (e := .ret) ⟨rfl, rfl, rfl⟩ fun _ _ _ q => wp_ret q
  | .label l, d, T, T', s, s', e, h => by
    simp only [xcode, Option.some.injEq, Prod.mk.injEq] at h
    obtain ⟨rfl, rfl, rfl⟩ := h
    exact HWp.now (e := .normal) ⟨rfl, rfl, rfl⟩ fun _ _ _ q => wp_label q
  | .goto l, d, T, T', s, s', e, h => by
    simp only [xcode, Option.some.injEq, Prod.mk.injEq] at h
    obtain ⟨rfl, rfl, rfl⟩ := h
    exact HWp.now (e := .goto l) ⟨rfl, rfl, rfl⟩ fun _ _ _ q => wp_goto q
  | .rangeFunc .., d, T, T', s, s', e, h => by simp [xcode] at h
  | .refuse _, d, T, T', s, s', e, h => by simp [xcode] at h

def xres (P : Program) : List ResultVar → Env → XS → Option (List HV)
  | [], T, s => some []
  | .tmp t :: l, T, s => match xres P l T s with
    | some vs => some (T.get t :: vs)
    | none => none
  | .cell a t :: l, T, s => match hcells s.hh (T.get a) with
    | some q => match okLoad P t q.1 q.2 with
      | true => match xres P l T s with
        | some vs => some (hload P t q.1 q.2 :: vs)
        | none => none
      | false => none
    | none => none
theorem xres_then {P : Program} : ∀ (l : List ResultVar) {T : Env} {s : XS} {vs : List HV}, xres P l T s = some vs → ∀ {K : List HV → Prop}, K vs → hres P l T s.hh K
  | [], T, s, vs, h, K, k => by simp only [xres, Option.some.injEq] at h; subst h; exact k
  | .tmp t :: l, T, s, vs, h, K, k => by
    simp only [xres] at h
    split at h
    · rename_i us h1; cases h; exact xres_then l h1 k
    · cases h
  | .cell a t :: l, T, s, vs, h, K, k => by
    simp only [xres] at h
    simp only [hres]
    split at h
    · rename_i q hq
      simp only [hq]
      split at h
      · rename_i ho
        split at h
        · rename_i us h1; cases h; exact ⟨okLoad_ok ho, xres_then l h1 k⟩
        · cases h
      · cases h
    · cases h

def okF (P : Program) (f : FuncId) : Bool :=
  match P.funcs[f]? with
  | some fn => match fn.body with
    | some c => fn.name != "runtime.NumGoroutine" && drawsOk fn.ntmps c
    | none => true
  | none => true

def xcall (P : Program) (ks : FuncId → List Nat) (lf : Nat) : Nat → XCall
  | 0 => fun _ _ _ => none
  | n + 1 => fun f args s => match P.funcs[f]? with
    | some fn => match fn.body with
      | some c => match Nat.ble args.length fn.ntmps with
        | true => match xcode P (xcall P ks lf n) lf (ks f) fn.ntmps c (henter args) s with
          | some (.normal, T, s') => match xres P fn.results.toList T s' with
            | some vs => some (hval vs, s')
            | none => none
          | some (.ret, T, s') => match xres P fn.results.toList T s' with
            | some vs => some (hval vs, s')
            | none => none
          | _ => none
        | false => none
      | none => none
    | none => none

theorem HWp.hcalls {P : Program} {f : FuncId} {fn : Func} {c : Code} {args : List HV} {h : HH} {Q : HV → HH → Prop} (hf : P.funcs[f]? = some fn) (hb : fn.body = some c) (hbody : hasBody P f = true) (hl : args.length ≤ fn.ntmps)
    (hc : HWp P fn.ntmps c (hret P fn.results.toList Q) (henter args) h) : HCalls P f args h Q := by
  refine ⟨hbody, fun Fr g w cargs r hs ha => calls_of_wp hf hb ?_⟩
  have hsz : (cargs ++ Array.replicate (fn.ntmps - cargs.size) undef).size = fn.ntmps := by simp; omega
  have en : EnvR g (henter args) (cargs ++ Array.replicate (fn.ntmps - cargs.size) undef) := by
    intro k
    have hg := henter_get args k 0
    simp only [Nat.zero_le, if_true, Nat.sub_zero] at hg
    unfold henter
    rw [hg]
    by_cases hk : k < args.length
    · have := ha k _ (getD_lt hk .any)
      rw [Array.getD_eq_getD_getElem?, Array.getElem?_append_left (by omega), ← Array.getD_eq_getD_getElem?]
      exact this
    · have : args.getD k .any = .any := by simp [List.getD, List.getElem?_eq_none (Nat.le_of_not_lt hk)]
      rw [this]; exact .any _
  refine wp_mono (hc Fr g w _ r en hsz) fun e a w' hp => ?_
  obtain ⟨p1, p2, T', h', g', q, l, en', r', kk⟩ := hp
  have fin : ∀ {vs : List HV} {cv : Value}, Q (hval vs) h' → VR g' (hval vs) cv →
      ∃ cv' v h'' g'', Ending.returned cv = .returned cv' ∧ Q v h'' ∧ g.le g'' ∧ VR g'' v cv' ∧ Rel P Fr g'' h'' w' ∧ Kept Fr w w' := by
    intro vs cv hq hv
    exact ⟨cv, _, h', g', rfl, hq, l, hv, r', kk⟩
  cases e with
  | normal =>
    obtain ⟨vs, cv, k1, k2, k3⟩ := results_run r' en' q
    exact ⟨p1, cv, k3, fin k1 k2⟩
  | ret =>
    obtain ⟨vs, cv, k1, k2, k3⟩ := results_run r' en' q
    exact ⟨p1, cv, k3, fin k1 k2⟩
  | _ => exact q.elim

theorem xcall_ok {P : Program} {ks : FuncId → List Nat} {lf : Nat} (hok : ∀ f, okF P f = true) (hm : P.follows .mixedOrders = true) : ∀ n, XOk P (xcall P ks lf n)
  | 0 => fun f args s v s' h => by simp [xcall] at h
  | n + 1 => fun f args s v s' h => by
    simp only [xcall] at h
    split at h
    · rename_i fn hf
      split at h
      · rename_i c hc
        split at h
        · rename_i hl
          have ho := hok f
          simp only [okF, hf, hc, Bool.and_eq_true] at ho
          have hbody : hasBody P f = true := by simp only [hasBody, hf, hc, ho.1, Option.isSome_some, Bool.and_true]
          refine HWp.hcalls hf hc hbody (Nat.le_of_ble_eq_true hl) ?_
          split at h
          · rename_i T1 s1 h1
            split at h
            · rename_i vs h2
              cases h
              refine (xcode_ok (xcall_ok hok hm n) hm c ho.2 h1).mono ?_
              rintro e1 T2 h3 ⟨rfl, rfl, rfl⟩
              exact xres_then _ h2 ⟨rfl, rfl⟩
            · cases h
          · rename_i T1 s1 h1
            split at h
            · rename_i vs h2
              cases h
              refine (xcode_ok (xcall_ok hok hm n) hm c ho.2 h1).mono ?_
              rintro e1 T2 h3 ⟨rfl, rfl, rfl⟩
              exact xres_then _ h2 ⟨rfl, rfl⟩
            · cases h
          · cases h
        · cases h
      · cases h
    · cases h

/-- A run at the layer is a contract. -/
theorem hcalls_of_run {P : Program} {ks : FuncId → List Nat} {lf n : Nat} (hok : ∀ f, okF P f = true) (hm : P.follows .mixedOrders = true) {f : FuncId} {args : List HV} {s s' : XS} {v : HV} (h : xcall P ks lf n f args s = some (v, s')) :
    HCalls P f args s.hh fun u h => u = v ∧ h = s'.hh := xcall_ok hok hm n f args s v s' h
end Go.H
