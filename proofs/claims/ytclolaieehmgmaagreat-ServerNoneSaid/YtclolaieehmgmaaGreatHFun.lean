/- Statements by recursion, and the contract of a function. -/
import Derived.Test.YtclolaieehmgmaaGreatHDraw6
set_option linter.unusedVariables false
set_option linter.unusedSimpArgs false
namespace Go.H

def hcode (P : Program) (ks : List Nat) (nt : Nat) : Code → (Exit → Env → HH → Prop) → Env → HH → Prop
  | .skip, Q, T, h => Q .normal T h
  | .region _ ops false, Q, T, h => hops P nt (ops.toList.map (·.dst)) (Q .normal) ops.toList (T.prune ks) h
  | .region i ops true, Q, T, h => hdraw P nt ops.toList (Q .normal) (T.prune ks) h
  | .seq a b, Q, T, h => hcode P ks nt a (HThen Q fun T h => hcode P ks nt b Q T h) T h
  | .cond x a b, Q, T, h => match hev T x with
    | .bool t => (t = true → hcode P ks nt a Q T h) ∧ (t = false → hcode P ks nt b Q T h)
    | _ => False
  | .block id c, Q, T, h => hcode P ks nt c (HBlk id Q) T h
  | .scope c, Q, T, h => hcode P ks nt c (HNoGoto Q) T h
  | .loop c, Q, T, h => HWp P nt (.loop c) Q T h
  | .exit id, Q, T, h => Q (.exit id) T h
  | .ret, Q, T, h => Q .ret T h
  | .label _, Q, T, h => Q .normal T h
  | .goto l, Q, T, h => Q (.goto l) T h
  | .rangeFunc .., _, _, _ => False
  | .refuse _, _, _, _ => False

def drawsOk (nt : Nat) : Code → Bool
  | .region _ ops true => ssaOk ops && dstsOk nt ops
  | .seq a b | .cond _ a b => drawsOk nt a && drawsOk nt b
  | .block _ c | .scope c | .loop c => drawsOk nt c
  | _ => true

theorem HWp.now {P : Program} {nt : Nat} {c : Code} {Q : Exit → Env → HH → Prop} {T : Env} {h : HH} {e : Exit} (hq : Q e T h)
    (hc : ∀ (Q' : Exit → Act → World → Prop) a w, Q' e a w → c.wp P Q' a w) : HWp P nt c Q T h :=
  fun Fr g w tmps r en hs => hc _ _ _ ⟨rfl, hs, T, h, g, hq, Ghost.le.refl g, en, r, Kept.refl Fr w⟩

theorem hcode_sound {P : Program} {ks : List Nat} {nt : Nat} (hm : P.follows .mixedOrders = true) : ∀ (c : Code) {Q : Exit → Env → HH → Prop} {T : Env} {h : HH}, drawsOk nt c = true → hcode P ks nt c Q T h → HWp P nt c Q T h
  | .skip, Q, T, h, d, k => HWp.now (e := .normal) k fun _ _ _ q => wp_skip q
  | .region _ ops false, Q, T, h, d, k => HWp.forget ks (HWp.region k)
  | .region i ops true, Q, T, h, d, k => by
    simp only [drawsOk, Bool.and_eq_true] at d
    exact HWp.forget ks (HWp.draw hm d.1 d.2 k)
  | .seq a b, Q, T, h, d, k => by
    simp only [drawsOk, Bool.and_eq_true] at d
    exact HWp.seq ((hcode_sound hm a d.1 k).mono fun e T h q => by cases e <;> first | exact hcode_sound hm b d.2 q | exact q)
  | .cond x a b, Q, T, h, d, k => by
    simp only [drawsOk, Bool.and_eq_true] at d
    simp only [hcode] at k
    split at k
    · rename_i t ht
      exact HWp.cond ht (fun e => hcode_sound hm a d.1 (k.1 e)) (fun e => hcode_sound hm b d.2 (k.2 e))
    · exact k.elim
  | .block id c, Q, T, h, d, k => HWp.block (hcode_sound hm c d k)
  | .scope c, Q, T, h, d, k => HWp.scope (hcode_sound hm c d k)
  | .loop c, Q, T, h, d, k => k
  | .exit id, Q, T, h, d, k => HWp.now (e := .exit id) k fun _ _ _ q => wp_exit q
  | .ret, Q, T, h, d, k => HWp.now (e := .ret) k fun _ _ _ q => wp_ret q
  | .label _, Q, T, h, d, k => HWp.now (e := .normal) k fun _ _ _ q => wp_label q
  | .goto l, Q, T, h, d, k => HWp.now (e := .goto l) k fun _ _ _ q => wp_goto q
  | .rangeFunc .., Q, T, h, d, k => k.elim
  | .refuse _, Q, T, h, d, k => k.elim

/-- what a function hands back -/
def hres (P : Program) : List ResultVar → Env → HH → (List HV → Prop) → Prop
  | [], T, h, K => K []
  | .tmp t :: l, T, h, K => hres P l T h fun vs => K (T.get t :: vs)
  | .cell a t :: l, T, h, K => match hcells h (T.get a) with
    | some q => hloadOk P t q.1 q.2 ∧ hres P l T h fun vs => K (hload P t q.1 q.2 :: vs)
    | none => False

def hval : List HV → HV
  | [v] => v
  | vs => .tup vs

def hret (P : Program) (rs : List ResultVar) (Q : HV → HH → Prop) : Exit → Env → HH → Prop
  | .normal, T, h | .ret, T, h => hres P rs T h fun vs => Q (hval vs) h
  | _, _, _ => False

def rval (tmps : Array Value) : ResultVar → Sem Value
  | .tmp t => pure (tmps.getD t undef)
  | .cell a t => do loadVar t (← asAddr (tmps.getD a undef))

theorem results_rval (fn : Func) (tmps : Array Value) : results fn tmps = (do let vs ← fn.results.mapM (rval tmps); pure (if h : vs.size = 1 then vs[0] else .tuple vs)) := by
  unfold results
  have : (fun (x : ResultVar) => match x with | .tmp t => (pure (tmps.getD t undef) : Sem Value) | .cell a t => do loadVar t (← asAddr (tmps.getD a undef))) = rval tmps := by
    funext x; cases x <;> rfl
  rw [← this]
  rfl

theorem hres_sound {P : Program} {Fr : Nat → Prop} {g : Ghost} {h : HH} {w : World} (r : Rel P Fr g h w) {T : Env} {tmps : Array Value} (en : EnvR g T tmps) : ∀ (rs : List ResultVar) {K : List HV → Prop}, hres P rs T h K →
    ∃ (vs : List HV) (cs : List Value), K vs ∧ cs.length = vs.length ∧ (∀ (j : Nat) (v : HV), vs[j]? = some v → VR g v (cs.getD j undef)) ∧
      (rs.mapM (rval tmps)).run P w = .ok cs w
  | [], K, hk => ⟨[], [], hk, rfl, fun j v e => (by cases e), by simp⟩
  | .tmp t :: l, K, hk => by
    simp only [hres] at hk
    obtain ⟨vs, cs, q1, q2, q3, q4⟩ := hres_sound r en l hk
    refine ⟨_, tmps.getD t undef :: cs, q1, by simp [q2], fun j v e => ?_, ?_⟩
    · cases j with
      | zero => simp only [List.getElem?_cons_zero, Option.some.injEq] at e; subst e; exact en t
      | succ j => simp only [List.getElem?_cons_succ] at e; simpa using q3 j v e
    · simp only [List.mapM_cons, rval, Sem.run_bind, Sem.run_pure, Result.andThen_ok, q4]
  | .cell a t :: l, K, hk => by
    simp only [hres] at hk
    split at hk
    · rename_i q hq
      obtain ⟨h1, h2⟩ := hk
      obtain ⟨vs, cs, q1, q2, q3, q4⟩ := hres_sound r en l h2
      obtain ⟨b, o0, hp, hr⟩ := reads_of r (en a) hq
      obtain ⟨cv, c1, c2⟩ := run_loadVar_reads hr t q.2 h1
      refine ⟨_, cv :: cs, q1, by simp [q2], fun j v e => ?_, ?_⟩
      · cases j with
        | zero => simp only [List.getElem?_cons_zero, Option.some.injEq] at e; subst e; exact c2
        | succ j => simp only [List.getElem?_cons_succ] at e; simpa using q3 j v e
      · have hr1 : (rval tmps (.cell a t)).run P w = .ok cv w := by
          have h3 : (asAddr (tmps.getD a undef)).run P w = .ok ⟨b, o0 + q.2, none⟩ w := by rw [hp]; rfl
          simp only [rval, Sem.run_bind, h3, Result.andThen_ok, c1]
        simp only [List.mapM_cons, Sem.run_bind, hr1, Sem.run_pure, Result.andThen_ok, q4]
    · exact hk.elim

theorem results_run {P : Program} {Fr : Nat → Prop} {g : Ghost} {h : HH} {w : World} (r : Rel P Fr g h w) {T : Env} {tmps : Array Value} (en : EnvR g T tmps) {fn : Func} {K : List HV → Prop} (hk : hres P fn.results.toList T h K) :
    ∃ vs cv, K vs ∧ VR g (hval vs) cv ∧ (results fn tmps).run P w = .ok cv w := by
  obtain ⟨vs, cs, q1, q2, q3, q4⟩ := hres_sound r en fn.results.toList hk
  have hrun : (results fn tmps).run P w = .ok (if h : cs.toArray.size = 1 then cs.toArray[0] else .tuple cs.toArray) w := by
    rw [results_rval]
    simp only [Sem.run_bind, Array.mapM_eq_mapM_toList, Sem.run_map, q4, Result.andThen_ok, Sem.run_pure]
  refine ⟨vs, _, q1, ?_, hrun⟩
  match vs, cs, q2, q3 with
  | [v], [c], _, q3 => simpa [hval] using q3 0 v rfl
  | [], [], _, q3 => exact .tup [] #[] rfl (by simp)
  | v :: u :: vs, c :: d :: cs, q2, q3 =>
    simp only [List.length_cons] at q2
    simp only [List.size_toArray, List.length_cons, hval]
    rw [dif_neg (by omega)]
    refine .tup _ _ (by simp; omega) fun j x e => ?_
    have := q3 j x e
    simpa [Array.getD_eq_getD_getElem?, List.getD_eq_getElem?_getD] using this

def henter (args : List HV) : Env := args.zipIdx.map fun p => (p.2, p.1)

theorem henter_get (args : List HV) : ∀ (k m : Nat), Env.get ((args.zipIdx m).map fun p => (p.2, p.1)) k = if m ≤ k then args.getD (k - m) .any else .any := by
  induction args with
  | nil => intro k m; simp [Env.get]
  | cons v args ih =>
    intro k m
    simp only [List.zipIdx_cons, List.map_cons, Env.get]
    split
    · rename_i e; subst e; simp
    · rename_i e
      rw [ih k (m + 1)]
      by_cases hk : m + 1 ≤ k
      · rw [if_pos hk, if_pos (by omega)]
        have : k - m = (k - (m + 1)) + 1 := by omega
        rw [this]; rfl
      · rw [if_neg hk]
        split
        · rename_i h; omega
        · rfl

/-- The contract of a function out of its code. `ks`: the slots that are kept from region to region. -/
theorem hcalls_of {P : Program} {f : FuncId} {fn : Func} {c : Code} {args : List HV} {h : HH} {Q : HV → HH → Prop} (ks : List Nat) (nt : Nat) (rs : List ResultVar) (hf : P.funcs[f]? = some fn) (hb : fn.body = some c) (hbody : hasBody P f = true)
    (hm : P.follows .mixedOrders = true) (hd : drawsOk nt c = true) (hn : fn.ntmps = nt) (hrs : fn.results = rs.toArray) (hl : args.length ≤ nt) (hc : hcode P ks nt c (hret P rs Q) (henter args) h) : HCalls P f args h Q := by
  refine ⟨hbody, fun Fr g w cargs r hs ha => calls_of_wp hf hb ?_⟩
  have hsz : (cargs ++ Array.replicate (fn.ntmps - cargs.size) undef).size = nt := by simp; omega
  have en : EnvR g (henter args) (cargs ++ Array.replicate (fn.ntmps - cargs.size) undef) := by
    intro k
    have hg := henter_get args k 0
    simp only [Nat.zero_le, if_true, Nat.sub_zero] at hg
    unfold henter
    rw [hg]
    by_cases hk : k < args.length
    · have := ha k _ (getD_lt hk .any)
      rw [Array.getD_eq_getD_getElem?, Array.getElem?_append_left (by omega), ← Array.getD_eq_getD_getElem?]
      exact this
    · have : args.getD k .any = .any := by simp [List.getD, List.getElem?_eq_none (Nat.le_of_not_lt hk)]
      rw [this]; exact .any _
  refine wp_mono (hcode_sound hm c hd hc Fr g w _ r en hsz) fun e a w' hp => ?_
  obtain ⟨p1, p2, T', h', g', q, l, en', r', kk⟩ := hp
  have fin : ∀ {vs : List HV} {cv : Value}, Q (hval vs) h' → VR g' (hval vs) cv →
      ∃ cv' v h'' g'', Ending.returned cv = .returned cv' ∧ Q v h'' ∧ g.le g'' ∧ VR g'' v cv' ∧ Rel P Fr g'' h'' w' ∧ Kept Fr w w' := by
    intro vs cv hq hv
    exact ⟨cv, _, h', g', rfl, hq, l, hv, r', kk⟩
  cases e with
  | normal =>
    have q' : hres P fn.results.toList T' h' (fun vs => Q (hval vs) h') := by rw [hrs]; exact q
    obtain ⟨vs, cv, k1, k2, k3⟩ := results_run r' en' q'
    exact ⟨p1, cv, k3, fin k1 k2⟩
  | ret =>
    have q' : hres P fn.results.toList T' h' (fun vs => Q (hval vs) h') := by rw [hrs]; exact q
    obtain ⟨vs, cv, k1, k2, k3⟩ := results_run r' en' q'
    exact ⟨p1, cv, k3, fin k1 k2⟩
  | _ => exact q.elim

/-- What a function is given may be closed ahead of it. -/
theorem HCalls.sealIn {P : Program} {f : FuncId} {args : List HV} {h : HH} {Q : HV → HH → Prop} (k : HCalls P f (seals args h).1 (seals args h).2 Q) : HCalls P f args h Q := by
  refine ⟨k.1, fun Fr g w cargs r hs ha => ?_⟩
  obtain ⟨g1, l1, n1, v1, r1⟩ := seals_sound args r (fun j => cargs.getD j undef) ha
  refine (k.2 Fr g1 w cargs r1 (by rw [n1]; exact hs) v1).mono ?_
  rintro e w' ⟨cv, v, h', g', rfl, q1, q2, q3, q4, q5⟩
  exact ⟨cv, v, h', g', rfl, q1, l1.trans q2, q3, q4, q5⟩

/-- What a function hands back may be closed behind it. -/
theorem HCalls.sealOut {P : Program} {f : FuncId} {args : List HV} {h : HH} {Q : HV → HH → Prop} (k : HCalls P f args h fun v h' => Q (sealT v h').1 (sealT v h').2) : HCalls P f args h Q := by
  refine ⟨k.1, fun Fr g w cargs r hs ha => (k.2 Fr g w cargs r hs ha).mono ?_⟩
  rintro e w' ⟨cv, v, h', g', rfl, q1, q2, q3, q4, q5⟩
  obtain ⟨g2, l2, v2, r2⟩ := sealT_sound q4 q3
  exact ⟨cv, _, _, g2, rfl, q1, q2.trans l2, v2, r2, q5⟩

end Go.H
