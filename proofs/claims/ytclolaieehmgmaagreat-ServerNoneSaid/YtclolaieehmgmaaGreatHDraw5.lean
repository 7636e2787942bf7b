/- Every order of a region that draws comes to what the layer says. -/
import Derived.Test.YtclolaieehmgmaaGreatHDraw4
set_option linter.unusedVariables false
set_option linter.unusedSimpArgs false
namespace Go.H

theorem prune_get (T : Env) (ks : List Nat) (k : Nat) : (T.prune ks).get k = if k ∈ ks then T.get k else .any := by
  induction ks with
  | nil => simp [Env.prune, Env.get]
  | cons x ks ih =>
    simp only [Env.prune, List.map_cons, Env.get, List.mem_cons]
    by_cases h : k = x
    · subst h; simp
    · simp only [h, if_false, false_or]; exact ih

section
variable {P : Program} {ops : Array Oper} {nt : Nat} {Fr : Nat → Prop} {g0 : Ghost} {w0 : World} {L : Nat → Prop} {D : List (Nat × Oper)} {T : Env} {h : HH} {g : Ghost} {prs : List Pr} {tmps : Array Value} {w : World}

/-- What a ready operation looks at is there. -/
theorem Inv.looks (v : Inv P ops nt Fr g0 w0 L D T h g prs tmps w) (ssa : ssaOk ops = true) {i : Nat} {o : Oper} (ho : ops[i]? = some o) (hr : ∀ d ∈ dep o, L d) (hi : (i, o) ∈ D ∨ isAssign o.op = false ∨ o.guard ≠ none) :
    ∀ t ∈ o.looksAt ops, VR g (T.get t) (tmps.getD t undef) := by
  intro t ht
  refine v.env t fun j u hu hd => ?_
  by_cases hj : j = i
  · subst hj
    rw [ho] at hu; cases hu
    rcases hi with hi | hi
    · exact .inr hi
    · exact absurd ht (ssa_own ssa ho hi hd)
  · rcases (ssa_dst ssa hu ho (fun e => hj e.symm) hd).2 ht with ⟨_, h1⟩ | ⟨_, h1, h2, _⟩
    · exact .inl (hr j h1)
    · rcases Classical.em (L j) with hL | hL
      · exact .inl hL
      · rcases Classical.em (∃ u', (j, u') ∈ D) with ⟨u', hD⟩ | hD
        · have := v.ofops _ hD
          simp only at this
          rw [hu] at this; cases this; exact .inr hD
        · exfalso
          have hun := v.un j u hu hL (fun u' h' => hD ⟨u', h'⟩)
          rcases hun.what with ⟨_, h3, _⟩ | ⟨p, d, h3, _⟩
          · cases hop : u.op <;> rw [hop] at h1 <;> first | (simp [isAssign] at h1; done) | (rw [hop] at h3; simp [eff] at h3)
          · rw [h2] at h3; cases h3

theorem Inv.envL (v : Inv P ops nt Fr g0 w0 L D T h g prs tmps w) (ssa : ssaOk ops = true) {i : Nat} {o : Oper} (ho : ops[i]? = some o) (hr : ∀ d ∈ dep o, L d) (hi : (i, o) ∈ D ∨ isAssign o.op = false ∨ o.guard ≠ none) :
    EnvR g (T.prune (o.looksAt ops)) tmps ∧ ∀ x ∈ o.op.operands.toList, hev T x = hev (T.prune (o.looksAt ops)) x := by
  refine ⟨fun k => ?_, hev_agree fun t ht => by rw [prune_get, if_pos ht]⟩
  rw [prune_get]
  split
  · rename_i hk; exact v.looks ssa ho hr hi k hk
  · exact .any _

/-- Behind an operation that was computed before: the model has it too. -/
theorem Inv.catch (v : Inv P ops nt Fr g0 w0 L D T h g prs tmps w) {i : Nat} {o : Oper} (ho : ops[i]? = some o) (hnL : ¬ L i) (hr : ∀ d ∈ dep o, L d) (hnD : ∀ u, (i, u) ∉ D) (ssa : ssaOk ops = true) {g' : Ghost} {w' : World} {cv : Value}
    (hw : g.wle g') (hg0 : g0.le g') (hk : Kept Fr w w') (hrel : Rel P Fr g' h w') (hv : ∀ d, o.dst = some d → VR g' (T.get d) cv)
    (hnames : ∀ x j, j ≠ i → x < g.nx → g.free x → (∃ ob, Pr.obj j x ob ∈ prs) → g'.free x) (hdn : ∀ d, o.dst = some d → d < nt) :
    ∃ tmps', (⟨tmps, []⟩ : Act).put o.dst cv = ⟨tmps', []⟩ ∧ Inv P ops nt Fr g0 w0 (fun j => j = i ∨ L j) D T h g' prs tmps' w' := by
  have mk : ∀ tmps' : Array Value, tmps'.size = nt → (∀ k, o.dst ≠ some k → tmps'.getD k undef = tmps.getD k undef) → (∀ k, o.dst = some k → tmps'.getD k undef = cv) → Inv P ops nt Fr g0 w0 (fun j => j = i ∨ L j) D T h g' prs tmps' w' := by
    intro tmps' hs h1 h2
    refine ⟨hg0, v.kept.trans hk, hrel, hs, v.sorted, v.ofops, fun p hp hl => ?_, fun j u hu hl d hd => ?_, fun j u hu hl hD => ?_, fun k hk' => ?_, fun j x cs hm => ?_, v.uniqx⟩
    · rcases hl with e | hl
      · exact hnD p.2 (by rw [← e]; exact hp)
      · exact v.ndl p hp hl
    · rcases hl with e | hl
      · subst e; rw [ho] at hu; cases hu; exact .inr (hr d hd)
      · exact .inr (v.lcl j u hu hl d hd)
    · have hji : j ≠ i := fun e => hl (.inl e)
      exact (v.un j u hu (fun h' => hl (.inr h')) hD).later (fun p hp => ⟨_, hp⟩) (fun t _ => rfl) (fun p hp => hp) (fun p _ _ hk => hk) (fun x hx hgx hm => hnames x j hji hx hgx hm) hw.nx
    · by_cases hd : o.dst = some k
      · rw [h2 k hd]; exact hv k hd
      · rw [h1 k hd]
        refine (v.env k fun j u hu hd' => ?_).wmono hw
        rcases hk' j u hu hd' with h' | h'
        · rcases h' with e | h'
          · subst e; rw [ho] at hu; cases hu; exact absurd hd' hd
          · exact .inl h'
        · exact .inr h'
    · obtain ⟨q1, q2⟩ := v.prx j x cs hm
      exact ⟨q1, Nat.lt_of_lt_of_le q2 hw.nx⟩
  cases hd : o.dst with
  | none => exact ⟨tmps, rfl, mk tmps v.size (fun _ _ => rfl) (fun k e => by rw [hd] at e; cases e)⟩
  | some d =>
    have hdl : d < tmps.size := by rw [v.size]; exact hdn d hd
    refine ⟨tmps.setIfInBounds d cv, rfl, mk _ (by simpa using v.size) (fun k hk' => ?_) (fun k e => ?_)⟩
    · have hne : d ≠ k := fun e => hk' (by rw [hd, e])
      simp only [Array.getD_eq_getD_getElem?]
      rw [Array.getElem?_setIfInBounds_ne hne]
    · rw [hd] at e; cases e
      simp [Array.getD_eq_getD_getElem?, hdl]

/-- Behind an operation that acts. -/
theorem Inv.act {p : Nat × Oper} {D' : List (Nat × Oper)} (v : Inv P ops nt Fr g0 w0 L (p :: D') T h g prs tmps w) (ssa : ssaOk ops = true) (hr : ∀ d ∈ dep p.2, L d) {x : HV} {cv : Value} {h' : HH} {g' : Ghost} {w' : World}
    (hl : g.le g') (hk : Kept Fr w w') (hrel : Rel P Fr g' h' w') (hv : VR g' x cv) (hok : ∀ r ∈ prs, r.idx ∈ ancs (ops.toList.map dep) p.1 ∨ r.ok P h') (hdn : ∀ d, p.2.dst = some d → d < nt) :
    ∃ tmps', (⟨tmps, []⟩ : Act).put p.2.dst cv = ⟨tmps', []⟩ ∧ Inv P ops nt Fr g0 w0 (fun j => j = p.1 ∨ L j) D' (bindT T p.2.dst x) h' g' prs tmps' w' := by
  have hpo := v.ofops p (by simp)
  have hs := v.sorted
  rw [List.pairwise_cons] at hs
  have hanc : ∀ j ∈ ancs (ops.toList.map dep) p.1, j = p.1 ∨ L j := anc_listed v.lcl hpo hr _ _ (by simp)
  have mk : ∀ tmps' : Array Value, tmps'.size = nt → (∀ k, p.2.dst ≠ some k → tmps'.getD k undef = tmps.getD k undef) → (∀ k, p.2.dst = some k → tmps'.getD k undef = cv) →
      Inv P ops nt Fr g0 w0 (fun j => j = p.1 ∨ L j) D' (bindT T p.2.dst x) h' g' prs tmps' w' := by
    intro tmps' hsz h1 h2
    refine ⟨v.gle.trans hl, v.kept.trans hk, hrel, hsz, hs.2, fun q hq => v.ofops q (by simp [hq]), fun q hq hL => ?_, fun j u hu hL d hd => ?_, fun j u hu hL hD => ?_, fun k hk' => ?_, fun j y cs hm => ?_, v.uniqx⟩
    · rcases hL with e | hL
      · have := hs.1 q hq; omega
      · exact v.ndl q (by simp [hq]) hL
    · rcases hL with e | hL
      · subst e; rw [hpo] at hu; cases hu; exact .inr (hr d hd)
      · exact .inr (v.lcl j u hu hL d hd)
    · have hji : j ≠ p.1 := fun e => hL (.inl e)
      have hnL : ¬ L j := fun h' => hL (.inr h')
      have hu' := v.un j u hu hnL (fun u' hm => by
        rcases List.mem_cons.1 hm with e | hm
        · exact hji (by rw [← e])
        · exact hD u' hm)
      refine hu'.later (fun q hq => ⟨_, List.mem_cons_of_mem _ hq⟩) (fun t ht => ?_) (fun r hr => hr) (fun r hr hi hk => ?_) (fun y hy hg _ => hl.free hy hg) hl.nx
      · refine bindT_get fun hd => ?_
        obtain ⟨e1, e2⟩ := ssa_dst ssa hpo hu hji hd
        rcases List.mem_append.1 ht with ht | ht
        · rcases e2 ht with ⟨_, hdp⟩ | ⟨_, _, _, hdp⟩
          · exact hu'.deps _ hdp p.2 (by simp)
          · exact hnL (hr j hdp)
        · exact e1 (by simpa using ht)
      · rcases hok r hr with h' | h'
        · rcases hanc _ h' with e | e
          · exact absurd (hi.symm.trans e) hji
          · rw [hi] at e; exact absurd e hnL
        · exact h'
    · by_cases hd : p.2.dst = some k
      · rw [h2 k hd, hd]; simp only [bindT, Env.get, if_true]; exact hv
      · rw [h1 k hd, bindT_get hd]
        refine (v.env k fun j u hu hd' => ?_).mono hl
        rcases hk' j u hu hd' with h' | h'
        · rcases h' with e | h'
          · subst e; rw [hpo] at hu; cases hu; exact absurd hd' hd
          · exact .inl h'
        · exact .inr (List.mem_cons_of_mem _ h')
    · obtain ⟨q1, q2⟩ := v.prx j y cs hm
      exact ⟨q1, Nat.lt_of_lt_of_le q2 hl.nx⟩
  obtain ⟨i, o⟩ := p
  cases hd : o.dst with
  | none =>
    have r := mk tmps v.size (fun _ _ => rfl) (fun k e => by simp only [hd] at e; cases e)
    simp only [hd] at r
    exact ⟨tmps, rfl, r⟩
  | some d =>
    have hdl : d < tmps.size := by rw [v.size]; exact hdn d hd
    have r := mk (tmps.setIfInBounds d cv) (by simpa using v.size) (fun k hk' => by
      have hne : d ≠ k := fun e => hk' (by rw [← e]; exact hd)
      simp only [Array.getD_eq_getD_getElem?]
      rw [Array.getElem?_setIfInBounds_ne hne]) (fun k e => by
      simp only [hd] at e; cases e
      simp [Array.getD_eq_getD_getElem?, hdl])
    simp only [hd] at r
    exact ⟨tmps.setIfInBounds d cv, rfl, r⟩

end

end Go.H
