/- The theorem on a region that draws its order. -/
import Derived.Test.YtclolaieehmgmaaGreatHDraw3
set_option linter.unusedVariables false
set_option linter.unusedSimpArgs false
namespace Go.H

section
variable {P : Program} {ops : Array Oper} {nt : Nat} {Fr : Nat → Prop} {g0 : Ghost} {w0 : World} {L : Nat → Prop} {tmps : Array Value} {w : World}

theorem scan_inv (ssa : ssaOk ops = true) {K : List (Nat × Oper) → Env → HH → List Pr → Prop} : ∀ (l : List (Nat × Oper)) (pend : List Nat) (Da : List (Nat × Oper)) {T : Env} {h : HH} {g : Ghost} {prs : List Pr},
    (∀ x, pend.contains x = (Da.map (·.1)).contains x) → hscan P nt (ops.toList.map (·.dst)) l pend Da T h prs K → Inv P ops nt Fr g0 w0 L (Da.reverse ++ l) T h g prs tmps w →
    ∃ D' T' h' g' prs', K D' T' h' prs' ∧ Inv P ops nt Fr g0 w0 L D' T' h' g' prs' tmps w
  | [], pend, Da, T, h, g, prs, hp, hs, v => ⟨_, T, h, g, prs, hs, by simpa using v⟩
  | p :: l, pend, Da, T, h, g, prs, hp, hs, v => by
    have hrev : (dep p.2).any ((Da.reverse).map (·.1)).contains = (dep p.2).any pend.contains := by
      congr 1; funext x; rw [hp x]; simp
    have push : ∀ {T : Env}, hscan P nt (ops.toList.map (·.dst)) l (p.1 :: pend) (p :: Da) T h prs K → Inv P ops nt Fr g0 w0 L (Da.reverse ++ p :: l) T h g prs tmps w → ∃ D' T' h' g' prs', K D' T' h' prs' ∧ Inv P ops nt Fr g0 w0 L D' T' h' g' prs' tmps w := by
      intro T hs v
      refine scan_inv ssa l (p.1 :: pend) (p :: Da) (fun x => ?_) hs (by simpa using v)
      have := hp x
      simp only [List.contains_cons, List.map_cons, this]
    simp only [hscan] at hs
    split at hs
    · exact push hs v
    · rename_i hdp
      have hd2 : (dep p.2).any ((Da.reverse).map (·.1)).contains = false := by rw [hrev]; simpa using hdp
      split at hs
      · rename_i hg
        split at hs
        · exact push hs v
        · rename_i he
          obtain ⟨T', h', g', prs', k1, k2⟩ := hne_process (K := fun T' h' prs' => hscan P nt (ops.toList.map (·.dst)) l pend Da T' h' prs' K) v ssa hd2 (by simpa using he) (.inl hg) hs
          exact scan_inv ssa l pend Da hp k1 k2
      · rename_i q hg
        split at hs
        · rename_i d hd
          split at hs
          · rename_i b hb
            by_cases hbq : b = q.2
            · have v' := v.congrT (get_push T d (.bool q.2) (by rw [hb, hbq]))
              have hs' := hs.1 hbq
              split at hs'
              · exact push hs' v'
              · rename_i he
                obtain ⟨T', h', g', prs', k1, k2⟩ := hne_process (K := fun T' h' prs' => hscan P nt (ops.toList.map (·.dst)) l pend Da T' h' prs' K) v' ssa hd2 (by simpa using he) (.inr ⟨q, d, hg, hd, by simp [Env.get]⟩) hs'
                exact scan_inv ssa l pend Da hp k1 k2
            · have hbn : b = !q.2 := by cases b <;> cases hq : q.2 <;> simp_all
              have v' := v.congrT (get_push T d (.bool !q.2) (by rw [hb, hbn]))
              have hs' := (hbind_iff (hs.2 hbn)).1
              exact scan_inv ssa l pend Da hp hs' (skip_process v' ssa hd2 hg hd (.inl (by simp [Env.get])))
          · rename_i hb
            exact scan_inv ssa l pend Da hp (hbind_iff hs).1 (skip_process v ssa hd2 hg hd (.inr hb))
          · exact hs.elim
        · exact hs.elim

/-- what leads to an operation is behind us, but for itself -/
theorem anc_listed {L : Nat → Prop} (hL : ∀ i o, ops[i]? = some o → L i → ∀ d ∈ dep o, L d) {i : Nat} {o : Oper} (ho : ops[i]? = some o) (hr : ∀ d ∈ dep o, L d) :
    ∀ (k : Nat) (S : List Nat), (∀ j ∈ S, j = i ∨ L j) → ∀ j ∈ anc (ops.toList.map dep) k S, j = i ∨ L j
  | 0, S, hS => hS
  | k + 1, S, hS => by
    simp only [anc]
    refine anc_listed hL ho hr k _ fun j hj => ?_
    split at hj
    · rename_i hc
      rcases List.mem_append.1 hj with h | h
      · exact hS j h
      · rw [List.getD_eq_getElem?_getD, List.getElem?_map] at h
        cases hk : ops.toList[k]? with
        | none => rw [hk] at h; simp at h
        | some u =>
          rw [hk] at h
          have hk' : ops[k]? = some u := by simpa using hk
          simp only [Option.map_some, Option.getD_some] at h
          rcases hS k (by simpa using hc) with rfl | hlk
          · rw [ho] at hk'; cases hk'; exact .inr (hr j h)
          · exact .inr (hL k u hk' hlk j h)
    · exact hS j hj

def Lof (listed : Array Bool) : Nat → Prop := fun i => listed[i]? = some true

theorem Lof_set {listed : Array Bool} {i : Nat} (hi : i < listed.size) (j : Nat) : Lof (listed.setIfInBounds i true) j ↔ j = i ∨ Lof listed j := by
  unfold Lof
  by_cases h : j = i
  · subst h; simp [hi]
  · rw [Array.getElem?_setIfInBounds_ne (by omega)]; simp [h]

theorem ready_iff {listed : Array Bool} (hs : listed.size = ops.size) {i : Nat} (hi : i ∈ Region.ready .any ops listed) :
    ∃ o, ops[i]? = some o ∧ ¬ Lof listed i ∧ i < listed.size ∧ ∀ d ∈ dep o, Lof listed d := by
  simp only [Region.ready, List.mem_filter, List.mem_range, Bool.and_eq_true, Bool.not_eq_true'] at hi
  obtain ⟨h1, h2, h3⟩ := hi
  have ho : ops[i]? = some ops[i] := Array.getElem?_eq_getElem h1
  refine ⟨_, ho, fun hl => ?_, by omega, fun d hd => ?_⟩
  · unfold Lof at hl
    rw [Array.getD_eq_getD_getElem?, hl] at h2; simp at h2
  · rw [ho] at h3
    simp only [Option.map_some, Option.getD_some, Array.all_eq_true', Bool.or_eq_true, Bool.not_eq_true'] at h3
    obtain ⟨e, he, rfl⟩ := List.mem_map.1 hd
    rw [List.mem_filter] at he
    have := h3 e (by simpa using he.1)
    rcases this with h | h
    · rw [he.2] at h; cases h
    · unfold Lof
      rw [Array.getD_eq_getD_getElem?] at h
      cases hq : listed[e.on]? with
      | none => rw [hq] at h; cases h
      | some b => rw [hq] at h; simp at h; rw [h]

theorem ready_some {listed : Array Bool} (hs : listed.size = ops.size) (ssa : ssaOk ops = true) : ∀ (n i : Nat) (o : Oper), i < n → ops[i]? = some o → ¬ Lof listed i → Region.ready .any ops listed ≠ []
  | 0, i, o, hn, _, _ => by omega
  | n + 1, i, o, hn, ho, hl => by
    by_cases hall : ∀ d ∈ dep o, Lof listed d
    · have hi : i < ops.size := (Array.getElem?_eq_some_iff.1 ho).1
      have hm : i ∈ Region.ready .any ops listed := by
        simp only [Region.ready, List.mem_filter, List.mem_range, Bool.and_eq_true, Bool.not_eq_true']
        refine ⟨hi, ?_, ?_⟩
        · have hls : listed[i]? = some listed[i] := Array.getElem?_eq_getElem (by omega)
          rw [Array.getD_eq_getD_getElem?, hls]
          cases hb : listed[i] with
          | false => rfl
          | true => exact absurd (by unfold Lof; rw [hls, hb]) hl
        · rw [ho]
          simp only [Option.map_some, Option.getD_some, Array.all_eq_true', Bool.or_eq_true, Bool.not_eq_true']
          intro e he
          cases hb : Region.binds .any e with
          | false => exact .inl rfl
          | true =>
            refine .inr ?_
            have := hall e.on (List.mem_map.2 ⟨e, List.mem_filter.2 ⟨by simpa using he, hb⟩, rfl⟩)
            unfold Lof at this
            rw [Array.getD_eq_getD_getElem?, this]; rfl
      exact fun h => by rw [h] at hm; cases hm
    · have ⟨d, hd, hdl⟩ : ∃ d ∈ dep o, ¬ Lof listed d := by
        rcases Classical.em (∃ d ∈ dep o, ¬ Lof listed d) with h | h
        · exact h
        · exact absurd (fun d hd => Classical.byContradiction fun hn => h ⟨d, hd, hn⟩) hall
      have hlt := ssa_dep ssa ho d hd
      have hds : d < ops.size := Nat.lt_trans hlt (Array.getElem?_eq_some_iff.1 ho).1
      exact ready_some hs ssa n d _ (by omega) (Array.getElem?_eq_getElem hds) hdl

def unlisted (listed : Array Bool) : Nat := listed.toList.count false

theorem unlisted_set {listed : Array Bool} {i : Nat} (hi : i < listed.size) (hl : ¬ Lof listed i) : unlisted (listed.setIfInBounds i true) + 1 = unlisted listed := by
  have hf : listed.toList[i]'(by simpa using hi) = false := by
    cases hb : listed[i] with
    | false => simpa using hb
    | true => exact absurd (by unfold Lof; rw [Array.getElem?_eq_getElem hi, hb]) hl
  unfold unlisted
  rw [Array.toList_setIfInBounds, List.count_set (by simpa using hi)]
  have hpos : 0 < listed.toList.count false := List.count_pos_iff.2 (by rw [← hf]; exact List.getElem_mem _)
  simp only [hf, beq_self_eq_true, if_true]
  have : (true == false) = false := rfl
  simp only [this, Bool.false_eq_true, if_false]
  omega
end

end Go.H
