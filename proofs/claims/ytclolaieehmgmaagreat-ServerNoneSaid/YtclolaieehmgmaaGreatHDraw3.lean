/- The state of a region that draws its order, and its steps. -/
import Derived.Test.YtclolaieehmgmaaGreatHDraw2
set_option linter.unusedVariables false
set_option linter.unusedSimpArgs false
namespace Go.H

structure Inv (P : Program) (ops : Array Oper) (nt : Nat) (Fr : Nat → Prop) (g0 : Ghost) (w0 : World) (L : Nat → Prop) (D : List (Nat × Oper)) (T : Env) (h : HH) (g : Ghost) (prs : List Pr) (tmps : Array Value) (w : World) : Prop where
  gle : g0.le g
  kept : Kept Fr w0 w
  rel : Rel P Fr g h w
  size : tmps.size = nt
  sorted : D.Pairwise (fun a b => a.1 < b.1)
  ofops : ∀ p ∈ D, ops[p.1]? = some p.2
  ndl : ∀ p ∈ D, ¬ L p.1
  lcl : ∀ i o, ops[i]? = some o → L i → ∀ d ∈ dep o, L d
  un : ∀ i o, ops[i]? = some o → ¬ L i → (∀ u, (i, u) ∉ D) → Un P (ops.toList.map (·.dst)) D T h g prs i o
  env : ∀ k, (∀ i o, ops[i]? = some o → o.dst = some k → L i ∨ (i, o) ∈ D) → VR g (T.get k) (tmps.getD k undef)
  prx : ∀ i x ob, Pr.obj i x ob ∈ prs → g0.nx ≤ x ∧ x < g.nx
  uniqx : ∀ i j x ob ob', Pr.obj i x ob ∈ prs → Pr.obj j x ob' ∈ prs → i = j

section
variable {P : Program} {ops : Array Oper} {nt : Nat} {Fr : Nat → Prop} {g0 : Ghost} {w0 : World} {L : Nat → Prop} {D : List (Nat × Oper)} {T : Env} {h : HH} {g : Ghost} {prs : List Pr} {tmps : Array Value} {w : World}

theorem Inv.congrT (v : Inv P ops nt Fr g0 w0 L D T h g prs tmps w) {T' : Env} (ht : ∀ k, T'.get k = T.get k) : Inv P ops nt Fr g0 w0 L D T' h g prs tmps w :=
  { v with
    un := fun i o a b c => (v.un i o a b c).later (fun p hp => ⟨_, hp⟩) (fun t _ => ht t) (fun p hp => hp) (fun p _ _ hk => hk) (fun x _ hx _ => hx) (Nat.le_refl _)
    env := fun k hk => by rw [ht k]; exact v.env k hk }

theorem get_push (T : Env) (d : Nat) (x : HV) (hd : T.get d = x) : ∀ k, Env.get ((d, x) :: T) k = T.get k := by
  intro k
  simp only [Env.get]
  split
  · rename_i e; subst e; exact hd.symm
  · rfl

theorem get_cons_ne (T : Env) {d k : Nat} (x : HV) (hk : k ≠ d) : Env.get ((d, x) :: T) k = T.get k := by
  simp only [Env.get]; rw [if_neg hk]

def bindT (T : Env) (dst : Option Tmp) (v : HV) : Env := match dst with | none => T | some d => (d, v) :: T

theorem hbind_iff {dst : Option Tmp} {v : HV} {K : Env → Prop} (hb : hbind nt dst v T K) : K (bindT T dst v) ∧ ∀ d, dst = some d → d < nt := by
  unfold hbind at hb
  split at hb
  · exact ⟨hb, fun d e => by cases e⟩
  · exact ⟨hb.2, fun d e => by cases e; exact hb.1⟩

theorem bindT_get {dst : Option Tmp} {v : HV} {k : Nat} (hk : dst ≠ some k) : (bindT T dst v).get k = T.get k := by
  unfold bindT
  split
  · rfl
  · rename_i d
    exact get_cons_ne T v (fun e => hk (by rw [e]))

theorem guard_looks {o : Oper} {q : Nat × Bool} {d : Tmp} (h1 : o.guard = some q) (h2 : gslot (ops.toList.map (·.dst)) q.1 = some d) : d ∈ o.looksAt ops := by
  simp only [Oper.looksAt, h1]
  refine List.mem_append.2 (.inr ?_)
  unfold gslot at h2
  rw [List.getElem?_map] at h2
  have : ops.toList[q.1]? = ops[q.1]? := by simp
  rw [this] at h2
  cases ho : ops[q.1]? with
  | none => rw [ho] at h2; cases h2
  | some y =>
    rw [ho] at h2
    have : y.dst = some d := by simpa using h2
    simp [this]

theorem hcells_set {h : HH} {x : Nat} (hx : h x = none) (ob : HObj) {p : HV} {q : List HV × Nat} (hp : hcells h p = some q) : hcells (h.new x ob) p = some q := by
  unfold hcells at hp ⊢
  split at hp
  · rename_i y o
    have : y ≠ x := by rintro rfl; rw [hx] at hp; cases hp
    rw [HH.new_ne _ _ this]; exact hp
  · exact hp
  · rename_i y n i o
    have : y ≠ x := by rintro rfl; rw [hx] at hp; cases hp
    rw [HH.new_ne _ _ this]; exact hp
  · cases hp

theorem HRead.ok_set {h : HH} {x : Nat} (hx : h x = none) (ob : HObj) {q : HRead} {v : HV} (hk : q.ok P h v) : q.ok P (h.new x ob) v := by
  cases q with
  | load t p =>
    simp only [HRead.ok] at hk ⊢
    split at hk
    · rename_i q hq
      rw [hcells_set hx ob hq]; exact hk
    · exact hk.elim
  | mlen t m =>
    simp only [HRead.ok] at hk ⊢
    unfold hlen at hk ⊢
    split at hk
    · exact hk
    · exact hk
    · exact hk
    · exact hk
    · rename_i y
      have hk2 := hk.2
      have : y ≠ x := by rintro rfl; rw [hx] at hk2; exact hk2
      simp only [HH.new_ne _ _ this]; exact hk
    · exact hk.elim
  | look t m k ok =>
    simp only [HRead.ok] at hk ⊢
    unfold hlookup at hk ⊢
    obtain ⟨h1, h2, h3⟩ := hk
    refine ⟨h1, h2, ?_⟩
    split at h3
    · rename_i y s _
      have : y ≠ x := by rintro rfl; have h4 := h3.2; rw [hx] at h4; exact h4
      simp only [HH.new_ne _ _ this]; exact h3
    · exact h3.elim

theorem Pr.ok_set {h : HH} {x : Nat} {ob : HObj} {r : Pr} (hn : ∀ i y cs, r = .obj i y cs → y ≠ x) (hx : h x = none) (hk : r.ok P h) : r.ok P (h.new x ob) := by
  cases r with
  | rd i q v => exact HRead.ok_set hx ob hk
  | obj i y cs =>
    simp only [Pr.ok] at hk ⊢
    rw [HH.new_ne _ _ (hn i y cs rfl)]; exact hk

/-- One operation is taken off the list and computed at the layer alone. -/
theorem Inv.process {Da l : List (Nat × Oper)} {p : Nat × Oper} (v : Inv P ops nt Fr g0 w0 L (Da ++ p :: l) T h g prs tmps w) (ssa : ssaOk ops = true)
    (hdep : (dep p.2).any (Da.map (·.1)).contains = false) (hsk : isAssign p.2.op = false ∨ p.2.guard ≠ none) {x : HV} {h' : HH} {g' : Ghost} {pr : List Pr}
    (hl : g.le g') (hr : Rel P Fr g' h' w) (hok : ∀ r ∈ prs, r.ok P h → r.ok P h') (hpr : ∀ i y cs, Pr.obj i y cs ∈ pr → i = p.1 ∧ g.nx ≤ y ∧ y < g'.nx ∧ ∀ j cs', Pr.obj j y cs' ∈ pr → j = i)
    (hun : ∀ D', (∀ d ∈ dep p.2, ∀ u, (d, u) ∉ D') → Un P (ops.toList.map (·.dst)) D' (bindT T p.2.dst x) h' g' (pr ++ prs) p.1 p.2) :
    Inv P ops nt Fr g0 w0 L (Da ++ l) (bindT T p.2.dst x) h' g' (pr ++ prs) tmps w := by
  have hpD : p ∈ Da ++ p :: l := by simp
  have hpo := v.ofops p hpD
  have hpL := v.ndl p hpD
  have hs := v.sorted
  rw [List.pairwise_append, List.pairwise_cons] at hs
  obtain ⟨s1, ⟨s2, s3⟩, s4⟩ := hs
  have hsub : ∀ q ∈ Da ++ l, q ∈ Da ++ p :: l := fun q hq => by
    rcases List.mem_append.1 hq with h | h
    · exact List.mem_append.2 (.inl h)
    · exact List.mem_append.2 (.inr (List.mem_cons_of_mem _ h))
  have hpn : ∀ u, (p.1, u) ∉ Da ++ l := fun u hu => by
    rcases List.mem_append.1 hu with h | h
    · have := s4 _ h p (by simp); simp at this
    · have := s2 _ h; simp at this
  refine ⟨v.gle.trans hl, v.kept, hr, v.size, ?_, fun q hq => v.ofops q (hsub q hq), fun q hq => v.ndl q (hsub q hq), v.lcl, fun i o ho hL hD => ?_, fun k hk => ?_, fun i y cs hm => ?_, fun i j y cs cs' h1 h2 => ?_⟩
  · rw [List.pairwise_append]
    exact ⟨s1, s3, fun a ha b hb => s4 a ha b (by simp [hb])⟩
  · by_cases hi : i = p.1
    · subst hi
      rw [hpo] at ho
      cases ho
      refine hun _ fun d hd u hu => ?_
      rcases List.mem_append.1 hu with h | h
      · have : (dep p.2).any (Da.map (·.1)).contains = true := List.any_eq_true.2 ⟨d, hd, by simp only [List.contains_iff_mem]; exact List.mem_map.2 ⟨_, h, rfl⟩⟩
        rw [this] at hdep; cases hdep
      · have h1 := s2 _ h
        have h2 := ssa_dep ssa hpo d hd
        simp only at h1; omega
    · have hD1 : ∀ u, (i, u) ∉ Da ++ p :: l := fun u hu => by
        rcases List.mem_append.1 hu with h | h
        · exact hD u (List.mem_append.2 (.inl h))
        · rcases List.mem_cons.1 h with h | h
          · exact hi (by rw [← h])
          · exact hD u (List.mem_append.2 (.inr h))
      have hu := v.un i o ho hL hD1
      refine hu.later (fun q hq => ⟨_, hsub q hq⟩) (fun t ht => ?_) (fun q hq => List.mem_append.2 (.inr hq)) (fun q hq _ hk => hok q hq hk) (fun y hy hg _ => hl.free hy hg) hl.nx
      refine bindT_get fun hd => ?_
      obtain ⟨e1, e2⟩ := ssa_dst ssa hpo ho hi hd
      rcases List.mem_append.1 ht with ht | ht
      · rcases e2 ht with ⟨_, hdp⟩ | ⟨_, ha, hg, _⟩
        · exact hu.deps _ hdp p.2 hpD
        · rcases hsk with hsk | hsk
          · rw [ha] at hsk; cases hsk
          · exact hsk hg
      · exact e1 (by simpa using ht)
  · have hkd : p.2.dst ≠ some k := fun e => by
      rcases hk p.1 p.2 hpo e with h | h
      · exact hpL h
      · exact hpn _ h
    rw [bindT_get hkd]
    exact (v.env k fun i o ho hd => (hk i o ho hd).imp id (hsub _)).mono hl
  · rcases List.mem_append.1 hm with h | h
    · obtain ⟨_, q1, q2, _⟩ := hpr i y cs h
      exact ⟨Nat.le_trans v.gle.nx q1, q2⟩
    · obtain ⟨q1, q2⟩ := v.prx i y cs h
      exact ⟨q1, Nat.lt_of_lt_of_le q2 hl.nx⟩
  · rcases List.mem_append.1 h1 with a1 | a1
    · rcases List.mem_append.1 h2 with a2 | a2
      · exact ((hpr i y cs a1).2.2.2 j cs' a2).symm
      · have := (v.prx j y cs' a2).2; have := (hpr i y cs a1).2.1; omega
    · rcases List.mem_append.1 h2 with a2 | a2
      · have := (v.prx i y cs a1).2; have := (hpr j y cs' a2).2.1; omega
      · exact v.uniqx i j y cs cs' a1 a2

theorem hne_process {Da l : List (Nat × Oper)} {p : Nat × Oper} (v : Inv P ops nt Fr g0 w0 L (Da ++ p :: l) T h g prs tmps w) (ssa : ssaOk ops = true)
    (hdep : (dep p.2).any (Da.map (·.1)).contains = false) (he : eff p.2.op = false) (hgd : p.2.guard = none ∨ ∃ q d, p.2.guard = some q ∧ gslot (ops.toList.map (·.dst)) q.1 = some d ∧ T.get d = .bool q.2)
    {K : Env → HH → List Pr → Prop} (hk : hne P p.1 p.2.op (hev T) h fun x h' pr => hbind nt p.2.dst x T fun T' => K T' h' (pr ++ prs)) :
    ∃ T' h' g' prs', K T' h' prs' ∧ Inv P ops nt Fr g0 w0 L (Da ++ l) T' h' g' prs' tmps w := by
  have hpo := v.ofops p (by simp)
  have hna : isAssign p.2.op = false := by
    cases ho : p.2.op <;> first | rfl | (rw [ho] at he; simp [eff] at he)
  have hlook : ∀ x, ∀ t ∈ p.2.looksAt ops, (bindT T p.2.dst x).get t = T.get t := fun x t ht => bindT_get fun e => ssa_own ssa hpo (.inl hna) e ht
  have hself : ∀ x d, p.2.dst = some d → (bindT T p.2.dst x).get d = x := fun x d hd => by rw [hd]; simp [bindT, Env.get]
  have hguard : ∀ x, p.2.guard = none ∨ ∃ q d, p.2.guard = some q ∧ gslot (ops.toList.map (·.dst)) q.1 = some d ∧ (bindT T p.2.dst x).get d = .bool q.2 := fun x => by
    rcases hgd with h | ⟨q, d, h1, h2, h3⟩
    · exact .inl h
    · refine .inr ⟨q, d, h1, h2, ?_⟩
      rw [hlook x d (guard_looks h1 h2)]; exact h3
  rcases hne_cases he hk with ⟨x, k1, k2⟩ | ⟨q, x, e1, e2, k1⟩ | ⟨ob, f, e1, k1⟩
  · have hb := (hbind_iff k1).1
    refine ⟨_, h, g, _, hb, v.process ssa hdep (.inl hna) (Ghost.le.refl g) v.rel (fun _ _ hk => hk) (by simp) fun D' hd => ⟨hd, .inl ⟨x, he, hself x, hguard x, .pure fun k => ?_⟩⟩⟩
    rw [← hop_congr (hev_agree (hlook x))]; exact k2 k
  · have hb := (hbind_iff k1).1
    refine ⟨_, h, g, _, hb, v.process ssa hdep (.inl hna) (Ghost.le.refl g) v.rel (fun _ _ hk => hk) (by simp) fun D' hd => ⟨hd, .inl ⟨_, he, hself _, hguard _, ?_⟩⟩⟩
    exact .rd q (by rw [← opRead_congr (hev_agree (hlook _))]; exact e1) (by simp) e2
  · obtain ⟨r1, r2, r3, r4⟩ := v.rel.raise.2.reserve ob
    have hb := (hbind_iff (k1 r1)).1
    refine ⟨_, _, _, _, hb, v.process ssa hdep (.inl hna) (v.rel.raise.1.trans r2) r4 (fun r hr hk => ?_) (fun i y cs' hm => ?_) fun D' hd => ⟨hd, .inl ⟨_, he, hself _, hguard _, ?_⟩⟩⟩
    · exact Pr.ok_set (fun i y cs' e => by subst e; exact Nat.ne_of_lt (Nat.lt_of_lt_of_le (v.prx i y cs' hr).2 v.rel.sup)) r1 hk
    · simp only [List.mem_singleton, Pr.obj.injEq] at hm
      obtain ⟨rfl, rfl, rfl⟩ := hm
      refine ⟨rfl, v.rel.sup, Nat.lt_succ_self _, fun j cs' hm => ?_⟩
      simp only [List.mem_singleton, Pr.obj.injEq] at hm
      exact hm.1
    · exact .obj h.nx ob f rfl (by simp) (HH.new_same _ _ _) r3 (Nat.lt_succ_self _) (AC_congr (hev_agree (hlook _)) e1)

theorem skip_process {Da l : List (Nat × Oper)} {p : Nat × Oper} (v : Inv P ops nt Fr g0 w0 L (Da ++ p :: l) T h g prs tmps w) (ssa : ssaOk ops = true)
    (hdep : (dep p.2).any (Da.map (·.1)).contains = false) {q : Nat × Bool} {d : Tmp} (h1 : p.2.guard = some q) (h2 : gslot (ops.toList.map (·.dst)) q.1 = some d) (h3 : T.get d = .bool (!q.2) ∨ T.get d = .tup []) :
    Inv P ops nt Fr g0 w0 L (Da ++ l) (bindT T p.2.dst (.tup [])) h g prs tmps w := by
  have hne : p.2.dst ≠ some d := fun e => ssa_own ssa (v.ofops p (by simp)) (.inr (by rw [h1]; simp)) e (guard_looks h1 h2)
  have := v.process ssa hdep (.inr (by rw [h1]; simp)) (x := .tup []) (pr := []) (Ghost.le.refl g) v.rel (fun _ _ hk => hk) (by simp) fun D' hd => ⟨hd, .inr ⟨q, d, h1, h2, by rw [bindT_get hne]; exact h3, fun d hd => by rw [hd]; simp [bindT, Env.get]⟩⟩
  exact this
end

end Go.H
