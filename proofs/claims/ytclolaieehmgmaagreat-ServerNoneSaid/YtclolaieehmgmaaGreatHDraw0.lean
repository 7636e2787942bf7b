/- For regions that draw their order: what an operation leans on, and that its value is one. -/
import Derived.Test.YtclolaieehmgmaaGreatHWp
import Derived.Orders
set_option linter.unusedVariables false
set_option linter.unusedSimpArgs false
namespace Go.H

theorem hbin_det {op : BinOp} {a b : HV} {K : HV → Prop} (h : hbin op a b K) : ∃ v, K v ∧ ∀ K' : HV → Prop, K' v → hbin op a b K' := by
  unfold hbin at h ⊢
  split at h
  all_goals first
    | exact h.elim
    | exact ⟨_, h.2.2, fun K' k => ⟨h.1, h.2.1, k⟩⟩
    | exact ⟨_, h.2, fun K' k => ⟨h.1, k⟩⟩
    | exact ⟨_, h, fun K' k => k⟩

theorem hplace_det {v : HV} {k : Nat} {K : HV → Prop} (h : hplace v k K) : ∃ u, K u ∧ ∀ K' : HV → Prop, K' u → hplace v k K' := by
  unfold hplace at h ⊢
  split at h
  all_goals first | exact h.elim | exact ⟨_, h, fun K' k => k⟩

theorem helem_det {P : Program} {t : TypeId} {v i : HV} {K : HV → Prop} (h : helem P t v i K) : ∃ u, K u ∧ ∀ K' : HV → Prop, K' u → helem P t v i K' := by
  unfold helem at h ⊢
  split at h
  · exact ⟨_, h.2.2.2.2, fun K' k => ⟨h.1, h.2.1, h.2.2.1, h.2.2.2.1, k⟩⟩
  · exact ⟨_, h.2.2.2.2, fun K' k => ⟨h.1, h.2.1, h.2.2.1, h.2.2.2.1, k⟩⟩
  · exact ⟨_, h.2.2.2.2, fun K' k => ⟨h.1, h.2.1, h.2.2.1, h.2.2.2.1, k⟩⟩
  · exact ⟨_, h.2.2.2, fun K' k => ⟨h.1, h.2.1, h.2.2.1, k⟩⟩
  · exact h.elim

theorem hsliceB_det {lo hi : Option HV} {n : Nat} {K : Nat → Nat → Prop} (h : hsliceB lo hi n K) : ∃ l m, K l m ∧ ∀ K' : Nat → Nat → Prop, K' l m → hsliceB lo hi n K' := by
  unfold hsliceB at h ⊢
  split at h
  · exact ⟨_, _, h, fun K' k => k⟩
  · exact ⟨_, _, h.2.2, fun K' k => ⟨h.1, h.2.1, k⟩⟩
  · exact ⟨_, _, h.2.2, fun K' k => ⟨h.1, h.2.1, k⟩⟩
  · exact ⟨_, _, h.2.2.2, fun K' k => ⟨h.1, h.2.1, h.2.2.1, k⟩⟩
  · exact h.elim

theorem hpure_det {P : Program} {op : Op} {ρ : Operand → HV} {K : HV → Prop} (h : hpure P op ρ K) : ∃ v, K v ∧ ∀ K' : HV → Prop, K' v → hpure P op ρ K' := by
  unfold hpure at h ⊢
  cases op with
  | binOp bop t x y yt =>
    simp only at h ⊢
    split at h
    all_goals first
      | exact ⟨_, h.2, fun K' k => ⟨h.1, k⟩⟩
      | (split at h
         · exact ⟨_, h, fun K' k => k⟩
         · exact h.elim)
      | exact hbin_det h
  | fieldAddr t x f =>
    obtain ⟨u, h1, h2⟩ := hplace_det h.2
    exact ⟨u, h1, fun K' k => ⟨h.1, h2 K' k⟩⟩
  | indexAddr t x i =>
    obtain ⟨u, h1, h2⟩ := helem_det h.2
    exact ⟨u, h1, fun K' k => ⟨h.1, h2 K' k⟩⟩
  | slice t x lo hi mx =>
    simp only at h ⊢
    split at h
    · obtain ⟨l, m, h1, h2⟩ := hsliceB_det h.2
      exact ⟨_, h1, fun K' k => ⟨h.1, h2 _ k⟩⟩
    · obtain ⟨l, m, h1, h2⟩ := hsliceB_det h.2.2.2
      exact ⟨_, h1, fun K' k => ⟨h.1, h.2.1, h.2.2.1, h2 _ k⟩⟩
    · obtain ⟨q1, q2, q3, q4, q5⟩ := h
      split at q5
      · obtain ⟨l, m, h1, h2⟩ := hsliceB_det q5.2.2
        exact ⟨_, h1, fun K' k => ⟨q1, q2, q3, q4, q5.1, q5.2.1, h2 _ k⟩⟩
      · exact q5.elim
    · obtain ⟨l, m, h1, h2⟩ := hsliceB_det h.2
      exact ⟨_, h1, fun K' k => ⟨h.1, h2 _ k⟩⟩
    · obtain ⟨l, m, h1, h2⟩ := hsliceB_det h.2.2.2
      exact ⟨_, h1, fun K' k => ⟨h.1, h.2.1, h.2.2.1, h2 _ k⟩⟩
    · exact h.elim
  | pick c a b =>
    simp only at h ⊢
    split at h
    · exact ⟨_, h, fun K' k => k⟩
    · exact h.elim
  | field t x f =>
    simp only at h ⊢
    split at h
    · exact ⟨_, h.2.2, fun K' k => ⟨h.1, h.2.1, k⟩⟩
    · exact h.elim
  | typeAssert x xt a ok =>
    simp only at h ⊢
    split at h
    · exact ⟨_, h.2.2.2, fun K' k => ⟨h.1, h.2.1, h.2.2.1, k⟩⟩
    · exact h.elim
  | unOp u t x =>
    simp only at h ⊢
    split at h
    · exact ⟨_, h, fun K' k => k⟩
    · exact ⟨_, h, fun K' k => k⟩
    · exact ⟨_, h, fun K' k => k⟩
    · exact h.elim
  | _ =>
    simp only at h ⊢
    (repeat' split at h)
    all_goals first
      | exact h.elim
      | exact ⟨_, h, fun K' k => k⟩
      | exact ⟨_, h.2, fun K' k => ⟨h.1, k⟩⟩
      | exact ⟨_, h.2.2, fun K' k => ⟨h.1, h.2.1, k⟩⟩
      | exact ⟨_, h.2.2.2, fun K' k => ⟨h.1, h.2.1, h.2.2.1, k⟩⟩

theorem hfill_det {place : Nat → Option (Nat × Nat)} {ρ : Operand → HV} : ∀ (ps : List (Nat × Operand)) {cs : List HV} {K : List HV → Prop}, hfill place ρ ps cs K → ∃ r, K r ∧ hfill place ρ ps cs fun u => u = r
  | [], cs, K, h => ⟨cs, h, rfl⟩
  | p :: ps, cs, K, h => by
    simp only [hfill] at h ⊢
    split at h
    · obtain ⟨h1, h2, h3, h4⟩ := h
      obtain ⟨r, k1, k2⟩ := hfill_det ps h4
      exact ⟨r, k1, h1, h2, h3, k2⟩
    · exact h.elim

theorem hfill_congr {place : Nat → Option (Nat × Nat)} {ρ ρ' : Operand → HV} : ∀ (ps : List (Nat × Operand)) (h : ∀ p ∈ ps, ρ p.2 = ρ' p.2) {cs : List HV} {K : List HV → Prop}, hfill place ρ ps cs K = hfill place ρ' ps cs K
  | [], h, cs, K => rfl
  | p :: ps, h, cs, K => by
    simp only [hfill, h p (by simp)]
    split
    · rw [hfill_congr ps fun q hq => h q (by simp [hq])]
    · rfl

theorem map_congr_ops {l : List Operand} {ρ ρ' : Operand → HV} (h : ∀ x ∈ l, ρ x = ρ' x) : l.map ρ = l.map ρ' := List.map_congr_left h

theorem hop_congr {P : Program} {op : Op} {ρ ρ' : Operand → HV} {h : HH} {K : HV → HH → Prop} (he : ∀ x ∈ op.operands.toList, ρ x = ρ' x) : hop P op ρ h K = hop P op ρ' h K := by
  cases op with
  | makeFunc fn first cap =>
    have h1 : first.toList.map ρ = first.toList.map ρ' := map_congr_ops fun x hx => he x (by simp [Op.operands]; exact .inl (by simpa using hx))
    have h2 : cap.toList.map ρ = cap.toList.map ρ' := map_congr_ops fun x hx => he x (by simp [Op.operands]; exact .inr (by simpa using hx))
    simp only [hop, isPure, hpure, if_true, h1, h2]
  | build t parts =>
    have h1 : ∀ p ∈ parts.toList, ρ p.2 = ρ' p.2 := fun p hp => he _ (by simp only [Op.operands]; exact List.mem_map.2 ⟨p, hp, rfl⟩)
    simp only [hop, isPure, hmem, Bool.false_eq_true, if_false]
    rw [hfill_congr _ h1]
  | buildSlice t n parts =>
    have h1 : (parts.toList.map fun p => ρ p.2) = (parts.toList.map fun p => ρ' p.2) := List.map_congr_left fun p hp => he _ (by simp only [Op.operands]; exact List.mem_map.2 ⟨p, hp, rfl⟩)
    simp only [hop, isPure, hmem, Bool.false_eq_true, if_false, h1]
  | call c =>
    obtain ⟨callee, args, ts⟩ := c
    have ha : args.toList.map ρ = args.toList.map ρ' := map_congr_ops fun x hx => he x (by simp only [Op.operands, Call.operands, Array.toList_append]; exact List.mem_append.2 (.inr hx))
    cases callee with
    | value f =>
      have hf : ρ f = ρ' f := he f (by simp [Op.operands, Call.operands])
      simp only [hop, isPure, hmem, Bool.false_eq_true, if_false, ha, hf]
    | invoke f name =>
      have hf : ρ f = ρ' f := he f (by simp [Op.operands, Call.operands])
      simp only [hop, isPure, hmem, Bool.false_eq_true, if_false, ha, hf]
    | builtin b => simp only [hop, isPure, hmem, Bool.false_eq_true, if_false, ha]
  | slice t x lo hi mx =>
    have h0 : ρ x = ρ' x := he x (by simp [Op.operands])
    have h1 : lo.map ρ = lo.map ρ' := by cases lo with
      | none => rfl
      | some y => simp [he y (by simp [Op.operands])]
    have h2 : hi.map ρ = hi.map ρ' := by cases hi with
      | none => rfl
      | some y => simp [he y (by simp [Op.operands])]
    cases mx with
    | none =>
      simp only [hop, isPure, hmem, Bool.false_eq_true, if_false, hpure, h0, h1, h2]
      generalize ρ' x = vx
      cases vx <;> rfl
    | some m =>
      have h3 : ρ m = ρ' m := he m (by simp [Op.operands])
      simp only [hop, isPure, hmem, Bool.false_eq_true, if_false, hpure, h0, h1, h2]
      generalize ρ' x = vx
      cases vx <;> first | rfl | simp only [h3]
  | convert s d x =>
    have h0 : ρ x = ρ' x := he x (by simp [Op.operands])
    simp only [hop, isPure, hmem, Bool.false_eq_true, if_false, hpure, h0]
  | makeMap t r => simp only [hop, isPure, hmem, Bool.false_eq_true, if_false]
  | _ => simp_all [hop, isPure, hpure, hmem, Op.operands]

end Go.H
