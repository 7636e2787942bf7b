/- Slices of what can be written. -/
import Derived.Test.YtclolaieehmgmaaGreatHExtra4
set_option linter.unusedVariables false
set_option linter.unusedSimpArgs false
namespace Go.H

section
variable {P : Program} {Fr : Nat → Prop} {g : Ghost} {h : HH} {w : World} {ρ : Operand → HV} {c : Operand → Value}

theorem slice2_sound (r : Rel P Fr g h w) (hρ : ∀ x, VR g (ρ x) (c x)) {t : TypeId} {x : Operand} {lo hi : Option Operand} {K : HV → HH → Prop} (hk : hslice2 P t (ρ x) (lo.map ρ) (hi.map ρ) h K) :
    ∃ v cv h' g', K v h' ∧ g.le g' ∧ VR g' v cv ∧ Rel P Fr g' h' w ∧ (Instr.sliceAt t (c x) (lo.map c) (hi.map c) none).run P w = .ok cv w := by
  have opt : ∀ (o : Option Operand), (∀ v, o.map ρ = some v → ∃ d, o.map c = some d ∧ VR g v d) ∧ (o.map ρ = none → o.map c = none) := by
    intro o
    cases o with
    | none => exact ⟨(fun v h => by cases h), fun _ => rfl⟩
    | some y => exact ⟨(fun v h => by cases h; exact ⟨_, rfl, hρ y⟩), fun h => by cases h⟩
  have hx := hρ x
  generalize c x = cx at hx
  generalize ρ x = vx at hx hk
  unfold hslice2 at hk
  split at hk
  · rename_i y n sz
    obtain ⟨k1, k2, k3⟩ := hk
    split at k3
    · rename_i im e ds hh
      obtain ⟨rfl, k4, k5⟩ := k3
      obtain ⟨g1, l1, v1, r1⟩ := sealC_sound r hx
      have hs : sealC (.msl y ds.length sz) h = (.sl false ds, h.set y (.row true e ds)) := by simp [sealC, hh]
      rw [hs] at v1 r1
      have hu := sliceElem_of k1
      have hx0 := v1
      cases v1 with
      | sl _ _ a n cap b o sz hn hcc hf hm ha q0 q1 q2 =>
        subst hn
        obtain ⟨l, m, b1, b2, b3, b4⟩ := run_bounds (P := P) (w := w) (isS := true) hcc (opt lo).1 (opt lo).2 (opt hi).1 (opt hi).2 k5
        exact ⟨_, _, _, g1, b3, l1, VR_sub (mx := cap) hx0 k4 b1 b2 (by omega) (Nat.le_refl _) (fun hq => by cases hq), r1, by simp [Instr.sliceAt, Instr.slice, run_underlying hu, b4, run_sizeOf_some k2]⟩
    · exact k3.elim
  · exact hk.elim
end
end Go.H
