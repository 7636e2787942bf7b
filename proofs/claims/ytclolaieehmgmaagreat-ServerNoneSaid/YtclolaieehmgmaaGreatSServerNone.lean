/- For every input the law surmiselaw24.ServerNone answers true, and its arguments read as they did. -/
import Derived.Test.YtclolaieehmgmaaGreatRows
import Derived.WalkKit
import Derived.ProofKit
import Derived.OpenShut
import Derived.Test.YtclolaieehmgmaaGreatSKeep
import Derived.Test.YtclolaieehmgmaaGreatSOk
import Derived.Test.YtclolaieehmgmaaGreatSServerNoneFacts
namespace Go.Proofs.YtclolaieehmgmaaGreat.serverNone
open Go.ChangeShapes Go.WideShapes Go.ChangeAt Go.RowKit Go.H
set_option maxRecDepth 100000

theorem own : ownKnob Tryz.prog.godebug = none := by kernel_rfl
theorem c30 : Tryz.prog.cellsOf 30 = 12 := by kernel_rfl
theorem c33 : Tryz.prog.cellsOf 33 = 8 := by kernel_rfl
/-- the types that the arguments reach -/
def types : List TypeId := [30, 33, 3, 28, 9, 31, 4, 22, 23, 24, 25, 26, 129, 63, 145, 252, 429, 46, 39, 239, 266]
theorem typesOk : types.all (kidOk Tryz.prog types) = true := by kernel_rfl

/-- THE RUN. -/
theorem run : fastTrue Tryz.prog keep 100000 200 3 [.agg (List.replicate 12 .any), .agg (List.replicate 8 .any)] = true := by kernel_rfl

theorem walk (W : World) (base : Nat) (v0 v1 : Value) (h0 : Value.okWide Tryz.prog W .any base 30 v0) (h1 : Value.okWide Tryz.prog W .any base 33 v1) :
    Calls Tryz.prog 3 #[v0, v1] W fun e W' => e = .returned (.bool true) ∧ Below W.heap.size W W' :=
  calls_true (hcalls_true (okF_of okAll) mixed run) (fun v h e => e) rfl fun j v e => by
    match j with
    | 0 => simp at e; subst e; exact VR_struct _ Tryz.underlying30 h0 c30
    | 1 => simp at e; subst e; exact VR_struct _ Tryz.underlying33 h1 c33
    | j + 2 => simp at e

theorem contract (H : Type) (enc : TypeId × Value → H) (W : World) (base : Nat) (args : Array Value) (ds gs : List (DataW H)) (before : List MemPlace)
    (hval : ∀ (j : Nat) t v, Tryz.f3.params[j]? = some t → args[j]? = some v → Value.okWide Tryz.prog W .any base t v)
    (hW : DataW.Whole enc Tryz.prog Tryz.f3.params.toList Rows.serverNoneSpec.vars false W args.toList ds gs before) :
    Calls Tryz.prog 3 args W fun e W' => ∃ v, e = .returned v ∧ Rows.serverNoneSpec.post enc Tryz.prog Tryz.f3 false true false false W args v W' := by
  have hW' := hW
  obtain ⟨p, q, hA0, hV, rfl, hfz, hnd⟩ := hW
  have hA : DataW.TrodAll enc Tryz.prog W 0 (fun _ => true) true Tryz.f3.params.toList args.toList ds p := hA0
  have hAk := hA
  rw [Tryz.params3] at hA hval
  obtain ⟨v0, v1, d0, d1, p0, p1, rfl, rfl, rfl, h0, h1⟩ := trodAll_two hA
  obtain ⟨rfl, rfl⟩ := trodVars_none hV
  refine (walk W base v0 v1 (hval 0 30 v0 rfl rfl) (hval 1 33 v1 rfl rfl)).mono fun e W' ⟨he, hb⟩ => ?_
  subst he
  have hlt := hW'.lt
  refine ⟨_, rfl, post_of_below (pa := p0 ++ p1) (pv := []) hW' (fun _ _ _ => trodAll_cons_mk (shut_bool Tryz.underlying4 _) trodAll_mk0) (fun sp hsp => ?_) (fun _ _ => rfl) (by simp) hb
    (ok_one (by kernel_rfl) rfl (okWide_bool_mk Tryz.underlying4 _))⟩
  refine TrodAll_stays typesOk (fun t ht => ?_) hAk (fun x hx => hb.same (hlt x (by simpa using hx))) (fun x hx => hsp x (by simpa using hx))
  rw [Tryz.params3] at ht
  simp at ht
  rcases ht with rfl | rfl <;> decide

noncomputable def z30 : Value := ((Tryz.prog.info? 30).bind (·.zero)).getD undef
noncomputable def z33 : Value := ((Tryz.prog.info? 33).bind (·.zero)).getD undef

theorem lifted (os : Os) (started : os.Started) (H : Type) (enc : TypeId × Value → H) :
    ReturnsInHanded {} Tryz.checked os 3 .any (Rows.serverNoneSpec.pre6 enc Tryz.prog Tryz.f3 Rows.serverNoneRow.domain false) (Rows.serverNoneSpec.post enc Tryz.prog Tryz.f3 false true false false) := by
  refine returnsInHanded_of_change (C := Tryz.checked) own started (by kernel_rfl) Tryz.func3
    (ChangeSpec.witness6 (enc := enc) (C := Tryz.checked) false ⟨#[], #[z30, z33], []⟩ 8 (by kernel_rfl) (by kernel_rfl) (by kernel_rfl) (by kernel_rfl)) ?_
  intro W base args ds gs before hval hW _ _
  exact contract H enc W base args ds gs before hval hW

theorem holds : Rows.ServerNoneSaid :=
  OpenClaim.holds_of_wide 3 Tryz.f3 rfl rfl rfl rfl rfl rfl rfl ⟨rfl, rfl, rfl, rfl, rfl⟩ rfl rfl rfl rfl rfl (by kernel_rfl) Tryz.func3 closed
    (of_decide_eq_true (by kernel_rfl)) (by unfold Func.isWrapper; first | (rw [if_pos (by decide +kernel)]; kernel_rfl) | (rw [if_neg (by decide +kernel)]; exact ⟨rfl, rfl⟩))
    (fun os started H enc _ => lifted os started H enc)
end Go.Proofs.YtclolaieehmgmaaGreat.serverNone
