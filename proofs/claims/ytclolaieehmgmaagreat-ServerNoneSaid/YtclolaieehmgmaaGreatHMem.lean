/- Reading and writing memory, at the layer and in the model. -/
import Derived.Test.YtclolaieehmgmaaGreatHRel
set_option linter.unusedVariables false
set_option linter.unusedSimpArgs false
namespace Go.H

/-- cells that lie at a place -/
def Reads (g : Ghost) (w : World) (b o : Nat) (cs : List HV) : Prop :=
  ∀ (j : Nat) (v : HV), cs[j]? = some v → ∃ cv, w.cell? ⟨b, o + j, none⟩ = some cv ∧ cv.oneCell' = true ∧ VR g v cv

/-- where a pointer leads: cells, and a place among them -/
def hcells (h : HH) : HV → Option (List HV × Nat)
  | .ptr x o => match h x with | some (.cells cs) => some (cs, o) | _ => none
  | .eptr cs => some (cs, 0)
  | .mptr x n i o => match h x with | some (.row _ _ ds) => if ds.length = n then (ds[i]?).map fun d => (d.cells, o) else none | _ => none
  | _ => none

def agg? (P : Program) (t : TypeId) : Bool :=
  match P.underlying t with
  | some (.struct _) | some (.array _ _) => true
  | _ => false

def hload (P : Program) (t : TypeId) (cs : List HV) (o : Nat) : HV :=
  if agg? P t then .agg ((cs.drop o).take (P.cellsOf t)) else cs.getD o .any

def hloadOk (P : Program) (t : TypeId) (cs : List HV) (o : Nat) : Prop :=
  (P.underlying t).isSome = true ∧ (if agg? P t then o + P.cellsOf t ≤ cs.length else o < cs.length)

theorem info_of_underlying {P : Program} {t : TypeId} (h : (P.underlying t).isSome = true) : ∃ i, P.info? t = some i := by
  cases hi : P.info? t with
  | some i => exact ⟨i, rfl⟩
  | none => simp [Program.underlying, hi] at h

theorem run_sizeOf {P : Program} {t : TypeId} {i : TypeInfo} (h : P.info? t = some i) (w : World) : (sizeOf t).run P w = .ok (P.cellsOf t) w := by
  simp [sizeOf, typeInfo, h, Program.cellsOf]

theorem run_isAgg {P : Program} {t : TypeId} (h : (P.underlying t).isSome = true) (w : World) : (isAgg t).run P w = .ok (agg? P t) w := by
  obtain ⟨d, hd⟩ := Option.isSome_iff_exists.1 h
  unfold isAgg agg?
  simp only [Sem.run_bind, run_underlying hd, Result.andThen_ok, hd]
  cases d <;> rfl

theorem getD_lt {cs : List HV} {o : Nat} (h : o < cs.length) (d : HV) : cs[o]? = some (cs.getD o d) := by
  simp [List.getD, List.getElem?_eq_getElem h]

theorem run_load_at {P : Program} {g : Ghost} {w : World} {b o : Nat} {cs : List HV} (hr : Reads g w b o cs) {k : Nat} (hk : k < cs.length) :
    ∃ cv, (load ⟨b, o + k, none⟩).run P w = .ok cv w ∧ cv.oneCell' = true ∧ VR g (cs.getD k .any) cv := by
  obtain ⟨cv, h1, h2, h3⟩ := hr k _ (getD_lt hk .any)
  exact ⟨cv, by simp [h1], h2, h3⟩

theorem addr_add (b o k : Nat) : (⟨b, o, none⟩ : Addr).add k = ⟨b, o + k, none⟩ := by unfold Addr.add; split <;> simp_all

theorem run_loadCells_reads {P : Program} {g : Ghost} {w : World} {b o : Nat} {cs : List HV} (hr : Reads g w b o cs) (k n : Nat) (hn : k + n ≤ cs.length) :
    ∃ arr : Array Value, (loadCells ⟨b, o + k, none⟩ n).run P w = .ok arr w ∧ arr.size = n ∧ (∀ (j : Nat) (v : Value), arr[j]? = some v → v.oneCell' = true) ∧
      ∀ (j : Nat) (v : HV), ((cs.drop k).take n)[j]? = some v → VR g v (arr.getD j undef) := by
  have hcell : ∀ j, j < n → ∃ cv, w.cell? ⟨b, o + (k + j), none⟩ = some cv ∧ cv.oneCell' = true ∧ VR g (cs.getD (k + j) .any) cv := fun j hj =>
    hr (k + j) _ (getD_lt (by omega) .any)
  let f : Nat → Value := fun j => (w.cell? ⟨b, o + (k + j), none⟩).getD undef
  have hf : ∀ j, j < n → w.cell? ((⟨b, o + k, none⟩ : Addr).add j) = some (f j) := fun j hj => by
    obtain ⟨cv, h1, _⟩ := hcell j hj
    rw [addr_add, Nat.add_assoc, h1]; simp [f, h1]
  refine ⟨((List.range n).map f).toArray, run_loadCells w _ n f hf, by simp, fun j v hv => ?_, fun j v hv => ?_⟩
  · have hj : j < n := by
      have := (Array.getElem?_eq_some_iff.1 hv).1; simpa using this
    have : v = f j := by simpa [hj] using hv.symm
    subst this
    obtain ⟨cv, h1, h2, _⟩ := hcell j hj
    simp [f, h1, h2]
  · rw [List.getElem?_take] at hv
    split at hv
    · rename_i hj
      rw [List.getElem?_drop] at hv
      obtain ⟨cv, h1, h2, h3⟩ := hr (k + j) v hv
      have hfj : f j = cv := by simp [f, h1]
      have : (((List.range n).map f).toArray).getD j undef = f j := by simp [Array.getD, hj]
      rw [this, hfj]; exact h3
    · cases hv

theorem run_loadVar_reads {P : Program} {g : Ghost} {w : World} {b o : Nat} {cs : List HV} (hr : Reads g w b o cs) (t : TypeId) (k : Nat) (ok : hloadOk P t cs k) :
    ∃ cv, (loadVar t ⟨b, o + k, none⟩).run P w = .ok cv w ∧ VR g (hload P t cs k) cv := by
  obtain ⟨ok1, ok2⟩ := ok
  obtain ⟨i, hi⟩ := info_of_underlying ok1
  unfold loadVar hload
  simp only [Sem.run_bind, run_isAgg ok1, Result.andThen_ok]
  cases ha : agg? P t with
  | true =>
    simp only [ha, if_true] at ok2
    obtain ⟨arr, h1, h2, h3, h4⟩ := run_loadCells_reads (P := P) hr k (P.cellsOf t) ok2
    refine ⟨.agg arr, ?_, .agg _ _ (by simp [h2]; omega) h3 h4⟩
    simp only [if_true, Sem.run_bind, run_sizeOf hi, Result.andThen_ok, h1, Sem.run_pure]
  | false =>
    simp only [ha, Bool.false_eq_true, if_false] at ok2
    obtain ⟨cv, h1, h2, h3⟩ := run_load_at (P := P) hr ok2
    exact ⟨cv, by simpa using h1, by simpa using h3⟩

theorem reads_imm {P : Program} {Fr : Nat → Prop} {g : Ghost} {h : HH} {w : World} (r : Rel P Fr g h w) {b o : Nat} {cs : List HV}
    (h1 : ∀ (j : Nat) (v : HV), cs[j]? = some v → (g.imm b (o + j)).isSome = true) (h2 : ∀ (j : Nat) (v : HV), cs[j]? = some v → VR g v ((g.imm b (o + j)).getD undef)) :
    Reads g w b o cs := by
  intro j v e
  obtain ⟨cv, hc⟩ := Option.isSome_iff_exists.1 (h1 j v e)
  have h3 := h2 j v e
  rw [hc] at h3
  obtain ⟨a1, a2⟩ := r.imm _ _ _ hc
  exact ⟨cv, a1, a2, h3⟩

theorem reads_cells {g : Ghost} {w : World} {b : Nat} {arr : Array Value} {e : TypeId} {fr : Nat × Nat} {cs : List HV} (hb : w.heap[b]? = some (.cells arr e fr)) (hs : arr.size = cs.length)
    (h1 : ∀ (j : Nat) (v : Value), arr[j]? = some v → v.oneCell' = true) (h2 : ∀ (j : Nat) (v : HV), cs[j]? = some v → VR g v (arr.getD j undef)) : Reads g w b 0 cs := by
  intro j v e
  have hj : j < arr.size := by rw [hs]; exact (List.getElem?_eq_some_iff.1 e).1
  have ha : arr[j]? = some (arr.getD j undef) := by simp [Array.getD, hj]
  refine ⟨arr.getD j undef, by simp only [World.cell?, hb, Nat.zero_add]; exact ha, h1 _ _ ha, h2 j v e⟩

/-- What a pointer that leads somewhere comes to in the model. -/
theorem reads_of {P : Program} {Fr : Nat → Prop} {g : Ghost} {h : HH} {w : World} (r : Rel P Fr g h w) {v : HV} {c : Value} (hv : VR g v c) {cs : List HV} {o : Nat}
    (hc : hcells h v = some (cs, o)) : ∃ b o0, c = .pointer (some ⟨b, o0 + o, none⟩) ∧ Reads g w b o0 cs := by
  cases hv with
  | ptr x o' b hx =>
    simp only [hcells] at hc
    split at hc
    · rename_i cs' hh
      cases hc
      obtain ⟨arr, e, a1, a2, a3, a4⟩ := r.obj x _ hh b hx
      exact ⟨b, 0, by simp, reads_cells a1 a2 a3 a4⟩
    · cases hc
  | eptr cs' b o' h1 h2 =>
    simp only [hcells] at hc
    cases hc
    exact ⟨b, o', rfl, reads_imm r h1 h2⟩
  | mptr x n i o' b c' sz hx =>
    simp only [hcells] at hc
    split at hc
    · rename_i im e ds hh
      split at hc
      · rename_i hn
        cases hd : ds[i]? with
        | none => rw [hd] at hc; cases hc
        | some d =>
          rw [hd] at hc
          cases hc
          subst hn
          obtain ⟨_, a1, a2, a3, a4⟩ := (r.obj x _ hh).2 b c' sz hx
          have hi : i < ds.length := (List.getElem?_eq_some_iff.1 hd).1
          obtain ⟨cur, ⟨fr, b1, bf⟩, b2, b3, b4, b5, b6⟩ := a4 (by omega)
          refine ⟨b, i * sz, rfl, fun j v e => ?_⟩
          have hj : j < sz := by rw [← b4 i d hd]; exact (List.getElem?_eq_some_iff.1 e).1
          have hlt : i * sz + j < cur.size := by
            have h1 : (i + 1) * sz ≤ c' * sz := Nat.mul_le_mul_right _ (by omega)
            rw [Nat.succ_mul] at h1
            omega
          have ha : cur[i * sz + j]? = some (cur.getD (i * sz + j) undef) := by simp [Array.getD, hlt]
          exact ⟨_, by simp only [World.cell?, b1]; exact ha, b3 _ _ ha, b5 i d j v hd e⟩
      · cases hc
    · cases hc
  | _ => simp [hcells] at hc

end Go.H
