/- One operation of the layer is the model's. -/
import Derived.Test.YtclolaieehmgmaaGreatHExtra5
set_option linter.unusedVariables false
set_option linter.unusedSimpArgs false
namespace Go.H

theorem hfill_rows {sz : Nat} {ρ : Operand → HV} : ∀ (ps : List (Nat × Operand)) (k : Nat) (cs : List HV), ps.map (·.1) = List.range' k ps.length → (∀ p ∈ ps, (ρ p.2).val = true ∧ (ρ p.2).cells.length = sz) → (k + ps.length) * sz ≤ cs.length →
    hfill (fun i => some (i * sz, sz)) ρ ps cs fun cs' => cs'.length = cs.length ∧ (∀ m, m < k * sz → cs'[m]? = cs[m]?) ∧
      ∀ (i : Nat) (p : Nat × Operand) (j : Nat) (v : HV), ps[i]? = some p → (ρ p.2).cells[j]? = some v → cs'[(k + i) * sz + j]? = some v
  | [], k, cs, h1, h2, h3 => ⟨rfl, fun _ _ => rfl, fun i p j v e => by cases e⟩
  | p :: ps, k, cs, h1, h2, h3 => by
    simp only [List.map_cons, List.length_cons, List.range'_succ, List.cons.injEq] at h1
    obtain ⟨e1, e2⟩ := h1
    obtain ⟨v1, v2⟩ := h2 p (by simp)
    simp only [List.length_cons] at h3
    have hk : k * sz + sz ≤ cs.length := by
      have : (k + 1) * sz ≤ (k + (ps.length + 1)) * sz := Nat.mul_le_mul_right _ (by omega)
      rw [Nat.succ_mul] at this; omega
    have hsp : k * sz + (ρ p.2).cells.length ≤ cs.length := by rw [v2]; exact hk
    simp only [hfill]
    rw [e1]
    refine ⟨v1, v2, hk, ?_⟩
    have ih := hfill_rows (sz := sz) (ρ := ρ) ps (k + 1) (splice cs (k * sz) (ρ p.2).cells) e2 (fun q hq => h2 q (by simp [hq])) (by rw [length_splice hsp, show k + 1 + ps.length = k + (ps.length + 1) from by omega]; exact h3)
    refine (hfill_mono ps _ _ ?_ ih)
    rintro cs' ⟨a1, a2, a3⟩
    refine ⟨by rw [a1, length_splice hsp], fun m hm => ?_, fun i q j v eq ev => ?_⟩
    · have hm2 : m < (k + 1) * sz := Nat.lt_of_lt_of_le hm (Nat.mul_le_mul_right _ (by omega))
      rw [a2 m hm2, get_splice hsp, if_pos hm]
    · cases i with
      | zero =>
        simp only [List.getElem?_cons_zero, Option.some.injEq] at eq
        subst eq
        have hj : j < sz := by rw [← v2]; exact (List.getElem?_eq_some_iff.1 ev).1
        have hlt : k * sz + j < (k + 1) * sz := by rw [Nat.succ_mul]; omega
        rw [Nat.add_zero, a2 _ hlt, get_splice hsp, if_neg (by omega), if_pos (by rw [v2]; omega), Nat.add_sub_cancel_left]
        exact ev
      | succ i =>
        simp only [List.getElem?_cons_succ] at eq
        have := a3 i q j v eq ev
        rw [show k + (i + 1) = k + 1 + i from by omega]; exact this
where
  hfill_mono {place : Nat → Option (Nat × Nat)} {ρ : Operand → HV} : ∀ (ps : List (Nat × Operand)) (cs : List HV) (K : List HV → Prop) {K' : List HV → Prop}, (∀ cs, K cs → K' cs) → hfill place ρ ps cs K → hfill place ρ ps cs K'
    | [], cs, K, K', h, hk => h _ hk
    | p :: ps, cs, K, K', h, hk => by
      simp only [hfill] at hk ⊢
      split at hk
      · obtain ⟨k1, k2, k3, k4⟩ := hk
        exact ⟨k1, k2, k3, hfill_mono ps _ K h k4⟩
      · exact hk.elim

section
variable {P : Program} {Fr : Nat → Prop} {g : Ghost} {h : HH} {w : World} {ρ : Operand → HV} {c : Operand → Value}

theorem vals_getD {l : List Operand} (hρ : ∀ x, VR g (ρ x) (c x)) (j : Nat) (v : HV) (e : (l.map ρ)[j]? = some v) : VR g v ((l.map c).getD j undef) := by
  rw [List.getElem?_map] at e
  cases hq : l[j]? with
  | none => rw [hq] at e; cases e
  | some x =>
    rw [hq] at e; cases e
    simp [List.getD_eq_getElem?_getD, hq]; exact hρ x

theorem fill_rows {sz : Nat} : ∀ (ps : List (Nat × Value)) (k : Nat) (arr : Array Value), ps.map (·.1) = List.range' k ps.length → (∀ p ∈ ps, p.2.cells.size = sz) → (k + ps.length) * sz ≤ arr.size →
    ∃ arr', Instr.fill (fun i => some (i * sz, sz)) arr ps = some arr' ∧ arr'.size = arr.size ∧ (∀ m, m < k * sz → arr'.getD m undef = arr.getD m undef) ∧
      ∀ (i : Nat) (p : Nat × Value) (j : Nat), ps[i]? = some p → j < sz → arr'.getD ((k + i) * sz + j) undef = p.2.cells.getD j undef
  | [], k, arr, h1, h2, h3 => ⟨arr, rfl, rfl, fun _ _ => rfl, fun i p j e => by cases e⟩
  | p :: ps, k, arr, h1, h2, h3 => by
    simp only [List.map_cons, List.length_cons, List.range'_succ, List.cons.injEq] at h1
    obtain ⟨e1, e2⟩ := h1
    have v2 := h2 p (by simp)
    simp only [List.length_cons] at h3
    have hk : k * sz + sz ≤ arr.size := by
      have : (k + 1) * sz ≤ (k + (ps.length + 1)) * sz := Nat.mul_le_mul_right _ (by omega)
      rw [Nat.succ_mul] at this; omega
    have hl : k * sz + p.2.cells.toList.length ≤ arr.size := by simp [v2]; omega
    have hfold : (p.2.cells.zipIdx.foldl (fun cs (x : Value × Nat) => cs.setIfInBounds (k * sz + x.2) x.1) arr) = (arr.toList.take (k * sz) ++ p.2.cells.toList ++ arr.toList.drop (k * sz + p.2.cells.toList.length)).toArray := by
      have := foldl_set p.2.cells.toList 0 (k * sz) arr (by simpa using hl)
      simp only [Nat.add_zero] at this
      rw [← this, ← Array.foldl_toList]
      simp
    obtain ⟨arr', a1, a2, a3, a4⟩ := fill_rows ps (k + 1) (arr.toList.take (k * sz) ++ p.2.cells.toList ++ arr.toList.drop (k * sz + p.2.cells.toList.length)).toArray e2 (fun q hq => h2 q (by simp [hq]))
      (by rw [size_splice hl, show k + 1 + ps.length = k + (ps.length + 1) from by omega]; exact h3)
    obtain ⟨p1, p2⟩ := p
    simp only at e1 v2 hfold
    subst e1
    refine ⟨arr', ?_, by rw [a2, size_splice hl], fun m hm => ?_, fun i q j eq ej => ?_⟩
    · simp only [Instr.fill]
      rw [if_neg (by simp [v2]; omega), hfold]; exact a1
    · rw [a3 m (Nat.lt_of_lt_of_le hm (Nat.mul_le_mul_right _ (by omega))), getD_splice hl, if_pos hm]
    · cases i with
      | zero =>
        simp only [List.getElem?_cons_zero, Option.some.injEq] at eq
        subst eq
        have hlt : p1 * sz + j < (p1 + 1) * sz := by rw [Nat.succ_mul]; omega
        rw [Nat.add_zero, a3 _ hlt, getD_splice hl, if_neg (by omega), if_pos (by simp [v2]; omega), Nat.add_sub_cancel_left]
        simp [Array.getD_eq_getD_getElem?, List.getD_eq_getElem?_getD]
      | succ i =>
        simp only [List.getElem?_cons_succ] at eq
        rw [show p1 + (i + 1) = p1 + 1 + i from by omega]; exact a4 i q j eq ej

theorem sealL_length (cs : List HV) : ∀ h : HH, (sealL cs h).1.length = cs.length := by
  induction cs with
  | nil => intro h; rfl
  | cons v vs ih => intro h; simp [sealL, ih]

theorem hseal_cells (v : HV) (h : HH) : (hseal v h).1.cells.length = v.cells.length := by
  cases v with
  | agg cs => simp only [hseal, HV.cells]; exact sealL_length cs h
  | msl x n sz =>
    simp only [hseal, sealC]
    split
    · split <;> rfl
    · rfl
  | _ => rfl

theorem seals_cells : ∀ (vs : List HV) (h : HH) (k : Nat) (d : HV), (seals vs h).1[k]? = some d → ∀ u, vs[k]? = some u → d.cells.length = u.cells.length
  | [], h, k, d, e, u, eu => by cases eu
  | v :: vs, h, k, d, e, u, eu => by
    cases k with
    | zero =>
      simp only [seals, List.getElem?_cons_zero, Option.some.injEq] at e eu
      subst e; subst eu
      exact hseal_cells v h
    | succ k => exact seals_cells vs _ k d e u eu

/-- whether a value is one after it was sealed -/
def sealedOk (vs : List HV) : Prop := ∀ v ∈ vs, v.val = true

theorem buildSlice_sound (r : Rel P Fr g h w) (hρ : ∀ x, VR g (ρ x) (c x)) {t : TypeId} {len : Nat} {parts : Array (Nat × Operand)} {K : HV → HH → Prop} (hk : hmem P (.buildSlice t len parts) ρ h K) :
    ∃ v cv h' g' w', K v h' ∧ g.le g' ∧ VR g' v cv ∧ Rel P Fr g' h' w' ∧ Kept Fr w w' ∧ (Instr.buildSlice t len (parts.map fun (i, x) => (i, c x))).run P w = .ok cv w' := by
  simp only [hmem] at hk
  obtain ⟨k1, k2, k3, k4, k5, k6⟩ := hk
  have k7 : ∀ v ∈ parts.toList.map (fun p => ρ p.2), v.val = true := fun v hv => (k5 v hv).1
  have hu := sliceElem_of k1
  obtain ⟨i, z, hi, hz, hz1, hz2⟩ := CellsR.zero (g := g) (zok.z0 k2)
  have hcell : P.cellsOf (P.elem t) = i.size := by simp [Program.cellsOf, hi]
  have hpos : 0 < P.cellsOf (P.elem t) := by obtain ⟨_, _, _, _, _, _, q, q'⟩ := zok_of k2; omega
  have hplen : parts.toList.length = len := by have := congrArg List.length k3; simpa using this
  -- the values, sealed
  let vals := parts.toList.map fun p => ρ p.2
  let cvs := parts.toList.map fun p => c p.2
  have hvals : ∀ (j : Nat) (v : HV), vals[j]? = some v → VR g v (cvs.getD j undef) := fun j v e => by
    have : vals = (parts.toList.map (·.2)).map ρ := by simp [vals]
    rw [this] at e
    have h2 : cvs = (parts.toList.map (·.2)).map c := by simp [cvs]
    rw [h2]; exact vals_getD hρ j v e
  -- the model's cells
  let arr0 : Array Value := (Array.range (len * i.size)).map fun k => z.cells[k % z.cells.size]!
  have harr0 : ∀ (j : Nat) (v : Value), arr0[j]? = some v → v.oneCell' = true := fun j v e => by
    have hj2 : j < len * i.size := by simpa [arr0] using (Array.getElem?_eq_some_iff.1 e).1
    have h3 : arr0[j]? = some (z.cells[j % z.cells.size]!) := by simp [arr0, hj2]
    rw [h3] at e; cases e
    have hlt : j % z.cells.size < z.cells.size := Nat.mod_lt _ (by omega)
    rw [getElem!_pos z.cells _ hlt]
    exact hz1.one (j % z.cells.size) _ (Array.getElem?_eq_getElem hlt)
  have hpl : (parts.toList.map fun p => (p.1, c p.2)).length = len := by simpa using hplen
  have hpv : ∀ p ∈ parts.toList, (c p.2).cells.size = P.cellsOf (P.elem t) ∧ ∀ (j : Nat) (u : Value), (c p.2).cells[j]? = some u → u.oneCell' = true := fun p hp => by
    obtain ⟨q1, q2⟩ := k5 _ (List.mem_map.2 ⟨p, hp, rfl⟩)
    obtain ⟨c1, c2, _⟩ := cells_of (hρ p.2) q1
    exact ⟨c1.trans q2, c2⟩
  obtain ⟨arr, f1, f2, _, f4⟩ := fill_rows (sz := P.cellsOf (P.elem t)) (parts.toList.map fun p => (p.1, c p.2)) 0 arr0
    (by rw [hpl, List.map_map]; exact k3.trans List.range_eq_range') (fun p hp => by
      obtain ⟨q, hq, rfl⟩ := List.mem_map.1 hp; exact (hpv q hq).1) (by rw [hpl]; simp [arr0, hcell])
  have hsize : arr.size = len * P.cellsOf (P.elem t) := by rw [f2, hcell]; simp [arr0]
  have hat : ∀ k, k < len * P.cellsOf (P.elem t) → ∃ p ∈ parts.toList, arr.getD k undef = (c p.2).cells.getD (k % P.cellsOf (P.elem t)) undef := fun k hk => by
    have h1 : k / P.cellsOf (P.elem t) < len := Nat.div_lt_of_lt_mul (by rw [Nat.mul_comm]; exact hk)
    have h2 : k % P.cellsOf (P.elem t) < P.cellsOf (P.elem t) := Nat.mod_lt _ hpos
    have hq := List.getElem?_eq_getElem (l := parts.toList) (i := k / P.cellsOf (P.elem t)) (by rw [hplen]; exact h1)
    have := f4 (k / P.cellsOf (P.elem t)) _ _ (by rw [List.getElem?_map, hq]; rfl) h2
    rw [Nat.zero_add, Nat.mul_comm, Nat.div_add_mod] at this
    exact ⟨_, List.mem_of_getElem? hq, this⟩
  have hone : ∀ (j : Nat) (v : Value), arr[j]? = some v → v.oneCell' = true := fun j v e => by
    have hj := (Array.getElem?_eq_some_iff.1 e).1
    obtain ⟨p, hp, hpe⟩ := hat j (by omega)
    have hv : v = arr.getD j undef := by simp [Array.getD_eq_getD_getElem?, e]
    have h2 : j % P.cellsOf (P.elem t) < (c p.2).cells.size := by rw [(hpv p hp).1]; exact Nat.mod_lt _ hpos
    rw [hv, hpe]
    exact (hpv p hp).2 _ _ (by rw [Array.getElem?_eq_getElem h2]; simp [Array.getD, h2])
  have hrun : (Instr.buildSlice t len (parts.map fun (i, x) => (i, c x))).run P w = .ok (.slice (some ⟨w.heap.size, 0, none⟩) len len) (w.alloc (.cells arr (P.elem t))) := by
    have hfl : Instr.fill (fun k => some (k * i.size, i.size)) arr0 (parts.map fun (i, x) => (i, c x)).toList = some arr := by
      rw [← hcell]; simpa using f1
    unfold Instr.buildSlice
    simp only [Sem.run_bind, run_underlying hu, Result.andThen_ok, run_sizeOf_some (show (P.info? (P.elem t)).isSome = true by rw [hi]; rfl), hcell]
    rw [if_neg (by rw [← hcell]; omega)]
    by_cases hl0 : len * i.size = 0
    · have hb : ((Array.range (len * i.size)).map fun x => (#[] : Array Value)[x % (#[] : Array Value).size]!) = arr0 := by simp [arr0, hl0]
      rw [if_pos hl0]
      simp only [Sem.run_bind, Sem.run_pure, Result.andThen_ok, hb, hfl, newRow, run_newObj]
      rfl
    · have hb : ((Array.range (len * i.size)).map fun x => z.cells[x % z.cells.size]!) = arr0 := rfl
      have hzr : (zeroValue (P.elem t)).run P w = .ok z w := by simp [zeroValue, typeInfo, hi, hz]
      rw [if_neg hl0]
      simp only [Sem.run_bind, hzr, Sem.run_pure, Result.andThen_ok, hb, hfl, newRow, run_newObj]
      rfl
  obtain ⟨l1, r1, i1⟩ := r.newImm arr (P.elem t) (0, 0) hone
  have v2 : ∀ (j : Nat) (v : HV), vals[j]? = some v → VR (g.freeze w.heap.size arr arr.size) v (cvs.getD j undef) := fun j v e => (hvals j v e).mono l1
  generalize g.freeze w.heap.size arr arr.size = g2 at l1 r1 i1 v2
  have l2 : g2.le g2 := Ghost.le.refl g2
  have n2 : vals.length = vals.length := rfl
  have r2 := r1
  refine ⟨_, _, _, g2, _, k6, l1.trans l2, ?_, r2, (Kept.refl Fr w).alloc r.frlt _, hrun⟩
  have hvlen : vals.length = len := by simp [vals, hplen]
  have hcellsz : ∀ (k : Nat) (d : HV), vals[k]? = some d → d.cells.length = P.cellsOf (P.elem t) := fun k d e => by
    have hk2 : k < vals.length := by rw [← n2]; exact (List.getElem?_eq_some_iff.1 e).1
    exact (k5 _ (List.mem_of_getElem? e)).2
  have himm : ∀ (k : Nat) (d : HV) (j : Nat) (v : HV), vals[k]? = some d → d.cells[j]? = some v →
      ∃ cv, g2.imm w.heap.size (0 + k * P.cellsOf (P.elem t) + j) = some cv ∧ VR g2 v cv := fun k d j v e ej => by
    have hk2 : k < vals.length := by rw [← n2]; exact (List.getElem?_eq_some_iff.1 e).1
    have hj : j < P.cellsOf (P.elem t) := by rw [← hcellsz k d e]; exact (List.getElem?_eq_some_iff.1 ej).1
    have hq := List.getElem?_eq_getElem (l := parts.toList) (i := k) (by rw [hplen]; omega)
    have hf := f4 k _ j (by rw [List.getElem?_map, hq]; rfl) hj
    rw [Nat.zero_add] at hf ⊢
    have hlt : k * P.cellsOf (P.elem t) + j < arr.size := by rw [hsize]; exact idx_lt (by omega) hj
    have hi2 := i1 (k * P.cellsOf (P.elem t) + j)
    rw [Array.getElem?_eq_getElem hlt] at hi2
    have hcv : arr[k * P.cellsOf (P.elem t) + j] = (c parts.toList[k].2).cells.getD j undef := by rw [← hf]; simp [Array.getD, hlt]
    refine ⟨_, l2.imm _ _ _ hi2, ?_⟩
    rw [hcv]
    have hvk := v2 k d e
    have hcvk : cvs.getD k undef = c parts.toList[k].2 := by simp [cvs, List.getD_eq_getElem?_getD, List.getElem?_map, hq]
    rw [hcvk] at hvk
    have hval : d.val = true := by
      rcases hd : d.val with _ | _
      · exact absurd (k7 d (List.mem_of_getElem? e)) (by rw [hd]; simp)
      · rfl
    exact (cells_of hvk hval).2.2 j v ej
  refine .sl true _ (some ⟨w.heap.size, 0, none⟩) len len w.heap.size 0 (P.cellsOf (P.elem t)) (by rw [n2, hvlen]) (Nat.le_refl _) (fun _ => rfl) ?_ (fun _ => rfl) hcellsz (fun k d j v e ej => ?_) (fun k d j v e ej => ?_)
  · have : len ≤ len * P.cellsOf (P.elem t) := Nat.le_mul_of_pos_right _ hpos
    simp only [maxLen]; omega
  · obtain ⟨cv, q1, q2⟩ := himm k d j v e ej; rw [q1]; rfl
  · obtain ⟨cv, q1, q2⟩ := himm k d j v e ej; rw [q1]; exact q2
theorem zeroValue_run {t : TypeId} {i : TypeInfo} {z : Value} (hi : P.info? t = some i) (hz : i.zero = some z) (w : World) : (zeroValue t).run P w = .ok z w := by simp [zeroValue, typeInfo, hi, hz]

theorem store_sound (r : Rel P Fr g h w) {t : TypeId} {p v : HV} {cp cv : Value} (hp : VR g p cp) (hv : VR g v cv) {K : HH → Prop} (hk : hstore P t p v h K) :
    ∃ w' h', K h' ∧ Rel P Fr g h' w' ∧ Kept Fr w w' ∧ (Instr.storeAt t cp cv).run P w = .ok () w' := by
  obtain ⟨k1, k2, k3, k4⟩ := hk
  have hsz := (cells_of hv k1).1
  split at k4
  · rename_i x o
    cases hp with
    | ptr _ _ b hb =>
      split at k4
      · rename_i cs hh
        obtain ⟨w', a1, a2, a3⟩ := r.store hb hh hv k1 k4.1
        refine ⟨w', _, k4.2, a2, a3, ?_⟩
        simp only [Instr.storeAt, Instr.sureAddr, storeVar, Sem.run_bind, Sem.run_pure, Result.andThen_ok, run_sizeOf_some k3]
        rw [if_neg (by rw [hsz, k2]; simp)]
        exact a1
      · exact k4.elim
  · rename_i x n i o
    cases hp with
    | mptr _ _ _ _ b c sz hb =>
      split at k4
      · rename_i e ds hh
        obtain ⟨q1, q2, q3, q4, q5⟩ := k4
        obtain ⟨w', a1, a2, a3⟩ := r.storeRow hh hb q1 q2 hv k1 q3 q4
        refine ⟨w', _, q5, a2, a3, ?_⟩
        simp only [Instr.storeAt, Instr.sureAddr, storeVar, Sem.run_bind, Sem.run_pure, Result.andThen_ok, run_sizeOf_some k3]
        rw [if_neg (by rw [hsz, k2]; simp)]
        exact a1
      · exact k4.elim
  · exact k4.elim

theorem len_sound (r : Rel P Fr g h w) {t : TypeId} {v : HV} {cv : Value} (hv : VR g v cv) {K : HV → Prop} (hk : hlen P t v h K) (ty : TypeId) :
    ∃ u cu, K u ∧ VR g u cu ∧ (Builtin.len_ #[t] ty #[cv]).run P w = .ok cu w := by
  unfold hlen at hk
  split at hk
  · obtain ⟨k1, k2⟩ := hk
    have hu := sliceElem_of k1
    cases hv with
    | sl _ _ a n c b o sz hn hc hf hm ha q0 q1 q2 => subst hn; exact ⟨_, _, k2, .int _ _, by simp [Builtin.len_, run_underlying hu, goInt]⟩
  · obtain ⟨k1, k2⟩ := hk
    have hu := sliceElem_of k1
    cases hv with
    | msl0 => exact ⟨_, _, k2, .int _ _, by simp [Builtin.len_, run_underlying hu, goInt]⟩
    | msl => exact ⟨_, _, k2, .int _ _, by simp [Builtin.len_, run_underlying hu, goInt]⟩
  · obtain ⟨k1, k2⟩ := hk
    have hu := sliceElem_of k1
    cases hv with
    | asl => exact ⟨_, _, k2, .int _ _, by simp [Builtin.len_, run_underlying hu, goInt]⟩
  · obtain ⟨k1, k2⟩ := hk
    cases hv
    exact ⟨_, _, k2, .int _ _, by simp [Builtin.len_, run_underlying k1, goInt, str_size]⟩
  · rename_i x
    obtain ⟨k1, k2⟩ := hk
    obtain ⟨kt, u1⟩ := strMap_of k1
    split at k2
    · rename_i cl es hx
      obtain ⟨b, ents, rfl, hb, hh, hR⟩ := map_of r hx hv
      have hg : (getObj b).run P w = .ok (.map ents cl) w := run_getObj' hh (by simp)
      refine ⟨_, _, k2, .int _ _, ?_⟩
      rw [← hR.1]
      simp [Builtin.len_, run_underlying u1, hg, goInt]
    · exact k2.elim
  · exact hk.elim

theorem append_sound (r : Rel P Fr g h w) {t u ty : TypeId} {s x : HV} {cs cx : Value} (hs : VR g s cs) (hx : VR g x cx) {K : HV → HH → Prop} (hk : happend P t u s x h K) :
    ∃ v cv h' g' w', K v h' ∧ g.le g' ∧ VR g' v cv ∧ Rel P Fr g' h' w' ∧ Kept Fr w w' ∧ (Builtin.append_ #[t, u] ty #[cs, cx]).run P w = .ok cv w' := by
  obtain ⟨k1, k2, k3, k4⟩ := hk
  have hu := sliceElem_of k1
  split at k4
  · rename_i ys hy
    obtain ⟨k5, k6⟩ := k4
    split at k6
    · rename_i ds
      obtain ⟨q1, q2, q3, q4, q5⟩ := k6
      obtain ⟨cv, w', g', a1, a2, a3, a4, a5, a6⟩ := append_full (ty := ty) r.raise.2 hu k2 k3 (hs.mono r.raise.1) (hx.mono r.raise.1) hy q1 k5 q2 q3 q4
      exact ⟨_, cv, _, g', w', q5 a2, r.raise.1.trans a3, a4, a5, a6, a1⟩
    · rename_i y n sz
      split at k6
      · rename_i im e ds hh
        obtain ⟨q1, q2, q3, q4, q5⟩ := k6
        subst q2
        subst q1
        obtain ⟨cv, w', g', a1, a2, a3, a4, a5⟩ := append_row (ty := ty) r hu k2 k3 hs hh rfl hx hy k5 q3 q4
        exact ⟨_, cv, _, g', w', q5, a2, a3, a4, a5, a1⟩
      · exact k6.elim
    · exact k6.elim
  · exact k4.elim

theorem map_args (l : Array Operand) : l.map c = (l.toList.map c).toArray := by
  apply Array.ext'; simp

theorem hbuiltin_sound (r : Rel P Fr g h w) (hρ : ∀ x, VR g (ρ x) (c x)) {b : Builtin} {ts : Array TypeId} {args : Array Operand} {ty : TypeId} {cons : Array Bool} {K : HV → HH → Prop} (hk : hbuiltin P b ts (args.toList.map ρ) h K) :
    ∃ v cv h' g' w', K v h' ∧ g.le g' ∧ VR g' v cv ∧ Rel P Fr g' h' w' ∧ Kept Fr w w' ∧ (builtin b ts ty cons (args.map c)).run P w = .ok (.value cv) w' := by
  have two : ∀ {a b : HV}, args.toList.map ρ = [a, b] → ∃ ca cb, args.map c = #[ca, cb] ∧ VR g a ca ∧ VR g b cb := by
    intro a b e
    rw [map_args]
    match hl : args.toList, e with
    | [x, y], e =>
      simp only [List.map_cons, List.map_nil, List.cons.injEq, and_true] at e
      obtain ⟨rfl, rfl⟩ := e
      exact ⟨c x, c y, rfl, hρ x, hρ y⟩
  have one : ∀ {a : HV}, args.toList.map ρ = [a] → ∃ ca, args.map c = #[ca] ∧ VR g a ca := by
    intro a e
    rw [map_args]
    match hl : args.toList, e with
    | [x], e =>
      simp only [List.map_cons, List.map_nil, List.cons.injEq, and_true] at e
      subst e
      exact ⟨c x, rfl, hρ x⟩
  unfold hbuiltin at hk
  split at hk
  · rename_i t v e1 e2
    obtain ⟨cv, h1, h2⟩ := one e2
    have ht : ts = #[t] := by apply Array.ext'; simpa using e1
    subst ht
    obtain ⟨u, cu, q1, q2, q3⟩ := len_sound r h2 hk ty
    exact ⟨u, cu, h, g, w, q1, Ghost.le.refl g, q2, r, Kept.refl _ _, by simp [builtin, h1, q3]⟩
  · rename_i t u s x e1 e2
    obtain ⟨cs, cx, h1, h2, h3⟩ := two e2
    have ht : ts = #[t, u] := by apply Array.ext'; simpa using e1
    subst ht
    obtain ⟨v, cv, h', g', w', q1, q2, q3, q4, q5, q6⟩ := append_sound (ty := ty) r h2 h3 hk
    exact ⟨v, cv, h', g', w', q1, q2, q3, q4, q5, by simp [builtin, h1, q6]⟩
  · rename_i t tl d s e1 e2
    obtain ⟨cs, cx, h1, h2, h3⟩ := two e2
    have ht : ts = (t :: tl).toArray := by apply Array.ext'; simpa using e1
    subst ht
    obtain ⟨v, cv, h', w', q1, q2, q3, q4, q5⟩ := copy_sound (ts := tl) (ty := ty) r h2 h3 hk
    exact ⟨v, cv, h', g, w', q1, Ghost.le.refl g, q2, q3, q4, by simp only [builtin, h1, Sem.run_bind, q5, Result.andThen_ok, Sem.run_pure]⟩
  · rename_i t tl d s e1 e2
    obtain ⟨cs, cx, h1, h2, h3⟩ := two e2
    have ht : ts = (t :: tl).toArray := by apply Array.ext'; simpa using e1
    subst ht
    obtain ⟨v, cv, h', w', q1, q2, q3, q4, q5⟩ := mapdel_sound (ts := tl) (ty := ty) r h2 h3 hk
    exact ⟨v, cv, h', g, w', q1, Ghost.le.refl g, q2, q3, q4, by simp only [builtin, h1, Sem.run_bind, q5, Result.andThen_ok, Sem.run_pure]⟩
  · rename_i k x k' y e1 e2
    obtain ⟨ca, cb, h1, h2, h3⟩ := two e2
    cases h2; cases h3
    exact ⟨_, _, h, g, w, hk, Ghost.le.refl g, .int _ _, r, Kept.refl _ _, by simp [builtin, h1, Builtin.max_, Builtin.max2]⟩
  · rename_i k x k' y e1 e2
    obtain ⟨ca, cb, h1, h2, h3⟩ := two e2
    cases h2; cases h3
    exact ⟨_, _, h, g, w, hk, Ghost.le.refl g, .int _ _, r, Kept.refl _ _, by simp [builtin, h1, Builtin.min_, Builtin.min2]⟩
  · exact hk.elim
end

section
variable {P : Program} {Fr : Nat → Prop} {g : Ghost} {h : HH} {w : World} {ρ : Operand → HV} {a : Act}

theorem callFunc_run {n : FuncId} (hb : hasBody P n = true) (args : Array Value) (w : World) : (callFunc n args).run P w = .ok (.enter n args) w := by
  unfold hasBody at hb
  split at hb
  · rename_i fn hf
    simp only [Bool.and_eq_true, bne_iff_ne, ne_eq, Option.isSome_iff_exists] at hb
    obtain ⟨h1, body, h2⟩ := hb
    simp [callFunc, hf, h1, h2]
  · cases hb

theorem callMethod_run {t : TypeId} {name : String} {f : FuncId} (hm : methodOf P t name = some f) (hb : hasBody P f = true) (v : Value) (args : Array Value) (w : World) :
    (callMethod (.iface t v) name args).run P w = .ok (.enter f (#[v] ++ args)) w := by
  unfold methodOf at hm
  split at hm
  · rename_i i hi
    split at hm
    · rename_i m hf
      split at hm
      · rename_i f' hfn
        split at hm
        · rename_i hc
          cases hm
          simp only [Bool.and_eq_true, Array.isEmpty_iff] at hc
          obtain ⟨hp, hptr⟩ := hc
          have hmeth : (method (P.types.size + Made.depth) t v name).run P w = .ok (f, v) w := by
            obtain ⟨n, hn⟩ : ∃ n, P.types.size + Made.depth = n + 1 := ⟨P.types.size + 99, rfl⟩
            rw [hn]
            simp only [method, typeInfo, Sem.run_bind, run_program, hi, Sem.run_pure, Result.andThen_ok, hf, hp, follow, hfn]
            simp only [receiverAt, Sem.run_bind, run_underlying (isPtr_of hptr), Result.andThen_ok, Place.get, Sem.run_pure]
          simp only [callMethod, Sem.run_bind, run_program, Result.andThen_ok, hmeth]
          exact callFunc_run hb _ w
        · cases hm
      · cases hm
    · cases hm
  · cases hm

/-- One operation. -/
theorem hop_sound (r : Rel P Fr g h w) (hρ : ∀ x, VR g (ρ x) (a.eval x)) {o : Oper} {K : HV → HH → Prop} (hk : hop P o.op ρ h K) {next : Act → World → Prop} {Q : Exit → Act → World → Prop}
    (hn : ∀ v cv h' g' w', K v h' → g.le g' → VR g' v cv → Rel P Fr g' h' w' → Kept Fr w w' → next (a.put o.dst cv) w') : o.wp P a w next Q := by
  have val : ∀ {v : HV} {cv : Value} {h' : HH} {g' : Ghost} {w' : World}, (execOp a.eval o).run P w = .ok (.value cv) w' → K v h' → g.le g' → VR g' v cv → Rel P Fr g' h' w' → Kept Fr w w' → o.wp P a w next Q := by
    intro v cv h' g' w' he k1 k2 k3 k4 k5
    unfold Oper.wp
    rw [he]
    exact hn v cv h' g' w' k1 k2 k3 k4 k5
  unfold hop at hk
  split at hk
  · obtain ⟨v, cv, k1, k2, k3⟩ := hpure_sound r hρ hk
    exact val k3 k1 (Ghost.le.refl g) k2 r (Kept.refl _ _)
  · obtain ⟨dst, op, ty, pos, after, guard⟩ := o
    simp only at hk
    cases op with
    | alloc e =>
      simp only [hmem] at hk
      obtain ⟨k1, k2⟩ := hk
      obtain ⟨i, z, hi, hz, hz1, hz2⟩ := CellsR.zero (g := { g with nx := h.nx }) k1
      obtain ⟨q1, q2, q3, q4⟩ := r.raise.2.newCells z.cells e (zcells P e) hz1.size hz1.one hz1.rd
      exact val (v := .ptr h.nx 0) (cv := .pointer (some ⟨w.heap.size, 0, none⟩)) (by simp [execOp, Instr.alloc, zeroValue_run hi hz, newVar, newRow]) (k2 q1) (r.raise.1.trans q2) (.ptr _ _ _ q4) q3 ((Kept.refl Fr w).alloc r.frlt _)
    | box e x =>
      simp only [hmem] at hk
      obtain ⟨k1, k2⟩ := hk
      obtain ⟨c1, c2, c3⟩ := cells_of ((hρ x).mono r.raise.1) k1
      obtain ⟨q1, q2, q3, q4⟩ := r.raise.2.newCells (a.eval x).cells e (ρ x).cells c1 c2 c3
      exact val (v := .ptr h.nx 0) (cv := .pointer (some ⟨w.heap.size, 0, none⟩)) (by simp [execOp, Instr.box, newVar, newRow]) (k2 q1) (r.raise.1.trans q2) (.ptr _ _ _ q4) q3 ((Kept.refl Fr w).alloc r.frlt _)
    | build t parts =>
      simp only [hmem] at hk
      obtain ⟨k1, k2⟩ := hk
      have hz : zok0 P t = true := by simp only [buildOk, Bool.and_eq_true] at k1; exact k1.1
      obtain ⟨i, z, hi, hz, hz1, hz2⟩ := CellsR.zero (g := g) hz
      obtain ⟨cs', arr, f1, f2, f3⟩ := hfill_sound hρ parts.toList hz1 k2
      have hbu : P.built t (parts.map fun (i, x) => (i, a.eval x)).toList = some arr := by
        rw [bplace_fill k1 hi hz]; simpa using f3
      refine val (v := .agg cs') (cv := .agg arr) ?_ f1 (Ghost.le.refl g) (.agg _ _ f2.size f2.one f2.rd) r (Kept.refl _ _)
      simp only [execOp, Sem.run_bind, run_build w t _ arr hbu, Result.andThen_ok, Sem.run_pure]
    | buildSlice t len parts =>
      obtain ⟨v, cv, h', g', w', q1, q2, q3, q4, q5, q6⟩ := buildSlice_sound r hρ hk
      exact val (by simp [execOp, q6]) q1 q2 q3 q4 q5
    | load t x =>
      simp only [hmem] at hk
      have hx := hρ x
      split at hk
      · rename_i q hq
        obtain ⟨b, o0, hp, hr⟩ := reads_of r hx hq
        obtain ⟨cv, q1, q2⟩ := run_loadVar_reads hr t q.2 hk.1
        exact val (by simp [execOp, Instr.loadAt, hp, Instr.sureAddr, q1]) hk.2 (Ghost.le.refl g) q2 r (Kept.refl _ _)
      · exact hk.elim
    | store t x y =>
      simp only [hmem] at hk
      obtain ⟨w', h', q1, q2, q3, q4⟩ := store_sound r (hρ x) (hρ y) hk
      have he : (execOp a.eval ⟨dst, .store t x y, ty, pos, after, guard⟩).run P w = .ok .skip w' := by simp [execOp, q4]
      unfold Oper.wp
      rw [he]
      exact hn .any undef h' g w' q1 (Ghost.le.refl g) (.any _) q2 q3
    | call c =>
      obtain ⟨callee, args, argTypes⟩ := c
      simp only [hmem] at hk
      cases callee with
      | builtin b =>
        obtain ⟨v, cv, h', g', w', q1, q2, q3, q4, q5, q6⟩ := hbuiltin_sound (ty := ty) (cons := args.map fun | .const _ => true | _ => false) r hρ hk
        exact val (by simp only [execOp, resolve, Sem.run_bind, Sem.run_pure, Result.andThen_ok, invoke]; exact q6) q1 q2 q3 q4 q5
      | invoke x name =>
        simp only at hk
        have hx := hρ x
        split at hk
        · rename_i t v hxv
          rw [hxv] at hx
          generalize hcx : a.eval x = cx at hx
          cases hx with
          | ifc _ _ cv hv =>
            split at hk
            · rename_i f hm
              obtain ⟨k1, k2⟩ := hk
              have hcall := k2 Fr g w (#[cv] ++ args.map a.eval) r (by simp; omega) (fun j u e => by
                cases j with
                | zero => simp at e; subst e; rw [Array.getD_eq_getD_getElem?, Array.getElem?_append_left (by simp)]; simpa using hv
                | succ j =>
                  simp only [List.getElem?_cons_succ] at e
                  have := vals_getD (c := a.eval) hρ j u e
                  rw [Array.getD_eq_getD_getElem?, Array.getElem?_append_right (by simp)]
                  simpa [List.getD_eq_getElem?_getD] using this)
              have he : (execOp a.eval ⟨dst, .call ⟨.invoke x name, args, argTypes⟩, ty, pos, after, guard⟩).run P w = .ok (.enter f (#[cv] ++ args.map a.eval)) w := by
                have h0 : (#[Value.iface t cv] ++ args.map a.eval)[0]? = some (.iface t cv) := by rw [Array.getElem?_append_left (by simp)]; rfl
                have h1 : (#[Value.iface t cv] ++ args.map a.eval).extract 1 (#[Value.iface t cv] ++ args.map a.eval).size = args.map a.eval := by
                  apply Array.ext'; simp [List.take_of_length_le]
                simp only [execOp, resolve, hcx, Sem.run_bind, Sem.run_pure, Result.andThen_ok, invoke, h0, h1]
                exact callMethod_run hm k1 _ _ w
              unfold Oper.wp
              rw [he]
              refine hcall.mono ?_
              rintro e w' ⟨cv, v, h', g', rfl, q1, q2, q3, q4, q5⟩
              exact hn v cv h' g' w' q1 q2 q3 q4 q5
            · exact hk.elim
        · exact hk.elim
      | value f =>
        simp only at hk
        have hf := hρ f
        split at hk
        · rename_i n first cap hfn
          rw [hfn] at hf
          generalize hcf : a.eval f = cf at hf
          cases hf with
          | fn _ _ _ l m hl hm h1 h2 =>
            obtain ⟨k1, k2⟩ := hk
            have hargs : ∀ (j : Nat) (v : HV), (first ++ args.toList.map ρ ++ cap)[j]? = some v → VR g v ((l ++ args.map a.eval ++ m).getD j undef) := by
              intro j v e
              rw [Array.getD_eq_getD_getElem?]
              rw [List.append_assoc, List.getElem?_append] at e
              rw [Array.append_assoc, Array.getElem?_append]
              split at e
              · rename_i hj
                rw [if_pos (by omega)]
                have := h1 j v e
                rwa [Array.getD_eq_getD_getElem?] at this
              · rename_i hj
                rw [if_neg (by omega)]
                rw [List.getElem?_append] at e
                rw [Array.getElem?_append, hl]
                split at e
                · rename_i hj2
                  rw [if_pos (by simpa using hj2)]
                  have := vals_getD (c := a.eval) hρ (j - first.length) v e
                  simpa [List.getD_eq_getElem?_getD] using this
                · rename_i hj2
                  rw [if_neg (by simpa using hj2)]
                  have := h2 _ v e
                  rw [Array.getD_eq_getD_getElem?] at this
                  simpa using this
            have hcall := k2 Fr g w (l ++ args.map a.eval ++ m) r (by simp [hl, hm]) hargs
            have he : (execOp a.eval ⟨dst, .call ⟨.value f, args, argTypes⟩, ty, pos, after, guard⟩).run P w = .ok (.enter n (l ++ args.map a.eval ++ m)) w := by
              simp only [execOp, resolve, hcf, Deferred.ofValue, Sem.run_bind, Sem.run_pure, Result.andThen_ok, invoke]
              exact callFunc_run k1 _ w
            unfold Oper.wp
            rw [he]
            refine hcall.mono ?_
            rintro e w' ⟨cv, v, h', g', rfl, q1, q2, q3, q4, q5⟩
            exact hn v cv h' g' w' q1 q2 q3 q4 q5
        · exact hk.elim
    | convert s d x =>
      simp only [hmem] at hk
      split at hk
      · rename_i hcv
        have hx := hρ x
        obtain ⟨v, cv, h', g', w', q1, q2, q3, q4, q5, q6⟩ := hconv_sound r hx hcv hk
        exact val (by simp [execOp, q6]) q1 q2 q3 q4 q5
      · obtain ⟨v, cv, k1, k2, k3⟩ := hpure_sound (o := ⟨dst, .convert s d x, ty, pos, after, guard⟩) r hρ hk
        exact val k3 k1 (Ghost.le.refl g) k2 r (Kept.refl _ _)
    | slice t x lo hi mx =>
      simp only [hmem] at hk
      split at hk
      · rename_i hs
        have hmx : mx = none := by
          cases mx with
          | none => rfl
          | some m =>
            exfalso
            simp only [Option.isNone_some, hslices] at hs
            split at hs <;> cases hs
        subst hmx
        obtain ⟨v, cv, h', g', q1, q2, q3, q4, q5⟩ := slice2_sound r hρ hk
        exact val (by simp [execOp, q5]) q1 q2 q3 q4 (Kept.refl _ _)
      · obtain ⟨v, cv, k1, k2, k3⟩ := hpure_sound (o := ⟨dst, .slice t x lo hi mx, ty, pos, after, guard⟩) r hρ hk
        exact val k3 k1 (Ghost.le.refl g) k2 r (Kept.refl _ _)
    | makeSlice t l m =>
      obtain ⟨v, cv, h', g', w', q1, q2, q3, q4, q5, q6⟩ := make_sound r (hρ l) (hρ m) hk
      exact val (by simp [execOp, q6]) q1 q2 q3 q4 q5
    | makeMap t res =>
      obtain ⟨rfl, hk⟩ := hk
      obtain ⟨v, cv, h', g', w', q1, q2, q3, q4, q5, q6⟩ := makeMap_sound (t := t) r hk
      exact val (by simp [execOp, q6]) q1 q2 q3 q4 q5
    | lookup t m k ok =>
      obtain ⟨v, cv, q1, q2, q3⟩ := lookup_sound (K := fun v => K v h) r (hρ m) (hρ k) hk
      exact val (by simp [execOp, q3]) q1 (Ghost.le.refl g) q2 r (Kept.refl _ _)
    | mapUpdate t m k v =>
      obtain ⟨h', w', q1, q2, q3, q4⟩ := mapset_sound r (hρ m) (hρ k) (hρ v) hk
      have he : (execOp a.eval ⟨dst, .mapUpdate t m k v, ty, pos, after, guard⟩).run P w = .ok .skip w' := by simp [execOp, q4]
      unfold Oper.wp
      rw [he]
      exact hn .any undef h' g w' q1 (Ghost.le.refl g) (.any _) q2 q3
    | range t m =>
      obtain ⟨v, cv, h', g', w', q1, q2, q3, q4, q5, q6⟩ := range_sound r (hρ m) hk
      exact val (by simp [execOp, q6]) q1 q2 q3 q4 q5
    | next it s =>
      obtain ⟨v, cv, h', w', q1, q3, q4, q5, q6⟩ := next_sound r (hρ it) hk ty
      exact val (by simp [execOp, q6]) q1 (Ghost.le.refl g) q3 q4 q5
    | entry it =>
      obtain ⟨v, cv, q1, q2, q3⟩ := entry_sound (K := fun v => K v h) r (hρ it) hk
      exact val (by simp [execOp, q3]) q1 (Ghost.le.refl g) q2 r (Kept.refl _ _)
    | _ => exact hk.elim
end

end Go.H
