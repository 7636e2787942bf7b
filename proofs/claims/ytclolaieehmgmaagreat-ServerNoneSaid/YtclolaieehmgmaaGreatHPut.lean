/- Stores, new blocks, cells that nobody writes any more. -/
import Derived.Test.YtclolaieehmgmaaGreatHMem
set_option linter.unusedVariables false
set_option linter.unusedSimpArgs false
namespace Go.H

def HV.val : HV → Bool
  | .any | .tup _ => false
  | _ => true

def splice (cs : List HV) (o : Nat) (vs : List HV) : List HV := cs.take o ++ vs ++ cs.drop (o + vs.length)

theorem cells_of {g : Ghost} {v : HV} {c : Value} (h : VR g v c) (hv : v.val = true) : c.cells.size = v.cells.length ∧
    (∀ (j : Nat) (u : Value), c.cells[j]? = some u → u.oneCell' = true) ∧ ∀ (j : Nat) (u : HV), v.cells[j]? = some u → VR g u (c.cells.getD j undef) := by
  have one : ∀ (v : HV) (c : Value), VR g v c → c.oneCell' = true → c.cells = #[c] → v.cells = [v] → c.cells.size = v.cells.length ∧
      (∀ (j : Nat) (u : Value), c.cells[j]? = some u → u.oneCell' = true) ∧ ∀ (j : Nat) (u : HV), v.cells[j]? = some u → VR g u (c.cells.getD j undef) := by
    intro v c h h1 e1 e2
    rw [e1, e2]
    refine ⟨rfl, fun j u e => ?_, fun j u e => ?_⟩
    · cases j with
      | zero => cases e; exact h1
      | succ j => cases e
    · cases j with
      | zero => cases e; exact h
      | succ j => cases e
  cases h with
  | any => cases hv
  | tup => cases hv
  | agg cs a hs h1 h => exact ⟨hs, h1, h⟩
  | _ => exact one _ _ (by constructor <;> assumption) rfl rfl rfl

theorem Rel.setRow {P : Program} {Fr : Nat → Prop} {g : Ghost} {h : HH} {w : World} (r : Rel P Fr g h w) {x b : Nat} {ob ob' : HObj} (hx : h x = some ob) (hb : g.blk x ob = some b)
    (hb' : g.blk x ob' = some b) (hm : ∀ o, ob'.mine P o → ob.mine P o) {cur arr : Array Value} {e : TypeId} {fr : Nat × Nat} (hc : w.heap[b]? = some (.cells cur e fr))
    (ho : ObjR P g (w.setRow b arr) x ob') (hi : ∀ o v, g.imm b o = some v → arr[o]? = some v) :
    Rel P Fr g (h.set x ob') (w.setRow b arr) ∧ Kept Fr w (w.setRow b arr) := by
  obtain ⟨a1, a2, a3⟩ := r.apart x ob b hx hb
  refine ⟨r.step (Ghost.le.refl g) (by simp) (fun b' o v e' => ?_) (fun y oy ey => ?_) (fun y hy => ?_) r.rtop r.sup, ⟨rfl, rfl, rfl, by simp, fun k hk => setRow_other w b k arr (by rintro rfl; exact a1 hk)⟩⟩
  · obtain ⟨i1, i2⟩ := r.imm b' o v e'
    by_cases hbb : b' = b
    · subst hbb
      exact ⟨by rw [cell_setRow_same w b' o cur arr e fr hc]; exact hi o v e', i2⟩
    · exact ⟨by rw [cell_setRow_other w b arr _ hbb]; exact i1, i2⟩
  · by_cases hyx : y = x
    · subst hyx
      rw [HH.set_same] at ey
      cases ey
      refine .inr ⟨ho, fun k hk => ?_⟩
      rw [hb'] at hk
      cases hk
      refine ⟨a1, fun o hmo => a2 o (hm o hmo), by simpa using a3, fun z oz hz ez hbz => ?_⟩
      rw [HH.set_ne _ _ hz] at ez
      exact hz (r.uniq z y oz ob b ez hx hbz hb)
    · rw [HH.set_ne _ _ hyx] at ey
      refine .inl ⟨ey, rfl, fun k hk => ⟨setRow_other w b k arr ?_, (r.apart y oy k ey hk).2.1⟩⟩
      rintro rfl
      exact hyx (r.uniq y x oy ob k ey hx hk hb)
  · obtain ⟨f1, f2⟩ := r.fresh y hy
    have : y ≠ x := by rintro rfl; rw [f1] at hx; cases hx
    exact ⟨by rw [HH.set_ne _ _ this]; exact f1, f2⟩

theorem getD_splice {cur : Array Value} {vs : List Value} {o : Nat} (hl : o + vs.length ≤ cur.size) (k : Nat) :
    ((cur.toList.take o ++ vs ++ cur.toList.drop (o + vs.length)).toArray).getD k undef = if k < o then cur.getD k undef else if k < o + vs.length then vs.getD (k - o) undef else cur.getD k undef := by
  have ht : (cur.toList.take o).length = o := by simp; omega
  simp only [Array.getD_eq_getD_getElem?, List.getD_eq_getElem?_getD, List.getElem?_toArray]
  congr 1
  split
  · rename_i h
    rw [List.append_assoc, List.getElem?_append_left (by omega), List.getElem?_take, if_pos h]; simp
  · rename_i h
    split
    · rename_i h2
      rw [List.append_assoc, List.getElem?_append_right (by omega), ht, List.getElem?_append_left (by omega)]
    · rename_i h2
      rw [List.append_assoc, List.getElem?_append_right (by omega), ht, List.getElem?_append_right (by omega), List.getElem?_drop]
      have : o + vs.length + (k - o - vs.length) = k := by omega
      rw [this]; simp

theorem get_splice {cs vs : List HV} {o : Nat} (hl : o + vs.length ≤ cs.length) (k : Nat) :
    (splice cs o vs)[k]? = if k < o then cs[k]? else if k < o + vs.length then vs[k - o]? else cs[k]? := by
  have ht : (cs.take o).length = o := by simp; omega
  unfold splice
  split
  · rename_i h
    rw [List.append_assoc, List.getElem?_append_left (by omega), List.getElem?_take, if_pos h]
  · rename_i h
    split
    · rename_i h2
      rw [List.append_assoc, List.getElem?_append_right (by omega), ht, List.getElem?_append_left (by omega)]
    · rename_i h2
      rw [List.append_assoc, List.getElem?_append_right (by omega), ht, List.getElem?_append_right (by omega), List.getElem?_drop]
      congr 1; omega

theorem length_splice {cs vs : List HV} {o : Nat} (hl : o + vs.length ≤ cs.length) : (splice cs o vs).length = cs.length := by
  simp [splice]; omega

theorem size_splice {cur : Array Value} {vs : List Value} {o : Nat} (hl : o + vs.length ≤ cur.size) : ((cur.toList.take o ++ vs ++ cur.toList.drop (o + vs.length)).toArray).size = cur.size := by
  simp; omega

theorem one_splice {cur : Array Value} {vs : List Value} {o : Nat} (h1 : ∀ (j : Nat) (v : Value), cur[j]? = some v → v.oneCell' = true) (h2 : ∀ u ∈ vs, u.oneCell' = true) :
    ∀ (j : Nat) (v : Value), ((cur.toList.take o ++ vs ++ cur.toList.drop (o + vs.length)).toArray)[j]? = some v → v.oneCell' = true := by
  intro j v e
  have hm : v ∈ cur.toList.take o ++ vs ++ cur.toList.drop (o + vs.length) := by
    rw [List.getElem?_toArray] at e
    exact List.mem_of_getElem? e
  have hc : ∀ u ∈ cur.toList, u.oneCell' = true := fun u hu => by
    obtain ⟨i, hi⟩ := List.getElem?_of_mem hu
    exact h1 i u (by simpa using hi)
  rcases List.mem_append.1 hm with h | h
  · rcases List.mem_append.1 h with h | h
    · exact hc v (List.mem_of_mem_take h)
    · exact h2 v h
  · exact hc v (List.mem_of_mem_drop h)

theorem ones_list {c : Value} (h : ∀ (j : Nat) (u : Value), c.cells[j]? = some u → u.oneCell' = true) : ∀ u ∈ c.cells.toList, u.oneCell' = true := by
  intro u hu
  obtain ⟨i, hi⟩ := List.getElem?_of_mem hu
  exact h i u (by simpa using hi)

theorem run_storeCells_fr (P : Program) (g o : Nat) (t : TypeId) (fz : Nat × Nat) : ∀ (vs : List Value) (i : Nat) (cur : Array Value) (w : World), w.heap[g]? = some (.cells cur t fz) → frOk fz cur.size → o + i + vs.length ≤ cur.size → (∀ v ∈ vs, v.oneCell' = true) →
    (storeCells ⟨g, o, none⟩ vs i).run P w = .ok () (w.setRow g (cur.toList.take (o + i) ++ vs ++ cur.toList.drop (o + i + vs.length)).toArray)
  | [], i, cur, w, hg, _, _, _ => by
    simp only [storeCells, List.append_nil, List.length_nil, Nat.add_zero, List.take_append_drop, Array.toArray_toList]
    rw [setRow_self w g cur t fz hg]
    rfl
  | v :: rest, i, cur, w, hg, hfz, hl, h1 => by
    have hi : o + i < cur.size := by simp at hl; omega
    have hadd : (⟨g, o, none⟩ : Addr).add i = ⟨g, o + i, none⟩ := by unfold Addr.add; split <;> simp_all
    have hcell : w.cell? ⟨g, o + i, none⟩ = some cur[o + i] := by simp [World.cell?, hg, hi]
    have hfro : w.frozen? ⟨g, o + i, none⟩ = false := by
      obtain ⟨lo, hi'⟩ := fz
      simp only [World.frozen?, hg, Bool.and_eq_false_iff, decide_eq_false_iff_not]
      rcases hfz with hz | hz
      · right; simp only at hz; omega
      · left; simp only at hz; omega
    have hst : (store ((⟨g, o, none⟩ : Addr).add i) v).run P w = .ok () (w.setRow g (cur.setIfInBounds (o + i) v)) := by
      rw [hadd, run_store P w _ v _ (h1 v (by simp)), hcell]
      simp [hfro, setCell_eq_setRow w g (o + i) cur t fz v hg]
    have ih := run_storeCells_fr P g o t fz rest (i + 1) (cur.setIfInBounds (o + i) v) (w.setRow g (cur.setIfInBounds (o + i) v)) (setRow_heap w g cur _ t _ hg) (by simpa using hfz) (by simp at hl ⊢; omega) (fun x hx => h1 x (by simp [hx]))
    simp only [storeCells, Sem.run_bind, hst, Result.andThen_ok, ih, setRow_setRow]
    congr 3
    have e := list_seg_step cur.toList (o + i) v rest (by simp at hl ⊢; omega)
    simpa [Array.toList_setIfInBounds, Nat.add_assoc] using e

/-- A store into a block of variables. -/
theorem Rel.store {P : Program} {Fr : Nat → Prop} {g : Ghost} {h : HH} {w : World} (r : Rel P Fr g h w) {x b o : Nat} {cs : List HV} (hv : g.var x = some b) (hx : h x = some (.cells cs))
    {v : HV} {c : Value} (hc : VR g v c) (hval : v.val = true) (ho : o + v.cells.length ≤ cs.length) :
    ∃ w', (storeCells ⟨b, o, none⟩ c.cells.toList).run P w = .ok () w' ∧ Rel P Fr g (h.set x (.cells (splice cs o v.cells))) w' ∧ Kept Fr w w' := by
  obtain ⟨arr, e, a1, a2, a3, a4⟩ := r.obj x _ hx b hv
  obtain ⟨c1, c2, c3⟩ := cells_of hc hval
  have hl : o + c.cells.toList.length ≤ arr.size := by simp [c1, a2]; omega
  have hrun := run_storeCells_at P b o e c.cells.toList 0 arr w a1 (by simpa using hl) (ones_list c2)
  simp only [Nat.add_zero] at hrun
  refine ⟨_, hrun, r.setRow hx (by simpa [Ghost.blk] using hv) (by simpa [Ghost.blk] using hv) (fun o h => trivial) a1 ?_ (fun o v e => ?_)⟩
  · intro b' hb'
    rw [hv] at hb'
    cases hb'
    refine ⟨_, e, setRow_heap w b arr _ e (0, 0) a1, by rw [size_splice hl, a2, length_splice ho], one_splice a3 (ones_list c2), fun j u eu => ?_⟩
    rw [getD_splice hl]
    rw [get_splice ho] at eu
    simp only [Array.length_toList, c1] at *
    split at eu
    · rename_i hj; rw [if_pos hj]; exact a4 j u eu
    · rename_i hj
      rw [if_neg hj]
      split at eu
      · rename_i hj2
        rw [if_pos hj2]
        have := c3 (j - o) u eu
        simpa [Array.getD_eq_getD_getElem?, List.getD_eq_getElem?_getD] using this
      · rename_i hj2; rw [if_neg hj2]; exact a4 j u eu
  · have := (r.apart x _ b hx (by simpa [Ghost.blk] using hv)).2.1 o trivial
    rw [this] at e; cases e

end Go.H
