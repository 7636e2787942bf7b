/- The rule of a region that draws its order. -/
import Derived.Test.YtclolaieehmgmaaGreatHDraw5
set_option linter.unusedVariables false
set_option linter.unusedSimpArgs false
namespace Go.H

def dstsOk (nt : Nat) (ops : Array Oper) : Bool := ops.toList.all fun o => match o.dst with | none => true | some d => decide (d < nt)

theorem dstsOk_of {nt : Nat} {ops : Array Oper} (h : dstsOk nt ops = true) {i : Nat} {o : Oper} (ho : ops[i]? = some o) : ∀ d, o.dst = some d → d < nt := by
  intro d hd
  have hm : o ∈ ops.toList := by
    have h' : ops.toList[i]? = some o := by simpa using ho
    exact List.mem_of_getElem? h'
  have := List.all_eq_true.1 h _ hm
  rw [hd] at this
  simpa using this

theorem yielded_of {ops : Array Oper} {tmps : Array Value} {g : Ghost} {j : Nat} {d : Tmp} {b : Bool} (hd : gslot (ops.toList.map (·.dst)) j = some d) (hv : VR g (.bool b) (tmps.getD d undef)) : yielded ops tmps j = some b := by
  generalize hcd : tmps.getD d undef = cd at hv
  cases hv
  have hdl : d < tmps.size := by
    rcases Nat.lt_or_ge d tmps.size with h' | h'
    · exact h'
    · simp [Array.getD, Nat.not_lt.2 h', undef] at hcd
  have hget : tmps[d]? = some (.bool b) := by
    rw [← hcd]; simp [Array.getD, hdl]
  unfold yielded
  have hd' : (ops[j]?).bind (·.dst) = some d := by
    unfold gslot at hd
    rw [List.getElem?_map] at hd
    have : ops.toList[j]? = ops[j]? := by simp
    rw [this] at hd
    cases ho : ops[j]? with
    | none => rw [ho] at hd; cases hd
    | some x => rw [ho] at hd; simpa using hd
  rw [hd']; simp [hget]

section
variable {P : Program} {ops : Array Oper} {nt : Nat} {Fr : Nat → Prop} {g0 : Ghost} {w0 : World} {D : List (Nat × Oper)} {T : Env} {h : HH} {g : Ghost} {prs : List Pr} {tmps : Array Value} {w : World} {Q : Exit → Env → HH → Prop}

theorem guard_wanted {L : Nat → Prop} (v : Inv P ops nt Fr g0 w0 L D T h g prs tmps w) (ssa : ssaOk ops = true) {i : Nat} {o : Oper} (ho : ops[i]? = some o) (hr : ∀ d ∈ dep o, L d) (hi : (i, o) ∈ D ∨ isAssign o.op = false ∨ o.guard ≠ none)
    {q : Nat × Bool} {d : Tmp} {b : Bool} (h1 : o.guard = some q) (h2 : gslot (ops.toList.map (·.dst)) q.1 = some d) (h3 : T.get d = .bool b) : Region.wanted o (yielded ops tmps) = (b == q.2) := by
  have hl := v.looks ssa ho hr hi d (guard_looks h1 h2)
  rw [h3] at hl
  have hy := yielded_of h2 hl
  simp only [Region.wanted, h1, hy]; simp

theorem Inv.congrL {L L' : Nat → Prop} (v : Inv P ops nt Fr g0 w0 L D T h g prs tmps w) (h' : ∀ j, L' j ↔ L j) : Inv P ops nt Fr g0 w0 L' D T h g prs tmps w := by
  have : L' = L := funext fun j => propext (h' j)
  rw [this]; exact v

theorem setVar_le {x b : Nat} (h1 : g0.le g) (h2 : g0.nx ≤ x) (h3 : g.var x = none) : g0.le (g.setVar x b) :=
  ⟨h1.nx, fun y c e => by
    have e' := h1.var y c e
    have : y ≠ x := by rintro rfl; rw [h3] at e'; cases e'
    simp [Ghost.setVar, this, e'], h1.row, h1.imm, h1.mp, fun y hy => by
      have : y ≠ x := by omega
      simp [Ghost.setVar, this, h1.varo y hy], h1.rowo⟩

theorem setRow_le {x n : Nat} {hd : Nat × Nat × Nat} (h1 : g0.le g) (h2 : g0.nx ≤ x) (h3 : ∀ k, g.row x k = none) : g0.le (g.setRow x n hd) :=
  ⟨h1.nx, h1.var, fun y k r e => by
    have e' := h1.row y k r e
    have : y ≠ x := by rintro rfl; rw [h3] at e'; cases e'
    simp [Ghost.setRow, this, e'], h1.imm, h1.mp, h1.varo, fun y hy hn k => by
      have : y ≠ x := by omega
      simp [Ghost.setRow, this, h1.rowo y hy hn k]⟩

/-- what a new object comes to in the model -/
theorem AC_bind {op : Op} {a : Act} {o : Oper} (ho : o.op = op) {ρ : Operand → HV} (hρ : ∀ x ∈ op.operands.toList, VR g (ρ x) (a.eval x)) {ob : HObj} {f : Nat → HV} (hac : AC P op ρ ob f)
    (r : Rel P Fr g h w) {x : Nat} (hx : h x = some ob) (hf : g.free x) :
    ∃ cv g' w', (execOp a.eval o).run P w = .ok (.value cv) w' ∧ g.wle g' ∧ (∀ g0 : Ghost, g0.le g → g0.nx ≤ x → g0.le g') ∧ (∀ y, y ≠ x → g.free y → g'.free y) ∧
      VR g' (f x) cv ∧ Rel P Fr g' h w' ∧ Kept Fr w w' := by
  obtain ⟨dst, op', ty, pos, after, guard⟩ := o
  simp only at ho
  subst ho
  have cells : ∀ {cs : List HV} {arr : Array Value} {e : TypeId}, h x = some (.cells cs) → CellsR g cs arr →
      (execOp a.eval ⟨dst, op', ty, pos, after, guard⟩).run P w = .ok (.value (.pointer (some ⟨w.heap.size, 0, none⟩))) (w.alloc (.cells arr e)) →
      ∃ cv g' w', (execOp a.eval ⟨dst, op', ty, pos, after, guard⟩).run P w = .ok (.value cv) w' ∧ g.wle g' ∧ (∀ g0 : Ghost, g0.le g → g0.nx ≤ x → g0.le g') ∧ (∀ y, y ≠ x → g.free y → g'.free y) ∧
        VR g' (.ptr x 0) cv ∧ Rel P Fr g' h w' ∧ Kept Fr w w' := by
    intro cs arr e hx hc he
    have hl : g.wle (g.setVar x w.heap.size) := Ghost.setVar_wle hf.1
    obtain ⟨_, b2⟩ := r.bindVar hx hf.1 (.cells arr e) (fun _ => rfl) (fun b hb => by
      have : b = w.heap.size := by simpa [Ghost.setVar] using hb.symm
      subst this
      exact ⟨arr, e, heap_push_new w _, hc.size, hc.one, fun j v ej => (hc.rd j v ej).wmono hl⟩)
    exact ⟨_, _, _, he, hl, fun g0 h1 h2 => setVar_le h1 h2 hf.1, fun y hy hv => ⟨by simp [Ghost.setVar, hy, hv.1], hv.2⟩, .ptr _ _ _ (by simp [Ghost.setVar]), b2, (Kept.refl Fr w).alloc r.frlt _⟩
  cases hac with
  | alloc e ho h1 =>
    subst ho
    obtain ⟨i, z, hi, hz, hz1, hz2⟩ := CellsR.zero (g := g) h1
    exact cells (e := e) hx hz1 (by simp [execOp, Instr.alloc, zeroValue_run hi hz, newVar, newRow])
  | box e y ho h1 =>
    subst ho
    obtain ⟨c1, c2, c3⟩ := cells_of (hρ y (by simp [Op.operands])) h1
    exact cells (e := e) (arr := (a.eval y).cells) hx ⟨c1, c2, c3⟩ (by simp [execOp, Instr.box, newVar, newRow])
  | make t l c k k' n m ho h1 h2 h3 h4 h0 h5 h6 h7 =>
    subst ho
    have v1 := hρ l (by simp [Op.operands])
    have v2 := hρ c (by simp [Op.operands])
    rw [h1] at v1
    rw [h2] at v2
    obtain ⟨cur, hrun, hR, hLN, hlen⟩ := make_run g k k' h3 h4 h0 h5 h6 h7 w
    have e1 : a.eval l = .int k n := by generalize a.eval l = u at v1; cases v1; rfl
    have e2 : a.eval c = .int k' m := by generalize a.eval c = u at v2; cases v2; rfl
    obtain ⟨b1, b2⟩ := r.bindRow hx hf.2 hR
    refine ⟨.slice (some ⟨w.heap.size, 0, none⟩) n.toNat m.toNat, _, _, by simp [execOp, e1, e2, hrun], b1, fun g0 q1 q2 => setRow_le q1 q2 hf.2, fun y hy hv => ⟨hv.1, fun k => by simp [Ghost.setRow, hy, hv.2 k]⟩, ?_, b2, (Kept.refl Fr w).alloc r.frlt _⟩
    rcases Nat.eq_zero_or_pos m.toNat with h0 | hp
    · have hz : n.toNat = 0 := by omega
      rw [h0, hz]
      exact .msl0 _ _ _ _ (by simp [Ghost.setRow, hz]; rfl)
    · exact .msl _ _ _ _ _ (by simp [Ghost.setRow]) hLN hp hlen
  | mkmap t ho =>
    subst ho
    have hl : g.wle (g.setVar x w.heap.size) := Ghost.setVar_wle hf.1
    obtain ⟨_, b2⟩ := r.bindVar hx hf.1 (.map #[] 0) (fun _ => rfl) (fun b hb => by
      have : b = w.heap.size := by simpa [Ghost.setVar] using hb.symm
      subst this
      exact ⟨#[], heap_push_new w _, rfl, by simp⟩)
    exact ⟨.map (some w.heap.size), _, _, by simp [execOp, Instr.makeMap], hl, fun g0 h1 h2 => setVar_le h1 h2 hf.1, fun y hy hv => ⟨by simp [Ghost.setVar, hy, hv.1], hv.2⟩, .map _ _ (by simp [Ghost.setVar]), b2, (Kept.refl Fr w).alloc r.frlt _⟩

theorem any_of_inv (ssa : ssaOk ops = true) (hds : dstsOk nt ops = true) : ∀ (fuel : Nat) (listed : Array Bool) (n : Nat) {D : List (Nat × Oper)} {T : Env} {h : HH} {g : Ghost} {prs : List Pr} {tmps : Array Value} {w : World},
    listed.size = ops.size → unlisted listed ≤ fuel → hround P nt (ops.toList.map (·.dst)) (ops.toList.map dep) (Q .normal) n D T h prs →
    Inv P ops nt Fr g0 w0 (Lof listed) D T h g prs tmps w → wpAny P .any ops (HPost P Fr nt g0 w0 Q) fuel listed ⟨tmps, []⟩ w := by
  have fin : ∀ {listed : Array Bool} {n : Nat} {D : List (Nat × Oper)} {T : Env} {h : HH} {g : Ghost} {prs : List Pr} {tmps : Array Value} {w : World},
      listed.size = ops.size → hround P nt (ops.toList.map (·.dst)) (ops.toList.map dep) (Q .normal) n D T h prs →
      Inv P ops nt Fr g0 w0 (Lof listed) D T h g prs tmps w → Region.ready .any ops listed = [] → HPost P Fr nt g0 w0 Q .normal ⟨tmps, []⟩ w := by
    intro listed n D T h g prs tmps w hs hr v hnil
    have hall : ∀ i o, ops[i]? = some o → Lof listed i := fun i o ho => Classical.byContradiction fun hn =>
      ready_some hs ssa ops.size i o (Array.getElem?_eq_some_iff.1 ho).1 ho hn hnil
    cases D with
    | nil =>
      have hq : Q .normal T h := by cases n <;> exact hr
      exact ⟨rfl, v.size, T, h, g, hq, v.gle, fun k => v.env k fun i o ho _ => .inl (hall i o ho), v.rel, v.kept⟩
    | cons p D => exact absurd (hall _ _ (v.ofops p (by simp))) (v.ndl p (by simp))
  intro fuel
  induction fuel with
  | zero =>
    intro listed n D T h g prs tmps w hs hu hr v
    have hnil : Region.ready .any ops listed = [] := by
      rw [List.eq_nil_iff_forall_not_mem]
      intro i hi
      obtain ⟨o, ho, hnL, hil, _⟩ := ready_iff hs hi
      have := unlisted_set hil hnL
      omega
    exact ⟨hnil, fin hs hr v hnil⟩
  | succ fuel ih =>
    intro listed n D T h g prs tmps w hs hu hr v
    refine ⟨fun hnil => fin hs hr v hnil, fun i hi => ?_⟩
    obtain ⟨o, ho, hnL, hil, hdl⟩ := ready_iff hs hi
    have hus := unlisted_set hil hnL
    have hs' : (listed.setIfInBounds i true).size = ops.size := by simpa using hs
    have hL' := Lof_set (listed := listed) hil
    refine wpOp_step ho fun K' hK' => ?_
    by_cases hD : ∃ u, (i, u) ∈ D
    · obtain ⟨u, hD⟩ := hD
      have hu' := v.ofops _ hD
      simp only at hu'
      rw [ho] at hu'; cases hu'
      match n, D, hr, v, hD with
      | 0, p :: D0, hr, v, hD => exact hr.elim
      | n + 1, p :: D0, hr, v, hD =>
        have hp : p = (i, o) := by
          rcases List.mem_cons.1 hD with e | hD0
          · exact e.symm
          · exfalso
            have ha := hr.2.1 i (List.mem_map.2 ⟨_, hD0, rfl⟩)
            rcases anc_listed v.lcl ho hdl _ _ (by simp) _ ha with e | hl
            · have hsrt := v.sorted
              rw [List.pairwise_cons] at hsrt
              have := hsrt.1 _ hD0
              simp only at this; omega
            · exact v.ndl p (by simp) hl
        subst hp
        obtain ⟨_, _, hgd, hop'⟩ := hr
        have hw : Region.wanted o (yielded ops tmps) = true := by
          simp only at hgd
          split at hgd
          · rename_i hg; simp [Region.wanted, hg]
          · rename_i q hg
            split at hgd
            · rename_i d hd
              rw [guard_wanted v ssa ho hdl (.inl hD) hg hd hgd]; simp
            · exact hgd.elim
        rw [if_pos hw]
        obtain ⟨hen, hag⟩ := v.envL ssa ho hdl (.inl hD)
        rw [hop_congr hag] at hop'
        refine hop_sound v.rel (hen.ev []) hop' fun x cv h' g' w' k1 k2 k3 k4 k5 => ?_
        obtain ⟨tmps', t1, t2⟩ := v.act ssa hdl k2 k5 k4 k3 k1.1 (dstsOk_of hds ho)
        rw [t1]
        have hb := (hbind_iff k1.2).1
        have t3 := t2.congrL (L' := Lof (listed.setIfInBounds i true)) hL'
        obtain ⟨D', T', h'', g'', prs', s1, s2⟩ := scan_inv ssa D0 [] [] (by simp) hb (by simpa using t3)
        exact hK' _ _ (ih _ n hs' (by omega) s1 s2)
    · have hnD : ∀ u, (i, u) ∉ D := fun u hu => hD ⟨u, hu⟩
      have hun := v.un i o ho hnL hnD
      have go : ∀ {g' : Ghost} {w' : World} {cv : Value}, g.wle g' → g0.le g' → Kept Fr w w' → Rel P Fr g' h w' → (∀ d, o.dst = some d → VR g' (T.get d) cv) →
          (∀ x j, j ≠ i → x < g.nx → g.free x → (∃ ob, Pr.obj j x ob ∈ prs) → g'.free x) → K' ((⟨tmps, []⟩ : Act).put o.dst cv) w' := by
        intro g' w' cv a1 a2 a3 a4 a5 a6
        obtain ⟨tmps', t1, t2⟩ := v.catch ho hnL hdl hnD ssa a1 a2 a3 a4 a5 a6 (dstsOk_of hds ho)
        rw [t1]
        exact hK' _ _ (ih _ n hs' (by omega) hr (t2.congrL hL'))
      rcases hun.what with ⟨x, he, hdst, hg, hex⟩ | ⟨q, d, hg, hd, hb, hdst⟩
      · have hi' : (i, o) ∈ D ∨ isAssign o.op = false ∨ o.guard ≠ none := .inr (.inl (by
          cases hop : o.op <;> first | rfl | (rw [hop] at he; simp [eff] at he)))
        have hw : Region.wanted o (yielded ops tmps) = true := by
          rcases hg with hg | ⟨q, d, hg, hd, hb⟩
          · simp [Region.wanted, hg]
          · rw [guard_wanted v ssa ho hdl hi' hg hd hb]; simp
        rw [if_pos hw]
        obtain ⟨hen, hag⟩ := v.envL ssa ho hdl hi'
        cases hex with
        | pure hp =>
          have hp' := hp h
          rw [hop_congr hag] at hp'
          refine hop_sound v.rel (hen.ev []) hp' fun y cv h' g' w' k1 k2 k3 k4 k5 => ?_
          obtain ⟨rfl, rfl⟩ := k1
          exact go k2.w (v.gle.trans k2) k5 k4 (fun d hd => by rw [hdst d hd]; exact k3) (fun x j _ hx hv _ => k2.free hx hv)
        | rd q hop' hm hk =>
          have hp' : hop P o.op (hev (T.prune (o.looksAt ops))) h fun u k => u = x ∧ k = h := read_hop (by rw [← opRead_congr hag]; exact hop') hk
          refine hop_sound v.rel (hen.ev []) hp' fun y cv h' g' w' k1 k2 k3 k4 k5 => ?_
          obtain ⟨rfl, rfl⟩ := k1
          exact go k2.w (v.gle.trans k2) k5 k4 (fun d hd => by rw [hdst d hd]; exact k3) (fun x j _ hx hv _ => k2.free hx hv)
        | obj x ob f hx hm hk hgx hxl hac =>
          subst hx
          obtain ⟨cv, g', w', c1, c2, c3, c4, c5, c6, c7⟩ := AC_bind (a := ⟨tmps, []⟩) rfl (fun y hy => (hen.ev []) y) (AC_congr hag hac) v.rel hk hgx
          unfold Oper.wp
          rw [c1]
          refine go c2 (c3 g0 v.gle (v.prx _ _ _ hm).1) c7 c6 (fun d hd => by rw [hdst d hd]; exact c5) (fun y j hj hy hv hpr => ?_)
          obtain ⟨ob', hpr⟩ := hpr
          refine c4 y ?_ hv
          rintro rfl
          exact hj (v.uniqx _ _ _ _ _ hpr hm)
      · have hw : Region.wanted o (yielded ops tmps) = false := by
          rcases hb with hb | hb
          · rw [guard_wanted v ssa ho hdl (.inr (.inr (by rw [hg]; simp))) hg hd hb]; simp
          · have hl := v.looks ssa ho hdl (.inr (.inr (by rw [hg]; simp))) d (guard_looks hg hd)
            rw [hb] at hl
            have hy := yielded_undef hd hl
            simp only [Region.wanted, hg, hy]; simp
        rw [if_neg (by rw [hw]; simp)]
        exact go (Ghost.le.refl g).w v.gle (Kept.refl _ _) v.rel (fun d hd => by rw [hdst d hd]; exact VR_undef) (fun x j _ _ hv _ => hv)

theorem HWp.draw {T : Env} {h : HH} {i : Nat} (hm : P.follows .mixedOrders = true) (ssa : ssaOk ops = true) (hds : dstsOk nt ops = true) (hd : hdraw P nt ops.toList (Q .normal) T h) : HWp P nt (.region i ops true) Q T h := by
  intro Fr g w tmps r en hs
  refine wp_region_any hm ?_
  have v : Inv P ops nt Fr g w (Lof (Array.replicate ops.size false)) (ops.toList.zipIdx.map fun x => (x.2, x.1)) T h g [] tmps { w with drawn := w.drawn + 1 } := by
    have hL : ∀ j, ¬ Lof (Array.replicate ops.size false) j := fun j hj => by
      unfold Lof at hj
      rw [Array.getElem?_replicate] at hj
      split at hj <;> simp at hj
    refine ⟨Ghost.le.refl g, (Kept.refl Fr w).drew, r.drew, hs, ?_, ?_, fun p _ => hL _, fun i o _ hl => absurd hl (hL i), ?_, fun k hk => en k, by simp, by simp⟩
    · rw [List.pairwise_map, List.pairwise_iff_getElem]
      intro a b ha hb hab
      simpa using hab
    · intro p hp
      obtain ⟨x, hx, rfl⟩ := List.mem_map.1 hp
      have := List.mem_zipIdx_iff_getElem?.1 hx
      simpa using this
    · intro i o ho hl hD
      refine absurd (List.mem_map.2 ⟨(o, i), ?_, rfl⟩) (hD o)
      rw [List.mem_zipIdx_iff_getElem?]; simpa using ho
  obtain ⟨D', T', h', g', prs', s1, s2⟩ := scan_inv ssa _ [] [] (by simp) hd (by simpa using v)
  refine any_of_inv ssa hds _ _ _ (by simp) ?_ s1 s2
  unfold unlisted
  simp
end
end Go.H
