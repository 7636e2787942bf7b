/- Why the rule of a region that draws its order holds. -/
import Derived.Test.YtclolaieehmgmaaGreatHDraw
set_option linter.unusedVariables false
set_option linter.unusedSimpArgs false
namespace Go.H

/-- a name under which nothing lies yet -/
def Ghost.free (g : Ghost) (x : Nat) : Prop := g.var x = none ∧ ∀ n, g.row x n = none

theorem Ghost.le.free {g g' : Ghost} (h : g.le g') {x : Nat} (hx : x < g.nx) (hf : g.free x) : g'.free x := ⟨(h.varo x hx).trans hf.1, h.rowo x hx hf.2⟩

theorem blk_free {g : Ghost} {x : Nat} (hf : g.free x) (ob : HObj) : g.blk x ob = none := by
  cases ob <;> first | exact hf.1 | simp [Ghost.blk, hf.2]

theorem Rel.reserve {P : Program} {Fr : Nat → Prop} {g : Ghost} {h : HH} {w : World} (r : Rel P Fr g h w) (ob : HObj) :
    h g.nx = none ∧ g.le { g with nx := g.nx + 1 } ∧ g.free g.nx ∧ Rel P Fr { g with nx := g.nx + 1 } (h.new g.nx ob) w := by
  obtain ⟨f1, f2, f3, f4⟩ := r.fresh g.nx (Nat.le_refl _)
  have hl : g.le { g with nx := g.nx + 1 } := ⟨Nat.le_succ _, fun _ _ e => e, fun _ _ _ e => e, fun _ _ _ e => e, fun _ _ _ e => e, fun _ _ => rfl, fun _ _ e => e⟩
  have hfr : Ghost.free { g with nx := g.nx + 1 } g.nx := ⟨f2, f3⟩
  refine ⟨f1, hl, ⟨f2, f3⟩, r.step hl (Nat.le_refl _) r.imm (fun x ob e => ?_) (fun x hx => ?_) r.rtop (by simp [HH.new])⟩
  · by_cases hx : x = g.nx
    · subst hx
      rw [HH.new_same] at e
      cases e
      refine .inr ⟨?_, fun b hb => by rw [blk_free hfr] at hb; cases hb⟩
      cases ob with
      | row im e ds => exact ⟨fun _ => f3, fun b c sz hb => by have hb' : g.row g.nx ds.length = some (b, c, sz) := hb; rw [f3] at hb'; cases hb'⟩
      | _ => exact fun b hb => by have hb' : g.var g.nx = some b := hb; rw [f2] at hb'; cases hb'
    · rw [HH.new_ne _ _ hx] at e
      exact .inl ⟨e, rfl, fun b hb => ⟨rfl, (r.apart x ob b e hb).2.1⟩⟩
  · have hx' : g.nx + 1 ≤ x := hx
    obtain ⟨b1, b2, b3, b4⟩ := r.fresh x (by omega)
    exact ⟨by rw [HH.new_ne _ _ (by omega)]; exact b1, b2, b3, b4⟩

def Ghost.setVar (g : Ghost) (x b : Nat) : Ghost := { g with var := fun y => if y = x then some b else g.var y }

theorem Ghost.setVar_wle {g : Ghost} {x b : Nat} (hv : g.var x = none) : g.wle (g.setVar x b) := ⟨Nat.le_refl _, fun y c ee => by
    have : y ≠ x := by rintro rfl; rw [hv] at ee; cases ee
    simp [Ghost.setVar, this, ee], fun _ _ _ e => e, fun _ _ _ e => e, fun _ _ _ e => e⟩

theorem Rel.bindVar {P : Program} {Fr : Nat → Prop} {g : Ghost} {h : HH} {w : World} (r : Rel P Fr g h w) {x : Nat} {ob : HObj} (hx : h x = some ob) (hv : g.var x = none)
    (o : Obj) (hk : ∀ g' : Ghost, g'.blk x ob = g'.var x) (ho : ObjR P (g.setVar x w.heap.size) (w.alloc o) x ob) : g.wle (g.setVar x w.heap.size) ∧ Rel P Fr (g.setVar x w.heap.size) h (w.alloc o) := by
  have hl : g.wle (g.setVar x w.heap.size) := Ghost.setVar_wle hv
  refine ⟨hl, r.step' hl (by simp) (fun b o v ee => ?_) (fun y ob ee => ?_) (fun y hy => ?_) r.rtop r.sup⟩
  · obtain ⟨a1, a2⟩ := r.imm b o v ee
    exact ⟨by rw [World.cell?_of_block (w := w) (heap_push_lt w _ (World.block_lt_of_cell? w _ a1))]; exact a1, a2⟩
  · by_cases hyx : y = x
    · subst hyx
      rw [hx] at ee
      cases ee
      refine .inr ⟨ho, fun b hb => ?_⟩
      · rw [hk] at hb
        have hb' : b = w.heap.size := by simpa [Ghost.setVar] using hb.symm
        subst hb'
        refine ⟨fun hf => absurd (r.frlt _ hf) (by omega), fun o _ => ?_, by simp, fun z oz hz ez hbz => ?_⟩
        · cases hi : (g.setVar y w.heap.size).imm w.heap.size o with
          | none => rfl
          | some v => have := World.block_lt_of_cell? w _ (r.imm _ _ _ hi).1; simp at this
        · have hs : g.same (g.setVar y w.heap.size) z := ⟨by simp [Ghost.setVar, hz], fun h => h⟩
          rw [blk_rows' hl hs (r.obj _ _ ez)] at hbz
          have := (r.apart _ _ _ ez hbz).2.2
          omega
    · refine .inl ⟨ee, ⟨by simp [Ghost.setVar, hyx], fun h => h⟩, rfl, fun b hb => ?_⟩
      obtain ⟨a1, a2, a3⟩ := r.apart y ob b ee hb
      exact ⟨heap_push_lt w _ a3, a2⟩
  · obtain ⟨b1, b2, b3, b4⟩ := r.fresh y hy
    have hyx : y ≠ x := by rintro rfl; rw [b1] at hx; cases hx
    exact ⟨b1, by simp [Ghost.setVar, hyx, b2], b3, b4⟩

def Ghost.setRow (g : Ghost) (x n : Nat) (hd : Nat × Nat × Nat) : Ghost :=
  { g with row := fun y k => if y = x ∧ k = n then some hd else g.row y k, top := fun y => if y = x then n else g.top y }

theorem Ghost.setRow_wle {g : Ghost} {x n : Nat} {hd : Nat × Nat × Nat} (hv : ∀ k, g.row x k = none) : g.wle (g.setRow x n hd) := ⟨Nat.le_refl _, fun _ _ e => e, fun y k r e => by
    simp only [Ghost.setRow]
    split
    · rename_i hc; obtain ⟨rfl, rfl⟩ := hc; rw [hv] at e; cases e
    · exact e, fun _ _ _ e => e, fun _ _ _ e => e⟩

theorem Rel.bindRow {P : Program} {Fr : Nat → Prop} {g : Ghost} {h : HH} {w : World} (r : Rel P Fr g h w) {x : Nat} {e : TypeId} {ds : List HV} (hx : h x = some (.row false e ds)) (hv : ∀ k, g.row x k = none)
    {c sz : Nat} {cur : Array Value} (hr : RowR P g (w.alloc (.cells cur e)) false e ds w.heap.size c sz cur) :
    g.wle (g.setRow x ds.length (w.heap.size, c, sz)) ∧ Rel P Fr (g.setRow x ds.length (w.heap.size, c, sz)) h (w.alloc (.cells cur e)) := by
  have hl : g.wle (g.setRow x ds.length (w.heap.size, c, sz)) := Ghost.setRow_wle hv
  refine ⟨hl, r.step' hl (by simp) (fun b o v ee => ?_) (fun y ob ee => ?_) (fun y hy => ?_) (fun y k r' e' => ?_) r.sup⟩
  · obtain ⟨a1, a2⟩ := r.imm b o v ee
    exact ⟨by rw [World.cell?_of_block (w := w) (heap_push_lt w _ (World.block_lt_of_cell? w _ a1))]; exact a1, a2⟩
  · by_cases hyx : y = x
    · subst hyx
      rw [hx] at ee
      cases ee
      refine .inr ⟨⟨fun hn => by simp [Ghost.setRow] at hn, fun b c' sz' hb => ?_⟩, fun b hb => ?_⟩
      · simp only [Ghost.setRow, and_self, if_true, Option.some.injEq, Prod.mk.injEq] at hb
        obtain ⟨rfl, rfl, rfl⟩ := hb
        exact ⟨by simp [Ghost.setRow], hr.esz, hr.len, hr.max, fun _ => ⟨cur, hr.blk, hr.size, hr.one, hr.elem, fun i d j v e1 e2 => (hr.rd i d j v e1 e2).wmono hl, fun hf => by cases hf⟩⟩
      · have hb' : b = w.heap.size := by
          simp only [Ghost.blk, Ghost.setRow, and_self, if_true, Option.bind_some] at hb
          split at hb <;> simp_all
        subst hb'
        refine ⟨fun hf => absurd (r.frlt _ hf) (by omega), fun o _ => ?_, by simp, fun z oz hz ez hbz => ?_⟩
        · cases hi : (g.setRow y ds.length (w.heap.size, c, sz)).imm w.heap.size o with
          | none => rfl
          | some v => have := World.block_lt_of_cell? w _ (r.imm _ _ _ hi).1; simp at this
        · have hs : g.same (g.setRow y ds.length (w.heap.size, c, sz)) z := ⟨rfl, fun h k => by simp [Ghost.setRow, hz, h k]⟩
          rw [blk_rows' hl hs (r.obj _ _ ez)] at hbz
          have := (r.apart _ _ _ ez hbz).2.2
          omega
    · refine .inl ⟨ee, ⟨rfl, fun h k => by simp [Ghost.setRow, hyx, h k]⟩, by simp [Ghost.setRow, hyx], fun b hb => ?_⟩
      obtain ⟨a1, a2, a3⟩ := r.apart y ob b ee hb
      exact ⟨heap_push_lt w _ a3, a2⟩
  · obtain ⟨b1, b2, b3, b4⟩ := r.fresh y hy
    have hyx : y ≠ x := by rintro rfl; rw [b1] at hx; cases hx
    exact ⟨b1, b2, fun k => by simp [Ghost.setRow, hyx, b3 k], b4⟩
  · simp only [Ghost.setRow] at e' ⊢
    split at e'
    · rename_i hc; obtain ⟨rfl, rfl⟩ := hc; simp
    · split
      · rename_i hc; subst hc; rw [hv] at e'; cases e'
      · exact r.rtop y k r' e'

/-- what an operation touches of the frame -/
def touch (ops : Array Oper) (o : Oper) : List Tmp := o.looksAt ops ++ o.dst.toList

def isAssign : Op → Bool
  | .assign _ => true
  | _ => false

def ssaOk (ops : Array Oper) : Bool :=
  ops.toList.zipIdx.all fun x =>
    (dep x.1).all (fun d => d < x.2) &&
    (if isAssign x.1.op then x.1.guard.isNone else match x.1.dst with | none => true | some d => !(x.1.looksAt ops).contains d) &&
    (match x.1.dst with
    | none => true
    | some d => ops.toList.zipIdx.all fun y => y.2 == x.2 ||
        (y.1.dst != some d && (!(y.1.looksAt ops).contains d || (if x.2 < y.2 then (dep y.1).contains x.2 else isAssign x.1.op && x.1.guard.isNone && (dep x.1).contains y.2))))

theorem ssa_dep {ops : Array Oper} (h : ssaOk ops = true) {i : Nat} {o : Oper} (ho : ops[i]? = some o) : ∀ d ∈ dep o, d < i := by
  have hm : (o, i) ∈ ops.toList.zipIdx := by
    rw [List.mem_zipIdx_iff_getElem?]; simpa using ho
  have := List.all_eq_true.1 h _ hm
  simp only [Bool.and_eq_true] at this
  intro d hd
  have := List.all_eq_true.1 this.1.1 d hd
  simpa using this

theorem ssa_own {ops : Array Oper} (h : ssaOk ops = true) {i : Nat} {o : Oper} (ho : ops[i]? = some o) (he : isAssign o.op = false ∨ o.guard ≠ none) {d : Tmp} (hd : o.dst = some d) : d ∉ o.looksAt ops := by
  have hm : (o, i) ∈ ops.toList.zipIdx := by
    rw [List.mem_zipIdx_iff_getElem?]; simpa using ho
  have := List.all_eq_true.1 h _ hm
  simp only [Bool.and_eq_true, hd] at this
  have h2 := this.1.2
  split at h2
  · rename_i ha
    rcases he with he | he
    · rw [ha] at he; cases he
    · exact absurd (by simpa using h2) he
  · simpa using h2

theorem ssa_dst {ops : Array Oper} (h : ssaOk ops = true) {i j : Nat} {o u : Oper} (ho : ops[i]? = some o) (hu : ops[j]? = some u) (hij : j ≠ i) {d : Tmp} (hd : o.dst = some d) :
    u.dst ≠ some d ∧ (d ∈ u.looksAt ops → (i < j ∧ i ∈ dep u) ∨ (j < i ∧ isAssign o.op = true ∧ o.guard = none ∧ j ∈ dep o)) := by
  have hm : (o, i) ∈ ops.toList.zipIdx := by
    rw [List.mem_zipIdx_iff_getElem?]; simpa using ho
  have hm2 : (u, j) ∈ ops.toList.zipIdx := by
    rw [List.mem_zipIdx_iff_getElem?]; simpa using hu
  have h1 := List.all_eq_true.1 h _ hm
  simp only [Bool.and_eq_true, hd] at h1
  have h2 := List.all_eq_true.1 h1.2 _ hm2
  simp only [Bool.or_eq_true, beq_iff_eq, hij, false_or, Bool.and_eq_true, bne_iff_ne, ne_eq] at h2
  refine ⟨h2.1, fun hl => ?_⟩
  have h3 := h2.2.resolve_left (by simpa using hl)
  split at h3
  · rename_i hlt; exact .inl ⟨hlt, by simpa using h3⟩
  · rename_i hlt
    simp only [Bool.and_eq_true, Option.isNone_iff_eq_none] at h3
    exact .inr ⟨by omega, h3.1.1, h3.1.2, by simpa using h3.2⟩

/-- an operation that was computed at the layer and not yet in the model -/
inductive Ex (P : Program) (T : Env) (h : HH) (g : Ghost) (prs : List Pr) (i : Nat) (o : Oper) (v : HV) : Prop
  | pure (hp : ∀ h', hop P o.op (hev T) h' fun u k => u = v ∧ k = h')
  | rd (q : HRead) (ho : opRead (hev T) o.op = some q) (hm : Pr.rd i q v ∈ prs) (hk : (Pr.rd i q v).ok P h)
  | obj (x : Nat) (ob : HObj) (f : Nat → HV) (hv : v = f x) (hm : Pr.obj i x ob ∈ prs) (hk : h x = some ob) (hg : g.free x) (hx : x < g.nx) (hac : AC P o.op (hev T) ob f)

structure Un (P : Program) (ds : List (Option Tmp)) (D : List (Nat × Oper)) (T : Env) (h : HH) (g : Ghost) (prs : List Pr) (i : Nat) (o : Oper) : Prop where
  deps : ∀ d ∈ dep o, ∀ u, (d, u) ∉ D
  what : (∃ v, eff o.op = false ∧ (∀ d, o.dst = some d → T.get d = v) ∧ (o.guard = none ∨ ∃ p d, o.guard = some p ∧ gslot ds p.1 = some d ∧ T.get d = .bool p.2) ∧ Ex P T h g prs i o v) ∨
    (∃ p d, o.guard = some p ∧ gslot ds p.1 = some d ∧ (T.get d = .bool (!p.2) ∨ T.get d = .tup []) ∧ ∀ d, o.dst = some d → T.get d = .tup [])

theorem hev_agree {ops : Array Oper} {o : Oper} {T T' : Env} (ha : ∀ t ∈ o.looksAt ops, T'.get t = T.get t) : ∀ x ∈ o.op.operands.toList, hev T x = hev T' x := by
  intro x hx
  cases x with
  | tmp t =>
    simp only [hev]
    refine (ha t ?_).symm
    simp only [Oper.looksAt]
    refine List.mem_append.2 (.inl (List.mem_filterMap.2 ⟨_, hx, rfl⟩))
  | _ => rfl

theorem AC_congr {P : Program} {op : Op} {ρ ρ' : Operand → HV} {ob : HObj} {f : Nat → HV} (he : ∀ x ∈ op.operands.toList, ρ x = ρ' x) (h : AC P op ρ ob f) : AC P op ρ' ob f := by
  cases h with
  | alloc e ho h => exact .alloc e ho h
  | box e y ho h =>
    have : ρ y = ρ' y := he y (by simp [ho, Op.operands])
    rw [this] at h ⊢
    exact .box e y ho h
  | make t l c k k' n m ho h1 h2 h3 h4 h0 h5 h6 h7 =>
    exact .make t l c k k' n m ho (by rw [← he l (by simp [ho, Op.operands])]; exact h1) (by rw [← he c (by simp [ho, Op.operands])]; exact h2) h3 h4 h0 h5 h6 h7
  | mkmap t ho => exact .mkmap t ho

/-- What was promised stands in a later state. -/
theorem Un.later {P : Program} {ops : Array Oper} {D D' : List (Nat × Oper)} {T T' : Env} {h h' : HH} {g g' : Ghost} {prs prs' : List Pr} {i : Nat} {o : Oper}
    (u : Un P (ops.toList.map (·.dst)) D T h g prs i o) (hD : ∀ p ∈ D', ∃ u, (p.1, u) ∈ D) (ha : ∀ t ∈ touch ops o, T'.get t = T.get t)
    (hpr : ∀ p ∈ prs, p ∈ prs') (hok : ∀ p ∈ prs, p.idx = i → p.ok P h → p.ok P h') (hg : ∀ x, x < g.nx → g.free x → (∃ ob, Pr.obj i x ob ∈ prs) → g'.free x) (hnx : g.nx ≤ g'.nx) : Un P (ops.toList.map (·.dst)) D' T' h' g' prs' i o := by
  have hlook : ∀ t ∈ o.looksAt ops, T'.get t = T.get t := fun t ht => ha t (List.mem_append.2 (.inl ht))
  have hdst : ∀ d, o.dst = some d → T'.get d = T.get d := fun d hd => ha d (List.mem_append.2 (.inr (by simp [hd])))
  have hguard : ∀ p d, o.guard = some p → gslot (ops.toList.map (·.dst)) p.1 = some d → T'.get d = T.get d := fun p d hp hd => by
    refine hlook d ?_
    simp only [Oper.looksAt, hp]
    refine List.mem_append.2 (.inr ?_)
    unfold gslot at hd
    rw [List.getElem?_map] at hd
    have : ops.toList[p.1]? = ops[p.1]? := by simp
    rw [this] at hd
    cases ho : ops[p.1]? with
    | none => rw [ho] at hd; cases hd
    | some y =>
      rw [ho] at hd
      have : y.dst = some d := by simpa using hd
      simp [this]
  have hev' := hev_agree hlook
  refine ⟨fun d hd v hv => ?_, ?_⟩
  · obtain ⟨u', hu'⟩ := hD _ hv
    exact u.deps d hd u' hu'
  · rcases u.what with ⟨v, h0, h1, h2, h3⟩ | ⟨p, d, h1, h2, h3, h4⟩
    · refine .inl ⟨v, h0, fun d hd => by rw [hdst d hd]; exact h1 d hd, ?_, ?_⟩
      · rcases h2 with h2 | ⟨p, d, q1, q2, q3⟩
        · exact .inl h2
        · exact .inr ⟨p, d, q1, q2, by rw [hguard p d q1 q2]; exact q3⟩
      · cases h3 with
        | pure hp => exact .pure fun k => by rw [← hop_congr hev']; exact hp k
        | rd q ho hm hk => exact .rd q (by rw [← opRead_congr hev']; exact ho) (hpr _ hm) (hok _ hm rfl hk)
        | obj x ob f hv hm hk hgx hx hac => exact .obj x ob f hv (hpr _ hm) (hok _ hm rfl hk) (hg x hx hgx ⟨ob, hm⟩) (Nat.lt_of_lt_of_le hx hnx) (AC_congr hev' hac)
    · exact .inr ⟨p, d, h1, h2, by rw [hguard p d h1 h2]; exact h3, fun d hd => by rw [hdst d hd]; exact h4 d hd⟩

end Go.H
