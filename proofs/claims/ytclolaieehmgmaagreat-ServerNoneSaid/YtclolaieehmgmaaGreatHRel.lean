/- How the heap of the layer moves with the model's world. -/
import Derived.Test.YtclolaieehmgmaaGreatHCore
set_option linter.unusedVariables false
set_option linter.unusedSimpArgs false
namespace Go.H

def HH.set (h : HH) (x : Nat) (ob : HObj) : HH := ⟨fun y => if y = x then some ob else h y, h.nx⟩
def HH.del (h : HH) (x : Nat) : HH := ⟨fun y => if y = x then none else h y, h.nx⟩
def HH.new (h : HH) (x : Nat) (ob : HObj) : HH := ⟨fun y => if y = x then some ob else h y, x + 1⟩
def HH.push (h : HH) (ob : HObj) : HH := h.new h.nx ob

theorem HH.ext {h k : HH} (e : ∀ x, h x = k x) (n : h.nx = k.nx) : h = k := by
  cases h; cases k
  have : ‹Nat → Option HObj› = ‹Nat → Option HObj› := rfl
  simp only [HH.mk.injEq]
  exact ⟨funext e, n⟩
theorem HH.set_same (h : HH) (x : Nat) (ob : HObj) : h.set x ob x = some ob := by simp [HH.set]
theorem HH.set_ne (h : HH) {x y : Nat} (ob : HObj) (e : y ≠ x) : h.set x ob y = h y := by simp [HH.set, e]
theorem HH.set_apply (h : HH) (x : Nat) (ob : HObj) (y : Nat) : h.set x ob y = if y = x then some ob else h y := rfl
theorem HH.set_nx (h : HH) (x : Nat) (ob : HObj) : (h.set x ob).nx = h.nx := rfl
theorem HH.new_same (h : HH) (x : Nat) (ob : HObj) : h.new x ob x = some ob := by simp [HH.new]
theorem HH.new_ne (h : HH) {x y : Nat} (ob : HObj) (e : y ≠ x) : h.new x ob y = h y := by simp [HH.new, e]
theorem HH.new_nx (h : HH) (x : Nat) (ob : HObj) : (h.new x ob).nx = x + 1 := rfl
theorem HH.set_set (h : HH) (x : Nat) (a b : HObj) : (h.set x a).set x b = h.set x b :=
  HH.ext (fun y => by simp only [HH.set]; split <;> rfl) rfl
theorem HH.sub_set {h : HH} {x : Nat} (e : h x = none) (ob : HObj) : Sub h (h.set x ob) := by
  refine ⟨fun y oy hy => ?_, Nat.le_refl _⟩
  have : y ≠ x := by rintro rfl; rw [e] at hy; cases hy
  rw [HH.set_ne _ _ this]; exact hy
theorem HH.sub_del (h : HH) (x : Nat) : Sub (h.del x) h := by
  refine ⟨fun y oy hy => ?_, Nat.le_refl _⟩
  simp only [HH.del] at hy
  split at hy
  · cases hy
  · exact hy

theorem blk_rows' {g g' : Ghost} (hl : g.wle g') {x : Nat} {ob : HObj} (hx : g.same g' x) {P : Program} {w : World} (o : ObjR P g w x ob) : g'.blk x ob = g.blk x ob := by
  cases ob with
  | cells cs => exact hx.1
  | map v es => exact hx.1
  | iter y v s l => exact hx.1
  | row im e ds =>
    simp only [Ghost.blk]
    cases hr : g.row x ds.length with
    | some r => rw [hl.row _ _ _ hr]
    | none => rw [hx.2 (o.1 hr)]

theorem ObjR.keep' {P : Program} {g g' : Ghost} {w w' : World} {x : Nat} {ob : HObj} (o : ObjR P g w x ob) (hl : g.wle g') (hx : g.same g' x) (ht : g'.top x = g.top x)
    (hw : ∀ b, g.blk x ob = some b → w'.heap[b]? = w.heap[b]?) : ObjR P g' w' x ob := by
  cases ob with
  | cells cs =>
    intro b hb
    rw [hx.1] at hb
    obtain ⟨arr, e, h1, h2, h3, h4⟩ := o b hb
    exact ⟨arr, e, by rw [hw b hb]; exact h1, h2, h3, fun j v e => (h4 j v e).wmono hl⟩
  | map clock es =>
    intro b hb
    rw [hx.1] at hb
    obtain ⟨en, h1, h2, h3⟩ := o b hb
    refine ⟨en, by rw [hw b hb]; exact h1, h2, fun i e he => ?_⟩
    obtain ⟨m, a1, a2, a3, a4⟩ := h3 i e he
    exact ⟨m, a1, a2, a3.wmono hl, a4⟩
  | iter y since seen last =>
    intro b hb
    rw [hx.1] at hb
    obtain ⟨bm, h1, h2⟩ := o b hb
    exact ⟨bm, hl.var _ _ h1, by rw [hw b hb]; exact h2⟩
  | row im e ds =>
    refine ⟨fun h0 => ?_, fun b c sz hb => ?_⟩
    · cases hr : g.row x ds.length with
      | some r => rw [hl.row _ _ _ hr] at h0; cases h0
      | none => exact hx.2 (o.1 hr)
    · have hb' : g.row x ds.length = some (b, c, sz) := by
        cases hr : g.row x ds.length with
        | some r => rw [hl.row _ _ _ hr] at hb; exact hb
        | none => rw [hx.2 (o.1 hr)] at hb; cases hb
      obtain ⟨h0, h1, h2, h3, h4⟩ := o.2 b c sz hb'
      refine ⟨ht.trans h0, h1, h2, h3, fun hc => ?_⟩
      obtain ⟨cur, a1, a2, a3, a4, a5, a6⟩ := h4 hc
      have hbk : g.blk x (.row im e ds) = some b := by simp [Ghost.blk, hb', hc]
      exact ⟨cur, by rw [hw b hbk]; exact a1, a2, a3, a4, fun i d j v e1 e2 => (a5 i d j v e1 e2).wmono hl, fun hi k hk => hl.imm _ _ _ (a6 hi k hk)⟩

theorem blk_rows {g g' : Ghost} (hl : g.le g') {x : Nat} {ob : HObj} (hx : x < g.nx) {P : Program} {w : World} (o : ObjR P g w x ob) : g'.blk x ob = g.blk x ob := blk_rows' hl.w (hl.same hx) o

theorem Rel.name_lt {P : Program} {Fr : Nat → Prop} {g : Ghost} {h : HH} {w : World} (r : Rel P Fr g h w) {x : Nat} {ob : HObj} (e : h x = some ob) : x < g.nx := by
  rcases Nat.lt_or_ge x g.nx with k | k
  · exact k
  · rw [(r.fresh x k).1] at e; cases e

/-- The general step. -/
theorem Rel.step' {P : Program} {Fr : Nat → Prop} {g g' : Ghost} {h h' : HH} {w w' : World} (r : Rel P Fr g h w) (hl : g.wle g') (hsz : w.heap.size ≤ w'.heap.size)
    (himm : ∀ b o v, g'.imm b o = some v → w'.cell? ⟨b, o, none⟩ = some v ∧ v.oneCell' = true)
    (hobj : ∀ x ob, h' x = some ob →
      (h x = some ob ∧ g.same g' x ∧ g'.top x = g.top x ∧ ∀ b, g.blk x ob = some b → w'.heap[b]? = w.heap[b]? ∧ ∀ o, ob.mine P o → g'.imm b o = none) ∨
      (ObjR P g' w' x ob ∧ ∀ b, g'.blk x ob = some b → ¬ Fr b ∧ (∀ o, ob.mine P o → g'.imm b o = none) ∧ b < w'.heap.size ∧
        ∀ y oy, y ≠ x → h' y = some oy → g'.blk y oy ≠ some b))
    (hfresh : ∀ x, g'.nx ≤ x → h' x = none ∧ g'.var x = none ∧ (∀ n, g'.row x n = none) ∧ (∀ v, g'.mp x v = none))
    (htop : ∀ x k r, g'.row x k = some r → k ≤ g'.top x) (hsup : g'.nx ≤ h'.nx) : Rel P Fr g' h' w' where
  frlt := fun b hb => Nat.lt_of_lt_of_le (r.frlt b hb) hsz
  imm := himm
  obj := fun x ob e => by
    rcases hobj x ob e with ⟨h1, hn, ht, h2⟩ | ⟨h1, h2⟩
    · exact (r.obj x ob h1).keep' hl hn ht (fun b hb => (h2 b hb).1)
    · exact h1
  uniq := fun x y ox oy b e1 e2 b1 b2 => by
    rcases hobj x ox e1 with ⟨h1, n1, _, h2⟩ | ⟨h1, h2⟩
    · rcases hobj y oy e2 with ⟨k1, n2, _, k2⟩ | ⟨k1, k2⟩
      · rw [blk_rows' hl n1 (r.obj _ _ h1)] at b1
        rw [blk_rows' hl n2 (r.obj _ _ k1)] at b2
        exact r.uniq x y ox oy b h1 k1 b1 b2
      · by_cases hxy : x = y
        · exact hxy
        · exact absurd b1 ((k2 b b2).2.2.2 x ox hxy e1)
    · by_cases hxy : y = x
      · exact hxy.symm
      · exact absurd b2 ((h2 b b1).2.2.2 y oy hxy e2)
  apart := fun x ox b e hb => by
    rcases hobj x ox e with ⟨h1, n1, _, h2⟩ | ⟨h1, h2⟩
    · rw [blk_rows' hl n1 (r.obj _ _ h1)] at hb
      obtain ⟨a1, a2, a3⟩ := r.apart x ox b h1 hb
      exact ⟨a1, (h2 b hb).2, Nat.lt_of_lt_of_le a3 hsz⟩
    · obtain ⟨a1, a2, a3, _⟩ := h2 b hb
      exact ⟨a1, a2, a3⟩
  fresh := hfresh
  rtop := htop
  sup := hsup

theorem Rel.step {P : Program} {Fr : Nat → Prop} {g g' : Ghost} {h h' : HH} {w w' : World} (r : Rel P Fr g h w) (hl : g.le g') (hsz : w.heap.size ≤ w'.heap.size)
    (himm : ∀ b o v, g'.imm b o = some v → w'.cell? ⟨b, o, none⟩ = some v ∧ v.oneCell' = true)
    (hobj : ∀ x ob, h' x = some ob →
      (h x = some ob ∧ g'.top x = g.top x ∧ ∀ b, g.blk x ob = some b → w'.heap[b]? = w.heap[b]? ∧ ∀ o, ob.mine P o → g'.imm b o = none) ∨
      (ObjR P g' w' x ob ∧ ∀ b, g'.blk x ob = some b → ¬ Fr b ∧ (∀ o, ob.mine P o → g'.imm b o = none) ∧ b < w'.heap.size ∧
        ∀ y oy, y ≠ x → h' y = some oy → g'.blk y oy ≠ some b))
    (hfresh : ∀ x, g'.nx ≤ x → h' x = none ∧ g'.var x = none ∧ (∀ n, g'.row x n = none) ∧ (∀ v, g'.mp x v = none))
    (htop : ∀ x k r, g'.row x k = some r → k ≤ g'.top x) (hsup : g'.nx ≤ h'.nx) : Rel P Fr g' h' w' :=
  r.step' hl.w hsz himm (fun x ob e => (hobj x ob e).imp (fun ⟨h1, h2⟩ => ⟨h1, hl.same (r.name_lt h1), h2⟩) id) hfresh htop hsup

/-- The world grows, nothing else. -/
theorem Rel.world {P : Program} {Fr : Nat → Prop} {g : Ghost} {h : HH} {w w' : World} (r : Rel P Fr g h w) (hsz : w.heap.size ≤ w'.heap.size)
    (hb : ∀ b, b < w.heap.size → w'.heap[b]? = w.heap[b]?) : Rel P Fr g h w' := by
  refine r.step (Ghost.le.refl g) hsz (fun b o v e => ?_) (fun x ob e => .inl ⟨e, rfl, fun b hbk => ?_⟩) r.fresh r.rtop r.sup
  · obtain ⟨h1, h2⟩ := r.imm b o v e
    have hlt : b < w.heap.size := World.block_lt_of_cell? w _ h1
    exact ⟨by rw [World.cell?_of_block (w := w) (hb b hlt)]; exact h1, h2⟩
  · obtain ⟨a1, a2, a3⟩ := r.apart x ob b e hbk
    exact ⟨hb b a3, a2⟩

theorem heap_push_lt (w : World) (o : Obj) {b : Nat} (h : b < w.heap.size) : (w.alloc o).heap[b]? = w.heap[b]? := by
  show (w.heap.push o)[b]? = _
  rw [Array.getElem?_push, if_neg (by omega)]
theorem heap_push_new (w : World) (o : Obj) : (w.alloc o).heap[w.heap.size]? = some o := by
  show (w.heap.push o)[w.heap.size]? = _
  rw [Array.getElem?_push, if_pos rfl]

theorem Rel.drew {P : Program} {Fr : Nat → Prop} {g : Ghost} {h : HH} {w : World} (r : Rel P Fr g h w) : Rel P Fr g h w.drew :=
  r.world (Nat.le_refl _) fun _ _ => rfl
theorem Rel.alloc {P : Program} {Fr : Nat → Prop} {g : Ghost} {h : HH} {w : World} (r : Rel P Fr g h w) (o : Obj) : Rel P Fr g h (w.alloc o) :=
  r.world (by simp) fun _ hb => heap_push_lt w o hb
theorem Kept.drew {Fr : Nat → Prop} {w w' : World} (k : Kept Fr w w') : Kept Fr w w'.drew := ⟨k.os, k.tape, k.output, k.size, k.block⟩
theorem Kept.alloc {Fr : Nat → Prop} {w w' : World} (k : Kept Fr w w') (hf : ∀ b, Fr b → b < w.heap.size) (o : Obj) : Kept Fr w (w'.alloc o) :=
  ⟨k.os, k.tape, k.output, by simp only [World.size_alloc]; exact Nat.le_succ_of_le k.size, fun b hb => (heap_push_lt w' o (Nat.lt_of_lt_of_le (hf b hb) k.size)).trans (k.block b hb)⟩

def Ghost.bind (g : Ghost) (x b : Nat) : Ghost := { g with nx := Nat.max g.nx (x + 1), var := fun y => if y = x then some b else g.var y }

theorem Ghost.bind_le {g : Ghost} {x b : Nat} (hv : g.var x = none) (hx : g.nx ≤ x) : g.le (g.bind x b) where
  nx := Nat.le_max_left _ _
  var := fun y c e => by
    have : y ≠ x := by rintro rfl; rw [hv] at e; cases e
    simp [Ghost.bind, this, e]
  row := fun _ _ _ e => e
  imm := fun _ _ _ e => e
  mp := fun _ _ _ e => e
  varo := fun y hy => by
    have : y ≠ x := by omega
    simp [Ghost.bind, this]
  rowo := fun _ _ e => e

/-- A new block of variables under a new name. -/
theorem Rel.newCells {P : Program} {Fr : Nat → Prop} {g : Ghost} {h : HH} {w : World} (r : Rel P Fr g h w) (arr : Array Value) (e : TypeId) (cs : List HV)
    (hs : arr.size = cs.length) (h1 : ∀ (j : Nat) (v : Value), arr[j]? = some v → v.oneCell' = true) (hv : ∀ (j : Nat) (v : HV), cs[j]? = some v → VR g v (arr.getD j undef)) :
    h g.nx = none ∧ g.le (g.bind g.nx w.heap.size) ∧ Rel P Fr (g.bind g.nx w.heap.size) (h.new g.nx (.cells cs)) (w.alloc (.cells arr e)) ∧
      (g.bind g.nx w.heap.size).var g.nx = some w.heap.size := by
  obtain ⟨f1, f2, f3, f4⟩ := r.fresh g.nx (Nat.le_refl _)
  have hl : g.le (g.bind g.nx w.heap.size) := Ghost.bind_le f2 (Nat.le_refl _)
  refine ⟨f1, hl, r.step hl (by simp) (fun b o v ee => ?_) (fun x ob ee => ?_) (fun x hx => ?_) r.rtop (by simp [Ghost.bind, HH.new]), by simp [Ghost.bind]⟩
  · obtain ⟨a1, a2⟩ := r.imm b o v ee
    exact ⟨by rw [World.cell?_of_block (w := w) (heap_push_lt w _ (World.block_lt_of_cell? w _ a1))]; exact a1, a2⟩
  · by_cases hx : x = g.nx
    · subst hx
      rw [HH.new_same] at ee
      cases ee
      refine .inr ⟨fun b hb => ?_, fun b hb => ?_⟩
      · have : b = w.heap.size := by simpa [Ghost.bind] using hb.symm
        subst this
        exact ⟨arr, e, heap_push_new w _, hs, h1, fun j v ej => (hv j v ej).mono hl⟩
      · have hb' : b = w.heap.size := by simpa [Ghost.blk, Ghost.bind] using hb.symm
        subst hb'
        refine ⟨fun hf => absurd (r.frlt _ hf) (by omega), fun o _ => ?_, by simp, fun y oy hy ey hby => ?_⟩
        · cases hi : g.imm w.heap.size o with
          | none => exact hi
          | some v => have := World.block_lt_of_cell? w _ (r.imm _ _ _ hi).1; simp at this
        · rw [HH.new_ne _ _ hy] at ey
          rw [blk_rows hl (r.name_lt ey) (r.obj _ _ ey)] at hby
          have := (r.apart _ _ _ ey hby).2.2
          omega
    · rw [HH.new_ne _ _ hx] at ee
      refine .inl ⟨ee, rfl, fun b hb => ?_⟩
      obtain ⟨a1, a2, a3⟩ := r.apart x ob b ee hb
      exact ⟨heap_push_lt w _ a3, a2⟩
  · have hx' : g.nx < x := Nat.lt_of_lt_of_le (Nat.lt_succ_self _) (Nat.le_trans (Nat.le_max_right g.nx (g.nx + 1)) hx)
    obtain ⟨b1, b2, b3, b4⟩ := r.fresh x (by omega)
    exact ⟨by rw [HH.new_ne _ _ (by omega)]; exact b1, by simp [Ghost.bind, b2]; omega, b3, b4⟩

theorem Rel.raise {P : Program} {Fr : Nat → Prop} {g : Ghost} {h : HH} {w : World} (r : Rel P Fr g h w) :
    g.le { g with nx := h.nx } ∧ Rel P Fr { g with nx := h.nx } h w := by
  have hl : g.le { g with nx := h.nx } := ⟨r.sup, fun _ _ e => e, fun _ _ _ e => e, fun _ _ _ e => e, fun _ _ _ e => e, fun _ _ => rfl, fun _ _ e => e⟩
  exact ⟨hl, r.frlt, r.imm, fun x ob e => (r.obj x ob e).keep' hl.w (hl.same (r.name_lt e)) rfl fun _ _ => rfl, r.uniq, r.apart, fun x hx => r.fresh x (Nat.le_trans r.sup hx), r.rtop, Nat.le_refl _⟩

end Go.H
