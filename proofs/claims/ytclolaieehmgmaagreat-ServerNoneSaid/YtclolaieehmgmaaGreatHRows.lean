/- New cells that nobody writes any more; rows that grow by append. -/
import Derived.Test.YtclolaieehmgmaaGreatHPut
set_option linter.unusedVariables false
set_option linter.unusedSimpArgs false
namespace Go.H

def Ghost.freeze (g : Ghost) (b : Nat) (arr : Array Value) (n : Nat) : Ghost :=
  { g with imm := fun b' o => if b' = b ∧ o < n then arr[o]? else g.imm b' o }

theorem Ghost.freeze_le {g : Ghost} {b : Nat} {arr : Array Value} {n : Nat} (h : ∀ o v, o < n → g.imm b o = some v → arr[o]? = some v) : g.le (g.freeze b arr n) where
  nx := Nat.le_refl _
  var := fun _ _ e => e
  row := fun _ _ _ e => e
  imm := fun b' o v e => by
    simp only [Ghost.freeze]
    split
    · rename_i hc; obtain ⟨rfl, h2⟩ := hc; exact h o v h2 e
    · exact e
  mp := fun _ _ _ e => e
  varo := fun _ _ => rfl
  rowo := fun _ _ e => e

/-- The cells of a block that nobody owns are frozen. -/
theorem Rel.freezeBlk {P : Program} {Fr : Nat → Prop} {g : Ghost} {h : HH} {w : World} (r : Rel P Fr g h w) {b : Nat} {arr : Array Value} {e : TypeId} {fr : Nat × Nat}
    (hb : w.heap[b]? = some (.cells arr e fr)) (h1 : ∀ (j : Nat) (v : Value), arr[j]? = some v → v.oneCell' = true) (ho : ∀ x ob, h x = some ob → g.blk x ob ≠ some b) :
    g.le (g.freeze b arr arr.size) ∧ Rel P Fr (g.freeze b arr arr.size) h w ∧ ∀ o, (g.freeze b arr arr.size).imm b o = arr[o]? := by
  have hcell : ∀ o, w.cell? ⟨b, o, none⟩ = arr[o]? := fun o => by simp [World.cell?, hb]
  have hl : g.le (g.freeze b arr arr.size) := Ghost.freeze_le fun o v _ e => by rw [← hcell]; exact (r.imm b o v e).1
  refine ⟨hl, r.step hl (Nat.le_refl _) (fun b' o v e => ?_) (fun x ob e => .inl ⟨e, rfl, fun b' hb' => ⟨rfl, fun o hm => ?_⟩⟩) r.fresh r.rtop r.sup, fun o => ?_⟩
  · simp only [Ghost.freeze] at e
    split at e
    · rename_i hc; obtain ⟨rfl, h2⟩ := hc; exact ⟨by rw [hcell]; exact e, h1 o v e⟩
    · exact r.imm b' o v e
  · have : b' ≠ b := fun q => ho x ob e (q ▸ hb')
    simp only [Ghost.freeze, this, false_and, if_false]
    exact (r.apart x ob b' e hb').2.1 o hm
  · simp only [Ghost.freeze, true_and]
    split
    · rfl
    · rename_i hc
      cases hi : g.imm b o with
      | none => simp [Array.getElem?_eq_none (Nat.le_of_not_lt hc)]
      | some v => rw [← hcell]; exact (r.imm b o v hi).1.symm

/-- A new block of frozen cells. -/
theorem Rel.newImm {P : Program} {Fr : Nat → Prop} {g : Ghost} {h : HH} {w : World} (r : Rel P Fr g h w) (arr : Array Value) (e : TypeId) (fr : Nat × Nat)
    (h1 : ∀ (j : Nat) (v : Value), arr[j]? = some v → v.oneCell' = true) :
    g.le (g.freeze w.heap.size arr arr.size) ∧ Rel P Fr (g.freeze w.heap.size arr arr.size) h (w.alloc (.cells arr e fr)) ∧ ∀ o, (g.freeze w.heap.size arr arr.size).imm w.heap.size o = arr[o]? :=
  (r.alloc (.cells arr e fr)).freezeBlk (heap_push_new w _) h1 fun x ob hx hb => by have := (r.apart x ob _ hx hb).2.2; omega

/-! ### rows -/

def Ghost.header (g : Ghost) (x n : Nat) (hd : Nat × Nat × Nat) : Ghost :=
  { g with nx := Nat.max g.nx (x + 1), row := fun y k => if y = x ∧ k = n then some hd else g.row y k, top := fun y => if y = x then n else g.top y }

theorem Ghost.header_le {g : Ghost} {x n : Nat} {hd : Nat × Nat × Nat} (h0 : g.row x n = none ∨ g.row x n = some hd) (hx : g.nx ≤ x ∨ ∃ k r, g.row x k = some r) : g.le (g.header x n hd) where
  nx := Nat.le_max_left _ _
  var := fun _ _ e => e
  row := fun y k r e => by
    simp only [Ghost.header]
    split
    · rename_i hc; obtain ⟨rfl, rfl⟩ := hc
      rcases h0 with h0 | h0
      · rw [h0] at e; cases e
      · rw [h0] at e; exact e
    · exact e
  imm := fun _ _ _ e => e
  mp := fun _ _ _ e => e
  varo := fun _ _ => rfl
  rowo := fun y hy hn k => by
    simp only [Ghost.header]
    split
    · rename_i hc; obtain ⟨rfl, rfl⟩ := hc
      rcases hx with hx | ⟨k', r, hr⟩
      · omega
      · rw [hn k'] at hr; cases hr
    · exact hn k

theorem Ghost.header_top {g : Ghost} {x n : Nat} {hd : Nat × Nat × Nat} (h : ∀ x k r, g.row x k = some r → k ≤ g.top x) (hn : ∀ k r, g.row x k = some r → k ≤ n) :
    ∀ y k r, (g.header x n hd).row y k = some r → k ≤ (g.header x n hd).top y := by
  intro y k r e
  simp only [Ghost.header] at e ⊢
  split at e
  · rename_i hc; obtain ⟨rfl, rfl⟩ := hc; simp
  · split
    · rename_i hc; subst hc; exact hn k r e
    · exact h y k r e

/-- what a block of a row's cells must be -/
structure RowR (P : Program) (g : Ghost) (w : World) (im : Bool) (e : TypeId) (ds : List HV) (b c sz : Nat) (cur : Array Value) : Prop where
  esz : sz = P.cellsOf e
  len : ds.length ≤ c
  max : c ≤ maxLen
  blk : ∃ fr, w.heap[b]? = some (.cells cur e fr) ∧ frOk fr cur.size
  size : cur.size = c * sz
  one : ∀ (j : Nat) (v : Value), cur[j]? = some v → v.oneCell' = true
  elem : ∀ (i : Nat) (d : HV), ds[i]? = some d → d.cells.length = sz
  rd : ∀ (i : Nat) (d : HV) (j : Nat) (v : HV), ds[i]? = some d → d.cells[j]? = some v → VR g v (cur.getD (i * sz + j) undef)

/-- A new row under a new name, in a block that has just been laid. -/
theorem Rel.newRow {P : Program} {Fr : Nat → Prop} {g : Ghost} {h : HH} {w : World} (r : Rel P Fr g h w) {e : TypeId} {ds : List HV} {c sz : Nat} {cur : Array Value}
    (hr : RowR P g (w.alloc (.cells cur e)) false e ds w.heap.size c sz cur) :
    h g.nx = none ∧ g.le (g.header g.nx ds.length (w.heap.size, c, sz)) ∧
      Rel P Fr (g.header g.nx ds.length (w.heap.size, c, sz)) (h.new g.nx (.row false e ds)) (w.alloc (.cells cur e)) := by
  obtain ⟨f1, f2, f3, f4⟩ := r.fresh g.nx (Nat.le_refl _)
  have hl : g.le (g.header g.nx ds.length (w.heap.size, c, sz)) := Ghost.header_le (.inl (f3 _)) (.inl (Nat.le_refl _))
  refine ⟨f1, hl, r.step hl (by simp) (fun b o v ee => ?_) (fun x ob ee => ?_) (fun x hx => ?_) (Ghost.header_top r.rtop fun k r' e => by rw [f3 k] at e; cases e) (by simp [Ghost.header, HH.new])⟩
  · obtain ⟨a1, a2⟩ := r.imm b o v ee
    exact ⟨by rw [World.cell?_of_block (w := w) (heap_push_lt w _ (World.block_lt_of_cell? w _ a1))]; exact a1, a2⟩
  · by_cases hx : x = g.nx
    · subst hx
      rw [HH.new_same] at ee
      cases ee
      refine .inr ⟨⟨fun hn => by simp [Ghost.header] at hn, fun b c' sz' hb => ?_⟩, fun b hb => ?_⟩
      · simp only [Ghost.header, and_self, if_true, Option.some.injEq, Prod.mk.injEq] at hb
        obtain ⟨rfl, rfl, rfl⟩ := hb
        exact ⟨by simp [Ghost.header], hr.esz, hr.len, hr.max, fun _ => ⟨cur, hr.blk, hr.size, hr.one, hr.elem, fun i d j v e1 e2 => (hr.rd i d j v e1 e2).mono hl, fun hf => by cases hf⟩⟩
      · have hb' : b = w.heap.size := by
          simp only [Ghost.blk, Ghost.header, and_self, if_true, Option.bind_some] at hb
          split at hb <;> simp_all
        subst hb'
        refine ⟨fun hf => absurd (r.frlt _ hf) (by omega), fun o _ => ?_, by simp, fun y oy hy ey hby => ?_⟩
        · cases hi : g.imm w.heap.size o with
          | none => exact hi
          | some v => have := World.block_lt_of_cell? w _ (r.imm _ _ _ hi).1; simp at this
        · rw [HH.new_ne _ _ hy] at ey
          rw [blk_rows hl (r.name_lt ey) (r.obj _ _ ey)] at hby
          have := (r.apart _ _ _ ey hby).2.2
          omega
    · rw [HH.new_ne _ _ hx] at ee
      refine .inl ⟨ee, by simp [Ghost.header, hx], fun b hb => ?_⟩
      obtain ⟨a1, a2, a3⟩ := r.apart x ob b ee hb
      exact ⟨heap_push_lt w _ a3, a2⟩
  · have hx' : g.nx < x := Nat.lt_of_lt_of_le (Nat.lt_succ_self _) (Nat.le_trans (Nat.le_max_right g.nx (g.nx + 1)) hx)
    obtain ⟨b1, b2, b3, b4⟩ := r.fresh x (by omega)
    refine ⟨by rw [HH.new_ne _ _ (by omega)]; exact b1, b2, fun n => ?_, b4⟩
    simp only [Ghost.header]
    rw [if_neg (by omega)]; exact b3 n

/-- A new row without a place. -/
theorem Rel.newRow0 {P : Program} {Fr : Nat → Prop} {g : Ghost} {h : HH} {w : World} (r : Rel P Fr g h w) (e : TypeId) :
    h g.nx = none ∧ g.le (g.header g.nx 0 (0, 0, P.cellsOf e)) ∧ Rel P Fr (g.header g.nx 0 (0, 0, P.cellsOf e)) (h.new g.nx (.row false e [])) w := by
  obtain ⟨f1, f2, f3, f4⟩ := r.fresh g.nx (Nat.le_refl _)
  have hl : g.le (g.header g.nx 0 (0, 0, P.cellsOf e)) := Ghost.header_le (.inl (f3 _)) (.inl (Nat.le_refl _))
  refine ⟨f1, hl, r.step hl (Nat.le_refl _) r.imm (fun x ob ee => ?_) (fun x hx => ?_) (Ghost.header_top r.rtop fun k r' e => by rw [f3 k] at e; cases e) (by simp [Ghost.header, HH.new])⟩
  · by_cases hx : x = g.nx
    · subst hx
      rw [HH.new_same] at ee
      cases ee
      refine .inr ⟨⟨fun hn => by simp [Ghost.header] at hn, fun b c' sz' hb => ?_⟩, fun b hb => ?_⟩
      · simp only [Ghost.header, List.length_nil, and_self, if_true, Option.some.injEq, Prod.mk.injEq] at hb
        obtain ⟨rfl, rfl, rfl⟩ := hb
        exact ⟨by simp [Ghost.header], rfl, Nat.le_refl _, Nat.zero_le _, fun h => absurd rfl h⟩
      · simp [Ghost.blk, Ghost.header] at hb
    · rw [HH.new_ne _ _ hx] at ee
      exact .inl ⟨ee, by simp [Ghost.header, hx], fun b hb => ⟨rfl, (r.apart x ob b ee hb).2.1⟩⟩
  · have hx' : g.nx < x := Nat.lt_of_lt_of_le (Nat.lt_succ_self _) (Nat.le_trans (Nat.le_max_right g.nx (g.nx + 1)) hx)
    obtain ⟨b1, b2, b3, b4⟩ := r.fresh x (by omega)
    refine ⟨by rw [HH.new_ne _ _ (by omega)]; exact b1, b2, fun n => ?_, b4⟩
    simp only [Ghost.header]
    rw [if_neg (by omega)]; exact b3 n

end Go.H
