/- A row that is written, or grows, in its place or in a new one. -/
import Derived.Test.YtclolaieehmgmaaGreatHRows
set_option linter.unusedVariables false
set_option linter.unusedSimpArgs false
namespace Go.H

def Ghost.frz (g : Ghost) (im : Bool) (b : Nat) (cur : Array Value) (n : Nat) : Ghost := if im then g.freeze b cur n else g

theorem Ghost.frz_le {g : Ghost} {im : Bool} {b : Nat} {cur : Array Value} {n : Nat} (h : ∀ o v, g.imm b o = some v → cur[o]? = some v) : g.le (g.frz im b cur n) := by
  cases im with
  | false => exact Ghost.le.refl g
  | true => exact Ghost.freeze_le fun o v _ e => h o v e

theorem Ghost.frz_row (g : Ghost) (im : Bool) (b : Nat) (cur : Array Value) (n : Nat) : (g.frz im b cur n).row = g.row ∧ (g.frz im b cur n).top = g.top ∧ (g.frz im b cur n).nx = g.nx ∧
    (g.frz im b cur n).var = g.var ∧ (g.frz im b cur n).mp = g.mp := by cases im <;> exact ⟨rfl, rfl, rfl, rfl, rfl⟩

theorem Ghost.frz_imm_ne (g : Ghost) (im : Bool) {b b' : Nat} (cur : Array Value) (n o : Nat) (h : b' ≠ b) : (g.frz im b cur n).imm b' o = g.imm b' o := by
  cases im with
  | false => rfl
  | true => simp [Ghost.frz, Ghost.freeze, h]

theorem Rel.putRow {P : Program} {Fr : Nat → Prop} {g : Ghost} {h : HH} {w w' : World} (r : Rel P Fr g h w) {x b c sz : Nat} {im : Bool} {e : TypeId} {ds ds' : List HV} {cur : Array Value}
    (hx : h x = some (.row im e ds)) {hd : Nat × Nat × Nat} (hrow : g.row x ds.length = some hd) (hlen : ds.length ≤ ds'.length)
    (hhd : ds.length < ds'.length ∨ (ds.length = ds'.length ∧ hd = (b, c, sz)))
    (hb : g.blk x (.row im e ds) = some b ∨ w.heap.size ≤ b) (hsz : w.heap.size ≤ w'.heap.size) (hblt : b < w'.heap.size)
    (hw : ∀ k, k < w.heap.size → k ≠ b → w'.heap[k]? = w.heap[k]?) (hc : c ≠ 0) (hi : ∀ o v, g.imm b o = some v → cur[o]? = some v)
    (hR : RowR P g w' im e ds' b c sz cur) :
    let g' := (g.frz im b cur (ds'.length * sz)).header x ds'.length (b, c, sz)
    g.le g' ∧ Rel P Fr g' (h.set x (.row im e ds')) w' ∧ g'.row x ds'.length = some (b, c, sz) ∧ (im = true → ∀ k, k < ds'.length * sz → g'.imm b k = some (cur.getD k undef)) := by
  intro g'
  obtain ⟨q1, q2, q3, q4, q5⟩ := Ghost.frz_row g im b cur (ds'.length * sz)
  have hxlt := r.name_lt hx
  have htop : g.top x = ds.length := by
    obtain ⟨b0, c0, s0⟩ := hd
    exact ((r.obj x _ hx).2 b0 c0 s0 hrow).1
  have hl1 : g.le (g.frz im b cur (ds'.length * sz)) := Ghost.frz_le hi
  have hl2 : (g.frz im b cur (ds'.length * sz)).le g' := by
    refine Ghost.header_le ?_ (.inr ⟨ds.length, hd, by rw [q1]; exact hrow⟩)
    rw [q1]
    rcases hhd with hlt | ⟨he, hh⟩
    · left
      cases hn : g.row x ds'.length with
      | none => rfl
      | some r' => have := r.rtop _ _ _ hn; omega
    · right; rw [← he, hrow, hh]
  have hl : g.le g' := hl1.trans hl2
  have hbF : ¬ Fr b ∧ ∀ y oy, y ≠ x → h y = some oy → g.blk y oy ≠ some b := by
    rcases hb with hb | hb
    · exact ⟨(r.apart x _ b hx hb).1, fun y oy hy ey hby => hy (r.uniq y x oy _ b ey hx hby hb)⟩
    · exact ⟨fun hf => by have := r.frlt b hf; omega, fun y oy _ ey hby => by have := (r.apart y oy b ey hby).2.2; omega⟩
  have himmg : ∀ b' o, g'.imm b' o = (g.frz im b cur (ds'.length * sz)).imm b' o := fun _ _ => rfl
  have hkey : g'.row x ds'.length = some (b, c, sz) := by simp [g', Ghost.header]
  have hfrz : im = true → ∀ k, k < ds'.length * sz → g'.imm b k = some (cur.getD k undef) := by
    intro him k hk
    have hks : k < cur.size := by rw [hR.size]; exact Nat.lt_of_lt_of_le hk (Nat.mul_le_mul_right _ hR.len)
    rw [himmg]; subst him
    simp only [Ghost.frz, if_true, Ghost.freeze, true_and, hk]
    simp [Array.getD, hks]
  refine ⟨hl, r.step hl hsz (fun b' o v e' => ?_) (fun y oy ey => ?_) (fun y hy => ?_) ?_ ?_, hkey, hfrz⟩
  · rw [himmg] at e'
    by_cases hbb : b' = b
    · subst hbb
      have hcur : cur[o]? = some v := by
        cases im with
        | false => exact hi o v e'
        | true =>
          simp only [Ghost.frz, if_true, Ghost.freeze, true_and] at e'
          split at e'
          · exact e'
          · exact hi o v e'
      obtain ⟨fr, hfr, _⟩ := hR.blk
      exact ⟨by simp only [World.cell?, hfr]; exact hcur, hR.one o v hcur⟩
    · rw [Ghost.frz_imm_ne g im cur _ o hbb] at e'
      obtain ⟨i1, i2⟩ := r.imm b' o v e'
      have hlt := World.block_lt_of_cell? w _ i1
      exact ⟨by rw [World.cell?_of_block (w := w) (hw b' hlt hbb)]; exact i1, i2⟩
  · by_cases hyx : y = x
    · subst hyx
      rw [HH.set_same] at ey
      cases ey
      refine .inr ⟨⟨fun hn => (by rw [hkey] at hn; cases hn), fun b1 c1 s1 h1 => ?_⟩, fun k hk => ?_⟩
      · rw [hkey] at h1
        cases h1
        exact ⟨by simp [g', Ghost.header], hR.esz, hR.len, hR.max, fun _ => ⟨cur, hR.blk, hR.size, hR.one, hR.elem, fun i d j v e1 e2 => (hR.rd i d j v e1 e2).mono hl, hfrz⟩⟩
      · have : k = b := by simpa [Ghost.blk, hkey, hc] using hk.symm
        subst this
        refine ⟨hbF.1, fun o hm => ?_, hblt, fun z oz hz ez hbz => ?_⟩
        · rw [himmg]
          have hg0 : g.imm k o = none ∨ (im = true ∧ o < ds'.length * sz) := by
            rcases hb with hb | hb
            · cases im with
              | false => exact .inl ((r.apart y _ k hx hb).2.1 o trivial)
              | true =>
                rcases Nat.lt_or_ge o (ds'.length * sz) with h' | h'
                · exact .inr ⟨rfl, h'⟩
                · refine .inl ((r.apart y _ k hx hb).2.1 o ?_)
                  simp only [HObj.mine]
                  rw [← hR.esz]
                  exact Nat.le_trans (Nat.mul_le_mul_right _ hlen) h'
            · left
              cases hh : g.imm k o with
              | none => rfl
              | some v => have := World.block_lt_of_cell? w _ (r.imm _ _ _ hh).1; simp at this; omega
          cases im with
          | false => rcases hg0 with h' | ⟨h', _⟩; · exact h'
                     · cases h'
          | true =>
            simp only [HObj.mine] at hm
            rw [← hR.esz] at hm
            simp only [Ghost.frz, if_true, Ghost.freeze, true_and]
            rw [if_neg (by omega)]
            rcases hg0 with h' | ⟨_, h'⟩
            · exact h'
            · omega
        · rw [HH.set_ne _ _ hz] at ez
          rw [blk_rows hl (r.name_lt ez) (r.obj _ _ ez)] at hbz
          exact hbF.2 z oz hz ez hbz
    · rw [HH.set_ne _ _ hyx] at ey
      refine .inl ⟨ey, by simp [g', Ghost.header, hyx, q2], fun k hk => ?_⟩
      have hkb : k ≠ b := fun q => hbF.2 y oy hyx ey (q ▸ hk)
      obtain ⟨a1, a2, a3⟩ := r.apart y oy k ey hk
      exact ⟨hw k a3 hkb, fun o hm => by rw [himmg, Ghost.frz_imm_ne g im cur _ o hkb]; exact a2 o hm⟩
  · have hnx : g'.nx = Nat.max g.nx (x + 1) := by simp [g', Ghost.header, q3]
    have hy' : g.nx ≤ y := by rw [hnx] at hy; exact Nat.le_trans (Nat.le_max_left g.nx (x + 1)) hy
    obtain ⟨f1, f2, f3, f4⟩ := r.fresh y hy'
    have hyx : y ≠ x := by omega
    refine ⟨by rw [HH.set_ne _ _ hyx]; exact f1, by simpa [g', Ghost.header, q4] using f2, fun n => ?_, by simpa [g', Ghost.header, q5] using f4⟩
    simp [g', Ghost.header, hyx, q1, f3 n]
  · refine Ghost.header_top (by rw [q1, q2]; exact r.rtop) fun k r' e' => ?_
    rw [q1] at e'
    have := r.rtop _ _ _ e'
    omega
  · have hnx : g'.nx = Nat.max g.nx (x + 1) := by simp [g', Ghost.header, q3]
    rw [hnx, HH.set_nx]
    exact Nat.max_le.2 ⟨r.sup, Nat.le_trans hxlt r.sup⟩

end Go.H
