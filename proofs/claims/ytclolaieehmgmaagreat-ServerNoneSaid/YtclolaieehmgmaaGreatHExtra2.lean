/- New slices, stores into rows, copies, maps. -/
import Derived.Test.YtclolaieehmgmaaGreatHExtra
set_option linter.unusedVariables false
set_option linter.unusedSimpArgs false
namespace Go.H

theorem hv1_cells (v : Value) : (hv1 v).cells = [hv1 v] := by
  unfold hv1
  split <;> rfl

theorem zelem_cells (P : Program) (e : TypeId) : (zelem P e).cells = zcells P e := by
  unfold zelem
  split
  · rename_i v hz
    split
    · rw [hz]; rfl
    · rw [hz]
      have : ∃ u, v = hv1 u := by
        unfold zcells at hz
        split at hz
        · split at hz
          · rename_i i hi z hzz
            have hm : v ∈ z.cells.toList.map hv1 := by rw [hz]; simp
            obtain ⟨u, _, hu⟩ := List.mem_map.1 hm
            exact ⟨u, hu.symm⟩
          · cases hz
        · cases hz
      obtain ⟨u, rfl⟩ := this
      exact hv1_cells u
  · rfl

section
variable {P : Program} {Fr : Nat → Prop} {g : Ghost} {h : HH} {w : World}

theorem make_run (g : Ghost) {t : TypeId} (k k' : IntKind) {n m : Int} (k1 : sliceElem P t = true) (k2 : zok P (P.elem t) = true) (k0 : 0 ≤ n) (k3 : n ≤ m) (k4 : m ≤ maxLen) (k5 : m.toNat * P.bytesOf (P.elem t) ≤ 140737488355328) (w : World) :
    ∃ cur, (Instr.makeSlice t (.int k n) (.int k' m)).run P w = .ok (.slice (some ⟨w.heap.size, 0, none⟩) n.toNat m.toNat) (w.alloc (.cells cur (P.elem t))) ∧
      RowR P g (w.alloc (.cells cur (P.elem t))) false (P.elem t) (List.replicate n.toNat (zelem P (P.elem t))) w.heap.size m.toNat (P.cellsOf (P.elem t)) cur ∧ n.toNat ≤ m.toNat ∧ m.toNat ≤ maxLen := by
  have hu := sliceElem_of k1
  obtain ⟨i, z, hi, hz, hz1, hz2⟩ := CellsR.zero (g := g) (zok.z0 k2)
  obtain ⟨i', z', hi', hz', s1, s2, s3, s4⟩ := zok_of k2
  rw [hi] at hi'; cases hi'
  rw [hz] at hz'; cases hz'
  have hn : (m.toNat : Int) = m := by omega
  generalize hN : m.toNat = N at hn k5 ⊢
  have hm : m = (N : Int) := hn.symm
  subst hm
  have hn' : (n.toNat : Int) = n := by omega
  generalize hL : n.toNat = L at hn' ⊢
  have hm' : n = (L : Int) := hn'.symm
  subst hm'
  have hLN : L ≤ N := by omega
  have hlen : N ≤ maxLen := by simpa using k4
  have hwrap : IntKind.i64.wrap (N : Int) = N := by
    simp only [maxLen] at hlen
    simp [IntKind.wrap, IntKind.signed, IntKind.bits]
    omega
  have hwrap' : IntKind.i64.wrap (L : Int) = L := by
    simp only [maxLen] at hlen
    simp [IntKind.wrap, IntKind.signed, IntKind.bits]
    omega
  have hby : N * i.bytes ≤ 140737488355328 := by simpa [Program.bytesOf, hi] using k5
  have hbz : ¬ ((i.bytes : Int) * (N : Int) > 2 ^ 48) := by
    have : (i.bytes : Int) * (N : Int) = ((N * i.bytes : Nat) : Int) := by simp [Int.mul_comm]
    rw [this]; omega
  let zs : Array Value := if N * i.size = 0 then #[] else z.cells
  have hrun : (Instr.makeSlice t (.int k L) (.int k' N)).run P w = .ok (.slice (some ⟨w.heap.size, 0, none⟩) L N) (w.alloc (.cells ((Array.range (N * i.size)).map (zs[· % zs.size]!)) (P.elem t))) := by
    unfold Instr.makeSlice
    simp only [Sem.run_bind, run_underlying hu, Result.andThen_ok, asInt, Sem.run_pure, typeInfo, run_program, hi, hwrap, hwrap']
    simp only [asIntOf, Sem.run_pure, Result.andThen_ok, hwrap, hwrap']
    have ht : (decide ((N : Int) < 0) || decide ((i.bytes : Int) * (N : Int) > 2 ^ 48) || decide ((L : Int) < 0) || decide ((L : Int) > (N : Int))) = false := by simp; omega
    rw [if_neg (by rw [ht]; simp)]
    simp only [sizeOf, typeInfo, Sem.run_bind, run_askRoom, run_program, hi, Sem.run_pure, Result.andThen_ok, Int.toNat_natCast]
    by_cases h0 : N * i.size = 0
    · simp [h0, newRow, zs]
    · simp [h0, newRow, zs, zeroValue, typeInfo, hi, hz]
  have hpos : 0 < i.size := s3
  have hcell : ∀ j, j < N * i.size → ((Array.range (N * i.size)).map (zs[· % zs.size]!)).getD j undef = z.cells.getD (j % i.size) undef := by
    intro j hj
    have hne : N * i.size ≠ 0 := by omega
    have hzs : zs = z.cells := by simp [zs, hne]
    have hlt : j % i.size < z.cells.size := by rw [s1]; exact Nat.mod_lt _ hpos
    rw [hzs]
    simp only [Array.getD_eq_getD_getElem?, Array.getElem?_map, Array.getElem?_range, hj, if_true, Option.map_some, Option.getD_some, s1]
    rw [getElem!_pos z.cells _ hlt, Array.getElem?_eq_getElem hlt]; rfl
  have hR : RowR P g (w.alloc (.cells ((Array.range (N * i.size)).map (zs[· % zs.size]!)) (P.elem t))) false (P.elem t) (List.replicate L (zelem P (P.elem t))) w.heap.size N (P.cellsOf (P.elem t))
      ((Array.range (N * i.size)).map (zs[· % zs.size]!)) := by
    refine ⟨rfl, by simpa using hLN, hlen, ⟨_, heap_push_new w _, .inl rfl⟩, by simp [s4], fun j v e => ?_, fun a d e => ?_, fun a d j v e1 e2 => ?_⟩
    · have hj : j < N * i.size := by have := (Array.getElem?_eq_some_iff.1 e).1; simpa using this
      have h1 := hcell j hj
      rw [Array.getD_eq_getD_getElem?, e] at h1
      have hlt : j % i.size < z.cells.size := by rw [s1]; exact Nat.mod_lt _ hpos
      simp only [Option.getD_some, Array.getD_eq_getD_getElem?, Array.getElem?_eq_getElem hlt] at h1
      rw [h1]
      exact s2 _ (by simp)
    · rw [List.getElem?_replicate] at e
      split at e
      · cases e; rw [zelem_cells, ← hz1.size, hz2]
      · cases e
    · rw [List.getElem?_replicate] at e1
      split at e1
      · rename_i ha
        cases e1
        rw [zelem_cells] at e2
        have hj : j < i.size := by rw [← s1, hz1.size]; exact (List.getElem?_eq_some_iff.1 e2).1
        rw [s4, hcell _ (idx_lt (Nat.lt_of_lt_of_le ha hLN) hj)]
        have : (a * i.size + j) % i.size = j := by rw [Nat.mul_comm, Nat.mul_add_mod]; exact Nat.mod_eq_of_lt hj
        rw [this]
        exact hz1.rd j v e2
      · cases e1
  exact ⟨_, by rw [hrun], hR, hLN, hlen⟩

theorem make_sound (r : Rel P Fr g h w) {t : TypeId} {l c : HV} {cl cc : Value} (hl : VR g l cl) (hc : VR g c cc) {K : HV → HH → Prop} (hk : hmake P t l c h K) :
    ∃ v cv h' g' w', K v h' ∧ g.le g' ∧ VR g' v cv ∧ Rel P Fr g' h' w' ∧ Kept Fr w w' ∧ (Instr.makeSlice t cl cc).run P w = .ok cv w' := by
  unfold hmake at hk
  split at hk
  · rename_i k n k' m
    obtain ⟨k1, k2, k0, k3, k4, k5, k6⟩ := hk
    cases hl; cases hc
    have r1 := r.raise.2
    generalize hg1 : ({ g with nx := h.nx } : Ghost) = g1 at r1
    have hg1n : g1.nx = h.nx := by rw [← hg1]
    have hl1 : g.le g1 := by rw [← hg1]; exact r.raise.1
    obtain ⟨cur, hrun, hR, hLN, hlen⟩ := make_run g1 k k' k1 k2 k0 k3 k4 k5 w
    obtain ⟨q1, q2, q3⟩ := r1.newRow hR
    rw [hg1n] at q1 q2 q3
    simp only [List.length_replicate] at q2 q3
    refine ⟨_, _, _, _, _, k6 q1, hl1.trans q2, ?_, q3, (Kept.refl Fr w).alloc r.frlt _, hrun⟩
    rcases Nat.eq_zero_or_pos m.toNat with h0 | hp
    · have hz : n.toNat = 0 := by omega
      rw [h0, hz]
      exact .msl0 _ _ _ _ (by simp [Ghost.header, hz]; rfl)
    · exact .msl _ _ _ _ _ (by simp [Ghost.header]) hLN hp hlen
  · exact hk.elim

/-- A store into an element of a row. -/
theorem Rel.storeRow (r : Rel P Fr g h w) {x n i o b c sz : Nat} {e : TypeId} {ds : List HV} (hx : h x = some (.row false e ds)) (hr : g.row x n = some (b, c, sz)) (hn : ds.length = n) (hin : i < n)
    {v : HV} {cv : Value} (hv : VR g v cv) (hval : v.val = true) (hv0 : 0 < v.cells.length) (ho : o + v.cells.length ≤ (ds.getD i .any).cells.length) :
    ∃ w', (storeCells ⟨b, i * sz + o, none⟩ cv.cells.toList).run P w = .ok () w' ∧ Rel P Fr g (h.set x (.row false e (ds.set i (putElem (ds.getD i .any) o v)))) w' ∧ Kept Fr w w' := by
  subst hn
  obtain ⟨t0, t1, t2, t3, t4⟩ := (r.obj x _ hx).2 b c sz hr
  have hc0 : c ≠ 0 := by omega
  obtain ⟨cur, ⟨fr, b1, bf⟩, b2, b3, b4, b5, b6⟩ := t4 hc0
  obtain ⟨c1, c2, c3⟩ := cells_of hv hval
  have hd := getD_lt hin .any
  generalize hdd : ds.getD i .any = d at hd ho
  have hdl := b4 i d hd
  have hfit : i * sz + o + cv.cells.toList.length ≤ cur.size := by
    rw [Array.length_toList, c1, b2]
    have h1 : (i + 1) * sz ≤ c * sz := Nat.mul_le_mul_right _ (by omega)
    rw [Nat.succ_mul] at h1; omega
  have hrun := run_storeCells_fr P b (i * sz + o) e fr cv.cells.toList 0 cur w b1 bf (by simpa using hfit) (ones_list c2)
  simp only [Nat.add_zero] at hrun
  have hbk : g.blk x (.row false e ds) = some b := by simp [Ghost.blk, hr, hc0]
  have hpe : (putElem d o v).cells = splice d.cells o v.cells := by
    unfold putElem
    split
    · rfl
    · rename_i hne
      have hcell : d.cells = [d] := by cases d <;> first | rfl | exact absurd rfl (hne _)
      rw [hcell] at ho ⊢
      simp only [List.length_singleton] at ho
      have h1 : v.cells.length = 1 := by omega
      have h0 : o = 0 := by omega
      subst h0
      simp [splice, h1]
  have hpl : (putElem d o v).cells.length = sz := by rw [hpe, length_splice ho, hdl]
  have hco := c1
  refine ⟨_, hrun, r.setRow (ob' := .row false e (ds.set i (putElem d o v))) hx hbk (by simpa [Ghost.blk, hr] using hc0) (fun _ h => h) b1 ⟨fun h0 => (by simp only [List.length_set] at h0; rw [hr] at h0; cases h0), fun b' c' sz' hr' => ?_⟩ (fun o' v' e' => ?_)⟩
  · simp only [List.length_set] at hr' ⊢
    rw [hr] at hr'
    cases hr'
    refine ⟨t0, t1, t2, t3, fun _ => ⟨_, ⟨fr, setRow_heap w b cur _ e fr b1, by rw [size_splice hfit]; exact bf⟩, by rw [size_splice hfit, b2], one_splice b3 (ones_list c2), fun a d' ed => ?_, fun a d' j u ed eu => ?_, fun hf => by cases hf⟩⟩
    · rw [List.getElem?_set] at ed
      split at ed
      · cases ed; exact hpl
      · exact b4 a d' ed
    · rw [getD_splice hfit]
      simp only [Array.length_toList, c1]
      rw [List.getElem?_set] at ed
      split at ed
      · rename_i hai
        subst hai
        cases ed
        rw [hpe, get_splice ho] at eu
        split at eu
        · rename_i hj; rw [if_pos (by omega)]; exact b5 i d j u hd eu
        · rename_i hj
          rw [if_neg (by omega)]
          split at eu
          · rename_i hj2
            rw [if_pos (by omega)]
            have := c3 (j - o) u eu
            rw [show i * sz + j - (i * sz + o) = j - o from by omega]
            simpa [Array.getD_eq_getD_getElem?, List.getD_eq_getElem?_getD] using this
          · rename_i hj2; rw [if_neg (by omega)]; exact b5 i d j u hd eu
      · rename_i hai
        have hj : j < sz := by rw [← b4 a d' ed]; exact (List.getElem?_eq_some_iff.1 eu).1
        have hb5 := b5 a d' j u ed eu
        rw [hdl] at ho
        rcases Nat.lt_or_gt_of_ne hai with hlt | hgt
        · have h1 : (i + 1) * sz ≤ a * sz := Nat.mul_le_mul_right _ hlt
          rw [Nat.succ_mul] at h1
          rw [if_neg (by omega), if_neg (by omega)]; exact hb5
        · have h1 : (a + 1) * sz ≤ i * sz := Nat.mul_le_mul_right _ hgt
          rw [Nat.succ_mul] at h1
          rw [if_pos (by omega)]; exact hb5
  · have := (r.apart x _ b hx hbk).2.1 o' trivial
    rw [this] at e'; cases e'
end
end Go.H
