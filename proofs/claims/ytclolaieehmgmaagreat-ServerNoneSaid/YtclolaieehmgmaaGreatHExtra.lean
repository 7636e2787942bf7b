/- Bytes, maps, new slices, methods: why the layer's word holds in the model. -/
import Derived.Test.YtclolaieehmgmaaGreatHCode
import Derived.Lib.ConvBytes
import Derived.Laws.BytesString
import Derived.MapKept
set_option linter.unusedVariables false
set_option linter.unusedSimpArgs false
namespace Go.H

theorem Rel.newVar {P : Program} {Fr : Nat → Prop} {g : Ghost} {h : HH} {w : World} (r : Rel P Fr g h w) (o : Obj) (ob : HObj) (hk : ∀ g' : Ghost, g'.blk g.nx ob = g'.var g.nx)
    (ho : g.le (g.bind g.nx w.heap.size) → ObjR P (g.bind g.nx w.heap.size) (w.alloc o) g.nx ob) :
    h g.nx = none ∧ g.le (g.bind g.nx w.heap.size) ∧ Rel P Fr (g.bind g.nx w.heap.size) (h.new g.nx ob) (w.alloc o) ∧
      (g.bind g.nx w.heap.size).var g.nx = some w.heap.size := by
  obtain ⟨f1, f2, f3, f4⟩ := r.fresh g.nx (Nat.le_refl _)
  have hl : g.le (g.bind g.nx w.heap.size) := Ghost.bind_le f2 (Nat.le_refl _)
  refine ⟨f1, hl, r.step hl (by simp) (fun b o v ee => ?_) (fun x ob' ee => ?_) (fun x hx => ?_) r.rtop (by simp [Ghost.bind, HH.new]), by simp [Ghost.bind]⟩
  · obtain ⟨a1, a2⟩ := r.imm b o v ee
    exact ⟨by rw [World.cell?_of_block (w := w) (heap_push_lt w _ (World.block_lt_of_cell? w _ a1))]; exact a1, a2⟩
  · by_cases hx : x = g.nx
    · subst hx
      rw [HH.new_same] at ee
      cases ee
      refine .inr ⟨ho hl, fun b hb => ?_⟩
      rw [hk] at hb
      have hb' : b = w.heap.size := by simpa [Ghost.bind] using hb.symm
      subst hb'
      refine ⟨fun hf => absurd (r.frlt _ hf) (by omega), fun o _ => ?_, by simp, fun y oy hy ey hby => ?_⟩
      · cases hi : g.imm w.heap.size o with
        | none => exact hi
        | some v => have := World.block_lt_of_cell? w _ (r.imm _ _ _ hi).1; simp at this
      · rw [HH.new_ne _ _ hy] at ey
        rw [blk_rows hl (r.name_lt ey) (r.obj _ _ ey)] at hby
        have := (r.apart _ _ _ ey hby).2.2
        omega
    · rw [HH.new_ne _ _ hx] at ee
      refine .inl ⟨ee, rfl, fun b hb => ?_⟩
      obtain ⟨a1, a2, a3⟩ := r.apart x ob' b ee hb
      exact ⟨heap_push_lt w _ a3, a2⟩
  · have hx' : g.nx < x := Nat.lt_of_lt_of_le (Nat.lt_succ_self _) (Nat.le_trans (Nat.le_max_right g.nx (g.nx + 1)) hx)
    obtain ⟨b1, b2, b3, b4⟩ := r.fresh x (by omega)
    exact ⟨by rw [HH.new_ne _ _ (by omega)]; exact b1, by simp [Ghost.bind, b2]; omega, b3, b4⟩

def World.putObj (w : World) (b : Nat) (o : Obj) : World := { w with heap := w.heap.setIfInBounds b o }

theorem run_setObj {P : Program} {w : World} {b : Nat} {o o' : Obj} (h : w.heap[b]? = some o) (hn : ∀ c e f, o ≠ .cells c e f) : (setObj b o').run P w = .ok () (World.putObj w b o') := by
  unfold setObj
  simp only [Sem.run, h]
  cases o <;> first | exact absurd rfl (hn _ _ _) | rfl

theorem run_getObj' {P : Program} {w : World} {b : Nat} {o : Obj} (h : w.heap[b]? = some o) (hn : ∀ c e f, o ≠ .cells c e f) : (getObj b).run P w = .ok o w := by
  unfold getObj
  simp only [Sem.run, h]

/-- The object of a block is another one. -/
theorem Rel.putObj {P : Program} {Fr : Nat → Prop} {g : Ghost} {h : HH} {w : World} (r : Rel P Fr g h w) {x b : Nat} {ob ob' : HObj} (hx : h x = some ob) (hv : g.var x = some b) (hb : g.blk x ob = some b)
    (hb' : g.blk x ob' = some b) (hm : ∀ o, ob'.mine P o → ob.mine P o) {o o' : Obj} (hc : w.heap[b]? = some o) (hn : ∀ c e f, o ≠ .cells c e f)
    (ho : ObjR P g (World.putObj w b o') x ob') : Rel P Fr g (h.set x ob') (World.putObj w b o') ∧ Kept Fr w (World.putObj w b o') := by
  obtain ⟨a1, a2, a3⟩ := r.apart x ob b hx hb
  have other : ∀ k, k ≠ b → (World.putObj w b o').heap[k]? = w.heap[k]? := fun k hk => by simp [World.putObj, Ne.symm hk]
  refine ⟨r.step (Ghost.le.refl g) (by simp [World.putObj]) (fun b' i v e' => ?_) (fun y oy ey => ?_) (fun y hy => ?_) r.rtop r.sup, ⟨rfl, rfl, rfl, by simp [World.putObj], fun k hk => other k (by rintro rfl; exact a1 hk)⟩⟩
  · obtain ⟨i1, i2⟩ := r.imm b' i v e'
    have hbb : b' ≠ b := by
      rintro rfl
      unfold World.cell? at i1
      rw [hc] at i1
      cases o <;> first | (simp at i1; done) | exact absurd rfl (hn _ _ _)
    exact ⟨by rw [World.cell?_of_block (w := w) (other b' hbb)]; exact i1, i2⟩
  · by_cases hyx : y = x
    · subst hyx
      rw [HH.set_same] at ey
      cases ey
      refine .inr ⟨ho, fun k hk => ?_⟩
      rw [hb'] at hk
      cases hk
      refine ⟨a1, fun i hmo => a2 i (hm i hmo), by simpa [World.putObj] using a3, fun z oz hz ez hbz => ?_⟩
      rw [HH.set_ne _ _ hz] at ez
      exact hz (r.uniq z y oz ob b ez hx hbz hb)
    · rw [HH.set_ne _ _ hyx] at ey
      refine .inl ⟨ey, rfl, fun k hk => ⟨other k ?_, (r.apart y oy k ey hk).2.1⟩⟩
      rintro rfl
      exact hyx (r.uniq y x oy ob k ey hx hk hb)
  · obtain ⟨f1, f2⟩ := r.fresh y hy
    have : y ≠ x := by rintro rfl; rw [f1] at hx; cases hx
    exact ⟨by rw [HH.set_ne _ _ this]; exact f1, f2⟩

/-! ### conversions -/
theorem bytesT_of {P : Program} {t : TypeId} (h : bytesT P t = true) : P.underlying t = some (.slice (P.elem t)) ∧ P.underlying (P.elem t) = some (.int .u8) ∧ P.cellsOf (P.elem t) = 1 := by
  unfold bytesT at h
  split at h
  · rename_i e he
    have : P.elem t = e := by simp [Program.elem, he]
    split at h
    · rename_i hu; rw [this]; exact ⟨he, hu, by simpa using h⟩
    · cases h
  · cases h

theorem foldl_push (ns : List Int) : ∀ acc : ByteArray, (ns.foldl (fun r n => r.push (UInt8.ofNat n.toNat)) acc) = ⟨(acc.data.toList ++ ns.map fun n => UInt8.ofNat n.toNat).toArray⟩ := by
  induction ns with
  | nil => intro acc; simp
  | cons n ns ih =>
    intro acc
    simp only [List.foldl_cons, ih, List.map_cons]
    congr 1
    simp [ByteArray.push]

theorem bytes_ints : ∀ {ys : List HV}, ys.all isByte = true → ∃ ns : List Int, ys = ns.map (HV.int .u8) ∧ ys.map hbyte = ns.map fun n => UInt8.ofNat n.toNat
  | [], _ => ⟨[], rfl, rfl⟩
  | y :: ys, h => by
    simp only [List.all_cons, Bool.and_eq_true] at h
    obtain ⟨ns, h1, h2⟩ := bytes_ints h.2
    cases y with
    | int k n =>
      cases k <;> first | (simp [isByte] at h; done) | exact ⟨n :: ns, by simp [h1], by simp [h2, hbyte]⟩
    | _ => simp [isByte] at h

section
variable {P : Program} {Fr : Nat → Prop} {g : Ghost} {h : HH} {w : World}

theorem conv_bytes (r : Rel P Fr g h w) {s d : TypeId} (hs : bytesT P s = true) (hd : P.underlying d = some .string) {v : HV} {cv : Value} (hv : VR g v cv) {ys : List HV} (hy : hsrc h v = some ys) (hb : ys.all isByte = true) (hsl : ∃ a n c, cv = .slice a n c) :
    (convert s d cv).run P w = .ok (.string ⟨(ys.map hbyte).toArray⟩) w := by
  obtain ⟨u1, u2, u3⟩ := bytesT_of hs
  obtain ⟨ns, e1, e2⟩ := bytes_ints hb
  obtain ⟨news, n1, n2⟩ := src_of r hv (e := P.elem s) hy (fun y hm => by rw [e1] at hm; obtain ⟨n, _, rfl⟩ := List.mem_map.1 hm; exact u3.symm) (by omega)
  rw [u3] at n1 n2
  obtain ⟨a, n, c, rfl⟩ := hsl
  have hlen : news.length = ys.length := by rw [n1.len]; omega
  have hn : n = ys.length := by
    have := n2.len w
    simp [Builtin.lenOf] at this
    exact this
  subst hn
  have hnews : news = ns.map (Value.int .u8) := by
    refine List.ext_getElem? fun i => ?_
    rw [List.getElem?_map]
    cases hi : ns[i]? with
    | none =>
      have : news.length ≤ i := by rw [hlen, e1, List.length_map]; exact List.getElem?_eq_none_iff.1 hi
      simp [List.getElem?_eq_none this]
    | some k =>
      have hyi : ys[i]? = some (.int .u8 k) := by rw [e1, List.getElem?_map, hi]; rfl
      have := n1.rd i _ 0 (.int .u8 k) hyi rfl
      simp only [Nat.mul_one, Nat.add_zero] at this
      have hlt : i < news.length := by rw [hlen]; exact (List.getElem?_eq_some_iff.1 hyi).1
      rw [List.getD_eq_getElem?_getD, List.getElem?_eq_getElem hlt] at this
      rw [List.getElem?_eq_getElem hlt]
      simp only [Option.getD_some] at this
      generalize news[i] = u at this
      cases this
      rfl
  have hc := n2.cells w (fun _ _ h => h)
  have hconv : (convert s d (.slice a ys.length c)).run P w = (Conv.bytesToString (.slice a ys.length c)).run P w := by
    simp only [convert, Sem.run_bind, run_underlying u1, run_underlying hd, run_underlying u2, Result.andThen_ok]
  rw [hconv, e2]
  cases a with
  | none =>
    have h0 : ns = [] := by
      simp [Builtin.firstCells] at hc
      rw [hnews] at hc
      simpa using hc.symm
    subst h0
    simp [Conv.bytesToString]; rfl
  | some a =>
    have hl : (loadCells a ys.length).run P w = .ok (ns.map (Value.int .u8)).toArray w := by
      simp [Builtin.firstCells] at hc
      rw [hc, hnews]
    rw [run_bytesToString w a ys.length c ns hl, foldl_push]
    simp [ByteArray.empty, ByteArray.emptyWithCapacity]; rfl

/-- The stretch of a row's block that is shared with a string is another one, behind the row's end. -/
theorem Rel.refr (r : Rel P Fr g h w) {b : Nat} {cur : Array Value} {e : TypeId} {fr fr' : Nat × Nat} (hb : w.heap[b]? = some (.cells cur e fr)) (hf : frOk fr' cur.size)
    (hrow : ∀ y oy, h y = some oy → g.blk y oy = some b → ∃ im e ds, oy = .row im e ds) {w' : World} (hs : w'.heap.size = w.heap.size) (hb' : w'.heap[b]? = some (.cells cur e fr'))
    (ho : ∀ k, k ≠ b → w'.heap[k]? = w.heap[k]?) : Rel P Fr g h w' := by
  refine r.step (Ghost.le.refl g) (by omega) (fun b' i v e' => ?_) (fun y oy ey => ?_) r.fresh r.rtop r.sup
  · obtain ⟨i1, i2⟩ := r.imm b' i v e'
    refine ⟨?_, i2⟩
    by_cases hbb : b' = b
    · subst hbb
      simp only [World.cell?, hb] at i1
      simp only [World.cell?, hb']
      exact i1
    · rw [World.cell?_of_block (w := w) (ho b' hbb)]; exact i1
  · by_cases hk : g.blk y oy = some b
    · refine .inr ⟨?_, fun k hk' => ?_⟩
      · obtain ⟨im, e1, ds, rfl⟩ := hrow y oy ey hk
        have o := r.obj y _ ey
        refine ⟨o.1, fun b1 c sz hr => ?_⟩
        obtain ⟨o1, o2, o3, o4, o5⟩ := o.2 b1 c sz hr
        refine ⟨o1, o2, o3, o4, fun hc => ?_⟩
        obtain ⟨cur1, ⟨fr1, a1, a2⟩, a3⟩ := o5 hc
        have : b1 = b := by simp [Ghost.blk, hr, hc] at hk; exact hk
        subst this
        rw [hb] at a1
        cases a1
        exact ⟨cur, ⟨fr', hb', hf⟩, a3⟩
      · rw [hk] at hk'; cases hk'
        obtain ⟨a1, a2, a3⟩ := r.apart y oy b ey hk
        exact ⟨a1, a2, by omega, fun z oz hz ez hbz => hz (r.uniq z y oz oy b ez ey hbz hk)⟩
    · refine .inl ⟨ey, rfl, fun k hk' => ⟨ho k (by rintro rfl; exact hk hk'), (r.apart y oy k ey hk').2.1⟩⟩

theorem conv_string (r : Rel P Fr g h w) {s d : TypeId} (hs : (P.underlying s).isSome = true) (hd : bytesT P d = true) {b : List UInt8} (hm : b.length ≤ maxLen) :
    ∃ cv w' g', (convert s d (.string ⟨b.toArray⟩)).run P w = .ok cv w' ∧ h h.nx = none ∧ g.le g' ∧ VR g' (.msl h.nx b.length 1) cv ∧
      Rel P Fr g' (h.push (.row false (P.elem d) (b.map fun x => .int .u8 x.toNat))) w' ∧ Kept Fr w w' := by
  obtain ⟨u1, u2, hc1⟩ := bytesT_of hd
  obtain ⟨u, hu⟩ := Option.isSome_iff_exists.1 hs
  have hrun := Lib.run_convert_string_bytes w s d (P.elem d) ⟨b.toArray⟩ hu u1 u2
  simp only [str_size] at hrun
  have hge := grownCap_ge w b.length 0 (P.elem d)
  have hcm := grownCap_le_maxLen w b.length 0 (P.elem d) hm
  generalize hcap : grownCap w b.length 0 (P.elem d) = cap at hrun hge hcm
  -- the block
  have r1 := r.raise.2
  generalize hg1 : ({ g with nx := h.nx } : Ghost) = g1 at r1
  have hg1n : g1.nx = h.nx := by rw [← hg1]
  have hl1 : g.le g1 := by rw [← hg1]; exact r.raise.1
  have hcells : Lib.bytesCells w (P.elem d) ⟨b.toArray⟩ = (b.map fun x => Value.int .u8 x.toNat).toArray ++ Array.replicate (cap - b.length) (.int .u8 0) := by
    simp [Lib.bytesCells, str_size, hcap]
  generalize hcur : Lib.bytesCells w (P.elem d) ⟨b.toArray⟩ = cur at hcells
  have hsize : cur.size = cap := by rw [hcells]; simp; omega
  have hR : RowR P g1 (w.drew.alloc (.cells cur (P.elem d))) false (P.elem d) (b.map fun x => .int .u8 x.toNat) w.drew.heap.size cap 1 cur := by
    refine ⟨hc1.symm, by simpa using hge, hcm, ⟨_, heap_push_new w.drew _, .inl rfl⟩, by rw [hsize]; omega, fun j v e => ?_, fun i d' e => ?_, fun i d' j v e1 e2 => ?_⟩
    · rw [hcells, Array.getElem?_append] at e
      split at e
      · simp at e; obtain ⟨x, _, rfl⟩ := e; rfl
      · rw [Array.getElem?_replicate] at e
        split at e
        · cases e; rfl
        · cases e
    · rw [List.getElem?_map] at e
      cases hb : b[i]? with
      | none => rw [hb] at e; cases e
      | some x => rw [hb] at e; cases e; rfl
    · rw [List.getElem?_map] at e1
      cases hb : b[i]? with
      | none => rw [hb] at e1; cases e1
      | some x =>
        rw [hb] at e1; cases e1
        cases j with
        | succ j => simp [HV.cells] at e2
        | zero =>
          simp [HV.cells] at e2
          subst e2
          have hlt : i < b.length := (List.getElem?_eq_some_iff.1 hb).1
          have hbi : b[i] = x := by rw [List.getElem?_eq_getElem hlt] at hb; simpa using hb
          rw [hcells]
          simp [Array.getD_eq_getD_getElem?, Array.getElem?_append, hlt, hbi]
          exact .int _ _
  obtain ⟨q1, q2, q3⟩ := r1.drew.newRow hR
  rw [hg1n] at q1 q2 q3
  simp only [List.length_map] at q2 q3
  refine ⟨_, _, _, hrun, q1, hl1.trans q2, ?_, ?_, ?_⟩
  · rcases Nat.eq_zero_or_pos cap with h0 | hp
    · subst h0
      have hb0 : b.length = 0 := by omega
      rw [hb0]
      exact .msl0 _ _ _ _ (by simp [Ghost.header, hb0]; rfl)
    · exact .msl _ _ _ _ _ (by simp [Ghost.header]) hge hp hcm
  · -- the mark behind the end
    have hnew := Lib.bytesWorld_at_new w (P.elem d) ⟨b.toArray⟩
    rw [hcur] at hnew
    refine q3.refr (b := w.heap.size) (heap_push_new w.drew _) (fr' := (cur.size, cur.size + 1)) (.inr (Nat.le_refl _)) (fun y oy ey hk => ?_) (by rw [Lib.bytesWorld_size]; simp) hnew (fun k hk => ?_)
    · by_cases hy : y = h.nx
      · subst hy; rw [HH.new_same] at ey; cases ey; exact ⟨_, _, _, rfl⟩
      · rw [HH.new_ne _ _ hy] at ey
        have hk2 : g1.blk y oy = some w.heap.size := by cases oy <;> simpa [Ghost.blk, Ghost.header, hy] using hk
        have := (r1.apart y _ _ ey hk2).2.2
        omega
    · rcases Nat.lt_or_ge k w.heap.size with hlt | hge'
      · rw [Lib.bytesWorld_at_old w _ _ k hlt, heap_push_lt w.drew _ hlt]; rfl
      · have h1 : (Lib.bytesWorld w (P.elem d) ⟨b.toArray⟩).heap.size ≤ k := by rw [Lib.bytesWorld_size]; omega
        have h2 : (w.drew.alloc (.cells cur (P.elem d))).heap.size ≤ k := by simp; omega
        rw [Array.getElem?_eq_none h1, Array.getElem?_eq_none h2]
  · refine ⟨?_, ?_, ?_, by rw [Lib.bytesWorld_size]; omega, fun k hk => Lib.bytesWorld_at_old w _ _ k (r.frlt k hk)⟩ <;> simp [Lib.bytesWorld, World.freeze, World.alloc, World.drew, -World.alloc_eq, -World.drew_eq]
end
end Go.H
