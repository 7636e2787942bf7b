/- The builtin append, at the layer. -/
import Derived.Test.YtclolaieehmgmaaGreatHGrow
set_option linter.unusedVariables false
set_option linter.unusedSimpArgs false
namespace Go.H

/-- what append, copy and len read -/
def hsrc (h : HH) : HV → Option (List HV)
  | .sl _ ys => some ys
  | .msl y m _ => match h y with | some (.row _ _ ds) => if ds.length = m then some ds else none | _ => none
  | .str s => some (s.map fun b => .int .u8 b.toNat)
  | .asl x o n _ => match h x with | some (.cells cs) => if o + n ≤ cs.length then some ((cs.drop o).take n) else none | _ => none
  | _ => none

def esz (P : Program) (e : TypeId) (ys : List HV) : Prop := ∀ d ∈ ys, d.cells.length = P.cellsOf e

def zok (P : Program) (e : TypeId) : Bool :=
  match P.info? e with
  | some i => match i.zero with
    | some z => z.cells.size == i.size && z.cells.all Value.oneCell' && (0 < i.size)
    | none => false
  | none => false

theorem zok_of {P : Program} {e : TypeId} (h : zok P e = true) : ∃ i z, P.info? e = some i ∧ i.zero = some z ∧ z.cells.size = i.size ∧ (∀ u ∈ z.cells.toList, u.oneCell' = true) ∧ 0 < i.size ∧ P.cellsOf e = i.size := by
  unfold zok at h
  cases hi : P.info? e with
  | none => rw [hi] at h; cases h
  | some i =>
    cases hz : i.zero with
    | none => simp [hi, hz] at h
    | some z =>
      simp only [hi, hz, Bool.and_eq_true, beq_iff_eq, decide_eq_true_eq] at h
      refine ⟨i, z, rfl, hz, h.1.1, fun u hu => ?_, h.2, by simp [Program.cellsOf, hi]⟩
      have := Array.all_eq_true'.1 h.1.2 u (by simpa using hu)
      exact this

def zok0 (P : Program) (e : TypeId) : Bool :=
  match P.info? e with
  | some i => match i.zero with
    | some z => z.cells.size == i.size && z.cells.all Value.oneCell'
    | none => false
  | none => false
theorem zok0_of {P : Program} {e : TypeId} (h : zok0 P e = true) : ∃ i z, P.info? e = some i ∧ i.zero = some z ∧ z.cells.size = i.size ∧ (∀ u ∈ z.cells.toList, u.oneCell' = true) ∧ P.cellsOf e = i.size := by
  unfold zok0 at h
  cases hi : P.info? e with
  | none => rw [hi] at h; cases h
  | some i =>
    cases hz : i.zero with
    | none => simp [hi, hz] at h
    | some z =>
      simp only [hi, hz, Bool.and_eq_true, beq_iff_eq] at h
      exact ⟨i, z, rfl, hz, h.1, fun u hu => Array.all_eq_true'.1 h.2 u (by simpa using hu), by simp [Program.cellsOf, hi]⟩
theorem zok.z0 {P : Program} {e : TypeId} (h : zok P e = true) : zok0 P e = true := by
  unfold zok at h; unfold zok0
  split at h
  · split at h
    · simp only [Bool.and_eq_true] at h ⊢; exact h.1
    · cases h
  · cases h

/-- the model's cells of a source -/
structure News (g : Ghost) (sz : Nat) (ys : List HV) (news : List Value) : Prop where
  len : news.length = ys.length * sz
  one : ∀ u ∈ news, u.oneCell' = true
  elem : ∀ (i : Nat) (d : HV), ys[i]? = some d → d.cells.length = sz
  rd : ∀ (i : Nat) (d : HV) (j : Nat) (v : HV), ys[i]? = some d → d.cells[j]? = some v → VR g v (news.getD (i * sz + j) undef)

structure Src (P : Program) (w : World) (sz : Nat) (x : Value) (m : Nat) (news : List Value) : Prop where
  len : ∀ w', (Builtin.lenOf x).run P w' = .ok m w'
  cells : ∀ w', (∀ a v, w.cell? a = some v → w'.cell? a = some v) → (Builtin.firstCells sz m x).run P w' = .ok news.toArray w'

theorem idx_lt {i j n sz : Nat} (hi : i < n) (hj : j < sz) : i * sz + j < n * sz := by
  have h1 : (i + 1) * sz ≤ n * sz := Nat.mul_le_mul_right _ hi
  rw [Nat.succ_mul] at h1; omega

theorem news_of_cells {g : Ghost} {w : World} {b o sz : Nat} {ys : List HV} (hsz : 0 < sz) (he : ∀ (i : Nat) (d : HV), ys[i]? = some d → d.cells.length = sz)
    (hr : ∀ (i : Nat) (d : HV), ys[i]? = some d → Reads g w b (o + i * sz) d.cells) :
    ∃ news, News g sz ys news ∧ ∀ j v, news[j]? = some v → w.cell? ⟨b, o + j, none⟩ = some v := by
  have hcell : ∀ k, k < ys.length * sz → ∃ cv, w.cell? ⟨b, o + k, none⟩ = some cv ∧ cv.oneCell' = true := fun k hk => by
    have h1 : k / sz < ys.length := Nat.div_lt_of_lt_mul (by rw [Nat.mul_comm]; exact hk)
    have h2 : k % sz < sz := Nat.mod_lt _ hsz
    have hd := List.getElem?_eq_getElem h1
    have hl := he _ _ hd
    obtain ⟨cv, a1, a2, _⟩ := hr _ _ hd (k % sz) _ (List.getElem?_eq_getElem (by rw [hl]; exact h2))
    refine ⟨cv, ?_, a2⟩
    have : o + k / sz * sz + k % sz = o + k := by rw [Nat.add_assoc, Nat.mul_comm, Nat.div_add_mod]
    rw [← this]; exact a1
  refine ⟨(List.range (ys.length * sz)).map fun k => (w.cell? ⟨b, o + k, none⟩).getD undef, ⟨by simp, fun u hu => ?_, he, fun i d j v e1 e2 => ?_⟩, fun j v hv => ?_⟩
  · obtain ⟨k, hk, rfl⟩ := List.mem_map.1 hu
    obtain ⟨cv, a1, a2⟩ := hcell k (List.mem_range.1 hk)
    simp [a1, a2]
  · have hi := (List.getElem?_eq_some_iff.1 e1).1
    have hj := (List.getElem?_eq_some_iff.1 e2).1
    rw [he i d e1] at hj
    have hlt := idx_lt hi hj
    obtain ⟨cv, a1, a2, a3⟩ := hr i d e1 j v e2
    rw [show o + i * sz + j = o + (i * sz + j) from by omega] at a1
    simp only [List.getD_eq_getElem?_getD, List.getElem?_map, List.getElem?_range hlt, Option.map_some, Option.getD_some, a1]
    exact a3
  · have hj : j < ys.length * sz := by have := (List.getElem?_eq_some_iff.1 hv).1; simpa using this
    obtain ⟨cv, a1, a2⟩ := hcell j hj
    simp only [List.getElem?_map, List.getElem?_range hj, Option.map_some, Option.some.injEq, a1, Option.getD_some] at hv
    rw [a1, hv]

theorem src_slice {P : Program} {g : Ghost} {w : World} {b o sz c : Nat} {ys : List HV} {news : List Value} (a : Option Addr) (hn : News g sz ys news)
    (hc : ∀ j v, news[j]? = some v → w.cell? ⟨b, o + j, none⟩ = some v) (ha : ys ≠ [] → a = some ⟨b, o, none⟩) (hp : P = P) : Src P w sz (.slice a ys.length c) ys.length news := by
  refine ⟨fun w' => by simp [Builtin.lenOf], fun w' hw => ?_⟩
  cases a with
  | none =>
    have : ys = [] := by
      rcases Decidable.em (ys = []) with h | h
      · exact h
      · cases ha h
    subst this
    have h0 : news = [] := List.eq_nil_of_length_eq_zero (by simpa using hn.len)
    subst h0
    simp [Builtin.firstCells]
  | some a =>
    refine run_firstCells_some w' sz ys.length a _ _ news hn.len fun j v hv => hw _ _ ?_
    have hne : ys ≠ [] := by
      rintro rfl
      have h0 : news = [] := List.eq_nil_of_length_eq_zero (by simpa using hn.len)
      subst h0; cases hv
    have := ha hne
    cases this
    rw [addr_add]
    exact hc j v hv

theorem src_of {P : Program} {Fr : Nat → Prop} {g : Ghost} {h : HH} {w : World} (r : Rel P Fr g h w) {x : HV} {c : Value} (hx : VR g x c) {ys : List HV} (hs : hsrc h x = some ys)
    {e : TypeId} (he : esz P e ys) (hz : 0 < P.cellsOf e) : ∃ news, News g (P.cellsOf e) ys news ∧ Src P w (P.cellsOf e) c ys.length news := by
  have he' : ∀ (i : Nat) (d : HV), ys[i]? = some d → d.cells.length = P.cellsOf e := fun i d hd => he d (List.mem_of_getElem? hd)
  cases hx with
  | sl full ds a n c b o sz hn hc hf hm ha h0 h1 h2 =>
    simp only [hsrc, Option.some.injEq] at hs
    subst hs
    subst hn
    obtain ⟨news, n1, n2⟩ := news_of_cells (g := g) (w := w) (b := b) (o := o) hz he' fun i d hd => by
      have hsz : sz = P.cellsOf e := (h0 i d hd).symm.trans (he' i d hd)
      subst hsz
      exact reads_imm r (fun j v hv => h1 i d j v hd hv) (fun j v hv => h2 i d j v hd hv)
    exact ⟨news, n1, src_slice a n1 n2 ha rfl⟩
  | asl x o n c b hv hc hp hm =>
    simp only [hsrc] at hs
    split at hs
    · rename_i cs hh
      split at hs
      · rename_i hl
        cases hs
        obtain ⟨arr, e', a1, a2, a3, a4⟩ := r.obj x _ hh b hv
        have hlen : ((cs.drop o).take n).length = n := by simp; omega
        have hget : ∀ (i : Nat) (d : HV), ((cs.drop o).take n)[i]? = some d → cs[o + i]? = some d := fun i d e => by
          rw [List.getElem?_take] at e
          split at e
          · rw [List.getElem?_drop] at e; exact e
          · cases e
        have hone : ∀ (i : Nat) (d : HV), cs[o + i]? = some d → d.cells = [d] := fun i d hd => by
          have hlt : o + i < arr.size := by rw [a2]; exact (List.getElem?_eq_some_iff.1 hd).1
          have h1 := a3 (o + i) _ (Array.getElem?_eq_getElem hlt)
          have h2 := a4 (o + i) d hd
          rw [Array.getD_eq_getD_getElem?, Array.getElem?_eq_getElem hlt] at h2
          simp only [Option.getD_some] at h2
          cases d with
          | agg ds =>
            exfalso
            generalize arr[o + i] = u at h1 h2
            cases h2
            simp [Value.oneCell'] at h1
          | _ => rfl
        obtain ⟨news, n1, n2⟩ := news_of_cells (g := g) (w := w) (b := b) (o := o) hz he' fun i d hd => by
          have hd' := hget i d hd
          have h1 := hone i d hd'
          have h2 : P.cellsOf e = 1 := by rw [← he' i d hd, h1]; rfl
          rw [h1, h2]
          intro j v hj
          have hj0 : j = 0 := by have := (List.getElem?_eq_some_iff.1 hj).1; simpa using this
          subst hj0
          simp only [List.getElem?_cons_zero, Option.some.injEq] at hj
          subst hj
          have hlt : o + i < arr.size := by rw [a2]; exact (List.getElem?_eq_some_iff.1 hd').1
          have h3 := a4 (o + i) d hd'
          rw [Array.getD_eq_getD_getElem?, Array.getElem?_eq_getElem hlt] at h3
          exact ⟨arr[o + i], by simp [World.cell?, a1, hlt], a3 _ _ (Array.getElem?_eq_getElem hlt), h3⟩
        refine ⟨news, n1, ?_⟩
        have := src_slice (P := P) (w := w) (c := c) (some ⟨b, o, none⟩) n1 n2 (fun _ => rfl) rfl
        rw [hlen] at this ⊢
        exact this
      · cases hs
    · cases hs
  | msl0 x b sz a hrow =>
    simp only [hsrc] at hs
    split at hs
    · split at hs
      · rename_i hl
        cases hs
        have : ys = [] := List.eq_nil_of_length_eq_zero hl
        subst this
        exact ⟨[], ⟨by simp, by simp, by simp, by simp⟩, src_slice (g := g) (b := 0) (o := 0) (ys := []) a ⟨by simp, by simp, by simp, by simp⟩ (by simp) (fun h => absurd rfl h) rfl⟩
      · cases hs
    · cases hs
  | msl x n b c sz hrow hc hp hm =>
    simp only [hsrc] at hs
    split at hs
    · rename_i im e' ds hh
      split at hs
      · rename_i hl
        cases hs
        subst hl
        obtain ⟨_, a1, a2, a3, a4⟩ := (r.obj x _ hh).2 b c sz hrow
        obtain ⟨cur, ⟨fr, b1, bf⟩, b2, b3, b4, b5, b6⟩ := a4 (by omega)
        obtain ⟨news, n1, n2⟩ := news_of_cells (g := g) (w := w) (b := b) (o := 0) hz he' fun i d hd j v hv => by
          have hsz : sz = P.cellsOf e := (b4 i d hd).symm.trans (he' i d hd)
          subst hsz
          have hi := (List.getElem?_eq_some_iff.1 hd).1
          have hj := (List.getElem?_eq_some_iff.1 hv).1
          rw [b4 i d hd] at hj
          have hlt : i * P.cellsOf e + j < cur.size := by rw [b2]; exact idx_lt (by omega) hj
          have ha : cur[i * P.cellsOf e + j]? = some (cur.getD (i * P.cellsOf e + j) undef) := by simp [Array.getD, hlt]
          exact ⟨_, by simp only [World.cell?, b1, Nat.zero_add]; exact ha, b3 _ _ ha, b5 i d j v hd hv⟩
        exact ⟨news, n1, src_slice (some ⟨b, 0, none⟩) n1 n2 (fun _ => rfl) rfl⟩
      · cases hs
    · cases hs
  | str s =>
    simp only [hsrc, Option.some.injEq] at hs
    subst hs
    have hone : s = [] ∨ P.cellsOf e = 1 := by
      cases s with
      | nil => exact .inl rfl
      | cons a s => exact .inr ((he (.int .u8 a.toNat) (by simp)).symm)
    rcases hone with rfl | hone
    · exact ⟨[], ⟨by simp, by simp, by simp, by simp⟩, fun w' => by simp [Builtin.lenOf, ByteArray.size], fun w' _ => by simp [Builtin.firstCells]⟩
    · rw [hone]
      refine ⟨s.map fun b => .int .u8 b.toNat, ⟨by simp, ?_, fun i d hd => by rw [← hone]; exact he' i d hd, fun i d j v e1 e2 => ?_⟩, fun w' => by simp [Builtin.lenOf, ByteArray.size], fun w' _ => ?_⟩
      · intro u hu
        obtain ⟨b, _, rfl⟩ := List.mem_map.1 hu; rfl
      · rw [List.getElem?_map] at e1
        cases hb : s[i]? with
        | none => rw [hb] at e1; cases e1
        | some b =>
          rw [hb] at e1
          cases e1
          cases j with
          | succ j => cases e2
          | zero =>
            cases e2
            simp only [List.getD_eq_getElem?_getD, Nat.mul_one, Nat.add_zero, List.getElem?_map, hb, Option.map_some, Option.getD_some]
            exact .int _ _
      · simp only [Builtin.firstCells, Sem.run_pure]
        congr 1
        simp [ByteArray.extract, ByteArray.copySlice]
  | _ => simp [hsrc] at hs

/-- the second argument's type: no whole number (that would be append of a make) -/
def srcType (P : Program) (u : TypeId) : Bool :=
  match P.underlying u with
  | some (.slice _) | some .string => true
  | _ => false

theorem run_srcType {P : Program} {u : TypeId} (h : srcType P u = true) (w : World) : ∃ d, P.underlying u = some d ∧ (∀ k, d ≠ .int k) := by
  unfold srcType at h
  split at h
  · rename_i e he; exact ⟨_, he, by simp⟩
  · rename_i he; exact ⟨_, he, by simp⟩
  · cases h

section
variable {P : Program} {w : World} {t u ty e : TypeId} {i : TypeInfo} {z : Value}

theorem run_append_in (ht : P.underlying t = some (.slice e)) (hu : srcType P u = true) (hi : P.info? e = some i) {b n c m : Nat} {cur : Array Value} {news : List Value} {x : Value}
    {fr : Nat × Nat} (hb : w.heap[b]? = some (.cells cur e fr)) (hfr : frOk fr cur.size) (hx : Src P w i.size x m news) (hl : news.length = m * i.size) (h1 : ∀ u ∈ news, u.oneCell' = true) (hroom : n + m ≤ c) (hfit : n * i.size + news.length ≤ cur.size) :
    (Builtin.append_ #[t, u] ty #[.slice (some ⟨b, 0, none⟩) n c, x]).run P w =
      .ok (.slice (some ⟨b, 0, none⟩) (n + m) c) (w.setRow b (cur.toList.take (n * i.size) ++ news ++ cur.toList.drop (n * i.size + news.length)).toArray) := by
  obtain ⟨d, hd, hdk⟩ := run_srcType hu w
  have hf := hx.cells w (fun _ _ h => h)
  have hst := run_storeCells_fr P b (n * i.size) e fr news 0 cur w hb hfr (by simpa using hfit) h1
  simp only [Nat.add_zero] at hst
  simp [Builtin.append_, run_underlying ht, run_underlying hd, sizeOf, typeInfo, hi, hx.len w, hroom, hf, addr_add, hst]

theorem run_append_none (ht : P.underlying t = some (.slice e)) (hu : srcType P u = true) (hi : P.info? e = some i) {a : Option Addr} {n c : Nat} {x : Value}
    (hx : Src P w i.size x 0 []) (hroom : n ≤ c) :
    (Builtin.append_ #[t, u] ty #[.slice a n c, x]).run P w = .ok (.slice a n c) w := by
  obtain ⟨d, hd, hdk⟩ := run_srcType hu w
  have hf := hx.cells w (fun _ _ h => h)
  cases a with
  | none => simp [Builtin.append_, run_underlying ht, run_underlying hd, sizeOf, typeInfo, hi, hx.len w, hroom, hf]
  | some a => simp [Builtin.append_, run_underlying ht, run_underlying hd, sizeOf, typeInfo, hi, hx.len w, hroom, hf, storeCells]

theorem run_append_new (ht : P.underlying t = some (.slice e)) (hu : srcType P u = true) (hi : P.info? e = some i) (hz : i.zero = some z) {a : Option Addr} {n c m : Nat} {olds news : List Value} {x : Value}
    (ho : Src P w i.size (.slice a n c) n olds) (hx : Src P w i.size x m news) (hg : c < n + m) (h63 : n + m ≤ 9223372036854775807) (hby : (n + m) * i.bytes ≤ 140737488355328) :
    (Builtin.append_ #[t, u] ty #[.slice a n c, x]).run P w =
      .ok (.slice (some ⟨w.heap.size, 0, none⟩) (n + m) (grownCap w (n + m) c e))
        (w.drew.alloc (.cells ((olds ++ news).toArray ++ Builtin.zeroCells z.cells (grownCap w (n + m) c e - (n + m))) e)) := by
  obtain ⟨d, hd, hdk⟩ := run_srcType hu w
  have hn : ¬ (n + m ≤ c) := by omega
  have h63' : ¬ (9223372036854775807 < ((n : Int) + (m : Int))) := by omega
  have hfit := growslice_fits hg hby
  have h48' : ¬ (281474976710656 < Builtin.nextslicecap (n + m) c * i.bytes) := by omega
  have hf := hx.cells w.drew (fun _ _ h => h)
  have hfo := ho.cells w.drew (fun _ _ h => h)
  simp [Builtin.append_, run_underlying ht, run_underlying hd, sizeOf, typeInfo, zeroValue, hi, hz, hx.len w, hn, h63', h48', Question.forced, hf, hfo, newRow, grownCap]
  congr 2
  apply Array.ext'
  simp [List.append_assoc]
end

theorem news_append {g : Ghost} {sz : Nat} {a b : List HV} {x y : List Value} (h : News g sz a x) (k : News g sz b y) : News g sz (a ++ b) (x ++ y) where
  len := by rw [List.length_append, h.len, k.len, List.length_append, Nat.add_mul]
  one := fun u hu => (List.mem_append.1 hu).elim (h.one u) (k.one u)
  elem := fun i d e => by
    rw [List.getElem?_append] at e
    split at e
    · exact h.elem _ _ e
    · exact k.elem _ _ e
  rd := fun i d j v e1 e2 => by
    rw [List.getElem?_append] at e1
    split at e1
    · rename_i hi
      have hj : j < sz := by rw [← h.elem i d e1]; exact (List.getElem?_eq_some_iff.1 e2).1
      have := h.rd i d j v e1 e2
      rw [List.getD_eq_getElem?_getD, List.getElem?_append_left (by rw [h.len]; exact idx_lt hi hj), ← List.getD_eq_getElem?_getD]
      exact this
    · rename_i hi
      have := k.rd (i - a.length) d j v e1 e2
      have hle : x.length ≤ i * sz + j := by rw [h.len]; exact Nat.le_trans (Nat.mul_le_mul_right _ (by omega)) (Nat.le_add_right _ _)
      rw [List.getD_eq_getElem?_getD, List.getElem?_append_right hle, ← List.getD_eq_getElem?_getD]
      have he : i * sz + j - x.length = (i - a.length) * sz + j := by
        rw [h.len, Nat.sub_mul]
        have : a.length * sz ≤ i * sz := Nat.mul_le_mul_right _ (by omega)
        omega
      rw [he]; exact this

theorem zeroCells_one {z : Array Value} (h : ∀ u ∈ z.toList, u.oneCell' = true) (n : Nat) : ∀ u ∈ (Builtin.zeroCells z n).toList, u.oneCell' = true := by
  intro u hu
  simp only [Builtin.zeroCells, Array.toList_map, List.mem_map] at hu
  obtain ⟨k, hk, rfl⟩ := hu
  rcases Nat.lt_or_ge 0 z.size with hz | hz
  · have hlt : k % z.size < z.size := Nat.mod_lt _ hz
    rw [getElem!_pos z (k % z.size) hlt]
    exact h _ (by simp)
  · have : z = #[] := Array.eq_empty_of_size_eq_zero (by omega)
    subst this; simp at hk

/-- The cells of a row that was just made by append. -/
theorem RowR.made {P : Program} {g : Ghost} {w : World} {e : TypeId} {ds : List HV} {b c : Nat} {xs : List Value} {z : Array Value} {im : Bool} {fr : Nat × Nat} (hb : w.heap[b]? = some (.cells (xs.toArray ++ Builtin.zeroCells z (c - ds.length)) e fr)) (hfr : frOk fr (xs.toArray ++ Builtin.zeroCells z (c - ds.length)).size)
    (hn : News g (P.cellsOf e) ds xs) (hz : z.size = P.cellsOf e) (h1 : ∀ u ∈ z.toList, u.oneCell' = true) (hl : ds.length ≤ c) (hm : c ≤ maxLen) :
    RowR P g w im e ds b c (P.cellsOf e) (xs.toArray ++ Builtin.zeroCells z (c - ds.length)) where
  esz := rfl
  len := hl
  max := hm
  blk := ⟨fr, hb, hfr⟩
  size := by
    simp only [Array.size_append, List.size_toArray, size_zeroCells, hz, hn.len, ← Nat.add_mul]
    congr 1; omega
  one := fun j v hv => by
    have hmem : v ∈ (xs.toArray ++ Builtin.zeroCells z (c - ds.length)).toList := by
      rw [Array.mem_toList_iff]; exact Array.mem_of_getElem? hv
    rw [Array.toList_append, List.mem_append] at hmem
    rcases hmem with hh | hh
    · exact hn.one v (by simpa using hh)
    · exact zeroCells_one h1 _ v hh
  elem := hn.elem
  rd := fun i d j v e1 e2 => by
    have hi := (List.getElem?_eq_some_iff.1 e1).1
    have hj : j < P.cellsOf e := by rw [← hn.elem i d e1]; exact (List.getElem?_eq_some_iff.1 e2).1
    have hlt : i * P.cellsOf e + j < xs.length := by rw [hn.len]; exact idx_lt hi hj
    have := hn.rd i d j v e1 e2
    rw [Array.getD_eq_getD_getElem?, Array.getElem?_append_left (by simpa using hlt), List.getElem?_toArray, ← List.getD_eq_getElem?_getD]
    exact this

/-- append to a slice without room: a new row. -/
theorem append_full {P : Program} {Fr : Nat → Prop} {g : Ghost} {h : HH} {w : World} (r : Rel P Fr g h w) {t u ty e : TypeId} (ht : P.underlying t = some (.slice e)) (hu : srcType P u = true) (hz : zok P e = true)
    {ds ys : List HV} {x : HV} {cs cx : Value} (hs : VR g (.sl true ds) cs) (hx : VR g x cx) (hy : hsrc h x = some ys) (he1 : esz P e ds) (he2 : esz P e ys) (hne : ds = [] ∨ ys ≠ [])
    (hlen : ds.length + ys.length ≤ maxLen) (hby : (ds.length + ys.length) * P.bytesOf e ≤ 140737488355328) :
    ∃ cv w' g', (Builtin.append_ #[t, u] ty #[cs, cx]).run P w = .ok cv w' ∧ h g.nx = none ∧ g.le g' ∧ VR g' (.msl g.nx (ds.length + ys.length) (P.cellsOf e)) cv ∧
      Rel P Fr g' (h.new g.nx (.row false e (ds ++ ys))) w' ∧ Kept Fr w w' := by
  obtain ⟨i, z, hi, hzz, hz1, hz2, hz3, hz4⟩ := zok_of hz
  have hpos : 0 < P.cellsOf e := by omega
  obtain ⟨news, n1, n2⟩ := src_of r hx hy he2 hpos
  obtain ⟨olds, o1, o2⟩ := src_of r hs (ys := ds) rfl he1 hpos
  have hlen' : ds.length + ys.length ≤ 9223372036854775807 := by simp only [maxLen] at hlen; omega
  have hby' : (ds.length + ys.length) * i.bytes ≤ 140737488355328 := by simpa [Program.bytesOf, hi] using hby
  cases hs with
  | sl full _ a n c b o sz hn hc hf hm ha h0 h1 h2 =>
    have hcn : c = n := hf rfl
    subst hcn
    subst hn
    rw [hz4] at n2 o2
    rcases Nat.eq_zero_or_pos ys.length with h0y | hyp
    · have hye : ys = [] := List.eq_nil_of_length_eq_zero h0y
      subst hye
      have hde : ds = [] := by rcases hne with h | h; · exact h
                               · exact absurd rfl h
      subst hde
      have hnews : news = [] := List.eq_nil_of_length_eq_zero (by simpa using n1.len)
      subst hnews
      obtain ⟨q1, q2, q3⟩ := r.newRow0 e
      exact ⟨_, w, _, run_append_none ht hu hi n2 (Nat.le_refl _), q1, q2, .msl0 _ 0 (P.cellsOf e) a (by simp [Ghost.header]), by simpa using q3, Kept.refl _ _⟩
    · have hrun := run_append_new (ty := ty) ht hu hi hzz o2 n2 (by omega) hlen' hby'
      have hge := grownCap_ge w (ds.length + ys.length) ds.length e
      have hcm := grownCap_le_maxLen w (ds.length + ys.length) ds.length e hlen
      have hlen2 : (ds ++ ys).length = ds.length + ys.length := by simp
      have hR := RowR.made (P := P) (g := g) (w := w.drew.alloc (.cells ((olds ++ news).toArray ++ Builtin.zeroCells z.cells (grownCap w (ds.length + ys.length) ds.length e - (ds ++ ys).length)) e)) (e := e) (ds := ds ++ ys) (b := w.heap.size) (im := false)
        (heap_push_new w.drew _) (.inl rfl) (news_append o1 n1) (by rw [hz1, hz4]) hz2 (by rw [hlen2]; exact hge) hcm
      obtain ⟨q1, q2, q3⟩ := r.drew.newRow hR
      rw [hlen2] at q2 q3
      refine ⟨_, _, _, hrun, q1, q2, ?_, q3, (Kept.refl Fr w).drew.alloc r.frlt _⟩
      exact .msl _ _ _ _ (P.cellsOf e) (by simp [Ghost.header]) hge (by omega) hcm

/-- append to a row. -/
theorem append_row {P : Program} {Fr : Nat → Prop} {g : Ghost} {h : HH} {w : World} (r : Rel P Fr g h w) {t u ty e : TypeId} (ht : P.underlying t = some (.slice e)) (hu : srcType P u = true) (hz : zok P e = true)
    {xn n : Nat} {im : Bool} {ds ys : List HV} {x : HV} {cs cx : Value} {sz : Nat} (hs : VR g (.msl xn n sz) cs) (hh : h xn = some (.row im e ds)) (hn : ds.length = n) (hx : VR g x cx) (hy : hsrc h x = some ys) (he2 : esz P e ys)
    (hlen : ds.length + ys.length ≤ maxLen) (hby : (ds.length + ys.length) * P.bytesOf e ≤ 140737488355328) :
    ∃ cv w' g', (Builtin.append_ #[t, u] ty #[cs, cx]).run P w = .ok cv w' ∧ g.le g' ∧ VR g' (.msl xn (ds.length + ys.length) sz) cv ∧
      Rel P Fr g' (h.set xn (.row im e (ds ++ ys))) w' ∧ Kept Fr w w' := by
  obtain ⟨i, z, hi, hzz, hz1, hz2, hz3, hz4⟩ := zok_of hz
  have hpos : 0 < P.cellsOf e := by omega
  have hsz : sz = P.cellsOf e := by
    cases hs with
    | msl0 _ b _ a hrow => exact ((r.obj xn _ hh).2 b 0 sz (by rw [hn]; exact hrow)).2.1
    | msl _ _ b c _ hrow hc hp hm => exact ((r.obj xn _ hh).2 b c sz (by rw [hn]; exact hrow)).2.1
  subst hsz
  obtain ⟨news, n1, n2⟩ := src_of r hx hy he2 hpos
  have hlen' : ds.length + ys.length ≤ 9223372036854775807 := by simp only [maxLen] at hlen; omega
  have hby' : (ds.length + ys.length) * i.bytes ≤ 140737488355328 := by simpa [Program.bytesOf, hi] using hby
  have hlen2 : (ds ++ ys).length = ds.length + ys.length := by simp
  rw [hz4] at n2
  have grow : ∀ {a : Option Addr} {c : Nat} {olds : List Value} {hd : Nat × Nat × Nat}, g.row xn ds.length = some hd → News g (P.cellsOf e) ds olds → Src P w i.size (.slice a ds.length c) ds.length olds → c < ds.length + ys.length → 0 < ys.length →
      ∃ cv w' g', (Builtin.append_ #[t, u] ty #[.slice a ds.length c, cx]).run P w = .ok cv w' ∧ g.le g' ∧ VR g' (.msl xn (ds.length + ys.length) (P.cellsOf e)) cv ∧
        Rel P Fr g' (h.set xn (.row im e (ds ++ ys))) w' ∧ Kept Fr w w' := by
    intro a c olds hd hrow o1 o2 hc hyp
    have hrun := run_append_new (ty := ty) ht hu hi hzz o2 n2 hc hlen' hby'
    have hge := grownCap_ge w (ds.length + ys.length) c e
    have hcm := grownCap_le_maxLen w (ds.length + ys.length) c e hlen
    have hR := RowR.made (P := P) (g := g) (w := w.drew.alloc (.cells ((olds ++ news).toArray ++ Builtin.zeroCells z.cells (grownCap w (ds.length + ys.length) c e - (ds ++ ys).length)) e)) (e := e) (ds := ds ++ ys) (b := w.heap.size) (im := im)
      (heap_push_new w.drew _) (.inl rfl) (news_append o1 n1) (by rw [hz1, hz4]) hz2 (by rw [hlen2]; exact hge) hcm
    obtain ⟨q1, q2, q3, _⟩ := r.putRow hh hrow (by rw [hlen2]; omega) (.inl (by rw [hlen2]; omega)) (.inr (Nat.le_refl _)) (by simp) (by simp) (fun k hk _ => heap_push_lt w.drew _ hk) (by omega)
      (fun o v e' => by have := World.block_lt_of_cell? w _ (r.imm _ _ _ e').1; simp at this) hR
    rw [hlen2] at q1 q2 q3
    exact ⟨_, _, _, hrun, q1, .msl _ _ _ _ _ q3 hge (by omega) hcm, q2, (Kept.refl Fr w).drew.alloc r.frlt _⟩
  cases hs with
  | msl0 _ b _ a hrow =>
    have hde : ds = [] := List.eq_nil_of_length_eq_zero hn
    subst hde
    rcases Nat.eq_zero_or_pos ys.length with h0y | hyp
    · have hye : ys = [] := List.eq_nil_of_length_eq_zero h0y
      subst hye
      have hnews : news = [] := List.eq_nil_of_length_eq_zero (by simpa using n1.len)
      subst hnews
      refine ⟨_, w, g, run_append_none ht hu hi n2 (Nat.le_refl _), Ghost.le.refl g, .msl0 _ b _ a hrow, ?_, Kept.refl _ _⟩
      have : h.set xn (.row im e ([] ++ [])) = h := by
        refine HH.ext (fun y => ?_) rfl
        simp only [HH.set]; split
        · rename_i hyx; subst hyx; exact hh.symm
        · rfl
      rw [this]; exact r
    · exact grow (olds := []) hrow ⟨by simp, by simp, by simp, by simp⟩ ⟨fun w' => by simp [Builtin.lenOf], fun w' _ => by cases a <;> simp [Builtin.firstCells, loadCells, loadCellsFrom]⟩ (by simpa using hyp) hyp
  | msl _ _ b c _ hrow hc hp hm =>
    subst hn
    obtain ⟨_, a1, a2, a3, a4⟩ := (r.obj xn _ hh).2 b c _ hrow
    obtain ⟨cur, ⟨fr, b1, bf⟩, b2, b3, b4, b5, b6⟩ := a4 (by omega)
    by_cases hroom : ds.length + ys.length ≤ c
    · have hfit : ds.length * i.size + news.length ≤ cur.size := by
        rw [n1.len, b2, hz4, ← Nat.add_mul]; exact Nat.mul_le_mul_right _ hroom
      have hrun := run_append_in (ty := ty) ht hu hi b1 bf n2 (by rw [n1.len, hz4]) n1.one hroom hfit
      have hspl : ∀ k, ((cur.toList.take (ds.length * i.size) ++ news ++ cur.toList.drop (ds.length * i.size + news.length)).toArray).getD k undef = _ := fun k => getD_splice hfit k
      have hR : RowR P g (w.setRow b (cur.toList.take (ds.length * i.size) ++ news ++ cur.toList.drop (ds.length * i.size + news.length)).toArray) im e (ds ++ ys) b c (P.cellsOf e)
          (cur.toList.take (ds.length * i.size) ++ news ++ cur.toList.drop (ds.length * i.size + news.length)).toArray := by
        refine ⟨rfl, by rw [hlen2]; exact hroom, hm, ⟨fr, setRow_heap w b cur _ e fr b1, by rw [size_splice hfit]; exact bf⟩, by rw [size_splice hfit, b2], one_splice b3 n1.one, fun k d ed => ?_, fun k d j v ed ev => ?_⟩
        · rw [List.getElem?_append] at ed
          split at ed
          · exact b4 k d ed
          · exact n1.elem _ d ed
        · rw [hspl]
          rw [List.getElem?_append] at ed
          split at ed
          · rename_i hk
            have hj : j < P.cellsOf e := by rw [← b4 k d ed]; exact (List.getElem?_eq_some_iff.1 ev).1
            have h2 := idx_lt hk hj
            rw [← hz4, if_pos h2]
            exact b5 k d j v ed ev
          · rename_i hk
            have hki := (List.getElem?_eq_some_iff.1 ed).1
            have hj : j < P.cellsOf e := by rw [← n1.elem _ d ed]; exact (List.getElem?_eq_some_iff.1 ev).1
            have h1 : ds.length * P.cellsOf e ≤ k * P.cellsOf e := Nat.mul_le_mul_right _ (by omega)
            have h2 := idx_lt hki hj
            have h3 : k * P.cellsOf e = ds.length * P.cellsOf e + (k - ds.length) * P.cellsOf e := by rw [← Nat.add_mul]; congr 1; omega
            rw [← hz4, if_neg (by omega), if_pos (by rw [n1.len]; omega)]
            have := n1.rd _ d j v ed ev
            have he : k * P.cellsOf e + j - ds.length * P.cellsOf e = (k - ds.length) * P.cellsOf e + j := by omega
            rw [he]; exact this
      have hbk : g.blk xn (.row im e ds) = some b := by simp [Ghost.blk, hrow]; omega
      have hi' : ∀ o v, g.imm b o = some v → ((cur.toList.take (ds.length * i.size) ++ news ++ cur.toList.drop (ds.length * i.size + news.length)).toArray)[o]? = some v := by
        intro o v e'
        have hcur : cur[o]? = some v := by have := (r.imm b o v e').1; simpa [World.cell?, b1] using this
        have ho : o < ds.length * i.size := by
          cases im with
          | false => have := (r.apart xn _ b hh hbk).2.1 o trivial; rw [this] at e'; cases e'
          | true =>
            rcases Nat.lt_or_ge o (ds.length * i.size) with h' | h'
            · exact h'
            · have := (r.apart xn _ b hh hbk).2.1 o (by simp only [HObj.mine]; rw [hz4]; exact h'); rw [this] at e'; cases e'
        have hos := (Array.getElem?_eq_some_iff.1 hcur).1
        have hg := hspl o
        rw [if_pos ho] at hg
        have hsz := size_splice hfit
        have hlt : o < ((cur.toList.take (ds.length * i.size) ++ news ++ cur.toList.drop (ds.length * i.size + news.length)).toArray).size := by rw [hsz]; exact hos
        rw [Array.getD_eq_getD_getElem?, Array.getElem?_eq_getElem hlt, Array.getD_eq_getD_getElem?, hcur] at hg
        rw [Array.getElem?_eq_getElem hlt]
        simpa using hg
      obtain ⟨q1, q2, q3, _⟩ := r.putRow hh hrow (by rw [hlen2]; omega)
        (by rw [hlen2]; exact (Nat.eq_zero_or_pos ys.length).elim (fun h0 => .inr ⟨by omega, rfl⟩) (fun h0 => .inl (by omega))) (.inl hbk) (by simp) (by simpa using (r.apart xn _ b hh hbk).2.2)
        (fun k hk hkb => setRow_other w b k _ hkb) (by omega) hi' hR
      rw [hlen2] at q1 q2 q3
      exact ⟨_, _, _, hrun, q1, .msl _ _ _ _ _ q3 hroom (by omega) hm, q2, ⟨rfl, rfl, rfl, by simp, fun k hk => setRow_other w b k _ (by rintro rfl; exact (r.apart xn _ _ hh hbk).1 hk)⟩⟩
    · obtain ⟨olds, o1, o2⟩ := src_of r (.msl xn ds.length b c (P.cellsOf e) hrow hc hp hm) (ys := ds) (by simp [hsrc, hh]) (fun d hd => by
        obtain ⟨k, hk⟩ := List.getElem?_of_mem hd; exact b4 k d hk) hpos
      rw [hz4] at o2
      exact grow hrow o1 o2 (by omega) (by omega)

end Go.H
