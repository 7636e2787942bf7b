/- Ranges over maps, and conversions. -/
import Derived.Test.YtclolaieehmgmaaGreatHExtra3
set_option linter.unusedVariables false
set_option linter.unusedSimpArgs false
namespace Go.H

section
variable {P : Program} {Fr : Nat → Prop} {g : Ghost} {h : HH} {w : World}

theorem hconv_sound (r : Rel P Fr g h w) {s d : TypeId} {v : HV} {cv : Value} (hv : VR g v cv) (hc : hconvs P d v = true) {K : HV → HH → Prop} (hk : hconv P s d v h K) :
    ∃ u cu h' g' w', K u h' ∧ g.le g' ∧ VR g' u cu ∧ Rel P Fr g' h' w' ∧ Kept Fr w w' ∧ (convert s d cv).run P w = .ok cu w' := by
  have bytes : ∀ ds, hsrc h v = ds → (∃ a n c, cv = .slice a n c) → P.underlying d = some .string → bytesT P s = true → (match ds with | some ys => ys.all isByte = true ∧ K (.str (ys.map hbyte)) h | none => False) →
      ∃ u cu h' g' w', K u h' ∧ g.le g' ∧ VR g' u cu ∧ Rel P Fr g' h' w' ∧ Kept Fr w w' ∧ (convert s d cv).run P w = .ok cu w' := by
    intro ds e1 e2 e3 e4 e5
    cases ds with
    | none => exact e5.elim
    | some ys => exact ⟨_, _, h, g, w, e5.2, Ghost.le.refl g, .str _, r, Kept.refl _ _, conv_bytes r e4 e3 hv e1 e5.1 e2⟩
  unfold hconvs at hc
  split at hc
  · rename_i hd
    obtain ⟨k1, k2⟩ := hk
    refine bytes _ rfl ?_ hd k1 k2
    cases hv; exact ⟨_, _, _, rfl⟩
  · rename_i hd
    obtain ⟨k1, k2⟩ := hk
    refine bytes _ rfl ?_ hd k1 k2
    cases hv <;> exact ⟨_, _, _, rfl⟩
  · rename_i hd
    obtain ⟨k1, k2⟩ := hk
    refine bytes _ rfl ?_ hd k1 k2
    cases hv; exact ⟨_, _, _, rfl⟩
  · obtain ⟨k1, k2, k3, k4⟩ := hk
    cases hv
    obtain ⟨cu, w', g', q1, q2, q3, q4, q5, q6⟩ := conv_string r k1 k2 k3
    exact ⟨_, cu, _, g', w', k4 q2, q3, q4, q5, q6, q1⟩
  · cases hc

theorem iter_of (r : Rel P Fr g h w) {x y since last clock : Nat} {seen : List Nat} {es : HMap} (hx : h x = some (.iter y since seen last)) (hy : h y = some (.map clock es)) {o : Nat} {ci : Value} (hi : VR g (.ptr x o) ci) :
    ∃ b bm ents, ci = .pointer (some ⟨b, o, none⟩) ∧ g.var x = some b ∧ w.heap[b]? = some (.mapIter (some bm) since seen.toArray last) ∧ w.heap[bm]? = some (.map ents clock) ∧ MapR g ents es := by
  cases hi with
  | ptr _ _ b hb =>
    obtain ⟨bm, h1, h2⟩ := r.obj x _ hx b hb
    obtain ⟨ents, h3, h4⟩ := r.obj y _ hy bm h1
    exact ⟨b, bm, ents, rfl, hb, h2, h3, h4⟩

theorem tup2 {v : HV} {cv : Value} {u : HV} {cu : Value} (h1 : VR g v cv) (h2 : VR g u cu) : VR g (.tup [v, u]) (.tuple #[cv, cu]) := by
  refine .tup _ _ rfl fun j x e => ?_
  match j with
  | 0 => simp at e; subst e; exact h1
  | 1 => simp at e; subst e; exact h2
  | j + 2 => simp at e

theorem tup3 {v u t : HV} {cv cu ct : Value} (h1 : VR g v cv) (h2 : VR g u cu) (h3 : VR g t ct) : VR g (.tup [v, u, t]) (.tuple #[cv, cu, ct]) := by
  refine .tup _ _ rfl fun j x e => ?_
  match j with
  | 0 => simp at e; subst e; exact h1
  | 1 => simp at e; subst e; exact h2
  | 2 => simp at e; subst e; exact h3
  | j + 3 => simp at e

theorem entry_sound (r : Rel P Fr g h w) {it : HV} {ci : Value} (hi : VR g it ci) {K : HV → Prop} (hk : hentry it h K) :
    ∃ v cv, K v ∧ VR g v cv ∧ (Instr.entry ci).run P w = .ok cv w := by
  unfold hentry at hk
  split at hk
  · rename_i x
    split at hk
    · rename_i y since seen last hx
      split at hk
      · rename_i clock es hy
        obtain ⟨rfl, hk⟩ := hk
        obtain ⟨b, bm, ents, rfl, hb, hh, hm, hR⟩ := iter_of r hx hy hi
        have hg1 : (getObj b).run P w = .ok (.mapIter (some bm) since seen.toArray clock) w := run_getObj' hh (by simp)
        have hg2 : (getObj bm).run P w = .ok (.map ents clock) w := run_getObj' hm (by simp)
        split at hk
        · rename_i n hn
          split at hk
          · rename_i e he
            have hb2 : seen.toArray.back? = some n := by simpa [List.back?_toArray] using hn
            have hfind : ∃ en, ents.find? (fun x => x.born == n) = some en ∧ en.key = e.1.value ∧ VR g e.2.1 en.val := by
              rw [← Array.find?_toList]
              have hlen : ents.toList.length = es.length := by simpa using hR.1
              have hrel : ∀ (j : Nat) (e : HKey × HV × Nat), es[j]? = some e → ∃ en : MapEntry, ents.toList[j]? = some en ∧ en.key = e.1.value ∧ VR g e.2.1 en.val ∧ en.born = e.2.2 := fun j e he => by simpa using hR.2 j e he
              clear hg1 hg2 hm hR
              generalize ents.toList = l at hlen hrel
              clear hx hy hk hh
              induction es generalizing l with
              | nil => simp at he
              | cons e0 es ih =>
                cases l with
                | nil => simp at hlen
                | cons en0 l =>
                  obtain ⟨en, a1, a2, a3, a4⟩ := hrel 0 e0 rfl
                  simp only [List.getElem?_cons_zero, Option.some.injEq] at a1
                  subst a1
                  cases hq : (e0.2.2 == n) with
                  | true =>
                    rw [List.find?_cons_of_pos (by simpa using hq)] at he
                    cases he
                    exact ⟨_, List.find?_cons_of_pos (by simpa [a4] using hq), a2, a3⟩
                  | false =>
                    rw [List.find?_cons_of_neg (by simpa using hq)] at he
                    rw [List.find?_cons_of_neg (by simpa [a4] using hq)]
                    exact ih he l (by simpa using hlen) fun j e hj => by simpa using hrel (j + 1) e hj
            obtain ⟨en, f1, f2, f3⟩ := hfind
            refine ⟨_, _, hk, tup2 (VR_key _ e.1) f3, ?_⟩
            simp only [Instr.entry, Sem.run_bind, hg1, Result.andThen_ok, hb2, hg2]
            rw [if_neg (by simp)]
            simp only [Sem.run_bind, Sem.run_pure, Result.andThen_ok, f1, f2]
          · exact hk.elim
        · exact hk.elim
      · exact hk.elim
    · exact hk.elim
  · exact hk.elim

theorem next_sound (r : Rel P Fr g h w) {it : HV} {ci : Value} (hi : VR g it ci) {s : Bool} {K : HV → HH → Prop} (hk : hnext it s h K) (ty : TypeId) :
    ∃ v cv h' w', K v h' ∧ VR g v cv ∧ Rel P Fr g h' w' ∧ Kept Fr w w' ∧ (Instr.next ci s ty).run P w = .ok cv w' := by
  unfold hnext at hk
  obtain ⟨rfl, hk⟩ := hk
  split at hk
  · rename_i x
    split at hk
    · rename_i y since seen last hx
      split at hk
      · rename_i clock es hy
        obtain ⟨rfl, rfl, k3, k4, k5⟩ := hk
        obtain ⟨b, bm, ents, rfl, hb, hh, hm, hR⟩ := iter_of r hx hy hi
        have hg1 : (getObj b).run P w = .ok (.mapIter (some bm) last seen.toArray last) w := run_getObj' hh (by simp)
        have hg2 : (getObj bm).run P w = .ok (.map ents last) w := run_getObj' hm (by simp)
        have hborn : ∀ en ∈ ents, en.born < last := fun en hen => by
          obtain ⟨i, hi⟩ := Array.getElem?_of_mem hen
          have hil : i < es.length := by rw [← hR.1]; exact (Array.getElem?_eq_some_iff.1 hi).1
          obtain ⟨en', a1, a2, a3, a4⟩ := hR.2 i _ (List.getElem?_eq_getElem hil)
          rw [hi] at a1; cases a1
          have := List.all_eq_true.1 k3 _ (List.getElem_mem hil)
          rw [a4]; simpa using this
        have hnot : (!seen.toArray.isEmpty && !ents.isEmpty && ents.all (fun x => decide (x.born ≥ last))) = false := by
          by_cases he : ents.isEmpty = true
          · simp [he]
          · have hsz : 0 < ents.size := by
              rcases Nat.eq_zero_or_pos ents.size with h0 | h0
              · exact absurd (by simp [Array.isEmpty, h0]) he
              · exact h0
            have : ents.all (fun x => decide (x.born ≥ last)) = false := by
              rw [Bool.eq_false_iff]
              intro hall
              have h1 := Array.all_eq_true'.1 hall ents[0] (Array.getElem_mem hsz)
              have h2 := hborn _ (Array.getElem_mem hsz)
              simp at h1; omega
            simp [this]
        generalize hleft : ents.filter (fun e => !seen.toArray.contains e.born) = left
        have hlb : ∀ en ∈ left, en.born < last := fun en hen => hborn en (by rw [← hleft] at hen; exact (Array.mem_filter.1 hen).1)
        have hold : left.filter (fun x => decide (x.born < last)) = left := by
          rw [Array.filter_eq_self]; intro a ha; simpa using hlb a ha
        have hnew : left.filter (fun x => decide (x.born ≥ last)) = #[] := by
          rw [Array.filter_eq_empty_iff]; intro a ha; have := hlb a ha; simp; omega
        have hcand : ∀ q, q < ((if left.isEmpty then #[none] else #[]) ++ left.map some : Array (Option MapEntry)).size →
            (left.isEmpty = true ∧ ((if left.isEmpty then #[none] else #[]) ++ left.map some : Array (Option MapEntry))[q]? = some none) ∨
            (left.isEmpty = false ∧ ∃ en ∈ left, ((if left.isEmpty then #[none] else #[]) ++ left.map some : Array (Option MapEntry))[q]? = some (some en)) := by
          intro q hq
          by_cases he : left.isEmpty = true
          · have : left = #[] := by simpa using he
            subst this
            simp at hq
            subst hq
            exact .inl ⟨rfl, by simp⟩
          · have he' : left.isEmpty = false := by simpa using he
            rw [if_neg he] at hq ⊢
            simp only [Array.size_append, Array.size_map, List.size_toArray, List.length_nil, Nat.zero_add] at hq
            refine .inr ⟨he', left[q], Array.getElem_mem hq, ?_⟩
            simp [hq]
        generalize hcs : ((if left.isEmpty then #[none] else #[]) ++ left.map some : Array (Option MapEntry)) = cands at hcand
        have hpos : 0 < cands.size := by
          rw [← hcs]
          by_cases he : left.isEmpty = true
          · simp [he]; omega
          · have : left.size ≠ 0 := by intro h0; exact he (by simp [Array.isEmpty, h0])
            simp; omega
        obtain ⟨q, w1, hq, hw, hch⟩ : ∃ q w1, q < cands.size ∧ (w1 = w ∨ w1 = w.drew) ∧ (choose (.mapNext cands.size)).run P w = .ok q w1 := by
          by_cases h1 : cands.size ≤ 1
          · exact ⟨0, w, hpos, .inl rfl, by simp [Question.forced, h1]⟩
          · refine ⟨w.tape w.drawn (.mapNext cands.size) % cands.size, w.drew, Nat.mod_lt _ hpos, .inr rfl, ?_⟩
            simp [Question.forced, h1, Question.cut]
        have hrel1 : Rel P Fr g h w1 ∧ Kept Fr w w1 ∧ w1.heap = w.heap := by
          rcases hw with rfl | rfl
          · exact ⟨r, Kept.refl _ _, rfl⟩
          · exact ⟨r.drew, (Kept.refl Fr w).drew, rfl⟩
        obtain ⟨r1, kk1, hheap⟩ := hrel1
        have hstart : ∀ (res : Result Value), (Sem.run P (match cands[q]? with
            | some (some e) => (do
              setObj b (.mapIter (some bm) last (seen.toArray.push e.born) last)
              pure (Value.tuple #[.bool true, e.key, e.val]) : Sem Value)
            | some none => (pure (Value.tuple #[.bool false]) : Sem Value)
            | none => (stuck "Next: no such candidate" : Sem Value)) w1) = res → (Instr.next (.pointer (some ⟨b, 0, none⟩)) false ty).run P w = res := by
          rintro res rfl
          simp only [Instr.next, Sem.run_bind, hg1, Result.andThen_ok, hg2, hnot, Bool.false_eq_true, if_false, hleft, hold, hnew, Array.append_empty, hcs, hch]
          rfl
        have hsee : ∀ (n : Nat), seen.toArray.contains n = seen.contains n := fun n => by simp
        rcases hcand q hq with ⟨he, hc⟩ | ⟨he, en, hen, hc⟩
        · refine ⟨_, .tuple #[.bool false], h, w1, k4 ?_, ?_, r1, kk1, hstart _ (by rw [hc]; rfl)⟩
          · rw [List.all_eq_true]
            intro e hee
            obtain ⟨i, hi⟩ := List.getElem?_of_mem hee
            obtain ⟨en, a1, a2, a3, a4⟩ := hR.2 i e hi
            have hl0 : left = #[] := by simpa using he
            rw [← hleft, Array.filter_eq_empty_iff] at hl0
            have := hl0 en (Array.mem_of_getElem? a1)
            rw [hsee] at this
            rw [← a4]
            simpa using this
          · refine .tup _ _ rfl fun j x e => ?_
            match j with
            | 0 => simp at e; subst e; exact .bool _
            | j + 1 => simp at e
        · rw [← hleft, Array.mem_filter] at hen
          obtain ⟨i, hi⟩ := Array.getElem?_of_mem hen.1
          have hil : i < es.length := by rw [← hR.1]; exact (Array.getElem?_eq_some_iff.1 hi).1
          obtain ⟨en', a1, a2, a3, a4⟩ := hR.2 i _ (List.getElem?_eq_getElem hil)
          rw [hi] at a1; cases a1
          have hns : seen.contains es[i].2.2 = false := by
            have := hen.2
            rw [hsee, a4] at this
            simpa using this
          have hh1 : w1.heap[b]? = some (.mapIter (some bm) last seen.toArray last) := by rw [hheap]; exact hh
          obtain ⟨p1, p2⟩ := r1.putObj (ob' := .iter y last (seen ++ [es[i].2.2]) last) hx hb hb hb (fun _ _ => trivial) hh1 (by simp) (o' := .mapIter (some bm) last (seen.toArray.push en.born) last) (fun b' hb' => by
            rw [hb] at hb'; cases hb'
            have hlt : b < w1.heap.size := (Array.getElem?_eq_some_iff.1 hh1).1
            obtain ⟨bm', c1, c2⟩ := r1.obj x _ hx b hb
            rw [hh1] at c2
            cases c2
            exact ⟨bm, c1, by simp [World.putObj, hlt, a4]⟩)
          refine ⟨_, _, _, _, k5 _ (List.getElem_mem hil) hns, tup3 (.bool true) (VR_key _ es[i].1) a3, p1, kk1.trans p2, hstart _ ?_⟩
          rw [hc]
          simp only [Sem.run_bind, run_setObj hh1 (by simp), Result.andThen_ok, Sem.run_pure, a2]
      · exact hk.elim
    · exact hk.elim
  · exact hk.elim
end
end Go.H
