/- Copies, and maps. -/
import Derived.Test.YtclolaieehmgmaaGreatHExtra2
set_option linter.unusedVariables false
set_option linter.unusedSimpArgs false
namespace Go.H

section
variable {P : Program} {Fr : Nat → Prop} {g : Ghost} {h : HH} {w : World}

theorem HH.set_self {x : Nat} {ob : HObj} (e : h x = some ob) : h.set x ob = h := by
  refine HH.ext (fun y => ?_) rfl
  simp only [HH.set]; split
  · rename_i hy; subst hy; exact e.symm
  · rfl

theorem copy_sound (r : Rel P Fr g h w) {t : TypeId} {ts : List TypeId} {d s : HV} {cd cs : Value} (hd : VR g d cd) (hs : VR g s cs) {ty : TypeId} {K : HV → HH → Prop} (hk : hcopy P t d s h K) :
    ∃ v cv h' w', K v h' ∧ VR g v cv ∧ Rel P Fr g h' w' ∧ Kept Fr w w' ∧ (Builtin.copy_ (t :: ts).toArray ty #[cd, cs]).run P w = .ok cv w' := by
  obtain ⟨k1, k2, k3⟩ := hk
  have hu := sliceElem_of k1
  obtain ⟨i, z, hi, hz, s1, s2, s3, s4⟩ := zok_of k2
  split at k3
  · rename_i x n sz ys hy
    split at k3
    · rename_i e ds hh
      obtain ⟨q1, rfl, q2, q3, q4⟩ := k3
      obtain ⟨news, n1, n2⟩ := src_of r hs hy q2 (by rw [s4]; exact s3)
      rw [s4] at n2
      have hrun0 : ∀ a c, cd = .slice a n c → (Builtin.copy_ (t :: ts).toArray ty #[cd, cs]).run P w = Result.andThen (Sem.run P ((match a with | some a => storeCells a news | none => pure ()) : Sem Unit) w) fun _ w' => .ok (.int .i64 ys.length) w' := by
        rintro a c rfl
        have hmin : Nat.min ys.length n = ys.length := Nat.min_eq_left q3
        simp only [Builtin.copy_, Sem.run_bind, List.getElem?_toArray, List.getElem?_cons_zero, List.getElem?_cons_succ, run_underlying hu, Result.andThen_ok, n2.len w, sizeOf, typeInfo, run_program, hi, Sem.run_pure, hmin]
        have hf := n2.cells w (fun _ _ h => h)
        simp only [hf]
        cases a <;> simp [goInt]
      cases hd with
      | msl0 _ b _ a hrow =>
        have hye : ys = [] := List.eq_nil_of_length_eq_zero (by omega)
        subst hye
        have hn0 : news = [] := List.eq_nil_of_length_eq_zero (by simpa using n1.len)
        subst hn0
        have hde : ds = [] := List.eq_nil_of_length_eq_zero q1
        subst hde
        have h2 : h.set x (.row false (P.elem t) ([] ++ List.drop (List.length ([] : List HV)) [])) = h := HH.set_self hh
        refine ⟨_, _, _, w, q4, .int _ _, (by rw [h2]; exact r), Kept.refl _ _, ?_⟩
        rw [hrun0 a 0 rfl]
        cases a <;> simp [storeCells]
      | msl _ _ b c _ hrow hc hp hm =>
        subst q1
        obtain ⟨t0, t1, t2, t3, t4⟩ := (r.obj x _ hh).2 b c sz hrow
        have hc0 : c ≠ 0 := by omega
        obtain ⟨cur, ⟨fr, b1, bf⟩, b2, b3, b4, b5, b6⟩ := t4 hc0
        have hnl : news.length = ys.length * sz := by rw [n1.len, t1]
        have hfit : 0 + news.length ≤ cur.size := by
          rw [hnl, b2, Nat.zero_add]; exact Nat.mul_le_mul_right _ (by omega)
        have hst := run_storeCells_fr P b 0 _ fr news 0 cur w b1 bf (by simpa using hfit) n1.one
        simp only [Nat.add_zero] at hst
        have hbk : g.blk x (.row false (P.elem t) ds) = some b := by simp [Ghost.blk, hrow, hc0]
        have hlen : (ys ++ ds.drop ys.length).length = ds.length := by simp; omega
        have hset := r.setRow (ob' := .row false (P.elem t) (ys ++ ds.drop ys.length)) (arr := (cur.toList.take 0 ++ news ++ cur.toList.drop (0 + news.length)).toArray) hh hbk (by simp only [Ghost.blk, hlen, hrow]; simp [hc0]) (fun _ h => h) b1
          ⟨fun h0 => (by rw [hlen] at h0; rw [hrow] at h0; cases h0), fun b' c' sz' hr' => by
            rw [hlen] at hr' ⊢
            rw [hrow] at hr'
            cases hr'
            refine ⟨t0, t1, t2, t3, fun _ => ⟨_, ⟨fr, setRow_heap w b cur _ _ fr b1, by rw [size_splice hfit]; exact bf⟩, by rw [size_splice hfit, b2], one_splice b3 n1.one, fun a d' ed => ?_, fun a d' j u ed eu => ?_, fun hf => by cases hf⟩⟩
            · rw [List.getElem?_append] at ed
              split at ed
              · rw [n1.elem a d' ed, t1]
              · rw [List.getElem?_drop] at ed; exact b4 _ d' ed
            · rw [getD_splice hfit, if_neg (by omega)]
              rw [List.getElem?_append] at ed
              split at ed
              · rename_i ha
                have hj : j < sz := by rw [t1, ← n1.elem a d' ed]; exact (List.getElem?_eq_some_iff.1 eu).1
                have := idx_lt ha hj
                rw [if_pos (by omega), Nat.sub_zero]
                rw [t1]
                exact n1.rd a d' j u ed eu
              · rename_i ha
                rw [List.getElem?_drop] at ed
                have he : ys.length + (a - ys.length) = a := by omega
                rw [he] at ed
                have : ys.length * sz ≤ a * sz := Nat.mul_le_mul_right _ (by omega)
                rw [if_neg (by omega)]
                exact b5 a d' j u ed eu⟩
          (fun o' v' e' => by
            have := (r.apart x _ b hh hbk).2.1 o' trivial
            rw [this] at e'; cases e')
        refine ⟨_, _, _, _, q4, .int _ _, hset.1, hset.2, ?_⟩
        rw [hrun0 _ c rfl]
        simp only [hst, Result.andThen_ok]
    · exact k3.elim
  · exact k3.elim

/-! ### maps -/
theorem strMap_of {t : TypeId} (h : strMap P t = true) : ∃ k, P.underlying t = some (.map k (mapElem P t)) := by
  unfold strMap at h
  split at h
  · rename_i k e he
    have : mapElem P t = e := by simp [mapElem, he]
    exact ⟨k, by rw [this]; exact he⟩
  · cases h

theorem fits_of {t : TypeId} {k : HKey} (h : k.fits P t = true) : ∃ kt, P.underlying t = some (.map kt (mapElem P t)) ∧ P.underlying kt = some k.desc := by
  unfold HKey.fits at h
  split at h
  · rename_i kt e he
    have : mapElem P t = e := by simp [mapElem, he]
    refine ⟨kt, by rw [this]; exact he, ?_⟩
    split at h
    · rename_i hu; exact hu
    · rename_i hu
      have := of_decide_eq_true h
      subst this; exact hu
    · cases h
  · cases h

theorem hkey_of {g : Ghost} {v : HV} {c : Value} {k : HKey} (hv : VR g v c) (hk : hkey v = some k) : c = k.value := by
  cases hv <;> simp only [hkey, Option.some.injEq, reduceCtorEq] at hk <;> subst hk <;> rfl

theorem isKey_value (k : HKey) : MapKept.IsKey k.desc k.value := by cases k <;> simp [HKey.desc, HKey.value, MapKept.IsKey]

theorem VR_key (g : Ghost) (k : HKey) : VR g k.hv k.value := by
  cases k with
  | str s => exact .str s
  | int k n => exact .int k n

theorem hfind_sound {g : Ghost} {k : HKey} : ∀ (es : HMap) (ents : List MapEntry) (i : Nat), k.among es = true → ents.length = es.length →
    (∀ (j : Nat) (e : HKey × HV × Nat), es[j]? = some e → ∃ en : MapEntry, ents[j]? = some en ∧ en.key = e.1.value ∧ VR g e.2.1 en.val ∧ en.born = e.2.2) →
    match hfind k es i with
    | some (j, v) => ∃ cv, Instr.findNow k.desc k.value ents i = some (some (j, cv)) ∧ VR g v cv ∧ i ≤ j ∧ j - i < es.length ∧ (ents[j - i]?).map (·.key) = some k.value
    | none => Instr.findNow k.desc k.value ents i = some none
  | [], [], i, _, _, _ => rfl
  | [], _ :: _, i, _, h, _ => by simp at h
  | _ :: _, [], i, _, h, _ => by simp at h
  | e :: es, en :: ents, i, hm, hl, hr => by
    obtain ⟨en', a1, a2, a3, a4⟩ := hr 0 e rfl
    simp only [List.getElem?_cons_zero, Option.some.injEq] at a1
    subst a1
    simp only [HKey.among, List.all_cons, Bool.and_eq_true] at hm
    have ih := hfind_sound (k := k) es ents (i + 1) hm.2 (by simpa using hl) fun j e' he' => by
      have := hr (j + 1) e' he'
      simpa using this
    have hs : Instr.sameNow k.desc k.value en.key = some (decide (e.1 = k)) := by
      rw [a2]
      have hsame := hm.1
      generalize e.1 = q at hsame
      cases k with
      | str s =>
        cases q with
        | str z =>
          simp only [HKey.desc, HKey.value, Instr.sameNow, beq_toListBytes, str_toList, beq_dec]
          congr 1
          by_cases h : z = s
          · simp [h]
          · simp [h, Ne.symm h]
        | int => simp [HKey.same] at hsame
      | int kk n =>
        cases q with
        | str z => simp [HKey.same] at hsame
        | int kk' n' =>
          have : kk = kk' := by simpa [HKey.same] using hsame
          subst this
          simp only [HKey.desc, HKey.value, Instr.sameNow, if_true]
          congr 1
          by_cases h : n' = n
          · simp [h]
          · simp [h, Ne.symm h]
    simp only [hfind, Instr.findNow, hs]
    by_cases hek : e.1 = k
    · simp only [hek, if_true, decide_true]
      exact ⟨_, rfl, a3, Nat.le_refl _, by simp, by simp [a2, hek]⟩
    · simp only [hek, if_false, decide_false]
      generalize hfind k es (i + 1) = o at ih
      cases o with
      | none => exact ih
      | some p =>
        obtain ⟨j, v⟩ := p
        obtain ⟨cv, q1, q2, q3, q4, q5⟩ := ih
        refine ⟨cv, q1, q2, by omega, by simp; omega, ?_⟩
        rw [show j - i = (j - (i + 1)) + 1 from by omega, List.getElem?_cons_succ]; exact q5

theorem mapR_find {ents : Array MapEntry} {es : HMap} (m : MapR g ents es) {kt : TypeId} {k : HKey} (hk : P.underlying kt = some k.desc) (ha : k.among es = true) (w : World) :
    match hfind k es 0 with
    | some (j, v) => ∃ cv, (Instr.findKey kt k.value ents.toList).run P w = .ok (some (j, cv)) w ∧ VR g v cv ∧ j < es.length ∧ (ents[j]?).map (·.key) = some k.value
    | none => (Instr.findKey kt k.value ents.toList).run P w = .ok none w := by
  have := hfind_sound (k := k) es ents.toList 0 ha (by simpa using m.1) (fun j e he => by simpa using m.2 j e he)
  generalize hfind k es 0 = o at this
  cases o with
  | none => exact MapKept.run_findKey hk this
  | some p =>
    obtain ⟨j, v⟩ := p
    obtain ⟨cv, q1, q2, q3, q4, q5⟩ := this
    exact ⟨cv, MapKept.run_findKey hk q1, q2, by simpa using q4, by simpa using q5⟩

theorem map_of (r : Rel P Fr g h w) {x clock : Nat} {es : HMap} (hx : h x = some (.map clock es)) {cm : Value} (hm : VR g (.map x) cm) :
    ∃ b ents, cm = .map (some b) ∧ g.var x = some b ∧ w.heap[b]? = some (.map ents clock) ∧ MapR g ents es := by
  cases hm with
  | map _ b hb =>
    obtain ⟨ents, h1, h2⟩ := r.obj x _ hx b hb
    exact ⟨b, ents, rfl, hb, h1, h2⟩

theorem zeroValue_run0 {t : TypeId} {i : TypeInfo} {z : Value} (hi : P.info? t = some i) (hz : i.zero = some z) (w : World) : (zeroValue t).run P w = .ok z w := by simp [zeroValue, typeInfo, hi, hz]

theorem check_str {kt : TypeId} {k : HKey} (hk : P.underlying kt = some k.desc) (em : Bool) (w : World) : (Instr.checkKey em 10000 kt k.value).run P w = .ok () w :=
  MapKept.run_checkKey hk (isKey_value k) em 9999

theorem lookup_sound (r : Rel P Fr g h w) {t : TypeId} {m k : HV} {ok : Bool} {cm ck : Value} (hm : VR g m cm) (hkv : VR g k ck) {K : HV → Prop} (hk : hlookup P t m k ok h K) :
    ∃ v cv, K v ∧ VR g v cv ∧ (Instr.lookup t cm ck ok).run P w = .ok cv w := by
  obtain ⟨k1, k2, k3⟩ := hk
  split at k3
  · rename_i x s hkk
    obtain ⟨k4, k3⟩ := k3
    obtain ⟨kt, u1, u2⟩ := fits_of k4
    have hck := hkey_of hkv hkk
    subst hck
    split at k3
    · rename_i cl es hx
      obtain ⟨k5, k3⟩ := k3
      obtain ⟨b, ents, rfl, hb, hh, hR⟩ := map_of r hx hm
      have hg : (getObj b).run P w = .ok (.map ents cl) w := run_getObj' hh (by simp)
      have hf := mapR_find (P := P) hR u2 k5 w
      have tup : ∀ (v : HV) (cv : Value) (o : Bool), VR g v cv → VR g (if ok then .tup [v, .bool o] else v) (if ok then .tuple #[cv, .bool o] else cv) := by
        intro v cv o hv
        cases ok
        · simpa using hv
        · simp only [if_true]
          refine .tup _ _ rfl fun j u e => ?_
          match j with
          | 0 => simp at e; subst e; exact hv
          | 1 => simp at e; subst e; exact .bool _
          | j + 2 => simp at e
      split at k3
      · rename_i j v hfd
        rw [hfd] at hf
        obtain ⟨cv, f1, f2, _, _⟩ := hf
        refine ⟨_, _, k3, tup v cv true f2, ?_⟩
        simp only [Instr.lookup, Sem.run_bind, run_underlying u1, Result.andThen_ok, hg, Sem.run_pure, check_str u2, f1]
      · rename_i hfd
        rw [hfd] at hf
        obtain ⟨i, z, hi, hz⟩ : ∃ i z, P.info? (mapElem P t) = some i ∧ i.zero = some z := by
          unfold zsome at k2
          cases hi : P.info? (mapElem P t) with
          | none => rw [hi] at k2; cases k2
          | some i =>
            rw [hi] at k2
            obtain ⟨z, hz⟩ := Option.isSome_iff_exists.1 k2
            exact ⟨i, z, rfl, hz⟩
        have hzv : zval P (mapElem P t) = hv z := by simp [zval, hi, hz]
        rw [hzv] at k3
        refine ⟨_, _, k3, tup _ z false (VR_hv g z), ?_⟩
        simp only [Instr.lookup, Sem.run_bind, run_underlying u1, Result.andThen_ok, hg, Sem.run_pure, check_str u2, hf, zeroValue_run0 hi hz]
    · exact k3.elim
  · exact k3.elim

theorem mapset_sound (r : Rel P Fr g h w) {t : TypeId} {m k v : HV} {cm ck cv : Value} (hm : VR g m cm) (hkv : VR g k ck) (hv : VR g v cv) {K : HH → Prop} (hk : hmapset P t m k v h K) :
    ∃ h' w', K h' ∧ Rel P Fr g h' w' ∧ Kept Fr w w' ∧ (Instr.mapUpdate t cm ck cv).run P w = .ok () w' := by
  obtain ⟨k1, k3⟩ := hk
  split at k3
  · rename_i x s hkk
    obtain ⟨k4, k3⟩ := k3
    obtain ⟨kt, u1, u2⟩ := fits_of k4
    have hck := hkey_of hkv hkk
    subst hck
    split at k3
    · rename_i cl es hx
      obtain ⟨k5, k3⟩ := k3
      obtain ⟨b, ents, rfl, hb, hh, hR⟩ := map_of r hx hm
      have hg : (getObj b).run P w = .ok (.map ents cl) w := run_getObj' hh (by simp)
      have hf := mapR_find (P := P) hR u2 k5 w
      have put : ∀ (cl' : Nat) (es' : HMap) (ents' : Array MapEntry), MapR g ents' es' → Rel P Fr g (h.set x (.map cl' es')) (World.putObj w b (.map ents' cl')) ∧ Kept Fr w (World.putObj w b (.map ents' cl')) := by
        intro cl' es' ents' hR'
        refine r.putObj (ob' := .map cl' es') hx hb hb hb (fun _ _ => trivial) hh (by simp) fun b' hb' => ?_
        rw [hb] at hb'; cases hb'
        have hlt : b < w.heap.size := (Array.getElem?_eq_some_iff.1 hh).1
        exact ⟨ents', by simp [World.putObj, hlt], hR'⟩
      unfold mput at k3
      generalize hfd : hfind s es 0 = o at k3 hf
      cases o with
      | some p =>
        obtain ⟨j, v0⟩ := p
        obtain ⟨cv0, f1, f2, f3, f4⟩ := hf
        have hjs : j < ents.size := by rw [hR.1]; exact f3
        have hkey : ents[j].key = s.value := by rw [Array.getElem?_eq_getElem hjs] at f4; simpa using f4
        have hR' : MapR g (ents.modify j fun e => { e with key := s.value, val := cv }) (es.modify j fun e => (s, v, e.2.2)) := by
          refine ⟨by simp [hR.1], fun i e he => ?_⟩
          rw [List.getElem?_modify] at he
          cases hei : es[i]? with
          | none => rw [hei] at he; simp at he
          | some e0 =>
            rw [hei] at he
            obtain ⟨en, a1, a2, a3, a4⟩ := hR.2 i e0 hei
            rw [Array.getElem?_modify, a1]
            by_cases hji : j = i
            · simp only [hji, if_true, Option.map_some] at he ⊢
              simp at he
              subst he
              exact ⟨_, rfl, rfl, hv, a4⟩
            · simp only [hji, if_false] at he ⊢
              simp at he
              subst he
              exact ⟨_, rfl, a2, a3, a4⟩
        obtain ⟨p1, p2⟩ := put cl _ _ hR'
        refine ⟨_, _, k3, p1, p2, ?_⟩
        have hstay : (Instr.keyThatStays (s.value) (s.value)).run P w = .ok (s.value) w := MapKept.run_keyThatStays (isKey_value s)
        simp only [Instr.mapUpdate, Sem.run_bind, run_underlying u1, Result.andThen_ok, hg, check_str u2, f1, Array.getElem?_eq_getElem hjs, Option.map_some, Option.getD_some, hkey, hstay, run_setObj hh (by simp)]
      | none =>
        have hR' : MapR g (ents.push { key := s.value, val := cv, born := cl }) (es ++ [(s, v, cl)]) := by
          refine ⟨by simp [hR.1], fun i e he => ?_⟩
          rw [List.getElem?_append] at he
          split at he
          · rename_i hi
            obtain ⟨en, a1, a2⟩ := hR.2 i e he
            exact ⟨en, by rw [Array.getElem?_push, if_neg (by rw [hR.1]; omega)]; exact a1, a2⟩
          · rename_i hi
            have hil : i = es.length := by
              have := (List.getElem?_eq_some_iff.1 he).1
              simp at this; omega
            subst hil
            simp at he
            subst he
            exact ⟨_, by rw [Array.getElem?_push, if_pos hR.1.symm], rfl, hv, rfl⟩
        obtain ⟨p1, p2⟩ := put (cl + 1) _ _ hR'
        refine ⟨_, _, k3, p1, p2, ?_⟩
        simp only [Instr.mapUpdate, Sem.run_bind, run_underlying u1, Result.andThen_ok, hg, check_str u2, hf, run_setObj hh (by simp)]
    · exact k3.elim
  · exact k3.elim

theorem mapdel_sound (r : Rel P Fr g h w) {t : TypeId} {ts : List TypeId} {m k : HV} {cm ck : Value} (hm : VR g m cm) (hkv : VR g k ck) {ty : TypeId} {K : HV → HH → Prop} (hk : hmapdel P t m k h K) :
    ∃ v cv h' w', K v h' ∧ VR g v cv ∧ Rel P Fr g h' w' ∧ Kept Fr w w' ∧ (Builtin.delete_ (t :: ts).toArray ty #[cm, ck]).run P w = .ok cv w' := by
  obtain ⟨k1, k3⟩ := hk
  split at k3
  · rename_i x s hkk
    obtain ⟨k4, k3⟩ := k3
    obtain ⟨kt, u1, u2⟩ := fits_of k4
    have hck := hkey_of hkv hkk
    subst hck
    split at k3
    · rename_i cl es hx
      obtain ⟨k5, k3⟩ := k3
      obtain ⟨b, ents, rfl, hb, hh, hR⟩ := map_of r hx hm
      have hg : (getObj b).run P w = .ok (.map ents cl) w := run_getObj' hh (by simp)
      have hf := mapR_find (P := P) hR u2 k5 w
      have put : ∀ (es' : HMap) (ents' : Array MapEntry), MapR g ents' es' → Rel P Fr g (h.set x (.map cl es')) (World.putObj w b (.map ents' cl)) ∧ Kept Fr w (World.putObj w b (.map ents' cl)) := by
        intro es' ents' hR'
        refine r.putObj (ob' := .map cl es') hx hb hb hb (fun _ _ => trivial) hh (by simp) fun b' hb' => ?_
        rw [hb] at hb'; cases hb'
        have hlt : b < w.heap.size := (Array.getElem?_eq_some_iff.1 hh).1
        exact ⟨ents', by simp [World.putObj, hlt], hR'⟩
      have hts : ((t :: ts).toArray)[0]? = some t := by simp
      unfold mdel at k3
      generalize hfd : hfind s es 0 = o at k3 hf
      cases o with
      | some p =>
        obtain ⟨j, v0⟩ := p
        obtain ⟨cv0, f1, f2, f3, f4⟩ := hf
        have hjs : j < ents.size := by rw [hR.1]; exact f3
        have hR' : MapR g (ents.eraseIdxIfInBounds j) (es.eraseIdx j) := by
          have hl : (ents.eraseIdxIfInBounds j).toList = ents.toList.eraseIdx j := by
            simp [Array.eraseIdxIfInBounds, hjs]
          refine ⟨?_, fun i e he => ?_⟩
          · have := congrArg List.length hl
            simp only [Array.length_toList, List.length_eraseIdx] at this ⊢
            rw [this, hR.1]
          · have hget : (ents.eraseIdxIfInBounds j)[i]? = (ents.toList.eraseIdx j)[i]? := by rw [← hl, Array.getElem?_toList]
            rw [hget]
            rw [List.getElem?_eraseIdx] at he ⊢
            split at he
            · rename_i hij; rw [if_pos hij]
              obtain ⟨en, a1, a2⟩ := hR.2 _ e he
              exact ⟨en, by simpa using a1, a2⟩
            · rename_i hij; rw [if_neg hij]
              obtain ⟨en, a1, a2⟩ := hR.2 _ e he
              exact ⟨en, by simpa using a1, a2⟩
        obtain ⟨p1, p2⟩ := put _ _ hR'
        refine ⟨_, .tuple #[], _, _, k3, .tup _ _ rfl (by simp), p1, p2, ?_⟩
        simp only [Builtin.delete_, hts, List.getElem?_toArray, List.getElem?_cons_zero, List.getElem?_cons_succ, Sem.run_bind, run_underlying u1, Result.andThen_ok, hg, check_str u2, f1, run_setObj hh (by simp), Sem.run_pure]
      | none =>
        obtain ⟨p1, p2⟩ := put _ _ hR
        refine ⟨_, .tuple #[], _, _, k3, .tup _ _ rfl (by simp), p1, p2, ?_⟩
        simp only [Builtin.delete_, hts, List.getElem?_toArray, List.getElem?_cons_zero, List.getElem?_cons_succ, Sem.run_bind, run_underlying u1, Result.andThen_ok, hg, check_str u2, hf, run_setObj hh (by simp), Sem.run_pure]
    · exact k3.elim
  · exact k3.elim

theorem makeMap_sound (r : Rel P Fr g h w) {t : TypeId} {K : HV → HH → Prop} (hk : h h.nx = none → K (.map h.nx) (h.push (.map 0 []))) :
    ∃ v cv h' g' w', K v h' ∧ g.le g' ∧ VR g' v cv ∧ Rel P Fr g' h' w' ∧ Kept Fr w w' ∧ (Instr.makeMap t none).run P w = .ok cv w' := by
  obtain ⟨q1, q2, q3, q4⟩ := r.raise.2.newVar (.map #[] 0) (.map 0 []) (fun g' => rfl) (fun hl b hb => ⟨#[], by
    have hb' : b = w.heap.size := by simpa [Ghost.bind] using hb.symm
    subst hb'; exact heap_push_new w _, rfl, by simp⟩)
  exact ⟨_, _, _, _, _, hk q1, r.raise.1.trans q2, .map _ _ q4, q3, (Kept.refl Fr w).alloc r.frlt _, by simp [Instr.makeMap]⟩

theorem range_sound (r : Rel P Fr g h w) {t : TypeId} {m : HV} {cm : Value} (hm : VR g m cm) {K : HV → HH → Prop} (hk : hrange P t m h K) :
    ∃ v cv h' g' w', K v h' ∧ g.le g' ∧ VR g' v cv ∧ Rel P Fr g' h' w' ∧ Kept Fr w w' ∧ (Instr.range t cm).run P w = .ok cv w' := by
  obtain ⟨k1, k3⟩ := hk
  obtain ⟨kt, u1⟩ := strMap_of k1
  split at k3
  · rename_i x
    split at k3
    · rename_i cl es hx
      obtain ⟨b, ents, rfl, hb, hh, hR⟩ := map_of r hx hm
      have hg : (getObj b).run P w = .ok (.map ents cl) w := run_getObj' hh (by simp)
      obtain ⟨q1, q2, q3, q4⟩ := r.raise.2.newVar (.mapIter (some b) cl #[] cl) (.iter x cl [] cl) (fun g' => rfl) (fun hl b' hb' => ⟨b, hl.var _ _ hb, by
        have hbb : b' = w.heap.size := by simpa [Ghost.bind] using hb'.symm
        subst hbb; exact heap_push_new w _⟩)
      refine ⟨_, _, _, _, _, k3 q1, r.raise.1.trans q2, .ptr _ 0 _ q4, q3, (Kept.refl Fr w).alloc r.frlt _, ?_⟩
      simp [Instr.range, run_underlying u1, hg]
    · exact k3.elim
  · exact k3.elim
end
end Go.H
