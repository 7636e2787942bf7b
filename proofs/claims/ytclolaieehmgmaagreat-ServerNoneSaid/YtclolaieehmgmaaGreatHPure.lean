/- Why the pure operations say what the model does. -/
import Derived.Test.YtclolaieehmgmaaGreatHHop
set_option linter.unusedVariables false
set_option linter.unusedSimpArgs false
namespace Go.H

theorem eqGuard_no {op : BinOp} {t : TypeId} {x y : Operand} {a b : Value} (h1 : ∀ c, a ≠ .agg c) (h2 : a ≠ .nilIface) : eqGuard op t x y a b = pure () := by
  unfold eqGuard
  cases op <;> simp <;> (split <;> first | rfl | (rename_i h; exact absurd h h2) | (rename_i c d; exact absurd rfl (h1 _)) | (exfalso; simp_all))

theorem isPtr_of {P : Program} {t : TypeId} (h : hpure.isPtr P t = true) : P.underlying t = some (.pointer (P.pointee t)) := by
  unfold hpure.isPtr at h
  unfold Program.pointee
  split at h
  · rename_i e he; rw [he]
  · cases h

/-- a bound's run -/
theorem run_bound {P : Program} {w : World} {k : IntKind} {i : Int} {y : Nat} {code : BoundsCode} (h0 : 0 ≤ i) (h1 : i ≤ y) : (Instr.sliceBound (.int k i) y code).run P w = .ok i.toNat w := by
  simp only [Instr.sliceBound, asIntOf, Sem.run_bind, Sem.run_pure, Result.andThen_ok]
  rw [if_pos ⟨h0, h1⟩]; rfl

theorem run_bounds {P : Program} {g : Ghost} {w : World} {isS : Bool} {n cap : Nat} {lo hi : Option HV} {clo chi : Option Value} {K : Nat → Nat → Prop} (hc : n ≤ cap)
    (hlo : ∀ v, lo = some v → ∃ c, clo = some c ∧ VR g v c) (hlo0 : lo = none → clo = none) (hhi : ∀ v, hi = some v → ∃ c, chi = some c ∧ VR g v c) (hhi0 : hi = none → chi = none)
    (h : hsliceB lo hi n K) : ∃ l m, l ≤ m ∧ m ≤ n ∧ K l m ∧ (Instr.sliceBounds isS n cap clo chi none).run P w = .ok (l, m, cap) w := by
  unfold hsliceB at h
  split at h
  · rw [hlo0 rfl, hhi0 rfl]
    exact ⟨0, n, Nat.zero_le _, Nat.le_refl _, h, by simp [Instr.sliceBounds]⟩
  · rename_i k l
    obtain ⟨c, hc1, hc2⟩ := hlo _ rfl
    cases hc2
    rw [hc1, hhi0 rfl]
    obtain ⟨h1, h2, h3⟩ := h
    exact ⟨l.toNat, n, by omega, Nat.le_refl _, h3, by simp [Instr.sliceBounds, run_bound h1 h2]⟩
  · rename_i k m
    obtain ⟨c, hc1, hc2⟩ := hhi _ rfl
    cases hc2
    rw [hc1, hlo0 rfl]
    obtain ⟨h1, h2, h3⟩ := h
    exact ⟨0, m.toNat, Nat.zero_le _, by omega, h3, by simp [Instr.sliceBounds, run_bound (k := k) h1 (show m ≤ (cap : Int) by omega)]⟩
  · rename_i k l k' m
    obtain ⟨c, hc1, hc2⟩ := hlo _ rfl
    cases hc2
    obtain ⟨d, hd1, hd2⟩ := hhi _ rfl
    cases hd2
    rw [hc1, hd1]
    obtain ⟨h1, h2, h3, h4⟩ := h
    exact ⟨l.toNat, m.toNat, by omega, by omega, h4, by simp [Instr.sliceBounds, run_bound (k := k') (show 0 ≤ m by omega) (show m ≤ (cap : Int) by omega), run_bound (k := k) h1 (show l ≤ (m.toNat : Int) by omega)]⟩
  · exact h.elim

theorem run_bounds3 {P : Program} {g : Ghost} {w : World} {n cap : Nat} {lo hi : Option HV} {clo chi : Option Value} {K : Nat → Nat → Prop} {k : IntKind} {mx : Int} (hc : n ≤ cap) (hm0 : 0 ≤ mx) (hm1 : mx ≤ n)
    (hlo : ∀ v, lo = some v → ∃ c, clo = some c ∧ VR g v c) (hlo0 : lo = none → clo = none) (hhi : ∀ v, hi = some v → ∃ c, chi = some c ∧ VR g v c) (hs : hi.isSome = true)
    (h : hsliceB lo hi mx.toNat K) : ∃ l m, l ≤ m ∧ m ≤ mx.toNat ∧ K l m ∧ (Instr.sliceBounds true n cap clo chi (some (.int k mx))).run P w = .ok (l, m, mx.toNat) w := by
  obtain ⟨hv, rfl⟩ := Option.isSome_iff_exists.1 hs
  obtain ⟨d, hd1, hd2⟩ := hhi _ rfl
  unfold hsliceB at h
  split at h
  · rename_i h2; cases h2
  · rename_i h2; cases h2
  · rename_i k m h2
    cases h2
    cases hd2
    rw [hd1, hlo0 rfl]
    obtain ⟨h1, h2, h3⟩ := h
    exact ⟨0, m.toNat, Nat.zero_le _, by omega, h3, by simp [Instr.sliceBounds, run_bound (code := .slice3Acap) hm0 (show mx ≤ (cap : Int) by omega), run_bound (code := .slice3B) h1 h2]⟩
  · rename_i k l k' m h2
    cases h2
    cases hd2
    obtain ⟨c, hc1, hc2⟩ := hlo _ rfl
    cases hc2
    rw [hd1, hc1]
    obtain ⟨h1, h2, h3, h4⟩ := h
    exact ⟨l.toNat, m.toNat, by omega, by omega, h4, by simp [Instr.sliceBounds, run_bound (code := .slice3Acap) hm0 (show mx ≤ (cap : Int) by omega), run_bound (code := .slice3B) (show 0 ≤ m by omega) h3, run_bound (code := .slice3C) h1 (show l ≤ (m.toNat : Int) by omega)]⟩
  · exact h.elim

theorem extract_drop (s : List UInt8) (l m : Nat) : (⟨s.toArray⟩ : ByteArray).extract l m = ⟨((s.drop l).take (m - l)).toArray⟩ := by
  apply WideShapes.bytes_inj
  simp [ByteArray.data_extract]

theorem VR_sub {P : Program} {g : Ghost} {full full' : Bool} {ds : List HV} {a : Option Addr} {n cap l m mx : Nat} {e : TypeId} (hv : VR g (.sl full ds) (.slice a n cap)) (he : esz P e ds)
    (h1 : l ≤ m) (h2 : m ≤ ds.length) (h3 : m ≤ mx) (h4 : mx ≤ cap) (hf : full' = true → mx = m) :
    VR g (.sl full' ((ds.drop l).take (m - l))) (.slice (if mx = l then a else a.map (·.add (l * P.cellsOf e))) (m - l) (mx - l)) := by
  cases hv with
  | sl _ _ _ _ _ b o sz hn hcc hff hm ha q0 q1 q2 =>
    have hlen : ((ds.drop l).take (m - l)).length = m - l := by simp; omega
    have key : ∀ (i : Nat) (d : HV), ((ds.drop l).take (m - l))[i]? = some d → ds[l + i]? = some d := fun i d e => by
      rw [List.getElem?_take] at e
      split at e
      · rw [List.getElem?_drop] at e; exact e
      · cases e
    refine .sl full' _ _ _ _ b (o + l * sz) sz hlen.symm (by omega) (fun hq => by have := hf hq; omega) (by omega) (fun hne => ?_) (fun i d e => q0 _ d (key i d e)) (fun i d j v e1 e2 => ?_) (fun i d j v e1 e2 => ?_)
    · have hlt : l < m := by
        rcases Nat.lt_or_ge l m with h | h
        · exact h
        · exact absurd (List.eq_nil_of_length_eq_zero (by rw [hlen]; omega)) hne
      have hds : ds ≠ [] := by rintro rfl; simp at h2; omega
      have hd : ds[l]? = some ds[l] := List.getElem?_eq_getElem (by omega)
      have hsz : sz = P.cellsOf e := (q0 l _ hd).symm.trans (he _ (List.mem_of_getElem? hd))
      rw [if_neg (by omega), ha hds, hsz]
      simp [addr_add]
    · have := q1 _ d j v (key i d e1) e2
      rw [Nat.add_mul] at this
      rw [show o + l * sz + i * sz + j = o + (l * sz + i * sz) + j from by omega]; exact this
    · have := q2 _ d j v (key i d e1) e2
      rw [Nat.add_mul] at this
      rw [show o + l * sz + i * sz + j = o + (l * sz + i * sz) + j from by omega]; exact this

theorem eqv_sound {P : Program} {g : Ghost} {w : World} {t : TypeId} {a b : HV} {r : Bool} (h : eqv P t a b = some r) {xs ys : Array Value} {i d : Nat} (hx : VR g a (xs.getD i undef)) (hy : VR g b (ys.getD i undef)) :
    ∃ x y, (part t xs i).run P w = .ok x w ∧ (part t ys i).run P w = .ok y w ∧ (Op.equalIn (d + 1) t x y).run P w = .ok r w := by
  have key : ∀ {cs : Array Value} {v : Value}, cs.getD i undef = v → v ≠ undef → cs[i]? = some v := by
    intro cs v hc hv
    rw [Array.getD_eq_getD_getElem?] at hc
    cases hq : cs[i]? with
    | none => rw [hq] at hc; exact absurd hc.symm hv
    | some u => rw [hq] at hc; exact congrArg some hc
  have pt : ∀ {cs : Array Value} {v : Value}, (∃ d, P.underlying t = some d ∧ (∀ fs, d ≠ .struct fs) ∧ ∀ n e, d ≠ .array n e) → cs[i]? = some v → (part t cs i).run P w = .ok v w := by
    rintro cs v ⟨d, hd, h1, h2⟩ hc
    have : (isAgg t).run P w = .ok false w := by
      unfold isAgg
      simp only [Sem.run_bind, run_underlying hd, Result.andThen_ok]
      cases d <;> first | rfl | exact absurd rfl (h1 _) | exact absurd rfl (h2 _ _)
    simp [part, this, hc]
  unfold eqv at h
  generalize hcx : xs.getD i undef = cx at hx
  generalize hcy : ys.getD i undef = cy at hy
  split at h
  · rename_i k0 k x k' y hu
    cases hx; cases hy
    split at h
    · rename_i hk; subst hk
      cases h
      refine ⟨_, _, pt ⟨_, hu, by simp, by simp⟩ (key hcx (by simp [undef])), pt ⟨_, hu, by simp, by simp⟩ (key hcy (by simp [undef])), ?_⟩
      rw [run_equalIn_int w d t k k0 x y hu, ibeq_dec]
    · cases h
  · rename_i x y hu
    cases hx; cases hy
    cases h
    exact ⟨_, _, pt ⟨_, hu, by simp, by simp⟩ (key hcx (by simp [undef])), pt ⟨_, hu, by simp, by simp⟩ (key hcy (by simp [undef])), run_equalIn_bool w d t x y hu⟩
  · rename_i x y hu
    cases hx; cases hy
    cases h
    refine ⟨_, _, pt ⟨_, hu, by simp, by simp⟩ (key hcx (by simp [undef])), pt ⟨_, hu, by simp, by simp⟩ (key hcy (by simp [undef])), ?_⟩
    rw [run_equalIn_string w d t _ _ hu, str_toList, str_toList, beq_dec]
  · cases h

theorem fieldsEq_sound {P : Program} {g : Ghost} {w : World} {d : Nat} {xs ys : Array Value} : ∀ (fs : List Field) (i : Nat) (as bs : List HV) {r : Bool}, fieldsEq P fs i as bs = some r →
    (∀ (j : Nat) (v : HV), as[j]? = some v → VR g v (xs.getD (i + j) undef)) → (∀ (j : Nat) (v : HV), bs[j]? = some v → VR g v (ys.getD (i + j) undef)) → (Op.eqFields (d + 1) xs ys fs).run P w = .ok r w
  | [], i, as, bs, r, h, hx, hy => by simp only [fieldsEq, Option.some.injEq] at h; subst h; rfl
  | f :: fs, i, a :: as, b :: bs, r, h, hx, hy => by
    simp only [fieldsEq] at h
    split at h
    · rename_i hc
      obtain ⟨hn, ho⟩ := hc
      have h0 : ∀ r', eqv P f.type a b = some r' → ∃ x y, (part f.type xs i).run P w = .ok x w ∧ (part f.type ys i).run P w = .ok y w ∧ (Op.equalIn (d + 1) f.type x y).run P w = .ok r' w := fun r' e =>
        eqv_sound e (by simpa using hx 0 a rfl) (by simpa using hy 0 b rfl)
      have ih : ∀ {r}, fieldsEq P fs (i + 1) as bs = some r → (Op.eqFields (d + 1) xs ys fs).run P w = .ok r w := fun e =>
        fieldsEq_sound fs (i + 1) as bs e (fun j v ej => by rw [show i + 1 + j = i + (j + 1) from by omega]; exact hx (j + 1) v ej) (fun j v ej => by rw [show i + 1 + j = i + (j + 1) from by omega]; exact hy (j + 1) v ej)
      simp only [Op.eqFields, ho, if_pos hn, Sem.run_bind]
      split at h
      · rename_i e
        obtain ⟨x, y, q1, q2, q3⟩ := h0 _ e
        simp only [q1, q2, q3, Result.andThen_ok, Bool.not_true, Bool.false_eq_true, if_false]
        exact ih h
      · rename_i e
        obtain ⟨x, y, q1, q2, q3⟩ := h0 _ e
        cases h
        simp only [q1, q2, q3, Result.andThen_ok, Bool.not_false, if_true, Sem.run_pure]
      · cases h
    · cases h
  | _ :: _, _, [], _, _, h, _, _ => by simp [fieldsEq] at h
  | _ :: _, _, _ :: _, [], _, h, _, _ => by simp [fieldsEq] at h

theorem aggEq_sound {P : Program} {g : Ghost} {w : World} {t : TypeId} {as bs : List HV} {xs ys : Array Value} {r : Bool} (h : aggEq P t as bs = some r)
    (hx : VR g (.agg as) (.agg xs)) (hy : VR g (.agg bs) (.agg ys)) (op : BinOp) (x y : Operand) :
    (eqGuard op t x y (.agg xs) (.agg ys)).run P w = .ok () w ∧ (Op.equalIn 10000 t (.agg xs) (.agg ys)).run P w = .ok r w := by
  unfold aggEq at h
  split at h
  · rename_i fs hu
    split at h
    · rename_i hc
      have hf : P.fieldsOf t = fs := by simp [Program.fieldsOf, hu]
      cases hx with
      | agg _ _ a1 a2 a3 =>
        cases hy with
        | agg _ _ b1 b2 b3 =>
          refine ⟨run_eqGuard_agg w op t x y xs ys hc.2, ?_⟩
          rw [show (10000 : Nat) = 9999 + 1 from rfl, run_equalIn_struct w 9999 t xs ys (by rw [hf]; exact hu) hc.1, hf]
          exact fieldsEq_sound (d := 9998) fs.toList 0 as bs h (fun j v e => by simpa using a3 j v e) (fun j v e => by simpa using b3 j v e)
    · cases h
  · cases h

theorem VR_aslOf {g : Ghost} {x o l m n c b : Nat} (hb : g.var x = some b) (h1 : l ≤ m) (h2 : m ≤ n) (h3 : n ≤ c) (h4 : c ≤ maxLen) :
    VR g (aslOf x o l m c) (.slice (some (if c = l then ⟨b, o, none⟩ else (⟨b, o, none⟩ : Addr).add l)) (m - l) (c - l)) := by
  unfold aslOf
  split
  · rename_i h0
    have e1 : m - l = 0 := by omega
    rw [e1, h0]
    exact .sl true [] _ 0 0 0 0 0 rfl (Nat.le_refl _) (fun _ => rfl) (Nat.zero_le _) (fun h => absurd rfl h) (by simp) (by simp) (by simp)
  · rename_i h0
    rw [if_neg (by omega), addr_add]
    exact .asl _ _ _ _ b hb (by omega) (by omega) (by omega)

section
variable {P : Program} {Fr : Nat → Prop} {g : Ghost} {h : HH} {w : World} {ρ : Operand → HV} {c : Operand → Value}

theorem hpure_sound (r : Rel P Fr g h w) (hρ : ∀ x, VR g (ρ x) (c x)) {o : Oper} {K : HV → Prop} (hk : hpure P o.op ρ K) :
    ∃ v cv, K v ∧ VR g v cv ∧ (execOp c o).run P w = .ok (.value cv) w := by
  obtain ⟨dst, op, ty, pos, after, guard⟩ := o
  simp only at hk
  cases op with
  | move x => exact ⟨_, _, hk, hρ x, by simp [execOp]⟩
  | assign x => exact ⟨_, _, hk, hρ x, by simp [execOp]⟩
  | pick x a b =>
    simp only [hpure] at hk
    have hx := hρ x
    split at hk
    · rename_i t ht
      rw [ht] at hx
      generalize hcx : c x = cx at hx
      cases hx
      refine ⟨_, if t then c a else c b, hk, ?_, by simp only [execOp, hcx, asBool]; simp⟩
      cases t
      · simpa using hρ b
      · simpa using hρ a
    · exact hk.elim
  | nilCheck x =>
    simp only [hpure] at hk
    have hx := hρ x
    split at hk
    all_goals first
      | exact hk.elim
      | (rename_i hv
         rw [hv] at hx
         refine ⟨_, c x, hk, hx, ?_⟩
         generalize hcx : c x = cx at hx
         cases hx <;> simp [execOp, hcx])
  | binOp bop t x y yt =>
    simp only [hpure] at hk
    have hx := hρ x
    have hy := hρ y
    have ptr : ∀ (a : Option Addr) (b : Bool), c x = .pointer a → c y = .pointer none → hpure.isPtr P t = true → (bop = .eql ∧ b = a.isNone ∨ bop = .neq ∧ b = !a.isNone) →
        (execOp c ⟨dst, .binOp bop t x y yt, ty, pos, after, guard⟩).run P w = .ok (.value (.bool b)) w := by
      intro a b h1 h2 h3 h4
      simp only [execOp, h1, h2]
      rw [eqGuard_no (by simp) (by simp)]
      rcases h4 with ⟨rfl, rfl⟩ | ⟨rfl, rfl⟩
      · simp [run_eql_pointer_nil w t a (isPtr_of h3)]
      · simp [run_neq_pointer_nil w t a (isPtr_of h3)]
    generalize hcx : c x = cx at hx
    generalize hcy : c y = cy at hy
    rw [hcx, hcy] at ptr
    generalize ρ x = vx at hx hk
    generalize ρ y = vy at hy hk
    split at hk
    all_goals first
      | (cases hx; cases hy
         obtain ⟨k1, k2⟩ := hk
         exact ⟨_, _, k2, .bool _, ptr _ _ rfl rfl k1 (by simp)⟩)
      | (cases hx; cases hy
         obtain ⟨k1, k2⟩ := hk
         refine ⟨_, _, k2, .bool _, ?_⟩
         simp only [execOp, hcx, hcy]
         rw [eqGuard_no (by simp) (by simp)]
         first | (simp [run_eql_bool w t _ _ k1]; done) | (simp only [Sem.run_bind, Sem.run_pure, Result.andThen_ok, run_neq_bool w t _ _ k1]; rfl))
      | (rename_i xs ys
         split at hk
         · rename_i r hr
           cases hx with
           | agg _ ax a1 a2 a3 =>
             cases hy with
             | agg _ ay b1 b2 b3 =>
               have q1 := fun bop => (aggEq_sound (w := w) hr (.agg xs ax a1 a2 a3) (.agg ys ay b1 b2 b3) bop x y).1
               have q2 := (aggEq_sound (w := w) hr (.agg xs ax a1 a2 a3) (.agg ys ay b1 b2 b3) .eql x y).2
               first
                 | exact ⟨_, .bool r, hk, .bool _, by simp only [execOp, hcx, hcy, Sem.run_bind, q1, Result.andThen_ok, run_eql_struct, q2, Sem.run_pure]⟩
                 | exact ⟨_, .bool !r, hk, .bool _, by simp only [execOp, hcx, hcy, Sem.run_bind, q1, Result.andThen_ok, run_neq_struct, q2, Sem.run_pure]⟩
         · exact hk.elim)
      | (obtain ⟨v, cv, k1, k2, k3⟩ := hbin_sound (P := P) (w := w) (t := t) hx hy hk
         refine ⟨v, cv, k1, k2, ?_⟩
         simp only [execOp, hcx, hcy]
         rw [eqGuard_no]
         · simp [k3]
         · intro d hd
           subst hd
           cases hx <;> simp [hbin] at hk
         · intro hd
           subst hd
           cases hx <;> simp [hbin] at hk)
  | unOp u t x =>
    simp only [hpure] at hk
    have hx := hρ x
    generalize hcx : c x = cx at hx
    split at hk
    · rename_i b hb; rw [hb] at hx; cases hx; exact ⟨_, _, hk, .bool _, by simp [execOp, hcx, Op.unary]⟩
    · rename_i k n hb; rw [hb] at hx; cases hx; exact ⟨_, _, hk, .int _ _, by simp [execOp, hcx, Op.unary, Op.intArith]⟩
    · rename_i k n hb; rw [hb] at hx; cases hx; exact ⟨_, _, hk, .int _ _, by simp [execOp, hcx, Op.unary, Op.intBits]⟩
    · exact hk.elim
  | convert s d x =>
    simp only [hpure] at hk
    have hx := hρ x
    generalize hcx : c x = cx at hx
    split at hk
    · rename_i d1 k k' n h1 h2 h3
      rw [h3] at hx; cases hx
      exact ⟨_, _, hk, .int _ _, by simp [execOp, hcx, convert, run_underlying h1, run_underlying h2, Conv.intToInt]⟩
    · rename_i d1 s' h1 h2 h3
      rw [h3] at hx; cases hx
      refine ⟨_, _, hk, .str _, ?_⟩
      simp only [execOp, hcx, convert, Sem.run_bind, run_underlying h1, run_underlying h2, Result.andThen_ok]
      cases d1 <;> rfl
    · exact hk.elim
  | makeInterface t x =>
    simp only [hpure] at hk
    obtain ⟨k1, k2, k3⟩ := hk
    obtain ⟨d, hd⟩ := Option.isSome_iff_exists.1 k1
    refine ⟨_, _, k3, .ifc t _ _ (hρ x), ?_⟩
    simp only [hpure.isIface, hd] at k2
    simp only [execOp, Instr.makeInterface, Sem.run_bind, run_underlying hd, Result.andThen_ok]
    cases d <;> first | rfl | simp at k2
  | makeFunc fn first cap =>
    simp only [hpure] at hk
    split at hk
    · rename_i f
      refine ⟨_, _, hk, .fn f _ _ (first.map c) (cap.map c) (by simp) (by simp) (fun j v e => ?_) (fun j v e => ?_), by simp [execOp, Instr.makeFunc]⟩
      · rw [List.getElem?_map] at e
        cases hq : first.toList[j]? with
        | none => rw [hq] at e; cases e
        | some x =>
          rw [hq] at e; cases e
          have hq' : first[j]? = some x := by simpa using hq
          simp [Array.getD_eq_getD_getElem?, hq']; exact hρ x
      · rw [List.getElem?_map] at e
        cases hq : cap.toList[j]? with
        | none => rw [hq] at e; cases e
        | some x =>
          rw [hq] at e; cases e
          have hq' : cap[j]? = some x := by simpa using hq
          simp [Array.getD_eq_getD_getElem?, hq']; exact hρ x
    · exact hk.elim
  | fieldAddr t x f =>
    simp only [hpure] at hk
    obtain ⟨k1, k2⟩ := hk
    have hx := hρ x
    generalize hcx : c x = cx at hx
    obtain ⟨b, o, u, rfl, k3, k4⟩ := hplace_sound hx k2
    refine ⟨u, _, k3, k4, ?_⟩
    unfold isField at k1
    split at k1
    · rename_i fs hfs
      simp only [Bool.and_eq_true, decide_eq_true_eq] at k1
      obtain ⟨k5, k6⟩ := k1
      have hf : fs[f]? = some fs[f] := Array.getElem?_eq_getElem k5
      simp only [fsz, hfs, hf] at k6
      have hsome : (P.info? fs[f].type).isSome = true := by
        cases hi : P.info? fs[f].type with
        | some i => rfl
        | none => simp [Program.cellsOf, hi] at k6
      simp only [execOp, hcx, Instr.fieldAt, Instr.sureAddr, fieldPlace, Sem.run_bind, run_underlying hfs, Result.andThen_ok, hf, Sem.run_pure, run_sizeOf_some hsome, foff, hfs]
      rw [if_neg (by omega)]
      simp [addr_add]
    · cases k1
  | indexAddr t x i =>
    simp only [hpure] at hk
    obtain ⟨k1, k2⟩ := hk
    obtain ⟨u, cu, k3, k4, k5⟩ := helem_sound r k1 (hρ x) (hρ i) k2
    exact ⟨u, cu, k3, k4, by simp [execOp, k5]⟩
  | index t x i =>
    simp only [hpure] at hk
    have hx := hρ x
    have hi := hρ i
    generalize hcx : c x = cx at hx
    generalize hci : c i = ci at hi
    split at hk
    · rename_i s k n h1 h2
      rw [h1] at hx; rw [h2] at hi
      cases hx; cases hi
      obtain ⟨k1, k2, k3, k4⟩ := hk
      refine ⟨_, _, k4, .int _ _, ?_⟩
      have hlt : n.toNat < s.length := by omega
      have hget : (⟨s.toArray⟩ : ByteArray)[n.toNat]? = some s[n.toNat] := by
        rw [getElem?_pos _ _ (by rw [str_size]; exact hlt)]; rfl
      simp only [execOp, hcx, hci, Instr.index, asIntOf, Sem.run_bind, Sem.run_pure, Result.andThen_ok, run_underlying k1, k2, if_true, hget]
      simp [List.getD, List.getElem?_eq_getElem hlt]
    · exact hk.elim
  | slice t x lo hi mx =>
    simp only [hpure] at hk
    have hx := hρ x
    generalize hcx : c x = cx at hx
    have opt : ∀ (o : Option Operand), (∀ v, o.map ρ = some v → ∃ d, o.map c = some d ∧ VR g v d) ∧ (o.map ρ = none → o.map c = none) := by
      intro o
      cases o with
      | none => exact ⟨(fun v h => by cases h), fun _ => rfl⟩
      | some y => exact ⟨(fun v h => by cases h; exact ⟨_, rfl, hρ y⟩), fun h => by cases h⟩
    split at hk
    · rename_i s h1
      rw [h1] at hx; cases hx
      obtain ⟨k1, k2⟩ := hk
      obtain ⟨l, m, b1, b2, b3, b4⟩ := run_bounds (P := P) (w := w) (isS := false) (Nat.le_refl _) (opt lo).1 (opt lo).2 (opt hi).1 (opt hi).2 k2
      refine ⟨_, _, b3, .str _, ?_⟩
      rw [← str_size] at b4
      simp [execOp, hcx, Instr.sliceAt, Instr.slice, run_underlying k1, b4, extract_drop]
    · rename_i full ds h1
      rw [h1] at hx
      obtain ⟨k1, k2, k4, k3⟩ := hk
      have hu := sliceElem_of k1
      have hx0 := hx
      cases hx with
      | sl _ _ a n cap b o sz hn hcc hf hm ha q0 q1 q2 =>
        subst hn
        obtain ⟨l, m, b1, b2, b3, b4⟩ := run_bounds (P := P) (w := w) (isS := true) hcc (opt lo).1 (opt lo).2 (opt hi).1 (opt hi).2 k3
        refine ⟨_, _, b3, VR_sub (mx := cap) hx0 k4 b1 b2 (by omega) (Nat.le_refl _) (fun hq => ?_), by simp [execOp, hcx, Instr.sliceAt, Instr.slice, run_underlying hu, b4, run_sizeOf_some k2]⟩
        simp only [Bool.and_eq_true, decide_eq_true_eq] at hq
        rw [hq.2]; exact hf hq.1
    · rename_i full ds mm h1
      rw [h1] at hx
      obtain ⟨k1, k2, k4, k5, k3⟩ := hk
      have hu := sliceElem_of k1
      have hx0 := hx
      split at k3
      · rename_i km mxi hm3
        have hcm := hρ mm
        generalize hcmm : c mm = cmm at hcm
        rw [hm3] at hcm
        cases hcm
        obtain ⟨k6, k7, k8⟩ := k3
        cases hx with
        | sl _ _ a n cap b o sz hn hcc hf hm ha q0 q1 q2 =>
          subst hn
          obtain ⟨l, m, b1, b2, b3, b4⟩ := run_bounds3 (P := P) (w := w) (k := km) hcc k6 k7 (opt lo).1 (opt lo).2 (opt hi).1 (by simpa using k5) k8
          refine ⟨_, _, b3, VR_sub (mx := mxi.toNat) hx0 k4 b1 (by omega) b2 (by omega) (fun hq => by simp only [decide_eq_true_eq] at hq; exact hq.symm), by simp [execOp, hcx, hcmm, Instr.sliceAt, Instr.slice, run_underlying hu, b4, run_sizeOf_some k2]⟩
      · exact k3.elim
    · rename_i y o h1
      rw [h1] at hx
      obtain ⟨k1, k2⟩ := hk
      obtain ⟨m0, ee, u2, u3, u4, u5⟩ : ∃ m ee, P.underlying t = some (.array m ee) ∧ (P.info? ee).isSome = true ∧ P.cellsOf ee = 1 ∧ m ≤ maxLen := by
        unfold arrPtr at k1
        split at k1
        · rename_i m ee h2
          simp only [Bool.and_eq_true, beq_iff_eq] at k1
          exact ⟨m, ee, h2, k1.1.1, k1.1.2, Nat.le_of_ble_eq_true k1.2⟩
        · cases k1
      have hal : arrLen P t = m0 := by simp [arrLen, u2]
      rw [hal] at k2
      cases hx with
      | ptr _ _ b hb =>
        obtain ⟨l, m, b1, b2, b3, b4⟩ := run_bounds (P := P) (w := w) (isS := false) (Nat.le_refl _) (opt lo).1 (opt lo).2 (opt hi).1 (opt hi).2 k2
        have hrun : (execOp c ⟨dst, .slice t x lo hi none, ty, pos, after, guard⟩).run P w = .ok (.value (.slice (some (if m0 = l then ⟨b, o, none⟩ else (⟨b, o, none⟩ : Addr).add l)) (m - l) (m0 - l))) w := by
          simp [execOp, hcx, Instr.sliceAt, Instr.sureAddr, run_underlying u2, b4, run_sizeOf_some u3, u4]
        refine ⟨_, _, b3, VR_aslOf hb b1 b2 (Nat.le_refl _) u5, hrun⟩
    · rename_i y o n cc h1
      rw [h1] at hx
      obtain ⟨k1, k2, k4, k3⟩ := hk
      have hu := sliceElem_of k1
      cases hx with
      | asl _ _ _ _ b hb hcc hp hm =>
        obtain ⟨l, m, b1, b2, b3, b4⟩ := run_bounds (P := P) (w := w) (isS := true) hcc (opt lo).1 (opt lo).2 (opt hi).1 (opt hi).2 k3
        have hrun : (execOp c ⟨dst, .slice t x lo hi none, ty, pos, after, guard⟩).run P w = .ok (.value (.slice (some (if cc = l then ⟨b, o, none⟩ else (⟨b, o, none⟩ : Addr).add l)) (m - l) (cc - l))) w := by
          simp only [execOp, hcx, Instr.sliceAt, Instr.slice, Option.map_none, Sem.run_bind, run_underlying hu, Result.andThen_ok, b4, run_sizeOf_some k2, k4, Sem.run_pure, Nat.mul_one]
          split <;> simp_all
        refine ⟨_, _, b3, VR_aslOf hb b1 b2 hcc hm, hrun⟩
    · exact hk.elim
  | extract x i =>
    simp only [hpure] at hk
    have hx := hρ x
    generalize hcx : c x = cx at hx
    split at hk
    · rename_i vs h1
      rw [h1] at hx
      cases hx with
      | tup _ a hs h2 =>
        split at hk
        · rename_i v hv
          refine ⟨v, a.getD i undef, hk, h2 i v hv, ?_⟩
          have hlt : i < a.size := by rw [hs]; exact (List.getElem?_eq_some_iff.1 hv).1
          have : a[i]? = some (a.getD i undef) := by simp [Array.getD, hlt]
          simp only [execOp, hcx, Instr.extract, this, Sem.run_bind, Sem.run_pure, Result.andThen_ok]
        · exact hk.elim
    · exact hk.elim
  | field t x f =>
    simp only [hpure] at hk
    have hx := hρ x
    generalize hcx : c x = cx at hx
    split at hk
    · rename_i cs h1
      rw [h1] at hx
      obtain ⟨k1, ⟨k2, k3⟩, k4⟩ := hk
      cases hx with
      | agg _ a hs hone hrd =>
        unfold isField at k1
        split at k1
        · rename_i fs hfs
          simp only [Bool.and_eq_true, decide_eq_true_eq] at k1
          have hf : fs[f]? = some fs[f] := Array.getElem?_eq_getElem k1.1
          have ht : ftyp P t f = fs[f].type := by simp only [ftyp, hfs, hf]
          have ho : foff P t f = fs[f].offset := by simp only [foff, hfs, hf]
          rw [ht] at k2 k3 k4
          rw [ho] at k3 k4
          obtain ⟨i, hi⟩ := info_of_underlying k2
          have run : ∀ {cv : Value}, (part fs[f].type a fs[f].offset).run P w = .ok cv w → (execOp c ⟨dst, .field t x f, ty, pos, after, guard⟩).run P w = .ok (.value cv) w := by
            intro cv hp
            simp only [execOp, hcx, Instr.field, Sem.run_bind, run_underlying hfs, Result.andThen_ok, hf, asAgg, Sem.run_pure, hp]
          unfold hload at k4
          cases ha : agg? P fs[f].type with
          | true =>
            simp only [ha, if_true] at k3 k4
            refine ⟨_, .agg (a.extract fs[f].offset (fs[f].offset + P.cellsOf fs[f].type)), k4, .agg _ _ (by simp [hs]; omega) (fun j v e => ?_) (fun j v e => ?_), run ?_⟩
            · rw [Array.getElem?_extract] at e
              split at e
              · exact hone _ v e
              · cases e
            · rw [List.getElem?_take] at e
              split at e
              · rename_i hj
                rw [List.getElem?_drop] at e
                have := hrd _ v e
                rw [Array.getD_eq_getD_getElem?, Array.getElem?_extract, if_pos (by rw [hs]; omega), ← Array.getD_eq_getD_getElem?]
                exact this
              · cases e
            · unfold part
              simp only [Sem.run_bind, run_isAgg k2, Result.andThen_ok, ha, if_true, run_sizeOf hi, Sem.run_pure]
          | false =>
            simp only [ha, Bool.false_eq_true, if_false] at k3 k4
            have hlt : fs[f].offset < a.size := by rw [hs]; exact k3
            refine ⟨_, a.getD fs[f].offset undef, k4, hrd _ _ (getD_lt k3 .any), run ?_⟩
            unfold part
            simp only [Sem.run_bind, run_isAgg k2, Result.andThen_ok, ha, Bool.false_eq_true, if_false, Array.getElem?_eq_getElem hlt, Sem.run_pure]
            simp [Array.getD, hlt]
        · cases k1
    · exact hk.elim
  | typeAssert x xt a ok =>
    simp only [hpure] at hk
    have hx := hρ x
    generalize hcx : c x = cx at hx
    split at hk
    · rename_i t v h1
      rw [h1] at hx
      obtain ⟨rfl, k1, k2, k3⟩ := hk
      cases hx with
      | ifc _ _ cv hv =>
        obtain ⟨d, hd⟩ := Option.isSome_iff_exists.1 k1
        simp only [hpure.isIface, hd] at k2
        refine ⟨_, if ok then .tuple #[cv, .bool true] else cv, k3, ?_, ?_⟩
        · cases ok
          · simpa using hv
          · simp only [if_true]
            refine .tup _ _ rfl fun j u e => ?_
            match j with
            | 0 => simp at e; subst e; exact hv
            | 1 => simp at e; subst e; exact .bool _
            | j + 2 => simp at e
        · simp only [execOp, hcx, Instr.typeAssert, Sem.run_bind, run_underlying hd, Result.andThen_ok]
          cases d <;> first | (simp only [if_true, Sem.run_pure, Result.andThen_ok]; done) | (simp at k2; done) | simp
    · exact hk.elim
  | _ => exact hk.elim
end

end Go.H
