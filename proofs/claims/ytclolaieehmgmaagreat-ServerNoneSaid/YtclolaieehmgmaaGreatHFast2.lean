/- An evaluator made for the kernel: regions, statements, calls. -/
import Derived.Test.YtclolaieehmgmaaGreatHFast1
set_option linter.unusedVariables false
set_option linter.unusedSimpArgs false
namespace Go.H
noncomputable section

/-! ### places -/
theorem D8.of_inj {n m : Nat} (hn : n < 8) (hm : m < 8) (h : D8.of n = D8.of m) : n = m := by
  have cases8 : ∀ k, k < 8 → k = 0 ∨ k = 1 ∨ k = 2 ∨ k = 3 ∨ k = 4 ∨ k = 5 ∨ k = 6 ∨ k = 7 := by intro k hk; omega
  rcases cases8 n hn with rfl | rfl | rfl | rfl | rfl | rfl | rfl | rfl <;> rcases cases8 m hm with rfl | rfl | rfl | rfl | rfl | rfl | rfl | rfl <;> first | rfl | cases h

def slotGet (n : Nat) (U : UT) : HV := U.get (D8.of (n / 8)) (D8.of (n % 8))
def slotPut (n : Nat) (v : HV) (U : UT) : UT := U.put (D8.of (n / 8)) (D8.of (n % 8)) v
theorem slot_get_put {n m : Nat} (hn : n < 64) (hm : m < 64) (v : HV) (U : UT) : slotGet m (slotPut n v U) = if m = n then v else slotGet m U := by
  simp only [slotGet, slotPut, UT.get_put]
  by_cases h : m = n
  · subst h; simp
  · rw [if_neg h, if_neg]
    rintro ⟨h1, h2⟩
    have := D8.of_inj (by omega) (by omega) h1
    have := D8.of_inj (Nat.mod_lt _ (by omega)) (Nat.mod_lt _ (by omega)) h2
    omega

theorem idx_shift (t : Nat) : ∀ (l : List Nat) (i : Nat), idx t l (i + 1) = (idx t l i).map (· + 1)
  | [], i => rfl
  | a :: l, i => by
    simp only [idx_cons]
    split
    · rfl
    · rw [idx_shift t l]
theorem idx_at {t : Nat} : ∀ {l : List Nat} {i n : Nat}, idx t l i = some n → i ≤ n ∧ n < i + l.length ∧ l[n - i]? = some t
  | [], i, n, h => by cases h
  | a :: l, i, n, h => by
    simp only [idx_cons] at h
    split at h
    · rename_i hb
      cases h
      have := beqt hb
      subst this
      simp
    · obtain ⟨h1, h2, h3⟩ := idx_at h
      refine ⟨by omega, by simp; omega, ?_⟩
      rw [show n - i = (n - (i + 1)) + 1 from by omega, List.getElem?_cons_succ]; exact h3
theorem idx_some {t : Nat} : ∀ {l : List Nat} (i : Nat), t ∈ l → ∃ n, idx t l i = some n
  | a :: l, i, h => by
    simp only [idx_cons]
    split
    · exact ⟨_, rfl⟩
    · rename_i hb
      rcases List.mem_cons.1 h with h | h
      · subst h; simp at hb
      · exact idx_some (i + 1) h
theorem idx_none {t : Nat} {l : List Nat} {i : Nat} (h : idx t l i = none) : t ∉ l := fun hm => by
  obtain ⟨n, hn⟩ := idx_some i hm
  rw [hn] at h; cases h
theorem idx_mem {t : Nat} {l : List Nat} {n : Nat} (h : idx t l 0 = some n) : t ∈ l := by
  obtain ⟨_, _, h3⟩ := idx_at h
  exact List.mem_of_getElem? h3

def Agree (ks : List Nat) (T : Env) (U : UT) : Prop := ∀ k n, idx k ks 0 = some n → T.get k = slotGet n U
def RelL (ks loc : List Nat) (st : List HV) (T : Env) (U : UT) : Prop := ∀ t, T.get t = lk ks loc st U t

theorem RelL.ev {ks loc : List Nat} {st : List HV} {T : Env} {U : UT} (r : RelL ks loc st T U) : hev T = hevS ks loc st U := by
  funext o
  cases o with
  | tmp t => exact r t
  | _ => rfl

theorem RelL.push {ks loc : List Nat} {st : List HV} {T : Env} {U : UT} (r : RelL ks loc st T U) (d : Nat) (v : HV) : RelL ks (d :: loc) (v :: st) ((d, v) :: T) U := by
  intro t
  simp only [Env.get, lk, idx_cons]
  by_cases h : t = d
  · subst h; simp
  · rw [if_neg h]
    have hb : Nat.beq d t = false := beqf (fun e => h e.symm)
    rw [hb]
    have := r t
    simp only [lk] at this
    rw [this, idx_shift]
    cases idx t loc 0 <;> simp

theorem RelL.start {ks : List Nat} {T : Env} {U : UT} (a : Agree ks T U) : RelL ks [] [] (T.prune ks) U := by
  intro t
  rw [prune_get]
  simp only [lk, idx_nil]
  cases h : idx t ks 0 with
  | none => rw [if_neg (idx_none h)]
  | some n =>
    rw [if_pos (idx_mem h)]
    exact a t n h

/-! ### what lives on behind a region -/
inductive PC where
  | mk (f : List HV → UT → UT)
def PC.run (p : PC) : List HV → UT → UT := PC.rec (motive := fun _ => List HV → UT → UT) (fun f => f) p
def cput (ks : List Nat) : List Nat → Nat → PC
  | [], _ => .mk fun _ U => U
  | t :: loc, i => match idx t ks 0 with
    | some n => .mk fun st U => (pf N8.nil (D8.of (n / 8))).run (fun u => (pf HV.any (D8.of (n % 8))).run (fun _ => topS st i) u) ((cput ks loc (i + 1)).run st U)
    | none => cput ks loc (i + 1)

theorem cput_get {ks : List Nat} (hl : ks.length ≤ 64) {st : List HV} {U : UT} {k n : Nat} (hk : idx k ks 0 = some n) : ∀ (loc : List Nat) (i : Nat),
    slotGet n ((cput ks loc i).run st U) = match idx k loc i with | some j => st.getD j .any | none => slotGet n U
  | [], i => rfl
  | t :: loc, i => by
    simp only [cput, idx_cons]
    have ih := cput_get hl (st := st) (U := U) hk loc (i + 1)
    have hn : n < 64 := by have := (idx_at hk).2.1; omega
    cases ht : idx t ks 0 with
    | none =>
      simp only
      have : Nat.beq t k = false := beqf (fun e => by subst e; rw [hk] at ht; cases ht)
      rw [this]; exact ih
    | some m =>
      simp only [PC.run] at ih ⊢
      have hm : m < 64 := by have := (idx_at ht).2.1; omega
      have hput : ∀ V : UT, (pf N8.nil (D8.of (m / 8))).run (fun u => (pf HV.any (D8.of (m % 8))).run (fun _ => topS st i) u) V = slotPut m (topS st i) V := by
        intro V
        simp only [pf_run]; rfl
      rw [hput, slot_get_put hm hn, topS_eq]
      by_cases hb : t = k
      · subst hb
        rw [hk] at ht; cases ht
        simp
      · rw [beqf hb, if_neg, ih]
        rintro rfl
        have h1 := (idx_at hk).2.2
        have h2 := (idx_at ht).2.2
        rw [h1] at h2
        exact hb (by simpa using h2.symm)

theorem RelL.finish {ks loc : List Nat} {st : List HV} {T : Env} {U : UT} (hl : ks.length ≤ 64) (r : RelL ks loc st T U) : Agree ks T ((cput ks loc 0).run st U) := by
  intro k n hk
  rw [cput_get hl hk, r k]
  simp only [lk]
  cases idx k loc 0 with
  | some i => rfl
  | none => simp only [hk]; rfl

/-! ### regions in the order of the text -/
inductive R3 where
  | no
  | ok (U : UT) (s : XS)
inductive RClo where
  | no
  | mk (f : FCall → List HV → UT → XS → R3)
def RClo.run (c : RClo) : FCall → List HV → UT → XS → R3 := RClo.rec (motive := fun _ => FCall → List HV → UT → XS → R3) (fun _ _ _ _ => .no) (fun f => f) c

def cstep (f : Clo) (dst : Option Tmp) (rest : RClo) : RClo := match dst with
  | none => .mk fun c st U s => R1.rec (motive := fun _ => R3) .no (fun _ s' => rest.run c st U s') (f.run c st U s)
  | some _ => .mk fun c st U s => R1.rec (motive := fun _ => R3) .no (fun v s' => rest.run c (v :: st) U s') (f.run c st U s)
def cskip (dst : Option Tmp) (rest : RClo) : RClo := match dst with
  | none => rest
  | some _ => .mk fun c st U s => rest.run c (.tup [] :: st) U s
inductive VG where
  | no
  | tt
  | ff
  | un
def asG (v : HV) : VG := VB.rec (motive := fun _ => VG) (VT.rec (motive := fun _ => VG) .no (fun vs => List.rec (motive := fun _ => VG) .un (fun _ _ _ => .no) vs) (asT v)) .tt .ff (asB v)
theorem asG_ok (v : HV) : (asG v = .tt → v = .bool true) ∧ (asG v = .ff → v = .bool false) ∧ (asG v = .un → v = .tup []) := by
  simp only [asG]
  cases hb : asB v with
  | tt => exact ⟨fun _ => asB_tt hb, (fun h => nomatch h), (fun h => nomatch h)⟩
  | ff => exact ⟨(fun h => nomatch h), fun _ => asB_ff hb, (fun h => nomatch h)⟩
  | no =>
    cases ht : asT v with
    | no => exact ⟨(fun h => nomatch h), (fun h => nomatch h), (fun h => nomatch h)⟩
    | ok vs =>
      cases vs with
      | nil => exact ⟨(fun h => nomatch h), (fun h => nomatch h), fun _ => asT_ok ht⟩
      | cons => exact ⟨(fun h => nomatch h), (fun h => nomatch h), (fun h => nomatch h)⟩
def cguard (g : FO) (b : Bool) (yes nope : RClo) : RClo := match b with
  | true => .mk fun c st U s => VG.rec (motive := fun _ => R3) .no (yes.run c st U s) (nope.run c st U s) (nope.run c st U s) (asG (g.get st U))
  | false => .mk fun c st U s => VG.rec (motive := fun _ => R3) .no (nope.run c st U s) (yes.run c st U s) (nope.run c st U s) (asG (g.get st U))

def dstOk (nt : Nat) (dst : Option Tmp) : Bool := match dst with | none => true | some d => Nat.blt d nt
def locOf (dst : Option Tmp) (loc : List Nat) : List Nat := match dst with | none => loc | some d => d :: loc

def cops (P : Program) (ks : List Nat) (nt : Nat) (ds : List (Option Tmp)) : List Oper → List Nat → RClo
  | [], loc => .mk fun c st U s => .ok ((cput ks loc 0).run st U) s
  | o :: l, loc => match dstOk nt o.dst with
    | true => (match o.guard with
      | none => cstep (cop P ks loc o.op) o.dst (cops P ks nt ds l (locOf o.dst loc))
      | some p => (match gslot ds p.1 with
        | some g => cguard (fop ks loc (.tmp g)) p.2 (cstep (cop P ks loc o.op) o.dst (cops P ks nt ds l (locOf o.dst loc))) (cskip o.dst (cops P ks nt ds l (locOf o.dst loc)))
        | none => .no))
    | false => .no

theorem dstOk_bind {nt : Nat} {dst : Option Tmp} (h : dstOk nt dst = true) {v : HV} {T : Env} {K : Env → Prop} (k : K (bindT T dst v)) : hbind nt dst v T K := by
  unfold hbind
  cases dst with
  | none => exact k
  | some d => exact ⟨Nat.le_of_ble_eq_true h, k⟩

def RelD (ks loc : List Nat) (st : List HV) (T : Env) (U : UT) : Prop := RelL ks loc st T U
def stOf (dst : Option Tmp) (v : HV) (st : List HV) : List HV := match dst with | none => st | some _ => v :: st
theorem RelL.bind {ks loc : List Nat} {st : List HV} {T : Env} {U : UT} (r : RelL ks loc st T U) (dst : Option Tmp) (v : HV) :
    RelL ks (locOf dst loc) (stOf dst v st) (bindT T dst v) U := by
  cases dst with
  | none => exact r
  | some d => exact r.push d v

theorem cstep_run {f : Clo} {dst : Option Tmp} {rest : RClo} {c : FCall} {st : List HV} {U U' : UT} {s s' : XS} (h : (cstep f dst rest).run c st U s = .ok U' s') :
    ∃ v s1, f.run c st U s = .ok v s1 ∧ rest.run c (stOf dst v st) U s1 = .ok U' s' := by
  cases dst with
  | none =>
    simp only [cstep, RClo.run] at h ⊢
    cases hf : f.run c st U s with
    | no => rw [hf] at h; cases h
    | ok v s1 => rw [hf] at h; exact ⟨v, s1, rfl, h⟩
  | some d =>
    simp only [cstep, RClo.run] at h ⊢
    cases hf : f.run c st U s with
    | no => rw [hf] at h; cases h
    | ok v s1 => rw [hf] at h; exact ⟨v, s1, rfl, h⟩
theorem cskip_run {dst : Option Tmp} {rest : RClo} {c : FCall} {st : List HV} {U U' : UT} {s s' : XS} (h : (cskip dst rest).run c st U s = .ok U' s') :
    rest.run c (stOf dst (.tup []) st) U s = .ok U' s' := by
  cases dst with
  | none => exact h
  | some d => exact h
theorem cguard_run {g : FO} {b : Bool} {yes nope : RClo} {c : FCall} {st : List HV} {U U' : UT} {s s' : XS} (h : (cguard g b yes nope).run c st U s = .ok U' s') :
    (g.get st U = .bool b ∧ yes.run c st U s = .ok U' s') ∨ (g.get st U = .bool !b ∧ nope.run c st U s = .ok U' s') ∨ (g.get st U = .tup [] ∧ nope.run c st U s = .ok U' s') := by
  obtain ⟨h1, h2, h3⟩ := asG_ok (g.get st U)
  cases b with
  | true =>
    simp only [cguard, RClo.run] at h
    cases hg : asG (g.get st U) with
    | no => rw [hg] at h; cases h
    | tt => rw [hg] at h; exact .inl ⟨h1 hg, h⟩
    | ff => rw [hg] at h; exact .inr (.inl ⟨h2 hg, h⟩)
    | un => rw [hg] at h; exact .inr (.inr ⟨h3 hg, h⟩)
  | false =>
    simp only [cguard, RClo.run] at h
    cases hg : asG (g.get st U) with
    | no => rw [hg] at h; cases h
    | tt => rw [hg] at h; exact .inr (.inl ⟨h1 hg, h⟩)
    | ff => rw [hg] at h; exact .inl ⟨h2 hg, h⟩
    | un => rw [hg] at h; exact .inr (.inr ⟨h3 hg, h⟩)

section
variable {P : Program} {ks : List Nat} {nt : Nat} {c : FCall}

theorem cops_ok (hl : ks.length ≤ 64) (hcall : XOk P (xcOf c)) {ds : List (Option Tmp)} : ∀ (l : List Oper) (loc : List Nat) {st : List HV} {T : Env} {U U' : UT} {s s' : XS}, (cops P ks nt ds l loc).run c st U s = .ok U' s' → RelL ks loc st T U →
    ∀ {Q : Env → HH → Prop}, (∀ T', Agree ks T' U' → Q T' s'.hh) → hops P nt ds Q l T s.hh
  | [], loc, st, T, U, U', s, s', h, r, Q, q => by
    simp only [cops, RClo.run] at h
    cases h
    exact q T (r.finish hl)
  | o :: l, loc, st, T, U, U', s, s', h, r, Q, q => by
    simp only [cops] at h
    split at h
    · rename_i hd
      have step : ∀ {T0 : Env}, RelL ks loc st T0 U → (cstep (cop P ks loc o.op) o.dst (cops P ks nt ds l (locOf o.dst loc))).run c st U s = .ok U' s' →
          hop P o.op (hev T0) s.hh fun v h' => hbind nt o.dst v T0 fun T' => hops P nt ds Q l T' h' := by
        intro T0 r h
        obtain ⟨v, s1, h1, h2⟩ := cstep_run h
        have h3 := cop_ok h1
        rw [← r.ev] at h3
        exact xop_then hcall h3 (dstOk_bind hd (cops_ok hl hcall l _ h2 (r.bind o.dst v) q))
      have skip : ∀ {T0 : Env}, RelL ks loc st T0 U → (cskip o.dst (cops P ks nt ds l (locOf o.dst loc))).run c st U s = .ok U' s' → hbind nt o.dst (.tup []) T0 fun T' => hops P nt ds Q l T' s.hh := by
        intro T0 r h
        exact dstOk_bind hd (cops_ok hl hcall l _ (cskip_run h) (r.bind o.dst (.tup [])) q)
      simp only [hops]
      split at h
      · rename_i hg; simp only [hg]; exact step r h
      · rename_i p hg
        simp only [hg]
        split at h
        · rename_i g hgs
          simp only [hgs]
          have hget : ∀ v, (fop ks loc (.tmp g)).get st U = v → T.get g = v := by
            intro v hv
            rw [fop_get] at hv
            rw [r g]; exact hv
          have again : ∀ {v : HV}, T.get g = v → RelL ks loc st ((g, v) :: T) U := by
            intro v hv t
            rw [get_push T g v hv t]; exact r t
          rcases cguard_run h with ⟨h1, h2⟩ | ⟨h1, h2⟩ | ⟨h1, h2⟩
          · have hT := hget _ h1
            simp only [hT]
            exact ⟨fun _ => step (again hT) h2, (fun e => by cases hb : p.2 <;> rw [hb] at e <;> cases e)⟩
          · have hT := hget _ h1
            simp only [hT]
            exact ⟨(fun e => by cases hb : p.2 <;> rw [hb] at e <;> cases e), fun _ => skip (again hT) h2⟩
          · have hT := hget _ h1
            simp only [hT]
            exact skip r h2
        · cases h
    · cases h

/-! ### statements -/
inductive R2 where
  | no
  | nx (U : UT) (s : XS)
  | ret (U : UT) (s : XS)
  | ex (id : Nat) (U : UT) (s : XS)
  | go (l : Nat) (U : UT) (s : XS)
inductive CClo where
  | no
  | mk (f : FCall → UT → XS → R2)
def CClo.run (c : CClo) : FCall → UT → XS → R2 := CClo.rec (motive := fun _ => FCall → UT → XS → R2) (fun _ _ _ => .no) (fun f => f) c

def envU (ks : List Nat) (U : UT) : Env := ks.map fun k => (k, match idx k ks 0 with | some n => slotGet n U | none => .any)
def fillU (ks : List Nat) (T : Env) : List Nat → UT → UT
  | [], U => U
  | k :: l, U => match idx k ks 0 with
    | some n => slotPut n (T.get k) (fillU ks T l U)
    | none => fillU ks T l U

theorem prune_envU {T : Env} {U : UT} (a : Agree ks T U) : T.prune ks = envU ks U := by
  unfold Env.prune envU
  refine List.map_congr_left fun k hk => ?_
  obtain ⟨n, hn⟩ := idx_some 0 hk
  rw [hn, a k n hn]
theorem envU_get (U : UT) (k : Nat) : (envU ks U).get k = match idx k ks 0 with | some n => slotGet n U | none => .any := by
  have h : envU ks U = Env.prune (envU ks U) ks ∨ True := .inr trivial
  have gen : ∀ (l : List Nat) (f : Nat → HV), Env.get (l.map fun k => (k, f k)) k = if k ∈ l then f k else .any := by
    intro l f
    induction l with
    | nil => rfl
    | cons a l ih =>
      simp only [List.map_cons, Env.get, List.mem_cons]
      by_cases hk : k = a
      · subst hk; simp
      · simp only [hk, if_false, false_or]; exact ih
  unfold envU
  rw [gen ks fun k => match idx k ks 0 with | some n => slotGet n U | none => .any]
  cases hk : idx k ks 0 with
  | none => rw [if_neg (idx_none hk)]
  | some n => rw [if_pos (idx_mem hk)]
theorem envU_agree (U : UT) : Agree ks (envU ks U) U := by
  intro k n hk
  rw [envU_get, hk]

theorem fillU_get (hl : ks.length ≤ 64) {T : Env} {k n : Nat} (hk : idx k ks 0 = some n) : ∀ (l : List Nat) (U : UT), slotGet n (fillU ks T l U) = if k ∈ l then T.get k else slotGet n U
  | [], U => by simp [fillU]
  | a :: l, U => by
    have ih := fillU_get hl (T := T) hk l U
    have hn : n < 64 := by have := (idx_at hk).2.1; omega
    simp only [fillU, List.mem_cons]
    cases ha : idx a ks 0 with
    | none =>
      have : k ≠ a := by rintro rfl; rw [hk] at ha; cases ha
      simp only [this, false_or]; exact ih
    | some m =>
      have hm : m < 64 := by have := (idx_at ha).2.1; omega
      simp only
      rw [slot_get_put hm hn]
      by_cases hka : k = a
      · subst hka
        rw [hk] at ha; cases ha; simp
      · rw [if_neg, ih]
        · simp [hka]
        · rintro rfl
          have h1 := (idx_at hk).2.2
          have h2 := (idx_at ha).2.2
          rw [h1] at h2
          exact hka (by simpa using h2)
theorem fillU_agree (hl : ks.length ≤ 64) (T : Env) : Agree ks T (fillU ks T ks .nil) := by
  intro k n hk
  rw [fillU_get hl hk, if_pos (idx_mem hk)]

def ccode (P : Program) (ks : List Nat) (nt lf : Nat) : Code → CClo
  | .skip => .mk fun _ U s => .nx U s
  | .region _ ops false => .mk fun c U s => R3.rec (motive := fun _ => R2) .no (fun U s => .nx U s) ((cops P ks nt (ops.toList.map (·.dst)) ops.toList []).run c [] U s)
  | .region _ ops true => .mk fun c U s => match xdraw P (xcOf c) nt ops.toList (envU ks U) s with
    | some (T', s') => .nx (fillU ks T' ks .nil) s'
    | none => .no
  | .seq a b => .mk fun c U s => R2.rec (motive := fun _ => R2) .no (fun U s => (ccode P ks nt lf b).run c U s) (fun U s => .ret U s) (fun i U s => .ex i U s) (fun l U s => .go l U s) ((ccode P ks nt lf a).run c U s)
  | .cond x a b => .mk fun c U s => VB.rec (motive := fun _ => R2) .no ((ccode P ks nt lf a).run c U s) ((ccode P ks nt lf b).run c U s) (asB ((fop ks [] x).get [] U))
  | .block id a => .mk fun c U s => R2.rec (motive := fun _ => R2) .no (fun U s => .nx U s) (fun U s => .ret U s) (fun i U s => Bool.rec (motive := fun _ => R2) (.ex i U s) (.nx U s) (Nat.beq i id)) (fun l U s => .go l U s) ((ccode P ks nt lf a).run c U s)
  | .scope a => .mk fun c U s => R2.rec (motive := fun _ => R2) .no (fun U s => .nx U s) (fun U s => .ret U s) (fun i U s => .ex i U s) (fun _ _ _ => .no) ((ccode P ks nt lf a).run c U s)
  | .loop a => .mk fun c U s => Nat.rec (motive := fun _ => UT → XS → R2) (fun _ _ => .no)
      (fun _ ih U s => R2.rec (motive := fun _ => R2) .no (fun U s => ih U s) (fun U s => .ret U s) (fun i U s => .ex i U s) (fun l U s => .go l U s) ((ccode P ks nt lf a).run c U s)) lf U s
  | .exit id => .mk fun _ U s => .ex id U s
  | .ret => .mk fun _ U s => .ret U s
  | .label _ => .mk fun _ U s => .nx U s
  | .goto l => .mk fun _ U s => .go l U s
  | _ => .no

def Post (ks : List Nat) : R2 → Exit → Env → HH → Prop
  | .no, _, _, _ => False
  | .nx U s, e, T, h => e = .normal ∧ Agree ks T U ∧ h = s.hh
  | .ret U s, e, T, h => e = .ret ∧ Agree ks T U ∧ h = s.hh
  | .ex i U s, e, T, h => e = .exit i ∧ Agree ks T U ∧ h = s.hh
  | .go l U s, e, T, h => e = .goto l ∧ Agree ks T U ∧ h = s.hh

def rloop (f : UT → XS → R2) : Nat → UT → XS → R2 := fun n => Nat.rec (motive := fun _ => UT → XS → R2) (fun _ _ => .no)
  (fun _ ih U s => R2.rec (motive := fun _ => R2) .no (fun U s => ih U s) (fun U s => .ret U s) (fun i U s => .ex i U s) (fun l U s => .go l U s) (f U s)) n

theorem rloop_trace {f : UT → XS → R2} : ∀ (n : Nat) {U : UT} {s : XS} {R : R2}, rloop f n U s = R → R ≠ .no →
    ∃ (m : Nat) (E : Nat → UT) (S : Nat → XS), E 0 = U ∧ S 0 = s ∧ (∀ k, k < m → f (E k) (S k) = .nx (E (k + 1)) (S (k + 1))) ∧ f (E m) (S m) = R ∧ ∀ U' s', R ≠ .nx U' s'
  | 0, U, s, R, h, hn => absurd h.symm hn
  | n + 1, U, s, R, h, hn => by
    have hs : rloop f (n + 1) U s = R2.rec (motive := fun _ => R2) .no (fun U s => rloop f n U s) (fun U s => .ret U s) (fun i U s => .ex i U s) (fun l U s => .go l U s) (f U s) := rfl
    rw [hs] at h
    have one : (∀ U' s', R ≠ .nx U' s') → f U s = R → ∃ (m : Nat) (E : Nat → UT) (S : Nat → XS), E 0 = U ∧ S 0 = s ∧ (∀ k, k < m → f (E k) (S k) = .nx (E (k + 1)) (S (k + 1))) ∧ f (E m) (S m) = R ∧ ∀ U' s', R ≠ .nx U' s' :=
      fun h1 h2 => ⟨0, fun _ => U, fun _ => s, rfl, rfl, fun k hk => by omega, h2, h1⟩
    cases hf : f U s with
    | no => rw [hf] at h; exact absurd h.symm hn
    | nx U1 s1 =>
      rw [hf] at h
      obtain ⟨m, E, S, h1, h2, h3, h4, h5⟩ := rloop_trace n h hn
      refine ⟨m + 1, fun k => match k with | 0 => U | k + 1 => E k, fun k => match k with | 0 => s | k + 1 => S k, rfl, rfl, fun k hk => ?_, h4, h5⟩
      cases k with
      | zero => simp only [h1, h2]; exact hf
      | succ k => exact h3 k (by omega)
    | ret U1 s1 => rw [hf] at h; subst h; exact one (fun _ _ e => by cases e) hf
    | ex i U1 s1 => rw [hf] at h; subst h; exact one (fun _ _ e => by cases e) hf
    | go l U1 s1 => rw [hf] at h; subst h; exact one (fun _ _ e => by cases e) hf

theorem ccode_ok (hl : ks.length ≤ 64) (hcall : XOk P (xcOf c)) (hm : P.follows .mixedOrders = true) {lf : Nat} : ∀ (cd : Code), drawsOk nt cd = true → ∀ {T : Env} {U : UT} {s : XS} {R : R2},
    (ccode P ks nt lf cd).run c U s = R → R ≠ .no → Agree ks T U → HWp P nt cd (Post ks R) T s.hh
  | .skip, d, T, U, s, R, h, hn, a => by
    simp only [ccode, CClo.run] at h
    subst h
    exact HWp.now (e := .normal) ⟨rfl, a, rfl⟩ fun _ _ _ q => wp_skip q
  | .region _ ops false, d, T, U, s, R, h, hn, a => by
    simp only [ccode, CClo.run] at h
    cases hr : (cops P ks nt (ops.toList.map (·.dst)) ops.toList []).run c [] U s with
    | no => rw [hr] at h; exact absurd h.symm hn
    | ok U' s' =>
      rw [hr] at h
      subst h
      exact HWp.forget ks (HWp.region (cops_ok hl hcall _ [] hr (RelL.start a) fun T' a' => ⟨rfl, a', rfl⟩))
  | .region i ops true, d, T, U, s, R, h, hn, a => by
    simp only [drawsOk, Bool.and_eq_true] at d
    simp only [ccode, CClo.run] at h
    split at h
    · rename_i T1 s1 h1
      subst h
      rw [← prune_envU a] at h1
      exact HWp.forget ks (HWp.draw hm d.1 d.2 (xdraw_ok hcall h1 ⟨rfl, fillU_agree hl T1, rfl⟩))
    · exact absurd h.symm hn
  | .seq x y, d, T, U, s, R, h, hn, a => by
    simp only [drawsOk, Bool.and_eq_true] at d
    simp only [ccode, CClo.run] at h
    refine HWp.seq ?_
    cases hx : (ccode P ks nt lf x).run c U s with
    | no => simp only [CClo.run] at hx; rw [hx] at h; exact absurd h.symm hn
    | nx U1 s1 =>
      have hx' := hx
      simp only [CClo.run] at hx
      rw [hx] at h
      refine (ccode_ok hl hcall hm x d.1 hx' (by intro e; cases e) a).mono ?_
      rintro e1 T2 h2 ⟨rfl, a2, rfl⟩
      exact ccode_ok hl hcall hm y d.2 h hn a2
    | ret U1 s1 =>
      have hx' := hx
      simp only [CClo.run] at hx
      rw [hx] at h
      subst h
      refine (ccode_ok hl hcall hm x d.1 hx' hn a).mono ?_
      rintro e1 T2 h2 ⟨rfl, a2, rfl⟩
      exact ⟨rfl, a2, rfl⟩
    | ex i U1 s1 =>
      have hx' := hx
      simp only [CClo.run] at hx
      rw [hx] at h
      subst h
      refine (ccode_ok hl hcall hm x d.1 hx' hn a).mono ?_
      rintro e1 T2 h2 ⟨rfl, a2, rfl⟩
      exact ⟨rfl, a2, rfl⟩
    | go l U1 s1 =>
      have hx' := hx
      simp only [CClo.run] at hx
      rw [hx] at h
      subst h
      refine (ccode_ok hl hcall hm x d.1 hx' hn a).mono ?_
      rintro e1 T2 h2 ⟨rfl, a2, rfl⟩
      exact ⟨rfl, a2, rfl⟩
  | .cond x y z, d, T, U, s, R, h, hn, a => by
    simp only [drawsOk, Bool.and_eq_true] at d
    simp only [ccode, CClo.run] at h
    have hv : ∀ v, v ≠ .any → (fop ks [] x).get [] U = v → hev T x = v := by
      intro v hv he
      rw [fop_get] at he
      cases x with
      | tmp t =>
        simp only [hevS, lk, idx_nil] at he
        simp only [hev]
        cases ht : idx t ks 0 with
        | none => rw [ht] at he; exact absurd he.symm hv
        | some n => rw [ht] at he; rw [a t n ht]; exact he
      | _ => exact he
    cases hb : asB ((fop ks [] x).get [] U) with
    | no => rw [hb] at h; exact absurd h.symm hn
    | tt =>
      rw [hb] at h
      exact HWp.cond (hv _ (by intro e; cases e) (asB_tt hb)) (fun _ => ccode_ok hl hcall hm y d.1 h hn a) (fun hh => by cases hh)
    | ff =>
      rw [hb] at h
      exact HWp.cond (hv _ (by intro e; cases e) (asB_ff hb)) (fun hh => by cases hh) (fun _ => ccode_ok hl hcall hm z d.2 h hn a)
  | .block id x, d, T, U, s, R, h, hn, a => by
    simp only [drawsOk] at d
    simp only [ccode, CClo.run] at h
    refine HWp.block ?_
    cases hx : (ccode P ks nt lf x).run c U s with
    | no => simp only [CClo.run] at hx; rw [hx] at h; exact absurd h.symm hn
    | nx U1 s1 =>
      have hx' := hx
      simp only [CClo.run] at hx
      rw [hx] at h
      subst h
      refine (ccode_ok hl hcall hm x d hx' hn a).mono ?_
      rintro e1 T2 h2 ⟨rfl, a2, rfl⟩
      exact ⟨rfl, a2, rfl⟩
    | ret U1 s1 =>
      have hx' := hx
      simp only [CClo.run] at hx
      rw [hx] at h
      subst h
      refine (ccode_ok hl hcall hm x d hx' hn a).mono ?_
      rintro e1 T2 h2 ⟨rfl, a2, rfl⟩
      exact ⟨rfl, a2, rfl⟩
    | ex i U1 s1 =>
      have hx' := hx
      simp only [CClo.run] at hx
      rw [hx] at h
      refine (ccode_ok hl hcall hm x d hx' (by intro e; cases e) a).mono ?_
      rintro e1 T2 h2 ⟨rfl, a2, rfl⟩
      simp only [HBlk]
      cases hb : Nat.beq i id with
      | true => simp only [hb] at h; subst h; rw [if_pos (beqt hb)]; exact ⟨rfl, a2, rfl⟩
      | false => simp only [hb] at h; subst h; rw [if_neg (beqn hb)]; exact ⟨rfl, a2, rfl⟩
    | go l U1 s1 =>
      have hx' := hx
      simp only [CClo.run] at hx
      rw [hx] at h
      subst h
      refine (ccode_ok hl hcall hm x d hx' hn a).mono ?_
      rintro e1 T2 h2 ⟨rfl, a2, rfl⟩
      exact ⟨rfl, a2, rfl⟩
  | .scope x, d, T, U, s, R, h, hn, a => by
    simp only [drawsOk] at d
    simp only [ccode, CClo.run] at h
    refine HWp.scope ?_
    cases hx : (ccode P ks nt lf x).run c U s with
    | no => simp only [CClo.run] at hx; rw [hx] at h; exact absurd h.symm hn
    | go l U1 s1 => simp only [CClo.run] at hx; rw [hx] at h; exact absurd h.symm hn
    | nx U1 s1 =>
      have hx' := hx
      simp only [CClo.run] at hx
      rw [hx] at h
      subst h
      refine (ccode_ok hl hcall hm x d hx' hn a).mono ?_
      rintro e1 T2 h2 ⟨rfl, a2, rfl⟩
      exact ⟨rfl, a2, rfl⟩
    | ret U1 s1 =>
      have hx' := hx
      simp only [CClo.run] at hx
      rw [hx] at h
      subst h
      refine (ccode_ok hl hcall hm x d hx' hn a).mono ?_
      rintro e1 T2 h2 ⟨rfl, a2, rfl⟩
      exact ⟨rfl, a2, rfl⟩
    | ex i U1 s1 =>
      have hx' := hx
      simp only [CClo.run] at hx
      rw [hx] at h
      subst h
      refine (ccode_ok hl hcall hm x d hx' hn a).mono ?_
      rintro e1 T2 h2 ⟨rfl, a2, rfl⟩
      exact ⟨rfl, a2, rfl⟩
  | .loop x, d, T, U, s, R, h, hn, a => by
    simp only [drawsOk] at d
    have h' : rloop (fun U s => (ccode P ks nt lf x).run c U s) lf U s = R := h
    obtain ⟨m, E, S, e0, s0, hstep, hlast, hne⟩ := rloop_trace _ h' hn
    have weak : ∀ {T : Env} {U : UT}, Agree ks T U → ∀ k, (envU ks U).get k = .any ∨ (envU ks U).get k = T.get k := by
      intro T U a k
      rw [envU_get]
      cases hk : idx k ks 0 with
      | none => exact .inl rfl
      | some n => exact .inr (a k n hk).symm
    refine HWp.loop (α := Nat) (fun k => envU ks (E k)) (fun k => (S k).hh) (fun k => k ≤ m) (fun k => m - k) ⟨0, Nat.zero_le _, by rw [s0], by rw [e0]; exact weak a⟩ fun k hk => ?_
    by_cases hkm : k = m
    · subst hkm
      refine (ccode_ok hl hcall hm x d hlast hn (envU_agree _)).mono ?_
      intro e1 T2 h2 hp
      cases R with
      | no => exact hp.elim
      | nx U1 s1 => exact absurd rfl (hne _ _)
      | ret U1 s1 => obtain ⟨rfl, p2⟩ := hp; exact ⟨rfl, p2⟩
      | ex i U1 s1 => obtain ⟨rfl, p2⟩ := hp; exact ⟨rfl, p2⟩
      | go l U1 s1 => obtain ⟨rfl, p2⟩ := hp; exact ⟨rfl, p2⟩
    · refine (ccode_ok hl hcall hm x d (hstep k (by omega)) (by intro e; cases e) (envU_agree _)).mono ?_
      rintro e1 T2 h2 ⟨rfl, a2, rfl⟩
      exact ⟨k + 1, by omega, by omega, rfl, weak a2⟩
  | .exit id, d, T, U, s, R, h, hn, a => by
    simp only [ccode, CClo.run] at h
    subst h
    exact HWp.now (e := .exit id) ⟨rfl, a, rfl⟩ fun _ _ _ q => wp_exit q
  | .ret, d, T, U, s, R, h, hn, a => by
    simp only [ccode, CClo.run] at h
    subst h
    exact HWp.now (e := .ret) ⟨rfl, a, rfl⟩ fun _ _ _ q => wp_ret q
  | .label l, d, T, U, s, R, h, hn, a => by
    simp only [ccode, CClo.run] at h
    subst h
    exact HWp.now (e := .normal) ⟨rfl, a, rfl⟩ fun _ _ _ q => wp_label q
  | .goto l, d, T, U, s, R, h, hn, a => by
    simp only [ccode, CClo.run] at h
    subst h
    exact HWp.now (e := .goto l) ⟨rfl, a, rfl⟩ fun _ _ _ q => wp_goto q
  | .rangeFunc .., d, T, U, s, R, h, hn, a => absurd h.symm hn
  | .refuse _, d, T, U, s, R, h, hn, a => absurd h.symm hn

/-! ### calls -/
def fillA (ks : List Nat) : List HV → Nat → UT → UT
  | [], _, U => U
  | v :: vs, i, U => match idx i ks 0 with
    | some n => slotPut n v (fillA ks vs (i + 1) U)
    | none => fillA ks vs (i + 1) U
theorem fillA_get (hl : ks.length ≤ 64) {k n : Nat} (hk : idx k ks 0 = some n) : ∀ (vs : List HV) (i : Nat) (U : UT), slotGet n (fillA ks vs i U) = if i ≤ k ∧ k < i + vs.length then vs.getD (k - i) .any else slotGet n U
  | [], i, U => by simp only [fillA, List.length_nil]; rw [if_neg (by omega)]
  | v :: vs, i, U => by
    have ih := fillA_get hl hk vs (i + 1) U
    have hn : n < 64 := by have := (idx_at hk).2.1; omega
    simp only [fillA, List.length_cons]
    have rest : i ≠ k → (if i + 1 ≤ k ∧ k < i + 1 + vs.length then vs.getD (k - (i + 1)) .any else slotGet n U) = if i ≤ k ∧ k < i + (vs.length + 1) then (v :: vs).getD (k - i) .any else slotGet n U := by
      intro hik
      by_cases hc : i + 1 ≤ k ∧ k < i + 1 + vs.length
      · rw [if_pos hc, if_pos (by omega), show k - i = (k - (i + 1)) + 1 from by omega]; simp
      · rw [if_neg hc, if_neg (by omega)]
    cases ha : idx i ks 0 with
    | none =>
      have : i ≠ k := by rintro rfl; rw [hk] at ha; cases ha
      simp only
      rw [ih, rest this]
    | some m =>
      have hm : m < 64 := by have := (idx_at ha).2.1; omega
      simp only
      rw [slot_get_put hm hn]
      by_cases hik : i = k
      · subst hik
        rw [hk] at ha; cases ha
        simp
      · rw [if_neg, ih, rest hik]
        rintro rfl
        have h1 := (idx_at hk).2.2
        have h2 := (idx_at ha).2.2
        rw [h1] at h2
        exact hik (by simpa using h2.symm)
theorem slotGet_nil (n : Nat) : slotGet n (.nil : UT) = .any := by simp [slotGet, UT.get, N8.get]
theorem fillA_agree (hl : ks.length ≤ 64) (args : List HV) : Agree ks (henter args) (fillA ks args 0 .nil) := by
  intro k n hk
  rw [fillA_get hl hk, slotGet_nil]
  have hg := henter_get args k 0
  simp only [Nat.zero_le, if_true, Nat.sub_zero] at hg
  unfold henter
  rw [hg]
  by_cases h : k < args.length
  · simp [h]
  · rw [if_neg (by omega)]
    simp [List.getD, List.getElem?_eq_none (Nat.le_of_not_lt h)]

def fres (P : Program) (ks : List Nat) : List ResultVar → UT → XS → Option (List HV)
  | [], U, s => some []
  | .tmp t :: l, U, s => match idx t ks 0 with
    | some n => (match fres P ks l U s with
      | some vs => some (slotGet n U :: vs)
      | none => none)
    | none => none
  | .cell a t :: l, U, s => match idx a ks 0 with
    | some n => (match hcells s.hh (slotGet n U) with
      | some q => match okLoad P t q.1 q.2 with
        | true => match fres P ks l U s with
          | some vs => some (hload P t q.1 q.2 :: vs)
          | none => none
        | false => none
      | none => none)
    | none => none
theorem fres_then : ∀ (l : List ResultVar) {T : Env} {U : UT} {s : XS} {vs : List HV}, Agree ks T U → fres P ks l U s = some vs → ∀ {K : List HV → Prop}, K vs → hres P l T s.hh K
  | [], T, U, s, vs, a, h, K, k => by simp only [fres, Option.some.injEq] at h; subst h; exact k
  | .tmp t :: l, T, U, s, vs, a, h, K, k => by
    simp only [fres] at h
    split at h
    · rename_i n hn
      split at h
      · rename_i us h1
        cases h
        simp only [hres]
        rw [a t n hn]
        exact fres_then l a h1 k
      · cases h
    · cases h
  | .cell x t :: l, T, U, s, vs, a, h, K, k => by
    simp only [fres] at h
    simp only [hres]
    split at h
    · rename_i n hn
      rw [a x n hn]
      split at h
      · rename_i q hq
        simp only [hq]
        split at h
        · rename_i ho
          split at h
          · rename_i us h1; cases h; exact ⟨okLoad_ok ho, fres_then l a h1 k⟩
          · cases h
        · cases h
      · cases h
    · cases h

inductive CF where
  | no
  | mk (f : FCall → List HV → XS → R1)
def CF.run (c : CF) : FCall → List HV → XS → R1 := CF.rec (motive := fun _ => FCall → List HV → XS → R1) (fun _ _ _ => .no) (fun f => f) c
def fend (P : Program) (ks : List Nat) (rs : List ResultVar) (U : UT) (s : XS) : R1 := Option.rec (motive := fun _ => R1) .no (fun vs => .ok (hval vs) s) (fres P ks rs U s)
def cfun1 (P : Program) (lf : Nat) (fn : Func) (cd : Code) (ks : List Nat) : CF := match Nat.ble ks.length 64 with
  | true => .mk fun call args s => match Nat.ble args.length fn.ntmps with
    | true => R2.rec (motive := fun _ => R1) .no (fun U s => fend P ks fn.results.toList U s) (fun U s => fend P ks fn.results.toList U s) (fun _ _ _ => .no) (fun _ _ _ => .no)
        ((ccode P ks fn.ntmps lf cd).run call (fillA ks args 0 .nil) s)
    | false => .no
  | false => .no
/-- a long list in parts -/
def chunks {α : Type} : Nat → List α → List (List α)
  | 0, _ => []
  | n + 1, l => l.take 32 :: chunks n (l.drop 32)
def nth2 {α : Type} (c : List (List α)) (i : Nat) : Option α := Option.rec (motive := fun _ => Option α) none (fun l => nthL l (i % 32)) (nthL c (i / 32))
theorem nth2_chunks {α : Type} : ∀ (n : Nat) (l : List α) (i : Nat) {x : α}, nth2 (chunks n l) i = some x → l[i]? = some x
  | 0, l, i, x, h => by simp [chunks, nth2, nthL] at h
  | n + 1, l, i, x, h => by
    simp only [chunks, nth2, nthL_eq] at h
    by_cases hi : i < 32
    · rw [show i / 32 = 0 from by omega, show i % 32 = i from by omega] at h
      simp only [List.getElem?_cons_zero] at h
      rw [List.getElem?_take, if_pos hi] at h
      exact h
    · have e : i / 32 = (i - 32) / 32 + 1 := by omega
      rw [e, List.getElem?_cons_succ, show i % 32 = (i - 32) % 32 from by omega] at h
      have := nth2_chunks n (l.drop 32) (i - 32) (x := x) (by simp only [nth2, nthL_eq]; exact h)
      rw [List.getElem?_drop] at this
      rw [show i = 32 + (i - 32) from by omega]; exact this
def funAt (P : Program) (f : FuncId) : Option Func := nth2 (chunks 40 P.funcs.toList) f
theorem funAt_ok {P : Program} {f : FuncId} {fn : Func} (h : funAt P f = some fn) : P.funcs[f]? = some fn := by
  have := nth2_chunks _ _ _ h
  simpa using this
/-- the variables that live on, of each function, in parts of 32 functions -/
abbrev Keep := List (List (List Nat))
def Keep.of (K : Keep) (f : FuncId) : List Nat := Option.rec (motive := fun _ => List Nat) [] (fun l => l) (nth2 K f)
def cfun (P : Program) (K : Keep) (lf : Nat) (f : FuncId) : CF :=
  match funAt P f with
  | some fn => match fn.body with
    | some cd => cfun1 P lf fn cd (K.of f)
    | none => .no
  | none => .no
def fcall (P : Program) (K : Keep) (lf : Nat) (n : Nat) : FCall :=
  Nat.rec (motive := fun _ => FCall) (fun _ _ _ => .no) (fun _ ih f args s => (cfun P K lf f).run ih args s) n

theorem fcall_ok (hok : ∀ f, okF P f = true) (hm : P.follows .mixedOrders = true) {K : Keep} {lf : Nat} : ∀ n, XOk P (xcOf (fcall P K lf n))
  | 0 => fun f args s v s' h => by cases h
  | n + 1 => fun f args s v s' h => by
    have ih := fcall_ok hok hm (K := K) (lf := lf) n
    have h1 : (cfun P K lf f).run (fcall P K lf n) args s = .ok v s' := by
      have : xcOf (fcall P K lf (n + 1)) f args s = R1.rec (motive := fun _ => Option (HV × XS)) none (fun v s => some (v, s)) ((cfun P K lf f).run (fcall P K lf n) args s) := rfl
      rw [this] at h
      cases hr : (cfun P K lf f).run (fcall P K lf n) args s with
      | no => rw [hr] at h; cases h
      | ok u s1 => rw [hr] at h; cases h; rfl
    unfold cfun at h1
    split at h1
    · rename_i fn hf
      have hf := funAt_ok hf
      generalize K.of f = kf at h1
      split at h1
      · rename_i cd hc
        unfold cfun1 at h1
        split at h1
        · rename_i hl
          have hl := Nat.le_of_ble_eq_true hl
          simp only [CF.run] at h1
          split at h1
          · rename_i hal
            have ho := hok f
            simp only [okF, hf, hc, Bool.and_eq_true] at ho
            have hbody : hasBody P f = true := by simp only [hasBody, hf, hc, ho.1, Option.isSome_some, Bool.and_true]
            refine HWp.hcalls hf hc hbody (Nat.le_of_ble_eq_true hal) ?_
            have fin : ∀ {T : Env} {U : UT} {s1 : XS}, Agree (kf) T U → fend P (kf) fn.results.toList U s1 = .ok v s' → hres P fn.results.toList T s1.hh fun vs => hval vs = v ∧ s1.hh = s'.hh := by
              intro T U s1 a he
              unfold fend at he
              cases hr : fres P (kf) fn.results.toList U s1 with
              | none => rw [hr] at he; cases he
              | some vs => rw [hr] at he; cases he; exact fres_then _ a hr ⟨rfl, rfl⟩
            cases hR : (ccode P (kf) fn.ntmps lf cd).run (fcall P K lf n) (fillA (kf) args 0 .nil) s with
            | no => rw [hR] at h1; cases h1
            | ex => rw [hR] at h1; cases h1
            | go => rw [hR] at h1; cases h1
            | nx U s1 =>
              rw [hR] at h1
              refine (ccode_ok hl ih hm cd ho.2 hR (by intro e; cases e) (fillA_agree hl args)).mono ?_
              rintro e T h2 ⟨rfl, a, rfl⟩
              exact fin a h1
            | ret U s1 =>
              rw [hR] at h1
              refine (ccode_ok hl ih hm cd ho.2 hR (by intro e; cases e) (fillA_agree hl args)).mono ?_
              rintro e T h2 ⟨rfl, a, rfl⟩
              exact fin a h1
          · cases h1
        · cases h1
      · cases h1
    · cases h1

theorem hcalls_of_fast (hok : ∀ f, okF P f = true) (hm : P.follows .mixedOrders = true) {K : Keep} {lf n : Nat} {f : FuncId} {args : List HV} {s s' : XS} {v : HV} (h : fcall P K lf n f args s = .ok v s') :
    HCalls P f args s.hh fun u h => u = v ∧ h = s'.hh := fcall_ok hok hm n f args s v s' (xcOf_ok h)
end
end
end Go.H
