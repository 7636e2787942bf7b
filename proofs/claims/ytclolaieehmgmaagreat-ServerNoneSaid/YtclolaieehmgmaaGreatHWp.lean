/- Regions in the order of the text, statements, functions: what the layer says of code holds in the model. -/
import Derived.Test.YtclolaieehmgmaaGreatHSound
set_option linter.unusedVariables false
set_option linter.unusedSimpArgs false
namespace Go.H

abbrev Env := List (Nat × HV)
def Env.get : Env → Nat → HV
  | [], _ => .any
  | (k, v) :: T, n => if n = k then v else Env.get T n
def Env.prune (T : Env) (ks : List Nat) : Env := ks.map fun k => (k, T.get k)

def hev (T : Env) : Operand → HV
  | .tmp t => T.get t
  | .const v => hv v
  | .global _ => .any
  | .func f => .fn f [] []

def EnvR (g : Ghost) (T : Env) (tmps : Array Value) : Prop := ∀ k, VR g (T.get k) (tmps.getD k undef)

theorem EnvR.mono {g g' : Ghost} {T : Env} {tmps : Array Value} (h : EnvR g T tmps) (hl : g.le g') : EnvR g' T tmps := fun k => (h k).mono hl

theorem EnvR.prune {g : Ghost} {T : Env} {tmps : Array Value} (h : EnvR g T tmps) (ks : List Nat) : EnvR g (T.prune ks) tmps := by
  intro k
  induction ks with
  | nil => exact .any _
  | cons x ks ih =>
    simp only [Env.prune, List.map_cons, Env.get]
    split
    · rename_i e; subst e; exact h k
    · exact ih

theorem EnvR.ev {g : Ghost} {T : Env} {tmps : Array Value} (h : EnvR g T tmps) (d : List Deferred) (x : Operand) : VR g (hev T x) ((⟨tmps, d⟩ : Act).eval x) := by
  cases x with
  | tmp t => exact h t
  | const v => exact VR_hv g v
  | global k => exact .any _
  | func f => exact .fn f [] [] #[] #[] rfl rfl (by simp) (by simp)

theorem EnvR.put {g : Ghost} {T : Env} {tmps : Array Value} (h : EnvR g T tmps) {d : Nat} (hd : d < tmps.size) {v : HV} {c : Value} (hv : VR g v c) : EnvR g ((d, v) :: T) (tmps.setIfInBounds d c) := by
  intro k
  simp only [Env.get]
  split
  · rename_i e; subst e
    simpa [Array.getD_eq_getD_getElem?, hd] using hv
  · rename_i e
    have : (tmps.setIfInBounds d c).getD k undef = tmps.getD k undef := by
      simp only [Array.getD_eq_getD_getElem?]
      rw [Array.getElem?_setIfInBounds_ne (by omega)]
    rw [this]; exact h k

def hbind (nt : Nat) (dst : Option Tmp) (v : HV) (T : Env) (K : Env → Prop) : Prop :=
  match dst with
  | none => K T
  | some d => d < nt ∧ K ((d, v) :: T)

def gslot (ds : List (Option Tmp)) (j : Nat) : Option Tmp := (ds[j]?).getD none

def hops (P : Program) (nt : Nat) (ops : List (Option Tmp)) (Q : Env → HH → Prop) : List Oper → Env → HH → Prop
  | [], T, h => Q T h
  | o :: rest, T, h => match o.guard with
    | none => hop P o.op (hev T) h fun v h' => hbind nt o.dst v T fun T' => hops P nt ops Q rest T' h'
    | some p => match gslot ops p.1 with
      | some d => match T.get d with
        | .bool b => (b = p.2 → hop P o.op (hev ((d, .bool p.2) :: T)) h fun v h' => hbind nt o.dst v ((d, .bool p.2) :: T) fun T' => hops P nt ops Q rest T' h') ∧
            (b = !p.2 → hbind nt o.dst (.tup []) ((d, .bool !p.2) :: T) fun T' => hops P nt ops Q rest T' h)
        | .tup [] => hbind nt o.dst (.tup []) T fun T' => hops P nt ops Q rest T' h
        | _ => False
      | none => False

def HPost (P : Program) (Fr : Nat → Prop) (nt : Nat) (g0 : Ghost) (w0 : World) (Q : Exit → Env → HH → Prop) : Exit → Act → World → Prop := fun e a w =>
  a.defers = [] ∧ a.tmps.size = nt ∧ ∃ T h g, Q e T h ∧ g0.le g ∧ EnvR g T a.tmps ∧ Rel P Fr g h w ∧ Kept Fr w0 w

theorem HPost.later {P : Program} {Fr : Nat → Prop} {nt : Nat} {g0 g1 : Ghost} {w0 w1 : World} {Q : Exit → Env → HH → Prop} (hl : g0.le g1) (hk : Kept Fr w0 w1) {e : Exit} {a : Act} {w : World}
    (h : HPost P Fr nt g1 w1 Q e a w) : HPost P Fr nt g0 w0 Q e a w := by
  obtain ⟨h1, h2, T, hh, g, q, l, en, r, k⟩ := h
  exact ⟨h1, h2, T, hh, g, q, hl.trans l, en, r, hk.trans k⟩

theorem put_none (a : Act) (c : Value) : a.put none c = a := rfl
theorem put_some (tmps : Array Value) (d : Tmp) (c : Value) : (⟨tmps, []⟩ : Act).put (some d) c = ⟨tmps.setIfInBounds d c, []⟩ := rfl

theorem VR_undef {g : Ghost} : VR g (.tup []) undef := .tup [] #[] rfl (by simp)

theorem yielded_undef {ops : Array Oper} {tmps : Array Value} {g : Ghost} {j : Nat} {d : Tmp} (hd : gslot (ops.toList.map (·.dst)) j = some d) (hv : VR g (.tup []) (tmps.getD d undef)) : yielded ops tmps j = none := by
  have hd' : (ops[j]?).bind (·.dst) = some d := by
    unfold gslot at hd
    rw [List.getElem?_map] at hd
    have : ops.toList[j]? = ops[j]? := by simp
    rw [this] at hd
    cases ho : ops[j]? with
    | none => rw [ho] at hd; cases hd
    | some x => rw [ho] at hd; simpa using hd
  unfold yielded
  rw [hd']
  simp only [Option.bind_some]
  cases ht : tmps[d]? with
  | none => rfl
  | some c =>
    rw [Array.getD_eq_getD_getElem?, ht] at hv
    simp only [Option.getD_some] at hv
    cases hv
    rfl

theorem hops_sound {P : Program} {nt : Nat} {ops : Array Oper} {dl : List (Option Tmp)} (hds : dl = ops.toList.map (·.dst)) {Fr : Nat → Prop} {Q : Exit → Env → HH → Prop} {g0 : Ghost} {w0 : World} : ∀ (l : List Oper) {T : Env} {h : HH} {g : Ghost} {w : World} {tmps : Array Value},
    Rel P Fr g h w → EnvR g T tmps → tmps.size = nt → g0.le g → Kept Fr w0 w → hops P nt dl (Q .normal) l T h → wpList P ops (HPost P Fr nt g0 w0 Q) l ⟨tmps, []⟩ w
  | [], T, h, g, w, tmps, r, en, hs, hl, hk, hq => ⟨rfl, hs, T, h, g, hq, hl, en, r, hk⟩
  | o :: rest, T, h, g, w, tmps, r, en, hs, hl, hk, hq => by
    have bind : ∀ {v : HV} {c : Value} {T : Env} {h : HH} {g' : Ghost} {w' : World}, EnvR g' T tmps → VR g' v c → Rel P Fr g' h w' → g0.le g' → Kept Fr w0 w' → (hbind nt o.dst v T fun T' => hops P nt dl (Q .normal) rest T' h) →
        wpList P ops (HPost P Fr nt g0 w0 Q) rest ((⟨tmps, []⟩ : Act).put o.dst c) w' := by
      intro v c T h g' w' en hv r hl hk hb
      unfold hbind at hb
      split at hb
      · rename_i e; rw [e, put_none]; exact hops_sound hds rest r en hs hl hk hb
      · rename_i d e
        rw [e, put_some]
        exact hops_sound hds rest r (en.put (by rw [hs]; exact hb.1) hv) (by simpa using hs) hl hk hb.2
    simp only [hops] at hq
    split at hq
    · rename_i hg
      refine wpList_step fun K hK => ?_
      simp only [Region.wanted, hg, if_true]
      exact hop_sound r (en.ev []) hq fun v cv h' g' w' k1 k2 k3 k4 k5 => hK _ _ (bind (en.mono k2) k3 k4 (hl.trans k2) (hk.trans k5) k1)
    · rename_i p hg
      split at hq
      · rename_i d hd
        split at hq
        · rename_i b hb
          have hen := en d
          rw [hb] at hen
          generalize hcd : tmps.getD d undef = cd at hen
          cases hen
          have hdl : d < tmps.size := by
            rcases Nat.lt_or_ge d tmps.size with h' | h'
            · exact h'
            · simp [Array.getD, Nat.not_lt.2 h', undef] at hcd
          have hget : tmps[d]? = some (.bool b) := by
            rw [← hcd]; simp [Array.getD, hdl]
          have hen2 : EnvR g ((d, .bool b) :: T) tmps := by
            intro k
            simp only [Env.get]
            split
            · rename_i e; subst e; rw [hcd]; exact .bool _
            · exact en k
          refine wpList_step fun K hK => ?_
          have hy : yielded ops tmps p.1 = some b := by
            unfold yielded
            have hd' : (ops[p.1]?).bind (·.dst) = some d := by
              unfold gslot at hd
              rw [hds] at hd
              rw [List.getElem?_map] at hd
              have : ops.toList[p.1]? = ops[p.1]? := by simp
              rw [this] at hd
              cases ho : ops[p.1]? with
              | none => rw [ho] at hd; cases hd
              | some x => rw [ho] at hd; simpa using hd
            rw [hd']; simp [hget]
          have hw : Region.wanted o (yielded ops tmps) = (b == p.2) := by
            simp only [Region.wanted, hg, hy]; simp
          simp only [hw]
          by_cases hbp : b = p.2
          · rw [if_pos (by simp [hbp])]
            rw [hbp] at hen2
            exact hop_sound r (hen2.ev []) (hq.1 hbp) fun v cv h' g' w' k1 k2 k3 k4 k5 => hK _ _ (bind (hen2.mono k2) k3 k4 (hl.trans k2) (hk.trans k5) k1)
          · rw [if_neg (by simp [hbp])]
            have hbn : b = !p.2 := by cases b <;> cases hp : p.2 <;> simp_all
            rw [hbn] at hen2
            exact hK _ _ (bind hen2 VR_undef r hl hk (hq.2 hbn))
        · rename_i hb
          have hen := en d
          rw [hb] at hen
          have hy := yielded_undef (g := g) (by rw [← hds]; exact hd) hen
          refine wpList_step fun K hK => ?_
          have hw : Region.wanted o (yielded ops tmps) = false := by
            simp only [Region.wanted, hg, hy]; simp
          simp only [hw]
          rw [if_neg (by simp)]
          exact hK _ _ (bind en VR_undef r hl hk hq)
        · exact hq.elim
      · exact hq.elim

/-- what code comes to -/
def HWp (P : Program) (nt : Nat) (c : Code) (Q : Exit → Env → HH → Prop) (T : Env) (h : HH) : Prop :=
  ∀ Fr g w (tmps : Array Value), Rel P Fr g h w → EnvR g T tmps → tmps.size = nt → c.wp P (HPost P Fr nt g w Q) ⟨tmps, []⟩ w

theorem HWp.mono {P : Program} {nt : Nat} {c : Code} {Q Q' : Exit → Env → HH → Prop} {T : Env} {h : HH} (hw : HWp P nt c Q T h) (hq : ∀ e T h, Q e T h → Q' e T h) : HWp P nt c Q' T h :=
  fun Fr g w tmps r en hs => wp_mono (hw Fr g w tmps r en hs) fun e a w' ⟨h1, h2, T, h, g, q, rest⟩ => ⟨h1, h2, T, h, g, hq _ _ _ q, rest⟩

def HThen (Q : Exit → Env → HH → Prop) (K : Env → HH → Prop) : Exit → Env → HH → Prop
  | .normal, T, h => K T h
  | e, T, h => Q e T h
def HBlk (id : Nat) (Q : Exit → Env → HH → Prop) : Exit → Env → HH → Prop
  | .exit k, T, h => if k = id then Q .normal T h else Q (.exit k) T h
  | e, T, h => Q e T h
def HNoGoto (Q : Exit → Env → HH → Prop) : Exit → Env → HH → Prop
  | .goto _, _, _ => False
  | e, T, h => Q e T h

theorem HWp.seq {P : Program} {nt : Nat} {x y : Code} {Q : Exit → Env → HH → Prop} {T : Env} {h : HH} (hw : HWp P nt x (HThen Q fun T h => HWp P nt y Q T h) T h) : HWp P nt (.seq x y) Q T h := by
  intro Fr g w tmps r en hs
  refine wp_seq (wp_mono (hw Fr g w tmps r en hs) fun e a w' hp => ?_)
  obtain ⟨h1, h2, T', h', g', q, l, en', r', k⟩ := hp
  obtain ⟨tmps', d⟩ := a
  simp only at h1 h2 en'
  subst h1
  cases e with
  | normal => exact wp_mono (q Fr g' w' tmps' r' en' h2) fun e a w'' hp => hp.later l k
  | _ => exact ⟨rfl, h2, T', h', g', q, l, en', r', k⟩

theorem HWp.block {P : Program} {nt : Nat} {id : Nat} {c : Code} {Q : Exit → Env → HH → Prop} {T : Env} {h : HH} (hw : HWp P nt c (HBlk id Q) T h) : HWp P nt (.block id c) Q T h := by
  intro Fr g w tmps r en hs
  refine wp_block (wp_mono (hw Fr g w tmps r en hs) fun e a w' hp => ?_)
  obtain ⟨h1, h2, T', h', g', q, rest⟩ := hp
  cases e with
  | exit k =>
    simp only [HBlk] at q
    simp only [Exit.inBlock]
    split
    · rename_i hk; rw [if_pos hk] at q; exact ⟨h1, h2, T', h', g', q, rest⟩
    · rename_i hk; rw [if_neg hk] at q; exact ⟨h1, h2, T', h', g', q, rest⟩
  | _ => exact ⟨h1, h2, T', h', g', q, rest⟩

theorem HWp.scope {P : Program} {nt : Nat} {c : Code} {Q : Exit → Env → HH → Prop} {T : Env} {h : HH} (hw : HWp P nt c (HNoGoto Q) T h) : HWp P nt (.scope c) Q T h := by
  intro Fr g w tmps r en hs
  refine wp_scope_straight (wp_mono (hw Fr g w tmps r en hs) fun e a w' hp => ?_)
  obtain ⟨h1, h2, T', h', g', q, rest⟩ := hp
  cases e with
  | goto k => exact q.elim
  | _ => exact ⟨h1, h2, T', h', g', q, rest⟩

theorem HWp.cond {P : Program} {nt : Nat} {x : Operand} {c d : Code} {Q : Exit → Env → HH → Prop} {T : Env} {h : HH} {b : Bool} (hb : hev T x = .bool b) (ht : b = true → HWp P nt c Q T h) (hf : b = false → HWp P nt d Q T h) : HWp P nt (.cond x c d) Q T h := by
  intro Fr g w tmps r en hs
  have he := en.ev [] x
  rw [hb] at he
  generalize hcx : (⟨tmps, []⟩ : Act).eval x = cx at he
  cases he
  exact wp_cond_split hcx (fun e => ht e Fr g w tmps r en hs) (fun e => hf e Fr g w tmps r en hs)

theorem HWp.region {P : Program} {nt : Nat} {id : Nat} {ops : Array Oper} {Q : Exit → Env → HH → Prop} {T : Env} {h : HH} (hw : hops P nt (ops.toList.map (·.dst)) (Q .normal) ops.toList T h) : HWp P nt (.region id ops false) Q T h := by
  intro Fr g w tmps r en hs
  exact wp_region_list (hops_sound rfl ops.toList r en hs (Ghost.le.refl g) (Kept.refl Fr w) hw)

theorem HWp.forget {P : Program} {nt : Nat} {c : Code} {Q : Exit → Env → HH → Prop} {T : Env} {h : HH} (ks : List Nat) (hw : HWp P nt c Q (T.prune ks) h) : HWp P nt c Q T h :=
  fun Fr g w tmps r en hs => hw Fr g w tmps r (en.prune ks) hs

/-- The rule of a loop: a family of states, one of which is met at each head. -/
theorem HWp.loop {P : Program} {nt : Nat} {c : Code} {Q : Exit → Env → HH → Prop} {T : Env} {h : HH} {α : Type} (E : α → Env) (H : α → HH) (I : α → Prop) (μ : α → Nat)
    (h0 : ∃ x, I x ∧ h = H x ∧ ∀ k, (E x).get k = .any ∨ (E x).get k = T.get k)
    (round : ∀ x, I x → HWp P nt c (HThen Q fun T' h' => ∃ y, I y ∧ μ y < μ x ∧ h' = H y ∧ ∀ k, (E y).get k = .any ∨ (E y).get k = T'.get k) (E x) (H x)) : HWp P nt (.loop c) Q T h := by
  intro Fr g w tmps r en hs
  obtain ⟨x0, i0, rfl, e0⟩ := h0
  have weak : ∀ {g : Ghost} {E T : Env} {tmps : Array Value}, (∀ k, E.get k = .any ∨ E.get k = T.get k) → EnvR g T tmps → EnvR g E tmps := by
    intro g E T tmps he en k
    rcases he k with h' | h'
    · rw [h']; exact .any _
    · rw [h']; exact en k
  -- the state at a head
  let J : α → Act → World → Prop := fun x a w' => I x ∧ a.defers = [] ∧ a.tmps.size = nt ∧ ∃ g', g.le g' ∧ EnvR g' (E x) a.tmps ∧ Rel P Fr g' (H x) w' ∧ Kept Fr w w'
  have key : ∀ n x a w', μ x = n → J x a w' → ∀ (b : Frame) (k : List Item) (cs : List Frame),
      ∃ e a'' w'', HPost P Fr nt g w Q e a'' w'' ∧ Arrives P (lone (b.at a (.code c :: .inLoop c :: k)) cs w') b k cs e a'' w'' := by
    intro n
    induction n using Nat.strongRecOn with
    | _ n ih =>
      intro x a w' hn hJ b k cs
      obtain ⟨j1, j2, j3, g', j4, j5, j6, j7⟩ := hJ
      obtain ⟨tmps', d⟩ := a
      simp only at j2 j3 j5
      subst j2
      obtain ⟨e, a₁, w₁, hq, harr⟩ := round x j1 Fr g' w' tmps' j6 j5 j3 b (.inLoop c :: k) cs
      obtain ⟨p1, p2, T', h', g'', q, l, en', r', kk⟩ := hq
      cases e with
      | normal =>
        obtain ⟨y, y1, y2, y3, y4⟩ := q
        subst y3
        obtain ⟨e₂, a₂, w₂, hq₂, harr₂⟩ := ih (μ y) (hn ▸ y2) y a₁ w₁ rfl ⟨y1, p1, p2, g'', j4.trans l, weak y4 en', r', j7.trans kk⟩ b k cs
        exact ⟨e₂, a₂, w₂, hq₂, .of_steps (Steps.trans harr (.one step_inLoop)) harr₂⟩
      | exit id => exact ⟨_, a₁, w₁, ⟨p1, p2, T', h', g'', q, j4.trans l, en', r', j7.trans kk⟩, .pass (x := .inLoop c) rfl (fun _ _ => .inl (by simp)) harr⟩
      | goto id => exact ⟨_, a₁, w₁, ⟨p1, p2, T', h', g'', q, j4.trans l, en', r', j7.trans kk⟩, .pass (x := .inLoop c) rfl (fun _ _ => .inl (by simp)) harr⟩
      | ret => exact ⟨_, a₁, w₁, ⟨p1, p2, T', h', g'', q, j4.trans l, en', r', j7.trans kk⟩, .pass (x := .inLoop c) rfl (fun _ _ => .inl (by simp)) harr⟩
      | panic ch => exact ⟨_, a₁, w₁, ⟨p1, p2, T', h', g'', q, j4.trans l, en', r', j7.trans kk⟩, .pass (x := .inLoop c) rfl (fun _ _ => .inl (by simp)) harr⟩
      | outgrown => exact ⟨_, a₁, w₁, ⟨p1, p2, T', h', g'', q, j4.trans l, en', r', j7.trans kk⟩, .pass (x := .inLoop c) rfl (fun _ _ => .inl (by simp)) harr⟩
  intro b k cs
  obtain ⟨e, a', w', hq, harr⟩ := key _ x0 ⟨tmps, []⟩ w rfl ⟨i0, rfl, hs, g, Ghost.le.refl g, weak e0 en, r, Kept.refl Fr w⟩ b k cs
  exact ⟨e, a', w', hq, .of_steps (.one step_loop) harr⟩

end Go.H
