/- From a contract of the layer to what a law's row asks. -/
import Derived.Test.YtclolaieehmgmaaGreatHFast2
import Derived.ChangeSame
import Derived.ReadAgain
import Derived.Below
import Derived.WideKeyArgs
set_option linter.unusedVariables false
set_option linter.unusedSimpArgs false
namespace Go.H
open Go.ChangeShapes Go.WideShapes Go.RowKit

theorem cell_one {P : Program} {w : World} {r : Reach} {base : Nat} {t : TypeId} {v : Value} (h : Cell.okWide P w r base t v) : v.oneCell' = true := by
  cases v with
  | agg cs =>
    exfalso
    unfold Cell.okWide at h
    split at h <;> first | (rename_i he; cases he; done) | skip
    all_goals (unfold Cell.ok at h; split at h <;> first | exact h | (rename_i he; cases he; done))
  | tuple cs =>
    exfalso
    unfold Cell.okWide at h
    split at h <;> first | (rename_i he; cases he; done) | skip
    all_goals (unfold Cell.ok at h; split at h <;> first | exact h | (rename_i he; cases he; done))
  | _ => rfl

/-- A struct that came in: cells of which nothing is said. -/
theorem VR_struct {P : Program} {w : World} {r : Reach} {base : Nat} {t : TypeId} {fs : Array Field} {v : Value} (g : Ghost) (ht : P.underlying t = some (.struct fs)) (h : Value.okWide P w r base t v) {n : Nat} (hn : P.cellsOf t = n) :
    VR g (.agg (List.replicate n .any)) v := by
  unfold Value.okWide at h
  rw [ht] at h
  obtain ⟨cs, rfl, h1, ts, h2, h3, h4⟩ := h
  refine .agg _ _ (by rw [h1, hn]; simp) (fun j u e => ?_) (fun j u e => ?_)
  · obtain ⟨x, _, hx⟩ := h4 j u e
    exact cell_one hx
  · rw [List.getElem?_replicate] at e
    split at e
    · cases e; exact .any _
    · cases e

def Ghost.none : Ghost := ⟨0, fun _ => .none, fun _ _ => .none, fun _ => 0, fun _ _ => .none, fun _ _ => .none⟩
def XS.none : XS := ⟨.nil, 0⟩
theorem Rel.none (P : Program) (W : World) : Rel P (fun b => b < W.heap.size) Ghost.none XS.none.hh W where
  frlt := fun _ h => h
  imm := fun b o v h => by cases h
  obj := fun x ob h => by simp [XS.none, XS.hh, Tr.get] at h
  uniq := fun x y ox oy b h => by simp [XS.none, XS.hh, Tr.get] at h
  apart := fun x ox b h => by simp [XS.none, XS.hh, Tr.get] at h
  fresh := fun x _ => ⟨by simp [XS.none, XS.hh, Tr.get], rfl, fun _ => rfl, fun _ => rfl⟩
  rtop := fun x k r h => by cases h
  sup := Nat.le_refl _

theorem Kept.below {W W' : World} (k : Kept (fun b => b < W.heap.size) W W') : Below W.heap.size W W' := ⟨k.os, k.tape, k.output, k.size, k.block⟩

/-- A contract that hands back true, over an empty heap: the call, whatever the world. -/
theorem calls_true {P : Program} {f : FuncId} {args : List HV} {Q : HV → HH → Prop} (hc : HCalls P f args XS.none.hh Q) (hq : ∀ v h, Q v h → v = .bool true) {W : World} {cargs : Array Value} (hs : cargs.size = args.length)
    (ha : ∀ (j : Nat) (v : HV), args[j]? = some v → VR Ghost.none v (cargs.getD j undef)) : Calls P f cargs W fun e W' => e = .returned (.bool true) ∧ Below W.heap.size W W' :=
  (hc.2 _ _ W cargs (Rel.none P W) hs ha).mono fun e W' ⟨cv, v, h', g', he, q, _, hv, _, kk⟩ => by
    have := hq _ _ q
    subst this
    cases hv
    exact ⟨he, kk.below⟩

section
variable {H : Type} {enc : TypeId × Value → H} {P : Program}

/-- 'post_of_same', asking of the frozen cells only those that the arguments lie in. -/
theorem post_of_below {f : Func} {s : ChangeSpec} {apart fresh handsOn again : Bool} {W W' : World} {args : Array Value} {v : Value} {ds gs : List (DataW H)} {before pa pv : List MemPlace}
    (hW : DataW.Whole enc P f.params.toList s.vars apart W args.toList ds gs before)
    (hres : ∀ (b : Nat) (sp : Nat → Bool) (hd : Bool), DataW.TrodAll enc P W' b sp hd f.resultTypes.toList (v.resultList f.resultTypes.size) (s.fn H (ds ++ gs)).results [])
    (hargs : ∀ sp : Nat → Bool, (∀ p ∈ before, sp p.block = true) → DataW.TrodAll enc P W' 0 sp true f.params.toList args.toList (s.fn H (ds ++ gs)).args pa)
    (hvars : ∀ sp : Nat → Bool, (∀ p ∈ before, sp p.block = true) → DataW.TrodVars enc P W' sp s.vars (s.fn H (ds ++ gs)).vars pv)
    (hps : before = pa ++ pv) (hb : Below W.heap.size W W')
    (hok : ∀ (j : Nat) (t : TypeId) (r : Value), f.resultTypes[j]? = some t → (v.resultList f.resultTypes.size)[j]? = some r → Value.okWide P W' .any 0 t r) :
    s.post enc P f apart fresh handsOn again W args v W' := by
  have hold : ∀ p ∈ before, (fun b => decide (b < W.heap.size)) p.block = true := fun p hp => by simpa using hW.lt p hp
  refine ⟨ds, gs, before, [], pa, pv, hW, hres _ _ _, hargs _ hold, hvars _ hold, World.keptBut_mono (fun p hp => ⟨hp, ?_⟩) (hb.frame (· ∈ before)), fun _ => ?_⟩
  · rw [hps, List.mem_append] at hp
    exact Or.inr hp
  · have hlt := fun p hp => hW.lt p hp
    obtain ⟨_, _, _, _, _, hz, hn⟩ := hW
    refine ⟨hok, _, _, ([] ++ pa) ++ pv, ⟨[] ++ pa, pv, trodAll_append (hargs _ (fun _ _ => rfl)) (hres _ _ _), hvars _ (fun _ _ => rfl), rfl, ?_, ?_⟩, ?_⟩
    · intro b off hp
      have hp' : MemPlace.cell b off ∈ before := by rw [hps]; simpa using hp
      rw [hb.frozen (hlt _ hp')]
      exact hz b off hp'
    · intro ha
      have := hn ha
      rw [hps] at this
      simpa using this
    · intro p hp _
      rw [hps]
      simpa using hp

def kidOk (P : Program) (l : List TypeId) (t : TypeId) : Bool := match P.underlying t with
  | some (.pointer e) => l.contains e
  | some (.slice e) => l.contains e && decide (0 < P.cellsOf e)
  | some (.array n e) => l.contains e && decide (P.cellsOf t = n * P.cellsOf e)
  | some (.struct fs) => fs.toList.all (fun f => l.contains f.type) && decide (P.cellsOf t = (fs.toList.map fun f => P.cellsOf f.type).sum) &&
      fs.toList.zipIdx.all (fun x => decide (x.1.offset = ((fs.toList.take x.2).map fun f => P.cellsOf f.type).sum))
  | some (.map _ e) => l.contains e
  | _ => true
theorem kid_at {l : List TypeId} (h : l.all (kidOk P l) = true) {t : TypeId} (ht : t ∈ l) : kidOk P l t = true := List.all_eq_true.1 h t ht
theorem kids_list {l : List TypeId} (h : l.all (kidOk P l) = true) : Kids P (· ∈ l) where
  pointer := fun ht hu => by have := kid_at h ht; simp only [kidOk, hu] at this; simpa using this
  slice := fun ht hu => by have := kid_at h ht; simp only [kidOk, hu, Bool.and_eq_true] at this; simpa using this.1
  array := fun ht hu => by have := kid_at h ht; simp only [kidOk, hu, Bool.and_eq_true, decide_eq_true_eq] at this; exact ⟨by simpa using this.1, this.2⟩
  struct := fun ht hu => by
    have := kid_at h ht
    simp only [kidOk, hu, Bool.and_eq_true, decide_eq_true_eq] at this
    refine ⟨fun f hf => ?_, this.1.2, fun j f hj => ?_⟩
    · have := List.all_eq_true.1 this.1.1 f hf
      simpa using this
    · have := List.all_eq_true.1 this.2 (f, j) (List.mem_zipIdx_iff_getElem?.2 hj)
      simpa using this
  map := fun ht hu => by have := kid_at h ht; simp only [kidOk, hu] at this; simpa using this
theorem sized_list {l : List TypeId} (h : l.all (kidOk P l) = true) {t e : TypeId} (ht : t ∈ l) (hu : P.underlying t = some (.slice e)) : 0 < P.cellsOf e := by
  have := kid_at h ht; simp only [kidOk, hu, Bool.and_eq_true, decide_eq_true_eq] at this; exact this.2

theorem TrodAll_stays {base : Nat} {l : List TypeId} (hl : l.all (kidOk P l) = true) {W W' : World} {sp' : Nat → Bool} : ∀ {ts : List TypeId} {vs : List Value} {ds : List (DataW H)} {ps : List MemPlace}, (∀ t ∈ ts, t ∈ l) →
    DataW.TrodAll enc P W base (fun _ => true) true ts vs ds ps → (∀ p ∈ ps, W.sameAt W' p) → (∀ p ∈ ps, sp' p.block = true) → DataW.TrodAll enc P W' base sp' true ts vs ds ps
  | [], [], [], _, _, h, _, _ => h
  | t :: ts, v :: vs, d :: ds, _, hT, ⟨p, q, ⟨n, h1⟩, h2, e⟩, hm, hs => ⟨p, q,
      ⟨n, DataW.trod_stays (kids_list hl) (sized_list hl) (fun h => by cases h) (hT t (by simp)) h1 (fun x hx => hm x (by rw [e]; exact List.mem_append_left _ hx)) (fun x hx => hs x (by rw [e]; exact List.mem_append_left _ hx))⟩,
      TrodAll_stays hl (fun t ht => hT t (by simp [ht])) h2 (fun x hx => hm x (by rw [e]; exact List.mem_append_right _ hx)) (fun x hx => hs x (by rw [e]; exact List.mem_append_right _ hx)), e⟩
end

/-! ### what is asked of all functions -/
def okFn (fn : Func) : Bool := match fn.body with
  | some c => fn.name != "runtime.NumGoroutine" && drawsOk fn.ntmps c
  | none => true
theorem okF_of {P : Program} (h : P.funcs.toList.all okFn = true) (f : FuncId) : okF P f = true := by
  unfold okF
  split
  · rename_i fn hf
    have := List.all_eq_true.1 h fn (List.mem_of_getElem? (by simpa using hf))
    exact this
  · rfl

noncomputable def fastTrue (P : Program) (K : Keep) (lf n : Nat) (f : FuncId) (args : List HV) : Bool :=
  R1.rec (motive := fun _ => Bool) false (fun v _ => VB.rec (motive := fun _ => Bool) false true false (asB v)) (fcall P K lf n f args XS.none)
theorem hcalls_true {P : Program} (hok : ∀ f, okF P f = true) (hm : P.follows .mixedOrders = true) {K : Keep} {lf n : Nat} {f : FuncId} {args : List HV} (h : fastTrue P K lf n f args = true) :
    HCalls P f args XS.none.hh fun v _ => v = .bool true := by
  unfold fastTrue at h
  cases hr : fcall P K lf n f args XS.none with
  | no => rw [hr] at h; cases h
  | ok v s =>
    rw [hr] at h
    cases hv : asB v with
    | no => simp only [hv] at h; cases h
    | ff => simp only [hv] at h; cases h
    | tt => exact (hcalls_of_fast hok hm hr).mono fun u h' e => e.1.trans (asB_tt hv)

theorem all_range {p : Nat → Bool} {N a b : Nat} (h : N = a + b) (h1 : (List.range a).all p = true) (h2 : (List.range b).all (fun t => p (a + t)) = true) : (List.range N).all p = true := by
  rw [List.all_eq_true] at h1 h2 ⊢
  intro t ht
  rw [List.mem_range] at ht
  by_cases hta : t < a
  · exact h1 t (List.mem_range.2 hta)
  · have := h2 (t - a) (List.mem_range.2 (by omega))
    rw [show a + (t - a) = t from by omega] at this
    exact this
end Go.H
