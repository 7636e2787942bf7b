/- A region that draws its order: what can be read is read as early as it can be; what acts goes in one order; nothing that is still to be read is written. -/
import Derived.Test.YtclolaieehmgmaaGreatHDraw0
set_option linter.unusedVariables false
set_option linter.unusedSimpArgs false
namespace Go.H

/-- what reads the heap and changes nothing -/
inductive HRead where
  | load (t : TypeId) (p : HV)
  | mlen (t : TypeId) (m : HV)
  | look (t : TypeId) (m k : HV) (ok : Bool)
def HRead.ok (P : Program) (h : HH) : HRead → HV → Prop
  | .load t p, v => match hcells h p with | some q => hloadOk P t q.1 q.2 ∧ hload P t q.1 q.2 = v | none => False
  | .mlen t m, v => hlen P t m h fun u => u = v
  | .look t m k ok, v => hlookup P t m k ok h fun u => u = v

def HV.isMap : HV → Bool
  | .map _ => true
  | _ => false

def opRead (ρ : Operand → HV) : Op → Option HRead
  | .load t a => some (.load t (ρ a))
  | .lookup t m k ok => some (.look t (ρ m) (ρ k) ok)
  | .call c => match c.callee, c.argTypes.toList, c.args.toList.map ρ with
    | .builtin .len, [t], [v] => if v.isMap then some (.mlen t v) else none
    | _, _, _ => none
  | _ => none

theorem hlookup_det {P : Program} {t : TypeId} {m k : HV} {ok : Bool} {h : HH} {K : HV → Prop} (q : hlookup P t m k ok h K) : ∃ v, K v ∧ hlookup P t m k ok h fun u => u = v := by
  unfold hlookup at q ⊢
  obtain ⟨q1, q2, q3⟩ := q
  split at q3
  · obtain ⟨q3, q4⟩ := q3
    split at q4
    · obtain ⟨q5, q4⟩ := q4
      split at q4
      · exact ⟨_, q4, q1, q2, q3, q5, rfl⟩
      · exact ⟨_, q4, q1, q2, q3, q5, rfl⟩
    · exact q4.elim
  · exact q3.elim
theorem hlen_det {P : Program} {t : TypeId} {v : HV} {h : HH} {K : HV → Prop} (q : hlen P t v h K) : ∃ u, K u ∧ hlen P t v h fun w => w = u := by
  unfold hlen at q ⊢
  split at q
  · exact ⟨_, q.2, q.1, rfl⟩
  · exact ⟨_, q.2, q.1, rfl⟩
  · exact ⟨_, q.2, q.1, rfl⟩
  · exact ⟨_, q.2, q.1, rfl⟩
  · obtain ⟨q1, q2⟩ := q
    split at q2
    · exact ⟨_, q2, q1, rfl⟩
    · exact q2.elim
  · exact q.elim

theorem read_hop {P : Program} {op : Op} {ρ : Operand → HV} {h : HH} {q : HRead} {v : HV} (hq : opRead ρ op = some q) (ho : q.ok P h v) : hop P op ρ h fun u k => u = v ∧ k = h := by
  unfold opRead at hq
  split at hq
  · cases hq
    simp only [hop, isPure, Bool.false_eq_true, if_false, hmem]
    simp only [HRead.ok] at ho
    split at ho
    · rename_i q hq; rw [hq]; exact ⟨ho.1, ho.2, trivial⟩
    · exact ho.elim
  · cases hq
    simp only [hop, isPure, Bool.false_eq_true, if_false, hmem]
    simp only [HRead.ok] at ho
    unfold hlookup at ho ⊢
    obtain ⟨q1, q2, q3⟩ := ho
    refine ⟨q1, q2, ?_⟩
    split at q3
    · obtain ⟨q3, q4⟩ := q3
      refine ⟨q3, ?_⟩
      split at q4
      · obtain ⟨q5, q4⟩ := q4
        refine ⟨q5, ?_⟩
        split at q4
        · exact ⟨q4, trivial⟩
        · exact ⟨q4, trivial⟩
      · exact q4.elim
    · exact q3.elim
  · split at hq
    · rename_i e1 e2 e3
      split at hq
      · cases hq
        simp only [hop, isPure, Bool.false_eq_true, if_false, hmem, e1]
        simp only [HRead.ok] at ho
        unfold hbuiltin
        simp only [e2, e3]
        unfold hlen at ho ⊢
        split at ho
        · exact ⟨ho.1, ho.2, trivial⟩
        · exact ⟨ho.1, ho.2, trivial⟩
        · exact ⟨ho.1, ho.2, trivial⟩
        · exact ⟨ho.1, ho.2, trivial⟩
        · obtain ⟨h1, h2⟩ := ho
          refine ⟨h1, ?_⟩
          split at h2
          · exact ⟨h2, trivial⟩
          · exact h2.elim
        · exact ho.elim
      · cases hq
    · cases hq
  · cases hq

theorem opRead_congr {op : Op} {ρ ρ' : Operand → HV} (he : ∀ x ∈ op.operands.toList, ρ x = ρ' x) : opRead ρ op = opRead ρ' op := by
  cases op with
  | load t a => simp only [opRead, he a (by simp [Op.operands])]
  | lookup t m k ok => simp only [opRead, he m (by simp [Op.operands]), he k (by simp [Op.operands])]
  | call c =>
    obtain ⟨callee, args, ts⟩ := c
    have ha : args.toList.map ρ = args.toList.map ρ' := List.map_congr_left fun x hx => he x (by simp only [Op.operands, Call.operands, Array.toList_append]; exact List.mem_append.2 (.inr hx))
    simp only [opRead, ha]
  | _ => rfl

inductive Pr where
  | rd (i : Nat) (q : HRead) (v : HV)
  | obj (i : Nat) (x : Nat) (ob : HObj)
def Pr.idx : Pr → Nat
  | .rd i .. => i
  | .obj i .. => i
def Pr.ok (P : Program) (h : HH) : Pr → Prop
  | .rd _ q v => q.ok P h v
  | .obj _ x ob => h x = some ob

def dep (o : Oper) : List Nat := (o.after.toList.filter (Region.binds .any)).map (·.on)

def eff : Op → Bool
  | .assign _ => true
  | .build .. | .buildSlice .. | .load .. | .alloc _ | .box .. | .convert .. | .slice .. | .makeSlice .. | .makeMap _ none | .lookup .. => false
  | .call c => match c.callee with
    | .builtin b => match b with | .len | .max | .min => false | _ => true
    | _ => true
  | op => !isPure op

/-- bytes that are read alone, as a string -/
def hconv0 (P : Program) (s d : TypeId) (v : HV) (K : HV → Prop) : Prop :=
  match v with
  | .sl _ ys => bytesT P s = true ∧ P.underlying d = some .string ∧ ys.all isByte = true ∧ K (.str (ys.map hbyte))
  | _ => False

def hbi (P : Program) (b : Builtin) (ts : Array TypeId) (args : List HV) (h : HH) (K : HV → Prop) : Prop :=
  match b, ts.toList, args with
  | .len, [t], [v] => v.isMap = false ∧ hlen P t v h K
  | .max, _, [.int k x, .int _ y] => K (.int k (if y > x then y else x))
  | .min, _, [.int k x, .int _ y] => K (.int k (if y < x then y else x))
  | _, _, _ => False

def hne (P : Program) (i : Nat) (op : Op) (ρ : Operand → HV) (h : HH) (K : HV → HH → List Pr → Prop) : Prop :=
  match op with
  | .load t a => match hcells h (ρ a) with
    | some q => hloadOk P t q.1 q.2 ∧ K (hload P t q.1 q.2) h [.rd i (.load t (ρ a)) (hload P t q.1 q.2)]
    | none => False
  | .lookup t m k ok => hlookup P t (ρ m) (ρ k) ok h fun v => K v h [.rd i (.look t (ρ m) (ρ k) ok) v]
  | .alloc e => zok0 P e = true ∧ (h h.nx = none → K (.ptr h.nx 0) (h.push (.cells (zcells P e))) [.obj i h.nx (.cells (zcells P e))])
  | .box e v => (ρ v).val = true ∧ (h h.nx = none → K (.ptr h.nx 0) (h.push (.cells (ρ v).cells)) [.obj i h.nx (.cells (ρ v).cells)])
  | .build t parts => buildOk P t = true ∧ hfill (bplace P t) ρ parts.toList (zcells P t) fun cs => K (.agg cs) h []
  | .buildSlice t len parts => sliceElem P t = true ∧ zok P (P.elem t) = true ∧ parts.toList.map (·.1) = List.range len ∧ len * P.cellsOf (P.elem t) ≤ 16777216 ∧
      (∀ v ∈ parts.toList.map (fun p => ρ p.2), v.val = true ∧ v.cells.length = P.cellsOf (P.elem t)) ∧ K (.sl true (parts.toList.map fun p => ρ p.2)) h []
  | .call c => match c.callee with
    | .builtin b => match opRead ρ (.call c) with
      | some (.mlen t v) => hlen P t v h fun u => K u h [.rd i (.mlen t v) u]
      | _ => hbi P b c.argTypes (c.args.toList.map ρ) h fun v => K v h []
    | _ => False
  | .convert s d x => if hconvs P d (ρ x) = true then hconv0 P s d (ρ x) fun v => K v h [] else hpure P (.convert s d x) ρ fun v => K v h []
  | .slice t x lo hi mx => hslices (ρ x) mx.isNone = false ∧ hpure P (.slice t x lo hi mx) ρ fun v => K v h []
  | .makeSlice t l c => match ρ l, ρ c with
    | .int _ n, .int _ m => sliceElem P t = true ∧ zok P (P.elem t) = true ∧ 0 ≤ n ∧ n ≤ m ∧ m ≤ maxLen ∧ m.toNat * P.bytesOf (P.elem t) ≤ 140737488355328 ∧
        (h h.nx = none → K (.msl h.nx n.toNat (P.cellsOf (P.elem t))) (h.push (.row false (P.elem t) (List.replicate n.toNat (zelem P (P.elem t))))) [.obj i h.nx (.row false (P.elem t) (List.replicate n.toNat (zelem P (P.elem t))))])
    | _, _ => False
  | .makeMap _ none => h h.nx = none → K (.map h.nx) (h.push (.map 0 [])) [.obj i h.nx (.map 0 [])]
  | op => hpure P op ρ fun v => K v h []

/-- what a new object is made of -/
inductive AC (P : Program) (op : Op) (ρ : Operand → HV) : HObj → (Nat → HV) → Prop
  | alloc (e : TypeId) (ho : op = .alloc e) (h : zok0 P e = true) : AC P op ρ (.cells (zcells P e)) (fun x => .ptr x 0)
  | box (e : TypeId) (y : Operand) (ho : op = .box e y) (h : (ρ y).val = true) : AC P op ρ (.cells (ρ y).cells) (fun x => .ptr x 0)
  | make (t : TypeId) (l c : Operand) (k k' : IntKind) (n m : Int) (ho : op = .makeSlice t l c) (h1 : ρ l = .int k n) (h2 : ρ c = .int k' m)
      (h3 : sliceElem P t = true) (h4 : zok P (P.elem t) = true) (h0 : 0 ≤ n) (h5 : n ≤ m) (h6 : m ≤ maxLen) (h7 : m.toNat * P.bytesOf (P.elem t) ≤ 140737488355328) :
      AC P op ρ (.row false (P.elem t) (List.replicate n.toNat (zelem P (P.elem t)))) (fun x => .msl x n.toNat (P.cellsOf (P.elem t)))
  | mkmap (t : TypeId) (ho : op = .makeMap t none) : AC P op ρ (.map 0 []) (fun x => .map x)

theorem hbi_det {P : Program} {b : Builtin} {ts : Array TypeId} {args : List HV} {h : HH} {K : HV → Prop} (hk : hbi P b ts args h K) : ∃ v, K v ∧ ∀ h', hbuiltin P b ts args h' fun u k => u = v ∧ k = h' := by
  unfold hbi at hk
  split at hk
  · rename_i t v e1
    obtain ⟨hm, hk⟩ := hk
    unfold hlen at hk
    split at hk
    · exact ⟨_, hk.2, fun h' => by simp [hbuiltin, e1, hlen, hk.1]⟩
    · exact ⟨_, hk.2, fun h' => by simp [hbuiltin, e1, hlen, hk.1]⟩
    · exact ⟨_, hk.2, fun h' => by simp [hbuiltin, e1, hlen, hk.1]⟩
    · exact ⟨_, hk.2, fun h' => by simp [hbuiltin, e1, hlen, hk.1]⟩
    · cases hm
    · exact hk.elim
  · exact ⟨_, hk, fun h' => by simp [hbuiltin]⟩
  · exact ⟨_, hk, fun h' => by simp [hbuiltin]⟩
  · exact hk.elim

theorem hne_cases {P : Program} {i : Nat} {op : Op} {ρ : Operand → HV} {h : HH} {K : HV → HH → List Pr → Prop} (he : eff op = false) (hk : hne P i op ρ h K) :
    (∃ v, K v h [] ∧ ∀ h', hop P op ρ h' fun u k => u = v ∧ k = h') ∨
    (∃ q v, opRead ρ op = some q ∧ q.ok P h v ∧ K v h [.rd i q v]) ∨
    (∃ ob f, AC P op ρ ob f ∧ (h h.nx = none → K (f h.nx) (h.push ob) [.obj i h.nx ob])) := by
  unfold hne at hk
  split at hk
  · split at hk
    · rename_i q hq; exact .inr (.inl ⟨_, _, rfl, by simp only [HRead.ok, hq]; exact ⟨hk.1, trivial⟩, hk.2⟩)
    · exact hk.elim
  · obtain ⟨v, k1, k2⟩ := hlookup_det hk
    exact .inr (.inl ⟨_, v, rfl, k2, k1⟩)
  · exact .inr (.inr ⟨_, _, .alloc _ rfl hk.1, hk.2⟩)
  · exact .inr (.inr ⟨_, _, .box _ _ rfl hk.1, hk.2⟩)
  · obtain ⟨r, k1, k2⟩ := hfill_det _ hk.2
    refine .inl ⟨_, k1, fun h' => ?_⟩
    simp only [hop, isPure, Bool.false_eq_true, if_false, hmem]
    exact ⟨hk.1, hfill_rows.hfill_mono _ _ _ (fun cs e => by rw [e]; simp) k2⟩
  · obtain ⟨k1, k2, k3, k4, k5, k7⟩ := hk
    refine .inl ⟨_, k7, fun h' => ?_⟩
    simp only [hop, isPure, Bool.false_eq_true, if_false, hmem]
    exact ⟨k1, k2, k3, k4, k5, trivial, trivial⟩
  · split at hk
    · rename_i c b hb
      split at hk
      · rename_i t v hr
        obtain ⟨u, k1, k2⟩ := hlen_det hk
        exact .inr (.inl ⟨_, u, hr, k2, k1⟩)
      · obtain ⟨v, k1, k2⟩ := hbi_det hk
        refine .inl ⟨v, k1, fun h' => ?_⟩
        simp only [hop, isPure, Bool.false_eq_true, if_false, hmem, hb]
        exact k2 h'
    · exact hk.elim
  · rename_i s d x
    split at hk
    · rename_i hc
      unfold hconv0 at hk
      split at hk
      · rename_i ys hy
        obtain ⟨k1, k2, k3, k4⟩ := hk
        refine .inl ⟨_, k4, fun h' => ?_⟩
        rw [hy] at hc
        simp only [hop, isPure, Bool.false_eq_true, if_false, hmem, hy, hc, if_true]
        simp [hconv, hsrc, k1, k3]
      · exact hk.elim
    · rename_i hc
      obtain ⟨v, k1, k2⟩ := hpure_det hk
      refine .inl ⟨v, k1, fun h' => ?_⟩
      simp only [hop, isPure, Bool.false_eq_true, if_false, hmem, hc]
      exact k2 _ (by simp)
  · rename_i t x lo hi mx
    obtain ⟨hs, hk⟩ := hk
    obtain ⟨v, k1, k2⟩ := hpure_det hk
    refine .inl ⟨v, k1, fun h' => ?_⟩
    simp only [hop, isPure, Bool.false_eq_true, if_false, hmem, hs]
    exact k2 _ (by simp)
  · split at hk
    · rename_i k n k' m e1 e2
      obtain ⟨h1, h2, h3, h4, h5, h6, h7⟩ := hk
      exact .inr (.inr ⟨_, _, .make _ _ _ _ _ _ _ rfl e1 e2 h1 h2 h3 h4 h5 h6, h7⟩)
    · exact hk.elim
  · exact .inr (.inr ⟨_, _, .mkmap _ rfl, hk⟩)
  · rename_i n1 n0 n2 n3 n4 n5 n6 n7 n8 n9 n10
    obtain ⟨v, k1, k2⟩ := hpure_det hk
    refine .inl ⟨v, k1, fun h' => ?_⟩
    have hp : isPure op = true := by
      cases op <;> first | rfl | (simp [eff, isPure] at he; done) | (exact absurd rfl (n1 _ _)) | (exact absurd rfl (n0 _ _ _ _)) | (exact absurd rfl (n2 _)) | (exact absurd rfl (n3 _ _)) | (exact absurd rfl (n4 _ _)) | (exact absurd rfl (n5 _ _ _)) | (exact absurd rfl (n6 _)) | (exact absurd rfl (n7 _ _ _)) | (exact absurd rfl (n8 _ _ _ _ _)) | (exact absurd rfl (n9 _ _ _)) | (rename_i t r; cases r with
        | none => exact absurd rfl (n10 _)
        | some r => simp [eff, isPure] at he)
    simp only [hop, hp, if_true]
    exact k2 _ (by simp)

def anc (dl : List (List Nat)) : Nat → List Nat → List Nat
  | 0, S => S
  | k + 1, S => anc dl k (if S.contains k then S ++ dl.getD k [] else S)
def ancs (dl : List (List Nat)) (i : Nat) : List Nat := anc dl (i + 1) [i]

def hscan (P : Program) (nt : Nat) (ds : List (Option Tmp)) : List (Nat × Oper) → List Nat → List (Nat × Oper) → Env → HH → List Pr → (List (Nat × Oper) → Env → HH → List Pr → Prop) → Prop
  | [], pend, D, T, h, prs, K => K D.reverse T h prs
  | p :: l, pend, D, T, h, prs, K =>
    if (dep p.2).any pend.contains then hscan P nt ds l (p.1 :: pend) (p :: D) T h prs K
    else match p.2.guard with
      | none => if eff p.2.op then hscan P nt ds l (p.1 :: pend) (p :: D) T h prs K
          else hne P p.1 p.2.op (hev T) h fun v h' pr => hbind nt p.2.dst v T fun T' => hscan P nt ds l pend D T' h' (pr ++ prs) K
      | some q => match gslot ds q.1 with
        | some d => match T.get d with
          | .bool b => (b = q.2 → if eff p.2.op then hscan P nt ds l (p.1 :: pend) (p :: D) ((d, .bool q.2) :: T) h prs K
                else hne P p.1 p.2.op (hev ((d, .bool q.2) :: T)) h fun v h' pr => hbind nt p.2.dst v ((d, .bool q.2) :: T) fun T' => hscan P nt ds l pend D T' h' (pr ++ prs) K) ∧
              (b = !q.2 → hbind nt p.2.dst (.tup []) ((d, .bool !q.2) :: T) fun T' => hscan P nt ds l pend D T' h prs K)
          | .tup [] => hbind nt p.2.dst (.tup []) T fun T' => hscan P nt ds l pend D T' h prs K
          | _ => False
        | none => False

def hround (P : Program) (nt : Nat) (ds : List (Option Tmp)) (dl : List (List Nat)) (Q : Env → HH → Prop) : Nat → List (Nat × Oper) → Env → HH → List Pr → Prop
  | _, [], T, h, prs => Q T h
  | 0, _ :: _, T, h, prs => False
  | n + 1, p :: D, T, h, prs => eff p.2.op = true ∧ (∀ q ∈ D.map (·.1), p.1 ∈ ancs dl q) ∧
      (match p.2.guard with
        | none => True
        | some q => match gslot ds q.1 with
          | some d => T.get d = .bool q.2
          | none => False) ∧
      hop P p.2.op (hev T) h fun v h' => (∀ r ∈ prs, r.idx ∈ ancs dl p.1 ∨ r.ok P h') ∧ hbind nt p.2.dst v T fun T' =>
        hscan P nt ds D [] [] T' h' prs fun D' T'' h'' prs' => hround P nt ds dl Q n D' T'' h'' prs'

def hdraw (P : Program) (nt : Nat) (ops : List Oper) (Q : Env → HH → Prop) (T : Env) (h : HH) : Prop :=
  hscan P nt (ops.map (·.dst)) (ops.zipIdx.map fun x => (x.2, x.1)) [] [] T h [] fun D T' h' prs => hround P nt (ops.map (·.dst)) (ops.map dep) Q ops.length D T' h' prs

end Go.H
