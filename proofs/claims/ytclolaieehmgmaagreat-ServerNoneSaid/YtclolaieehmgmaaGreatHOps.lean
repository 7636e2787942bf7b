/- The operations that only compute, at the layer, and why they say what the model does. -/
import Derived.Test.YtclolaieehmgmaaGreatHAppend
import Derived.WalkSpells
import Derived.WalkLawsBesides
set_option linter.unusedVariables false
set_option linter.unusedSimpArgs false
namespace Go.H

theorem str_toList (s : List UInt8) : (⟨s.toArray⟩ : ByteArray).toList = s := ByteArray.toList_eq _
theorem str_size (s : List UInt8) : (⟨s.toArray⟩ : ByteArray).size = s.length := by simp [ByteArray.size]

def hv1 : Value → HV
  | .bool b => .bool b
  | .int k n => .int k n
  | .string s => .str s.data.toList
  | .pointer none => .nilp
  | .slice none 0 0 => .sl true []
  | .nilFunc => .nilf
  | .nilIface => .nili
  | _ => .any
def hv : Value → HV
  | .agg cs => if cs.all Value.oneCell' then .agg (cs.toList.map hv1) else .any
  | v => hv1 v

theorem VR_hv1 (g : Ghost) (v : Value) : VR g (hv1 v) v := by
  unfold hv1
  split
  · exact .bool _
  · exact .int _ _
  · rename_i s
    have h := VR.str (g := g) s.data.toList
    simpa using h
  · exact .nilp
  · exact .sl true [] none 0 0 0 0 0 rfl (Nat.le_refl _) (fun _ => rfl) (Nat.zero_le _) (fun h => absurd rfl h) (by simp) (by simp) (by simp)
  · exact .nilf
  · exact .nili
  · exact .any _

theorem VR_hv (g : Ghost) (v : Value) : VR g (hv v) v := by
  unfold hv
  split
  · rename_i cs
    split
    · rename_i h1
      refine .agg _ _ (by simp) (fun j u e => Array.all_eq_true'.1 h1 u (Array.mem_of_getElem? e)) fun j u e => ?_
      rw [List.getElem?_map] at e
      cases hc : cs.toList[j]? with
      | none => rw [hc] at e; cases e
      | some c =>
        rw [hc] at e
        cases e
        have : cs.getD j undef = c := by
          have hc' : cs[j]? = some c := by simpa using hc
          simp [Array.getD_eq_getD_getElem?, hc']
        rw [this]; exact VR_hv1 g c
    · exact .any _
  · exact VR_hv1 g _

theorem beq_dec (x y : List UInt8) : (x == y) = decide (x = y) := by rw [Bool.eq_iff_iff]; simp
theorem ibeq_dec (x y : Int) : (x == y) = decide (x = y) := by rw [Bool.eq_iff_iff]; simp

/-! ### operators -/
def hbin (op : BinOp) (a b : HV) (K : HV → Prop) : Prop :=
  match op, a, b with
  | .shl, .int k x, .int _ y => 0 ≤ y ∧ K (.int k (k.wrap (x * 2 ^ (min y.toNat k.bits))))
  | .shr, .int k x, .int _ y => 0 ≤ y ∧ K (.int k (x.fdiv (2 ^ (min y.toNat k.bits))))
  | .add, .int k x, .int k' y => k = k' ∧ K (.int k (k.wrap (x + y)))
  | .sub, .int k x, .int k' y => k = k' ∧ K (.int k (k.wrap (x - y)))
  | .mul, .int k x, .int k' y => k = k' ∧ K (.int k (k.wrap (x * y)))
  | .quo, .int k x, .int k' y => k = k' ∧ y ≠ 0 ∧ K (.int k (k.wrap (x.tdiv y)))
  | .rem, .int k x, .int k' y => k = k' ∧ y ≠ 0 ∧ K (.int k (x.tmod y))
  | .and, .int k x, .int k' y => k = k' ∧ K (.int k (k.wrap (BitVec.ofInt k.bits x &&& BitVec.ofInt k.bits y).toNat))
  | .or, .int k x, .int k' y => k = k' ∧ K (.int k (k.wrap (BitVec.ofInt k.bits x ||| BitVec.ofInt k.bits y).toNat))
  | .xor, .int k x, .int k' y => k = k' ∧ K (.int k (k.wrap (BitVec.ofInt k.bits x ^^^ BitVec.ofInt k.bits y).toNat))
  | .eql, .int k x, .int k' y => k = k' ∧ K (.bool (decide (x = y)))
  | .neq, .int k x, .int k' y => k = k' ∧ K (.bool (decide (x ≠ y)))
  | .lss, .int k x, .int k' y => k = k' ∧ K (.bool (decide (x < y)))
  | .leq, .int k x, .int k' y => k = k' ∧ K (.bool (decide (x ≤ y)))
  | .gtr, .int k x, .int k' y => k = k' ∧ K (.bool (decide (x > y)))
  | .geq, .int k x, .int k' y => k = k' ∧ K (.bool (decide (x ≥ y)))
  | .add, .str x, .str y => x.length + y.length ≤ 9223372036854775807 ∧ K (.str (x ++ y))
  | .eql, .str x, .str y => K (.bool (decide (x = y)))
  | .neq, .str x, .str y => K (.bool (decide (x ≠ y)))
  | .lss, .str x, .str y => K (.bool (Op.bytesLess x y))
  | .leq, .str x, .str y => K (.bool (Op.bytesLess x y || decide (x = y)))
  | .gtr, .str x, .str y => K (.bool !(Op.bytesLess x y || decide (x = y)))
  | .geq, .str x, .str y => K (.bool !(Op.bytesLess x y))
  | _, _, _ => False

theorem hbin_sound {P : Program} {g : Ghost} {w : World} {op : BinOp} {t : TypeId} {a b : HV} {ca cb : Value} {K : HV → Prop} (ha : VR g a ca) (hb : VR g b cb) (h : hbin op a b K) :
    ∃ v cv, K v ∧ VR g v cv ∧ (binOp op t ca cb).run P w = .ok cv w := by
  unfold hbin at h
  split at h
  all_goals first
    | exact h.elim
    | (cases ha; cases hb
       first
        | (obtain ⟨rfl, h1, h2⟩ := h
           exact ⟨_, _, h2, .int _ _, by simp [binOp, Op.intDiv, h1]⟩)
        | (obtain ⟨rfl, h2⟩ := h
           exact ⟨_, _, h2, .int _ _, by simp [binOp, Op.intArith, Op.intBits]⟩)
        | (obtain ⟨rfl, h2⟩ := h
           exact ⟨_, _, h2, .bool _, by simp [binOp, Op.intCmp, bne, ibeq_dec]⟩)
        | (obtain ⟨h1, h2⟩ := h
           exact ⟨_, _, h2, .int _ _, by simp [binOp, Op.shift, Int.not_lt.2 h1]⟩)
        | (obtain ⟨h1, h2⟩ := h
           refine ⟨_, _, h2, .str _, ?_⟩
           simp only [binOp, Op.stringOp, str_size]
           rw [if_neg (by simp [IntKind.max, IntKind.signed, IntKind.bits]; omega), ByteArray.mk_append_mk]; rfl)
        | exact ⟨_, _, h, .bool _, by simp [binOp, Op.stringOp, str_toList, beq_dec]⟩)

end Go.H
