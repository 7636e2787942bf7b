/- What lives from region to region, computed. -/
import Derived.Test.YtclolaieehmgmaaGreatHRun4
set_option linter.unusedVariables false
set_option linter.unusedSimpArgs false
namespace Go.H

def keepW (ops : Array Oper) : List Oper → List Nat → List Nat → List Nat × List Nat
  | [], w, k => (w, k)
  | o :: l, w, k =>
    let k' := (o.looksAt ops).foldl (fun k t => if w.contains t || k.contains t then k else t :: k) k
    keepW ops l (match o.dst with | some d => d :: w | none => w) k'
def keepC : Code → List Nat
  | .region _ ops _ => (keepW ops ops.toList [] []).2
  | .seq a b => keepC a ++ keepC b
  | .cond x a b => (match x with | .tmp t => [t] | _ => []) ++ keepC a ++ keepC b
  | .block _ c | .scope c | .loop c => keepC c
  | _ => []
def keepF (f : Func) : List Nat :=
  match f.body with
  | some c => (keepC c ++ f.results.toList.map (fun r => match r with | ResultVar.tmp t => t | ResultVar.cell a _ => a)).eraseDups
  | none => []
def keepP (P : Program) (f : FuncId) : List Nat := match P.funcs[f]? with | some fn => keepF fn | none => []

/-- a run that hands back true -/
def runsTrue (P : Program) (lf n : Nat) (f : FuncId) (args : List HV) : Bool :=
  match xcall P (keepP P) lf n f args ⟨.nil, 0⟩ with
  | some (.bool b, _) => b
  | _ => false
end Go.H
