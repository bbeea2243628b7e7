/- Am: whole functions. -/
import Derived.Test.YtefbdhbfhgapeaaDoorAmComp
namespace Go.Am
section
variable (P : Program) (gl : Nat → Option (List V))

/-- A region: where Go leaves its order open, as far as that is seen to make no difference. -/
def regionOf (quiet : FuncId → Nat) (ops : List Oper) (draw : Bool) (l : List AOper) : ACode :=
  if !draw then .region l
  else if okDraw quiet ops l (List.range ops.length) then .region l
  else
    let pi := readsFirst ops l ops.length []
    if okDraw quiet ops l pi then .region (takeOrder l pi)
    else if okDraw quiet ops (l.map (AOper.keep (targets l))) pi then .region (takeOrder (l.map (AOper.keep (targets l))) pi)
    else if okDraw quiet ops (l.map AOper.frz) (List.range ops.length) then .region (l.map AOper.frz)
    else .fail

/-- .. of a function that looks at no memory but what is never written again. -/
def regionZ (quiet : FuncId → Nat) (ops : List Oper) (draw : Bool) (l : List AOper) : ACode :=
  if !draw then .region (l.map AOper.frz)
  else if okDraw quiet ops (l.map AOper.frz) (List.range ops.length) then .region (l.map AOper.frz)
  else .fail

def comp (quiet : FuncId → Nat) (frz : Bool) (nt : Nat) : Code → Option ACode
  | .skip => some .skip
  | .ret => some .ret
  | .exit id => some (.exit id)
  | .seq a b => (comp quiet frz nt a).bind fun a => (comp quiet frz nt b).map fun b => .seq a b
  | .cond c a b => (opd gl c).bind fun c => (comp quiet frz nt a).bind fun a => (comp quiet frz nt b).map fun b => .cond c a b
  | .block id c => (comp quiet frz nt c).map (.block id)
  | .loop c => (comp quiet frz nt c).map .loop
  | .region _ ops draw => (compOps P gl nt ops.toList ops.toList).bind fun l => some (if frz then regionZ quiet ops.toList draw l else regionOf quiet ops.toList draw l)
  | _ => some .fail

def compRes (nt : Nat) : List ResultVar → Option (List ARes)
  | [] => some []
  | .tmp t :: r => if t < nt then (compRes nt r).map (.tmp t :: ·) else none
  | .cell a t :: r => (shapeO P t).bind fun n => if a < nt then (compRes nt r).map (.cell a n :: ·) else none

def compFunc (quiet : FuncId → Nat) (pure frz : Bool) (bz br : List Nat) (f : Func) : Option AFunc :=
  f.body.bind fun b => (comp P gl quiet frz f.ntmps b).bind fun c => (compRes P f.ntmps f.results.toList).map fun rs =>
    { nparams := f.params.size + f.nfree, ntmps := f.ntmps, pure, frz, bz, br, results := rs, body := c }
end
end Go.Am
