import Derived.Test.YtfjempfffdeklaaDoorLib
namespace Go
/-- The first loop's body. -/
def Code.fstLoop : Code → Option Code
  | .loop c => some c
  | .seq a b => match a.fstLoop with
    | some c => some c
    | none => b.fstLoop
  | .block _ c => c.fstLoop
  | .scope c => c.fstLoop
  | .cond _ a b => match a.fstLoop with
    | some c => some c
    | none => b.fstLoop
  | _ => none
/-- Statement k of a sequence. -/
def Code.stm : Code → Nat → Code
  | .seq a _, 0 => a
  | .seq _ b, k + 1 => b.stm k
  | c, _ => c
/-- A sequence from statement k on. -/
def Code.from' : Code → Nat → Code
  | c, 0 => c
  | .seq _ b, k + 1 => b.from' k
  | c, _ => c
/-- What a block holds. -/
def Code.held : Code → Code
  | .block _ c => c
  | .scope c => c
  | c => c
/-- The arm of a test. -/
def Code.arm : Code → Bool → Code
  | .cond _ a _, true => a
  | .cond _ _ b, false => b
  | c, _ => c
noncomputable def Func.loopBody (f : Func) : Code := (f.body.bind Code.fstLoop).getD .skip
end Go
