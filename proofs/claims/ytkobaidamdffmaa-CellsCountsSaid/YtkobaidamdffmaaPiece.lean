/- A piece of a function's code, by a block's or a region's number. -/
import Derived.Test.YtkobaidamdffmaaLib
import Derived.Deep.CutBlock
namespace Go.Proofs.Ytkobaidamdffmaa
open Go.RowKit
set_option linter.unusedVariables false

def findBlk (n : Nat) : Code → Option Code
  | .block m c => if m = n then some (.block m c) else findBlk n c
  | .loop c => findBlk n c
  | .scope c => findBlk n c
  | .seq a b => match findBlk n a with
    | some c => some c
    | none => findBlk n b
  | .cond _ a b => match findBlk n a with
    | some c => some c
    | none => findBlk n b
  | _ => none
def findReg (n : Nat) : Code → Option Code
  | .region m o d => if m = n then some (.region m o d) else none
  | .block _ c => findReg n c
  | .loop c => findReg n c
  | .scope c => findReg n c
  | .seq a b => match findReg n a with
    | some c => some c
    | none => findReg n b
  | .cond _ a b => match findReg n a with
    | some c => some c
    | none => findReg n b
  | _ => none
/-- the sequence that begins with region n -/
def findSeq (n : Nat) : Code → Option Code
  | .seq (.region m o d) b => if m = n then some (.seq (.region m o d) b) else findSeq n b
  | .seq a b => match findSeq n a with
    | some c => some c
    | none => findSeq n b
  | .block _ c => findSeq n c
  | .loop c => findSeq n c
  | .scope c => findSeq n c
  | .cond _ a b => match findSeq n a with
    | some c => some c
    | none => findSeq n b
  | _ => none

end Go.Proofs.Ytkobaidamdffmaa
