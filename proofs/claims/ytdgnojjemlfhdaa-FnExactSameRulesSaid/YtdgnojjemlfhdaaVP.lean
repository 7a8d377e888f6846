/- The seat's program, and short words for the printed conditions. -/
import Derived.Test.YtdgnojjemlfhdaaProg
import Derived.Test.YtdgnojjemlfhdaaV6
namespace Go.Proofs.Ytdgnojjemlfhdaa.V
open Go Go.RowKit
noncomputable abbrev P0 : Program := Try.prog
def D (n : Nat) : List OpP := List.replicate n .d
def R (n : Nat) (l : Lf) : List Lf := List.replicate n l
def Sl.v (s : Sl) : Value := .slice s.a s.n s.c
def iAnd (k : IntKind) (x y : Int) : Int := k.wrap ((BitVec.ofInt k.bits x &&& BitVec.ofInt k.bits y).toNat : Int)
def iOr (k : IntKind) (x y : Int) : Int := k.wrap ((BitVec.ofInt k.bits x ||| BitVec.ofInt k.bits y).toNat : Int)
def iXor (k : IntKind) (x y : Int) : Int := k.wrap ((BitVec.ofInt k.bits x ^^^ BitVec.ofInt k.bits y).toNat : Int)
def iAndNot (k : IntKind) (x y : Int) : Int := k.wrap ((BitVec.ofInt k.bits x &&& ~~~(BitVec.ofInt k.bits y)).toNat : Int)
end Go.Proofs.Ytdgnojjemlfhdaa.V
