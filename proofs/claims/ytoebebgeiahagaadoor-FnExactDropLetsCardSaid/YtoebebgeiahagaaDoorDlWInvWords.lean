-- Out of a text that print.sh wrote, trimmed: print.sh 35421559b90ae4d0a3588c463048766b98c2df88dd9212a6774a882060cdf62d: not written by this session
import Derived.Test.YtoebebgeiahagaaDoorDlWInv
import Derived.Test.YtoebebgeiahagaaDoorDlWFootNe
namespace Go.Proofs.YtoebebgeiahagaaDoorW.PrintWords
open Go.RowKit
end Go.Proofs.YtoebebgeiahagaaDoorW.PrintWords
namespace Go.Proofs.YtoebebgeiahagaaDoorW.PrintLast
section
variable {ops : Array Oper} {a : Act} {o og : Oper} {g : Nat} {t : Tmp} {u : Bool}
end
end Go.Proofs.YtoebebgeiahagaaDoorW.PrintLast
