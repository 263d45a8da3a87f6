/- The walks of integer.length, Bits. -/
import Derived.Test.YtlaoijfphkhchaaIntB
import Derived.Test.YtlaoijfphkhchaaShelfA
namespace Go.Proofs.Ytlaoijfphkhchaa
open Go.RowKit

/-- The bits of a natural number. -/
def bitsN (v : Nat) : Nat := if (digs v).length = 0 then 0 else 32 * ((digs v).length - 1) + Lib.bitLen ((digs v).getD ((digs v).length - 1) 0)
end Go.Proofs.Ytlaoijfphkhchaa
