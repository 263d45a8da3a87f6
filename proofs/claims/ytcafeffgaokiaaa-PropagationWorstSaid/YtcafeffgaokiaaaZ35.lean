/- grooveref01: Add, Mul at any numbers. -/
import Derived.Test.YtcafeffgaokiaaaZ28
import Derived.Test.YtcafeffgaokiaaaZ34
namespace Go.Proofs.Ytcafeffgaokiaaa
open Go.RowKit Go.Shelf
theorem BoxAt.drz {w : World} {g : Nat} {a b : Value} (h : BoxAt w g a b) : BoxAt w.drew g a b := h
end Go.Proofs.Ytcafeffgaokiaaa
