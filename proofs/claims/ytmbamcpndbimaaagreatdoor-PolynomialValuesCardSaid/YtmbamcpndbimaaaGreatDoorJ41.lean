/- Gauss's lemma: a product of primitive polynomials is primitive. -/
import Derived.Test.YtmbamcpndbimaaaGreatDoorJ22
namespace Go.Proofs.YtmbamcpndbimaaaGreatDoor
end Go.Proofs.YtmbamcpndbimaaaGreatDoor
