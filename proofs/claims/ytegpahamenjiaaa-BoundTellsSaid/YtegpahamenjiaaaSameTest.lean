import Derived.Test.YtegpahamenjiaaaAids
namespace Go.Proofs.Ytegpahamenjiaaa
end Go.Proofs.Ytegpahamenjiaaa
