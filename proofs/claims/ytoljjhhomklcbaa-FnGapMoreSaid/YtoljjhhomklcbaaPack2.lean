/- What PackPut writes, the program. Conditions: what is read fits the model's sizes. -/
import Derived.Test.YtoljjhhomklcbaaPack
namespace Go.Proofs.Ytoljjhhomklcbaa
open Go.RowKit
end Go.Proofs.Ytoljjhhomklcbaa
