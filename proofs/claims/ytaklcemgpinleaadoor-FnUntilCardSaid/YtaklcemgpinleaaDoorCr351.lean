/- Decimal numerals: the program's. -/
import Derived.Test.YtaklcemgpinleaaDoorCr27
import Derived.Test.YtaklcemgpinleaaDoorCr35
namespace Go.Proofs.YtaklcemgpinleaaDoor
open Go
set_option linter.unusedSimpArgs false
set_option linter.unusedVariables false
set_option linter.unnecessarySimpa false
set_option linter.unusedSectionVars false
set_option maxRecDepth 100000
theorem i_decimal (n : Int) (h0 : -9223372036854775808 ≤ n) (h1 : n ≤ 9223372036854775807) : A 21 [I n] (S (decS n)) [.undef] := by
  refine ac [] [] (fn := Tryd.f21) rfl (by kernel_rfl) [0, 2] ?_
  conv => whnf
  refine call (g_FormatInt n h0 h1) ?_
  conv => whnf
  refine isR rfl rfl
end Go.Proofs.YtaklcemgpinleaaDoor
