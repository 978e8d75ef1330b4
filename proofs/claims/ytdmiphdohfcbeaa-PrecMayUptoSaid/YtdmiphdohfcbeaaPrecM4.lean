/- What prec.Make returns. Conditions: at most 100 clauses; lengths and sizes fit. -/
import Derived.Test.YtdmiphdohfcbeaaPrecM3
import Derived.Test.YtdmiphdohfcbeaaPrecW1
namespace Go.Proofs.Ytdmiphdohfcbeaa
open Go.ChangeShapes Go.WideShapes Go.ChangeAt Go.RowKit

theorem make_says : MakeSays := fun l hl cs hcl hcs y _ w a ca n cn hln hn63 hsy hc =>
  if hm : makeErr l cs y = 0 then make_ok l hl cs hcl hcs y w a ca n cn hln hn63 hsy hc hm else make_bad l hl cs hcl hcs y w a ca n cn hln hn63 hsy hc hm
end Go.Proofs.Ytdmiphdohfcbeaa
