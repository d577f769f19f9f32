/- arch: Copy; the law's all: walk. -/
import Derived.Test.YtkdagljoiacaaaaArG0
import Derived.Test.YtkdagljoiacaaaaArRb
set_option linter.unusedSimpArgs false
set_option linter.unusedVariables false
namespace Go.Proofs.Ytkdagljoiacaaaa
open Go.RowKit Go.Shelf
attribute [local go_sem] Oper.semAt_some
theorem enters_all1 (args : Array Value) (w : World) : (callFunc 28 args).run Try.prog w = .ok (.enter 28 args) w := enters_of Try.func28 (by kernel_rfl) rfl args w
end Go.Proofs.Ytkdagljoiacaaaa
