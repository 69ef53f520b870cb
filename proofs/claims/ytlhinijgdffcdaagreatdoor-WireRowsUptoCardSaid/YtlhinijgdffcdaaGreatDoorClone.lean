/- A copy of a slice: what 'slices.Clone' leaves. -/
import Derived.Test.YtlhinijgdffcdaaGreatDoorKnot
import Derived.Laws.AppendOwn
import Derived.Below
namespace Go.Ab
open Go Go.RowKit
set_option linter.unusedVariables false
set_option linter.unusedSimpArgs false
section
variable {R : Type} {P : Program} {gl : Nat → Option S} {raw : FuncId → Bool} {f : FuncId}
end
end Go.Ab
