/- Numbers of 64 bits. No condition. -/
import Derived.Test.YtfckciblnojniaaDoorKit
import Derived.Laws.StructEq
import Derived.Laws.Externs
import Derived.Laws.BitsAllLaws
import Derived.WalkLawsBesides
import Derived.Outline
import Derived.Handy
namespace Go.Proofs.YtfckciblnojniaaDoor.Num
def In64 (a : Int) : Prop := -9223372036854775808 ≤ a ∧ a ≤ 9223372036854775807
end Go.Proofs.YtfckciblnojniaaDoor.Num
