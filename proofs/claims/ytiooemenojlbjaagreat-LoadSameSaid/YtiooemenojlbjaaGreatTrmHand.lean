import Derived.Test.YtiooemenojlbjaaGreatTrmPat
import Derived.WalkKit
import Derived.WalkSpells
import Derived.WalkLawsBesides
import Derived.Deep.Upon
set_option linter.unusedVariables false
set_option linter.unusedSimpArgs false
namespace Go.Trm
end Go.Trm
