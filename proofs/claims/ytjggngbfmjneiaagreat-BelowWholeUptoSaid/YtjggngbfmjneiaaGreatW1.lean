import Derived.Test.YtjggngbfmjneiaaGreatPB
import Derived.Test.YtjggngbfmjneiaaGreatTab
set_option linter.unusedVariables false
set_option linter.unusedSimpArgs false
namespace Go.Ab
open Go.Proofs

end Go.Ab
