import Derived.Test.YtjggngbfmjneiaaGreatW8
import Derived.Test.YtjggngbfmjneiaaGreatPF
set_option linter.unusedVariables false
set_option linter.unusedSimpArgs false
set_option maxRecDepth 4000
namespace Go.Ab
open Go.Proofs

end Go.Ab
