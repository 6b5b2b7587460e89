/- The numbers of the package-level variables, printed by gen.py of this session. No condition. -/
import Derived.Test.YtlkaipmhjgfkpaaDoorF
namespace Go.Proofs.YtlkaipmhjgfkpaaDoorF
abbrev V_errors_errorType : Nat := 0
abbrev V_internal_strconv_uint64pow10 : Nat := 1
abbrev V_math_bits_deBruijn32tab : Nat := 2
abbrev V_math_bits_deBruijn64tab : Nat := 3
end Go.Proofs.YtlkaipmhjgfkpaaDoorF
