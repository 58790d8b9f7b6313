/- math/bits.Div64: the quotient and the rest of two words through one; no condition but that the quotient fits. -/
import Derived.Test.YtpblfheeeifjcaaDoorShelf
import Derived.Test.YtpblfheeeifjcaaDoorRows
import Derived.Test.YtpblfheeeifjcaaDoorDivMath
import Derived.WalkKit
import Derived.WalkSpells
import Derived.WalkSmall
import Derived.WalkLawsBesides
import Derived.BigQuiet
import Derived.Deep.RegionHeld3
import Derived.Deep.DeepCutAuto
import Derived.Deep.CutBlock
import Derived.Lib.Hide
set_option linter.all false
namespace Go.Proofs.YtpblfheeeifjcaaDoor
open Go.RowKit
set_option maxRecDepth 100000


theorem wrap_u64 (n : Int) : IntKind.u64.wrap n = n % 18446744073709551616 := by simp [IntKind.wrap, IntKind.bits, IntKind.signed]

theorem wrap_three (A B C : Int) (h0 : 0 ≤ A + B - C) (h1 : A + B - C ≤ 18446744073709551615) : IntKind.u64.wrap (IntKind.u64.wrap (IntKind.u64.wrap A + B) - IntKind.u64.wrap C) = A + B - C := by
  simp only [wrap_u64]; omega

theorem wrap_two (A C : Int) (h0 : 0 ≤ A - C) (h1 : A - C ≤ 18446744073709551615) : IntKind.u64.wrap (A - IntKind.u64.wrap C) = A - C := by
  simp only [wrap_u64]; omega

theorem masked (x : Int) (h0 : 0 ≤ x) (h1 : x ≤ 18446744073709551615) : bits BinOp.and IntKind.u64 x 4294967295 = x % 4294967296 := by
  have := bits_mask IntKind.u64 64 (by simp [IntKind.bits]) (fun n h0 h1 => by rw [wrap_u64]; omega) 32 (by omega) x h0 (by omega)
  simpa using this

end Go.Proofs.YtpblfheeeifjcaaDoor
