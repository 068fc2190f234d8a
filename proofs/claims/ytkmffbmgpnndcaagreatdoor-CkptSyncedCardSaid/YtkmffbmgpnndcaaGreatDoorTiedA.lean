/- The package-level variables that CkptSynced's row lists hold what the program's own text lays into them: the first of nine closed facts, one theorem each (the kernel gives its memory back behind each). No conditions. -/
import Derived.Test.YtkmffbmgpnndcaaGreatDoorRows
import Derived.LaidByTextLater
import Derived.SevenTiedAt
namespace Go.Proofs.YtkmffbmgpnndcaaGreatDoor
open Go
def laidL {H:Type}:List (String × DataW H):=[("internal/strconv.uint64pow10", Rows.laid_internal_strconv_uint64pow10),("math/bits.deBruijn32tab", Rows.laid_math_bits_deBruijn32tab),("math/bits.deBruijn64tab", Rows.laid_math_bits_deBruijn64tab),("strconv.ErrSyntax", Rows.laid_strconv_ErrSyntax),("strconv.ErrRange", Rows.laid_strconv_ErrRange),("bytes.ErrTooLarge", Rows.laid_bytes_ErrTooLarge)]
def kindsL:List LaidKind:=[.data,.data,.data,.sentinel,.sentinel,.sentinel]
theorem noOwn:Tryz.pinned.checked.prog.headLifts.contains "ownunsafe" = false:=by kernel_rfl
theorem t1:Tryz.prog.worded (varsWordLater true) = true:=by kernel_rfl
theorem t2:Tryz.prog.worded (varsWordLater !true) = false:=by kernel_rfl
theorem t3:Tryz.prog.worded rootWordLater = true:=by kernel_rfl
theorem t4:((laidL:List (String × DataW Unit)).map (fun x=>Tryz.prog.kindOfLater x.1)) = kindsL.map some:=by kernel_rfl
theorem t5:(Tryz.prog.funcNamed "gosem.cut.vars").isSome = true:=by kernel_rfl
theorem t6:varsNamedLaterB Tryz.prog (varsId Tryz.prog) (laidL:List (String × DataW Unit)) = true:=by kernel_rfl
end Go.Proofs.YtkmffbmgpnndcaaGreatDoor
