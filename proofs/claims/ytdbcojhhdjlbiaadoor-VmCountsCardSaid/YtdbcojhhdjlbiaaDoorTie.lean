/-
  DERIVED. GIVEN WITH THE SEED: THE PROGRAM's TIES (one call each: nine closed facts by the kernel) AND EACH ROW's TIE, after the 31st guide's Derived/Test/Toyas{Tie, Card}.lean. No idea stands in it: it is a product of the set-up. Laid BY PROGRAM, IN A SANDBOX (cutbox-door.mjs). By AI agents, Wed Nov 11 2026. No macro, syntax, notation, axiom, sorry.
-/
import Derived.Test.YtdbcojhhdjlbiaaDoorRows
import Derived.LaidByTextLater
import Derived.SevenTiedAt
import Derived.LaidSub
import Derived.LaidOnce
namespace Go.Proofs.YtdbcojhhdjlbiaaDoor
open Go
set_option maxRecDepth 100000
theorem seatTie1 : Tryd.prog.laidByTextLater [("math/bits.deBruijn32tab", Rows.laid_math_bits_deBruijn32tab), ("math/bits.deBruijn64tab", Rows.laid_math_bits_deBruijn64tab), ("internal/strconv.uint64pow10", Rows.laid_internal_strconv_uint64pow10), ("pendulum/api.ErrEnd", Rows.laid_pendulum_api_ErrEnd), ("pendulum/api.ErrShape", Rows.laid_pendulum_api_ErrShape), ("pendulum/api.ErrMany", Rows.laid_pendulum_api_ErrMany), ("pendulum/api.ErrRange", Rows.laid_pendulum_api_ErrRange), ("pendulum/api.ErrDeep", Rows.laid_pendulum_api_ErrDeep), ("pendulum/api.ErrTwice", Rows.laid_pendulum_api_ErrTwice), ("pendulum/api.ErrType", Rows.laid_pendulum_api_ErrType), ("pendulum/api.ErrLoop", Rows.laid_pendulum_api_ErrLoop), ("pendulum/api.ErrArity", Rows.laid_pendulum_api_ErrArity), ("pendulum/api.ErrNone", Rows.laid_pendulum_api_ErrNone)] [.data, .data, .data, .sentinel, .sentinel, .sentinel, .sentinel, .sentinel, .sentinel, .sentinel, .sentinel, .sentinel, .sentinel] true :=
  Program.laidByTextLater_by_one 214 8 65 (by kernel_rfl) (by kernel_rfl) (by kernel_rfl) (by kernel_rfl) (by kernel_rfl) (by kernel_rfl) (fun _ _ => by kernel_rfl)
theorem noOwnUnsafe : Tryd.pinned.checked.prog.headLifts.contains "ownunsafe" = false := by kernel_rfl
theorem tie : Tryd.prog.laidByTextLater [("math/bits.deBruijn32tab", Rows.laid_math_bits_deBruijn32tab), ("math/bits.deBruijn64tab", Rows.laid_math_bits_deBruijn64tab), ("internal/strconv.uint64pow10", Rows.laid_internal_strconv_uint64pow10), ("pendulum/api.ErrEnd", Rows.laid_pendulum_api_ErrEnd), ("pendulum/api.ErrShape", Rows.laid_pendulum_api_ErrShape), ("pendulum/api.ErrMany", Rows.laid_pendulum_api_ErrMany), ("pendulum/api.ErrRange", Rows.laid_pendulum_api_ErrRange), ("pendulum/api.ErrDeep", Rows.laid_pendulum_api_ErrDeep), ("pendulum/api.ErrTwice", Rows.laid_pendulum_api_ErrTwice), ("pendulum/api.ErrType", Rows.laid_pendulum_api_ErrType), ("pendulum/api.ErrLoop", Rows.laid_pendulum_api_ErrLoop), ("pendulum/api.ErrArity", Rows.laid_pendulum_api_ErrArity), ("pendulum/api.ErrNone", Rows.laid_pendulum_api_ErrNone)] [.data, .data, .data, .sentinel, .sentinel, .sentinel, .sentinel, .sentinel, .sentinel, .sentinel, .sentinel, .sentinel, .sentinel] true :=
  Program.laidByTextLater.sub seatTie1 ["math/bits.deBruijn32tab", "math/bits.deBruijn64tab", "internal/strconv.uint64pow10", "pendulum/api.ErrEnd", "pendulum/api.ErrShape", "pendulum/api.ErrMany", "pendulum/api.ErrRange", "pendulum/api.ErrDeep", "pendulum/api.ErrTwice", "pendulum/api.ErrType", "pendulum/api.ErrLoop", "pendulum/api.ErrArity", "pendulum/api.ErrNone"] (by kernel_rfl) (by kernel_rfl)
theorem vmCounts_row_tie : Rows.vmCountsRow.laidByTextAt .later Tryd.pinned [.data, .data, .data, .sentinel, .sentinel, .sentinel, .sentinel, .sentinel, .sentinel, .sentinel, .sentinel, .sentinel, .sentinel] true :=
  OpenClaim.laidByTextAt_later rfl rfl tie noOwnUnsafe
theorem vmCountsUpto_row_tie : Rows.vmCountsUptoRow.laidByTextAt .later Tryd.pinned [.data, .data, .data, .sentinel, .sentinel, .sentinel, .sentinel, .sentinel, .sentinel, .sentinel, .sentinel, .sentinel, .sentinel] true :=
  OpenClaim.laidByTextAt_later rfl rfl tie noOwnUnsafe
end Go.Proofs.YtdbcojhhdjlbiaaDoor
