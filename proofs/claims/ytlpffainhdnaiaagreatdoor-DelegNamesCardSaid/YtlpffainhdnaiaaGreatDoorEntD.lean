import Derived.Test.YtlpffainhdnaiaaGreatDoorAbEntry
import Derived.Test.YtlpffainhdnaiaaGreatDoorKcfgOk
import Derived.Test.YtlpffainhdnaiaaGreatDoorRows
import Derived.ChangeSame
import Derived.ChangeVars
import Derived.JoinedOf
import Derived.Stop.Joined
/- What the statements' premises say of this program's tables. -/
namespace Go.Ab
open Go Go.Proofs Go.Proofs.YtlpffainhdnaiaaGreatDoor Go.RowKit
noncomputable section

def laidD : List (String × DataW Unit) := [("legate/hex.digits", Rows.laid_legate_hex_digits), ("math/bits.deBruijn32tab", Rows.laid_math_bits_deBruijn32tab), ("math/bits.deBruijn64tab", Rows.laid_math_bits_deBruijn64tab), ("internal/strconv.uint64pow10", Rows.laid_internal_strconv_uint64pow10), ("legate/sha.initial", Rows.laid_legate_sha_initial), ("legate/sha.rounds", Rows.laid_legate_sha_rounds)]

set_option maxRecDepth 100000 in
theorem globs_ok {W : World} (h : laidMetH Tryz.prog laidD W) (g : Nat) : Rep (startRen W) W (.pointer (some ⟨g, 0, none⟩)) (gl g) := by
  rw [MakeChecks.laidMetH_plain _ _ _ (by kernel_rfl)] at h
  unfold gl
  split
  · exact rep_ints (laid_ints h (name := "legate/hex.digits") (k := .u8) (t := 312) (e := 5) (.head _) (by kernel_rfl) (by kernel_rfl) (by kernel_rfl) (by kernel_rfl) (by kernel_rfl) (by kernel_rfl))
  · exact rep_ints (laid_ints h (name := "math/bits.deBruijn32tab") (k := .u8) (t := 339) (e := 5) (.tail _ (.head _)) (by kernel_rfl) (by kernel_rfl) (by kernel_rfl) (by kernel_rfl) (by kernel_rfl) (by kernel_rfl))
  · exact rep_ints (laid_ints h (name := "math/bits.deBruijn64tab") (k := .u8) (t := 299) (e := 5) (.tail _ (.tail _ (.head _))) (by kernel_rfl) (by kernel_rfl) (by kernel_rfl) (by kernel_rfl) (by kernel_rfl) (by kernel_rfl))
  · exact rep_ints (laid_ints h (name := "internal/strconv.uint64pow10") (k := .u64) (t := 337) (e := 147) (.tail _ (.tail _ (.tail _ (.head _)))) (by kernel_rfl) (by kernel_rfl) (by kernel_rfl) (by kernel_rfl) (by kernel_rfl) (by kernel_rfl))
  · exact rep_ints (laid_ints h (name := "legate/sha.initial") (k := .u32) (t := 273) (e := 143) (.tail _ (.tail _ (.tail _ (.tail _ (.head _))))) (by kernel_rfl) (by kernel_rfl) (by kernel_rfl) (by kernel_rfl) (by kernel_rfl) (by kernel_rfl))
  · exact rep_ints (laid_ints h (name := "legate/sha.rounds") (k := .u32) (t := 306) (e := 143) (.tail _ (.tail _ (.tail _ (.tail _ (.tail _ (.head _)))))) (by kernel_rfl) (by kernel_rfl) (by kernel_rfl) (by kernel_rfl) (by kernel_rfl) (by kernel_rfl))
  · exact .any _

theorem ownD : ownKnob Tryz.prog.godebug = none := by kernel_rfl
end
end Go.Ab
