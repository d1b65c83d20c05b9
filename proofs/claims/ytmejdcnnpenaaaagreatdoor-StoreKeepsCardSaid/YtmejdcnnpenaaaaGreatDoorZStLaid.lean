/-
  Stores (layer 9): the package-level tables, as the rows list them: what the walks ask of them. No condition.
-/
import Derived.Test.YtmejdcnnpenaaaaGreatDoorRows
import Derived.LaidSub
import Derived.Lib.LaidTab
import Derived.Test.YtmejdcnnpenaaaaGreatDoorZStO
open Go Go.RowKit
namespace Go.Proofs.YtmejdcnnpenaaaaGreatDoor.St
open Base

abbrev six : List (String × DataW Unit) := [("gossamer/crc.table", Rows.laid_gossamer_crc_table), ("math/bits.deBruijn32tab", Rows.laid_math_bits_deBruijn32tab), ("math/bits.deBruijn64tab", Rows.laid_math_bits_deBruijn64tab), ("internal/strconv.uint64pow10", Rows.laid_internal_strconv_uint64pow10), ("strconv.ErrRange", Rows.laid_strconv_ErrRange), ("strconv.ErrSyntax", Rows.laid_strconv_ErrSyntax)]
theorem gTab : Tryz.prog.globalNamed "gossamer/crc.table" = some 1 := by kernel_rfl
theorem gTabType : (Tryz.prog.globals[1]?).map (·.type) = some 156 := by kernel_rfl
theorem gPow : Tryz.prog.globalNamed "internal/strconv.uint64pow10" = some 0 := by kernel_rfl
theorem gPowType : (Tryz.prog.globals[0]?).map (·.type) = some 152 := by kernel_rfl
theorem cells16 : Tryz.prog.cellsOf 156 = 16 := by kernel_rfl
theorem cells20 : Tryz.prog.cellsOf 152 = 20 := by kernel_rfl
theorem cellsE : Tryz.prog.cellsOf 115 = 1 := by kernel_rfl
theorem cellsE64 : Tryz.prog.cellsOf 32 = 1 := by kernel_rfl
def zsCrc : List Int := [0, 274646895, 549293790, 820201905, 1098587580, 1361435347, 1640403810, 1905808397, 2197175160, 2460548119, 2722870694, 2987750089, 3280807620, 3553878443, 3811616794, 4084100981]
theorem laid_of {W : World} (h : laidMetH Tryz.prog six W) : Laid W := by
  have h1 : laidMet Tryz.prog six W := h
  have h2 : laidMet Tryz.prog [("gossamer/crc.table", Rows.laid_gossamer_crc_table)] W := laidMet.filter (fun x => x.1 == "gossamer/crc.table") h1
  have h3 : laidMet Tryz.prog [("internal/strconv.uint64pow10", Rows.laid_internal_strconv_uint64pow10)] W := laidMet.filter (fun x => x.1 == "internal/strconv.uint64pow10") h1
  have t1 : Lib.TabIs Tryz.prog W "gossamer/crc.table" .u32 zsCrc := Lib.tabIs_of_head (rest := []) gTab gTabType Tryz.underlying156 Tryz.underlying115 cellsE cells16 h2
  have t2 : Lib.TabIs Tryz.prog W "internal/strconv.uint64pow10" .u64 Lib.pow10Tab := Lib.tabIs_of_head (rest := []) gPow gPowType Tryz.underlying152 Tryz.underlying32 cellsE64 cells20 h3
  refine ⟨fun i hi => ?_, t2⟩
  rw [t1.cell gTab i (by simpa [zsCrc] using hi)]
  have : ∀ i : Fin 16, zsCrc[i.val]?.getD 0 = (Crc.tab i.val : Nat) := by decide
  simpa using this ⟨i, hi⟩
end Go.Proofs.YtmejdcnnpenaaaaGreatDoor.St
