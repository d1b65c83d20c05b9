/-
  The package-level tables of layer 4, as the rows list them: what the walks ask of them.
-/
import Derived.Test.YtjhmpoekpambaaaDoorShaAdd
import Derived.Test.YtjhmpoekpambaaaDoorRows
import Derived.LaidSub
import Derived.Lib.LaidTab
open Go Go.RowKit
namespace Go.Proofs.YtjhmpoekpambaaaDoor.Sha
open Base

theorem gStart : Tryd.prog.globalNamed "gossamer/sha.start" = some 0 := by kernel_rfl
theorem gStartType : (Tryd.prog.globals[0]?).map (·.type) = some 44 := by kernel_rfl
theorem gConsts : Tryd.prog.globalNamed "gossamer/sha.consts" = some 1 := by kernel_rfl
theorem gConstsType : (Tryd.prog.globals[1]?).map (·.type) = some 55 := by kernel_rfl
theorem cells8 : Tryd.prog.cellsOf 44 = 8 := by kernel_rfl
theorem cells64 : Tryd.prog.cellsOf 55 = 64 := by kernel_rfl
theorem cellsE : Tryd.prog.cellsOf 42 = 1 := by kernel_rfl
def zs8 : List Int := [1779033703, 3144134277, 1013904242, 2773480762, 1359893119, 2600822924, 528734635, 1541459225]
def zs64 : List Int := [1116352408, 1899447441, 3049323471, 3921009573, 961987163, 1508970993, 2453635748, 2870763221, 3624381080, 310598401, 607225278, 1426881987, 1925078388, 2162078206, 2614888103, 3248222580, 3835390401, 4022224774, 264347078, 604807628, 770255983, 1249150122, 1555081692, 1996064986, 2554220882, 2821834349, 2952996808, 3210313671, 3336571891, 3584528711, 113926993, 338241895, 666307205, 773529912, 1294757372, 1396182291, 1695183700, 1986661051, 2177026350, 2456956037, 2730485921, 2820302411, 3259730800, 3345764771, 3516065817, 3600352804, 4094571909, 275423344, 430227734, 506948616, 659060556, 883997877, 958139571, 1322822218, 1537002063, 1747873779, 1955562222, 2024104815, 2227730452, 2361852424, 2428436474, 2756734187, 3204031479, 3329325298]
theorem ok_of {W : World} (h : laidMetH Tryd.prog [("gossamer/sha.start", Rows.laid_gossamer_sha_start), ("gossamer/sha.consts", Rows.laid_gossamer_sha_consts)] W) : Ok W := by
  have h1 : laidMet Tryd.prog [("gossamer/sha.start", Rows.laid_gossamer_sha_start), ("gossamer/sha.consts", Rows.laid_gossamer_sha_consts)] W := h
  have h2 : laidMet Tryd.prog [("gossamer/sha.consts", Rows.laid_gossamer_sha_consts)] W := laidMet.filter (fun x => x.1 == "gossamer/sha.consts") h1
  have t1 : Lib.TabIs Tryd.prog W "gossamer/sha.start" .u32 zs8 := Lib.tabIs_of_head (rest := [("gossamer/sha.consts", Rows.laid_gossamer_sha_consts)]) gStart gStartType Tryd.underlying44 Tryd.underlying42 cellsE cells8 h1
  have t2 : Lib.TabIs Tryd.prog W "gossamer/sha.consts" .u32 zs64 := Lib.tabIs_of_head (rest := []) gConsts gConstsType Tryd.underlying55 Tryd.underlying42 cellsE cells64 h2
  refine ⟨fun i hi => ?_, fun i hi => ?_⟩
  · rw [t2.cell gConsts i (by simpa [zs64] using hi)]
    have : ∀ i : Fin 64, zs64.getD i.val 0 = U (Ks.getD i.val 0) := by decide
    rw [this ⟨i, hi⟩]
  · rw [t1.cell gStart i (by simpa [zs8] using hi)]
    have : ∀ i : Fin 8, zs8.getD i.val 0 = U (H0.get i.val) := by decide
    rw [this ⟨i, hi⟩]
end Go.Proofs.YtjhmpoekpambaaaDoor.Sha
