/-
  Stores (layer 9): a list of bools that comes in. No condition.
-/
import Derived.Deep.Grids
import Derived.Test.YtmejdcnnpenaaaaGreatDoorZStRow
open Go Go.RowKit Go.WideShapes
namespace Go.Proofs.YtmejdcnnpenaaaaGreatDoor.St
open Base Mp Dk Frame Lg

theorem cBool : Tryz.prog.cellsOf 4 = 1 := by kernel_rfl
set_option maxRecDepth 100000 in
theorem open_bools_ {H : Type} {enc : TypeId × Value → H} {W : World} {r : Reach} {b0 : Nat} {v : Value} {d : DataW H} {ps : List MemPlace} {held : Bool}
    (hval : Value.okWide Tryz.prog W r b0 23 v) (hd : DataW.Trod enc Tryz.prog W 0 (fun _ => true) held 23 v d ps) :
    ∃ (p : Option Addr) (l : List Bool) (cap : Nat), v = .slice p l.length cap ∧ l.length ≤ maxLen ∧ l.length ≤ cap ∧ BoolsArg W p l := by
  obtain ⟨a, len, cap, rfl⟩ := okWide_slice Tryz.underlying23 hval
  obtain ⟨fuel, hf⟩ := hd
  rcases Go.Deep.open_bools Tryz.underlying23 Tryz.underlying4 cBool hf with ⟨hcs, _⟩ | ⟨a', len', cap', Bf, hcs, _, hl, hm, _, hcell⟩
  · simp [Value.cells] at hcs
    obtain ⟨rfl, rfl, rfl⟩ := hcs
    exact ⟨none, [], 0, rfl, by simp, by simp, fun j hj => by simp at hj⟩
  · simp [Value.cells] at hcs
    obtain ⟨rfl, rfl, rfl⟩ := hcs
    refine ⟨some a', (List.range len).map Bf, cap, by simp, by simp; omega, by simpa using hl, fun j hj => ?_⟩
    have hj' : j < len := by simpa using hj
    obtain ⟨b, off, spot⟩ := a'
    have hspot : spot = none := by simpa [Addr.add] using World.cell?_spot (hcell 0 (by omega))
    subst hspot
    have h0 := hcell j (by omega)
    have hadd : (⟨b, off, none⟩ : Addr).add j = ⟨b, off + j, none⟩ := by unfold Addr.add; split <;> simp_all
    rw [hadd] at h0
    exact ⟨b, off, rfl, Base.lt_of_cell h0, by rw [h0]; simp⟩
end Go.Proofs.YtmejdcnnpenaaaaGreatDoor.St
