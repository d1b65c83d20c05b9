/-
  An argument that is a list of lists of texts: what lies in its cells, and that its texts are weighed.
-/
import Derived.Deep.Slices
import Derived.Test.YtpiaplgbpjgjiaaGreatDoorZLgRow
import Derived.Test.YtpiaplgbpjgjiaaGreatDoorZFront
open Go Go.RowKit Go.ChangeShapes Go.WideShapes Go.Deep
namespace Go.Proofs.YtpiaplgbpjgjiaaGreatDoor.Lg
open Base Mp Dk Frame

def RoundsArg (w : World) (p : Option Addr) (rs : List (List Key)) : Prop := ∀ j (h : j < rs.length), ∃ b o pj cj, p = some ⟨b, o, none⟩ ∧ b < w.heap.size ∧ w.cell? ⟨b, o + j, none⟩ = some (.slice pj rs[j].length cj) ∧ RowArg w pj (strs rs[j])
theorem RoundsArg.below {w w' : World} {p : Option Addr} {rs : List (List Key)} (h : RoundsArg w p rs) (hb : Below w.heap.size w w') : RoundsArg w' p rs := fun j hj => by
  obtain ⟨b, o, pj, cj, h1, h2, h3, h4⟩ := h j hj
  exact ⟨b, o, pj, cj, h1, Nat.lt_of_lt_of_le h2 hb.size, (hb.cell (p := ⟨b, o + j, none⟩) h2).trans h3, h4.below hb⟩
theorem cTexts : Tryz.prog.cellsOf 33 = 1 := by kernel_rfl
theorem cText : Tryz.prog.cellsOf 9 = 1 := by kernel_rfl
set_option maxRecDepth 100000 in
theorem open_texts {H : Type} {enc : TypeId × Value → H} {W : World} {fuel : Nat} {held : Bool} {c : Value} {x : DataW H × List MemPlace} (h : DataW.trod enc Tryz.prog W 0 (fun _ => true) held fuel 33 [c] = some x) :
    ∃ (p : Option Addr) (l : List Key) (cap : Nat), c = .slice p l.length cap ∧ l.length ≤ maxLen ∧ RowArg W p (strs l) ∧ ∀ t ∈ l, t.length ∈ DataW.weights Tryz.prog 33 x.1 := by
  rcases Go.ChangeShapes.open_strings Tryz.underlying33 Tryz.underlying9 cText h with ⟨hcs, _⟩ | ⟨a', len', cap', ss, hcs, _, hl, hm, hz, hx, hcell, hws⟩
  · injection hcs with hcs
    subst hcs
    exact ⟨none, [], 0, rfl, by simp, fun j hj => by simp [Frame.strs] at hj, fun t ht => by simp at ht⟩
  · injection hcs with hcs
    subst hcs
    simp only [if_true] at hz
    have hlen : ((ss.take len').map fun s => s.data.toList).length = len' := by simp [hz]; omega
    refine ⟨some a', (ss.take len').map fun s => s.data.toList, cap', by rw [hlen], by rw [hlen]; omega, fun j hj => ?_, fun t ht => ?_⟩
    · have hj' : j < len' := by rw [strs_length, hlen] at hj; exact hj
      have hjz : j < ss.length := by omega
      have h0 := hcell j hjz
      obtain ⟨b, off, spot⟩ := a'
      have hspot : spot = none := by simpa [Addr.add] using World.cell?_spot (hcell 0 (by omega))
      subst hspot
      have hadd : (⟨b, off, none⟩ : Addr).add j = ⟨b, off + j, none⟩ := by unfold Addr.add; split <;> simp_all
      rw [hadd] at h0
      refine ⟨b, off, rfl, Base.lt_of_cell h0, ?_⟩
      rw [h0]
      simp [Frame.strs, List.getD, List.getElem?_eq_getElem hjz]
      rfl
    · obtain ⟨s, hs, rfl⟩ := List.mem_map.1 ht
      rw [hx]
      simp only [DataW.weights, Tryz.underlying33, List.mem_cons, List.mem_append]
      refine .inr (.inl ?_)
      have key : ∀ (q : List ByteArray), s ∈ q → s.data.toList.length ∈ DataW.weightsAll Tryz.prog 9 (Go.ChangeShapes.strs (H := H) q) := by
        intro q
        induction q with
        | nil => intro h; simp at h
        | cons y q ih =>
          intro h
          simp only [Go.ChangeShapes.strs, List.map_cons, DataW.weightsAll, List.mem_append]
          rcases List.mem_cons.1 h with h | h
          · subst h; exact .inl (by simp [DataW.weights])
          · exact .inr (ih h)
      exact key _ hs
theorem heavy_all {H : Type} {P : Program} {e : TypeId} {l : List (DataW H)} {d : DataW H} (hd : d ∈ l) {n : Nat} (hn : n ∈ d.weights P e) : n ∈ DataW.weightsAll P e l := by
  induction l with
  | nil => cases hd
  | cons a r ih =>
    rw [DataW.weightsAll, List.mem_append]
    rcases List.mem_cons.1 hd with rfl | hd
    · exact .inl hn
    · exact .inr (ih hd)
end Go.Proofs.YtpiaplgbpjgjiaaGreatDoor.Lg
