/-
  An argument that is a list of lists of texts: what lies in its cells, and that its texts are weighed.
-/
import Derived.Deep.Slices
import Derived.Test.YtmejdcnnpenaaaaGreatDoorZLgRow
import Derived.Test.YtmejdcnnpenaaaaGreatDoorZFront
open Go Go.RowKit Go.ChangeShapes Go.WideShapes Go.Deep
namespace Go.Proofs.YtmejdcnnpenaaaaGreatDoor.Lg
open Base Mp Dk Frame

def RoundsArg (w : World) (p : Option Addr) (rs : List (List Key)) : Prop := ∀ j (h : j < rs.length), ∃ b o pj cj, p = some ⟨b, o, none⟩ ∧ b < w.heap.size ∧ w.cell? ⟨b, o + j, none⟩ = some (.slice pj rs[j].length cj) ∧ RowArg w pj (strs rs[j])
theorem RoundsArg.below {w w' : World} {p : Option Addr} {rs : List (List Key)} (h : RoundsArg w p rs) (hb : Below w.heap.size w w') : RoundsArg w' p rs := fun j hj => by
  obtain ⟨b, o, pj, cj, h1, h2, h3, h4⟩ := h j hj
  exact ⟨b, o, pj, cj, h1, Nat.lt_of_lt_of_le h2 hb.size, (hb.cell (p := ⟨b, o + j, none⟩) h2).trans h3, h4.below hb⟩
theorem cTexts : Tryz.prog.cellsOf 22 = 1 := by kernel_rfl
theorem cText : Tryz.prog.cellsOf 9 = 1 := by kernel_rfl
set_option maxRecDepth 100000 in
theorem open_texts {H : Type} {enc : TypeId × Value → H} {W : World} {fuel : Nat} {held : Bool} {c : Value} {x : DataW H × List MemPlace} (h : DataW.trod enc Tryz.prog W 0 (fun _ => true) held fuel 22 [c] = some x) :
    ∃ (p : Option Addr) (l : List Key) (cap : Nat), c = .slice p l.length cap ∧ l.length ≤ maxLen ∧ RowArg W p (strs l) ∧ ∀ t ∈ l, t.length ∈ DataW.weights Tryz.prog 22 x.1 := by
  rcases Go.ChangeShapes.open_strings Tryz.underlying22 Tryz.underlying9 cText h with ⟨hcs, _⟩ | ⟨a', len', cap', ss, hcs, _, hl, hm, hz, hx, hcell, hws⟩
  · injection hcs with hcs
    subst hcs
    exact ⟨none, [], 0, rfl, by simp, fun j hj => by simp [Frame.strs] at hj, fun t ht => by simp at ht⟩
  · injection hcs with hcs
    subst hcs
    simp only [if_true] at hz
    have hlen : ((ss.take len').map fun s => s.data.toList).length = len' := by simp [hz]; omega
    refine ⟨some a', (ss.take len').map fun s => s.data.toList, cap', by rw [hlen], by rw [hlen]; omega, fun j hj => ?_, fun t ht => ?_⟩
    · have hj' : j < len' := by rw [strs_length, hlen] at hj; exact hj
      have hjz : j < ss.length := by omega
      have h0 := hcell j hjz
      obtain ⟨b, off, spot⟩ := a'
      have hspot : spot = none := by simpa [Addr.add] using World.cell?_spot (hcell 0 (by omega))
      subst hspot
      have hadd : (⟨b, off, none⟩ : Addr).add j = ⟨b, off + j, none⟩ := by unfold Addr.add; split <;> simp_all
      rw [hadd] at h0
      refine ⟨b, off, rfl, Base.lt_of_cell h0, ?_⟩
      rw [h0]
      simp [Frame.strs, List.getD, List.getElem?_eq_getElem hjz]
      rfl
    · obtain ⟨s, hs, rfl⟩ := List.mem_map.1 ht
      rw [hx]
      simp only [DataW.weights, Tryz.underlying22, List.mem_cons, List.mem_append]
      refine .inr (.inl ?_)
      have key : ∀ (q : List ByteArray), s ∈ q → s.data.toList.length ∈ DataW.weightsAll Tryz.prog 9 (Go.ChangeShapes.strs (H := H) q) := by
        intro q
        induction q with
        | nil => intro h; simp at h
        | cons y q ih =>
          intro h
          simp only [Go.ChangeShapes.strs, List.map_cons, DataW.weightsAll, List.mem_append]
          rcases List.mem_cons.1 h with h | h
          · subst h; exact .inl (by simp [DataW.weights])
          · exact .inr (ih h)
      exact key _ hs
theorem heavy_all {H : Type} {P : Program} {e : TypeId} {l : List (DataW H)} {d : DataW H} (hd : d ∈ l) {n : Nat} (hn : n ∈ d.weights P e) : n ∈ DataW.weightsAll P e l := by
  induction l with
  | nil => cases hd
  | cons a r ih =>
    rw [DataW.weightsAll, List.mem_append]
    rcases List.mem_cons.1 hd with rfl | hd
    · exact .inl hn
    · exact .inr (ih hd)
set_option maxRecDepth 100000 in
theorem open_rounds {H : Type} {enc : TypeId × Value → H} {W : World} {r : Reach} {b0 : Nat} {v : Value} {d : DataW H} {ps : List MemPlace} {held : Bool}
    (hval : Value.okWide Tryz.prog W r b0 40 v) (hd : DataW.Trod enc Tryz.prog W 0 (fun _ => true) held 40 v d ps) :
    ∃ (p : Option Addr) (rs : List (List Key)) (cap : Nat), v = .slice p rs.length cap ∧ rs.length ≤ maxLen ∧ rs.length ≤ cap ∧ RoundsArg W p rs ∧ ∀ l ∈ rs, l.length ≤ maxLen ∧ ∀ t ∈ l, t.length ∈ DataW.weights Tryz.prog 40 d := by
  obtain ⟨a, len, cap, rfl⟩ := okWide_slice Tryz.underlying40 hval
  obtain ⟨fuel, hf⟩ := hd
  rcases Go.Deep.open_slice1 Tryz.underlying40 cTexts hf with ⟨hcs, _⟩ | ⟨a', len', cap', m, n, V, D, Pl, hcs, hb, hl, hm, hmm, hx, hi⟩
  · simp [Value.cells] at hcs
    obtain ⟨rfl, rfl, rfl⟩ := hcs
    exact ⟨none, [], 0, rfl, by simp, by simp, fun j hj => by simp at hj, fun l hl => by simp at hl⟩
  · simp [Value.cells] at hcs
    obtain ⟨rfl, rfl, rfl⟩ := hcs
    simp at hmm
    subst hmm
    have hD := (Prod.mk.inj hx).1
    subst hD
    have hex : ∀ i, ∃ l : List Key, i < len → (∃ b o pj cj, a' = ⟨b, o, none⟩ ∧ b < W.heap.size ∧ W.cell? ⟨b, o + i, none⟩ = some (.slice pj l.length cj) ∧ RowArg W pj (strs l) ∧ l.length ≤ maxLen ∧ ∀ t ∈ l, t.length ∈ DataW.weights Tryz.prog 22 (D i)) := by
      intro i
      by_cases hil : i < len
      · obtain ⟨hc, ht⟩ := hi i (by omega)
        obtain ⟨pj, l, cj, e, h1, h2, h3⟩ := open_texts ht
        rw [e] at hc
        refine ⟨l, fun _ => ?_⟩
        obtain ⟨b, o, spot⟩ := a'
        have hspot : spot = none := by
          have := World.cell?_spot (hi 0 (by omega)).1
          simpa [Addr.add] using this
        subst hspot
        have hadd : (⟨b, o, none⟩ : Addr).add i = ⟨b, o + i, none⟩ := by unfold Addr.add; split <;> simp_all
        rw [hadd] at hc
        exact ⟨b, o, pj, cj, rfl, Base.lt_of_cell hc, hc, h2, h1, h3⟩
      · exact ⟨[], fun h => absurd h hil⟩
    obtain ⟨f, hf⟩ := Classical.axiomOfChoice hex
    refine ⟨some a', (List.range len).map f, m, by simp, by simp; omega, by simp; omega, fun j hj => ?_, fun l hl => ?_⟩
    · have hj' : j < len := by simpa using hj
      obtain ⟨b, o, pj, cj, rfl, h1, h2, h3, _⟩ := hf j hj'
      exact ⟨b, o, pj, cj, rfl, h1, by simpa using h2, by simpa using h3⟩
    · obtain ⟨j, hj, rfl⟩ := List.mem_map.1 hl
      rw [List.mem_range] at hj
      obtain ⟨_, _, _, _, _, _, _, _, k1, k2⟩ := hf j hj
      refine ⟨k1, fun t ht => ?_⟩
      simp only [DataW.weights, Tryz.underlying40, List.mem_cons, List.mem_append]
      exact .inr (.inl (heavy_all (List.mem_map.2 ⟨j, List.mem_range.2 hj, rfl⟩) (k2 t ht)))
end Go.Proofs.YtmejdcnnpenaaaaGreatDoor.Lg
