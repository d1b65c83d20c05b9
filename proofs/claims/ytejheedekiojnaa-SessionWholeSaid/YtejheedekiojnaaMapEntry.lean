/-
  'm[k]++' as the model has it: the entry is taken (and made, where it lacks), then stored: on a map known as a list of entries.
-/
import Derived.Test.YtejheedekiojnaaMaps
import Derived.WideKeyEntry
open Go Go.RowKit
namespace Go.Proofs.Ytejheedekiojnaa.Mp
open Go.ChangeShapes Go.WideShapes Go.MapKept Go.ChangeMaps
open Go.WideMaps (KeyLaw)

section
variable {P : Program} {k e t : TypeId} {w : World} {b : Nat} {es : List (Lit × Value)}
theorem entry_world {xs : Array MapEntry} {clock : Nat} (K : KeyLaw P k) (ht : P.underlying t = some (.map k e)) {z : Value} (hz : ∀ u : World, (zeroValue e).run P u = .ok z u) (hb : w.heap[b]? = some (.map xs clock)) (F : WideElems.Fit P k HV xs clock)
    {key : Value} {kl : Lit} (hkey : keyOf P k key = some kl) :
    ∃ v w1, (Instr.mapEntry t (.map (some b)) key).run P w = .ok v w1 ∧ (w1 = setBlock w b (.map xs clock) ∨ ((Instr.mapUpdate t (.map (some b)) key z).run P w = .ok () w1 ∧ (Instr.lookup t (.map (some b)) key false).run P w = .ok z w)) := by
  rcases K.find w hkey xs.toList F.keys with ⟨h1, h2⟩ | ⟨j, e0, h1, h2, h3⟩
  · refine ⟨.tuple #[z, goInt clock], setBlock w b (.map (xs.push ⟨key, z, clock⟩) (clock + 1)), ?_, .inr ⟨?_, ?_⟩⟩
    · simp [Instr.mapEntry, run_underlying ht, MapKept.run_getObj_map hb, K.check w false hkey, h1, hz, MapKept.run_setObj_map _ hb, Result.andThen, setBlock]
    · simp [Instr.mapUpdate, run_underlying ht, MapKept.run_getObj_map hb, K.check w false hkey, h1, MapKept.run_setObj_map _ hb, Result.andThen, setBlock]
    · simp [Instr.lookup, run_underlying ht, MapKept.run_getObj_map hb, K.check w _ hkey, h1, hz, Result.andThen]
  · have hj : xs[j]? = some e0 := by simpa using h2
    have hsame : xs.modify j (fun e => { e with key := key }) = xs := by
      apply Array.ext'
      rw [Array.toList_modify, modify_eq_set _ _ _ _ h2]
      have : ({ e0 with key := key } : MapEntry) = e0 := by rw [← h3]
      rw [this]
      exact WideElems.set_self _ _ _ h2
    refine ⟨.tuple #[e0.val, goInt e0.born], setBlock w b (.map xs clock), ?_, .inl rfl⟩
    simp [Instr.mapEntry, run_underlying ht, MapKept.run_getObj_map hb, K.check w false hkey, h1, hj, h3, K.stays w hkey, hsame, MapKept.run_setObj_map _ hb, Result.andThen, setBlock]
theorem setBlock_self {xs : Array MapEntry} {clock : Nat} (hb : w.heap[b]? = some (.map xs clock)) : setBlock w b (.map xs clock) = w := by
  have e : w.heap.setIfInBounds b (.map xs clock) = w.heap := by
    apply Array.ext_getElem?
    intro i
    rw [Array.getElem?_setIfInBounds]
    split
    · rename_i h; subst h
      split
      · exact hb.symm
      · rename_i h2; rw [Array.getElem?_eq_none (by omega)] at hb; cases hb
    · rfl
  unfold setBlock
  rw [e]
/-- The map in w1, and what a store behind it comes to. -/
theorem MapL.entry (h : MapL P k w b es) (K : KeyLaw P k) (ht : P.underlying t = some (.map k e)) (hn : es.length < maxLen) {z : Value} (hz : ∀ u : World, (zeroValue e).run P u = .ok z u) {key : Value} {kl : Lit} (hkey : keyOf P k key = some kl) :
    ∃ v st w1, (Instr.mapEntry t (.map (some b)) key).run P w = .ok (.tuple #[v, goInt st]) w1 ∧ w.mapTurned w1 b ∧ (Instr.lookup t (.map (some b)) key false).run P w1 = .ok ((lookL es kl).getD z) w1 ∧
      ∀ w2 val, w2.heap[b]? = w1.heap[b]? → ∃ w3, (Instr.entryStore t (.map (some b)) (goInt st) val).run P w2 = .ok () w3 ∧ MapL P k w3 b (putL es kl val) ∧ w2.mapTurned w3 b := by
  have h0 := h
  obtain ⟨xs, clock, hb, F, hs, hD⟩ := h
  obtain ⟨v0, st, es1, clock1, hrun, -, hst⟩ := WideElems.entry_then_store K ht hz hb F hkey
  obtain ⟨v, w1, hrun2, hw1⟩ := entry_world K ht hz hb F hkey
  rw [hrun] at hrun2
  injection hrun2 with hv hw
  have hblt : b < w.heap.size := (Array.getElem?_eq_some_iff.1 hb).1
  refine ⟨v0, st, setBlock w b (.map es1 clock1), hrun, ⟨xs, clock, es1, clock1, hb, rfl⟩, ?_, fun w2 val hw2 => ?_⟩
  · rcases hw1 with hw1 | ⟨hw1, hlk⟩
    · rw [hw, hw1, setBlock_self hb]
      exact h0.look (Maps.Keyed.of_law K) ht (hz w) hkey
    · obtain ⟨w', hrun', hM, -⟩ := h0.store (Maps.Keyed.of_law K) ht hn hkey (val := z)
      rw [hw1] at hrun'
      have hww := (Result.ok.inj hrun').2
      have h3 := h0.look (Maps.Keyed.of_law K) ht (hz w) hkey
      rw [hlk] at h3
      replace h3 := (Result.ok.inj h3).1
      obtain ⟨bs, hbs⟩ := K.str hkey
      have hlp := look_put_same es kl (show WideAt.IsKeyLit kl by rw [hbs]; trivial) z
      have h5 := hM.look (Maps.Keyed.of_law K) ht (hz w') hkey
      rw [hlp] at h5
      have h6 : (lookL es kl).getD z = z := h3.symm
      rewrite [h6]
      rewrite [hw]
      rewrite [hww]
      exact h5
  · obtain ⟨es', clock', hrs, hup⟩ := hst w2 val (hw2.trans (by show (w.heap.setIfInBounds b _)[b]? = _; rw [Array.getElem?_setIfInBounds_self_of_lt hblt]))
    obtain ⟨w', hrun', hM, -⟩ := h0.store (Maps.Keyed.of_law K) ht hn hkey (val := val)
    rw [hup] at hrun'
    have hww := (Result.ok.inj hrun').2
    have hb2 : w2.heap[b]? = some (.map es1 clock1) := hw2.trans (by show (w.heap.setIfInBounds b _)[b]? = _; rw [Array.getElem?_setIfInBounds_self_of_lt hblt])
    refine ⟨_, hrs, ?_, ⟨es1, clock1, es', clock', hb2, rfl⟩⟩
    rw [← hww] at hM
    obtain ⟨ys, cl, hh, r⟩ := hM
    refine ⟨ys, cl, ?_, r⟩
    rw [← hh]
    have hblt2 : b < w2.heap.size := (Array.getElem?_eq_some_iff.1 hb2).1
    show (w2.heap.setIfInBounds b _)[b]? = (w.heap.setIfInBounds b _)[b]?
    rw [Array.getElem?_setIfInBounds_self_of_lt hblt, Array.getElem?_setIfInBounds_self_of_lt hblt2]
end
end Go.Proofs.Ytejheedekiojnaa.Mp
