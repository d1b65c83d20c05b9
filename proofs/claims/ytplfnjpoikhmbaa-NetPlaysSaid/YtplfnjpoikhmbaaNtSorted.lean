/-
  The net (layer 30): slices.Sorted(maps.Keys(m)): the keys by their size.
  Conditions: the call holds the map; it has fewer than 60000 keys.
-/
import Derived.Test.YtplfnjpoikhmbaaNtSort
import Derived.Test.YtplfnjpoikhmbaaNtIter
import Derived.Test.YtplfnjpoikhmbaaNtMath
open Go Go.RowKit Go.Sort
namespace Go.Proofs.Ytplfnjpoikhmbaa.Nt
open Base Mp

theorem own_holds {w : World} {base g n cap : Nat} {ss : List Int} (h : w.ownsRow base 28 1 (.slice (some ⟨g, 0, none⟩) n cap) n (ss.map U)) : Holds U w g 0 ss.toArray ∧ g < w.heap.size ∧ ss.length = n := by
  have hl : ss.length = n := by have := h.1; simpa using this
  obtain ⟨-, ⟨h1, -⟩ | ⟨g', cap', cur, h1, hg, hb, r1, r2, r3, r4⟩⟩ := h
  · cases h1
  · injection h1 with h1 h2 h3
    injection h1 with h1
    injection h1 with h1
    subst h1
    refine ⟨fun j hj => ?_, (Array.getElem?_eq_some_iff.1 hb).1, hl⟩
    have hj' : j < ss.length := by simpa using hj
    refine ⟨?_, by simp [World.frozen?, hb]⟩
    have e : (cur.toList.take (n * 1))[j]? = (ss.map U)[j]? := by rw [r4]
    rw [List.getElem?_take_of_lt (by omega)] at e
    simp only [World.cell?, hb, Nat.zero_add]
    simp only [Option.isSome_none, Bool.false_eq_true, if_false]
    rw [← Array.getElem?_toList, e]
    simp [hj']
theorem own_turned {w w' : World} {base g n cap : Nat} {ss ts : List Int} (h : w.ownsRow base 28 1 (.slice (some ⟨g, 0, none⟩) n cap) n (ss.map U)) (k : RowTo g 0 w w' ss.toArray ts.toArray) : w'.ownsRow base 28 1 (.slice (some ⟨g, 0, none⟩) n cap) n (ts.map U) := by
  have hl : ss.length = n := by have := h.1; simpa using this
  have hk : ts.length = ss.length := by have := k.size; simpa using this
  obtain ⟨-, ⟨h1, -⟩ | ⟨g', cap', cur, h1, hg, hb, r1, r2, r3, r4⟩⟩ := h
  · cases h1
  · injection h1 with h1 h2 h3
    injection h1 with h1
    injection h1 with h1
    subst h1 h3
    obtain ⟨-, m, os, rfl⟩ := k
    have hlt : g < w.heap.size := (Array.getElem?_eq_some_iff.1 hb).1
    refine ⟨by simp; omega, .inr ⟨g, cap, putCells U 0 ts.toArray cur, rfl, hg, ?_, r1, r2, by simp [putCells, r3], ?_⟩⟩
    · rw [heap_grow_old _ _ (by simpa using hlt)]
      simp [putRow, mapBlock, Sort.ahead, Array.getElem?_modify, hb, onCells]
    · apply List.ext_getElem?
      intro j
      by_cases hj : j < ts.length
      · rw [List.getElem?_take_of_lt (by omega), Array.getElem?_toList]
        simp [putCells, hj, show j < cur.size by omega]
      · rw [List.getElem?_take_eq_none (by omega), List.getElem?_eq_none (by simp; omega)]
theorem Keys_f (mb : Option Nat) (w : World) : Calls Try.prog 26 #[.map mb] w fun e w' => e = .returned (.func (.func 29) #[] #[.pointer (some ⟨w.heap.size, 0, none⟩)]) ∧ w' = w.alloc (.cells #[.map mb] 55) :=
  (callsIn_wide (n := 5)).1 (Keys_in Fence.wide 5 trivial rfl mb w)
theorem AppendSeq_f (Bm b : Nat) (es : List (Lit × Value)) (w : World) (hBm : Bm < w.heap.size) (hm : w.cell? ⟨Bm, 0, none⟩ = some (.map (some b))) (hown : MapL Try.prog 28 w b es) (hlen : es.length ≤ 60000) :
    Calls Try.prog 30 #[.slice none 0 0, .func (.func 29) #[] #[.pointer (some ⟨Bm, 0, none⟩)]] w fun e W' => ∃ (v : Value) (ss : List Int), e = .returned v ∧ (ss.Nodup ∧ (∀ x, x ∈ ss ↔ hasL es (.int .u64 x) = true) ∧ ss.length ≤ es.length) ∧
      W'.ownsRow w.heap.size 28 1 v ss.length (ss.map U) ∧ Go.RowKit.Below w.heap.size w W' :=
  (callsIn_wide (n := 5)).1 (AppendSeq_in Fence.wide 5 trivial trivial rfl (by omega) Bm b es w hBm hm hown (by unfold maxLen; omega) (by omega))
theorem Collect_f (Bm b : Nat) (es : List (Lit × Value)) (w : World) (hBm : Bm < w.heap.size) (hm : w.cell? ⟨Bm, 0, none⟩ = some (.map (some b))) (hown : MapL Try.prog 28 w b es) (hlen : es.length ≤ 60000) :
    Calls Try.prog 27 #[.func (.func 29) #[] #[.pointer (some ⟨Bm, 0, none⟩)]] w fun e W' => ∃ (v : Value) (ss : List Int), e = .returned v ∧ (ss.Nodup ∧ (∀ x, x ∈ ss ↔ hasL es (.int .u64 x) = true) ∧ ss.length ≤ es.length) ∧
      W'.ownsRow w.heap.size 28 1 v ss.length (ss.map U) ∧ Go.RowKit.Below w.heap.size w W' := by
  have HA := Lib.hid (AppendSeq_f Bm b es w hBm hm hown hlen)
  clear hBm hm hown
  go_enter Try.func27, Try.ntmps27
  go_wp2_with fail
  with_reducible refine HA.out.mono ?_
  rintro e w1 ⟨v, ss, rfl, h1, h2, h3⟩
  go_wp2
  go_ret
  exact ⟨v, ss, rfl, h1, h2, h3⟩
theorem srtU_length (ss : List Int) : (srtU ss).length = ss.length := by unfold srtU; simp
theorem Sorted_f (b : Nat) (es : List (Lit × Value)) (w : World) (h : MapL Try.prog 28 w b es) (hn : es.length ≤ 60000) :
    Calls Try.prog 25 #[.func (.func 29) #[] #[.pointer (some ⟨w.heap.size, 0, none⟩)]] (w.alloc (.cells #[.map (some b)] 55)) fun e w' => ∃ (v : Value) (ss : List Int), e = .returned v ∧ (ss.Nodup ∧ (∀ x, x ∈ ss ↔ hasL es (.int .u64 x) = true) ∧ ss.length ≤ es.length) ∧
      w'.ownsRow (w.heap.size + 1) 28 1 v ss.length ((srtU ss).map U) ∧ Go.RowKit.Below (w.heap.size + 1) (w.alloc (.cells #[.map (some b)] 55)) w' := by
  have hm : (w.alloc (.cells #[.map (some b)] 55)).cell? ⟨w.heap.size, 0, none⟩ = some (.map (some b)) := by simp
  have hz : (w.alloc (.cells #[.map (some b)] 55)).heap.size = w.heap.size + 1 := by simp
  have HC := Lib.hid (hz ▸ Collect_f w.heap.size b es (w.alloc (.cells #[.map (some b)] 55)) (by simp) hm (h.next ((Go.RowKit.Below.refl _ _).alloc (Nat.le_refl _) _)) hn)
  clear hm h hz
  generalize w.alloc (.cells #[.map (some b)] 55) = W0 at *
  generalize w.heap.size + 1 = K at *
  go_enter Try.func25, Try.ntmps25
  go_wp2_with fail
  with_reducible refine HC.out.mono ?_
  rintro e w1 ⟨v, ss, rfl, hS, hr, hb⟩
  have HS := Lib.hid hS
  have HB := Lib.hid hb
  have hlen : ss.length < 65536 := by have := hS.2.2; omega
  clear hb hS
  rcases hr.2 with ⟨rfl, hz⟩ | ⟨g, cap, cur, rfl, hg, -⟩
  · have hss : ss = [] := List.length_eq_zero_iff.1 hz
    subst hss
    have HR := Lib.hid hr
    clear hr hz
    go_wp2_with fail
    refine (Sort_none _).mono ?_
    rintro e w2 ⟨rfl, rfl⟩
    go_wp2
    go_ret
    refine ⟨_, [], rfl, HS.out, ?_, HB.out⟩
    rw [show srtU [] = [] by unfold srtU; simp]
    exact HR.out
  · have HR := Lib.hid hr
    obtain ⟨hH, hlt, -⟩ := own_holds hr
    have HT := Lib.hid (Sort_f g 0 cap ss.toArray w1 hH hlt (by simpa using hlen))
    rw [show ss.toArray.size = ss.length by simp] at HT
    have hgg : K ≤ g := hg
    clear hr hH
    go_wp2_with fail
    with_reducible refine HT.out.mono ?_
    rintro e w2 ⟨rfl, hr2⟩
    have HR2 := Lib.hid (show RowTo g 0 w1 w2 ss.toArray (srtU ss).toArray from hr2)
    clear hr2
    go_wp2
    go_ret
    exact ⟨_, ss, rfl, HS.out, own_turned HR.out HR2.out, HB.out.trans (HR2.out.below hgg hlt)⟩
/-- The keys of messages, by their size. -/
theorem keys_are {G : List GramD} (hG : Rising G) {ss : List Int} (h : ss.Nodup ∧ (∀ x, x ∈ ss ↔ hasL (G.map entG) (.int .u64 x) = true) ∧ ss.length ≤ (G.map entG).length) : srtU ss = G.map fun g => (g.id : Int) := by
  have hr : (G.map fun g => (g.id : Int)).Pairwise (· < ·) := by
    rw [List.pairwise_map]
    exact hG.imp (fun {a b} hab => by omega)
  have hnd : (G.map fun g => (g.id : Int)).Nodup := hr.imp (fun {a b} hab => by omega)
  have hp : ss.Perm (G.map fun g => (g.id : Int)) := by
    refine (List.perm_ext_iff_of_nodup h.1 hnd).2 fun x => ?_
    rw [h.2.1 x]
    unfold hasL
    rw [List.any_map, List.any_eq_true, List.mem_map]
    constructor
    · rintro ⟨g, hg, hx⟩
      refine ⟨g, hg, ?_⟩
      simpa [entG, keyU, Lit.sameKey] using hx
    · rintro ⟨g, hg, rfl⟩
      exact ⟨g, hg, by simp [entG, keyU, Lit.sameKey]⟩
  unfold srtU
  have tr : ∀ a b c : Int, (decide (a ≤ b)) = true → (decide (b ≤ c)) = true → (decide (a ≤ c)) = true := fun a b c h1 h2 => by simp only [decide_eq_true_eq] at *; omega
  have tot : ∀ a b : Int, ((decide (a ≤ b)) || (decide (b ≤ a))) = true := fun a b => by simp only [Bool.or_eq_true, decide_eq_true_eq]; omega
  refine List.Perm.eq_of_pairwise (le := fun a b => decide (a ≤ b) = true) (fun a b _ _ h1 h2 => ?_) (List.pairwise_mergeSort tr tot ss) (hr.imp (fun {a b} hab => by simp; omega)) ((List.mergeSort_perm ss _).trans hp)
  simp only [decide_eq_true_eq] at h1 h2
  omega
end Go.Proofs.Ytplfnjpoikhmbaa.Nt
