/-
  Disks (layer 7): the walk of Names. No condition.
-/
import Derived.Test.YtpiaplgbpjgjiaaGreatDoorZDkNil
import Derived.Test.YtpiaplgbpjgjiaaGreatDoorZDkCrashM
import Derived.Test.YtpiaplgbpjgjiaaGreatDoorZDkIter
open Go Go.RowKit Go.Maps
namespace Go.Proofs.YtpiaplgbpjgjiaaGreatDoor.Dk
open Base Mp

def encS (k : Key) : Value := .string (B k)
theorem Keys_f (mb : Option Nat) (W : World) : Calls Tryz.prog 71 #[.map mb] W fun e w' => e = .returned (.func (.func 80) #[] #[.pointer (some ⟨W.heap.size, 0, none⟩)]) ∧ w' = W.alloc (.cells #[.map mb] 56) :=
  (callsIn_wide (n := 5)).1 (Tryz.maps_Keys_71 mb W)
theorem Sorted_f (b : Nat) (es : List (Lit × Value)) (w : World) (h : MapL Tryz.prog 9 w b es) (hn : es.length ≤ 8796093022207) :
    Calls Tryz.prog 70 #[.func (.func 80) #[] #[.pointer (some ⟨w.heap.size, 0, none⟩)]] (w.alloc (.cells #[.map (some b)] 56)) fun e w' => ∃ v : Value, e = .returned v ∧
      w'.ownsRow (w.heap.size + 1) 9 1 v (srt (es.map fun p => strOf p.1)).length ((srt (es.map fun p => strOf p.1)).map encS) ∧ Below (w.heap.size + 1) (w.alloc (.cells #[.map (some b)] 56)) w' := by
  have hsz : Maps.size (DataW.map (es.map hv)) = es.length := size_hv es
  refine ((callsIn_wide (n := 5)).1 (Tryz.slices_Sorted_keys_70_71 b es.length (.map (es.map hv)) HV w h (by rw [hsz]; unfold maxLen; omega) (by rw [hsz]; omega))).mono ?_
  rintro e w' ⟨v, ss, rfl, hp, hr, -, hb⟩
  have hz : (w.alloc (.cells #[.map (some b)] 56)).heap.size = w.heap.size + 1 := by simp
  rw [hz] at hr hb
  have hk : strKeys (DataW.map (es.map hv)) = es.map fun p => strOf p.1 := by
    show (es.map hv).map _ = _
    rw [List.map_map]
    refine List.map_congr_left fun p _ => ?_
    simp only [Function.comp]
    cases hp1 : p.1 <;> simp [hv, hp1, strOf] <;> rfl
  rw [hk] at hp
  have hss : ss.mergeSort (fun x y => decide (x ≤ y)) = srt (es.map fun p => strOf p.1) := srt_eq hp
  rw [hss] at hr
  refine ⟨v, rfl, ?_, hb⟩
  rw [(srt_perm _).length_eq, ← hp.length_eq]
  exact hr
theorem names_form {w : World} {base : Nat} {v : Value} {L : List Key} (h : w.ownsRow base 9 1 v L.length (L.map encS)) : ∃ p cap, v = .slice p L.length cap ∧ ∀ j (hj : j < L.length), ∃ g, p = some ⟨g, 0, none⟩ ∧ base ≤ g ∧ g < w.heap.size ∧ w.cell? ⟨g, j, none⟩ = some (.string (B L[j])) := by
  obtain ⟨hl, h2 | ⟨g, cap, cur, rfl, hg, hb, hnc, hcm, hcs, ht⟩⟩ := h
  · obtain ⟨rfl, h3⟩ := h2
    have hA : L = [] := List.length_eq_zero_iff.1 h3
    subst hA
    exact ⟨none, 0, rfl, fun j hj => absurd hj (by simp)⟩
  · refine ⟨some ⟨g, 0, none⟩, cap, rfl, fun j hj => ?_⟩
    have hlt : g < w.heap.size := by
      rcases Nat.lt_or_ge g w.heap.size with h | h
      · exact h
      · rw [Array.getElem?_eq_none h] at hb; cases hb
    refine ⟨g, rfl, hg, hlt, ?_⟩
    have h1 : (cur.toList.take (L.length * 1))[j]? = (L.map encS)[j]? := by rw [ht]
    rw [List.getElem?_take_of_lt (by omega), List.getElem?_map, List.getElem?_eq_getElem hj] at h1
    simp [World.cell?, hb, encS] at h1 ⊢
    exact h1
theorem Names_f {w : World} {b : Nat} {D : DiskD} {T : Nat → Prop} (h : DiskAt w b D T) : Calls Tryz.prog 46 #[.pointer (some ⟨b, 0, none⟩)] w fun e w' => ∃ v, e = .returned v ∧ w'.ownsRow w.heap.size 9 1 v (namesD D).length ((namesD D).map encS) ∧ Below w.heap.size w w' := by
  obtain ⟨tag, blk, bm, h⟩ := h
  have HT := Lib.hid (There_yes w b bm D h.is)
  have c2 := h.is.c2
  have HK := Lib.hid (Keys_f (some bm) w)
  have HS := Lib.hid (Sorted_f bm _ w h.map (by rw [mapE_length]; have := h.fine.few; omega))
  have HE := Lib.hid (show srt ((mapE (fun k (_ : FileD) => ptr (blk k)) D.files).map fun p => strOf p.1) = namesD D by unfold namesD mapE; rw [List.map_map]; rfl)
  have HB := Lib.hid (show Below w.heap.size w (w.alloc (.cells #[.map (some bm)] 56)) from (Below.refl _ _).alloc (Nat.le_refl _) _)
  clear h
  go_enter Tryz.func46, Tryz.ntmps46
  go_wp2_with fail
  with_reducible refine HT.out.mono ?_
  rintro e w1 ⟨rfl, rfl⟩
  go_wp2_with fail
  with_reducible refine HK.out.mono ?_
  rintro e w1 ⟨rfl, rfl⟩
  go_wp2_with fail
  with_reducible refine HS.out.mono ?_
  rintro e w1 ⟨v, rfl, hr, hb⟩
  rw [HE.out] at hr
  have HR := Lib.hid hr
  have HB2 := Lib.hid (HB.out.trans (hb.mono (by omega)))
  clear hr hb
  go_wp2
  go_ret
  exact ⟨_, rfl, own_lower HR.out (by omega), HB2.out⟩
end Go.Proofs.YtpiaplgbpjgjiaaGreatDoor.Dk
