/-
  Counters (layer 12): the walk of alive (a known case).
-/
import Derived.Test.YtloackmpmhgkeaaCntAdd
import Derived.Test.YtloackmpmhgkeaaCntSame
open Go Go.RowKit Go.Maps
namespace Go.Proofs.Ytloackmpmhgkeaa.Cnt
open Base Mp

theorem Gives.is {w w' : World} {v : Value} {f : Fn} {n : Nat} (h : Gives w w' v f n) (l' : List CntD) (hm : may l' = true) (hf : fOf l' = f) : ∃ p cap, v = .slice p l'.length cap ∧ CntsArg w' p l' ∧ Below w.heap.size w w' := by
  obtain ⟨p, cap, l, h1, h2, h3, _, h5⟩ := h
  have : l = l' := h3.unique (hf ▸ may_canon hm)
  subst this
  exact ⟨p, cap, h1, h2, h5⟩
theorem lit_cnts (w : World) (l : List CntD) (C : Array Value) (hC : C.toList = l.flatMap cntC) (ho : Oks l) : CntsArg (w.alloc (.cells C 43)) (some ⟨w.heap.size, 0, none⟩) l := fun j hj => by
  have key : ∀ i, i < 3 → (w.alloc (.cells C 43)).cell? ⟨w.heap.size, 0 + j * 3 + i, none⟩ = (cntC l[j])[i]? := fun i hi => by
    have := World.cell?_alloc_mark w C 43 (0, 0) (0 + j * 3 + i)
    rw [show (w.alloc (.cells C 43)).cell? ⟨w.heap.size, 0 + j * 3 + i, none⟩ = _ from this, ← flat_get l j hj i hi, ← hC, Nat.zero_add]
    simp
  exact ⟨w.heap.size, 0, rfl, ⟨key 0 (by omega), key 1 (by omega), key 2 (by omega)⟩, ho _ (List.getElem_mem hj)⟩
def A1 : List CntD := [⟨[97], 5, 0⟩]
def A2 : List CntD := [⟨[98], 0, 2⟩]
def A3 : List CntD := [⟨[97], 5, 0⟩, ⟨[98], 0, 2⟩]
def A4 : List CntD := [⟨[], 5, 0⟩, ⟨[98], 0, 2⟩]
theorem v0 : valE [] = 0 := by decide +kernel
theorem v1 : valE A1 = 5 := by decide +kernel
theorem v3 : valE A3 = 3 := by decide +kernel
theorem v4 : valE A4 = 3 := by decide +kernel
theorem m1 : may A1 = true := by decide
theorem m2 : may A2 = true := by decide
theorem m3 : may A3 = true := by decide
theorem m4 : may A4 = true := by decide
theorem f1 : fOf A1 = addF (fOf []) [97] 5 0 := by
  funext k
  simp only [fOf, A1, addF, mxP, mxM]
  by_cases h : ([97] : Key) = k
  · subst h; decide
  · have h' : ¬ k = [97] := fun e => h e.symm
    simp [h, h']
theorem f2 : fOf A2 = addF (fOf []) [98] 0 2 := by
  funext k
  simp only [fOf, A2, addF, mxP, mxM]
  by_cases h : ([98] : Key) = k
  · subst h; decide
  · have h' : ¬ k = [98] := fun e => h e.symm
    simp [h, h']
theorem f3 : fOf A3 = fOf (A1 ++ A2) := rfl
theorem f4 : fOf A4 = foldF (fOf A3) [97] := by
  funext k
  simp only [fOf, A4, A3, foldF, mxP, mxM]
  by_cases h : k = [97]
  · subst h; decide
  · by_cases h2 : k = []
    · subst h2; decide
    · have h' : ¬ [97] = k := fun e => h e.symm
      have h2' : ¬ [] = k := fun e => h2 e.symm
      simp [h, h', h2, h2']
theorem ok_small (l : List CntD) (h : ∀ c ∈ l, c.by_.length ≤ 1 ∧ c.plus < 10 ∧ c.minus < 10) : Oks l := fun c hc => by
  obtain ⟨h1, h2, h3⟩ := h c hc
  exact ⟨by unfold maxLen; omega, by omega, by omega⟩
set_option maxHeartbeats 1000000 in
theorem Alive_f (w : World) : Calls Try.prog 8 #[] w fun e w' => e = .returned (.bool true) ∧ Below w.heap.size w w' := by
  have H1 := Lib.hid (Add_f w none 0 [] [97] 5 (fun j hj => by simp at hj) (by simp) (by unfold maxLen; simp) (by omega) (by omega) (by rw [v0]; omega) (by simp [fOf, mxP, mxM]))
  rw [show B [97] = ⟨#[97]⟩ from rfl, List.length_nil] at H1
  go_enter Try.func8, Try.ntmps8
  go_wp2_with fail
  with_reducible refine H1.out.mono ?_
  rintro e w1 ⟨v, rfl, hg⟩
  obtain ⟨p1, cap1, hv, ha1, hb1⟩ := hg.is A1 m1 f1
  rw [show A1.length = 1 from rfl] at hv
  subst hv
  have HB1 := Lib.hid hb1
  have HA1 := Lib.hid ha1
  clear hg ha1 hb1 H1
  have H2 := Lib.hid (Add_f w1 none 0 [] [98] (-2) (fun j hj => by simp at hj) (by simp) (by unfold maxLen; simp) (by omega) (by omega) (by rw [v0]; omega) (by simp [fOf, mxP, mxM]))
  rw [show B [98] = ⟨#[98]⟩ from rfl, List.length_nil] at H2
  go_wp2_with fail
  with_reducible refine H2.out.mono ?_
  rintro e w2 ⟨v, rfl, hg⟩
  obtain ⟨p2, cap2, hv, ha2, hb2⟩ := hg.is A2 m2 f2
  rw [show A2.length = 1 from rfl] at hv
  subst hv
  have HB2 := Lib.hid (later HB1.out hb2)
  have HA1' := Lib.hid (HA1.out.below hb2)
  have HA2 := Lib.hid ha2
  clear hg ha2 hb2 H2 HA1 HB1
  have H3 := Lib.hid (Join_f w2 p1 p2 cap1 cap2 A1 A2 HA1'.out HA2.out (by decide))
  rw [show A1.length = 1 from rfl, show A2.length = 1 from rfl] at H3
  go_wp2_with fail
  with_reducible refine H3.out.mono ?_
  rintro e w3 ⟨v, rfl, hg⟩
  obtain ⟨p3, cap3, hv, ha3, hb3⟩ := hg.is A3 m3 f3
  rw [show A3.length = 2 from rfl] at hv
  subst hv
  have HB3 := Lib.hid (later HB2.out hb3)
  have HA1 := Lib.hid (HA1'.out.below hb3)
  have HA3 := Lib.hid ha3
  clear hg ha3 hb3 H3 HA1' HB2 HA2
  have H4 := Lib.hid (Fold_f w3 p3 cap3 A3 [97] HA3.out (by decide) (by unfold maxLen; simp))
  rw [show B [97] = ⟨#[97]⟩ from rfl, show A3.length = 2 from rfl] at H4
  go_wp2_with fail
  with_reducible refine H4.out.mono ?_
  rintro e w4 ⟨v, rfl, hg⟩
  obtain ⟨p4, cap4, hv, ha4, hb4⟩ := hg.is A4 m4 f4
  rw [show A4.length = 2 from rfl] at hv
  subst hv
  have HB4 := Lib.hid (later HB3.out hb4)
  have HA1' := Lib.hid (HA1.out.below hb4)
  have HA3' := Lib.hid (HA3.out.below hb4)
  have HA4 := Lib.hid ha4
  clear hg ha4 hb4 H4 HA1 HA3 HB3
  have H5 := Lib.hid (Add_over w4 p1 cap1 A1 [98] 9223372036854775807 HA1'.out (by decide) (by omega) (by omega) (by rw [v1]; omega))
  rw [show B [98] = ⟨#[98]⟩ from rfl, show A1.length = 1 from rfl] at H5
  go_wp2_with fail
  with_reducible refine H5.out.mono ?_
  rintro e w5 ⟨rfl, hb5⟩
  have HB5 := Lib.hid (later HB4.out hb5)
  have HA3 := Lib.hid (HA3'.out.below hb5)
  have HA4' := Lib.hid (HA4.out.below hb5)
  clear hb5 H5 HA1' HA3' HA4 HB4
  have H6 := Lib.hid (Value_f w5 p3 cap3 A3 HA3.out (by decide))
  rw [v3, show A3.length = 2 from rfl] at H6
  go_wp2_with fail
  with_reducible refine H6.out.mono ?_
  rintro e w6 ⟨rfl, hb6⟩
  have HB6 := Lib.hid (later HB5.out hb6)
  have HA4 := Lib.hid (HA4'.out.below hb6)
  clear hb6 H6 HA3 HA4' HB5
  have H7 := Lib.hid (Value_f w6 p4 cap4 A4 HA4.out (by decide))
  rw [v4, show A4.length = 2 from rfl] at H7
  go_wp2_with fail
  with_reducible refine H7.out.mono ?_
  rintro e w7 ⟨rfl, hb7⟩
  have HB7 := Lib.hid (later HB6.out hb7)
  have HA4' := Lib.hid (HA4.out.below hb7)
  clear hb7 H7 HA4 HB6
  have hal := (Below.refl w7.heap.size w7).alloc (Nat.le_refl _) (.cells #[.string ⟨#[]⟩, .int .u64 5, .int .u64 0, .string ⟨#[98]⟩, .int .u64 0, .int .u64 2] 43)
  have HL := Lib.hid (lit_cnts w7 A4 #[.string ⟨#[]⟩, .int .u64 5, .int .u64 0, .string ⟨#[98]⟩, .int .u64 0, .int .u64 2] rfl (ok_small _ (by decide)))
  have H8 := Lib.hid (Same_yes _ p4 _ cap4 2 A4 (HA4'.out.below hal) HL.out (by decide))
  rw [show A4.length = 2 from rfl] at H8
  have HB8 := Lib.hid (later HB7.out hal)
  have HA4 := Lib.hid (HA4'.out.below hal)
  clear hal HL HB7 HA4'
  go_wp2_with fail
  with_reducible refine H8.out.mono ?_
  rintro e w8 ⟨rfl, n8, hw8⟩
  have HB9 := Lib.hid (show Below w.heap.size w w8 by rw [hw8]; exact HB8.out.drewN _)
  have HA9 := Lib.hid (show CntsArg w8 p4 A4 by rw [hw8]; exact HA4.out.drewN _)
  clear hw8 H8 HB8 HA4
  have H9 := Lib.hid (May_f w8 p4 cap4 A4 HA9.out (by decide))
  rw [m4, show A4.length = 2 from rfl] at H9
  go_wp2_with fail
  with_reducible refine H9.out.mono ?_
  rintro e w9 ⟨rfl, hb9⟩
  have HB10 := Lib.hid (later HB9.out hb9)
  clear hb9 H9 HB9 HA9
  have hal := (Below.refl w9.heap.size w9).alloc (Nat.le_refl _) (.cells #[.string ⟨#[97]⟩, .int .u64 0, .int .u64 0] 43)
  have HL := Lib.hid (lit_cnts w9 [⟨[97], 0, 0⟩] #[.string ⟨#[97]⟩, .int .u64 0, .int .u64 0] rfl (ok_small _ (by decide)))
  have H10 := Lib.hid (May_f _ _ 1 [⟨[97], 0, 0⟩] HL.out (by decide))
  rw [show may [⟨[97], 0, 0⟩] = false from rfl, show ([⟨[97], 0, 0⟩] : List CntD).length = 1 from rfl] at H10
  have HB11 := Lib.hid (later HB10.out hal)
  clear hal HL HB10
  go_wp2_with fail
  with_reducible refine H10.out.mono ?_
  rintro e w10 ⟨rfl, hb10⟩
  have HB12 := Lib.hid (later HB11.out hb10)
  clear hb10 H10 HB11
  go_wp2
  go_ret
  exact ⟨rfl, HB12.out⟩
end Go.Proofs.Ytloackmpmhgkeaa.Cnt
