/-
  Disks (layer 7): the small walks: there, still, done, find, open. No condition.
-/
import Derived.Test.YtpiaplgbpjgjiaaDoorDkMem
import Derived.WalkSpells
import Derived.Outline
import Derived.BigQuiet
open Go Go.RowKit
namespace Go.Proofs.YtpiaplgbpjgjiaaDoor.Dk
open Base Mp

theorem There_no (w : World) : Calls Tryd.prog 34 #[.pointer none] w fun e w' => e = .returned (.bool false) ∧ w = w' := by
  go_enter Tryd.func34, Tryd.ntmps34
  go_wp2
  go_ret
  exact ⟨rfl, rfl⟩
/-- The head's cells, one by one. -/
structure HeadIs (w : World) (b bm : Nat) (D : DiskD) : Prop where
  c0 : w.cell? ⟨b, 0, none⟩ = some (.bool true)
  c1 : w.cell? ⟨b, 1, none⟩ = some (.int .i64 (D.room : Int))
  c2 : w.cell? ⟨b, 2, none⟩ = some (.map (some bm))
  c3 : w.cell? ⟨b, 3, none⟩ = some (.bool D.fused)
  c4 : w.cell? ⟨b, 4, none⟩ = some (.int .i64 (D.calls : Int))
  f3 : w.frozen? ⟨b, 3, none⟩ = false
  f4 : w.frozen? ⟨b, 4, none⟩ = false
theorem DiskBy.is {tag : Nat → Option Lit} {blk : Lit → Nat} {bm : Nat} {w : World} {b : Nat} {D : DiskD} {T : Nat → Prop} (h : DiskBy tag blk bm w b D T) : HeadIs w b bm D :=
  ⟨(h.head 0 (by omega)).1, (h.head 1 (by omega)).1, (h.head 2 (by omega)).1, (h.head 3 (by omega)).1, (h.head 4 (by omega)).1, (h.head 3 (by omega)).2, (h.head 4 (by omega)).2⟩
theorem There_yes (w : World) (b bm : Nat) (D : DiskD) (h : HeadIs w b bm D) : Calls Tryd.prog 34 #[.pointer (some ⟨b, 0, none⟩)] w fun e w' => e = .returned (.bool true) ∧ w = w' := by
  have c0 := h.c0
  clear h
  go_enter Tryd.func34, Tryd.ntmps34
  go_wp2
  go_ret
  exact ⟨rfl, rfl⟩
theorem Still_f (w : World) (b bm : Nat) (D : DiskD) (h : HeadIs w b bm D) : Calls Tryd.prog 36 #[.pointer (some ⟨b, 0, none⟩)] w fun e w' => e = .returned (.bool (still D)) ∧ w = w' := by
  have c3 := h.c3
  have c4 := h.c4
  clear h
  obtain ⟨rm, fs, fu, ca⟩ := D
  simp only at c3 c4
  cases fu
  · go_enter Tryd.func36, Tryd.ntmps36
    go_wp2
    go_ret
    exact ⟨rfl, rfl⟩
  · have HE := Lib.hid (show still ⟨rm, fs, true, ca⟩ = ((ca : Int) == 0) by rw [show still ⟨rm, fs, true, ca⟩ = (ca == 0) from rfl, Bool.eq_iff_iff]; simp)
    go_enter Tryd.func36, Tryd.ntmps36
    go_wp2
    go_ret
    rw [HE.out]
    exact ⟨rfl, rfl⟩
section
variable {tag : Nat → Option Lit} {blk : Lit → Nat} {bm : Nat} {w : World} {b : Nat} {D : DiskD} {T : Nat → Prop}
theorem Done_f (h : DiskBy tag blk bm w b D T) (hs : still D = false) : Calls Tryd.prog 37 #[.pointer (some ⟨b, 0, none⟩)] w fun e w' => e = .returned (.int .i64 0) ∧ DiskBy tag blk bm w' b (done D) T ∧ Kept (fun x => x = b) w w' := by
  have H := Lib.hid h
  have c3 := h.is.c3
  have c4 := h.is.c4
  have f4 := h.is.f4
  have hc := h.fine.calls
  clear h
  by_cases hf : D.fused = true
  · have hca : 0 < D.calls := by
      unfold still at hs
      rw [hf] at hs
      rcases Nat.eq_zero_or_pos D.calls with h | h
      · rw [h] at hs; simp at hs
      · exact h
    have HD := Lib.hid (show done D = { D with calls := D.calls - 1 } by unfold done; rw [if_pos hf])
    rw [hf] at c3
    have HF := Lib.hid hf
    clear hf hs
    go_enter Tryd.func37, Tryd.ntmps37
    go_wp2
    go_ret
    refine ⟨rfl, ?_, Kept.setCell (T := fun x => x = b) (Kept.refl _ w) (.inl rfl) _⟩
    refine H.out.turned (by rw [HD.out]) (Kept.setCell (T := fun x => x = b) (Kept.refl _ w) (.inl rfl) _) ((CellsAt.set H.out.head (i := 4) (by omega) _).congr fun j hj => ?_) H.out.fine.done
    rw [HD.out]
    have : j = 0 ∨ j = 1 ∨ j = 2 ∨ j = 3 ∨ j = 4 := by omega
    rcases this with rfl | rfl | rfl | rfl | rfl
    · rfl
    · rfl
    · rfl
    · rfl
    · show Value.int .i64 ((D.calls : Int) - 1) = Value.int .i64 ((D.calls - 1 : Nat) : Int)
      congr 1
      omega
  · have hf' : D.fused = false := by simpa using hf
    have HD := Lib.hid (show done D = D by unfold done; rw [if_neg hf])
    rw [hf'] at c3
    clear hf hf' hs
    go_enter Tryd.func37, Tryd.ntmps37
    go_wp2
    go_ret
    rw [HD.out]
    exact ⟨rfl, H.out, Kept.refl _ _⟩
theorem Find_yes (h : DiskBy tag blk bm w b D T) (n : List UInt8) (hn : n.length ≤ maxLen) (F : FileD) (hl : lookL D.files (keyS n) = some F) : Calls Tryd.prog 39 #[.pointer (some ⟨b, 0, none⟩), .string (B n)] w fun e w' => e = .returned (.tuple #[.pointer (some ⟨blk (keyS n), 0, none⟩), .int .i64 0]) ∧ w = w' := by
  have HT := Lib.hid (There_yes w b bm D h.is)
  have c2 := h.is.c2
  have hlk := h.map.look keyedS Tryd.underlying68 (zP w) (keyB n hn)
  rw [mapE_look, hl] at hlk
  simp only [Option.map_some, Option.getD_some, ptr] at hlk
  clear h
  go_enter Tryd.func39, Tryd.ntmps39
  go_wp2_with fail
  with_reducible refine HT.out.mono ?_
  rintro e w1 ⟨rfl, rfl⟩
  go_wp2
  go_ret2
  exact ⟨rfl, rfl⟩
theorem Find_no (h : DiskBy tag blk bm w b D T) (n : List UInt8) (hn : n.length ≤ maxLen) (hl : lookL D.files (keyS n) = none) : Calls Tryd.prog 39 #[.pointer (some ⟨b, 0, none⟩), .string (B n)] w fun e w' => e = .returned (.tuple #[.pointer none, .int .i64 5]) ∧ w = w' := by
  have HT := Lib.hid (There_yes w b bm D h.is)
  have c2 := h.is.c2
  have hlk := h.map.look keyedS Tryd.underlying68 (zP w) (keyB n hn)
  rw [mapE_look, hl] at hlk
  simp only [Option.map_none, Option.getD_none] at hlk
  clear h
  go_enter Tryd.func39, Tryd.ntmps39
  go_wp2_with fail
  with_reducible refine HT.out.mono ?_
  rintro e w1 ⟨rfl, rfl⟩
  go_wp2
  go_ret2
  exact ⟨rfl, rfl⟩
theorem Find_nil (w : World) (v : Value) : Calls Tryd.prog 39 #[.pointer none, v] w fun e w' => e = .returned (.tuple #[.pointer none, .int .i64 1]) ∧ w = w' := by
  go_enter Tryd.func39, Tryd.ntmps39
  go_wp2_with (go_at_call 34; with_reducible refine (There_no _).mono ?_; rintro e w' ⟨rfl, rfl⟩)
  go_ret2
  exact ⟨rfl, rfl⟩
/-- What open hands back. -/
def opened (blk : Lit → Nat) (D : DiskD) (n : List UInt8) : Value × Int :=
  if still D = true then (.pointer none, 70) else if (lookL D.files (keyS n)).isSome then (.pointer (some ⟨blk (keyS n), 0, none⟩), 0) else (.pointer none, 5)
theorem Open_f (h : DiskBy tag blk bm w b D T) (n : List UInt8) (hn : n.length ≤ maxLen) : Calls Tryd.prog 38 #[.pointer (some ⟨b, 0, none⟩), .string (B n)] w fun e w' => e = .returned (.tuple #[(opened blk D n).1, .int .i64 (opened blk D n).2]) ∧ w = w' := by
  have HT := Lib.hid (There_yes w b bm D h.is)
  have HS := Lib.hid (Still_f w b bm D h.is)
  cases hst : still D with
  | true =>
    rw [hst] at HS
    have HE := Lib.hid (show opened blk D n = (.pointer none, 70) by unfold opened; rw [if_pos hst])
    clear h
    go_enter Tryd.func38, Tryd.ntmps38
    go_wp2_with fail
    with_reducible refine HT.out.mono ?_
    rintro e w1 ⟨rfl, rfl⟩
    go_wp2_with fail
    with_reducible refine HS.out.mono ?_
    rintro e w1 ⟨rfl, rfl⟩
    go_wp2
    go_ret2
    rw [HE.out]
    exact ⟨rfl, rfl⟩
  | false =>
    rw [hst] at HS
    have HF := Lib.hid (show Calls Tryd.prog 39 #[.pointer (some ⟨b, 0, none⟩), .string (B n)] w fun e w' => e = .returned (.tuple #[(opened blk D n).1, .int .i64 (opened blk D n).2]) ∧ w = w' by
      cases hl : lookL D.files (keyS n) with
      | none =>
        rw [show opened blk D n = (.pointer none, 5) by unfold opened; rw [if_neg (by rw [hst]; decide), hl]; rfl]
        exact Find_no h n hn hl
      | some F =>
        rw [show opened blk D n = (.pointer (some ⟨blk (keyS n), 0, none⟩), 0) by unfold opened; rw [if_neg (by rw [hst]; decide), hl]; rfl]
        exact Find_yes h n hn F hl)
    clear h
    obtain ⟨v, hv⟩ : ∃ v, v = (opened blk D n).1 := ⟨_, rfl⟩
    obtain ⟨x, hx⟩ : ∃ x, x = (opened blk D n).2 := ⟨_, rfl⟩
    rw [← hv, ← hx] at HF
    rw [← hv, ← hx]
    clear hv hx
    go_enter Tryd.func38, Tryd.ntmps38
    go_wp2_with fail
    with_reducible refine HT.out.mono ?_
    rintro e w1 ⟨rfl, rfl⟩
    go_wp2_with fail
    with_reducible refine HS.out.mono ?_
    rintro e w1 ⟨rfl, rfl⟩
    go_wp2_with fail
    with_reducible refine HF.out.mono ?_
    rintro e w1 ⟨rfl, rfl⟩
    go_wp2
    go_ret2
    exact ⟨rfl, rfl⟩
theorem Open_nil (w : World) (v : Value) : Calls Tryd.prog 38 #[.pointer none, v] w fun e w' => e = .returned (.tuple #[.pointer none, .int .i64 1]) ∧ w = w' := by
  go_enter Tryd.func38, Tryd.ntmps38
  go_wp2_with (first | (go_at_call 34; with_reducible refine (There_no _).mono ?_; rintro e w' ⟨rfl, rfl⟩) | (go_at_call 39; with_reducible refine (Find_nil _ _).mono ?_; rintro e w' ⟨rfl, rfl⟩))
  go_ret2
  exact ⟨rfl, rfl⟩
end
end Go.Proofs.YtpiaplgbpjgjiaaDoor.Dk
