/-
  Disks (layer 7): the walks of Sync, Cut, Remove, Loose, Read, Fuse, New. No condition but that names are no longer than a string may be.
-/
import Derived.Test.YtpiaplgbpjgjiaaDoorDkFile
open Go Go.RowKit
namespace Go.Proofs.YtpiaplgbpjgjiaaDoor.Dk
open Base Mp
attribute [local go_sem ↓] Go.wp_at_zero Go.wp_at_succ

/-- A call on a file that is to be changed. -/
def opD (D : DiskD) (n : List UInt8) (f : FileD → DiskD × Int) : DiskD × Int :=
  if still D = true then (D, 70) else match lookL D.files (keyS n) with
    | none => (D, 5)
    | some F => f F
def syncD (D : DiskD) (n : List UInt8) : DiskD × Int := opD D n fun F => (done (withFile D (keyS n) ⟨F.bytes, F.bytes.length, false⟩), 0)
def cutD (D : DiskD) (n : List UInt8) (m : Int) : DiskD × Int := opD D n fun F => if m < 0 ∨ (F.bytes.length : Int) < m then (D, 2) else (done (withFile D (keyS n) ⟨F.bytes.take m.toNat, m.toNat, false⟩), 0)
def removeD (D : DiskD) (n : List UInt8) : DiskD × Int := opD D n fun _ => (done { D with files := delL D.files (keyS n) }, 0)
def OpPost (w : World) (b : Nat) (T : Nat → Prop) (r : DiskD × Int) (e : Ending) (w' : World) : Prop := e = .returned (.int .i64 r.2) ∧ DiskAt w' b r.1 (More T w w') ∧ Kept T w w'
theorem open_cases (blk : Lit → Nat) (D : DiskD) (n : List UInt8) : (∃ c : Int, (c == 0) = false ∧ opened blk D n = (.pointer none, c) ∧ ∀ f, opD D n f = (D, c)) ∨ (still D = false ∧ ∃ F, lookL D.files (keyS n) = some F ∧ opened blk D n = (.pointer (some ⟨blk (keyS n), 0, none⟩), 0) ∧ ∀ f, opD D n f = f F) := by
  cases hs : still D with
  | true => exact .inl ⟨70, by decide, by unfold opened; rw [if_pos hs], fun f => by unfold opD; rw [if_pos hs]⟩
  | false =>
    have hs' : ¬ still D = true := by rw [hs]; decide
    cases hl : lookL D.files (keyS n) with
    | none => exact .inl ⟨5, by decide, by unfold opened; rw [if_neg hs', hl]; rfl, fun f => by unfold opD; rw [if_neg hs', hl]⟩
    | some F => exact .inr ⟨rfl, F, rfl, by unfold opened; rw [if_neg hs', hl]; rfl, fun f => by unfold opD; rw [if_neg hs', hl]⟩
section
variable {w : World} {b : Nat} {D : DiskD} {T : Nat → Prop}
theorem DiskBy.out {tag : Nat → Option Lit} {blk : Lit → Nat} {bm : Nat} {w' : World} (h : DiskBy tag blk bm w' b D T) : DiskAt w' b D (More T w w') := ⟨tag, blk, bm, h.wide (fun _ h => .inl h) (fun i hi => by rcases hi with hi | hi; exact h.old i hi; exact hi.2)⟩
set_option maxRecDepth 100000 in
set_option maxHeartbeats 2000000 in
set_option maxRecDepth 100000 in
set_option maxHeartbeats 2000000 in
theorem Sync_f (h : DiskAt w b D T) (n : List UInt8) (hn : n.length ≤ maxLen) : Calls Tryd.prog 27 #[.pointer (some ⟨b, 0, none⟩), .string (B n)] w (OpPost w b T (syncD D n)) := by
  obtain ⟨tag, blk, bm, h⟩ := h
  have H := Lib.hid h
  have HO := Lib.hid (Open_f h n hn)
  rcases open_cases blk D n with ⟨c, hc, ho, hop⟩ | ⟨hs, F, hl, ho, hop⟩
  · rw [ho] at HO
    have HE := Lib.hid (show syncD D n = (D, c) from hop _)
    clear h hop ho
    go_enter Tryd.func27, Tryd.ntmps27
    go_wp2_with fail
    with_reducible refine HO.out.mono ?_
    rintro e w1 ⟨rfl, rfl⟩
    go_wp2
    go_ret
    rw [HE.out]
    exact ⟨rfl, H.out.out, Kept.refl _ _⟩
  · rw [ho] at HO
    have HOP := Lib.hid hop
    obtain ⟨⟨v, hcs, hr, hv⟩, hm⟩ := h.at hl
    have c0 := (hcs 0 (by omega)).1
    simp only [fileCell] at c0
    obtain ⟨p, cap, rfl, -⟩ := own_take hr (Nat.le_refl _)
    have HL := Lib.hid hl
    have HS := Lib.hid hs
    have HM := Lib.hid (show ∀ i, tag i = some (keyS n) → T i from fun i hi => h.minet i _ hi)
    have HB := Lib.hid h.mineb
    have c2 := h.is.c2
    clear h hop ho hr hv hm hs hl hcs
    have HE := Lib.hid (show syncD D n = (done (withFile D (keyS n) ⟨F.bytes, F.bytes.length, false⟩), 0) from HOP.out _)
    have HF := Lib.hid (FSync_f H.out HL.out F.bytes.length (Nat.le_refl _))
    go_enter Tryd.func27, Tryd.ntmps27
    go_wp2_with fail
    with_reducible refine HO.out.mono ?_
    rintro e w1 ⟨rfl, rfl⟩
    go_wp2_with fail
    with_reducible refine HF.out.mono ?_
    rintro e w1 ⟨rfl, h1, k1⟩
    rw [List.take_length] at h1
    replace k1 := k1.mono HM.out
    clear c0 c2
    have H1 := Lib.hid h1
    have K1 := Lib.hid k1
    have HS1 := Lib.hid (show still (withFile D (keyS n) ⟨F.bytes, F.bytes.length, false⟩) = false from HS.out)
    clear h1 k1
    go_wp2_with fail
    with_reducible refine (Done_f H1.out HS1.out).mono ?_
    rintro e w2 ⟨rfl, h2, k2⟩
    have H2 := Lib.hid h2
    have K2 := Lib.hid (K1.out.trans (k2.mono (T' := T) (fun i hi => by rw [hi]; exact HB.out)) (fun _ h => .inl h))
    clear h2 k2
    go_wp2
    go_ret
    rw [HE.out]
    exact ⟨rfl, H2.out.out, K2.out⟩
set_option maxRecDepth 100000 in
set_option maxHeartbeats 2000000 in
theorem Cut_f (h : DiskAt w b D T) (n : List UInt8) (m : Int) (hn : n.length ≤ maxLen) (hm64 : -9223372036854775808 ≤ m ∧ m ≤ 9223372036854775807) : Calls Tryd.prog 26 #[.pointer (some ⟨b, 0, none⟩), .string (B n), .int .i64 m] w (OpPost w b T (cutD D n m)) := by
  obtain ⟨tag, blk, bm, h⟩ := h
  have H := Lib.hid h
  have HO := Lib.hid (Open_f h n hn)
  rcases open_cases blk D n with ⟨c, hc, ho, hop⟩ | ⟨hs, F, hl, ho, hop⟩
  · rw [ho] at HO
    have HE := Lib.hid (show cutD D n m = (D, c) from hop _)
    clear h hop ho
    go_enter Tryd.func26, Tryd.ntmps26
    go_wp2_with fail
    with_reducible refine HO.out.mono ?_
    rintro e w1 ⟨rfl, rfl⟩
    go_wp2
    go_ret
    rw [HE.out]
    exact ⟨rfl, H.out.out, Kept.refl _ _⟩
  · rw [ho] at HO
    have HOP := Lib.hid hop
    obtain ⟨⟨v, hcs, hr, hv⟩, hm⟩ := h.at hl
    have c0 := (hcs 0 (by omega)).1
    simp only [fileCell] at c0
    obtain ⟨p, cap, rfl, -⟩ := own_take hr (Nat.le_refl _)
    have HL := Lib.hid hl
    have HS := Lib.hid hs
    have HM := Lib.hid (show ∀ i, tag i = some (keyS n) → T i from fun i hi => h.minet i _ hi)
    have HB := Lib.hid h.mineb
    have c2 := h.is.c2
    clear h hop ho hr hv hm hs hl hcs
    by_cases hm : m < 0 ∨ (F.bytes.length : Int) < m
    · have HE := Lib.hid (show cutD D n m = (D, 2) by unfold cutD; rw [HOP.out, if_pos hm])
      go_enter Tryd.func26, Tryd.ntmps26
      go_wp2_with fail
      with_reducible refine HO.out.mono ?_
      rintro e w1 ⟨rfl, rfl⟩
      by_cases hm0 : m < 0
      · clear hm
        go_wp2
        go_ret
        rw [HE.out]
        exact ⟨rfl, H.out.out, Kept.refl _ _⟩
      · have hm1 : (F.bytes.length : Int) < m := hm.resolve_left hm0
        clear hm
        go_wp2
        go_ret
        rw [HE.out]
        exact ⟨rfl, H.out.out, Kept.refl _ _⟩
    · obtain ⟨j, rfl⟩ : ∃ j : Nat, m = (j : Int) := ⟨m.toNat, by omega⟩
      have hj : j ≤ F.bytes.length := by omega
      have HE := Lib.hid (show cutD D n (j : Int) = (done (withFile D (keyS n) ⟨F.bytes.take j, j, false⟩), 0) by unfold cutD; rw [HOP.out, if_neg hm]; rfl)
      have HF := Lib.hid (FSync_f H.out HL.out j hj)
      have m0 : ¬ (j : Int) < 0 := by omega
      have m1 : (j : Int) ≤ (F.bytes.length : Int) := by omega
      clear hm
      go_enter Tryd.func26, Tryd.ntmps26
      go_wp2_with fail
      with_reducible refine HO.out.mono ?_
      rintro e w1 ⟨rfl, rfl⟩
      go_wp2_with fail
      with_reducible refine HF.out.mono ?_
      rintro e w1 ⟨rfl, h1, k1⟩
      replace k1 := k1.mono HM.out
      clear c0 c2
      have H1 := Lib.hid h1
      have K1 := Lib.hid k1
      have HS1 := Lib.hid (show still (withFile D (keyS n) ⟨F.bytes.take j, j, false⟩) = false from HS.out)
      clear h1 k1
      go_wp2_with fail
      with_reducible refine (Done_f H1.out HS1.out).mono ?_
      rintro e w2 ⟨rfl, h2, k2⟩
      have H2 := Lib.hid h2
      have K2 := Lib.hid (K1.out.trans (k2.mono (T' := T) (fun i hi => by rw [hi]; exact HB.out)) (fun _ h => .inl h))
      clear h2 k2
      go_wp2
      go_ret
      rw [HE.out]
      exact ⟨rfl, H2.out.out, K2.out⟩
end
end Go.Proofs.YtpiaplgbpjgjiaaDoor.Dk
