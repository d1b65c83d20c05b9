/-
  Disks (layer 7): for DiskMany: what many new files, and many that go, come to. No program in sight. No condition but that there are 31 names at most.
-/
import Derived.Test.YtnmkdchgihgbhaaDkWorks
open Go Go.RowKit
namespace Go.Proofs.Ytnmkdchgihgbhaa.Dk
open Base Mp

/-- The name of a letter and another one. -/
def lc (i : Nat) : UInt8 := UInt8.ofNat (97 + i)
def nm (c : UInt8) (i : Nat) : Key := [c, lc i]
theorem nm_len (c : UInt8) (i : Nat) : (nm c i).length = 2 := rfl
theorem nm_may (i : Nat) (hi : i < 26) : mayName (nm 102 i) = true ∧ mayName (nm 103 i) = true := by
  have : ∀ i : Fin 26, mayName (nm 102 i.val) = true ∧ mayName (nm 103 i.val) = true := by decide +kernel
  exact this ⟨i, hi⟩
theorem nm_inj {c : UInt8} {i j : Nat} (hi : i < 26) (hj : j < 26) (h : nm c i = nm c j) : i = j := by
  unfold nm at h
  injection h with _ h
  injection h with h
  unfold lc at h
  have h2 := congrArg UInt8.toNat h
  rw [UInt8.toNat_ofNat', UInt8.toNat_ofNat', Nat.mod_eq_of_lt (by omega), Nat.mod_eq_of_lt (by omega)] at h2
  omega
theorem nm_fg {i j : Nat} (h : nm 102 i = nm 103 j) : False := by
  unfold nm at h
  injection h with h
  exact absurd h (by decide)
/-- A disk that is not fused, of files with these names just. -/
structure Has (D : DiskD) (F G : Nat → Prop) (m : Nat) : Prop where
  len : D.files.length = m
  fused : D.fused = false
  f : ∀ i, i < 26 → ((lookL D.files (keyS (nm 102 i))).isSome = true ↔ F i)
  g : ∀ i, i < 26 → ((lookL D.files (keyS (nm 103 i))).isSome = true ↔ G i)
  h : lookL D.files (keyS [104]) = none
  nodup : D.files.Pairwise fun p q => p.1 ≠ q.1
theorem Has.still {D : DiskD} {F G : Nat → Prop} {m : Nat} (h : Has D F G m) : still D = false := by unfold Dk.still; rw [h.fused]; rfl
theorem has_done {D : DiskD} {F G : Nat → Prop} {m : Nat} (h : Has D F G m) : done D = D := by unfold done; rw [h.fused]; rfl
theorem Has.room {D : DiskD} {F G : Nat → Prop} {m : Nat} (h : Has D F G m) {n : Key} (hn : mayName n = true) (hl : lookL D.files (keyS n) = none) (hm : m < 16) : createD D n = ({ D with files := putL D.files (keyS n) ⟨[], 0, true⟩ }, 0) := by
  unfold createD
  rw [if_neg (by rw [hn]; decide), if_neg (by rw [h.still]; decide), if_neg (by rw [hl]; decide), if_neg (by rw [h.len]; omega)]
  unfold done
  rw [if_neg (by rw [h.fused]; decide)]
theorem Has.full {D : DiskD} {F G : Nat → Prop} {m : Nat} (h : Has D F G m) {n : Key} (hn : mayName n = true) (hl : lookL D.files (keyS n) = none) (hm : 16 ≤ m) : createD D n = (D, 6) := by
  unfold createD
  rw [if_neg (by rw [hn]; decide), if_neg (by rw [h.still]; decide), if_neg (by rw [hl]; decide), if_pos (by rw [h.len]; omega)]
theorem look_put (l : FS) (k q : Key) (F : FileD) : (lookL (putL l (keyS k) F) (keyS q)).isSome = true ↔ q = k ∨ (lookL l (keyS q)).isSome = true := by
  by_cases h : q = k
  · subst h
    rw [look_put_same _ _ (isKey q)]
    simp
  · rw [look_put_other _ _ _ (fun e => h (keyS_inj e))]
    simp [h]
theorem put_len {l : FS} {k : Key} {F : FileD} (h : lookL l (keyS k) = none) : (putL l (keyS k) F).length = l.length + 1 := put_length_new _ _ _ h
theorem put_nodup {l : FS} {k : Key} {F : FileD} (h : lookL l (keyS k) = none) (hn : l.Pairwise fun p q => p.1 ≠ q.1) : (putL l (keyS k) F).Pairwise fun p q => p.1 ≠ q.1 := by
  have hperm := put_perm l (keyS k) F
  rw [del_none _ _ h] at hperm
  refine hperm.symm.pairwise (List.pairwise_cons.2 ⟨fun p hp e => ?_, hn⟩) (fun h e => h e.symm)
  unfold lookL at h
  rw [Option.map_eq_none_iff, List.find?_eq_none] at h
  exact h p hp (by rw [← e]; exact WideAt.sameKey_self (isKey k))
theorem Has.putF {D : DiskD} {F G : Nat → Prop} {m : Nat} (h : Has D F G m) {i : Nat} (hi : i < 26) (hl : ¬ F i) : Has { D with files := putL D.files (keyS (nm 102 i)) ⟨[], 0, true⟩ } (fun j => j = i ∨ F j) G (m + 1) := by
  have hno : lookL D.files (keyS (nm 102 i)) = none := by
    cases hh : lookL D.files (keyS (nm 102 i)) with
    | none => rfl
    | some x => exact absurd ((h.f i hi).1 (by rw [hh]; rfl)) hl
  refine ⟨by rw [← h.len]; exact put_len hno, h.fused, fun j hj => ?_, fun j hj => ?_, ?_, put_nodup hno h.nodup⟩
  · rw [look_put, h.f j hj]
    exact ⟨fun e => e.imp (fun e => nm_inj hj hi e) id, fun e => e.imp (fun e => by rw [e]) id⟩
  · rw [look_put, h.g j hj]
    exact ⟨fun e => e.elim (fun e => (nm_fg e.symm).elim) id, .inr⟩
  · show lookL (putL _ _ _) (keyS [104]) = none
    rw [look_put_other _ _ _ (fun e => by have := keyS_inj e; unfold nm at this; simp at this)]
    exact h.h
theorem Has.putG {D : DiskD} {F G : Nat → Prop} {m : Nat} (h : Has D F G m) {i : Nat} (hi : i < 26) (hl : ¬ G i) : Has { D with files := putL D.files (keyS (nm 103 i)) ⟨[], 0, true⟩ } F (fun j => j = i ∨ G j) (m + 1) := by
  have hno : lookL D.files (keyS (nm 103 i)) = none := by
    cases hh : lookL D.files (keyS (nm 103 i)) with
    | none => rfl
    | some x => exact absurd ((h.g i hi).1 (by rw [hh]; rfl)) hl
  refine ⟨by rw [← h.len]; exact put_len hno, h.fused, fun j hj => ?_, fun j hj => ?_, ?_, put_nodup hno h.nodup⟩
  · rw [look_put, h.f j hj]
    exact ⟨fun e => e.elim (fun e => (nm_fg e).elim) id, .inr⟩
  · rw [look_put, h.g j hj]
    exact ⟨fun e => e.imp (fun e => nm_inj hj hi e) id, fun e => e.imp (fun e => by rw [e]) id⟩
  · show lookL (putL _ _ _) (keyS [104]) = none
    rw [look_put_other _ _ _ (fun e => by have := keyS_inj e; unfold nm at this; simp at this)]
    exact h.h
theorem del_len {l : FS} {k : Lit} {F : FileD} (hn : l.Pairwise fun p q => p.1 ≠ q.1) (h : lookL l k = some F) : (delL l k).length + 1 = l.length := by
  induction l with
  | nil => cases h
  | cons x r ih =>
    obtain ⟨h1, h2⟩ := List.pairwise_cons.1 hn
    unfold delL
    rw [List.filter_cons]
    cases hs : x.1.sameKey k with
    | true =>
      have hxk := WideAt.sameKey_eq hs
      have hr : (r.filter fun p => !p.1.sameKey k) = r := List.filter_eq_self.2 fun p hp => by
        cases hq : p.1.sameKey k with
        | false => rfl
        | true => exact absurd (hxk.trans (WideAt.sameKey_eq hq).symm) (h1 p hp)
      simp [hr]
    | false =>
      have hl2 : lookL r k = some F := by
        unfold lookL at h ⊢
        rw [List.find?_cons, hs] at h
        exact h
      have := ih h2 hl2
      unfold delL at this
      simp
      omega
theorem Has.dropF {D : DiskD} {F G : Nat → Prop} {m : Nat} (h : Has D F G (m + 1)) {i : Nat} (hi : i < 26) (hl : F i) : removeD D (nm 102 i) = ({ D with files := delL D.files (keyS (nm 102 i)) }, 0) ∧ Has { D with files := delL D.files (keyS (nm 102 i)) } (fun j => j ≠ i ∧ F j) G m := by
  obtain ⟨x, hx⟩ : ∃ x, lookL D.files (keyS (nm 102 i)) = some x := Option.isSome_iff_exists.1 ((h.f i hi).2 hl)
  constructor
  · unfold removeD opD
    rw [if_neg (by rw [h.still]; decide), hx]
    simp only
    unfold done
    rw [if_neg (by rw [h.fused]; decide)]
  · refine ⟨?_, h.fused, fun j hj => ?_, fun j hj => ?_, ?_, h.nodup.filter _⟩
    · have := del_len h.nodup hx
      rw [h.len] at this
      show (delL D.files _).length = m
      omega
    · by_cases e : j = i
      · subst e
        rw [look_del_same]
        simp
      · rw [look_del_other _ _ _ (fun e2 => e (nm_inj hj hi (keyS_inj e2))), h.f j hj]
        simp [e]
    · rw [look_del_other _ _ _ (fun e2 => nm_fg (keyS_inj e2).symm), h.g j hj]
    · show lookL (delL _ _) (keyS [104]) = none
      rw [look_del_other _ _ _ (fun e => by have := keyS_inj e; unfold nm at this; simp at this)]
      exact h.h
theorem has_none : Has dA0 (fun _ => False) (fun _ => False) 0 := ⟨rfl, rfl, fun i _ => by simp [dA0, lookL], fun i _ => by simp [dA0, lookL], rfl, List.Pairwise.nil⟩
end Go.Proofs.Ytnmkdchgihgbhaa.Dk
