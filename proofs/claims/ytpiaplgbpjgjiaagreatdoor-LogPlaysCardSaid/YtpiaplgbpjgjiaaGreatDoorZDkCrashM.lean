/-
  Disks (layer 7): what a crash leaves, in plain words. No program in sight. No condition.
-/
import Derived.Test.YtpiaplgbpjgjiaaGreatDoorZDkA
open Go
namespace Go.Proofs.YtpiaplgbpjgjiaaGreatDoor.Dk
open Mp

abbrev Key := List UInt8
def strOf : Lit → Key
  | .string f => f
  | _ => []
def srt (l : List Key) : List Key := l.mergeSort fun x y => decide (x ≤ y)
theorem srt_pair (l : List Key) : (srt l).Pairwise (· ≤ ·) := by
  have := List.pairwise_mergeSort (le := fun x y : Key => decide (x ≤ y)) (fun a b c h1 h2 => decide_eq_true (List.le_trans (of_decide_eq_true h1) (of_decide_eq_true h2))) (fun a b => by
    rcases List.le_total a b with h | h
    · simp [h]
    · simp [h]) l
  exact this.imp fun h => of_decide_eq_true h
theorem srt_perm (l : List Key) : (srt l).Perm l := List.mergeSort_perm _ _
theorem srt_eq {a b : List Key} (h : a.Perm b) : srt a = srt b :=
  (((srt_perm a).trans h).trans (srt_perm b).symm).eq_of_pairwise (fun _ _ _ _ h1 h2 => List.le_antisymm h1 h2) (srt_pair a) (srt_pair b)
/-- All files' names, rising. -/
def namesD (D : DiskD) : List Key := srt (D.files.map fun p => strOf p.1)
theorem names_len (D : DiskD) : (namesD D).length = D.files.length := by unfold namesD; rw [(srt_perm _).length_eq, List.length_map]
theorem Fine.has {D : DiskD} (h : Fine D) {n : Key} (hn : n ∈ namesD D) : ∃ F, lookL D.files (keyS n) = some F ∧ n.length ≤ 40 := by
  obtain ⟨p, hp, rfl⟩ := List.mem_map.1 ((srt_perm _).mem_iff.1 hn)
  obtain ⟨m, hm, hmy⟩ := h.names p hp
  have hk : keyS (strOf p.1) = p.1 := by rw [hm]; rfl
  rw [hk]
  have hlen : (strOf p.1).length ≤ 40 := by
    rw [hm]
    unfold mayName at hmy
    simp only [Bool.and_eq_true, decide_eq_true_eq] at hmy
    exact hmy.1.2
  unfold lookL
  cases hf : D.files.find? fun q => q.1.sameKey p.1 with
  | none =>
    rw [List.find?_eq_none] at hf
    exact absurd (WideAt.sameKey_self (h.key hp)) (hf p hp)
  | some q => exact ⟨q.2, rfl, hlen⟩
theorem Fine.nodup {D : DiskD} (h : Fine D) : (namesD D).Pairwise (· ≠ ·) := by
  refine (srt_perm _).symm.pairwise ?_ (fun h e => h e.symm)
  rw [List.pairwise_map]
  refine h.apart.imp_of_mem fun {p q} hp hq hpq e => hpq ?_
  obtain ⟨m, hm, _⟩ := h.names p hp
  obtain ⟨m2, hm2, _⟩ := h.names q hq
  rw [hm, hm2] at e ⊢
  exact congrArg keyS e
/-- What stays of a file whose end was loose. -/
def keptOf (F : FileD) (x : Int) : Nat := F.sure + min (max x 0).toNat (F.bytes.length - F.sure)
def crash1 (st : FS × List Int) (n : Key) : FS × List Int := match lookL st.1 (keyS n) with
  | none => st
  | some F => if F.bytes.length - F.sure = 0 ∧ F.fresh = false then st else if F.fresh = true ∧ st.2.headD (-1) < 0 then (delL st.1 (keyS n), st.2.tail) else (setL st.1 (keyS n) ⟨F.bytes.take (keptOf F (st.2.headD (-1))), keptOf F (st.2.headD (-1)), false⟩, st.2.tail)
def crashed (D : DiskD) (keep : List Int) : FS := ((namesD D).foldl crash1 (D.files, keep)).1
def crashD (D : DiskD) (keep : List Int) : DiskD := { D with files := crashed D keep, fused := false, calls := 0 }
theorem crash1_other (st : FS × List Int) (n m : Key) (h : m ≠ n) : lookL (crash1 st n).1 (keyS m) = lookL st.1 (keyS m) := by
  have hk : keyS m ≠ keyS n := fun e => h (keyS_inj e)
  unfold crash1
  cases lookL st.1 (keyS n) with
  | none => rfl
  | some F =>
    simp only
    split
    · rfl
    · split
      · exact look_del_other _ _ _ hk
      · exact look_set_other _ _ _ _ hk
theorem crash_still (l : List Key) (st : FS × List Int) (m : Key) (h : ∀ n ∈ l, m ≠ n) : lookL (l.foldl crash1 st).1 (keyS m) = lookL st.1 (keyS m) := by
  induction l generalizing st with
  | nil => rfl
  | cons n r ih =>
    rw [List.foldl_cons, ih _ (fun x hx => h x (by simp [hx]))]
    exact crash1_other st n m (h n (by simp))
theorem keptOf_le (F : FileD) (x : Int) (h : F.sure ≤ F.bytes.length) : keptOf F x ≤ F.bytes.length := by unfold keptOf; omega
end Go.Proofs.YtpiaplgbpjgjiaaGreatDoor.Dk
