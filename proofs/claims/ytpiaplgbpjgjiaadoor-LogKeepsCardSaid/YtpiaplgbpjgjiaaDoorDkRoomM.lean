/-
  Disks (layer 7): for DiskRoom: the room stays, names rise, and the files' bytes are what the names' files have. No program in sight.
-/
import Derived.Test.YtpiaplgbpjgjiaaDoorDkHeavy
open Go Go.RowKit
namespace Go.Proofs.YtpiaplgbpjgjiaaDoor.Dk
open Base Mp

theorem done_room (D : DiskD) : (done D).room = D.room := by unfold done; split <;> rfl
theorem op_room (D : DiskD) (n : Key) (f : FileD → DiskD × Int) (h : ∀ F, (f F).1.room = D.room) : (opD D n f).1.room = D.room := by
  unfold opD
  split
  · rfl
  · split
    · rfl
    · exact h _
theorem does_room (D : DiskD) (x : StepD) : (doesD D x).1.room = D.room := by
  unfold doesD
  split
  · unfold createD
    repeat' split
    all_goals first | rfl | exact done_room _
  split
  · exact op_room _ _ _ fun F => by
      split
      · rfl
      · exact done_room _
  split
  · exact op_room _ _ _ fun F => done_room _
  split
  · exact op_room _ _ _ fun F => by
      split
      · rfl
      · exact done_room _
  split
  · exact op_room _ _ _ fun F => done_room _
  split
  · unfold spoilD findD
    split
    · rfl
    · simp only
      split <;> rfl
  split
  · unfold fuseD
    split <;> rfl
  split <;> rfl
theorem DW.fine {w0 w : World} {b : Nat} {D : DiskD} (h : DW w0 w b D) : Fine D := by
  obtain ⟨_, T, ⟨tag, blk, bm, hd⟩, _⟩ := h
  exact hd.fine
theorem look_mem {l : FS} (hn : l.Pairwise fun p q => p.1 ≠ q.1) {p : Lit × FileD} (hp : p ∈ l) {F : FileD} (hl : lookL l p.1 = some F) : F = p.2 := by
  have hm := mem_of_look hl
  obtain ⟨i, hi, e1⟩ := List.getElem_of_mem hp
  obtain ⟨j, hj, e2⟩ := List.getElem_of_mem hm
  rcases Nat.lt_trichotomy i j with h | h | h
  · exact absurd (by rw [e1, e2]) (List.pairwise_iff_getElem.1 hn i j hi hj h)
  · subst h
    rw [e1] at e2
    rw [e2]
  · exact absurd (by rw [e1, e2]) (List.pairwise_iff_getElem.1 hn j i hj hi h)
def lenOf (D : DiskD) (n : Key) : Nat := (readD D n).1.length
theorem read_file {D : DiskD} (h : Fine D) {n : Key} (hn : n ∈ namesD D) : ∃ F, lookL D.files (keyS n) = some F ∧ readD D n = (F.bytes, 0) ∧ looseD D n = F.bytes.length - F.sure := by
  obtain ⟨F, hF, _⟩ := h.has hn
  exact ⟨F, hF, by unfold readD findD; rw [hF], by unfold looseD findD; rw [hF]⟩
theorem names_total {D : DiskD} (h : Fine D) : ((namesD D).map (lenOf D)).sum = total D.files := by
  have h1 : ((namesD D).map (lenOf D)).Perm ((D.files.map fun p => strOf p.1).map (lenOf D)) := (srt_perm _).map _
  rw [h1.sum_nat, List.map_map]
  unfold total
  congr 1
  refine List.map_congr_left fun p hp => ?_
  have hn : strOf p.1 ∈ namesD D := (srt_perm _).mem_iff.2 (List.mem_map.2 ⟨p, hp, rfl⟩)
  obtain ⟨F, hF, hr, _⟩ := read_file h hn
  obtain ⟨m, hm, _⟩ := h.names p hp
  have hk : keyS (strOf p.1) = p.1 := by rw [hm]; rfl
  rw [hk] at hF
  have := look_mem h.apart hp hF
  simp only [Function.comp, lenOf, hr, this]
theorem names_rise {D : DiskD} (h : Fine D) {i j : Nat} (hj : j < (namesD D).length) (hij : i < j) : (namesD D)[i] < (namesD D)[j] := by
  have h0 : (namesD D).Pairwise (· ≤ ·) := srt_pair _
  have h1 := List.pairwise_iff_getElem.1 h0 i j (Nat.lt_trans hij hj) hj hij
  have h2 := List.pairwise_iff_getElem.1 h.nodup i j (Nat.lt_trans hij hj) hj hij
  exact Std.lt_of_le_of_ne h1 h2
theorem sum_take (D : DiskD) (i : Nat) (h : i < (namesD D).length) : (((namesD D).take (i + 1)).map (lenOf D)).sum = (((namesD D).take i).map (lenOf D)).sum + lenOf D (namesD D)[i] := by
  rw [List.take_succ_eq_append_getElem h, List.map_append, List.sum_append]
  simp
theorem sum_le (D : DiskD) (i : Nat) : (((namesD D).take i).map (lenOf D)).sum ≤ ((namesD D).map (lenOf D)).sum := by
  conv => rhs; rw [← List.take_append_drop i (namesD D)]
  rw [List.map_append, List.sum_append]
  omega
theorem mem_le_sum {l : List Nat} {n : Nat} (h : n ∈ l) : n ≤ l.sum := by
  induction l with
  | nil => cases h
  | cons a r ih =>
    rw [List.sum_cons]
    rcases List.mem_cons.1 h with rfl | h
    · omega
    · have := ih h; omega
theorem heavy_small {l : List StepD} (h : heavyB l = false) {x : StepD} (hx : x ∈ l) : l.length ≤ 200 ∧ x.name.length ≤ 16384 ∧ x.s.length ≤ 16384 ∧ x.keep.length ≤ 16384 := by
  unfold heavyB at h
  simp only [Bool.or_eq_false_iff, decide_eq_false_iff_not] at h
  have hl : l.length ≤ 200 := by omega
  rw [List.take_of_length_le (by omega)] at h
  have : x.name.length + x.s.length + x.keep.length ≤ heavyN l := by
    unfold heavyN
    exact mem_le_sum (List.mem_map.2 ⟨x, hx, rfl⟩)
  omega
end Go.Proofs.YtpiaplgbpjgjiaaDoor.Dk
