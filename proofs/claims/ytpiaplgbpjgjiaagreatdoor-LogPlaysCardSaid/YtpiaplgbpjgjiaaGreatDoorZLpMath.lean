/-
  Logs (layer 8) beside the document's: plain facts (the good bytes are the records' frames; each step keeps the room; what a step of a script makes of a disk). No condition.
-/
import Derived.Test.YtpiaplgbpjgjiaaGreatDoorZLgRow
open Go Go.RowKit
namespace Go.Proofs.YtpiaplgbpjgjiaaGreatDoor.Lp
open Base Mp Dk Frame Lg

theorem puts_length (rs : List Key) : (puts rs).length = (rs.map fun r => 8 + r.length).sum := by
  induction rs with
  | nil => rfl
  | cons a r ih => rw [puts_cons, List.length_append, put_length, ih, List.map_cons, List.sum_cons]
theorem good_cons (t : Key) (h0 : t ≠ []) (h : (cut t).2.2 = 0) : recs t = (cut t).1 :: recs (cut t).2.1 ∧ good t = 8 + (cut t).1.length + good (cut t).2.1 := by
  have hr := cut_rest t h
  have hl := scanAll_left (cut t).2.1
  unfold recs good
  rw [scanAll_good t h0 h]
  refine ⟨rfl, ?_⟩
  simp only
  omega
/-- What is good of a text are its records' frames. -/
theorem good_len (t : Key) : good t = (puts (recs t)).length := by
  generalize hn : t.length = n
  induction n using Nat.strongRecOn generalizing t with
  | ind n ih =>
    by_cases h0 : t = []
    · subst h0; rfl
    · by_cases h : (cut t).2.2 = 0
      · have hr := cut_rest t h
        obtain ⟨h1, h2⟩ := good_cons t h0 h
        rw [h1, h2, puts_cons, List.length_append, put_length, ih (cut t).2.1.length (by omega) (cut t).2.1 rfl]
      · unfold good recs
        rw [scanAll_bad t h0 h]
        simp [puts]
theorem append_room (D : DiskD) (n s : Key) : (appendD D n s).1.room = D.room := by
  refine op_room D n _ fun F => ?_
  split
  · rfl
  · rw [done_room]; rfl
theorem sync_room (D : DiskD) (n : Key) : (syncD D n).1.room = D.room := op_room D n _ fun F => by rw [done_room]; rfl
theorem cut_room (D : DiskD) (n : Key) (m : Int) : (cutD D n m).1.room = D.room := by
  refine op_room D n _ fun F => ?_
  split
  · rfl
  · rw [done_room]; rfl
theorem create_room (D : DiskD) (n : Key) : (createD D n).1.room = D.room := by
  have h := does_room D ⟨0, n, [], 0, 0, [], none, 0⟩
  exact h
theorem put_room (D : DiskD) (L : LogD) (rs : List Key) : (putRs D L rs).1.room = D.room := by
  unfold putRs
  split
  · rfl
  · split
    · rfl
    · split
      · exact append_room _ _ _
      · exact append_room _ _ _
theorem keep_room (D : DiskD) (L : LogD) : (keepL D L).1.room = D.room := by
  unfold keepL
  split
  · rfl
  · split
    · exact sync_room _ _
    · exact sync_room _ _
theorem ends_room (n t : Key) (r : DiskD × Int) : (ends n t r).1.room = r.1.room := by unfold ends; split <;> rfl
theorem mend_room (D : DiskD) (n t : Key) (c : Bool) : (mend D n t c).1.room = D.room := by
  unfold mend
  split
  · exact cut_room _ _ _
  · split
    · exact sync_room _ _
    · rfl
theorem open_room (D : DiskD) (n : Key) : (openL D n).1.room = D.room := by
  unfold openL
  split
  · split
    · rw [ends_room, mend_room, create_room]
    · exact create_room _ _
  · rw [ends_room, mend_room]
/-- What Open makes is well: its size is its records' frames. -/
structure Told (L : LogD) (rs : List Key) : Prop where
  size : L.size = (puts rs).length
  count : L.count = rs.length
  name : L.name = nA
theorem told_fresh (t : Key) : Told (fresh nA t) (recs t) := ⟨good_len t, rfl, rfl⟩
theorem ends_told {n t : Key} {r : DiskD × Int} {L : LogD} {rs : List Key} (h : (ends n t r).2.1 = some (L, rs)) : L = fresh n t ∧ rs = recs t ∧ (ends n t r).2.2 = 0 := by
  unfold ends at h ⊢
  by_cases hr : r.2 = 0
  · rw [if_pos hr] at h ⊢
    simp only [Option.some.injEq, Prod.mk.injEq] at h
    exact ⟨h.1.symm, h.2.symm, rfl⟩
  · rw [if_neg hr] at h
    cases h
theorem open_told {D : DiskD} {L : LogD} {rs : List Key} (hf : Fine D) (h : (openL D nA).2.1 = some (L, rs)) : Told L rs ∧ L.size ≤ D.room := by
  unfold openL at h
  split at h
  · split at h
    · obtain ⟨rfl, rfl, -⟩ := ends_told h
      exact ⟨told_fresh _, Nat.zero_le _⟩
    · cases h
  · rename_i F hF
    obtain ⟨rfl, rfl, -⟩ := ends_told h
    refine ⟨told_fresh _, ?_⟩
    have h1 := total_mem (mem_of_look hF)
    have h2 := hf.fits
    have h3 := good_le F.bytes
    show good F.bytes ≤ D.room
    simp only at h1
    omega
theorem append_code (D : DiskD) (n s : Key) : (appendD D n s).2 = 0 → s.length ≤ left D := by
  unfold appendD opD
  split
  · intro h; cases h
  · split
    · intro h; cases h
    · split
      · intro h; cases h
      · intro _; omega
theorem put_told {D : DiskD} {L : LogD} {rs xs : List Key} (h : Told L rs) : ∃ ys, Told (putRs D L xs).2.1 ys ∧ ys = (if (putRs D L xs).2.2 = 0 ∧ L.broken = false then rs ++ xs else rs) ∧ (putRs D L xs).2.1.size ≤ L.size + D.room := by
  unfold putRs
  by_cases hb : L.broken = true
  · rw [if_pos hb]
    exact ⟨rs, h, by rw [if_neg (by simp)], by simp only; omega⟩
  · have hb2 : L.broken = false := by simpa using hb
    rw [if_neg hb]
    by_cases hx : xs = []
    · rw [if_pos hx]
      exact ⟨rs, h, by rw [if_pos ⟨rfl, hb2⟩, hx, List.append_nil], by simp only; omega⟩
    · rw [if_neg hx]
      by_cases hc : (appendD D L.name (puts xs)).2 = 0
      · rw [if_pos hc]
        have h2 := append_code D L.name _ hc
        refine ⟨rs ++ xs, ⟨?_, ?_, h.name⟩, by rw [if_pos ⟨rfl, hb2⟩], ?_⟩
        · simp only
          rw [h.size]
          unfold puts
          rw [List.map_append, List.flatten_append, List.length_append]
        · simp only
          rw [h.count, List.length_append]
        · have : left D ≤ D.room := Nat.sub_le _ _
          simp only
          omega
      · rw [if_neg hc]
        refine ⟨rs, ?_, by rw [if_neg (fun e => hc e.1)], ?_⟩
        · simp only
          unfold toldL
          split
          · exact ⟨h.size, h.count, h.name⟩
          · exact h
        · simp only
          unfold toldL
          split <;> (try simp only) <;> omega
theorem keep_told {D : DiskD} {L : LogD} {rs : List Key} (h : Told L rs) : Told (keepL D L).2.1 rs ∧ (keepL D L).2.1.size = L.size := by
  unfold keepL
  split
  · exact ⟨h, rfl⟩
  · split
    · exact ⟨⟨h.size, h.count, h.name⟩, rfl⟩
    · simp only
      unfold toldL
      split
      · exact ⟨⟨h.size, h.count, h.name⟩, rfl⟩
      · exact ⟨h, rfl⟩
/-- A step of the disk's own, on its file. -/
def plD (D : DiskD) (x : StepD) : DiskD :=
  if x.do_ = 1 then (appendD D nA x.s).1 else if x.do_ = 3 then (cutD D nA x.n).1 else if x.do_ = 5 then (spoilD D nA x.n x.by_).1 else if x.do_ = 6 then (fuseD D x.n).1 else if x.do_ = 7 then crashD D x.keep else D
theorem spoil_room (D : DiskD) (n : Key) (m : Int) (y : UInt8) : (spoilD D n m y).1.room = D.room := by
  have h := does_room D ⟨5, n, [], m, y, [], none, 0⟩
  exact h
theorem fuse_room (D : DiskD) (m : Int) : (fuseD D m).1.room = D.room := by unfold fuseD; split <;> rfl
theorem pl_room (D : DiskD) (x : StepD) : (plD D x).room = D.room := by
  unfold plD
  split
  · exact append_room _ _ _
  split
  · exact cut_room _ _ _
  split
  · exact spoil_room _ _ _ _
  split
  · exact fuse_room _ _
  split
  · rfl
  · rfl
end Go.Proofs.YtpiaplgbpjgjiaaGreatDoor.Lp
