/-
  Disks (layer 7): for DiskKeeps and DiskApart: what a crash leaves of each file; that a second one leaves all; that a call on one file leaves the others. No program in sight.
-/
import Derived.Test.YtpiaplgbpjgjiaaDoorDkRoomM
open Go Go.RowKit
namespace Go.Proofs.YtpiaplgbpjgjiaaDoor.Dk
open Base Mp

/-- Files that were never synced have nothing sure. -/
def NewOk (D : DiskD) : Prop := ∀ p ∈ D.files, p.2.fresh = true → p.2.sure = 0
theorem NewOk.done {D : DiskD} (h : NewOk D) : NewOk (done D) := by unfold Dk.done; split <;> exact h
theorem NewOk.set {D : DiskD} {k : Lit} {G : FileD} (h : NewOk D) (hG : G.fresh = true → G.sure = 0) : NewOk (withFile D k G) := fun p hp => by
  rcases mem_set hp with ⟨hp, _⟩ | ⟨_, e⟩
  · exact h p hp
  · rw [e]; exact hG
theorem NewOk.op {D : DiskD} {n : Key} {f : FileD → DiskD × Int} (h : NewOk D) (hf : ∀ F, lookL D.files (keyS n) = some F → NewOk (f F).1) : NewOk (opD D n f).1 := by
  unfold opD
  split
  · exact h
  · split
    · exact h
    · next F hF => exact hf F hF
theorem NewOk.create {D : DiskD} (h : NewOk D) (n : Key) : NewOk (createD D n).1 := by
  unfold createD
  split
  · exact h
  split
  · exact h
  split
  · exact h
  split
  · exact h
  · refine NewOk.done fun p hp => ?_
    rcases mem_put hp with rfl | ⟨hp, _⟩
    · exact fun _ => rfl
    · exact h p hp
theorem NewOk.append {D : DiskD} (h : NewOk D) (n s : Key) : NewOk (appendD D n s).1 := by
  refine NewOk.op h fun F hF => ?_
  split
  · exact h
  · exact NewOk.done (NewOk.set h (fun hf => h (keyS n, F) (mem_of_look hF) hf))
theorem NewOk.sync {D : DiskD} (h : NewOk D) (n : Key) : NewOk (syncD D n).1 := NewOk.op h fun _ _ => (h.set (fun hf => by cases hf)).done
theorem NewOk.cut {D : DiskD} (h : NewOk D) (n : Key) (m : Int) : NewOk (cutD D n m).1 := by
  refine NewOk.op h fun F _ => ?_
  split
  · exact h
  · exact (h.set (fun hf => by cases hf)).done
theorem NewOk.remove {D : DiskD} (h : NewOk D) (n : Key) : NewOk (removeD D n).1 := NewOk.op h fun _ _ => NewOk.done fun p hp => h p (mem_del hp).1
theorem NewOk.spoil {D : DiskD} (h : NewOk D) (n : Key) (m : Int) (y : UInt8) : NewOk (spoilD D n m y).1 := by
  unfold spoilD findD
  split
  · exact h
  · next F hF =>
    simp only
    split
    · exact h
    · exact h.set (fun hf => h _ (mem_of_look hF) hf)
theorem NewOk.fuse {D : DiskD} (h : NewOk D) (m : Int) : NewOk (fuseD D m).1 := by unfold fuseD; split <;> exact h
theorem crash1_mem {st : FS × List Int} {n : Key} {p : Lit × FileD} (hp : p ∈ (crash1 st n).1) : p ∈ st.1 ∨ p.2.fresh = false := by
  unfold crash1 at hp
  split at hp
  · exact .inl hp
  · split at hp
    · exact .inl hp
    · split at hp
      · exact .inl (mem_del hp).1
      · rcases mem_set hp with ⟨hp, _⟩ | ⟨_, e⟩
        · exact .inl hp
        · rw [e]; exact .inr rfl
theorem crashed_mem {l : List Key} {st : FS × List Int} {p : Lit × FileD} (hp : p ∈ (l.foldl crash1 st).1) : p ∈ st.1 ∨ p.2.fresh = false := by
  induction l generalizing st with
  | nil => exact .inl hp
  | cons n r ih =>
    rw [List.foldl_cons] at hp
    rcases ih hp with h | h
    · exact crash1_mem h
    · exact .inr h
theorem NewOk.crash {D : DiskD} (h : NewOk D) (keep : List Int) : NewOk (crashD D keep) := fun p hp hf => by
  rcases crashed_mem (st := (D.files, keep)) hp with h1 | h1
  · exact h p h1 hf
  · rw [h1] at hf; cases hf
theorem NewOk.does {D : DiskD} (h : NewOk D) (x : StepD) : NewOk (doesD D x).1 := by
  unfold doesD
  split
  · exact h.create _
  split
  · exact h.append _ _
  split
  · exact h.sync _
  split
  · exact h.cut _ _
  split
  · exact h.remove _
  split
  · exact h.spoil _ _ _
  split
  · exact h.fuse _
  split
  · exact h.crash _
  · exact h
theorem NewOk.none (r : Nat) : NewOk ⟨r, [], false, 0⟩ := fun p hp => by cases hp
/-! What a crash leaves. -/
theorem crashed_len (l : List Key) (st : FS × List Int) : (l.foldl crash1 st).1.length ≤ st.1.length := by
  induction l generalizing st with
  | nil => exact Nat.le_refl _
  | cons n r ih =>
    rw [List.foldl_cons]
    refine Nat.le_trans (ih _) ?_
    unfold crash1
    split
    · exact Nat.le_refl _
    · split
      · exact Nat.le_refl _
      · split
        · exact del_le _ _
        · simp only [set_length]; exact Nat.le_refl _
theorem crash_file {D : DiskD} (h : Fine D) (keep : List Int) {n : Key} (hn : n ∈ namesD D) {F : FileD} (hF : lookL D.files (keyS n) = some F) :
    (F.fresh = true ∧ lookL (crashed D keep) (keyS n) = none) ∨ ∃ m, F.sure ≤ m ∧ m ≤ F.bytes.length ∧ lookL (crashed D keep) (keyS n) = some ⟨F.bytes.take m, m, false⟩ := by
  obtain ⟨l1, l2, hl⟩ := List.append_of_mem hn
  have hnd := h.nodup
  rw [hl, List.pairwise_append, List.pairwise_cons] at hnd
  obtain ⟨_, ⟨h2, _⟩, h3⟩ := hnd
  unfold crashed
  rw [hl, List.foldl_append, List.foldl_cons, crash_still _ _ _ (fun x hx => h2 x hx)]
  have h4 : lookL (l1.foldl crash1 (D.files, keep)).1 (keyS n) = some F := by
    rw [crash_still _ _ _ (fun x hx e => h3 x hx n (by simp) e.symm)]
    exact hF
  generalize l1.foldl crash1 (D.files, keep) = st at h4
  have hs := h.sure _ (mem_of_look hF)
  simp only at hs
  unfold crash1
  rw [h4]
  simp only
  split
  · next h5 =>
    right
    refine ⟨F.bytes.length, hs, Nat.le_refl _, ?_⟩
    rw [h4, List.take_length]
    obtain ⟨b, s, f⟩ := F
    simp only at h5 hs ⊢
    rw [show s = b.length by omega, h5.2]
  · split
    · next h6 => exact .inl ⟨h6.1, look_del_same _ _⟩
    · exact .inr ⟨_, by unfold keptOf; omega, keptOf_le _ _ hs, look_set_same _ _ _ _ h4⟩
/-- All is sure. -/
def Settled (D : DiskD) : Prop := ∀ p ∈ D.files, p.2.sure = p.2.bytes.length ∧ p.2.fresh = false
theorem crash1_settled {st : FS × List Int} (h : ∀ p ∈ st.1, p.2.sure = p.2.bytes.length ∧ p.2.fresh = false) (n : Key) : crash1 st n = st := by
  unfold crash1
  split
  · rfl
  · next F hF =>
    obtain ⟨h1, h2⟩ := h _ (mem_of_look hF)
    simp only at h1 h2
    rw [if_pos ⟨by omega, h2⟩]
theorem crashed_settled {D : DiskD} (h : Settled D) (keep : List Int) : crashed D keep = D.files := by
  unfold crashed
  have : ∀ l : List Key, l.foldl crash1 (D.files, keep) = (D.files, keep) := fun l => by
    induction l with
    | nil => rfl
    | cons n r ih => rw [List.foldl_cons, crash1_settled (st := (D.files, keep)) h]; exact ih
  rw [this]
theorem crash1_keys (st : FS × List Int) (n : Key) : ∀ p ∈ (crash1 st n).1, ∃ q ∈ st.1, q.1 = p.1 := fun p hp => by
  unfold crash1 at hp
  split at hp
  · exact ⟨p, hp, rfl⟩
  · next F hF =>
    split at hp
    · exact ⟨p, hp, rfl⟩
    · split at hp
      · exact ⟨p, (mem_del hp).1, rfl⟩
      · rcases mem_set hp with ⟨hp, _⟩ | ⟨e, _⟩
        · exact ⟨p, hp, rfl⟩
        · exact ⟨_, mem_of_look hF, e.symm⟩
theorem crashed_keys (l : List Key) (st : FS × List Int) : ∀ p ∈ (l.foldl crash1 st).1, ∃ q ∈ st.1, q.1 = p.1 := by
  induction l generalizing st with
  | nil => exact fun p hp => ⟨p, hp, rfl⟩
  | cons n r ih =>
    intro p hp
    rw [List.foldl_cons] at hp
    obtain ⟨q, hq, e⟩ := ih _ p hp
    obtain ⟨q2, hq2, e2⟩ := crash1_keys st n q hq
    exact ⟨q2, hq2, e2.trans e⟩
theorem crash1_apart {st : FS × List Int} (h : st.1.Pairwise fun p q => p.1 ≠ q.1) (n : Key) : (crash1 st n).1.Pairwise fun p q => p.1 ≠ q.1 := by
  unfold crash1
  split
  · exact h
  · split
    · exact h
    · split
      · exact h.filter _
      · show (setL _ _ _).Pairwise _
        unfold setL
        rw [List.pairwise_map]
        refine h.imp_of_mem fun ha hb hab => ?_
        split <;> split <;> exact hab
theorem crashed_apart (l : List Key) (st : FS × List Int) (h : st.1.Pairwise fun p q => p.1 ≠ q.1) : (l.foldl crash1 st).1.Pairwise fun p q => p.1 ≠ q.1 := by
  induction l generalizing st with
  | nil => exact h
  | cons n r ih => rw [List.foldl_cons]; exact ih _ (crash1_apart h n)
theorem name_mem {D : DiskD} {n : Key} {F : FileD} (hF : lookL D.files (keyS n) = some F) : n ∈ namesD D :=
  (srt_perm _).mem_iff.2 (List.mem_map.2 ⟨_, mem_of_look hF, rfl⟩)
theorem crash_settles {D : DiskD} (h : Fine D) (keep : List Int) : Settled (crashD D keep) := fun p hp => by
  obtain ⟨q, hq, e⟩ := crashed_keys (namesD D) (D.files, keep) p hp
  obtain ⟨n, hn, _⟩ := h.names q hq
  have hk : p.1 = keyS n := e.symm.trans hn
  have hl : lookL (crashed D keep) (keyS n) = some p.2 := look_of_mem (crashed_apart (namesD D) (D.files, keep) h.apart) (isKey n) (by rw [← hk]; exact hp)
  have hF : lookL D.files (keyS n) = some q.2 := look_of_mem h.apart (isKey n) (by rw [← hn]; exact hq)
  rcases crash_file h keep (name_mem hF) hF with ⟨_, h1⟩ | ⟨m, h1, h2, h3⟩
  · rw [h1] at hl; cases hl
  · rw [h3] at hl
    injection hl with hl
    rw [← hl]
    exact ⟨by rw [List.length_take, Nat.min_eq_left h2], rfl⟩
theorem crash_twice {D : DiskD} (h : Fine D) (keep more : List Int) : crashD (crashD D keep) more = crashD D keep := by
  show ({ crashD D keep with files := crashed (crashD D keep) more, fused := false, calls := 0 } : DiskD) = _
  rw [crashed_settled (crash_settles h keep)]
  rfl
theorem crash_few {D : DiskD} (keep : List Int) : (namesD (crashD D keep)).length ≤ (namesD D).length := by
  rw [names_len, names_len]
  exact crashed_len (namesD D) (D.files, keep)
/-- What DiskKeeps asks of a file, behind a crash. -/
theorem crash_keeps {D : DiskD} (h : Fine D) (hnew : NewOk D) (keep : List Int) {n : Key} (hn : n ∈ namesD D) :
    (readD (crashD D keep) n = ([], 5) ∧ (readD D n).1.length - looseD D n = 0) ∨ ∃ m, (readD D n).1.length - looseD D n ≤ m ∧ m ≤ (readD D n).1.length ∧ readD (crashD D keep) n = ((readD D n).1.take m, 0) ∧ looseD (crashD D keep) n = 0 := by
  obtain ⟨F, hF, hr, hlo⟩ := read_file h hn
  have hs := h.sure _ (mem_of_look hF)
  simp only at hs
  rw [hr, hlo]
  simp only
  rcases crash_file h keep hn hF with ⟨h1, h2⟩ | ⟨m, h1, h2, h3⟩
  · left
    have := hnew _ (mem_of_look hF) h1
    simp only at this
    exact ⟨by unfold readD findD; rw [show (crashD D keep).files = crashed D keep from rfl, h2], by omega⟩
  · right
    refine ⟨m, by omega, h2, ?_, ?_⟩
    · unfold readD findD; rw [show (crashD D keep).files = crashed D keep from rfl, h3]
    · unfold looseD findD; rw [show (crashD D keep).files = crashed D keep from rfl, h3]; simp only [List.length_take]; omega
theorem settled_loose {D : DiskD} (h : Settled D) (n : Key) : looseD D n = 0 := by
  unfold looseD findD
  split
  · rfl
  · next F hF =>
    have h2 : F.sure = F.bytes.length := (h (keyS n, F) (mem_of_look hF)).1
    show F.bytes.length - F.sure = 0
    omega
/-! A call on one file. -/
theorem read_of_look {D D' : DiskD} {n : Key} (h : lookL D'.files (keyS n) = lookL D.files (keyS n)) : readD D' n = readD D n := by unfold readD findD; rw [h]
theorem done_files (D : DiskD) : (done D).files = D.files := by unfold done; split <;> rfl
theorem op_other {D : DiskD} {n m : Key} {f : FileD → DiskD × Int} (hf : ∀ F, lookL (f F).1.files (keyS m) = lookL D.files (keyS m)) : lookL (opD D n f).1.files (keyS m) = lookL D.files (keyS m) := by
  unfold opD
  split
  · rfl
  · split
    · rfl
    · exact hf _
theorem does_look {D : DiskD} (x : StepD) (hx : x.do_ ≤ 5) {m : Key} (hm : m ≠ x.name) : lookL (doesD D x).1.files (keyS m) = lookL D.files (keyS m) := by
  have hk : keyS m ≠ keyS x.name := fun e => hm (keyS_inj e)
  unfold doesD
  split
  · unfold createD
    split
    · rfl
    split
    · rfl
    split
    · rfl
    split
    · rfl
    · rw [done_files]; exact look_put_other _ _ _ hk _
  split
  · refine op_other fun F => ?_
    split
    · rfl
    · rw [done_files]; exact look_set_other _ _ _ _ hk
  split
  · refine op_other fun F => ?_
    rw [done_files]; exact look_set_other _ _ _ _ hk
  split
  · refine op_other fun F => ?_
    split
    · rfl
    · rw [done_files]; exact look_set_other _ _ _ _ hk
  split
  · refine op_other fun F => ?_
    rw [done_files]; exact look_del_other _ _ _ hk
  split
  · unfold spoilD findD
    split
    · rfl
    · simp only
      split
      · rfl
      · exact look_set_other _ _ _ _ hk
  split
  · omega
  split
  · omega
  · rfl
theorem does_other {D : DiskD} (x : StepD) (hx : x.do_ ≤ 5) {m : Key} (hm : m ≠ x.name) : readD (doesD D x).1 m = readD D m := read_of_look (does_look x hx hm)
end Go.Proofs.YtpiaplgbpjgjiaaDoor.Dk
