/-
  Disks (layer 7): for Copy: a file put whole, files in any order, and that a map's list rises. No program in sight but a disk in memory.
-/
import Derived.Test.YtmejdcnnpenaaaaGreatDoorZDkClone
open Go Go.RowKit
namespace Go.Proofs.YtmejdcnnpenaaaaGreatDoor.Dk
open Base Mp

/-- One file more, whole: its struct was made in block c, its row beside it, the map turned. -/
theorem DiskBy.putFile {tag : Nat → Option Lit} {blk : Lit → Nat} {bm : Nat} {w : World} {b : Nat} {D : DiskD} {T : Nat → Prop} (h : DiskBy tag blk bm w b D T) {w2 w' : World} {n : List UInt8} {F : FileD} {c : Nat} {v : Value} (hb1 : Below w.heap.size w w2) (hc : w.heap.size ≤ c) (hc2 : c < w2.heap.size) (hcells : CellsAt w2 c 3 (fileCell v F))
    (hr : w2.ownsRow w.heap.size 5 1 v F.bytes.length (byteV F.bytes)) (hrc : ∀ r, v.ownBlock = some r → r ≠ c) (hm : MapL Tryz.prog 9 w' bm (putL (mapE (fun k _ => ptr (blk k)) D.files) (keyS n) (ptr c))) (ht : w2.mapTurned w' bm)
    (hl : lookL D.files (keyS n) = none) (hfine : Fine { D with files := putL D.files (keyS n) F }) :
    DiskBy (fun i => if i = c ∨ v.ownBlock = some i then some (keyS n) else tag i) (fun q => if q.sameKey (keyS n) then c else blk q) bm w' b { D with files := putL D.files (keyS n) F } (More T w w') := by
  have hk2 : Kept (fun i => i = bm) w2 w' := Kept.turned (T := fun i => i = bm) (Kept.refl _ w2) ht (.inl rfl)
  have hk : Kept (fun i => i = bm) w w' := (Kept.of_below (T := fun i => i = bm) hb1).trans hk2 (fun _ h => .inl h)
  have hold : ∀ p ∈ D.files, p.1.sameKey (keyS n) = false := fun p hp => by
    unfold lookL at hl
    rw [Option.map_eq_none_iff, List.find?_eq_none] at hl
    simpa using hl p hp
  have hself : (keyS n).sameKey (keyS n) = true := WideAt.sameKey_self (isKey n)
  have hsm : ∀ i, i < w.heap.size → ¬ (i = c ∨ v.ownBlock = some i) := fun i hi e => by
    rcases e with e | e
    · omega
    · have := (hr.lt i e).1; omega
  refine ⟨h.head.kept hk h.lt h.ne, ?_, fun p hp => ?_, by rw [if_neg (hsm _ h.lt)]; exact h.tagb, by rw [if_neg (hsm _ h.map.lt)]; exact h.tagm, h.ne, hfine, .inl h.mineb, .inl h.minem, fun i q hi => ?_, fun i hi => ?_⟩
  · have he : mapE (fun q (_ : FileD) => ptr (if q.sameKey (keyS n) then c else blk q)) D.files = mapE (fun k (_ : FileD) => ptr (blk k)) D.files := mapE_congr _ _ _ fun p hp => by rw [hold p hp]; rfl
    show MapL _ _ w' bm (mapE (fun q (_ : FileD) => ptr (if q.sameKey (keyS n) then c else blk q)) (putL D.files (keyS n) F))
    rw [← mapE_put (fun q (_ : FileD) => ptr (if q.sameKey (keyS n) then c else blk q)), he, hself]
    exact hm
  · rcases mem_put hp with rfl | ⟨hp, _⟩
    · simp only [hself, if_true]
      have hmc : c ≠ bm := fun e => by have := h.map.lt; omega
      refine ⟨⟨v, hcells.kept hk2 hc2 hmc, own_kept (own_lower hr (Nat.zero_le _)) hk2 (fun r hr2 e => by have := (hr.lt r hr2).1; have := h.map.lt; omega), fun r hr2 => ⟨if_pos (.inr hr2), hrc r hr2⟩⟩, by simp⟩
    · simp only [hold p hp, Bool.false_eq_true, if_false]
      refine (h.held p hp).next hk (fun i hi e => by rw [e, h.tagm] at hi; cases hi) (fun i hi => ?_)
      rw [if_neg (hsm i hi)]
  · by_cases hic : i = c ∨ v.ownBlock = some i
    · rcases hic with rfl | hic
      · exact .inr ⟨hc, Nat.lt_of_lt_of_le hc2 hk2.size⟩
      · obtain ⟨h1, h2⟩ := hr.lt i hic
        exact .inr ⟨h1, Nat.lt_of_lt_of_le h2 hk2.size⟩
    · rw [if_neg hic] at hi
      exact .inl (h.minet i q hi)
  · rcases hi with hi | hi
    · exact Nat.lt_of_lt_of_le (h.old i hi) hk.size
    · exact hi.2
/-- Some of a disk's files make a disk. -/
theorem Fine.some_ {D : DiskD} (h : Fine D) (q : Lit × FileD → Bool) {V : FS} (hp : V.Perm (D.files.filter q)) : Fine ⟨D.room, V, false, 0⟩ := by
  have hmem : ∀ p, p ∈ V → p ∈ D.files := fun p hpv => (List.mem_filter.1 (hp.mem_iff.1 hpv)).1
  have htot : ∀ l : FS, total (l.filter q) ≤ total l := fun l => by
    induction l with
    | nil => exact Nat.le_refl _
    | cons x r ih =>
      rw [List.filter_cons]
      split
      · rw [total_cons, total_cons]; omega
      · rw [total_cons]; omega
  refine ⟨?_, h.room, ?_, fun p hpv => h.names p (hmem p hpv), fun p hpv => h.sure p (hmem p hpv), ?_, by show (0 : Nat) < 9223372036854775808; decide⟩
  · show V.length ≤ 16
    rw [hp.length_eq]
    exact Nat.le_trans (List.length_filter_le _ _) h.few
  · show total V ≤ D.room
    rw [total_perm hp]
    exact Nat.le_trans (htot _) h.fits
  · exact hp.symm.pairwise (h.apart.filter _) (fun h e => h e.symm)
theorem visit_step {D : DiskD} (h : Fine D) (lft : Lit → Bool) {kl : Lit} {F : FileD} (hl : lookL D.files kl = some F) (hk : lft kl = true) {V : FS} (hp : V.Perm (D.files.filter fun p => !lft p.1)) :
    lookL V kl = none ∧ (putL V kl F).Perm (D.files.filter fun p => !(lft p.1 && !p.1.sameKey kl)) := by
  have hkk : WideAt.IsKeyLit kl := h.key (mem_of_look hl)
  have hno : lookL V kl = none := by
    cases he : lookL V kl with
    | none => rfl
    | some G =>
      have := hp.mem_iff.1 (mem_of_look he)
      rw [List.mem_filter] at this
      simp [hk] at this
  refine ⟨hno, ?_⟩
  refine (put_perm V kl F).trans ?_
  rw [del_none _ _ hno]
  have h1 := del_perm D.files kl F h.apart hl
  refine List.Perm.trans ?_ (h1.filter _).symm
  rw [List.filter_cons, if_pos (by simp [WideAt.sameKey_self hkk])]
  refine List.Perm.cons _ ?_
  have h2 := hp.trans (h1.filter _)
  rw [List.filter_cons, if_neg (by simp [hk])] at h2
  refine h2.trans ?_
  rw [List.filter_congr (fun p hpm => ?_)]
  have := (mem_del hpm).2
  simp [this]
theorem visit_none {D : DiskD} (lft : Lit → Bool) (hl : ∀ p ∈ D.files, lft p.1 = true) : ([] : FS).Perm (D.files.filter fun p => !lft p.1) := by
  rw [List.filter_eq_nil_iff.2 (fun p hp => by simp [hl p hp])]
theorem visit_all {D : DiskD} (lft : Lit → Bool) (hl : ∀ k, lft k = false) {V : FS} (hp : V.Perm (D.files.filter fun p => !lft p.1)) : V.Perm D.files := by
  rw [List.filter_eq_self.2 (fun p _ => by simp [hl])] at hp
  exact hp
/-- A map's list rises. -/
theorem MapL.rise {w : World} {b : Nat} {es : List (Lit × Value)} (h : MapL Tryz.prog 9 w b es) : es.Pairwise fun p q => p.1.before q.1 = true := by
  obtain ⟨l, he, hr, -⟩ := World.ownsMap.canon h keyedS
  injection he with he
  rw [← he, List.pairwise_map] at hr
  exact hr
theorem files_rise {w : World} {b : Nat} {f : Lit → Value} {l : FS} (h : MapL Tryz.prog 9 w b (mapE (fun k (_ : FileD) => f k) l)) : l.Pairwise fun p q => p.1.before q.1 = true := by
  have := MapL.rise h
  unfold mapE at this
  rw [List.pairwise_map] at this
  exact this
theorem files_eq {l l' : FS} (hp : l.Perm l') (h1 : l.Pairwise fun p q => p.1.before q.1 = true) (h2 : l'.Pairwise fun p q => p.1.before q.1 = true) : l = l' :=
  hp.eq_of_pairwise (fun a b _ _ hab hba => by
    have := Go.WideShapes.before_trans hab hba
    rw [Go.WideShapes.before_irrefl] at this
    cases this) h1 h2
end Go.Proofs.YtmejdcnnpenaaaaGreatDoor.Dk
