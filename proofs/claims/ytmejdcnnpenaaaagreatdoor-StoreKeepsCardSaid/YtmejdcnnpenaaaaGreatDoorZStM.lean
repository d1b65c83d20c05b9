/-
  Stores (layer 9) on plain data: what each call of a disk leaves of the other files; a store's names. No program in sight. No condition.
-/
import Derived.Test.YtmejdcnnpenaaaaGreatDoorZStO
import Derived.Test.YtmejdcnnpenaaaaGreatDoorZLgPlain
import Derived.Test.YtmejdcnnpenaaaaGreatDoorZStT
import Derived.Test.YtmejdcnnpenaaaaGreatDoorZLgWorks

section
open Go Go.RowKit
namespace Go.Proofs.YtmejdcnnpenaaaaGreatDoor.St
open Base Mp Dk Frame Lg

/-! Names. -/
theorem log_snap (m n : Nat) : logN m ≠ snapN n := fun h => snap_log n m h.symm
/-! Disks. -/
/-- What a call on one file leaves. -/
structure Leaves (D D' : DiskD) (n : Key) (cost : Nat) : Prop where
  fused : D'.fused = D.fused
  room : D'.room = D.room
  other : ∀ m, m ≠ n → lookL D'.files (keyS m) = lookL D.files (keyS m)
  total : total D'.files ≤ total D.files + cost
  fine : Fine D'
theorem still_un {D : DiskD} (h : still D = true) : D.fused = true := by
  unfold still at h
  cases hf : D.fused
  · rw [hf] at h; cases h
  · rfl
theorem done_same (D : DiskD) : (done D).files = D.files ∧ (done D).room = D.room ∧ (done D).fused = D.fused := by
  unfold done
  split
  · next h => exact ⟨rfl, rfl, rfl⟩
  · exact ⟨rfl, rfl, rfl⟩
theorem set_leaves {D : DiskD} (hf : Fine D) {n : Key} {F G : FileD} (hl : lookL D.files (keyS n) = some F) (hs : G.sure ≤ G.bytes.length) (hfit : Dk.total D.files + G.bytes.length ≤ D.room + F.bytes.length) (cost : Nat) (hc : G.bytes.length ≤ F.bytes.length + cost) :
    lookL (done (withFile D (keyS n) G)).files (keyS n) = some G ∧ Leaves D (done (withFile D (keyS n) G)) n cost := by
  obtain ⟨h1, h2, h3⟩ := done_same (withFile D (keyS n) G)
  have ht := total_set (G := G) hf.apart (fun p hp => hf.key hp) hl (hf.key (mem_of_look hl))
  refine ⟨by rw [h1]; exact with_same hl, ⟨h3, h2, fun m hm => by rw [h1]; exact with_other (fun e => hm (keyS_inj e)), ?_, (hf.set hl hs hfit).done⟩⟩
  rw [h1]
  show Dk.total (setL D.files (keyS n) G) ≤ _
  omega
theorem sync_leaves {D : DiskD} (hf : Fine D) {n : Key} {F : FileD} (hl : lookL D.files (keyS n) = some F) :
    (D.fused = true ∧ syncD D n = (D, 70)) ∨ ∃ D', syncD D n = (D', 0) ∧ lookL D'.files (keyS n) = some ⟨F.bytes, F.bytes.length, false⟩ ∧ Leaves D D' n 0 := by
  unfold syncD opD
  by_cases hs : still D = true
  · exact .inl ⟨still_un hs, if_pos hs⟩
  · right
    rw [if_neg hs, hl]
    obtain ⟨h1, h2⟩ := set_leaves hf (G := ⟨F.bytes, F.bytes.length, false⟩) hl (Nat.le_refl _) (by have := hf.fits; simp only; omega) 0 (Nat.le_refl _)
    exact ⟨_, rfl, h1, h2⟩
theorem cut_leaves {D : DiskD} (hf : Fine D) {n : Key} {F : FileD} (hl : lookL D.files (keyS n) = some F) (m : Nat) (hm : m ≤ F.bytes.length) :
    (D.fused = true ∧ cutD D n (m : Int) = (D, 70)) ∨ ∃ D', cutD D n (m : Int) = (D', 0) ∧ lookL D'.files (keyS n) = some ⟨F.bytes.take m, m, false⟩ ∧ Leaves D D' n 0 := by
  unfold cutD opD
  by_cases hs : still D = true
  · exact .inl ⟨still_un hs, if_pos hs⟩
  · right
    rw [if_neg hs, hl]
    simp only
    rw [if_neg (by omega), Int.toNat_natCast]
    obtain ⟨h1, h2⟩ := set_leaves hf (G := ⟨F.bytes.take m, m, false⟩) hl (by simp only [List.length_take]; omega) (by have := hf.fits; simp only [List.length_take]; omega) 0 (by simp only [List.length_take]; omega)
    exact ⟨_, rfl, h1, h2⟩
theorem append_leaves {D : DiskD} (hf : Fine D) {n : Key} {F : FileD} (hl : lookL D.files (keyS n) = some F) (s : Key) :
    (D.fused = true ∧ appendD D n s = (D, 70)) ∨ (left D < s.length ∧ appendD D n s = (D, 6)) ∨ ∃ D', appendD D n s = (D', 0) ∧ lookL D'.files (keyS n) = some ⟨F.bytes ++ s, F.sure, F.fresh⟩ ∧ Leaves D D' n s.length := by
  unfold appendD opD
  by_cases hs : still D = true
  · exact .inl ⟨still_un hs, if_pos hs⟩
  · right
    rw [if_neg hs, hl]
    simp only
    by_cases hr : left D < s.length
    · exact .inl ⟨hr, if_pos hr⟩
    · right
      rw [if_neg hr]
      have h3 := hf.sure _ (mem_of_look hl)
      have h4 := hf.fits
      simp only at h3
      unfold left at hr
      obtain ⟨h1, h2⟩ := set_leaves hf (G := ⟨F.bytes ++ s, F.sure, F.fresh⟩) hl (by simp only [List.length_append]; omega) (by simp only [List.length_append]; omega) s.length (by simp only [List.length_append]; omega)
      exact ⟨_, rfl, h1, h2⟩
theorem total_del (l : FS) (k : Lit) : Dk.total (delL l k) ≤ Dk.total l := by
  unfold delL
  induction l with
  | nil => exact Nat.le_refl _
  | cons x r ih =>
    rw [List.filter_cons]
    split
    · rw [total_cons, total_cons]; omega
    · rw [total_cons]; omega
theorem remove_leaves {D : DiskD} (hf : Fine D) {n : Key} {F : FileD} (hl : lookL D.files (keyS n) = some F) :
    (D.fused = true ∧ removeD D n = (D, 70)) ∨ ∃ D', removeD D n = (D', 0) ∧ lookL D'.files (keyS n) = none ∧ Leaves D D' n 0 := by
  unfold removeD opD
  by_cases hs : still D = true
  · exact .inl ⟨still_un hs, if_pos hs⟩
  · right
    rw [if_neg hs, hl]
    obtain ⟨h1, h2, h3⟩ := done_same { D with files := delL D.files (keyS n) }
    refine ⟨_, rfl, by rw [h1]; exact look_del_same _ _, ⟨h3, h2, fun m hm => by rw [h1]; exact look_del_other _ _ _ (fun e => hm (keyS_inj e)), ?_, (hf.drop _).done⟩⟩
    rw [h1]
    exact total_del _ _
theorem create_leaves {D : DiskD} (hf : Fine D) {n : Key} (hn : mayName n = true) (hl : lookL D.files (keyS n) = none) (h16 : D.files.length < 16) :
    (D.fused = true ∧ createD D n = (D, 70)) ∨ ∃ D', createD D n = (D', 0) ∧ lookL D'.files (keyS n) = some ⟨[], 0, true⟩ ∧ Leaves D D' n 0 := by
  unfold createD
  rw [if_neg (by rw [hn]; decide)]
  by_cases hs : still D = true
  · exact .inl ⟨still_un hs, if_pos hs⟩
  · right
    rw [if_neg hs, if_neg (by rw [hl]; decide), if_neg (by omega)]
    obtain ⟨h1, h2, h3⟩ := done_same { D with files := putL D.files (keyS n) ⟨[], 0, true⟩ }
    have hperm : (putL D.files (keyS n) (⟨[], 0, true⟩ : FileD)).Perm ((keyS n, ⟨[], 0, true⟩) :: D.files) := by
      have := put_perm D.files (keyS n) (⟨[], 0, true⟩ : FileD)
      rw [del_none _ _ hl] at this
      exact this
    refine ⟨_, rfl, by rw [h1]; exact look_put_same _ _ (isKey n) _, ⟨h3, h2, fun m hm => by rw [h1]; exact look_put_other _ _ _ (fun e => hm (keyS_inj e)) _, ?_, (hf.put hn hl h16).done⟩⟩
    rw [h1]
    show Dk.total (putL D.files (keyS n) ⟨[], 0, true⟩) ≤ _
    rw [total_perm hperm, total_cons]
    simp
/-- Names and look-ups. -/
theorem name_iff {D : DiskD} (hf : Fine D) (n : Key) : n ∈ namesD D ↔ ∃ F, lookL D.files (keyS n) = some F :=
  ⟨fun h => (hf.has h).imp fun _ e => e.1, fun ⟨_, h⟩ => name_mem h⟩
theorem nodup_two {l : List Key} {a b : Key} (h : l.Pairwise (· ≠ ·)) (hl : ∀ x ∈ l, x = a ∨ x = b) : l.length ≤ 2 := by
  match l, h, hl with
  | [], _, _ => simp
  | [_], _, _ => simp
  | [_, _], _, _ => simp
  | x :: y :: z :: r, h, hl =>
    exfalso
    obtain ⟨h1, h2⟩ := List.pairwise_cons.1 h
    obtain ⟨h3, _⟩ := List.pairwise_cons.1 h2
    have hxy := h1 y (by simp)
    have hxz := h1 z (by simp)
    have hyz := h3 z (by simp)
    rcases hl x (by simp) with e1 | e1 <;> rcases hl y (by simp) with e2 | e2 <;> rcases hl z (by simp) with e3 | e3 <;> simp_all
theorem few_two {D : DiskD} (hf : Fine D) {a b : Key} (h : ∀ f F, lookL D.files (keyS f) = some F → f = a ∨ f = b) : (namesD D).length ≤ 2 :=
  nodup_two hf.nodup fun x hx => by
    obtain ⟨F, hF, _⟩ := hf.has hx
    exact h x F hF
end Go.Proofs.YtmejdcnnpenaaaaGreatDoor.St
end

/-
  Stores (layer 9) on plain data: what a scan makes of a beginning of frames. No program in sight. No condition.
-/
section
open Go Go.RowKit
namespace Go.Proofs.YtmejdcnnpenaaaaGreatDoor.St
open Base Mp Dk Frame Lg

theorem puts_take_le (l : List Key) (k : Nat) : (puts (l.take k)).length ≤ (puts l).length := by
  have h := puts_take (l.take k) (l.drop k)
  rw [List.take_append_drop] at h
  have := congrArg List.length h
  rw [List.length_take] at this
  omega
theorem puts_take_succ (l : List Key) (j : Nat) (h : j < l.length) : puts (l.take (j + 1)) = puts (l.take j) ++ put l[j] := by
  rw [List.take_succ_eq_append_getElem h, puts_snoc]
/-- A file that is a beginning of frames holds the whole ones of them. -/
theorem scan_part (put : List Key) (hs : ∀ t ∈ put, t.length ≤ 1048576) (m sure : Nat) (hm : m ≤ (puts put).length) (h1 : (puts (put.take sure)).length ≤ m) (hle : sure ≤ put.length) :
    ∃ j, sure ≤ j ∧ j ≤ put.length ∧ recs ((puts put).take m) = put.take j ∧ good ((puts put).take m) = (puts (put.take j)).length ∧ (puts (put.take j)).length ≤ m := by
  obtain ⟨j, e, a1, a2, a3, a4, a5, a6⟩ := scanAll_take put hs m hm
  have hlen : ((puts put).take m).length = m := by rw [List.length_take]; omega
  refine ⟨j, ?_, a1, by unfold recs; rw [a6], ?_, a2⟩
  · rcases a3 with a3 | ⟨t, ht, hlt⟩
    · omega
    · by_cases hj : sure ≤ j
      · exact hj
      · exfalso
        have hjl : j < put.length := (List.getElem?_eq_some_iff.1 ht).1
        have h2 : (puts (put.take (j + 1))).length ≤ (puts (put.take sure)).length := by
          have := puts_take_le (put.take sure) (j + 1)
          rw [List.take_take, Nat.min_eq_left (by omega)] at this
          exact this
        rw [puts_take_succ put j hjl, List.length_append] at h2
        have h3 : put[j] = t := by
          rw [List.getElem?_eq_getElem hjl] at ht
          injection ht
        rw [h3] at h2
        omega
  · unfold good
    rw [a6, hlen]
    simp only [List.length_drop, hlen]
    omega
theorem puts_part (put : List Key) (j : Nat) : (puts put).take (puts (put.take j)).length = puts (put.take j) := by
  have h := puts_take (put.take j) (put.drop j)
  rw [List.take_append_drop] at h
  exact h
end Go.Proofs.YtmejdcnnpenaaaaGreatDoor.St
end

/-
  Stores (layer 9) on plain data: what a disk's files say of a store: Held (what Open will tell), Good (a store that is open), through each call, and a crash. No program in sight. No condition.
-/
section
open Go Go.RowKit
namespace Go.Proofs.YtmejdcnnpenaaaaGreatDoor.St
open Base Mp Dk Frame Lg

theorem Leaves.trans {A B C : DiskD} {n : Key} {a b : Nat} (h : Leaves A B n a) (k : Leaves B C n b) : Leaves A C n (a + b) := ⟨k.fused.trans h.fused, k.room.trans h.room, fun m hm => (k.other m hm).trans (h.other m hm), by have := h.total; have := k.total; omega, k.fine⟩
theorem Leaves.refl {D : DiskD} (h : Fine D) (n : Key) : Leaves D D n 0 := ⟨rfl, rfl, fun _ _ => rfl, Nat.le_refl _, h⟩
/-! What a snapshot's file is taken for. -/
theorem whole_put {D : DiskD} {f t : Key} {F : FileD} (hl : lookL D.files (keyS f) = some F) (hF : F.bytes = put t) (ht : t.length ≤ 1048576) : wholeD D f = some t := by
  unfold wholeD
  rw [hl]
  simp only
  rw [hF, cut_put_nil t ht]
  rfl
def Junk (b : Key) : Prop := ∃ x k, x.length ≤ 1048576 ∧ k < 8 + x.length ∧ b = (put x).take k
def Part (x b : Key) : Prop := ∃ k, k ≤ 8 + x.length ∧ b = (put x).take k
theorem whole_junk {D : DiskD} {f : Key} {F : FileD} (hl : lookL D.files (keyS f) = some F) (hF : Junk F.bytes) : wholeD D f = none := by
  obtain ⟨x, k, hx, hk, e⟩ := hF
  unfold wholeD
  rw [hl]
  simp only
  rw [e, cut_short x k hx hk]
  rfl
theorem whole_none {D : DiskD} {f : Key} (hl : lookL D.files (keyS f) = none) : wholeD D f = none := by
  unfold wholeD
  rw [hl]
theorem Junk.take {b : Key} (h : Junk b) (m : Nat) : Junk (b.take m) := by
  obtain ⟨x, k, hx, hk, rfl⟩ := h
  exact ⟨x, min m k, hx, by omega, by rw [List.take_take]⟩
theorem Part.take {x b : Key} (h : Part x b) (m : Nat) : Part x (b.take m) := by
  obtain ⟨k, hk, rfl⟩ := h
  exact ⟨min m k, by omega, by rw [List.take_take]⟩
theorem part_or {x b : Key} (h : Part x b) (hx : x.length ≤ 1048576) : Junk b ∨ b = put x := by
  obtain ⟨k, hk, rfl⟩ := h
  rcases Nat.lt_or_ge k (8 + x.length) with h | h
  · exact .inl ⟨x, k, hx, h, rfl⟩
  · right
    exact List.take_of_length_le (by rw [put_length]; omega)
theorem junk_nil : Junk [] := ⟨[], 0, by simp, by simp, rfl⟩
/-- What a disk will tell that is opened. -/
structure HeldJ (J : Key → Prop) (D : DiskD) (N : Nat) (t : Key) (l : List Key) (s : Nat) : Prop where
  num : N ≤ 1000000
  short : t.length ≤ 1048576
  shorts : ∀ r ∈ l, r.length ≤ 1048576
  le : s ≤ l.length
  names : ∀ f F, lookL D.files (keyS f) = some F → ∃ m, m ≤ N + 1 ∧ (f = snapN m ∨ f = logN m)
  snap : (N = 0 ∧ t = []) ∨ (0 < N ∧ lookL D.files (keyS (snapN N)) = some ⟨put t, (put t).length, false⟩)
  junk : ∀ F, lookL D.files (keyS (snapN (N + 1))) = some F → J F.bytes
  next : lookL D.files (keyS (logN (N + 1))) = none
  log : (lookL D.files (keyS (logN N)) = none ∧ s = 0) ∨ ∃ F k, lookL D.files (keyS (logN N)) = some F ∧ k ≤ (puts l).length ∧ F.bytes = (puts l).take k ∧ (puts (l.take s)).length ≤ F.sure ∧ F.sure ≤ k ∧ (F.fresh = true → F.sure = 0 ∧ s = 0)
abbrev Held := HeldJ Junk
abbrev Pend (x : Key) := HeldJ (Part x)
theorem snap_ne {m n : Nat} (hm : m ≤ 1000002) (hn : n ≤ 1000002) (h : m ≠ n) : snapN m ≠ snapN n := fun e => h (snapN_inj (by omega) (by omega) e)
theorem log_ne {m n : Nat} (hm : m ≤ 1000002) (hn : n ≤ 1000002) (h : m ≠ n) : logN m ≠ logN n := fun e => h (logN_inj (by omega) (by omega) e)
theorem HeldJ.mine {J : Key → Prop} {D : DiskD} {N : Nat} {t : Key} {l : List Key} {s : Nat} (h : HeldJ J D N t l s) (hf : Fine D) : ∀ f ∈ namesD D, Mine f := fun f hm => by
  obtain ⟨F, hF⟩ := (name_iff hf f).1 hm
  obtain ⟨m, h1, h2⟩ := h.names f F hF
  have := h.num
  rcases h2 with h2 | h2
  · exact .snap m (by omega) h2
  · exact .log m (by omega) h2
/-- A crash. -/
theorem HeldJ.crash {J : Key → Prop} (hJ : ∀ b m, J b → J (b.take m)) {D : DiskD} {N : Nat} {t : Key} {l : List Key} {s : Nat} (h : HeldJ J D N t l s) (hf : Fine D) (keep : List Int) : HeldJ J (crashD D keep) N t l s := by
  have hc : ∀ f, (lookL D.files (keyS f) = none ∧ lookL (crashD D keep).files (keyS f) = none) ∨ ∃ F, lookL D.files (keyS f) = some F ∧ ((F.fresh = true ∧ lookL (crashD D keep).files (keyS f) = none) ∨ ∃ m, F.sure ≤ m ∧ m ≤ F.bytes.length ∧ lookL (crashD D keep).files (keyS f) = some ⟨F.bytes.take m, m, false⟩) := fun f => by
    cases hl : lookL D.files (keyS f) with
    | some F => exact .inr ⟨F, rfl, crash_file hf keep (name_mem hl) hl⟩
    | none =>
      left
      refine ⟨rfl, ?_⟩
      cases hc : lookL (crashD D keep).files (keyS f) with
      | none => rfl
      | some G =>
        exfalso
        obtain ⟨q, hq, e⟩ := crashed_keys (namesD D) (D.files, keep) _ (mem_of_look hc)
        have := look_of_mem hf.apart (isKey f) (v := q.2) (by simp only at e; rw [← e]; exact hq)
        rw [hl] at this
        cases this
  refine ⟨h.num, h.short, h.shorts, h.le, fun f F hF => ?_, ?_, fun F hF => ?_, ?_, ?_⟩
  · rcases hc f with ⟨_, h2⟩ | ⟨F', h1, _⟩
    · rw [h2] at hF; cases hF
    · exact h.names f F' h1
  · rcases h.snap with h0 | ⟨h0, h1⟩
    · exact .inl h0
    · right
      refine ⟨h0, ?_⟩
      rcases hc (snapN N) with ⟨h2, _⟩ | ⟨F, h2, h3⟩
      · rw [h1] at h2; cases h2
      · rw [h1] at h2
        injection h2 with h2
        subst h2
        rcases h3 with ⟨h3, _⟩ | ⟨m, h3, h4, h5⟩
        · cases h3
        · simp only at h3 h4
          rw [h5, show m = (put t).length by omega, List.take_length]
  · rcases hc (snapN (N + 1)) with ⟨_, h2⟩ | ⟨F', h1, ⟨_, h2⟩ | ⟨m, _, _, h2⟩⟩
    · rw [h2] at hF; cases hF
    · rw [h2] at hF; cases hF
    · rw [h2] at hF
      injection hF with hF
      subst hF
      exact hJ _ _ (h.junk F' h1)
  · rcases hc (logN (N + 1)) with ⟨_, h2⟩ | ⟨F', h1, _⟩
    · exact h2
    · rw [h.next] at h1; cases h1
  · rcases hc (logN N) with ⟨h1, h2⟩ | ⟨F, h1, h2⟩
    · rcases h.log with ⟨_, h3⟩ | ⟨F, k, h3, _⟩
      · exact .inl ⟨h2, h3⟩
      · rw [h1] at h3; cases h3
    · rcases h.log with ⟨h3, _⟩ | ⟨F', k, h3, h4, h5, h6, h7, h8⟩
      · rw [h1] at h3; cases h3
      · rw [h1] at h3
        injection h3 with h3
        subst h3
        rcases h2 with ⟨h2, h9⟩ | ⟨m, h9, ha, hb⟩
        · exact .inl ⟨h9, (h8 h2).2⟩
        · right
          refine ⟨_, m, hb, ?_, ?_, Nat.le_trans h6 h9, Nat.le_refl _, fun e => by cases e⟩
          · rw [h5, List.length_take] at ha; omega
          · simp only
            rw [h5, List.take_take]
            congr 1
            rw [h5, List.length_take] at ha; omega
/-- The pending one behind a crash. -/
theorem pend_crash {D : DiskD} {N : Nat} {t x : Key} {l : List Key} {s : Nat} (h : Pend x D N t l s) (hx : x.length ≤ 1048576) (hn : N + 1 ≤ 1000000) (hs : ∀ F, lookL D.files (keyS (snapN (N + 1))) = some F → F.sure = F.bytes.length ∧ F.fresh = false) : Held D N t l s ∨ Held D (N + 1) x [] 0 := by
  cases hl : lookL D.files (keyS (snapN (N + 1))) with
  | none => exact .inl ⟨h.num, h.short, h.shorts, h.le, h.names, h.snap, fun F hF => by (rw [hl] at hF; cases hF), h.next, h.log⟩
  | some F =>
    rcases part_or (h.junk F hl) hx with hj | hj
    · exact .inl ⟨h.num, h.short, h.shorts, h.le, h.names, h.snap, fun G hG => (by rw [hl] at hG; injection hG with hG; subst hG; exact hj), h.next, h.log⟩
    · right
      obtain ⟨h1, h2⟩ := hs F hl
      refine ⟨hn, hx, fun r hr => (by cases hr), Nat.le_refl _, fun f G hG => ?_, .inr ⟨by omega, ?_⟩, fun G hG => ?_, ?_, .inl ⟨h.next, rfl⟩⟩
      · obtain ⟨m, hm, e⟩ := h.names f G hG
        exact ⟨m, by omega, e⟩
      · rw [hl]
        obtain ⟨b, sr, fr⟩ := F
        simp only at hj h1 h2
        subst hj h1 h2
        rfl
      · exfalso
        obtain ⟨m, hm, e | e⟩ := h.names _ G hG
        · exact snap_ne (by omega) (by omega) (by omega) e
        · exact snap_log _ _ e
      · cases hk : lookL D.files (keyS (logN (N + 1 + 1))) with
        | none => rfl
        | some G =>
          exfalso
          obtain ⟨m, hm, e | e⟩ := h.names _ G hk
          · exact log_snap _ _ e
          · exact log_ne (by omega) (by omega) (by omega) e
/-! find. -/
theorem find_held {D : DiskD} {N : Nat} {t : Key} {l : List Key} {s : Nat} (h : Held D N t l s) (hf : Fine D) : findS D = (N, t) := by
  have hN := h.num
  have up : ∀ f m, f ∈ namesD D → numOf snaps f = some m → N < m → wholeD D f = none := fun f m hm hnum hlt => by
    obtain ⟨F, hF⟩ := (name_iff hf f).1 hm
    obtain ⟨m', hm', e | e⟩ := h.names f F hF
    · subst e
      have := num_own snaps m' (by omega)
      unfold snapN at hnum
      rw [this] at hnum
      injection hnum with hnum
      subst hnum
      obtain rfl : m' = N + 1 := by omega
      exact whole_junk hF (h.junk F hF)
    · subst e
      rw [num_no (log_not_snap m')] at hnum
      cases hnum
  have at_ : ∀ f, f ∈ namesD D → numOf snaps f = some N → 0 < N → wholeD D f = some t := fun f hm hnum h0 => by
    obtain ⟨F, hF⟩ := (name_iff hf f).1 hm
    obtain ⟨m', hm', e | e⟩ := h.names f F hF
    · subst e
      have := num_own snaps m' (by omega)
      unfold snapN at hnum
      rw [this] at hnum
      injection hnum with hnum
      subst hnum
      rcases h.snap with ⟨h1, _⟩ | ⟨_, h1⟩
      · omega
      · exact whole_put h1 rfl h.short
    · subst e
      rw [num_no (log_not_snap m')] at hnum
      cases hnum
  have inv : ∀ (r : List Key) (st : Nat × Key), (∀ f ∈ r, f ∈ namesD D) → st.1 ≤ N → (st.1 = 0 → st.2 = []) → (st.1 = N → st.2 = t) → ((r.foldl (find1 D) st).1 ≤ N ∧ ((r.foldl (find1 D) st).1 = 0 → (r.foldl (find1 D) st).2 = []) ∧ ((r.foldl (find1 D) st).1 = N → (r.foldl (find1 D) st).2 = t)) ∧ (st.1 = N → (r.foldl (find1 D) st).1 = N) ∧ (snapN N ∈ r → 0 < N → (r.foldl (find1 D) st).1 = N) := by
    intro r
    induction r with
    | nil => exact fun st _ h1 h2 h3 => ⟨⟨h1, h2, h3⟩, id, fun e => by cases e⟩
    | cons f r ih =>
      intro st hr h1 h2 h3
      rw [List.foldl_cons]
      have hfm := hr f (by simp)
      have hr' : ∀ g ∈ r, g ∈ namesD D := fun g hg => hr g (by simp [hg])
      have step : (find1 D st f).1 ≤ N ∧ ((find1 D st f).1 = 0 → (find1 D st f).2 = []) ∧ ((find1 D st f).1 = N → (find1 D st f).2 = t) ∧ (st.1 = N → (find1 D st f).1 = N) ∧ (f = snapN N → 0 < N → (find1 D st f).1 = N) := by
        unfold find1
        cases hnum : numOf snaps f with
        | none =>
          refine ⟨h1, h2, h3, id, fun e h0 => ?_⟩
          subst e
          have := num_own snaps N (by omega)
          unfold snapN at hnum
          rw [this] at hnum
          cases hnum
        | some m =>
          simp only
          have same : f = snapN N → m = N := fun e => by
            subst e
            have := num_own snaps N (by omega)
            unfold snapN at hnum
            rw [this] at hnum
            injection hnum with hnum
            exact hnum.symm
          by_cases hm : m ≤ st.1
          · rw [if_pos hm]
            exact ⟨h1, h2, h3, id, fun e _ => by have := same e; omega⟩
          · rw [if_neg hm]
            rcases Nat.lt_or_ge N m with hlt | hge
            · rw [up f m hfm hnum hlt]
              exact ⟨h1, h2, h3, id, fun e _ => by have := same e; omega⟩
            · rcases Nat.lt_or_ge m N with hlt2 | hge2
              · cases hw : wholeD D f with
                | none => exact ⟨h1, h2, h3, id, fun e _ => by have := same e; omega⟩
                | some u => exact ⟨by simp only; omega, fun e => by simp only at e; omega, fun e => by simp only at e; omega, fun e => by omega, fun e _ => by have := same e; omega⟩
              · obtain rfl : m = N := by omega
                rw [at_ f hfm hnum (by omega)]
                exact ⟨Nat.le_refl _, fun e => by simp only at e; omega, fun _ => rfl, fun _ => rfl, fun _ _ => rfl⟩
      obtain ⟨s1, s2, s3, s4, s5⟩ := step
      obtain ⟨i1, i2, i3⟩ := ih (find1 D st f) hr' s1 s2 s3
      refine ⟨i1, fun e => i2 (s4 e), fun e h0 => ?_⟩
      rcases List.mem_cons.1 e with e | e
      · exact i2 (s5 e.symm h0)
      · exact i3 e h0
  obtain ⟨⟨i1, i2, i3⟩, i4, i5⟩ := inv (namesD D) (0, []) (fun f hf => hf) (Nat.zero_le _) (fun _ => rfl) (fun e => by
    rcases h.snap with ⟨_, h1⟩ | ⟨h1, _⟩
    · exact h1.symm
    · simp only at e; omega)
  have hn : (findS D).1 = N := by
    rcases h.snap with ⟨h0, _⟩ | ⟨h0, h1⟩
    · exact i4 h0.symm
    · exact i5 (name_mem h1) h0
  exact Prod.ext hn (i3 hn)
end Go.Proofs.YtmejdcnnpenaaaaGreatDoor.St
end

/-
  Stores (layer 9) on plain data: what Open, Append, Sync, Save make of a disk and a store. No program in sight. No condition.
-/
section
open Go Go.RowKit
namespace Go.Proofs.YtmejdcnnpenaaaaGreatDoor.St
open Base Mp Dk Frame Lg

/-! clean. -/
/-- Some files went. -/
structure Shrunk (n : Nat) (D D' : DiskD) : Prop where
  fused : D'.fused = D.fused
  room : D'.room = D.room
  total : total D'.files ≤ total D.files
  fine : Fine D'
  keep : ∀ f, stays n f = true → lookL D'.files (keyS f) = lookL D.files (keyS f)
  drop : ∀ f, lookL D'.files (keyS f) = lookL D.files (keyS f) ∨ lookL D'.files (keyS f) = none
theorem Shrunk.refl {n : Nat} {D : DiskD} (h : Fine D) : Shrunk n D D := ⟨rfl, rfl, Nat.le_refl _, h, fun _ _ => rfl, fun _ => .inl rfl⟩
theorem Shrunk.trans {n : Nat} {A B C : DiskD} (h : Shrunk n A B) (k : Shrunk n B C) : Shrunk n A C := ⟨k.fused.trans h.fused, k.room.trans h.room, Nat.le_trans k.total h.total, k.fine, fun f hf => (k.keep f hf).trans (h.keep f hf), fun f => by
  rcases k.drop f with e | e
  · rcases h.drop f with e2 | e2
    · exact .inl (e.trans e2)
    · exact .inr (e.trans e2)
  · exact .inr e⟩
theorem clean_go (n : Nat) (l : List Key) (E : DiskD) (hf : Fine E) (hnd : l.Pairwise (· ≠ ·)) (hl : ∀ f ∈ l, ∃ F, lookL E.files (keyS f) = some F) :
    ∃ E' c, l.foldl (clean1 n) (E, 0) = (E', c) ∧ Shrunk n E E' ∧ ((c = 0 ∧ ∀ f ∈ l, stays n f = false → lookL E'.files (keyS f) = none) ∨ (E.fused = true ∧ c = 70)) := by
  induction l generalizing E with
  | nil => exact ⟨E, 0, rfl, Shrunk.refl hf, .inl ⟨rfl, fun f hf => by cases hf⟩⟩
  | cons f r ih =>
    obtain ⟨hn1, hn2⟩ := List.pairwise_cons.1 hnd
    rw [List.foldl_cons]
    cases hs : stays n f with
    | true =>
      have e : clean1 n (E, 0) f = (E, 0) := by unfold clean1; rw [if_neg (by simp), if_pos hs]
      rw [e]
      obtain ⟨E', c, h1, h2, h3⟩ := ih E hf hn2 fun g hg => hl g (by simp [hg])
      refine ⟨E', c, h1, h2, h3.imp (fun h => ⟨h.1, fun g hg hgs => ?_⟩) id⟩
      rcases List.mem_cons.1 hg with rfl | hg
      · rw [hs] at hgs; cases hgs
      · exact h.2 g hg hgs
    | false =>
      have e : clean1 n (E, 0) f = removeD E f := by unfold clean1; rw [if_neg (by simp), if_neg (by rw [hs]; decide)]
      rw [e]
      obtain ⟨F, hF⟩ := hl f (by simp)
      rcases remove_leaves hf hF with ⟨h1, h2⟩ | ⟨E1, h1, h2, h3⟩
      · rw [h2, clean_stop n r _ (by show (70 : Int) ≠ 0; decide)]
        exact ⟨E, 70, rfl, Shrunk.refl hf, .inr ⟨h1, rfl⟩⟩
      · rw [h1]
        have hsh : Shrunk n E E1 := ⟨h3.fused, h3.room, h3.total, h3.fine, fun g hg => h3.other g (fun e => by rw [e, hs] at hg; cases hg), fun g => by
          by_cases hg : g = f
          · subst hg; exact .inr h2
          · exact .inl (h3.other g hg)⟩
        obtain ⟨E', c, h4, h5, h6⟩ := ih E1 h3.fine hn2 fun g hg => by
          obtain ⟨G, hG⟩ := hl g (by simp [hg])
          exact ⟨G, by rw [h3.other g (fun e => hn1 g hg e.symm)]; exact hG⟩
        refine ⟨E', c, h4, hsh.trans h5, h6.imp (fun h => ⟨h.1, fun g hg hgs => ?_⟩) (fun h => ⟨by rw [← h3.fused]; exact h.1, h.2⟩)⟩
        rcases List.mem_cons.1 hg with rfl | hg
        · rcases h5.drop g with e | e
          · rw [e]; exact h2
          · exact e
        · exact h.2 g hg hgs
theorem clean_ok {D : DiskD} (hf : Fine D) (n : Nat) : ∃ D' c, cleanS D n = (D', c) ∧ Shrunk n D D' ∧ ((c = 0 ∧ ∀ f F, lookL D'.files (keyS f) = some F → stays n f = true) ∨ (D.fused = true ∧ c = 70)) := by
  obtain ⟨D', c, h1, h2, h3⟩ := clean_go n (namesD D) D hf hf.nodup fun f hm => (name_iff hf f).1 hm
  refine ⟨D', c, h1, h2, h3.imp (fun h => ⟨h.1, fun f F hF => ?_⟩) id⟩
  cases hs : stays n f with
  | true => rfl
  | false =>
    exfalso
    rcases h2.drop f with e | e
    · have := h.2 f (name_mem (F := F) (by rw [← e]; exact hF)) hs
      rw [hF] at this; cases this
    · rw [hF] at e; cases e
theorem stays_log {n : Nat} (hn : n ≤ 1000002) : stays n (logN n) = true := by
  have h1 := num_own logs n (by omega)
  unfold stays
  rw [num_no (log_not_snap n)]
  unfold logN
  rw [h1]
  simp
theorem stays_snap {n : Nat} (hn : n ≤ 1000002) (h0 : 0 < n) : stays n (snapN n) = true := by
  have h1 := num_own snaps n (by omega)
  unfold stays snapN
  rw [h1]
  simp [h0]
theorem stays_only {n m : Nat} {f : Key} (hm : m ≤ 1000002) (hf : f = snapN m ∨ f = logN m) (hs : stays n f = true) : f = logN n ∨ (0 < n ∧ f = snapN n) := by
  rcases hf with rfl | rfl
  · have h1 := num_own snaps m (by omega)
    unfold stays at hs
    unfold snapN at hs ⊢
    rw [h1] at hs
    simp at hs
    rw [hs.1]
    exact .inr ⟨hs.2, rfl⟩
  · have h1 := num_own logs m (by omega)
    unfold stays at hs
    rw [num_no (log_not_snap m)] at hs
    unfold logN at hs ⊢
    rw [h1] at hs
    simp at hs
    rw [hs]
    exact .inl rfl
/-- Files that stay leave all that counts. -/
theorem HeldJ.shrunk {J : Key → Prop} {D D' : DiskD} {N : Nat} {t : Key} {l : List Key} {s : Nat} (h : HeldJ J D N t l s) (k : Shrunk N D D') : HeldJ J D' N t l s := by
  have hN := h.num
  refine ⟨h.num, h.short, h.shorts, h.le, fun f F hF => ?_, ?_, fun F hF => ?_, ?_, ?_⟩
  · rcases k.drop f with e | e
    · exact h.names f F (by rw [← e]; exact hF)
    · rw [hF] at e; cases e
  · rcases h.snap with h0 | ⟨h0, h1⟩
    · exact .inl h0
    · exact .inr ⟨h0, by rw [k.keep _ (stays_snap (by omega) h0)]; exact h1⟩
  · rcases k.drop (snapN (N + 1)) with e | e
    · exact h.junk F (by rw [← e]; exact hF)
    · rw [hF] at e; cases e
  · rcases k.drop (logN (N + 1)) with e | e
    · rw [e]; exact h.next
    · exact e
  · rw [k.keep _ (stays_log (by omega))]
    exact h.log
/-- A store that is open. -/
structure Good (D : DiskD) (S : StoreD) (t : Key) (l : List Key) (s : Nat) : Prop where
  held : Held D S.number t l s
  only : ∀ f F, lookL D.files (keyS f) = some F → f = logN S.number ∨ (0 < S.number ∧ f = snapN S.number)
  file : ∃ sr fr, lookL D.files (keyS (logN S.number)) = some ⟨puts l, sr, fr⟩
  log : S.log = ⟨logN S.number, (puts l).length, l.length, s, false⟩
  ok : S.broken = false
theorem Good.few {D : DiskD} {S : StoreD} {t : Key} {l : List Key} {s : Nat} (h : Good D S t l s) (hf : Fine D) : (namesD D).length ≤ 2 :=
  few_two hf fun f F hF => (h.only f F hF).imp id fun e => e.2
/-- What a call leaves of a disk's size. -/
structure Near (D D' : DiskD) (cost : Nat) : Prop where
  fused : D'.fused = D.fused
  room : D'.room = D.room
  total : total D'.files ≤ total D.files + cost
  fine : Fine D'
theorem Leaves.near {D D' : DiskD} {n : Key} {c : Nat} (h : Leaves D D' n c) : Near D D' c := ⟨h.fused, h.room, h.total, h.fine⟩
theorem Shrunk.near {D D' : DiskD} {n : Nat} (h : Shrunk n D D') : Near D D' 0 := ⟨h.fused, h.room, h.total, h.fine⟩
theorem Near.trans {A B C : DiskD} {a b : Nat} (h : Near A B a) (k : Near B C b) : Near A C (a + b) := ⟨k.fused.trans h.fused, k.room.trans h.room, by have := h.total; have := k.total; omega, k.fine⟩
theorem Near.refl {D : DiskD} (h : Fine D) : Near D D 0 := ⟨rfl, rfl, Nat.le_refl _, h⟩
theorem Near.le {D D' : DiskD} {a b : Nat} (h : Near D D' a) (hab : a ≤ b) : Near D D' b := ⟨h.fused, h.room, by have := h.total; omega, h.fine⟩
/-- The store that Open makes. -/
def opened (N j : Nat) (l : List Key) : StoreD := ⟨⟨logN N, (puts (l.take j)).length, j, j, false⟩, N, false⟩
theorem puts_zero {l : List Key} {j : Nat} (h : (puts (l.take j)).length = 0) (hj : j ≤ l.length) : j = 0 := by
  cases j with
  | zero => rfl
  | succ j =>
    exfalso
    rw [puts_take_succ l j (by omega), List.length_append, put_length] at h
    omega
/-- log.Open on a store's log. -/
theorem openL_held {D : DiskD} {N : Nat} {t : Key} {l : List Key} {s : Nat} (h : Held D N t l s) (hf : Fine D) (hon : ∀ f F, lookL D.files (keyS f) = some F → f = logN N ∨ (0 < N ∧ f = snapN N)) :
    (D.fused = true ∧ ∃ D', openL D (logN N) = (D', none, 70) ∧ Held D' N t l s ∧ Near D D' 0) ∨
      ∃ D' j, openL D (logN N) = (D', some (⟨logN N, (puts (l.take j)).length, j, j, false⟩, l.take j), 0) ∧ s ≤ j ∧ j ≤ l.length ∧ ((∃ sr fr, lookL D.files (keyS (logN N)) = some ⟨puts l, sr, fr⟩) → j = l.length) ∧ Good D' (opened N j l) t (l.take j) j ∧ Near D D' 0 := by
  have hN := h.num
  have hlen : ∀ j, j ≤ l.length → (l.take j).length = j := fun j hj => by rw [List.length_take]; omega
  have hfew : D.files.length < 16 := by
    have := few_two hf fun f F hF => (hon f F hF).imp id fun e => e.2
    rw [names_len] at this
    omega
  -- the disk behind it: the log's file alone is turned
  have out : ∀ {D' : DiskD} {n : Nat}, Leaves D D' (logN N) n → ∀ f F, lookL D'.files (keyS f) = some F → f = logN N ∨ (0 < N ∧ f = snapN N) := fun k f F hF => by
    by_cases e : f = logN N
    · exact .inl e
    · rw [k.other f e] at hF
      exact hon f F hF
  have held : ∀ {D' : DiskD} {n : Nat} {l' : List Key} {s' : Nat}, Leaves D D' (logN N) n → (∀ r ∈ l', r.length ≤ 1048576) → s' ≤ l'.length → ((lookL D'.files (keyS (logN N)) = none ∧ s' = 0) ∨ ∃ F k, lookL D'.files (keyS (logN N)) = some F ∧ k ≤ (puts l').length ∧ F.bytes = (puts l').take k ∧ (puts (l'.take s')).length ≤ F.sure ∧ F.sure ≤ k ∧ (F.fresh = true → F.sure = 0 ∧ s' = 0)) → Held D' N t l' s' := fun {D'} {n} {l'} {s'} k h1 h2 h3 =>
    ⟨h.num, h.short, h1, h2, fun f F hF => by
      rcases out k f F hF with e | ⟨_, e⟩
      · exact ⟨N, by omega, .inr e⟩
      · exact ⟨N, by omega, .inl e⟩, by
      rw [k.other (snapN N) (snap_log _ _)]
      exact h.snap, fun F hF => by
      rcases out k _ F hF with e | ⟨_, e⟩
      · exact absurd e (snap_log _ _)
      · exact absurd e (snap_ne (by omega) (by omega) (by omega)), by
      rw [k.other _ (log_ne (by omega) (by omega) (by omega))]
      exact h.next, h3⟩
  -- the store that is opened
  have fine : ∀ {D' : DiskD} {n j : Nat} {fr : Bool}, Leaves D D' (logN N) n → j ≤ l.length → lookL D'.files (keyS (logN N)) = some ⟨puts (l.take j), (puts (l.take j)).length, fr⟩ → (fr = true → j = 0) → Good D' (opened N j l) t (l.take j) j := fun {D'} {n} {j} {fr} k hj hl hfr =>
    ⟨held k (fun r hr => h.shorts r (List.mem_of_mem_take hr)) (by rw [hlen j hj]; exact Nat.le_refl _) (.inr ⟨_, (puts (l.take j)).length, hl, Nat.le_refl _, by rw [List.take_length], by rw [List.take_take, Nat.min_self]; exact Nat.le_refl _, Nat.le_refl _, fun e => by
      have := hfr e
      subst this
      exact ⟨by simp [puts_nil], rfl⟩⟩), out k, ⟨_, _, hl⟩, by unfold opened; rw [hlen j hj], rfl⟩
  rcases h.log with ⟨h0, hs0⟩ | ⟨F, k, h1, h2, h3, h4, h5, h6⟩
  · subst hs0
    rcases create_leaves hf (may_log (n := N) (by omega)) h0 hfew with ⟨hfu, hc⟩ | ⟨D1, hc, hl1, k1⟩
    · left
      refine ⟨hfu, D, ?_, h, Near.refl hf⟩
      unfold openL
      rw [h0]
      simp only
      rw [hc, if_neg (by show ¬ ((70 : Int) = 0); decide)]
    · have ho : openL D (logN N) = ends (logN N) [] (syncD D1 (logN N)) := by
        unfold openL
        rw [h0]
        simp only
        rw [hc]
        simp only [if_true]
        unfold mend
        rw [if_neg (by decide), if_pos (.inl rfl)]
      rcases sync_leaves k1.fine hl1 with ⟨hfu, hs⟩ | ⟨D2, hs, hl2, k2⟩
      · left
        refine ⟨by rw [← k1.fused]; exact hfu, D1, ?_, held k1 h.shorts h.le (.inr ⟨_, 0, hl1, Nat.zero_le _, rfl, by simp [puts_nil], Nat.le_refl _, fun _ => ⟨rfl, rfl⟩⟩), k1.near⟩
        rw [ho, hs]
        unfold ends
        rw [if_neg (by show ¬ ((70 : Int) = 0); decide)]
      · right
        refine ⟨D2, 0, ?_, Nat.le_refl _, Nat.zero_le _, fun e => ?_, fine (k1.trans k2) (Nat.zero_le _) hl2 (fun e => by cases e), (k1.trans k2).near⟩
        · rw [ho, hs]
          unfold ends
          rw [if_pos rfl]
          rfl
        · obtain ⟨sr, fr, e⟩ := e
          rw [h0] at e
          cases e
  · obtain ⟨j, b1, b2, b3, b4, b5⟩ := scan_part l h.shorts k s h2 (Nat.le_trans h4 h5) h.le
    have hlenk : ((puts l).take k).length = k := by rw [List.length_take]; omega
    have ho : openL D (logN N) = ends (logN N) F.bytes (mend D (logN N) F.bytes false) := by unfold openL; rw [h1]
    rw [← h3] at b3 b4 hlenk
    have hans : ∀ D', ends (logN N) F.bytes (D', 0) = (D', some (⟨logN N, (puts (l.take j)).length, j, j, false⟩, l.take j), 0) := fun D' => by
      unfold ends fresh
      rw [if_pos rfl, b3, b4, hlen j b2]
    have hwhole : (∃ sr fr, lookL D.files (keyS (logN N)) = some ⟨puts l, sr, fr⟩) → j = l.length := fun ⟨sr, fr, e⟩ => by
      rw [h1] at e
      injection e with e
      have : recs F.bytes = l := by rw [e]; exact (good_puts l h.shorts).2
      rw [this] at b3
      have := congrArg List.length b3
      rw [hlen j b2] at this
      omega
    by_cases hg : good F.bytes < F.bytes.length
    · have hm : mend D (logN N) F.bytes false = cutD D (logN N) (good F.bytes : Int) := by unfold mend; rw [if_pos hg]
      rcases cut_leaves hf h1 (good F.bytes) (good_le _) with ⟨hfu, hc⟩ | ⟨D1, hc, hl1, k1⟩
      · left
        refine ⟨hfu, D, ?_, h, Near.refl hf⟩
        rw [ho, hm, hc]
        unfold ends
        rw [if_neg (by show ¬ ((70 : Int) = 0); decide)]
      · right
        rw [b4, h3, List.take_take, Nat.min_eq_left b5, puts_part] at hl1
        exact ⟨D1, j, by rw [ho, hm, hc, hans], b1, b2, hwhole, fine k1 b2 hl1 (fun e => by cases e), k1.near⟩
    · have hgl := good_le F.bytes
      have hkj : k = (puts (l.take j)).length := by omega
      have hbytes : F.bytes = puts (l.take j) := by rw [h3, hkj]; exact puts_part l j
      by_cases hlo : 0 < looseD D (logN N)
      · have hm : mend D (logN N) F.bytes false = syncD D (logN N) := by unfold mend; rw [if_neg hg, if_pos (.inr hlo)]
        rcases sync_leaves hf h1 with ⟨hfu, hs⟩ | ⟨D1, hs, hl1, k1⟩
        · left
          refine ⟨hfu, D, ?_, h, Near.refl hf⟩
          rw [ho, hm, hs]
          unfold ends
          rw [if_neg (by show ¬ ((70 : Int) = 0); decide)]
        · right
          rw [hbytes] at hl1
          exact ⟨D1, j, by rw [ho, hm, hs, hans], b1, b2, hwhole, fine k1 b2 hl1 (fun e => by cases e), k1.near⟩
      · have hm : mend D (logN N) F.bytes false = (D, 0) := by
          unfold mend
          rw [if_neg hg, if_neg]
          rintro (e | e)
          · cases e
          · exact hlo e
        have hsu : F.sure = F.bytes.length := by
          have : looseD D (logN N) = F.bytes.length - F.sure := by unfold looseD findD; rw [h1]
          have := hf.sure _ (mem_of_look h1)
          simp only at this
          omega
        right
        refine ⟨D, j, by rw [ho, hm, hans], b1, b2, hwhole, fine (Leaves.refl hf (logN N)) b2 (fr := F.fresh) ?_ (fun e => ?_), Near.refl hf⟩
        · rw [h1]
          obtain ⟨bb, sr, fr⟩ := F
          simp only at hbytes hsu
          rw [hsu, hbytes]
        · have := (h6 e).1
          exact puts_zero (l := l) (by rw [← hbytes]; omega) b2
/-- Open. -/
theorem open_held {D : DiskD} {N : Nat} {t : Key} {l : List Key} {s : Nat} (h : Held D N t l s) (hf : Fine D) :
    (D.fused = true ∧ ∃ D', openS D = (D', none, 70) ∧ Held D' N t l s ∧ Near D D' 0) ∨
      ∃ D' j, openS D = (D', some (opened N j l, t, l.take j), 0) ∧ s ≤ j ∧ j ≤ l.length ∧ ((∃ sr fr, lookL D.files (keyS (logN N)) = some ⟨puts l, sr, fr⟩) → j = l.length) ∧ Good D' (opened N j l) t (l.take j) j ∧ Near D D' 0 := by
  have hN := h.num
  have hfind := find_held h hf
  have hsure : sureS D N = (D, 0) := by
    unfold sureS
    refine if_neg fun e => ?_
    rcases h.snap with ⟨h0, _⟩ | ⟨h0, h1⟩
    · omega
    · have := e.2
      unfold looseD findD at this
      rw [h1] at this
      simp at this
  obtain ⟨D1, c, hc, k1, h3⟩ := clean_ok hf N
  have h1 := h.shrunk k1
  have hon : openN D N = if c ≠ 0 then (D1, none, c) else openL D1 (logN N) := by
    unfold openN
    rw [hsure, if_neg (by simp), hc]
  have hos : openS D = ((openN D N).1, (openN D N).2.1.map fun p => (⟨p.1, N, false⟩, t, p.2), (openN D N).2.2) := by
    unfold openS
    rw [hfind]
  rcases h3 with ⟨rfl, hst⟩ | ⟨hfu, rfl⟩
  · rw [if_neg (by simp)] at hon
    have hon2 : ∀ f F, lookL D1.files (keyS f) = some F → f = logN N ∨ (0 < N ∧ f = snapN N) := fun f F hF => by
      obtain ⟨m, hm, e⟩ := h1.names f F hF
      exact stays_only (by omega) e (hst f F hF)
    rcases openL_held h1 k1.fine hon2 with ⟨a1, D2, a2, a3, a4⟩ | ⟨D2, j, a2, a3, a4, a5, a6, a7⟩
    · left
      refine ⟨by rw [← k1.fused]; exact a1, D2, ?_, a3, k1.near.trans a4⟩
      rw [hos, hon, a2]
      rfl
    · right
      refine ⟨D2, j, ?_, a3, a4, fun e => a5 (by rw [k1.keep _ (stays_log (by omega))]; exact e), a6, k1.near.trans a7⟩
      rw [hos, hon, a2]
      rfl
  · left
    rw [if_pos (by decide)] at hon
    refine ⟨hfu, D1, ?_, h1, k1.near⟩
    rw [hos, hon]
    rfl
end Go.Proofs.YtmejdcnnpenaaaaGreatDoor.St
end

/-
  Stores (layer 9) on plain data: what Append, Sync, Save make of a store that is open. No program in sight. No condition.
-/
section
open Go Go.RowKit
namespace Go.Proofs.YtmejdcnnpenaaaaGreatDoor.St
open Base Mp Dk Frame Lg

theorem nodup_in : ∀ (m l : List Key), l.Pairwise (· ≠ ·) → (∀ x ∈ l, x ∈ m) → l.length ≤ m.length
  | [], l, _, h => by
    cases l with
    | nil => exact Nat.le_refl _
    | cons x r => exact absurd (h x (by simp)) (by simp)
  | a :: m, l, hp, h => by
    by_cases ha : a ∈ l
    · obtain ⟨l1, l2, rfl⟩ := List.append_of_mem ha
      rw [List.pairwise_append, List.pairwise_cons] at hp
      obtain ⟨h1, ⟨h2, h3⟩, h4⟩ := hp
      have := nodup_in m (l1 ++ l2) (List.pairwise_append.2 ⟨h1, h3, fun x hx y hy => h4 x hx y (by simp [hy])⟩) fun x hx => by
        have hne : x ≠ a := by
          rcases List.mem_append.1 hx with hx | hx
          · exact h4 x hx a (by simp)
          · exact fun e => h2 x hx e.symm
        have := h x (by
          rcases List.mem_append.1 hx with hx | hx
          · simp [hx]
          · simp [hx])
        rcases List.mem_cons.1 this with e | e
        · exact absurd e hne
        · exact e
      simp only [List.length_append, List.length_cons] at this ⊢
      omega
    · have := nodup_in m l hp fun x hx => by
        rcases List.mem_cons.1 (h x hx) with e | e
        · exact absurd (e ▸ hx) ha
        · exact e
      simp only [List.length_cons]
      omega
theorem few_in {D : DiskD} (hf : Fine D) (m : List Key) (h : ∀ f F, lookL D.files (keyS f) = some F → f ∈ m) : D.files.length ≤ m.length := by
  have := nodup_in m (namesD D) hf.nodup fun x hx => by
    obtain ⟨F, hF⟩ := (name_iff hf x).1 hx
    exact h x F hF
  rw [names_len] at this
  exact this
/-- The log's file alone was turned. -/
theorem Good.turned {D D' : DiskD} {S S' : StoreD} {t : Key} {l l' : List Key} {s s' c : Nat} (h : Good D S t l s) (k : Leaves D D' (logN S.number) c) (hn : S'.number = S.number) (h1 : ∀ r ∈ l', r.length ≤ 1048576) (h2 : s' ≤ l'.length) {sr : Nat} {fr : Bool} (h3 : lookL D'.files (keyS (logN S.number)) = some ⟨puts l', sr, fr⟩) (h4 : (puts (l'.take s')).length ≤ sr) (h5 : sr ≤ (puts l').length) (h6 : fr = true → sr = 0 ∧ s' = 0)
    (hlog : S'.log = ⟨logN S.number, (puts l').length, l'.length, s', false⟩) (hok : S'.broken = false) : Good D' S' t l' s' := by
  have hN := h.held.num
  have out : ∀ f F, lookL D'.files (keyS f) = some F → f = logN S.number ∨ (0 < S.number ∧ f = snapN S.number) := fun f F hF => by
    by_cases e : f = logN S.number
    · exact .inl e
    · rw [k.other f e] at hF
      exact h.only f F hF
  refine ⟨?_, by rw [hn]; exact out, ⟨sr, fr, by rw [hn]; exact h3⟩, by rw [hn]; exact hlog, hok⟩
  rw [hn]
  refine ⟨hN, h.held.short, h1, h2, fun f F hF => ?_, by rw [k.other (snapN S.number) (snap_log _ _)]; exact h.held.snap, fun F hF => ?_, by rw [k.other _ (log_ne (by omega) (by omega) (by omega))]; exact h.held.next, .inr ⟨_, (puts l').length, h3, Nat.le_refl _, by rw [List.take_length], h4, h5, h6⟩⟩
  · rcases out f F hF with e | ⟨_, e⟩
    · exact ⟨S.number, by omega, .inr e⟩
    · exact ⟨S.number, by omega, .inl e⟩
  · rcases out _ F hF with e | ⟨_, e⟩
    · exact absurd e (snap_log _ _)
    · exact absurd e (snap_ne (by omega) (by omega) (by omega))
/-- Two stores' logs are alike, but for their marks. -/
structure Like (S S' : StoreD) : Prop where
  size : S'.log.size = S.log.size
  count : S'.log.count = S.log.count
  name : S'.log.name = S.log.name
  num : S'.number = S.number
/-- The file, as it is. -/
theorem Good.at {D : DiskD} {S : StoreD} {t : Key} {l : List Key} {s : Nat} (h : Good D S t l s) : ∃ sr fr, lookL D.files (keyS (logN S.number)) = some ⟨puts l, sr, fr⟩ ∧ (puts (l.take s)).length ≤ sr ∧ sr ≤ (puts l).length ∧ (fr = true → sr = 0 ∧ s = 0) := by
  obtain ⟨sr, fr, h1⟩ := h.file
  rcases h.held.log with ⟨h2, _⟩ | ⟨F, k, h2, h3, _, h5, h6, h7⟩
  · rw [h1] at h2; cases h2
  · rw [h1] at h2
    injection h2 with h2
    subst h2
    exact ⟨sr, fr, h1, h5, Nat.le_trans h6 h3, h7⟩
theorem Good.logged {D : DiskD} {S : StoreD} {t : Key} {l : List Key} {s : Nat} (h : Good D S t l s) : S.log.name = logN S.number ∧ S.log.broken = false := by rw [h.log]; exact ⟨rfl, rfl⟩
/-- Append of one record. -/
theorem good_put {D : DiskD} {S : StoreD} {t : Key} {l : List Key} {s : Nat} (h : Good D S t l s) (hf : Fine D) (x : Key) (hx : x.length ≤ 1048576) :
    (∃ D' S', putS D S [x] = (D', S', 0) ∧ Good D' S' t (l ++ [x]) s ∧ S'.number = S.number ∧ Near D D' (8 + x.length)) ∨ (left D < 8 + x.length ∧ putS D S [x] = (D, S, 6)) ∨ (D.fused = true ∧ ∃ S', putS D S [x] = (D, S', 70) ∧ S'.broken = true ∧ Like S S') := by
  obtain ⟨sr, fr, h1, h2, h3, h4⟩ := h.at
  obtain ⟨hnm, hlb⟩ := h.logged
  have hp : puts l ++ puts [x] = puts (l ++ [x]) := by unfold puts; rw [List.map_append, List.flatten_append]
  have hpl : (puts [x]).length = 8 + x.length := by rw [puts_one, put_length]
  have hps : putS D S [x] = ((putRs D S.log [x]).1, toldS { S with log := (putRs D S.log [x]).2.1 } (putRs D S.log [x]).2.2, (putRs D S.log [x]).2.2) := if_neg (by rw [h.ok]; decide)
  have hpr : putRs D S.log [x] = if (appendD D (logN S.number) (puts [x])).2 = 0 then ((appendD D (logN S.number) (puts [x])).1, { S.log with size := S.log.size + (puts [x]).length, count := S.log.count + [x].length }, 0)
    else ((appendD D (logN S.number) (puts [x])).1, toldL S.log (appendD D (logN S.number) (puts [x])).2, (appendD D (logN S.number) (puts [x])).2) := by
    unfold putRs
    rw [if_neg (by rw [hlb]; decide), if_neg (by simp)]
    simp only [hnm]
  rcases append_leaves hf h1 (puts [x]) with ⟨hfu, ha⟩ | ⟨hr, ha⟩ | ⟨D', ha, hl, k⟩
  · right; right
    rw [ha, if_neg (by show ¬ ((70 : Int) = 0); decide)] at hpr
    rw [hpr] at hps
    exact ⟨hfu, _, hps, rfl, ⟨rfl, rfl, rfl, rfl⟩⟩
  · right; left
    rw [ha, if_neg (by show ¬ ((6 : Int) = 0); decide)] at hpr
    rw [hpr] at hps
    refine ⟨by rw [← hpl]; exact hr, hps.trans ?_⟩
    simp only [told_full]
    rfl
  · left
    rw [ha, if_pos rfl] at hpr
    rw [hpr] at hps
    simp only at hl
    rw [hp] at hl
    refine ⟨D', _, hps, h.turned k rfl (fun r hr => ?_) (by have := h.held.le; rw [List.length_append]; omega) hl (by rw [List.take_append_of_le_length h.held.le]; exact h2) (by rw [← hp, List.length_append]; omega) h4 ?_ h.ok, rfl, by rw [← hpl]; exact k.near⟩
    · rcases List.mem_append.1 hr with hr | hr
      · exact h.held.shorts r hr
      · rw [List.mem_singleton.1 hr]; exact hx
    · show ({ S.log with size := S.log.size + (puts [x]).length, count := S.log.count + [x].length } : LogD) = _
      rw [h.log, ← hp, List.length_append, List.length_append]
/-- Sync. -/
theorem good_keep {D : DiskD} {S : StoreD} {t : Key} {l : List Key} {s : Nat} (h : Good D S t l s) (hf : Fine D) :
    (∃ D' S', keepS D S = (D', S', 0) ∧ Good D' S' t l l.length ∧ S'.number = S.number ∧ Near D D' 0) ∨ (D.fused = true ∧ ∃ S', keepS D S = (D, S', 70) ∧ S'.broken = true ∧ Like S S') := by
  obtain ⟨sr, fr, h1, h2, h3, h4⟩ := h.at
  obtain ⟨hnm, hlb⟩ := h.logged
  have hps : keepS D S = ((keepL D S.log).1, toldS { S with log := (keepL D S.log).2.1 } (keepL D S.log).2.2, (keepL D S.log).2.2) := if_neg (by rw [h.ok]; decide)
  have hpr : keepL D S.log = if (syncD D (logN S.number)).2 = 0 then ((syncD D (logN S.number)).1, { S.log with sure := S.log.count }, 0) else ((syncD D (logN S.number)).1, toldL S.log (syncD D (logN S.number)).2, (syncD D (logN S.number)).2) := by
    unfold keepL
    rw [if_neg (by rw [hlb]; decide)]
    simp only [hnm]
  rcases sync_leaves hf h1 with ⟨hfu, ha⟩ | ⟨D', ha, hl, k⟩
  · right
    rw [ha, if_neg (by show ¬ ((70 : Int) = 0); decide)] at hpr
    rw [hpr] at hps
    exact ⟨hfu, _, hps, rfl, ⟨rfl, rfl, rfl, rfl⟩⟩
  · left
    rw [ha, if_pos rfl] at hpr
    rw [hpr] at hps
    refine ⟨D', _, hps, h.turned k rfl h.held.shorts (Nat.le_refl _) hl (by rw [List.take_length]; exact Nat.le_refl _) (Nat.le_refl _) (fun e => by cases e) ?_ h.ok, rfl, k.near⟩
    show ({ S.log with sure := S.log.count } : LogD) = _
    rw [h.log]
/-! Save. -/
/-- The next store's files. -/
theorem held_next {D : DiskD} {N : Nat} {x : Key} (hn : N + 1 ≤ 1000000) (hx : x.length ≤ 1048576) (h1 : lookL D.files (keyS (snapN (N + 1))) = some ⟨put x, (put x).length, false⟩) (h2 : ∀ F, lookL D.files (keyS (logN (N + 1))) = some F → F.bytes = [] ∧ F.sure = 0) (h3 : ∀ f F, lookL D.files (keyS f) = some F → f = logN N ∨ f = snapN N ∨ f = snapN (N + 1) ∨ f = logN (N + 1)) : Held D (N + 1) x [] 0 := by
  refine ⟨hn, hx, fun r hr => (by cases hr), Nat.le_refl _, fun f F hF => ?_, .inr ⟨by omega, h1⟩, fun F hF => ?_, ?_, ?_⟩
  · rcases h3 f F hF with e | e | e | e
    · exact ⟨N, by omega, .inr e⟩
    · exact ⟨N, by omega, .inl e⟩
    · exact ⟨N + 1, by omega, .inl e⟩
    · exact ⟨N + 1, by omega, .inr e⟩
  · exfalso
    rcases h3 _ F hF with e | e | e | e
    · exact snap_log _ _ e
    · exact snap_ne (by omega) (by omega) (by omega) e
    · exact snap_ne (by omega) (by omega) (by omega) e
    · exact snap_log _ _ e
  · cases hk : lookL D.files (keyS (logN (N + 1 + 1))) with
    | none => rfl
    | some F =>
      exfalso
      rcases h3 _ F hk with e | e | e | e
      · exact log_ne (by omega) (by omega) (by omega) e
      · exact log_snap _ _ e
      · exact log_snap _ _ e
      · exact log_ne (by omega) (by omega) (by omega) e
  · cases hk : lookL D.files (keyS (logN (N + 1))) with
    | none => exact .inl ⟨rfl, rfl⟩
    | some F =>
      obtain ⟨e1, e2⟩ := h2 F hk
      exact .inr ⟨F, 0, rfl, Nat.zero_le _, by rw [e1]; rfl, by simp [puts_nil], by omega, fun _ => ⟨e2, rfl⟩⟩
/-- The snapshot's file. -/
theorem good_write {D : DiskD} {S : StoreD} {t : Key} {l : List Key} {s : Nat} (h : Good D S t l s) (hf : Fine D) (x : Key) (hx : x.length ≤ 1048576) :
    (∃ D', writeS D (S.number + 1) x = (D', 0) ∧ lookL D'.files (keyS (snapN (S.number + 1))) = some ⟨put x, (put x).length, false⟩ ∧ Leaves D D' (snapN (S.number + 1)) (8 + x.length)) ∨
      (left D < 8 + x.length ∧ (D.fused = true ∨ ∃ D', writeS D (S.number + 1) x = (D', 6) ∧ lookL D'.files (keyS (snapN (S.number + 1))) = none ∧ Leaves D D' (snapN (S.number + 1)) 0)) ∨
      (D.fused = true ∧ ∃ D', writeS D (S.number + 1) x = (D', 70) ∧ (∀ F, lookL D'.files (keyS (snapN (S.number + 1))) = some F → Part x F.bytes) ∧ Leaves D D' (snapN (S.number + 1)) (8 + x.length)) := by
  have hN := h.held.num
  have h0 : lookL D.files (keyS (snapN (S.number + 1))) = none := by
    cases hl : lookL D.files (keyS (snapN (S.number + 1))) with
    | none => rfl
    | some F =>
      exfalso
      rcases h.only _ F hl with e | ⟨_, e⟩
      · exact snap_log _ _ e
      · exact snap_ne (by omega) (by omega) (by omega) e
  have hfew : D.files.length < 16 := by
    have := h.few hf
    rw [names_len] at this
    omega
  have hmay := may_snap (n := S.number + 1) (by omega)
  unfold writeS
  generalize snapN (S.number + 1) = nm at *
  have leN : ∀ {E : DiskD} {c : Nat}, Leaves D E nm c → c ≤ 8 + x.length → Leaves D E nm (8 + x.length) := fun k hc => ⟨k.fused, k.room, k.other, by have := k.total; omega, k.fine⟩
  rcases create_leaves hf hmay h0 hfew with ⟨hfu, hc⟩ | ⟨D1, hc, hl1, k1⟩
  · right; right
    have hm : writeM D nm x = (D, 70, false) := by unfold writeM; rw [hc]; rfl
    refine ⟨hfu, D, ?_, fun F hF => (by rw [h0] at hF; cases hF), leN (Leaves.refl hf nm) (Nat.zero_le _)⟩
    rw [hm]
    rfl
  · have hl1' := hl1
    rcases append_leaves k1.fine hl1 (put x) with ⟨hfu, ha⟩ | ⟨hr, ha⟩ | ⟨D2, ha, hl2, k2⟩
    · right; right
      have hm : writeM D nm x = (D1, 70, true) := by unfold writeM; rw [hc]; simp only; rw [if_neg (by simp), ha]; rfl
      rw [hm, if_pos ⟨by show (70 : Int) ≠ 0; decide, rfl⟩]
      rcases remove_leaves k1.fine hl1 with ⟨_, hr⟩ | ⟨D3, hr, hl3, k3⟩
      · rw [hr]
        exact ⟨by rw [← k1.fused]; exact hfu, D1, rfl, fun F hF => (by rw [hl1] at hF; injection hF with hF; rw [← hF]; exact ⟨0, Nat.zero_le _, rfl⟩), leN k1 (Nat.zero_le _)⟩
      · rw [hr]
        exact ⟨by rw [← k1.fused]; exact hfu, D3, rfl, fun F hF => (by rw [hl3] at hF; cases hF), leN (k1.trans k3) (Nat.zero_le _)⟩
    · right; left
      have hm : writeM D nm x = (D1, 6, true) := by unfold writeM; rw [hc]; simp only; rw [if_neg (by simp), ha]; rfl
      have hle : left D < 8 + x.length := by
        have := k1.total
        have := k1.room
        rw [put_length] at hr
        unfold left at hr ⊢
        omega
      refine ⟨hle, ?_⟩
      rw [hm, if_pos ⟨by show (6 : Int) ≠ 0; decide, rfl⟩]
      rcases remove_leaves k1.fine hl1 with ⟨hfu, hr⟩ | ⟨D3, hr, hl3, k3⟩
      · exact .inl (by rw [← k1.fused]; exact hfu)
      · right
        rw [hr]
        exact ⟨D3, rfl, hl3, k1.trans k3⟩
    · simp only [List.nil_append] at hl2
      have hpl : (put x).length = 8 + x.length := put_length x
      rcases sync_leaves k2.fine hl2 with ⟨hfu, hs⟩ | ⟨D3, hs, hl3, k3⟩
      · right; right
        have hm : writeM D nm x = (D2, 70, true) := by unfold writeM; rw [hc]; simp only; rw [if_neg (by simp), ha]; simp only; rw [if_neg (by simp), hs]
        rw [hm, if_pos ⟨by show (70 : Int) ≠ 0; decide, rfl⟩]
        have hfu2 : D.fused = true := by rw [← k1.fused, ← k2.fused]; exact hfu
        rcases remove_leaves k2.fine hl2 with ⟨_, hr⟩ | ⟨D4, hr, hl4, k4⟩
        · rw [hr]
          exact ⟨hfu2, D2, rfl, fun F hF => (by rw [hl2] at hF; injection hF with hF; rw [← hF]; exact ⟨8 + x.length, Nat.le_refl _, (List.take_of_length_le (by rw [hpl]; exact Nat.le_refl _)).symm⟩), leN (k1.trans k2) (by omega)⟩
        · rw [hr]
          exact ⟨hfu2, D4, rfl, fun F hF => (by rw [hl4] at hF; cases hF), leN ((k1.trans k2).trans k4) (by omega)⟩
      · left
        have hm : writeM D nm x = (D3, 0, true) := by unfold writeM; rw [hc]; simp only; rw [if_neg (by simp), ha]; simp only; rw [if_neg (by simp), hs]
        rw [hm, if_neg (fun e => e.1 rfl)]
        exact ⟨D3, rfl, hl3, leN ((k1.trans k2).trans k3) (by omega)⟩
/-- log.Open, where there is no such file. -/
theorem openL_absent {D : DiskD} (hf : Fine D) {n : Nat} (hn : n ≤ 1000001) (h0 : lookL D.files (keyS (logN n)) = none) (h16 : D.files.length < 16) :
    (D.fused = true ∧ ∃ D', openL D (logN n) = (D', none, 70) ∧ Leaves D D' (logN n) 0 ∧ ∀ F, lookL D'.files (keyS (logN n)) = some F → F.bytes = [] ∧ F.sure = 0) ∨
      ∃ D', openL D (logN n) = (D', some (⟨logN n, 0, 0, 0, false⟩, []), 0) ∧ Leaves D D' (logN n) 0 ∧ lookL D'.files (keyS (logN n)) = some ⟨[], 0, false⟩ := by
  rcases create_leaves hf (may_log (n := n) (by omega)) h0 h16 with ⟨hfu, hc⟩ | ⟨D1, hc, hl1, k1⟩
  · left
    refine ⟨hfu, D, ?_, Leaves.refl hf _, fun F hF => (by rw [h0] at hF; cases hF)⟩
    unfold openL
    rw [h0]
    simp only
    rw [hc, if_neg (by show ¬ ((70 : Int) = 0); decide)]
  · have ho : openL D (logN n) = ends (logN n) [] (syncD D1 (logN n)) := by
      unfold openL
      rw [h0]
      simp only
      rw [hc]
      simp only [if_true]
      unfold mend
      rw [if_neg (by decide), if_pos (.inl rfl)]
    rcases sync_leaves k1.fine hl1 with ⟨hfu, hs⟩ | ⟨D2, hs, hl2, k2⟩
    · left
      refine ⟨by rw [← k1.fused]; exact hfu, D1, ?_, k1, fun F hF => by rw [hl1] at hF; injection hF with hF; rw [← hF]; exact ⟨rfl, rfl⟩⟩
      rw [ho, hs]
      unfold ends
      rw [if_neg (by show ¬ ((70 : Int) = 0); decide)]
    · right
      refine ⟨D2, ?_, k1.trans k2, hl2⟩
      rw [ho, hs]
      unfold ends
      rw [if_pos rfl]
      rfl
end Go.Proofs.YtmejdcnnpenaaaaGreatDoor.St
end

/-
  Stores (layer 9) on plain data: what Save makes of a store that is open. No program in sight. No condition.
-/
section
open Go Go.RowKit
namespace Go.Proofs.YtmejdcnnpenaaaaGreatDoor.St
open Base Mp Dk Frame Lg

/-- What a step of turn may do to the disk: files go, or an empty log comes. -/
structure Turning (N : Nat) (x : Key) (D D' : DiskD) : Prop where
  near : Near D D' 0
  snap : lookL D'.files (keyS (snapN (N + 1))) = some ⟨put x, (put x).length, false⟩
  log : ∀ F, lookL D'.files (keyS (logN (N + 1))) = some F → F.bytes = [] ∧ F.sure = 0
  only : ∀ f F, lookL D'.files (keyS f) = some F → f = logN N ∨ f = snapN N ∨ f = snapN (N + 1) ∨ f = logN (N + 1)
theorem Turning.held {N : Nat} {x : Key} {D D' : DiskD} (h : Turning N x D D') (hn : N + 1 ≤ 1000000) (hx : x.length ≤ 1048576) : Held D' (N + 1) x [] 0 := held_next hn hx h.snap h.log h.only
/-- An older file goes. -/
theorem Turning.gone {N : Nat} {x : Key} {D A B : DiskD} {f : Key} (h : Turning N x D A) (k : Leaves A B f 0) (hb : lookL B.files (keyS f) = none) (h1 : f ≠ snapN (N + 1)) : Turning N x D B := by
  refine ⟨h.near.trans k.near, by rw [k.other _ h1.symm]; exact h.snap, fun F hF => ?_, fun g F hF => ?_⟩
  · by_cases e : logN (N + 1) = f
    · rw [e, hb] at hF; cases hF
    · rw [k.other _ e] at hF; exact h.log F hF
  · by_cases e : g = f
    · rw [e, hb] at hF; cases hF
    · rw [k.other _ e] at hF; exact h.only g F hF
/-- Save. -/
theorem good_save {D : DiskD} {S : StoreD} {t : Key} {l : List Key} {s : Nat} (h : Good D S t l s) (hf : Fine D) (hn : S.number + 1 ≤ 1000000) (x : Key) (hx : x.length ≤ 1048576) :
    (∃ D' S', saveS D S x = (D', S', 0) ∧ Good D' S' x [] 0 ∧ S'.number = S.number + 1 ∧ Near D D' (8 + x.length)) ∨
      (left D < 8 + x.length ∧ (D.fused = true ∨ ∃ D', saveS D S x = (D', S, 6) ∧ Good D' S t l s ∧ Near D D' 0)) ∨
      (D.fused = true ∧ ∃ D' S', saveS D S x = (D', S', 70) ∧ S'.broken = true ∧ Like S S' ∧ (Pend x D' S.number t l s ∨ Held D' (S.number + 1) x [] 0) ∧ Near D D' (8 + x.length)) := by
  have hN := h.held.num
  have hps : saveS D S x = if (writeS D (S.number + 1) x).2 ≠ 0 then ((writeS D (S.number + 1) x).1, toldS S (writeS D (S.number + 1) x).2, (writeS D (S.number + 1) x).2) else
      match (turnS (writeS D (S.number + 1) x).1 S.number (S.number + 1)).2.1 with
      | none => ((turnS (writeS D (S.number + 1) x).1 S.number (S.number + 1)).1, { S with broken := true }, (turnS (writeS D (S.number + 1) x).1 S.number (S.number + 1)).2.2)
      | some L => ((turnS (writeS D (S.number + 1) x).1 S.number (S.number + 1)).1, ⟨L, S.number + 1, false⟩, 0) := if_neg (by rw [h.ok]; decide)
  have hsn : ∀ m, snapN (S.number + 1) ≠ logN m := fun m => snap_log _ _
  have hss : snapN (S.number + 1) ≠ snapN S.number := snap_ne (by omega) (by omega) (by omega)
  have hll : logN (S.number + 1) ≠ logN S.number := log_ne (by omega) (by omega) (by omega)
  rcases good_write h hf x hx with ⟨D1, hw, hl1, k1⟩ | ⟨hle, hw⟩ | ⟨hfu, D1, hw, hpart, k1⟩
  · -- the snapshot is there
    rw [hw] at hps
    rw [if_neg (by simp)] at hps
    simp only at hps
    have t1 : Turning S.number x D1 D1 := ⟨Near.refl k1.fine, hl1, fun F hF => (by
      rw [k1.other _ (log_snap _ _), h.held.next] at hF; cases hF), fun f F hF => by
      by_cases e : f = snapN (S.number + 1)
      · exact .inr (.inr (.inl e))
      · rw [k1.other f e] at hF
        rcases h.only f F hF with e | ⟨_, e⟩
        · exact .inl e
        · exact .inr (.inl e)⟩
    have h0 : lookL D1.files (keyS (logN (S.number + 1))) = none := by rw [k1.other _ (log_snap _ _)]; exact h.held.next
    have h16 : D1.files.length < 16 := by
      have := few_in k1.fine [logN S.number, snapN S.number, snapN (S.number + 1), logN (S.number + 1)] fun f F hF => by
        rcases t1.only f F hF with e | e | e | e <;> simp [e]
      simp only [List.length_cons, List.length_nil] at this
      omega
    have bad : ∀ {E : DiskD}, D.fused = true → turnS D1 S.number (S.number + 1) = (E, none, 70) → Turning S.number x D1 E → D.fused = true ∧ ∃ D' S', saveS D S x = (D', S', 70) ∧ S'.broken = true ∧ Like S S' ∧ (Pend x D' S.number t l s ∨ Held D' (S.number + 1) x [] 0) ∧ Near D D' (8 + x.length) := fun {E} hfu he ht => by
      rw [he] at hps
      exact ⟨hfu, E, _, hps, rfl, ⟨rfl, rfl, rfl, rfl⟩, .inr (ht.held hn hx), by have := k1.near.trans ht.near; rw [Nat.add_zero] at this; exact this⟩
    rcases openL_absent k1.fine (by omega) h0 h16 with ⟨hfu, D2, ho, k2, hb⟩ | ⟨D2, ho, k2, hl2⟩
    · right; right
      refine bad (by rw [← k1.fused]; exact hfu) (E := D2) (by unfold turnS; rw [ho]) ⟨k2.near, by rw [k2.other _ (hsn _)]; exact hl1, hb, fun f F hF => ?_⟩
      by_cases e : f = logN (S.number + 1)
      · exact .inr (.inr (.inr e))
      · rw [k2.other f e] at hF; exact t1.only f F hF
    · have t2 : Turning S.number x D1 D2 := ⟨k2.near, by rw [k2.other _ (hsn _)]; exact hl1, fun F hF => by rw [hl2] at hF; injection hF with hF; rw [← hF]; exact ⟨rfl, rfl⟩, fun f F hF => by
        by_cases e : f = logN (S.number + 1)
        · exact .inr (.inr (.inr e))
        · rw [k2.other f e] at hF; exact t1.only f F hF⟩
      -- the older snapshot
      have hold : (D.fused = true ∧ ∃ D3, oldS D2 S.number = (D3, 70) ∧ Turning S.number x D1 D3) ∨ ∃ D3, oldS D2 S.number = (D3, 0) ∧ Turning S.number x D1 D3 ∧ (∀ m, lookL D3.files (keyS (logN m)) = lookL D2.files (keyS (logN m))) ∧ (0 < S.number → lookL D3.files (keyS (snapN S.number)) = none) := by
        by_cases hz : S.number = 0
        · right
          exact ⟨D2, if_pos hz, t2, fun _ => rfl, fun e => by omega⟩
        · rcases h.held.snap with ⟨e, _⟩ | ⟨_, hsn0⟩
          · exact absurd e hz
          · have hl : lookL D2.files (keyS (snapN S.number)) = some ⟨put t, (put t).length, false⟩ := by
              rw [k2.other _ (snap_log _ _), k1.other _ (fun e => hss e.symm)]; exact hsn0
            rcases remove_leaves k2.fine hl with ⟨hfu, hr⟩ | ⟨D3, hr, hl3, k3⟩
            · left
              exact ⟨by rw [← k1.fused, ← k2.fused]; exact hfu, D2, (if_neg hz).trans hr, t2⟩
            · right
              exact ⟨D3, (if_neg hz).trans hr, t2.gone k3 hl3 (fun e => hss e.symm), fun m => k3.other _ (log_snap _ _), fun _ => hl3⟩
      rcases hold with ⟨hfu, D3, ho3, t3⟩ | ⟨D3, ho3, t3, hlk, hgone⟩
      · right; right
        refine bad hfu (E := D3) ?_ t3
        unfold turnS
        rw [ho]
        simp only
        rw [ho3]
        rfl
      · obtain ⟨sr, fr, hfile, -⟩ := h.at
        have hl3 : lookL D3.files (keyS (logN S.number)) = some ⟨puts l, sr, fr⟩ := by
          rw [hlk, k2.other _ (fun e => hll e.symm), k1.other _ (log_snap _ _)]; exact hfile
        have hl3n : lookL D3.files (keyS (logN (S.number + 1))) = some ⟨[], 0, false⟩ := by rw [hlk]; exact hl2
        rcases remove_leaves t3.near.fine hl3 with ⟨hfu, hr⟩ | ⟨D4, hr, hl4, k4⟩
        · right; right
          refine bad (by rw [← k1.fused, ← t3.near.fused]; exact hfu) (E := D3) ?_ t3
          unfold turnS
          rw [ho]
          simp only
          rw [ho3]
          simp only
          rw [if_neg (by simp), hr]
          rfl
        · left
          have t4 := t3.gone k4 hl4 (fun e => hsn _ e.symm)
          have he : turnS D1 S.number (S.number + 1) = (D4, some ⟨logN (S.number + 1), 0, 0, 0, false⟩, 0) := by
            unfold turnS
            rw [ho]
            simp only
            rw [ho3]
            simp only
            rw [if_neg (by simp), hr]
            rfl
          rw [he] at hps
          refine ⟨D4, _, hps, ⟨t4.held hn hx, fun f F hF => ?_, ⟨0, false, ?_⟩, rfl, rfl⟩, rfl, by have := k1.near.trans t4.near; rw [Nat.add_zero] at this; exact this⟩
          · rcases t4.only f F hF with e | e | e | e
            · subst e
              rw [hl4] at hF; cases hF
            · subst e
              rw [k4.other _ (snap_log _ _)] at hF
              by_cases hz : 0 < S.number
              · rw [hgone hz] at hF; cases hF
              · exfalso
                have hz0 : S.number = 0 := by omega
                have : oldS D2 S.number = (D2, 0) := if_pos hz0
                rw [this] at ho3
                injection ho3 with ho3
                subst ho3
                rw [k2.other _ (snap_log _ _), k1.other _ (fun e => hss e.symm)] at hF
                rcases h.only _ F hF with e | ⟨e, _⟩
                · exact snap_log _ _ e
                · omega
            · exact .inr ⟨by show 0 < S.number + 1; omega, e⟩
            · exact .inl e
          · show lookL D4.files (keyS (logN (S.number + 1))) = _
            rw [k4.other _ hll]
            exact hl3n
  · -- no room
    right; left
    refine ⟨hle, hw.imp id fun ⟨D1, hw, hl1, k1⟩ => ?_⟩
    rw [hw] at hps
    rw [if_pos (by show (6 : Int) ≠ 0; decide)] at hps
    have same : ∀ f, lookL D1.files (keyS f) = lookL D.files (keyS f) := fun f => by
      by_cases e : f = snapN (S.number + 1)
      · subst e
        rw [hl1]
        cases hl : lookL D.files (keyS (snapN (S.number + 1))) with
        | none => rfl
        | some F =>
          exfalso
          rcases h.only _ F hl with e | ⟨_, e⟩
          · exact snap_log _ _ e
          · exact hss e
      · exact k1.other f e
    refine ⟨D1, hps, ⟨⟨hN, h.held.short, h.held.shorts, h.held.le, fun f F hF => h.held.names f F (by rw [← same]; exact hF), by rw [same]; exact h.held.snap, fun F hF => h.held.junk F (by rw [← same]; exact hF), by rw [same]; exact h.held.next, by rw [same]; exact h.held.log⟩, fun f F hF => h.only f F (by rw [← same]; exact hF), by rw [same]; exact h.file, h.log, h.ok⟩, k1.near⟩
  · -- cut
    right; right
    rw [hw] at hps
    rw [if_pos (by show (70 : Int) ≠ 0; decide)] at hps
    refine ⟨hfu, D1, _, hps, rfl, ⟨rfl, rfl, rfl, rfl⟩, .inl ⟨hN, h.held.short, h.held.shorts, h.held.le, fun f F hF => ?_, by rw [k1.other _ (fun e => hss e.symm)]; exact h.held.snap, hpart, by rw [k1.other _ (log_snap _ _)]; exact h.held.next, by rw [k1.other _ (log_snap _ _)]; exact h.held.log⟩, k1.near⟩
    by_cases e : f = snapN (S.number + 1)
    · exact ⟨S.number + 1, Nat.le_refl _, .inl e⟩
    · exact h.held.names f F (by rw [← k1.other f e]; exact hF)
/-- A store that is broken answers so. -/
theorem broken_all {D : DiskD} {S : StoreD} (h : S.broken = true) (x : Key) : putS D S [x] = (D, S, 3) ∧ keepS D S = (D, S, 3) ∧ saveS D S x = (D, S, 3) := ⟨if_pos h, if_pos h, if_pos h⟩
/-- A disk without files. -/
theorem held_none (r : Nat) : Held ⟨r, [], false, 0⟩ 0 [] [] 0 := ⟨Nat.zero_le _, by simp, fun r hr => (by cases hr), Nat.le_refl _, fun f F hF => (by cases hF), .inl ⟨rfl, rfl⟩, fun F hF => (by cases hF), rfl, .inl ⟨rfl, rfl⟩⟩
end Go.Proofs.YtmejdcnnpenaaaaGreatDoor.St
end
