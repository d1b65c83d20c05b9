/-
  Stores (layer 9): for StoreKeeps: what a disk will tell through rounds of calls that are cut anywhere, on plain data. No program in sight. No condition.
-/
import Derived.Test.YtmejdcnnpenaaaaGreatDoorZStWorks
open Go Go.RowKit
namespace Go.Proofs.YtmejdcnnpenaaaaGreatDoor.St
open Base Mp Dk Frame Lg

/-- How many bytes, and numbers, at most. -/
structure Cost (D : DiskD) (c : Nat) : Prop where
  fine : Fine D
  total : total D.files ≤ c
  room : D.room = 65536
theorem Cost.near {D D' : DiskD} {c k : Nat} (h : Cost D c) (n : Near D D' k) : Cost D' (c + k) := ⟨n.fine, by have := n.total; have := h.total; omega, n.room.trans h.room⟩
theorem Cost.le {D : DiskD} {c c2 : Nat} (h : Cost D c) (hc : c ≤ c2) : Cost D c2 := ⟨h.fine, Nat.le_trans h.total hc, h.room⟩
theorem Cost.left {D : DiskD} {c k : Nat} (h : Cost D c) (hc : c + k ≤ 65536) : ¬ left D < k := by
  have := h.total
  have := h.room
  unfold Dk.left
  omega
theorem Cost.crash {D : DiskD} {c : Nat} (h : Cost D c) (keep : List Int) : Cost (crashD D keep) c := ⟨crash_fine h.fine keep, Nat.le_trans (crash_total h.fine keep) h.total, h.room⟩
/-- What Open will tell: the last snapshot and its records, or the one that was being saved. -/
inductive Ahead (D : DiskD) (t : Key) (l : List Key) (s : Nat) (o : Option Key) (c : Nat) : Prop where
  | one (N : Nat) (hN : N ≤ c) (h : Held D N t l s)
  | two (x : Key) (N : Nat) (ho : o = some x) (hN : N ≤ c) (h : Held D N x [] 0)
/-- The same ahead of a crash. -/
inductive Tells (D : DiskD) (t : Key) (l : List Key) (s : Nat) (o : Option Key) (c : Nat) : Prop where
  | now (h : Ahead D t l s o c)
  | pend (x : Key) (N : Nat) (ho : o = some x) (hN : N + 1 ≤ c) (hx : x.length ≤ 1048576) (h : Pend x D N t l s)
theorem Ahead.le {D : DiskD} {t : Key} {l : List Key} {s : Nat} {o : Option Key} {c c2 : Nat} (h : Ahead D t l s o c) (hc : c ≤ c2) : Ahead D t l s o c2 := by
  cases h with
  | one N hN h => exact .one N (by omega) h
  | two x N ho hN h => exact .two x N ho (by omega) h
theorem Tells.le {D : DiskD} {t : Key} {l : List Key} {s : Nat} {o : Option Key} {c c2 : Nat} (h : Tells D t l s o c) (hc : c ≤ c2) : Tells D t l s o c2 := by
  cases h with
  | now h => exact .now (h.le hc)
  | pend x N ho hN hx h => exact .pend x N ho (by omega) hx h
theorem Ahead.crash {D : DiskD} {t : Key} {l : List Key} {s : Nat} {o : Option Key} {c : Nat} (h : Ahead D t l s o c) (hf : Fine D) (keep : List Int) : Ahead (crashD D keep) t l s o c := by
  cases h with
  | one N hN h => exact .one N hN (h.crash (fun b m h => h.take m) hf keep)
  | two x N ho hN h => exact .two x N ho hN (h.crash (fun b m h => h.take m) hf keep)
theorem Tells.crash {D : DiskD} {t : Key} {l : List Key} {s : Nat} {o : Option Key} {c : Nat} (h : Tells D t l s o c) (hf : Fine D) (hc : c ≤ 1000000) (keep : List Int) : Ahead (crashD D keep) t l s o c := by
  cases h with
  | now h => exact h.crash hf keep
  | pend x N ho hN hx h =>
    rcases pend_crash (h.crash (fun b m h => h.take m) hf keep) hx (by omega) (fun F hF => crash_settles hf keep _ (mem_of_look hF)) with h | h
    · exact .one N (by omega) h
    · exact .two x (N + 1) ho hN h
theorem Ahead.files {D D' : DiskD} {t : Key} {l : List Key} {s : Nat} {o : Option Key} {c : Nat} (h : Ahead D t l s o c) (e : D'.files = D.files) : Ahead D' t l s o c := by
  have hh : ∀ {N : Nat} {t : Key} {l : List Key} {s : Nat}, Held D N t l s → Held D' N t l s := fun h => ⟨h.num, h.short, h.shorts, h.le, by rw [e]; exact h.names, by rw [e]; exact h.snap, by rw [e]; exact h.junk, by rw [e]; exact h.next, by rw [e]; exact h.log⟩
  cases h with
  | one N hN h => exact .one N hN (hh h)
  | two x N ho hN h => exact .two x N ho hN (hh h)
/-- What a store's numbers are bounded by. -/
structure Small (S : StoreD) : Prop where
  size : S.log.size ≤ 1099511627776
  count : S.log.count ≤ 1099511627776
  name : S.log.name.length ≤ maxLen
  num : S.number < 1099511627776
theorem good_small {D : DiskD} {S : StoreD} {t : Key} {l : List Key} {s : Nat} (h : Good D S t l s) (hf : Fine D) : Small S := by
  have hl := h.log
  obtain ⟨sr, fr, hfile⟩ := h.file
  have h1 := total_mem (mem_of_look hfile)
  have h2 := hf.fits
  have h3 := hf.room
  have hp := puts_len l
  simp only at h1
  refine ⟨by rw [hl]; show (puts l).length ≤ _; omega, by rw [hl]; show l.length ≤ _; omega, ?_, by have := h.held.num; omega⟩
  rw [hl]
  show (logN S.number).length ≤ maxLen
  rw [logN_len (by have := h.held.num; omega)]
  decide
theorem Small.like {S S' : StoreD} (h : Small S) (k : Like S S') : Small S' := ⟨by rw [k.size]; exact h.size, by rw [k.count]; exact h.count, by rw [k.name]; exact h.name, by rw [k.num]; exact h.num⟩
/-- Between two calls of a round. -/
inductive Mid (D : DiskD) (S : StoreD) (t : Key) (l : List Key) (s : Nat) (o : Option Key) (c : Nat) : Prop where
  | live (h : Good D S t l s) (ho : o = none) (hN : S.number ≤ c)
  | dead (hb : S.broken = true) (hs : Small S) (h : Tells D t l s o c)
theorem Mid.small {D : DiskD} {S : StoreD} {t : Key} {l : List Key} {s : Nat} {o : Option Key} {c : Nat} (h : Mid D S t l s o c) (hf : Fine D) : Small S := by
  cases h with
  | live h ho hN => exact good_small h hf
  | dead hb hs h => exact hs
theorem Mid.tells {D : DiskD} {S : StoreD} {t : Key} {l : List Key} {s : Nat} {o : Option Key} {c : Nat} (h : Mid D S t l s o c) : Tells D t l s o c := by
  cases h with
  | live h ho hN => exact .now (.one _ hN h.held)
  | dead hb hs h => exact h
/-- Open. -/
theorem ahead_open {D : DiskD} {t : Key} {l : List Key} {s : Nat} {o : Option Key} {c : Nat} (h : Ahead D t l s o c) (hc : Cost D c) :
    (∃ D', openS D = (D', none, 70) ∧ Ahead D' t l s o c ∧ Cost D' c) ∨
      ∃ D' S t' rs, openS D = (D', some (S, t', rs), 0) ∧ Good D' S t' rs rs.length ∧ S.number ≤ c ∧ Cost D' c ∧ ((∃ j, t' = t ∧ rs = l.take j ∧ s ≤ j ∧ j ≤ l.length) ∨ (o = some t' ∧ rs = [])) := by
  cases h with
  | one N hN h =>
    rcases open_held h hc.fine with ⟨_, D', h1, h2, h3⟩ | ⟨D', j, h1, h2, h3, h4, h5, h6⟩
    · exact .inl ⟨D', h1, .one N hN h2, hc.near h3⟩
    · exact .inr ⟨D', _, t, l.take j, h1, by have e : (l.take j).length = j := by (rw [List.length_take]; omega)
                                             rw [e]; exact h5, hN, hc.near h6, .inl ⟨j, rfl, rfl, h2, h3⟩⟩
  | two x N ho hN h =>
    rcases open_held h hc.fine with ⟨_, D', h1, h2, h3⟩ | ⟨D', j, h1, h2, h3, h4, h5, h6⟩
    · exact .inl ⟨D', h1, .two x N ho hN h2, hc.near h3⟩
    · obtain rfl : j = 0 := by simpa using h3
      exact .inr ⟨D', _, x, [], h1, h5, hN, hc.near h6, .inr ⟨ho, rfl⟩⟩
/-- Append. -/
theorem mid_put {D : DiskD} {S : StoreD} {t : Key} {l : List Key} {s : Nat} {o : Option Key} {c : Nat} (h : Mid D S t l s o c) (hc : Cost D c) (x : Key) (hx : x.length ≤ 1048576) (hk : c + (8 + x.length) ≤ 65536) :
    ∃ D' S' k, putS D S [x] = (D', S', k) ∧ Cost D' (c + (8 + x.length)) ∧ ((k = 0 ∧ Mid D' S' t (l ++ [x]) s o (c + (8 + x.length))) ∨ (k ≠ 0 ∧ k ≠ 70 ∧ Mid D' S' t l s o (c + (8 + x.length))) ∨ (k = 70 ∧ Mid D' S' t l s o (c + (8 + x.length)))) := by
  have hc2 := hc.le (show c ≤ c + (8 + x.length) by omega)
  cases h with
  | live h ho hN =>
    rcases good_put h hc.fine x hx with ⟨D', S', h1, h2, h3, h4⟩ | ⟨e, _⟩ | ⟨_, S', h1, h2, hlk⟩
    · exact ⟨D', S', 0, h1, hc.near h4, .inl ⟨rfl, .live h2 ho (by omega)⟩⟩
    · exact absurd e (hc.left hk)
    · exact ⟨D, S', 70, h1, hc2, .inr (.inr ⟨rfl, .dead h2 ((good_small h hc.fine).like hlk) (.now (.one S.number (by omega) h.held))⟩)⟩
  | dead hb hs h => exact ⟨D, S, 3, (broken_all hb x).1, hc2, .inr (.inl ⟨by decide, by decide, .dead hb hs (h.le (by omega))⟩)⟩
/-- Sync. -/
theorem mid_keep {D : DiskD} {S : StoreD} {t : Key} {l : List Key} {s : Nat} {o : Option Key} {c : Nat} (h : Mid D S t l s o c) (hc : Cost D c) :
    ∃ D' S' k, keepS D S = (D', S', k) ∧ Cost D' c ∧ ((k = 0 ∧ Mid D' S' t l l.length o c) ∨ (k ≠ 0 ∧ Mid D' S' t l s o c)) := by
  cases h with
  | live h ho hN =>
    rcases good_keep h hc.fine with ⟨D', S', h1, h2, h3, h4⟩ | ⟨_, S', h1, h2, hlk⟩
    · exact ⟨D', S', 0, h1, hc.near h4, .inl ⟨rfl, .live h2 ho (by omega)⟩⟩
    · exact ⟨D, S', 70, h1, hc, .inr ⟨by decide, .dead h2 ((good_small h hc.fine).like hlk) (.now (.one S.number hN h.held))⟩⟩
  | dead hb hs h => exact ⟨D, S, 3, (broken_all hb []).2.1, hc, .inr ⟨by decide, .dead hb hs h⟩⟩
/-- Save. -/
theorem mid_save {D : DiskD} {S : StoreD} {t : Key} {l : List Key} {s : Nat} {o : Option Key} {c : Nat} (h : Mid D S t l s o c) (hc : Cost D c) (x : Key) (hx : x.length ≤ 1048576) (hk : c + (8 + x.length) ≤ 65536) :
    ∃ D' S' k, saveS D S x = (D', S', k) ∧ Cost D' (c + (8 + x.length)) ∧ ((k = 0 ∧ Mid D' S' x [] 0 none (c + (8 + x.length))) ∨ (k = 70 ∧ Mid D' S' t l s (some x) (c + (8 + x.length))) ∨ (k ≠ 0 ∧ k ≠ 70 ∧ Mid D' S' t l s o (c + (8 + x.length)))) := by
  have hc2 := hc.le (show c ≤ c + (8 + x.length) by omega)
  cases h with
  | live h ho hN =>
    rcases good_save h hc.fine (by omega) x hx with ⟨D', S', h1, h2, h3, h4⟩ | ⟨e, _⟩ | ⟨_, D', S', h1, h2, hlk, h3, h4⟩
    · exact ⟨D', S', 0, h1, hc.near h4, .inl ⟨rfl, .live h2 rfl (by omega)⟩⟩
    · exact absurd e (hc.left hk)
    · refine ⟨D', S', 70, h1, hc.near h4, .inr (.inl ⟨rfl, .dead h2 ((good_small h hc.fine).like hlk) ?_⟩)⟩
      rcases h3 with h3 | h3
      · exact .pend x S.number rfl (by omega) hx h3
      · exact .now (.two x (S.number + 1) rfl (by omega) h3)
  | dead hb hs h => exact ⟨D, S, 3, (broken_all hb x).2.2, hc2, .inr (.inr ⟨by decide, by decide, .dead hb hs (h.le (by omega))⟩)⟩
theorem ahead_none : Ahead ⟨65536, [], false, 0⟩ [] [] 0 none 0 := .one 0 (Nat.le_refl _) (held_none 65536)
theorem cost_none : Cost ⟨65536, [], false, 0⟩ 0 := ⟨fine0 (r := 65536) (by decide), Nat.le_refl _, rfl⟩
/-- A fuse. -/
theorem ahead_fuse {D : DiskD} {t : Key} {l : List Key} {s : Nat} {o : Option Key} {c : Nat} (h : Ahead D t l s o c) (hc : Cost D c) (n : Nat) (hn : n < 256) : ∃ D', fuseD D (n : Int) = (D', 0) ∧ Ahead D' t l s o c ∧ Cost D' c := by
  refine ⟨{ D with fused := true, calls := (n : Int).toNat }, if_neg (by omega), h.files rfl, ⟨⟨hc.fine.few, hc.fine.room, hc.fine.fits, hc.fine.names, hc.fine.sure, hc.fine.apart, ?_⟩, hc.total, hc.room⟩⟩
  show (n : Int).toNat < 9223372036854775808
  omega
end Go.Proofs.YtmejdcnnpenaaaaGreatDoor.St
