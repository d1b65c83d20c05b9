/-
  Disks (layer 7): the walk of Copy: another disk with the same files, of blocks of its own. No condition.
-/
import Derived.Deep.RegionHeld3
import Derived.WalkLawsBesides
import Derived.Test.YtmejdcnnpenaaaaGreatDoorZDkCopyM
open Go Go.RowKit
namespace Go.Proofs.YtmejdcnnpenaaaaGreatDoor.Dk
open Base Mp

theorem grown_below {w w' : World} (h : Below w.heap.size w w') : w.grownBy w' none := ⟨h.os, h.tape, h.output, h.size, fun k hk _ => h.block k hk⟩
/-- Where Copy stands: some files are copied. -/
structure Copying (w : World) (bm : Nat) (es : List (Lit × Value)) (D : DiskD) (c : Nat) (lft : Lit → Bool) (cnt : Nat) (V : FS) (tag2 : Nat → Option Lit) (blk2 : Lit → Nat) (bm2 : Nat) (T2 : Nat → Prop) (it : Nat) (wr : World) : Prop where
  rng : wr.ranges Tryz.prog 9 HV bm it es.length (DataW.map (es.map hv)) lft cnt
  perm : V.Perm (D.files.filter fun p => !lft p.1)
  dk : DiskBy tag2 blk2 bm2 wr c ⟨D.room, V, false, 0⟩ T2
  new : ∀ i, T2 i → w.heap.size ≤ i
  below : Below w.heap.size w wr
  it : w.heap.size ≤ it ∧ ¬ T2 it
theorem Copying.step {w wr w' w7 : World} {tag : Nat → Option Lit} {blk : Lit → Nat} {bm b : Nat} {D : DiskD} {T : Nat → Prop} {c : Nat} {lft : Lit → Bool} {cnt cnt' : Nat} {V : FS} {tag2 : Nat → Option Lit} {blk2 : Lit → Nat} {bm2 : Nat} {T2 : Nat → Prop} {it : Nat}
    (hs : DiskBy tag blk bm w b D T) (h : Copying w bm (mapE (fun k (_ : FileD) => ptr (blk k)) D.files) D c lft cnt V tag2 blk2 bm2 T2 it wr) {n : List UInt8} {F : FileD} (hl : lookL D.files (keyS n) = some F) (hk : lft (keyS n) = true) (hn : n.length ≤ maxLen)
    (hg : wr.grownBy w' (some it)) (hrng : w'.ranges Tryz.prog 9 HV bm it (mapE (fun k (_ : FileD) => ptr (blk k)) D.files).length (DataW.map ((mapE (fun k (_ : FileD) => ptr (blk k)) D.files).map hv)) (fun z => lft z && !z.sameKey (keyS n)) cnt') (hb7 : Below w'.heap.size w' w7) {v : Value} (hr7 : w7.ownsRow w'.heap.size 5 1 v F.bytes.length (byteV F.bytes)) :
    ∃ w9, (Instr.mapUpdate 53 (.map (some bm2)) (.string (B n)) (.pointer (some ⟨w7.heap.size, 0, none⟩))).run Tryz.prog (w7.alloc (.cells #[v, .int .i64 (F.sure : Int), .bool F.fresh] 76)) = .ok () w9 ∧
      ∃ tag3 blk3 T3, Copying w bm (mapE (fun k (_ : FileD) => ptr (blk k)) D.files) D c (fun z => lft z && !z.sameKey (keyS n)) cnt' (putL V (keyS n) F) tag3 blk3 bm2 T3 it w9 ∧ Kept (fun i => i = bm2) w' w9 := by
  obtain ⟨hno, hperm⟩ := visit_step hs.fine lft hl hk h.perm
  have hbw : Below w.heap.size w w' := h.below.grown hg h.below.size (fun k hk => by injection hk with hk; rw [← hk]; exact h.it.1)
  have hkw : Kept (fun i => i = it) wr w' := by
    have h0 : Below 0 wr w' := (Below.refl 0 wr).grown hg (Nat.zero_le _) (fun _ _ => Nat.zero_le _)
    exact ⟨h0.os, h0.tape, h0.output, h0.size, fun k hk hn => hg.block k hk (fun e => hn (by injection e))⟩
  have hd1 : DiskBy tag2 blk2 bm2 w' c ⟨D.room, V, false, 0⟩ T2 := h.dk.next (hkw.mono fun i hi => by rw [hi]; exact h.it.2)
  have hb8 : Below w7.heap.size w7 (w7.alloc (.cells #[v, .int .i64 (F.sure : Int), .bool F.fresh] 76)) := (Below.refl _ _).alloc (Nat.le_refl _) _
  have hcm := cells_made w7 #[v, .int .i64 (F.sure : Int), .bool F.fresh] 76
  have hz8 := alloc_more w7 (.cells #[v, .int .i64 (F.sure : Int), .bool F.fresh] 76)
  have hb9 := hb7.trans (hb8.mono hb7.size)
  have hfine2 := hs.fine.some_ _ hperm
  have hlen : V.length ≤ 16 := h.dk.fine.few
  obtain ⟨w9, hrun9, hm9, ht9⟩ := (hd1.map.next hb9).store keyedS Tryz.underlying53 (by rw [mapE_length]; show V.length < _; unfold maxLen; omega) (keyB n hn) (val := .pointer (some ⟨w7.heap.size, 0, none⟩))
  have hd9 := hd1.putFile (n := n) (F := F) hb9 (c := w7.heap.size) hb7.size (by omega) (hcm.congr fun j hj => by
    have : j = 0 ∨ j = 1 ∨ j = 2 := by have : j < 3 := hj; omega
    rcases this with rfl | rfl | rfl <;> rfl) (hr7.alloc _) (fun r hr e => by have := (hr7.lt r hr).2; omega) hm9 ht9 hno hfine2
  have hbm2 : w.heap.size ≤ bm2 := h.new _ h.dk.minem
  have hbml : bm < w.heap.size := hs.map.lt
  have hit2 : it < w'.heap.size := hrng.lt
  refine ⟨w9, hrun9, _, _, _, ⟨?_, hperm, hd9, fun i hi => ?_, ?_, h.it.1, ?_⟩, Kept.turned (T := fun i => i = bm2) (Kept.of_below hb9) ht9 (.inl rfl)⟩
  · have h1 := hrng.kept (grown_below hb9) (by simp) (by simp)
    refine h1.kept ht9.grown (fun e => ?_) (fun e => ?_)
    · injection e with e; omega
    · injection e with e; exact h.it.2 (e ▸ h.dk.minem)
  · rcases hi with hi | hi
    · exact h.new i hi
    · exact Nat.le_trans hbw.size hi.1
  · exact (hbw.trans (hb9.mono hbw.size)).grown ht9.grown (Nat.le_trans hbw.size hb9.size) (fun k hk => by injection hk with hk; omega)
  · rintro (hi | hi)
    · exact h.it.2 hi
    · omega
set_option maxRecDepth 100000 in
set_option maxHeartbeats 4000000 in
theorem Copy_f {w : World} {b : Nat} {D : DiskD} {T : Nat → Prop} (h : DiskAt w b D T) :
    Calls Tryz.prog 21 #[.pointer (some ⟨b, 0, none⟩)] w fun e w' => ∃ c, e = .returned (.pointer (some ⟨c, 0, none⟩)) ∧ DiskAt w' c ⟨D.room, D.files, false, 0⟩ (fun i => w.heap.size ≤ i ∧ i < w'.heap.size) ∧ Below w.heap.size w w' := by
  obtain ⟨tag, blk, bm, hs⟩ := h
  have HTH := Lib.hid (There_yes w b bm D hs.is)
  have c1 := hs.is.c1
  have c2 := hs.is.c2
  have HS := Lib.hid hs
  have hmm := run_makeMap (P := Tryz.prog) 53 w
  have hlt := hs.lt
  have hb1 : Below w.heap.size w (w.alloc (.map #[] 0)) := (Below.refl _ _).alloc (Nat.le_refl _) _
  have hz1 := alloc_more w (.map #[] 0)
  have hm1 := Mp.made w Tryz.prog 9
  have hb2 : Below (w.alloc (.map #[] 0)).heap.size (w.alloc (.map #[] 0)) ((w.alloc (.map #[] 0)).alloc (.cells #[.bool true, .int .i64 (D.room : Int), .map (some w.heap.size), .bool false, .int .i64 0] 55)) := (Below.refl _ _).alloc (Nat.le_refl _) _
  have hz2 := alloc_more (w.alloc (.map #[] 0)) (.cells #[.bool true, .int .i64 (D.room : Int), .map (some w.heap.size), .bool false, .int .i64 0] 55)
  have hc2 := cells_made (w.alloc (.map #[] 0)) #[.bool true, .int .i64 (D.room : Int), .map (some w.heap.size), .bool false, .int .i64 0] 55
  have hb3 := hb1.trans (hb2.mono hb1.size)
  have HMP := Lib.hid (hs.map.next hb3)
  have HDK := Lib.hid (show DiskBy (fun _ => none) (fun _ => 0) w.heap.size ((w.alloc (.map #[] 0)).alloc (.cells #[.bool true, .int .i64 (D.room : Int), .map (some w.heap.size), .bool false, .int .i64 0] 55)) (w.heap.size + 1) ⟨D.room, [], false, 0⟩ (fun i => i = w.heap.size ∨ i = w.heap.size + 1) from by
    refine ⟨?_, hm1.next hb2, fun p hp => (by cases hp), rfl, rfl, by omega, ⟨by simp, hs.fine.room, by simp [total], fun p hp => (by cases hp), fun p hp => (by cases hp), List.Pairwise.nil, (by show (0 : Nat) < 9223372036854775808; decide)⟩, .inr rfl, .inl rfl, fun i k h => (by cases h), fun i hi => by omega⟩
    rw [hz1] at hc2
    refine hc2.congr fun j hj => ?_
    have : j = 0 ∨ j = 1 ∨ j = 2 ∨ j = 3 ∨ j = 4 := by have : j < 5 := hj; omega
    rcases this with rfl | rfl | rfl | rfl | rfl <;> rfl)
  have HB3 := Lib.hid hb3
  have HZ3 := Lib.hid (show ((w.alloc (.map #[] 0)).alloc (.cells #[.bool true, .int .i64 (D.room : Int), .map (some w.heap.size), .bool false, .int .i64 0] 55)).heap.size = w.heap.size + 2 by omega)
  clear hs hb1 hz1 hm1 hb2 hz2 hc2 hb3
  go_enter Tryz.func21, Tryz.ntmps21
  go_wp2_with fail
  with_reducible refine HTH.out.mono ?_
  rintro e w1 ⟨rfl, rfl⟩
  clear HTH
  go_wp2_with (first | (at_range; refine wpList_range_own _ rfl _ 53 rfl 9 74 keyedS Tryz.underlying53 HV bm _ _ rfl HMP.out ?_; intro w0 hrg0 hg0 hs0))
  go_frame
  clear hmm c1 c2
  have HRG := Lib.hid hrg0
  have HG0 := Lib.hid hg0
  have HS0 := Lib.hid hs0
  clear hrg0 hg0 hs0
  generalize (w.alloc (.map #[] 0)).alloc (.cells #[.bool true, .int .i64 (D.room : Int), .map (some w.heap.size), .bool false, .int .i64 0] 55) = w2 at *
  have HST := Lib.hid (show Copying w bm (mapE (fun k (_ : FileD) => ptr (blk k)) D.files) D (w.heap.size + 1) _ _ [] (fun _ => none) (fun _ => 0) w.heap.size (fun i => i = w.heap.size ∨ i = w.heap.size + 1) w2.heap.size w0 from by
    refine ⟨HRG.out, visit_none _ fun p hp => ?_, ?_, fun i hi => by omega, HB3.out.grown HG0.out HB3.out.size (by simp), ?_, ?_⟩
    · rw [has_hv]
      unfold hasL
      rw [List.any_eq_true]
      exact ⟨(p.1, ptr (blk p.1)), List.mem_map.2 ⟨p, hp, rfl⟩, WideAt.sameKey_self ((HS.out.map.keys keyedS).2 _ (List.mem_map.2 ⟨p, hp, rfl⟩))⟩
    · exact HDK.out.later ((Below.refl w2.heap.size w2).grown HG0.out (Nat.le_refl _) (by simp))
    · rw [HZ3.out]; omega
    · rw [HZ3.out]; omega)
  obtain ⟨it, hit⟩ : ∃ it, it = w2.heap.size := ⟨_, rfl⟩
  obtain ⟨c, hc⟩ : ∃ c, c = w.heap.size + 1 := ⟨_, rfl⟩
  obtain ⟨bm2, hbm2⟩ : ∃ bm2, bm2 = w.heap.size := ⟨_, rfl⟩
  rw [← hit] at HST ⊢
  rw [← hc] at HST ⊢
  rw [← hbm2] at ⊢
  have HST2 := Lib.hid (show ∃ lft cnt V tag2 blk2 T2, Copying w bm (mapE (fun k (_ : FileD) => ptr (blk k)) D.files) D c lft cnt V tag2 blk2 bm2 T2 it w0 from by
    rw [hbm2]
    exact ⟨_, _, _, _, _, _, HST.out⟩)
  have HCW := Lib.hid (show w.heap.size ≤ c by omega)
  clear HST HRG HG0 HS0 HDK HMP HZ3 HB3 hit hc hbm2 hlt
  go_loopw [4] (fun u wr => ∃ lft cnt V tag2 blk2 T2, Copying w bm (mapE (fun k (_ : FileD) => ptr (blk k)) D.files) D c lft cnt V tag2 blk2 bm2 T2 it wr) (fun _ wr => wr.rangeLeft bm it)
  case atStart => exact HST2.out
  case round =>
    obtain ⟨lft, cnt, V, tag2, blk2, T2, hco⟩ := hrel
    have HCO := Lib.hid hco
    clear hco
    go_wp2_with (first | (at_next; refine wpList_next_ranges _ rfl _ rfl 9 keyedS HV Value.string id (fun key kl h => key_str h) (fun v y _ => ⟨v, rfl⟩) bm it _ _ _ _ rfl HCO.out.rng ?_ ?_))
    · intro h0 hl
      have hall := visit_all lft hl HCO.out.perm
      have heq : V = D.files := files_eq hall (files_rise HCO.out.dk.map) (files_rise HS.out.map)
      subst heq
      go_wp2
      go_ret
      refine ⟨c, rfl, ⟨tag2, blk2, bm2, HCO.out.dk.wide (fun i hi => ⟨HCO.out.new i hi, HCO.out.dk.old i hi⟩) (fun i hi => hi.2)⟩, HCO.out.below⟩
    · intro x cv kl a pl w' cnt' hkey hlk hv1 hat hrg' hlt hgr hsz hen
      have e1 : a = .held cv := by
        have := (Prod.mk.inj (Option.some.inj hv1)).1
        exact this.symm
      subst e1
      have hl1 := at_look hat
      rw [mapE_look] at hl1
      obtain ⟨F, hl2, rfl⟩ := Option.map_eq_some_iff.1 hl1
      obtain ⟨n, rfl, rfl, hn⟩ : ∃ n : List UInt8, x = B n ∧ kl = keyS n ∧ n.length ≤ maxLen := by
        refine ⟨x.data.toList, B_of x, ?_, ?_⟩
        · simp only [keyOf, mapKey, Tryz.underlying9] at hkey
          split at hkey <;> simp_all [keyS]
        · simp only [keyOf, mapKey, Tryz.underlying9] at hkey
          split at hkey <;> simp_all
      have HSTEP := Lib.hid (fun w7 (hb7 : Below w'.heap.size w' w7) v hr7 => Copying.step HS.out HCO.out hl2 hlk hn hgr hrg' hb7 (v := v) hr7)
      have hbw : Below w.heap.size w w' := HCO.out.below.grown hgr HCO.out.below.size (fun k hk => by injection hk with hk; rw [← hk]; exact HCO.out.it.1)
      have hfa := HS.out.at hl2
      obtain ⟨⟨v, hcs, hr, hv⟩, hm⟩ := hfa
      have hfb : blk (keyS n) < w.heap.size := hcs.lt (by omega)
      have hk0 : Kept (fun _ => False) w w' := Kept.of_below hbw
      have HOW := Lib.hid (own_kept hr hk0 (fun _ _ h => h))
      have g0 := (hcs.kept hk0 hfb (fun h => h) 0 (by omega)).1
      have g1 := (hcs.kept hk0 hfb (fun h => h) 1 (by omega)).1
      have g2 := (hcs.kept hk0 hfb (fun h => h) 2 (by omega)).1
      have hkw : Kept (fun i => i = it) wr w' := by
        have h0 : Below 0 wr w' := (Below.refl 0 wr).grown hgr (Nat.zero_le _) (fun _ _ => Nat.zero_le _)
        exact ⟨h0.os, h0.tape, h0.output, h0.size, fun k hk hn => hgr.block k hk (fun e => hn (by injection e))⟩
      have g3 := (HCO.out.dk.next (hkw.mono fun i hi => by rw [hi]; exact HCO.out.it.2)).is.c2
      have hcl : c < w'.heap.size := lt_of_cell g3
      have HNE := Lib.hid (show ¬ (blk (keyS n) = bm2) ∧ ¬ (c = bm2) from ⟨fun e => by have := HCO.out.new _ HCO.out.dk.minem; omega, HCO.out.dk.ne⟩)
      have hfl : blk (keyS n) < w'.heap.size := lt_of_cell g0
      simp only [fileCell] at g0 g1 g2
      have hsh := HS.out.fine.short (mem_of_look hl2)
      simp only at hsh
      have HCL := Lib.hid (fun (W : World) (h : W.ownsRow 0 5 1 v F.bytes.length (byteV F.bytes)) => Clone_f W v F.bytes h (by omega))
      have HRL := Lib.hid (show cnt' < wr.rangeLeft bm it by rw [HCO.out.rng.left_eq]; exact hlt)
      clear hkey hlk hv1 hat hrg' hgr hsz hl1 hl2 hcs hr hv hm hfb hk0 hkw hbw hn hlt HCO
      unfold ptr at hen
      generalize blk (keyS n) = fb at *
      go_wp2_with fail
      go_region_held3 (fun W => W.cell? ⟨fb, 0, none⟩ = some v ∧ W.cell? ⟨fb, 1, none⟩ = some (.int .i64 (F.sure : Int)) ∧ W.cell? ⟨fb, 2, none⟩ = some (.bool F.fresh) ∧ W.cell? ⟨c, 2, none⟩ = some (.map (some bm2))) (first | go_keep | exact ⟨(hb7.cell (p := ⟨fb, 0, none⟩) hfl).trans g0, (hb7.cell (p := ⟨fb, 1, none⟩) hfl).trans g1, (hb7.cell (p := ⟨fb, 2, none⟩) hfl).trans g2, (hb7.cell (p := ⟨c, 2, none⟩) hcl).trans g3⟩ | exact ⟨cell_kept g0 hk9 HNE.out.1, cell_kept g1 hk9 HNE.out.1, cell_kept g2 hk9 HNE.out.1, cell_kept g3 hk9 HNE.out.2⟩)
        ((go_at_call 47; (with_reducible refine (HCL.out _ ?_).mono ?_); exact HOW.out; rintro e w7 ⟨v7, rfl, hr7, hb7⟩; obtain ⟨p7, cap7, rfl, -⟩ := own_take hr7 (Nat.le_refl _); obtain ⟨w9, hst9, t9, k9, T9, hn9, hk9⟩ := HSTEP.out w7 ⟨hb7.os, hb7.tape, hb7.output, hb7.size, hb7.block⟩ _ hr7; replace hn9 := Lib.hid hn9))
      go_wp2_with fail
      go_roundw
      case rel =>
        first
          | exact ⟨_, _, _, _, _, _, hn9.out⟩
          | ((repeat apply Exists.intro); exact ⟨⟨_, _, _, _, _, _, hn9.out⟩, rfl⟩)
      case measure => rw [hn9.out.rng.left_eq]; exact HRL.out
end Go.Proofs.YtmejdcnnpenaaaaGreatDoor.Dk
