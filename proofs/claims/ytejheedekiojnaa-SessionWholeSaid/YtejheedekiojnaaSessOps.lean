/-
  The walks of a session's map operations (layer 28): Put, Drop, Held.
-/
import Derived.Test.YtejheedekiojnaaSessText
open Go Go.RowKit
namespace Go.Proofs.Ytejheedekiojnaa.Sess
open Base Mp

theorem keyB (f : List UInt8) (hf : f.length ≤ maxLen) : keyOf Try.prog 9 (.string (B f)) = some (keyS f) := by
  simp [keyOf, mapKey, Try.underlying9, keyS, B]
  exact hf
theorem SessBy.look {blk : Lit → Nat} {w : World} {b : Nat} {S : St} {T : Nat → Prop} (h : SessBy blk w b S T) (f : List UInt8) (hf : f.length ≤ maxLen) :
    (Instr.lookup 49 (.map (some b)) (.string (B f)) false).run Try.prog w = .ok (match lookL S (keyS f) with | some _ => ptr (blk (keyS f) + 1) | none => .pointer none) w := by
  have := h.map.look keyedS ul49 (z := .pointer none) (Try.zeroValue53 w) (keyB f hf)
  rw [this, mapE_look]
  cases lookL S (keyS f) <;> rfl
theorem SessBy.len {blk : Lit → Nat} {w : World} {b : Nat} {S : St} {T : Nat → Prop} (h : SessBy blk w b S T) (ty : TypeId) :
    (Builtin.len_ #[49] ty #[.map (some b)]).run Try.prog w = .ok (.int .i64 (S.length : Nat)) w := by
  have := h.map.len ul49 ty
  rw [mapE_length] at this
  exact this
theorem infoPiece : (Try.prog.info? 61).map (fun i => (i.zero, i.size, i.bytes)) = some (some (.agg #[.bool false, .string ⟨#[]⟩]), 2, 24) := by kernel_rfl
theorem fresh_facts (w2 : World) (pid n : Nat) (hm : CellsAt (w2.alloc (.cells (madeCells #[.bool false, .string ⟨#[]⟩] (n * 2)) 61)) w2.heap.size (n * 2) (fun j => (Value.agg #[.bool false, .string ⟨#[]⟩]).cells[j % (Value.agg #[.bool false, .string ⟨#[]⟩]).cells.size]!)) (W : World)
    (hW : (w2.alloc (.cells (madeCells #[.bool false, .string ⟨#[]⟩] (n * 2)) 61)).alloc (.cells #[.int .u64 (pid : Int), .slice (some ⟨w2.heap.size, 0, none⟩) n n, .int .i64 0, .int .i64 0] 56) = W) :
    HeldAt W w2.heap.size (fresh pid n) ∧ Below w2.heap.size w2 W ∧ W.heap.size = w2.heap.size + 2 := by
  have h1 := alloc_more w2 (.cells (madeCells #[.bool false, .string ⟨#[]⟩] (n * 2)) 61)
  have b1 : Below w2.heap.size w2 (w2.alloc (.cells (madeCells #[.bool false, .string ⟨#[]⟩] (n * 2)) 61)) := (Below.refl _ _).alloc (Nat.le_refl _) _
  generalize w2.alloc (.cells (madeCells #[.bool false, .string ⟨#[]⟩] (n * 2)) 61) = w3 at *
  have h2 := alloc_more w3 (.cells #[.int .u64 (pid : Int), .slice (some ⟨w2.heap.size, 0, none⟩) n n, .int .i64 0, .int .i64 0] 56)
  have b2 : Below w3.heap.size w3 (w3.alloc (.cells #[.int .u64 (pid : Int), .slice (some ⟨w2.heap.size, 0, none⟩) n n, .int .i64 0, .int .i64 0] 56)) := (Below.refl _ _).alloc (Nat.le_refl _) _
  have c2 := cells_made w3 #[.int .u64 (pid : Int), .slice (some ⟨w2.heap.size, 0, none⟩) n n, .int .i64 0, .int .i64 0] 56
  rw [hW] at h2 b2 c2
  refine ⟨⟨?_, ?_⟩, later b1 b2, by omega⟩
  · have hlen : (fresh pid n).ps.length = n := by simp [fresh]
    rw [hlen]
    refine CellsAt.congr (CellsAt.below hm b2 (by omega)) fun j hj => ?_
    have hs : (Value.agg #[.bool false, .string ⟨#[]⟩]).cells.size = 2 := rfl
    rw [hs]
    unfold pieceCell fresh
    have hj2 : j / 2 < n := by omega
    simp only [List.getElem?_replicate, hj2, if_true, Option.getD_some, Option.isSome_none]
    rcases Nat.mod_two_eq_zero_or_one j with e | e
    · rw [e]; rfl
    · rw [e]; rfl
  · rw [← h1]
    refine CellsAt.congr c2 fun j hj => ?_
    have hlen : (fresh pid n).ps.length = n := by simp [fresh]
    have : j = 0 ∨ j = 1 ∨ j = 2 ∨ j = 3 := by have : j < 4 := hj; omega
    rcases this with rfl | rfl | rfl | rfl
    · rfl
    · simp [headCell, hlen]
    · simp [headCell, came_fresh]
    · simp [headCell, bytes_fresh]
structure PutPost (w : World) (b : Nat) (T : Nat → Prop) (r : St × List UInt8 × Bool × Nat) (w' : World) : Prop where
  sess : SessAt w' b r.1 (fun i => T i ∨ w.heap.size ≤ i ∧ i < w'.heap.size)
  kept : Kept T w w'
theorem PutPost.same {w w' : World} {b : Nat} {T T1 : Nat → Prop} {S : St} {blk : Lit → Nat} {t : List UInt8} {o : Bool} {e : Nat} (hs : SessBy blk w' b S T1) (h1 : ∀ i, T1 i → T i ∨ w.heap.size ≤ i) (hT : ∀ i, T i → i < w.heap.size) (hk : Kept T w w') : PutPost w b T (S, t, o, e) w' :=
  ⟨⟨blk, hs.next (Kept.refl _ _) (fun i hi => (h1 i hi).imp id fun h => ⟨h, hs.old i hi⟩) (fun i hi => hi.elim (fun h => Nat.lt_of_lt_of_le (hT i h) hk.size) (fun h => h.2))⟩, hk⟩
def putV (r : St × List UInt8 × Bool × Nat) : Value := .tuple #[.string (B r.2.1), .bool r.2.2.1, .int .i64 (r.2.2.2 : Nat)]

set_option maxHeartbeats 2000000 in
theorem Put_calls (w : World) (b : Nat) (S : St) (T : Nat → Prop) (f : List UInt8) (p : PartD) (h : SessAt w b S T) (hf : f.length ≤ maxLen)
    (hp : -9223372036854775808 ≤ p.i ∧ p.i ≤ 9223372036854775807) (hn : -9223372036854775808 ≤ p.n ∧ p.n ≤ 9223372036854775807) (ht : p.text.length ≤ maxLen) :
    Calls Try.prog 11 #[ptr (b + 1), .string (B f), partV p] w fun e w' => e = .returned (putV (sput S f p)) ∧ PutPost w b T (sput S f p) w' := by
  obtain ⟨blk, hs⟩ := h
  obtain ⟨pid, pi, pn, pt⟩ := p
  simp only at hp hn ht
  have hb1 : Below w.heap.size w (w.alloc (.cells #[.int .u64 (pid : Int), .int .i64 pi, .int .i64 pn, .string (B pt)] 32)) := (Below.refl _ _).alloc (Nat.le_refl _) _
  have hs1 := hs.later hb1
  have hp1 := cells_made w #[.int .u64 (pid : Int), .int .i64 pi, .int .i64 pn, .string (B pt)] 32
  have hc1 := (hs1.head 0 (by omega)).1
  have HB1 := Lib.hid hb1
  have HS1 := Lib.hid hs1
  have HP1 := Lib.hid hp1
  have HTH := Lib.hid (there_calls _ b hc1)
  clear hb1 hs1 hp1 hc1
  unfold partV ptr
  simp only
  go_enter Try.func11, Try.ntmps11
  go_wp2_with fail
  refine HTH.out.mono ?_
  clear HTH
  generalize hw1 : w.alloc (.cells #[.int .u64 (pid : Int), .int .i64 pi, .int .i64 pn, .string (B pt)] 32) = w1 at *
  clear hw1
  rintro e w1' ⟨rfl, rfl⟩
  have pc0 : w1.cell? ⟨w.heap.size, 0, none⟩ = some (.int .u64 (pid : Int)) := (HP1.out 0 (by show 0 < 4; omega)).1
  have pc1 : w1.cell? ⟨w.heap.size, 1, none⟩ = some (.int .i64 pi) := (HP1.out 1 (by show 1 < 4; omega)).1
  have pc2 : w1.cell? ⟨w.heap.size, 2, none⟩ = some (.int .i64 pn) := (HP1.out 2 (by show 2 < 4; omega)).1
  have pc3 : w1.cell? ⟨w.heap.size, 3, none⟩ = some (.string (B pt)) := (HP1.out 3 (by show 3 < 4; omega)).1
  have HM := Lib.hid (may_calls ⟨pid, pi, pn, pt⟩ w1 hp hn ht)
  unfold partV at HM
  go_wp2_with fail
  refine HM.out.mono ?_
  rintro e w2 ⟨rfl, hb2⟩
  clear HM
  have hs2 := HS1.out.later hb2
  have hp2 : CellsAt w2 w.heap.size 4 (cellP ⟨pid, pi, pn, pt⟩) := by
    refine CellsAt.congr (CellsAt.below HP1.out hb2 (lt_of_cell pc0)) fun j hj => ?_
    have : j = 0 ∨ j = 1 ∨ j = 2 ∨ j = 3 := by have : j < 4 := hj; omega
    rcases this with rfl | rfl | rfl | rfl <;> rfl
  have hbw : Below w.heap.size w w2 := later HB1.out hb2
  clear pc0 pc1 pc2 pc3 HS1 HP1 HB1 hb2
  clear w1
  have hold := hs.old
  have hTb := hs.mine0
  clear hs
  have HS2 := Lib.hid hs2
  have HBW := Lib.hid hbw
  have HP2 := Lib.hid hp2
  have HOLD := Lib.hid hold
  have HTB := Lib.hid hTb
  clear hs2 hbw hp2 hold hTb
  cases hmay : may ⟨pid, pi, pn, pt⟩ with
  | false =>
    have hsp : sput S f ⟨pid, pi, pn, pt⟩ = (S, [], false, 2) := by unfold sput; rw [if_pos hmay]
    have HSP := Lib.hid hsp
    clear hsp hmay
    go_wp2
    go_ret3
    rw [HSP.out]
    exact ⟨rfl, PutPost.same HS2.out (fun i hi => .inl hi) HOLD.out (Kept.of_below HBW.out)⟩
  | true =>
    have hmay2 := of_decide_eq_true hmay
    simp only at hmay2
    obtain ⟨k, rfl⟩ : ∃ k : Nat, pi = k := ⟨pi.toNat, by omega⟩
    obtain ⟨n, rfl⟩ : ∃ n : Nat, pn = n := ⟨pn.toNat, by omega⟩
    obtain ⟨i0, hi, hz0, hz1, hz2⟩ := info_parts infoPiece
    have hmk : ∀ W : World, (Instr.makeSlice 54 (.int .i64 (n : Int)) (.int .i64 (n : Int))).run Try.prog W = .ok (.slice (some ⟨W.heap.size, 0, none⟩) n n) (W.alloc (.cells (madeCells (Value.agg #[.bool false, .string ⟨#[]⟩]).cells (n * 2)) 61)) ∧
        CellsAt (W.alloc (.cells (madeCells (Value.agg #[.bool false, .string ⟨#[]⟩]).cells (n * 2)) 61)) W.heap.size (n * 2) (fun j => (Value.agg #[.bool false, .string ⟨#[]⟩]).cells[j % (Value.agg #[.bool false, .string ⟨#[]⟩]).cells.size]!) := fun W =>
      make_laid (P := Try.prog) W 54 61 i0 _ 2 24 n (by kernel_rfl) hi hz0 hz1 hz2 (by omega) (by omega)
    have HMK := Lib.hid (fun W => (hmk W).2)
    have hmk1 := fun W => (hmk W).1
    clear hmk hi hz0 hz1 hz2
    clear i0
    have hlook := HS2.out.look f hf
    have hcell : w2.cell? ⟨b + 1, 0, none⟩ = some (.map (some b)) := (HS2.out.head 0 (by omega)).1
    have hpid : w2.cell? ⟨w.heap.size, 0, none⟩ = some (.int .u64 (pid : Int)) := (HP2.out 0 (by omega)).1
    have hpn : w2.cell? ⟨w.heap.size, 2, none⟩ = some (.int .i64 (n : Int)) := (HP2.out 2 (by omega)).1
    have hlen := HS2.out.drew.len 3
    have hfew := HS2.out.few
    have HF := Lib.hid hf
    clear hf
    have hspm : sput S f ⟨pid, k, n, pt⟩ = match lookL S (keyS f) with
        | none => begin_ S f ⟨pid, k, n, pt⟩
        | some h => if pid < h.id then (S, [], false, 3) else if h.id < pid then begin_ (delL S (keyS f)) f ⟨pid, k, n, pt⟩ else more S f h ⟨pid, k, n, pt⟩ := by
      unfold sput; rw [hmay]; rfl
    rcases hl : lookL S (keyS f) with _ | H
    focus
      rw [hl] at hlook hspm
      simp only at hlook hspm
      obtain ⟨S5, hS5⟩ : ∃ S5, S5 = S := ⟨_, rfl⟩
      have HS5 := Lib.hid (show SessBy blk w2.drew b S5 T by rw [hS5]; exact HS2.out.drew)
      have HP5 := Lib.hid (show CellsAt w2.drew w.heap.size 4 (cellP ⟨pid, k, n, pt⟩) from HP2.out)
      have HK5 := Lib.hid (show Kept T w w2.drew from (Kept.of_below HBW.out).drew)
      have HL5 := Lib.hid (show lookL S5 (keyS f) = none by rw [hS5]; exact hl)
      have HSP5 := Lib.hid (show sput S f ⟨pid, k, n, pt⟩ = begin_ S5 f ⟨pid, k, n, pt⟩ by rw [hS5]; exact hspm)
      have c5 : w2.drew.cell? ⟨b + 1, 0, none⟩ = some (.map (some b)) := hcell
      clear hspm hl hmay hlen hfew hS5
      go_wp2
      go_region
      clear HS2 HP2 HBW hlook hcell hpid hpn
      generalize w2.drew = w5 at *
      go_wp2
    rotate_left
    rw [hl] at hlook hspm
    simp only at hlook hspm
    have hmem := mem_of_look hl
    obtain ⟨hheld, -, -, -, -⟩ := HS2.out.held _ hmem
    simp only at hheld
    have hid : w2.cell? ⟨blk (keyS f) + 1, 0, none⟩ = some (.int .u64 (H.id : Int)) := (hheld.head 0 (by omega)).1
    have HSPM := Lib.hid hspm
    have HL := Lib.hid hl
    clear hspm hl hmay hheld hmem hlen hfew
    unfold ptr at hlook
    by_cases hlt : pid < H.id
    · have hsp : sput S f ⟨pid, k, n, pt⟩ = (S, [], false, 3) := by rw [HSPM.out, if_pos hlt]
      have HSP := Lib.hid hsp
      clear hsp
      have t1 : ((H.id : Int) != (pid : Int)) = true := by simp; omega
      have t2 : decide ((pid : Int) < (H.id : Int)) = true := by simp; omega
      go_wp2
      go_region
      go_wp2
      go_region
      go_wp2
      go_ret3
      rw [HSP.out]
      exact ⟨rfl, PutPost.same HS2.out.drew.drew (fun i hi => .inl hi) HOLD.out (Kept.of_below HBW.out).drew.drew⟩
    by_cases hgt : H.id < pid
    focus
      have t1 : ((H.id : Int) != (pid : Int)) = true := by simp; omega
      have t2 : decide ((pid : Int) < (H.id : Int)) = false := by simp; omega
      obtain ⟨w5, hrun5, hm5, ht5⟩ := HS2.out.drew.drew.map.drop keyedS ul49 (keyB f HF.out) 0
      obtain ⟨S5, hS5⟩ : ∃ S5, S5 = delL S (keyS f) := ⟨_, rfl⟩
      have HS5 := Lib.hid (show SessBy blk w5 b S5 T by rw [hS5]; exact HS2.out.drew.drew.dropped hm5 ht5)
      have hk5 : Kept T w w5 := (Kept.of_below HBW.out).drew.drew.turned ht5 (.inl HS2.out.mine0)
      have HP5 := Lib.hid (show CellsAt w5 w.heap.size 4 (cellP ⟨pid, k, n, pt⟩) from
        CellsAt.kept (w := w2.drew.drew) (T := fun i => i = b) HP2.out ((Kept.refl (fun i => i = b) w2.drew.drew).turned ht5 (.inl rfl)) (lt_of_cell hpid) (by have := HOLD.out b HS2.out.mine0; omega))
      have HK5 := Lib.hid hk5
      have HL5 := Lib.hid (show lookL S5 (keyS f) = none by rw [hS5]; exact look_del_same _ _)
      have HSP5 := Lib.hid (show sput S f ⟨pid, k, n, pt⟩ = begin_ S5 f ⟨pid, k, n, pt⟩ by rw [hS5, HSPM.out, if_neg hlt, if_pos hgt])
      have c5 : w5.cell? ⟨b + 1, 0, none⟩ = some (.map (some b)) := (HS5.out.head 0 (by omega)).1
      clear hm5 hk5 hS5
      go_wp2
      go_region
      go_wp2
      go_region
      go_wp2
    rotate_left
    focus
      have t1 : ((H.id : Int) != (pid : Int)) = false := by simp; omega
      obtain ⟨S6, hS6⟩ : ∃ S6, S6 = S := ⟨_, rfl⟩
      obtain ⟨H6, hH6⟩ : ∃ H6, H6 = H := ⟨_, rfl⟩
      obtain ⟨blk6, hblk6⟩ : ∃ x, x = blk := ⟨_, rfl⟩
      have HL6 := Lib.hid (show lookL S6 (keyS f) = some H6 by rw [hS6, hH6]; exact HL.out)
      have HSP6 := Lib.hid (show sput S f ⟨pid, k, n, pt⟩ = more S6 f H6 ⟨pid, k, n, pt⟩ by rw [hS6, hH6, HSPM.out, if_neg hlt, if_neg hgt])
      obtain ⟨T6, hT6⟩ : ∃ T6, T6 = T := ⟨_, rfl⟩
      have HS6 := Lib.hid (show SessBy blk6 w2.drew b S6 T6 by
        rw [hS6, hblk6, hT6]
        exact HS2.out.drew)
      have HT6 := Lib.hid (show ∀ i, T6 i → T i ∨ w.heap.size ≤ i by rw [hT6]; exact fun i hi => .inl hi)
      have HP6 := Lib.hid (show CellsAt w2.drew w.heap.size 4 (cellP ⟨pid, k, n, pt⟩) from HP2.out)
      have HK6 := Lib.hid (show Kept T w w2.drew from (Kept.of_below HBW.out).drew)
      have HC6 := Lib.hid (show blk6 (keyS f) = blk (keyS f) by rw [hblk6])
      clear hS6 hH6 hblk6 hT6
      go_wp2
      go_region
      clear HS2 HP2 HBW hlook hcell hpid hpn hid
      generalize w2.drew = w6 at *
      generalize blk (keyS f) = c6 at *
      go_wp2
    rotate_left
    iterate 2
      focus
        have len5 := HS5.out.len 3
        have hfew := HS5.out.few
        have hn256 : n ≤ 256 := by omega
        rw [len5]
        by_cases h32 : 32 ≤ S5.length
        · have hsp : sput S f ⟨pid, k, n, pt⟩ = (S5, [], false, 6) := by
            rw [HSP5.out]; unfold begin_; rw [if_pos h32]
          have HSP := Lib.hid hsp
          clear hsp
          go_wp2
          go_ret3
          rw [HSP.out]
          exact ⟨rfl, PutPost.same HS5.out (fun i hi => .inl hi) HOLD.out HK5.out⟩
        have hsp : sput S f ⟨pid, k, n, pt⟩ = more (putL S5 (keyS f) (fresh pid n)) f (fresh pid n) ⟨pid, k, n, pt⟩ := by
          rw [HSP5.out]; unfold begin_; rw [if_neg h32]; rfl
        have HSPn := Lib.hid hsp
        clear hsp
        have hp5 := HP5.out
        have hpid5 : w5.cell? ⟨w.heap.size, 0, none⟩ = some (.int .u64 (pid : Int)) := (hp5 0 (by omega)).1
        have hpn5 : w5.cell? ⟨w.heap.size, 2, none⟩ = some (.int .i64 (n : Int)) := (hp5 2 (by omega)).1
        have hbm : Below w5.heap.size w5 (w5.alloc (.cells (madeCells #[.bool false, .string ⟨#[]⟩] (n * 2)) 61)) := (Below.refl _ _).alloc (Nat.le_refl _) _
        have hpm := CellsAt.below hp5 hbm (lt_of_cell hpid5)
        have mpid : (w5.alloc (.cells (madeCells #[.bool false, .string ⟨#[]⟩] (n * 2)) 61)).cell? ⟨w.heap.size, 0, none⟩ = some (.int .u64 (pid : Int)) := (hpm 0 (by omega)).1
        have mpn : (w5.alloc (.cells (madeCells #[.bool false, .string ⟨#[]⟩] (n * 2)) 61)).cell? ⟨w.heap.size, 2, none⟩ = some (.int .i64 (n : Int)) := (hpm 2 (by omega)).1
        clear hbm hpm hp5
        have hfr := fresh_facts w5 pid n (HMK.out w5)
        go_wp2
        go_region
        generalize hW : (w5.alloc (.cells (madeCells #[.bool false, .string ⟨#[]⟩] (n * 2)) 61)).alloc (.cells #[.int .u64 (pid : Int), .slice (some ⟨w5.heap.size, 0, none⟩) n n, .int .i64 0, .int .i64 0] 56) = W at *
        obtain ⟨hnew, hbel, hsiz⟩ := hfr W rfl
        have hsW : SessBy blk W.drew b S5 (fun i => T i ∨ w.heap.size ≤ i ∧ i < W.drew.heap.size) :=
          (HS5.out.later hbel).drew.next (Kept.refl _ _) (fun i hi => .inl hi) (fun i hi => hi.elim (fun h => (HS5.out.later hbel).drew.old i h) (fun h => h.2))
        clear hW hfr mpid mpn
        obtain ⟨w6, hrun6, hm6, ht6⟩ := hsW.map.store keyedS ul49 (by rw [mapE_length]; unfold maxLen; omega) (keyB f HF.out) (val := ptr (w5.heap.size + 1))
        have hrun6' : (Instr.mapUpdate 49 (.map (some b)) (.string (B f)) (.pointer (some ⟨w5.heap.size + 1, 0, none⟩))).run Try.prog W.drew = .ok () w6 := hrun6
        have hsz5 := HK5.out.size
        have hs6 := hsW.stored hm6 ht6 HL5.out (by omega) hnew.drew (fine_fresh pid n (by omega) hn256) (.inr ⟨hsz5, by have : W.drew.heap.size = W.heap.size := rfl; omega⟩) (.inr ⟨by omega, by have : W.drew.heap.size = W.heap.size := rfl; omega⟩)
          (HS5.out.old _ HS5.out.mine1) (fun p hp => HS5.out.old _ (HS5.out.held p hp).2.2.2.1)
        obtain ⟨S6, hS6⟩ : ∃ S6, S6 = putL S5 (keyS f) (fresh pid n) := ⟨_, rfl⟩
        obtain ⟨H6, hH6⟩ : ∃ H6, H6 = fresh pid n := ⟨_, rfl⟩
        obtain ⟨blk6, hblk6⟩ : ∃ x, x = fun q : Lit => if q.sameKey (keyS f) then w5.heap.size else blk q := ⟨_, rfl⟩
        obtain ⟨T6, hT6⟩ : ∃ T6, T6 = fun i => T i ∨ w.heap.size ≤ i ∧ i < W.drew.heap.size := ⟨_, rfl⟩
        have HS6 := Lib.hid (show SessBy blk6 w6 b S6 T6 by rw [hS6, hblk6, hT6]; exact hs6)
        have HT6 := Lib.hid (show ∀ i, T6 i → T i ∨ w.heap.size ≤ i by rw [hT6]; exact fun i hi => hi.imp id fun h => h.1)
        have HL6 := Lib.hid (show lookL S6 (keyS f) = some H6 by rw [hS6, hH6]; exact look_put_same _ _ (keyedS.key (keyB f HF.out)) _)
        have HSP6 := Lib.hid (show sput S f ⟨pid, k, n, pt⟩ = more S6 f H6 ⟨pid, k, n, pt⟩ by rw [hS6, hH6]; exact HSPn.out)
        have HP6 := Lib.hid (show CellsAt w6 w.heap.size 4 (cellP ⟨pid, k, n, pt⟩) from
          CellsAt.kept (w := W.drew) (T := fun i => i = b) (CellsAt.below HP5.out hbel.drew (lt_of_cell hpid5)) ((Kept.refl (fun i => i = b) W.drew).turned ht6 (.inl rfl)) (Nat.lt_of_lt_of_le (lt_of_cell hpid5) hbel.size) (by have := HOLD.out b HS5.out.mine0; omega))
        have HK6 := Lib.hid (show Kept T w w6 from ((HK5.out.trans (Kept.of_below (T := fun _ => False) hbel) (fun _ h => h.elim)).drew).turned ht6 (.inl HS5.out.mine0))
        have HC6 := Lib.hid (show blk6 (keyS f) = w5.heap.size by rw [hblk6]; simp only [WideAt.sameKey_self (keyedS.key (keyB f HF.out)), if_true])
        have hcW : W.drew.cell? ⟨b + 1, 0, none⟩ = some (.map (some b)) := (hsW.head 0 (by omega)).1
        clear hS6 hH6 hblk6 hT6 hm6 hs6 hsW hnew hbel hrun6 hpid5 hpn5 HSPn len5 c5
        generalize w5.heap.size = c6 at *
        go_wp2
      rotate_left
    all_goals
      have hm6 := mem_of_look HL6.out
      obtain ⟨hh6, hf6, -, -, hb6⟩ := HS6.out.held _ hm6
      simp only at hh6 hf6 hb6
      rw [HC6.out] at hh6 hb6
      have hc1 : w6.cell? ⟨c6 + 1, 1, none⟩ = some (.slice (some ⟨c6, 0, none⟩) H6.ps.length H6.ps.length) := (hh6.head 1 (by omega)).1
      have hcpn : w6.cell? ⟨w.heap.size, 2, none⟩ = some (.int .i64 (n : Int)) := (HP6.out 2 (by omega)).1
      have hcp0 : w6.cell? ⟨w.heap.size, 0, none⟩ = some (.int .u64 (pid : Int)) := (HP6.out 0 (by omega)).1
      have hcp1 : w6.cell? ⟨w.heap.size, 1, none⟩ = some (.int .i64 (k : Int)) := (HP6.out 1 (by omega)).1
      have hcp3 : w6.cell? ⟨w.heap.size, 3, none⟩ = some (.string (B pt)) := (HP6.out 3 (by omega)).1
      have hfew6 := hf6.few
      by_cases hne : H6.ps.length = n
      focus
        have hres : ∀ r, hput H6 k pt = r → sput S f ⟨pid, k, n, pt⟩ = (if r.2 ≠ 0 then (S6, [], false, r.2) else if came r.1 < H6.ps.length then (setL S6 (keyS f) r.1, [], false, 0) else (delL S6 (keyS f), textOf r.1, true, 0)) := by
          intro r hr
          rw [HSP6.out]
          unfold more
          rw [if_neg (by simp [hne])]
          simp only [Int.toNat_natCast, hr]
        have HRES := Lib.hid hres
        have HPUT := Lib.hid (put_calls c6 H6 pid k n pt w6.drew hh6.drew hf6 (by omega) (by omega))
        have t1 : ((H6.ps.length : Int) != (n : Int)) = false := by simp [hne]
        have HF6 := Lib.hid hf6
        clear hres hm6 hh6 hf6
        unfold partV at HPUT
        unfold ptr at HPUT
        go_wp2
        go_region
        go_wp2_with fail
        refine HPUT.out.mono ?_
        clear HPUT
        rintro e w7 ⟨rfl, hh7, hk7⟩
        have hlen7 := hput_length H6 k pt
        have hfine7 := hput_fine H6 k pt HF6.out (by omega)
        have herr7 := hput_err H6 k pt
        have hsp7 := HRES.out _ rfl
        generalize hput H6 k pt = r at *
        obtain ⟨H7, e7⟩ := r
        simp only at hh7 hlen7 hfine7 herr7 hsp7
        have hs7 : SessBy blk6 w7 b (setL S6 (keyS f) H7) T6 := by
          refine HS6.out.drew.changed HL6.out (hk7.mono ?_) (by rw [HC6.out]; exact hh7) hfine7
          rw [HC6.out]; exact fun i hi => hi
        have hk7' : Kept T w w7 := HK6.out.drew.trans hk7 (by
          obtain ⟨-, -, g1, g2, -⟩ := HS6.out.held _ (mem_of_look HL6.out)
          simp only [HC6.out] at g1 g2
          rintro i (rfl | rfl)
          · exact HT6.out _ g1
          · exact HT6.out _ g2)
        have q1 : w7.cell? ⟨c6 + 1, 1, none⟩ = some (.slice (some ⟨c6, 0, none⟩) H7.ps.length H7.ps.length) := (hh7.head 1 (by omega)).1
        have q2 : w7.cell? ⟨c6 + 1, 2, none⟩ = some (.int .i64 (came H7 : Nat)) := (hh7.head 2 (by omega)).1
        have HS7 := Lib.hid hs7
        have HK7 := Lib.hid hk7'
        have HH7 := Lib.hid hh7
        have HFI := Lib.hid hfine7
        have HSP7 := Lib.hid hsp7
        have hkeys := HS6.out.keys
        have HLEN7 := Lib.hid hlen7
        clear hlen7
        clear hh7 hk7 hs7 hk7' hfine7 hsp7 HRES hc1 hcpn hcp0 hcp1 hcp3
        rcases herr7 with rfl | ⟨rfl, rfl⟩
        focus
          by_cases hcm : came H7 < H6.ps.length
          · have t2 : came H7 < H7.ps.length := by have := HLEN7.out; omega
            have hfin : sput S f ⟨pid, k, n, pt⟩ = (setL S6 (keyS f) H7, [], false, 0) := by rw [HSP7.out]; simp [hcm]
            have HFIN := Lib.hid hfin
            clear hfin hcm hkeys
            go_wp2
            go_region
            go_wp2
            go_ret3
            rw [HFIN.out]
            exact ⟨rfl, PutPost.same HS7.out.drew HT6.out HOLD.out HK7.out.drew⟩
          · have t2 : ¬ came H7 < H7.ps.length := by have := HLEN7.out; omega
            have hfin : sput S f ⟨pid, k, n, pt⟩ = (delL S6 (keyS f), textOf H7, true, 0) := by rw [HSP7.out]; simp [hcm]
            have HFIN := Lib.hid hfin
            clear hfin hcm hkeys
            obtain ⟨w8, hrun8, hm8, ht8⟩ := HS7.out.drew.map.drop keyedS ul49 (keyB f HF.out) 0
            have hs8 := HS7.out.drew.dropped hm8 ht8
            rw [del_set] at hs8
            have hk8 : Kept T w w8 := HK7.out.drew.turned ht8 (.inl HTB.out)
            have hh8 : HeldAt w8 c6 H7 := HH7.out.drew.kept ((Kept.refl (fun i => i = b) w7.drew).turned ht8 (.inl rfl)) (by omega) (by omega)
            have q8 : w7.drew.cell? ⟨b + 1, 0, none⟩ = some (.map (some b)) := (HS7.out.drew.head 0 (by omega)).1
            have HTX := Lib.hid (text_calls c6 H7 w8 hh8 HFI.out)
            have HS8 := Lib.hid hs8
            have HK8 := Lib.hid hk8
            clear hm8 ht8 hs8 hk8 hh8
            unfold ptr at HTX
            go_wp2
            go_region
            go_wp2_with fail
            refine HTX.out.mono ?_
            rintro e w9 ⟨rfl, hb9⟩
            have HB9 := Lib.hid hb9
            clear hb9 HTX
            go_wp2
            go_ret3
            rw [HFIN.out]
            exact ⟨rfl, PutPost.same (HS8.out.later HB9.out) HT6.out HOLD.out (HK8.out.trans (Kept.of_below (T := fun _ => False) HB9.out) (fun _ h => h.elim))⟩
        have hfin : sput S f ⟨pid, k, n, pt⟩ = (S6, [], false, 7) := by rw [HSP7.out]; simp
        have hsame := set_same S6 (keyS f) H7 hkeys HL6.out
        have HFIN := Lib.hid hfin
        have HSAME := Lib.hid hsame
        clear hfin hsame hkeys
        go_wp2
        go_ret3
        rw [HFIN.out]
        refine ⟨rfl, PutPost.same (blk := blk6) (T1 := T6) ?_ HT6.out HOLD.out HK7.out⟩
        rw [← HSAME.out]
        exact HS7.out
      have hres : sput S f ⟨pid, k, n, pt⟩ = (S6, [], false, 3) := by
        rw [HSP6.out]; unfold more; rw [if_pos (by simp; omega)]
      have HRES := Lib.hid hres
      have t1 : ((H6.ps.length : Int) != (n : Int)) = true := by simp; omega
      clear hres hm6 hh6 hf6
      go_wp2
      go_region
      go_wp2
      go_ret3
      rw [HRES.out]
      exact ⟨rfl, PutPost.same HS6.out.drew HT6.out HOLD.out HK6.out.drew⟩
end Go.Proofs.Ytejheedekiojnaa.Sess
