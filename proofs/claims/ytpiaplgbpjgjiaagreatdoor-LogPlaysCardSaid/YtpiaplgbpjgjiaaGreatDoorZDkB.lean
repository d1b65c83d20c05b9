/-
  Disks (layer 7): the walk of Spoil. No condition but that names are no longer than a string may be.
-/
import Derived.Laws.BitsAllLaws
import Derived.Deep.Upon
import Derived.Deep.RegionHeld3
import Derived.Maps.OwnRows
import Derived.Test.YtpiaplgbpjgjiaaGreatDoorZDkWorks

section
open Go Go.RowKit
namespace Go.Proofs.YtpiaplgbpjgjiaaGreatDoor.Dk
open Base Mp
attribute [local go_sem ↓] Go.wp_at_zero Go.wp_at_succ

theorem u8_xor (a b : UInt8) : bits .xor .u8 (a.toNat : Int) (b.toNat : Int) = (((a ^^^ b).toNat : Nat) : Int) := by
  rw [UInt8.toNat_xor]
  exact u8_xor_nat _ _ a.toNat_lt b.toNat_lt
theorem own_set {w : World} {base : Nat} {e : TypeId} {g n cap : Nat} {xs : List Value} (h : w.ownsRow base e 1 (.slice (some ⟨g, 0, none⟩) n cap) n xs) (j : Nat) (u : Value) : (w.setCell ⟨g, j, none⟩ u).ownsRow base e 1 (.slice (some ⟨g, 0, none⟩) n cap) n (xs.set j u) := by
  obtain ⟨hl, ⟨h1, _⟩ | ⟨g', cap', cur, h1, hg, hb, hnc, hcm, hcs, ht⟩⟩ := h
  · cases h1
  · injection h1 with h2 h3 h4
    injection h2 with h2
    injection h2 with h2
    subst h2 h4
    refine ⟨by simpa using hl, .inr ⟨g, cap, cur.setIfInBounds j u, rfl, hg, ?_, hnc, hcm, by simpa using hcs, ?_⟩⟩
    · have hlt : g < w.heap.size := by
        rcases Nat.lt_or_ge g w.heap.size with h | h
        · exact h
        · rw [Array.getElem?_eq_none h] at hb; cases hb
      have hge : w.heap[g] = .cells cur e (0, 0) := by
        rw [Array.getElem?_eq_getElem hlt] at hb
        exact Option.some.inj hb
      simp [World.setCell, hlt, Array.getElem_modify, hge]
    · rw [Array.toList_setIfInBounds, List.take_set, ht]
set_option maxRecDepth 100000 in
set_option maxHeartbeats 2000000 in
theorem Spoil_f {w : World} {b : Nat} {D : DiskD} {T : Nat → Prop} (h : DiskAt w b D T) (n : List UInt8) (m : Int) (y : UInt8) (hn : n.length ≤ maxLen) (hm64 : -9223372036854775808 ≤ m ∧ m ≤ 9223372036854775807) : Calls Tryz.prog 43 #[.pointer (some ⟨b, 0, none⟩), .string (B n), .int .i64 m, .int .u8 (y.toNat : Int)] w (OpPost w b T (spoilD D n m y)) := by
  obtain ⟨tag, blk, bm, h⟩ := h
  have H := Lib.hid h
  cases hl : lookL D.files (keyS n) with
  | none =>
    have HF := Lib.hid (Find_no h n hn hl)
    have HE := Lib.hid (show spoilD D n m y = (D, 5) by unfold spoilD findD; rw [hl])
    clear h hl
    go_enter Tryz.func43, Tryz.ntmps43
    go_wp2_with fail
    with_reducible refine HF.out.mono ?_
    rintro e w1 ⟨rfl, rfl⟩
    go_wp2
    go_ret
    rw [HE.out]
    exact ⟨rfl, H.out.out, Kept.refl _ _⟩
  | some F =>
    have HF := Lib.hid (Find_yes h n hn F hl)
    obtain ⟨⟨v, hcs, hr, hv⟩, hm⟩ := h.at hl
    have c0 := (hcs 0 (by omega)).1
    simp only [fileCell] at c0
    have HL := Lib.hid hl
    have hsh := h.fine.short (mem_of_look hl)
    simp only at hsh
    by_cases hc : m < 0 ∨ (F.bytes.length : Int) ≤ m
    · have HE := Lib.hid (show spoilD D n m y = (D, 2) by unfold spoilD findD; rw [hl]; simp only; rw [if_pos hc])
      obtain ⟨p, cap, rfl, -⟩ := own_take hr (Nat.le_refl _)
      clear h hl hcs hr hv hm
      go_enter Tryz.func43, Tryz.ntmps43
      go_wp2_with fail
      with_reducible refine HF.out.mono ?_
      rintro e w1 ⟨rfl, rfl⟩
      by_cases hm0 : m < 0
      · clear hc
        go_wp2
        go_ret
        rw [HE.out]
        exact ⟨rfl, H.out.out, Kept.refl _ _⟩
      · have hm1 : (F.bytes.length : Int) ≤ m := hc.resolve_left hm0
        clear hc
        go_wp2
        go_ret
        rw [HE.out]
        exact ⟨rfl, H.out.out, Kept.refl _ _⟩
    · obtain ⟨j, rfl⟩ : ∃ j : Nat, m = (j : Int) := ⟨m.toNat, by omega⟩
      have hj : j < F.bytes.length := by omega
      have HE := Lib.hid (show spoilD D n (j : Int) y = (withFile D (keyS n) ⟨F.bytes.set j (F.bytes[j] ^^^ y), F.sure, F.fresh⟩, 0) by
        unfold spoilD findD
        rw [hl]
        simp only
        rw [if_neg hc]
        simp [List.getD_eq_getElem?_getD, hj])
      have hr0 := hr
      rcases own_bytes hr with ⟨rfl, hb⟩ | ⟨g, cap, rfl, hb⟩
      · rw [hb] at hj; simp at hj
      · have hcell := (hb j hj).1
        have hfroz := (hb j hj).2
        have hx := u8_xor F.bytes[j] y
        have hset := own_set hr0 j (.int .u8 (((F.bytes[j] ^^^ y).toNat : Nat) : Int))
        have hk : Kept (fun i => i = g) w (w.setCell ⟨g, j, none⟩ (.int .u8 (((F.bytes[j] ^^^ y).toNat : Nat) : Int))) := Kept.setCell (T := fun i => i = g) (Kept.refl _ w) (.inl rfl) _
        have hg := hv g rfl
        have hkk : Kept (fun i => tag i = some (keyS n)) w (w.setCell ⟨g, j, none⟩ (.int .u8 (((F.bytes[j] ^^^ y).toNat : Nat) : Int))) := hk.mono fun i e => by rw [e]; exact hg.1
        have hfi := h.fine.set (G := ⟨F.bytes.set j (F.bytes[j] ^^^ y), F.sure, F.fresh⟩) hl (by have := h.fine.sure _ (mem_of_look hl); simpa using this) (by have := h.fine.fits; simp; omega)
        have h4 := h.inplace (F' := ⟨F.bytes.set j (F.bytes[j] ^^^ y), F.sure, F.fresh⟩) (v := .slice (some ⟨g, 0, none⟩) F.bytes.length cap) (v' := .slice (some ⟨g, 0, none⟩) F.bytes.length cap) hl hkk (by simp) (hcs.kept hk (hcs.lt (by omega)) (fun e => hg.2 e.symm)) (by
          have e1 : (F.bytes.set j (F.bytes[j] ^^^ y)).length = F.bytes.length := by simp
          have e2 : byteV (F.bytes.set j (F.bytes[j] ^^^ y)) = (byteV F.bytes).set j (.int .u8 (((F.bytes[j] ^^^ y).toNat : Nat) : Int)) := by simp [byteV, List.map_set]
          show World.ownsRow _ 0 _ 1 _ (F.bytes.set j (F.bytes[j] ^^^ y)).length (byteV (F.bytes.set j (F.bytes[j] ^^^ y)))
          rw [e1, e2]
          exact hset) hv rfl hfi
        have H4 := Lib.hid h4
        have K4 := Lib.hid (hkk.mono (T' := T) fun i hi => h.minet i _ hi)
        have m0 : ¬ (j : Int) < 0 := by omega
        have m1 : (j : Int) < (F.bytes.length : Int) := by omega
        have m2 : 0 ≤ (j : Int) := by omega
        clear h hl hcs hr hr0 hv hm hb hset hk hkk hg hfi h4 hc
        generalize F.bytes[j] = cj at *
        go_enter Tryz.func43, Tryz.ntmps43
        go_wp2_with fail
        with_reducible refine HF.out.mono ?_
        rintro e w1 ⟨rfl, rfl⟩
        go_wp2
        go_ret
        rw [HE.out]
        exact ⟨rfl, H4.out.out, K4.out⟩
end Go.Proofs.YtpiaplgbpjgjiaaGreatDoor.Dk
end

/-
  Disks (layer 7): the walk of does, a step of a script. Conditions: the step's numbers are of their kinds, its texts are no longer than a string may be.
-/
section
open Go Go.RowKit
namespace Go.Proofs.YtpiaplgbpjgjiaaGreatDoor.Dk
open Base Mp

structure StepD where
  do_ : Int
  name : Key
  s : Key
  n : Int
  by_ : UInt8
  keep : List Int
  kp : Option Addr
  kc : Nat
def stepCs (x : StepD) : Array Value := #[.int .i64 x.do_, .string (B x.name), .string (B x.s), .int .i64 x.n, .int .u8 (x.by_.toNat : Int), .slice x.kp x.keep.length x.kc]
def stepV (x : StepD) : Value := .agg (stepCs x)
structure StepOk (x : StepD) : Prop where
  name : x.name.length ≤ maxLen
  s : x.s.length ≤ maxLen
  n : -9223372036854775808 ≤ x.n ∧ x.n ≤ 9223372036854775807
  keep : IntsIn x.keep
  few : x.keep.length ≤ 1099511627776
def doesD (D : DiskD) (x : StepD) : DiskD × Int :=
  if x.do_ = 0 then createD D x.name else if x.do_ = 1 then appendD D x.name x.s else if x.do_ = 2 then syncD D x.name else if x.do_ = 3 then cutD D x.name x.n else if x.do_ = 4 then removeD D x.name else if x.do_ = 5 then spoilD D x.name x.n x.by_ else if x.do_ = 6 then fuseD D x.n else if x.do_ = 7 then (crashD D x.keep, 0) else (D, 0)
theorem infoInt : (Tryz.prog.info? 3).map (fun i => (i.zero, i.size, i.bytes)) = some (some (.int .i64 0), 1, 8) := by kernel_rfl
def intV (x : Int) : Value := .int .i64 x
set_option maxRecDepth 100000 in
theorem append_ints (W : World) (p : Option Addr) (cap : Nat) (l : List Int) (h : IntsAt W p l) (hm : l.length ≤ 1099511627776) : ∃ p' cap' w', (Builtin.append_ #[39, 39] 39 #[.slice none 0 0, .slice p l.length cap]).run Tryz.prog W = .ok (.slice p' l.length cap') w' ∧ IntsAt w' p' l ∧ l.length ≤ cap' ∧ cap' ≤ 9223372036854775807 ∧ Below W.heap.size W w' ∧ ∀ a, p' = some a → W.heap.size ≤ a.block := by
  obtain ⟨i0, hi, hz0, hz1, hz2⟩ := info_parts infoInt
  cases hl : l with
  | nil =>
    refine ⟨none, 0, W, ?_, fun j hj => absurd hj (by simp), by simp, by decide, Below.refl _ _, fun a h => by cases h⟩
    have := run_append_nothing W 39 39 39 3 i0 Tryz.underlying39 hi none 0 0 (Nat.le_refl _) (.slice p 0 cap)
    cases p with
    | none => exact this (Src.ofNil W Tryz.underlying39 cap)
    | some a => exact this (Src.ofSlice W Tryz.underlying39 a 0 cap [] (by simp) (fun j u hj => by simp at hj) (by simp))
  | cons x r =>
    rw [← hl]
    have hn : 0 < l.length := by rw [hl]; simp
    obtain ⟨b0, o0, rfl, _⟩ := h 0 hn
    obtain ⟨g, cap', w', h1, h2, h3, h4, -⟩ := run_append_lies (P := Tryz.prog) W 39 39 W.heap.size 3 i0 _ 1 8 Tryz.underlying39 hi hz0 hz1 hz2 rfl (by decide)
      (.slice none 0 0) 0 [] ⟨by simp, .inl ⟨rfl, rfl⟩⟩ ⟨b0, o0, none⟩ l.length cap (l.map intV) (by simp) (fun j u hj => by
        rw [List.getElem?_map] at hj
        rcases Nat.lt_or_ge j l.length with hlj | hlj
        · rw [List.getElem?_eq_getElem hlj] at hj
          obtain ⟨b1, o1, he, hc⟩ := h j hlj
          injection he with he
          injection he with e1 e2
          subst e1 e2
          rw [show (⟨b0, o0, none⟩ : Addr).add j = ⟨b0, o0 + j, none⟩ by simp [Addr.add], hc]
          exact hj
        · rw [List.getElem?_eq_none hlj] at hj; cases hj) (by intro u hu; obtain ⟨k, _, rfl⟩ := List.mem_map.1 hu; rfl) hn (by unfold maxLen; omega) (by omega) (Nat.le_refl _) _ rfl
    rw [Nat.zero_add] at h1 h2
    rw [List.nil_append] at h2
    obtain ⟨hll, ⟨e1, _⟩ | ⟨g', cap2, cur, e1, hg, hb, hnc, hcm, hcs, ht⟩⟩ := h2
    · cases e1
    · injection e1 with e2 e3 e4
      injection e2 with e2
      injection e2 with e2
      subst e2 e4
      refine ⟨some ⟨g, 0, none⟩, cap', w', h1, fun j hj => ⟨g, 0, rfl, ?_⟩, hnc, hcm, (Below.refl _ _).grown h3 (Nat.le_refl _) (fun q hq => by cases hq), fun a ha => by injection ha with ha; rw [← ha]; exact hg⟩
      have h5 : (cur.toList.take (l.length * 1))[j]? = (l.map intV)[j]? := by rw [ht]
      rw [List.getElem?_take_of_lt (by omega), List.getElem?_map, List.getElem?_eq_getElem hj] at h5
      simp [World.cell?, hb, intV] at h5 ⊢
      exact h5
theorem DW.crash {w0 w1 w2 : World} {b : Nat} {D : DiskD} (h : DW w0 w1 b D) (hk : Below w1.heap.size w1 w2) (p : Option Addr) (keep : List Int) (cap : Nat) (hI : IntsAt w2 p keep) (hi : IntsIn keep) (hc : keep.length ≤ cap) (hm : cap ≤ 9223372036854775807) (hp : ∀ a, p = some a → w1.heap.size ≤ a.block) :
    Calls Tryz.prog 22 #[.pointer (some ⟨b, 0, none⟩), .slice p keep.length cap] w2 fun e w' => e = .returned (.int .i64 0) ∧ DW w0 w' b (crashD D keep) := by
  obtain ⟨hb, T, hd, hT⟩ := h
  have hd0 := hd
  obtain ⟨tag, blk, bm, hdd⟩ := hd0
  have hd2 := hd.next (Kept.of_below (T := fun i => ¬ T i) hk)
  refine (Crash_f hd2 p keep cap hI hi hc hm (fun a ha ht => by have h1 := hp a ha; have h2 := hdd.old _ ht; omega)).mono ?_
  rintro e w' ⟨he, h1, h2⟩
  have hb2 := hb.trans (hk.mono hb.size)
  refine ⟨he, hb2.trans (h2.below hT hb2.size), _, h1, fun i hi => ?_⟩
  rcases hi with hi | hi
  · exact hT i hi
  · exact Nat.le_trans hb2.size hi.1
end Go.Proofs.YtpiaplgbpjgjiaaGreatDoor.Dk
end

/-
  Disks (layer 7): the walk of the guard Heavy. Conditions: the steps lie in memory; texts and lists are no longer than the reach.
-/
section
open Go Go.RowKit
namespace Go.Proofs.YtpiaplgbpjgjiaaGreatDoor.Dk
open Base Mp
attribute [local go_sem ↓] Go.wp_at_zero Go.wp_at_succ

/-- A step in memory, its first cell at offset o. -/
structure StepAt (w : World) (b o : Nat) (x : StepD) : Prop where
  c0 : w.cell? ⟨b, o, none⟩ = some (.int .i64 x.do_)
  c1 : w.cell? ⟨b, o + 1, none⟩ = some (.string (B x.name))
  c2 : w.cell? ⟨b, o + 2, none⟩ = some (.string (B x.s))
  c3 : w.cell? ⟨b, o + 3, none⟩ = some (.int .i64 x.n)
  c4 : w.cell? ⟨b, o + 4, none⟩ = some (.int .u8 (x.by_.toNat : Int))
  c5 : w.cell? ⟨b, o + 5, none⟩ = some (.slice x.kp x.keep.length x.kc)
/-- What is known of each step that comes in. -/
structure StepFit (w : World) (x : StepD) : Prop where
  name : x.name.length ≤ 140737488355328
  s : x.s.length ≤ 140737488355328
  n : -9223372036854775808 ≤ x.n ∧ x.n ≤ 9223372036854775807
  keep : IntsIn x.keep
  few : x.keep.length ≤ 140737488355328
  ints : IntsAt w x.kp x.keep
theorem StepAt.below {w w' : World} {b o : Nat} {x : StepD} (h : StepAt w b o x) (hb : Below w.heap.size w w') : StepAt w' b o x := by
  have hlt := lt_of_cell h.c0
  have key : ∀ j v, w.cell? ⟨b, j, none⟩ = some v → w'.cell? ⟨b, j, none⟩ = some v := fun j v hc => (World.cell?_of_block (a := ⟨b, j, none⟩) (hb.block b hlt)).trans hc
  exact ⟨key _ _ h.c0, key _ _ h.c1, key _ _ h.c2, key _ _ h.c3, key _ _ h.c4, key _ _ h.c5⟩
theorem StepFit.below {w w' : World} {x : StepD} (h : StepFit w x) (hb : Below w.heap.size w w') : StepFit w' x := ⟨h.name, h.s, h.n, h.keep, h.few, ints_kept (T := fun _ => False) h.ints (Kept.of_below hb) (fun _ _ h => h)⟩
def StepsArg (w : World) (p : Option Addr) (l : List StepD) : Prop := ∀ j (h : j < l.length), ∃ b o, p = some ⟨b, o, none⟩ ∧ StepAt w b (o + j * 6) l[j] ∧ StepFit w l[j]
theorem StepsArg.below {w w' : World} {p : Option Addr} {l : List StepD} (h : StepsArg w p l) (hb : Below w.heap.size w w') : StepsArg w' p l := fun j hj => by
  obtain ⟨b, o, h1, h2, h3⟩ := h j hj
  exact ⟨b, o, h1, h2.below hb, h3.below hb⟩
def heavyN (l : List StepD) : Nat := (l.map fun x => x.name.length + x.s.length + x.keep.length).sum
def heavyB (l : List StepD) : Bool := decide (200 < l.length) || decide (16384 < heavyN (l.take 500))
theorem heavyN_succ (l : List StepD) (i : Nat) (h : i < l.length) : heavyN (l.take (i + 1)) = heavyN (l.take i) + l[i].name.length + l[i].s.length + l[i].keep.length := by
  unfold heavyN
  rw [List.take_succ_eq_append_getElem h, List.map_append, List.sum_append]
  simp
  omega
end Go.Proofs.YtpiaplgbpjgjiaaGreatDoor.Dk
end

/-
  Disks (layer 7): for DiskRoom: the room stays, names rise, and the files' bytes are what the names' files have. No program in sight.
-/
section
open Go Go.RowKit
namespace Go.Proofs.YtpiaplgbpjgjiaaGreatDoor.Dk
open Base Mp

theorem done_room (D : DiskD) : (done D).room = D.room := by unfold done; split <;> rfl
theorem op_room (D : DiskD) (n : Key) (f : FileD → DiskD × Int) (h : ∀ F, (f F).1.room = D.room) : (opD D n f).1.room = D.room := by
  unfold opD
  split
  · rfl
  · split
    · rfl
    · exact h _
theorem does_room (D : DiskD) (x : StepD) : (doesD D x).1.room = D.room := by
  unfold doesD
  split
  · unfold createD
    repeat' split
    all_goals first | rfl | exact done_room _
  split
  · exact op_room _ _ _ fun F => by
      split
      · rfl
      · exact done_room _
  split
  · exact op_room _ _ _ fun F => done_room _
  split
  · exact op_room _ _ _ fun F => by
      split
      · rfl
      · exact done_room _
  split
  · exact op_room _ _ _ fun F => done_room _
  split
  · unfold spoilD findD
    split
    · rfl
    · simp only
      split <;> rfl
  split
  · unfold fuseD
    split <;> rfl
  split <;> rfl
theorem DW.fine {w0 w : World} {b : Nat} {D : DiskD} (h : DW w0 w b D) : Fine D := by
  obtain ⟨_, T, ⟨tag, blk, bm, hd⟩, _⟩ := h
  exact hd.fine
theorem look_mem {l : FS} (hn : l.Pairwise fun p q => p.1 ≠ q.1) {p : Lit × FileD} (hp : p ∈ l) {F : FileD} (hl : lookL l p.1 = some F) : F = p.2 := by
  have hm := mem_of_look hl
  obtain ⟨i, hi, e1⟩ := List.getElem_of_mem hp
  obtain ⟨j, hj, e2⟩ := List.getElem_of_mem hm
  rcases Nat.lt_trichotomy i j with h | h | h
  · exact absurd (by rw [e1, e2]) (List.pairwise_iff_getElem.1 hn i j hi hj h)
  · subst h
    rw [e1] at e2
    rw [e2]
  · exact absurd (by rw [e1, e2]) (List.pairwise_iff_getElem.1 hn j i hj hi h)
def lenOf (D : DiskD) (n : Key) : Nat := (readD D n).1.length
theorem read_file {D : DiskD} (h : Fine D) {n : Key} (hn : n ∈ namesD D) : ∃ F, lookL D.files (keyS n) = some F ∧ readD D n = (F.bytes, 0) ∧ looseD D n = F.bytes.length - F.sure := by
  obtain ⟨F, hF, _⟩ := h.has hn
  exact ⟨F, hF, by unfold readD findD; rw [hF], by unfold looseD findD; rw [hF]⟩
theorem names_total {D : DiskD} (h : Fine D) : ((namesD D).map (lenOf D)).sum = total D.files := by
  have h1 : ((namesD D).map (lenOf D)).Perm ((D.files.map fun p => strOf p.1).map (lenOf D)) := (srt_perm _).map _
  rw [h1.sum_nat, List.map_map]
  unfold total
  congr 1
  refine List.map_congr_left fun p hp => ?_
  have hn : strOf p.1 ∈ namesD D := (srt_perm _).mem_iff.2 (List.mem_map.2 ⟨p, hp, rfl⟩)
  obtain ⟨F, hF, hr, _⟩ := read_file h hn
  obtain ⟨m, hm, _⟩ := h.names p hp
  have hk : keyS (strOf p.1) = p.1 := by rw [hm]; rfl
  rw [hk] at hF
  have := look_mem h.apart hp hF
  simp only [Function.comp, lenOf, hr, this]
theorem names_rise {D : DiskD} (h : Fine D) {i j : Nat} (hj : j < (namesD D).length) (hij : i < j) : (namesD D)[i] < (namesD D)[j] := by
  have h0 : (namesD D).Pairwise (· ≤ ·) := srt_pair _
  have h1 := List.pairwise_iff_getElem.1 h0 i j (Nat.lt_trans hij hj) hj hij
  have h2 := List.pairwise_iff_getElem.1 h.nodup i j (Nat.lt_trans hij hj) hj hij
  exact Std.lt_of_le_of_ne h1 h2
theorem sum_take (D : DiskD) (i : Nat) (h : i < (namesD D).length) : (((namesD D).take (i + 1)).map (lenOf D)).sum = (((namesD D).take i).map (lenOf D)).sum + lenOf D (namesD D)[i] := by
  rw [List.take_succ_eq_append_getElem h, List.map_append, List.sum_append]
  simp
theorem sum_le (D : DiskD) (i : Nat) : (((namesD D).take i).map (lenOf D)).sum ≤ ((namesD D).map (lenOf D)).sum := by
  conv => rhs; rw [← List.take_append_drop i (namesD D)]
  rw [List.map_append, List.sum_append]
  omega
theorem mem_le_sum {l : List Nat} {n : Nat} (h : n ∈ l) : n ≤ l.sum := by
  induction l with
  | nil => cases h
  | cons a r ih =>
    rw [List.sum_cons]
    rcases List.mem_cons.1 h with rfl | h
    · omega
    · have := ih h; omega
theorem heavy_small {l : List StepD} (h : heavyB l = false) {x : StepD} (hx : x ∈ l) : l.length ≤ 200 ∧ x.name.length ≤ 16384 ∧ x.s.length ≤ 16384 ∧ x.keep.length ≤ 16384 := by
  unfold heavyB at h
  simp only [Bool.or_eq_false_iff, decide_eq_false_iff_not] at h
  have hl : l.length ≤ 200 := by omega
  rw [List.take_of_length_le (by omega)] at h
  have : x.name.length + x.s.length + x.keep.length ≤ heavyN l := by
    unfold heavyN
    exact mem_le_sum (List.mem_map.2 ⟨x, hx, rfl⟩)
  omega
end Go.Proofs.YtpiaplgbpjgjiaaGreatDoor.Dk
end

/-
  Disks (layer 7): for DiskKeeps and DiskApart: what a crash leaves of each file; that a second one leaves all; that a call on one file leaves the others. No program in sight.
-/
section
open Go Go.RowKit
namespace Go.Proofs.YtpiaplgbpjgjiaaGreatDoor.Dk
open Base Mp

/-- Files that were never synced have nothing sure. -/
def NewOk (D : DiskD) : Prop := ∀ p ∈ D.files, p.2.fresh = true → p.2.sure = 0
theorem NewOk.done {D : DiskD} (h : NewOk D) : NewOk (done D) := by unfold Dk.done; split <;> exact h
theorem NewOk.set {D : DiskD} {k : Lit} {G : FileD} (h : NewOk D) (hG : G.fresh = true → G.sure = 0) : NewOk (withFile D k G) := fun p hp => by
  rcases mem_set hp with ⟨hp, _⟩ | ⟨_, e⟩
  · exact h p hp
  · rw [e]; exact hG
theorem NewOk.op {D : DiskD} {n : Key} {f : FileD → DiskD × Int} (h : NewOk D) (hf : ∀ F, lookL D.files (keyS n) = some F → NewOk (f F).1) : NewOk (opD D n f).1 := by
  unfold opD
  split
  · exact h
  · split
    · exact h
    · next F hF => exact hf F hF
theorem NewOk.create {D : DiskD} (h : NewOk D) (n : Key) : NewOk (createD D n).1 := by
  unfold createD
  split
  · exact h
  split
  · exact h
  split
  · exact h
  split
  · exact h
  · refine NewOk.done fun p hp => ?_
    rcases mem_put hp with rfl | ⟨hp, _⟩
    · exact fun _ => rfl
    · exact h p hp
theorem NewOk.append {D : DiskD} (h : NewOk D) (n s : Key) : NewOk (appendD D n s).1 := by
  refine NewOk.op h fun F hF => ?_
  split
  · exact h
  · exact NewOk.done (NewOk.set h (fun hf => h (keyS n, F) (mem_of_look hF) hf))
theorem NewOk.sync {D : DiskD} (h : NewOk D) (n : Key) : NewOk (syncD D n).1 := NewOk.op h fun _ _ => (h.set (fun hf => by cases hf)).done
theorem NewOk.cut {D : DiskD} (h : NewOk D) (n : Key) (m : Int) : NewOk (cutD D n m).1 := by
  refine NewOk.op h fun F _ => ?_
  split
  · exact h
  · exact (h.set (fun hf => by cases hf)).done
theorem NewOk.remove {D : DiskD} (h : NewOk D) (n : Key) : NewOk (removeD D n).1 := NewOk.op h fun _ _ => NewOk.done fun p hp => h p (mem_del hp).1
theorem NewOk.spoil {D : DiskD} (h : NewOk D) (n : Key) (m : Int) (y : UInt8) : NewOk (spoilD D n m y).1 := by
  unfold spoilD findD
  split
  · exact h
  · next F hF =>
    simp only
    split
    · exact h
    · exact h.set (fun hf => h _ (mem_of_look hF) hf)
theorem NewOk.fuse {D : DiskD} (h : NewOk D) (m : Int) : NewOk (fuseD D m).1 := by unfold fuseD; split <;> exact h
theorem crash1_mem {st : FS × List Int} {n : Key} {p : Lit × FileD} (hp : p ∈ (crash1 st n).1) : p ∈ st.1 ∨ p.2.fresh = false := by
  unfold crash1 at hp
  split at hp
  · exact .inl hp
  · split at hp
    · exact .inl hp
    · split at hp
      · exact .inl (mem_del hp).1
      · rcases mem_set hp with ⟨hp, _⟩ | ⟨_, e⟩
        · exact .inl hp
        · rw [e]; exact .inr rfl
theorem crashed_mem {l : List Key} {st : FS × List Int} {p : Lit × FileD} (hp : p ∈ (l.foldl crash1 st).1) : p ∈ st.1 ∨ p.2.fresh = false := by
  induction l generalizing st with
  | nil => exact .inl hp
  | cons n r ih =>
    rw [List.foldl_cons] at hp
    rcases ih hp with h | h
    · exact crash1_mem h
    · exact .inr h
theorem NewOk.crash {D : DiskD} (h : NewOk D) (keep : List Int) : NewOk (crashD D keep) := fun p hp hf => by
  rcases crashed_mem (st := (D.files, keep)) hp with h1 | h1
  · exact h p h1 hf
  · rw [h1] at hf; cases hf
theorem NewOk.does {D : DiskD} (h : NewOk D) (x : StepD) : NewOk (doesD D x).1 := by
  unfold doesD
  split
  · exact h.create _
  split
  · exact h.append _ _
  split
  · exact h.sync _
  split
  · exact h.cut _ _
  split
  · exact h.remove _
  split
  · exact h.spoil _ _ _
  split
  · exact h.fuse _
  split
  · exact h.crash _
  · exact h
theorem NewOk.none (r : Nat) : NewOk ⟨r, [], false, 0⟩ := fun p hp => by cases hp
/-! What a crash leaves. -/
theorem crashed_len (l : List Key) (st : FS × List Int) : (l.foldl crash1 st).1.length ≤ st.1.length := by
  induction l generalizing st with
  | nil => exact Nat.le_refl _
  | cons n r ih =>
    rw [List.foldl_cons]
    refine Nat.le_trans (ih _) ?_
    unfold crash1
    split
    · exact Nat.le_refl _
    · split
      · exact Nat.le_refl _
      · split
        · exact del_le _ _
        · simp only [set_length]; exact Nat.le_refl _
theorem crash_file {D : DiskD} (h : Fine D) (keep : List Int) {n : Key} (hn : n ∈ namesD D) {F : FileD} (hF : lookL D.files (keyS n) = some F) :
    (F.fresh = true ∧ lookL (crashed D keep) (keyS n) = none) ∨ ∃ m, F.sure ≤ m ∧ m ≤ F.bytes.length ∧ lookL (crashed D keep) (keyS n) = some ⟨F.bytes.take m, m, false⟩ := by
  obtain ⟨l1, l2, hl⟩ := List.append_of_mem hn
  have hnd := h.nodup
  rw [hl, List.pairwise_append, List.pairwise_cons] at hnd
  obtain ⟨_, ⟨h2, _⟩, h3⟩ := hnd
  unfold crashed
  rw [hl, List.foldl_append, List.foldl_cons, crash_still _ _ _ (fun x hx => h2 x hx)]
  have h4 : lookL (l1.foldl crash1 (D.files, keep)).1 (keyS n) = some F := by
    rw [crash_still _ _ _ (fun x hx e => h3 x hx n (by simp) e.symm)]
    exact hF
  generalize l1.foldl crash1 (D.files, keep) = st at h4
  have hs := h.sure _ (mem_of_look hF)
  simp only at hs
  unfold crash1
  rw [h4]
  simp only
  split
  · next h5 =>
    right
    refine ⟨F.bytes.length, hs, Nat.le_refl _, ?_⟩
    rw [h4, List.take_length]
    obtain ⟨b, s, f⟩ := F
    simp only at h5 hs ⊢
    rw [show s = b.length by omega, h5.2]
  · split
    · next h6 => exact .inl ⟨h6.1, look_del_same _ _⟩
    · exact .inr ⟨_, by unfold keptOf; omega, keptOf_le _ _ hs, look_set_same _ _ _ _ h4⟩
/-- All is sure. -/
def Settled (D : DiskD) : Prop := ∀ p ∈ D.files, p.2.sure = p.2.bytes.length ∧ p.2.fresh = false
theorem crash1_settled {st : FS × List Int} (h : ∀ p ∈ st.1, p.2.sure = p.2.bytes.length ∧ p.2.fresh = false) (n : Key) : crash1 st n = st := by
  unfold crash1
  split
  · rfl
  · next F hF =>
    obtain ⟨h1, h2⟩ := h _ (mem_of_look hF)
    simp only at h1 h2
    rw [if_pos ⟨by omega, h2⟩]
theorem crashed_settled {D : DiskD} (h : Settled D) (keep : List Int) : crashed D keep = D.files := by
  unfold crashed
  have : ∀ l : List Key, l.foldl crash1 (D.files, keep) = (D.files, keep) := fun l => by
    induction l with
    | nil => rfl
    | cons n r ih => rw [List.foldl_cons, crash1_settled (st := (D.files, keep)) h]; exact ih
  rw [this]
theorem crash1_keys (st : FS × List Int) (n : Key) : ∀ p ∈ (crash1 st n).1, ∃ q ∈ st.1, q.1 = p.1 := fun p hp => by
  unfold crash1 at hp
  split at hp
  · exact ⟨p, hp, rfl⟩
  · next F hF =>
    split at hp
    · exact ⟨p, hp, rfl⟩
    · split at hp
      · exact ⟨p, (mem_del hp).1, rfl⟩
      · rcases mem_set hp with ⟨hp, _⟩ | ⟨e, _⟩
        · exact ⟨p, hp, rfl⟩
        · exact ⟨_, mem_of_look hF, e.symm⟩
theorem crashed_keys (l : List Key) (st : FS × List Int) : ∀ p ∈ (l.foldl crash1 st).1, ∃ q ∈ st.1, q.1 = p.1 := by
  induction l generalizing st with
  | nil => exact fun p hp => ⟨p, hp, rfl⟩
  | cons n r ih =>
    intro p hp
    rw [List.foldl_cons] at hp
    obtain ⟨q, hq, e⟩ := ih _ p hp
    obtain ⟨q2, hq2, e2⟩ := crash1_keys st n q hq
    exact ⟨q2, hq2, e2.trans e⟩
theorem crash1_apart {st : FS × List Int} (h : st.1.Pairwise fun p q => p.1 ≠ q.1) (n : Key) : (crash1 st n).1.Pairwise fun p q => p.1 ≠ q.1 := by
  unfold crash1
  split
  · exact h
  · split
    · exact h
    · split
      · exact h.filter _
      · show (setL _ _ _).Pairwise _
        unfold setL
        rw [List.pairwise_map]
        refine h.imp_of_mem fun ha hb hab => ?_
        split <;> split <;> exact hab
theorem crashed_apart (l : List Key) (st : FS × List Int) (h : st.1.Pairwise fun p q => p.1 ≠ q.1) : (l.foldl crash1 st).1.Pairwise fun p q => p.1 ≠ q.1 := by
  induction l generalizing st with
  | nil => exact h
  | cons n r ih => rw [List.foldl_cons]; exact ih _ (crash1_apart h n)
theorem name_mem {D : DiskD} {n : Key} {F : FileD} (hF : lookL D.files (keyS n) = some F) : n ∈ namesD D :=
  (srt_perm _).mem_iff.2 (List.mem_map.2 ⟨_, mem_of_look hF, rfl⟩)
theorem crash_settles {D : DiskD} (h : Fine D) (keep : List Int) : Settled (crashD D keep) := fun p hp => by
  obtain ⟨q, hq, e⟩ := crashed_keys (namesD D) (D.files, keep) p hp
  obtain ⟨n, hn, _⟩ := h.names q hq
  have hk : p.1 = keyS n := e.symm.trans hn
  have hl : lookL (crashed D keep) (keyS n) = some p.2 := look_of_mem (crashed_apart (namesD D) (D.files, keep) h.apart) (isKey n) (by rw [← hk]; exact hp)
  have hF : lookL D.files (keyS n) = some q.2 := look_of_mem h.apart (isKey n) (by rw [← hn]; exact hq)
  rcases crash_file h keep (name_mem hF) hF with ⟨_, h1⟩ | ⟨m, h1, h2, h3⟩
  · rw [h1] at hl; cases hl
  · rw [h3] at hl
    injection hl with hl
    rw [← hl]
    exact ⟨by rw [List.length_take, Nat.min_eq_left h2], rfl⟩
theorem crash_twice {D : DiskD} (h : Fine D) (keep more : List Int) : crashD (crashD D keep) more = crashD D keep := by
  show ({ crashD D keep with files := crashed (crashD D keep) more, fused := false, calls := 0 } : DiskD) = _
  rw [crashed_settled (crash_settles h keep)]
  rfl
theorem crash_few {D : DiskD} (keep : List Int) : (namesD (crashD D keep)).length ≤ (namesD D).length := by
  rw [names_len, names_len]
  exact crashed_len (namesD D) (D.files, keep)
/-- What DiskKeeps asks of a file, behind a crash. -/
theorem crash_keeps {D : DiskD} (h : Fine D) (hnew : NewOk D) (keep : List Int) {n : Key} (hn : n ∈ namesD D) :
    (readD (crashD D keep) n = ([], 5) ∧ (readD D n).1.length - looseD D n = 0) ∨ ∃ m, (readD D n).1.length - looseD D n ≤ m ∧ m ≤ (readD D n).1.length ∧ readD (crashD D keep) n = ((readD D n).1.take m, 0) ∧ looseD (crashD D keep) n = 0 := by
  obtain ⟨F, hF, hr, hlo⟩ := read_file h hn
  have hs := h.sure _ (mem_of_look hF)
  simp only at hs
  rw [hr, hlo]
  simp only
  rcases crash_file h keep hn hF with ⟨h1, h2⟩ | ⟨m, h1, h2, h3⟩
  · left
    have := hnew _ (mem_of_look hF) h1
    simp only at this
    exact ⟨by unfold readD findD; rw [show (crashD D keep).files = crashed D keep from rfl, h2], by omega⟩
  · right
    refine ⟨m, by omega, h2, ?_, ?_⟩
    · unfold readD findD; rw [show (crashD D keep).files = crashed D keep from rfl, h3]
    · unfold looseD findD; rw [show (crashD D keep).files = crashed D keep from rfl, h3]; simp only [List.length_take]; omega
theorem settled_loose {D : DiskD} (h : Settled D) (n : Key) : looseD D n = 0 := by
  unfold looseD findD
  split
  · rfl
  · next F hF =>
    have h2 : F.sure = F.bytes.length := (h (keyS n, F) (mem_of_look hF)).1
    show F.bytes.length - F.sure = 0
    omega
/-! A call on one file. -/
theorem read_of_look {D D' : DiskD} {n : Key} (h : lookL D'.files (keyS n) = lookL D.files (keyS n)) : readD D' n = readD D n := by unfold readD findD; rw [h]
theorem done_files (D : DiskD) : (done D).files = D.files := by unfold done; split <;> rfl
theorem op_other {D : DiskD} {n m : Key} {f : FileD → DiskD × Int} (hf : ∀ F, lookL (f F).1.files (keyS m) = lookL D.files (keyS m)) : lookL (opD D n f).1.files (keyS m) = lookL D.files (keyS m) := by
  unfold opD
  split
  · rfl
  · split
    · rfl
    · exact hf _
theorem does_look {D : DiskD} (x : StepD) (hx : x.do_ ≤ 5) {m : Key} (hm : m ≠ x.name) : lookL (doesD D x).1.files (keyS m) = lookL D.files (keyS m) := by
  have hk : keyS m ≠ keyS x.name := fun e => hm (keyS_inj e)
  unfold doesD
  split
  · unfold createD
    split
    · rfl
    split
    · rfl
    split
    · rfl
    split
    · rfl
    · rw [done_files]; exact look_put_other _ _ _ hk _
  split
  · refine op_other fun F => ?_
    split
    · rfl
    · rw [done_files]; exact look_set_other _ _ _ _ hk
  split
  · refine op_other fun F => ?_
    rw [done_files]; exact look_set_other _ _ _ _ hk
  split
  · refine op_other fun F => ?_
    split
    · rfl
    · rw [done_files]; exact look_set_other _ _ _ _ hk
  split
  · refine op_other fun F => ?_
    rw [done_files]; exact look_del_other _ _ _ hk
  split
  · unfold spoilD findD
    split
    · rfl
    · simp only
      split
      · rfl
      · exact look_set_other _ _ _ _ hk
  split
  · omega
  split
  · omega
  · rfl
theorem does_other {D : DiskD} (x : StepD) (hx : x.do_ ≤ 5) {m : Key} (hm : m ≠ x.name) : readD (doesD D x).1 m = readD D m := read_of_look (does_look x hx hm)
end Go.Proofs.YtpiaplgbpjgjiaaGreatDoor.Dk
end

/-
  Disks (layer 7): rows of the call's own that grow beside a disk; a disk's calls with what they leave. Conditions: rows are no longer than 2^40.
-/
section
open Go Go.RowKit
namespace Go.Proofs.YtpiaplgbpjgjiaaGreatDoor.Dk
open Base Mp

theorem infoKey : (Tryz.prog.info? 9).map (fun i => (i.zero, i.size, i.bytes)) = some (some (.string ⟨#[]⟩), 1, 16) := by kernel_rfl
/-- Two rows that lie in two blocks. -/
def Apart (v v2 : Value) : Prop := ∀ k, v.ownBlock = some k → v2.ownBlock ≠ some k
theorem Apart.symm {v v2 : Value} (h : Apart v v2) : Apart v2 v := fun k h1 h2 => h k h2 h1
theorem apart_nil (v : Value) : Apart (.slice none 0 0) v := fun q hq => by cases hq
/-- What an append of one element leaves. -/
structure Grew (base : Nat) (e : TypeId) (W : World) (v : Value) (n : Nat) (xs : List Value) (g cap : Nat) (w' : World) : Prop where
  own : w'.ownsRow base e 1 (.slice (some ⟨g, 0, none⟩) n cap) n xs
  kept : Kept (fun i => v.ownBlock = some i) W w'
  blk : v.ownBlock = some g ∨ W.heap.size ≤ g
  lt : g < w'.heap.size
theorem Grew.below {base n g cap : Nat} {e e2 : TypeId} {W w' : World} {v : Value} {xs ys : List Value} {m size : Nat} (h : Grew base e W v n xs g cap w') (ho : W.ownsRow base e2 size v m ys) (hb : base ≤ W.heap.size) : Below base W w' := h.kept.below (fun i hi => (ho.lt i hi).1) hb
theorem Grew.other {base base2 n g cap : Nat} {e e2 : TypeId} {W w' : World} {v v2 : Value} {xs ys : List Value} {m size : Nat} (h : Grew base e W v n xs g cap w') (ho : W.ownsRow base2 e2 size v2 m ys) (ha : Apart v v2) : w'.ownsRow base2 e2 size v2 m ys ∧ Apart (.slice (some ⟨g, 0, none⟩) n cap) v2 := by
  refine ⟨?_, fun k hk hk2 => ?_⟩
  · obtain ⟨hl, ⟨h1, h2⟩ | ⟨g2, cap2, cur, rfl, hg, hb, r⟩⟩ := ho
    · exact ⟨hl, .inl ⟨h1, h2⟩⟩
    · refine ⟨hl, .inr ⟨g2, cap2, cur, rfl, hg, ?_, r⟩⟩
      have hlt : g2 < W.heap.size := by
        rcases Nat.lt_or_ge g2 W.heap.size with h | h
        · exact h
        · rw [Array.getElem?_eq_none h] at hb; cases hb
      rw [h.kept.block g2 hlt (fun e => ha g2 e rfl)]
      exact hb
  · injection hk with hk
    subst hk
    rcases h.blk with h4 | h4
    · exact ha _ h4 hk2
    · have h9 := (ho.lt _ hk2).2
      simp only at h9 h4
      omega
theorem append_one {e ts : TypeId} {zv : Value} {by_ : Nat} (hinfo : (Tryz.prog.info? e).map (fun i => (i.zero, i.size, i.bytes)) = some (some zv, 1, by_)) (hz1 : zv.cells.size = 1) (hby : by_ ≤ 64) (ht : Tryz.prog.underlying ts = some (.slice e))
    (W : World) (base : Nat) (hb : base ≤ W.heap.size) (v : Value) (xs : List Value) (ho : W.ownsRow base e 1 v xs.length xs) (x : Value) (hx : x.oneCell' = true) (hm : xs.length + 1 ≤ 1099511627776) :
    ∃ g cap w', (Builtin.append_ #[ts, ts] ts #[v, .slice (some ⟨W.heap.size, 0, none⟩) 1 1]).run Tryz.prog (W.alloc (.cells #[x] e)) = .ok (.slice (some ⟨g, 0, none⟩) (xs.length + 1) cap) w' ∧ Grew base e W v (xs.length + 1) (xs ++ [x]) g cap w' := by
  obtain ⟨i0, hi, hz0, hz1', hz2⟩ := info_parts hinfo
  have hz := alloc_more W (.cells #[x] e)
  have hc := cells_made W #[x] e
  have hb1 : Below W.heap.size W (W.alloc (.cells #[x] e)) := (Below.refl _ _).alloc (Nat.le_refl _) _
  obtain ⟨g, cap, w', h1, h2, h3, h4, h5⟩ := run_append_lies (P := Tryz.prog) (W.alloc (.cells #[x] e)) ts ts base e i0 _ 1 by_ ht hi hz0 hz1' hz2 hz1 (by decide)
    v xs.length _ (ho.alloc _) ⟨W.heap.size, 0, none⟩ 1 1 [x] rfl (fun j u hj => by
      have hj3 : j < 1 := by
        rcases Nat.lt_or_ge j 1 with h | h
        · exact h
        · rw [List.getElem?_eq_none (by simpa using h)] at hj; cases hj
      obtain rfl : j = 0 := by omega
      rw [show (⟨W.heap.size, 0, none⟩ : Addr).add 0 = ⟨W.heap.size, 0, none⟩ by simp [Addr.add], (hc 0 hj3).1]
      exact hj) (by intro u hu; rw [List.mem_singleton.1 hu]; exact hx) (by decide) (by unfold maxLen; omega) (by
        have : (xs.length + 1) * by_ ≤ 1099511627776 * 64 := Nat.mul_le_mul hm hby
        omega) (by omega) _ rfl
  have h0 : Below 0 (W.alloc (.cells #[x] e)) w' := (Below.refl 0 _).grown h3 (Nat.zero_le _) (fun _ _ => Nat.zero_le _)
  have hk2 : Kept (fun i => v.ownBlock = some i) (W.alloc (.cells #[x] e)) w' := ⟨h0.os, h0.tape, h0.output, h0.size, fun k hk hn => h3.block k hk (fun e => hn e.symm)⟩
  have hlt : g < w'.heap.size := (h2.lt g rfl).2
  refine ⟨g, cap, w', h1, h2, (Kept.of_below (T := fun i => v.ownBlock = some i) hb1).trans hk2 (fun _ h => .inl h), ?_, hlt⟩
  rcases h4 with h4 | h4
  · exact .inl h4
  · right; omega
theorem append_key (W : World) (base : Nat) (hb : base ≤ W.heap.size) (v : Value) (xs : List Value) (ho : W.ownsRow base 9 1 v xs.length xs) (x : Key) (hm : xs.length + 1 ≤ 1099511627776) :
    ∃ g cap w', (Builtin.append_ #[33, 33] 33 #[v, .slice (some ⟨W.heap.size, 0, none⟩) 1 1]).run Tryz.prog (W.alloc (.cells #[.string (B x)] 9)) = .ok (.slice (some ⟨g, 0, none⟩) (xs.length + 1) cap) w' ∧ Grew base 9 W v (xs.length + 1) (xs ++ [.string (B x)]) g cap w' :=
  append_one infoKey rfl (by decide) Tryz.underlying33 W base hb v xs ho _ rfl hm
theorem append_num (W : World) (base : Nat) (hb : base ≤ W.heap.size) (v : Value) (xs : List Value) (ho : W.ownsRow base 3 1 v xs.length xs) (x : Int) (hm : xs.length + 1 ≤ 1099511627776) :
    ∃ g cap w', (Builtin.append_ #[39, 39] 39 #[v, .slice (some ⟨W.heap.size, 0, none⟩) 1 1]).run Tryz.prog (W.alloc (.cells #[.int .i64 x] 3)) = .ok (.slice (some ⟨g, 0, none⟩) (xs.length + 1) cap) w' ∧ Grew base 3 W v (xs.length + 1) (xs ++ [.int .i64 x]) g cap w' :=
  append_one infoInt rfl (by decide) Tryz.underlying39 W base hb v xs ho _ rfl hm
/-- A disk's call in a later world, with what it leaves. -/
theorem DW.op2 {w0 w1 w2 : World} {b : Nat} {D : DiskD} {P : Program} {f : FuncId} {args : Array Value} {r : DiskD × Int} (h : DW w0 w1 b D) (hk : Below w1.heap.size w1 w2) (c : ∀ T, (∀ i, T i → i < w1.heap.size) → DiskAt w2 b D T → Calls P f args w2 (OpPost w2 b T r)) :
    Calls P f args w2 fun e w' => e = .returned (.int .i64 r.2) ∧ DW w0 w' b r.1 ∧ Kept (fun i => w0.heap.size ≤ i ∧ i < w1.heap.size) w2 w' := by
  obtain ⟨hb, T, hd, hT⟩ := h
  have hold : ∀ i, T i → i < w1.heap.size := fun i hi => by
    obtain ⟨tag, blk, bm, hdd⟩ := hd
    exact hdd.old i hi
  refine (c T hold (hd.next (Kept.of_below hk))).mono ?_
  rintro e w' ⟨he, h1, h2⟩
  have hb2 := hb.trans (hk.mono hb.size)
  refine ⟨he, ⟨hb2.trans (h2.below hT hb2.size), _, h1, fun i hi => ?_⟩, h2.mono fun i hi => ⟨hT i hi, hold i hi⟩⟩
  rcases hi with hi | hi
  · exact hT i hi
  · exact Nat.le_trans hb2.size hi.1
theorem DW.crash2 {w0 w1 w2 : World} {b : Nat} {D : DiskD} (h : DW w0 w1 b D) (hk : Below w1.heap.size w1 w2) (p : Option Addr) (keep : List Int) (cap : Nat) (hI : IntsAt w2 p keep) (hi : IntsIn keep) (hc : keep.length ≤ cap) (hm : cap ≤ 9223372036854775807) (hp : ∀ a, p = some a → w1.heap.size ≤ a.block) :
    Calls Tryz.prog 22 #[.pointer (some ⟨b, 0, none⟩), .slice p keep.length cap] w2 fun e w' => e = .returned (.int .i64 0) ∧ DW w0 w' b (crashD D keep) ∧ Kept (fun i => w0.heap.size ≤ i ∧ i < w1.heap.size) w2 w' :=
  h.op2 hk (r := (crashD D keep, 0)) fun T hT hd => Crash_f hd p keep cap hI hi hc hm (fun a ha ht => by have h1 := hp a ha; have h2 := hT _ ht; omega)
theorem rLoose {w0 w : World} {b : Nat} {D : DiskD} (h : DW w0 w b D) (n : Key) (hn : n.length ≤ maxLen) : Calls Tryz.prog 27 #[.pointer (some ⟨b, 0, none⟩), .string (B n)] w fun e w' => e = .returned (.int .i64 (looseD D n : Nat)) ∧ ∃ m, w' = w.drewN m := by
  obtain ⟨hb, T, hd, hT⟩ := h
  exact Loose_f hd n hn
theorem sNames {w0 w : World} {b : Nat} {D : DiskD} (h : DW w0 w b D) : Calls Tryz.prog 46 #[.pointer (some ⟨b, 0, none⟩)] w fun e w' => ∃ p cap, e = .returned (.slice p (namesD D).length cap) ∧ (∀ j (hj : j < (namesD D).length), ∃ g, p = some ⟨g, 0, none⟩ ∧ w.heap.size ≤ g ∧ g < w'.heap.size ∧ w'.cell? ⟨g, j, none⟩ = some (.string (B (namesD D)[j]))) ∧ Below w.heap.size w w' := by
  obtain ⟨hb, T, hd, hT⟩ := h
  refine (Names_f hd).mono ?_
  rintro e w' ⟨v, he, hr, hk⟩
  obtain ⟨p, cap, rfl, hq⟩ := names_form hr
  exact ⟨p, cap, he, hq, hk⟩
/-- The cells of a row. -/
theorem own_cells {w : World} {base : Nat} {e : TypeId} {v : Value} {n : Nat} {xs : List Value} (h : w.ownsRow base e 1 v n xs) : ∃ p cap, v = .slice p n cap ∧ xs.length = n ∧ ∀ j (hj : j < xs.length), ∃ g, p = some ⟨g, 0, none⟩ ∧ base ≤ g ∧ g < w.heap.size ∧ w.cell? ⟨g, j, none⟩ = some xs[j] := by
  have hl : xs.length = n := by have := h.1; omega
  rcases h.2 with ⟨rfl, rfl⟩ | ⟨g, cap, cur, rfl, hg, hh, hnc, hcm, _, _⟩
  · have : xs = [] := List.length_eq_zero_iff.1 hl
    subst this
    exact ⟨none, 0, rfl, rfl, fun j hj => by simp at hj⟩
  · refine ⟨some ⟨g, 0, none⟩, cap, rfl, hl, fun j hj => ⟨g, rfl, hg, ?_, ?_⟩⟩
    · rcases Nat.lt_or_ge g w.heap.size with hlt | hge
      · exact hlt
      · rw [Array.getElem?_eq_none hge] at hh; cases hh
    · rw [h.cellAt j (by omega), List.getElem?_eq_getElem hj]
theorem cell_kept {T : Nat → Prop} {w w' : World} {g j : Nat} {v : Value} (h : w.cell? ⟨g, j, none⟩ = some v) (hk : Kept T w w') (hT : ¬ T g) : w'.cell? ⟨g, j, none⟩ = some v :=
  (World.cell?_of_block (a := ⟨g, j, none⟩) (hk.block g (lt_of_cell h) hT)).trans h
end Go.Proofs.YtpiaplgbpjgjiaaGreatDoor.Dk
end
