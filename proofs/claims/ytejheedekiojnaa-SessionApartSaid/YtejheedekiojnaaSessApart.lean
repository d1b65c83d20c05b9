/-
  The walk of SessionApart (layer 28).
-/
import Derived.Test.YtejheedekiojnaaSessBounds
open Go Go.RowKit
namespace Go.Proofs.Ytejheedekiojnaa.Sess
open Base Mp

/-! ### Plain: one sender's part of a session -/
def proj (S : St) : St := match lookL S (keyS [97]) with
  | none => []
  | some H => [(keyS [97], H)]
theorem proj_look (S : St) : lookL (proj S) (keyS [97]) = lookL S (keyS [97]) := by
  unfold proj
  cases h : lookL S (keyS [97]) with
  | none => rfl
  | some H => exact look_one _ _
theorem proj_some {S : St} {H : Held} (h : lookL S (keyS [97]) = some H) : proj S = [(keyS [97], H)] := by unfold proj; rw [h]
theorem proj_none {S : St} (h : lookL S (keyS [97]) = none) : proj S = [] := by unfold proj; rw [h]
theorem proj_congr {S S' : St} (h : lookL S' (keyS [97]) = lookL S (keyS [97])) : proj S' = proj S := by unfold proj; rw [h]
theorem isKey (f : List UInt8) : WideAt.IsKeyLit (keyS f) := by trivial
theorem more_proj (X : St) (h : Held) (p : PartD) (hl : lookL X (keyS [97]) = some h) :
    (more X [97] h p).2 = (more [(keyS [97], h)] [97] h p).2 ∧ (more [(keyS [97], h)] [97] h p).1 = proj (more X [97] h p).1 := by
  unfold more
  split
  · exact ⟨rfl, (proj_some hl).symm⟩
  · split
    · exact ⟨rfl, (proj_some hl).symm⟩
    · split
      · exact ⟨rfl, by rw [set_one]; exact (proj_some (look_set_same _ _ _ _ hl)).symm⟩
      · exact ⟨rfl, by rw [del_one]; exact (proj_none (look_del_same _ _)).symm⟩
theorem begin_proj (S : St) (p : PartD) (hs : S.length < 32) : (begin_ S [97] p).2 = (begin_ [] [97] p).2 ∧ (begin_ [] [97] p).1 = proj (begin_ S [97] p).1 := by
  unfold begin_
  rw [if_neg (by omega), if_neg (by simp), put_nil]
  exact more_proj _ _ p (look_put_same _ _ (isKey _) _)
theorem sput_proj (S : St) (p : PartD) (hs : S.length < 32) : (sput S [97] p).2 = (sput (proj S) [97] p).2 ∧ (sput (proj S) [97] p).1 = proj (sput S [97] p).1 := by
  unfold sput
  rw [proj_look]
  split
  · exact ⟨rfl, rfl⟩
  · cases hl : lookL S (keyS [97]) with
    | none =>
      simp only
      rw [proj_none hl]
      exact begin_proj S p hs
    | some h =>
      simp only
      rw [proj_some hl, del_one]
      split
      · exact ⟨rfl, (proj_some hl).symm⟩
      · split
        · exact begin_proj _ p (by have := del_le S (keyS [97]); omega)
        · exact more_proj S h p hl
theorem more_other (S : St) (f : List UInt8) (h : Held) (p : PartD) (q : Lit) (hq : q ≠ keyS f) : lookL (more S f h p).1 q = lookL S q := by
  unfold more
  split
  · rfl
  · split
    · rfl
    · split
      · exact look_set_other _ _ _ _ hq
      · exact look_del_other _ _ _ hq
theorem begin_other (S : St) (f : List UInt8) (p : PartD) (q : Lit) (hq : q ≠ keyS f) : lookL (begin_ S f p).1 q = lookL S q := by
  unfold begin_
  split
  · rfl
  · rw [more_other _ _ _ _ _ hq, look_put_other _ _ _ hq]
theorem sput_other (S : St) (f : List UInt8) (p : PartD) (q : Lit) (hq : q ≠ keyS f) : lookL (sput S f p).1 q = lookL S q := by
  unfold sput
  split
  · rfl
  · split
    · exact begin_other _ _ _ _ hq
    · split
      · rfl
      · split
        · rw [begin_other _ _ _ _ hq, look_del_other _ _ _ hq]
        · exact more_other _ _ _ _ _ hq
theorem proj_put_b (S : St) (p : PartD) : proj (sput S [98] p).1 = proj S := proj_congr (sput_other _ _ _ _ (by simp [keyS]))
theorem proj_del_a (S : St) : delL (proj S) (keyS [97]) = proj (delL S (keyS [97])) := by
  rw [proj_none (look_del_same _ _)]
  unfold proj
  split
  · rfl
  · exact del_one _ _
theorem proj_del_b (S : St) : proj (delL S (keyS [98])) = proj S := proj_congr (look_del_other _ _ _ (by simp [keyS]))
/-- Just the senders a and b. -/
def Pair (S : St) : Prop := ∀ q ∈ S, q.1 = keyS [97] ∨ q.1 = keyS [98]
theorem Pair.put {S : St} (h : Pair S) (f : List UInt8) (p : PartD) (hf : f = [97] ∨ f = [98]) : Pair (sput S f p).1 := by
  intro q hq
  rcases sput_keys _ _ _ _ hq with e | ⟨r, hr, e⟩
  · rcases hf with rfl | rfl
    · exact .inl e
    · exact .inr e
  · rw [← e]; exact h r hr
theorem Pair.del {S : St} (h : Pair S) (k : Lit) : Pair (delL S k) := fun q hq => h q (mem_del hq).1
theorem Pair.length {S : St} (h : Pair S) (hn : S.Pairwise fun p q => p.1 ≠ q.1) : S.length ≤ 2 := by
  match S, h, hn with
  | [], _, _ => simp
  | [_], _, _ => simp
  | [_, _], _, _ => simp
  | a :: b :: c :: r, h, hn =>
    exfalso
    have ha := h a (by simp)
    have hb := h b (by simp)
    have hc := h c (by simp)
    simp only [List.pairwise_cons] at hn
    have hab := hn.1 b (by simp)
    have hac := hn.1 c (by simp)
    have hbc := hn.2.1 c (by simp)
    rcases ha with ha | ha <;> rcases hb with hb | hb <;> rcases hc with hc | hc <;> simp_all
theorem held_mem (S : St) (q : Lit × Held) (hq : q ∈ S) : bytes q.2 ≤ heldS S := by
  induction S with
  | nil => simp at hq
  | cons a r ih =>
    have e : heldS (a :: r) = bytes a.2 + heldS r := rfl
    rcases List.mem_cons.1 hq with rfl | h
    · omega
    · have := ih h; omega
theorem proj_held (S : St) : heldS (proj S) ≤ heldS S := by
  unfold proj
  split
  · exact Nat.zero_le _
  · rename_i H h
    have := held_mem S _ (mem_of_look h)
    show bytes H + 0 ≤ _
    simpa using this
theorem proj_length (S : St) : (proj S).length ≤ 1 := by
  unfold proj
  split <;> simp

/-! ### Two sessions, apart in memory -/
structure DuoBy (T1 T2 : Nat → Prop) (w : World) (m b1 b2 : Nat) (S U : St) : Prop where
  one : SessAt w b1 S T1
  two : SessAt w b2 U T2
  off : ∀ i, T1 i → ¬ T2 i
  up1 : ∀ i, T1 i → m ≤ i
  up2 : ∀ i, T2 i → m ≤ i
theorem SessAt.old {w : World} {b : Nat} {S : St} {T : Nat → Prop} (h : SessAt w b S T) : ∀ i, T i → i < w.heap.size := by
  obtain ⟨blk, hs⟩ := h
  exact hs.old
theorem SessAt.mine {w : World} {b : Nat} {S : St} {T : Nat → Prop} (h : SessAt w b S T) : T b := by
  obtain ⟨blk, hs⟩ := h
  exact hs.mine0
theorem SessAt.kept {w w' : World} {b : Nat} {S : St} {T T' : Nat → Prop} (h : SessAt w b S T) (hk : Kept T' w w') (hT : ∀ i, T i → ¬ T' i) : SessAt w' b S T := by
  obtain ⟨blk, hs⟩ := h
  exact ⟨blk, hs.next (hk.mono fun i h1 h2 => hT i h2 h1) (fun _ h => h) (fun i hi => Nat.lt_of_lt_of_le (hs.old i hi) hk.size)⟩
theorem DuoBy.later {T1 T2 : Nat → Prop} {w w' : World} {m b1 b2 : Nat} {S U : St} (h : DuoBy T1 T2 w m b1 b2 S U) (hb : Below w.heap.size w w') : DuoBy T1 T2 w' m b1 b2 S U :=
  ⟨h.one.kept (Kept.of_below (T := fun _ => False) hb) (fun _ _ h => h), h.two.kept (Kept.of_below (T := fun _ => False) hb) (fun _ _ h => h), h.off, h.up1, h.up2⟩
theorem DuoBy.low {T1 T2 : Nat → Prop} {w : World} {m b1 b2 : Nat} {S U : St} (h : DuoBy T1 T2 w m b1 b2 S U) : m ≤ w.heap.size := Nat.le_of_lt (Nat.lt_of_le_of_lt (h.up1 _ h.one.mine) (h.one.old _ h.one.mine))
theorem StepAt.kept {T : Nat → Prop} {w w' : World} {b o : Nat} {s : StepD} (h : StepAt w b o s) (hk : Kept T w w') (hT : ¬ T b) : StepAt w' b o s := by
  have hlt := lt_of_cell h.c0
  have key : ∀ j v, w.cell? ⟨b, j, none⟩ = some v → w'.cell? ⟨b, j, none⟩ = some v := fun j v hc => (World.cell?_of_block (a := ⟨b, j, none⟩) (hk.block b hlt hT)).trans hc
  exact ⟨key _ _ h.c0, key _ _ h.c1, key _ _ h.c2, key _ _ h.c3, key _ _ h.c4, key _ _ h.c5⟩
/-- Two sessions, and a step in a block of neither. -/
def DuoX (w : World) (m b1 b2 : Nat) (S U : St) (x : Nat) (s : StepD) : Prop := ∃ T1 T2, DuoBy T1 T2 w m b1 b2 S U ∧ ¬ T1 x ∧ ¬ T2 x ∧ StepAt w x 0 s
def Duo (w : World) (m b1 b2 : Nat) (S U : St) : Prop := ∃ T1 T2, DuoBy T1 T2 w m b1 b2 S U
theorem DuoX.duo {w : World} {m b1 b2 : Nat} {S U : St} {x : Nat} {s : StepD} (h : DuoX w m b1 b2 S U x s) : Duo w m b1 b2 S U := by
  obtain ⟨T1, T2, h, _⟩ := h
  exact ⟨T1, T2, h⟩
theorem DuoX.step {w : World} {m b1 b2 : Nat} {S U : St} {x : Nat} {s : StepD} (h : DuoX w m b1 b2 S U x s) : StepAt w x 0 s := by
  obtain ⟨T1, T2, _, _, _, h⟩ := h
  exact h
theorem DuoX.later {w w' : World} {m b1 b2 : Nat} {S U : St} {x : Nat} {s : StepD} (h : DuoX w m b1 b2 S U x s) (hb : Below w.heap.size w w') : DuoX w' m b1 b2 S U x s := by
  obtain ⟨T1, T2, h, h1, h2, h3⟩ := h
  exact ⟨T1, T2, h.later hb, h1, h2, h3.below hb⟩
theorem Duo.later {w w' : World} {m b1 b2 : Nat} {S U : St} (h : Duo w m b1 b2 S U) (hb : Below w.heap.size w w') : Duo w' m b1 b2 S U := by
  obtain ⟨T1, T2, h⟩ := h
  exact ⟨T1, T2, h.later hb⟩
theorem Duo.withStep {w w' : World} {m b1 b2 : Nat} {S U : St} {s : StepD} (h : Duo w m b1 b2 S U) (hb : Below w.heap.size w w') (hs : StepAt w' w.heap.size 0 s) : DuoX w' m b1 b2 S U w.heap.size s := by
  obtain ⟨T1, T2, h⟩ := h
  exact ⟨T1, T2, h.later hb, fun ht => Nat.lt_irrefl _ (h.one.old _ ht), fun ht => Nat.lt_irrefl _ (h.two.old _ ht), hs⟩
theorem Duo.low {w : World} {m b1 b2 : Nat} {S U : St} (h : Duo w m b1 b2 S U) : m ≤ w.heap.size := by
  obtain ⟨T1, T2, h⟩ := h
  exact h.low
theorem Duo.lens {w : World} {m b1 b2 : Nat} {S U : St} (h : Duo w m b1 b2 S U) (hp : Pair S) : S.length ≤ 2 := by
  obtain ⟨T1, T2, h⟩ := h
  obtain ⟨blk, hs⟩ := h.one
  exact hp.length hs.keys
theorem DuoX.put1 (w : World) (m b1 b2 : Nat) (S U : St) (x : Nat) (s : StepD) (h : DuoX w m b1 b2 S U x s) (hk : StepOk s) :
    Calls Try.prog 11 #[ptr (b1 + 1), .string (B s.who), partV s.p] w fun e w' => e = .returned (putV (sput S s.who s.p)) ∧ DuoX w' m b1 b2 (sput S s.who s.p).1 U x s ∧ Below m w w' := by
  obtain ⟨T1, T2, h, hx1, hx2, hs⟩ := h
  refine (Put_calls w b1 S T1 s.who s.p h.one hk.who ⟨hk.i1, hk.i2⟩ ⟨hk.n1, hk.n2⟩ hk.text).mono ?_
  rintro e w' ⟨he, h1, hkept⟩
  have hxl := lt_of_cell hs.c0
  refine ⟨he, ⟨_, T2, ⟨h1, h.two.kept hkept (fun i h2 h1 => h.off i h1 h2), fun i hi h2 => ?_, fun i hi => ?_, h.up2⟩, ?_, hx2, hs.kept hkept hx1⟩, hkept.below h.up1 h.low⟩
  · rcases hi with hi | hi
    · exact h.off i hi h2
    · have := h.two.old i h2; omega
  · rcases hi with hi | hi
    · exact h.up1 i hi
    · have := h.low; omega
  · rintro (hi | hi)
    · exact hx1 hi
    · have hxl' : x < w.heap.size := hxl
      omega
theorem DuoX.put2 (w : World) (m b1 b2 : Nat) (S U : St) (x : Nat) (s : StepD) (h : DuoX w m b1 b2 S U x s) (hk : StepOk s) :
    Calls Try.prog 11 #[ptr (b2 + 1), .string (B s.who), partV s.p] w fun e w' => e = .returned (putV (sput U s.who s.p)) ∧ DuoX w' m b1 b2 S (sput U s.who s.p).1 x s ∧ Below m w w' := by
  obtain ⟨T1, T2, h, hx1, hx2, hs⟩ := h
  refine (Put_calls w b2 U T2 s.who s.p h.two hk.who ⟨hk.i1, hk.i2⟩ ⟨hk.n1, hk.n2⟩ hk.text).mono ?_
  rintro e w' ⟨he, h1, hkept⟩
  have hxl := lt_of_cell hs.c0
  refine ⟨he, ⟨T1, _, ⟨h.one.kept hkept (fun i h1 h2 => h.off i h1 h2), h1, fun i hi h2 => ?_, h.up1, fun i hi => ?_⟩, hx1, ?_, hs.kept hkept hx2⟩, hkept.below h.up2 h.low⟩
  · rcases h2 with h2 | h2
    · exact h.off i hi h2
    · have := h.one.old i hi; omega
  · rcases hi with hi | hi
    · exact h.up2 i hi
    · have := h.low; omega
  · rintro (hi | hi)
    · exact hx2 hi
    · have hxl' : x < w.heap.size := hxl
      omega
theorem DuoX.drop1 (w : World) (m b1 b2 : Nat) (S U : St) (x : Nat) (s : StepD) (c : Nat) (h : DuoX w m b1 b2 S U x s) (hf : s.who.length ≤ maxLen) (hc : w.cell? ⟨c, 0, none⟩ = some (.string (B s.who))) :
    Calls Try.prog 15 #[ptr (b1 + 1), .slice (some ⟨c, 0, none⟩) 1 1] w fun e w' => e = .returned (.tuple #[]) ∧ DuoX w' m b1 b2 (delL S (keyS s.who)) U x s ∧ Below m w w' := by
  obtain ⟨T1, T2, h, hx1, hx2, hs⟩ := h
  refine (Drop_calls w b1 S T1 s.who c 0 1 h.one hf hc).mono ?_
  rintro e w' ⟨he, h1, hkept⟩
  exact ⟨he, ⟨T1, T2, ⟨h1, h.two.kept hkept (fun i h2 h1 => h.off i h1 h2), h.off, h.up1, h.up2⟩, hx1, hx2, hs.kept hkept hx1⟩, hkept.below h.up1 h.low⟩
theorem DuoX.drop2 (w : World) (m b1 b2 : Nat) (S U : St) (x : Nat) (s : StepD) (c : Nat) (h : DuoX w m b1 b2 S U x s) (hf : s.who.length ≤ maxLen) (hc : w.cell? ⟨c, 0, none⟩ = some (.string (B s.who))) :
    Calls Try.prog 15 #[ptr (b2 + 1), .slice (some ⟨c, 0, none⟩) 1 1] w fun e w' => e = .returned (.tuple #[]) ∧ DuoX w' m b1 b2 S (delL U (keyS s.who)) x s ∧ Below m w w' := by
  obtain ⟨T1, T2, h, hx1, hx2, hs⟩ := h
  refine (Drop_calls w b2 U T2 s.who c 0 1 h.two hf hc).mono ?_
  rintro e w' ⟨he, h1, hkept⟩
  exact ⟨he, ⟨T1, T2, ⟨h.one.kept hkept (fun i h1 h2 => h.off i h1 h2), h1, h.off, h.up1, h.up2⟩, hx1, hx2, hs.kept hkept hx2⟩, hkept.below h.up2 h.low⟩
theorem Duo.len1 (w : World) (m b1 b2 : Nat) (S U : St) (h : Duo w m b1 b2 S U) : Calls Try.prog 12 #[ptr (b1 + 1)] w fun e w' => e = .returned (.int .i64 (S.length : Nat)) ∧ w = w' := by
  obtain ⟨T1, T2, h⟩ := h
  exact Len_calls w b1 S _ h.one
theorem Duo.len2 (w : World) (m b1 b2 : Nat) (S U : St) (h : Duo w m b1 b2 S U) : Calls Try.prog 12 #[ptr (b2 + 1)] w fun e w' => e = .returned (.int .i64 (U.length : Nat)) ∧ w = w' := by
  obtain ⟨T1, T2, h⟩ := h
  exact Len_calls w b2 U _ h.two
theorem Duo.held1 (w : World) (m b1 b2 : Nat) (S U : St) (h : Duo w m b1 b2 S U) : Calls Try.prog 13 #[ptr (b1 + 1)] w fun e w' => e = .returned (.int .i64 (heldS S : Nat)) ∧ Duo w' m b1 b2 S U ∧ Below w.heap.size w w' := by
  have h' := h
  obtain ⟨T1, T2, h⟩ := h
  exact (Held_calls w b1 S _ h.one).mono fun _ _ ⟨he, hb⟩ => ⟨he, h'.later hb, hb⟩
theorem Duo.held2 (w : World) (m b1 b2 : Nat) (S U : St) (h : Duo w m b1 b2 S U) : Calls Try.prog 13 #[ptr (b2 + 1)] w fun e w' => e = .returned (.int .i64 (heldS U : Nat)) ∧ Duo w' m b1 b2 S U ∧ Below w.heap.size w w' := by
  have h' := h
  obtain ⟨T1, T2, h⟩ := h
  exact (Held_calls w b2 U _ h.two).mono fun _ _ ⟨he, hb⟩ => ⟨he, h'.later hb, hb⟩
theorem Duo.made {w w' : World} {b : Nat} (h1 : SessAt w b [] (fun i => b ≤ i ∧ i < w.heap.size)) (h2 : SessAt w' w.heap.size [] (fun i => w.heap.size ≤ i ∧ i < w'.heap.size)) (hb : Below w.heap.size w w') : Duo w' b b w.heap.size [] [] := by
  have hbw : b < w.heap.size := (h1.mine).2
  exact ⟨_, _, h1.kept (Kept.of_below (T := fun _ => False) hb) (fun _ _ h => h), h2, fun i hi h2 => by omega, fun i hi => hi.1, fun i hi => by omega⟩

theorem StepAt.cells {w : World} {x : Nat} {s : StepD} (h : StepAt w x 0 s) : w.cell? ⟨x, 0, none⟩ = some (.string (B s.who)) ∧ w.cell? ⟨x, 1, none⟩ = some (.bool s.gone) ∧ w.cell? ⟨x, 2, none⟩ = some (.int .u64 (s.p.id : Int)) ∧
    w.cell? ⟨x, 3, none⟩ = some (.int .i64 s.p.i) ∧ w.cell? ⟨x, 4, none⟩ = some (.int .i64 s.p.n) ∧ w.cell? ⟨x, 5, none⟩ = some (.string (B s.p.text)) := ⟨h.c0, h.c1, h.c2, h.c3, h.c4, h.c5⟩
theorem step_made (w : World) (s : StepD) : StepAt (w.alloc (.cells #[.string (B s.who), .bool s.gone, .int .u64 (s.p.id : Int), .int .i64 s.p.i, .int .i64 s.p.n, .string (B s.p.text)] 35)) w.heap.size 0 s := by
  have h := cells_made w #[.string (B s.who), .bool s.gone, .int .u64 (s.p.id : Int), .int .i64 s.p.i, .int .i64 s.p.n, .string (B s.p.text)] 35
  exact ⟨(h 0 (by simp)).1, (h 1 (by simp)).1, (h 2 (by simp)).1, (h 3 (by simp)).1, (h 4 (by simp)).1, (h 5 (by simp)).1⟩

set_option maxHeartbeats 20000000 in
set_option maxRecDepth 100000 in
theorem SessionApart_calls (p : Option Addr) (l : List StepD) (cap : Nat) (w : World) (hl : l.length ≤ maxLen) (h : StepsArg w p l) :
    Calls Try.prog 6 #[.slice p l.length cap] w fun e w' => e = .returned (.bool true) ∧ Below w.heap.size w w' := by
  have HW := Lib.hid works_calls
  have HH := Lib.hid (heavy_calls p l cap w hl h)
  unfold maxLen at hl
  go_enter Try.func6, Try.ntmps6
  go_wp2_with fail
  refine HH.out.mono ?_
  clear HH
  rintro e w1 ⟨⟨v, rfl⟩, hb⟩
  have h1 := h.below hb
  have HB1 := Lib.hid hb
  clear hb h
  cases v with
  | true =>
    go_wp2_with fail
    refine (HW.out w1).mono ?_
    rintro e w2 ⟨rfl, hb⟩
    have HB2 := Lib.hid (later HB1.out hb)
    clear hb
    go_wp2
    go_ret
    exact ⟨rfl, HB2.out⟩
  | false =>
  go_wp2_with fail
  refine (New_calls w1).mono ?_
  rintro e w2 ⟨rfl, hs2, hbe⟩
  have HS2 := Lib.hid hs2
  have HB2 := Lib.hid hbe
  clear hs2 hbe
  go_wp2_with fail
  refine (New_calls w2).mono ?_
  rintro e w3 ⟨rfl, hs3, hbe⟩
  have hfar : ∀ wr, Below w1.heap.size w1 wr → Below w.heap.size w wr ∧ StepsArg wr p l := fun wr h => ⟨later HB1.out h, h1.below h⟩
  have HFAR := Lib.hid hfar
  have HD3 := Lib.hid (Duo.made HS2.out hs3 hbe)
  have HB3 := Lib.hid (later HB2.out hbe)
  clear hfar hs3 hbe h1 HB1 HS2 HB2
  generalize w1.heap.size = m at *
  generalize w2.heap.size = m2 at *
  clear w2
  have HP1 := Lib.hid (fun w S U x s h hk => DuoX.put1 w m m m2 S U x s h hk)
  have HP2 := Lib.hid (fun w S U x s h hk => DuoX.put2 w m m m2 S U x s h hk)
  have HR1 := Lib.hid (fun w S U x s c h hk hc => DuoX.drop1 w m m m2 S U x s c h hk hc)
  have HR2 := Lib.hid (fun w S U x s c h hk hc => DuoX.drop2 w m m m2 S U x s c h hk hc)
  have HL1 := Lib.hid (fun w S U h => Duo.len1 w m m m2 S U h)
  have HL2 := Lib.hid (fun w S U h => Duo.len2 w m m m2 S U h)
  have HE1 := Lib.hid (fun w S U h => Duo.held1 w m m m2 S U h)
  have HE2 := Lib.hid (fun w S U h => Duo.held2 w m m m2 S U h)
  unfold ptr at *
  go_wp2
  go_loopw [5] (fun v wr => ∃ (k : Nat) (S : St), v = .int .i64 k ∧ k ≤ l.length ∧ Duo wr m m m2 S (proj S) ∧ Pair S ∧ Below m w1 wr) (fun v _ => l.length - (intOf v).toNat)
  case atStart => exact ⟨0, [], rfl, Nat.zero_le _, HD3.out, fun q hq => by simp at hq, HB3.out⟩
  case round =>
    obtain ⟨k, S, rfl, hk, hs, ha, hbe⟩ := hrel
    have HS := Lib.hid hs
    have HA := Lib.hid ha
    have HB := Lib.hid hbe
    clear hs ha hbe
    obtain ⟨hb0, hsteps⟩ := HFAR.out _ HB.out
    have HBW := Lib.hid hb0
    have HST := Lib.hid hsteps
    clear hb0 hsteps
    by_cases hlt : k < l.length
    · obtain ⟨b, o, rfl, hs, hok⟩ := HST.out k hlt
      obtain ⟨c0, c1, c2, c3, c4, c5⟩ := hs
      have t1 : (k : Int) < (l.length : Int) := by omega
      have HKK := Lib.hid hok
      clear hok
      generalize l[k] = x at *
      have hmade := step_made wr x
      have hba : Below wr.heap.size wr (wr.alloc (.cells #[.string (B x.who), .bool x.gone, .int .u64 (x.p.id : Int), .int .i64 x.p.i, .int .i64 x.p.n, .string (B x.p.text)] 35)) := (Below.refl _ _).alloc (Nat.le_refl _) _
      have HX := Lib.hid (HS.out.withStep hba hmade)
      have HBA := Lib.hid (HB.out.trans (hba.mono HS.out.low))
      clear hmade hba
      have HW1 := Lib.hid HKK.out.who
      obtain ⟨who, gone, ⟨pid, pi, pn, pt⟩⟩ := x
      simp only at c0 c1 c2 c3 c4 c5 HX HBA HW1
      by_cases hab : who = [97] ∨ who = [98]
      · have hlen1 : who.length = 1 := by rcases hab with rfl | rfl <;> rfl
        cases gone with
        | true =>
          rcases hab with rfl | rfl
          · have hba2 : Below (wr.alloc (.cells #[.string (B [97]), .bool true, .int .u64 (pid : Int), .int .i64 pi, .int .i64 pn, .string (B pt)] 35)).heap.size (wr.alloc (.cells #[.string (B [97]), .bool true, .int .u64 (pid : Int), .int .i64 pi, .int .i64 pn, .string (B pt)] 35)) ((wr.alloc (.cells #[.string (B [97]), .bool true, .int .u64 (pid : Int), .int .i64 pi, .int .i64 pn, .string (B pt)] 35)).alloc (.cells #[.string (B [97])] 9)) := (Below.refl _ _).alloc (Nat.le_refl _) _
            have hc6 := (cells_made (wr.alloc (.cells #[.string (B [97]), .bool true, .int .u64 (pid : Int), .int .i64 pi, .int .i64 pn, .string (B pt)] 35)) #[.string (B [97])] 9 0 (by simp)).1
            have hc7 := HX.out.later hba2
            have HB7 := Lib.hid (HBA.out.trans (hba2.mono HX.out.duo.low))
            rw [alloc_more wr] at hc6
            have H1 := Lib.hid (HR1.out _ _ _ _ _ _ hc7 HW1.out hc6)
            have HA2 := Lib.hid (HA.out.del (keyS [97]))
            have HPR := Lib.hid (proj_del_a S)
            clear hba2 hc6 hc7 HX HBA hlen1
            go_wp2_with fail
            refine H1.out.mono ?_
            clear H1 c0 c1 c2 c3 c4 c5
            rintro e w5 ⟨rfl, hx, hbe⟩
            obtain ⟨c0, c1, c2, c3, c4, c5⟩ := hx.step.cells
            simp only at c0 c1 c2 c3 c4 c5
            have HB5 := Lib.hid (HB7.out.trans hbe)
            have hba2 : Below w5.heap.size w5 (w5.alloc (.cells #[.string (B [97])] 9)) := (Below.refl _ _).alloc (Nat.le_refl _) _
            have hc6 := (cells_made w5 #[.string (B [97])] 9 0 (by simp)).1
            have hc7 := hx.later hba2
            have HB8 := Lib.hid (HB5.out.trans (hba2.mono hx.duo.low))
            have H2 := Lib.hid (HR2.out _ _ _ _ _ _ hc7 HW1.out hc6)
            clear hx hbe hba2 hc6 hc7 HB7
            go_wp2_with fail
            refine H2.out.mono ?_
            clear H2 c0 c1 c2 c3 c4 c5
            rintro e w6 ⟨rfl, hx, hbe⟩
            have HB6 := Lib.hid (HB8.out.trans hbe)
            have hd := hx.duo
            try simp only at hd
            rw [HPR.out] at hd
            have HD6 := Lib.hid hd
            clear hx hbe hd HPR HKK HW1
            go_wp2
            exact ⟨⟨k + 1, _, by go_num, by omega, HD6.out, HA2.out, HB6.out⟩, by simp [intOf]; omega⟩
          · have hba2 : Below (wr.alloc (.cells #[.string (B [98]), .bool true, .int .u64 (pid : Int), .int .i64 pi, .int .i64 pn, .string (B pt)] 35)).heap.size (wr.alloc (.cells #[.string (B [98]), .bool true, .int .u64 (pid : Int), .int .i64 pi, .int .i64 pn, .string (B pt)] 35)) ((wr.alloc (.cells #[.string (B [98]), .bool true, .int .u64 (pid : Int), .int .i64 pi, .int .i64 pn, .string (B pt)] 35)).alloc (.cells #[.string (B [98])] 9)) := (Below.refl _ _).alloc (Nat.le_refl _) _
            have hc6 := (cells_made (wr.alloc (.cells #[.string (B [98]), .bool true, .int .u64 (pid : Int), .int .i64 pi, .int .i64 pn, .string (B pt)] 35)) #[.string (B [98])] 9 0 (by simp)).1
            have hc7 := HX.out.later hba2
            have HB7 := Lib.hid (HBA.out.trans (hba2.mono HX.out.duo.low))
            rw [alloc_more wr] at hc6
            have H1 := Lib.hid (HR1.out _ _ _ _ _ _ hc7 HW1.out hc6)
            have HA2 := Lib.hid (HA.out.del (keyS [98]))
            have HPR := Lib.hid (proj_del_b S)
            clear hba2 hc6 hc7 HX HBA hlen1
            go_wp2_with fail
            refine H1.out.mono ?_
            clear H1 c0 c1 c2 c3 c4 c5
            rintro e w5 ⟨rfl, hx, hbe⟩
            obtain ⟨c0, c1, c2, c3, c4, c5⟩ := hx.step.cells
            simp only at c0 c1 c2 c3 c4 c5
            have HB5 := Lib.hid (HB7.out.trans hbe)
            have hd := hx.duo
            try simp only at hd
            rw [← HPR.out] at hd
            have HD6 := Lib.hid hd
            clear hx hbe hd HPR HKK HW1
            go_wp2
            exact ⟨⟨k + 1, _, by go_num, by omega, HD6.out, HA2.out, HB5.out⟩, by simp [intOf]; omega⟩
        | false =>
          rcases hab with rfl | rfl
          · have H1 := Lib.hid (HP1.out _ _ _ _ _ HX.out HKK.out)
            have HPR := Lib.hid (sput_proj S ⟨pid, pi, pn, pt⟩ (by have := HS.out.lens HA.out; omega))
            have HA2 := Lib.hid (HA.out.put [97] ⟨pid, pi, pn, pt⟩ (.inl rfl))
            unfold partV at H1
            simp only at H1
            clear hlen1
            go_wp2_with fail
            refine H1.out.mono ?_
            clear H1 c0 c1 c2 c3 c4 c5
            rintro e w5 ⟨rfl, hx, hbe⟩
            obtain ⟨c0, c1, c2, c3, c4, c5⟩ := hx.step.cells
            simp only at c0 c1 c2 c3 c4 c5
            have H2 := Lib.hid (HP2.out _ _ _ _ _ hx HKK.out)
            have HB5 := Lib.hid (HBA.out.trans hbe)
            unfold partV at H2
            simp only at H2
            clear hx hbe HX HBA
            unfold putV
            go_wp2_with fail
            refine H2.out.mono ?_
            clear H2 c0 c1 c2 c3 c4 c5
            rintro e w6 ⟨rfl, hx, hbe⟩
            have HB6 := Lib.hid (HB5.out.trans hbe)
            have hd := hx.duo
            rw [HPR.out.2] at hd
            have HD6 := Lib.hid hd
            clear hx hbe hd
            unfold putV
            rw [← HPR.out.1]
            clear HPR HKK HW1
            generalize sput S [97] ⟨pid, pi, pn, pt⟩ = r at *
            go_wp2
            exact ⟨⟨k + 1, r.1, by go_num, by omega, HD6.out, HA2.out, HB6.out⟩, by simp [intOf]; omega⟩
          · have H1 := Lib.hid (HP1.out _ _ _ _ _ HX.out HKK.out)
            have HPR := Lib.hid (proj_put_b S ⟨pid, pi, pn, pt⟩)
            have HA2 := Lib.hid (HA.out.put [98] ⟨pid, pi, pn, pt⟩ (.inr rfl))
            unfold partV at H1
            simp only at H1
            clear hlen1
            go_wp2_with fail
            refine H1.out.mono ?_
            clear H1 c0 c1 c2 c3 c4 c5
            rintro e w5 ⟨rfl, hx, hbe⟩
            obtain ⟨c0, c1, c2, c3, c4, c5⟩ := hx.step.cells
            simp only at c0 c1 c2 c3 c4 c5
            have HB5 := Lib.hid (HBA.out.trans hbe)
            have hd := hx.duo
            try simp only at hd
            rw [← HPR.out] at hd
            have HD6 := Lib.hid hd
            clear hx hbe HX HBA hd HPR HKK HW1
            unfold putV
            generalize sput S [98] ⟨pid, pi, pn, pt⟩ = r at *
            go_wp2
            exact ⟨⟨k + 1, r.1, by go_num, by omega, HD6.out, HA2.out, HB5.out⟩, by simp [intOf]; omega⟩
      · have hnot : ∀ c, who = [c] → ((98 : Int) < (c.toNat : Int) ∨ (c.toNat : Int) < 97) := by
          intro c hc
          have h1 : c ≠ 97 := fun e => hab (.inl (by rw [hc, e]))
          have h2 : c ≠ 98 := fun e => hab (.inr (by rw [hc, e]))
          have h3 : c.toNat ≠ 97 := fun e => h1 (UInt8.toNat_inj.1 e)
          have h4 : c.toNat ≠ 98 := fun e => h2 (UInt8.toNat_inj.1 e)
          omega
        have HNOT := Lib.hid hnot
        have HD1 := Lib.hid (HX.out.duo)
        clear hnot hab HX HKK HW1
        match who, HNOT with
        | [], _ =>
          go_wp2
          all_goals exact ⟨⟨k + 1, S, by go_num, by omega, HD1.out, HA.out, HBA.out⟩, by simp [intOf]; omega⟩
        | a :: c :: r, _ =>
          have t2 : (((a :: c :: r).length : Int) != 1) = true := by simp; omega
          go_wp2
          all_goals exact ⟨⟨k + 1, S, by go_num, by omega, HD1.out, HA.out, HBA.out⟩, by simp [intOf]; omega⟩
        | [c], HNOT =>
          rcases HNOT.out c rfl with t2 | t2
          · go_wp2
            all_goals exact ⟨⟨k + 1, S, by go_num, by omega, HD1.out, HA.out, HBA.out⟩, by simp [intOf]; omega⟩
          · have t3 : (c.toNat : Int) ≤ 98 := by omega
            go_wp2
            all_goals exact ⟨⟨k + 1, S, by go_num, by omega, HD1.out, HA.out, HBA.out⟩, by simp [intOf]; omega⟩
    · have t1 : ¬ (k : Int) < (l.length : Int) := by omega
      have hlen := HS.out.lens HA.out
      have hpl := proj_length S
      have hph := proj_held S
      have H1 := Lib.hid (HL2.out wr _ _ HS.out)
      have H2 := Lib.hid (HL1.out wr _ _ HS.out)
      have H3 := Lib.hid (HE1.out wr _ _ HS.out)
      have t2 : (((proj S).length : Nat) : Int) ≤ 1 := by omega
      have t3 : ((S.length : Nat) : Int) ≤ 2 := by omega
      have t4 : ((heldS (proj S) : Nat) : Int) ≤ ((heldS S : Nat) : Int) := by omega
      clear HST hlen hpl hph
      go_wp2_with fail
      refine H1.out.mono ?_
      clear H1
      rintro e w4 ⟨rfl, rfl⟩
      go_wp2_with fail
      refine H2.out.mono ?_
      clear H2
      rintro e w4 ⟨rfl, rfl⟩
      go_wp2_with fail
      refine H3.out.mono ?_
      clear H3
      rintro e w4 ⟨rfl, hd, hbe⟩
      have H4 := Lib.hid (HE2.out w4 _ _ hd)
      have HB4 := Lib.hid (later HBW.out hbe)
      clear hd hbe
      go_wp2_with fail
      refine H4.out.mono ?_
      clear H4
      rintro e w5 ⟨rfl, hd, hbe⟩
      have HB5 := Lib.hid (later HB4.out hbe)
      clear hd hbe
      go_wp2_with fail
      refine (HW.out w5).mono ?_
      rintro e w6 ⟨rfl, hbe⟩
      have HB6 := Lib.hid (later HB5.out hbe)
      clear hbe
      go_wp2
      go_ret
      exact ⟨rfl, HB6.out⟩
end Go.Proofs.Ytejheedekiojnaa.Sess
