/-
  Stores (layer 9): for StoreKeeps: the two structs of what may be found, in memory beside a store; each call in that state. Conditions: what each says.
-/
import Derived.Test.YtmejdcnnpenaaaaGreatDoorZStKeepM
import Derived.Test.YtmejdcnnpenaaaaGreatDoorZStRow
open Go Go.RowKit
namespace Go.Proofs.YtmejdcnnpenaaaaGreatDoor.St
open Base Mp Dk Frame Lg

def keptCell (t : Key) (v : Value) (s : Int) : Nat → Value
  | 0 => .string (B t)
  | 1 => v
  | _ => .int .i64 s
def othCell : Option Key → Nat → Value
  | none => keptCell [] (.slice none 0 0) (-1)
  | some x => keptCell x (.slice none 0 0) 0
/-- The two structs; U has the blocks of the disk, and of the store. -/
structure KMem (w wr : World) (nb ob : Nat) (U : Nat → Prop) (t : Key) (v : Value) (l : List Key) (s : Nat) (o : Option Key) : Prop where
  now : CellsAt wr nb 3 (keptCell t v (s : Nat))
  oth : CellsAt wr ob 3 (othCell o)
  ne : nb ≠ ob
  new1 : w.heap.size ≤ nb
  new2 : w.heap.size ≤ ob
  far1 : ¬ U nb
  far2 : ¬ U ob
  put : Put2 w wr v l U
  apart : ∀ k, v.ownBlock = some k → k ≠ nb ∧ k ≠ ob
section
variable {w wr w' : World} {nb ob : Nat} {U U' T : Nat → Prop} {t : Key} {v : Value} {l : List Key} {s : Nat} {o : Option Key}
theorem KMem.lt (h : KMem w wr nb ob U t v l s o) : nb < wr.heap.size ∧ ob < wr.heap.size := ⟨h.now.lt (by omega), h.oth.lt (by omega)⟩
theorem KMem.open_ (h : KMem w wr nb ob U t v l s o) (hT : ∀ i, T i → U i) (hk : Kept T wr w') (hU : ∀ i, U' i → U i ∨ wr.heap.size ≤ i) : KMem w w' nb ob U' t v l s o := by
  obtain ⟨l1, l2⟩ := h.lt
  refine ⟨h.now.kept hk l1 (fun e => h.far1 (hT _ e)), h.oth.kept hk l2 (fun e => h.far2 (hT _ e)), h.ne, h.new1, h.new2, fun e => ?_, fun e => ?_, ⟨own_kept h.put.own hk (fun k hk2 e => h.put.apart k hk2 (hT k e)), fun k hk2 ht => ?_⟩, h.apart⟩
  · rcases hU _ e with e | e
    · exact h.far1 e
    · omega
  · rcases hU _ e with e | e
    · exact h.far2 e
    · omega
  · have := h.put.own.lt k hk2
    rcases hU k ht with e | e
    · exact h.put.apart k hk2 e
    · omega
theorem KMem.kept (h : KMem w wr nb ob U t v l s o) (hk : Kept U wr w') : KMem w w' nb ob (More U wr w') t v l s o := h.open_ (fun _ e => e) hk fun _ e => e.imp id fun e => e.1
theorem KMem.later (h : KMem w wr nb ob U t v l s o) (hk : Below wr.heap.size wr w') : KMem w w' nb ob U t v l s o := h.open_ (T := fun _ => False) (fun _ e => e.elim) (Kept.of_below hk) fun _ e => .inl e
theorem KMem.fewer (h : KMem w wr nb ob U t v l s o) (hU : ∀ i, U' i → U i) : KMem w wr nb ob U' t v l s o := ⟨h.now, h.oth, h.ne, h.new1, h.new2, fun e => h.far1 (hU _ e), fun e => h.far2 (hU _ e), ⟨h.put.own, fun k hk e => h.put.apart k hk (hU k e)⟩, h.apart⟩
/-- What was kept is another one. -/
theorem KMem.setNow {t2 : Key} {v2 : Value} {l2 : List Key} {s2 : Nat} (h : KMem w wr nb ob U t v l s o) (hk : Kept (fun i => i = nb) wr w') (hc : CellsAt w' nb 3 (keptCell t2 v2 (s2 : Nat))) (hp : Put2 w wr v2 l2 U) (ha : ∀ k, v2.ownBlock = some k → k ≠ nb ∧ k ≠ ob) : KMem w w' nb ob U t2 v2 l2 s2 o := by
  obtain ⟨l1, l2'⟩ := h.lt
  exact ⟨hc, h.oth.kept hk l2' (fun e => h.ne e.symm), h.ne, h.new1, h.new2, h.far1, h.far2, ⟨own_kept hp.own hk (fun k hk2 e => (ha k hk2).1 e), hp.apart⟩, ha⟩
theorem KMem.setOth {o2 : Option Key} (h : KMem w wr nb ob U t v l s o) (hk : Kept (fun i => i = ob) wr w') (hc : CellsAt w' ob 3 (othCell o2)) : KMem w w' nb ob U t v l s o2 := by
  obtain ⟨l1, l2'⟩ := h.lt
  exact ⟨h.now.kept hk l1 h.ne, hc, h.ne, h.new1, h.new2, h.far1, h.far2, ⟨own_kept h.put.own hk (fun k hk2 e => (h.apart k hk2).2 e), h.put.apart⟩, h.apart⟩
end
/-- Between two calls of a round. -/
structure KAt (w wr : World) (b sb nb ob : Nat) (D : DiskD) (S : StoreD) (U : Nat → Prop) (t : Key) (v : Value) (l : List Key) (s : Nat) (o : Option Key) (c : Nat) : Prop where
  sx : SX w wr b sb D S U
  mem : KMem w wr nb ob U t v l s o
  mid : Mid D S t l s o c
  cost : Cost D c
/-- Between two rounds. -/
structure RAt (w wr : World) (b nb ob : Nat) (D : DiskD) (T : Nat → Prop) (t : Key) (v : Value) (l : List Key) (s : Nat) (o : Option Key) (c : Nat) : Prop where
  dx : DX w wr b D T
  mem : KMem w wr nb ob T t v l s o
  ah : Tells D t l s o c
  cost : Cost D c
theorem KAt.rat {w wr : World} {b sb nb ob : Nat} {D : DiskD} {S : StoreD} {U : Nat → Prop} {t : Key} {v : Value} {l : List Key} {s : Nat} {o : Option Key} {c : Nat} (h : KAt w wr b sb nb ob D S U t v l s o c) : ∃ T, RAt w wr b nb ob D T t v l s o c := by
  obtain ⟨T, hx, hT⟩ := h.sx.dx
  exact ⟨T, hx, h.mem.fewer hT, h.mid.tells, h.cost⟩
section
variable {w wr : World} {b sb nb ob : Nat} {D : DiskD} {S : StoreD} {U T : Nat → Prop} {t : Key} {v : Value} {l : List Key} {s : Nat} {o : Option Key} {c : Nat}
theorem KAt.putOk (hs : Small S) (p : Option Addr) (x : Key) (hx : x.length ≤ 1048576) (hr : RowArg w p (strs [x])) : PutOk w p [x] S.log :=
  ⟨hr, fun y hy => by rw [List.mem_singleton.1 hy]; exact hx, by rw [puts_one, put_length]; omega, hs.size, hs.count, hs.name⟩
theorem SPut_s {D' : DiskD} {S' : StoreD} (h : SX w wr b sb D S U) (hL : Laid w) (hs : Small S) (x : Key) (hx : x.length ≤ 1048576) {k : Int} (he : putS D S [x] = (D', S', k)) :
    Calls Tryz.prog 11 #[.pointer (some ⟨sb, 0, none⟩), .slice (some ⟨wr.heap.size, 0, none⟩) 1 1] (wr.alloc (.cells #[.string (B x)] 9)) fun e w' => e = .returned (.int .i64 k) ∧ SX w w' b sb D' S' (More U wr w') ∧ Kept U wr w' := by
  have hal : Below wr.heap.size wr (wr.alloc (.cells #[.string (B x)] 9)) := (Below.refl _ _).alloc (Nat.le_refl _) _
  have hz := alloc_more wr (.cells #[.string (B x)] 9)
  have hown := h.own
  have hz0 := h.below.size
  have hA := SAppend_f (h.later hal) hL (some ⟨wr.heap.size, 0, none⟩) 1 [x] (KAt.putOk hs _ x hx (row_made wr [x]))
  rw [he] at hA
  refine hA.mono ?_
  rintro e w' ⟨h1, ⟨T, lb, h2⟩, h3⟩
  have hz3 := h3.size
  refine ⟨h1, ⟨T, lb, h2.lx, h2.st, h2.far, h2.ne, fun i hi => ?_, ?_, ?_, fun i hi => ?_⟩, (Kept.of_below (T := U) hal).trans h3 fun _ e => .inl e⟩
  · exact (h2.sub i hi).imp id fun e => ⟨by omega, e.2⟩
  · exact h2.ul.imp id fun e => ⟨by omega, e.2⟩
  · exact h2.us.imp id fun e => ⟨by omega, e.2⟩
  · rcases hi with hi | hi
    · have := hown i hi; exact ⟨this.1, by omega⟩
    · exact ⟨by omega, hi.2⟩
/-- A round ends. -/
theorem RAt.crash (h : RAt w wr b nb ob D T t v l s o c) (hc : c ≤ 1000000) {p : Option Addr} {keep : List Int} {cap : Nat} {w1 : World} (hb : Below wr.heap.size wr w1) (hI : IntsAt w1 p keep) (hi : IntsIn keep) (hcap : keep.length ≤ cap) (hm : cap ≤ 9223372036854775807) (hp : ∀ a, p = some a → wr.heap.size ≤ a.block) :
    Calls Tryz.prog 17 #[.pointer (some ⟨b, 0, none⟩), .slice p keep.length cap] w1 fun e w' => e = .returned (.int .i64 0) ∧ ∃ D' T', DX w w' b D' T' ∧ KMem w w' nb ob T' t v l s o ∧ Ahead D' t l s o c ∧ Cost D' c := by
  have hx := h.dx.later hb
  have hmem := h.mem.later hb
  refine (hx.op (Crash_f hx.dk p keep cap hI hi hcap hm (fun a ha ht => by have := h.dx.old _ ht; have := hp a ha; omega))).mono ?_
  rintro e w' ⟨he, h1, h2⟩
  exact ⟨he, _, _, h1, hmem.kept h2, h.ah.crash h.cost.fine hc keep, h.cost.crash keep⟩
theorem RAt.fuse {D : DiskD} (hx : DX w wr b D T) (hm : KMem w wr nb ob T t v l s o) (ha : Ahead D t l s o c) (hc : Cost D c) (n : Nat) (hn : n < 256) :
    Calls Tryz.prog 18 #[.pointer (some ⟨b, 0, none⟩), .int .i64 (n : Int)] wr fun e w' => e = .returned (.int .i64 0) ∧ ∃ D' T', DX w w' b D' T' ∧ KMem w w' nb ob T' t v l s o ∧ Ahead D' t l s o c ∧ Cost D' c := by
  obtain ⟨D', he, ha', hc'⟩ := ahead_fuse ha hc n hn
  have h := hx.op (Fuse_f hx.dk (n : Int) (by omega))
  rw [he] at h
  refine h.mono ?_
  rintro e w' ⟨he, h1, h2⟩
  exact ⟨he, D', _, h1, hm.kept h2, ha', hc'⟩
/-- Open. -/
theorem RAt.open_ (hL : Laid w) (hx : DX w wr b D T) (hm : KMem w wr nb ob T t v l s o) (ha : Ahead D t l s o c) (hc : Cost D c) :
    (Calls Tryz.prog 9 #[.pointer (some ⟨b, 0, none⟩)] wr fun e w' => e = .returned (.tuple #[.pointer none, .string ⟨#[]⟩, .slice none 0 0, .int .i64 70]) ∧ ∃ D' T', RAt w w' b nb ob D' T' t v l s o c) ∨
      ∃ t' rs, ((∃ j, t' = t ∧ rs = l.take j ∧ s ≤ j ∧ j ≤ l.length) ∨ (o = some t' ∧ rs = [])) ∧ Calls Tryz.prog 9 #[.pointer (some ⟨b, 0, none⟩)] wr fun e w' => ∃ sb p cap D' S' U', e = .returned (.tuple #[.pointer (some ⟨sb, 0, none⟩), .string (B t'), .slice p rs.length cap, .int .i64 0]) ∧ SX w w' b sb D' S' U' ∧ KMem w w' nb ob U' t v l s o ∧ RowArg w' p (strs rs) ∧ Good D' S' t' rs rs.length ∧ S'.number ≤ c ∧ Cost D' c := by
  have hM : ∀ f ∈ namesD D, Mine f := by
    cases ha with
    | one N hN h => exact h.mine hx.fine
    | two x N ho hN h => exact h.mine hx.fine
  have hro : D.room ≤ 1048576 := by rw [hc.room]; decide
  rcases ahead_open ha hc with ⟨D', h1, h2, h3⟩ | ⟨D', S', t', rs, h1, h2, h3, h4, h5⟩
  · left
    refine (SOpen_f hx hL hM hro).mono ?_
    rw [h1]
    rintro e w' ⟨T', a1, a2, ⟨_, _, a3, a4⟩ | ⟨_, _, _, _, _, a3, _⟩⟩
    · exact ⟨a4, D', T', a3, hm.open_ (fun _ e => e) a2 a1, .now h2, h3⟩
    · cases a3
  · right
    refine ⟨t', rs, h5, (SOpen_ok hx hL hM hro h1).mono ?_⟩
    rintro e w' ⟨sb, p, cap, U', a1, a2, a3, a4, a5, a6⟩
    obtain ⟨p2, cap2, e2, hr, -, -⟩ := RowArg.of_own a5
    injection e2 with e2 _ _
    subst e2
    exact ⟨sb, p, cap, D', S', U', a1, a2, hm.open_ (fun _ e => e) a3 a4, hr, h2, h3, h4⟩
/-- A crash with three numbers. -/
theorem RAt.crash3 (h : RAt w wr b nb ob D T t v l s o c) (hc : c ≤ 1000000) (x y z : Int) (hx : -9223372036854775808 ≤ x ∧ x ≤ 9223372036854775807) (hy : -9223372036854775808 ≤ y ∧ y ≤ 9223372036854775807) (hz : -9223372036854775808 ≤ z ∧ z ≤ 9223372036854775807) (w1 : World) (hb : Below wr.heap.size wr w1) :
    Calls Tryz.prog 17 #[.pointer (some ⟨b, 0, none⟩), .slice (some ⟨w1.heap.size, 0, none⟩) 3 3] (w1.alloc (.cells #[.int .i64 x, .int .i64 y, .int .i64 z] 3)) fun e w' => e = .returned (.int .i64 0) ∧ ∃ D' T', DX w w' b D' T' ∧ KMem w w' nb ob T' t v l s o ∧ Ahead D' t l s o c ∧ Cost D' c := by
  have hm := cells_made w1 #[.int .i64 x, .int .i64 y, .int .i64 z] 3
  refine h.crash hc (p := some ⟨w1.heap.size, 0, none⟩) (keep := [x, y, z]) (cap := 3) (hb.trans (((Below.refl _ w1).alloc (Nat.le_refl _) _).mono hb.size)) (fun j hj => ⟨w1.heap.size, 0, rfl, ?_⟩) (fun u hu => ?_) (Nat.le_refl _) (by decide) (fun a ha => ?_)
  · have hj3 : j < 3 := hj
    have h1 := (hm j hj).1
    have : j = 0 ∨ j = 1 ∨ j = 2 := by omega
    rcases this with rfl | rfl | rfl <;> exact h1
  · rcases List.mem_cons.1 hu with rfl | hu
    · exact hx
    rcases List.mem_cons.1 hu with rfl | hu
    · exact hy
    · rw [List.mem_singleton.1 hu]; exact hz
  · injection ha with ha
    rw [← ha]
    exact hb.size
theorem RAt.crash0 (h : RAt w wr b nb ob D T t v l s o c) (hc : c ≤ 1000000) :
    Calls Tryz.prog 17 #[.pointer (some ⟨b, 0, none⟩), .slice none 0 0] wr fun e w' => e = .returned (.int .i64 0) ∧ ∃ D' T', DX w w' b D' T' ∧ KMem w w' nb ob T' t v l s o ∧ Ahead D' t l s o c ∧ Cost D' c :=
  h.crash hc (p := none) (keep := []) (cap := 0) (Below.refl _ _) (fun j hj => by simp at hj) (fun x hx => by simp at hx) (Nat.le_refl _) (by decide) (fun a ha => by cases ha)
theorem RAt.le {c2 : Nat} (h : RAt w wr b nb ob D T t v l s o c) (hc : c ≤ c2) : RAt w wr b nb ob D T t v l s o c2 := ⟨h.dx, h.mem, h.ah.le hc, h.cost.le hc⟩
theorem Mid.le {c2 : Nat} (h : Mid D S t l s o c) (hc : c ≤ c2) : Mid D S t l s o c2 := by
  cases h with
  | live h ho hN => exact .live h ho (by omega)
  | dead hb hs h => exact .dead hb hs (h.le hc)
theorem KAt.le {c2 : Nat} (h : KAt w wr b sb nb ob D S U t v l s o c) (hc : c ≤ c2) : KAt w wr b sb nb ob D S U t v l s o c2 := ⟨h.sx, h.mem, h.mid.le hc, h.cost.le hc⟩
/-- The store stands; the structs are turned. -/
theorem kmem_now {w' : World} {t2 : Key} {v2 : Value} {l2 : List Key} {s2 : Nat} (hx : SX w wr b sb D S U) (h : KMem w wr nb ob U t v l s o) (hk : Kept (fun i => i = nb) wr w') (hc : CellsAt w' nb 3 (keptCell t2 v2 (s2 : Nat))) (hp : Put2 w wr v2 l2 U) (ha : ∀ k, v2.ownBlock = some k → k ≠ nb ∧ k ≠ ob) : SX w w' b sb D S U ∧ KMem w w' nb ob U t2 v2 l2 s2 o :=
  ⟨hx.next hk fun i hi => by rw [hi]; exact ⟨h.new1, h.far1⟩, h.setNow hk hc hp ha⟩
theorem kmem_oth {w' : World} {o2 : Option Key} (hx : SX w wr b sb D S U) (h : KMem w wr nb ob U t v l s o) (hk : Kept (fun i => i = ob) wr w') (hc : CellsAt w' ob 3 (othCell o2)) : SX w w' b sb D S U ∧ KMem w w' nb ob U t v l s o2 :=
  ⟨hx.next hk fun i hi => by rw [hi]; exact ⟨h.new2, h.far2⟩, h.setOth hk hc⟩
theorem put2_nil (w wr : World) (U : Nat → Prop) : Put2 w wr (.slice none 0 0) [] U := Put2.none _ _ _
/-- Three cells set. -/
theorem three_cells {w0 : World} {n : Nat} {f g : Nat → Value} (h : CellsAt w0 n 3 f) (a0 a1 a2 : Value) (h0 : g 0 = a0) (h1 : g 1 = a1) (h2 : g 2 = a2) : CellsAt (((w0.setCell ⟨n, 0, none⟩ a0).setCell ⟨n, 1, none⟩ a1).setCell ⟨n, 2, none⟩ a2) n 3 g ∧ Kept (fun i => i = n) w0 (((w0.setCell ⟨n, 0, none⟩ a0).setCell ⟨n, 1, none⟩ a1).setCell ⟨n, 2, none⟩ a2) := by
  refine ⟨(CellsAt.set (CellsAt.set (CellsAt.set h (i := 0) (by omega) a0) (i := 1) (by omega) a1) (i := 2) (by omega) a2).congr fun j hj => ?_, Kept.setCell (p := ⟨n, 2, none⟩) (Kept.setCell (p := ⟨n, 1, none⟩) (Kept.setCell (p := ⟨n, 0, none⟩) (Kept.refl (fun i => i = n) w0) (.inl rfl) _) (.inl rfl) _) (.inl rfl) _⟩
  have : j = 0 ∨ j = 1 ∨ j = 2 := by omega
  rcases this with rfl | rfl | rfl
  · exact h0.symm
  · exact h1.symm
  · exact h2.symm
/-- Append. -/
theorem KAt.append (h : KAt w wr b sb nb ob D S U t v l s o c) (hL : Laid w) (x : Key) (hx : x.length ≤ 1048576) (hk : c + (8 + x.length) ≤ 65536) :
    (Calls Tryz.prog 11 #[.pointer (some ⟨sb, 0, none⟩), .slice (some ⟨wr.heap.size, 0, none⟩) 1 1] (wr.alloc (.cells #[.string (B x)] 9)) fun e w' => e = .returned (.int .i64 0) ∧ ∃ D' S' U', SX w w' b sb D' S' U' ∧ KMem w w' nb ob U' t v l s o ∧ Mid D' S' t (l ++ [x]) s o (c + (8 + x.length)) ∧ Cost D' (c + (8 + x.length))) ∨
      ∃ k : Int, k ≠ 0 ∧ Calls Tryz.prog 11 #[.pointer (some ⟨sb, 0, none⟩), .slice (some ⟨wr.heap.size, 0, none⟩) 1 1] (wr.alloc (.cells #[.string (B x)] 9)) fun e w' => e = .returned (.int .i64 k) ∧ ∃ D' S' U', KAt w w' b sb nb ob D' S' U' t v l s o (c + (8 + x.length)) := by
  obtain ⟨D', S', k, h1, h2, h3⟩ := mid_put h.mid h.cost x hx hk
  have hA := SPut_s h.sx hL (h.mid.small h.cost.fine) x hx h1
  rcases h3 with ⟨rfl, h3⟩ | ⟨hk0, _, h3⟩ | ⟨rfl, h3⟩
  · left
    refine hA.mono ?_
    rintro e w' ⟨he, a1, a2⟩
    exact ⟨he, D', S', _, a1, h.mem.kept a2, h3, h2⟩
  · right
    refine ⟨k, hk0, hA.mono ?_⟩
    rintro e w' ⟨he, a1, a2⟩
    exact ⟨he, D', S', _, a1, h.mem.kept a2, h3, h2⟩
  · right
    refine ⟨70, by decide, hA.mono ?_⟩
    rintro e w' ⟨he, a1, a2⟩
    exact ⟨he, D', S', _, a1, h.mem.kept a2, h3, h2⟩
/-- Sync. -/
theorem KAt.sync (h : KAt w wr b sb nb ob D S U t v l s o c) :
    (Calls Tryz.prog 16 #[.pointer (some ⟨sb, 0, none⟩)] wr fun e w' => e = .returned (.int .i64 0) ∧ ∃ D' S' U', SX w w' b sb D' S' U' ∧ KMem w w' nb ob U' t v l s o ∧ Mid D' S' t l l.length o c ∧ Cost D' c) ∨
      ∃ k : Int, k ≠ 0 ∧ Calls Tryz.prog 16 #[.pointer (some ⟨sb, 0, none⟩)] wr fun e w' => e = .returned (.int .i64 k) ∧ ∃ D' S' U', KAt w w' b sb nb ob D' S' U' t v l s o c := by
  obtain ⟨D', S', k, h1, h2, h3⟩ := mid_keep h.mid h.cost
  have hA := SSync_ok h.sx (h.mid.small h.cost.fine).name h1
  rcases h3 with ⟨rfl, h3⟩ | ⟨hk0, h3⟩
  · left
    refine hA.mono ?_
    rintro e w' ⟨he, a1, a2⟩
    exact ⟨he, D', S', _, a1, h.mem.kept a2, h3, h2⟩
  · right
    refine ⟨k, hk0, hA.mono ?_⟩
    rintro e w' ⟨he, a1, a2⟩
    exact ⟨he, D', S', _, a1, h.mem.kept a2, h3, h2⟩
/-- Save. -/
theorem KAt.save (h : KAt w wr b sb nb ob D S U t v l s o c) (hL : Laid w) (x : Key) (hx : x.length ≤ 1048576) (hk : c + (8 + x.length) ≤ 65536) :
    (Calls Tryz.prog 10 #[.pointer (some ⟨sb, 0, none⟩), .string (B x)] wr fun e w' => e = .returned (.int .i64 0) ∧ ∃ D' S' U', SX w w' b sb D' S' U' ∧ KMem w w' nb ob U' t v l s o ∧ Mid D' S' x [] 0 none (c + (8 + x.length)) ∧ Cost D' (c + (8 + x.length))) ∨
      (Calls Tryz.prog 10 #[.pointer (some ⟨sb, 0, none⟩), .string (B x)] wr fun e w' => e = .returned (.int .i64 70) ∧ ∃ D' S' U', SX w w' b sb D' S' U' ∧ KMem w w' nb ob U' t v l s o ∧ Mid D' S' t l s (some x) (c + (8 + x.length)) ∧ Cost D' (c + (8 + x.length))) ∨
      ∃ k : Int, k ≠ 0 ∧ k ≠ 70 ∧ Calls Tryz.prog 10 #[.pointer (some ⟨sb, 0, none⟩), .string (B x)] wr fun e w' => e = .returned (.int .i64 k) ∧ ∃ D' S' U', KAt w w' b sb nb ob D' S' U' t v l s o (c + (8 + x.length)) := by
  obtain ⟨D', S', k, h1, h2, h3⟩ := mid_save h.mid h.cost x hx hk
  have hA := SSave_ok h.sx hL (by rw [h.cost.room]; decide) x hx (h.mid.small h.cost.fine).num h1
  rcases h3 with ⟨rfl, h3⟩ | ⟨rfl, h3⟩ | ⟨hk0, hk7, h3⟩
  · left
    refine hA.mono ?_
    rintro e w' ⟨he, a1, a2⟩
    exact ⟨he, D', S', _, a1, h.mem.kept a2, h3, h2⟩
  · right; left
    refine hA.mono ?_
    rintro e w' ⟨he, a1, a2⟩
    exact ⟨he, D', S', _, a1, h.mem.kept a2, h3, h2⟩
  · right; right
    refine ⟨k, hk0, hk7, hA.mono ?_⟩
    rintro e w' ⟨he, a1, a2⟩
    exact ⟨he, D', S', _, a1, h.mem.kept a2, h3, h2⟩
/-- One record more in the struct of what is kept: the append, and then the store. -/
theorem append_kmem (hx : SX w wr b sb D S U) (h : KMem w wr nb ob U t v l s o) (x : Key) (hm : l.length + 1 ≤ 1099511627776) :
    ∃ v' w', (Builtin.append_ #[22, 22] 22 #[v, .slice (some ⟨wr.heap.size, 0, none⟩) 1 1]).run Tryz.prog (wr.alloc (.cells #[.string (B x)] 9)) = .ok v' w' ∧ (∃ p cap, v' = .slice p (l ++ [x]).length cap) ∧ CellsAt w' nb 3 (keptCell t v (s : Nat)) ∧
      ∀ w2, Kept (fun i => i = nb) w' w2 → CellsAt w2 nb 3 (keptCell t v' (s : Nat)) → SX w w2 b sb D S U ∧ KMem w w2 nb ob U t v' (l ++ [x]) s o := by
  have ho := h.put.own
  have hl : (strs l).length = l.length := strs_length l
  obtain ⟨l1, l2⟩ := h.lt
  obtain ⟨g, cap, w', h1, hg⟩ := append_key wr w.heap.size hx.below.size v (strs l) (by rw [hl]; exact ho) x (by rw [hl]; exact hm)
  have hown := hg.own
  have hblk := hg.blk
  rw [hl] at hown
  have hlen : (l ++ [x]).length = l.length + 1 := by simp
  have k1 := h.now.kept hg.kept l1 (fun e => (h.apart _ e).1 rfl)
  have k2 := h.oth.kept hg.kept l2 (fun e => (h.apart _ e).2 rfl)
  have hsx := hx.next hg.kept fun i hi => ⟨(ho.lt i hi).1, h.put.apart i hi⟩
  have hp : Put2 w w' (.slice (some ⟨g, 0, none⟩) ((strs l).length + 1) cap) (l ++ [x]) U := ⟨by
    rw [hl, hlen, strs_snoc]; exact hown, fun k hk => by
    injection hk with hk
    subst hk
    rcases hblk with h4 | h4
    · exact h.put.apart _ h4
    · intro ht
      have := (hx.own _ ht).2
      simp only at this h4
      omega⟩
  have ha : ∀ k, (Value.slice (some ⟨g, 0, none⟩) ((strs l).length + 1) cap).ownBlock = some k → k ≠ nb ∧ k ≠ ob := fun k hk => by
    injection hk with hk
    subst hk
    rcases hblk with h4 | h4
    · exact h.apart _ h4
    · exact ⟨fun e => by have e2 : g = nb := e; omega, fun e => by have e2 : g = ob := e; omega⟩
  refine ⟨_, w', h1, ⟨some ⟨g, 0, none⟩, cap, by rw [hlen, hl]⟩, k1, fun w2 hk hc => ⟨hsx.next hk fun i hi => by rw [hi]; exact ⟨h.new1, h.far1⟩, hc, k2.kept hk (k2.lt (by omega)) (fun e => h.ne e.symm), h.ne, h.new1, h.new2, h.far1, h.far2, ⟨own_kept hp.own hk (fun k hk2 e => (ha k hk2).1 e), hp.apart⟩, ha⟩⟩
end
end Go.Proofs.YtmejdcnnpenaaaaGreatDoor.St
