/-
  Disks (layer 7) on plain data: files, their room, what each call does. No program in sight. No condition.
-/
import Derived.Test.YtpiaplgbpjgjiaaGreatDoorChecked
import Derived.WalkKit
import Derived.WalkLawsBesides
import Derived.WalkSpells
import Derived.Outline
import Derived.BigQuiet
import Derived.Deep.RegionHeld3
import Derived.Deep.DrawnRows
import Derived.Lib.AppendStr
import Derived.Deep.AppendLies
import Derived.Test.YtpiaplgbpjgjiaaGreatDoorZMaps
import Derived.Test.YtpiaplgbpjgjiaaGreatDoorZKept

section
open Go
namespace Go.Proofs.YtpiaplgbpjgjiaaGreatDoor.Dk
open Mp

structure FileD where
  bytes : List UInt8
  sure : Nat
  fresh : Bool
abbrev FS := List (Lit × FileD)
structure DiskD where
  room : Nat
  files : FS
  fused : Bool
  calls : Nat
def keyS (f : List UInt8) : Lit := .string f
theorem isKey (f : List UInt8) : WideAt.IsKeyLit (keyS f) := by simp [WideAt.IsKeyLit, keyS]
theorem keyS_inj {f g : List UInt8} (h : keyS f = keyS g) : f = g := by unfold keyS at h; injection h
/-- The bytes of all files. -/
def total (l : FS) : Nat := (l.map fun p => p.2.bytes.length).sum
def left (D : DiskD) : Nat := D.room - total D.files
def still (D : DiskD) : Bool := D.fused && D.calls == 0
def done (D : DiskD) : DiskD := if D.fused then { D with calls := D.calls - 1 } else D
def okByte (c : UInt8) : Bool := ((97 ≤ c.toNat && c.toNat ≤ 122) || (48 ≤ c.toNat && c.toNat ≤ 57)) || c.toNat == 45
def mayName (n : List UInt8) : Bool := decide (1 ≤ n.length) && decide (n.length ≤ 40) && n.all okByte
def withFile (D : DiskD) (k : Lit) (F : FileD) : DiskD := { D with files := setL D.files k F }
/-- What holds of every disk. -/
structure Fine (D : DiskD) : Prop where
  few : D.files.length ≤ 16
  room : D.room ≤ 4194304
  fits : total D.files ≤ D.room
  names : ∀ p ∈ D.files, ∃ n, p.1 = keyS n ∧ mayName n = true
  sure : ∀ p ∈ D.files, p.2.sure ≤ p.2.bytes.length
  apart : D.files.Pairwise fun p q => p.1 ≠ q.1
  calls : D.calls < 9223372036854775808
theorem total_cons (p : Lit × FileD) (r : FS) : total (p :: r) = p.2.bytes.length + total r := rfl
theorem total_mem {l : FS} {p : Lit × FileD} (h : p ∈ l) : p.2.bytes.length ≤ total l := by
  induction l with
  | nil => cases h
  | cons x r ih =>
    rw [total_cons]
    rcases List.mem_cons.1 h with rfl | h
    · omega
    · have := ih h; omega
theorem Fine.short {D : DiskD} (h : Fine D) {p : Lit × FileD} (hp : p ∈ D.files) : p.2.bytes.length ≤ 4194304 := Nat.le_trans (total_mem hp) (Nat.le_trans h.fits h.room)
theorem Fine.key {D : DiskD} (h : Fine D) {p : Lit × FileD} (hp : p ∈ D.files) : WideAt.IsKeyLit p.1 := by
  obtain ⟨n, hn, _⟩ := h.names p hp
  rw [hn]; exact isKey n
theorem same_key {k q : Lit} (hk : WideAt.IsKeyLit k) (hq : WideAt.IsKeyLit q) : k.sameKey q = true ↔ k = q := by
  constructor
  · intro h
    cases k <;> cases q <;> simp_all [WideAt.IsKeyLit, Lit.sameKey]
  · rintro rfl
    exact WideAt.sameKey_self hk
/-- The bytes of all files, where one is another one. -/
theorem total_set {l : FS} {k : Lit} {F G : FileD} (hn : l.Pairwise fun p q => p.1 ≠ q.1) (hk : ∀ p ∈ l, WideAt.IsKeyLit p.1) (hl : lookL l k = some F) (hkk : WideAt.IsKeyLit k) : total (setL l k G) + F.bytes.length = total l + G.bytes.length := by
  induction l with
  | nil => cases hl
  | cons x r ih =>
    obtain ⟨h1, h2⟩ := List.pairwise_cons.1 hn
    unfold setL
    rw [List.map_cons]
    by_cases hx : x.1.sameKey k = true
    · have hxk := (same_key (hk x (by simp)) hkk).1 hx
      have hF : x.2 = F := by
        unfold lookL at hl
        rw [List.find?_cons, hx] at hl
        simpa using hl
      have hr : (r.map fun p => if p.1.sameKey k then (p.1, G) else p) = r := by
        refine (List.map_congr_left fun p hp => ?_).trans (List.map_id r)
        rw [if_neg]
        · rfl
        · intro e
          exact h1 p hp (hxk.trans ((same_key (hk p (by simp [hp])) hkk).1 e).symm)
      rw [hr, if_pos hx, total_cons, total_cons, hF]
      simp only
      omega
    · have hx' : x.1.sameKey k = false := by simpa using hx
      have hl2 : lookL r k = some F := by
        unfold lookL at hl ⊢
        rw [List.find?_cons, hx'] at hl
        exact hl
      have := ih h2 (fun p hp => hk p (by simp [hp])) hl2
      rw [if_neg hx, total_cons, total_cons]
      unfold setL at this
      omega
theorem Fine.set {D : DiskD} (h : Fine D) {k : Lit} {F G : FileD} (hl : lookL D.files k = some F) (hs : G.sure ≤ G.bytes.length) (ht : total D.files + G.bytes.length ≤ D.room + F.bytes.length) : Fine (withFile D k G) := by
  have hm := mem_of_look hl
  have hkk := h.key hm
  have htt := total_set (G := G) h.apart (fun p hp => h.key hp) hl hkk
  refine ⟨?_, h.room, ?_, fun p hp => ?_, fun p hp => ?_, ?_, h.calls⟩
  · show (setL D.files k G).length ≤ 16
    rw [set_length]; exact h.few
  · show total (setL D.files k G) ≤ D.room
    omega
  · rcases mem_set hp with ⟨hp, _⟩ | ⟨e, _⟩
    · exact h.names p hp
    · rw [e]; exact h.names _ hm
  · rcases mem_set hp with ⟨hp, _⟩ | ⟨_, e⟩
    · exact h.sure p hp
    · rw [e]; exact hs
  · show (setL D.files k G).Pairwise _
    unfold setL
    rw [List.pairwise_map]
    refine h.apart.imp_of_mem fun ha hb hab => ?_
    split <;> split <;> exact hab
theorem Fine.done {D : DiskD} (h : Fine D) : Fine (done D) := by
  unfold Dk.done
  split
  · exact ⟨h.few, h.room, h.fits, h.names, h.sure, h.apart, by have := h.calls; show D.calls - 1 < _; omega⟩
  · exact h
theorem Fine.drop {D : DiskD} (h : Fine D) (k : Lit) : Fine { D with files := delL D.files k } := by
  have hle : ∀ l : FS, total (delL l k) ≤ total l := fun l => by
    unfold delL
    induction l with
    | nil => exact Nat.le_refl _
    | cons x r ih =>
      rw [List.filter_cons]
      split
      · rw [total_cons, total_cons]; omega
      · rw [total_cons]; omega
  exact ⟨Nat.le_trans (List.length_filter_le _ _) h.few, h.room, Nat.le_trans (hle _) h.fits, fun p hp => h.names p (mem_del hp).1, fun p hp => h.sure p (mem_del hp).1, h.apart.filter _, h.calls⟩
theorem total_perm {l l' : FS} (h : l.Perm l') : total l = total l' := (h.map _).sum_nat
theorem Fine.put {D : DiskD} (h : Fine D) {n : List UInt8} (hn : mayName n = true) (hl : lookL D.files (keyS n) = none) (hf : D.files.length < 16) : Fine { D with files := putL D.files (keyS n) ⟨[], 0, true⟩ } := by
  have hperm : (putL D.files (keyS n) (⟨[], 0, true⟩ : FileD)).Perm ((keyS n, ⟨[], 0, true⟩) :: D.files) := by
    have := put_perm D.files (keyS n) (⟨[], 0, true⟩ : FileD)
    rw [del_none _ _ hl] at this
    exact this
  have hno : ∀ p ∈ D.files, p.1 ≠ keyS n := fun p hp e => by
    unfold lookL at hl
    rw [Option.map_eq_none_iff, List.find?_eq_none] at hl
    exact hl p hp (by rw [e]; exact WideAt.sameKey_self (isKey n))
  refine ⟨?_, h.room, ?_, fun p hp => ?_, fun p hp => ?_, ?_, h.calls⟩
  · show (putL D.files _ _).length ≤ 16
    rw [hperm.length_eq]; simp only [List.length_cons]; omega
  · show total (putL D.files _ _) ≤ D.room
    rw [total_perm hperm, total_cons]
    have := h.fits
    simp only [List.length_nil]
    omega
  · rcases mem_put hp with rfl | ⟨hp, _⟩
    · exact ⟨n, rfl, hn⟩
    · exact h.names p hp
  · rcases mem_put hp with rfl | ⟨hp, _⟩
    · exact Nat.le_refl _
    · exact h.sure p hp
  · show (putL D.files _ _).Pairwise _
    refine hperm.symm.pairwise (List.pairwise_cons.2 ⟨fun p hp e => hno p hp e.symm, h.apart⟩) (fun h e => h e.symm)
end Go.Proofs.YtpiaplgbpjgjiaaGreatDoor.Dk
end

/-
  Disks (layer 7) in memory: the head, the map, each file and its row; what changes of them leave. No condition.
-/
section
open Go Go.RowKit
namespace Go.Proofs.YtpiaplgbpjgjiaaGreatDoor.Dk
open Base Mp

theorem keyB (f : List UInt8) (hf : f.length ≤ maxLen) : keyOf Tryz.prog 9 (.string (B f)) = some (keyS f) := by
  simp [keyOf, mapKey, Tryz.underlying9, keyS, B_size, B_data, hf]
theorem keyedS : Maps.Keyed Tryz.prog 9 := Maps.string_keyed Tryz.underlying9
theorem zP (w : World) : (zeroValue 89).run Tryz.prog w = .ok (.pointer none) w := by kernel_rfl
def ptr (b : Nat) : Value := .pointer (some ⟨b, 0, none⟩)
def byteV (l : List UInt8) : List Value := l.map fun x => .int .u8 (x.toNat : Int)
def diskCell (bm : Nat) (D : DiskD) : Nat → Value
  | 0 => .bool true
  | 1 => .int .i64 (D.room : Int)
  | 2 => .map (some bm)
  | 3 => .bool D.fused
  | _ => .int .i64 (D.calls : Int)
def fileCell (v : Value) (F : FileD) : Nat → Value
  | 0 => v
  | 1 => .int .i64 (F.sure : Int)
  | _ => .bool F.fresh
/-- A file in block fb; its blocks are tagged with its key. -/
structure FileAt (tag : Nat → Option Lit) (w : World) (k : Lit) (fb : Nat) (F : FileD) : Prop where
  row : ∃ v, CellsAt w fb 3 (fileCell v F) ∧ w.ownsRow 0 5 1 v F.bytes.length (byteV F.bytes) ∧ ∀ r, v.ownBlock = some r → tag r = some k ∧ r ≠ fb
  mine : tag fb = some k
structure DiskBy (tag : Nat → Option Lit) (blk : Lit → Nat) (bm : Nat) (w : World) (b : Nat) (D : DiskD) (T : Nat → Prop) : Prop where
  head : CellsAt w b 5 (diskCell bm D)
  map : MapL Tryz.prog 9 w bm (mapE (fun k _ => ptr (blk k)) D.files)
  held : ∀ p ∈ D.files, FileAt tag w p.1 (blk p.1) p.2
  tagb : tag b = none
  tagm : tag bm = none
  ne : b ≠ bm
  fine : Fine D
  mineb : T b
  minem : T bm
  minet : ∀ i k, tag i = some k → T i
  old : ∀ i, T i → i < w.heap.size
def DiskAt (w : World) (b : Nat) (D : DiskD) (T : Nat → Prop) : Prop := ∃ tag blk bm, DiskBy tag blk bm w b D T
/-- T, and the blocks made since. -/
def More (T : Nat → Prop) (w w' : World) (i : Nat) : Prop := T i ∨ (w.heap.size ≤ i ∧ i < w'.heap.size)
theorem mapl_kept {T : Nat → Prop} {w w' : World} {bm : Nat} {es : List (Lit × Value)} (h : MapL Tryz.prog 9 w bm es) (hk : Kept T w w') (hT : ¬ T bm) : MapL Tryz.prog 9 w' bm es := by
  have hlt := h.lt
  obtain ⟨xs, clock, hh, r⟩ := h
  exact ⟨xs, clock, (hk.block bm hlt hT).trans hh, r⟩
theorem own_kept {T : Nat → Prop} {w w' : World} {base : Nat} {e : TypeId} {size : Nat} {v : Value} {n : Nat} {xs : List Value} (h : w.ownsRow base e size v n xs) (hk : Kept T w w') (hT : ∀ r, v.ownBlock = some r → ¬ T r) : w'.ownsRow base e size v n xs := by
  have hlt := h.lt
  obtain ⟨hl, ⟨h1, h2⟩ | ⟨g, cap, cur, rfl, hg, hb, r⟩⟩ := h
  · exact ⟨hl, .inl ⟨h1, h2⟩⟩
  · refine ⟨hl, .inr ⟨g, cap, cur, rfl, hg, ?_, r⟩⟩
    rw [hk.block g (hlt g rfl).2 (hT g rfl)]
    exact hb
theorem FileAt.next {tag tag' : Nat → Option Lit} {w w' : World} {k : Lit} {fb : Nat} {F : FileD} {X : Nat → Prop} (h : FileAt tag w k fb F) (hk : Kept X w w') (hX : ∀ i, tag i = some k → ¬ X i) (ht : ∀ i, i < w.heap.size → tag' i = tag i) : FileAt tag' w' k fb F := by
  obtain ⟨⟨v, h1, h2, h3⟩, h4⟩ := h
  have hlt := h1.lt (by omega)
  exact ⟨⟨v, h1.kept hk hlt (hX _ h4), own_kept h2 hk (fun r hr => hX _ (h3 r hr).1), fun r hr => ⟨(ht r (h2.lt r hr).2).trans (h3 r hr).1, (h3 r hr).2⟩⟩, (ht _ hlt).trans h4⟩
section
variable {tag : Nat → Option Lit} {blk : Lit → Nat} {bm : Nat} {w w' : World} {b : Nat} {D : DiskD} {T T' : Nat → Prop}
theorem DiskBy.lt (h : DiskBy tag blk bm w b D T) : b < w.heap.size := h.head.lt (by omega)
/-- What happens elsewhere. -/
theorem DiskBy.next (h : DiskBy tag blk bm w b D T) (hk : Kept (fun i => ¬ T i) w w') : DiskBy tag blk bm w' b D T :=
  ⟨h.head.kept hk h.lt (fun n => n h.mineb), mapl_kept h.map hk (fun n => n h.minem), fun p hp => (h.held p hp).next hk (fun i hi n => n (h.minet i _ hi)) (fun _ _ => rfl), h.tagb, h.tagm, h.ne, h.fine, h.mineb, h.minem, h.minet, fun i hi => Nat.lt_of_lt_of_le (h.old i hi) hk.size⟩
theorem DiskAt.next (h : DiskAt w b D T) (hk : Kept (fun i => ¬ T i) w w') : DiskAt w' b D T := by
  obtain ⟨tag, blk, bm, h⟩ := h
  exact ⟨tag, blk, bm, h.next hk⟩
theorem DiskBy.later (h : DiskBy tag blk bm w b D T) (hb : Below w.heap.size w w') : DiskBy tag blk bm w' b D T := h.next (Kept.of_below hb)
theorem DiskBy.wide (h : DiskBy tag blk bm w b D T) (hT : ∀ i, T i → T' i) (ho : ∀ i, T' i → i < w.heap.size) : DiskBy tag blk bm w b D T' := ⟨h.head, h.map, h.held, h.tagb, h.tagm, h.ne, h.fine, hT _ h.mineb, hT _ h.minem, fun i k hi => hT _ (h.minet i k hi), ho⟩
theorem DiskBy.drew (h : DiskBy tag blk bm w b D T) : DiskBy tag blk bm w.drew b D T := h.later ((Below.refl _ w).drew)
theorem DiskBy.drewN (h : DiskBy tag blk bm w b D T) (n : Nat) : DiskBy tag blk bm (w.drewN n) b D T := h.later ((Below.refl _ w).drewN n)
/-- The head turned. -/
theorem DiskBy.turned (h : DiskBy tag blk bm w b D T) {D' : DiskD} (hf : D'.files = D.files) (hk : Kept (fun i => i = b) w w') (hc : CellsAt w' b 5 (diskCell bm D')) (hfine : Fine D') : DiskBy tag blk bm w' b D' T := by
  have hnb : bm ≠ b := fun e => h.ne e.symm
  refine ⟨hc, ?_, fun p hp => ?_, h.tagb, h.tagm, h.ne, hfine, h.mineb, h.minem, h.minet, fun i hi => Nat.lt_of_lt_of_le (h.old i hi) hk.size⟩
  · rw [hf]; exact mapl_kept h.map hk hnb
  · rw [hf] at hp
    exact (h.held p hp).next hk (fun i hi e => by rw [e, h.tagb] at hi; cases hi) (fun _ _ => rfl)
/-- One file turned. -/
theorem DiskBy.file (h : DiskBy tag blk bm w b D T) {tag' : Nat → Option Lit} {k : Lit} {F F' : FileD} (hl : lookL D.files k = some F) (hk : Kept (fun i => tag i = some k) w w') (hf : FileAt tag' w' k (blk k) F') (ht : ∀ i, i < w.heap.size → tag' i = tag i) (hn : ∀ i q, w.heap.size ≤ i → tag' i = some q → i < w'.heap.size) (hfine : Fine (withFile D k F')) : DiskBy tag' blk bm w' b (withFile D k F') (More T w w') := by
  have hm := mem_of_look hl
  refine ⟨h.head.kept hk h.lt (fun e => by rw [h.tagb] at e; cases e), ?_, fun p hp => ?_, (ht _ h.lt).trans h.tagb, (ht _ h.map.lt).trans h.tagm, h.ne, hfine, .inl h.mineb, .inl h.minem, fun i q hi => ?_, fun i hi => ?_⟩
  · show MapL _ _ w' bm (mapE (fun q _ => ptr (blk q)) (setL D.files k F'))
    rw [mapE_set (fun q => ptr (blk q))]
    exact mapl_kept h.map hk (fun e => by rw [h.tagm] at e; cases e)
  · rcases mem_set hp with ⟨hp, hs⟩ | ⟨e1, e2⟩
    · refine (h.held p hp).next hk (fun i hi e => ?_) ht
      rw [hi] at e
      injection e with e
      rw [e, WideAt.sameKey_self (h.fine.key hm)] at hs
      cases hs
    · rw [e1, e2]; exact hf
  · rcases Nat.lt_or_ge i w.heap.size with hlt | hge
    · exact .inl (h.minet i q ((ht i hlt).symm.trans hi))
    · exact .inr ⟨hge, hn i q hge hi⟩
  · rcases hi with hi | hi
    · exact Nat.lt_of_lt_of_le (h.old i hi) hk.size
    · exact hi.2
/-- One file gone. -/
theorem DiskBy.dropped (h : DiskBy tag blk bm w b D T) {k : Lit} (hm : MapL Tryz.prog 9 w' bm (delL (mapE (fun k _ => ptr (blk k)) D.files) k)) (ht : w.mapTurned w' bm) : DiskBy tag blk bm w' b { D with files := delL D.files k } T := by
  have hk : Kept (fun i => i = bm) w w' := Kept.turned (T := fun i => i = bm) (Kept.refl _ w) ht (.inl rfl)
  rw [mapE_del] at hm
  exact ⟨h.head.kept hk h.lt h.ne, hm, fun p hp => (h.held p (mem_del hp).1).next hk (fun i hi e => by rw [e, h.tagm] at hi; cases hi) (fun _ _ => rfl), h.tagb, h.tagm, h.ne, h.fine.drop k, h.mineb, h.minem, h.minet, fun i hi => Nat.lt_of_lt_of_le (h.old i hi) hk.size⟩
/-- One file more: its struct was made in block c, the map turned. -/
theorem DiskBy.put (h : DiskBy tag blk bm w b D T) {w2 : World} {n : List UInt8} {c : Nat} (hb1 : Below w.heap.size w w2) (hc : w.heap.size ≤ c) (hc2 : c < w2.heap.size) (hcells : CellsAt w2 c 3 (fileCell (.slice none 0 0) ⟨[], 0, true⟩)) (hm : MapL Tryz.prog 9 w' bm (putL (mapE (fun k _ => ptr (blk k)) D.files) (keyS n) (ptr c))) (ht : w2.mapTurned w' bm)
    (hn : mayName n = true) (hl : lookL D.files (keyS n) = none) (hf : D.files.length < 16) :
    DiskBy (fun i => if i = c then some (keyS n) else tag i) (fun q => if q.sameKey (keyS n) then c else blk q) bm w' b { D with files := putL D.files (keyS n) ⟨[], 0, true⟩ } (More T w w') := by
  have hk2 : Kept (fun i => i = bm) w2 w' := Kept.turned (T := fun i => i = bm) (Kept.refl _ w2) ht (.inl rfl)
  have hk : Kept (fun i => i = bm) w w' := (Kept.of_below (T := fun i => i = bm) hb1).trans hk2 (fun _ h => .inl h)
  have hold : ∀ p ∈ D.files, p.1.sameKey (keyS n) = false := fun p hp => by
    unfold lookL at hl
    rw [Option.map_eq_none_iff, List.find?_eq_none] at hl
    simpa using hl p hp
  have hself : (keyS n).sameKey (keyS n) = true := WideAt.sameKey_self (isKey n)
  have hbc : b ≠ c := by have := h.lt; omega
  have hmc : bm ≠ c := by have := h.map.lt; omega
  refine ⟨h.head.kept hk h.lt h.ne, ?_, fun p hp => ?_, by rw [if_neg hbc]; exact h.tagb, by rw [if_neg hmc]; exact h.tagm, h.ne, h.fine.put hn hl hf, .inl h.mineb, .inl h.minem, fun i q hi => ?_, fun i hi => ?_⟩
  · have he : mapE (fun q (_ : FileD) => ptr (if q.sameKey (keyS n) then c else blk q)) D.files = mapE (fun k (_ : FileD) => ptr (blk k)) D.files := mapE_congr _ _ _ fun p hp => by rw [hold p hp]; rfl
    show MapL _ _ w' bm (mapE (fun q (_ : FileD) => ptr (if q.sameKey (keyS n) then c else blk q)) (putL D.files (keyS n) ⟨[], 0, true⟩))
    rw [← mapE_put (fun q (_ : FileD) => ptr (if q.sameKey (keyS n) then c else blk q)), he, hself]
    exact hm
  · rcases mem_put hp with rfl | ⟨hp, _⟩
    · simp only [hself, if_true]
      refine ⟨⟨.slice none 0 0, hcells.kept hk2 hc2 (fun e => hmc e.symm), ⟨rfl, .inl ⟨rfl, rfl⟩⟩, fun r hr => by cases hr⟩, by simp⟩
    · simp only [hold p hp, Bool.false_eq_true, if_false]
      refine (h.held p hp).next hk (fun i hi e => by rw [e, h.tagm] at hi; cases hi) (fun i hi => ?_)
      rw [if_neg (by omega)]
  · by_cases hic : i = c
    · subst hic
      exact .inr ⟨hc, Nat.lt_of_lt_of_le hc2 hk2.size⟩
    · rw [if_neg hic] at hi
      exact .inl (h.minet i q hi)
  · rcases hi with hi | hi
    · exact Nat.lt_of_lt_of_le (h.old i hi) hk.size
    · exact hi.2
end
end Go.Proofs.YtpiaplgbpjgjiaaGreatDoor.Dk
end

/-
  Disks (layer 7): the small walks: there, still, done, find, open. No condition.
-/
section
open Go Go.RowKit
namespace Go.Proofs.YtpiaplgbpjgjiaaGreatDoor.Dk
open Base Mp

theorem There_no (w : World) : Calls Tryz.prog 49 #[.pointer none] w fun e w' => e = .returned (.bool false) ∧ w = w' := by
  go_enter Tryz.func49, Tryz.ntmps49
  go_wp2
  go_ret
  exact ⟨rfl, rfl⟩
/-- The head's cells, one by one. -/
structure HeadIs (w : World) (b bm : Nat) (D : DiskD) : Prop where
  c0 : w.cell? ⟨b, 0, none⟩ = some (.bool true)
  c1 : w.cell? ⟨b, 1, none⟩ = some (.int .i64 (D.room : Int))
  c2 : w.cell? ⟨b, 2, none⟩ = some (.map (some bm))
  c3 : w.cell? ⟨b, 3, none⟩ = some (.bool D.fused)
  c4 : w.cell? ⟨b, 4, none⟩ = some (.int .i64 (D.calls : Int))
  f3 : w.frozen? ⟨b, 3, none⟩ = false
  f4 : w.frozen? ⟨b, 4, none⟩ = false
theorem DiskBy.is {tag : Nat → Option Lit} {blk : Lit → Nat} {bm : Nat} {w : World} {b : Nat} {D : DiskD} {T : Nat → Prop} (h : DiskBy tag blk bm w b D T) : HeadIs w b bm D :=
  ⟨(h.head 0 (by omega)).1, (h.head 1 (by omega)).1, (h.head 2 (by omega)).1, (h.head 3 (by omega)).1, (h.head 4 (by omega)).1, (h.head 3 (by omega)).2, (h.head 4 (by omega)).2⟩
theorem There_yes (w : World) (b bm : Nat) (D : DiskD) (h : HeadIs w b bm D) : Calls Tryz.prog 49 #[.pointer (some ⟨b, 0, none⟩)] w fun e w' => e = .returned (.bool true) ∧ w = w' := by
  have c0 := h.c0
  clear h
  go_enter Tryz.func49, Tryz.ntmps49
  go_wp2
  go_ret
  exact ⟨rfl, rfl⟩
theorem Still_f (w : World) (b bm : Nat) (D : DiskD) (h : HeadIs w b bm D) : Calls Tryz.prog 54 #[.pointer (some ⟨b, 0, none⟩)] w fun e w' => e = .returned (.bool (still D)) ∧ w = w' := by
  have c3 := h.c3
  have c4 := h.c4
  clear h
  obtain ⟨rm, fs, fu, ca⟩ := D
  simp only at c3 c4
  cases fu
  · go_enter Tryz.func54, Tryz.ntmps54
    go_wp2
    go_ret
    exact ⟨rfl, rfl⟩
  · have HE := Lib.hid (show still ⟨rm, fs, true, ca⟩ = ((ca : Int) == 0) by rw [show still ⟨rm, fs, true, ca⟩ = (ca == 0) from rfl, Bool.eq_iff_iff]; simp)
    go_enter Tryz.func54, Tryz.ntmps54
    go_wp2
    go_ret
    rw [HE.out]
    exact ⟨rfl, rfl⟩
section
variable {tag : Nat → Option Lit} {blk : Lit → Nat} {bm : Nat} {w : World} {b : Nat} {D : DiskD} {T : Nat → Prop}
theorem Done_f (h : DiskBy tag blk bm w b D T) (hs : still D = false) : Calls Tryz.prog 55 #[.pointer (some ⟨b, 0, none⟩)] w fun e w' => e = .returned (.int .i64 0) ∧ DiskBy tag blk bm w' b (done D) T ∧ Kept (fun x => x = b) w w' := by
  have H := Lib.hid h
  have c3 := h.is.c3
  have c4 := h.is.c4
  have f4 := h.is.f4
  have hc := h.fine.calls
  clear h
  by_cases hf : D.fused = true
  · have hca : 0 < D.calls := by
      unfold still at hs
      rw [hf] at hs
      rcases Nat.eq_zero_or_pos D.calls with h | h
      · rw [h] at hs; simp at hs
      · exact h
    have HD := Lib.hid (show done D = { D with calls := D.calls - 1 } by unfold done; rw [if_pos hf])
    rw [hf] at c3
    have HF := Lib.hid hf
    clear hf hs
    go_enter Tryz.func55, Tryz.ntmps55
    go_wp2
    go_ret
    refine ⟨rfl, ?_, Kept.setCell (T := fun x => x = b) (Kept.refl _ w) (.inl rfl) _⟩
    refine H.out.turned (by rw [HD.out]) (Kept.setCell (T := fun x => x = b) (Kept.refl _ w) (.inl rfl) _) ((CellsAt.set H.out.head (i := 4) (by omega) _).congr fun j hj => ?_) H.out.fine.done
    rw [HD.out]
    have : j = 0 ∨ j = 1 ∨ j = 2 ∨ j = 3 ∨ j = 4 := by omega
    rcases this with rfl | rfl | rfl | rfl | rfl
    · rfl
    · rfl
    · rfl
    · rfl
    · show Value.int .i64 ((D.calls : Int) - 1) = Value.int .i64 ((D.calls - 1 : Nat) : Int)
      congr 1
      omega
  · have hf' : D.fused = false := by simpa using hf
    have HD := Lib.hid (show done D = D by unfold done; rw [if_neg hf])
    rw [hf'] at c3
    clear hf hf' hs
    go_enter Tryz.func55, Tryz.ntmps55
    go_wp2
    go_ret
    rw [HD.out]
    exact ⟨rfl, H.out, Kept.refl _ _⟩
theorem Find_yes (h : DiskBy tag blk bm w b D T) (n : List UInt8) (hn : n.length ≤ maxLen) (F : FileD) (hl : lookL D.files (keyS n) = some F) : Calls Tryz.prog 52 #[.pointer (some ⟨b, 0, none⟩), .string (B n)] w fun e w' => e = .returned (.tuple #[.pointer (some ⟨blk (keyS n), 0, none⟩), .int .i64 0]) ∧ w = w' := by
  have HT := Lib.hid (There_yes w b bm D h.is)
  have c2 := h.is.c2
  have hlk := h.map.look keyedS Tryz.underlying56 (zP w) (keyB n hn)
  rw [mapE_look, hl] at hlk
  simp only [Option.map_some, Option.getD_some, ptr] at hlk
  clear h
  go_enter Tryz.func52, Tryz.ntmps52
  go_wp2_with fail
  with_reducible refine HT.out.mono ?_
  rintro e w1 ⟨rfl, rfl⟩
  go_wp2
  go_ret2
  exact ⟨rfl, rfl⟩
theorem Find_no (h : DiskBy tag blk bm w b D T) (n : List UInt8) (hn : n.length ≤ maxLen) (hl : lookL D.files (keyS n) = none) : Calls Tryz.prog 52 #[.pointer (some ⟨b, 0, none⟩), .string (B n)] w fun e w' => e = .returned (.tuple #[.pointer none, .int .i64 5]) ∧ w = w' := by
  have HT := Lib.hid (There_yes w b bm D h.is)
  have c2 := h.is.c2
  have hlk := h.map.look keyedS Tryz.underlying56 (zP w) (keyB n hn)
  rw [mapE_look, hl] at hlk
  simp only [Option.map_none, Option.getD_none] at hlk
  clear h
  go_enter Tryz.func52, Tryz.ntmps52
  go_wp2_with fail
  with_reducible refine HT.out.mono ?_
  rintro e w1 ⟨rfl, rfl⟩
  go_wp2
  go_ret2
  exact ⟨rfl, rfl⟩
theorem Find_nil (w : World) (v : Value) : Calls Tryz.prog 52 #[.pointer none, v] w fun e w' => e = .returned (.tuple #[.pointer none, .int .i64 1]) ∧ w = w' := by
  go_enter Tryz.func52, Tryz.ntmps52
  go_wp2_with (go_at_call 49; with_reducible refine (There_no _).mono ?_; rintro e w' ⟨rfl, rfl⟩)
  go_ret2
  exact ⟨rfl, rfl⟩
/-- What open hands back. -/
def opened (blk : Lit → Nat) (D : DiskD) (n : List UInt8) : Value × Int :=
  if still D = true then (.pointer none, 70) else if (lookL D.files (keyS n)).isSome then (.pointer (some ⟨blk (keyS n), 0, none⟩), 0) else (.pointer none, 5)
theorem Open_f (h : DiskBy tag blk bm w b D T) (n : List UInt8) (hn : n.length ≤ maxLen) : Calls Tryz.prog 57 #[.pointer (some ⟨b, 0, none⟩), .string (B n)] w fun e w' => e = .returned (.tuple #[(opened blk D n).1, .int .i64 (opened blk D n).2]) ∧ w = w' := by
  have HT := Lib.hid (There_yes w b bm D h.is)
  have HS := Lib.hid (Still_f w b bm D h.is)
  cases hst : still D with
  | true =>
    rw [hst] at HS
    have HE := Lib.hid (show opened blk D n = (.pointer none, 70) by unfold opened; rw [if_pos hst])
    clear h
    go_enter Tryz.func57, Tryz.ntmps57
    go_wp2_with fail
    with_reducible refine HT.out.mono ?_
    rintro e w1 ⟨rfl, rfl⟩
    go_wp2_with fail
    with_reducible refine HS.out.mono ?_
    rintro e w1 ⟨rfl, rfl⟩
    go_wp2
    go_ret2
    rw [HE.out]
    exact ⟨rfl, rfl⟩
  | false =>
    rw [hst] at HS
    have HF := Lib.hid (show Calls Tryz.prog 52 #[.pointer (some ⟨b, 0, none⟩), .string (B n)] w fun e w' => e = .returned (.tuple #[(opened blk D n).1, .int .i64 (opened blk D n).2]) ∧ w = w' by
      cases hl : lookL D.files (keyS n) with
      | none =>
        rw [show opened blk D n = (.pointer none, 5) by unfold opened; rw [if_neg (by rw [hst]; decide), hl]; rfl]
        exact Find_no h n hn hl
      | some F =>
        rw [show opened blk D n = (.pointer (some ⟨blk (keyS n), 0, none⟩), 0) by unfold opened; rw [if_neg (by rw [hst]; decide), hl]; rfl]
        exact Find_yes h n hn F hl)
    clear h
    obtain ⟨v, hv⟩ : ∃ v, v = (opened blk D n).1 := ⟨_, rfl⟩
    obtain ⟨x, hx⟩ : ∃ x, x = (opened blk D n).2 := ⟨_, rfl⟩
    rw [← hv, ← hx] at HF
    rw [← hv, ← hx]
    clear hv hx
    go_enter Tryz.func57, Tryz.ntmps57
    go_wp2_with fail
    with_reducible refine HT.out.mono ?_
    rintro e w1 ⟨rfl, rfl⟩
    go_wp2_with fail
    with_reducible refine HS.out.mono ?_
    rintro e w1 ⟨rfl, rfl⟩
    go_wp2_with fail
    with_reducible refine HF.out.mono ?_
    rintro e w1 ⟨rfl, rfl⟩
    go_wp2
    go_ret2
    exact ⟨rfl, rfl⟩
theorem Open_nil (w : World) (v : Value) : Calls Tryz.prog 57 #[.pointer none, v] w fun e w' => e = .returned (.tuple #[.pointer none, .int .i64 1]) ∧ w = w' := by
  go_enter Tryz.func57, Tryz.ntmps57
  go_wp2_with (first | (go_at_call 49; with_reducible refine (There_no _).mono ?_; rintro e w' ⟨rfl, rfl⟩) | (go_at_call 52; with_reducible refine (Find_nil _ _).mono ?_; rintro e w' ⟨rfl, rfl⟩))
  go_ret2
  exact ⟨rfl, rfl⟩
end
end Go.Proofs.YtpiaplgbpjgjiaaGreatDoor.Dk
end

/-
  Disks (layer 7): the walks of a file: sync, loose; and of the calls on one: Sync, Cut, Read, Loose, Fuse, New, Remove. No condition.
-/
section
open Go Go.RowKit
namespace Go.Proofs.YtpiaplgbpjgjiaaGreatDoor.Dk
open Base Mp
attribute [local go_sem ↓] Go.wp_at_zero Go.wp_at_succ

theorem own_take {w : World} {base : Nat} {e : TypeId} {v : Value} {n m : Nat} {xs : List Value} (h : w.ownsRow base e 1 v n xs) (hm : m ≤ n) : ∃ p cap, v = .slice p n cap ∧ (p = none → n = 0 ∧ cap = 0) ∧ (∀ a, p = some a → a = ⟨a.block, 0, none⟩) ∧ n ≤ cap ∧ cap ≤ maxLen ∧ w.ownsRow base e 1 (.slice p m cap) m (xs.take m) ∧ (Value.slice p m cap).ownBlock = v.ownBlock := by
  obtain ⟨hl, ⟨rfl, h2⟩ | ⟨g, cap, cur, rfl, hg, hb, hnc, hcm, hcs, ht⟩⟩ := h
  · subst h2
    obtain rfl : m = 0 := by omega
    exact ⟨none, 0, rfl, fun _ => ⟨rfl, rfl⟩, fun a h => (by cases h), Nat.le_refl _, Nat.zero_le _, ⟨by simp, .inl ⟨rfl, rfl⟩⟩, rfl⟩
  · refine ⟨some ⟨g, 0, none⟩, cap, rfl, fun h => (by cases h), fun a h => (by injection h with h; rw [← h]), hnc, hcm, ⟨by rw [List.length_take]; omega, .inr ⟨g, cap, cur, rfl, hg, hb, by omega, hcm, hcs, ?_⟩⟩, rfl⟩
    rw [← ht, List.take_take]
    congr 1
    omega
section
variable {tag : Nat → Option Lit} {blk : Lit → Nat} {bm : Nat} {w : World} {b : Nat} {D : DiskD} {T : Nat → Prop}
theorem DiskBy.at (h : DiskBy tag blk bm w b D T) {k : Lit} {F : FileD} (hl : lookL D.files k = some F) : FileAt tag w k (blk k) F := h.held _ (mem_of_look hl)
theorem byteV_take (l : List UInt8) (n : Nat) : (byteV l).take n = byteV (l.take n) := by simp [byteV]
/-- The struct and the row of a file turned, in place. -/
theorem DiskBy.inplace (h : DiskBy tag blk bm w b D T) {k : Lit} {F F' : FileD} {v v' : Value} {w' : World} (hl : lookL D.files k = some F) (hk : Kept (fun i => tag i = some k) w w') (hz : w'.heap.size = w.heap.size) (hc : CellsAt w' (blk k) 3 (fileCell v' F')) (hr : w'.ownsRow 0 5 1 v' F'.bytes.length (byteV F'.bytes)) (hv : ∀ r, v.ownBlock = some r → tag r = some k ∧ r ≠ blk k) (ho : v'.ownBlock = v.ownBlock) (hfine : Fine (withFile D k F')) : DiskBy tag blk bm w' b (withFile D k F') T := by
  have h1 := h.file hl hk ⟨⟨v', hc, hr, fun r hr => hv r (ho ▸ hr)⟩, (h.at hl).mine⟩ (fun _ _ => rfl) (fun i q hi hq => by have := h.old i (h.minet i q hq); omega) hfine
  refine h1.wide (fun i hi => ?_) (fun i hi => by rw [hz]; exact h.old i hi)
  rcases hi with hi | hi
  · exact hi
  · omega
theorem three_set {w : World} {k : Lit} {fb : Nat} (v' : Value) (F F' : FileD) {v : Value} (hm : tag fb = some k) (hc : CellsAt w fb 3 (fileCell v F)) {base : Nat} {xs : List Value} {n : Nat} (hr : w.ownsRow base 5 1 v' n xs) (hv : ∀ r, v'.ownBlock = some r → r ≠ fb) :
    Kept (fun i => tag i = some k) w (((w.setCell ⟨fb, 0, none⟩ v').setCell ⟨fb, 1, none⟩ (.int .i64 (F'.sure : Int))).setCell ⟨fb, 2, none⟩ (.bool F'.fresh)) ∧ (((w.setCell ⟨fb, 0, none⟩ v').setCell ⟨fb, 1, none⟩ (.int .i64 (F'.sure : Int))).setCell ⟨fb, 2, none⟩ (.bool F'.fresh)).heap.size = w.heap.size ∧
      CellsAt (((w.setCell ⟨fb, 0, none⟩ v').setCell ⟨fb, 1, none⟩ (.int .i64 (F'.sure : Int))).setCell ⟨fb, 2, none⟩ (.bool F'.fresh)) fb 3 (fileCell v' F') ∧ (((w.setCell ⟨fb, 0, none⟩ v').setCell ⟨fb, 1, none⟩ (.int .i64 (F'.sure : Int))).setCell ⟨fb, 2, none⟩ (.bool F'.fresh)).ownsRow base 5 1 v' n xs := by
  have hk : Kept (fun i => i = fb) w (((w.setCell ⟨fb, 0, none⟩ v').setCell ⟨fb, 1, none⟩ (.int .i64 (F'.sure : Int))).setCell ⟨fb, 2, none⟩ (.bool F'.fresh)) := Kept.setCell (T := fun i => i = fb) (Kept.setCell (T := fun i => i = fb) (Kept.setCell (T := fun i => i = fb) (Kept.refl _ w) (.inl rfl) _) (.inl rfl) _) (.inl rfl) _
  refine ⟨hk.mono (fun i e => by rw [e]; exact hm), by simp, (CellsAt.set (CellsAt.set (CellsAt.set hc (i := 0) (by omega) v') (i := 1) (by omega) (.int .i64 (F'.sure : Int))) (i := 2) (by omega) (.bool F'.fresh)).congr fun j hj => ?_, own_kept hr hk (fun r hr e => hv r hr e)⟩
  have : j = 0 ∨ j = 1 ∨ j = 2 := by omega
  rcases this with rfl | rfl | rfl <;> rfl
set_option maxRecDepth 100000 in
set_option maxHeartbeats 2000000 in
theorem FSync_f (h : DiskBy tag blk bm w b D T) {k : Lit} {F : FileD} (hl : lookL D.files k = some F) (n : Nat) (hn : n ≤ F.bytes.length) :
    Calls Tryz.prog 51 #[.pointer (some ⟨blk k, 0, none⟩), .int .i64 (n : Int)] w fun e w' => e = .returned (.tuple #[]) ∧ DiskBy tag blk bm w' b (withFile D k ⟨F.bytes.take n, n, false⟩) T ∧ Kept (fun i => tag i = some k) w w' := by
  have H := Lib.hid h
  obtain ⟨⟨v, hc, hr, hv⟩, hm⟩ := h.at hl
  obtain ⟨p, cap, rfl, hp1, hp2, hcap, hcm, hr2, hob⟩ := own_take hr hn
  have c0 := (hc 0 (by omega)).1
  have c1 := (hc 1 (by omega)).1
  have c2 := (hc 2 (by omega)).1
  have f0 := (hc 0 (by omega)).2
  have f1 := (hc 1 (by omega)).2
  have f2 := (hc 2 (by omega)).2
  simp only [fileCell] at c0 c1 c2
  have HC := Lib.hid hc
  have HR := Lib.hid hr2
  have HV := Lib.hid hv
  have HOB := Lib.hid hob
  have HM := Lib.hid hm
  have HL := Lib.hid hl
  have m1 : (n : Int) ≤ (cap : Int) := by omega
  have m2 : 0 ≤ (n : Int) := by omega
  have hcm2 : cap ≤ 9223372036854775807 := hcm
  clear hcm
  have hsh := h.fine.short (mem_of_look hl)
  have HN := Lib.hid hn
  clear h hc hr hv hm hr2 hob hl
  generalize hfb : blk k = fb at *
  have HFB := Lib.hid hfb
  clear hfb
  cases p with
  | none =>
    obtain ⟨e1, rfl⟩ := hp1 rfl
    clear hp1 hp2
    rw [e1] at hn c0
    obtain rfl : n = 0 := by omega
    rw [e1] at HC
    go_enter Tryz.func51, Tryz.ntmps51
    go_wp2_with fail
    go_end0
    refine ⟨rfl, ?_⟩
    have hg := three_set (tag := tag) (k := k) (.slice none 0 0) F ⟨F.bytes.take 0, 0, false⟩ HM.out HC.out HR.out (fun r hr => (HV.out r (HOB.out ▸ hr)).2)
    have hfi := H.out.fine.set (G := ⟨F.bytes.take 0, 0, false⟩) HL.out (Nat.zero_le _) (by have := H.out.fine.fits; simp; omega)
    refine ⟨H.out.inplace HL.out hg.1 hg.2.1 (v' := (.slice none 0 0)) (by rw [HFB.out]; exact hg.2.2.1) ⟨rfl, .inl ⟨rfl, rfl⟩⟩ (by rw [HFB.out]; exact HV.out) HOB.out hfi, hg.1⟩
  | some a =>
    obtain ⟨g, ga, rfl⟩ : ∃ g, a = ⟨g, 0, none⟩ := ⟨_, hp2 a rfl⟩
    clear hp1 hp2
    go_enter Tryz.func51, Tryz.ntmps51
    go_wp2_with fail
    go_end0
    refine ⟨rfl, ?_⟩
    have hg := three_set (tag := tag) (k := k) (.slice (some ⟨g, 0, none⟩) n cap) F ⟨F.bytes.take n, n, false⟩ HM.out HC.out HR.out (fun r hr => (HV.out r (HOB.out ▸ hr)).2)
    have hfi := H.out.fine.set (G := ⟨F.bytes.take n, n, false⟩) HL.out (by show n ≤ (F.bytes.take n).length; rw [List.length_take]; have := HN.out; omega) (by have := H.out.fine.fits; simp; omega)
    have hl : (F.bytes.take n).length = n := by rw [List.length_take]; have := HN.out; omega
    refine ⟨H.out.inplace HL.out hg.1 hg.2.1 (v' := (.slice (some ⟨g, 0, none⟩) n cap)) (by rw [HFB.out]; exact hg.2.2.1) (by rw [hl, ← byteV_take]; exact hg.2.2.2) (by rw [HFB.out]; exact HV.out) HOB.out hfi, hg.1⟩
end
end Go.Proofs.YtpiaplgbpjgjiaaGreatDoor.Dk
end

/-
  Disks (layer 7): the walks of Sync, Cut, Remove, Loose, Read, Fuse, New. No condition but that names are no longer than a string may be.
-/
section
open Go Go.RowKit
namespace Go.Proofs.YtpiaplgbpjgjiaaGreatDoor.Dk
open Base Mp
attribute [local go_sem ↓] Go.wp_at_zero Go.wp_at_succ

/-- A call on a file that is to be changed. -/
def opD (D : DiskD) (n : List UInt8) (f : FileD → DiskD × Int) : DiskD × Int :=
  if still D = true then (D, 70) else match lookL D.files (keyS n) with
    | none => (D, 5)
    | some F => f F
def syncD (D : DiskD) (n : List UInt8) : DiskD × Int := opD D n fun F => (done (withFile D (keyS n) ⟨F.bytes, F.bytes.length, false⟩), 0)
def cutD (D : DiskD) (n : List UInt8) (m : Int) : DiskD × Int := opD D n fun F => if m < 0 ∨ (F.bytes.length : Int) < m then (D, 2) else (done (withFile D (keyS n) ⟨F.bytes.take m.toNat, m.toNat, false⟩), 0)
def removeD (D : DiskD) (n : List UInt8) : DiskD × Int := opD D n fun _ => (done { D with files := delL D.files (keyS n) }, 0)
def OpPost (w : World) (b : Nat) (T : Nat → Prop) (r : DiskD × Int) (e : Ending) (w' : World) : Prop := e = .returned (.int .i64 r.2) ∧ DiskAt w' b r.1 (More T w w') ∧ Kept T w w'
theorem open_cases (blk : Lit → Nat) (D : DiskD) (n : List UInt8) : (∃ c : Int, (c == 0) = false ∧ opened blk D n = (.pointer none, c) ∧ ∀ f, opD D n f = (D, c)) ∨ (still D = false ∧ ∃ F, lookL D.files (keyS n) = some F ∧ opened blk D n = (.pointer (some ⟨blk (keyS n), 0, none⟩), 0) ∧ ∀ f, opD D n f = f F) := by
  cases hs : still D with
  | true => exact .inl ⟨70, by decide, by unfold opened; rw [if_pos hs], fun f => by unfold opD; rw [if_pos hs]⟩
  | false =>
    have hs' : ¬ still D = true := by rw [hs]; decide
    cases hl : lookL D.files (keyS n) with
    | none => exact .inl ⟨5, by decide, by unfold opened; rw [if_neg hs', hl]; rfl, fun f => by unfold opD; rw [if_neg hs', hl]⟩
    | some F => exact .inr ⟨rfl, F, rfl, by unfold opened; rw [if_neg hs', hl]; rfl, fun f => by unfold opD; rw [if_neg hs', hl]⟩
section
variable {w : World} {b : Nat} {D : DiskD} {T : Nat → Prop}
theorem DiskBy.out {tag : Nat → Option Lit} {blk : Lit → Nat} {bm : Nat} {w' : World} (h : DiskBy tag blk bm w' b D T) : DiskAt w' b D (More T w w') := ⟨tag, blk, bm, h.wide (fun _ h => .inl h) (fun i hi => by rcases hi with hi | hi; exact h.old i hi; exact hi.2)⟩
set_option maxRecDepth 100000 in
set_option maxHeartbeats 2000000 in
set_option maxRecDepth 100000 in
set_option maxHeartbeats 2000000 in
theorem Sync_f (h : DiskAt w b D T) (n : List UInt8) (hn : n.length ≤ maxLen) : Calls Tryz.prog 28 #[.pointer (some ⟨b, 0, none⟩), .string (B n)] w (OpPost w b T (syncD D n)) := by
  obtain ⟨tag, blk, bm, h⟩ := h
  have H := Lib.hid h
  have HO := Lib.hid (Open_f h n hn)
  rcases open_cases blk D n with ⟨c, hc, ho, hop⟩ | ⟨hs, F, hl, ho, hop⟩
  · rw [ho] at HO
    have HE := Lib.hid (show syncD D n = (D, c) from hop _)
    clear h hop ho
    go_enter Tryz.func28, Tryz.ntmps28
    go_wp2_with fail
    with_reducible refine HO.out.mono ?_
    rintro e w1 ⟨rfl, rfl⟩
    go_wp2
    go_ret
    rw [HE.out]
    exact ⟨rfl, H.out.out, Kept.refl _ _⟩
  · rw [ho] at HO
    have HOP := Lib.hid hop
    obtain ⟨⟨v, hcs, hr, hv⟩, hm⟩ := h.at hl
    have c0 := (hcs 0 (by omega)).1
    simp only [fileCell] at c0
    obtain ⟨p, cap, rfl, -⟩ := own_take hr (Nat.le_refl _)
    have HL := Lib.hid hl
    have HS := Lib.hid hs
    have HM := Lib.hid (show ∀ i, tag i = some (keyS n) → T i from fun i hi => h.minet i _ hi)
    have HB := Lib.hid h.mineb
    have c2 := h.is.c2
    clear h hop ho hr hv hm hs hl hcs
    have HE := Lib.hid (show syncD D n = (done (withFile D (keyS n) ⟨F.bytes, F.bytes.length, false⟩), 0) from HOP.out _)
    have HF := Lib.hid (FSync_f H.out HL.out F.bytes.length (Nat.le_refl _))
    go_enter Tryz.func28, Tryz.ntmps28
    go_wp2_with fail
    with_reducible refine HO.out.mono ?_
    rintro e w1 ⟨rfl, rfl⟩
    go_wp2_with fail
    with_reducible refine HF.out.mono ?_
    rintro e w1 ⟨rfl, h1, k1⟩
    rw [List.take_length] at h1
    replace k1 := k1.mono HM.out
    clear c0 c2
    have H1 := Lib.hid h1
    have K1 := Lib.hid k1
    have HS1 := Lib.hid (show still (withFile D (keyS n) ⟨F.bytes, F.bytes.length, false⟩) = false from HS.out)
    clear h1 k1
    go_wp2_with fail
    with_reducible refine (Done_f H1.out HS1.out).mono ?_
    rintro e w2 ⟨rfl, h2, k2⟩
    have H2 := Lib.hid h2
    have K2 := Lib.hid (K1.out.trans (k2.mono (T' := T) (fun i hi => by rw [hi]; exact HB.out)) (fun _ h => .inl h))
    clear h2 k2
    go_wp2
    go_ret
    rw [HE.out]
    exact ⟨rfl, H2.out.out, K2.out⟩
set_option maxRecDepth 100000 in
set_option maxHeartbeats 2000000 in
theorem Cut_f (h : DiskAt w b D T) (n : List UInt8) (m : Int) (hn : n.length ≤ maxLen) (hm64 : -9223372036854775808 ≤ m ∧ m ≤ 9223372036854775807) : Calls Tryz.prog 26 #[.pointer (some ⟨b, 0, none⟩), .string (B n), .int .i64 m] w (OpPost w b T (cutD D n m)) := by
  obtain ⟨tag, blk, bm, h⟩ := h
  have H := Lib.hid h
  have HO := Lib.hid (Open_f h n hn)
  rcases open_cases blk D n with ⟨c, hc, ho, hop⟩ | ⟨hs, F, hl, ho, hop⟩
  · rw [ho] at HO
    have HE := Lib.hid (show cutD D n m = (D, c) from hop _)
    clear h hop ho
    go_enter Tryz.func26, Tryz.ntmps26
    go_wp2_with fail
    with_reducible refine HO.out.mono ?_
    rintro e w1 ⟨rfl, rfl⟩
    go_wp2
    go_ret
    rw [HE.out]
    exact ⟨rfl, H.out.out, Kept.refl _ _⟩
  · rw [ho] at HO
    have HOP := Lib.hid hop
    obtain ⟨⟨v, hcs, hr, hv⟩, hm⟩ := h.at hl
    have c0 := (hcs 0 (by omega)).1
    simp only [fileCell] at c0
    obtain ⟨p, cap, rfl, -⟩ := own_take hr (Nat.le_refl _)
    have HL := Lib.hid hl
    have HS := Lib.hid hs
    have HM := Lib.hid (show ∀ i, tag i = some (keyS n) → T i from fun i hi => h.minet i _ hi)
    have HB := Lib.hid h.mineb
    have c2 := h.is.c2
    clear h hop ho hr hv hm hs hl hcs
    by_cases hm : m < 0 ∨ (F.bytes.length : Int) < m
    · have HE := Lib.hid (show cutD D n m = (D, 2) by unfold cutD; rw [HOP.out, if_pos hm])
      go_enter Tryz.func26, Tryz.ntmps26
      go_wp2_with fail
      with_reducible refine HO.out.mono ?_
      rintro e w1 ⟨rfl, rfl⟩
      by_cases hm0 : m < 0
      · clear hm
        go_wp2
        go_ret
        rw [HE.out]
        exact ⟨rfl, H.out.out, Kept.refl _ _⟩
      · have hm1 : (F.bytes.length : Int) < m := hm.resolve_left hm0
        clear hm
        go_wp2
        go_ret
        rw [HE.out]
        exact ⟨rfl, H.out.out, Kept.refl _ _⟩
    · obtain ⟨j, rfl⟩ : ∃ j : Nat, m = (j : Int) := ⟨m.toNat, by omega⟩
      have hj : j ≤ F.bytes.length := by omega
      have HE := Lib.hid (show cutD D n (j : Int) = (done (withFile D (keyS n) ⟨F.bytes.take j, j, false⟩), 0) by unfold cutD; rw [HOP.out, if_neg hm]; rfl)
      have HF := Lib.hid (FSync_f H.out HL.out j hj)
      have m0 : ¬ (j : Int) < 0 := by omega
      have m1 : (j : Int) ≤ (F.bytes.length : Int) := by omega
      clear hm
      go_enter Tryz.func26, Tryz.ntmps26
      go_wp2_with fail
      with_reducible refine HO.out.mono ?_
      rintro e w1 ⟨rfl, rfl⟩
      go_wp2_with fail
      with_reducible refine HF.out.mono ?_
      rintro e w1 ⟨rfl, h1, k1⟩
      replace k1 := k1.mono HM.out
      clear c0 c2
      have H1 := Lib.hid h1
      have K1 := Lib.hid k1
      have HS1 := Lib.hid (show still (withFile D (keyS n) ⟨F.bytes.take j, j, false⟩) = false from HS.out)
      clear h1 k1
      go_wp2_with fail
      with_reducible refine (Done_f H1.out HS1.out).mono ?_
      rintro e w2 ⟨rfl, h2, k2⟩
      have H2 := Lib.hid h2
      have K2 := Lib.hid (K1.out.trans (k2.mono (T' := T) (fun i hi => by rw [hi]; exact HB.out)) (fun _ h => .inl h))
      clear h2 k2
      go_wp2
      go_ret
      rw [HE.out]
      exact ⟨rfl, H2.out.out, K2.out⟩
end
end Go.Proofs.YtpiaplgbpjgjiaaGreatDoor.Dk
end

/-
  Disks (layer 7): the walks of New, Fuse, Read, Loose, Spoil. No condition but that names are no longer than a string may be.
-/
section
open Go Go.RowKit
namespace Go.Proofs.YtpiaplgbpjgjiaaGreatDoor.Dk
open Base Mp
attribute [local go_sem ↓] Go.wp_at_zero Go.wp_at_succ

def fuseD (D : DiskD) (m : Int) : DiskD × Int := if m < 0 then (D, 2) else ({ D with fused := true, calls := m.toNat }, 0)
/-- A call that looks at a file. -/
def findD {α : Type} (D : DiskD) (n : List UInt8) (z : α) (f : FileD → α) : α := match lookL D.files (keyS n) with
  | none => z
  | some F => f F
def readD (D : DiskD) (n : List UInt8) : List UInt8 × Int := findD D n ([], 5) fun F => (F.bytes, 0)
def looseD (D : DiskD) (n : List UInt8) : Nat := findD D n 0 fun F => F.bytes.length - F.sure
def spoilD (D : DiskD) (n : List UInt8) (m : Int) (y : UInt8) : DiskD × Int := findD D n (D, 5) fun F => if m < 0 ∨ (F.bytes.length : Int) ≤ m then (D, 2) else (withFile D (keyS n) ⟨F.bytes.set m.toNat (F.bytes.getD m.toNat 0 ^^^ y), F.sure, F.fresh⟩, 0)
section
variable {w : World} {b : Nat} {D : DiskD} {T : Nat → Prop}
theorem New_f (w : World) (r : Nat) (hr : r ≤ 4194304) : Calls Tryz.prog 6 #[.int .i64 (r : Int)] w fun e w' => ∃ b, e = .returned (.tuple #[.pointer (some ⟨b, 0, none⟩), .int .i64 0]) ∧ DiskAt w' b ⟨r, [], false, 0⟩ (fun i => w.heap.size ≤ i ∧ i < w'.heap.size) ∧ Below w.heap.size w w' := by
  have hmm := run_makeMap (P := Tryz.prog) 56 w
  have hs := alloc_more w (.map #[] 0)
  have HM := Lib.hid (Mp.made w Tryz.prog 9)
  have HB := Lib.hid (show Below w.heap.size w (w.alloc (.map #[] 0)) from (Below.refl _ _).alloc (Nat.le_refl _) _)
  have m0 : ¬ (r : Int) < 0 := by omega
  have m1 : (r : Int) ≤ 4194304 := by omega
  go_enter Tryz.func6, Tryz.ntmps6
  go_wp2
  go_ret2
  clear hmm
  obtain ⟨bm, hbm⟩ : ∃ bm, bm = w.heap.size := ⟨_, rfl⟩
  have HS := Lib.hid hs
  rw [← hbm] at HS HM ⊢
  clear hs
  have HW := Lib.hid hbm
  clear hbm
  generalize w.alloc (.map #[] 0) = w1 at *
  have hc := cells_made w1 #[.bool true, .int .i64 (r : Int), .map (some bm), .bool false, .int .i64 0] 58
  have hb2 : Below w1.heap.size w1 (w1.alloc (.cells #[.bool true, .int .i64 (r : Int), .map (some bm), .bool false, .int .i64 0] 58)) := (Below.refl _ _).alloc (Nat.le_refl _) _
  have hs2 := alloc_more w1 (.cells #[.bool true, .int .i64 (r : Int), .map (some bm), .bool false, .int .i64 0] 58)
  have hz := HS.out
  have h9 : Below bm w w1 := by rw [HW.out]; exact HB.out
  refine ⟨w1.heap.size, by first | rfl | (rw [hz]; rfl), ⟨fun _ => none, fun _ => 0, bm, hc.congr fun j hj => ?_, HM.out.next hb2, fun p hp => (by cases hp), rfl, rfl, by omega, ⟨by simp, hr, by simp [total], fun p hp => (by cases hp), fun p hp => (by cases hp), List.Pairwise.nil, (by show (0 : Nat) < 9223372036854775808; decide)⟩, by omega, by omega, fun i k h => (by cases h), fun i hi => hi.2⟩, h9.trans (hb2.mono (by omega))⟩
  have : j = 0 ∨ j = 1 ∨ j = 2 ∨ j = 3 ∨ j = 4 := by have : j < 5 := hj; omega
  rcases this with rfl | rfl | rfl | rfl | rfl <;> rfl
theorem Fuse_f (h : DiskAt w b D T) (m : Int) (hm : m ≤ 9223372036854775807) : Calls Tryz.prog 44 #[.pointer (some ⟨b, 0, none⟩), .int .i64 m] w (OpPost w b T (fuseD D m)) := by
  obtain ⟨tag, blk, bm, h⟩ := h
  have H := Lib.hid h
  have HT := Lib.hid (There_yes w b bm D h.is)
  have c3 := h.is.c3
  have c4 := h.is.c4
  have f3 := h.is.f3
  have f4 := h.is.f4
  clear h
  by_cases hm0 : m < 0
  · have HE := Lib.hid (show fuseD D m = (D, 2) by unfold fuseD; rw [if_pos hm0])
    go_enter Tryz.func44, Tryz.ntmps44
    go_wp2_with fail
    with_reducible refine HT.out.mono ?_
    rintro e w1 ⟨rfl, rfl⟩
    go_wp2
    go_ret
    rw [HE.out]
    exact ⟨rfl, H.out.out, Kept.refl _ _⟩
  · have HE := Lib.hid (show fuseD D m = ({ D with fused := true, calls := m.toNat }, 0) by unfold fuseD; rw [if_neg hm0])
    have HN := Lib.hid (show ((m.toNat : Nat) : Int) = m by omega)
    go_enter Tryz.func44, Tryz.ntmps44
    go_wp2_with fail
    with_reducible refine HT.out.mono ?_
    rintro e w1 ⟨rfl, rfl⟩
    go_wp2
    go_ret
    rw [HE.out]
    have hk : Kept (fun i => i = b) w ((w.setCell ⟨b, 3, none⟩ (.bool true)).setCell ⟨b, 4, none⟩ (.int .i64 m)) := Kept.setCell (T := fun i => i = b) (Kept.setCell (T := fun i => i = b) (Kept.refl _ w) (.inl rfl) _) (.inl rfl) _
    have h0 := H.out
    refine ⟨rfl, DiskBy.out (h0.turned rfl hk ((CellsAt.set (CellsAt.set h0.head (i := 3) (by omega) (.bool true)) (i := 4) (by omega) (.int .i64 m)).congr fun j hj => ?_) ⟨h0.fine.few, h0.fine.room, h0.fine.fits, h0.fine.names, h0.fine.sure, h0.fine.apart, ?_⟩), hk.mono fun i hi => by rw [hi]; exact h0.mineb⟩
    · have : j = 0 ∨ j = 1 ∨ j = 2 ∨ j = 3 ∨ j = 4 := by omega
      rcases this with rfl | rfl | rfl | rfl | rfl
      · rfl
      · rfl
      · rfl
      · rfl
      · show Value.int .i64 m = Value.int .i64 ((m.toNat : Nat) : Int)
        rw [HN.out]
    · show m.toNat < 9223372036854775808
      omega
theorem own_bytes {w : World} {v : Value} {l : List UInt8} (h : w.ownsRow 0 5 1 v l.length (byteV l)) : (v = .slice none 0 0 ∧ l = []) ∨ ∃ g cap, v = .slice (some ⟨g, 0, none⟩) l.length cap ∧ BytesAt w g l := by
  obtain ⟨hl, ⟨h1, h2⟩ | ⟨g, cap, cur, h1, hg, hb, hnc, hcm, hcs, ht⟩⟩ := h
  · exact .inl ⟨h1, List.length_eq_zero_iff.1 h2⟩
  · refine .inr ⟨g, cap, h1, fun j hj => ⟨?_, ?_⟩⟩
    · have h2 : (cur.toList.take (l.length * 1))[j]? = (byteV l)[j]? := by rw [ht]
      rw [List.getElem?_take_of_lt (by omega)] at h2
      simp [World.cell?, hb, byteV, hj] at h2 ⊢
      exact h2
    · simp [World.frozen?, hb]
theorem Read_f (h : DiskAt w b D T) (n : List UInt8) (hn : n.length ≤ maxLen) : Calls Tryz.prog 23 #[.pointer (some ⟨b, 0, none⟩), .string (B n)] w fun e w' => e = .returned (.tuple #[.string (B (readD D n).1), .int .i64 (readD D n).2]) ∧ w = w' := by
  obtain ⟨tag, blk, bm, h⟩ := h
  cases hl : lookL D.files (keyS n) with
  | none =>
    have HF := Lib.hid (Find_no h n hn hl)
    have HE := Lib.hid (show readD D n = ([], 5) by unfold readD findD; rw [hl])
    clear h hl
    go_enter Tryz.func23, Tryz.ntmps23
    go_wp2_with fail
    with_reducible refine HF.out.mono ?_
    rintro e w1 ⟨rfl, rfl⟩
    go_wp2
    go_ret2
    rw [HE.out]
    exact ⟨rfl, rfl⟩
  | some F =>
    have HF := Lib.hid (Find_yes h n hn F hl)
    have HE := Lib.hid (show readD D n = (F.bytes, 0) by unfold readD findD; rw [hl])
    obtain ⟨⟨v, hcs, hr, hv⟩, hm⟩ := h.at hl
    have c0 := (hcs 0 (by omega)).1
    simp only [fileCell] at c0
    rcases own_bytes hr with ⟨rfl, hb⟩ | ⟨g, cap, rfl, hb⟩
    · have hcv : (convert 74 9 (.slice none 0 0)).run Tryz.prog w = .ok (.string (B F.bytes)) w := by rw [hb]; kernel_rfl
      clear h hl hcs hr hv hm hb
      go_enter Tryz.func23, Tryz.ntmps23
      go_wp2_with fail
      with_reducible refine HF.out.mono ?_
      rintro e w1 ⟨rfl, rfl⟩
      go_wp2
      go_ret2
      rw [HE.out]
      exact ⟨rfl, rfl⟩
    · have hcv := hb.back (P := Tryz.prog) 74 9 5 F.bytes.length cap rfl Tryz.underlying74 Tryz.underlying5 Tryz.underlying9
      clear h hl hcs hr hv hm hb
      go_enter Tryz.func23, Tryz.ntmps23
      go_wp2_with fail
      with_reducible refine HF.out.mono ?_
      rintro e w1 ⟨rfl, rfl⟩
      go_wp2
      go_ret2
      rw [HE.out]
      exact ⟨rfl, rfl⟩
theorem FLoose_f {tag : Nat → Option Lit} {blk : Lit → Nat} {bm : Nat} (h : DiskBy tag blk bm w b D T) {k : Lit} {F : FileD} (hl : lookL D.files k = some F) : Calls Tryz.prog 50 #[.pointer (some ⟨blk k, 0, none⟩)] w fun e w' => e = .returned (.int .i64 ((F.bytes.length - F.sure : Nat) : Int)) ∧ ∃ m, w' = w.drewN m := by
  obtain ⟨⟨v, hcs, hr, hv⟩, hm⟩ := h.at hl
  have c0 := (hcs 0 (by omega)).1
  have c1 := (hcs 1 (by omega)).1
  simp only [fileCell] at c0 c1
  obtain ⟨p, cap, rfl, -⟩ := own_take hr (Nat.le_refl _)
  have hs := h.fine.sure _ (mem_of_look hl)
  have hsh := h.fine.short (mem_of_look hl)
  simp only at hs hsh
  have e1 : (F.bytes.length : Int) - (F.sure : Int) = ((F.bytes.length - F.sure : Nat) : Int) := by omega
  have HE := Lib.hid e1
  clear h hl hcs hr hv hm e1
  generalize blk k = fb at *
  go_enter Tryz.func50, Tryz.ntmps50
  go_wp2_with fail
  go_quiet (fail)
  go_wp2
  go_ret
  rw [HE.out]
  exact ⟨rfl, _, rfl⟩
theorem Loose_f (h : DiskAt w b D T) (n : List UInt8) (hn : n.length ≤ maxLen) : Calls Tryz.prog 27 #[.pointer (some ⟨b, 0, none⟩), .string (B n)] w fun e w' => e = .returned (.int .i64 (looseD D n : Nat)) ∧ ∃ m, w' = w.drewN m := by
  obtain ⟨tag, blk, bm, h⟩ := h
  cases hl : lookL D.files (keyS n) with
  | none =>
    have HF := Lib.hid (Find_no h n hn hl)
    have HE := Lib.hid (show looseD D n = 0 by unfold looseD findD; rw [hl])
    clear h hl
    go_enter Tryz.func27, Tryz.ntmps27
    go_wp2_with fail
    with_reducible refine HF.out.mono ?_
    rintro e w1 ⟨rfl, rfl⟩
    go_wp2
    go_ret
    rw [HE.out]
    exact ⟨rfl, 0, rfl⟩
  | some F =>
    have HF := Lib.hid (Find_yes h n hn F hl)
    have HE := Lib.hid (show looseD D n = F.bytes.length - F.sure by unfold looseD findD; rw [hl])
    have HL := Lib.hid (FLoose_f h hl)
    clear h hl
    go_enter Tryz.func27, Tryz.ntmps27
    go_wp2_with fail
    with_reducible refine HF.out.mono ?_
    rintro e w1 ⟨rfl, rfl⟩
    go_wp2_with fail
    with_reducible refine HL.out.mono ?_
    rintro e w1 ⟨rfl, m, rfl⟩
    go_wp2
    go_ret
    rw [HE.out]
    exact ⟨rfl, m, rfl⟩
end
end Go.Proofs.YtpiaplgbpjgjiaaGreatDoor.Dk
end

/-
  Disks (layer 7): the walks of may and Create. No condition but that names are no longer than a string may be.
-/
section
open Go Go.RowKit
namespace Go.Proofs.YtpiaplgbpjgjiaaGreatDoor.Dk
open Base Mp
attribute [local go_sem ↓] Go.wp_at_zero Go.wp_at_succ

theorem May_f (w : World) (n : List UInt8) (hn : n.length ≤ maxLen) : Calls Tryz.prog 53 #[.string (B n)] w fun e w' => e = .returned (.bool (mayName n)) ∧ w = w' := by
  unfold maxLen at hn
  by_cases h0 : n = []
  · have HE := Lib.hid (show mayName n = false by rw [h0]; rfl)
    have t1 : n.isEmpty = true := by rw [h0]; rfl
    clear h0
    go_enter Tryz.func53, Tryz.ntmps53
    go_wp2
    go_ret
    rw [HE.out]
    exact ⟨rfl, rfl⟩
  · have t1 : n.isEmpty = false := by cases n; exact absurd rfl h0; rfl
    have hp : 1 ≤ n.length := by cases n; exact absurd rfl h0; simp
    clear h0
    by_cases h4 : 40 < n.length
    · have HE := Lib.hid (show mayName n = false by unfold mayName; rw [show decide (n.length ≤ 40) = false from decide_eq_false (by omega)]; simp)
      have t2 : (40 : Int) < (n.length : Int) := by omega
      go_enter Tryz.func53, Tryz.ntmps53
      go_wp2
      go_ret
      rw [HE.out]
      exact ⟨rfl, rfl⟩
    · have t2 : ¬ (40 : Int) < (n.length : Int) := by omega
      have HALL := Lib.hid (show mayName n = n.all okByte by unfold mayName; rw [decide_eq_true hp, decide_eq_true (show n.length ≤ 40 by omega)]; rfl)
      go_enter Tryz.func53, Tryz.ntmps53
      go_wp2_with fail
      go_loopw [14] (fun u wr => ∃ i : Nat, u = .int .i64 (i : Int) ∧ i ≤ n.length ∧ (∀ j (h : j < n.length), j < i → okByte n[j] = true) ∧ wr = w) (fun u _ => n.length - (intOf u).toNat)
      case atStart => exact ⟨0, rfl, Nat.zero_le _, fun j h h2 => absurd h2 (by omega), rfl⟩
      case round =>
        obtain ⟨i, rfl, hi, hall, rfl⟩ := hrel
        have HA := Lib.hid hall
        clear hall
        by_cases hik : i < n.length
        · have m0 : 0 ≤ (i : Int) := by omega
          have m1 : (i : Int) < (n.length : Int) := by omega
          have hok : okByte n[i] = true → ∀ j (h : j < n.length), j < i + 1 → okByte n[j] = true := fun h j hj h2 => by
            rcases Nat.lt_or_ge j i with h3 | h3
            · exact HA.out j hj h3
            · obtain rfl : j = i := by omega
              exact h
          have hno : okByte n[i] = false → mayName n = false := fun h => by
            rw [HALL.out]
            cases hh : n.all okByte with
            | false => rfl
            | true => rw [List.all_eq_true] at hh; rw [hh _ (List.getElem_mem hik)] at h; cases h
          have HOK := Lib.hid hok
          have HNO := Lib.hid hno
          clear hok hno
          obtain ⟨c, hc⟩ : ∃ c, c = n[i].toNat := ⟨_, rfl⟩
          have hg : ((n[i].toNat : Nat) : Int) = (c : Int) := by rw [hc]
          have HB := Lib.hid (show okByte n[i] = (((97 ≤ c && c ≤ 122) || (48 ≤ c && c ≤ 57)) || c == 45) by rw [hc]; rfl)
          clear hc
          have hcl : ((c : Int) < 45) ∨ ((c : Int) = 45) ∨ ((45 : Int) < (c : Int) ∧ (c : Int) < 48) ∨ ((48 : Int) ≤ (c : Int) ∧ (c : Int) ≤ 57) ∨ ((57 : Int) < (c : Int) ∧ (c : Int) < 97) ∨ ((97 : Int) ≤ (c : Int) ∧ (c : Int) ≤ 122) ∨ ((122 : Int) < (c : Int)) := by omega
          rcases hcl with hq | hq | hq | hq | hq | hq | hq
          · have k0 : (c : Int) < 97 := by omega
            have k1 : (c : Int) < 48 := by omega
            have k2 : ((c : Int) == 45) = false := by simp; omega
            have HV := Lib.hid (show okByte n[i] = false by rw [HB.out]; simp; omega)
            clear hq HB
            go_wp2
            go_ret
            rw [HNO.out HV.out]
            exact ⟨rfl, rfl⟩
          · have k0 : (c : Int) < 97 := by omega
            have k1 : (c : Int) < 48 := by omega
            have k2 : ((c : Int) == 45) = true := by simp; omega
            have HV := Lib.hid (show okByte n[i] = true by rw [HB.out]; simp; omega)
            clear hq HB
            go_wp2_with fail
            go_roundw
            case rel => exact ⟨i + 1, by go_num, hik, HOK.out HV.out, trivial⟩
            case measure => simp [intOf]; omega
          · have k0 : (c : Int) < 97 := by omega
            have k1 : (c : Int) < 48 := by omega
            have k2 : ((c : Int) == 45) = false := by simp; omega
            have HV := Lib.hid (show okByte n[i] = false by rw [HB.out]; simp; omega)
            clear hq HB
            go_wp2
            go_ret
            rw [HNO.out HV.out]
            exact ⟨rfl, rfl⟩
          · have k0 : (c : Int) < 97 := by omega
            have k1 : ¬ (c : Int) < 48 := by omega
            have k2 : ¬ (57 : Int) < (c : Int) := by omega
            have HV := Lib.hid (show okByte n[i] = true by rw [HB.out]; simp; omega)
            clear hq HB
            go_wp2_with fail
            go_roundw
            case rel => exact ⟨i + 1, by go_num, hik, HOK.out HV.out, trivial⟩
            case measure => simp [intOf]; omega
          · have k0 : (c : Int) < 97 := by omega
            have k1 : ¬ (c : Int) < 48 := by omega
            have k2 : (57 : Int) < (c : Int) := by omega
            have k3 : ((c : Int) == 45) = false := by simp; omega
            have HV := Lib.hid (show okByte n[i] = false by rw [HB.out]; simp; omega)
            clear hq HB
            go_wp2
            go_ret
            rw [HNO.out HV.out]
            exact ⟨rfl, rfl⟩
          · have k0 : ¬ (c : Int) < 97 := by omega
            have k1 : ¬ (122 : Int) < (c : Int) := by omega
            have HV := Lib.hid (show okByte n[i] = true by rw [HB.out]; simp; omega)
            clear hq HB
            go_wp2_with fail
            go_roundw
            case rel => exact ⟨i + 1, by go_num, hik, HOK.out HV.out, trivial⟩
            case measure => simp [intOf]; omega
          · have k0 : ¬ (c : Int) < 97 := by omega
            have k1 : (122 : Int) < (c : Int) := by omega
            have k2 : ¬ (c : Int) < 48 := by omega
            have k3 : (57 : Int) < (c : Int) := by omega
            have k4 : ((c : Int) == 45) = false := by simp; omega
            have HV := Lib.hid (show okByte n[i] = false by rw [HB.out]; simp; omega)
            clear hq HB
            go_wp2
            go_ret
            rw [HNO.out HV.out]
            exact ⟨rfl, rfl⟩
        · obtain rfl : i = n.length := by omega
          have HE := Lib.hid (show mayName n = true by
            rw [HALL.out, List.all_eq_true]
            intro x hx
            obtain ⟨j, hj, rfl⟩ := List.getElem_of_mem hx
            exact HA.out j hj hj)
          go_wp2
          go_ret
          rw [HE.out]
          exact ⟨rfl, rfl⟩
def createD (D : DiskD) (n : List UInt8) : DiskD × Int :=
  if mayName n = false then (D, 2) else if still D = true then (D, 70) else if (lookL D.files (keyS n)).isSome = true then (D, 7) else if 16 ≤ D.files.length then (D, 6) else (done { D with files := putL D.files (keyS n) ⟨[], 0, true⟩ }, 0)
set_option maxRecDepth 100000 in
set_option maxHeartbeats 2000000 in
theorem Create_f {w : World} {b : Nat} {D : DiskD} {T : Nat → Prop} (h : DiskAt w b D T) (n : List UInt8) (hn : n.length ≤ maxLen) : Calls Tryz.prog 24 #[.pointer (some ⟨b, 0, none⟩), .string (B n)] w (OpPost w b T (createD D n)) := by
  obtain ⟨tag, blk, bm, h⟩ := h
  have H := Lib.hid h
  have HT := Lib.hid (There_yes w b bm D h.is)
  have HS := Lib.hid (Still_f w b bm D h.is)
  have HM := Lib.hid (May_f w n hn)
  have c2 := h.is.c2
  have hlen := h.map.len Tryz.underlying56 3
  rw [mapE_length] at hlen
  have hlk := h.map.look keyedS Tryz.underlying56 (zP w) (keyB n hn)
  rw [mapE_look] at hlk
  have hfew := h.fine.few
  clear h
  cases hmy : mayName n with
  | false =>
    have HE := Lib.hid (show createD D n = (D, 2) by unfold createD; rw [if_pos hmy])
    rw [hmy] at HM
    go_enter Tryz.func24, Tryz.ntmps24
    go_wp2_with fail
    with_reducible refine HT.out.mono ?_
    rintro e w1 ⟨rfl, rfl⟩
    go_wp2_with fail
    with_reducible refine HM.out.mono ?_
    rintro e w1 ⟨rfl, rfl⟩
    go_wp2
    go_ret
    rw [HE.out]
    exact ⟨rfl, H.out.out, Kept.refl _ _⟩
  | true =>
    have hmy' : ¬ mayName n = false := by rw [hmy]; decide
    rw [hmy] at HM
    cases hst : still D with
    | true =>
      have HE := Lib.hid (show createD D n = (D, 70) by unfold createD; rw [if_neg hmy', if_pos hst])
      rw [hst] at HS
      go_enter Tryz.func24, Tryz.ntmps24
      go_wp2_with fail
      with_reducible refine HT.out.mono ?_
      rintro e w1 ⟨rfl, rfl⟩
      go_wp2_with fail
      with_reducible refine HM.out.mono ?_
      rintro e w1 ⟨rfl, rfl⟩
      go_wp2_with fail
      with_reducible refine HS.out.mono ?_
      rintro e w1 ⟨rfl, rfl⟩
      go_wp2
      go_ret
      rw [HE.out]
      exact ⟨rfl, H.out.out, Kept.refl _ _⟩
    | false =>
      have hst' : ¬ still D = true := by rw [hst]; decide
      have HST := Lib.hid hst
      rw [hst] at HS
      cases hl : lookL D.files (keyS n) with
      | some F =>
        have HE := Lib.hid (show createD D n = (D, 7) by unfold createD; rw [if_neg hmy', if_neg hst', hl]; rfl)
        rw [hl] at hlk
        simp only [Option.map_some, Option.getD_some, ptr] at hlk
        clear hmy hmy' hst hst' hl
        go_enter Tryz.func24, Tryz.ntmps24
        go_wp2_with fail
        with_reducible refine HT.out.mono ?_
        rintro e w1 ⟨rfl, rfl⟩
        go_wp2_with fail
        with_reducible refine HM.out.mono ?_
        rintro e w1 ⟨rfl, rfl⟩
        go_wp2_with fail
        with_reducible refine HS.out.mono ?_
        rintro e w1 ⟨rfl, rfl⟩
        go_wp2
        go_ret
        rw [HE.out]
        exact ⟨rfl, H.out.out, Kept.refl _ _⟩
      | none =>
        have hl' : ¬ (lookL D.files (keyS n)).isSome = true := by rw [hl]; decide
        rw [hl] at hlk
        simp only [Option.map_none, Option.getD_none] at hlk
        by_cases hfu : 16 ≤ D.files.length
        · have HE := Lib.hid (show createD D n = (D, 6) by unfold createD; rw [if_neg hmy', if_neg hst', if_neg hl', if_pos hfu])
          have hfi : (16 : Int) ≤ (D.files.length : Int) := by omega
          clear hmy hmy' hst hst' hl hl'
          go_enter Tryz.func24, Tryz.ntmps24
          go_wp2_with fail
          with_reducible refine HT.out.mono ?_
          rintro e w1 ⟨rfl, rfl⟩
          go_wp2_with fail
          with_reducible refine HM.out.mono ?_
          rintro e w1 ⟨rfl, rfl⟩
          go_wp2_with fail
          with_reducible refine HS.out.mono ?_
          rintro e w1 ⟨rfl, rfl⟩
          go_wp2
          go_ret
          rw [HE.out]
          exact ⟨rfl, H.out.out, Kept.refl _ _⟩
        · have HE := Lib.hid (show createD D n = (done { D with files := putL D.files (keyS n) ⟨[], 0, true⟩ }, 0) by unfold createD; rw [if_neg hmy', if_neg hst', if_neg hl', if_neg hfu])
          have hfi : ¬ (16 : Int) ≤ (D.files.length : Int) := by omega
          have hb1 : Below w.heap.size w (w.alloc (.cells #[.slice none 0 0, .int .i64 0, .bool true] 91)) := (Below.refl _ _).alloc (Nat.le_refl _) _
          have hcm := cells_made w #[.slice none 0 0, .int .i64 0, .bool true] 91
          have hz1 := alloc_more w (.cells #[.slice none 0 0, .int .i64 0, .bool true] 91)
          obtain ⟨w5, hrun5, hm5, ht5⟩ := (H.out.map.next hb1).store keyedS Tryz.underlying56 (by rw [mapE_length]; unfold maxLen; omega) (keyB n hn) (val := .pointer (some ⟨w.heap.size, 0, none⟩))
          have h5 := H.out.put hb1 (Nat.le_refl _) (by omega) (hcm.congr fun j hj => by
            have : j = 0 ∨ j = 1 ∨ j = 2 := by have : j < 3 := hj; omega
            rcases this with rfl | rfl | rfl <;> rfl) hm5 ht5 hmy hl (by omega)
          have k5 : Kept T w w5 := Kept.turned (T := T) (Kept.of_below hb1) ht5 (.inl H.out.minem)
          have H5 := Lib.hid h5
          have K5 := Lib.hid k5
          have HS5 := Lib.hid (show still { D with files := putL D.files (keyS n) ⟨[], 0, true⟩ } = false from hst)
          clear hmy hmy' hst hst' hl hl' hb1 hcm hz1 hm5 ht5 h5 k5
          go_enter Tryz.func24, Tryz.ntmps24
          go_wp2_with fail
          with_reducible refine HT.out.mono ?_
          rintro e w1 ⟨rfl, rfl⟩
          go_wp2_with fail
          with_reducible refine HM.out.mono ?_
          rintro e w1 ⟨rfl, rfl⟩
          go_wp2_with fail
          with_reducible refine HS.out.mono ?_
          rintro e w1 ⟨rfl, rfl⟩
          go_wp2_with fail
          clear hrun5 hlk hlen c2
          with_reducible refine (Done_f H5.out HS5.out).mono ?_
          rintro e w2 ⟨rfl, h2, k2⟩
          have H2 := Lib.hid h2
          have K2 := Lib.hid (K5.out.trans (k2.mono (T' := T) (fun i hi => by rw [hi]; exact H.out.mineb)) (fun _ h => .inl h))
          have Z2 := Lib.hid (show w5.heap.size ≤ w2.heap.size from k2.size)
          clear h2 k2
          go_wp2
          go_ret
          rw [HE.out]
          refine ⟨rfl, ?_, K2.out⟩
          refine ⟨_, _, _, H2.out.wide (fun i hi => ?_) (fun i hi => ?_)⟩
          · rcases hi with hi | hi
            · exact .inl hi
            · exact .inr ⟨hi.1, Nat.lt_of_lt_of_le hi.2 Z2.out⟩
          · rcases hi with hi | hi
            · exact Nat.lt_of_lt_of_le (H.out.old i hi) K2.out.size
            · exact hi.2
end Go.Proofs.YtpiaplgbpjgjiaaGreatDoor.Dk
end

/-
  Disks (layer 7): the walk of Room, over the map in whatever order. No condition.
-/
section
open Go Go.RowKit
namespace Go.Proofs.YtpiaplgbpjgjiaaGreatDoor.Dk
open Base Mp

def remS (left : Lit → Bool) (S : FS) : Nat := (S.map fun p => if left p.1 then p.2.bytes.length else 0).sum
theorem remS_none (left : Lit → Bool) (S : FS) (h : ∀ k, left k = false) : remS left S = 0 := by
  unfold remS
  induction S with
  | nil => rfl
  | cons y r ih => simp only [List.map_cons, List.sum_cons, h, Bool.false_eq_true, if_false] at ih ⊢; omega
theorem remS_all (left : Lit → Bool) (S : FS) (h : ∀ p ∈ S, left p.1 = true) : remS left S = total S := by
  unfold remS total
  congr 1
  exact List.map_congr_left fun p hp => by rw [h p hp]; rfl
theorem remS_congr (left left' : Lit → Bool) (S : FS) (h : ∀ p ∈ S, left p.1 = left' p.1) : remS left S = remS left' S := by
  unfold remS
  congr 1
  exact List.map_congr_left fun p hp => by rw [h p hp]
theorem remS_cons (left : Lit → Bool) (y : Lit × FileD) (r : FS) : remS left (y :: r) = (if left y.1 then y.2.bytes.length else 0) + remS left r := rfl
theorem remS_step (left : Lit → Bool) (S : FS) (k : Lit) (H : FileD) (hn : S.Pairwise fun p q => p.1 ≠ q.1) (hl : lookL S k = some H) (hk : left k = true) :
    remS left S = H.bytes.length + remS (fun z => left z && !z.sameKey k) S := by
  induction S with
  | nil => simp [lookL] at hl
  | cons y r ih =>
    obtain ⟨h1, h2⟩ := List.pairwise_cons.1 hn
    unfold lookL at hl
    rw [List.find?_cons] at hl
    rw [remS_cons, remS_cons]
    cases hs : y.1.sameKey k
    · rw [hs] at hl
      have ih := ih h2 hl
      rw [ih]
      cases left y.1 <;> simp <;> omega
    · rw [hs] at hl
      have hv : y.2 = H := by simpa using hl
      have hyk := WideAt.sameKey_eq hs
      rw [show left y.1 = true by rw [hyk]; exact hk, hv]
      rw [remS_congr left (fun z => left z && !z.sameKey k) r fun p hp => by
        have : p.1.sameKey k = false := by
          cases hq : p.1.sameKey k
          · rfl
          · exact absurd (hyk.trans (WideAt.sameKey_eq hq).symm) (h1 p hp)
        rw [this]; simp]
      simp
theorem remS_le (left : Lit → Bool) (S : FS) : remS left S ≤ total S := by
  induction S with
  | nil => exact Nat.le_refl _
  | cons y r ih =>
    rw [remS_cons, total_cons]
    split <;> omega
theorem key_str {key : Value} {kl : Lit} (h : keyOf Tryz.prog 9 key = some kl) : ∃ x, key = .string x := by
  cases key <;> simp [keyOf, mapKey, Tryz.underlying9] at h
  exact ⟨_, rfl⟩
theorem at_look {es : List (Lit × Value)} {kl : Lit} {v : Value} (h : ∀ zd, (DataW.map (es.map hv)).atKey kl zd = .held v) : lookL es kl = some v := by
  have h1 := h (.held (.bool true))
  have h2 := h (.held (.bool false))
  rw [atKey_hv] at h1 h2
  cases hl : lookL es kl with
  | some u => rw [hl] at h1; injection h1 with h1; rw [← h1]; rfl
  | none =>
    rw [hl] at h1 h2
    injection h1 with h1
    injection h2 with h2
    rw [← h1] at h2
    cases h2

set_option maxRecDepth 100000 in
set_option maxHeartbeats 1000000 in
set_option maxRecDepth 100000 in
set_option maxHeartbeats 2000000 in
theorem Room_f {w : World} {b : Nat} {D : DiskD} {T : Nat → Prop} (h : DiskAt w b D T) :
    Calls Tryz.prog 47 #[.pointer (some ⟨b, 0, none⟩)] w fun e w' => e = .returned (.int .i64 (left D : Nat)) ∧ Below w.heap.size w w' := by
  obtain ⟨tag, blk, bm, hs⟩ := h
  have HTH := Lib.hid (There_yes w b bm D hs.is)
  have c1 := hs.is.c1
  have c2 := hs.is.c2
  have hle := hs.fine.fits
  have hro := hs.fine.room
  have HS := Lib.hid hs
  have HLE := Lib.hid (show left D = D.room - total D.files from rfl)
  clear hs
  go_enter Tryz.func47, Tryz.ntmps47
  go_wp2_with fail
  with_reducible refine HTH.out.mono ?_
  rintro e w1 ⟨rfl, rfl⟩
  clear HTH
  go_wp2_with (first | (at_range; refine wpList_range_own _ rfl _ 56 rfl 9 89 keyedS Tryz.underlying56 HV bm _ _ rfl HS.out.map ?_; intro w0 hrg0 hg0 hs0))
  go_frame
  have hb0 : Below w.heap.size w w0 := (Below.refl _ w).grown hg0 (Nat.le_refl _) (by simp)
  have hall : remS (Maps.has (DataW.map ((mapE (fun k (_ : FileD) => ptr (blk k)) D.files).map hv))) D.files = total D.files := remS_all _ _ fun p hp => by
    rw [has_hv]
    unfold hasL
    rw [List.any_eq_true]
    exact ⟨(p.1, ptr (blk p.1)), List.mem_map.2 ⟨p, hp, rfl⟩, WideAt.sameKey_self ((HS.out.map.keys keyedS).2 _ (List.mem_map.2 ⟨p, hp, rfl⟩))⟩
  have HB0 := Lib.hid hb0
  have HALL := Lib.hid hall
  have HRG := Lib.hid hrg0
  clear hb0 hall hrg0 hg0 hs0 c1 c2
  go_loopw [3] (fun v wr => ∃ (lft : Lit → Bool) (cnt acc : Nat), v = .int .i64 acc ∧ wr.ranges Tryz.prog 9 HV bm w.heap.size (mapE (fun k (_ : FileD) => ptr (blk k)) D.files).length (DataW.map ((mapE (fun k (_ : FileD) => ptr (blk k)) D.files).map hv)) lft cnt ∧ acc = D.room - total D.files + remS lft D.files ∧ Below w.heap.size w wr) (fun _ wr => wr.rangeLeft bm w.heap.size)
  case atStart => exact ⟨_, _, D.room, rfl, HRG.out, by rw [HALL.out]; omega, HB0.out⟩
  case round =>
    obtain ⟨lft, cnt, acc, rfl, hrg, hsum, hbe⟩ := hrel
    have HRGI := Lib.hid hrg
    have HSUM := Lib.hid hsum
    have HBE := Lib.hid hbe
    clear hrg hsum hbe
    go_wp2_with (first | (at_next; refine wpList_next_ranges _ rfl _ rfl 9 keyedS HV Value.string id (fun key kl h => key_str h) (fun v y _ => ⟨v, rfl⟩) bm w.heap.size _ _ _ _ rfl HRGI.out ?_ ?_))
    · intro h0 hl
      have hacc : acc = left D := by
        have := HSUM.out
        rw [remS_none lft D.files hl] at this
        rw [HLE.out]
        omega
      subst hacc
      go_wp2
      go_ret
      exact ⟨rfl, HBE.out⟩
    · intro x c kl a pl w' cnt' hkey hlk hv1 hat hrg' hlt hgr hsz hen
      have e1 : a = .held c := by
        have := (Prod.mk.inj (Option.some.inj hv1)).1
        exact this.symm
      subst e1
      have hl1 := at_look hat
      rw [mapE_look] at hl1
      obtain ⟨H, hl2, rfl⟩ := Option.map_eq_some_iff.1 hl1
      have hstep := remS_step lft D.files kl H HS.out.fine.apart hl2 hlk
      have hbe' : Below w.heap.size w w' := HBE.out.grown hgr HBE.out.size (by simp)
      have g2 := (HS.out.at hl2).next (Kept.of_below (T := fun _ => False) hbe') (fun _ _ h => h) (fun _ _ => rfl)
      obtain ⟨⟨v, hcs, hr, _⟩, _⟩ := g2
      have g3 := (hcs 0 (by omega)).1
      simp only [fileCell] at g3
      obtain ⟨p, cap, rfl, -⟩ := own_take hr (Nat.le_refl _)
      have hsum := HSUM.out
      have hsh := HS.out.fine.short (mem_of_look hl2)
      have HRG2 := Lib.hid hrg'
      have HBE2 := Lib.hid hbe'
      have HST := Lib.hid hstep
      have hm : w'.rangeLeft bm w.heap.size < wr.rangeLeft bm w.heap.size := by rw [hrg'.left_eq, HRGI.out.left_eq]; exact hlt
      have HM := Lib.hid hm
      rw [hstep] at hsum
      have HSUM2 := Lib.hid hsum
      simp only at hsh
      clear hkey hv1 hat hrg' hgr hsz hbe' hstep hl1 hl2 hm hcs hr
      have HF := Lib.hid (show D.room - total D.files ≤ 4194304 by omega)
      have hrem : remS (fun z => lft z && !z.sameKey kl) D.files ≤ total D.files := remS_le _ _
      generalize H.bytes.length = bH at *
      have e2 : (acc : Int) - (bH : Int) = ((acc - bH : Nat) : Int) := by have := HSUM2.out; omega
      have hbb : bH ≤ acc ∧ acc ≤ 16777216 := by have := HSUM2.out; have := HF.out; omega
      have E2 := Lib.hid e2
      clear hsum e2 hrem
      unfold ptr at hen
      go_wp2
      go_roundw
      case rel => exact ⟨_, cnt', acc - bH, by rw [E2.out], HRG2.out, by have := HSUM2.out; omega, HBE2.out⟩
      case measure => exact HM.out
end Go.Proofs.YtpiaplgbpjgjiaaGreatDoor.Dk
end

/-
  Disks (layer 7): the walk of Append, and of Spoil. No condition but that names and texts are no longer than a string may be.
-/
section
open Go Go.RowKit
namespace Go.Proofs.YtpiaplgbpjgjiaaGreatDoor.Dk
open Base Mp
attribute [local go_sem ↓] Go.wp_at_zero Go.wp_at_succ

theorem infoU8 : (Tryz.prog.info? 5).map (fun i => (i.zero, i.size, i.bytes)) = some (some (.int .u8 0), 1, 1) := by kernel_rfl
theorem strCells_B (s : List UInt8) : Lib.strCells (B s) = byteV s := by simp [Lib.strCells, byteV, B_data]
theorem kept_grown {w w' : World} {row : Option Nat} (h : w.grownBy w' row) : Kept (fun i => row = some i) w w' := ⟨h.os, h.tape, h.output, h.size, fun i hi hn => h.block i hi (fun e => hn e.symm)⟩
/-- 'append(f.bytes, text...)'. -/
theorem append_B (w : World) (v : Value) (l s : List UInt8) (hr : w.ownsRow 0 5 1 v l.length (byteV l)) (hm : l.length + s.length ≤ 8388608) :
    ∃ v' w', (Builtin.append_ #[74, 9] 74 #[v, .string (B s)]).run Tryz.prog w = .ok v' w' ∧ w'.ownsRow 0 5 1 v' (l ++ s).length (byteV (l ++ s)) ∧ Kept (fun i => v.ownBlock = some i) w w' ∧ ∀ r, v'.ownBlock = some r → v.ownBlock = some r ∨ (r = w.heap.size ∧ r < w'.heap.size) := by
  obtain ⟨i0, hi, hz0, hz1, hz2⟩ := info_parts infoU8
  obtain ⟨v', w', h1, h2, h3, h4⟩ := Lib.run_append_own_string (P := Tryz.prog) w 0 74 9 74 5 i0 Tryz.underlying74 Tryz.underlying9 hi hz0 hz1 hz2 v l.length (byteV l) hr (B s) (by rw [B_size]; unfold maxLen; omega) (by rw [B_size]; omega) (Nat.zero_le _)
  rw [B_size, strCells_B] at h2
  have h2' : w'.ownsRow 0 5 1 v' (l ++ s).length (byteV (l ++ s)) := by rw [List.length_append, show byteV (l ++ s) = byteV l ++ byteV s by simp [byteV]]; exact h2
  refine ⟨v', w', h1, h2', kept_grown h3, fun r hv => ?_⟩
  have hrl := (h2.lt r hv).2
  rcases hr.2 with ⟨rfl, h0⟩ | ⟨g, cap, cur, rfl, hg, hb, hnc, hcm, hcs, ht⟩
  · by_cases hs : s.length = 0
    · rw [h4.2 ⟨rfl, by rw [B_size]; exact hs⟩] at hv
      cases hv
    · have e := run_append_nil_string (P := Tryz.prog) w 74 9 74 5 i0 _ Tryz.underlying74 Tryz.underlying9 hi hz0 (B s) (by rw [B_size]; omega) (by rw [B_size]; omega) (by rw [B_size, hz2]; omega)
      rw [h1] at e
      have e1 := (Result.ok.inj e).1
      rw [e1] at hv
      injection hv with hv
      exact .inr ⟨hv.symm, hrl⟩
  · by_cases hroom : l.length + s.length ≤ cap
    · have e := Lib.run_append_room_string (P := Tryz.prog) w 74 9 74 5 i0 Tryz.underlying74 Tryz.underlying9 hi hz1 g l.length cap cur hb (B s) (by rw [B_size]; omega) (by rw [B_size]; omega)
      rw [h1] at e
      have e1 := (Result.ok.inj e).1
      rw [e1] at hv
      exact .inl hv
    · have e := Lib.run_append_grow_string (P := Tryz.prog) w 74 9 74 5 i0 _ Tryz.underlying74 Tryz.underlying9 hi hz0 ⟨g, 0, none⟩ l.length cap (byteV l) (by rw [hz1]; simp [byteV]) (hr.cells (g := g) rfl) (B s) (by rw [B_size]; omega) (by rw [B_size]; omega) (by rw [hz2, B_size]; exact growslice_fits (by omega) (by omega))
      rw [h1] at e
      have e1 := (Result.ok.inj e).1
      rw [e1] at hv
      injection hv with hv
      exact .inr ⟨hv.symm, hrl⟩
/-- A file whose row grew: another row, perhaps. -/
theorem DiskBy.appended {tag : Nat → Option Lit} {blk : Lit → Nat} {bm : Nat} {w1 w2 : World} {b : Nat} {D : DiskD} {T : Nat → Prop} (hh : DiskBy tag blk bm w1 b D T) {k : Lit} {F F' : FileD} {v v' : Value} (hl : lookL D.files k = some F) (hcs : CellsAt w1 (blk k) 3 (fileCell v F)) (hv : ∀ r, v.ownBlock = some r → tag r = some k ∧ r ≠ blk k)
    (ho2 : w2.ownsRow 0 5 1 v' F'.bytes.length (byteV F'.bytes)) (hk2 : Kept (fun i => v.ownBlock = some i) w1 w2) (hv2 : ∀ r, v'.ownBlock = some r → v.ownBlock = some r ∨ (r = w1.heap.size ∧ r < w2.heap.size)) (hsf : F'.sure = F.sure) (hfr : F'.fresh = F.fresh) (hfi : Fine (withFile D k F')) :
    (∃ tag', DiskBy tag' blk bm (w2.setCell ⟨blk k, 0, none⟩ v') b (withFile D k F') (More T w1 (w2.setCell ⟨blk k, 0, none⟩ v'))) ∧ Kept (fun i => tag i = some k) w1 (w2.setCell ⟨blk k, 0, none⟩ v') ∧ w2.cell? ⟨blk k, 0, none⟩ = some v ∧ w2.frozen? ⟨blk k, 0, none⟩ = false := by
  have hm := (hh.at hl).mine
  have hfb := hcs.lt (by omega)
  have hne : ∀ r, v.ownBlock = some r → r ≠ blk k := fun r h => (hv r h).2
  have hk2' : Kept (fun i => tag i = some k) w1 w2 := hk2.mono fun i hi => (hv i hi).1
  have hcs2 := hcs.kept hk2 hfb (fun e => hne _ e rfl)
  have hv3 : ∀ r, v'.ownBlock = some r → r ≠ blk k := fun r h e => by
    rcases hv2 r h with h2 | ⟨h2, _⟩
    · exact hne r h2 e
    · omega
  have hk3 : Kept (fun i => i = blk k) w2 (w2.setCell ⟨blk k, 0, none⟩ v') := Kept.setCell (T := fun i => i = blk k) (Kept.refl _ w2) (.inl rfl) _
  have hkk : Kept (fun i => tag i = some k) w1 (w2.setCell ⟨blk k, 0, none⟩ v') := hk2'.trans hk3 (fun i e => .inl (by rw [e]; exact hm))
  refine ⟨⟨fun i => if v'.ownBlock = some i then some k else tag i, hh.file hl hkk ⟨⟨v', (CellsAt.set hcs2 (i := 0) (by omega) v').congr fun j hj => ?_, own_kept ho2 hk3 (fun r h e => hv3 r h e), fun r h => ⟨if_pos h, hv3 r h⟩⟩, ?_⟩ (fun i hi => ?_) (fun i q hi hq => ?_) hfi⟩, hkk, (hcs2 0 (by omega)).1, (hcs2 0 (by omega)).2⟩
  · have : j = 0 ∨ j = 1 ∨ j = 2 := by omega
    rcases this with rfl | rfl | rfl
    · rfl
    · show Value.int .i64 (F.sure : Int) = Value.int .i64 (F'.sure : Int)
      rw [hsf]
    · show Value.bool F.fresh = Value.bool F'.fresh
      rw [hfr]
  · rw [if_neg (fun e => hv3 _ e rfl)]; exact hm
  · by_cases e : v'.ownBlock = some i
    · rw [if_pos e]
      rcases hv2 i e with h2 | ⟨h2, _⟩
      · exact (hv i h2).1.symm
      · omega
    · rw [if_neg e]
  · by_cases e : v'.ownBlock = some i
    · exact Nat.lt_of_lt_of_le (ho2.lt i e).2 hk3.size
    · rw [if_neg e] at hq
      exact absurd (hh.old i (hh.minet i q hq)) (by omega)
theorem wpList_append_run2 {P : Program} {w w' : World} {ops : Array Oper} {rest : List Oper} {o : Oper} {a : Act} {Q : Exit → Act → World → Prop} (hgd : o.guard = none) (s x : Operand) (t u : TypeId)
    (ho : o.op = .call { callee := .builtin .append, args := #[s, x], argTypes := #[t, u] }) {v xv v' : Value} (hs : a.eval s = v) (hx : a.eval x = xv) (hr : (Builtin.append_ #[t, u] o.type #[v, xv]).run P w = .ok v' w')
    (h : wpList P ops Q rest (a.put o.dst v') w') : wpList P ops Q (o :: rest) a w :=
  wpList_plain hgd fun _ hK => by
    unfold Oper.wp execOp
    simp only [ho, resolve, invoke, builtin, Sem.run_bind, Sem.run_pure, Result.andThen_ok, List.map_toArray, List.map_cons, List.map_nil, hs, hx, hr]
    exact hK _ _ h
def appendD (D : DiskD) (n s : List UInt8) : DiskD × Int := opD D n fun F => if left D < s.length then (D, 6) else (done (withFile D (keyS n) ⟨F.bytes ++ s, F.sure, F.fresh⟩), 0)
set_option maxRecDepth 100000 in
set_option maxHeartbeats 2000000 in
theorem Append_f {w : World} {b : Nat} {D : DiskD} {T : Nat → Prop} (h : DiskAt w b D T) (n s : List UInt8) (hn : n.length ≤ maxLen) (hsl : s.length ≤ maxLen) : Calls Tryz.prog 38 #[.pointer (some ⟨b, 0, none⟩), .string (B n), .string (B s)] w (OpPost w b T (appendD D n s)) := by
  obtain ⟨tag, blk, bm, h⟩ := h
  have H := Lib.hid h
  have HO := Lib.hid (Open_f h n hn)
  have HRM := Lib.hid (Room_f ⟨tag, blk, bm, h⟩)
  rcases open_cases blk D n with ⟨c, hc, ho, hop⟩ | ⟨hs, F, hl, ho, hop⟩
  · rw [ho] at HO
    have HE := Lib.hid (show appendD D n s = (D, c) from hop _)
    clear h hop ho
    go_enter Tryz.func38, Tryz.ntmps38
    go_wp2_with fail
    with_reducible refine HO.out.mono ?_
    rintro e w1 ⟨rfl, rfl⟩
    go_wp2
    go_ret
    rw [HE.out]
    exact ⟨rfl, H.out.out, Kept.refl _ _⟩
  · rw [ho] at HO
    have HOP := Lib.hid hop
    have HL := Lib.hid hl
    have HS := Lib.hid hs
    have HM := Lib.hid (show ∀ i, tag i = some (keyS n) → T i from fun i hi => h.minet i _ hi)
    have HB := Lib.hid h.mineb
    clear h hop ho hs hl
    unfold maxLen at hsl
    by_cases hrm : left D < s.length
    · have HE := Lib.hid (show appendD D n s = (D, 6) by unfold appendD; rw [HOP.out, if_pos hrm])
      have r0 : ((left D : Nat) : Int) < (s.length : Int) := by omega
      clear hrm
      go_enter Tryz.func38, Tryz.ntmps38
      go_wp2_with fail
      with_reducible refine HO.out.mono ?_
      rintro e w1 ⟨rfl, rfl⟩
      go_wp2_with fail
      with_reducible refine HRM.out.mono ?_
      rintro e w1 ⟨rfl, hb1⟩
      have HB1 := Lib.hid hb1
      clear hb1
      go_wp2
      go_ret
      rw [HE.out]
      exact ⟨rfl, (H.out.later HB1.out).wide (fun _ h => .inl h) (fun i hi => by rcases hi with hi | hi; exact Nat.lt_of_lt_of_le (H.out.old i hi) HB1.out.size; exact hi.2) |> fun q => ⟨_, _, _, q⟩, Kept.of_below HB1.out⟩
    · have HE := Lib.hid (show appendD D n s = (done (withFile D (keyS n) ⟨F.bytes ++ s, F.sure, F.fresh⟩), 0) by unfold appendD; rw [HOP.out, if_neg hrm])
      have r0 : (s.length : Int) ≤ ((left D : Nat) : Int) := by omega
      have HLT := Lib.hid (show s.length ≤ left D by omega)
      clear hrm
      go_enter Tryz.func38, Tryz.ntmps38
      go_wp2_with fail
      with_reducible refine HO.out.mono ?_
      rintro e w1 ⟨rfl, rfl⟩
      go_wp2_with fail
      with_reducible refine HRM.out.mono ?_
      rintro e w1 ⟨rfl, hb1⟩
      have HB1 := Lib.hid hb1
      have hh := H.out.later hb1
      obtain ⟨⟨v, hcs, hr, hv⟩, hm⟩ := hh.at HL.out
      have hsh := hh.fine.short (mem_of_look HL.out)
      simp only at hsh
      have c0 := (hcs 0 (by omega)).1
      have f0 := (hcs 0 (by omega)).2
      simp only [fileCell] at c0
      have hlf : left D = D.room - total D.files := rfl
      have hro := hh.fine.room
      obtain ⟨v', w2, hr2, ho2, hk2, hv2⟩ := append_B w1 v F.bytes s hr (by have := HLT.out; omega)
      have hfi := hh.fine.set (G := ⟨F.bytes ++ s, F.sure, F.fresh⟩) HL.out (by have := hh.fine.sure _ (mem_of_look HL.out); simp only [List.length_append] at this ⊢; omega) (by have := HLT.out; have := hh.fine.fits; simp only [List.length_append]; omega)
      obtain ⟨⟨tag', h4⟩, k4, c0', f0'⟩ := hh.appended (F' := ⟨F.bytes ++ s, F.sure, F.fresh⟩) HL.out hcs hv ho2 hk2 hv2 rfl rfl hfi
      have HR2 := Lib.hid hr2
      clear hr2
      have H4 := Lib.hid h4
      have K4 := Lib.hid ((Kept.of_below (T := T) hb1).trans k4 (fun i hi => .inl (HM.out i hi)))
      have Z4 := Lib.hid k4.size
      have HS4 := Lib.hid (show still (withFile D (keyS n) ⟨F.bytes ++ s, F.sure, F.fresh⟩) = false from HS.out)
      obtain ⟨p, cap, rfl, -⟩ := own_take hr (Nat.le_refl _)
      obtain ⟨p2, cap2, rfl, -⟩ := own_take ho2 (Nat.le_refl _)
      have hlen : (F.bytes ++ s).length = F.bytes.length + s.length := List.length_append
      rw [hlen] at HR2 H4 K4 Z4
      clear hlen
      clear hb1 hh hcs hr hv hm ho2 hk2 hv2 hfi h4 k4 hsh hlf hro f0
      generalize blk (keyS n) = fb at *
      go_wp2_with (at_builtin; refine wpList_append_run2 rfl _ _ _ _ rfl rfl rfl HR2.out ?_)
      with_reducible refine (Done_f H4.out HS4.out).mono ?_
      rintro e w4 ⟨rfl, h5, k5⟩
      have H5 := Lib.hid h5
      have K5 := Lib.hid (K4.out.trans (k5.mono (T' := T) (fun i hi => by rw [hi]; exact HB.out)) (fun _ h => .inl h))
      have Z5 := Lib.hid k5.size
      clear h5 k5
      go_wp2
      go_ret
      rw [HE.out]
      refine ⟨rfl, ⟨_, _, _, H5.out.wide (fun i hi => ?_) (fun i hi => ?_)⟩, K5.out⟩
      · rcases hi with hi | hi
        · exact .inl hi
        · exact .inr ⟨Nat.le_trans HB1.out.size hi.1, Nat.lt_of_lt_of_le hi.2 Z5.out⟩
      · rcases hi with hi | hi
        · exact Nat.lt_of_lt_of_le (H.out.old i hi) K5.out.size
        · exact hi.2
end Go.Proofs.YtpiaplgbpjgjiaaGreatDoor.Dk
end
