/-
  Disks (layer 7) in memory: the head, the map, each file and its row; what changes of them leave. No condition.
-/
import Derived.Test.YtpiaplgbpjgjiaaDoorChecked
import Derived.Test.YtpiaplgbpjgjiaaDoorDkMath
import Derived.WalkKit
import Derived.WalkLawsBesides
import Derived.Test.YtpiaplgbpjgjiaaDoorKept
open Go Go.RowKit
namespace Go.Proofs.YtpiaplgbpjgjiaaDoor.Dk
open Base Mp

theorem keyB (f : List UInt8) (hf : f.length ≤ maxLen) : keyOf Tryd.prog 9 (.string (B f)) = some (keyS f) := by
  simp [keyOf, mapKey, Tryd.underlying9, keyS, B_size, B_data, hf]
theorem keyedS : Maps.Keyed Tryd.prog 9 := Maps.string_keyed Tryd.underlying9
theorem zP (w : World) : (zeroValue 71).run Tryd.prog w = .ok (.pointer none) w := by kernel_rfl
def ptr (b : Nat) : Value := .pointer (some ⟨b, 0, none⟩)
def byteV (l : List UInt8) : List Value := l.map fun x => .int .u8 (x.toNat : Int)
def diskCell (bm : Nat) (D : DiskD) : Nat → Value
  | 0 => .bool true
  | 1 => .int .i64 (D.room : Int)
  | 2 => .map (some bm)
  | 3 => .bool D.fused
  | _ => .int .i64 (D.calls : Int)
def fileCell (v : Value) (F : FileD) : Nat → Value
  | 0 => v
  | 1 => .int .i64 (F.sure : Int)
  | _ => .bool F.fresh
/-- A file in block fb; its blocks are tagged with its key. -/
structure FileAt (tag : Nat → Option Lit) (w : World) (k : Lit) (fb : Nat) (F : FileD) : Prop where
  row : ∃ v, CellsAt w fb 3 (fileCell v F) ∧ w.ownsRow 0 5 1 v F.bytes.length (byteV F.bytes) ∧ ∀ r, v.ownBlock = some r → tag r = some k ∧ r ≠ fb
  mine : tag fb = some k
structure DiskBy (tag : Nat → Option Lit) (blk : Lit → Nat) (bm : Nat) (w : World) (b : Nat) (D : DiskD) (T : Nat → Prop) : Prop where
  head : CellsAt w b 5 (diskCell bm D)
  map : MapL Tryd.prog 9 w bm (mapE (fun k _ => ptr (blk k)) D.files)
  held : ∀ p ∈ D.files, FileAt tag w p.1 (blk p.1) p.2
  tagb : tag b = none
  tagm : tag bm = none
  ne : b ≠ bm
  fine : Fine D
  mineb : T b
  minem : T bm
  minet : ∀ i k, tag i = some k → T i
  old : ∀ i, T i → i < w.heap.size
def DiskAt (w : World) (b : Nat) (D : DiskD) (T : Nat → Prop) : Prop := ∃ tag blk bm, DiskBy tag blk bm w b D T
/-- T, and the blocks made since. -/
def More (T : Nat → Prop) (w w' : World) (i : Nat) : Prop := T i ∨ (w.heap.size ≤ i ∧ i < w'.heap.size)
theorem mapl_kept {T : Nat → Prop} {w w' : World} {bm : Nat} {es : List (Lit × Value)} (h : MapL Tryd.prog 9 w bm es) (hk : Kept T w w') (hT : ¬ T bm) : MapL Tryd.prog 9 w' bm es := by
  have hlt := h.lt
  obtain ⟨xs, clock, hh, r⟩ := h
  exact ⟨xs, clock, (hk.block bm hlt hT).trans hh, r⟩
theorem own_kept {T : Nat → Prop} {w w' : World} {base : Nat} {e : TypeId} {size : Nat} {v : Value} {n : Nat} {xs : List Value} (h : w.ownsRow base e size v n xs) (hk : Kept T w w') (hT : ∀ r, v.ownBlock = some r → ¬ T r) : w'.ownsRow base e size v n xs := by
  have hlt := h.lt
  obtain ⟨hl, ⟨h1, h2⟩ | ⟨g, cap, cur, rfl, hg, hb, r⟩⟩ := h
  · exact ⟨hl, .inl ⟨h1, h2⟩⟩
  · refine ⟨hl, .inr ⟨g, cap, cur, rfl, hg, ?_, r⟩⟩
    rw [hk.block g (hlt g rfl).2 (hT g rfl)]
    exact hb
theorem FileAt.next {tag tag' : Nat → Option Lit} {w w' : World} {k : Lit} {fb : Nat} {F : FileD} {X : Nat → Prop} (h : FileAt tag w k fb F) (hk : Kept X w w') (hX : ∀ i, tag i = some k → ¬ X i) (ht : ∀ i, i < w.heap.size → tag' i = tag i) : FileAt tag' w' k fb F := by
  obtain ⟨⟨v, h1, h2, h3⟩, h4⟩ := h
  have hlt := h1.lt (by omega)
  exact ⟨⟨v, h1.kept hk hlt (hX _ h4), own_kept h2 hk (fun r hr => hX _ (h3 r hr).1), fun r hr => ⟨(ht r (h2.lt r hr).2).trans (h3 r hr).1, (h3 r hr).2⟩⟩, (ht _ hlt).trans h4⟩
section
variable {tag : Nat → Option Lit} {blk : Lit → Nat} {bm : Nat} {w w' : World} {b : Nat} {D : DiskD} {T T' : Nat → Prop}
theorem DiskBy.lt (h : DiskBy tag blk bm w b D T) : b < w.heap.size := h.head.lt (by omega)
/-- What happens elsewhere. -/
theorem DiskBy.next (h : DiskBy tag blk bm w b D T) (hk : Kept (fun i => ¬ T i) w w') : DiskBy tag blk bm w' b D T :=
  ⟨h.head.kept hk h.lt (fun n => n h.mineb), mapl_kept h.map hk (fun n => n h.minem), fun p hp => (h.held p hp).next hk (fun i hi n => n (h.minet i _ hi)) (fun _ _ => rfl), h.tagb, h.tagm, h.ne, h.fine, h.mineb, h.minem, h.minet, fun i hi => Nat.lt_of_lt_of_le (h.old i hi) hk.size⟩
theorem DiskAt.next (h : DiskAt w b D T) (hk : Kept (fun i => ¬ T i) w w') : DiskAt w' b D T := by
  obtain ⟨tag, blk, bm, h⟩ := h
  exact ⟨tag, blk, bm, h.next hk⟩
theorem DiskBy.later (h : DiskBy tag blk bm w b D T) (hb : Below w.heap.size w w') : DiskBy tag blk bm w' b D T := h.next (Kept.of_below hb)
theorem DiskBy.wide (h : DiskBy tag blk bm w b D T) (hT : ∀ i, T i → T' i) (ho : ∀ i, T' i → i < w.heap.size) : DiskBy tag blk bm w b D T' := ⟨h.head, h.map, h.held, h.tagb, h.tagm, h.ne, h.fine, hT _ h.mineb, hT _ h.minem, fun i k hi => hT _ (h.minet i k hi), ho⟩
theorem DiskBy.drew (h : DiskBy tag blk bm w b D T) : DiskBy tag blk bm w.drew b D T := h.later ((Below.refl _ w).drew)
theorem DiskBy.drewN (h : DiskBy tag blk bm w b D T) (n : Nat) : DiskBy tag blk bm (w.drewN n) b D T := h.later ((Below.refl _ w).drewN n)
/-- The head turned. -/
theorem DiskBy.turned (h : DiskBy tag blk bm w b D T) {D' : DiskD} (hf : D'.files = D.files) (hk : Kept (fun i => i = b) w w') (hc : CellsAt w' b 5 (diskCell bm D')) (hfine : Fine D') : DiskBy tag blk bm w' b D' T := by
  have hnb : bm ≠ b := fun e => h.ne e.symm
  refine ⟨hc, ?_, fun p hp => ?_, h.tagb, h.tagm, h.ne, hfine, h.mineb, h.minem, h.minet, fun i hi => Nat.lt_of_lt_of_le (h.old i hi) hk.size⟩
  · rw [hf]; exact mapl_kept h.map hk hnb
  · rw [hf] at hp
    exact (h.held p hp).next hk (fun i hi e => by rw [e, h.tagb] at hi; cases hi) (fun _ _ => rfl)
/-- One file turned. -/
theorem DiskBy.file (h : DiskBy tag blk bm w b D T) {tag' : Nat → Option Lit} {k : Lit} {F F' : FileD} (hl : lookL D.files k = some F) (hk : Kept (fun i => tag i = some k) w w') (hf : FileAt tag' w' k (blk k) F') (ht : ∀ i, i < w.heap.size → tag' i = tag i) (hn : ∀ i q, w.heap.size ≤ i → tag' i = some q → i < w'.heap.size) (hfine : Fine (withFile D k F')) : DiskBy tag' blk bm w' b (withFile D k F') (More T w w') := by
  have hm := mem_of_look hl
  refine ⟨h.head.kept hk h.lt (fun e => by rw [h.tagb] at e; cases e), ?_, fun p hp => ?_, (ht _ h.lt).trans h.tagb, (ht _ h.map.lt).trans h.tagm, h.ne, hfine, .inl h.mineb, .inl h.minem, fun i q hi => ?_, fun i hi => ?_⟩
  · show MapL _ _ w' bm (mapE (fun q _ => ptr (blk q)) (setL D.files k F'))
    rw [mapE_set (fun q => ptr (blk q))]
    exact mapl_kept h.map hk (fun e => by rw [h.tagm] at e; cases e)
  · rcases mem_set hp with ⟨hp, hs⟩ | ⟨e1, e2⟩
    · refine (h.held p hp).next hk (fun i hi e => ?_) ht
      rw [hi] at e
      injection e with e
      rw [e, WideAt.sameKey_self (h.fine.key hm)] at hs
      cases hs
    · rw [e1, e2]; exact hf
  · rcases Nat.lt_or_ge i w.heap.size with hlt | hge
    · exact .inl (h.minet i q ((ht i hlt).symm.trans hi))
    · exact .inr ⟨hge, hn i q hge hi⟩
  · rcases hi with hi | hi
    · exact Nat.lt_of_lt_of_le (h.old i hi) hk.size
    · exact hi.2
/-- One file gone. -/
theorem DiskBy.dropped (h : DiskBy tag blk bm w b D T) {k : Lit} (hm : MapL Tryd.prog 9 w' bm (delL (mapE (fun k _ => ptr (blk k)) D.files) k)) (ht : w.mapTurned w' bm) : DiskBy tag blk bm w' b { D with files := delL D.files k } T := by
  have hk : Kept (fun i => i = bm) w w' := Kept.turned (T := fun i => i = bm) (Kept.refl _ w) ht (.inl rfl)
  rw [mapE_del] at hm
  exact ⟨h.head.kept hk h.lt h.ne, hm, fun p hp => (h.held p (mem_del hp).1).next hk (fun i hi e => by rw [e, h.tagm] at hi; cases hi) (fun _ _ => rfl), h.tagb, h.tagm, h.ne, h.fine.drop k, h.mineb, h.minem, h.minet, fun i hi => Nat.lt_of_lt_of_le (h.old i hi) hk.size⟩
/-- One file more: its struct was made in block c, the map turned. -/
theorem DiskBy.put (h : DiskBy tag blk bm w b D T) {w2 : World} {n : List UInt8} {c : Nat} (hb1 : Below w.heap.size w w2) (hc : w.heap.size ≤ c) (hc2 : c < w2.heap.size) (hcells : CellsAt w2 c 3 (fileCell (.slice none 0 0) ⟨[], 0, true⟩)) (hm : MapL Tryd.prog 9 w' bm (putL (mapE (fun k _ => ptr (blk k)) D.files) (keyS n) (ptr c))) (ht : w2.mapTurned w' bm)
    (hn : mayName n = true) (hl : lookL D.files (keyS n) = none) (hf : D.files.length < 16) :
    DiskBy (fun i => if i = c then some (keyS n) else tag i) (fun q => if q.sameKey (keyS n) then c else blk q) bm w' b { D with files := putL D.files (keyS n) ⟨[], 0, true⟩ } (More T w w') := by
  have hk2 : Kept (fun i => i = bm) w2 w' := Kept.turned (T := fun i => i = bm) (Kept.refl _ w2) ht (.inl rfl)
  have hk : Kept (fun i => i = bm) w w' := (Kept.of_below (T := fun i => i = bm) hb1).trans hk2 (fun _ h => .inl h)
  have hold : ∀ p ∈ D.files, p.1.sameKey (keyS n) = false := fun p hp => by
    unfold lookL at hl
    rw [Option.map_eq_none_iff, List.find?_eq_none] at hl
    simpa using hl p hp
  have hself : (keyS n).sameKey (keyS n) = true := WideAt.sameKey_self (isKey n)
  have hbc : b ≠ c := by have := h.lt; omega
  have hmc : bm ≠ c := by have := h.map.lt; omega
  refine ⟨h.head.kept hk h.lt h.ne, ?_, fun p hp => ?_, by rw [if_neg hbc]; exact h.tagb, by rw [if_neg hmc]; exact h.tagm, h.ne, h.fine.put hn hl hf, .inl h.mineb, .inl h.minem, fun i q hi => ?_, fun i hi => ?_⟩
  · have he : mapE (fun q (_ : FileD) => ptr (if q.sameKey (keyS n) then c else blk q)) D.files = mapE (fun k (_ : FileD) => ptr (blk k)) D.files := mapE_congr _ _ _ fun p hp => by rw [hold p hp]; rfl
    show MapL _ _ w' bm (mapE (fun q (_ : FileD) => ptr (if q.sameKey (keyS n) then c else blk q)) (putL D.files (keyS n) ⟨[], 0, true⟩))
    rw [← mapE_put (fun q (_ : FileD) => ptr (if q.sameKey (keyS n) then c else blk q)), he, hself]
    exact hm
  · rcases mem_put hp with rfl | ⟨hp, _⟩
    · simp only [hself, if_true]
      refine ⟨⟨.slice none 0 0, hcells.kept hk2 hc2 (fun e => hmc e.symm), ⟨rfl, .inl ⟨rfl, rfl⟩⟩, fun r hr => by cases hr⟩, by simp⟩
    · simp only [hold p hp, Bool.false_eq_true, if_false]
      refine (h.held p hp).next hk (fun i hi e => by rw [e, h.tagm] at hi; cases hi) (fun i hi => ?_)
      rw [if_neg (by omega)]
  · by_cases hic : i = c
    · subst hic
      exact .inr ⟨hc, Nat.lt_of_lt_of_le hc2 hk2.size⟩
    · rw [if_neg hic] at hi
      exact .inl (h.minet i q hi)
  · rcases hi with hi | hi
    · exact Nat.lt_of_lt_of_le (h.old i hi) hk.size
    · exact hi.2
end
end Go.Proofs.YtpiaplgbpjgjiaaDoor.Dk
