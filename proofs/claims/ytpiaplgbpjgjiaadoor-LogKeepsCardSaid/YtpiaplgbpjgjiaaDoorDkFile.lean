/-
  Disks (layer 7): the walks of a file: sync, loose; and of the calls on one: Sync, Cut, Read, Loose, Fuse, New, Remove. No condition.
-/
import Derived.Test.YtpiaplgbpjgjiaaDoorDkSmall
import Derived.Deep.RegionHeld3
import Derived.Deep.DrawnRows
open Go Go.RowKit
namespace Go.Proofs.YtpiaplgbpjgjiaaDoor.Dk
open Base Mp
attribute [local go_sem ↓] Go.wp_at_zero Go.wp_at_succ

theorem own_take {w : World} {base : Nat} {e : TypeId} {v : Value} {n m : Nat} {xs : List Value} (h : w.ownsRow base e 1 v n xs) (hm : m ≤ n) : ∃ p cap, v = .slice p n cap ∧ (p = none → n = 0 ∧ cap = 0) ∧ (∀ a, p = some a → a = ⟨a.block, 0, none⟩) ∧ n ≤ cap ∧ cap ≤ maxLen ∧ w.ownsRow base e 1 (.slice p m cap) m (xs.take m) ∧ (Value.slice p m cap).ownBlock = v.ownBlock := by
  obtain ⟨hl, ⟨rfl, h2⟩ | ⟨g, cap, cur, rfl, hg, hb, hnc, hcm, hcs, ht⟩⟩ := h
  · subst h2
    obtain rfl : m = 0 := by omega
    exact ⟨none, 0, rfl, fun _ => ⟨rfl, rfl⟩, fun a h => (by cases h), Nat.le_refl _, Nat.zero_le _, ⟨by simp, .inl ⟨rfl, rfl⟩⟩, rfl⟩
  · refine ⟨some ⟨g, 0, none⟩, cap, rfl, fun h => (by cases h), fun a h => (by injection h with h; rw [← h]), hnc, hcm, ⟨by rw [List.length_take]; omega, .inr ⟨g, cap, cur, rfl, hg, hb, by omega, hcm, hcs, ?_⟩⟩, rfl⟩
    rw [← ht, List.take_take]
    congr 1
    omega
section
variable {tag : Nat → Option Lit} {blk : Lit → Nat} {bm : Nat} {w : World} {b : Nat} {D : DiskD} {T : Nat → Prop}
theorem DiskBy.at (h : DiskBy tag blk bm w b D T) {k : Lit} {F : FileD} (hl : lookL D.files k = some F) : FileAt tag w k (blk k) F := h.held _ (mem_of_look hl)
theorem byteV_take (l : List UInt8) (n : Nat) : (byteV l).take n = byteV (l.take n) := by simp [byteV]
/-- The struct and the row of a file turned, in place. -/
theorem DiskBy.inplace (h : DiskBy tag blk bm w b D T) {k : Lit} {F F' : FileD} {v v' : Value} {w' : World} (hl : lookL D.files k = some F) (hk : Kept (fun i => tag i = some k) w w') (hz : w'.heap.size = w.heap.size) (hc : CellsAt w' (blk k) 3 (fileCell v' F')) (hr : w'.ownsRow 0 5 1 v' F'.bytes.length (byteV F'.bytes)) (hv : ∀ r, v.ownBlock = some r → tag r = some k ∧ r ≠ blk k) (ho : v'.ownBlock = v.ownBlock) (hfine : Fine (withFile D k F')) : DiskBy tag blk bm w' b (withFile D k F') T := by
  have h1 := h.file hl hk ⟨⟨v', hc, hr, fun r hr => hv r (ho ▸ hr)⟩, (h.at hl).mine⟩ (fun _ _ => rfl) (fun i q hi hq => by have := h.old i (h.minet i q hq); omega) hfine
  refine h1.wide (fun i hi => ?_) (fun i hi => by rw [hz]; exact h.old i hi)
  rcases hi with hi | hi
  · exact hi
  · omega
theorem three_set {w : World} {k : Lit} {fb : Nat} (v' : Value) (F F' : FileD) {v : Value} (hm : tag fb = some k) (hc : CellsAt w fb 3 (fileCell v F)) {base : Nat} {xs : List Value} {n : Nat} (hr : w.ownsRow base 5 1 v' n xs) (hv : ∀ r, v'.ownBlock = some r → r ≠ fb) :
    Kept (fun i => tag i = some k) w (((w.setCell ⟨fb, 0, none⟩ v').setCell ⟨fb, 1, none⟩ (.int .i64 (F'.sure : Int))).setCell ⟨fb, 2, none⟩ (.bool F'.fresh)) ∧ (((w.setCell ⟨fb, 0, none⟩ v').setCell ⟨fb, 1, none⟩ (.int .i64 (F'.sure : Int))).setCell ⟨fb, 2, none⟩ (.bool F'.fresh)).heap.size = w.heap.size ∧
      CellsAt (((w.setCell ⟨fb, 0, none⟩ v').setCell ⟨fb, 1, none⟩ (.int .i64 (F'.sure : Int))).setCell ⟨fb, 2, none⟩ (.bool F'.fresh)) fb 3 (fileCell v' F') ∧ (((w.setCell ⟨fb, 0, none⟩ v').setCell ⟨fb, 1, none⟩ (.int .i64 (F'.sure : Int))).setCell ⟨fb, 2, none⟩ (.bool F'.fresh)).ownsRow base 5 1 v' n xs := by
  have hk : Kept (fun i => i = fb) w (((w.setCell ⟨fb, 0, none⟩ v').setCell ⟨fb, 1, none⟩ (.int .i64 (F'.sure : Int))).setCell ⟨fb, 2, none⟩ (.bool F'.fresh)) := Kept.setCell (T := fun i => i = fb) (Kept.setCell (T := fun i => i = fb) (Kept.setCell (T := fun i => i = fb) (Kept.refl _ w) (.inl rfl) _) (.inl rfl) _) (.inl rfl) _
  refine ⟨hk.mono (fun i e => by rw [e]; exact hm), by simp, (CellsAt.set (CellsAt.set (CellsAt.set hc (i := 0) (by omega) v') (i := 1) (by omega) (.int .i64 (F'.sure : Int))) (i := 2) (by omega) (.bool F'.fresh)).congr fun j hj => ?_, own_kept hr hk (fun r hr e => hv r hr e)⟩
  have : j = 0 ∨ j = 1 ∨ j = 2 := by omega
  rcases this with rfl | rfl | rfl <;> rfl
set_option maxRecDepth 100000 in
set_option maxHeartbeats 2000000 in
theorem FSync_f (h : DiskBy tag blk bm w b D T) {k : Lit} {F : FileD} (hl : lookL D.files k = some F) (n : Nat) (hn : n ≤ F.bytes.length) :
    Calls Tryd.prog 42 #[.pointer (some ⟨blk k, 0, none⟩), .int .i64 (n : Int)] w fun e w' => e = .returned (.tuple #[]) ∧ DiskBy tag blk bm w' b (withFile D k ⟨F.bytes.take n, n, false⟩) T ∧ Kept (fun i => tag i = some k) w w' := by
  have H := Lib.hid h
  obtain ⟨⟨v, hc, hr, hv⟩, hm⟩ := h.at hl
  obtain ⟨p, cap, rfl, hp1, hp2, hcap, hcm, hr2, hob⟩ := own_take hr hn
  have c0 := (hc 0 (by omega)).1
  have c1 := (hc 1 (by omega)).1
  have c2 := (hc 2 (by omega)).1
  have f0 := (hc 0 (by omega)).2
  have f1 := (hc 1 (by omega)).2
  have f2 := (hc 2 (by omega)).2
  simp only [fileCell] at c0 c1 c2
  have HC := Lib.hid hc
  have HR := Lib.hid hr2
  have HV := Lib.hid hv
  have HOB := Lib.hid hob
  have HM := Lib.hid hm
  have HL := Lib.hid hl
  have m1 : (n : Int) ≤ (cap : Int) := by omega
  have m2 : 0 ≤ (n : Int) := by omega
  have hcm2 : cap ≤ 9223372036854775807 := hcm
  clear hcm
  have hsh := h.fine.short (mem_of_look hl)
  have HN := Lib.hid hn
  clear h hc hr hv hm hr2 hob hl
  generalize hfb : blk k = fb at *
  have HFB := Lib.hid hfb
  clear hfb
  cases p with
  | none =>
    obtain ⟨e1, rfl⟩ := hp1 rfl
    clear hp1 hp2
    rw [e1] at hn c0
    obtain rfl : n = 0 := by omega
    rw [e1] at HC
    go_enter Tryd.func42, Tryd.ntmps42
    go_wp2_with fail
    go_end0
    refine ⟨rfl, ?_⟩
    have hg := three_set (tag := tag) (k := k) (.slice none 0 0) F ⟨F.bytes.take 0, 0, false⟩ HM.out HC.out HR.out (fun r hr => (HV.out r (HOB.out ▸ hr)).2)
    have hfi := H.out.fine.set (G := ⟨F.bytes.take 0, 0, false⟩) HL.out (Nat.zero_le _) (by have := H.out.fine.fits; simp; omega)
    refine ⟨H.out.inplace HL.out hg.1 hg.2.1 (v' := (.slice none 0 0)) (by rw [HFB.out]; exact hg.2.2.1) ⟨rfl, .inl ⟨rfl, rfl⟩⟩ (by rw [HFB.out]; exact HV.out) HOB.out hfi, hg.1⟩
  | some a =>
    obtain ⟨g, ga, rfl⟩ : ∃ g, a = ⟨g, 0, none⟩ := ⟨_, hp2 a rfl⟩
    clear hp1 hp2
    go_enter Tryd.func42, Tryd.ntmps42
    go_wp2_with fail
    go_end0
    refine ⟨rfl, ?_⟩
    have hg := three_set (tag := tag) (k := k) (.slice (some ⟨g, 0, none⟩) n cap) F ⟨F.bytes.take n, n, false⟩ HM.out HC.out HR.out (fun r hr => (HV.out r (HOB.out ▸ hr)).2)
    have hfi := H.out.fine.set (G := ⟨F.bytes.take n, n, false⟩) HL.out (by show n ≤ (F.bytes.take n).length; rw [List.length_take]; have := HN.out; omega) (by have := H.out.fine.fits; simp; omega)
    have hl : (F.bytes.take n).length = n := by rw [List.length_take]; have := HN.out; omega
    refine ⟨H.out.inplace HL.out hg.1 hg.2.1 (v' := (.slice (some ⟨g, 0, none⟩) n cap)) (by rw [HFB.out]; exact hg.2.2.1) (by rw [hl, ← byteV_take]; exact hg.2.2.2) (by rw [HFB.out]; exact HV.out) HOB.out hfi, hg.1⟩
end
end Go.Proofs.YtpiaplgbpjgjiaaDoor.Dk
