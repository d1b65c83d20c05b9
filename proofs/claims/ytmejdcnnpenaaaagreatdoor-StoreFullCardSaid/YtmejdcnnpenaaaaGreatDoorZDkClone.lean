/-
  Disks (layer 7): slices.Clone of a file's bytes. Condition: they are no more than a disk may have.
-/
import Derived.Test.YtmejdcnnpenaaaaGreatDoorZDkB
open Go Go.RowKit
namespace Go.Proofs.YtmejdcnnpenaaaaGreatDoor.Dk
open Base Mp

theorem own_empty (w : World) (base : Nat) (hb : base ≤ w.heap.size) (e : TypeId) : (w.alloc (.cells #[] e)).ownsRow base e 1 (.slice (some ⟨w.heap.size, 0, none⟩) 0 0) 0 [] := by
  refine ⟨rfl, .inr ⟨w.heap.size, 0, #[], rfl, hb, ?_, Nat.le_refl _, by simp, rfl, rfl⟩⟩
  show (w.heap.push _)[w.heap.size]? = _
  simp
set_option maxRecDepth 100000 in
theorem clone_run (w : World) (g cap : Nat) (l : List UInt8) (hr : w.ownsRow 0 5 1 (.slice (some ⟨g, 0, none⟩) l.length cap) l.length (byteV l)) (hm : l.length ≤ 8388608) :
    ∃ v' w', (Builtin.append_ #[41, 41] 41 #[.slice (some ⟨w.heap.size, 0, none⟩) 0 0, .slice (some ⟨g, 0, none⟩) l.length cap]).run Tryz.prog (w.alloc (.cells #[] 5)) = .ok v' w' ∧ w'.ownsRow w.heap.size 5 1 v' l.length (byteV l) ∧ Below w.heap.size w w' := by
  obtain ⟨i0, hi, hz0, hz1, hz2⟩ := info_parts infoU8
  have hb1 : Below w.heap.size w (w.alloc (.cells #[] 5)) := (Below.refl _ _).alloc (Nat.le_refl _) _
  have ho := own_empty w w.heap.size (Nat.le_refl _) 5
  have hr2 : (w.alloc (.cells #[] 5)).ownsRow 0 5 1 (.slice (some ⟨g, 0, none⟩) l.length cap) l.length (byteV l) := hr.alloc _
  cases hl : l with
  | nil =>
    refine ⟨_, _, ?_, ho, hb1⟩
    exact run_append_nothing (w.alloc (.cells #[] 5)) 41 41 41 5 i0 Tryz.underlying41 hi (some ⟨w.heap.size, 0, none⟩) 0 0 (Nat.le_refl _) (.slice (some ⟨g, 0, none⟩) 0 cap) (Src.ofSlice _ Tryz.underlying41 ⟨g, 0, none⟩ 0 cap [] (by simp) (fun j u hj => by simp at hj) (by simp))
  | cons x r =>
    rw [← hl]
    have hn : 0 < l.length := by rw [hl]; simp
    have hc := own_cells hr2
    obtain ⟨p, c, he, hlen, hc⟩ := hc
    injection he with he1 he2 he3
    subst he1 he3
    obtain ⟨g', cap', w', h1, h2, h3, h4, -⟩ := run_append_lies (P := Tryz.prog) (w.alloc (.cells #[] 5)) 41 41 w.heap.size 5 i0 _ 1 1 Tryz.underlying41 hi hz0 hz1 hz2 rfl (by decide)
      _ 0 [] ho ⟨g, 0, none⟩ l.length cap (byteV l) (by simp [byteV]) (fun j u hj => by
        have hjl : j < (byteV l).length := by
          rcases Nat.lt_or_ge j (byteV l).length with h | h
          · exact h
          · rw [List.getElem?_eq_none h] at hj; cases hj
        obtain ⟨g2, e2, -, -, hc2⟩ := hc j hjl
        injection e2 with e2
        injection e2 with e2
        subst e2
        rw [show (⟨g, 0, none⟩ : Addr).add j = ⟨g, j, none⟩ by simp [Addr.add]; omega, hc2, ← hj, List.getElem?_eq_getElem hjl]) (by intro u hu; unfold byteV at hu; obtain ⟨k, _, rfl⟩ := List.mem_map.1 hu; rfl) hn (by unfold maxLen; omega) (by omega) (by rw [alloc_more]; omega) _ rfl
    rw [Nat.zero_add] at h1 h2
    rw [List.nil_append] at h2
    exact ⟨_, w', h1, h2, hb1.grown h3 (by rw [alloc_more]; omega) (fun q hq => (ho.lt q hq).1)⟩
set_option maxRecDepth 100000 in
set_option maxHeartbeats 2000000 in
theorem Clone_f (w : World) (v : Value) (l : List UInt8) (hr : w.ownsRow 0 5 1 v l.length (byteV l)) (hm : l.length ≤ 8388608) :
    Calls Tryz.prog 47 #[v] w fun e w' => ∃ v', e = .returned v' ∧ w'.ownsRow w.heap.size 5 1 v' l.length (byteV l) ∧ Below w.heap.size w w' := by
  obtain ⟨p, cap, rfl, hp1, hp2, -⟩ := own_take hr (Nat.le_refl _)
  cases p with
  | none =>
    obtain ⟨e1, rfl⟩ := hp1 rfl
    have hl0 : l = [] := List.length_eq_zero_iff.1 e1
    subst hl0
    clear hr hp1 hp2
    have hq : (binOp BinOp.eql 41 (.slice none 0 0) (.slice none 0 0)).run Tryz.prog w = .ok (.bool true) w := by kernel_rfl
    go_enter Tryz.func47, Tryz.ntmps47
    go_wp2
    go_ret
    exact ⟨_, rfl, ⟨rfl, .inl ⟨rfl, rfl⟩⟩, Below.refl _ _⟩
  | some a =>
    obtain ⟨g, rfl⟩ : ∃ g, a = ⟨g, 0, none⟩ := ⟨_, hp2 a rfl⟩
    clear hp1 hp2
    obtain ⟨v', w', h1, h2, h3⟩ := clone_run w g cap l hr hm
    have H1 := Lib.hid h1
    have H2 := Lib.hid h2
    have H3 := Lib.hid h3
    clear hr h1 h2 h3
    have hq : (binOp BinOp.eql 41 (.slice (some ⟨g, 0, none⟩) l.length cap) (.slice none 0 0)).run Tryz.prog w = .ok (.bool false) w := by kernel_rfl
    go_enter Tryz.func47, Tryz.ntmps47
    go_wp2_with (at_builtin; refine wpList_append_run2 rfl _ _ _ _ rfl rfl rfl H1.out ?_)
    go_ret
    exact ⟨_, rfl, H2.out, H3.out⟩
end Go.Proofs.YtmejdcnnpenaaaaGreatDoor.Dk
