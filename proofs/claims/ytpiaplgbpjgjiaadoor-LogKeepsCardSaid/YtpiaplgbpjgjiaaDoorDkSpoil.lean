/-
  Disks (layer 7): the walk of Spoil. No condition but that names are no longer than a string may be.
-/
import Derived.Test.YtpiaplgbpjgjiaaDoorDkWorks
import Derived.Laws.BitsAllLaws
open Go Go.RowKit
namespace Go.Proofs.YtpiaplgbpjgjiaaDoor.Dk
open Base Mp
attribute [local go_sem ↓] Go.wp_at_zero Go.wp_at_succ

theorem u8_xor (a b : UInt8) : bits .xor .u8 (a.toNat : Int) (b.toNat : Int) = (((a ^^^ b).toNat : Nat) : Int) := by
  rw [UInt8.toNat_xor]
  exact u8_xor_nat _ _ a.toNat_lt b.toNat_lt
theorem own_set {w : World} {base : Nat} {e : TypeId} {g n cap : Nat} {xs : List Value} (h : w.ownsRow base e 1 (.slice (some ⟨g, 0, none⟩) n cap) n xs) (j : Nat) (u : Value) : (w.setCell ⟨g, j, none⟩ u).ownsRow base e 1 (.slice (some ⟨g, 0, none⟩) n cap) n (xs.set j u) := by
  obtain ⟨hl, ⟨h1, _⟩ | ⟨g', cap', cur, h1, hg, hb, hnc, hcm, hcs, ht⟩⟩ := h
  · cases h1
  · injection h1 with h2 h3 h4
    injection h2 with h2
    injection h2 with h2
    subst h2 h4
    refine ⟨by simpa using hl, .inr ⟨g, cap, cur.setIfInBounds j u, rfl, hg, ?_, hnc, hcm, by simpa using hcs, ?_⟩⟩
    · have hlt : g < w.heap.size := by
        rcases Nat.lt_or_ge g w.heap.size with h | h
        · exact h
        · rw [Array.getElem?_eq_none h] at hb; cases hb
      have hge : w.heap[g] = .cells cur e (0, 0) := by
        rw [Array.getElem?_eq_getElem hlt] at hb
        exact Option.some.inj hb
      simp [World.setCell, hlt, Array.getElem_modify, hge]
    · rw [Array.toList_setIfInBounds, List.take_set, ht]
set_option maxRecDepth 100000 in
set_option maxHeartbeats 2000000 in
theorem Spoil_f {w : World} {b : Nat} {D : DiskD} {T : Nat → Prop} (h : DiskAt w b D T) (n : List UInt8) (m : Int) (y : UInt8) (hn : n.length ≤ maxLen) (hm64 : -9223372036854775808 ≤ m ∧ m ≤ 9223372036854775807) : Calls Tryd.prog 24 #[.pointer (some ⟨b, 0, none⟩), .string (B n), .int .i64 m, .int .u8 (y.toNat : Int)] w (OpPost w b T (spoilD D n m y)) := by
  obtain ⟨tag, blk, bm, h⟩ := h
  have H := Lib.hid h
  cases hl : lookL D.files (keyS n) with
  | none =>
    have HF := Lib.hid (Find_no h n hn hl)
    have HE := Lib.hid (show spoilD D n m y = (D, 5) by unfold spoilD findD; rw [hl])
    clear h hl
    go_enter Tryd.func24, Tryd.ntmps24
    go_wp2_with fail
    with_reducible refine HF.out.mono ?_
    rintro e w1 ⟨rfl, rfl⟩
    go_wp2
    go_ret
    rw [HE.out]
    exact ⟨rfl, H.out.out, Kept.refl _ _⟩
  | some F =>
    have HF := Lib.hid (Find_yes h n hn F hl)
    obtain ⟨⟨v, hcs, hr, hv⟩, hm⟩ := h.at hl
    have c0 := (hcs 0 (by omega)).1
    simp only [fileCell] at c0
    have HL := Lib.hid hl
    have hsh := h.fine.short (mem_of_look hl)
    simp only at hsh
    by_cases hc : m < 0 ∨ (F.bytes.length : Int) ≤ m
    · have HE := Lib.hid (show spoilD D n m y = (D, 2) by unfold spoilD findD; rw [hl]; simp only; rw [if_pos hc])
      obtain ⟨p, cap, rfl, -⟩ := own_take hr (Nat.le_refl _)
      clear h hl hcs hr hv hm
      go_enter Tryd.func24, Tryd.ntmps24
      go_wp2_with fail
      with_reducible refine HF.out.mono ?_
      rintro e w1 ⟨rfl, rfl⟩
      by_cases hm0 : m < 0
      · clear hc
        go_wp2
        go_ret
        rw [HE.out]
        exact ⟨rfl, H.out.out, Kept.refl _ _⟩
      · have hm1 : (F.bytes.length : Int) ≤ m := hc.resolve_left hm0
        clear hc
        go_wp2
        go_ret
        rw [HE.out]
        exact ⟨rfl, H.out.out, Kept.refl _ _⟩
    · obtain ⟨j, rfl⟩ : ∃ j : Nat, m = (j : Int) := ⟨m.toNat, by omega⟩
      have hj : j < F.bytes.length := by omega
      have HE := Lib.hid (show spoilD D n (j : Int) y = (withFile D (keyS n) ⟨F.bytes.set j (F.bytes[j] ^^^ y), F.sure, F.fresh⟩, 0) by
        unfold spoilD findD
        rw [hl]
        simp only
        rw [if_neg hc]
        simp [List.getD_eq_getElem?_getD, hj])
      have hr0 := hr
      rcases own_bytes hr with ⟨rfl, hb⟩ | ⟨g, cap, rfl, hb⟩
      · rw [hb] at hj; simp at hj
      · have hcell := (hb j hj).1
        have hfroz := (hb j hj).2
        have hx := u8_xor F.bytes[j] y
        have hset := own_set hr0 j (.int .u8 (((F.bytes[j] ^^^ y).toNat : Nat) : Int))
        have hk : Kept (fun i => i = g) w (w.setCell ⟨g, j, none⟩ (.int .u8 (((F.bytes[j] ^^^ y).toNat : Nat) : Int))) := Kept.setCell (T := fun i => i = g) (Kept.refl _ w) (.inl rfl) _
        have hg := hv g rfl
        have hkk : Kept (fun i => tag i = some (keyS n)) w (w.setCell ⟨g, j, none⟩ (.int .u8 (((F.bytes[j] ^^^ y).toNat : Nat) : Int))) := hk.mono fun i e => by rw [e]; exact hg.1
        have hfi := h.fine.set (G := ⟨F.bytes.set j (F.bytes[j] ^^^ y), F.sure, F.fresh⟩) hl (by have := h.fine.sure _ (mem_of_look hl); simpa using this) (by have := h.fine.fits; simp; omega)
        have h4 := h.inplace (F' := ⟨F.bytes.set j (F.bytes[j] ^^^ y), F.sure, F.fresh⟩) (v := .slice (some ⟨g, 0, none⟩) F.bytes.length cap) (v' := .slice (some ⟨g, 0, none⟩) F.bytes.length cap) hl hkk (by simp) (hcs.kept hk (hcs.lt (by omega)) (fun e => hg.2 e.symm)) (by
          have e1 : (F.bytes.set j (F.bytes[j] ^^^ y)).length = F.bytes.length := by simp
          have e2 : byteV (F.bytes.set j (F.bytes[j] ^^^ y)) = (byteV F.bytes).set j (.int .u8 (((F.bytes[j] ^^^ y).toNat : Nat) : Int)) := by simp [byteV, List.map_set]
          show World.ownsRow _ 0 _ 1 _ (F.bytes.set j (F.bytes[j] ^^^ y)).length (byteV (F.bytes.set j (F.bytes[j] ^^^ y)))
          rw [e1, e2]
          exact hset) hv rfl hfi
        have H4 := Lib.hid h4
        have K4 := Lib.hid (hkk.mono (T' := T) fun i hi => h.minet i _ hi)
        have m0 : ¬ (j : Int) < 0 := by omega
        have m1 : (j : Int) < (F.bytes.length : Int) := by omega
        have m2 : 0 ≤ (j : Int) := by omega
        clear h hl hcs hr hr0 hv hm hb hset hk hkk hg hfi h4 hc
        generalize F.bytes[j] = cj at *
        go_enter Tryd.func24, Tryd.ntmps24
        go_wp2_with fail
        with_reducible refine HF.out.mono ?_
        rintro e w1 ⟨rfl, rfl⟩
        go_wp2
        go_ret
        rw [HE.out]
        exact ⟨rfl, H4.out.out, K4.out⟩
end Go.Proofs.YtpiaplgbpjgjiaaDoor.Dk
