/-
  The net (layer 30): the walk of Turn. Condition: the net is the call's own.
-/
import Derived.Test.YtplfnjpoikhmbaaNtOps
import Derived.Laws.BitsAllLaws
open Go Go.RowKit
namespace Go.Proofs.Ytplfnjpoikhmbaa.Nt
open Base Mp

theorem u8_xor (a b : UInt8) : bits .xor .u8 (a.toNat : Int) (b.toNat : Int) = (((a ^^^ b).toNat : Nat) : Int) := by
  rw [UInt8.toNat_xor]
  exact u8_xor_nat _ _ a.toNat_lt b.toNat_lt
def turnE (N : NetD) (n : Nat) (m : Int) : Int := match findG N.G n with
  | none => 5
  | some g => if m < 0 ∨ (g.text.length : Int) ≤ m then 2 else 0
def turnR (N : NetD) (n : Nat) (m : Int) (y : UInt8) : NetD := if turnE N n m = 0 then turnN N n m.toNat y else N
set_option maxRecDepth 100000 in
set_option maxHeartbeats 4000000 in
theorem Turn_f {w : World} {b bm : Nat} {N : NetD} (h : NetAt w b bm N) (n : Nat) (m : Int) (y : UInt8) (hn : n < 18446744073709551616) : Calls Try.prog 11 #[ptr b, .int .u64 (n : Int), .int .i64 m, .int .u8 (y.toNat : Int)] w fun e w' => e = .returned (.int .i64 (turnE N n m)) ∧ NetAt w' b bm (turnR N n m y) ∧ Kept (fun i => i = bm) w w' := by
  have HT := Lib.hid (There_f h)
  have H := Lib.hid h
  have c0 := h.c0
  have hk := h.look hn
  have HLT := Lib.hid (And.intro h.lt h.map.lt)
  clear h
  unfold ptr at *
  go_enter Try.func11, Try.ntmps11
  go_wp2_with fail
  with_reducible refine HT.out.mono ?_
  rintro e w2 ⟨rfl, rfl⟩
  cases hg : findG N.G n with
  | none =>
    rw [hg] at hk
    have HD := Lib.hid (show turnE N n m = 5 by unfold turnE; rw [hg])
    have HR := Lib.hid (show turnR N n m y = N by unfold turnR; rw [HD.out]; rfl)
    simp only [Option.map, Option.getD, Option.isSome] at hk
    unfold gramV zeroG at hk
    have hb3 : Below w2.heap.size w2 (w2.alloc (.cells #[.int .u64 0, .string (B []), .string (B [])] 32)) := (Below.refl _ _).alloc (Nat.le_refl _) _
    have HB3 := Lib.hid hb3
    clear hg hb3
    go_wp2
    go_ret
    rw [HD.out, HR.out]
    exact ⟨rfl, H.out.next HB3.out, Kept.of_below HB3.out⟩
  | some gg =>
    rw [hg] at hk
    simp only [Option.map, Option.getD, Option.isSome] at hk
    have HG0 := Lib.hid hg
    obtain ⟨gi, gt, gx⟩ := gg
    unfold gramV at hk
    simp only at hk
    have hb3 : Below w2.heap.size w2 (w2.alloc (.cells #[.int .u64 (gi : Int), .string (B gt), .string (B gx)] 32)) := (Below.refl _ _).alloc (Nat.le_refl _) _
    have HB3 := Lib.hid hb3
    have HN3 := Lib.hid (H.out.next hb3)
    have hg3 := gram_made w2 ⟨gi, gt, gx⟩
    have HG3 := Lib.hid hg3
    have HS3 := Lib.hid (alloc_more w2 (.cells #[.int .u64 (gi : Int), .string (B gt), .string (B gx)] 32))
    obtain ⟨q0, q1, q2, -, -, p2⟩ := hg3.cells
    simp only at q0 q1 q2
    by_cases hm : m < 0 ∨ (gx.length : Int) ≤ m
    · have HD := Lib.hid (show turnE N n m = 2 by unfold turnE; rw [HG0.out]; exact if_pos hm)
      have HR := Lib.hid (show turnR N n m y = N by unfold turnR; rw [HD.out]; rfl)
      clear hg hb3 hg3
      by_cases hm0 : m < 0
      · clear hm
        go_wp2
        go_ret
        rw [HD.out, HR.out]
        exact ⟨rfl, HN3.out, Kept.of_below HB3.out⟩
      · have hm1 : (gx.length : Int) ≤ m := hm.resolve_left hm0
        clear hm
        go_wp2
        go_ret
        rw [HD.out, HR.out]
        exact ⟨rfl, HN3.out, Kept.of_below HB3.out⟩
    · obtain ⟨j, rfl⟩ : ∃ j : Nat, m = (j : Int) := ⟨m.toNat, by omega⟩
      have hj : j < gx.length := by omega
      have HD := Lib.hid (show turnE N n (j : Int) = 0 by unfold turnE; rw [HG0.out]; exact if_neg hm)
      have HR := Lib.hid (show turnR N n (j : Int) y = ⟨setG N.G n ⟨gi, gt, gx.set j (gx[j] ^^^ y)⟩, N.last, N.lost⟩ by
        unfold turnR turnN
        rw [HD.out, HG0.out, if_pos rfl]
        simp only [turnT, Int.toNat_natCast, List.getElem?_eq_getElem hj, Option.getD_some])
      have hgi : gi = n := (find_mem hg).2
      have HGI := Lib.hid hgi
      have m0 : ¬ (j : Int) < 0 := by omega
      have m1 : (j : Int) < (gx.length : Int) := by omega
      have m2 : 0 ≤ (j : Int) := by omega
      have m3 : ¬ (gx.length : Int) ≤ (j : Int) := by omega
      clear hm hg hb3
      subst hgi
      generalize hw3 : w2.alloc (.cells #[.int .u64 (gi : Int), .string (B gt), .string (B gx)] 32) = w3 at *
      obtain ⟨kc, w4, hconv, hby, hbl, hsz⟩ := conv_laid (P := Try.prog) w3 9 61 5 (B gx) Try.underlying9 Try.underlying61 Try.underlying5
      rw [B_size] at hconv
      rw [B_data] at hby
      obtain ⟨cj, fj⟩ := hby j hj
      have hx := u8_xor gx[j] y
      have hset := hby.set j hj (gx[j] ^^^ y)
      have hback := hset.back (P := Try.prog) 61 9 5 gx.length kc (by simp) Try.underlying61 Try.underlying5 Try.underlying9
      have hg4 : GramAt w4 w2.heap.size ⟨gi, gt, gx⟩ := hg3.below hbl (by have := HS3.out; omega)
      have hne4 : w3.heap.size ≠ w2.heap.size := by have := HS3.out; omega
      have hg5 : GramAt (w4.setCell ⟨w3.heap.size, j, none⟩ (.int .u8 (((gx[j] ^^^ y).toNat : Nat) : Int))) w2.heap.size ⟨gi, gt, gx⟩ := CellsAt.other hg4 hne4 _
      have hg6 : GramAt ((w4.setCell ⟨w3.heap.size, j, none⟩ (.int .u8 (((gx[j] ^^^ y).toNat : Nat) : Int))).setCell ⟨w2.heap.size, 2, none⟩ (.string (B (gx.set j (gx[j] ^^^ y))))) w2.heap.size ⟨gi, gt, gx.set j (gx[j] ^^^ y)⟩ := by
        refine (CellsAt.set hg5 (i := 2) (by omega) _).congr fun k hk => ?_
        have : k = 0 ∨ k = 1 ∨ k = 2 := by omega
        rcases this with rfl | rfl | rfl <;> simp
      have hb6 : Below w2.heap.size w3 ((w4.setCell ⟨w3.heap.size, j, none⟩ (.int .u8 (((gx[j] ^^^ y).toNat : Nat) : Int))).setCell ⟨w2.heap.size, 2, none⟩ (.string (B (gx.set j (gx[j] ^^^ y))))) :=
        (((hbl.mono (B' := w2.heap.size) (by have := HS3.out; omega)).setCell (p := ⟨w3.heap.size, j, none⟩) (show w2.heap.size ≤ w3.heap.size by have := HS3.out; omega) _).setCell (p := ⟨w2.heap.size, 2, none⟩) (Nat.le_refl _) _)
      have HB6 := Lib.hid (HB3.out.trans hb6)
      have HN6 := Lib.hid (H.out.next (HB3.out.trans hb6))
      obtain ⟨s0, s1, s2, -, -, -⟩ := hg6.cells
      obtain ⟨r0, r1, r2, -, -, g2⟩ := hg5.cells
      simp only at s0 s1 s2 r0 r1 r2
      have c6 := HN6.out.c0
      obtain ⟨W7, hst, hm7, hk7⟩ := HN6.out.drew.stored ⟨gi, gt, gx.set j (gx[j] ^^^ y)⟩ (by rw [HGI.out]; exact hn)
      simp only [gramV] at hst
      have HM7 := Lib.hid hm7
      have HK7 := Lib.hid hk7
      clear hg3 hby hset hbl hg4 hg5 hg6 hb6 hm7 hk7
      generalize gx[j] = xj at *
      generalize (xj ^^^ y).toNat = xv at *
      go_wp2
      go_region
      all_goals go_wp2
      go_ret
      rw [HD.out, HR.out]
      have hset2 := put_old ⟨gi, gt, gx.set j (xj ^^^ y)⟩ N.G H.out.fine.rise (by show (findG N.G gi).isSome = true; rw [HG0.out]; rfl)
      have hm8 := HM7.out
      rw [hset2] at hm8
      have hf := H.out.fine.turn gi j y
      refine ⟨rfl, ⟨?_, ?_, H.out.ne, ?_⟩, ?_⟩
      · exact (HN6.out.drew.head.kept HK7.out HN6.out.drew.lt H.out.ne).congr fun k hk => by
          have : k = 0 ∨ k = 1 ∨ k = 2 := by omega
          rcases this with rfl | rfl | rfl <;> rfl
      · exact hm8
      · have e := HR.out
        unfold turnR at e
        rw [HD.out, if_pos rfl, Int.toNat_natCast] at e
        rw [← e]
        exact hf
      · exact (Kept.of_below (T := fun i => i = bm) (HB6.out.drewN 1)).trans HK7.out (fun _ h => .inl h)
end Go.Proofs.Ytplfnjpoikhmbaa.Nt
