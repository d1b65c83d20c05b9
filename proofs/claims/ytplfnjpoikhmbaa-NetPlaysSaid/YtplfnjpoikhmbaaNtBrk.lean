/-
  The net (layer 30): the sort's breaking of patterns at numbers of 64 bits: the part's numbers in another order.
  Conditions: the row lies in one block, one cell each; it has fewer than 65536 numbers.
-/
import Derived.Test.YtplfnjpoikhmbaaNtBits
import Derived.Laws.Bits64b
import Derived.Deep.CutRange
open Go Go.RowKit Go.Sort
namespace Go.Proofs.Ytplfnjpoikhmbaa.Nt
open Base

set_option maxRecDepth 100000 in
set_option maxHeartbeats 8000000 in
theorem Break_f (blk off cap a b : Nat) (d : Array Int) (w : World) (hH : Holds U w blk off d) (hblk : blk < w.heap.size) (hab : a ≤ b) (hb : b ≤ d.size) (hsz : d.size < 65536) :
    Calls Try.prog 35 #[.slice (some ⟨blk, off, none⟩) d.size cap, .int .i64 a, .int .i64 b] w fun e w' => e = .returned (.tuple #[]) ∧ ∃ d', RowTo blk off w w' d d' ∧ PermIn a b d d' := by
  obtain ⟨L, hL⟩ : ∃ L : Nat, b = a + L := ⟨b - a, by omega⟩
  subst hL
  have eS : (a : Int) + (L : Int) - (a : Int) = (L : Int) := by omega
  have HH := Lib.hid hH
  by_cases h8 : 8 ≤ L
  · have t8 : (8 : Int) ≤ (L : Int) := by omega
    obtain ⟨q, hq⟩ : ∃ q : Nat, q = L / 4 := ⟨_, rfl⟩
    have e1 : (L : Int).tdiv 4 = (q : Int) := by rw [Int.tdiv_eq_ediv_of_nonneg (by omega)]; omega
    have e0 : (L : Int) / 4 = (q : Int) := by omega
    have hq4 : 4 * q ≤ L := by omega
    have hq5 : L < 4 * q + 4 := by omega
    have HN := Lib.hid (Next2_f L (by omega))
    have eW : IntKind.u64.wrap (L : Int) = (L : Int) := by rw [IntKind.wrap_u64]; omega
    have HB0 := Lib.hid (And.intro ((RowTo.refl hH).alloc (.cells #[.int .u64 (L : Int)] 83)) (permIn_refl d a (a + L)))
    have hc0 : (w.alloc (.cells #[.int .u64 (L : Int)] 83)).cell? ⟨w.heap.size, 0, none⟩ = some (.int .u64 (L : Int)) := by simp
    have hf0 : (w.alloc (.cells #[.int .u64 (L : Int)] 83)).frozen? ⟨w.heap.size, 0, none⟩ = false := by simp
    have HC0 := Lib.hid (And.intro hc0 hf0)
    clear hH hq hc0 hf0
    go_enter Try.func35, Try.ntmps35
    go_wp2_with fail
    with_reducible refine (HN.out _).mono ?_
    rintro e w1 ⟨⟨M, rfl, hM1, hM2, hM3⟩, rfl⟩
    have hM4 := hM3 (by omega)
    clear hM3
    generalize w.alloc (.cells #[.int .u64 (L : Int)] 83) = W0 at *
    go_wp2
    go_loopw [9] (fun u wr => ∃ (t : Nat) (r : Array Int) (x : Nat), u = .int .i64 ((a + q * 2 + t : Nat) - 1 : Int) ∧ t ≤ 3 ∧ (RowTo blk off w wr d r ∧ PermIn a (a + L) d r) ∧ wr.cell? ⟨w.heap.size, 0, none⟩ = some (.int .u64 (x : Int)) ∧ wr.frozen? ⟨w.heap.size, 0, none⟩ = false) (fun u _ => a + q * 2 + 3 - (intOf u + 1).toNat)
    case atStart => exact ⟨0, d, L, by go_num, by omega, HB0.out, HC0.out.1, HC0.out.2⟩
    case round =>
      clear HB0 HC0
      obtain ⟨t, r, x, rfl, ht, hr, hcx, hfx⟩ := hrel
      have HR := Lib.hid hr
      have HX := Lib.hid (Rand_f w.heap.size x wr hcx hfx)
      have hneb : blk ≠ w.heap.size := by omega
      clear hr
      by_cases ht3 : t < 3
      · have t1 : ((a + q * 2 + t : Nat) : Int) - 1 ≤ (a : Int) + (q : Int) * 2 + 1 := by omega
        obtain ⟨i, hi⟩ : ∃ i : Nat, a + q * 2 + t = i + 1 := ⟨a + q * 2 + t - 1, by omega⟩
        have ei : ((a + q * 2 + t : Nat) : Int) - 1 = (i : Int) := by omega
        rw [ei] at t1 ⊢
        have HI := Lib.hid hi
        have hia : a ≤ i := by omega
        have hib : i < a + L := by omega
        clear ei hi
        go_wp2_with fail
        with_reducible refine HX.out.mono ?_
        rintro e w2 ⟨y, hy, rfl, n, rfl⟩
        dsimp only
        have HR2 := Lib.hid (show RowTo blk off w ((wr.drewN n).setCell ⟨w.heap.size, 0, none⟩ (.int .u64 (y : Int))) d r ∧ PermIn a (a + L) d r from ⟨(HR.out.1.drewN n).aside (Nat.le_refl _) _, HR.out.2⟩)
        have hx2 : ((wr.drewN n).setCell ⟨w.heap.size, 0, none⟩ (.int .u64 (y : Int))).cell? ⟨w.heap.size, 0, none⟩ = some (.int .u64 (y : Int)) := World.cell?_setCell_same _ _ _ hcx
        have hf2 : ((wr.drewN n).setCell ⟨w.heap.size, 0, none⟩ (.int .u64 (y : Int))).frozen? ⟨w.heap.size, 0, none⟩ = false := (World.frozen?_setCell _ _ _ _).trans hfx
        clear HR hcx hfx
        generalize (wr.drewN n).setCell ⟨w.heap.size, 0, none⟩ (.int .u64 (y : Int)) = w2 at *
        obtain ⟨G, hG⟩ : ∃ G : Nat → Int, ∀ t, G t = r[t]! := ⟨fun t => r[t]!, fun _ => rfl⟩
        obtain ⟨cw, fw⟩ := row_cells (HR2.out.1.holds hblk HH.out) G hG
        rw [HR2.out.1.size] at cw fw
        have HG := Lib.hid hG
        clear hG
        obtain ⟨O, hO⟩ : ∃ O : Nat, O = y &&& (M - 1) := ⟨_, rfl⟩
        have lO : O ≤ M - 1 := by rw [hO]; exact Nat.and_le_right
        have eM : IntKind.u64.wrap ((M : Int) - 1) = (M : Int) - 1 := by rw [IntKind.wrap_u64]; omega
        have eAnd : bits .and .u64 (y : Int) ((M : Int) - 1) = (O : Int) := by
          rw [show ((M : Int) - 1) = ((M - 1 : Nat) : Int) by omega, bits_and_u64_nat _ _ hy (by omega), hO]
        have ci := cw i (by omega)
        have fi := fw i (by omega)
        clear hO
        by_cases hOL : L ≤ O
        · have t2 : (L : Int) ≤ (O : Int) := by omega
          obtain ⟨o, ho⟩ : ∃ o : Nat, o = O - L := ⟨_, rfl⟩
          have ho2 : o < L := by omega
          have t3 : (O : Int) - (L : Int) = (o : Int) := by omega
          have cj := cw (a + o) (by omega)
          have fj := fw (a + o) (by omega)
          obtain ⟨v', hy'⟩ := cell?_setCell_some (p := ⟨blk, off + i, none⟩) (x := .int .u64 (G (a + o))) (q := ⟨blk, off + (a + o), none⟩) cj
          have HS := Lib.hid ((HR2.out.1.swap hblk (i := i) (j := a + o) (x := U (G (a + o))) (y := U (G i)) (by omega) (by omega) (by rw [HG.out]) (by rw [HG.out])).drew)
          have HP := Lib.hid (RowTo.perm HR2.out.2 hb hia hib (show a ≤ a + o by omega) (show a + o < a + L by omega))
          have HX2 := Lib.hid (And.intro (((World.cell?_setCell_other _ _ _ _ (by intro e; injection e with e1; omega)).trans ((World.cell?_setCell_other _ _ _ _ (by intro e; injection e with e1; omega)).trans hx2)) : ((((w2.setCell ⟨blk, off + i, none⟩ (U (G (a + o)))).setCell ⟨blk, off + (a + o), none⟩ (U (G i)))).drew).cell? ⟨w.heap.size, 0, none⟩ = some (.int .u64 (y : Int))) ((World.frozen?_setCell _ _ _ _).trans ((World.frozen?_setCell _ _ _ _).trans hf2) : ((((w2.setCell ⟨blk, off + i, none⟩ (U (G (a + o)))).setCell ⟨blk, off + (a + o), none⟩ (U (G i)))).drew).frozen? ⟨w.heap.size, 0, none⟩ = false))
          clear cw fw ho hx2 hf2
          go_wp2
          go_region
          all_goals go_wp2
          go_roundw
          case rel => first | exact ⟨t + 1, swp r i (a + o), y, by have := HI.out; go_num, by omega, ⟨HS.out, HP.out⟩, HX2.out.1, HX2.out.2⟩ | ((repeat apply Exists.intro); exact ⟨⟨t + 1, swp r i (a + o), y, by have := HI.out; go_num, by omega, ⟨HS.out, HP.out⟩, HX2.out.1, HX2.out.2⟩, rfl⟩)
          case measure => have := HI.out; simp [intOf]; omega

        · have t2 : ¬ (L : Int) ≤ (O : Int) := by omega
          obtain ⟨o, ho⟩ : ∃ o : Nat, o = O := ⟨_, rfl⟩
          have ho2 : o < L := by omega
          subst ho
          have cj := cw (a + o) (by omega)
          have fj := fw (a + o) (by omega)
          obtain ⟨v', hy'⟩ := cell?_setCell_some (p := ⟨blk, off + i, none⟩) (x := .int .u64 (G (a + o))) (q := ⟨blk, off + (a + o), none⟩) cj
          have HS := Lib.hid ((HR2.out.1.swap hblk (i := i) (j := a + o) (x := U (G (a + o))) (y := U (G i)) (by omega) (by omega) (by rw [HG.out]) (by rw [HG.out])).drew)
          have HP := Lib.hid (RowTo.perm HR2.out.2 hb hia hib (show a ≤ a + o by omega) (show a + o < a + L by omega))
          have HX2 := Lib.hid (And.intro (((World.cell?_setCell_other _ _ _ _ (by intro e; injection e with e1; omega)).trans ((World.cell?_setCell_other _ _ _ _ (by intro e; injection e with e1; omega)).trans hx2)) : ((((w2.setCell ⟨blk, off + i, none⟩ (U (G (a + o)))).setCell ⟨blk, off + (a + o), none⟩ (U (G i)))).drew).cell? ⟨w.heap.size, 0, none⟩ = some (.int .u64 (y : Int))) ((World.frozen?_setCell _ _ _ _).trans ((World.frozen?_setCell _ _ _ _).trans hf2) : ((((w2.setCell ⟨blk, off + i, none⟩ (U (G (a + o)))).setCell ⟨blk, off + (a + o), none⟩ (U (G i)))).drew).frozen? ⟨w.heap.size, 0, none⟩ = false))
          clear cw fw hx2 hf2
          go_wp2
          go_region
          all_goals go_wp2
          go_roundw
          case rel => first | exact ⟨t + 1, swp r i (a + o), y, by have := HI.out; go_num, by omega, ⟨HS.out, HP.out⟩, HX2.out.1, HX2.out.2⟩ | ((repeat apply Exists.intro); exact ⟨⟨t + 1, swp r i (a + o), y, by have := HI.out; go_num, by omega, ⟨HS.out, HP.out⟩, HX2.out.1, HX2.out.2⟩, rfl⟩)
          case measure => have := HI.out; simp [intOf]; omega
      · obtain rfl : t = 3 := by omega
        have t1 : ¬ ((a + q * 2 + 3 : Nat) : Int) - 1 ≤ (a : Int) + (q : Int) * 2 + 1 := by omega
        have t1' : ¬ (a : Int) + (q : Int) * 2 + 3 - 1 ≤ (a : Int) + (q : Int) * 2 + 1 := by omega
        go_wp2
        go_end0
        exact ⟨rfl, r, HR.out.1, HR.out.2⟩
  · have t8 : ¬ (8 : Int) ≤ (L : Int) := by omega
    clear hH
    go_enter Try.func35, Try.ntmps35
    go_wp2
    go_end0
    exact ⟨rfl, d, RowTo.refl HH.out, permIn_refl _ _ _⟩
end Go.Proofs.Ytplfnjpoikhmbaa.Nt
