/-
  The walks of ShaPairs, ShaLong and ShaOfs (layer 4).
-/
import Derived.Test.YtjhmpoekpambaaaDoorShaRef
import Derived.Test.YtjhmpoekpambaaaDoorShaWorks
import Derived.Laws.OwnMore
open Go Go.RowKit
namespace Go.Proofs.YtjhmpoekpambaaaDoor.Sha
open Base

theorem infoStr : (Tryd.prog.info? 9).map (fun i => (i.zero, i.size, i.bytes)) = some (some (.string ⟨#[]⟩), 1, 16) := by kernel_rfl
set_option maxHeartbeats 4000000 in
set_option maxRecDepth 100000 in
theorem ShaPairs_calls (w : World) (a b : List UInt8) (hO : Ok w) (ha : a.length ≤ 140737488351232) (hb : b.length ≤ 140737488351232) :
    Calls Tryd.prog 5 #[.string (B a), .string (B b)] w fun e w' => e = .returned (.bool true) ∧ Below w.heap.size w w' := by
  have HOK := Lib.hid hO
  by_cases hbig : 2048 < a.length + b.length
  · have t1 : (2048 : Int) < (a.length : Int) + (b.length : Int) := by omega
    have HW := Lib.hid (works_calls w hO)
    clear hbig hO
    go_enter Tryd.func5, Tryd.ntmps5
    go_wp2_with fail
    refine HW.out.mono ?_
    rintro e w2 ⟨rfl, hb⟩
    have HB := Lib.hid hb
    clear hb
    go_wp2
    go_ret
    exact ⟨rfl, HB.out⟩
  · have t1 : ¬ (2048 : Int) < (a.length : Int) + (b.length : Int) := by omega
    have HP := Lib.hid (Pair_calls w a b hO (by omega))
    have HR := Lib.hid (fun W => rOf_calls W (1 :: (a ++ b)) (by simp; omega))
    have HP2 := Lib.hid (fun W (h : Ok W) => Pair_calls W a b h (by omega))
    have HF := Lib.hid (show ∀ W, Ok W → Calls Tryd.prog 8 #[.slice (some ⟨W.heap.size, 0, none⟩) 3 3] (W.alloc (.cells #[.string ⟨#[1]⟩, .string (B a), .string (B b)] 9)) fun e w' => e = .returned (.string (B (digest (1 :: (a ++ b))))) ∧ Below (W.alloc (.cells #[.string ⟨#[1]⟩, .string (B a), .string (B b)] 9)).heap.size (W.alloc (.cells #[.string ⟨#[1]⟩, .string (B a), .string (B b)] 9)) w' from fun W h => by
      have hr := row_made W [[1], a, b] 9 #[.string ⟨#[1]⟩, .string (B a), .string (B b)] rfl
      have hba : Below W.heap.size W (W.alloc (.cells #[.string ⟨#[1]⟩, .string (B a), .string (B b)] 9)) := (Below.refl _ _).alloc (Nat.le_refl _) _
      have hof := Of_calls (W.alloc (.cells #[.string ⟨#[1]⟩, .string (B a), .string (B b)] 9)) (some ⟨W.heap.size, 0, none⟩) 3 [[1], a, b] (h.below hba) (by unfold maxLen; simp) hr (by simp; omega)
      simpa using hof)
    have hcat : ({ data := #[1] } : ByteArray) ++ B a = B (1 :: a) := B_append [1] a
    generalize hd : digest (1 :: (a ++ b)) = d at *
    clear hd hbig hO
    go_enter Tryd.func5, Tryd.ntmps5
    go_wp2_with fail
    refine HP.out.mono ?_
    rintro e w1 ⟨rfl, hb1⟩
    have HB1 := Lib.hid hb1
    clear hb1
    go_wp2_with fail
    refine (HR.out _).mono ?_
    rintro e w2 ⟨rfl, hb2⟩
    have HB2 := Lib.hid (later HB1.out hb2)
    clear hb2
    go_wp2_with fail
    refine (HP2.out _ (HOK.out.below HB2.out)).mono ?_
    rintro e w3 ⟨rfl, hb3⟩
    have HB3 := Lib.hid (later HB2.out hb3)
    clear hb3
    go_wp2_with fail
    refine (HF.out w3 (HOK.out.below HB3.out)).mono ?_
    rintro e w4 ⟨rfl, hb4⟩
    have HB4 := Lib.hid (later (later HB3.out ((Below.refl _ _).alloc (Nat.le_refl _) _)) hb4)
    clear hb4
    go_wp2_with fail
    refine (works_calls w4 (HOK.out.below HB4.out)).mono ?_
    rintro e w5 ⟨rfl, hb5⟩
    have HB5 := Lib.hid (later HB4.out hb5)
    clear hb5
    go_wp2
    go_ret
    exact ⟨rfl, HB5.out⟩

set_option maxHeartbeats 4000000 in
set_option maxRecDepth 100000 in
theorem ShaLong_calls (w : World) (n c : Nat) (hO : Ok w) (hn : n < 256) (hc : c < 256) :
    Calls Tryd.prog 6 #[.int .u8 (n : Int), .int .u8 (c : Int)] w fun e w' => e = .returned (.bool true) ∧ Below w.heap.size w w' := by
  have HOK := Lib.hid hO
  obtain ⟨i0, hi, hz0, hz1, hz2⟩ := info_parts infoU8
  obtain ⟨hmk, hcells⟩ := make_laid (P := Tryd.prog) w 35 5 i0 (.int .u8 0) 1 1 n Tryd.underlying35 hi hz0 hz1 hz2 (by omega) (by omega)
  rw [Nat.mul_one] at hmk hcells
  have HCL := Lib.hid hcells
  have hcc : (c : Int) = ((UInt8.ofNat c).toNat : Int) := by rw [UInt8.toNat_ofNat_of_lt' hc]
  rw [hcc]
  generalize UInt8.ofNat c = x at *
  clear hcc hcells hO hc
  generalize hw0 : w.alloc (.cells (madeCells (Value.int IntKind.u8 0).cells n) 5) = w0 at *
  have HB0 := Lib.hid (show Below w.heap.size w w0 by rw [← hw0]; exact (Below.refl _ _).alloc (Nat.le_refl _) _)
  clear hw0
  go_enter Tryd.func6, Tryd.ntmps6
  go_wp2
  go_loopw [6] (fun u wr => ∃ i : Nat, i ≤ n ∧ u = .int .i64 i ∧ CellsAt wr w.heap.size n (fun j => if j < i then .int .u8 (x.toNat : Int) else .int .u8 0) ∧ Below w.heap.size w wr) (fun u _ => n - (intOf u).toNat)
  case atStart => exact ⟨0, by omega, rfl, HCL.out.congr fun j _ => by simp [Value.cells, Nat.mod_one], HB0.out⟩
  case round =>
    obtain ⟨i, hin, rfl, hcl, hb⟩ := hrel
    have HC := Lib.hid hcl
    have HB := Lib.hid hb
    clear hcl hb HCL HB0
    by_cases hlt : i < n
    · have c1 := (HC.out i hlt).1
      have f1 := (HC.out i hlt).2
      have HS := Lib.hid (show CellsAt (wr.setCell ⟨w.heap.size, i, none⟩ (.int .u8 (x.toNat : Int))) w.heap.size n (fun j => if j < i + 1 then .int .u8 (x.toNat : Int) else .int .u8 0) from (HC.out.set hlt _).congr fun j hj => by
        split
        · rename_i e
          rw [if_pos (by omega)]
        · rename_i e
          by_cases h1 : j < i
          · rw [if_pos h1, if_pos (by omega)]
          · rw [if_neg h1, if_neg (by omega)])
      have HBS := Lib.hid (HB.out.setCell (p := ⟨w.heap.size, i, none⟩) (Nat.le_refl _) (.int .u8 (x.toNat : Int)))
      have t1 : (i : Int) < (n : Int) := by omega
      go_wp2
      go_roundw
      case rel => exact ⟨i + 1, by omega, by go_num, HS.out, HBS.out⟩
      case measure => simp [intOf]; omega
    · obtain rfl : i = n := by omega
      have hby : BytesAt wr w.heap.size (List.replicate i x) := fun j hj => by
        have hj' : j < i := by simpa using hj
        obtain ⟨h1, h2⟩ := HC.out j hj'
        dsimp only at h1
        rw [if_pos hj'] at h1
        exact ⟨by rw [h1, List.getElem_replicate], h2⟩
      have hcv := hby.back (P := Tryd.prog) 35 9 5 i i (by simp) Tryd.underlying35 Tryd.underlying5 Tryd.underlying9
      have hsl : (List.replicate i x).length < 256 := by simp; omega
      clear hlt hin hby hmk HC hn
      generalize List.replicate i x = s at *
      have HF := Lib.hid (show ∀ (W : World) (t : List UInt8), t.length < 300 → Ok W → Calls Tryd.prog 8 #[.slice (some ⟨W.heap.size, 0, none⟩) 1 1] (W.alloc (.cells #[.string (B t)] 9)) fun e w' => e = .returned (.string (B (digest t))) ∧ Below W.heap.size W w' from fun W t ht h => by
        have hr := row_made W [t] 9 #[.string (B t)] rfl
        have hba : Below W.heap.size W (W.alloc (.cells #[.string (B t)] 9)) := (Below.refl _ _).alloc (Nat.le_refl _) _
        have hof := Of_calls (W.alloc (.cells #[.string (B t)] 9)) (some ⟨W.heap.size, 0, none⟩) 1 [t] (h.below hba) (by unfold maxLen; simp) hr (by simp; omega)
        rw [show ([t] : List (List UInt8)).flatten = t by simp] at hof
        exact hof.mono fun e w' ⟨h1, h2⟩ => ⟨h1, later hba h2⟩)
      have HR := Lib.hid (show ∀ (W : World) (t : List UInt8), t.length < 300 → Calls Tryd.prog 9 #[.string (B t)] W fun e w' => e = .returned (.string (B (digest t))) ∧ Below W.heap.size W w' from fun W t ht => rOf_calls W t (by omega))
      have hcat : B s ++ ({ data := #[120] } : ByteArray) = B (s ++ [120]) := B_append s [120]
      have hcat2 : B (s ++ [120]) = B s ++ ({ data := #[120] } : ByteArray) := hcat.symm
      have HS1 := Lib.hid hsl
      have HS2 := Lib.hid (show (s ++ [120]).length < 300 by simp; omega)
      clear hcat2
      generalize hd1 : digest s = d1 at *
      generalize hd2 : digest (s ++ [120]) = d2 at *
      have HD1 := Lib.hid hd1
      have HD2 := Lib.hid hd2
      clear hd1 hd2
      go_wp2_with fail
      refine (HF.out _ s (by have := HS1.out; omega) (HOK.out.below HB.out)).mono ?_
      rintro e w1 ⟨rfl, hb1⟩
      rw [HD1.out]
      have HB1 := Lib.hid (later HB.out hb1)
      clear hb1
      go_wp2_with fail
      refine (HR.out _ s (by have := HS1.out; omega)).mono ?_
      rintro e w2 ⟨rfl, hb2⟩
      rw [HD1.out]
      have HB2 := Lib.hid (later HB1.out hb2)
      clear hb2
      go_wp2_with fail
      refine (HF.out _ (s ++ [120]) HS2.out (HOK.out.below HB2.out)).mono ?_
      rintro e w3 ⟨rfl, hb3⟩
      rw [HD2.out]
      have HB3 := Lib.hid (later HB2.out hb3)
      clear hb3
      go_wp2_with fail
      refine (HF.out _ s (by have := HS1.out; omega) (HOK.out.below HB3.out)).mono ?_
      rintro e w4 ⟨rfl, hb4⟩
      rw [HD1.out]
      have HB4 := Lib.hid (later HB3.out hb4)
      clear hb4
      go_wp2_with fail
      refine (HR.out _ (s ++ [120]) HS2.out).mono ?_
      rintro e w5 ⟨rfl, hb5⟩
      rw [HD2.out]
      have HB5 := Lib.hid (later HB4.out hb5)
      clear hb5
      go_wp2_with fail
      refine (HR.out _ s (by have := HS1.out; omega)).mono ?_
      rintro e w6 ⟨rfl, hb6⟩
      rw [HD1.out]
      have HB6 := Lib.hid (later HB5.out hb6)
      clear hb6
      go_wp2_with fail
      refine (works_calls w6 (HOK.out.below HB6.out)).mono ?_
      rintro e w7 ⟨rfl, hb7⟩
      have HB7 := Lib.hid (later HB6.out hb7)
      clear hb7
      go_wp2
      go_ret
      exact ⟨rfl, HB7.out⟩

theorem append_nothing {w : World} {ops : Array Oper} {rest : List Oper} {o : Oper} {a : Act} {Q : Exit → Act → World → Prop} (hgd : o.guard = none) (s x : Operand)
    (ho : o.op = .call { callee := .builtin .append, args := #[s, x], argTypes := #[22, 22] }) (p : Option Addr) (c : Nat)
    (hs : a.eval s = .slice none 0 0) (hx : a.eval x = .slice p 0 c)
    (h : wpList Tryd.prog ops Q rest (a.put o.dst (.slice none 0 0)) w) : wpList Tryd.prog ops Q (o :: rest) a w := by
  refine wpList_plain hgd fun K hK => ?_
  have hrun : (Builtin.append_ #[22, 22] o.type #[.slice none 0 0, .slice p 0 c]).run Tryd.prog w = .ok (.slice none 0 0) w := by
    obtain ⟨i0, hi, -, -, -⟩ := info_parts infoStr
    rcases p with _ | p
    · simp [Builtin.append_, run_underlying Tryd.underlying22, sizeOf, typeInfo, hi, Builtin.lenOf, Builtin.firstCells]
    · simp [Builtin.append_, run_underlying Tryd.underlying22, sizeOf, typeInfo, hi, Builtin.lenOf, Builtin.firstCells, loadCells, loadCellsFrom]
  unfold Oper.wp
  simp [execOp, ho, resolve, invoke, builtin, hs, hx, hrun, Result.andThen]
  exact hK _ _ h
set_option maxHeartbeats 4000000 in
set_option maxRecDepth 100000 in
theorem ShaOfs_calls (w : World) (p : Option Addr) (cap : Nat) (l : List (List UInt8)) (hO : Ok w) (hl : l.length ≤ maxLen) (ha : RowArg w p (l.map fun x => .string (B x))) (hz : ∀ t ∈ l, t.length ≤ 140737488351232) :
    Calls Tryd.prog 3 #[.slice p l.length cap] w fun e w' => e = .returned (.bool true) ∧ Below w.heap.size w w' := by
  unfold maxLen at hl
  obtain ⟨i0, hi, hz0, hz1, hz2⟩ := info_parts infoStr
  have HW := Lib.hid (works_calls w hO)
  have HOK := Lib.hid hO
  have HA := Lib.hid ha
  have HZ := Lib.hid hz
  clear hO ha hz
  go_enter Tryd.func3, Tryd.ntmps3
  go_wp2
  go_loop [3, 4] (fun v u => ∃ k : Nat, u = .int .i64 k ∧ k ≤ l.length ∧ v = .string (B (l.take k).flatten) ∧ (l.take k).flatten.length ≤ 140737488353280) (fun _ u => l.length - (intOf u).toNat)
  case atStart => exact ⟨0, rfl, Nat.zero_le _, by simp; rfl, by simp⟩
  case round =>
    obtain ⟨k, rfl, hk, rfl, hfl⟩ := hrel
    by_cases hgo : k < l.length ∧ (l.take k).flatten.length ≤ 2048
    · obtain ⟨hlt, h2⟩ := hgo
      obtain ⟨bb, off, rfl, -, hcell⟩ := HA.out k (by simpa using hlt)
      rw [List.getElem_map] at hcell
      have hx := HZ.out l[k] (List.getElem_mem hlt)
      have HF := Lib.hid (flat_step l k hlt)
      have t1 : (k : Int) < (l.length : Int) := by omega
      have t2 : (((l.take k).flatten.length : Nat) : Int) ≤ 2048 := by omega
      generalize l[k] = x at *
      generalize (l.take k).flatten = c at *
      go_wp2
      exact ⟨⟨k + 1, by go_num, by omega, by rw [HF.out], by rw [HF.out, List.length_append]; omega⟩, by simp [intOf]; omega⟩
    · by_cases hbig : 2048 < (l.take k).flatten.length
      · have t2 : (2048 : Int) < (((l.take k).flatten.length : Nat) : Int) := by omega
        generalize (l.take k).flatten = c at *
        by_cases hlt : k < l.length
        · have t1 : (k : Int) < (l.length : Int) := by omega
          clear hgo hbig
          go_wp2_with fail
          refine HW.out.mono ?_
          rintro e w2 ⟨rfl, hb⟩
          have HB := Lib.hid hb
          clear hb
          go_wp2
          go_ret
          exact ⟨rfl, HB.out⟩
        · have t1 : ¬ (k : Int) < (l.length : Int) := by omega
          clear hgo hbig
          go_wp2_with fail
          refine HW.out.mono ?_
          rintro e w2 ⟨rfl, hb⟩
          have HB := Lib.hid hb
          clear hb
          go_wp2
          go_ret
          exact ⟨rfl, HB.out⟩
      · obtain rfl : k = l.length := by omega
        rw [List.take_length] at *
        have t1 : ¬ (l.length : Int) < (l.length : Int) := by omega
        have t2 : ¬ (2048 : Int) < ((l.flatten.length : Nat) : Int) := by omega
        by_cases h200 : 200 < l.length
        · have t3 : (200 : Int) < (l.length : Int) := by omega
          generalize l.flatten = c at *
          clear hgo hbig
          go_wp2_with fail
          refine HW.out.mono ?_
          rintro e w2 ⟨rfl, hb⟩
          have HB := Lib.hid hb
          clear hb
          go_wp2
          go_ret
          exact ⟨rfl, HB.out⟩
        · have t3 : ¬ (200 : Int) < (l.length : Int) := by omega
          have HR := Lib.hid (fun W => rOf_calls W l.flatten (by omega))
          have HOF := Lib.hid (fun W q cq (h : Ok W) (hr : RowArg W q (l.map fun x => .string (B x))) => Of_calls W q cq l h (by unfold maxLen; omega) hr (by omega))
          have HLL := Lib.hid (show l.length ≤ 200 by omega)
          generalize hdd : digest l.flatten = d at *
          clear hdd
          generalize l.flatten = c at *
          clear hgo hbig h200 hfl hk
          by_cases h0 : l = []
          · subst h0
            simp only [List.length_nil] at *
            go_wp2_with (at_builtin; refine append_nothing rfl _ _ rfl _ _ rfl rfl ?_)
            go_wp2_with fail
            refine (HOF.out _ none 0 HOK.out (fun j hj => by simp at hj)).mono ?_
            rintro e w3 ⟨rfl, hb3⟩
            have HB3 := Lib.hid hb3
            clear hb3
            go_wp2_with fail
            refine (HR.out _).mono ?_
            rintro e w4 ⟨rfl, hb4⟩
            have HB4 := Lib.hid (later HB3.out hb4)
            clear hb4
            go_wp2_with fail
            refine (works_calls w4 (HOK.out.below HB4.out)).mono ?_
            rintro e w5 ⟨rfl, hb5⟩
            have HB5 := Lib.hid (later HB4.out hb5)
            clear hb5
            go_wp2
            go_ret
            exact ⟨rfl, HB5.out⟩
          · have hpos : 0 < l.length := List.length_pos_iff.2 h0
            obtain ⟨b, off, rfl, hbl, -⟩ := HA.out 0 (by simpa using hpos)
            have HNEWS := Lib.hid (show ∀ j u, (l.map fun x => Value.string (B x))[j]? = some u → w.cell? ((⟨b, off, none⟩ : Addr).add j) = some u from fun j u hu => by
              obtain ⟨hj, he⟩ := List.getElem?_eq_some_iff.1 hu
              obtain ⟨b2, off2, hpp, -, hc⟩ := HA.out j hj
              injection hpp with hpp
              injection hpp with h1 h2
              subst h1 h2
              rw [add_at, hc, he])
            have hm : l.length ≤ maxLen := by unfold maxLen; omega
            have HM := Lib.hid hm
            clear h0 hm
            go_wp2_with (at_builtin; refine wpList_append_own _ rfl _ _ 22 rfl w.heap.size 9 i0 (.string ⟨#[]⟩) 1 16 Tryd.underlying22 hi hz0 hz1 hz2 rfl (by decide) _ _ _ rfl (World.ownsRow_nil w w.heap.size 9 1) ⟨b, off, none⟩ l.length cap (l.map fun x => Value.string (B x)) rfl ?c0 ?c1 ?c2 ?c3 ?c4 ?c5 ?_)
            case c1 =>
              intro j x hj
              have := HNEWS.out j (.string (B x)) (by rw [List.getElem?_map, hj]; rfl)
              rwa [add_at] at this
            case c2 =>
              intro u _
              rfl
            case c3 => have := HM.out; omega
            case c4 => have := HLL.out; omega
            intro v2 w2 hown2 hg2 _
            have HB2 := Lib.hid ((Below.refl w.heap.size w).grown hg2 (Nat.le_refl _) (fun q hq => by cases hq))
            obtain ⟨p2, c2, rfl, hra2, -, -⟩ := RowArg.of_own hown2
            have HRA2 := Lib.hid hra2
            clear hown2 hg2 hra2
            go_wp2_with fail
            refine (HOF.out _ _ _ (HOK.out.below HB2.out) HRA2.out).mono ?_
            rintro e w3 ⟨rfl, hb3⟩
            have HB3 := Lib.hid (later HB2.out hb3)
            clear hb3
            go_wp2_with fail
            refine (HR.out _).mono ?_
            rintro e w4 ⟨rfl, hb4⟩
            have HB4 := Lib.hid (later HB3.out hb4)
            clear hb4
            go_wp2_with fail
            refine (works_calls w4 (HOK.out.below HB4.out)).mono ?_
            rintro e w5 ⟨rfl, hb5⟩
            have HB5 := Lib.hid (later HB4.out hb5)
            clear hb5
            go_wp2
            go_ret
            exact ⟨rfl, HB5.out⟩
end Go.Proofs.YtjhmpoekpambaaaDoor.Sha
