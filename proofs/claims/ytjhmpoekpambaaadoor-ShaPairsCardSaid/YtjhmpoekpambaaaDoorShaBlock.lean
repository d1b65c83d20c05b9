/-
  The document's block of layer 4, walked: the state behind a block, as the code's mix has it.
-/
import Derived.Test.YtjhmpoekpambaaaDoorShaConst
import Derived.Test.YtjhmpoekpambaaaDoorShaPad
import Derived.Test.YtjhmpoekpambaaaDoorAppKeeps
import Derived.Deep.RegionHeld3
import Derived.Deep.DrawnRows
import Derived.Deep.AppendLies
import Derived.Deep.QuietTactic
import Derived.BigQuiet
import Derived.Outline
open Go Go.RowKit
namespace Go.Proofs.YtjhmpoekpambaaaDoor.Sha
open Base
attribute [local go_sem ↓] Go.wp_at_zero Go.wp_at_succ

def L8 (s : S8) : List UInt32 := [s.a, s.b, s.c, s.d, s.e, s.f, s.g, s.h]
theorem firsts_uv (bs : List UInt8) (k : Nat) : uv (firsts bs (k + 1)) = uv (firsts bs k) ++ [.int .u32 (U (word bs k))] := by rw [firsts_succ, uv_snoc]

theorem own_cells {w : World} {base : Nat} {e : TypeId} {v : Value} {n : Nat} {l : List UInt32} (h : w.ownsRow base e 1 v n (uv l)) (h0 : 0 < n) :
    ∃ g cap, v = .slice (some ⟨g, 0, none⟩) n cap ∧ base ≤ g ∧ g < w.heap.size ∧ n ≤ cap ∧ l.length = n ∧ ∀ j, j < n → w.cell? ⟨g, j, none⟩ = some (.int .u32 (U (l.getD j 0))) := by
  have hl : l.length = n := by have := h.1; rw [uv_length] at this; omega
  rcases h.2 with ⟨_, h1⟩ | ⟨g, cap, cur, hv, hb, hg, hnc, hcm, hcs, htk⟩
  · omega
  · refine ⟨g, cap, hv, hb, (Array.getElem?_eq_some_iff.1 hg).1, hnc, hl, fun j hj => ?_⟩
    subst hv
    have := h.cellAt j (by omega)
    rw [this]
    have hjl : j < l.length := by omega
    simp [uv, hjl]
theorem own_cellsAt {w : World} {base : Nat} {e : TypeId} {v : Value} {n : Nat} {l : List Value} {f : Nat → Value} (h : w.ownsRow base e 1 v n l) (h0 : 0 < n) (hf : ∀ j (hj : j < l.length), l[j] = f j) :
    ∃ g cap, v = .slice (some ⟨g, 0, none⟩) n cap ∧ base ≤ g ∧ g < w.heap.size ∧ n ≤ cap ∧ CellsAt w g n f := by
  have hl : l.length = n := by have := h.1; omega
  rcases h.2 with ⟨_, h1⟩ | ⟨g, cap, cur, hv, hb, hg, hnc, hcm, hcs, htk⟩
  · omega
  · refine ⟨g, cap, hv, hb, (Array.getElem?_eq_some_iff.1 hg).1, hnc, fun j hj => ⟨?_, ?_⟩⟩
    · subst hv
      rw [h.cellAt j (by omega), List.getElem?_eq_getElem (by omega), hf j (by omega)]
    · unfold World.frozen?
      rw [hg]
      simp
theorem L8_get (s : S8) (j : Nat) (hj : j < 8) : (L8 s).getD j 0 = s.get j := by
  match j, hj with
  | 0, _ => rfl
  | 1, _ => rfl
  | 2, _ => rfl
  | 3, _ => rfl
  | 4, _ => rfl
  | 5, _ => rfl
  | 6, _ => rfl
  | 7, _ => rfl
/-- The first i words are summed. -/
def pcell (s r : S8) (i j : Nat) : Value := .int .u32 (U (if j < i then (plus s r).get j else r.get j))
theorem wrap_u32 (n : Int) : IntKind.u32.wrap n = n % 4294967296 := by
  unfold IntKind.wrap
  simp [IntKind.signed, IntKind.bits]
@[go_sem] theorem wadd_u (a b : UInt32) : IntKind.u32.wrap (U a + U b) = U (a + b) := by rw [wrap_u32, add_u]
theorem word_opw (x0 x1 x2 x3 : UInt8) : bits .or .u32 (bits .or .u32 (bits .or .u32 (IntKind.u32.wrap (IntKind.u32.wrap (x0.toNat : Int) * 16777216)) (IntKind.u32.wrap (IntKind.u32.wrap (x1.toNat : Int) * 65536))) (IntKind.u32.wrap (IntKind.u32.wrap (x2.toNat : Int) * 256))) (IntKind.u32.wrap (x3.toNat : Int)) =
    U (((x0.toUInt32 <<< 24 ||| x1.toUInt32 <<< 16) ||| x2.toUInt32 <<< 8) ||| x3.toUInt32) := by
  simp only [wrap_u32]
  exact word_op x0 x1 x2 x3
set_option maxHeartbeats 4000000 in
set_option maxRecDepth 100000 in
theorem block_calls (w : World) (st : S8) (bs : List UInt8) (bh oh ch bk ok ck bb ob cb : Nat)
    (hh : ∀ j, j < 8 → w.cell? ⟨bh, oh + j, none⟩ = some (.int .u32 (U (st.get j)))) (hk : ∀ j, j < 64 → w.cell? ⟨bk, ok + j, none⟩ = some (.int .u32 (U (Ks.getD j 0)))) (hb : ∀ j, j < 64 → w.cell? ⟨bb, ob + j, none⟩ = some (.int .u8 ((bs.getD j 0).toNat : Int))) :
    Calls Tryd.prog 17 #[.slice (some ⟨bh, oh, none⟩) 8 ch, .slice (some ⟨bk, ok, none⟩) 64 ck, .slice (some ⟨bb, ob, none⟩) 64 cb] w fun e w' => ∃ g cap, e = .returned (.slice (some ⟨g, 0, none⟩) 8 cap) ∧ CellsAt w' g 8 (scell (mixF st bs)) ∧ w.heap.size ≤ g ∧ Below w.heap.size w w' := by
  obtain ⟨i0, hi, hz0, hz1, hz2⟩ := info_parts infoU32
  have HH := Lib.hid hh
  have HK := Lib.hid hk
  have HBB := Lib.hid hb
  clear hh hk hb
  go_enter Tryd.func17, Tryd.ntmps17
  go_wp2
  go_loopw [7, 8] (fun v u wr => ∃ t : Nat, t ≤ 16 ∧ u = .int .i64 t ∧ wr.ownsRow w.heap.size 42 1 v t (uv (firsts bs t)) ∧ Below w.heap.size w wr) (fun _ u _ => 16 - (intOf u).toNat)
  case atStart => exact ⟨0, by omega, rfl, World.ownsRow_nil _ _ _ _, Below.refl _ _⟩
  case round =>
    obtain ⟨t, ht, rfl, hown, hb⟩ := hrel
    have HO := Lib.hid hown
    have HB := Lib.hid hb
    clear hown hb
    by_cases hlt : t < 16
    · have c0 := (HB.out.cell (p := ⟨bb, ob + 4 * t, none⟩) (lt_of_cell (HBB.out (4 * t) (by omega)))).trans (HBB.out (4 * t) (by omega))
      have c1 := (HB.out.cell (p := ⟨bb, ob + (4 * t + 1), none⟩) (lt_of_cell (HBB.out (4 * t + 1) (by omega)))).trans (HBB.out (4 * t + 1) (by omega))
      have c2 := (HB.out.cell (p := ⟨bb, ob + (4 * t + 2), none⟩) (lt_of_cell (HBB.out (4 * t + 2) (by omega)))).trans (HBB.out (4 * t + 2) (by omega))
      have c3 := (HB.out.cell (p := ⟨bb, ob + (4 * t + 3), none⟩) (lt_of_cell (HBB.out (4 * t + 3) (by omega)))).trans (HBB.out (4 * t + 3) (by omega))
      have hwd := word_opw (bs.getD (4 * t) 0) (bs.getD (4 * t + 1) 0) (bs.getD (4 * t + 2) 0) (bs.getD (4 * t + 3) 0)
      have HFS := Lib.hid (firsts_uv bs t)
      have hww := (show word bs t = ((((bs.getD (4 * t) 0).toUInt32 <<< 24 ||| (bs.getD (4 * t + 1) 0).toUInt32 <<< 16) ||| (bs.getD (4 * t + 2) 0).toUInt32 <<< 8) ||| (bs.getD (4 * t + 3) 0).toUInt32) from rfl)
      rw [← hww] at hwd
      clear hww
      have HKEEP := Lib.hid (show ∀ W, Below w.heap.size w W → W.cell? ⟨bb, ob + 4 * t, none⟩ = some (.int .u8 ((bs.getD (4 * t) 0).toNat : Int)) ∧ W.cell? ⟨bb, ob + (4 * t + 1), none⟩ = some (.int .u8 ((bs.getD (4 * t + 1) 0).toNat : Int)) ∧ W.cell? ⟨bb, ob + (4 * t + 2), none⟩ = some (.int .u8 ((bs.getD (4 * t + 2) 0).toNat : Int)) ∧ W.cell? ⟨bb, ob + (4 * t + 3), none⟩ = some (.int .u8 ((bs.getD (4 * t + 3) 0).toNat : Int)) from fun W hb =>
        ⟨(hb.cell (p := ⟨bb, ob + 4 * t, none⟩) (lt_of_cell (HBB.out (4 * t) (by omega)))).trans (HBB.out (4 * t) (by omega)), (hb.cell (p := ⟨bb, ob + (4 * t + 1), none⟩) (lt_of_cell (HBB.out (4 * t + 1) (by omega)))).trans (HBB.out (4 * t + 1) (by omega)),
         (hb.cell (p := ⟨bb, ob + (4 * t + 2), none⟩) (lt_of_cell (HBB.out (4 * t + 2) (by omega)))).trans (HBB.out (4 * t + 2) (by omega)), (hb.cell (p := ⟨bb, ob + (4 * t + 3), none⟩) (lt_of_cell (HBB.out (4 * t + 3) (by omega)))).trans (HBB.out (4 * t + 3) (by omega))⟩)
      have t1 : (t : Int) < 16 := by omega
      have t2 : (0 : Int) ≤ 4 * (t : Int) := by omega
      have t3 : 4 * (t : Int) < 64 := by omega
      have t4 : (0 : Int) ≤ 4 * (t : Int) + 1 := by omega
      have t5 : 4 * (t : Int) + 1 < 64 := by omega
      have t6 : (0 : Int) ≤ 4 * (t : Int) + 2 := by omega
      have t7 : 4 * (t : Int) + 2 < 64 := by omega
      have t8 : (0 : Int) ≤ 4 * (t : Int) + 3 := by omega
      have t9 : 4 * (t : Int) + 3 < 64 := by omega
      have HSZ := Lib.hid HB.out.size
      have w0 : IntKind.i64.wrap (4 * (t : Int)) = 4 * (t : Int) := IntWalk.i64_in _ (by omega)
      have w1 : IntKind.i64.wrap (4 * (t : Int) + 1) = 4 * (t : Int) + 1 := IntWalk.i64_in _ (by omega)
      have w2 : IntKind.i64.wrap (4 * (t : Int) + 2) = 4 * (t : Int) + 2 := IntWalk.i64_in _ (by omega)
      have w3 : IntKind.i64.wrap (4 * (t : Int) + 3) = 4 * (t : Int) + 3 := IntWalk.i64_in _ (by omega)
      have n0 : (4 * (t : Int)).toNat = 4 * t := by omega
      have n1 : (4 * (t : Int) + 1).toNat = 4 * t + 1 := by omega
      have n2 : (4 * (t : Int) + 2).toNat = 4 * t + 2 := by omega
      have n3 : (4 * (t : Int) + 3).toNat = 4 * t + 3 := by omega
      generalize bs.getD (4 * t) 0 = x0 at *
      generalize bs.getD (4 * t + 1) 0 = x1 at *
      generalize bs.getD (4 * t + 2) 0 = x2 at *
      generalize bs.getD (4 * t + 3) 0 = x3 at *
      generalize word bs t = x at *
      go_wp2
      go_region_held3 (fun W => W.cell? ⟨bb, ob + 4 * t, none⟩ = some (.int .u8 (x0.toNat : Int)) ∧ W.cell? ⟨bb, ob + (4 * t + 1), none⟩ = some (.int .u8 (x1.toNat : Int)) ∧ W.cell? ⟨bb, ob + (4 * t + 2), none⟩ = some (.int .u8 (x2.toNat : Int)) ∧ W.cell? ⟨bb, ob + (4 * t + 3), none⟩ = some (.int .u8 (x3.toNat : Int)))
        (first | go_keep | exact HKEEP.out _ hb1)
        ((refine step_append_lies _ (by rfl) _ _ _ (by rfl) w.heap.size 42 i0 _ 1 4 Tryd.underlying37 hi hz0 hz1 hz2 rfl (by decide) _ t (uv (firsts bs t)) (by rfl) ((HO.out.alloc _).drew)
              ⟨wr.heap.size, 0, none⟩ 1 1 [.int .u32 (U x)] (by rfl) (by rfl) (World.news_of_block (cs := #[.int .u32 (U x)]) (t := 42) (fr := (0, 0)) (heap_alloc_new wr _)) (by simp [Value.oneCell'])
              (by omega) (by unfold maxLen; omega) (by omega) (by simp; have := HSZ.out; omega) (wr.heap.size + 1) (by simp) ?_; intro gg cap w1 hown1 hgrow hat hlt1; have hb1 : Below w.heap.size w w1 := ((HB.out.alloc HSZ.out _).drew).grown hgrow (by have := HSZ.out; simp; omega) (fun q hq => (HO.out.lt q hq).1)))
      all_goals
        have HO2 := Lib.hid hown1
        have HB2 := Lib.hid hb1
        clear hown1 hgrow hat hlt1 hb1 c0 c1 c2 c3 hwd
        go_wp2
        go_roundw
        case rel => exact ⟨t + 1, by omega, by go_num, by rw [HFS.out]; exact HO2.out, HB2.out⟩
        case measure => simp [intOf]; omega
    · obtain rfl : t = 16 := by omega
      have HO1 := Lib.hid (show wr.ownsRow w.heap.size 42 1 u7 (16 + 0) (uv (ext (firsts bs 16) 0)) from HO.out)
      clear ht hlt HO
      go_wp2
      go_loopw [7, 9] (fun v u wr => ∃ k : Nat, k ≤ 48 ∧ u = .int .i64 ((16 + k : Nat) : Int) ∧ wr.ownsRow w.heap.size 42 1 v (16 + k) (uv (ext (firsts bs 16) k)) ∧ Below w.heap.size w wr) (fun _ u _ => 64 - (intOf u).toNat)
      case atStart => exact ⟨0, by omega, rfl, HO1.out, HB.out⟩
      case round =>
        obtain ⟨k, hk, rfl, hown, hb⟩ := hrel
        clear HO1 HB
        have HO := Lib.hid hown
        have HB := Lib.hid hb
        obtain ⟨g, cap, rfl, hg1, hg2, hnc, hel, hcells⟩ := own_cells hown (by omega)
        have HCC := Lib.hid hcells
        have HG := Lib.hid hg1
        clear hown hb hcells hg1
        obtain ⟨t, htk⟩ : ∃ t, t = 16 + k := ⟨_, rfl⟩
        rw [← htk] at hel hnc ⊢
        rw [← htk] at HO HCC
        by_cases hlt : t < 64
        · have c2 := HCC.out (t - 2) (by omega)
          have c7 := HCC.out (t - 7) (by omega)
          have c15 := HCC.out (t - 15) (by omega)
          have c16 := HCC.out (t - 16) (by omega)
          have hnx : next (ext (firsts bs 16) k) = ((s1 ((ext (firsts bs 16) k).getD (t - 2) 0) + (ext (firsts bs 16) k).getD (t - 7) 0) + s0 ((ext (firsts bs 16) k).getD (t - 15) 0)) + (ext (firsts bs 16) k).getD (t - 16) 0 := by unfold next; rw [hel]
          have HNX := Lib.hid hnx
          have HTK := Lib.hid htk
          have HEL := Lib.hid hel
          clear hnx hel
          generalize (ext (firsts bs 16) k).getD (t - 2) 0 = y2 at *
          generalize (ext (firsts bs 16) k).getD (t - 7) 0 = y7 at *
          generalize (ext (firsts bs 16) k).getD (t - 15) 0 = y15 at *
          generalize (ext (firsts bs 16) k).getD (t - 16) 0 = y16 at *
          have e0 := s0_op y15
          have e1 := s1_op y2
          have t1 : (t : Int) < 64 := by omega
          have t2 : (16 : Int) ≤ (t : Int) := by omega
          clear htk hk hlt
          go_wp2
          go_quiet (fail)
          have HO5 := Lib.hid (own_drewN HO.out nq)
          have HB5 := Lib.hid (HB.out.drewN nq)
          have hsz5 : (wr.drewN nq).heap.size = wr.heap.size := rfl
          have c7' : (wr.drewN nq).cell? ⟨g, t - 7, none⟩ = some (.int .u32 (U y7)) := c7
          have c16' : (wr.drewN nq).cell? ⟨g, t - 16, none⟩ = some (.int .u32 (U y16)) := c16
          clear hsz5 c2 c15 c7 c16
          generalize wr.drewN nq = w5 at *
          go_wp2_with fail
          refine (rright_calls y2 17 (by omega) (by omega) _).mono ?_
          rintro e w' ⟨rfl, rfl⟩
          go_wp2_with fail
          refine (rright_calls y2 19 (by omega) (by omega) _).mono ?_
          rintro e w' ⟨rfl, rfl⟩
          go_wp2_with fail
          refine (rright_calls y15 7 (by omega) (by omega) _).mono ?_
          rintro e w' ⟨rfl, rfl⟩
          go_wp2_with fail
          refine (rright_calls y15 18 (by omega) (by omega) _).mono ?_
          rintro e w' ⟨rfl, rfl⟩
          go_wp2
          have d7 : IntKind.i64.wrap ((t : Int) - 7) = (t : Int) - 7 := IntWalk.i64_in _ (by omega)
          have d16 : IntKind.i64.wrap ((t : Int) - 16) = (t : Int) - 16 := IntWalk.i64_in _ (by omega)
          have z7 : (0 : Int) ≤ (t : Int) - 7 := by omega
          have z16 : (0 : Int) ≤ (t : Int) - 16 := by omega
          have y7' : (7 : Int) ≤ (t : Int) := by omega
          have y16' : (16 : Int) ≤ (t : Int) := by omega
          have m7 : (t : Int) - 7 < (t : Int) := by omega
          have m16 : (t : Int) - 16 < (t : Int) := by omega
          have q7 : ((t : Int) - 7).toNat = t - 7 := by omega
          have q16 : ((t : Int) - 16).toNat = t - 16 := by omega
          have hlt7 : t - 7 < t := by omega
          have hlt16 : t - 16 < t := by omega
          have HLT := Lib.hid (And.intro hlt7 hlt16)
          have HSZ := Lib.hid HB5.out.size
          have HVX := Lib.hid (show (((s1 y2 + y7) + s0 y15) + y16) = next (ext (firsts bs 16) k) from HNX.out.symm)
          have ht64 : t < 64 := by omega
          have HT64 := Lib.hid ht64
          clear ht64 hlt7 hlt16 t1
          go_region_held3 (fun W => W.cell? ⟨g, t - 7, none⟩ = some (.int .u32 (U y7)) ∧ W.cell? ⟨g, t - 16, none⟩ = some (.int .u32 (U y16)))
            (first | go_keep | (go_split_ands; refine ⟨(hkeep g _ rfl HLT.out.1).trans ?_, (hkeep g _ rfl HLT.out.2).trans ?_⟩ <;> assumption))
            ((refine step_append_keeps (by rfl) _ _ _ (by rfl) w.heap.size 42 i0 _ 4 Tryd.underlying37 hi hz0 hz1 hz2 rfl _ t (uv (ext (firsts bs 16) k)) (by rfl) ((HO5.out.alloc _).drew)
                ⟨w5.heap.size, 0, none⟩ 1 1 [.int .u32 (U (((s1 y2 + y7) + s0 y15) + y16))] (by rfl) (by rfl) (World.news_of_block (cs := #[.int .u32 (U (((s1 y2 + y7) + s0 y15) + y16))]) (t := 42) (fr := (0, 0)) (heap_alloc_new w5 _)) (by simp [Value.oneCell'])
                (by omega) (by unfold maxLen; have := HT64.out; omega) (by have := HT64.out; omega) (by simp; have := HSZ.out; omega) ?_; intro gg cap' w1 hown1 hgrow hat hkeep))
          have HO6 := Lib.hid hown1
          have HB6 := Lib.hid (((HB5.out.alloc HSZ.out _).drew).grown hgrow (by have := HSZ.out; simp; omega) (fun q hq => (HO5.out.lt q hq).1))
          clear hown1 hgrow hat hkeep c7' c16' d7 d16 z7 z16 y7' y16' m7 m16 q7 q16 t2
          have t1 : (t : Int) < 64 := by have := HT64.out; omega
          go_wp2
          go_roundw
          case rel => (repeat apply Exists.intro); exact ⟨⟨k + 1, by have := HTK.out; have := HT64.out; omega, by rw [HTK.out]; go_num, by have h := HO6.out; rw [HVX.out] at h; show World.ownsRow _ _ _ _ _ (16 + k + 1) (uv (ext (firsts bs 16) k ++ [next (ext (firsts bs 16) k)])); rw [uv_snoc, show 16 + k + 1 = t + 1 by rw [HTK.out]]; exact h, HB6.out⟩, rfl⟩
          case measure => simp [intOf]; have := HT64.out; omega
        · obtain rfl : t = 64 := by omega
          obtain rfl : k = 48 := by omega
          have HW := Lib.hid (show ∀ j, j < 64 → wr.cell? ⟨g, j, none⟩ = some (.int .u32 (U ((sched bs).getD j 0))) from HCC.out)
          have HGL := Lib.hid hg2
          have HNEWS := Lib.hid (show ∀ j u, (uv (L8 st))[j]? = some u → wr.cell? ((⟨bh, oh, none⟩ : Addr).add j) = some u from fun j u hu => by
            have hj : j < 8 := by
              have := (List.getElem?_eq_some_iff.1 hu).1
              rw [uv_length] at this
              exact this
            have h1 : (⟨bh, oh, none⟩ : Addr).add j = ⟨bh, oh + j, none⟩ := add_at _ _ _
            rw [h1, (HB.out.cell (p := ⟨bh, oh + j, none⟩) (lt_of_cell (HH.out j hj))).trans (HH.out j hj), ← hu]
            have : j < (L8 st).length := hj
            have h2 := L8_get st j hj
            simp [uv, this] at h2 ⊢
            rw [h2])
          have HSZ := Lib.hid HB.out.size
          clear htk hlt hnc hel HO HCC hk hg2
          go_wp2_with (at_builtin; refine wpList_append_own _ rfl _ _ 37 rfl w.heap.size 42 i0 (.int .u32 0) 1 4 Tryd.underlying37 hi hz0 hz1 hz2 rfl (by decide) _ _ _ rfl (World.ownsRow_nil wr w.heap.size 42 1) ⟨bh, oh, none⟩ 8 ch (uv (L8 st)) rfl rfl ?c1 ?c2 ?c3 ?c4 ?c5 ?_)
          case c1 => exact HNEWS.out
          case c2 => simp [uv, L8, Value.oneCell']
          case c3 => unfold maxLen; omega
          case c4 => omega
          case c5 => exact HSZ.out
          intro v3 w3 hown3 hg3 _
          have HB3 := Lib.hid (HB.out.grown hg3 HSZ.out (fun q hq => by cases hq))
          have HW3 := Lib.hid (show ∀ j, j < 64 → w3.cell? ⟨g, j, none⟩ = some (.int .u32 (U ((sched bs).getD j 0))) from fun j hj => (hg3.cell_far ⟨g, j, none⟩ HGL.out (by simp [Value.ownBlock])).trans (HW.out j hj))
          have HGL3 := Lib.hid (show g < w3.heap.size from Nat.lt_of_lt_of_le HGL.out hg3.size)
          obtain ⟨V0, cap0, rfl, hV0, hV1, hV2, hVc⟩ := own_cellsAt (f := scell st) hown3 (by omega) (fun j hj => by
            have hj8 : j < 8 := hj
            have h2 := L8_get st j hj8
            have : j < (L8 st).length := hj8
            simp [uv, scell, this] at h2 ⊢
            rw [h2])
          have HVC := Lib.hid hVc
          have HV0 := Lib.hid hV0
          have HK3 := Lib.hid (show ∀ j, j < 64 → w3.cell? ⟨bk, ok + j, none⟩ = some (.int .u32 (U (Ks.getD j 0))) from fun j hj => (HB3.out.cell (p := ⟨bk, ok + j, none⟩) (lt_of_cell (HK.out j hj))).trans (HK.out j hj))
          clear hown3 hg3 HNEWS HGL HW HB hVc hV0 hV1 hV2
          have HR6 := Lib.hid (fun x w => rright_calls x 6 (by omega) (by omega) w)
          have HR11 := Lib.hid (fun x w => rright_calls x 11 (by omega) (by omega) w)
          have HR25 := Lib.hid (fun x w => rright_calls x 25 (by omega) (by omega) w)
          have HR2 := Lib.hid (fun x w => rright_calls x 2 (by omega) (by omega) w)
          have HR13 := Lib.hid (fun x w => rright_calls x 13 (by omega) (by omega) w)
          have HR22 := Lib.hid (fun x w => rright_calls x 22 (by omega) (by omega) w)
          go_wp2
          go_loopw [14, 15] (fun v u wt => ∃ t V cv : Nat, u = .int .i64 t ∧ t ≤ 64 ∧ v = .slice (some ⟨V, 0, none⟩) 8 cv ∧ w.heap.size ≤ V ∧ CellsAt wt V 8 (scell (rnds st (sched bs) t)) ∧ Below w3.heap.size w3 wt) (fun _ u _ => 64 - (intOf u).toNat)
          case atStart => exact ⟨0, V0, cap0, rfl, by omega, rfl, HV0.out, HVC.out, Below.refl _ _⟩
          case round =>
            obtain ⟨t, V, cv, rfl, ht, rfl, hV, hsc, hbe⟩ := hrel
            have HSC := Lib.hid hsc
            have HBE := Lib.hid hbe
            have HVV := Lib.hid hV
            clear hsc hbe hV HVC HV0
            by_cases hlt4 : t < 64
            · have d0 := (HSC.out 0 (by omega)).1
              have d1 := (HSC.out 1 (by omega)).1
              have d2 := (HSC.out 2 (by omega)).1
              have d3 := (HSC.out 3 (by omega)).1
              have d4 := (HSC.out 4 (by omega)).1
              have d5 := (HSC.out 5 (by omega)).1
              have d6 := (HSC.out 6 (by omega)).1
              have d7 := (HSC.out 7 (by omega)).1
              have dw := (HBE.out.cell (p := ⟨g, t, none⟩) HGL3.out).trans (HW3.out t hlt4)
              have dk := (HBE.out.cell (p := ⟨bk, ok + t, none⟩) (lt_of_cell (HK3.out t hlt4))).trans (HK3.out t hlt4)
              have hrd : rnds st (sched bs) (t + 1) = round (rnds st (sched bs) t) (Ks.getD t 0) ((sched bs).getD t 0) := rfl
              have HRD := Lib.hid hrd
              unfold scell at d0 d1 d2 d3 d4 d5 d6 d7
              clear hrd
              generalize Ks.getD t 0 = kt at *
              generalize (sched bs).getD t 0 = wt at *
              generalize rnds st (sched bs) t = r at *
              obtain ⟨ra, rb, rc, rd, re, rf, rg, rh⟩ := r
              simp only [S8.get] at d0 d1 d2 d3 d4 d5 d6 d7
              have t1 : (t : Int) < 64 := by omega
              clear ht hlt4
              go_wp2
              go_quiet (fail)
              generalize hwd : wr.drewN nq = wd at *
              replace d1 : wd.cell? ⟨V, 1, none⟩ = some (.int .u32 (U rb)) := by rw [← hwd]; exact d1
              replace d2 : wd.cell? ⟨V, 2, none⟩ = some (.int .u32 (U rc)) := by rw [← hwd]; exact d2
              replace d3 : wd.cell? ⟨V, 3, none⟩ = some (.int .u32 (U rd)) := by rw [← hwd]; exact d3
              replace d5 : wd.cell? ⟨V, 5, none⟩ = some (.int .u32 (U rf)) := by rw [← hwd]; exact d5
              replace d6 : wd.cell? ⟨V, 6, none⟩ = some (.int .u32 (U rg)) := by rw [← hwd]; exact d6
              replace d7 : wd.cell? ⟨V, 7, none⟩ = some (.int .u32 (U rh)) := by rw [← hwd]; exact d7
              replace dw : wd.cell? ⟨g, t, none⟩ = some (.int .u32 (U wt)) := by rw [← hwd]; exact dw
              replace dk : wd.cell? ⟨bk, ok + t, none⟩ = some (.int .u32 (U kt)) := by rw [← hwd]; exact dk
              have HBD := Lib.hid (show Below w3.heap.size w3 wd by rw [← hwd]; exact HBE.out.drewN _)
              clear d0 d4 hwd HBE HSC
              go_wp2
              go_quiet (first | (go_at_call_of 24 (Value.int IntKind.u64 6); exact quiet (HR6.out _ _)) | (go_at_call_of 24 (Value.int IntKind.u64 11); exact quiet (HR11.out _ _)) | (go_at_call_of 24 (Value.int IntKind.u64 25); exact quiet (HR25.out _ _)))
              generalize hwe : wd.drewN nq = we at *
              replace d1 : we.cell? ⟨V, 1, none⟩ = some (.int .u32 (U rb)) := by rw [← hwe]; exact d1
              replace d2 : we.cell? ⟨V, 2, none⟩ = some (.int .u32 (U rc)) := by rw [← hwe]; exact d2
              replace d3 : we.cell? ⟨V, 3, none⟩ = some (.int .u32 (U rd)) := by rw [← hwe]; exact d3
              replace d5 : we.cell? ⟨V, 5, none⟩ = some (.int .u32 (U rf)) := by rw [← hwe]; exact d5
              replace d6 : we.cell? ⟨V, 6, none⟩ = some (.int .u32 (U rg)) := by rw [← hwe]; exact d6
              have HBE := Lib.hid (show Below w3.heap.size w3 we by rw [← hwe]; exact HBD.out.drewN _)
              clear d7 dw dk hwe HBD
              go_wp2
              generalize hxx : rh + (rotr re 6 ^^^ rotr re 11 ^^^ rotr re 25) + (re &&& rf ^^^ ~~~re &&& rg) + kt + wt = xx at *
              replace hxx : tx ⟨ra, rb, rc, rd, re, rf, rg, rh⟩ kt wt = xx := hxx
              have hrr : round ⟨ra, rb, rc, rd, re, rf, rg, rh⟩ kt wt = ⟨xx + ((rotr ra 2 ^^^ rotr ra 13 ^^^ rotr ra 22) + (ra &&& rb ^^^ ra &&& rc ^^^ rb &&& rc)), ra, rb, rc, rd + xx, re, rf, rg⟩ := by rw [← hxx]; rfl
              have HRR := Lib.hid (HRD.out.trans hrr)
              clear hrr hxx HRD
              go_quiet (first | (go_at_call_of 24 (Value.int IntKind.u64 2); exact quiet (HR2.out _ _)) | (go_at_call_of 24 (Value.int IntKind.u64 13); exact quiet (HR13.out _ _)) | (go_at_call_of 24 (Value.int IntKind.u64 22); exact quiet (HR22.out _ _)))
              generalize hwf : we.drewN nq = wf at *
              replace d1 : wf.cell? ⟨V, 1, none⟩ = some (.int .u32 (U rb)) := by rw [← hwf]; exact d1
              replace d2 : wf.cell? ⟨V, 2, none⟩ = some (.int .u32 (U rc)) := by rw [← hwf]; exact d2
              replace d3 : wf.cell? ⟨V, 3, none⟩ = some (.int .u32 (U rd)) := by rw [← hwf]; exact d3
              replace d5 : wf.cell? ⟨V, 5, none⟩ = some (.int .u32 (U rf)) := by rw [← hwf]; exact d5
              replace d6 : wf.cell? ⟨V, 6, none⟩ = some (.int .u32 (U rg)) := by rw [← hwf]; exact d6
              have HBF := Lib.hid (show Below w3.heap.size w3 wf by rw [← hwf]; exact HBE.out.drewN _)
              clear hwf HBE
              go_wp2
              generalize hyy : (rotr ra 2 ^^^ rotr ra 13 ^^^ rotr ra 22) + (ra &&& rb ^^^ ra &&& rc ^^^ rb &&& rc) = yy at *
              clear hyy
              go_region_held3 (fun W => W.cell? ⟨V, 1, none⟩ = some (.int .u32 (U rb)) ∧ W.cell? ⟨V, 2, none⟩ = some (.int .u32 (U rc)) ∧ W.cell? ⟨V, 3, none⟩ = some (.int .u32 (U rd)) ∧ W.cell? ⟨V, 5, none⟩ = some (.int .u32 (U rf)) ∧ W.cell? ⟨V, 6, none⟩ = some (.int .u32 (U rg))) (go_keep) (fail)
              have HS := Lib.hid (show CellsAt (wf.alloc (.cells #[.int .u32 (U (xx + yy)), .int .u32 (U ra), .int .u32 (U rb), .int .u32 (U rc), .int .u32 (U (rd + xx)), .int .u32 (U re), .int .u32 (U rf), .int .u32 (U rg)] 42)).drew wf.heap.size 8 (scell (rnds st (sched bs) (t + 1))) by rw [HRR.out]; exact scells wf ⟨xx + yy, ra, rb, rc, rd + xx, re, rf, rg⟩ 42)
              have HBG := Lib.hid (show Below w3.heap.size w3 (wf.alloc (.cells #[.int .u32 (U (xx + yy)), .int .u32 (U ra), .int .u32 (U rb), .int .u32 (U rc), .int .u32 (U (rd + xx)), .int .u32 (U re), .int .u32 (U rf), .int .u32 (U rg)] 42)).drew from (HBF.out.alloc HBF.out.size _).drew)
              have HVL := Lib.hid (Nat.le_trans HB3.out.size HBF.out.size)
              clear d1 d2 d3 d5 d6
              go_wp2
              go_roundw
              case rel => first | exact ⟨t + 1, _, _, by go_num, by omega, rfl, HVL.out, HS.out, HBG.out⟩ | ((repeat apply Exists.intro); exact ⟨⟨t + 1, _, _, by go_num, by omega, rfl, HVL.out, HS.out, HBG.out⟩, rfl⟩)
              case measure => simp [intOf]; omega
            · obtain rfl : t = 64 := by omega
              have HRES := Lib.hid (show mixF st bs = plus st (rnds st (sched bs) 64) from rfl)
              generalize rnds st (sched bs) 64 = r at *
              have HA := Lib.hid (show CellsAt wr V 8 (pcell st r 0) from CellsAt.congr HSC.out fun j _ => by simp [pcell, scell])
              have HB4 := Lib.hid (later HB3.out HBE.out)
              clear ht hlt4 HSC HBE HR6 HR11 HR25 HR2 HR13 HR22
              go_wp2
              go_loopw [20] (fun u wt => ∃ i : Nat, u = .int .i64 i ∧ i ≤ 8 ∧ CellsAt wt V 8 (pcell st r i) ∧ Below w.heap.size w wt) (fun u _ => 8 - (intOf u).toNat)
              case atStart => exact ⟨0, rfl, by omega, HA.out, HB4.out⟩
              case round =>
                obtain ⟨i, rfl, hi, ha, hbe⟩ := hrel
                clear HA HB4
                have HA := Lib.hid ha
                have HB := Lib.hid hbe
                clear ha hbe
                by_cases hlt5 : i < 8
                · have c1 : wr.cell? ⟨V, i, none⟩ = some (.int .u32 (U (r.get i))) := by
                    rw [(HA.out i hlt5).1]
                    simp [pcell]
                  have f1 : wr.drew.frozen? ⟨V, i, none⟩ = false := (HA.out i hlt5).2
                  have c2 : wr.cell? ⟨bh, oh + i, none⟩ = some (.int .u32 (U (st.get i))) := (HB.out.cell (p := ⟨bh, oh + i, none⟩) (lt_of_cell (HH.out i hlt5))).trans (HH.out i hlt5)
                  have HST := Lib.hid (show CellsAt (wr.setCell ⟨V, i, none⟩ (.int .u32 (U (r.get i + st.get i)))) V 8 (pcell st r (i + 1)) from (HA.out.set hlt5 _).congr fun j hj => by
                    unfold pcell
                    split
                    · rename_i e
                      rw [e, if_pos (by omega), plus_get, UInt32.add_comm]
                    · rename_i e
                      by_cases h1 : j < i
                      · rw [if_pos h1, if_pos (by omega)]
                      · rw [if_neg h1, if_neg (by omega)])
                  have HBS := Lib.hid (show ∀ v, Below w.heap.size w (wr.setCell ⟨V, i, none⟩ v).drew from fun v => (HB.out.setCell (p := ⟨V, i, none⟩) HVV.out v).drew)
                  have t4 : (i : Int) < 8 := by omega
                  clear hlt5 hi
                  generalize st.get i = si at *
                  generalize r.get i = ri at *
                  go_wp2
                  go_region
                  all_goals
                    clear c1 c2 f1
                    go_wp2
                    go_roundw
                    case rel => first | exact ⟨i + 1, by go_num, by omega, HST.out, HBS.out _⟩ | ((repeat apply Exists.intro); exact ⟨⟨i + 1, by go_num, by omega, HST.out, HBS.out _⟩, rfl⟩)
                    case measure => simp [intOf]; omega
                · obtain rfl : i = 8 := by omega
                  have HF := Lib.hid (show CellsAt wr V 8 (scell (mixF st bs)) from HA.out.congr fun j hj => by
                    unfold pcell scell
                    rw [if_pos hj, HRES.out])
                  clear HA
                  go_wp2
                  go_ret
                  exact ⟨V, cv, rfl, HF.out, HVV.out, HB.out⟩
end Go.Proofs.YtjhmpoekpambaaaDoor.Sha
