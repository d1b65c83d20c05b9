/-
  The net (layer 30): the walk of All: the messages by rising numbers, in a new row. Condition: the net is the call's own.
-/
import Derived.Test.YtplfnjpoikhmbaaNtTurn
import Derived.Test.YtplfnjpoikhmbaaNtSorted
import Derived.Deep.AppendLies
open Go Go.RowKit
namespace Go.Proofs.Ytplfnjpoikhmbaa.Nt
open Base Mp

def gramC (g : GramD) : List Value := [.int .u64 (g.id : Int), .string (B g.whom), .string (B g.text)]
theorem infoG : (Try.prog.info? 32).map (fun i => (i.zero, i.size, i.bytes)) = some (some (gramV zeroG), 3, 40) := by kernel_rfl
theorem find_at {G : List GramD} (h : Rising G) {i : Nat} (hi : i < G.length) : findG G G[i].id = some G[i] := by
  induction G generalizing i with
  | nil => simp at hi
  | cons y r ih =>
    obtain ⟨h1, h2⟩ := List.pairwise_cons.1 h
    unfold findG at ih ⊢
    cases i with
    | zero => simp
    | succ i =>
      have hi' : i < r.length := by simpa using hi
      have := h1 r[i] (List.getElem_mem hi')
      rw [List.find?_cons, show (y.id == (y :: r)[i + 1].id) = false by simp; omega]
      exact ih h2 hi'
theorem key_row {w : World} {base n : Nat} {v : Value} {ks : List Int} (h : w.ownsRow base 28 1 v n (ks.map U)) : ∃ p cap, v = .slice p n cap ∧ ks.length = n ∧ ∀ i, i < n → ∀ hk : i < ks.length, ∃ g, p = some ⟨g, 0, none⟩ ∧ w.cell? ⟨g, i, none⟩ = some (.int .u64 ks[i]) := by
  have hl : ks.length = n := by have := h.1; simpa using this
  obtain ⟨-, ⟨rfl, rfl⟩ | ⟨g, cap, cur, rfl, hg, hb, hnc, hcm, hcs, ht⟩⟩ := h
  · exact ⟨none, 0, rfl, hl, fun i hi => absurd hi (by omega)⟩
  · refine ⟨_, cap, rfl, hl, fun i hi hk => ⟨g, rfl, ?_⟩⟩
    have h1 : (cur.toList.take (n * 1))[i]? = (ks.map U)[i]? := by rw [ht]
    rw [List.getElem?_take_of_lt (by omega), List.getElem?_map, List.getElem?_eq_getElem hk] at h1
    simp [World.cell?, hb] at h1 ⊢
    exact h1
theorem row_apart {w : World} {b1 b2 s1 s2 n1 n2 : Nat} {e1 e2 : TypeId} {v1 v2 : Value} {x1 x2 : List Value} (h1 : w.ownsRow b1 e1 s1 v1 n1 x1) (h2 : w.ownsRow b2 e2 s2 v2 n2 x2) (he : e1 ≠ e2) : ∀ g, v1.ownBlock = some g → v2.ownBlock ≠ some g := by
  intro g e3 e4
  obtain ⟨-, ⟨rfl, -⟩ | ⟨g1, cap1, cur1, rfl, -, hb1, -⟩⟩ := h1
  · cases e3
  · obtain ⟨-, ⟨rfl, -⟩ | ⟨g2, cap2, cur2, rfl, -, hb2, -⟩⟩ := h2
    · cases e4
    · have a1 : g1 = g := by simpa [Value.ownBlock] using e3
      have a2 : g2 = g := by simpa [Value.ownBlock] using e4
      subst a1 a2
      rw [hb1] at hb2
      simp at hb2
      exact he hb2.2
theorem row_fresh (w : World) (cur : Array Value) (e : TypeId) (cap size : Nat) (hc : cap ≤ maxLen) (hs : cur.size = cap * size) : (w.alloc (.cells cur e)).ownsRow w.heap.size e size (.slice (some ⟨w.heap.size, 0, none⟩) 0 cap) 0 [] :=
  ⟨by simp, .inr ⟨w.heap.size, cap, cur, rfl, Nat.le_refl _, World.alloc_heap_new w _, Nat.zero_le _, hc, hs, by simp⟩⟩
theorem kept_grown {w w' : World} {row : Option Nat} (hg : w.grownBy w' row) : Kept (fun i => some i = row) w w' := by
  have h0 : Below 0 w w' := (Below.refl 0 w).grown hg (Nat.zero_le _) (fun _ _ => Nat.zero_le _)
  exact ⟨h0.os, h0.tape, h0.output, h0.size, fun i hi hn => hg.block i hi hn⟩
set_option maxRecDepth 100000 in
set_option maxHeartbeats 4000000 in
theorem All_f {w : World} {b bm : Nat} {N : NetD} (h : NetAt w b bm N) (hl : N.last < 18446744073709551615) : Calls Try.prog 12 #[ptr b] w fun e w' => ∃ v, e = .returned v ∧ w'.ownsRow w.heap.size 32 3 v N.G.length (N.G.flatMap gramC) ∧ Below w.heap.size w w' := by
  have HT := Lib.hid (There_f h)
  have hlen := h.len 3
  have hfew := h.fine.few
  obtain ⟨i0, hi, hz0, hz1, hz2⟩ := info_parts infoG
  have hmk := run_make (P := Try.prog) (w := w) 29 32 i0 (gramV zeroG) Try.underlying29 hi hz0 .i64 .i64 0 (N.G.length : Int) (by omega) (by omega) (by rw [hz2]; omega) (by omega)
  simp only [Int.toNat_natCast, Int.toNat_zero] at hmk
  have hrow0 := row_fresh w (madeCells (gramV zeroG).cells (N.G.length * i0.size)) 32 N.G.length 3 (by unfold maxLen; omega) (by simp [madeCells, hz1])
  have hb1 : Below w.heap.size w (w.alloc (.cells (madeCells (gramV zeroG).cells (N.G.length * i0.size)) 32)) := (Below.refl _ w).alloc (Nat.le_refl _) _
  have hs1 := alloc_more w (.cells (madeCells (gramV zeroG).cells (N.G.length * i0.size)) 32)
  have HB1 := Lib.hid hb1
  have HR0 := Lib.hid hrow0
  have HS1 := Lib.hid hs1
  have c0 := h.c0
  have HN0 := Lib.hid h
  have HN1 := Lib.hid (h.next hb1)
  have c1 := HN1.out.c0
  have HI := Lib.hid (And.intro hi (And.intro hz0 (And.intro hz1 hz2)))
  clear h hb1 hrow0 hs1 hi hz0 hz1 hz2
  generalize w.alloc (.cells (madeCells (gramV zeroG).cells (N.G.length * i0.size)) 32) = w1 at *
  have HK := Lib.hid (Keys_f (some bm) w1)
  have HSO := Lib.hid (Sorted_f bm (N.G.map entG) w1 HN1.out.map (by rw [List.length_map]; omega))
  unfold ptr at *
  go_enter Try.func12, Try.ntmps12
  go_wp2_with fail
  with_reducible refine HT.out.mono ?_
  rintro e w2 ⟨rfl, rfl⟩
  go_wp2_with fail
  with_reducible refine HK.out.mono ?_
  rintro e w3 ⟨rfl, rfl⟩
  go_wp2_with fail
  with_reducible refine HSO.out.mono ?_
  rintro e w3 ⟨vk, ss, rfl, hS, hrk, hbk⟩
  have hke := keys_are HN0.out.fine.rise hS
  have hsl : ss.length = N.G.length := by rw [← srtU_length ss, hke, List.length_map]
  rw [hke, hsl] at hrk
  have HRK := Lib.hid hrk
  have hb3 : Below w2.heap.size w2 w3 := (HB1.out.alloc (by have := HS1.out; omega) (.cells #[.map (some bm)] 55)).trans (hbk.mono (by have := HS1.out; omega))
  have HB3 := Lib.hid hb3
  have HN3 := Lib.hid (HN1.out.next (((Below.refl _ w1).alloc (Nat.le_refl _) (.cells #[.map (some bm)] 55)).trans (hbk.mono (by omega))))
  have HR3 := Lib.hid (show w3.ownsRow w2.heap.size 32 3 (.slice (some ⟨w2.heap.size, 0, none⟩) 0 N.G.length) 0 [] from own_below (own_next HR0.out ((Below.refl _ w1).alloc (Nat.le_refl _) (.cells #[.map (some bm)] 55))) hbk (fun k hk => (show k < w1.heap.size + 1 from by
    have e : w2.heap.size = k := by simpa [Value.ownBlock] using hk
    have := HS1.out
    omega)))
  obtain ⟨p, cap, rfl, -, -⟩ := key_row hrk
  clear hS hke hsl hrk hbk hb3 HB1 HR0 HS1 HK HSO c0 c1 hlen hmk HN1
  go_wp2
  go_loopw [3, 22] (fun r u wr => ∃ i : Nat, u = .int .i64 (i : Int) ∧ i ≤ N.G.length ∧ wr.ownsRow w2.heap.size 32 3 r i ((N.G.take i).flatMap gramC) ∧ wr.ownsRow (w1.heap.size + 1) 28 1 (.slice p N.G.length cap) N.G.length ((N.G.map fun g => (g.id : Int)).map U) ∧ NetAt wr b bm N ∧ Below w2.heap.size w2 wr) (fun _ u _ => N.G.length - (intOf u).toNat)
  case atStart => exact ⟨0, rfl, Nat.zero_le _, HR3.out, HRK.out, HN3.out, HB3.out⟩
  case round =>
    clear HR3 HRK HN3 HB3
    obtain ⟨i, rfl, hi, hown, hkeys, hn, hb⟩ := hrel
    have HO := Lib.hid (And.intro hown (And.intro hkeys (And.intro hn hb)))
    by_cases hlt : i < N.G.length
    · have hfd := find_at hn.fine.rise hlt
      obtain ⟨p2, cap2, e2, -, hcell⟩ := key_row hkeys
      obtain ⟨g, rfl, hck⟩ : ∃ g, p = some ⟨g, 0, none⟩ ∧ wr.cell? ⟨g, i, none⟩ = some (.int .u64 (N.G[i].id : Int)) := by
        obtain ⟨g, h1, h2⟩ := hcell i hlt (by simpa using hlt)
        injection e2 with e2
        exact ⟨g, e2.trans h1, by rw [h2]; simp⟩
      have hlo := hn.fine.low _ (List.getElem_mem hlt)
      have hk := hn.look1 (n := N.G[i].id) (by omega)
      rw [hfd] at hk
      simp only [Option.map, Option.getD] at hk
      have htk := Lib.hid (List.take_succ_eq_append_getElem hlt)
      have c0 := hn.c0
      have tl : (i : Int) < (N.G.length : Int) := by omega
      have tz : 0 ≤ (i : Int) := by omega
      clear hfd hcell e2 hown hkeys hn hb hlo
      generalize N.G[i] = G1 at *
      obtain ⟨gi, gt, gx⟩ := G1
      unfold gramV at hk
      simp only at hk hck
      go_wp2_with (at_builtin; (refine wpList_append_lies _ rfl _ _ _ rfl w2.heap.size 32 i0 _ 3 40 Try.underlying29 HI.out.1 HI.out.2.1 HI.out.2.2.1 HI.out.2.2.2 rfl (by decide) _ i _ rfl (HO.out.1.alloc _) ⟨wr.heap.size, 0, none⟩ 1 1 [.int .u64 (gi : Int), .string (B gt), .string (B gx)] rfl rfl ?c1 ?c2 (by decide) ?c3 ?c4 ?c5 _ rfl ?_))
      case c1 =>
        intro j u hj
        have hcm := cells_made wr #[.int .u64 (gi : Int), .string (B gt), .string (B gx)] 32
        have hjl : j < 3 := by
          rcases Nat.lt_or_ge j 3 with h | h
          · exact h
          · rw [List.getElem?_eq_none (by simpa using h)] at hj; cases hj
        rw [show (⟨wr.heap.size, 0, none⟩ : Addr).add j = ⟨wr.heap.size, j, none⟩ by simp [Addr.add]; omega, (hcm j hjl).1]
        have : j = 0 ∨ j = 1 ∨ j = 2 := by omega
        rcases this with rfl | rfl | rfl <;> simpa using hj
      case c2 => simp [Value.oneCell']
      case c3 => unfold maxLen; omega
      case c4 => omega
      case c5 =>
        have := HO.out.2.2.2.size
        rw [alloc_more]
        omega
      intro g2 cap2 w5 hown5 hgrow hat hlt5
      have hal : Below wr.heap.size wr (wr.alloc (.cells #[.int .u64 (gi : Int), .string (B gt), .string (B gx)] 32)) := (Below.refl _ wr).alloc (Nat.le_refl _) _
      have hrb := fun k hk => (HO.out.1.lt k hk).1
      have hsz5 := HO.out.2.2.2.size
      have hbl5 := (HO.out.2.2.2.alloc hsz5 (.cells #[.int .u64 (gi : Int), .string (B gt), .string (B gx)] 32)).grown hgrow (by rw [alloc_more]; omega) (fun k hk => hrb k hk)
      have hk5 := (HO.out.2.1.alloc (.cells #[.int .u64 (gi : Int), .string (B gt), .string (B gx)] 32)).kept hgrow (.inr fun e => row_apart HO.out.2.1 HO.out.1 (by decide) g rfl e.symm)
      have hn5 := (HO.out.2.2.1.next hal).kept (kept_grown hgrow) (fun e => by have := hrb _ e.symm; have := HN0.out.lt; omega) (fun e => by have := hrb _ e.symm; have := HN0.out.map.lt; omega)
      have HO5 := Lib.hid (And.intro hown5 (And.intro hk5 (And.intro hn5 hbl5)))
      clear hown5 hgrow hat hal hrb hbl5 hk5 hn5 hlt5 hsz5
      go_wp2
      go_roundw
      case rel =>
        have e9 : (N.G.take (i + 1)).flatMap gramC = (N.G.take i).flatMap gramC ++ [.int .u64 (gi : Int), .string (B gt), .string (B gx)] := by
          rw [htk.out, List.flatMap_append]; simp [gramC]
        obtain ⟨q1, q2, q3, q4⟩ := HO5.out
        first
          | exact ⟨i + 1, by go_num, by omega, by rw [e9]; exact q1, q2, q3, q4⟩
          | ((repeat apply Exists.intro); exact ⟨⟨i + 1, by go_num, by omega, by rw [e9]; exact q1, q2, q3, q4⟩, rfl⟩)
      case measure => simp [intOf]; omega
    · have tl : ¬ (i : Int) < (N.G.length : Int) := by omega
      have HT9 := Lib.hid (show i = N.G.length by omega)
      clear hown hkeys hn hb
      go_wp2
      go_ret
      refine ⟨_, rfl, ?_, HO.out.2.2.2⟩
      have := HO.out.1
      rw [HT9.out, List.take_length] at this
      exact this
end Go.Proofs.Ytplfnjpoikhmbaa.Nt
