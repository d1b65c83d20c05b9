/-
  NetPlays (layer 30): the net answers as the document's does, and has the same messages, behind any calls. Condition: texts no longer than a string may be; at most 250 steps (or the law says so).
-/
import Derived.Test.YtplfnjpoikhmbaaNtRefD
import Derived.Test.YtplfnjpoikhmbaaNtRefT
import Derived.Deep.CutBlock
import Derived.Deep.RegionHeld3
import Derived.StillTailTactics
open Go Go.RowKit
namespace Go.Proofs.Ytplfnjpoikhmbaa.Nt
open Base Mp

structure PSt (w0 w : World) (nb bm rb base : Nat) (v : Value) (k : Nat) (N : NetD) : Prop where
  net : NetAt w nb bm N
  ref : RAt w rb base v N
  below : Below w0.heap.size w0 w
  last : N.last ≤ 2 * k
  lost : N.lost ≤ 2 * k
  few : N.G.length ≤ 2 * k
structure Apart30 (w0 : World) (nb bm rb base : Nat) : Prop where
  a : nb < base
  b : bm < base
  c : rb ≠ nb
  d : rb ≠ bm
  e : w0.heap.size ≤ nb
  f : w0.heap.size ≤ bm
  g : w0.heap.size ≤ rb
  h : w0.heap.size ≤ base
section
variable {w0 w w' : World} {nb bm rb base k : Nat} {v : Value} {N N' : NetD}
theorem PSt.next (h : PSt w0 w nb bm rb base v k N) (hb : Below w.heap.size w w') : PSt w0 w' nb bm rb base v k N :=
  ⟨h.net.next hb, h.ref.next hb, h.below.trans (hb.mono h.below.size), h.last, h.lost, h.few⟩
theorem PSt.more (h : PSt w0 w nb bm rb base v k N) : PSt w0 w nb bm rb base v (k + 1) N :=
  ⟨h.net, h.ref, h.below, by have := h.last; omega, by have := h.lost; omega, by have := h.few; omega⟩
/-- The net is turned: the document's stands as it stood. -/
theorem RAt.beside (h : RAt w rb base v N) (A : Apart30 w0 nb bm rb base) (hk : Kept (fun i => i = nb ∨ i = bm) w w') : RAt w' rb base v N :=
  h.kept hk (fun e => by rcases e with e | e; exact A.c e; exact A.d e) (fun q hq e => by
    have := h.row.lt q hq
    have := A.a
    have := A.b
    rcases e with rfl | rfl <;> omega)
/-- The document's is turned: the net stands as it stood. -/
theorem NetAt.beside (h : NetAt w nb bm N) (hr : RAt w rb base v N') (A : Apart30 w0 nb bm rb base) (hk : Kept (fun i => i = rb ∨ v.ownBlock = some i) w w') : NetAt w' nb bm N :=
  h.kept hk (fun e => by
    rcases e with e | e
    · exact A.c e.symm
    · have := hr.row.lt _ e; have := A.a; omega) (fun e => by
    rcases e with e | e
    · exact A.d e.symm
    · have := hr.row.lt _ e; have := A.b; omega)
theorem below_net (hb : Below w0.heap.size w0 w) (A : Apart30 w0 nb bm rb base) (hk : Kept (fun i => i = nb ∨ i = bm) w w') : Below w0.heap.size w0 w' :=
  hb.trans (hk.below (fun i hi => by have := A.e; have := A.f; show w0.heap.size ≤ i; rcases hi with rfl | rfl <;> omega) hb.size)
theorem below_ref (hb : Below w0.heap.size w0 w) (hr : RAt w rb base v N') (A : Apart30 w0 nb bm rb base) (hk : Kept (fun i => i = rb ∨ v.ownBlock = some i) w w') : Below w0.heap.size w0 w' :=
  hb.trans (hk.below (fun i hi => by
    have := A.g
    have := A.h
    show w0.heap.size ≤ i
    rcases hi with rfl | hi
    · omega
    · have := hr.row.lt _ hi; omega) hb.size)
end
theorem sends2 (N : NetD) (to_ a b : List UInt8) (h : N.G.length + 2 ≤ 1024) : sends to_ N [a, b] = (putN (putN N to_ a) to_ b, 2) := by
  have e1 : sendN N to_ a = putN N to_ a := by
    unfold sendN
    exact if_pos (by omega)
  have l1 : (putN N to_ a).G.length = N.G.length + 1 := by simp [putN]
  have e2 : sendN (putN N to_ a) to_ b = putN (putN N to_ a) to_ b := by
    unfold sendN
    exact if_pos (by omega)
  unfold sends
  simp only [List.foldl_cons, List.foldl_nil]
  rw [e1, e2, if_pos (by omega), if_pos (by omega)]
theorem dropN_none {N : NetD} {n : Nat} (h : findG N.G n = none) : dropN N n = N := by unfold dropN; rw [dropG_none h]
theorem drops2 (N : NetD) (a b : Nat) : drops N [a, b] = (dropN (dropN N a) b, (if (findG N.G a).isSome then 1 else 0) + if (findG (dropN N a).G b).isSome then 1 else 0) := by
  unfold drops
  simp only [List.foldl_cons, List.foldl_nil]
  cases h1 : findG N.G a with
  | none =>
    rw [dropN_none h1]
    cases h2 : findG N.G b with
    | none => simp [h2, dropN_none h2]
    | some x => simp [h2]
  | some y =>
    simp only [Option.isSome_some, if_true]
    cases h2 : findG (dropN N a).G b with
    | none => simp [dropN_none h2]
    | some x => simp
theorem turn_cell {T : Nat → Prop} {w w' : World} {b i : Nat} {x : Value} (h : w.cell? ⟨b, i, none⟩ = some x) (hk : Kept T w.drew w') (hT : ¬ T b) : w'.cell? ⟨b, i, none⟩ = some x :=
  (World.cell?_of_block (w := w.drew) (a := ⟨b, i, none⟩) (hk.block b (lt_of_cell (w := w.drew) (by simpa using h)) hT)).trans (by simpa using h)
theorem cell_kept30 {T : Nat → Prop} {w w' : World} {b i : Nat} {x : Value} (h : w.cell? ⟨b, i, none⟩ = some x) (hk : Kept T w w') (hT : ¬ T b) : w'.cell? ⟨b, i, none⟩ = some x :=
  (World.cell?_of_block (a := ⟨b, i, none⟩) (hk.block b (lt_of_cell h) hT)).trans h
theorem turnR_low (N : NetD) (n : Nat) (m : Int) (y : UInt8) : (turnR N n m y).last = N.last ∧ (turnR N n m y).lost = N.lost ∧ (turnR N n m y).G.length = N.G.length := by
  unfold turnR
  split
  · unfold turnN
    split
    · exact ⟨rfl, rfl, rfl⟩
    · exact ⟨rfl, rfl, by simp [setG]⟩
  · exact ⟨rfl, rfl, rfl⟩
theorem drop_low (N : NetD) (n : Nat) : (dropN N n).G.length ≤ N.G.length := List.length_filter_le _ _
set_option maxRecDepth 100000 in
set_option maxHeartbeats 16000000 in
theorem NetPlays_calls (w : World) (p : Option Addr) (l : List StepD) (cap : Nat) (hl : l.length ≤ maxLen) (h : StepsArg w p l) : Calls Try.prog 6 #[.slice p l.length cap] w fun e w' => e = .returned (.bool true) ∧ Below w.heap.size w w' := by
  have HW := Lib.hid Works_f
  have HH := Lib.hid (Heavy_f p l cap w hl h)
  have HA := Lib.hid h
  clear h
  go_enter Try.func6, Try.ntmps6
  go_wp2_with fail
  with_reducible refine HH.out.mono ?_
  rintro e w1 ⟨⟨v, rfl, hv⟩, hb1⟩
  have HB1 := Lib.hid hb1
  cases v
  case true =>
    clear hb1 HH hv
    go_wp2_with fail
    with_reducible refine (HW.out _).mono ?_
    rintro e w2 ⟨rfl, hb2⟩
    have HB2 := Lib.hid (HB1.out.trans (hb2.mono HB1.out.size))
    clear hb2
    go_wp2
    go_ret
    exact ⟨rfl, HB2.out⟩
  case false =>
    have h250 := hv rfl
    have HN := Lib.hid (New_f w1)
    clear hb1 HH hv
    go_wp2_with fail
    with_reducible refine HN.out.mono ?_
    rintro e w2 ⟨nb, bm, rfl, hn2, hb2, hlb, hlm⟩
    have ha1 : Below w2.heap.size w2 (w2.alloc (.cells #[.slice none 0 0, .int .u64 0, .int .u64 0] 50)) := (Below.refl _ w2).alloc (Nat.le_refl _) _
    have hs1 := alloc_more w2 (.cells #[.slice none 0 0, .int .u64 0, .int .u64 0] 50)
    have hs0 := HB1.out.size
    have hsz2 := hb2.size
    have hst : PSt w (w2.alloc (.cells #[.slice none 0 0, .int .u64 0, .int .u64 0] 50)) nb bm w2.heap.size (w2.heap.size + 1) (.slice none 0 0) 0 ⟨[], 0, 0⟩ :=
      ⟨hn2.next ha1, ⟨(cells_made w2 #[.slice none 0 0, .int .u64 0, .int .u64 0] 50).congr fun j hj => by
        have : j = 0 ∨ j = 1 ∨ j = 2 := by have : j < 3 := hj; omega
        rcases this with rfl | rfl | rfl <;> rfl, World.ownsRow_nil _ _ _ _, by omega, by rw [hs1]; omega, new_fine⟩, (HB1.out.trans (hb2.mono hs0)).trans (ha1.mono (Nat.le_trans hs0 hsz2)), Nat.le_refl _, Nat.le_refl _, Nat.le_refl _⟩
    have HST := Lib.hid hst
    have HAP := Lib.hid (show Apart30 w nb bm w2.heap.size (w2.heap.size + 1) from ⟨by have := hn2.lt; omega, by have := hn2.map.lt; omega, by have := hn2.lt; omega, by have := hn2.map.lt; omega, by omega, by omega, by omega, by omega⟩)
    unfold ptr
    generalize hRB : w2.heap.size = rb at *
    clear hn2 hb2 hlb hlm ha1 hs0 hs1 hst HN HB1 hsz2
    unfold maxLen at hl
    go_wp2
    clear hRB
    go_loopw [5] (fun u wr => ∃ (k : Nat) (N : NetD) (v : Value), u = .int .i64 (k : Int) ∧ k ≤ l.length ∧ PSt w wr nb bm rb (rb + 1) v k N) (fun u _ => l.length - (intOf u).toNat)
    case atStart => exact ⟨0, _, _, rfl, Nat.zero_le _, HST.out⟩
    case round =>
      clear HST
      obtain ⟨k, N, v, rfl, hk, hst⟩ := hrel
      by_cases hlt : k < l.length
      · obtain ⟨b, o, rfl, hs, hok⟩ := (HA.out.below hst.below) k hlt
        obtain ⟨c0, c1, c2, c3, c4, c5, c6, c7⟩ := hs
        have t1 : (k : Int) < (l.length : Int) := by omega
        have tz : 0 ≤ (k : Int) := by omega
        have hla := hst.last
        have hlo := hst.lost
        have hfe := hst.few
        have ln := hok.n
        have lm := hok.m
        have hal : Below wr.heap.size wr (wr.alloc (.cells (stepCs l[k]) 41)) := (Below.refl _ wr).alloc (Nat.le_refl _) _
        have HSM := Lib.hid (step_made wr l[k] 41).own
        have HS := Lib.hid (hst.next hal)
        have HZ1 := Lib.hid (alloc_more wr (.cells (stepCs l[k]) 41))
        have HV := Lib.hid (show ∀ q, v.ownBlock = some q → q < wr.heap.size from fun q hq => (hst.ref.row.lt q hq).2)
        have HX := Lib.hid (show nb < wr.heap.size ∧ bm < wr.heap.size ∧ rb < wr.heap.size from ⟨hst.net.lt, hst.net.map.lt, hst.ref.lt⟩)
        clear hok hst hal HA
        generalize hx : l[k] = x at *
        clear hx
        obtain ⟨xw, xr, xs, xt, xn, xm, xp, xy⟩ := x
        unfold stepCs at HSM HS HZ1
        simp only at c0 c1 c2 c3 c4 c5 c6 c7 ln lm HSM HS HZ1
        go_upto_block 2 with fail
        generalize (wr.alloc (.cells #[.int .i64 xw, .string (B xr), .string (B xs), .string (B xt), .int .u64 (xn : Int), .int .u64 (xm : Int), .int .i64 xp, .int .u8 ((xy.toNat : Nat) : Int)] 41)) = W1 at *
        have HFE := Lib.hid (And.intro hla (And.intro hlo hfe))
        clear c0 c1 c2 c3 c4 c5 c6 c7
        go_cut [7, 8, 9, 10, 11, 12, 13, 14, 15, 16] from 25 to 237 (fun u0 _ _ _ _ _ _ _ _ _ wx => u0 = .bool true ∧ ∃ (N2 : NetD) (v2 : Value), PSt w wx nb bm rb (rb + 1) v2 (k + 1) N2)
        case first =>
          by_cases w0 : xw = 0
          · subst w0

            as_aux_lemma =>
              have s1 := HSM.out.c1
              have s2 := HSM.out.c2
              simp only at s1 s2
              have HC1 := Lib.hid (RSend_f HS.out.ref (by omega) (by omega) xr xs)
              unfold ptr at HC1
              go_wp2_with fail
              with_reducible refine HC1.out.mono ?_
              rintro e w3 ⟨rfl, v3, hr3, hk3, hs3⟩
              have HQ3 := Lib.hid (HSM.out.kept hk3 (fun e => by
                rcases e with e | e
                · have := HX.out; omega
                · have := HV.out _ e; omega))
              have HN3 := Lib.hid (HS.out.net.beside HS.out.ref HAP.out hk3)
              have HB3 := Lib.hid (below_ref HS.out.below HS.out.ref HAP.out hk3)
              have HV3 := Lib.hid (show ∀ q, v3.ownBlock = some q → q ≠ wr.heap.size from fun q hq e => by
                rcases hs3 q hq with h | h
                · have := HV.out q h; omega
                · have := HZ1.out; omega)
              have HR3 := Lib.hid hr3
              have HC2 := Lib.hid (RSend_f hr3 (by simp [putN]; omega) (by simp [putN]; omega) xr xt)
              unfold ptr at HC2
              have s1 := HQ3.out.c1
              have s3 := HQ3.out.c3
              simp only at s1 s3
              clear s2 hr3 hk3 hs3 HSM HC1
              go_wp2_with fail
              with_reducible refine HC2.out.mono ?_
              rintro e w4 ⟨rfl, v4, hr4, hk4, hs4⟩
              have hq4 := HQ3.out.kept hk4 (fun e => by
                rcases e with e | e
                · have := HX.out; omega
                · exact HV3.out _ e rfl)
              have HN4 := Lib.hid (HN3.out.beside HR3.out HAP.out hk4)
              have HB4 := Lib.hid (below_ref HB3.out HR3.out HAP.out hk4)
              have HR4 := Lib.hid hr4
              have hr : Below w4.heap.size w4 (w4.alloc (.cells #[.string (B xs), .string (B xt)] 9)) := (Below.refl _ _).alloc (Nat.le_refl _) _
              have hc := cells_made w4 #[.string (B xs), .string (B xt)] 9
              have HC3 := Lib.hid (Send_f (HN4.out.next hr) xr [xs, xt] w4.heap.size 2 (fun j hj => by
                have hj2 : j < 2 := hj
                rw [(hc j hj2).1]
                have : j = 0 ∨ j = 1 := by omega
                rcases this with rfl | rfl <;> rfl) (by have := HN4.out.lt; omega) (by have := HN4.out.map.lt; omega) (by show N.last + 2 < _; omega) (by show N.lost + 2 < _; omega))
              unfold ptr at HC3
              rw [show ([xs, xt] : List (List UInt8)).length = 2 from rfl, sends2 N xr xs xt (by omega)] at HC3
              have HR5 := Lib.hid (HR4.out.next hr)
              have HB5 := Lib.hid (HB4.out.trans (hr.mono HB4.out.size))
              obtain ⟨-, s1, s2, s3, -, -, -, -⟩ := hq4
              simp only at s1 s2 s3 HC3
              clear hr4 hk4 hs4 hr hc HC2 HQ3 HN3 HB3 HR3 HV3 HN4 HB4 HR4 HS
              go_wp2_with fail
              with_reducible refine HC3.out.mono ?_
              rintro e w5 ⟨rfl, hn5, hk5⟩
              have HEND := Lib.hid (show PSt w w5 nb bm rb (rb + 1) v4 (k + 1) (putN (putN N xr xs) xr xt) from ⟨hn5, HR5.out.beside HAP.out hk5, below_net HB5.out HAP.out hk5, by simp [putN]; omega, by simp [putN]; omega, by simp [putN]; omega⟩)
              clear hn5 hk5 HC3 HR5 HB5
              go_wp2
              go_meet
              exact ⟨rfl, _, _, HEND.out⟩

          · by_cases w1' : xw = 1
            · subst w1'

              as_aux_lemma =>
                have s4 := HSM.out.c4
                simp only at s4
                have HC1 := Lib.hid (Take_f HS.out.net xn ln)
                unfold ptr at HC1
                go_wp2_with fail
                with_reducible refine HC1.out.mono ?_
                rintro e w3 ⟨rfl, hn3, hk3⟩
                have hk3' : Kept (fun i => i = nb ∨ i = bm) W1 w3 := hk3.mono fun i hi => .inr hi
                have HR3 := Lib.hid (HS.out.ref.beside HAP.out hk3')
                have HB3 := Lib.hid (below_net HS.out.below HAP.out hk3')
                have hq3 := HSM.out.kept hk3 (fun e => by have := HX.out; omega)
                unfold takeV
                cases hg : findG N.G xn with
                | none =>
                  simp only
                  unfold gramV zeroG
                  simp only
                  rw [dropN_none hg] at hn3
                  have ha : Below w3.heap.size w3 (w3.alloc (.cells #[.int .u64 0, .string (B []), .string (B [])] 32)) := (Below.refl _ _).alloc (Nat.le_refl _) _
                  have HEND := Lib.hid (show PSt w (w3.alloc (.cells #[.int .u64 0, .string (B []), .string (B [])] 32)) nb bm rb (rb + 1) v (k + 1) N from ⟨hn3.next ha, HR3.out.next ha, HB3.out.trans (ha.mono HB3.out.size), by omega, by omega, by omega⟩)
                  have HAT := Lib.hid (At_f HEND.out.ref xn)
                  rw [show atI N.G xn = -1 from if_neg fun h => by rw [(find_at_some h).1] at hg; cases hg] at HAT
                  unfold ptr at HAT
                  have s4 := (hq3.kept (Kept.of_below (T := fun _ => False) ha) (fun h => h)).c4
                  simp only at s4
                  clear hg hn3 hk3 hk3' hq3 HC1 HR3 HB3 HSM HS ha
                  go_wp2_with fail
                  with_reducible refine HAT.out.mono ?_
                  rintro e w5 ⟨rfl, rfl⟩
                  go_wp2
                  go_meet
                  exact ⟨rfl, _, _, HEND.out⟩
                | some x =>
                  have hat : atN N.G xn < N.G.length := by
                    rcases Nat.lt_or_ge (atN N.G xn) N.G.length with h | h
                    · exact h
                    · rw [find_at_none (by omega)] at hg; cases hg
                  obtain rfl : x = N.G[atN N.G xn] := by
                    have := (find_at_some hat).1
                    rw [hg] at this
                    exact Option.some.inj this
                  have ha : Below w3.heap.size w3 (w3.alloc (.cells (gramC N.G[atN N.G xn]).toArray 32)) := (Below.refl _ _).alloc (Nat.le_refl _) _
                  have hn4 := hn3.next ha
                  have hr4 := HR3.out.next ha
                  have HB4 := Lib.hid (HB3.out.trans (ha.mono HB3.out.size))
                  have HAT := Lib.hid (At_f hr4 xn)
                  rw [show atI N.G xn = (atN N.G xn : Int) from if_pos hat] at HAT
                  unfold ptr at HAT
                  obtain ⟨g, cap2, rfl, hcap2, -, hgl, r0, r1, r2, -⟩ := hr4.at hat
                  have r3 := hr4.c0
                  have HN4 := Lib.hid hn4
                  have HR4 := Lib.hid hr4
                  have HC5 := Lib.hid (fun W (h : RAt W rb (rb + 1) (.slice (some ⟨g, 0, none⟩) N.G.length cap2) N) => RDrop_f h xn)
                  unfold ptr at HC5
                  have HQ4 := Lib.hid (hq3.kept (Kept.of_below (T := fun _ => False) ha) (fun h => h))
                  have s4 := HQ4.out.c4
                  have hgm := (gram_made w3 N.G[atN N.G xn]).cells
                  obtain ⟨d0, d1, d2, -, -, -⟩ := hgm
                  unfold gramC at ha hn4 hr4 HB4 HAT r0 r1 r2 r3 HN4 HR4 HQ4 s4
                  generalize N.G[atN N.G xn] = G1 at *
                  generalize atN N.G xn = m at *
                  have tm : (m : Int) < (N.G.length : Int) := by omega
                  have tn : 0 ≤ (m : Int) := by omega
                  have tn2 : (decide (0 ≤ (m : Int))) = true := by simp
                  obtain ⟨gi, gt, gx⟩ := G1
                  simp only at r0 r1 r2 d0 d1 d2 s4
                  simp only
                  unfold gramV
                  simp only
                  clear hg hn3 hk3 hk3' hq3 HC1 HR3 HB3 HSM HS ha hn4 hr4 hcap2 hgl hat
                  go_wp2_with fail
                  generalize hW4 : w3.alloc (.cells #[.int .u64 (gi : Int), .string (B gt), .string (B gx)] 32) = W4 at *
                  with_reducible refine HAT.out.mono ?_
                  rintro e w5 ⟨rfl, rfl⟩
                  go_upto_region 19 with fail
                  go_quiet (fail)
                  have HN6 := Lib.hid (HN4.out.drewN nq)
                  have HR6 := Lib.hid (HR4.out.next ((Below.refl _ _).drewN nq))
                  have HB6 := Lib.hid (HB4.out.trans (((Below.refl _ w5).drewN nq).mono HB4.out.size))
                  have s6 : (w5.drewN nq).cell? ⟨wr.heap.size, 4, none⟩ = some (.int .u64 (xn : Int)) := s4
                  clear HN4 HR4 HB4 HQ4 s4 r0 r1 r2 r3 d0 d1 d2 HAT hW4
                  generalize w5.drewN nq = W6 at *
                  go_wp2_with fail
                  with_reducible refine (HC5.out W6 HR6.out).mono ?_
                  rintro e w7 ⟨rfl, v7, hr7, hk7, -⟩
                  have hk8 : Kept (fun i => i = rb ∨ (Value.slice (some ⟨g, 0, none⟩) N.G.length cap2).ownBlock = some i) W6 w7 := hk7.mono fun i hi => .inl hi
                  have HEND := Lib.hid (show PSt w w7 nb bm rb (rb + 1) v7 (k + 1) (dropN N xn) from ⟨HN6.out.beside HR6.out HAP.out hk8, hr7, below_ref HB6.out HR6.out HAP.out hk8, by show N.last ≤ _; omega, by show N.lost ≤ _; omega, by have := drop_low N xn; omega⟩)
                  clear hr7 hk7 hk8 HN6 HR6 HB6 HC5 s6
                  go_wp2
                  go_meet
                  exact ⟨rfl, _, _, HEND.out⟩

            · by_cases w2' : xw = 2
              · subst w2'

                as_aux_lemma =>
                  have s4 := HSM.out.c4
                  simp only at s4
                  have HC := Lib.hid (fun W N' v' (h : RAt W rb (rb + 1) v' N') n => RDrop_f h n)
                  unfold ptr at HC
                  go_wp2_with fail
                  with_reducible refine (HC.out _ _ _ HS.out.ref xn).mono ?_
                  rintro e w3 ⟨rfl, v3, hr3, hk3, -⟩
                  have hk3' : Kept (fun i => i = rb ∨ v.ownBlock = some i) W1 w3 := hk3.mono fun i hi => .inl hi
                  have HN3 := Lib.hid (HS.out.net.beside HS.out.ref HAP.out hk3')
                  have HB3 := Lib.hid (below_ref HS.out.below HS.out.ref HAP.out hk3')
                  have HQ3 := Lib.hid (HSM.out.kept hk3 (fun e => by have := HX.out; omega))
                  have HR3 := Lib.hid hr3
                  have s5 := HQ3.out.c5
                  simp only at s5
                  clear hr3 hk3 hk3' HSM HS s4
                  cases hb1 : (findG N.G xn).isSome with
                  | false =>
                    go_wp2_with fail
                    with_reducible refine (HC.out _ _ _ HR3.out xm).mono ?_
                    rintro e w4 ⟨rfl, v4, hr4, hk4, -⟩
                    have hk4' : Kept (fun i => i = rb ∨ v3.ownBlock = some i) w3 w4 := hk4.mono fun i hi => .inl hi
                    have HN4 := Lib.hid (HN3.out.beside HR3.out HAP.out hk4')
                    have HB4 := Lib.hid (below_ref HB3.out HR3.out HAP.out hk4')
                    have hq4 := HQ3.out.kept hk4 (fun e => by have := HX.out; omega)
                    have hr : Below w4.heap.size w4 (w4.alloc (.cells #[.int .u64 (xn : Int), .int .u64 (xm : Int)] 28)) := (Below.refl _ _).alloc (Nat.le_refl _) _
                    have hc := cells_made w4 #[.int .u64 (xn : Int), .int .u64 (xm : Int)] 28
                    have HC3 := Lib.hid (Drop_f (HN4.out.next hr) [xn, xm] w4.heap.size 2 (fun j hj => by
                      have hj2 : j < 2 := hj
                      rw [(hc j hj2).1]
                      have : j = 0 ∨ j = 1 := by omega
                      rcases this with rfl | rfl <;> rfl) (by have := HN4.out.map.lt; omega) (fun n hn => by simp at hn; rcases hn with rfl | rfl <;> assumption) (by show 2 < _; omega))
                    unfold ptr at HC3
                    rw [show ([xn, xm] : List Nat).length = 2 from rfl, drops2, hb1] at HC3
                    have HR5 := Lib.hid (hr4.next hr)
                    have HB5 := Lib.hid (HB4.out.trans (hr.mono HB4.out.size))
                    obtain ⟨-, -, -, -, s4, s5, -, -⟩ := hq4
                    simp only at s4 s5
                    clear hr4 hk4 hk4' hr hc HN3 HB3 HQ3 HR3 HN4 HB4 HC hb1
                    cases hb2 : (findG (dropN N xn).G xm).isSome with
                    | false =>
                      rw [hb2] at HC3
                      simp only [Bool.false_eq_true, if_false] at HC3
                      clear hb2
                      go_wp2_with fail
                      with_reducible refine HC3.out.mono ?_
                      rintro e w5 ⟨rfl, hn5, hk5⟩
                      have hk5' : Kept (fun i => i = nb ∨ i = bm) _ w5 := hk5.mono fun i hi => .inr hi
                      have HEND := Lib.hid (show PSt w w5 nb bm rb (rb + 1) v4 (k + 1) (dropN (dropN N xn) xm) from ⟨hn5, HR5.out.beside HAP.out hk5', below_net HB5.out HAP.out hk5', by show N.last ≤ _; omega, by show N.lost ≤ _; omega, by have := drop_low N xn; have := drop_low (dropN N xn) xm; omega⟩)
                      clear hn5 hk5 hk5' HC3 HR5 HB5
                      go_wp2
                      go_meet
                      exact ⟨rfl, _, _, HEND.out⟩
                    | true =>
                      rw [hb2] at HC3
                      simp only [Bool.false_eq_true, if_true, if_false] at HC3
                      clear hb2
                      go_wp2_with fail
                      with_reducible refine HC3.out.mono ?_
                      rintro e w5 ⟨rfl, hn5, hk5⟩
                      have hk5' : Kept (fun i => i = nb ∨ i = bm) _ w5 := hk5.mono fun i hi => .inr hi
                      have HEND := Lib.hid (show PSt w w5 nb bm rb (rb + 1) v4 (k + 1) (dropN (dropN N xn) xm) from ⟨hn5, HR5.out.beside HAP.out hk5', below_net HB5.out HAP.out hk5', by show N.last ≤ _; omega, by show N.lost ≤ _; omega, by have := drop_low N xn; have := drop_low (dropN N xn) xm; omega⟩)
                      clear hn5 hk5 hk5' HC3 HR5 HB5
                      go_wp2
                      go_meet
                      exact ⟨rfl, _, _, HEND.out⟩
                  | true =>
                    go_wp2_with fail
                    with_reducible refine (HC.out _ _ _ HR3.out xm).mono ?_
                    rintro e w4 ⟨rfl, v4, hr4, hk4, -⟩
                    have hk4' : Kept (fun i => i = rb ∨ v3.ownBlock = some i) w3 w4 := hk4.mono fun i hi => .inl hi
                    have HN4 := Lib.hid (HN3.out.beside HR3.out HAP.out hk4')
                    have HB4 := Lib.hid (below_ref HB3.out HR3.out HAP.out hk4')
                    have hq4 := HQ3.out.kept hk4 (fun e => by have := HX.out; omega)
                    have hr : Below w4.heap.size w4 (w4.alloc (.cells #[.int .u64 (xn : Int), .int .u64 (xm : Int)] 28)) := (Below.refl _ _).alloc (Nat.le_refl _) _
                    have hc := cells_made w4 #[.int .u64 (xn : Int), .int .u64 (xm : Int)] 28
                    have HC3 := Lib.hid (Drop_f (HN4.out.next hr) [xn, xm] w4.heap.size 2 (fun j hj => by
                      have hj2 : j < 2 := hj
                      rw [(hc j hj2).1]
                      have : j = 0 ∨ j = 1 := by omega
                      rcases this with rfl | rfl <;> rfl) (by have := HN4.out.map.lt; omega) (fun n hn => by simp at hn; rcases hn with rfl | rfl <;> assumption) (by show 2 < _; omega))
                    unfold ptr at HC3
                    rw [show ([xn, xm] : List Nat).length = 2 from rfl, drops2, hb1] at HC3
                    have HR5 := Lib.hid (hr4.next hr)
                    have HB5 := Lib.hid (HB4.out.trans (hr.mono HB4.out.size))
                    obtain ⟨-, -, -, -, s4, s5, -, -⟩ := hq4
                    simp only at s4 s5
                    clear hr4 hk4 hk4' hr hc HN3 HB3 HQ3 HR3 HN4 HB4 HC hb1
                    cases hb2 : (findG (dropN N xn).G xm).isSome with
                    | false =>
                      rw [hb2] at HC3
                      simp only [Bool.false_eq_true, if_true, if_false] at HC3
                      clear hb2
                      go_wp2_with fail
                      with_reducible refine HC3.out.mono ?_
                      rintro e w5 ⟨rfl, hn5, hk5⟩
                      have hk5' : Kept (fun i => i = nb ∨ i = bm) _ w5 := hk5.mono fun i hi => .inr hi
                      have HEND := Lib.hid (show PSt w w5 nb bm rb (rb + 1) v4 (k + 1) (dropN (dropN N xn) xm) from ⟨hn5, HR5.out.beside HAP.out hk5', below_net HB5.out HAP.out hk5', by show N.last ≤ _; omega, by show N.lost ≤ _; omega, by have := drop_low N xn; have := drop_low (dropN N xn) xm; omega⟩)
                      clear hn5 hk5 hk5' HC3 HR5 HB5
                      go_wp2
                      go_meet
                      exact ⟨rfl, _, _, HEND.out⟩
                    | true =>
                      rw [hb2] at HC3
                      simp only [if_true] at HC3
                      clear hb2
                      go_wp2_with fail
                      with_reducible refine HC3.out.mono ?_
                      rintro e w5 ⟨rfl, hn5, hk5⟩
                      have hk5' : Kept (fun i => i = nb ∨ i = bm) _ w5 := hk5.mono fun i hi => .inr hi
                      have HEND := Lib.hid (show PSt w w5 nb bm rb (rb + 1) v4 (k + 1) (dropN (dropN N xn) xm) from ⟨hn5, HR5.out.beside HAP.out hk5', below_net HB5.out HAP.out hk5', by show N.last ≤ _; omega, by show N.lost ≤ _; omega, by have := drop_low N xn; have := drop_low (dropN N xn) xm; omega⟩)
                      clear hn5 hk5 hk5' HC3 HR5 HB5
                      go_wp2
                      go_meet
                      exact ⟨rfl, _, _, HEND.out⟩

              · by_cases w3' : xw = 3
                · subst w3'

                  as_aux_lemma =>
                    have s4 := HSM.out.c4
                    simp only at s4
                    have HC1 := Lib.hid (Double_f HS.out.net xn ln (by omega))
                    unfold ptr at HC1
                    go_wp2_with fail
                    with_reducible refine HC1.out.mono ?_
                    rintro e w3 ⟨rfl, hn3, hk3⟩
                    have hr3 := HS.out.ref.beside HAP.out hk3
                    have HR3 := Lib.hid hr3
                    have HB3 := Lib.hid (below_net HS.out.below HAP.out hk3)
                    have s4 := (HSM.out.kept hk3 (fun e => by have := HX.out; omega)).c4
                    simp only at s4
                    have HAT := Lib.hid (At_f hr3 xn)
                    unfold ptr at HAT
                    by_cases hat : atN N.G xn < N.G.length
                    · have hg := (find_at_some hat).1
                      rw [show atI N.G xn = (atN N.G xn : Int) from if_pos hat] at HAT
                      rw [show doubleV N xn = .tuple #[.int .u64 ((N.last + 1 : Nat) : Int), .int .i64 0] by unfold doubleV; rw [hg]; simp only; rw [if_pos (by omega)]]
                      rw [show doubleN N xn = putN N N.G[atN N.G xn].whom N.G[atN N.G xn].text by unfold doubleN; rw [hg]; simp only; rw [if_pos (by omega)]] at hn3
                      obtain ⟨g, cap2, rfl, hcap2, -, hgl, r0, r1, r2, -⟩ := hr3.at hat
                      have r3 := hr3.c0
                      have HN3 := Lib.hid hn3
                      have HC5 := Lib.hid (fun W (h : RAt W rb (rb + 1) (.slice (some ⟨g, 0, none⟩) N.G.length cap2) N) x y => RSend_f h (by omega) (by omega) x y)
                      unfold ptr at HC5
                      generalize N.G[atN N.G xn] = G1 at *
                      generalize atN N.G xn = m at *
                      have tm : (m : Int) < (N.G.length : Int) := by omega
                      have tn : 0 ≤ (m : Int) := by omega
                      obtain ⟨gi, gt, gx⟩ := G1
                      simp only at r0 r1 r2 hn3 HN3
                      clear hg hn3 hk3 HC1 HSM HS hr3 hcap2 hgl hat r0
                      go_wp2_with fail
                      with_reducible refine HAT.out.mono ?_
                      rintro e w5 ⟨rfl, rfl⟩
                      go_upto_region 33 with fail
                      have HC6 := Lib.hid (HC5.out _ (HR3.out.next (Below.refl _ _).drew) gt gx)
                      go_still_tail 17, (by kernel_rfl)
                      change wpList _ _ _ _ _ w5.drew
                      go_wp2_with fail
                      with_reducible refine HC6.out.mono ?_
                      rintro e w6 ⟨rfl, v6, hr6, hk6, -⟩
                      have hk8 : Kept (fun i => i = rb ∨ (Value.slice (some ⟨g, 0, none⟩) N.G.length cap2).ownBlock = some i) w5 w6 := ⟨hk6.os, hk6.tape, hk6.output, hk6.size, hk6.block⟩
                      have d1 : w6.cell? ⟨rb, 1, none⟩ = some (.int .u64 ((N.last + 1 : Nat) : Int)) := hr6.c1
                      have HEND := Lib.hid (show PSt w w6 nb bm rb (rb + 1) v6 (k + 1) (putN N gt gx) from ⟨HN3.out.beside HR3.out HAP.out hk8, hr6, below_ref HB3.out HR3.out HAP.out hk8, by simp [putN]; omega, by simp [putN]; omega, by simp [putN]; omega⟩)
                      clear hr6 hk6 hk8 HN3 HR3 HB3 HC5 HC6 HAT r1 r2 r3 s4
                      go_wp2
                      go_meet
                      exact ⟨rfl, _, _, HEND.out⟩
                    · have hg := find_at_none hat
                      rw [show atI N.G xn = -1 from if_neg hat] at HAT
                      rw [show doubleV N xn = .tuple #[.int .u64 0, .int .i64 5] by unfold doubleV; rw [hg]]
                      rw [show doubleN N xn = N by unfold doubleN; rw [hg]] at hn3
                      have HEND := Lib.hid (show PSt w w3 nb bm rb (rb + 1) v (k + 1) N from ⟨hn3, hr3, HB3.out, by omega, by omega, by omega⟩)
                      clear hg hn3 hk3 HC1 HSM HS hr3 hat HR3 HB3
                      go_wp2_with fail
                      with_reducible refine HAT.out.mono ?_
                      rintro e w5 ⟨rfl, rfl⟩
                      go_wp2
                      go_meet
                      exact ⟨rfl, _, _, HEND.out⟩

                · by_cases w4' : xw = 4
                  · subst w4'

                    as_aux_lemma =>
                      have s4 := HSM.out.c4
                      have s6 := HSM.out.c6
                      have s7 := HSM.out.c7
                      simp only at s4 s6 s7
                      have HXB := Lib.hid (show ¬ wr.heap.size = bm by have := HX.out; omega)
                      have HXV := Lib.hid (show ¬ v.ownBlock = some wr.heap.size from fun e => by have := HV.out _ e; omega)
                      have HC1 := Lib.hid (fun W (h : NetAt W nb bm N) => Turn_f h xn xp xy ln)
                      have HC2 := Lib.hid (fun W (h : RAt W rb (rb + 1) v N) => RTurn_f h xn xp xy)
                      unfold ptr at HC1 HC2
                      have HN3 := Lib.hid HS.out.net
                      have HR3 := Lib.hid HS.out.ref
                      have HB3 := Lib.hid HS.out.below
                      go_upto_region 37 with fail
                      go_region_held3 (fun W => W.cell? ⟨wr.heap.size, 4, none⟩ = some (.int .u64 (xn : Int)) ∧ W.cell? ⟨wr.heap.size, 6, none⟩ = some (.int .i64 xp) ∧ W.cell? ⟨wr.heap.size, 7, none⟩ = some (.int .u8 ((xy.toNat : Nat) : Int))) (first | go_keep | exact ⟨s4, s6, s7⟩)
                        ((first
                          | (go_at_call 11; (with_reducible refine (HC1.out _ (HN3.out.next (Below.refl _ _).drew)).mono ?_); rintro e w4 ⟨rfl, hn4, hk4⟩; have s4b := turn_cell s4 hk4 HXB.out; have s6b := turn_cell s6 hk4 HXB.out; have s7b := turn_cell s7 hk4 HXB.out; have HN4 := Lib.hid hn4; have HK4 := Lib.hid hk4; clear hn4 hk4)
                          | (go_at_call 21; (with_reducible refine (HC2.out _ ((HR3.out.next (Below.refl _ _).drew).beside HAP.out (HK4.out.mono fun i hi => .inr hi))).mono ?_); rintro e w6 ⟨rfl, hr6, hk6⟩; have s4c := cell_kept30 s4b hk6 HXV.out; have s6c := cell_kept30 s6b hk6 HXV.out; have s7c := cell_kept30 s7b hk6 HXV.out; have HR6 := Lib.hid hr6; have HK6 := Lib.hid hk6; clear hr6 hk6)))
                      have h4 := turnR_low N xn xp xy
                      have hk7 : Kept (fun i => i = rb ∨ v.ownBlock = some i) _ _ := HK6.out.mono fun i hi => .inr hi
                      have hk4 : Kept (fun i => i = nb ∨ i = bm) _ _ := HK4.out.mono fun i hi => .inr hi
                      have hr3 := HR3.out.next (Below.refl _ _).drew
                      have HEND := Lib.hid (show PSt w _ nb bm rb (rb + 1) v (k + 1) (turnR N xn xp xy) from ⟨HN4.out.beside (hr3.beside HAP.out hk4) HAP.out hk7, HR6.out, below_ref (below_net (HB3.out.trans ((Below.refl _ _).drew.mono HB3.out.size)) HAP.out hk4) (hr3.beside HAP.out hk4) HAP.out hk7, by omega, by omega, by omega⟩)
                      clear h4 hk7 hk4 hr3 HK4 HK6 HN4 HR6 HN3 HR3 HB3 HC1 HC2 HS HSM
                      go_wp2
                      go_meet
                      exact ⟨rfl, _, _, HEND.out⟩

                  · have q0 : (xw == 0) = false := by simpa using w0
                    have q1 : (xw == 1) = false := by simpa using w1'
                    have q2 : (xw == 2) = false := by simpa using w2'
                    have q3 : (xw == 3) = false := by simpa using w3'
                    have q4 : (xw == 4) = false := by simpa using w4'
                    have HEND := Lib.hid HS.out.more
                    clear HS HSM
                    go_wp2
                    go_meet
                    exact ⟨rfl, _, _, HEND.out⟩
        case rest =>

        as_aux_lemma =>
          obtain ⟨rfl, N2, v2, hst2⟩ := hcut
          clear HS HSM HZ1 HV HX HFE hla hlo hfe ln lm
          have HS2 := Lib.hid hst2
          have HAL := Lib.hid (All_f hst2.net (by have := hst2.last; omega))
          unfold ptr at HAL
          clear hst2
          go_wp2_with fail
          with_reducible refine HAL.out.mono ?_
          rintro e w3 ⟨vl, rfl, hr3, hb3⟩
          obtain ⟨pl, cpl, rfl, hrows⟩ := rows_len hr3
          have hs3 := HS2.out.next hb3
          have HR3 := Lib.hid (show RowAt w3 pl wc.heap.size N2.G from fun i hi => hrows i hi hi)
          obtain ⟨pv, cpv, rfl⟩ := hs3.ref.slice
          have HS3 := Lib.hid hs3
          have HLO := Lib.hid (fun W (h : NetAt W nb bm N2) => Lost_f h)
          unfold ptr at HLO
          have c0 := hs3.ref.c0
          have c2 := hs3.ref.c2
          have hfew2 := hs3.ref.fine.few
          clear hr3 hrows hb3 hs3 HS2 HAL
          have q39 : ((N2.G.length : Int) != (N2.G.length : Int)) = false := by simp
          have q40 : ((N2.lost : Int) != (N2.lost : Int)) = false := by simp
          go_upto_region 39 with fail
          go_quiet ((go_at_call 17; exact Calls.quiet_of_same (HLO.out _ (HS3.out.net.drewN _))))
          have HS4 := Lib.hid (HS3.out.next ((Below.refl _ _).drewN nq))
          have HR4 := Lib.hid (HR3.out.kept (Kept.of_below (T := fun _ => False) ((Below.refl _ w3).drewN nq)) (fun _ h => h.elim))
          clear HS3 HR3 c0 c2 HLO q39 q40
          generalize w3.drewN nq = w4 at *
          go_wp2_with fail
          go_loopw [18] (fun u wi => ∃ j : Nat, u = .int .i64 (j : Int) ∧ j ≤ N2.G.length ∧ PSt w wi nb bm rb (rb + 1) (.slice pv N2.G.length cpv) (k + 1) N2 ∧ RowAt wi pl wc.heap.size N2.G) (fun u _ => N2.G.length - (intOf u).toNat)
          case atStart => exact ⟨0, rfl, Nat.zero_le _, HS4.out, HR4.out⟩
          case round =>
            clear HS4 HR4
            obtain ⟨j, rfl, hj, hs5, hr5⟩ := hrel
            by_cases hjl : j < N2.G.length
            · obtain ⟨ga, rfl, hga, d0, d1, d2⟩ := hr5 j hjl
              obtain ⟨gb, cb, eb, -, -, -, e0, e1, e2, -⟩ := hs5.ref.at hjl
              obtain ⟨rfl, rfl⟩ : pv = some ⟨gb, 0, none⟩ ∧ cpv = cb := by
                injection eb with q1 _ q2
                exact ⟨q1, q2⟩
              have f0 := hs5.ref.c0
              have tj : (j : Int) < (N2.G.length : Int) := by omega
              have tjz : 0 ≤ (j : Int) := by omega
              have HS5 := Lib.hid (fun n => hs5.next ((Below.refl _ wr).drewN n))
              have HR5 := Lib.hid (fun n => hr5.kept (Kept.of_below (T := fun _ => False) ((Below.refl _ wr).drewN n)) (fun _ h => h.elim))
              clear eb hs5 hr5 hga
              generalize N2.G[j] = G1 at *
              obtain ⟨gi, gt, gx⟩ := G1
              simp only at d0 d1 d2 e0 e1 e2
              go_wp2_with fail
              go_quiet (fail)
              have HEND := Lib.hid (And.intro (HS5.out nq) (HR5.out nq))
              clear d0 d1 d2 e0 e1 e2 f0 HS5 HR5
              generalize wr.drewN nq = wj at *
              go_wp2
              go_roundw
              case rel => first | exact ⟨j + 1, by go_num, by omega, HEND.out.1, HEND.out.2⟩ | ((repeat apply Exists.intro); exact ⟨⟨j + 1, by go_num, by omega, HEND.out.1, HEND.out.2⟩, rfl⟩)
              case measure => simp [intOf]; omega
            · obtain rfl : j = N2.G.length := by omega
              have tj : ¬ ((N2.G.length : Int) < (N2.G.length : Int)) := by omega
              have HEND := Lib.hid hs5
              clear hs5 hr5
              go_wp2
              go_roundw
              case rel => first | exact ⟨k + 1, _, _, by go_num, by omega, HEND.out⟩ | ((repeat apply Exists.intro); exact ⟨⟨k + 1, _, _, by go_num, by omega, HEND.out⟩, rfl⟩)
              case measure => simp [intOf]; omega

      · have t1 : ¬ (k : Int) < (l.length : Int) := by omega
        have HBE := Lib.hid hst.below
        clear hst HA
        go_wp2_with fail
        with_reducible refine (HW.out _).mono ?_
        rintro e w8 ⟨rfl, hb8⟩
        have HB8 := Lib.hid (HBE.out.trans (hb8.mono HBE.out.size))
        clear hb8
        go_wp2
        go_ret
        exact ⟨rfl, HB8.out⟩
end Go.Proofs.Ytplfnjpoikhmbaa.Nt
