/-
  NetOnce (layer 30): a message is had once, and none is had that was neither sent nor copied. Condition: texts no longer than a string may be; at most 250 steps (or the law says so).
-/
import Derived.Test.YtplfnjpoikhmbaaNtOnceM
open Go Go.RowKit
namespace Go.Proofs.Ytplfnjpoikhmbaa.Nt
open Base Mp

theorem StepAt.kept {T : Nat → Prop} {w w' : World} {b o : Nat} {s : StepD} (h : StepAt w b o s) (hk : Kept T w w') (hT : ¬ T b) : StepAt w' b o s := by
  have hlt := lt_of_cell h.c0
  have key : ∀ j v, w.cell? ⟨b, j, none⟩ = some v → w'.cell? ⟨b, j, none⟩ = some v := fun j v hc => (World.cell?_of_block (a := ⟨b, j, none⟩) (hk.block b hlt hT)).trans hc
  exact ⟨key _ _ h.c0, key _ _ h.c1, key _ _ h.c2, key _ _ h.c3, key _ _ h.c4, key _ _ h.c5, key _ _ h.c6, key _ _ h.c7⟩
theorem step_made (w : World) (s : StepD) (ty : TypeId) : StepAt (w.alloc (.cells (stepCs s) ty)) w.heap.size 0 s := by
  have h := cells_made w (stepCs s) ty
  exact ⟨(h 0 (by show 0 < 8; omega)).1, (h 1 (by show 1 < 8; omega)).1, (h 2 (by show 2 < 8; omega)).1, (h 3 (by show 3 < 8; omega)).1, (h 4 (by show 4 < 8; omega)).1, (h 5 (by show 5 < 8; omega)).1, (h 6 (by show 6 < 8; omega)).1, (h 7 (by show 7 < 8; omega)).1⟩
/-- A step in a block of its own. -/
structure SAt (w : World) (b : Nat) (s : StepD) : Prop where
  c0 : w.cell? ⟨b, 0, none⟩ = some (.int .i64 s.what)
  c1 : w.cell? ⟨b, 1, none⟩ = some (.string (B s.whom))
  c2 : w.cell? ⟨b, 2, none⟩ = some (.string (B s.s))
  c3 : w.cell? ⟨b, 3, none⟩ = some (.string (B s.t))
  c4 : w.cell? ⟨b, 4, none⟩ = some (.int .u64 (s.n : Int))
  c5 : w.cell? ⟨b, 5, none⟩ = some (.int .u64 (s.m : Int))
  c6 : w.cell? ⟨b, 6, none⟩ = some (.int .i64 s.place)
  c7 : w.cell? ⟨b, 7, none⟩ = some (.int .u8 ((s.turn.toNat : Nat) : Int))
theorem StepAt.own {w : World} {b : Nat} {s : StepD} (h : StepAt w b 0 s) : SAt w b s := ⟨h.c0, h.c1, h.c2, h.c3, h.c4, h.c5, h.c6, h.c7⟩
theorem SAt.kept {T : Nat → Prop} {w w' : World} {b : Nat} {s : StepD} (h : SAt w b s) (hk : Kept T w w') (hT : ¬ T b) : SAt w' b s :=
  (StepAt.kept (o := 0) ⟨h.c0, h.c1, h.c2, h.c3, h.c4, h.c5, h.c6, h.c7⟩ hk hT).own
/-- The row that All gives. -/
def RowAt (w : World) (p : Option Addr) (base : Nat) (G : List GramD) : Prop := ∀ i (hi : i < G.length), ∃ g, p = some ⟨g, 0, none⟩ ∧ base ≤ g ∧ w.cell? ⟨g, i * 3, none⟩ = some (.int .u64 (G[i].id : Int)) ∧ w.cell? ⟨g, i * 3 + 1, none⟩ = some (.string (B G[i].whom)) ∧ w.cell? ⟨g, i * 3 + 2, none⟩ = some (.string (B G[i].text))
theorem RowAt.kept {T : Nat → Prop} {w w' : World} {p : Option Addr} {base : Nat} {G : List GramD} (h : RowAt w p base G) (hk : Kept T w w') (hT : ∀ i, T i → i < base) : RowAt w' p base G := fun i hi => by
  obtain ⟨g, rfl, hg, h0, h1, h2⟩ := h i hi
  have hb := hk.block g (lt_of_cell h0) (fun ht => by have := hT g ht; omega)
  exact ⟨g, rfl, hg, (World.cell?_of_block (a := ⟨g, i * 3, none⟩) hb).trans h0, (World.cell?_of_block (a := ⟨g, i * 3 + 1, none⟩) hb).trans h1, (World.cell?_of_block (a := ⟨g, i * 3 + 2, none⟩) hb).trans h2⟩
theorem double_cases (N : NetD) (n : Nat) : (∃ x, findG N.G n = some x ∧ N.G.length < 1024 ∧ doubleV N n = .tuple #[.int .u64 ((N.last + 1 : Nat) : Int), .int .i64 0] ∧ doubleN N n = putN N x.whom x.text) ∨ (∃ E : Int, E ≠ 0 ∧ doubleV N n = .tuple #[.int .u64 0, .int .i64 E] ∧ doubleN N n = N) := by
  unfold doubleV doubleN
  cases hf : findG N.G n with
  | none => exact .inr ⟨5, by decide, rfl, rfl⟩
  | some x =>
    by_cases h : N.G.length < 1024
    · exact .inl ⟨x, rfl, h, by simp only [if_pos h], by simp only [if_pos h]⟩
    · exact .inr ⟨6, by decide, by simp only [if_neg h], by simp only [if_neg h]⟩
/-- What the law holds after k steps. -/
structure St (w0 w : World) (nb bm km ks k : Nat) (N : NetD) (f : List UInt8 → Int) (g : Nat → Int) : Prop where
  net : NetAt w nb bm N
  made : Tally 9 keyS w km f (k * 2000)
  seen : Tally 28 keyU w ks g k
  inv : Inv k N f g
  below : Below w0.heap.size w0 w
set_option maxRecDepth 100000 in
set_option maxHeartbeats 16000000 in
theorem NetOnce_calls (w : World) (p : Option Addr) (l : List StepD) (cap : Nat) (hl : l.length ≤ maxLen) (h : StepsArg w p l) : Calls Try.prog 4 #[.slice p l.length cap] w fun e w' => e = .returned (.bool true) ∧ Below w.heap.size w w' := by
  have HW := Lib.hid Works_f
  have HH := Lib.hid (Heavy_f p l cap w hl h)
  have HA := Lib.hid h
  have hmm := @run_makeMap Try.prog
  clear h
  go_enter Try.func4, Try.ntmps4
  go_wp2_with fail
  with_reducible refine HH.out.mono ?_
  rintro e w1 ⟨⟨v, rfl, hv⟩, hb1⟩
  have HB1 := Lib.hid hb1
  cases v
  case true =>
    clear hb1 HH hv
    go_wp2_with fail
    with_reducible refine (HW.out _).mono ?_
    rintro e w2 ⟨rfl, hb2⟩
    have HB2 := Lib.hid (HB1.out.trans (hb2.mono HB1.out.size))
    clear hb2
    go_wp2
    go_ret
    exact ⟨rfl, HB2.out⟩
  case false =>
    have h250 := hv rfl
    have HN := Lib.hid (New_f w1)
    clear hb1 HH hv
    go_wp2_with fail
    with_reducible refine HN.out.mono ?_
    rintro e w2 ⟨nb, bm, rfl, hn2, hb2, hlb, hlm⟩
    have ha1 : Below w2.heap.size w2 (w2.alloc (.map #[] 0)) := (Below.refl _ w2).alloc (Nat.le_refl _) _
    have hs1 := alloc_more w2 (.map #[] 0)
    have ha2 : Below (w2.alloc (.map #[] 0)).heap.size (w2.alloc (.map #[] 0)) ((w2.alloc (.map #[] 0)).alloc (.map #[] 0)) := (Below.refl _ _).alloc (Nat.le_refl _) _
    have hs0 := HB1.out.size
    have hst : St w ((w2.alloc (.map #[] 0)).alloc (.map #[] 0)) nb bm w2.heap.size (w2.alloc (.map #[] 0)).heap.size 0 ⟨[], 0, 0⟩ (fun _ => 0) (fun _ => 0) :=
      ⟨(hn2.next ha1).next ha2, (Tally.first (made w2 Try.prog 9)).next ha2, Tally.first (made _ Try.prog 28), Inv.first, (HB1.out.trans (hb2.mono hs0)).trans ((ha1.mono (Nat.le_trans hs0 hb2.size)).trans (ha2.mono (by rw [hs1]; have := hb2.size; omega)))⟩
    rw [hs1] at hst
    have HST := Lib.hid hst
    have HLO := Lib.hid (show (w.heap.size ≤ nb ∧ w.heap.size ≤ bm ∧ nb ≠ bm) ∧ (w.heap.size ≤ w2.heap.size ∧ nb ≠ w2.heap.size ∧ bm ≠ w2.heap.size) ∧ (nb ≠ w2.heap.size + 1 ∧ bm ≠ w2.heap.size + 1) from ⟨⟨by omega, by omega, hn2.ne⟩, ⟨by have := hb2.size; omega, by have := hn2.lt; omega, by have := hn2.map.lt; omega⟩, by have := hn2.lt; omega, by have := hn2.map.lt; omega⟩)
    unfold ptr
    clear hn2 hb2 hlb hlm ha1 ha2 hs0 hst HN HB1
    unfold maxLen at hl
    go_wp2
    go_loopw [6] (fun u wr => ∃ (k : Nat) (N : NetD) (f : List UInt8 → Int) (g : Nat → Int), u = .int .i64 (k : Int) ∧ k ≤ l.length ∧ St w wr nb bm w2.heap.size (w2.heap.size + 1) k N f g) (fun u _ => l.length - (intOf u).toNat)
    case atStart => exact ⟨0, _, _, _, rfl, Nat.zero_le _, HST.out⟩
    case round =>
      clear HST
      obtain ⟨k, N, f, g, rfl, hk, hst⟩ := hrel
      have HS := Lib.hid hst
      by_cases hlt : k < l.length
      · obtain ⟨b, o, rfl, hs, hok⟩ := (HA.out.below hst.below) k hlt
        obtain ⟨c0, c1, c2, c3, c4, c5, c6, c7⟩ := hs
        have t1 : (k : Int) < (l.length : Int) := by omega
        have tz : 0 ≤ (k : Int) := by omega
        have hla := hst.inv.last
        have hlo := hst.inv.lost
        have l1 := hok.l1
        have l2 := hok.l2
        have ln := hok.n
        have lm := hok.m
        have hal : Below wr.heap.size wr (wr.alloc (.cells (stepCs l[k]) 41)) := (Below.refl _ wr).alloc (Nat.le_refl _) _
        have HSM := Lib.hid (step_made wr l[k] 41).own
        have HN1 := Lib.hid (hst.net.next hal)
        have HM1 := Lib.hid (hst.made.next hal)
        have HG1 := Lib.hid (hst.seen.next hal)
        have HB1 := Lib.hid (hst.below.alloc hst.below.size (.cells (stepCs l[k]) 41))
        have HZ1 := Lib.hid (alloc_more wr (.cells (stepCs l[k]) 41))
        have HI := Lib.hid hst.inv
        have HX := Lib.hid (show nb < wr.heap.size ∧ bm < wr.heap.size ∧ w2.heap.size < wr.heap.size ∧ w2.heap.size + 1 < wr.heap.size from ⟨hst.net.lt, hst.net.map.lt, hst.made.lt, hst.seen.lt⟩)
        clear hok hst hal HS HA
        generalize hx : l[k] = x at *
        clear hx
        obtain ⟨xw, xr, xs, xt, xn, xm, xp, xy⟩ := x
        unfold stepCs at HSM HN1 HM1 HG1 HB1 HZ1
        simp only at c0 c1 c2 c3 c4 c5 c6 c7 l1 l2 ln lm HSM HN1 HM1 HG1 HB1 HZ1
        by_cases w0 : xw = 0
        · subst w0
          go_wp2_with fail
          generalize (wr.alloc (.cells #[.int .i64 0, .string (B xr), .string (B xs), .string (B xt), .int .u64 (xn : Int), .int .u64 (xm : Int), .int .i64 xp, .int .u8 ((xy.toNat : Nat) : Int)] 41)) = W1 at *
          have hr : Below W1.heap.size W1 (W1.alloc (.cells #[.string (B xs)] 9)) := (Below.refl _ _).alloc (Nat.le_refl _) _
          have hc := (cells_made W1 #[.string (B xs)] 9) 0 (by show 0 < 1; omega)
          rw [HZ1.out] at hc
          have HC := Lib.hid (Send_f (HN1.out.next hr) xr [xs] (wr.heap.size + 1) 1 (fun j hj => by
            have hj2 : j < 1 := hj
            obtain rfl : j = 0 := by omega
            exact hc.1) (by have := HX.out; omega) (by have := HX.out; omega) (by show N.last + 1 < _; omega) (by show N.lost + 1 < _; omega))
          unfold ptr at HC
          rw [show ([xs] : List (List UInt8)).length = 1 from rfl] at HC
          have HM2 := Lib.hid (HM1.out.next hr)
          have HG2 := Lib.hid (HG1.out.next hr)
          have HB2 := Lib.hid (HB1.out.trans (hr.mono HB1.out.size))
          have HQ2 := Lib.hid (HSM.out.kept (Kept.of_below (T := fun _ => False) hr) (fun h => h))
          clear hr hc HN1 HM1 HG1 HB1 HSM c0 c1 c2 c3 c4 c5 c6 c7
          with_reducible refine HC.out.mono ?_
          rintro e w3 ⟨rfl, hn3, hk3⟩
          have HN3 := Lib.hid hn3
          have HM3 := Lib.hid (HM2.out.kept hk3 (by have := HLO.out; have := HX.out; omega))
          have HG3 := Lib.hid (HG2.out.kept hk3 (by have := HLO.out; have := HX.out; omega))
          have HB3 := Lib.hid (HB2.out.trans (hk3.below (fun i hi => by have := HLO.out; show w.heap.size ≤ i; rcases hi with rfl | rfl <;> omega) HB2.out.size))
          have hq3 := HQ2.out.kept hk3 (by have := HX.out; omega)
          obtain ⟨c0, c1, c2, -, -, -, -, -⟩ := hq3
          simp only at c0 c1 c2
          have hkey := keySt (keyB xr xs) (keyB_len l1 l2)
          have hlook := HM3.out.look keyedS Try.underlying38 hkey
          obtain ⟨W4, hstore, hm4, hk4⟩ := HM3.out.store keyedS Try.underlying38 (by unfold maxLen; omega) hkey trivial (fun q hq => by injection hq) (f (keyB xr xs) + 1)
          have hfb := HI.out.made (keyB xr xs)
          have HI4 := Lib.hid (HI.out.send l1 l2)
          have HM4 := Lib.hid hm4
          have HK4 := Lib.hid hk4
          clear hn3 hk3 hm4 hk4 HC HM2 HG2 HB2 HQ2 HM3 HI hkey
          have eW : IntKind.i64.wrap (f (keyB xr xs) + 1) = f (keyB xr xs) + 1 := by rw [IntKind.wrap_i64]; omega
          generalize f (keyB xr xs) = F at *
          have hcat : B xr ++ ({ data := #[0] } : ByteArray) = B (xr ++ [0]) := B_append xr [0]
          unfold keyB at hlook hstore
          go_wp2
          go_roundw
          case rel => first | exact ⟨k + 1, _, _, _, by go_num, by omega, ⟨HN3.out.kept HK4.out (by have := HLO.out; omega) (by have := HLO.out; omega), HM4.out.more (by omega), (HG3.out.kept HK4.out (by omega)).more (by omega), HI4.out, HB3.out.trans (HK4.out.below (fun i hi => by have := HLO.out; show w.heap.size ≤ i; omega) HB3.out.size)⟩⟩ | ((repeat apply Exists.intro); exact ⟨⟨k + 1, _, _, _, by go_num, by omega, ⟨HN3.out.kept HK4.out (by have := HLO.out; omega) (by have := HLO.out; omega), HM4.out.more (by omega), (HG3.out.kept HK4.out (by omega)).more (by omega), HI4.out, HB3.out.trans (HK4.out.below (fun i hi => by have := HLO.out; show w.heap.size ≤ i; omega) HB3.out.size)⟩⟩, rfl⟩)
          case measure => simp [intOf]; omega
        · by_cases w2' : xw = 2
          · subst w2'
            go_wp2_with fail
            generalize (wr.alloc (.cells #[.int .i64 2, .string (B xr), .string (B xs), .string (B xt), .int .u64 (xn : Int), .int .u64 (xm : Int), .int .i64 xp, .int .u8 ((xy.toNat : Nat) : Int)] 41)) = W1 at *
            have hr : Below W1.heap.size W1 (W1.alloc (.cells #[.int .u64 (xn : Int), .int .u64 (xm : Int)] 28)) := (Below.refl _ _).alloc (Nat.le_refl _) _
            have hc := cells_made W1 #[.int .u64 (xn : Int), .int .u64 (xm : Int)] 28
            rw [HZ1.out] at hc
            have HC := Lib.hid (Drop_f (HN1.out.next hr) [xn, xm] (wr.heap.size + 1) 2 (fun j hj => by
              have hj2 : j < 2 := hj
              have := (hc j hj2).1
              rw [this]
              have : j = 0 ∨ j = 1 := by omega
              rcases this with rfl | rfl <;> rfl) (by have := HX.out; omega) (fun n hn => by simp at hn; rcases hn with rfl | rfl <;> assumption) (by show 2 < _; omega))
            unfold ptr at HC
            rw [show ([xn, xm] : List Nat).length = 2 from rfl] at HC
            have HM2 := Lib.hid (HM1.out.next hr)
            have HG2 := Lib.hid (HG1.out.next hr)
            have HB2 := Lib.hid (HB1.out.trans (hr.mono HB1.out.size))
            clear hr hc HN1 HM1 HG1 HB1 HSM c0 c1 c2 c3 c4 c5 c6 c7
            with_reducible refine HC.out.mono ?_
            rintro e w3 ⟨rfl, hn3, hk3⟩
            have HN3 := Lib.hid hn3
            have HM3 := Lib.hid ((HM2.out.kept hk3 (by have := HLO.out; have := HX.out; omega)).more (show k * 2000 ≤ (k + 1) * 2000 by omega))
            have HG3 := Lib.hid ((HG2.out.kept hk3 (by have := HLO.out; have := HX.out; omega)).more (show k ≤ k + 1 by omega))
            have HB3 := Lib.hid (HB2.out.trans (hk3.below (fun i hi => by have := HLO.out; show w.heap.size ≤ i; omega) HB2.out.size))
            have HI4 := Lib.hid (HI.out.drops xn xm)
            clear hn3 hk3 HC HM2 HG2 HB2 HI
            go_wp2
            go_roundw
            case rel => first | exact ⟨k + 1, _, _, _, by go_num, by omega, ⟨HN3.out, HM3.out, HG3.out, HI4.out, HB3.out⟩⟩ | ((repeat apply Exists.intro); exact ⟨⟨k + 1, _, _, _, by go_num, by omega, ⟨HN3.out, HM3.out, HG3.out, HI4.out, HB3.out⟩⟩, rfl⟩)
            case measure => simp [intOf]; omega
          · by_cases w3' : xw = 3
            · subst w3'
              go_wp2_with fail
              generalize (wr.alloc (.cells #[.int .i64 3, .string (B xr), .string (B xs), .string (B xt), .int .u64 (xn : Int), .int .u64 (xm : Int), .int .i64 xp, .int .u8 ((xy.toNat : Nat) : Int)] 41)) = W1 at *
              have HC := Lib.hid (All_f HN1.out (by omega))
              unfold ptr at HC
              clear c0 c1 c2 c3 c4 c5 c6 c7
              with_reducible refine HC.out.mono ?_
              rintro e w3 ⟨v, rfl, hr3, hb3⟩
              obtain ⟨p2, cap2, rfl, hrows⟩ := rows_len hr3
              have HR3 := Lib.hid (show RowAt w3 p2 W1.heap.size N.G from fun i hi => hrows i hi hi)
              have HN3 := Lib.hid (HN1.out.next hb3)
              have HM3 := Lib.hid (HM1.out.next hb3)
              have HG3 := Lib.hid (HG1.out.next hb3)
              have HB3 := Lib.hid (HB1.out.trans (hb3.mono HB1.out.size))
              have hq3 := HSM.out.kept (Kept.of_below (T := fun _ => False) hb3) (fun h => h)
              have HQ3 := Lib.hid hq3
              have c4 := hq3.c4
              simp only at c4
              have HD := Lib.hid (Double_f HN3.out xn ln (by omega))
              unfold ptr at HD
              have hz3 := hb3.size
              have hfew := HI.out.fine.few
              clear hr3 hrows hb3 hq3 HN1 HM1 HG1 HB1 HSM HC
              go_wp2_with fail
              with_reducible refine HD.out.mono ?_
              rintro e w4 ⟨rfl, hn4, hk4⟩
              have HX4 := Lib.hid (And.intro hk4.size hz3)
              have HR4 := Lib.hid (HR3.out.kept hk4 (fun i hi => by have := HX.out; have := HZ1.out; rcases hi with rfl | rfl <;> omega))
              have HM4 := Lib.hid (HM3.out.kept hk4 (by have := HLO.out; have := HX.out; omega))
              have HG4 := Lib.hid (HG3.out.kept hk4 (by have := HLO.out; have := HX.out; omega))
              have HB4 := Lib.hid (HB3.out.trans (hk4.below (fun i hi => by have := HLO.out; show w.heap.size ≤ i; rcases hi with rfl | rfl <;> omega) HB3.out.size))
              have HQ4 := Lib.hid (HQ3.out.kept hk4 (by have := HX.out; omega))
              clear c4 hz3
              rcases double_cases N xn with ⟨x, hf, hlen, e1, e2⟩ | ⟨E, hE, e1, e2⟩
              · rw [e1]
                rw [e2] at hn4
                have HN4 := Lib.hid hn4
                have HI4 := Lib.hid (HI.out.double xn hf hlen)
                have HLE := Lib.hid HI.out.lens
                have HFB := Lib.hid (fun K => (HI.out.made K))
                clear hn4 hk4 e1 e2 hf HI HD HN3 HM3 HG3 HB3 HQ3 HR3
                generalize putN N x.whom x.text = N2 at *
                go_wp2
                obtain ⟨wo, hwo⟩ : ∃ wo, wo = wr := ⟨wr, rfl⟩
                subst hwo
                go_loopw [11] (fun u wi => ∃ j : Nat, u = .int .i64 (j : Int) ∧ j ≤ N.G.length ∧ RowAt wi p2 W1.heap.size N.G ∧ SAt wi wo.heap.size ⟨3, xr, xs, xt, xn, xm, xp, xy⟩ ∧ NetAt wi nb bm N2 ∧ Tally 9 keyS wi w2.heap.size (bumpF f N.G xn j) (k * 2000 + j) ∧ Tally 28 keyU wi (w2.heap.size + 1) g k ∧ Below w.heap.size w wi) (fun u _ => N.G.length - (intOf u).toNat)
                case atStart => exact ⟨0, rfl, Nat.zero_le _, HR4.out, HQ4.out, HN4.out, by rw [bump_zero]; exact HM4.out, HG4.out, HB4.out⟩
                case round =>
                  clear HR4 HQ4 HN4 HM4 HG4 HB4
                  obtain ⟨j, rfl, hj, hr5, hq5, hn5, hm5, hs5, hb5⟩ := hrel
                  by_cases hjl : j < N.G.length
                  · obtain ⟨rg, rfl, hg5, r0, r1, r2⟩ := hr5 j hjl
                    have tj : (j : Int) < (N.G.length : Int) := by omega
                    have tj0 : 0 ≤ (j : Int) := by omega
                    have c4 := hq5.c4
                    simp only at c4
                    by_cases hid : N.G[j].id = xn
                    · rw [hid] at r0
                      have hkeyl : (keyG N.G[j]).length ≤ maxLen := by unfold keyG; have := HLE.out _ (List.getElem_mem hjl); exact keyB_len this.1 this.2
                      have HBU := Lib.hid (bump_hit f N.G xn j hjl hid)
                      have hbl := bump_low f N.G xn j (keyG N.G[j])
                      have hfb := HFB.out (keyG N.G[j])
                      have HF1 : (-9223372036854775808 ≤ bumpF f N.G xn j (keyG N.G[j]) + 1) ∧ bumpF f N.G xn j (keyG N.G[j]) + 1 ≤ 9223372036854775807 := by omega
                      have hkey := keySt (keyG N.G[j]) hkeyl
                      have hm5' : Tally 9 keyS wr.drew.drew w2.heap.size (bumpF f N.G xn j) (k * 2000 + j) := hm5.next ((Below.refl _ wr).drewN 2)
                      have hlook := hm5'.look keyedS Try.underlying38 hkey
                      obtain ⟨W6, hstore, hm6, hk6⟩ := hm5'.store keyedS Try.underlying38 (by unfold maxLen; omega) hkey trivial (fun q hq => by injection hq) (bumpF f N.G xn j (keyG N.G[j]) + 1)
                      rw [← HBU.out] at hm6
                      have hd2 : Below wr.heap.size wr wr.drew.drew := (Below.refl _ wr).drewN 2
                      have HEND := Lib.hid (show RowAt W6 (some ⟨rg, 0, none⟩) W1.heap.size N.G ∧ SAt W6 wo.heap.size ⟨3, xr, xs, xt, xn, xm, xp, xy⟩ ∧ NetAt W6 nb bm N2 ∧ Tally 9 keyS W6 w2.heap.size (bumpF f N.G xn (j + 1)) (k * 2000 + j + 1) ∧ Tally 28 keyU W6 (w2.heap.size + 1) g k ∧ Below w.heap.size w W6 from
                        ⟨(hr5.kept (Kept.of_below (T := fun _ => False) hd2) (fun _ h => h.elim)).kept hk6 (fun i hi => by have := HX.out; have := HZ1.out; omega), (hq5.kept (Kept.of_below (T := fun _ => False) hd2) (fun h => h)).kept hk6 (by have := HX.out; omega), (hn5.next hd2).kept hk6 (by have := HLO.out; omega) (by have := HLO.out; omega), hm6, (hs5.next hd2).kept hk6 (by omega), (hb5.trans (hd2.mono hb5.size)).trans (hk6.below (fun i hi => by have := HLO.out; show w.heap.size ≤ i; omega) (Nat.le_trans hb5.size hd2.size))⟩)
                      clear hr5 hg5 hq5 hn5 hm5 hs5 hb5 hkeyl HBU hbl hfb hkey hm5' hm6 hk6 hd2
                      generalize hF : bumpF f N.G xn j (keyG N.G[j]) = F at *
                      clear hF
                      have eW : IntKind.i64.wrap (F + 1) = F + 1 := by rw [IntKind.wrap_i64]; omega
                      unfold keyG at hlook hstore
                      obtain ⟨b1, b2⟩ := HLE.out _ (List.getElem_mem hjl)
                      generalize N.G[j] = G1 at *
                      obtain ⟨gi, gt, gx⟩ := G1
                      simp only at r0 r1 r2 hlook hstore hid b1 b2
                      have b3 : ¬ (9223372036854775807 < gt.length + 1) := by omega
                      have b4 : ¬ (9223372036854775807 < gt.length + 1 + gx.length) := by omega
                      have b5 : ¬ (9223372036854775807 < gt.length + (gx.length + 1)) := by omega
                      clear hid
                      have hcat : B gt ++ ({ data := #[0] } : ByteArray) = B (gt ++ [0]) := B_append gt [0]
                      unfold keyB at hlook hstore
                      go_wp2
                      go_region
                      all_goals go_wp2
                      go_region
                      all_goals go_wp2
                      go_roundw
                      case rel => first | exact ⟨j + 1, by go_num, by omega, HEND.out⟩ | ((repeat apply Exists.intro); exact ⟨⟨j + 1, by go_num, by omega, HEND.out⟩, rfl⟩)
                      case measure => simp [intOf]; omega
                    · have q1 : ((N.G[j].id : Int) == (xn : Int)) = false := by simpa using fun e => hid (by omega)
                      have q2 : ¬ ((N.G[j].id : Int) = (xn : Int)) := by omega
                      have hbm := bump_miss f N.G xn j hjl hid
                      rw [← hbm] at hm5
                      have hd1 : Below wr.heap.size wr wr.drew := (Below.refl _ wr).drewN 1
                      have HEND := Lib.hid (show RowAt wr.drew (some ⟨rg, 0, none⟩) W1.heap.size N.G ∧ SAt wr.drew wo.heap.size ⟨3, xr, xs, xt, xn, xm, xp, xy⟩ ∧ NetAt wr.drew nb bm N2 ∧ Tally 9 keyS wr.drew w2.heap.size (bumpF f N.G xn (j + 1)) (k * 2000 + j + 1) ∧ Tally 28 keyU wr.drew (w2.heap.size + 1) g k ∧ Below w.heap.size w wr.drew from
                        ⟨hr5.kept (Kept.of_below (T := fun _ => False) hd1) (fun _ h => h.elim), hq5.kept (Kept.of_below (T := fun _ => False) hd1) (fun h => h), hn5.next hd1, (hm5.next hd1).more (by omega), hs5.next hd1, hb5.trans (hd1.mono hb5.size)⟩)
                      clear hr5 hg5 hq5 hn5 hm5 hs5 hb5 hbm hd1
                      generalize N.G[j] = G1 at *
                      obtain ⟨gi, gt, gx⟩ := G1
                      simp only at r0 r1 r2 q1 q2 hid
                      go_wp2
                      go_region
                      all_goals go_wp2
                      go_roundw
                      case rel => first | exact ⟨j + 1, by go_num, by omega, HEND.out⟩ | ((repeat apply Exists.intro); exact ⟨⟨j + 1, by go_num, by omega, HEND.out⟩, rfl⟩)
                      case measure => simp [intOf]; omega
                  · obtain rfl : j = N.G.length := by omega
                    have tj : ¬ ((N.G.length : Int) < (N.G.length : Int)) := by omega
                    have HEND := Lib.hid (show St w wr nb bm w2.heap.size (w2.heap.size + 1) (k + 1) N2 (bumpF f N.G xn N.G.length) g from ⟨hn5, hm5.more (by omega), hs5.more (by omega), HI4.out, hb5⟩)
                    clear hr5 hq5 hn5 hm5 hs5 hb5
                    go_wp2
                    go_roundw
                    case rel => first | exact ⟨k + 1, _, _, _, by go_num, by omega, HEND.out⟩ | ((repeat apply Exists.intro); exact ⟨⟨k + 1, _, _, _, by go_num, by omega, HEND.out⟩, rfl⟩)
                    case measure => simp [intOf]; omega
              · rw [e1]
                rw [e2] at hn4
                have q1 : (E == 0) = false := by simpa using hE
                have HEND := Lib.hid (show St w w4 nb bm w2.heap.size (w2.heap.size + 1) (k + 1) N f g from ⟨hn4, HM4.out.more (by omega), HG4.out.more (by omega), HI.out.more, HB4.out⟩)
                clear hn4 hk4 e1 e2 HI HD HN3 HM3 HG3 HB3 HQ3 HR3 HR4 HQ4 HM4 HG4 HB4
                go_wp2
                go_loopw [11] (fun u wi => u = .int .i64 0 ∧ wi = w4) (fun u _ => 0)
                case atStart => exact ⟨rfl, rfl⟩
                case round =>
                  obtain ⟨rfl, rfl⟩ := hrel
                  by_cases hne : 0 < N.G.length
                  · have tj : (0 : Int) < (N.G.length : Int) := by omega
                    go_wp2
                    go_roundw
                    case rel => first | exact ⟨k + 1, _, _, _, by go_num, by omega, HEND.out⟩ | ((repeat apply Exists.intro); exact ⟨⟨k + 1, _, _, _, by go_num, by omega, HEND.out⟩, rfl⟩)
                    case measure => simp [intOf]; omega
                  · have tj : ¬ ((0 : Int) < (N.G.length : Int)) := by omega
                    go_wp2
                    go_roundw
                    case rel => first | exact ⟨k + 1, _, _, _, by go_num, by omega, HEND.out⟩ | ((repeat apply Exists.intro); exact ⟨⟨k + 1, _, _, _, by go_num, by omega, HEND.out⟩, rfl⟩)
                    case measure => simp [intOf]; omega
            · by_cases w1' : xw = 1
              · subst w1'
                go_wp2_with fail
                generalize (wr.alloc (.cells #[.int .i64 1, .string (B xr), .string (B xs), .string (B xt), .int .u64 (xn : Int), .int .u64 (xm : Int), .int .i64 xp, .int .u8 ((xy.toNat : Nat) : Int)] 41)) = W1 at *
                have HC := Lib.hid (Take_f HN1.out xn ln)
                unfold ptr at HC
                clear HN1 c0 c1 c2 c3 c4 c5 c6 c7
                with_reducible refine HC.out.mono ?_
                rintro e w3 ⟨rfl, hn3, hk3⟩
                have hz3 := hk3.size
                have HM3 := Lib.hid (HM1.out.kept hk3 (by have := HLO.out; have := HX.out; omega))
                have HG3 := Lib.hid (HG1.out.kept hk3 (by have := HLO.out; have := HX.out; omega))
                have HB3 := Lib.hid (HB1.out.trans (hk3.below (fun i hi => by have := HLO.out; show w.heap.size ≤ i; omega) HB1.out.size))
                have hq3 := HSM.out.kept hk3 (by have := HX.out; omega)
                unfold takeV
                cases hg : findG N.G xn with
                | none =>
                  simp only
                  unfold gramV zeroG
                  simp only
                  have ha : Below w3.heap.size w3 (w3.alloc (.cells #[.int .u64 ((0 : Nat) : Int), .string (B []), .string (B [])] 32)) := (Below.refl _ _).alloc (Nat.le_refl _) _
                  have HN4 := Lib.hid (hn3.next ha)
                  have HM4 := Lib.hid ((HM3.out.next ha).more (show k * 2000 ≤ (k + 1) * 2000 by omega))
                  have HG4 := Lib.hid ((HG3.out.next ha).more (show k ≤ k + 1 by omega))
                  have HB4 := Lib.hid (HB3.out.trans (ha.mono HB3.out.size))
                  have HI4 := Lib.hid (HI.out.drop xn).more
                  clear hg hn3 hk3 hq3 HC HM1 HG1 HB1 HSM HM3 HG3 HB3 HI ha
                  go_wp2
                  go_roundw
                  case rel => first | exact ⟨k + 1, _, _, _, by go_num, by omega, ⟨HN4.out, HM4.out, HG4.out, HI4.out, HB4.out⟩⟩ | ((repeat apply Exists.intro); exact ⟨⟨k + 1, _, _, _, by go_num, by omega, ⟨HN4.out, HM4.out, HG4.out, HI4.out, HB4.out⟩⟩, rfl⟩)
                  case measure => simp [intOf]; omega
                | some x =>
                  have hgi := (find_mem hg).2
                  obtain ⟨hi4, hF0, hg0⟩ := HI.out.take xn hg
                  have hlen := HI.out.lens x (find_mem hg).1
                  have hmade := (HI.out.made (keyG x)).2
                  obtain ⟨gi, gt, gx⟩ := x
                  simp only at hgi hlen
                  subst hgi
                  simp only
                  unfold gramV
                  unfold keyG at hi4 hF0 hmade
                  simp only at hi4 hF0 hmade ⊢
                  have ha : Below w3.heap.size w3 (w3.alloc (.cells #[.int .u64 (gi : Int), .string (B gt), .string (B gx)] 32)) := (Below.refl _ _).alloc (Nat.le_refl _) _
                  have hm4 := HM3.out.next ha
                  have hs4 := HG3.out.next ha
                  have hgm := gram_made w3 ⟨gi, gt, gx⟩
                  have hq4 := hq3.kept (Kept.of_below (T := fun _ => False) ha) (fun h => h)
                  have HN4 := Lib.hid (hn3.next ha)
                  have HB4 := Lib.hid (HB3.out.trans (ha.mono HB3.out.size))
                  have hx3 : W1.heap.size ≤ w3.heap.size := hz3
                  have look1 := hs4.look keyedU Try.underlying39 (keyN gi ln)
                  rw [hg0] at look1
                  obtain ⟨W5, store1, hs5, hk5⟩ := hs4.store keyedU Try.underlying39 (by unfold maxLen; omega) (keyN gi ln) trivial (fun q hq => by injection hq with _ hq; omega) 1
                  have hm5 := hm4.kept hk5 (by omega)
                  have hgm5 : GramAt W5 w3.heap.size ⟨gi, gt, gx⟩ := CellsAt.kept hgm hk5 (by rw [alloc_more]; omega) (by have := HX.out; have := HZ1.out; omega)
                  have hq5 := hq4.kept hk5 (by have := HX.out; omega)
                  have hn5 := HN4.out.kept hk5 (by have := HLO.out; omega) (by have := HLO.out; omega)
                  have hb5 := HB4.out.trans (hk5.below (fun i hi => by have := HLO.out; show w.heap.size ≤ i; omega) HB4.out.size)
                  have hkey := keySt (keyB gt gx) (keyB_len hlen.1 hlen.2)
                  have look2 := hm5.look keyedS Try.underlying38 hkey
                  obtain ⟨W6, store2, hm6, hk6⟩ := hm5.store keyedS Try.underlying38 (by unfold maxLen; omega) hkey trivial (fun q hq => by injection hq) (f (keyB gt gx) - 1)
                  have hs6 := hs5.kept hk6 (by omega)
                  have look3 := hs6.look keyedU Try.underlying39 (keyN gi ln)
                  have look4 := hm6.look keyedS Try.underlying38 hkey
                  rw [show updF g gi 1 gi = 1 by unfold updF; rw [if_pos rfl]] at look3
                  rw [show updF f (keyB gt gx) (f (keyB gt gx) - 1) (keyB gt gx) = f (keyB gt gx) - 1 by unfold updF; rw [if_pos rfl]] at look4
                  have hgm6 : GramAt W6 w3.heap.size ⟨gi, gt, gx⟩ := CellsAt.kept hgm5 hk6 (by have := hk5.size; rw [alloc_more] at this; omega) (by have := HX.out; have := HZ1.out; omega)
                  have hq6 := hq5.kept hk6 (by have := HX.out; omega)
                  have HEND := Lib.hid (show St w W6 nb bm w2.heap.size (w2.heap.size + 1) (k + 1) (dropN N gi) (updF f (keyB gt gx) (f (keyB gt gx) - 1)) (updF g gi 1) from ⟨hn5.kept hk6 (by have := HLO.out; omega) (by have := HLO.out; omega), hm6.more (by omega), hs6, hi4, hb5.trans (hk6.below (fun i hi => by have := HLO.out; show w.heap.size ≤ i; omega) hb5.size)⟩)
                  obtain ⟨d0, d1, d2, -, -, -⟩ := hgm5.cells
                  obtain ⟨e0, e1, e2, -, -, -⟩ := hgm6.cells
                  have e4 := hq6.c4
                  simp only at d0 d1 d2 e0 e1 e2 e4
                  have hF1 : -9223372036854775808 ≤ f (keyB gt gx) - 1 ∧ f (keyB gt gx) - 1 ≤ 9223372036854775807 := by omega
                  clear hg hn3 hk3 hq3 HC HM1 HG1 HB1 HSM HM3 HG3 HB3 HI ha hi4 hm4 hs4 hgm hq4 HN4 HB4 hs5 hk5 hm5 hgm5 hq5 hn5 hb5 hkey hm6 hk6 hs6 hgm6 hq6
                  have eW : IntKind.i64.wrap (f (keyB gt gx) - 1) = f (keyB gt gx) - 1 := by rw [IntKind.wrap_i64]; omega
                  have hcat : B gt ++ ({ data := #[0] } : ByteArray) = B (gt ++ [0]) := B_append gt [0]
                  have hF2 : ¬ (f (keyB gt gx) - 1 < 0) := by omega
                  generalize f (keyB gt gx) = F at *
                  unfold keyB at look2 store2 look4
                  go_wp2
                  go_roundw
                  case rel => first | exact ⟨k + 1, _, _, _, by go_num, by omega, HEND.out⟩ | ((repeat apply Exists.intro); exact ⟨⟨k + 1, _, _, _, by go_num, by omega, HEND.out⟩, rfl⟩)
                  case measure => simp [intOf]; omega
              · have q0 : (xw == 0) = false := by simpa using w0
                have q1 : (xw == 1) = false := by simpa using w1'
                have q2 : (xw == 2) = false := by simpa using w2'
                have q3 : (xw == 3) = false := by simpa using w3'
                have HF := Lib.hid (HM1.out.more (show k * 2000 ≤ (k + 1) * 2000 by omega))
                go_wp2
                go_roundw
                case rel => first | exact ⟨k + 1, N, f, g, by go_num, by omega, ⟨HN1.out, HF.out, HG1.out.more (by omega), HI.out.more, HB1.out⟩⟩ | ((repeat apply Exists.intro); exact ⟨⟨k + 1, N, f, g, by go_num, by omega, ⟨HN1.out, HF.out, HG1.out.more (by omega), HI.out.more, HB1.out⟩⟩, rfl⟩)
                case measure => simp [intOf]; omega
      · have t1 : ¬ (k : Int) < (l.length : Int) := by omega
        have HBE := Lib.hid hst.below
        clear hst HA
        go_wp2_with fail
        with_reducible refine (HW.out _).mono ?_
        rintro e w8 ⟨rfl, hb8⟩
        have HB8 := Lib.hid (HBE.out.trans (hb8.mono HBE.out.size))
        clear hb8
        go_wp2
        go_ret
        exact ⟨rfl, HB8.out⟩
end Go.Proofs.Ytplfnjpoikhmbaa.Nt
