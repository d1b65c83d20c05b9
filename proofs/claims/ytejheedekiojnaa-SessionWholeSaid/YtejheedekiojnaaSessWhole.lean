/-
  The walk of SessionWhole (layer 28).
-/
import Derived.Test.YtejheedekiojnaaSessPlay
import Derived.Deep.RegionHeld3
import Derived.Deep.DrawnRows
import Derived.Deep.AppendLies
import Derived.Outline
open Go Go.RowKit
namespace Go.Proofs.Ytejheedekiojnaa.Sess
open Base Mp
attribute [local go_sem ↓] Go.wp_at_zero Go.wp_at_succ

theorem wrap8 (n : Int) : IntKind.u8.wrap n = n % 256 := by
  unfold IntKind.wrap
  simp [IntKind.signed, IntKind.bits]
theorem flat_len (l : List (List UInt8)) (k : Nat) : ((l.take k).flatten).length ≤ l.flatten.length := by
  have h : l.flatten = (l.take k).flatten ++ (l.drop k).flatten := by rw [← List.flatten_append, List.take_append_drop]
  rw [h, List.length_append]
  omega
theorem flat_step (l : List (List UInt8)) (k : Nat) (h : k < l.length) : (l.take (k + 1)).flatten = (l.take k).flatten ++ l[k] := by
  rw [List.take_succ_eq_append_getElem h, List.flatten_append]
  simp
theorem flat_bound (l : List (List UInt8)) (hz : ∀ t ∈ l, t.length ≤ 140737488351232) (k : Nat) (hk : k ≤ 50) : ((l.take k).flatten).length ≤ 50 * 140737488351232 := by
  have h : ∀ (m : List (List UInt8)), (∀ t ∈ m, t.length ≤ 140737488351232) → m.flatten.length ≤ m.length * 140737488351232 := by
    intro m
    induction m with
    | nil => simp
    | cons a r ih =>
      intro hm
      have h1 := hm a (by simp)
      have h2 := ih (fun t ht => hm t (by simp [ht]))
      simp only [List.flatten_cons, List.length_append, List.length_cons]
      omega
  have h1 := h (l.take k) (fun t ht => hz t (List.mem_of_mem_take ht))
  have h2 : (l.take k).length ≤ 50 := by rw [List.length_take]; omega
  have h3 := Nat.mul_le_mul_right 140737488351232 h2
  exact Nat.le_trans h1 h3
theorem flat_at (l : List (List UInt8)) (k : Nat) (h : k < l.length) : l[k].length ≤ l.flatten.length := by
  have h1 := flat_len l (k + 1)
  rw [flat_step l k h, List.length_append] at h1
  omega
/-- A part of a cut text, in memory. -/
theorem part_cells {w : World} {b : Nat} {t : List UInt8} {id size : Nat} (h : PartsAt w b (cutT t id size)) (k : Nat) (hk : k < cutN t.length size) :
    w.cell? ⟨b, k * 4, none⟩ = some (.int .u64 (id : Int)) ∧ w.cell? ⟨b, k * 4 + 1, none⟩ = some (.int .i64 (k : Int)) ∧ w.cell? ⟨b, k * 4 + 2, none⟩ = some (.int .i64 (cutN t.length size : Nat)) ∧ w.cell? ⟨b, k * 4 + 3, none⟩ = some (.string (B (piece t size k))) := by
  have hlen : (cutT t id size).length = cutN t.length size := by simp [cutT]
  have e : ∀ j, j / 4 = k → w.cell? ⟨b, j, none⟩ = some (cellP (partOf t id size (cutN t.length size) k) (j % 4)) := by
    intro j hj
    rw [(h j (by rw [hlen]; omega)).1]
    show some (cellP ((cutT t id size)[j / 4]?.getD noPart) (j % 4)) = _
    rw [hj]
    simp [cutT, hk]
  refine ⟨?_, ?_, ?_, ?_⟩
  · rw [e (k * 4) (by omega), show k * 4 % 4 = 0 by omega]; rfl
  · rw [e (k * 4 + 1) (by omega), show (k * 4 + 1) % 4 = 1 by omega]; rfl
  · rw [e (k * 4 + 2) (by omega), show (k * 4 + 2) % 4 = 2 by omega]; rfl
  · rw [e (k * 4 + 3) (by omega), show (k * 4 + 3) % 4 = 3 by omega]; rfl
/-- A step's six cells. -/
def sixOf (T : List (List UInt8)) (z : Nat) (p : Nat × Nat) : List Value :=
  [.string (B (fk p.1)), .bool false, .int .u64 (p.1 : Int), .int .i64 (p.2 : Int), .int .i64 ((nn T z p.1 : Nat) : Int), .string (B (piece (txt T p.1) z p.2))]
def sixes (T : List (List UInt8)) (z : Nat) (A : List (Nat × Nat)) : List Value := A.flatMap (sixOf T z)
theorem sixes_snoc (T : List (List UInt8)) (z : Nat) (A : List (Nat × Nat)) (p : Nat × Nat) : sixes T z (A ++ [p]) = sixes T z A ++ sixOf T z p := by simp [sixes]
def upK (i k : Nat) : List (Nat × Nat) := (List.range k).map fun j => (i, j)
theorem upK_succ (i k : Nat) : upK i (k + 1) = upK i k ++ [(i, k)] := by simp [upK, List.range_succ]
theorem infoStep : (Try.prog.info? 35).map (fun i => (i.zero, i.size, i.bytes)) = some (some (.agg #[.string ⟨#[]⟩, .bool false, .int .u64 0, .int .i64 0, .int .i64 0, .string ⟨#[]⟩]), 6, 64) := by kernel_rfl

theorem newsOf (w : World) (C D : Array Value) (t u : TypeId) : ∀ (j : Nat) (v : Value), D.toList[j]? = some v → ((w.alloc (.cells C t)).alloc (.cells D u)).drew.cell? ((⟨w.heap.size + 1, 0, none⟩ : Addr).add j) = some v := by
  have h := World.news_of_block (w := ((w.alloc (.cells C t)).alloc (.cells D u)).drew) (B := w.heap.size + 1) (cs := D) (t := u) (fr := (0, 0)) (by
    have := heap_alloc_new (w.alloc (.cells C t)) (.cells D u)
    rw [alloc_more] at this
    exact this)
  exact h
theorem zInt (w : World) : (zeroValue 3).run Try.prog w = .ok (.int .i64 0) w := by kernel_rfl
theorem put_le {α : Type} (es : List (Lit × α)) (k : Lit) (v : α) : (putL es k v).length ≤ es.length + 1 := by
  rw [(put_perm es k v).length_eq, List.length_cons]
  have : (delL es k).length ≤ es.length := List.length_filter_le _ _
  omega
theorem row_form {w : World} {base : Nat} {e : TypeId} {v : Value} {n : Nat} {xs : List Value} (h : w.ownsRow base e 6 v n xs) : ∃ p cap, v = .slice p n cap := by
  rcases h.2 with ⟨rfl, rfl⟩ | ⟨g, cap, cur, rfl, _⟩
  · exact ⟨none, 0, rfl⟩
  · exact ⟨_, _, rfl⟩
/-- The steps' cells, as they are read later. -/
theorem row_cells {w : World} {base : Nat} {e : TypeId} {v : Value} {T : List (List UInt8)} {z : Nat} {A : List (Nat × Nat)} (h : w.ownsRow base e 6 v A.length (sixes T z A)) :
    ∀ (j : Nat) (hj : j < A.length), ∃ g cap, v = .slice (some ⟨g, 0, none⟩) A.length cap ∧ g < w.heap.size ∧ ∀ c : Nat, c < 6 → w.cell? ⟨g, j * 6 + c, none⟩ = some ((sixOf T z A[j]).getD c (.bool false)) := by
  intro j hj
  have hlen : (sixes T z A).length = A.length * 6 := h.1
  obtain ⟨g, cap, rfl, -, hlt⟩ := h.form (by omega)
  refine ⟨g, cap, rfl, hlt, fun c hc => ?_⟩
  rw [h.cellAt (j * 6 + c) (by omega)]
  have key : ∀ (A : List (Nat × Nat)) (j : Nat) (hj : j < A.length), (sixes T z A)[j * 6 + c]? = (sixOf T z A[j])[c]? := by
    intro A
    induction A with
    | nil => intro j hj; simp at hj
    | cons a r ih =>
      intro j hj
      have e : sixes T z (a :: r) = sixOf T z a ++ sixes T z r := by simp [sixes]
      rw [e]
      have h6 : (sixOf T z a).length = 6 := rfl
      cases j with
      | zero => rw [List.getElem?_append_left (by rw [h6]; omega)]; simp
      | succ j =>
        rw [List.getElem?_append_right (by rw [h6]; omega), h6, show (j + 1) * 6 + c - 6 = j * 6 + c by omega, ih j (by simpa using hj)]
        simp
  rw [key A j hj]
  have h6 : (sixOf T z A[j]).length = 6 := rfl
  have hc6 : c < (sixOf T z A[j]).length := by rw [h6]; exact hc
  rw [List.getD_eq_getElem?_getD, List.getElem?_eq_getElem hc6]
  rfl
set_option maxHeartbeats 8000000 in
set_option maxRecDepth 100000 in
theorem SessionWhole_calls (T : List (List UInt8)) (sz : Nat) (O : List Nat) (p q : Option Addr) (cap cq : Nat) (w : World) (hl : T.length ≤ maxLen) (ha : RowArg w p (T.map fun x => .string (B x))) (hzt : ∀ t ∈ T, t.length ≤ 140737488351232) (hsz : sz ≤ 255)
    (hO : O.length ≤ maxLen) (hb : RowArg w q (O.map fun x => .int .u16 ((x : Nat) : Int))) (hO2 : ∀ x ∈ O, x < 65536) :
    Calls Try.prog 3 #[.slice p T.length cap, .int .u8 (sz : Int), .slice q O.length cq] w fun e w' => e = .returned (.bool true) ∧ Below w.heap.size w w' := by
  unfold maxLen at hl hO
  have HW := Lib.hid (works_calls w)
  have HA := Lib.hid ha
  have HZ := Lib.hid hzt
  have HO := Lib.hid hb
  have HO2 := Lib.hid hO2
  have HFB := Lib.hid (flat_bound T hzt)
  clear ha hzt hb hO2
  go_enter Try.func3, Try.ntmps3
  go_wp2
  go_loop [7, 8] (fun v u => ∃ k : Nat, u = .int .i64 k ∧ k ≤ T.length ∧ k ≤ 50 ∧ v = .int .i64 (((T.take k).flatten.length : Nat) : Int)) (fun _ u => T.length - (intOf u).toNat)
  case atStart => exact ⟨0, rfl, Nat.zero_le _, by omega, by simp⟩
  case round =>
    obtain ⟨k, rfl, hk, hk3, rfl⟩ := hrel
    have hfb := HFB.out k hk3
    by_cases hgo : k < T.length ∧ k < 50
    · obtain ⟨hlt, h300⟩ := hgo
      obtain ⟨bb, off, rfl, -, hcell⟩ := HA.out k (by simpa using hlt)
      rw [List.getElem_map] at hcell
      have hx := HZ.out T[k] (List.getElem_mem hlt)
      have HF := Lib.hid (flat_step T k hlt)
      have t1 : (k : Int) < (T.length : Int) := by omega
      have t2 : (k : Int) < 50 := by omega
      generalize T[k] = x at *
      generalize (T.take k).flatten = c at *
      go_wp2
      exact ⟨⟨k + 1, by go_num, by omega, by omega, by rw [HF.out, List.length_append]; go_num⟩, by simp [intOf]; omega⟩
    · have HFL := Lib.hid (show k = T.length → ((T.take k).flatten).length = T.flatten.length from fun e => by rw [e, List.take_length])
      generalize ((T.take k).flatten).length = n at *
      by_cases hbig : 32 < T.length ∨ 1024 < n ∨ 500 < O.length
      · have hres : ∀ Q : Prop, (∀ e w', e = Ending.returned (.bool true) → Below w.heap.size w w' → Q) → True := fun _ _ => trivial
        clear hres
        have hs1 : (k : Int) < (T.length : Int) ∨ (T.length : Int) ≤ (k : Int) := by omega
        have hs2 : (32 : Int) < (T.length : Int) ∨ ((T.length : Int) ≤ 32 ∧ (1024 : Int) < (n : Int)) ∨ ((T.length : Int) ≤ 32 ∧ (n : Int) ≤ 1024 ∧ (500 : Int) < (O.length : Int)) := by omega
        have hk50 : (k : Int) < (T.length : Int) → ¬ (k : Int) < 50 := by omega
        clear hgo hbig hfb
        rcases hs1 with t1 | t1
        · have t2 := hk50 t1
          clear hk50 hk hk3
          rcases hs2 with t4 | ⟨t4, t5⟩ | ⟨t4, t5, t6⟩
          all_goals
            go_wp2_with fail
            refine HW.out.mono ?_
            rintro e w2 ⟨rfl, hb⟩
            have HB := Lib.hid hb
            clear hb
            go_wp2
            go_ret
            exact ⟨rfl, HB.out⟩
        · clear hk50 hk hk3
          rcases hs2 with t4 | ⟨t4, t5⟩ | ⟨t4, t5, t6⟩
          all_goals
            go_wp2_with fail
            refine HW.out.mono ?_
            rintro e w2 ⟨rfl, hb⟩
            have HB := Lib.hid hb
            clear hb
            go_wp2
            go_ret
            exact ⟨rfl, HB.out⟩
      · obtain rfl : k = T.length := by omega
        have hn := HFL.out rfl
        have hT32 : T.length ≤ 32 := by omega
        have hO500 : O.length ≤ 500 := by omega
        have HFLAT := Lib.hid (show T.flatten.length ≤ 1024 by omega)
        have t1 : ¬ (T.length : Int) < (T.length : Int) := by omega
        have t4 : ¬ (32 : Int) < (T.length : Int) := by omega
        have t5 : ¬ (1024 : Int) < (n : Int) := by omega
        have t6 : ¬ (500 : Int) < (O.length : Int) := by omega
        obtain ⟨z, hz⟩ : ∃ z : Nat, z = sz % 60 + 1 := ⟨_, rfl⟩
        have hz1 : 1 ≤ z := by omega
        have hz2 : z ≤ 60 := by omega
        have hzz : (sz : Int) % 60 + 1 = (z : Int) := by omega
        have HZZ := Lib.hid hzz
        obtain ⟨i0, hi, hz0, hzi1, hzi2⟩ := info_parts infoStep
        have hzn : ∀ j, j < T.length → (txt T j).length ≤ z * 256 → nn T z j ≤ 256 := fun j _ h => by
          rcases Nat.lt_or_ge 256 (nn T z j) with h2 | h2
          · have := (cutN_long (txt T j).length z 256 (by omega) (by omega)).1 h2
            omega
          · exact h2
        have HZN := Lib.hid hzn
        have HT32 := Lib.hid hT32
        have HO500 := Lib.hid hO500
        clear hgo hbig hfb hk hk3 hn HFL hz hl hO HFB hzn
        go_wp2
        go_loopw [9, 10] (fun v u wr => ∃ i : Nat, u = .int .i64 i ∧ i ≤ T.length ∧ wr.ownsRow w.heap.size 35 6 v (stepsOf T z i).length (sixes T z (stepsOf T z i)) ∧ (∀ j, j < i → (txt T j).length ≤ z * 256) ∧ Below w.heap.size w wr) (fun _ u _ => T.length - (intOf u).toNat)
        case atStart => exact ⟨0, rfl, Nat.zero_le _, World.ownsRow_nil _ _ _ _, fun j hj => by omega, Below.refl _ _⟩
        case round =>
          obtain ⟨i, rfl, hi1, hown, hfine, hb⟩ := hrel
          have HOW := Lib.hid hown
          have HFN := Lib.hid hfine
          have HB := Lib.hid hb
          clear hown hfine hb
          by_cases hlt : i < T.length
          · obtain ⟨bb, off, rfl, -, hcell⟩ := (HA.out.below HB.out) i (by simpa using hlt)
            rw [List.getElem_map] at hcell
            have htx : T[i] = txt T i := by simp [txt, hlt]
            rw [htx] at hcell
            have hlen := flat_at T i hlt
            rw [htx] at hlen
            have hlen2 : (txt T i).length ≤ 1024 := by have := HFLAT.out; omega
            have HNN := Lib.hid (show nn T z i = cutN (txt T i).length z from rfl)
            have t7 : (i : Int) < (T.length : Int) := by omega
            by_cases hbig : z * 256 < (txt T i).length
            · have HC := Lib.hid (Cut_long (txt T i) i z wr hz1 (by omega) hbig (by omega))
              have t8 : (z : Int) * 256 < ((txt T i).length : Int) := by omega
              clear htx hlen hbig hi1
              generalize txt T i = t at *
              go_wp2_with fail
              refine HC.out.mono ?_
              rintro e w1 ⟨rfl, rfl⟩
              go_wp2_with fail
              refine (works_calls _).mono ?_
              rintro e w2 ⟨rfl, hb⟩
              have HB2 := Lib.hid (later HB.out hb)
              clear hb
              go_wp2
              go_ret
              exact ⟨rfl, HB2.out⟩
            · have HC := Lib.hid (Cut_calls (txt T i) i z wr hz1 (by omega) (by omega))
              have t8 : ¬ (z : Int) * 256 < ((txt T i).length : Int) := by omega
              have hct : (cutT (txt T i) i z).length = nn T z i := by simp [cutT, nn]
              rw [hct] at HC
              have hnn := HZN.out i hlt (by omega)
              have HLE := Lib.hid (steps_le T z i (fun j hj => HZN.out j (by omega) (HFN.out j hj)))
              have HFN2 := Lib.hid (show (txt T i).length ≤ z * 256 by omega)
              clear htx hlen hbig
              go_wp2_with fail
              refine HC.out.mono ?_
              rintro e w1 ⟨b, rfl, hb1, hb2, hpa, hbe⟩
              have HPA := Lib.hid hpa
              have HB1 := Lib.hid (later HB.out hbe)
              have HOW1 := Lib.hid (own_next HOW.out hbe)
              have hcell1 := (hbe.cell (p := ⟨bb, off + i, none⟩) (lt_of_cell hcell)).trans hcell
              have HB2L := Lib.hid hb2
              have HB1L := Lib.hid (Nat.le_trans HB.out.size hb1)
              have HAPB := Lib.hid hb1
              clear hpa hbe hb1 hb2 HC hcell
              go_wp2
              have hap1 : ∀ y, u9.ownBlock = some y → y ≠ b := fun y hy e => by
                have h1 := (HOW.out.lt y hy).2
                have h2 := HAPB.out
                omega
              have HAP1 := Lib.hid hap1
              clear hap1
              generalize hA : stepsOf T z i = A at *
              have HAA := Lib.hid hA
              clear hA
              go_loopw [9, 13] (fun v u wt => ∃ k : Nat, u = .int .i64 k ∧ k ≤ nn T z i ∧ wt.ownsRow w.heap.size 35 6 v (A ++ upK i k).length (sixes T z (A ++ upK i k)) ∧ PartsAt wt b (cutT (txt T i) i z) ∧ (∀ y, v.ownBlock = some y → y ≠ b) ∧ Below w.heap.size w wt) (fun _ u _ => nn T z i - (intOf u).toNat)
              case atStart => exact ⟨0, rfl, Nat.zero_le _, by simpa [upK] using HOW1.out, HPA.out, HAP1.out, HB1.out⟩
              case round =>
                obtain ⟨k, rfl, hk, hown, hpa, hap, hb⟩ := hrel
                clear HOW1 HPA HAP1 HB1
                have HOW1 := Lib.hid hown
                have HPA := Lib.hid hpa
                have HAP1 := Lib.hid hap
                have HB1 := Lib.hid hb
                clear hown hpa hap hb
                by_cases hlt2 : k < nn T z i
                · obtain ⟨c0, c1, c2, c3⟩ := part_cells HPA.out k (by rw [← HNN.out]; exact hlt2)
                  rw [← HNN.out] at c2
                  have HL := Lib.hid (show (A ++ upK i k).length ≤ 33 * 256 by rw [List.length_append]; simp [upK]; have := HLE.out; have := HT32.out; omega)
                  have HSN := Lib.hid (show sixes T z (A ++ upK i (k + 1)) = sixes T z (A ++ upK i k) ++ sixOf T z (i, k) by rw [upK_succ, ← List.append_assoc, sixes_snoc])
                  have HSL := Lib.hid (show (A ++ upK i (k + 1)).length = (A ++ upK i k).length + 1 by rw [upK_succ, ← List.append_assoc]; simp; omega)
                  have t9 : (k : Int) < ((nn T z i : Nat) : Int) := by omega
                  have t10 : (i : Int) < 32 := by omega
                  have HSIX := Lib.hid (show sixOf T z (i, k) = [.string (B (fk i)), .bool false, .int .u64 (i : Int), .int .i64 (k : Int), .int .i64 ((nn T z i : Nat) : Int), .string (B (piece (txt T i) z k))] from rfl)
                  obtain ⟨x0, hx0⟩ : ∃ x0, x0 = UInt8.ofNat (97 + i) := ⟨_, rfl⟩
                  have hfk : ((97 : Int) + (i : Int)) = (x0.toNat : Int) := by rw [hx0, UInt8.toNat_ofNat_of_lt' (by show 97 + i < 256; omega)]; omega
                  have HFK := Lib.hid (show fk i = [x0] by rw [hx0]; rfl)
                  clear hx0
                  have w97 : IntKind.u8.wrap (97 + (i : Int)) = (x0.toNat : Int) := by rw [wrap8]; omega
                  have wi : IntKind.u8.wrap (i : Int) = (i : Int) := by rw [wrap8]; omega
                  generalize hpc : piece (txt T i) z k = pc at *
                  have HSZ := Lib.hid HB1.out.size
                  have hcv1 := (bytesAt_cells wr [x0] 5 #[.int .u8 (x0.toNat : Int)] rfl).back (P := Try.prog) 33 9 5 1 1 rfl Try.underlying33 Try.underlying5 Try.underlying9
                  have hcv2 := (bytesAt_cells wr [x0] 5 #[.int .u8 (x0.toNat : Int)] rfl).drew.back (P := Try.prog) 33 9 5 1 1 rfl Try.underlying33 Try.underlying5 Try.underlying9
                  have HKN := Lib.hid (show k + 1 ≤ nn T z i from hlt2)
                  have HB2R := Lib.hid (show b < wr.heap.size from HPA.out.lt (by rw [show (cutT (txt T i) i z).length = cutN (txt T i).length z by simp [cutT]]; have := cutN_pos (txt T i).length z; omega))
                  have hb8 : Below wr.heap.size wr (wr.alloc (.cells #[.int .u8 (x0.toNat : Int)] 5)) := (Below.refl _ _).alloc (Nat.le_refl _) _
                  have e0 := (hb8.cell (p := ⟨b, k * 4, none⟩) (lt_of_cell c0)).trans c0
                  have e1 := (hb8.cell (p := ⟨b, k * 4 + 1, none⟩) (lt_of_cell c1)).trans c1
                  have e2 := (hb8.cell (p := ⟨b, k * 4 + 2, none⟩) (lt_of_cell c2)).trans c2
                  have e3 := (hb8.cell (p := ⟨b, k * 4 + 3, none⟩) (lt_of_cell c3)).trans c3
                  clear hb8
                  clear hk hlt2 hfk
                  go_wp2
                  generalize hnz : nn T z i = nz at *
                  have HNZ := Lib.hid hnz
                  clear hnz
                  go_region_law
                    ((refine step_append_lies _ (by rfl) _ _ _ (by rfl) w.heap.size 35 i0 _ 6 64 Try.underlying25 hi hz0 hzi1 hzi2 rfl (by decide) _ (A ++ upK i k).length (sixes T z (A ++ upK i k)) (by rfl) ((HOW1.out.alloc _).alloc _).drew
                        ⟨wr.heap.size + 1, 0, none⟩ 1 1 [.string (B [x0]), .bool false, .int .u64 (i : Int), .int .i64 (k : Int), .int .i64 (nz : Int), .string (B pc)] (by rfl) (by rfl) (fun j u hj => newsOf wr _ _ _ _ j u hj) (by simp [Value.oneCell'])
                        (by omega) (by unfold maxLen; have := HL.out; omega) (by have := HL.out; omega) (by simp; have := HSZ.out; omega) (wr.heap.size + 2) (by simp) ?_; intro gg cap' w5 hown5 hgrow hat hlt5))
                  all_goals
                    have hnz := HNZ.out
                    subst hnz
                    have HOW5 := Lib.hid hown5
                    have HPA5 := Lib.hid (show PartsAt w5 b (cutT (txt T i) i z) from CellsAt.grown (CellsAt.below HPA.out (((Below.refl wr.heap.size wr).alloc (Nat.le_refl _) _).alloc (by simp) _).drew HB2R.out) hgrow (by have := HB2R.out; simp; omega) (fun e => HAP1.out b e.symm rfl))
                    have HAP5 := Lib.hid (show ∀ y, (Value.slice (some ⟨gg, 0, none⟩) ((A ++ upK i k).length + 1) cap').ownBlock = some y → y ≠ b from fun y hy e => by
                      have hy2 : gg = y := by injection hy
                      rcases hat with h1 | h1
                      · exact HAP1.out gg h1 (hy2.trans e)
                      · have := HB2R.out; omega)
                    have HB5 := Lib.hid (((((HB1.out.alloc HSZ.out _).alloc (by simp; have := HSZ.out; omega) _).drew).grown hgrow (by simp; have := HSZ.out; omega) (fun y hy => (HOW1.out.lt y hy).1)))
                    clear hown5 hgrow hat hlt5 c0 c1 c2 c3 e0 e1 e2 e3 hcv1 hcv2 w97 wi
                    go_wp2
                    go_roundw
                    case rel => exact ⟨k + 1, by go_num, HKN.out, by rw [HSN.out, HSL.out, HSIX.out, HFK.out]; have h := HOW5.out; simp only [List.length_append] at h ⊢; exact h, HPA5.out, HAP5.out, HB5.out⟩
                    case measure => have h2 := HKN.out; simp [intOf]; omega
                · obtain rfl : k = nn T z i := by omega
                  have HOW6 := Lib.hid (show wr.ownsRow w.heap.size 35 6 u9 (stepsOf T z (i + 1)).length (sixes T z (stepsOf T z (i + 1))) by rw [steps_succ, HAA.out]; exact HOW1.out)
                  have HFN3 := Lib.hid (show ∀ j, j < i + 1 → (txt T j).length ≤ z * 256 from fun j hj => by
                    rcases Nat.lt_or_ge j i with h | h
                    · exact HFN.out j h
                    · obtain rfl : j = i := by omega
                      exact HFN2.out)
                  clear HOW1 HOW hk hlt2
                  go_wp2
                  go_roundw
                  case rel => first | exact ⟨i + 1, by go_num, hlt, HOW6.out, HFN3.out, HB1.out⟩ | ((repeat apply Exists.intro); exact ⟨⟨i + 1, by go_num, hlt, HOW6.out, HFN3.out, HB1.out⟩, rfl⟩)
                  case measure => simp [intOf]; omega
          · obtain rfl : i = T.length := by omega
            generalize hA : stepsOf T z T.length = A at *
            have HAL := Lib.hid (show A.length ≤ 32 * 256 by
              have := steps_le T z T.length (fun j hj => HZN.out j hj (HFN.out j hj))
              rw [hA] at this
              have := HT32.out
              omega)
            have HNN := Lib.hid (fun j (hj : j < T.length) => HZN.out j hj (HFN.out j hj))
            have HAA := Lib.hid hA
            have HMEM := Lib.hid (show ∀ p ∈ A, p.1 < T.length ∧ p.2 < nn T z p.1 from fun p hp => (steps_mem T z T.length p.1 p.2).1 (by rw [hA]; exact hp))
            have HTLY := Lib.hid (show ∀ j, j < T.length → tally A j = nn T z j from fun j hj => by rw [← hA, tally_all, if_pos hj])
            clear hA hlt hi1
            have HROW := Lib.hid (row_cells HOW.out)
            obtain ⟨pA, capA, rfl⟩ := row_form HOW.out
            go_wp2_with fail
            refine (New_calls wr).mono ?_
            rintro e w2 ⟨rfl, hs2, hb2⟩
            have HPI := Lib.hid (PlayInv.start hs2 hb2)
            have hmm := @run_makeMap Try.prog
            unfold ptr
            clear hs2 hb2
            go_wp2
            clear hmm
            have hMm : ∀ x : Nat, w2.heap.size + x = w2.heap.size + x := fun _ => rfl
            clear hMm
            generalize (w2.alloc (.map #[] 0)).alloc (.map #[] 0) = w4 at *
            generalize w2.heap.size = mL at *
            generalize hm : wr.heap.size = m at *
            have HM := Lib.hid hm
            clear hm
            generalize hwo : wr = wo at *
            clear hwo
            have HTK := Lib.hid (fun r (h : r < A.length) j => show tally (A.take (r + 1)) j = tally (A.take r) j + if A[r].1 = j then 1 else 0 by rw [List.take_succ_eq_append_getElem h, tally_snoc])
            go_loopw [17] (fun u wt => ∃ (r : Nat) (L : List (Lit × Value)), u = .int .i64 r ∧ r ≤ A.length ∧ PlayInv wo m mL (mL + 1) mL [] L [] wt ∧ (∀ j, j < T.length → lookL L (keyS (fk j)) = if tally (A.take r) j = 0 then none else some (.int .i64 ((tally (A.take r) j : Nat) : Int))) ∧ L.length ≤ r) (fun u _ => A.length - (intOf u).toNat)
            case atStart => exact ⟨0, [], rfl, Nat.zero_le _, HPI.out, fun j _ => by simp [tally, lookL], Nat.le_refl _⟩
            case round =>
              obtain ⟨r, L, rfl, hr, hinv, hleft, hLl⟩ := hrel
              clear HPI
              have HI := Lib.hid hinv
              have HLF := Lib.hid hleft
              clear hinv hleft
              by_cases hlt : r < A.length
              · obtain ⟨g, capX, hpA, hg, hcs⟩ := HROW.out r hlt
                obtain ⟨hpA, -, hcx⟩ := Value.slice.inj hpA
                subst hpA hcx
                have hc0 := (HI.out.below.cell (p := ⟨g, r * 6, none⟩) hg).trans (hcs 0 (by omega))
                have hin := HMEM.out A[r] (List.getElem_mem hlt)
                have HTR := Lib.hid (HTK.out r hlt)
                have hfl : ∀ j, (B (fk j)).size ≤ maxLen := fun j => by rw [B_size]; simp [fk, maxLen]
                generalize A[r] = pr at *
                obtain ⟨i, k⟩ := pr
                simp only at hin
                replace hc0 : wr.cell? ⟨g, r * 6, none⟩ = some (.string (B (fk i))) := hc0
                have hlk := HI.out.left.look keyedS Try.underlying38 (zInt wr) (keyB (fk i) (by simp [fk, maxLen]))
                rw [HLF.out i hin.1] at hlk
                obtain ⟨w', hrun, hM2, htu⟩ := HI.out.left.store keyedS Try.underlying38 (by unfold maxLen; have := HAL.out; omega) (keyB (fk i) (by simp [fk, maxLen])) (val := .int .i64 (((tally (A.take r) i + 1 : Nat)) : Int))
                have hval : ((if tally (A.take r) i = 0 then none else some (Value.int .i64 ((tally (A.take r) i : Nat) : Int))) : Option Value).getD (.int .i64 0) = .int .i64 ((tally (A.take r) i : Nat) : Int) := by
                  by_cases h0 : tally (A.take r) i = 0
                  · rw [if_pos h0, h0]; rfl
                  · rw [if_neg h0]; rfl
                rw [hval] at hlk
                have HI2 := Lib.hid (HI.out.turnL hM2 htu)
                have HL2 := Lib.hid (show ∀ j, j < T.length → lookL (putL L (keyS (fk i)) (.int .i64 (((tally (A.take r) i + 1 : Nat)) : Int))) (keyS (fk j)) = if tally (A.take (r + 1)) j = 0 then none else some (.int .i64 ((tally (A.take (r + 1)) j : Nat) : Int)) from fun j hj => by
                  have ht := HTR.out j
                  by_cases hij : i = j
                  · subst hij
                    rw [if_pos rfl] at ht
                    rw [look_put_same L _ (isKey _), ht, if_neg (by omega)]
                  · rw [if_neg hij] at ht
                    rw [look_put_other L _ _ (key_ne HT32.out hj hin.1 (fun e => hij e.symm)), HLF.out j hj, ht]; rfl)
                have HLL2 := Lib.hid (show (putL L (keyS (fk i)) (Value.int .i64 (((tally (A.take r) i + 1 : Nat)) : Int))).length ≤ r + 1 from Nat.le_trans (put_le _ _ _) (by omega))
                have hty : tally (A.take r) i ≤ r := by
                  have := List.countP_le_length (p := fun p : Nat × Nat => p.1 == i) (l := A.take r)
                  rw [List.length_take] at this
                  unfold tally
                  omega
                have hrr : (r : Int) < (A.length : Int) := by omega
                have hal := HAL.out
                generalize tally (A.take r) i = ty at *
                have hsum : ((ty + 1 : Nat) : Int) = (ty : Int) + 1 := by omega
                rw [hsum] at hrun
                clear hcs hval hM2 htu hfl hsum
                go_wp2
                exact ⟨⟨r + 1, _, by go_num, by omega, HI2.out, HL2.out, HLL2.out⟩, by simp [intOf]; omega⟩
              · obtain rfl : r = A.length := by omega
                have HLF0 := Lib.hid (show ∀ j, j < T.length → lookL L (keyS (fk j)) = some (.int .i64 (((nn T z j - cnt T z (fun _ _ => false) j : Nat)) : Int)) from fun j hj => by
                  have h1 := HLF.out j hj
                  rw [List.take_length, HTLY.out j hj, if_neg (by have := cutN_pos (txt T j).length z; unfold nn; omega)] at h1
                  have hc : cnt T z (fun _ _ => false) j = 0 := by unfold cnt; rw [List.countP_eq_zero]; simp
                  rw [h1, hc]; rfl)
                have HLL0 := Lib.hid (show L.length ≤ A.length from hLl)
                clear HLF HTK HTLY hlt hr hLl
                go_wp2
                by_cases hA0 : A.length = 0
                · have hal := HAL.out
                  have t12 : ((A.length : Int) == 0) = true := beq_iff_eq.2 (by omega)
                  have HO5 := Lib.hid (show O.length ≤ 500 from HO500.out)
                  go_loop [18] (fun u => ∃ r : Nat, u = .int .i64 r ∧ r ≤ O.length + 1) (fun u => O.length + 2 - (intOf u).toNat)
                  case atStart => exact ⟨0, rfl, Nat.zero_le _⟩
                  case round =>
                    obtain ⟨r, rfl, hr⟩ := hrel
                    have HLN := Lib.hid HI.out.len_calls
                    have HBR := Lib.hid (Below.trans HB.out (HI.out.below.mono (by rw [← HM.out]; exact HB.out.size)))
                    have ho5 := HO5.out
                    unfold ptr at HLN
                    by_cases hlt : r < O.length
                    · have t11 : (r : Int) < (O.length : Int) + (A.length : Int) := by omega
                      go_wp2_with fail
                      refine HLN.out.mono ?_
                      clear HLN
                      rintro e w5 ⟨rfl, rfl⟩
                      have HHD := Lib.hid HI.out.held_calls
                      unfold ptr at HHD
                      go_wp2_with fail
                      refine HHD.out.mono ?_
                      clear HHD
                      rintro e w6 ⟨rfl, hb6⟩
                      have HB6 := Lib.hid (Base.later HBR.out hb6)
                      clear hb6
                      go_wp2_with fail
                      refine (works_calls _).mono ?_
                      rintro e w7 ⟨rfl, hb7⟩
                      have HB7 := Lib.hid (Base.later HB6.out hb7)
                      clear hb7
                      go_wp2
                      go_ret
                      exact ⟨rfl, HB7.out⟩
                    · have t11 : ¬ (r : Int) < (O.length : Int) + (A.length : Int) := by omega
                      go_wp2_with fail
                      refine HLN.out.mono ?_
                      clear HLN
                      rintro e w5 ⟨rfl, rfl⟩
                      have HHD := Lib.hid HI.out.held_calls
                      unfold ptr at HHD
                      go_wp2_with fail
                      refine HHD.out.mono ?_
                      clear HHD
                      rintro e w6 ⟨rfl, hb6⟩
                      have HB6 := Lib.hid (Base.later HBR.out hb6)
                      clear hb6
                      go_wp2_with fail
                      refine (works_calls _).mono ?_
                      rintro e w7 ⟨rfl, hb7⟩
                      have HB7 := Lib.hid (Base.later HB6.out hb7)
                      clear hb7
                      go_wp2
                      go_ret
                      exact ⟨rfl, HB7.out⟩
                · have HPOS := Lib.hid (show 0 < A.length by omega)
                  go_loopw [18] (fun u wt => ∃ (r : Nat) (G : Came) (S : St) (L M : List (Lit × Value)), u = .int .i64 r ∧ r ≤ O.length + A.length ∧ PlayInv wo m mL (mL + 1) mL S L M wt ∧ L.length ≤ 8192 + r ∧ Holds T z S G ∧
                    LeftOk T z L G ∧ CameOk T z M G r ∧
                    M.length ≤ r ∧ (∀ (j : Nat) (hj : j < A.length), j + O.length < r → G A[j].1 A[j].2 = true)) (fun u _ => O.length + A.length - (intOf u).toNat)
                  case atStart => exact ⟨0, fun _ _ => false, [], L, [], rfl, Nat.zero_le _, HI.out, by have := HAL.out; have := HLL0.out; omega, holds_start T z, HLF0.out, fun j k _ _ => ⟨fun _ => rfl, fun h => by cases h⟩, Nat.le_refl _, fun j _ hj => by omega⟩
                  case round =>
                    obtain ⟨r, G, S, L, M, rfl, hr, hinv, hLmax, hhold, hleft, hcame, hMl, hseen⟩ := hrel
                    have HLMX := Lib.hid hLmax
                    have HLMAX := Lib.hid (show L.length < maxLen by unfold maxLen; have := HAL.out; omega)
                    clear hLmax
                    clear HI HLF0
                    have HI := Lib.hid hinv
                    have HHO := Lib.hid hhold
                    have HLF := Lib.hid hleft
                    have HCM := Lib.hid hcame
                    have HSE := Lib.hid hseen
                    have HML := Lib.hid hMl
                    clear hinv hhold hleft hcame hseen hMl
                    by_cases hlt : r < O.length + A.length
                    · have t11 : (r : Int) < (O.length : Int) + (A.length : Int) := by omega
                      have t12 : ((A.length : Int) == 0) = false := beq_eq_false_iff_ne.2 (by have := HPOS.out; omega)
                      have hal := HAL.out
                      obtain ⟨kk, hkk, hcase⟩ : ∃ kk, kk < A.length ∧ ((∃ h : r < O.length, kk = O[r] % A.length) ∨ (O.length ≤ r ∧ kk = r - O.length)) := by
                        by_cases h : r < O.length
                        · exact ⟨O[r] % A.length, Nat.mod_lt _ (by omega), .inl ⟨h, rfl⟩⟩
                        · exact ⟨r - O.length, by omega, .inr ⟨by omega, rfl⟩⟩
                      have HKC := Lib.hid (show ∀ j, j + O.length = r → j = kk from fun j hj => by
                        rcases hcase with ⟨h, _⟩ | ⟨h1, h2⟩
                        · omega
                        · omega)
                      obtain ⟨g, capX, hpA, hg, hcs⟩ := HROW.out kk hkk
                      obtain ⟨hpA, -, hcx⟩ := Value.slice.inj hpA
                      subst hpA hcx
                      have hget := fun c hc => (HI.out.below.cell (p := ⟨g, kk * 6 + c, none⟩) hg).trans (hcs c hc)
                      have hin := HMEM.out A[kk] (List.getElem_mem hkk)
                      have HPK := Lib.hid (show ∀ (j : Nat) (hj : j < A.length), j = kk → A[j] = A[kk] from fun j hj e => by subst e; rfl)
                      generalize A[kk] = pr at *
                      obtain ⟨i, k⟩ := pr
                      simp only at hin
                      have c0 : wr.cell? ⟨g, kk * 6, none⟩ = some (.string (B (fk i))) := hget 0 (by omega)
                      have c1 : wr.cell? ⟨g, kk * 6 + 1, none⟩ = some (.bool false) := hget 1 (by omega)
                      have c2 : wr.cell? ⟨g, kk * 6 + 2, none⟩ = some (.int .u64 (i : Int)) := hget 2 (by omega)
                      have c3 : wr.cell? ⟨g, kk * 6 + 3, none⟩ = some (.int .i64 (k : Int)) := hget 3 (by omega)
                      have c4 : wr.cell? ⟨g, kk * 6 + 4, none⟩ = some (.int .i64 ((nn T z i : Nat) : Int)) := hget 4 (by omega)
                      have c5 : wr.cell? ⟨g, kk * 6 + 5, none⟩ = some (.string (B (piece (txt T i) z k))) := hget 5 (by omega)
                      have HIN := Lib.hid hin
                      have hn256 := HNN.out i hin.1
                      have HPC := Lib.hid (show (piece (txt T i) z k).length ≤ 4096 by have := piece_le (txt T i) z k; omega)
                      have hord : ∀ h : r < O.length, ∃ bo oo, q = some ⟨bo, oo, none⟩ ∧ wr.cell? ⟨bo, oo + r, none⟩ = some (.int .u16 ((O[r] : Nat) : Int)) := fun h => by
                        obtain ⟨bo, oo, hq, hbo, hco⟩ := HO.out r (by simpa using h)
                        rw [List.getElem_map] at hco
                        exact ⟨bo, oo, hq, (HI.out.below.cell (p := ⟨bo, oo + r, none⟩) (by rw [← HM.out]; exact Nat.lt_of_lt_of_le hbo HB.out.size)).trans ((HB.out.cell (p := ⟨bo, oo + r, none⟩) hbo).trans hco)⟩
                      have HORD := Lib.hid hord
                      clear hcs hget hord hin
                      generalize hpc : piece (txt T i) z k = pc at *
                      generalize hnz : nn T z i = nz at *
                      have HE := Lib.hid (And.intro hpc hnz)
                      clear hpc hnz
                      obtain ⟨w1, hw1⟩ : ∃ w1, w1 = wr.alloc (.cells #[.string (B (fk i)), .bool false, .int .u64 (i : Int), .int .i64 (k : Int), .int .i64 (nz : Int), .string (B pc)] 35) := ⟨_, rfl⟩
                      have hI1 : PlayInv wo m mL (mL + 1) wr.heap.size S L M w1 := by rw [hw1]; exact HI.out.fresh _
                      have hlk := hI1.left.look keyedS Try.underlying38 (zInt w1) (keyB (fk i) (by simp [fk, maxLen]))
                      rw [HLF.out i HIN.out.1] at hlk
                      by_cases hfull : cnt T z G i = nz
                      · have hz0 : (some (Value.int .i64 (((nn T z i - cnt T z G i : Nat)) : Int))).getD (Value.int .i64 0) = .int .i64 0 := by rw [HE.out.2, hfull]; simp
                        rw [hz0] at hlk
                        have HI1 := Lib.hid hI1
                        have HSE1 := Lib.hid (show ∀ (j : Nat) (hj : j < A.length), j + O.length < r + 1 → G A[j].1 A[j].2 = true from fun j hj h => by
                          rcases Nat.lt_or_ge (j + O.length) r with h1 | h1
                          · exact HSE.out j hj h1
                          · rw [HPK.out j hj (HKC.out j (by omega))]
                            exact cnt_all T z G i (by rw [hfull]; exact HE.out.2.symm) k (by rw [HE.out.2]; exact HIN.out.2))
                        have HCM1 := Lib.hid HCM.out.next
                        rw [hw1] at hlk
                        rw [hw1] at HI1
                        clear hI1 hw1 hfull hz0
                        rcases hcase with ⟨hro, hkv⟩ | ⟨hro, hkv⟩
                        · obtain ⟨bo, oo, rfl, hco⟩ := HORD.out hro
                          have hmod : ((O[r] : Nat) : Int) % (A.length : Int) = (kk : Int) := by omega
                          have hos := HO2.out O[r] (List.getElem_mem hro)
                          have t13 : (r : Int) < (O.length : Int) := by omega
                          have t14 : (kk : Int) < (A.length : Int) := by omega
                          generalize O[r] = ox at *
                          clear hkv
                          go_wp2
                          exact ⟨⟨r + 1, G, S, L, M, by go_num, by omega, HI1.out.forget, by have := HLMX.out; omega, HHO.out, HLF.out, HCM1.out, by have := HML.out; omega, HSE1.out⟩, by simp [intOf]; omega⟩
                        · have hsub : (r : Int) - (O.length : Int) = (kk : Int) := by omega
                          have t13 : ¬ (r : Int) < (O.length : Int) := by omega
                          have t14 : (kk : Int) < (A.length : Int) := by omega
                          clear hkv
                          go_wp2
                          exact ⟨⟨r + 1, G, S, L, M, by go_num, by omega, HI1.out.forget, by have := HLMX.out; omega, HHO.out, HLF.out, HCM1.out, by have := HML.out; omega, HSE1.out⟩, by simp [intOf]; omega⟩
                      · have hcl : cnt T z G i < nz := by have := cnt_le T z G i; rw [HE.out.2] at this; omega
                        obtain ⟨lf, hlf⟩ : ∃ lf, lf = nz - cnt T z G i := ⟨_, rfl⟩
                        have hz0 : (some (Value.int .i64 (((nn T z i - cnt T z G i : Nat)) : Int))).getD (Value.int .i64 0) = .int .i64 (lf : Int) := by rw [HE.out.2, hlf]; rfl
                        rw [hz0] at hlk
                        have t15 : ((lf : Int) == 0) = false := beq_eq_false_iff_ne.2 (by omega)
                        have hkeyP : keyOf Try.prog 32 (.agg #[.int .u64 (i : Int), .int .i64 (k : Int), .int .i64 (nz : Int), .string (B pc)]) = some (kp T z i k) := by
                          have h := kp_key T z i k (by have := HT32.out; have := HIN.out.1; omega) (by omega) (by rw [HE.out.2]; exact hn256) (by rw [HE.out.2]; exact HIN.out.2)
                          rw [show partV (partOf (txt T i) i z (nn T z i) k) = .agg #[.int .u64 (i : Int), .int .i64 (k : Int), .int .i64 (nz : Int), .string (B pc)] by rw [← HE.out.1, ← HE.out.2]; rfl] at h
                          exact h
                        have HKP := Lib.hid hkeyP
                        have HLFV := Lib.hid hlf
                        have HI1 := Lib.hid hI1
                        have HCL := Lib.hid hcl
                        have hw1c : w1.cell? ⟨wr.heap.size, 0, none⟩ = some (.string (B (fk i))) ∧ w1.cell? ⟨wr.heap.size, 2, none⟩ = some (.int .u64 (i : Int)) ∧ w1.cell? ⟨wr.heap.size, 3, none⟩ = some (.int .i64 (k : Int)) ∧ w1.cell? ⟨wr.heap.size, 4, none⟩ = some (.int .i64 (nz : Int)) ∧ w1.cell? ⟨wr.heap.size, 5, none⟩ = some (.string (B pc)) := by
                          have h := cells_made wr #[.string (B (fk i)), .bool false, .int .u64 (i : Int), .int .i64 (k : Int), .int .i64 (nz : Int), .string (B pc)] 35
                          rw [← hw1] at h
                          exact ⟨(h 0 (by show 0 < 6; omega)).1, (h 2 (by show 2 < 6; omega)).1, (h 3 (by show 3 < 6; omega)).1, (h 4 (by show 4 < 6; omega)).1, (h 5 (by show 5 < 6; omega)).1⟩
                        have HWC := Lib.hid hw1c
                        have HW1 := Lib.hid hw1
                        rw [hw1] at hlk
                        clear hz0 hlf hfull hcl hI1 hw1c hw1 hkeyP
                        rcases hcase with ⟨hro, hkv⟩ | ⟨hro, hkv⟩
                        · obtain ⟨bo, oo, rfl, hco⟩ := HORD.out hro
                          have hmod : ((O[r] : Nat) : Int) % (A.length : Int) = (kk : Int) := by omega
                          have hos := HO2.out O[r] (List.getElem_mem hro)
                          have t13 : (r : Int) < (O.length : Int) := by omega
                          have t14 : (kk : Int) < (A.length : Int) := by omega
                          generalize O[r] = ox at *
                          clear hkv
                          go_wp2
                          rw [← HW1.out]
                          clear hlk c0 c1 c2 c3 c4 c5 hmod hos
                          have hgot : (G i k = false ∧ lookL M (kp T z i k) = none) ∨ (G i k = true ∧ ∃ c : Nat, 1 ≤ c ∧ c ≤ r ∧ lookL M (kp T z i k) = some (.int .i64 (c : Int))) := by
                            obtain ⟨h1, h2⟩ := HCM.out i k HIN.out.1 (by rw [HE.out.2]; exact HIN.out.2)
                            cases hg2 : G i k with
                            | false => exact .inl ⟨rfl, h1 hg2⟩
                            | true => exact .inr ⟨rfl, h2 hg2⟩
                          obtain ⟨cN, hcN, hcr, hc0⟩ : ∃ cN : Nat, (lookL M (kp T z i k)).getD (.int .i64 0) = .int .i64 (cN : Int) ∧ cN ≤ r ∧ (cN = 0 ↔ G i k = false) := by
                            rcases hgot with ⟨h1, h2⟩ | ⟨h1, c, h2, h3, h4⟩
                            · exact ⟨0, by rw [h2]; rfl, Nat.zero_le _, by simp [h1]⟩
                            · exact ⟨c, by rw [h4]; rfl, h3, by rw [h1]; simp; omega⟩
                          have HI1D := Lib.hid (HI1.out.later ((Below.refl _ w1).drew))
                          obtain ⟨v, st, w2, hme, htu, hlk2, hst⟩ := HI1D.out.came.entry lawP Try.underlying39 (by unfold maxLen; have := HML.out; omega) (fun u => zInt u) HKP.out
                          obtain ⟨w3, hes, hM3, htu3⟩ := hst w2 (.int .i64 ((cN : Int) + 1)) rfl
                          have hlk1 := HI1D.out.came.look keyedP Try.underlying39 (zInt w1.drew) HKP.out
                          rw [hcN] at hlk1 hlk2
                          have hI2 := HI1D.out.turn htu (.inr rfl)
                          have HTU := Lib.hid htu
                          have HTU3 := Lib.hid htu3
                          have HI3 := Lib.hid (show PlayInv wo m mL (mL + 1) wr.heap.size S L (putL M (kp T z i k) (.int .i64 ((cN : Int) + 1))) w3 from PlayInv.turned2 HI1D.out htu htu3 hM3)
                          have hC := HWC.out
                          obtain ⟨d0, d2, d3, d4, d5⟩ := hC
                          have HCN := Lib.hid (And.intro hcr hc0)
                          have HGOT := Lib.hid hgot
                          simp only [goInt] at hme hes
                          have hcb : (cN : Int) ≤ 9000 := by omega
                          clear hst hM3 htu htu3 hI2 hgot hcr hc0 hcN
                          have hw64 : IntKind.i64.wrap ((cN : Int) + 1) = (cN : Int) + 1 := IntWalk.i64_in _ (by omega)
                          generalize hX : wr.heap.size = X at *
                          go_region
                          all_goals
                            clear hme hlk1 hlk2 hes d0 d2 d3 d4 d5 hcb hw64
                            have hXm : X ≠ mL + 1 := by have := HI.out.came.lt; rw [hX] at this; omega
                            have hd := fun c => (turned_cell HTU3.out ⟨X, c, none⟩ hXm).trans (turned_cell HTU.out ⟨X, c, none⟩ hXm)
                            obtain ⟨d0, d2, d3, d4, d5⟩ := HWC.out
                            replace d0 := (hd 0).trans d0
                            replace d2 := (hd 2).trans d2
                            replace d3 := (hd 3).trans d3
                            replace d4 := (hd 4).trans d4
                            replace d5 := (hd 5).trans d5
                            have HD := Lib.hid (And.intro d0 (And.intro d2 (And.intro d3 (And.intro d4 d5))))
                            have hlk3 := HI3.out.came.look keyedP Try.underlying39 (zInt w3) HKP.out
                            rw [look_put_same M _ (show WideAt.IsKeyLit (kp T z i k) from trivial)] at hlk3
                            replace hlk3 : (Instr.lookup 39 (.map (some (mL + 1))) (.agg #[.int .u64 (i : Int), .int .i64 (k : Int), .int .i64 (nz : Int), .string (B pc)]) false).run Try.prog w3 = .ok (.int .i64 ((cN : Int) + 1)) w3 := hlk3
                            have HCM3 := Lib.hid (HCM.out.put HT32.out (by omega) (fun j hj => HNN.out j hj) i k cN HIN.out.1 (by rw [HE.out.2]; exact HIN.out.2) HCN.out.1)
                            have HSE3 := Lib.hid (show ∀ (j : Nat) (hj : j < A.length), j + O.length < r + 1 → G.put i k A[j].1 A[j].2 = true from fun j hj h => by
                              rcases Nat.lt_or_ge (j + O.length) r with h1 | h1
                              · have h2 := HSE.out j hj h1
                                unfold Came.put
                                split
                                · rfl
                                · exact h2
                              · rw [HPK.out j hj (HKC.out j (by omega))]
                                exact put_here G i k)
                            have HML3 := Lib.hid (show (putL M (kp T z i k) (Value.int .i64 ((cN : Int) + 1))).length ≤ r + 1 from Nat.le_trans (put_le _ _ _) (by have := HML.out; omega))
                            obtain ⟨w4, L4, hLL4, hI4, hL4, hD4, hgo⟩ : ∃ w4 L4, L4.length ≤ 8192 + (r + 1) ∧ PlayInv wo m mL (mL + 1) X S L4 (putL M (kp T z i k) (Value.int .i64 ((cN : Int) + 1))) w4 ∧ LeftOk T z L4 (G.put i k) ∧ (∀ c, w4.cell? ⟨X, c, none⟩ = w3.cell? ⟨X, c, none⟩) ∧
                                ((G i k = true ∧ w4 = w3) ∨ (cN = 0 ∧ (Instr.lookup 38 (.map (some mL)) (.string (B (fk i))) false).run Try.prog w3 = .ok (.int .i64 (lf : Int)) w3 ∧ (Instr.mapUpdate 38 (.map (some mL)) (.string (B (fk i))) (.int .i64 ((lf : Int) - 1))).run Try.prog w3 = .ok () w4)) := by
                              cases hg2 : G i k with
                              | true => exact ⟨w3, L, by have := HLMX.out; omega, HI3.out, by rw [put_old G i k hg2]; exact HLF.out, fun _ => rfl, .inl ⟨rfl, rfl⟩⟩
                              | false =>
                                have hlk4 := HI3.out.left.look keyedS Try.underlying38 (zInt w3) (keyB (fk i) (by simp [fk, maxLen]))
                                rw [HLF.out i HIN.out.1] at hlk4
                                obtain ⟨w4, hrun4, hM4, htu4⟩ := HI3.out.left.store keyedS Try.underlying38 HLMAX.out (keyB (fk i) (by simp [fk, maxLen])) (val := .int .i64 ((lf : Int) - 1))
                                have hXl : X ≠ mL := by have := HI.out.left.lt; rw [hX] at this; omega
                                refine ⟨w4, _, Nat.le_trans (put_le _ _ _) (by have := HLMX.out; omega), HI3.out.turnL hM4 htu4, HLF.out.put HT32.out i k lf HIN.out.1 (by rw [HE.out.2]; exact HIN.out.2) hg2 (by rw [HE.out.2]; exact HLFV.out.symm), fun c => turned_cell htu4 ⟨X, c, none⟩ hXl, .inr ⟨HCN.out.2.2 hg2, ?_, hrun4⟩⟩
                                rw [hlk4, HE.out.2, ← HLFV.out]; rfl
                            obtain ⟨S', hsp, hho⟩ := sput_whole T z S G i k HT32.out HIN.out.1 (by omega) (by omega) (by rw [HE.out.2]; exact hn256) (by rw [HE.out.2]; exact HIN.out.2) (by rw [HE.out.2]; exact HCL.out) hI4.pair HHO.out
                            have hput := hI4.put_calls (lt_of_cell ((hD4 0).trans HD.out.1)) (fk i) (partOf (txt T i) i z (nn T z i) k) (by simp [fk, maxLen]) (by simp only [partOf]; have := HIN.out.2; omega) (by simp only [partOf]; rw [HE.out.2]; omega) (by simp only [partOf]; rw [HE.out.1]; unfold maxLen; have := HPC.out; omega)
                            rw [hsp, show partV (partOf (txt T i) i z (nn T z i) k) = .agg #[.int .u64 (i : Int), .int .i64 (k : Int), .int .i64 (nz : Int), .string (B pc)] by rw [← HE.out.1, ← HE.out.2]; rfl] at hput
                            have HTX := Lib.hid (show ∀ W, Below m wo W → ∃ bt ot, p = some ⟨bt, ot, none⟩ ∧ W.cell? ⟨bt, ot + i, none⟩ = some (.string (B (txt T i))) from fun W hW => by
                              obtain ⟨bt, ot, hp, hbt, hct⟩ := HA.out i (by simpa using HIN.out.1)
                              rw [List.getElem_map] at hct
                              have htx : T[i]'HIN.out.1 = txt T i := by simp [txt, HIN.out.1]
                              rw [htx] at hct
                              exact ⟨bt, ot, hp, (hW.cell (p := ⟨bt, ot + i, none⟩) (by rw [← HM.out]; exact Nat.lt_of_lt_of_le hbt HB.out.size)).trans ((HB.out.cell (p := ⟨bt, ot + i, none⟩) hbt).trans hct)⟩)
                            have e0 := (hD4 0).trans d0
                            have e2 := (hD4 2).trans d2
                            have e3 := (hD4 3).trans d3
                            have e4 := (hD4 4).trans d4
                            have e5 := (hD4 5).trans d5
                            have HE4 := Lib.hid (And.intro e0 e2)
                            have HL4 := Lib.hid hL4
                            have HHO4 := Lib.hid hho
                            have HLL4 := Lib.hid hLL4
                            have tiT : (i : Int) < (T.length : Int) := by have := HIN.out.1; omega
                            have HPUT := Lib.hid hput
                            clear hput hsp hI4 hL4 hho hLL4 hD4 hd
                            by_cases hwh : cnt T z (G.put i k) i = nn T z i
                            · rw [if_pos hwh] at HPUT
                              rcases hgo with ⟨hg1, rfl⟩ | ⟨hcz, hlk4, hup4⟩
                              · have hcpos : 1 ≤ cN := by
                                  rcases Nat.eq_zero_or_pos cN with h | h
                                  · exact absurd (HCN.out.2.1 h) (by rw [hg1]; decide)
                                  · exact h
                                have t16 : ((cN : Int) + 1 == 1) = false := beq_eq_false_iff_ne.2 (by omega)
                                go_wp2_with fail
                                refine HPUT.out.mono ?_
                                clear HPUT e0 e2 e3 e4 e5
                                rintro e w5 ⟨rfl, hI5, hD5⟩
                                obtain ⟨bt, ot, rfl, hct⟩ := HTX.out w5 hI5.below
                                have e0 := (hD5 0).trans HE4.out.1
                                have e2 := (hD5 2).trans HE4.out.2
                                have hlk5 := hI5.left.look keyedS Try.underlying38 (zInt w5) (keyB (fk i) (by simp [fk, maxLen]))
                                rw [HL4.out i HIN.out.1] at hlk5
                                replace hlk5 : (Instr.lookup 38 (.map (some mL)) (.string (B (fk i))) false).run Try.prog w5 = .ok (.int .i64 0) w5 := by rw [hlk5, hwh]; simp
                                have HI5 := Lib.hid hI5.forget
                                clear hI5 hD5
                                unfold putV
                                simp only
                                go_wp2
                                go_roundw
                                case rel => first | exact ⟨r + 1, _, _, _, _, by go_num, by omega, HI5.out, HLL4.out, HHO4.out, HL4.out, HCM3.out, HML3.out, HSE3.out⟩ | ((repeat apply Exists.intro); exact ⟨⟨r + 1, _, _, _, _, by go_num, by omega, HI5.out, HLL4.out, HHO4.out, HL4.out, HCM3.out, HML3.out, HSE3.out⟩, rfl⟩)
                                case measure => simp [intOf]; omega
                              · subst hcz
                                have t17 : (1 : Int) ≤ (lf : Int) := by have h1 := HLFV.out; have h2 := HCL.out; omega
                                have t18 : (lf : Int) ≤ 256 := by have h1 := HLFV.out; omega
                                go_wp2_with fail
                                refine HPUT.out.mono ?_
                                clear HPUT e0 e2 e3 e4 e5
                                rintro e w5 ⟨rfl, hI5, hD5⟩
                                obtain ⟨bt, ot, rfl, hct⟩ := HTX.out w5 hI5.below
                                have e0 := (hD5 0).trans HE4.out.1
                                have e2 := (hD5 2).trans HE4.out.2
                                have hlk5 := hI5.left.look keyedS Try.underlying38 (zInt w5) (keyB (fk i) (by simp [fk, maxLen]))
                                rw [HL4.out i HIN.out.1] at hlk5
                                replace hlk5 : (Instr.lookup 38 (.map (some mL)) (.string (B (fk i))) false).run Try.prog w5 = .ok (.int .i64 0) w5 := by rw [hlk5, hwh]; simp
                                have HI5 := Lib.hid hI5.forget
                                clear hI5 hD5
                                unfold putV
                                simp only
                                go_wp2
                                go_roundw
                                case rel => first | exact ⟨r + 1, _, _, _, _, by go_num, by omega, HI5.out, HLL4.out, HHO4.out, HL4.out, HCM3.out, HML3.out, HSE3.out⟩ | ((repeat apply Exists.intro); exact ⟨⟨r + 1, _, _, _, _, by go_num, by omega, HI5.out, HLL4.out, HHO4.out, HL4.out, HCM3.out, HML3.out, HSE3.out⟩, rfl⟩)
                                case measure => simp [intOf]; omega
                            · rw [if_neg hwh] at HPUT
                              rcases hgo with ⟨hg1, rfl⟩ | ⟨hcz, hlk4, hup4⟩
                              · have hcpos : 1 ≤ cN := by
                                  rcases Nat.eq_zero_or_pos cN with h | h
                                  · exact absurd (HCN.out.2.1 h) (by rw [hg1]; decide)
                                  · exact h
                                have t16 : ((cN : Int) + 1 == 1) = false := beq_eq_false_iff_ne.2 (by omega)
                                go_wp2_with fail
                                refine HPUT.out.mono ?_
                                clear HPUT e0 e2 e3 e4 e5
                                rintro e w5 ⟨rfl, hI5, hD5⟩
                                obtain ⟨bt, ot, rfl, hct⟩ := HTX.out w5 hI5.below
                                have e0 := (hD5 0).trans HE4.out.1
                                have e2 := (hD5 2).trans HE4.out.2
                                have hlk5 := hI5.left.look keyedS Try.underlying38 (zInt w5) (keyB (fk i) (by simp [fk, maxLen]))
                                rw [HL4.out i HIN.out.1] at hlk5
                                have hne : ((((nn T z i - cnt T z (G.put i k) i : Nat)) : Int) == 0) = false := beq_eq_false_iff_ne.2 (by have := cnt_le T z (G.put i k) i; omega)
                                replace hlk5 : (Instr.lookup 38 (.map (some mL)) (.string (B (fk i))) false).run Try.prog w5 = .ok (.int .i64 (((nn T z i - cnt T z (G.put i k) i : Nat)) : Int)) w5 := hlk5
                                generalize nn T z i - cnt T z (G.put i k) i = lf2 at *
                                have HI5 := Lib.hid hI5.forget
                                clear hI5 hD5
                                unfold putV
                                simp only
                                go_wp2
                                go_roundw
                                case rel => first | exact ⟨r + 1, _, _, _, _, by go_num, by omega, HI5.out, HLL4.out, HHO4.out, HL4.out, HCM3.out, HML3.out, HSE3.out⟩ | ((repeat apply Exists.intro); exact ⟨⟨r + 1, _, _, _, _, by go_num, by omega, HI5.out, HLL4.out, HHO4.out, HL4.out, HCM3.out, HML3.out, HSE3.out⟩, rfl⟩)
                                case measure => simp [intOf]; omega
                              · subst hcz
                                have t17 : (1 : Int) ≤ (lf : Int) := by have h1 := HLFV.out; have h2 := HCL.out; omega
                                have t18 : (lf : Int) ≤ 256 := by have h1 := HLFV.out; omega
                                go_wp2_with fail
                                refine HPUT.out.mono ?_
                                clear HPUT e0 e2 e3 e4 e5
                                rintro e w5 ⟨rfl, hI5, hD5⟩
                                obtain ⟨bt, ot, rfl, hct⟩ := HTX.out w5 hI5.below
                                have e0 := (hD5 0).trans HE4.out.1
                                have e2 := (hD5 2).trans HE4.out.2
                                have hlk5 := hI5.left.look keyedS Try.underlying38 (zInt w5) (keyB (fk i) (by simp [fk, maxLen]))
                                rw [HL4.out i HIN.out.1] at hlk5
                                have hne : ((((nn T z i - cnt T z (G.put i k) i : Nat)) : Int) == 0) = false := beq_eq_false_iff_ne.2 (by have := cnt_le T z (G.put i k) i; omega)
                                replace hlk5 : (Instr.lookup 38 (.map (some mL)) (.string (B (fk i))) false).run Try.prog w5 = .ok (.int .i64 (((nn T z i - cnt T z (G.put i k) i : Nat)) : Int)) w5 := hlk5
                                generalize nn T z i - cnt T z (G.put i k) i = lf2 at *
                                have HI5 := Lib.hid hI5.forget
                                clear hI5 hD5
                                unfold putV
                                simp only
                                go_wp2
                                go_roundw
                                case rel => first | exact ⟨r + 1, _, _, _, _, by go_num, by omega, HI5.out, HLL4.out, HHO4.out, HL4.out, HCM3.out, HML3.out, HSE3.out⟩ | ((repeat apply Exists.intro); exact ⟨⟨r + 1, _, _, _, _, by go_num, by omega, HI5.out, HLL4.out, HHO4.out, HL4.out, HCM3.out, HML3.out, HSE3.out⟩, rfl⟩)
                                case measure => simp [intOf]; omega
                        · have hsub : (r : Int) - (O.length : Int) = (kk : Int) := by omega
                          have t13 : ¬ (r : Int) < (O.length : Int) := by omega
                          have t14 : (kk : Int) < (A.length : Int) := by omega
                          clear hkv
                          go_wp2
                          rw [← HW1.out]
                          clear hlk c0 c1 c2 c3 c4 c5 hsub
                          have hgot : (G i k = false ∧ lookL M (kp T z i k) = none) ∨ (G i k = true ∧ ∃ c : Nat, 1 ≤ c ∧ c ≤ r ∧ lookL M (kp T z i k) = some (.int .i64 (c : Int))) := by
                            obtain ⟨h1, h2⟩ := HCM.out i k HIN.out.1 (by rw [HE.out.2]; exact HIN.out.2)
                            cases hg2 : G i k with
                            | false => exact .inl ⟨rfl, h1 hg2⟩
                            | true => exact .inr ⟨rfl, h2 hg2⟩
                          obtain ⟨cN, hcN, hcr, hc0⟩ : ∃ cN : Nat, (lookL M (kp T z i k)).getD (.int .i64 0) = .int .i64 (cN : Int) ∧ cN ≤ r ∧ (cN = 0 ↔ G i k = false) := by
                            rcases hgot with ⟨h1, h2⟩ | ⟨h1, c, h2, h3, h4⟩
                            · exact ⟨0, by rw [h2]; rfl, Nat.zero_le _, by simp [h1]⟩
                            · exact ⟨c, by rw [h4]; rfl, h3, by rw [h1]; simp; omega⟩
                          have HI1D := Lib.hid (HI1.out.later ((Below.refl _ w1).drew))
                          obtain ⟨v, st, w2, hme, htu, hlk2, hst⟩ := HI1D.out.came.entry lawP Try.underlying39 (by unfold maxLen; have := HML.out; omega) (fun u => zInt u) HKP.out
                          obtain ⟨w3, hes, hM3, htu3⟩ := hst w2 (.int .i64 ((cN : Int) + 1)) rfl
                          have hlk1 := HI1D.out.came.look keyedP Try.underlying39 (zInt w1.drew) HKP.out
                          rw [hcN] at hlk1 hlk2
                          have hI2 := HI1D.out.turn htu (.inr rfl)
                          have HTU := Lib.hid htu
                          have HTU3 := Lib.hid htu3
                          have HI3 := Lib.hid (show PlayInv wo m mL (mL + 1) wr.heap.size S L (putL M (kp T z i k) (.int .i64 ((cN : Int) + 1))) w3 from PlayInv.turned2 HI1D.out htu htu3 hM3)
                          have hC := HWC.out
                          obtain ⟨d0, d2, d3, d4, d5⟩ := hC
                          have HCN := Lib.hid (And.intro hcr hc0)
                          have HGOT := Lib.hid hgot
                          simp only [goInt] at hme hes
                          have hcb : (cN : Int) ≤ 9000 := by omega
                          clear hst hM3 htu htu3 hI2 hgot hcr hc0 hcN
                          have hw64 : IntKind.i64.wrap ((cN : Int) + 1) = (cN : Int) + 1 := IntWalk.i64_in _ (by omega)
                          generalize hX : wr.heap.size = X at *
                          go_region
                          all_goals
                            clear hme hlk1 hlk2 hes d0 d2 d3 d4 d5 hcb hw64
                            have hXm : X ≠ mL + 1 := by have := HI.out.came.lt; rw [hX] at this; omega
                            have hd := fun c => (turned_cell HTU3.out ⟨X, c, none⟩ hXm).trans (turned_cell HTU.out ⟨X, c, none⟩ hXm)
                            obtain ⟨d0, d2, d3, d4, d5⟩ := HWC.out
                            replace d0 := (hd 0).trans d0
                            replace d2 := (hd 2).trans d2
                            replace d3 := (hd 3).trans d3
                            replace d4 := (hd 4).trans d4
                            replace d5 := (hd 5).trans d5
                            have HD := Lib.hid (And.intro d0 (And.intro d2 (And.intro d3 (And.intro d4 d5))))
                            have hlk3 := HI3.out.came.look keyedP Try.underlying39 (zInt w3) HKP.out
                            rw [look_put_same M _ (show WideAt.IsKeyLit (kp T z i k) from trivial)] at hlk3
                            replace hlk3 : (Instr.lookup 39 (.map (some (mL + 1))) (.agg #[.int .u64 (i : Int), .int .i64 (k : Int), .int .i64 (nz : Int), .string (B pc)]) false).run Try.prog w3 = .ok (.int .i64 ((cN : Int) + 1)) w3 := hlk3
                            have HCM3 := Lib.hid (HCM.out.put HT32.out (by omega) (fun j hj => HNN.out j hj) i k cN HIN.out.1 (by rw [HE.out.2]; exact HIN.out.2) HCN.out.1)
                            have HSE3 := Lib.hid (show ∀ (j : Nat) (hj : j < A.length), j + O.length < r + 1 → G.put i k A[j].1 A[j].2 = true from fun j hj h => by
                              rcases Nat.lt_or_ge (j + O.length) r with h1 | h1
                              · have h2 := HSE.out j hj h1
                                unfold Came.put
                                split
                                · rfl
                                · exact h2
                              · rw [HPK.out j hj (HKC.out j (by omega))]
                                exact put_here G i k)
                            have HML3 := Lib.hid (show (putL M (kp T z i k) (Value.int .i64 ((cN : Int) + 1))).length ≤ r + 1 from Nat.le_trans (put_le _ _ _) (by have := HML.out; omega))
                            obtain ⟨w4, L4, hLL4, hI4, hL4, hD4, hgo⟩ : ∃ w4 L4, L4.length ≤ 8192 + (r + 1) ∧ PlayInv wo m mL (mL + 1) X S L4 (putL M (kp T z i k) (Value.int .i64 ((cN : Int) + 1))) w4 ∧ LeftOk T z L4 (G.put i k) ∧ (∀ c, w4.cell? ⟨X, c, none⟩ = w3.cell? ⟨X, c, none⟩) ∧
                                ((G i k = true ∧ w4 = w3) ∨ (cN = 0 ∧ (Instr.lookup 38 (.map (some mL)) (.string (B (fk i))) false).run Try.prog w3 = .ok (.int .i64 (lf : Int)) w3 ∧ (Instr.mapUpdate 38 (.map (some mL)) (.string (B (fk i))) (.int .i64 ((lf : Int) - 1))).run Try.prog w3 = .ok () w4)) := by
                              cases hg2 : G i k with
                              | true => exact ⟨w3, L, by have := HLMX.out; omega, HI3.out, by rw [put_old G i k hg2]; exact HLF.out, fun _ => rfl, .inl ⟨rfl, rfl⟩⟩
                              | false =>
                                have hlk4 := HI3.out.left.look keyedS Try.underlying38 (zInt w3) (keyB (fk i) (by simp [fk, maxLen]))
                                rw [HLF.out i HIN.out.1] at hlk4
                                obtain ⟨w4, hrun4, hM4, htu4⟩ := HI3.out.left.store keyedS Try.underlying38 HLMAX.out (keyB (fk i) (by simp [fk, maxLen])) (val := .int .i64 ((lf : Int) - 1))
                                have hXl : X ≠ mL := by have := HI.out.left.lt; rw [hX] at this; omega
                                refine ⟨w4, _, Nat.le_trans (put_le _ _ _) (by have := HLMX.out; omega), HI3.out.turnL hM4 htu4, HLF.out.put HT32.out i k lf HIN.out.1 (by rw [HE.out.2]; exact HIN.out.2) hg2 (by rw [HE.out.2]; exact HLFV.out.symm), fun c => turned_cell htu4 ⟨X, c, none⟩ hXl, .inr ⟨HCN.out.2.2 hg2, ?_, hrun4⟩⟩
                                rw [hlk4, HE.out.2, ← HLFV.out]; rfl
                            obtain ⟨S', hsp, hho⟩ := sput_whole T z S G i k HT32.out HIN.out.1 (by omega) (by omega) (by rw [HE.out.2]; exact hn256) (by rw [HE.out.2]; exact HIN.out.2) (by rw [HE.out.2]; exact HCL.out) hI4.pair HHO.out
                            have hput := hI4.put_calls (lt_of_cell ((hD4 0).trans HD.out.1)) (fk i) (partOf (txt T i) i z (nn T z i) k) (by simp [fk, maxLen]) (by simp only [partOf]; have := HIN.out.2; omega) (by simp only [partOf]; rw [HE.out.2]; omega) (by simp only [partOf]; rw [HE.out.1]; unfold maxLen; have := HPC.out; omega)
                            rw [hsp, show partV (partOf (txt T i) i z (nn T z i) k) = .agg #[.int .u64 (i : Int), .int .i64 (k : Int), .int .i64 (nz : Int), .string (B pc)] by rw [← HE.out.1, ← HE.out.2]; rfl] at hput
                            have HTX := Lib.hid (show ∀ W, Below m wo W → ∃ bt ot, p = some ⟨bt, ot, none⟩ ∧ W.cell? ⟨bt, ot + i, none⟩ = some (.string (B (txt T i))) from fun W hW => by
                              obtain ⟨bt, ot, hp, hbt, hct⟩ := HA.out i (by simpa using HIN.out.1)
                              rw [List.getElem_map] at hct
                              have htx : T[i]'HIN.out.1 = txt T i := by simp [txt, HIN.out.1]
                              rw [htx] at hct
                              exact ⟨bt, ot, hp, (hW.cell (p := ⟨bt, ot + i, none⟩) (by rw [← HM.out]; exact Nat.lt_of_lt_of_le hbt HB.out.size)).trans ((HB.out.cell (p := ⟨bt, ot + i, none⟩) hbt).trans hct)⟩)
                            have e0 := (hD4 0).trans d0
                            have e2 := (hD4 2).trans d2
                            have e3 := (hD4 3).trans d3
                            have e4 := (hD4 4).trans d4
                            have e5 := (hD4 5).trans d5
                            have HE4 := Lib.hid (And.intro e0 e2)
                            have HL4 := Lib.hid hL4
                            have HHO4 := Lib.hid hho
                            have HLL4 := Lib.hid hLL4
                            have tiT : (i : Int) < (T.length : Int) := by have := HIN.out.1; omega
                            have HPUT := Lib.hid hput
                            clear hput hsp hI4 hL4 hho hLL4 hD4 hd
                            by_cases hwh : cnt T z (G.put i k) i = nn T z i
                            · rw [if_pos hwh] at HPUT
                              rcases hgo with ⟨hg1, rfl⟩ | ⟨hcz, hlk4, hup4⟩
                              · have hcpos : 1 ≤ cN := by
                                  rcases Nat.eq_zero_or_pos cN with h | h
                                  · exact absurd (HCN.out.2.1 h) (by rw [hg1]; decide)
                                  · exact h
                                have t16 : ((cN : Int) + 1 == 1) = false := beq_eq_false_iff_ne.2 (by omega)
                                go_wp2_with fail
                                refine HPUT.out.mono ?_
                                clear HPUT e0 e2 e3 e4 e5
                                rintro e w5 ⟨rfl, hI5, hD5⟩
                                obtain ⟨bt, ot, rfl, hct⟩ := HTX.out w5 hI5.below
                                have e0 := (hD5 0).trans HE4.out.1
                                have e2 := (hD5 2).trans HE4.out.2
                                have hlk5 := hI5.left.look keyedS Try.underlying38 (zInt w5) (keyB (fk i) (by simp [fk, maxLen]))
                                rw [HL4.out i HIN.out.1] at hlk5
                                replace hlk5 : (Instr.lookup 38 (.map (some mL)) (.string (B (fk i))) false).run Try.prog w5 = .ok (.int .i64 0) w5 := by rw [hlk5, hwh]; simp
                                have HI5 := Lib.hid hI5.forget
                                clear hI5 hD5
                                unfold putV
                                simp only
                                go_wp2
                                go_roundw
                                case rel => first | exact ⟨r + 1, _, _, _, _, by go_num, by omega, HI5.out, HLL4.out, HHO4.out, HL4.out, HCM3.out, HML3.out, HSE3.out⟩ | ((repeat apply Exists.intro); exact ⟨⟨r + 1, _, _, _, _, by go_num, by omega, HI5.out, HLL4.out, HHO4.out, HL4.out, HCM3.out, HML3.out, HSE3.out⟩, rfl⟩)
                                case measure => simp [intOf]; omega
                              · subst hcz
                                have t17 : (1 : Int) ≤ (lf : Int) := by have h1 := HLFV.out; have h2 := HCL.out; omega
                                have t18 : (lf : Int) ≤ 256 := by have h1 := HLFV.out; omega
                                go_wp2_with fail
                                refine HPUT.out.mono ?_
                                clear HPUT e0 e2 e3 e4 e5
                                rintro e w5 ⟨rfl, hI5, hD5⟩
                                obtain ⟨bt, ot, rfl, hct⟩ := HTX.out w5 hI5.below
                                have e0 := (hD5 0).trans HE4.out.1
                                have e2 := (hD5 2).trans HE4.out.2
                                have hlk5 := hI5.left.look keyedS Try.underlying38 (zInt w5) (keyB (fk i) (by simp [fk, maxLen]))
                                rw [HL4.out i HIN.out.1] at hlk5
                                replace hlk5 : (Instr.lookup 38 (.map (some mL)) (.string (B (fk i))) false).run Try.prog w5 = .ok (.int .i64 0) w5 := by rw [hlk5, hwh]; simp
                                have HI5 := Lib.hid hI5.forget
                                clear hI5 hD5
                                unfold putV
                                simp only
                                go_wp2
                                go_roundw
                                case rel => first | exact ⟨r + 1, _, _, _, _, by go_num, by omega, HI5.out, HLL4.out, HHO4.out, HL4.out, HCM3.out, HML3.out, HSE3.out⟩ | ((repeat apply Exists.intro); exact ⟨⟨r + 1, _, _, _, _, by go_num, by omega, HI5.out, HLL4.out, HHO4.out, HL4.out, HCM3.out, HML3.out, HSE3.out⟩, rfl⟩)
                                case measure => simp [intOf]; omega
                            · rw [if_neg hwh] at HPUT
                              rcases hgo with ⟨hg1, rfl⟩ | ⟨hcz, hlk4, hup4⟩
                              · have hcpos : 1 ≤ cN := by
                                  rcases Nat.eq_zero_or_pos cN with h | h
                                  · exact absurd (HCN.out.2.1 h) (by rw [hg1]; decide)
                                  · exact h
                                have t16 : ((cN : Int) + 1 == 1) = false := beq_eq_false_iff_ne.2 (by omega)
                                go_wp2_with fail
                                refine HPUT.out.mono ?_
                                clear HPUT e0 e2 e3 e4 e5
                                rintro e w5 ⟨rfl, hI5, hD5⟩
                                obtain ⟨bt, ot, rfl, hct⟩ := HTX.out w5 hI5.below
                                have e0 := (hD5 0).trans HE4.out.1
                                have e2 := (hD5 2).trans HE4.out.2
                                have hlk5 := hI5.left.look keyedS Try.underlying38 (zInt w5) (keyB (fk i) (by simp [fk, maxLen]))
                                rw [HL4.out i HIN.out.1] at hlk5
                                have hne : ((((nn T z i - cnt T z (G.put i k) i : Nat)) : Int) == 0) = false := beq_eq_false_iff_ne.2 (by have := cnt_le T z (G.put i k) i; omega)
                                replace hlk5 : (Instr.lookup 38 (.map (some mL)) (.string (B (fk i))) false).run Try.prog w5 = .ok (.int .i64 (((nn T z i - cnt T z (G.put i k) i : Nat)) : Int)) w5 := hlk5
                                generalize nn T z i - cnt T z (G.put i k) i = lf2 at *
                                have HI5 := Lib.hid hI5.forget
                                clear hI5 hD5
                                unfold putV
                                simp only
                                go_wp2
                                go_roundw
                                case rel => first | exact ⟨r + 1, _, _, _, _, by go_num, by omega, HI5.out, HLL4.out, HHO4.out, HL4.out, HCM3.out, HML3.out, HSE3.out⟩ | ((repeat apply Exists.intro); exact ⟨⟨r + 1, _, _, _, _, by go_num, by omega, HI5.out, HLL4.out, HHO4.out, HL4.out, HCM3.out, HML3.out, HSE3.out⟩, rfl⟩)
                                case measure => simp [intOf]; omega
                              · subst hcz
                                have t17 : (1 : Int) ≤ (lf : Int) := by have h1 := HLFV.out; have h2 := HCL.out; omega
                                have t18 : (lf : Int) ≤ 256 := by have h1 := HLFV.out; omega
                                go_wp2_with fail
                                refine HPUT.out.mono ?_
                                clear HPUT e0 e2 e3 e4 e5
                                rintro e w5 ⟨rfl, hI5, hD5⟩
                                obtain ⟨bt, ot, rfl, hct⟩ := HTX.out w5 hI5.below
                                have e0 := (hD5 0).trans HE4.out.1
                                have e2 := (hD5 2).trans HE4.out.2
                                have hlk5 := hI5.left.look keyedS Try.underlying38 (zInt w5) (keyB (fk i) (by simp [fk, maxLen]))
                                rw [HL4.out i HIN.out.1] at hlk5
                                have hne : ((((nn T z i - cnt T z (G.put i k) i : Nat)) : Int) == 0) = false := beq_eq_false_iff_ne.2 (by have := cnt_le T z (G.put i k) i; omega)
                                replace hlk5 : (Instr.lookup 38 (.map (some mL)) (.string (B (fk i))) false).run Try.prog w5 = .ok (.int .i64 (((nn T z i - cnt T z (G.put i k) i : Nat)) : Int)) w5 := hlk5
                                generalize nn T z i - cnt T z (G.put i k) i = lf2 at *
                                have HI5 := Lib.hid hI5.forget
                                clear hI5 hD5
                                unfold putV
                                simp only
                                go_wp2
                                go_roundw
                                case rel => first | exact ⟨r + 1, _, _, _, _, by go_num, by omega, HI5.out, HLL4.out, HHO4.out, HL4.out, HCM3.out, HML3.out, HSE3.out⟩ | ((repeat apply Exists.intro); exact ⟨⟨r + 1, _, _, _, _, by go_num, by omega, HI5.out, HLL4.out, HHO4.out, HL4.out, HCM3.out, HML3.out, HSE3.out⟩, rfl⟩)
                                case measure => simp [intOf]; omega
                    · have hS : S = [] := holds_end T z S G HHO.out fun i hi => cnt_full T z G i fun k hk => by
                        have hm : (i, k) ∈ A := by rw [← HAA.out]; exact (steps_mem T z T.length i k).2 ⟨hi, hk⟩
                        obtain ⟨j, hj, he⟩ := List.getElem_of_mem hm
                        have h := HSE.out j hj (by omega)
                        rw [he] at h
                        exact h
                      subst hS
                      have t11 : ¬ (r : Int) < (O.length : Int) + (A.length : Int) := by omega
                      have hal := HAL.out
                      have HLN := Lib.hid HI.out.len_calls
                      have HBR := Lib.hid (Below.trans HB.out (HI.out.below.mono (by rw [← HM.out]; exact HB.out.size)))
                      clear hr hlt
                      unfold ptr at HLN
                      go_wp2_with fail
                      refine HLN.out.mono ?_
                      clear HLN
                      rintro e w5 ⟨rfl, rfl⟩
                      have HHD := Lib.hid HI.out.held_calls
                      unfold ptr at HHD
                      go_wp2_with fail
                      refine HHD.out.mono ?_
                      clear HHD
                      rintro e w6 ⟨rfl, hb6⟩
                      have HB6 := Lib.hid (Base.later HBR.out hb6)
                      clear hb6
                      go_wp2_with fail
                      refine (works_calls _).mono ?_
                      rintro e w7 ⟨rfl, hb7⟩
                      have HB7 := Lib.hid (Base.later HB6.out hb7)
                      clear hb7
                      go_wp2
                      go_ret
                      exact ⟨rfl, HB7.out⟩
end Go.Proofs.Ytejheedekiojnaa.Sess
