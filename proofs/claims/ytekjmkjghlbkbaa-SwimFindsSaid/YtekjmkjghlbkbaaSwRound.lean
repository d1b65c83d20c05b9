/-
  Swim (layer 22): the walk of round. No condition but that lengths are no more than 2^40.
-/
import Derived.Test.YtekjmkjghlbkbaaSwApp
import Derived.Deep.RegionHeld3
import Derived.Deep.DrawnRows
open Go Go.RowKit Go.Sort
namespace Go.Proofs.Ytekjmkjghlbkbaa.Sw
open Base
attribute [local go_sem ↓] Go.wp_at_zero Go.wp_at_succ

def restL (s : SwD) (ks : List Key) : List Key := ks.filter fun m => decide (m ≠ s.target)
def roundL (s : SwD) (ks : List Key) (draw : Nat) : List AskD := (List.range (min s.others.toNat (restL s ks).length)).map fun i => ⟨(restL s ks).getD ((draw % (restL s ks).length + i) % (restL s ks).length) [], s.target, s.seq⟩
def roundF (s : SwD) (ks : List Key) (draw i : Nat) : AskD := ⟨(restL s ks).getD ((draw % (restL s ks).length + i) % (restL s ks).length) [], s.target, s.seq⟩
def RoundPost (w : World) (L : List AskD) (e : Ending) (w' : World) : Prop := ∃ v, e = .returned v ∧ w'.ownsRow w.heap.size 39 3 v L.length (L.flatMap askC) ∧ Below w.heap.size w w'
theorem own_strs {w : World} {base e n : Nat} {v : Value} {ks : List Key} (h : w.ownsRow base e 1 v n (ks.map strC)) : ∃ p cap, v = .slice p n cap ∧ n = ks.length ∧ StrsArg w p ks := by
  obtain ⟨hl, ⟨rfl, rfl⟩ | ⟨g, cap, cur, rfl, hg, hb, hnc, hcm, hcs, ht⟩⟩ := h
  · have : ks.length = 0 := by simpa using hl
    exact ⟨none, 0, rfl, this.symm, fun j hj => absurd hj (by omega)⟩
  · rw [List.length_map] at hl
    refine ⟨some ⟨g, 0, none⟩, cap, rfl, by omega, fun j hj => ⟨g, 0, rfl, ?_⟩⟩
    have h1 : (cur.toList.take (n * 1))[j]? = (ks.map strC)[j]? := by rw [ht]
    rw [List.getElem?_take_of_lt (by omega), List.getElem?_map, List.getElem?_eq_getElem hj] at h1
    simp [World.cell?, hb, strC] at h1 ⊢
    exact h1
theorem wrap_u64' (x : Int) : IntKind.u64.wrap x = x % 18446744073709551616 := by simp [IntKind.wrap, IntKind.signed, IntKind.bits]

set_option maxHeartbeats 2000000 in
theorem Round_f (w : World) (b : Nat) (s : SwD) (p : Option Addr) (cap : Nat) (ks : List Key) (draw : Nat) (h : SwAt w b s) (hp : StrsArg w p ks) (hb : ks.length ≤ 1099511627776) (hd : draw < 2 ^ 64) :
    Calls Try.prog 16 #[.pointer (some ⟨b, 0, none⟩), .slice p ks.length cap, .int .u64 (draw : Int)] w (RoundPost w (roundL s ks draw)) := by
  obtain ⟨i1, hi1, hy0, hy1, hy2⟩ := info_parts infoStr
  obtain ⟨W1, hmk, hown0, hgr⟩ := run_make_own (P := Try.prog) w w.heap.size 32 9 i1 _ 1 Try.underlying32 hi1 hy0 hy1 .i64 .i64 ks.length (by rw [hy2]; omega) (by unfold maxLen; omega) (Nat.le_refl _)
  have hb1 : Below w.heap.size w W1 := (Below.refl _ _).grown hgr (Nat.le_refl _) (fun q hq => by cases hq)
  have hz1 := hgr.size
  have HS := Lib.hid h
  have HA := Lib.hid hp
  have hlt := h.lt
  have HO := Lib.hid hown0
  have HB1 := Lib.hid hb1
  have HZ := Lib.hid hz1
  clear h hp hown0 hb1 hgr hi1 hy0 hy1 hy2 hz1
  go_enter Try.func16, Try.ntmps16
  go_wp2_with fail
  clear hmk
  go_loopw [7, 18] (fun r u wr => ∃ i : Nat, u = .int .i64 (i : Int) ∧ i ≤ ks.length ∧ wr.ownsRow w.heap.size 9 1 r (restL s (ks.take i)).length ((restL s (ks.take i)).map strC) ∧ Below w.heap.size w wr ∧ w.heap.size ≤ wr.heap.size) (fun _ u _ => ks.length - (intOf u).toNat)
  case atStart => exact ⟨0, rfl, Nat.zero_le _, by simpa [restL] using HO.out, HB1.out, HZ.out⟩
  case round =>
    obtain ⟨i, rfl, hi, hown, hbe, hsz⟩ := hrel
    by_cases hik : i < ks.length
    · obtain ⟨b0, o0, rfl, hc⟩ := HA.out i hik
      have m0 : 0 ≤ (i : Int) := by omega
      have m1 : (i : Int) < (ks.length : Int) := by omega
      have hcw := (hbe.cell (p := ⟨b0, o0 + i, none⟩) (lt_of_cell hc)).trans hc
      have c6 : wr.cell? ⟨b, 6, none⟩ = some (.string (B s.target)) := (hbe.cell (p := ⟨b, 6, none⟩) hlt).trans (HS.out 6 (by omega)).1
      have hbw : b0 < wr.heap.size := Nat.lt_of_lt_of_le (lt_of_cell hc) hsz
      have hbw2 : b < wr.heap.size := Nat.lt_of_lt_of_le hlt hsz
      have hTK := Lib.hid (show restL s (ks.take (i + 1)) = restL s (ks.take i) ++ restL s [ks[i]] by unfold restL; rw [List.take_succ_eq_append_getElem hik, List.filter_append])
      have HW := Lib.hid (And.intro hown (And.intro hbe hsz))
      have HL := Lib.hid (show (restL s (ks.take i)).length ≤ i from Nat.le_trans (List.length_filter_le _ _) (by rw [List.length_take]; omega))
      clear hown hbe hsz hc
      generalize ks[i] = ki at *
      by_cases hkt : ki = s.target
      · have t1 : (ki == s.target) = true := by simpa using hkt
        have t2 : (ki != s.target) = false := by simpa using hkt
        have HE := Lib.hid (show restL s [ki] = [] by simp [restL, hkt])
        clear hkt
        go_wp2
        go_roundw
        case rel =>
          refine ⟨i + 1, by go_num, hik, ?_, HW.out.2.1, HW.out.2.2⟩
          rw [hTK.out, HE.out, List.append_nil]
          exact HW.out.1
        case measure => simp [intOf]; omega
      · have t1 : (ki == s.target) = false := by simpa using hkt
        have t2 : (ki != s.target) = true := by simpa using hkt
        have HE := Lib.hid (show restL s [ki] = [ki] by simp [restL, hkt])
        clear hkt
        obtain ⟨g, cp, w3, hr3, ho3, hb3, hs3⟩ := append_str _ w.heap.size HW.out.2.2 _ _ HW.out.1 ki (by have := HL.out; omega)
        have HR3 := Lib.hid hr3
        have HV3 := Lib.hid (And.intro ho3 (And.intro (HW.out.2.1.trans hb3) (Nat.le_trans HW.out.2.2 hs3)))
        clear hr3 ho3 hb3 hs3
        go_wp2_with (at_builtin; refine wpList_append_run rfl _ _ _ rfl rfl rfl HR3.out ?_)
        go_roundw
        case rel =>
          refine ⟨i + 1, by go_num, hik, ?_, HV3.out.2.1, HV3.out.2.2⟩
          rw [hTK.out, HE.out]
          have h3 := HV3.out.1
          simp only [List.length_append, List.length_cons, List.length_nil] at h3 ⊢
          exact h3
        case measure => simp [intOf]; omega
    · obtain rfl : i = ks.length := by omega
      rw [List.take_length] at hown
      generalize wr = W2 at *
      obtain ⟨q, cq, rfl, hql, hqa⟩ := own_strs hown
      have HQ := Lib.hid hqa
      have HW := Lib.hid (And.intro hbe hsz)
      have HL := Lib.hid (show (restL s ks).length ≤ ks.length from List.length_filter_le _ _)
      have c3 : W2.cell? ⟨b, 3, none⟩ = some (.int .i64 s.others) := (hbe.cell (p := ⟨b, 3, none⟩) hlt).trans (HS.out 3 (by omega)).1
      have hbw2 : b < W2.heap.size := Nat.lt_of_lt_of_le hlt hsz
      clear hown hbe hsz hql hqa
      by_cases hr0 : (restL s ks).length = 0
      · have HE := Lib.hid (show roundL s ks draw = [] by unfold roundL; rw [hr0, Nat.min_zero]; rfl)
        rw [hr0]
        clear hr0
        go_wp2
        refine bodyPost_ret (v := .slice none 0 0) (by simp [results, Try.results16, go_sem]) rfl ?_
        rw [HE.out]
        exact ⟨_, rfl, ⟨rfl, .inl ⟨rfl, rfl⟩⟩, HW.out.1⟩
      · have hl0 : 0 < (restL s ks).length := by omega
        have hl1 : (restL s ks).length < 9223372036854775808 := by have := HL.out; omega
        obtain ⟨n, hn⟩ : ∃ n, n = (restL s ks).length := ⟨_, rfl⟩
        rw [← hn] at hl0 hl1 ⊢
        have HN := Lib.hid hn
        have t1 : ((n : Int) == 0) = false := by simp; omega
        have e1 : IntKind.u64.wrap (n : Int) = (n : Int) := by rw [wrap_u64']; omega
        obtain ⟨a0, ha0⟩ : ∃ a0, a0 = draw % n := ⟨_, rfl⟩
        have hd0 : (draw : Int) % (n : Int) = (a0 : Int) := by rw [ha0]; push_cast; rfl
        have ha1 : a0 < n := by rw [ha0]; exact Nat.mod_lt _ hl0
        have e2 : wrap64 (a0 : Int) = (a0 : Int) := by unfold wrap64; omega
        have HA0 := Lib.hid ha0
        obtain ⟨M, hM⟩ : ∃ M : Int, M = min s.others (n : Int) := ⟨_, rfl⟩
        have HM := Lib.hid (show M.toNat = min s.others.toNat (restL s ks).length by rw [← hn]; omega)
        have hM2 : min s.others (n : Int) = M := hM.symm
        have hMn : M ≤ (n : Int) := by omega
        clear hn hr0 ha0 hM
        go_wp2_with fail
        clear hd0 hM2
        go_loopw [10, 50] (fun r u w2 => ∃ i : Nat, u = .int .i64 (i : Int) ∧ i ≤ M.toNat ∧ w2.ownsRow W2.heap.size 39 3 r i (((List.range i).map (roundF s ks draw)).flatMap askC) ∧ Below W2.heap.size W2 w2 ∧ W2.heap.size ≤ w2.heap.size) (fun _ u _ => M.toNat - (intOf u).toNat)
        case atStart => exact ⟨0, rfl, Nat.zero_le _, ⟨rfl, .inl ⟨rfl, rfl⟩⟩, Below.refl _ _, Nat.le_refl _⟩
        case round =>
          obtain ⟨i, rfl, hi2, hown, hbe, hsz⟩ := hrel
          by_cases hik2 : i < M.toNat
          · have m0 : (i : Int) < M := by omega
            obtain ⟨jx, hjx⟩ : ∃ jx, jx = (a0 + i) % n := ⟨_, rfl⟩
            have hjn : jx < n := by rw [hjx]; exact Nat.mod_lt _ hl0
            have hj0 : ((a0 : Int) + (i : Int)) % (n : Int) = (jx : Int) := by rw [hjx]; push_cast; rfl
            have hj1 : ((a0 : Int) + (i : Int)).tmod (n : Int) = (jx : Int) := by rw [Int.tmod_eq_emod_of_nonneg (by omega)]; exact hj0
            have hjl : jx < (restL s ks).length := by rw [← HN.out]; exact hjn
            obtain ⟨bq, oq, rfl, hcq⟩ := HQ.out jx hjl
            have hbq : bq < W2.heap.size := lt_of_cell hcq
            have hcw := (hbe.cell (p := ⟨bq, oq + jx, none⟩) hbq).trans hcq
            have hbqw : bq < wr.heap.size := Nat.lt_of_lt_of_le hbq hsz
            have hbw3 : b < wr.heap.size := Nat.lt_of_lt_of_le hbw2 hsz
            have c6 : wr.cell? ⟨b, 6, none⟩ = some (.string (B s.target)) := (hbe.cell (p := ⟨b, 6, none⟩) hbw2).trans ((HW.out.1.cell (p := ⟨b, 6, none⟩) hlt).trans (HS.out 6 (by omega)).1)
            have c7 : wr.cell? ⟨b, 7, none⟩ = some (.int .u64 (s.seq : Int)) := (hbe.cell (p := ⟨b, 7, none⟩) hbw2).trans ((HW.out.1.cell (p := ⟨b, 7, none⟩) hlt).trans (HS.out 7 (by omega)).1)
            have HF := Lib.hid (show roundF s ks draw i = ⟨(restL s ks)[jx], s.target, s.seq⟩ by unfold roundF; rw [← HN.out, ← HA0.out, ← hjx]; simp [List.getElem?_eq_getElem hjl])
            have HX := Lib.hid (And.intro hown (And.intro hbe hsz))
            have m1 : (jx : Int) < (n : Int) := by omega
            have m2 : 0 ≤ (jx : Int) := by omega
            have m3 : ((n : Int) == 0) = false := t1
            have b1 : (a0 : Int) + (i : Int) ≤ 4611686018427387904 := by have := HL.out; have := HN.out; omega
            have b2 : (jx : Int) ≤ 4611686018427387904 := by have := HL.out; have := HN.out; omega
            have b3 : 0 < (n : Int) := by omega
            have b4 : (n : Int) ≤ 4611686018427387904 := by have := HL.out; have := HN.out; omega
            have e6 : (n : Int) ≠ 0 := by omega
            have e7 : n ≠ 0 := by omega
            have e4 : IntKind.i64.wrap ((a0 : Int) + (i : Int)) = (a0 : Int) + (i : Int) := by rw [IntKind.wrap_i64]; omega
            have e5 : IntKind.i64.wrap (jx : Int) = (jx : Int) := by rw [IntKind.wrap_i64]; omega
            clear hown hbe hsz hcq hjx
            generalize (restL s ks)[jx] = kj at *
            clear hjl
            obtain ⟨g, cp, w3, hr3, ho3, hb3, hs3⟩ := append_ask wr.drew W2.heap.size (by simpa using HX.out.2.2) u10 ((List.range i).map (roundF s ks draw)) (by simpa using World.ownsRow.drew HX.out.1) ⟨kj, s.target, s.seq⟩ (by simp; have := HL.out; have := HN.out; omega)
            have HR3 := Lib.hid hr3
            have HV3 := Lib.hid (And.intro ho3 (And.intro hb3 hs3))
            have q6 : w3.cell? ⟨b, 6, none⟩ = some (.string (B s.target)) := (hb3.cell (p := ⟨b, 6, none⟩) hbw2).trans (by simpa using c6)
            have q7 : w3.cell? ⟨b, 7, none⟩ = some (.int .u64 (s.seq : Int)) := (hb3.cell (p := ⟨b, 7, none⟩) hbw2).trans (by simpa using c7)
            have qq : w3.cell? ⟨bq, oq + jx, none⟩ = some (.string (B kj)) := (hb3.cell (p := ⟨bq, oq + jx, none⟩) hbq).trans (by simpa using hcw)
            clear hr3 ho3 hb3 hs3
            go_wp2_with fail
            go_region_held3 (fun w' => w'.cell? ⟨bq, oq + jx, none⟩ = some (.string (B kj)) ∧ w'.cell? ⟨b, 6, none⟩ = some (.string (B s.target)) ∧ w'.cell? ⟨b, 7, none⟩ = some (.int .u64 (s.seq : Int))) (go_keep)
              ((refine step_append_run (by rfl) _ _ _ (by rfl) (by rfl) (by rfl) HR3.out ?_))
            go_wp2
            go_roundw
            case rel =>
              have h3 := HV3.out.1
              rw [← HF.out, List.length_append, List.length_map, List.length_range] at h3
              refine ⟨i + 1, by go_num, hik2, ?_, (HX.out.2.1.trans (show Below W2.heap.size wr w3 from ⟨HV3.out.2.1.os, HV3.out.2.1.tape, HV3.out.2.1.output, HV3.out.2.1.size, HV3.out.2.1.block⟩)), Nat.le_trans HX.out.2.2 (by simpa using HV3.out.2.2)⟩
              rw [List.range_succ, List.map_append]
              exact h3
            case measure => simp [intOf]; omega
          · obtain rfl : i = M.toNat := by omega
            have m0 : ¬ ((M.toNat : Int) < M) := by omega
            have HX := Lib.hid (And.intro hown (And.intro hbe hsz))
            clear hown hbe hsz
            go_wp2_with fail
            refine bodyPost_ret (v := u10) (by simp [results, Try.results16, go_sem]) rfl ?_
            rw [show roundL s ks draw = (List.range M.toNat).map (roundF s ks draw) by rw [HM.out]; rfl]
            refine ⟨_, rfl, ?_, HW.out.1.trans (HX.out.2.1.mono HW.out.2)⟩
            rw [List.length_map, List.length_range]
            exact own_lower HX.out.1 HW.out.2

end Go.Proofs.Ytekjmkjghlbkbaa.Sw
