/-
  The walks of New, there, Len and Add (layer 4).
-/
import Derived.Test.YtjhmpoekpambaaaDoorShaHash
open Go Go.RowKit
namespace Go.Proofs.YtjhmpoekpambaaaDoor.Sha
open Base

def StartOk (w : World) : Prop := ∀ i : Nat, i < 8 → w.cell? ⟨0, i, none⟩ = some (.int .u32 (U (H0.get i)))
structure Ok (w : World) : Prop where
  tab : TabOk w
  start : StartOk w
theorem StartOk.kept {T : Nat → Prop} {w w' : World} (h : StartOk w) (hk : Kept T w w') (hT : ¬ T 0) : StartOk w' := fun i hi => by
  have hlt := lt_of_cell (h i hi)
  exact (World.cell?_of_block (a := ⟨0, i, none⟩) (hk.block _ hlt hT)).trans (h i hi)
theorem Ok.kept {T : Nat → Prop} {w w' : World} (h : Ok w) (hk : Kept T w w') (h1 : ¬ T 1) (h2 : ¬ T 0) : Ok w' := ⟨h.tab.kept hk h1, h.start.kept hk h2⟩
theorem Ok.below {w w' : World} (h : Ok w) (hb : Below w.heap.size w w') : Ok w' := h.kept (Kept.of_below (T := fun _ => False) hb) (fun h => h) (fun h => h)
theorem Ok.low {w : World} (h : Ok w) : 1 < w.heap.size ∧ 0 < w.heap.size := ⟨lt_of_cell (h.tab 0 (by omega)), lt_of_cell (h.start 0 (by omega))⟩

theorem there_calls (w : World) (b : Nat) (hc : w.cell? ⟨b, 0, none⟩ = some (.bool true)) :
    Calls Tryd.prog 18 #[.pointer (some ⟨b, 0, none⟩)] w fun e w' => e = .returned (.bool true) ∧ w = w' := by
  go_enter Tryd.func18, Tryd.ntmps18
  go_wp2
  go_ret
  exact ⟨rfl, rfl⟩
theorem there_nil (w : World) : Calls Tryd.prog 18 #[.pointer none] w fun e w' => e = .returned (.bool false) ∧ w = w' := by
  go_enter Tryd.func18, Tryd.ntmps18
  go_wp2
  go_ret
  exact ⟨rfl, rfl⟩
theorem HashAt.made {w : World} {b : Nat} {s : List UInt8} (h : HashAt w b s) : w.cell? ⟨b, 0, none⟩ = some (.bool true) := by
  obtain ⟨bs, h1, h2⟩ := h
  exact (h1 0 (by omega)).1
theorem HashC.size {w : World} {b : Nat} {s : S8} {bs : List UInt8} {n : Nat} (h : HashC w b s bs n) : w.cell? ⟨b, 73, none⟩ = some (.int .u64 (n : Int)) := (h 73 (by omega)).1
theorem Len_calls (w : World) (b : Nat) (s : List UInt8) (h : HashAt w b s) :
    Calls Tryd.prog 13 #[.pointer (some ⟨b, 0, none⟩)] w fun e w' => e = .returned (.int .u64 (s.length : Int)) ∧ w = w' := by
  have HM := Lib.hid (there_calls w b h.made)
  obtain ⟨bs, h1, h2⟩ := h
  have hc := h1.size
  go_enter Tryd.func13, Tryd.ntmps13
  go_wp2_with fail
  refine HM.out.mono ?_
  rintro e w1 ⟨rfl, rfl⟩
  go_wp2
  go_ret
  exact ⟨rfl, rfl⟩
theorem Len_nil (w : World) : Calls Tryd.prog 13 #[.pointer none] w fun e w' => e = .returned (.int .u64 0) ∧ w = w' := by
  go_enter Tryd.func13, Tryd.ntmps13
  go_wp2_with fail
  refine (there_nil w).mono ?_
  rintro e w1 ⟨rfl, rfl⟩
  go_wp2
  go_ret
  exact ⟨rfl, rfl⟩
theorem Add_nil (w : World) (v : Value) : Calls Tryd.prog 11 #[.pointer none, v] w fun e w' => e = .returned (.tuple #[]) ∧ w = w' := by
  go_enter Tryd.func11, Tryd.ntmps11
  go_wp2_with fail
  refine (there_nil w).mono ?_
  rintro e w1 ⟨rfl, rfl⟩
  go_wp2
  refine bodyPost_ret (results_none rfl _ _ _) rfl ?_
  exact ⟨rfl, rfl⟩
theorem Sum_nil (w : World) : Calls Tryd.prog 12 #[.pointer none] w fun e w' => e = .returned (.string ⟨#[]⟩) ∧ w = w' := by
  go_enter Tryd.func12, Tryd.ntmps12
  go_wp2_with fail
  refine (there_nil w).mono ?_
  rintro e w1 ⟨rfl, rfl⟩
  go_wp2
  go_ret
  exact ⟨rfl, rfl⟩

theorem fill_get (bs z : List UInt8) (a i : Nat) (hb : bs.length = 64) (h : a + z.length ≤ 64) : (fill bs z a).getD i 0 = if a ≤ i ∧ i < a + z.length then z.getD (i - a) 0 else bs.getD i 0 := by
  unfold fill
  simp only [List.getD_eq_getElem?_getD]
  have hta : (bs.take a).length = a := by rw [List.length_take]; omega
  by_cases h1 : i < a
  · rw [List.append_assoc, List.getElem?_append_left (by omega), if_neg (by omega), List.getElem?_take_of_lt h1]
  · by_cases h2 : i < a + z.length
    · rw [List.getElem?_append_left (by rw [List.length_append]; omega), List.getElem?_append_right (by omega), hta, if_pos (by omega)]
    · rw [List.getElem?_append_right (by rw [List.length_append]; omega), List.length_append, hta, List.getElem?_drop, if_neg (by omega)]
      congr 2
      omega
theorem hash_fill {w : World} {b : Nat} {st : S8} {bs : List UInt8} {n : Nat} (h : HashC w b st bs n) (hb : bs.length = 64) (z : List UInt8) (a N : Nat) (hz : a + z.length ≤ 64) :
    HashC ((w.setCells b (9 + a) (bytesV z)).setCell ⟨b, 73, none⟩ (.int .u64 (N : Int))) b st (fill bs z a) N := by
  have hl : (bytesV z).length = z.length := by simp [bytesV]
  refine CellsAt.congr ((cells_set (bytesV z) (9 + a) h (by rw [hl]; omega)).set (i := 73) (by omega) (.int .u64 (N : Int))) fun j hj => ?_
  rw [hl]
  by_cases h73 : j = 73
  · subst h73; rfl
  · rw [if_neg h73]
    unfold hcell
    by_cases hin : 9 + a ≤ j ∧ j < 9 + a + z.length
    · rw [if_pos hin, if_neg (by omega), if_neg (by omega), if_pos (by omega), fill_get bs z a _ hb hz, if_pos (by omega)]
      have hlt : j - 9 - a < z.length := by omega
      have e : j - (9 + a) = j - 9 - a := by omega
      rw [e]
      simp [bytesV, List.getD_eq_getElem?_getD, hlt]
    · rw [if_neg hin]
      by_cases h0 : j = 0
      · rw [if_pos h0, if_pos h0]
      · rw [if_neg h0, if_neg h0]
        by_cases h9 : j < 9
        · rw [if_pos h9, if_pos h9]
        · rw [if_neg h9, if_neg h9, if_pos (by omega), if_pos (by omega), fill_get bs z a _ hb hz, if_neg (by omega)]
def strSize : Value → Nat
  | .string t => t.size
  | _ => 0

set_option maxHeartbeats 4000000 in
set_option maxRecDepth 100000 in
theorem Add_calls (w : World) (b : Nat) (s x : List UInt8) (h : HashAt w b s) (hT : TabOk w) (hb : b ≠ 1) (hlen : s.length + x.length < 1152921504606846976) :
    Calls Tryd.prog 11 #[.pointer (some ⟨b, 0, none⟩), .string (B x)] w fun e w' => e = .returned (.tuple #[]) ∧ HashAt w' b (s ++ x) ∧ Kept (fun i => i = b) w w' := by
  have HM := Lib.hid (there_calls w b h.made)
  have HA := Lib.hid (show HashAt w b (s ++ x.take 0) by simpa using h)
  have HT := Lib.hid hT
  have HB := Lib.hid hb
  clear h hT hb
  go_enter Tryd.func11, Tryd.ntmps11
  go_wp2_with fail
  refine HM.out.mono ?_
  rintro e w1 ⟨rfl, rfl⟩
  clear HM
  go_wp2
  go_loopw [1] (fun v wr => ∃ k : Nat, k ≤ x.length ∧ v = .string (B (x.drop k)) ∧ HashAt wr b (s ++ x.take k) ∧ Kept (fun i => i = b) w wr) (fun v _ => strSize v)
  case atStart => exact ⟨0, Nat.zero_le _, by simp, HA.out, Kept.refl _ _⟩
  case round =>
    obtain ⟨k, hk, rfl, ha, hkp⟩ := hrel
    clear HA
    obtain ⟨bs, hc, ht⟩ := ha
    have HC := Lib.hid hc
    have HTL := Lib.hid ht
    have HK := Lib.hid hkp
    clear hc ht hkp
    by_cases hend : k = x.length
    · have hx : x.drop k = [] := by rw [hend, List.drop_length]
      have HX := Lib.hid (show s ++ x.take k = s ++ x by rw [hend, List.take_length])
      rw [hx]
      clear hend hk
      go_wp2
      go_end0
      exact ⟨rfl, ⟨bs, by rw [← HX.out]; exact HC.out, by rw [← HX.out]; exact HTL.out⟩, HK.out⟩
    · have hcl : (s ++ x.take k).length = s.length + k := by rw [List.length_append, List.length_take]; omega
      have hyl : (x.drop k).length = x.length - k := List.length_drop
      have hy0 : x.drop k ≠ [] := by
        intro e
        rw [e] at hyl
        simp at hyl
        omega
      have hcat : ∀ n, s ++ x.take k ++ (x.drop k).take n = s ++ x.take (k + n) := fun n => by
        rw [List.append_assoc, List.take_add]
      have hdr : ∀ n, (x.drop k).drop n = x.drop (k + n) := fun n => by rw [List.drop_drop]
      have HCAT := Lib.hid hcat
      have HDR := Lib.hid hdr
      have hN : s.length + k < 1152921504606846976 := by omega
      obtain ⟨N, hNe⟩ : ∃ N, N = s.length + k := ⟨_, rfl⟩
      rw [← hNe] at hcl hN
      obtain ⟨a, hae⟩ : ∃ a, a = N % 64 := ⟨_, rfl⟩
      have hy1 : 0 < (x.drop k).length := by omega
      have hy2 : (x.drop k).length < 1152921504606846976 := by omega
      clear hcat hdr hyl hNe
      generalize x.drop k = y at *
      generalize s ++ x.take k = cur at *
      obtain ⟨n, hn⟩ : ∃ n, n = Nat.min y.length (64 - a) := ⟨_, rfl⟩
      have ha64 : a < 64 := by omega
      have hn1 : n ≤ y.length := by rw [hn]; exact Nat.min_le_left _ _
      have hn2 : n ≤ 64 - a := by rw [hn]; exact Nat.min_le_right _ _
      have hn0 : 0 < n := by rw [hn]; exact Nat.lt_min.2 ⟨hy1, by omega⟩
      have hzl : (y.take n).length = n := by rw [List.length_take]; omega
      have hc := HC.out
      rw [hcl] at hc
      have htl := HTL.out
      have hmod : cur.length % 64 = a := by rw [hcl, hae]
      have hat : (N : Int) % 64 = (a : Int) := by omega
      have csz := hc.size
      have hsl := slice64_l wr b 9 a ha64
      have hcp := copy_str wr b (9 + a) (64 - a) n y hn.symm (fun j hj => by rw [(hc (9 + a + j) (by omega)).1]; rfl) (fun j hj => (hc (9 + a + j) (by omega)).2)
      have hset := cells_set (bytesV (y.take n)) (9 + a) hc (by simp [bytesV]; omega)
      have c73 : (wr.setCells b (9 + a) (bytesV (y.take n))).cell? ⟨b, 73, none⟩ = some (.int .u64 (N : Int)) := by
        rw [(hset 73 (by omega)).1]
        show some (if 9 + a ≤ 73 ∧ 73 < 9 + a + (bytesV (y.take n)).length then (bytesV (y.take n)).getD (73 - (9 + a)) (Value.bool false) else hcell (stateOf cur) bs N 73) = _
        rw [if_neg (by simp [bytesV]; omega)]
        rfl
      have f73 : (wr.setCells b (9 + a) (bytesV (y.take n))).frozen? ⟨b, 73, none⟩ = false := (hset 73 (by omega)).2
      have hfl := hash_fill hc htl.1 (y.take n) a (N + n) (by omega)
      rw [show ((N + n : Nat) : Int) = (N : Int) + (n : Int) from Int.natCast_add N n] at hfl
      have HFL := Lib.hid hfl
      have HKP := Lib.hid (kept_set (T := fun i => i = b) (b := b) rfl (bytesV (y.take n)) (9 + a) HK.out)
      have hext : (s.length + x.length) < 1152921504606846976 := hlen
      have HSTEP := Lib.hid (show (a + n < 64 → Tail (cur ++ y.take n) (fill bs (y.take n) a) ∧ stateOf (cur ++ y.take n) = stateOf cur) ∧ (a + n = 64 → Tail (cur ++ y.take n) (fill bs (y.take n) a) ∧ stateOf (cur ++ y.take n) = mixF (stateOf cur) (fill bs (y.take n) a)) from by
        refine ⟨fun h => ?_, fun h => ?_⟩
        · have := step_part cur bs (y.take n) htl (by omega)
          rwa [hmod] at this
        · have := step_full cur bs (y.take n) htl (by omega)
          rwa [hmod] at this)
      have hnl : (cur ++ y.take n).length = N + n := by rw [List.length_append, hcl, hzl]
      have HNL := Lib.hid hnl
      have hnk : k + n ≤ x.length := by
        have h1 := HDR.out n
        have h2 := congrArg List.length h1
        rw [List.length_drop, List.length_drop] at h2
        rcases Nat.lt_or_ge x.length (k + n) with h3 | h3
        · exfalso
          have h4 := HDR.out 0
          have h5 := congrArg List.length h4
          rw [List.length_drop, List.length_drop] at h5
          omega
        · exact h3
      have hie : y.isEmpty = false := by cases y with | nil => exact absurd rfl hy0 | cons _ _ => rfl
      clear hc htl hset hfl HC HTL HK hmod hae hn hzl hnl hcl hy0 hext
      by_cases hfull : a + n = 64
      · have t1 : ((a : Int) + (n : Int) == 64) = true := by simp; omega
        have HMX := Lib.hid (mix_calls _ b (stateOf cur) _ (N + n) HFL.out ((HT.out.kept HKP.out HB.out.symm).kept ((Kept.refl (fun i => i = b) _).setCell (p := ⟨b, 73, none⟩) (.inl rfl) (.int .u64 ((N : Int) + (n : Int)))) HB.out.symm))
        have HK73 := Lib.hid (HKP.out.setCell (p := ⟨b, 73, none⟩) (.inl rfl) (.int .u64 ((N : Int) + (n : Int))))
        obtain ⟨hs1, hs2⟩ := HSTEP.out.2 hfull
        have HS1 := Lib.hid hs1
        have HS2 := Lib.hid hs2
        clear hs1 hs2 hfull hend HSTEP HKP
        go_wp2_with fail
        refine HMX.out.mono ?_
        rintro e w5 ⟨rfl, hh, hk5⟩
        have hh2 : HashAt w5 b (s ++ x.take (k + n)) := by
          rw [← HCAT.out n]
          exact ⟨_, by rw [HS2.out, HNL.out]; exact hh, HS1.out⟩
        have HH := Lib.hid hh2
        have HK5 := Lib.hid (HK73.out.trans hk5 (fun i hi => .inl hi))
        clear hh hk5 hh2 HMX HFL HK73
        clear hsl hcp c73 f73 csz
        go_wp2
        go_roundw
        case rel => exact ⟨k + n, hnk, by rw [← HDR.out n], HH.out, HK5.out⟩
        case measure => simp [strSize, B_size]; omega
      · have t1 : ((a : Int) + (n : Int) == 64) = false := by simp; omega
        have HK73 := Lib.hid (HKP.out.setCell (p := ⟨b, 73, none⟩) (.inl rfl) (.int .u64 ((N : Int) + (n : Int))))
        obtain ⟨hs1, hs2⟩ := HSTEP.out.1 (by omega)
        have hh2 : HashAt ((wr.setCells b (9 + a) (bytesV (y.take n))).setCell ⟨b, 73, none⟩ (.int .u64 ((N : Int) + (n : Int)))) b (s ++ x.take (k + n)) := by
          rw [← HCAT.out n]
          exact ⟨_, by rw [hs2, HNL.out]; exact HFL.out, hs1⟩
        have HH := Lib.hid hh2
        clear hs1 hs2 hfull hend HSTEP HKP hh2 HFL
        go_wp2
        go_roundw
        case rel => exact ⟨k + n, hnk, by rw [← HDR.out n], HH.out, HK73.out⟩
        case measure => simp [strSize, B_size]; omega
end Go.Proofs.YtjhmpoekpambaaaDoor.Sha
