/-
  The counter's functions (layer 12): Add.
-/
import Derived.Test.YtloackmpmhgkeaaCntRes
open Go Go.RowKit Go.Maps
namespace Go.Proofs.Ytloackmpmhgkeaa.Cnt
open Base Mp

theorem ValueE_calls (w : World) (bp bm : Nat) (l : List CntD) (h : SumsAt w bp bm (putGs [] l)) (hu : InU (putGs [] l)) :
    Calls Try.prog 21 #[sumsV bp bm] w fun e w' => e = .returned (.int .i64 (valE l)) ∧ Below w.heap.size w w' := by
  refine (Value_calls w bp bm _ h hu).mono ?_
  rintro e w' ⟨⟨v, rfl, h0, h1, h2⟩, hb⟩
  exact ⟨by rw [show wrap64 v = valE l from wrap_mod h2], hb⟩
theorem valE_in (l : List CntD) : -9223372036854775808 ≤ valE l ∧ valE l ≤ 9223372036854775807 := by unfold valE wrap64; omega
theorem fOf_get (l : List CntD) (k : Key) : fOf l k = getE (putGs [] l) (keyS k) := by rw [← fnE_putGs]; rfl
set_option maxHeartbeats 1000000 in
theorem Add_over (w : World) (p : Option Addr) (cap : Nat) (l : List CntD) (k : Key) (n : Int) (h : CntsArg w p l) (hn : l.length ≤ 4398046511102) (n1 : -9223372036854775808 ≤ n) (n2 : n ≤ 9223372036854775807)
    (hbad : ¬ (-9223372036854775808 ≤ valE l + n ∧ valE l + n ≤ 9223372036854775807)) :
    Calls Try.prog 9 #[.slice p l.length cap, .string (B k), .int .i64 n] w fun e w' => e = .returned (.tuple #[.slice none 0 0, .int .i64 9]) ∧ Below w.heap.size w w' := by
  have hb1 : Below w.heap.size w (w.alloc (.cells #[.slice p l.length cap] 22)) := (Below.refl _ _).alloc (Nat.le_refl _) _
  have hz : (w.alloc (.cells #[.slice p l.length cap] 22)).heap.size = w.heap.size + 1 := by simp
  have hG := Greatest_calls _ (some ⟨w.heap.size, 0, none⟩) 1 [l] (lists_one cap 22 h) (by simp; omega) (by simp)
  have hOK := h.ok
  rw [hz, show [l].length = 1 from rfl, show [l].flatten = l by simp] at hG
  have HG := Lib.hid hG
  have HO := Lib.hid (show Oks l from hOK)
  have HB := Lib.hid hb1
  clear hG hOK h hb1 hz
  unfold sumsV at HG
  have HV := valE_in l
  go_enter Try.func9, Try.ntmps9
  go_wp2_with fail
  with_reducible refine HG.out.mono ?_
  rintro e w2 ⟨rfl, hs, hb, hz⟩
  have hal := (Below.refl w2.heap.size w2).alloc (Nat.le_refl _) (.cells #[.map (some (w.heap.size + 1 + 1)), .map (some (w.heap.size + 1 + 1 + 1))] 48)
  have HC := Lib.hid (ValueE_calls _ _ _ _ (hs.next hal) HO.out.inU)
  have HB2 := Lib.hid ((HB.out.trans (hb.mono (by omega))).trans (hal.mono (Nat.le_trans (HB.out.trans (hb.mono (by omega))).size (Nat.le_refl _))))
  clear hs hb hz HG HB hal
  unfold sumsV at HC
  go_wp2_with fail
  with_reducible refine HC.out.mono ?_
  rintro e w3 ⟨rfl, hb3⟩
  have HB3 := Lib.hid (HB2.out.trans (hb3.mono HB2.out.size))
  clear hb3 HC
  generalize valE l = va at *
  obtain ⟨v1, v2⟩ := HV
  by_cases hp : 0 < n
  · have hbig : 9223372036854775807 - n < va := by omega
    clear hbad
    go_wp2
    go_ret2
    exact ⟨rfl, HB3.out⟩
  · have hneg : n < 0 := by omega
    have hbig : va < -9223372036854775808 - n := by omega
    clear hbad
    go_wp2
    go_ret2
    exact ⟨rfl, HB3.out⟩
set_option maxHeartbeats 4000000 in
theorem Add_full (w : World) (p : Option Addr) (cap : Nat) (l : List CntD) (k : Key) (n : Int) (h : CntsArg w p l) (hn : l.length ≤ 4398046511102) (hk : k.length ≤ maxLen) (n1 : -9223372036854775808 ≤ n) (n2 : n ≤ 9223372036854775807)
    (hr : -9223372036854775808 ≤ valE l + n ∧ valE l + n ≤ 9223372036854775807) (hbad : 2 ^ 63 < (fOf l k).1 + n.toNat ∨ 2 ^ 63 < (fOf l k).2 + (-n).toNat) :
    Calls Try.prog 9 #[.slice p l.length cap, .string (B k), .int .i64 n] w fun e w' => e = .returned (.tuple #[.slice none 0 0, .int .i64 9]) ∧ Below w.heap.size w w' := by
  have HK := Lib.hid hk
  have HBAD := Lib.hid hbad
  clear hk hbad
  have hb1 : Below w.heap.size w (w.alloc (.cells #[.slice p l.length cap] 22)) := (Below.refl _ _).alloc (Nat.le_refl _) _
  have hz : (w.alloc (.cells #[.slice p l.length cap] 22)).heap.size = w.heap.size + 1 := by simp
  have hG := Greatest_calls _ (some ⟨w.heap.size, 0, none⟩) 1 [l] (lists_one cap 22 h) (by simp; omega) (by simp)
  have hOK := h.ok
  rw [hz, show [l].length = 1 from rfl, show [l].flatten = l by simp] at hG
  have HG := Lib.hid hG
  have HO := Lib.hid (show Oks l from hOK)
  have HB := Lib.hid hb1
  clear hG hOK h hb1 hz
  unfold sumsV at HG
  have HV := valE_in l
  go_enter Try.func9, Try.ntmps9
  go_wp2_with fail
  with_reducible refine HG.out.mono ?_
  rintro e w2 ⟨rfl, hs, hb, hz⟩
  have hal := (Below.refl w2.heap.size w2).alloc (Nat.le_refl _) (.cells #[.map (some (w.heap.size + 1 + 1)), .map (some (w.heap.size + 1 + 1 + 1))] 48)
  have HC := Lib.hid (ValueE_calls _ _ _ _ (hs.next hal) HO.out.inU)
  have HB2 := Lib.hid ((HB.out.trans (hb.mono (by omega))).trans (hal.mono (Nat.le_trans (HB.out.trans (hb.mono (by omega))).size (Nat.le_refl _))))
  have hlt1 : w.heap.size + 1 + 1 + 1 < w2.heap.size := hs.minus.lt
  have hc0 : (w2.alloc (.cells #[.map (some (w.heap.size + 1 + 1)), .map (some (w.heap.size + 1 + 1 + 1))] 48)).cell? ⟨w2.heap.size, 0, none⟩ = some (.map (some (w.heap.size + 1 + 1))) := by simp
  have hc1 : (w2.alloc (.cells #[.map (some (w.heap.size + 1 + 1)), .map (some (w.heap.size + 1 + 1 + 1))] 48)).cell? ⟨w2.heap.size, 1, none⟩ = some (.map (some (w.heap.size + 1 + 1 + 1))) := by simp
  have HS := Lib.hid (hs.next hal)
  clear hs hb hz HG HB hal
  unfold sumsV at HC
  go_wp2_with fail
  generalize (w2.alloc (.cells #[.map (some (w.heap.size + 1 + 1)), .map (some (w.heap.size + 1 + 1 + 1))] 48)) = W2 at *
  with_reducible refine HC.out.mono ?_
  rintro e w3 ⟨rfl, hb3⟩
  have HB3 := Lib.hid (HB2.out.trans (hb3.mono HB2.out.size))
  have HS3 := Lib.hid (HS.out.next hb3)
  have hd0 := (hb3.cell (p := ⟨w2.heap.size, 0, none⟩) (lt_of_cell hc0)).trans hc0
  have hd1 := (hb3.cell (p := ⟨w2.heap.size, 1, none⟩) (lt_of_cell hc1)).trans hc1
  have hlk1 := fun j => (HS3.out.plus.drewN j).look keyedS Try.underlying46 (zU (w3.drewN j)) (keyB k HK.out)
  have hlk2 := fun j => (HS3.out.minus.drewN j).look keyedS Try.underlying46 (zU (w3.drewN j)) (keyB k HK.out)
  simp only [look_plus] at hlk1
  simp only [look_minus] at hlk2
  rw [fOf_get] at HBAD
  have hu := HO.out.inU.get (keyS k)
  generalize getE (putGs [] l) (keyS k) = pq at *
  obtain ⟨P, M⟩ := pq
  simp only at hu
  unfold u64 at hlk1 hlk2
  have hbad := HBAD.out
  simp only at hbad
  clear hb3 HC hc0 hc1 HBAD HS
  generalize valE l = va at *
  obtain ⟨v1, v2⟩ := HV
  have hcase : 0 < n ∨ n = 0 ∨ n < 0 := by omega
  rcases hcase with hp | hp | hp
  · have hle : va ≤ 9223372036854775807 - n := by omega
    obtain ⟨u, rfl⟩ : ∃ u : Nat, n = (u : Int) := ⟨n.toNat, by omega⟩
    have e0 : (-(u : Int)).toNat = 0 := by omega
    rw [e0] at hbad
    simp only [Int.toNat_natCast] at hbad
    clear hr e0
    go_wp2
    by_cases a1 : 9223372036854775808 < P
    · clear hbad
      go_quiet (fail)
      all_goals go_wp2
      all_goals (go_ret2; exact ⟨rfl, HB3.out.drewN _⟩)
    · by_cases a2 : 9223372036854775808 < P + u
      · have a2' : 9223372036854775808 - (P : Int) < (u : Nat) := by omega
        clear hbad a2
        go_quiet (fail)
        all_goals go_wp2
        all_goals (go_ret2; exact ⟨rfl, HB3.out.drewN _⟩)
      · by_cases a3 : 9223372036854775808 < M
        · have a2' : ((u : Nat) : Int) ≤ 9223372036854775808 - (P : Int) := by omega
          clear hbad a2
          go_quiet (fail)
          all_goals go_wp2
          all_goals (go_ret2; exact ⟨rfl, HB3.out.drewN _⟩)
        · have a2' : ((u : Nat) : Int) ≤ 9223372036854775808 - (P : Int) := by omega
          have a4 : 9223372036854775808 - (M : Int) < (0 : Nat) := by omega
          clear hbad a2
          go_quiet (fail)
          all_goals go_wp2
          all_goals (go_ret2; exact ⟨rfl, HB3.out.drewN _⟩)
  · subst hp
    simp only [Int.neg_zero, Int.toNat_zero] at hbad
    clear hr
    go_wp2
    by_cases a1 : 9223372036854775808 < P
    · clear hbad
      go_quiet (fail)
      all_goals go_wp2
      all_goals (go_ret2; exact ⟨rfl, HB3.out.drewN _⟩)
    · by_cases a2 : 9223372036854775808 < P + 0
      · have a2' : 9223372036854775808 - (P : Int) < (0 : Nat) := by omega
        clear hbad a2
        go_quiet (fail)
        all_goals go_wp2
        all_goals (go_ret2; exact ⟨rfl, HB3.out.drewN _⟩)
      · by_cases a3 : 9223372036854775808 < M
        · have a2' : ((0 : Nat) : Int) ≤ 9223372036854775808 - (P : Int) := by omega
          clear hbad a2
          go_quiet (fail)
          all_goals go_wp2
          all_goals (go_ret2; exact ⟨rfl, HB3.out.drewN _⟩)
        · have a2' : ((0 : Nat) : Int) ≤ 9223372036854775808 - (P : Int) := by omega
          have a4 : 9223372036854775808 - (M : Int) < (0 : Nat) := by omega
          clear hbad a2
          go_quiet (fail)
          all_goals go_wp2
          all_goals (go_ret2; exact ⟨rfl, HB3.out.drewN _⟩)
  · obtain ⟨d, rfl⟩ : ∃ d : Nat, n = -(d : Int) := ⟨(-n).toNat, by omega⟩
    have hle : -9223372036854775808 - (-(d : Int)) ≤ va := by omega
    have e0 : (-(d : Int)).toNat = 0 := by omega
    have e1 : (- -(d : Int)).toNat = d := by omega
    rw [e0, e1] at hbad
    have hw : IntKind.u64.wrap (-IntKind.u64.wrap (-(d : Int))) = (d : Int) := by rw [wrap_u64, wrap_u64]; omega
    clear hr e0 e1
    go_wp2
    clear hw
    by_cases a1 : 9223372036854775808 < P
    · clear hbad
      go_quiet (fail)
      all_goals go_wp2
      all_goals (go_ret2; exact ⟨rfl, HB3.out.drewN _⟩)
    · by_cases a2 : 9223372036854775808 < P + 0
      · have a2' : 9223372036854775808 - (P : Int) < (0 : Nat) := by omega
        clear hbad a2
        go_quiet (fail)
        all_goals go_wp2
        all_goals (go_ret2; exact ⟨rfl, HB3.out.drewN _⟩)
      · by_cases a3 : 9223372036854775808 < M
        · have a2' : ((0 : Nat) : Int) ≤ 9223372036854775808 - (P : Int) := by omega
          clear hbad a2
          go_quiet (fail)
          all_goals go_wp2
          all_goals (go_ret2; exact ⟨rfl, HB3.out.drewN _⟩)
        · have a2' : ((0 : Nat) : Int) ≤ 9223372036854775808 - (P : Int) := by omega
          have a4 : 9223372036854775808 - (M : Int) < (d : Nat) := by omega
          clear hbad a2
          go_quiet (fail)
          all_goals go_wp2
          all_goals (go_ret2; exact ⟨rfl, HB3.out.drewN _⟩)
set_option maxHeartbeats 4000000 in
theorem Add_raw (w : World) (p : Option Addr) (cap : Nat) (l : List CntD) (k : Key) (n : Int) (h : CntsArg w p l) (hn : l.length ≤ 4398046511102) (hk : k.length ≤ maxLen) (n1 : -9223372036854775808 ≤ n) (n2 : n ≤ 9223372036854775807)
    (hr : -9223372036854775808 ≤ valE l + n ∧ valE l + n ≤ 9223372036854775807) (hfit : (fOf l k).1 + n.toNat ≤ 2 ^ 63 ∧ (fOf l k).2 + (-n).toNat ≤ 2 ^ 63) :
    Calls Try.prog 9 #[.slice p l.length cap, .string (B k), .int .i64 n] w fun e w' => ∃ v m, e = .returned (.tuple #[v, .int .i64 0]) ∧ w'.ownsRow w.heap.size 43 3 v m ((norm (keysE (putT (putGs [] l) ⟨k, n.toNat, (-n).toNat⟩)) (fnE (putT (putGs [] l) ⟨k, n.toNat, (-n).toNat⟩))).flatMap cntC) ∧ m = (norm (keysE (putT (putGs [] l) ⟨k, n.toNat, (-n).toNat⟩)) (fnE (putT (putGs [] l) ⟨k, n.toNat, (-n).toNat⟩))).length ∧ Below w.heap.size w w' := by
  have HK := Lib.hid hk
  have HFIT := Lib.hid hfit
  clear hk hfit
  have hb1 : Below w.heap.size w (w.alloc (.cells #[.slice p l.length cap] 22)) := (Below.refl _ _).alloc (Nat.le_refl _) _
  have hz : (w.alloc (.cells #[.slice p l.length cap] 22)).heap.size = w.heap.size + 1 := by simp
  have hG := Greatest_calls _ (some ⟨w.heap.size, 0, none⟩) 1 [l] (lists_one cap 22 h) (by simp; omega) (by simp)
  have hOK := h.ok
  rw [hz, show [l].length = 1 from rfl, show [l].flatten = l by simp] at hG
  have HG := Lib.hid hG
  have HO := Lib.hid (show Oks l from hOK)
  have HB := Lib.hid hb1
  clear hG hOK h hb1 hz
  unfold sumsV at HG
  have HV := valE_in l
  go_enter Try.func9, Try.ntmps9
  go_wp2_with fail
  with_reducible refine HG.out.mono ?_
  rintro e w2 ⟨rfl, hs, hb, hz⟩
  have hal := (Below.refl w2.heap.size w2).alloc (Nat.le_refl _) (.cells #[.map (some (w.heap.size + 1 + 1)), .map (some (w.heap.size + 1 + 1 + 1))] 48)
  have HC := Lib.hid (ValueE_calls _ _ _ _ (hs.next hal) HO.out.inU)
  have HB2 := Lib.hid ((HB.out.trans (hb.mono (by omega))).trans (hal.mono (Nat.le_trans (HB.out.trans (hb.mono (by omega))).size (Nat.le_refl _))))
  have hlt1 : w.heap.size + 1 + 1 + 1 < w2.heap.size := hs.minus.lt
  have hc0 : (w2.alloc (.cells #[.map (some (w.heap.size + 1 + 1)), .map (some (w.heap.size + 1 + 1 + 1))] 48)).cell? ⟨w2.heap.size, 0, none⟩ = some (.map (some (w.heap.size + 1 + 1))) := by simp
  have hc1 : (w2.alloc (.cells #[.map (some (w.heap.size + 1 + 1)), .map (some (w.heap.size + 1 + 1 + 1))] 48)).cell? ⟨w2.heap.size, 1, none⟩ = some (.map (some (w.heap.size + 1 + 1 + 1))) := by simp
  have HS := Lib.hid (hs.next hal)
  clear hs hb hz HG HB hal
  unfold sumsV at HC
  go_wp2_with fail
  generalize (w2.alloc (.cells #[.map (some (w.heap.size + 1 + 1)), .map (some (w.heap.size + 1 + 1 + 1))] 48)) = W2 at *
  with_reducible refine HC.out.mono ?_
  rintro e w3 ⟨rfl, hb3⟩
  have HB3 := Lib.hid (HB2.out.trans (hb3.mono HB2.out.size))
  have HS3 := Lib.hid (HS.out.next hb3)
  have hd0 := (hb3.cell (p := ⟨w2.heap.size, 0, none⟩) (lt_of_cell hc0)).trans hc0
  have hd1 := (hb3.cell (p := ⟨w2.heap.size, 1, none⟩) (lt_of_cell hc1)).trans hc1
  have hlk1 := fun j => (HS3.out.plus.drewN j).look keyedS Try.underlying46 (zU (w3.drewN j)) (keyB k HK.out)
  have hlk2 := fun j => (HS3.out.minus.drewN j).look keyedS Try.underlying46 (zU (w3.drewN j)) (keyB k HK.out)
  simp only [look_plus] at hlk1
  simp only [look_minus] at hlk2
  rw [fOf_get] at HFIT
  have hu := HO.out.inU.get (keyS k)
  have hlen := putGs_len l
  have HLEN := Lib.hid (show (putGs [] l).length ≤ 4398046511102 by omega)
  have HU := Lib.hid HO.out.inU
  have HST := Lib.hid HO.out.str
  clear hlen
  generalize hes : putGs [] l = es at *
  have HES := Lib.hid hes
  clear hes
  generalize hgt : getE es (keyS k) = pq at *
  have HGT := Lib.hid hgt
  clear hgt
  obtain ⟨P, M⟩ := pq
  simp only at hu
  unfold u64 at hlk1 hlk2
  have hfit := HFIT.out
  simp only at hfit
  clear hb3 HC hc0 hc1 HFIT HS
  have hWz := lt_of_cell hd0
  simp only at hWz
  generalize valE l = va at *
  obtain ⟨v1, v2⟩ := HV
  have hcase : 0 < n ∨ n = 0 ∨ n < 0 := by omega
  rcases hcase with hp | hp | hp
  · have hle : va ≤ 9223372036854775807 - n := by omega
    obtain ⟨u, rfl⟩ : ∃ u : Nat, n = (u : Int) := ⟨n.toNat, by omega⟩
    have e0 : (-(u : Int)).toNat = 0 := by omega
    rw [e0] at hfit
    simp only [Int.toNat_natCast] at hfit
    clear hr e0
    go_wp2
    have a1 : (P : Int) ≤ 9223372036854775808 := by omega
    have a2' : ((u : Nat) : Int) ≤ 9223372036854775808 - (P : Int) := by omega
    have a3 : (M : Int) ≤ 9223372036854775808 := by omega
    have a4 : ((0 : Nat) : Int) ≤ 9223372036854775808 - (M : Int) := by omega
    go_quiet (fail)
    go_wp2_with fail
    have hU : u < 2 ^ 64 := by omega
    have hD : 0 < 2 ^ 64 := by omega
    have hd0' : (w3.drewN nq).cell? ⟨w2.heap.size, 0, none⟩ = some (.map (some (w.heap.size + 1 + 1))) := hd0
    have hd1' : (w3.drewN nq).cell? ⟨w2.heap.size, 1, none⟩ = some (.map (some (w.heap.size + 1 + 1 + 1))) := hd1
    have hs5 : SumsAt (w3.drewN nq) (w.heap.size + 1 + 1) (w.heap.size + 1 + 1 + 1) es := ⟨HS3.out.apart, HS3.out.plus.drewN nq, HS3.out.minus.drewN nq⟩
    have HB5 := Lib.hid (HB3.out.drewN nq)
    have hWz5 : w2.heap.size < (w3.drewN nq).heap.size := hWz
    clear hlk1 hlk2 hd0 hd1 hWz HB3 HS3
    generalize w3.drewN nq = w5 at *
    have hsW : SumsAt w5.drew (w.heap.size + 1 + 1) (w.heap.size + 1 + 1 + 1) es := ⟨hs5.apart, hs5.plus.drew, hs5.minus.drew⟩
    have hP := Lib.hid (PutT_calls _ _ _ _ ⟨k, u, 0⟩ hsW (by have := HLEN.out; unfold maxLen; omega) (HU.out.get _) HK.out hU hD)
    have hT := together_f w5.drew
    unfold sumsV cntV u64 at hP
    rw [show ((0 : Nat) : Int) = 0 from rfl] at hP
    clear hs5 hsW hU hD
    go_still_tail 6, (by kernel_rfl)
    still_call hT
    refine wpStill_nil ?_
    change wpList _ _ _ _ _ w5.drew
    go_wp2_with fail
    with_reducible refine hP.out.mono ?_
    rintro e w4 ⟨rfl, hs4, hk4⟩
    have hs4 : SumsAt w4 (w.heap.size + 1 + 1) (w.heap.size + 1 + 1 + 1) (putT es ⟨k, u, 0⟩) := hs4
    have hc04 := (World.cell?_of_block (a := ⟨w2.heap.size, 0, none⟩) (hk4.block w2.heap.size hWz5 (by omega))).trans hd0'
    have hc14 := (World.cell?_of_block (a := ⟨w2.heap.size, 1, none⟩) (hk4.block w2.heap.size hWz5 (by omega))).trans hd1'
    have HB4 := Lib.hid (HB5.out.drew.trans (hk4.below (K := w.heap.size) (fun i hi => by omega) HB5.out.size))
    have HL4 := Lib.hid (List_calls _ _ _ _ hs4 (InU.putT HU.out _) (HST.out.putT _ HK.out) (by have := putT_le es ⟨k, u, 0⟩; have := HLEN.out; omega))
    unfold sumsV at HL4
    clear hs4 hk4 hT hP
    go_wp2_with fail
    with_reducible refine HL4.out.mono ?_
    rintro e w7 ⟨v, m, rfl, ho, hm, hb7⟩
    have HB7 := Lib.hid (later HB4.out hb7)
    have HO7 := Lib.hid (own_lower ho HB4.out.size)
    have HM := Lib.hid hm
    clear hb7 ho hm HL4
    go_wp2
    go_ret2
    rw [HES.out, show ((u : Int)).toNat = u from rfl, show (-(u : Int)).toNat = 0 by omega]
    exact ⟨_, _, rfl, HO7.out, HM.out, HB7.out⟩
  · subst hp
    simp only [Int.neg_zero, Int.toNat_zero] at hfit
    clear hr
    go_wp2
    have a1 : (P : Int) ≤ 9223372036854775808 := by omega
    have a2' : ((0 : Nat) : Int) ≤ 9223372036854775808 - (P : Int) := by omega
    have a3 : (M : Int) ≤ 9223372036854775808 := by omega
    have a4 : ((0 : Nat) : Int) ≤ 9223372036854775808 - (M : Int) := by omega
    go_quiet (fail)
    go_wp2_with fail
    have hU : 0 < 2 ^ 64 := by omega
    have hD : 0 < 2 ^ 64 := by omega
    have hd0' : (w3.drewN nq).cell? ⟨w2.heap.size, 0, none⟩ = some (.map (some (w.heap.size + 1 + 1))) := hd0
    have hd1' : (w3.drewN nq).cell? ⟨w2.heap.size, 1, none⟩ = some (.map (some (w.heap.size + 1 + 1 + 1))) := hd1
    have hs5 : SumsAt (w3.drewN nq) (w.heap.size + 1 + 1) (w.heap.size + 1 + 1 + 1) es := ⟨HS3.out.apart, HS3.out.plus.drewN nq, HS3.out.minus.drewN nq⟩
    have HB5 := Lib.hid (HB3.out.drewN nq)
    have hWz5 : w2.heap.size < (w3.drewN nq).heap.size := hWz
    clear hlk1 hlk2 hd0 hd1 hWz HB3 HS3
    generalize w3.drewN nq = w5 at *
    have hsW : SumsAt w5.drew (w.heap.size + 1 + 1) (w.heap.size + 1 + 1 + 1) es := ⟨hs5.apart, hs5.plus.drew, hs5.minus.drew⟩
    have hP := Lib.hid (PutT_calls _ _ _ _ ⟨k, 0, 0⟩ hsW (by have := HLEN.out; unfold maxLen; omega) (HU.out.get _) HK.out hU hD)
    have hT := together_f w5.drew
    unfold sumsV cntV u64 at hP
    rw [show ((0 : Nat) : Int) = 0 from rfl] at hP
    clear hs5 hsW hU hD
    go_still_tail 6, (by kernel_rfl)
    still_call hT
    refine wpStill_nil ?_
    change wpList _ _ _ _ _ w5.drew
    go_wp2_with fail
    with_reducible refine hP.out.mono ?_
    rintro e w4 ⟨rfl, hs4, hk4⟩
    have hs4 : SumsAt w4 (w.heap.size + 1 + 1) (w.heap.size + 1 + 1 + 1) (putT es ⟨k, 0, 0⟩) := hs4
    have hc04 := (World.cell?_of_block (a := ⟨w2.heap.size, 0, none⟩) (hk4.block w2.heap.size hWz5 (by omega))).trans hd0'
    have hc14 := (World.cell?_of_block (a := ⟨w2.heap.size, 1, none⟩) (hk4.block w2.heap.size hWz5 (by omega))).trans hd1'
    have HB4 := Lib.hid (HB5.out.drew.trans (hk4.below (K := w.heap.size) (fun i hi => by omega) HB5.out.size))
    have HL4 := Lib.hid (List_calls _ _ _ _ hs4 (InU.putT HU.out _) (HST.out.putT _ HK.out) (by have := putT_le es ⟨k, 0, 0⟩; have := HLEN.out; omega))
    unfold sumsV at HL4
    clear hs4 hk4 hT hP
    go_wp2_with fail
    with_reducible refine HL4.out.mono ?_
    rintro e w7 ⟨v, m, rfl, ho, hm, hb7⟩
    have HB7 := Lib.hid (later HB4.out hb7)
    have HO7 := Lib.hid (own_lower ho HB4.out.size)
    have HM := Lib.hid hm
    clear hb7 ho hm HL4
    go_wp2
    go_ret2
    rw [HES.out, show ((0 : Int)).toNat = 0 from rfl, show (-(0 : Int)).toNat = 0 from rfl]
    exact ⟨_, _, rfl, HO7.out, HM.out, HB7.out⟩
  · obtain ⟨d, rfl⟩ : ∃ d : Nat, n = -(d : Int) := ⟨(-n).toNat, by omega⟩
    have hle : -9223372036854775808 - (-(d : Int)) ≤ va := by omega
    have e0 : (-(d : Int)).toNat = 0 := by omega
    have e1 : (- -(d : Int)).toNat = d := by omega
    rw [e0, e1] at hfit
    have hw : IntKind.u64.wrap (-IntKind.u64.wrap (-(d : Int))) = (d : Int) := by rw [wrap_u64, wrap_u64]; omega
    clear hr e0 e1
    go_wp2
    clear hw
    have a1 : (P : Int) ≤ 9223372036854775808 := by omega
    have a2' : ((0 : Nat) : Int) ≤ 9223372036854775808 - (P : Int) := by omega
    have a3 : (M : Int) ≤ 9223372036854775808 := by omega
    have a4 : ((d : Nat) : Int) ≤ 9223372036854775808 - (M : Int) := by omega
    go_quiet (fail)
    go_wp2_with fail
    have hU : 0 < 2 ^ 64 := by omega
    have hD : d < 2 ^ 64 := by omega
    have hd0' : (w3.drewN nq).cell? ⟨w2.heap.size, 0, none⟩ = some (.map (some (w.heap.size + 1 + 1))) := hd0
    have hd1' : (w3.drewN nq).cell? ⟨w2.heap.size, 1, none⟩ = some (.map (some (w.heap.size + 1 + 1 + 1))) := hd1
    have hs5 : SumsAt (w3.drewN nq) (w.heap.size + 1 + 1) (w.heap.size + 1 + 1 + 1) es := ⟨HS3.out.apart, HS3.out.plus.drewN nq, HS3.out.minus.drewN nq⟩
    have HB5 := Lib.hid (HB3.out.drewN nq)
    have hWz5 : w2.heap.size < (w3.drewN nq).heap.size := hWz
    clear hlk1 hlk2 hd0 hd1 hWz HB3 HS3
    generalize w3.drewN nq = w5 at *
    have hsW : SumsAt w5.drew (w.heap.size + 1 + 1) (w.heap.size + 1 + 1 + 1) es := ⟨hs5.apart, hs5.plus.drew, hs5.minus.drew⟩
    have hP := Lib.hid (PutT_calls _ _ _ _ ⟨k, 0, d⟩ hsW (by have := HLEN.out; unfold maxLen; omega) (HU.out.get _) HK.out hU hD)
    have hT := together_f w5.drew
    unfold sumsV cntV u64 at hP
    rw [show ((0 : Nat) : Int) = 0 from rfl] at hP
    clear hs5 hsW hU hD
    go_still_tail 6, (by kernel_rfl)
    still_call hT
    refine wpStill_nil ?_
    change wpList _ _ _ _ _ w5.drew
    go_wp2_with fail
    with_reducible refine hP.out.mono ?_
    rintro e w4 ⟨rfl, hs4, hk4⟩
    have hs4 : SumsAt w4 (w.heap.size + 1 + 1) (w.heap.size + 1 + 1 + 1) (putT es ⟨k, 0, d⟩) := hs4
    have hc04 := (World.cell?_of_block (a := ⟨w2.heap.size, 0, none⟩) (hk4.block w2.heap.size hWz5 (by omega))).trans hd0'
    have hc14 := (World.cell?_of_block (a := ⟨w2.heap.size, 1, none⟩) (hk4.block w2.heap.size hWz5 (by omega))).trans hd1'
    have HB4 := Lib.hid (HB5.out.drew.trans (hk4.below (K := w.heap.size) (fun i hi => by omega) HB5.out.size))
    have HL4 := Lib.hid (List_calls _ _ _ _ hs4 (InU.putT HU.out _) (HST.out.putT _ HK.out) (by have := putT_le es ⟨k, 0, d⟩; have := HLEN.out; omega))
    unfold sumsV at HL4
    clear hs4 hk4 hT hP
    go_wp2_with fail
    with_reducible refine HL4.out.mono ?_
    rintro e w7 ⟨v, m, rfl, ho, hm, hb7⟩
    have HB7 := Lib.hid (later HB4.out hb7)
    have HO7 := Lib.hid (own_lower ho HB4.out.size)
    have HM := Lib.hid hm
    clear hb7 ho hm HL4
    go_wp2
    go_ret2
    rw [HES.out, show (-(d : Int)).toNat = 0 by omega, show (- -(d : Int)).toNat = d by omega]
    exact ⟨_, _, rfl, HO7.out, HM.out, HB7.out⟩
theorem Add_f (w : World) (p : Option Addr) (cap : Nat) (l : List CntD) (k : Key) (n : Int) (h : CntsArg w p l) (hn : l.length ≤ 4398046511102) (hk : k.length ≤ maxLen) (n1 : -9223372036854775808 ≤ n) (n2 : n ≤ 9223372036854775807)
    (hr : -9223372036854775808 ≤ valE l + n ∧ valE l + n ≤ 9223372036854775807) (hfit : (fOf l k).1 + n.toNat ≤ 2 ^ 63 ∧ (fOf l k).2 + (-n).toNat ≤ 2 ^ 63) :
    Calls Try.prog 9 #[.slice p l.length cap, .string (B k), .int .i64 n] w fun e w' => ∃ v, e = .returned (.tuple #[v, .int .i64 0]) ∧ Gives w w' v (addF (fOf l) k n.toNat (-n).toNat) (l.length + 1) := by
  have hOK : Oks l := h.ok
  refine (Add_raw w p cap l k n h hn hk n1 n2 hr hfit).mono ?_
  rintro e w' ⟨v, m, rfl, ho, hm, hb⟩
  refine ⟨v, rfl, ?_⟩
  have := gives_of ho hm hb (InU.putT hOK.inU _) (hOK.str.putT _ hk) ((dist_putGs l).put _ _) (n := l.length + 1) (by have h1 := putT_le (putGs [] l) ⟨k, n.toNat, (-n).toNat⟩; have h2 := putGs_len l; omega)
  rw [show fnE (putT (putGs [] l) ⟨k, n.toNat, (-n).toNat⟩) = addF (fOf l) k n.toNat (-n).toNat by funext j; rw [fnE_putT, fnE_putGs]; rfl] at this
  exact this
end Go.Proofs.Ytloackmpmhgkeaa.Cnt
