/-
  Counters (layer 12): the walk of CounterSums. No condition.
-/
import Derived.Test.YtloackmpmhgkeaaCntSumsA
import Derived.Deep.RegionLaw
open Go Go.RowKit Go.Maps
namespace Go.Proofs.Ytloackmpmhgkeaa.Cnt
open Base Mp

theorem infoSl : (Try.prog.info? 22).map (fun i => (i.zero, i.size, i.bytes)) = some (some (.slice none 0 0), 1, 24) := by kernel_rfl
theorem Add_w (wr : World) (p : Option Addr) (cap : Nat) (l : List CntD) (k : Key) (n : Int) (h : CntsArg wr p l) (hn : l.length ≤ 4398046511102) (hk : k.length ≤ maxLen) (n1 : -9223372036854775808 ≤ n) (n2 : n ≤ 9223372036854775807)
    (hr : -9223372036854775808 ≤ valE l + n ∧ valE l + n ≤ 9223372036854775807) (hfit : (fOf l k).1 + n.toNat ≤ 2 ^ 63 ∧ (fOf l k).2 + (-n).toNat ≤ 2 ^ 63) (W : World) (hW : Below wr.heap.size wr W) :
    Calls Try.prog 9 #[.slice p l.length cap, .string (B k), .int .i64 n] W fun e w' => ∃ p2 cap2 l2, e = .returned (.tuple #[.slice p2 l2.length cap2, .int .i64 0]) ∧ CntsArg w' p2 l2 ∧ Canon l2 (addF (fOf l) k n.toNat (-n).toNat) ∧ New wr p2 ∧ Below wr.heap.size wr w' := by
  refine (Add_n W p cap l k n (h.below hW) hn hk n1 n2 hr hfit).mono ?_
  rintro e w' ⟨v, rfl, p2, cap2, l2, rfl, a2, n2, f2, b2⟩
  exact ⟨p2, cap2, l2, rfl, a2, n2, fun a e => Nat.le_trans hW.size (f2 a e), later hW b2⟩
theorem CntsArg.drew {w : World} {p : Option Addr} {l : List CntD} (h : CntsArg w p l) : CntsArg w.drew p l := fun j hj => by
  obtain ⟨b, o, h1, h2, h3⟩ := h j hj
  exact ⟨b, o, h1, ⟨h2.c0, h2.c1, h2.c2⟩, h3⟩
theorem all_start (w : World) (N : Nat) : AllAt (w.alloc (.cells (madeCells #[Value.slice none 0 0] N) 22)) w.heap.size N (fun _ => []) := fun k hk => by
  have hsz : (madeCells #[Value.slice none 0 0] N).size = N := by simp [madeCells]
  have hc := cells_made w (madeCells #[Value.slice none 0 0] N) 22 k (by rw [hsz]; exact hk)
  refine ⟨none, 0, ?_, hc.2, fun j hj => by simp at hj, fun a e => by cases e⟩
  rw [hc.1]
  simp [madeCells, hk, Nat.mod_one]

set_option maxRecDepth 100000 in
set_option maxHeartbeats 4000000 in
theorem CounterSums_calls (w : World) (r : Nat) (hr : r < 256) (p : Option Addr) (cap : Nat) (l : List DeedD) (h : DeedsArg w p l) (hl : l.length ≤ maxLen) :
    Calls Try.prog 4 #[.int .u8 (r : Int), .slice p l.length cap] w fun e w' => e = .returned (.bool true) ∧ Below w.heap.size w w' := by
  have HA := Lib.hid h
  have HLL := Lib.hid hl
  clear h hl
  by_cases la : 200 < (l.length : Int)
  · go_enter Try.func4, Try.ntmps4
    go_wp2_with (go_at_call 8; with_reducible refine (Alive_f _).mono ?_; rintro e w' ⟨rfl, hb⟩)
    go_ret
    exact ⟨rfl, by assumption⟩
  · obtain ⟨N, hN⟩ : ∃ N : Nat, N = 1 + r % 5 := ⟨_, rfl⟩
    have hN5 : N ≤ 5 := by omega
    have hN1 : 1 ≤ N := by omega
    have hNe : (1 : Int) + (r : Int) % 5 = (N : Int) := by omega
    obtain ⟨i0, hi, hz0, hz1, hz2⟩ := info_parts infoSl
    have hmk := fun W : World => (make_laid (P := Try.prog) W 36 22 i0 (.slice none 0 0) 1 24 N Try.underlying36 hi hz0 hz1 hz2 (by omega) (by omega)).1
    have HST := Lib.hid (all_start w N)
    clear hi hz0 hz1 hz2 hN
    go_enter Try.func4, Try.ntmps4
    go_wp2_with fail
    have HB0 := Lib.hid ((Below.refl _ w).alloc (Nat.le_refl _) (.cells (madeCells #[Value.slice none 0 0] N) 22))
    generalize w.alloc (.cells (madeCells #[Value.slice none 0 0] N) 22) = w0 at *
    clear hmk hNe
    go_loopw [7, 8] (fun s u wr => ∃ (i : Nat) (F : Nat → List CntD) (P M : Nat → Nat), s = .int .i64 (sumT N P M) ∧ u = .int .i64 (i : Int) ∧ i ≤ l.length ∧ Inv N i F P M ∧ AllAt wr w.heap.size N F ∧ Below w.heap.size w wr) (fun _ u _ => l.length - (intOf u).toNat)
    case atStart =>
      refine ⟨0, _, _, _, ?_, rfl, Nat.zero_le _, Inv.start N, HST.out, HB0.out⟩
      have : ∀ n, sumT n (fun _ => 0) (fun _ => 0) = 0 := fun n => by
        induction n with
        | zero => rfl
        | succ n ih => rw [sumT, ih]; rfl
      rw [this]
    case round =>
      obtain ⟨i, F, P, M, rfl, rfl, hi, hinv, hall, hb⟩ := hrel
      have HINV := Lib.hid hinv
      have HALL := Lib.hid hall
      have HB := Lib.hid hb
      clear hinv hall hb
      by_cases hlt : i < l.length
      · have HLT := Lib.hid hlt
        obtain ⟨bb, oo, rfl, hda, hok⟩ := HA.out i hlt
        have hbbw : bb < w.heap.size := lt_of_cell hda.c0
        have hbn1 : ¬ bb = w.heap.size := by omega
        have hbn2 : ¬ w.heap.size = bb := by omega
        obtain ⟨c0, c1, c2, c3⟩ := hda.below hbbw HB.out
        generalize l[i] = d at *
        obtain ⟨dn, dby, dj, dot⟩ := d
        obtain ⟨o1, o2, o3, o4⟩ := hok
        simp only at c0 c1 c2 c3 o1 o2 o3 o4
        obtain ⟨K, hK⟩ : ∃ K, K = dn % N := ⟨_, rfl⟩
        have hKe : (dn : Int) % (N : Int) = (K : Int) := by rw [hK]; exact (Int.natCast_emod _ _).symm
        have hKN : K < N := by rw [hK]; exact Nat.mod_lt _ (by omega)
        obtain ⟨O, hO⟩ : ∃ O, O = dot % N := ⟨_, rfl⟩
        have hOe : (dot : Int) % (N : Int) = (O : Int) := by rw [hO]; exact (Int.natCast_emod _ _).symm
        have hON : O < N := by rw [hO]; exact Nat.mod_lt _ (by omega)
        clear hK hO
        obtain ⟨pk, ck, k0, kf, ka, kn⟩ := HALL.out K hKN
        obtain ⟨po, co, k1, -, oa, -⟩ := HALL.out O hON
        have i0 : 0 ≤ (i : Int) := by omega
        have i1 : (i : Int) < (l.length : Int) := by omega
        have K0 : 0 ≤ (K : Int) := by omega
        have K1 : (K : Int) < (N : Int) := by omega
        have O0 : 0 ≤ (O : Int) := by omega
        have O1 : (O : Int) < (N : Int) := by omega
        have HLK := HINV.out.len hKN
        have HLO := HINV.out.len hON
        have hwr : w.heap.size < wr.heap.size := lt_of_cell k0
        cases dj
        · have HV := Lib.hid (HINV.out.val hN5 (by omega) hKN ka.ok)
          have hown := HINV.out.own K hKN
          have hPb := HINV.out.bP K hKN
          have hMb := HINV.out.bM K hKN
          have hib : i * 2147483648 ≤ 200 * 2147483648 := Nat.mul_le_mul_right _ (by omega)
          have hfit : (fOf (F K) (keyR K)).1 + dby.toNat ≤ 2 ^ 63 ∧ (fOf (F K) (keyR K)).2 + (-dby).toNat ≤ 2 ^ 63 := by rw [hown]; simp only; omega
          have hrng : -9223372036854775808 ≤ valE (F K) + dby ∧ valE (F K) + dby ≤ 9223372036854775807 := by have := HV.out; omega
          have HADD := Lib.hid (Add_w wr pk ck (F K) (keyR K) dby ka (by omega) (by simp [keyR, maxLen]) (by omega) (by omega) hrng hfit)
          have HI2 := Lib.hid (fun l2 (n2 : Canon l2 (addF (fOf (F K)) (keyR K) dby.toNat (-dby).toNat)) => HINV.out.add hN5 (by omega) hKN (u := dby.toNat) (d := (-dby).toNat) (by omega) (by omega) n2.may n2.fn)
          have HSUM := Lib.hid (show sumT N (upd P K (P K + dby.toNat)) (upd M K (M K + (-dby).toNat)) = sumT N P M + dby by rw [sumT_upd N hKN]; omega)
          have hsb := sumT_bound HINV.out hN5 (by omega)
          obtain ⟨sb1, sb2⟩ := hsb
          have HKN := Lib.hid hKN
          obtain ⟨x0, hx0⟩ : ∃ x0, x0 = UInt8.ofNat (K + 1) := ⟨_, rfl⟩
          have hxe : (x0.toNat : Int) = (K : Int) + 1 := by rw [hx0, UInt8.toNat_ofNat_of_lt' (by show K + 1 < 256; omega)]; omega
          have HKR := Lib.hid (show keyR K = [1, x0] by rw [hx0]; rfl)
          have w1 : IntKind.i64.wrap ((K : Int) + 1) = (K : Int) + 1 := IntWalk.i64_in _ (by omega)
          have w2' : IntKind.u8.wrap ((K : Int) + 1) = (x0.toNat : Int) := by rw [hxe]; simp [IntKind.wrap, IntKind.signed, IntKind.bits]; omega
          have w3 : IntKind.i64.wrap dby = dby := IntWalk.i64_in _ (by omega)
          have hcv1 := (bytesAt_cells wr [1, x0] 5 #[.int .u8 1, .int .u8 (x0.toNat : Int)] rfl).back (P := Try.prog) 39 9 5 2 2 rfl Try.underlying39 Try.underlying5 Try.underlying9
          have hcv2 := (bytesAt_cells wr [1, x0] 5 #[.int .u8 1, .int .u8 (x0.toNat : Int)] rfl).drew.back (P := Try.prog) 39 9 5 2 2 rfl Try.underlying39 Try.underlying5 Try.underlying9
          clear ka oa kn hown hPb hMb hib hfit hrng hx0 hxe HV
          rw [HKR.out] at HADD
          have hbbz : bb < wr.heap.size := lt_of_cell c0
          go_wp2_with fail
          go_region_with ((with_reducible refine (HADD.out _ ?_).mono ?_); (first | exact ((Below.refl _ _).alloc (Nat.le_refl _) _).drew | exact ((Below.refl _ _).drew.alloc (Nat.le_refl _) _) | exact ((Below.refl _ _).alloc (Nat.le_refl _) _)); rintro e w2 ⟨p2, cap2, l2, rfl, a2, n2, f2, hd2⟩)
          all_goals
            have hall2 := HALL.out.below hd2
            obtain ⟨pk2, ck2, s0, sf, -, -⟩ := hall2 K HKN.out
            have HST2 := Lib.hid (hall2.store HKN.out a2 (cap := cap2) (fun a e => by have h1 := f2 a e; omega))
            have HI3 := Lib.hid (HI2.out l2 (by rw [HKR.out]; exact n2))
            have HB2 := Lib.hid ((HB.out.trans (hd2.mono (Nat.le_of_lt hwr))).setCell (p := ⟨w.heap.size, K, none⟩) (Nat.le_refl _) (.slice p2 l2.length cap2))
            have e1 := (hd2.cell (p := ⟨bb, oo + i * 4 + 1, none⟩) (lt_of_cell c1)).trans c1
            have HBB := Lib.hid (lt_of_cell c0)
            have w4 : -9223372036854775808 ≤ sumT N P M + dby := by omega
            have w5 : sumT N P M + dby ≤ 9223372036854775807 := by omega
            clear hbbz a2 n2 f2 hd2 hall2 HADD HI2 hcv1 hcv2 w1 w2' w3 k0 kf k1 c0 c1 c2 c3
            go_wp2
            go_roundw
            case rel => exact ⟨i + 1, _, _, _, by rw [HSUM.out], by go_num, HLT.out, HI3.out, HST2.out, HB2.out⟩
            case measure => have := HLT.out; simp [intOf]; omega
        · have HJ := Lib.hid (Join_n wr.drew pk po ck co (F K) (F O) ka.drew oa.drew (by omega))
          have HKN := Lib.hid (And.intro hKN hON)
          clear ka oa kn
          go_wp2_with fail
          have q1 : ((N : Int) == 0) = false := by simp; omega
          have q2 : (dot : Int).tmod (N : Int) = (O : Int) := by rw [Int.tmod_eq_emod_of_nonneg (by omega)]; exact hOe
          have q3 : IntKind.i64.wrap (O : Int) = (O : Int) := IntWalk.i64_in _ (by omega)
          have q6 : IntKind.i64.wrap (dot : Int) = (dot : Int) := IntWalk.i64_in _ (by omega)
          have q4 : ¬ (N : Int) = 0 := by omega
          have q5 : ¬ N = 0 := by omega
          go_region_with ((with_reducible refine HJ.out.mono ?_); rintro e w2 ⟨v, rfl, p2, cap2, l2, rfl, a2, n2, f2, b2⟩; obtain ⟨pk2, ck2, s0, sf, -, -⟩ := (HALL.out.below (((Below.refl _ wr).drew).trans b2)) K HKN.out.1)
          all_goals
            have hd2 : Below wr.heap.size wr w2 := ((Below.refl _ wr).drew).trans b2
            have HST2 := Lib.hid ((HALL.out.below hd2).store HKN.out.1 a2 (cap := cap2) (fun a e => by have h1 := f2 a e; have h2 : w.heap.size < wr.drew.heap.size := hwr; omega))
            have HI2 := Lib.hid (HINV.out.join HKN.out.1 HKN.out.2 n2.may n2.fn)
            have HB2 := Lib.hid ((HB.out.trans (hd2.mono (Nat.le_of_lt hwr))).setCell (p := ⟨w.heap.size, K, none⟩) (Nat.le_refl _) (.slice p2 l2.length cap2))
            clear hd2 a2 n2 f2 b2 HJ k0 kf k1 c0 c1 c2 c3 q1 q2 q3 q4 q5 q6 s0 sf
            go_wp2
            go_roundw
            case rel => exact ⟨i + 1, _, _, _, rfl, by go_num, HLT.out, HI2.out, HST2.out, HB2.out⟩
            case measure => have := HLT.out; simp [intOf]; omega
      · obtain rfl : i = l.length := by omega
        have HI200 := Lib.hid (show l.length ≤ 200 by omega)
        have HOK := Lib.hid (fun k hk => (HALL.out k hk).elim fun _ h => h.elim fun _ h => h.2.2.1.ok)
        go_wp2_with fail
        obtain ⟨wo, rfl⟩ : ∃ wo : World, wo = wr := ⟨_, rfl⟩
        go_loopw [12, 13] (fun v u wt => ∃ (k : Nat) (q : Option Addr) (c : Nat) (j : List CntD), v = .slice q j.length c ∧ u = .int .i64 (k : Int) ∧ k ≤ N ∧ Fin N k P M j ∧ CntsArg wt q j ∧ Below wo.heap.size wo wt) (fun _ u _ => N - (intOf u).toNat)
        case atStart => exact ⟨0, none, 0, [], rfl, rfl, Nat.zero_le _, Fin.start N P M, fun j hj => by simp at hj, Below.refl _ _⟩
        case round =>
          obtain ⟨k, q, c, j, rfl, rfl, hk, hfin, hja, hbw⟩ := hrel
          have HFIN := Lib.hid hfin
          have HJA := Lib.hid hja
          have HBW := Lib.hid hbw
          clear hfin hja hbw
          by_cases hkN : k < N
          · obtain ⟨K2, hK2⟩ : ∃ K2, K2 = N - 1 - k := ⟨_, rfl⟩
            have hK2e : (N : Int) - 1 - (k : Int) = (K2 : Int) := by omega
            have hK2N : K2 < N := by omega
            have hK2k : K2 + k + 1 = N := by omega
            have z0 : 0 ≤ (K2 : Int) := by omega
            have z1 : (K2 : Int) < (N : Int) := by omega
            clear hK2
            obtain ⟨pk, ck, k0, -, ka, -⟩ := (HALL.out.below HBW.out) K2 hK2N
            have HJJ := Lib.hid (Join_n wr pk q ck c (F K2) j ka HJA.out (by have := HINV.out.len hK2N; have := len_of_supp HFIN.out.can HFIN.out.supp; omega))
            have HKL := Lib.hid (And.intro hkN hK2k)
            clear ka hK2N hK2k
            go_wp2_with fail
            with_reducible refine HJJ.out.mono ?_
            rintro e w2 ⟨v, rfl, p2, cap2, l2, rfl, a2, n2, f2, b2⟩
            have HF2 := Lib.hid (Fin.step HINV.out HFIN.out HKL.out.2 n2.may n2.fn)
            have HA2 := Lib.hid a2
            have HB2 := Lib.hid (later HBW.out b2)
            clear a2 n2 f2 b2 HJJ k0 z0 z1 hK2e
            go_wp2
            go_roundw
            case rel => exact ⟨k + 1, _, _, _, rfl, by go_num, HKL.out.1, HF2.out, HA2.out, HB2.out⟩
            case measure => have := HKL.out; simp [intOf]; omega
          · obtain rfl : k = N := by omega
            have HV := Lib.hid (Fin.val HINV.out HFIN.out hN5 HI200.out HJA.out.ok)
            have H1 := Lib.hid (Value_f wr q c j HJA.out (by have := len_of_supp HFIN.out.can HFIN.out.supp; omega))
            rw [HV.out] at H1
            have HALL2 := Lib.hid (HALL.out.below HBW.out)
            have HJL := Lib.hid (len_of_supp HFIN.out.can HFIN.out.supp)
            go_wp2_with fail
            with_reducible refine H1.out.mono ?_
            rintro e w2 ⟨rfl, b2⟩
            have HA2 := Lib.hid (HJA.out.below b2)
            have HB2 := Lib.hid (later HBW.out b2)
            have HALL3 := Lib.hid (HALL2.out.below b2)
            clear b2 H1 HALL2 HBW HJA
            have H2 := Lib.hid (May_f w2 q c j HA2.out (by have := HJL.out; omega))
            rw [HFIN.out.can] at H2
            go_wp2_with fail
            with_reducible refine H2.out.mono ?_
            rintro e w3 ⟨rfl, b3⟩
            have HA3 := Lib.hid (HA2.out.below b3)
            have HB3 := Lib.hid (later HB2.out b3)
            obtain ⟨p0, c0, k0, -, ka, -⟩ := (HALL3.out.below b3) 0 (by omega)
            have HL0 := Lib.hid (HINV.out.len (k := 0) (by omega))
            have H3 := Lib.hid (Join_n w3 q p0 c c0 j (F 0) HA3.out ka (by have := HJL.out; have := HL0.out; omega))
            clear b3 H2 HALL3 HA2 HB2 ka
            go_wp2_with fail
            with_reducible refine H3.out.mono ?_
            rintro e w4 ⟨v, rfl, p2, cap2, l2, rfl, a2, n2, f2, b2⟩
            have hl : j = l2 := (may_canon HFIN.out.can).unique (by rw [← Fin.idem HINV.out HFIN.out (by omega)]; exact n2)
            subst hl
            have H4 := Lib.hid (Same_yes w4 p2 q cap2 c j a2 (HA3.out.below b2) (by have := HJL.out; omega))
            have HB4 := Lib.hid (later HB3.out b2)
            clear a2 n2 f2 b2 H3 k0 HB3 HA3
            go_wp2_with fail
            with_reducible refine H4.out.mono ?_
            rintro e w5 ⟨rfl, n5, hw5⟩
            have HB5 := Lib.hid (show Below wo.heap.size wo w5 by rw [hw5]; exact HB4.out.drewN _)
            clear hw5 H4 HB4
            go_wp2_with fail
            with_reducible refine (Alive_f w5).mono ?_
            rintro e w6 ⟨rfl, b6⟩
            have HB6 := Lib.hid (HB.out.trans ((later HB5.out b6).mono HB.out.size))
            clear b6
            go_wp2
            go_ret
            exact ⟨rfl, HB6.out⟩

end Go.Proofs.Ytloackmpmhgkeaa.Cnt
