/-
  Logs (layer 8): the walk of Append. Conditions: the records lie in memory, none is longer than a frame may be; numbers are far from the reach's end; the sum's table is laid.
-/
import Derived.Test.YtpiaplgbpjgjiaaDoorLgSync
open Go Go.RowKit
namespace Go.Proofs.YtpiaplgbpjgjiaaDoor.Lg
open Base Mp Dk Frame

theorem builder_kept {T e : TypeId} {K b : Nat} {bs : List Value} {w w' : World} {X : Nat → Prop} (h : Lib.IsBuilder T e K b bs w) (hk : Kept X w w') (hX : ∀ i, X i → i < K) : Lib.IsBuilder T e K b bs w' := by
  have key : ∀ p, Lib.BuilderAt T e K b p bs w → Lib.BuilderAt T e K b p bs w' := by
    rintro p ⟨hB, v, hv, ho, hn⟩
    refine ⟨hB, v, ?_, ?_, hn⟩
    · rw [hk.block b ?_ (fun hx => by have := hX b hx; omega), hv]
      rcases Nat.lt_or_ge b w.heap.size with hh | hh
      · exact hh
      · rw [Array.getElem?_eq_none hh] at hv; cases hv
    · obtain ⟨hl, ⟨h1, h2⟩ | ⟨g, cap, cur, rfl, hg, hb, r⟩⟩ := ho
      · exact ⟨hl, .inl ⟨h1, h2⟩⟩
      · refine ⟨hl, .inr ⟨g, cap, cur, rfl, hg, ?_, r⟩⟩
        have hlt : g < w.heap.size := by
          rcases Nat.lt_or_ge g w.heap.size with h | h
          · exact h
          · rw [Array.getElem?_eq_none h] at hb; cases hb
        rw [hk.block g hlt (fun hx => by have := hX g hx; omega)]
        exact hb
  exact h.imp (key _) (key _)
theorem puts_take_succ (rs : List Key) (k : Nat) (h : k < rs.length) : puts (rs.take (k + 1)) = puts (rs.take k) ++ put rs[k] := by
  rw [List.take_succ_eq_append_getElem h]; exact puts_snoc _ _
theorem puts_take_le (rs : List Key) (k : Nat) : (puts (rs.take k)).length ≤ (puts rs).length := by
  conv => rhs; rw [← List.take_append_drop k rs]
  unfold puts
  rw [List.map_append, List.flatten_append, List.length_append]
  omega
theorem puts_len (rs : List Key) : rs.length ≤ (puts rs).length := by
  induction rs with
  | nil => simp [puts]
  | cons a r ih => rw [puts_cons, List.length_append, put_length, List.length_cons]; omega
/-- What Append asks of its records, and of the log's numbers. -/
structure PutOk (w : World) (p : Option Addr) (rs : List Key) (L : LogD) : Prop where
  row : RowArg w p (strs rs)
  short : ∀ r ∈ rs, r.length ≤ 1048576
  sum : (puts rs).length ≤ 1099511627776
  size : L.size ≤ 1099511627776
  count : L.count ≤ 1099511627776
  name : L.name.length ≤ maxLen
set_option maxRecDepth 100000 in
set_option maxHeartbeats 4000000 in
theorem LAppend_f {w0 w : World} {b lb : Nat} {D : DiskD} {L : LogD} {T : Nat → Prop} (h : LX w0 w b lb D L T) (hT : Crc.TabOk w0) (p : Option Addr) (cap : Nat) (rs : List Key) (hp : PutOk w p rs L) :
    Calls Tryd.prog 10 #[.pointer (some ⟨lb, 0, none⟩), .slice p rs.length cap] w (LPost w0 w b lb T (putRs D L rs)) := by
  have HT := Lib.hid (There_y h.log)
  have c0 := (h.log 0 (by omega)).1
  have c1 := (h.log 1 (by omega)).1
  have c5 := (h.log 5 (by omega)).1
  simp only [logCell] at c0 c1 c5
  have HX := Lib.hid h
  have hlt := lt_of_cell c0
  have HF := Lib.hid h.far
  have HP := Lib.hid hp
  have HTB := Lib.hid (hT.below hT.lt h.dx.below)
  have HTL := Lib.hid (Nat.lt_of_lt_of_le hT.lt h.dx.below.size)
  by_cases hb : L.broken = true
  · have HE := Lib.hid (show putRs D L rs = (D, L, 3) by unfold putRs; rw [if_pos hb])
    rw [hb] at c5
    clear h hb hp
    go_enter Tryd.func10, Tryd.ntmps10
    go_wp2_with fail
    with_reducible refine HT.out.mono ?_
    rintro e w1 ⟨rfl, rfl⟩
    go_wp2
    go_ret
    rw [HE.out]
    exact ⟨rfl, by rw [more_self]; exact HX.out, Kept.refl _ _⟩
  have hb2 : L.broken = false := by simpa using hb
  rw [hb2] at c5
  by_cases hrs : rs = []
  · have HE := Lib.hid (show putRs D L rs = (D, L, 0) by unfold putRs; rw [if_neg hb, if_pos hrs])
    subst hrs
    clear h hb hp
    go_enter Tryd.func10, Tryd.ntmps10
    go_wp2_with fail
    with_reducible refine HT.out.mono ?_
    rintro e w1 ⟨rfl, rfl⟩
    go_wp2
    go_ret
    rw [HE.out]
    exact ⟨rfl, by rw [more_self]; exact HX.out, Kept.refl _ _⟩
  have hr1 : 0 < rs.length := List.length_pos_iff.2 hrs
  have hr2 : ((rs.length : Int) == 0) = false := by
    rw [beq_eq_false_iff_ne]; omega
  have hr3 : rs.length ≤ 1099511627776 := Nat.le_trans (puts_len rs) hp.sum
  have h0 : Lib.IsBuilder 61 5 w.heap.size w.heap.size [] (w.alloc (.cells #[.pointer none, .slice none 0 0] 61)) := Lib.fresh_isBuilder _ _ w
  have hb0 : Below w.heap.size w (w.alloc (.cells #[.pointer none, .slice none 0 0] 61)) := (Below.refl _ w).alloc (Nat.le_refl _) _
  have HB0 := Lib.hid hb0
  have H0 := Lib.hid h0
  have HNB := Lib.hid hb
  have HNR := Lib.hid hrs
  clear h hp hb hrs h0 hb0 hr1
  go_enter Tryd.func10, Tryd.ntmps10
  go_wp2_with fail
  with_reducible refine HT.out.mono ?_
  rintro e w1 ⟨rfl, rfl⟩
  go_wp2_with fail
  obtain ⟨fb, hfb⟩ : ∃ fb, fb = w.heap.size := ⟨_, rfl⟩
  rw [← hfb]
  have H1 := Lib.hid (show Lib.IsBuilder 61 5 w.heap.size fb (Lib.byteCells (puts (rs.take 0))) (w.alloc (.cells #[.pointer none, .slice none 0 0] 61)) from by rw [hfb]; exact H0.out)
  clear H0 hfb
  generalize w.alloc (.cells #[.pointer none, .slice none 0 0] 61) = wa at *
  go_loopw [26] (fun u wr => ∃ k : Nat, u = .int .i64 (k : Int) ∧ k ≤ rs.length ∧ Lib.IsBuilder 61 5 w.heap.size fb (Lib.byteCells (puts (rs.take k))) wr ∧ Below w.heap.size w wr) (fun u _ => rs.length - (intOf u).toNat)
  case atStart => exact ⟨0, rfl, Nat.zero_le _, H1.out, HB0.out⟩
  case round =>
    obtain ⟨k, rfl, hk, hbl, hbe⟩ := hrel
    have HBL := Lib.hid hbl
    have HBE := Lib.hid hbe
    clear hbl hbe
    by_cases hkl : k < rs.length
    · have t1 : (k : Int) < (rs.length : Int) := by omega
      have t2 : 0 ≤ (k : Int) := by omega
      obtain ⟨bs, os, rfl, hbs, hc⟩ := HP.out.row k (by rw [strs_length]; exact hkl)
      rw [strs_at _ _ hkl] at hc
      have hcw : wr.cell? ⟨bs, os + k, none⟩ = some (.string (B rs[k])) := (HBE.out.cell (p := ⟨bs, os + k, none⟩) hbs).trans hc
      have HPC := Lib.hid (Put_calls rs[k] wr (HP.out.short _ (List.getElem_mem hkl)) (HTB.out.below HTL.out HBE.out))
      have HPS := Lib.hid (puts_take_succ rs k hkl)
      have HPL := Lib.hid (show (puts (rs.take k)).length + (put rs[k]).length ≤ 1099511627776 by
        have h1 := puts_take_le rs (k + 1)
        rw [puts_take_succ rs k hkl, List.length_append] at h1
        exact Nat.le_trans h1 HP.out.sum)
      clear hc
      generalize put rs[k] = pt at *
      generalize rs[k] = rk at *
      go_wp2_with fail
      with_reducible refine HPC.out.mono ?_
      rintro e w3 ⟨rfl, hb3⟩
      have hbe3 : Below w.heap.size w w3 := HBE.out.trans (hb3.mono HBE.out.size)
      have HWS := Lib.hid (Bld.WriteString w.heap.size fb (Lib.byteCells (puts (rs.take k))) (B pt) w3 (builder_kept HBL.out (Kept.of_below (T := fun _ => False) hb3) (fun _ h => h.elim)) (by rw [Lib.byteCells_length, B_size]; have := HPL.out; omega) hbe3.size)
      have HB3 := Lib.hid hbe3
      clear hb3 hbe3 HPC hcw
      go_wp2_with fail
      with_reducible refine HWS.out.mono ?_
      rintro e w4 ⟨rfl, hb4, hbe4⟩
      have HB4 := Lib.hid (show Lib.IsBuilder 61 5 w.heap.size fb (Lib.byteCells (puts (rs.take (k + 1)))) w4 from by rw [HPS.out, Lib.byteCells_append]; exact Or.inr hb4)
      have HE4 := Lib.hid (HB3.out.trans hbe4)
      clear hb4 hbe4 HWS
      go_wp2_with fail
      go_roundw
      case rel =>
        first
          | exact ⟨k + 1, by go_num, hkl, HB4.out, HE4.out⟩
          | ((repeat apply Exists.intro); exact ⟨⟨k + 1, by go_num, hkl, HB4.out, HE4.out⟩, rfl⟩)
      case measure => simp [intOf]; omega
    · obtain rfl : k = rs.length := by omega
      rw [List.take_length] at HBL
      have t1 : ¬ (rs.length : Int) < (rs.length : Int) := by omega
      have HXR := Lib.hid (HX.out.later HBE.out)
      have d0 := (HXR.out.log 0 (by omega)).1
      have d1 := (HXR.out.log 1 (by omega)).1
      simp only [logCell] at d0 d1
      have hpn : puts rs ≠ [] := fun e => by
        have := puts_len rs
        rw [e] at this
        exact HNR.out (List.length_eq_zero_iff.1 (by simpa using this))
      have HST := Lib.hid (BString_f (w := wr.drew) (builder_kept HBL.out (Kept.of_below (T := fun _ => False) ((Below.refl wr.heap.size wr).drew)) (fun _ h => h.elim)) hpn)
      clear hpn
      obtain ⟨cc, hcc⟩ : ∃ cc, cc = (appendD D L.name (puts rs)).2 := ⟨_, rfl⟩
      have HAC := Lib.hid (show ∀ W, Below w.heap.size w W → Calls Tryd.prog 17 #[.pointer (some ⟨b, 0, none⟩), .string (B L.name), .string ⟨(puts rs).toArray⟩] W fun e w' => e = .returned (.int .i64 cc) ∧ DX w0 w' b (appendD D L.name (puts rs)).1 (More T W w') ∧ Kept T W w' from fun W hW => by
        rw [hcc]
        exact (HX.out.later hW).dx.op (Append_f (HX.out.later hW).dx.dk L.name (puts rs) HP.out.name (Nat.le_trans HP.out.sum (by decide))))
      have HCC := Lib.hid hcc
      clear c5 hcc
      go_wp2_with fail
      go_region_held3 (fun W => W.cell? ⟨lb, 0, none⟩ = some (.pointer (some ⟨b, 0, none⟩)) ∧ W.cell? ⟨lb, 1, none⟩ = some (.string (B L.name))) (first | go_keep | exact told_cells h8 | exact ⟨cell_kept ((hb66.cell (p := ⟨lb, 0, none⟩) hlt).trans c0) k7 HF.out, cell_kept ((hb66.cell (p := ⟨lb, 1, none⟩) hlt).trans c1) k7 HF.out⟩ | exact ⟨(hb66.cell (p := ⟨lb, 0, none⟩) hlt).trans c0, (hb66.cell (p := ⟨lb, 1, none⟩) hlt).trans c1⟩)
        (first
        | (go_at_call 32; with_reducible refine HST.out.mono ?_; rintro e w6 ⟨rfl, ⟨qb, cb, hqb⟩, hb6⟩; have hb66 : Below w.heap.size w w6 := HBE.out.drew.trans hb6)
        | (go_at_call 17; with_reducible refine (HAC.out w6 hb66).mono ?_; rintro e w7 ⟨rfl, h7, k7⟩)
        | (go_at_call 31; with_reducible refine (Told_f ((HX.out.later hb66).disk h7 k7).log _).mono ?_; rintro e w8 ⟨rfl, h8, k8⟩))
      have H8 := Lib.hid (((HX.out.later hb66).disk h7 k7).turn k8 h8)
      have K8 := Lib.hid ((Kept.of_below (T := fun i => T i ∨ i = lb) hb66).trans (two_kept k7 k8) (fun _ h => .inl h))
      have Z8 := Lib.hid (And.intro hb66.size (And.intro k7.size k8.size))
      have HOLD := Lib.hid HX.out.dx.old
      have hfb2 : w.heap.size ≤ fb := by
        rcases HBL.out with h | h
        · exact h.1
        · exact h.1
      have hqb8 : w8.cell? ⟨fb, 1, none⟩ = some (.slice qb (puts rs).length cb) := cell_kept (cell_kept hqb k7 (fun h => by have := HOLD.out fb h; omega)) k8 (by show ¬ fb = lb; omega)
      have e2 := (h8 2 (by omega)).1
      have e3 := (h8 3 (by omega)).1
      have g2 := (h8 2 (by omega)).2
      have g3 := (h8 3 (by omega)).2
      have HN8 := Lib.hid (show ∀ T2, T2 = More T w w8 → ∀ i, More T w6 w7 i → More T w w8 i from fun _ _ i hi => by
        have := Z8.out
        rcases hi with hi | hi
        · exact .inl hi
        · exact .inr (by omega))
      by_cases hc : cc = 0
      · subst hc
        rw [told_ok] at H8
        simp only [told_ok, logCell] at e2 e3
        have HE := Lib.hid (show putRs D L rs = ((appendD D L.name (puts rs)).1, { L with size := L.size + (puts rs).length, count := L.count + rs.length }, 0) by unfold putRs; rw [if_neg HNB.out, if_neg HNR.out, if_pos HCC.out.symm])
        have HBN := Lib.hid (fun (W : World) (hc : W.cell? ⟨fb, 1, none⟩ = some (.slice qb (puts rs).length cb)) => BLen_c hc)
        have HQB := Lib.hid hqb8
        have z1 := HP.out.size
        have z2 := HP.out.sum
        have z3 := HP.out.count
        have hwr : IntKind.i64.wrap ((L.size : Int) + ((puts rs).length : Int)) = ((L.size + (puts rs).length : Nat) : Int) := by rw [IntKind.wrap_i64]; omega
        clear h7 k7 h8 k8 hqb hqb8 c0 c1 d0 d1 HST HAC HN8 hb6 hb66
        go_wp2_with fail
        go_region_with (first | (go_at_call 33; (with_reducible refine (HBN.out _ ?_).mono ?_); exact HQB.out; rintro e w9 ⟨rfl, rfl⟩))
        all_goals
          have hk9 : Kept (fun i => i = lb) w8 (w8.setCell ⟨lb, 2, none⟩ (.int .i64 ((L.size : Int) + ((puts rs).length : Int)))).drew := by
            have := Kept.setCell (T := fun i => i = lb) (p := ⟨lb, 2, none⟩) (Kept.refl _ w8) (.inl rfl) (.int .i64 ((L.size : Int) + ((puts rs).length : Int)))
            exact ⟨this.os, this.tape, this.output, this.size, this.block⟩
          have h9 := H8.out.turn hk9 (L' := { L with size := L.size + (puts rs).length }) ((CellsAt.set H8.out.log (i := 2) (by omega) (.int .i64 ((L.size : Int) + ((puts rs).length : Int)))).congr fun j hj => by
            have : j = 0 ∨ j = 1 ∨ j = 2 ∨ j = 3 ∨ j = 4 ∨ j = 5 := by omega
            rcases this with rfl | rfl | rfl | rfl | rfl | rfl
            · rfl
            · rfl
            · show Value.int .i64 _ = Value.int .i64 ((_ : Nat) : Int)
              rw [Int.natCast_add]
            · rfl
            · rfl
            · rfl)
          have H9 := Lib.hid h9
          have K9 := Lib.hid hk9
          have m3 := (h9.log 3 (by omega)).1
          have n3 := (h9.log 3 (by omega)).2
          simp only [logCell] at m3
          have hl9 := lt_of_cell m3
          have hwc : IntKind.i64.wrap ((L.count : Int) + (rs.length : Int)) = ((L.count + rs.length : Nat) : Int) := by rw [IntKind.wrap_i64]; omega
          clear hk9 h9 e2 e3 g2 g3 hwr
          generalize (w8.setCell ⟨lb, 2, none⟩ (.int .i64 ((L.size : Int) + ((puts rs).length : Int)))).drew = wz at *
          go_wp2_with fail
          go_ret
          rw [HE.out]
          have hk : Kept (fun i => i = lb) wz (wz.setCell ⟨lb, 3, none⟩ (.int .i64 ((L.count : Int) + (rs.length : Int)))) := Kept.setCell (T := fun i => i = lb) (Kept.refl _ wz) (.inl rfl) _
          have h10 := H9.out.turn hk (L' := { L with size := L.size + (puts rs).length, count := L.count + rs.length }) ((CellsAt.set H9.out.log (i := 3) (by omega) (.int .i64 ((L.count : Int) + (rs.length : Int)))).congr fun j hj => by
            have : j = 0 ∨ j = 1 ∨ j = 2 ∨ j = 3 ∨ j = 4 ∨ j = 5 := by omega
            rcases this with rfl | rfl | rfl | rfl | rfl | rfl
            · rfl
            · rfl
            · rfl
            · show Value.int .i64 _ = Value.int .i64 ((_ : Nat) : Int)
              rw [Int.natCast_add]
            · rfl
            · rfl)
          refine ⟨rfl, h10.wide (fun i hi => ?_) (fun i hi => ?_), (K8.out.trans (K9.out.mono (T' := fun i => T i ∨ i = lb) fun _ hi => .inr hi) (fun _ h => .inl h)).trans (hk.mono (T' := fun i => T i ∨ i = lb) fun _ hi => .inr hi) (fun _ h => .inl h)⟩
          · have z8 := Z8.out
            have z9 := K9.out.size
            have z10 := hk.size
            rcases hi with hi | hi
            · exact .inl hi
            · exact .inr (by omega)
          · have z8 := Z8.out
            have z9 := K9.out.size
            have z10 := hk.size
            have zz := HX.out.dx.below.size
            rcases hi with hi | hi
            · exact ⟨HX.out.dx.own i hi, by have := HOLD.out i hi; omega, fun e => HF.out (e ▸ hi)⟩
            · omega
      · have hcb : (cc != 0) = true := by simpa using hc
        have HE := Lib.hid (show putRs D L rs = ((appendD D L.name (puts rs)).1, toldL L cc, cc) by unfold putRs; rw [if_neg HNB.out, if_neg HNR.out, if_neg (by rw [← HCC.out]; exact hc), ← HCC.out])
        clear h7 k7 h8 k8 hqb hqb8 c0 c1 d0 d1 HST HAC HN8 hb6 hb66 hc
        go_wp2_with fail
        go_ret
        rw [HE.out]
        refine ⟨rfl, H8.out.wide (fun i hi => ?_) (fun i hi => ?_), K8.out⟩
        · have z8 := Z8.out
          rcases hi with hi | hi
          · exact .inl hi
          · exact .inr (by omega)
        · have z8 := Z8.out
          have zz := HX.out.dx.below.size
          rcases hi with hi | hi
          · exact ⟨HX.out.dx.own i hi, by have := HOLD.out i hi; omega, fun e => HF.out (e ▸ hi)⟩
          · omega
end Go.Proofs.YtpiaplgbpjgjiaaDoor.Lg
