/-
  The document's counters (layer 12): the walk of put.
-/
import Derived.Test.YtloackmpmhgkeaaCntRef
import Derived.WalkLawsBesides
open Go Go.RowKit Go.Maps
namespace Go.Proofs.Ytloackmpmhgkeaa.Cnt
open Base Mp

theorem pg_eq (c x : CntD) (r : List CntD) (d : Bool) (h : x.by_ = c.by_) : pg c d (x :: r) = pg c d r := by
  cases d <;> (rw [pg]; rw [if_pos h])
theorem pg_ins (c x : CntD) (r : List CntD) (h : ¬ x.by_ = c.by_) (h2 : c.by_ < x.by_) : pg c false (x :: r) = c :: x :: pg c true r := by
  rw [pg, if_neg h]; simp [h2]
theorem pg_keepT (c x : CntD) (r : List CntD) (h : ¬ x.by_ = c.by_) : pg c true (x :: r) = x :: pg c true r := by
  rw [pg, if_neg h]; simp
theorem pg_keepF (c x : CntD) (r : List CntD) (h : ¬ x.by_ = c.by_) (h2 : ¬ c.by_ < x.by_) : pg c false (x :: r) = x :: pg c false r := by
  rw [pg, if_neg h]; simp [h2]
theorem flat_one (A : List CntD) (x : CntD) : (A ++ [x]).flatMap cntC = A.flatMap cntC ++ [.string (B x.by_), .int .u64 (x.plus : Int), .int .u64 (x.minus : Int)] := by
  rw [List.flatMap_append]; simp [cntC, u64]
theorem wpList_append_run {P : Program} {w w' : World} {ops : Array Oper} {rest : List Oper} {o : Oper} {a : Act} {Q : Exit → Act → World → Prop} (hgd : o.guard = none) (s x : Operand) (t : TypeId)
    (ho : o.op = .call { callee := .builtin .append, args := #[s, x], argTypes := #[t, t] }) {v xv v' : Value} (hs : a.eval s = v) (hx : a.eval x = xv) (hr : (Builtin.append_ #[t, t] o.type #[v, xv]).run P w = .ok v' w')
    (h : wpList P ops Q rest (a.put o.dst v') w') : wpList P ops Q (o :: rest) a w :=
  wpList_plain hgd fun _ hK => by
    unfold Oper.wp execOp
    simp only [ho, resolve, invoke, builtin, Sem.run_bind, Sem.run_pure, Result.andThen_ok, List.map_toArray, List.map_cons, List.map_nil, hs, hx, hr]
    exact hK _ _ h
/-- 'append(out, x)'. -/
theorem append_cnt (W : World) (base : Nat) (hb : base ≤ W.heap.size) (v : Value) (A : List CntD) (ho : W.ownsRow base 43 3 v A.length (A.flatMap cntC)) (x : CntD) (hm : A.length + 1 ≤ 4398046511104) :
    ∃ g cap w', (Builtin.append_ #[22, 22] 22 #[v, .slice (some ⟨W.heap.size, 0, none⟩) 1 1]).run Try.prog (W.alloc (.cells #[.string (B x.by_), .int .u64 (x.plus : Int), .int .u64 (x.minus : Int)] 43)) = .ok (.slice (some ⟨g, 0, none⟩) (A.length + 1) cap) w' ∧
      w'.ownsRow base 43 3 (.slice (some ⟨g, 0, none⟩) (A.length + 1) cap) (A ++ [x]).length ((A ++ [x]).flatMap cntC) ∧ Below base W w' ∧ W.heap.size ≤ w'.heap.size := by
  obtain ⟨i0, hi, hz0, hz1, hz2⟩ := info_parts infoCnt
  have hz := alloc_more W (.cells #[.string (B x.by_), .int .u64 (x.plus : Int), .int .u64 (x.minus : Int)] 43)
  have hc := cells_made W #[.string (B x.by_), .int .u64 (x.plus : Int), .int .u64 (x.minus : Int)] 43
  have hb1 : Below base W (W.alloc (.cells #[.string (B x.by_), .int .u64 (x.plus : Int), .int .u64 (x.minus : Int)] 43)) := (Below.refl _ _).alloc hb _
  obtain ⟨g, cap, w', h1, h2, h3, -, -⟩ := run_append_lies (P := Try.prog) (W.alloc (.cells #[.string (B x.by_), .int .u64 (x.plus : Int), .int .u64 (x.minus : Int)] 43)) 22 22 base 43 i0 _ 3 32 Try.underlying22 hi hz0 hz1 hz2 rfl (by decide)
    v A.length _ (ho.alloc _) ⟨W.heap.size, 0, none⟩ 1 1 [.string (B x.by_), .int .u64 (x.plus : Int), .int .u64 (x.minus : Int)] rfl (fun j u hj => by
      have hj3 : j < 3 := by
        rcases Nat.lt_or_ge j 3 with h | h
        · exact h
        · rw [List.getElem?_eq_none (by simpa using h)] at hj; cases hj
      have := (hc j hj3).1
      rw [show (⟨W.heap.size, 0, none⟩ : Addr).add j = ⟨W.heap.size, j, none⟩ by simp [Addr.add]; omega, this]
      have : j = 0 ∨ j = 1 ∨ j = 2 := by omega
      rcases this with rfl | rfl | rfl <;> exact hj) (by simp [Value.oneCell']) (by decide) (by unfold maxLen; omega) (by omega) (by omega) _ rfl
  refine ⟨g, cap, w', h1, ?_, hb1.grown h3 (by omega) (fun q hq => (ho.lt q hq).1), ?_⟩
  · rw [flat_one, List.length_append]; exact h2
  · have := h3.size; omega

set_option maxHeartbeats 4000000 in
theorem Put_f (w : World) (p : Option Addr) (cap : Nat) (l : List CntD) (c : CntD) (h : CntsArg w p l) (hn : l.length ≤ 4398046511102) :
    Calls Try.prog 27 #[.slice p l.length cap, cntV c] w fun e w' => ∃ v, e = .returned v ∧ w'.ownsRow w.heap.size 43 3 v (putR l c).length ((putR l c).flatMap cntC) ∧ Below w.heap.size w w' := by
  have HA := Lib.hid h
  have HLN := Lib.hid (putR_len l c)
  clear h
  have hal := (Below.refl w.heap.size w).alloc (Nat.le_refl _) (.cells #[.string (B c.by_), .int .u64 (c.plus : Int), .int .u64 (c.minus : Int)] 43)
  have hcs := cells_made w #[.string (B c.by_), .int .u64 (c.plus : Int), .int .u64 (c.minus : Int)] 43
  have hd0 := (hcs 0 (by simp)).1
  have hd1 := (hcs 1 (by simp)).1
  have hd2 := (hcs 2 (by simp)).1
  have hz := alloc_more w (.cells #[.string (B c.by_), .int .u64 (c.plus : Int), .int .u64 (c.minus : Int)] 43)
  have HAL := Lib.hid (And.intro hal hz)
  have HD := Lib.hid (And.intro hd0 (And.intro hd1 hd2))
  clear hal hcs hz hd0 hd1 hd2
  unfold cntV u64
  by_cases hz : c.plus = 0
  all_goals
    by_cases hy : c.minus = 0
    all_goals
      first
      | (have t1 : ((c.plus : Int) == 0) = true := by simpa using hz)
      | (have t1 : ((c.plus : Int) == 0) = false := by simpa using hz)
      first
      | (have t2 : ((c.minus : Int) == 0) = true := by simpa using hy)
      | (have t2 : ((c.minus : Int) == 0) = false := by simpa using hy)
      have HZC := Lib.hid (show zeroC c = decide (c.plus = 0 ∧ c.minus = 0) from rfl)
      simp only [hz, hy] at HZC
      have HZC2 := Lib.hid HZC.out
      clear hz hy HZC
      go_enter Try.func27, Try.ntmps27
      go_wp2_with fail
      obtain ⟨hal, hz1⟩ := HAL.out
      obtain ⟨hd0, hd1, hd2⟩ := HD.out
      clear t1 t2
      generalize w.alloc (.cells #[.string (B c.by_), .int .u64 (c.plus : Int), .int .u64 (c.minus : Int)] 43) = w0 at *
      have HST := Lib.hid (And.intro hal (And.intro hd0 (And.intro hd1 hd2)))
      clear hal hd0 hd1 hd2
      go_loopw [5, 6, 7] (fun v dd u wr => ∃ (i : Nat) (d : Bool) (A : List CntD), dd = .bool d ∧ u = .int .i64 (i : Int) ∧ i ≤ l.length ∧ A ++ pg c d (l.drop i) = putR l c ∧ wr.ownsRow (w.heap.size + 1) 43 3 v A.length (A.flatMap cntC) ∧
        wr.cell? ⟨w.heap.size, 0, none⟩ = some (.string (B c.by_)) ∧ wr.cell? ⟨w.heap.size, 1, none⟩ = some (.int .u64 (c.plus : Int)) ∧ wr.cell? ⟨w.heap.size, 2, none⟩ = some (.int .u64 (c.minus : Int)) ∧ Below w.heap.size w wr) (fun _ _ u _ => l.length - (intOf u).toNat)
      case atStart =>
        have hnil : w0.ownsRow (w.heap.size + 1) 43 3 (.slice none 0 0) 0 [] := ⟨rfl, .inl ⟨rfl, rfl⟩⟩
        exact ⟨0, _, [], rfl, rfl, Nat.zero_le _, by rw [putR, HZC2.out]; simp, hnil, HST.out.2.1, HST.out.2.2.1, HST.out.2.2.2, HST.out.1⟩
      case round =>
        obtain ⟨i, d, A, rfl, rfl, hi, hpg, hown, hd0, hd1, hd2, hbe⟩ := hrel
        clear HST
        have HOWN := Lib.hid hown
        have HBE := Lib.hid hbe
        have HPG := Lib.hid hpg
        have hsz : w.heap.size < wr.heap.size := lt_of_cell hd0
        have HLA := Lib.hid (show A.length ≤ l.length + 1 by have h1 := congrArg List.length hpg; rw [List.length_append] at h1; have := HLN.out; omega)
        clear hown hbe hpg
        by_cases hlt : i < l.length
        · have HLT := Lib.hid hlt
          have HDR := Lib.hid (show l.drop i = l[i] :: l.drop (i + 1) from List.drop_eq_getElem_cons hlt)
          obtain ⟨bb, oo, rfl, hca, -⟩ := HA.out i hlt
          have hbbw : bb < w.heap.size := lt_of_cell hca.c0
          have HCA := Lib.hid hca
          obtain ⟨c0, c1, c2⟩ := hca.below' hbbw HBE.out
          have i0 : 0 ≤ (i : Int) := by omega
          have i1 : (i : Int) < (l.length : Int) := by omega
          clear hca
          generalize l[i] = x at *
          by_cases hxc : x.by_ = c.by_
          · have t0 : (x.by_ == c.by_) = true := by simpa using hxc
            have HXC := Lib.hid hxc
            clear hxc
            go_wp2_with fail
            go_quiet (fail)
            go_wp2
            go_roundw
            case rel => exact ⟨i + 1, d, A, rfl, by go_num, HLT.out, by rw [← HPG.out, HDR.out, pg_eq _ _ _ _ HXC.out], own_drewN HOWN.out _, hd0, hd1, hd2, HBE.out.drewN _⟩
            case measure => have := HLT.out; simp [intOf]; omega
          · have t0 : (x.by_ == c.by_) = false := by simpa using hxc
            have HXC := Lib.hid hxc
            clear hxc
            cases d
            · by_cases hlk : c.by_ < x.by_
              · have hbl : Op.bytesLess c.by_ x.by_ = true := by rw [bytesLess_eq]; exact decide_eq_true hlk
                have HLK := Lib.hid hlk
                clear hlk
                go_wp2_with fail
                go_quiet (fail)
                go_wp2_with fail
                have HOW1 := Lib.hid (own_drewN HOWN.out nq)
                have HBE1 := Lib.hid (HBE.out.drewN nq)
                have hd0' : (wr.drewN nq).cell? ⟨w.heap.size, 0, none⟩ = some (.string (B c.by_)) := hd0
                have hd1' : (wr.drewN nq).cell? ⟨w.heap.size, 1, none⟩ = some (.int .u64 (c.plus : Int)) := hd1
                have hd2' : (wr.drewN nq).cell? ⟨w.heap.size, 2, none⟩ = some (.int .u64 (c.minus : Int)) := hd2
                have c0' : (wr.drewN nq).cell? ⟨bb, oo + i * 3, none⟩ = some (.string (B x.by_)) := c0
                have hsz' : w.heap.size < (wr.drewN nq).heap.size := hsz
                clear hd0 hd1 hd2 c0 c1 c2 hsz HOWN HBE
                generalize wr.drewN nq = w1 at *
                go_quiet (fail)
                have HOW2 := Lib.hid (own_drewN HOW1.out nq)
                have HBE2 := Lib.hid (HBE1.out.drewN nq)
                have hd0 : (w1.drewN nq).cell? ⟨w.heap.size, 0, none⟩ = some (.string (B c.by_)) := hd0'
                have hd1 : (w1.drewN nq).cell? ⟨w.heap.size, 1, none⟩ = some (.int .u64 (c.plus : Int)) := hd1'
                have hd2 : (w1.drewN nq).cell? ⟨w.heap.size, 2, none⟩ = some (.int .u64 (c.minus : Int)) := hd2'
                have hsz : w.heap.size < (w1.drewN nq).heap.size := hsz'
                clear hd0' hd1' hd2' c0' hsz' HOW1 HBE1
                generalize w1.drewN nq = w2 at *
                obtain ⟨g1, cp1, w3, hr1, ho1, hb1, hs1⟩ := append_cnt w2 (w.heap.size + 1) hsz _ A HOW2.out c (by have := HLA.out; omega)
                have HB3 := Lib.hid (HBE2.out.trans (hb1.mono (Nat.le_succ _)))
                have hLA1 : (A ++ [c]).length + 1 ≤ 4398046511104 := by have h1 := HLA.out; have h2 := congrArg List.length HPG.out; rw [HDR.out, pg_ins _ _ _ HXC.out HLK.out] at h2; simp only [List.length_append, List.length_cons, List.length_nil] at h2 ⊢; have := HLN.out; omega
                obtain ⟨g2, cp2, w4, hr2, ho2, hb2, hs2⟩ := append_cnt w3 (w.heap.size + 1) (by omega) _ (A ++ [c]) ho1 x hLA1
                rw [show (A ++ [c]).length = A.length + 1 by simp] at hr2
                have HB4 := Lib.hid (HB3.out.trans (hb2.mono (Nat.le_succ _)))
                obtain ⟨x0, x1, x2⟩ := HCA.out.below' hbbw HB3.out
                have e0 := (hb1.cell (p := ⟨w.heap.size, 0, none⟩) (Nat.lt_succ_self _)).trans hd0
                have e1 := (hb1.cell (p := ⟨w.heap.size, 1, none⟩) (Nat.lt_succ_self _)).trans hd1
                have e2 := (hb1.cell (p := ⟨w.heap.size, 2, none⟩) (Nat.lt_succ_self _)).trans hd2
                have HE := Lib.hid (And.intro ((hb2.cell (p := ⟨w.heap.size, 0, none⟩) (Nat.lt_succ_self _)).trans e0) (And.intro ((hb2.cell (p := ⟨w.heap.size, 1, none⟩) (Nat.lt_succ_self _)).trans e1) ((hb2.cell (p := ⟨w.heap.size, 2, none⟩) (Nat.lt_succ_self _)).trans e2)))
                have HO4 := Lib.hid ho2
                clear ho1 ho2 hb1 hb2 e0 e1 e2 HB3 hLA1 HBE2 HOW2
                have HR1 := Lib.hid hr1
                have HR2 := Lib.hid hr2
                clear hr1 hr2
                go_wp2_with (first | (at_builtin; refine wpList_append_run rfl _ _ _ rfl rfl rfl HR1.out ?_) | (at_builtin; refine wpList_append_run rfl _ _ _ rfl rfl rfl HR2.out ?_))
                go_roundw
                case rel =>
                  refine ⟨i + 1, true, A ++ [c] ++ [x], rfl, by go_num, HLT.out, ?_, ?_, HE.out.1, HE.out.2.1, HE.out.2.2, HB4.out⟩
                  · rw [← HPG.out, HDR.out, pg_ins _ _ _ HXC.out HLK.out]; simp
                  · have := HO4.out
                    simpa using this
                case measure => have := HLT.out; simp [intOf]; omega
              · have hbl : Op.bytesLess c.by_ x.by_ = false := by rw [bytesLess_eq]; exact decide_eq_false hlk
                have HLK := Lib.hid hlk
                clear hlk
                go_wp2_with fail
                go_quiet (fail)
                go_wp2_with fail
                have HOW1 := Lib.hid (own_drewN HOWN.out nq)
                have HBE1 := Lib.hid (HBE.out.drewN nq)
                have hd0' : (wr.drewN nq).cell? ⟨w.heap.size, 0, none⟩ = some (.string (B c.by_)) := hd0
                have hd1' : (wr.drewN nq).cell? ⟨w.heap.size, 1, none⟩ = some (.int .u64 (c.plus : Int)) := hd1
                have hd2' : (wr.drewN nq).cell? ⟨w.heap.size, 2, none⟩ = some (.int .u64 (c.minus : Int)) := hd2
                have c0' : (wr.drewN nq).cell? ⟨bb, oo + i * 3, none⟩ = some (.string (B x.by_)) := c0
                have hsz' : w.heap.size < (wr.drewN nq).heap.size := hsz
                clear hd0 hd1 hd2 c0 c1 c2 hsz HOWN HBE
                generalize wr.drewN nq = w1 at *
                go_quiet (fail)
                have HOW2 := Lib.hid (own_drewN HOW1.out nq)
                have HBE2 := Lib.hid (HBE1.out.drewN nq)
                have hd0 : (w1.drewN nq).cell? ⟨w.heap.size, 0, none⟩ = some (.string (B c.by_)) := hd0'
                have hd1 : (w1.drewN nq).cell? ⟨w.heap.size, 1, none⟩ = some (.int .u64 (c.plus : Int)) := hd1'
                have hd2 : (w1.drewN nq).cell? ⟨w.heap.size, 2, none⟩ = some (.int .u64 (c.minus : Int)) := hd2'
                have hsz : w.heap.size < (w1.drewN nq).heap.size := hsz'
                clear hd0' hd1' hd2' c0' hsz' HOW1 HBE1
                generalize w1.drewN nq = w2 at *
                obtain ⟨g2, cp2, w4, hr2, ho2, hb2, hs2⟩ := append_cnt w2 (w.heap.size + 1) hsz _ A HOW2.out x (by have := HLA.out; omega)
                have HB4 := Lib.hid (HBE2.out.trans (hb2.mono (Nat.le_succ _)))
                obtain ⟨x0, x1, x2⟩ := HCA.out.below' hbbw HBE2.out
                have HE := Lib.hid (And.intro ((hb2.cell (p := ⟨w.heap.size, 0, none⟩) (Nat.lt_succ_self _)).trans hd0) (And.intro ((hb2.cell (p := ⟨w.heap.size, 1, none⟩) (Nat.lt_succ_self _)).trans hd1) ((hb2.cell (p := ⟨w.heap.size, 2, none⟩) (Nat.lt_succ_self _)).trans hd2)))
                have HO4 := Lib.hid ho2
                have HR2 := Lib.hid hr2
                clear hr2 ho2 hb2 hd0 hd1 hd2 HBE2 HOW2
                go_wp2_with (at_builtin; refine wpList_append_run rfl _ _ _ rfl rfl rfl HR2.out ?_)
                go_roundw
                case rel =>
                  refine ⟨i + 1, false, A ++ [x], rfl, by go_num, HLT.out, ?_, ?_, HE.out.1, HE.out.2.1, HE.out.2.2, HB4.out⟩
                  · rw [← HPG.out, HDR.out, pg_keepF _ _ _ HXC.out HLK.out]; simp
                  · have := HO4.out
                    simpa using this
                case measure => have := HLT.out; simp [intOf]; omega
            · skip
              go_wp2_with fail
              go_quiet (fail)
              go_wp2_with fail
              have HOW1 := Lib.hid (own_drewN HOWN.out nq)
              have HBE1 := Lib.hid (HBE.out.drewN nq)
              have hd0' : (wr.drewN nq).cell? ⟨w.heap.size, 0, none⟩ = some (.string (B c.by_)) := hd0
              have hd1' : (wr.drewN nq).cell? ⟨w.heap.size, 1, none⟩ = some (.int .u64 (c.plus : Int)) := hd1
              have hd2' : (wr.drewN nq).cell? ⟨w.heap.size, 2, none⟩ = some (.int .u64 (c.minus : Int)) := hd2
              have c0' : (wr.drewN nq).cell? ⟨bb, oo + i * 3, none⟩ = some (.string (B x.by_)) := c0
              have hsz' : w.heap.size < (wr.drewN nq).heap.size := hsz
              clear hd0 hd1 hd2 c0 c1 c2 hsz HOWN HBE
              generalize wr.drewN nq = w1 at *
              go_quiet (fail)
              have HOW2 := Lib.hid (own_drewN HOW1.out nq)
              have HBE2 := Lib.hid (HBE1.out.drewN nq)
              have hd0 : (w1.drewN nq).cell? ⟨w.heap.size, 0, none⟩ = some (.string (B c.by_)) := hd0'
              have hd1 : (w1.drewN nq).cell? ⟨w.heap.size, 1, none⟩ = some (.int .u64 (c.plus : Int)) := hd1'
              have hd2 : (w1.drewN nq).cell? ⟨w.heap.size, 2, none⟩ = some (.int .u64 (c.minus : Int)) := hd2'
              have hsz : w.heap.size < (w1.drewN nq).heap.size := hsz'
              clear hd0' hd1' hd2' c0' hsz' HOW1 HBE1
              generalize w1.drewN nq = w2 at *
              obtain ⟨g2, cp2, w4, hr2, ho2, hb2, hs2⟩ := append_cnt w2 (w.heap.size + 1) hsz _ A HOW2.out x (by have := HLA.out; omega)
              have HB4 := Lib.hid (HBE2.out.trans (hb2.mono (Nat.le_succ _)))
              obtain ⟨x0, x1, x2⟩ := HCA.out.below' hbbw HBE2.out
              have HE := Lib.hid (And.intro ((hb2.cell (p := ⟨w.heap.size, 0, none⟩) (Nat.lt_succ_self _)).trans hd0) (And.intro ((hb2.cell (p := ⟨w.heap.size, 1, none⟩) (Nat.lt_succ_self _)).trans hd1) ((hb2.cell (p := ⟨w.heap.size, 2, none⟩) (Nat.lt_succ_self _)).trans hd2)))
              have HO4 := Lib.hid ho2
              have HR2 := Lib.hid hr2
              clear hr2 ho2 hb2 hd0 hd1 hd2 HBE2 HOW2
              go_wp2_with (at_builtin; refine wpList_append_run rfl _ _ _ rfl rfl rfl HR2.out ?_)
              go_roundw
              case rel =>
                refine ⟨i + 1, true, A ++ [x], rfl, by go_num, HLT.out, ?_, ?_, HE.out.1, HE.out.2.1, HE.out.2.2, HB4.out⟩
                · rw [← HPG.out, HDR.out, pg_keepT _ _ _ HXC.out]; simp
                · have := HO4.out
                  simpa using this
              case measure => have := HLT.out; simp [intOf]; omega
        · obtain rfl : i = l.length := by omega
          have hpg := HPG.out
          rw [List.drop_length] at hpg
          cases d
          · obtain ⟨g2, cp2, w4, hr2, ho2, hb2, hs2⟩ := append_cnt wr (w.heap.size + 1) hsz _ A HOWN.out c (by have := HLA.out; omega)
            rw [pg] at hpg
            rw [hpg] at ho2
            have HO4 := Lib.hid ho2
            have HB4 := Lib.hid (HBE.out.trans (hb2.mono (Nat.le_succ _)))
            have HR2 := Lib.hid hr2
            clear hr2 ho2 hb2 hpg
            go_wp2_with (at_builtin; refine wpList_append_run rfl _ _ _ rfl rfl rfl HR2.out ?_)
            go_ret
            exact ⟨_, rfl, own_lower HO4.out (Nat.le_succ _), HB4.out⟩
          · rw [pg, List.append_nil] at hpg
            subst hpg
            go_wp2
            go_ret
            exact ⟨_, rfl, own_lower HOWN.out (Nat.le_succ _), HBE.out⟩

end Go.Proofs.Ytloackmpmhgkeaa.Cnt
