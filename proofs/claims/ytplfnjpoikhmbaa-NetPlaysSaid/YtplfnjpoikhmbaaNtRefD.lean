/-
  The document's net (layer 30): the walk of Drop. Condition: its struct and its row are the call's own.
-/
import Derived.Test.YtplfnjpoikhmbaaNtRef
open Go Go.RowKit
namespace Go.Proofs.Ytplfnjpoikhmbaa.Nt
open Base Mp

/-- What dropping leaves of the row. -/
theorem drop_row (G : List GramD) (n : Nat) (hr : Rising G) (h : atN G n < G.length) : (G.take (atN G n)).length = atN G n ∧ (G.drop (atN G n + 1)).length = G.length - (atN G n + 1) ∧ G.take (atN G n) ++ G.drop (atN G n + 1) = dropG G n :=
  ⟨by rw [List.length_take]; omega, by rw [List.length_drop], (drop_at hr h).symm⟩
theorem addr_row (g j : Nat) : (⟨g, 0, none⟩ : Addr).add j = ⟨g, j, none⟩ := by by_cases h : j = 0 <;> simp [Addr.add, h]
theorem addr_row2 (g i j : Nat) : ((⟨g, 0, none⟩ : Addr).add i).add j = ⟨g, i + j, none⟩ := by by_cases h : i = 0 <;> by_cases h2 : j = 0 <;> simp [Addr.add, h, h2]
theorem flat_take (G : List GramD) (k : Nat) : (G.take k).flatMap gramC = (G.flatMap gramC).take (k * 3) := by
  induction G generalizing k with
  | nil => simp
  | cons y r ih =>
    cases k with
    | zero => simp
    | succ k => rw [List.take_succ_cons, List.flatMap_cons, List.flatMap_cons, ih, List.take_append, show (k + 1) * 3 - (gramC y).length = k * 3 by simp [gramC]; omega, List.take_of_length_le (l := gramC y) (by simp [gramC]; omega)]
theorem flat_drop (G : List GramD) (k : Nat) : (G.drop k).flatMap gramC = (G.flatMap gramC).drop (k * 3) := by
  induction G generalizing k with
  | nil => simp
  | cons y r ih =>
    cases k with
    | zero => simp
    | succ k => rw [List.drop_succ_cons, List.flatMap_cons, ih, List.drop_append, show (k + 1) * 3 - (gramC y).length = k * 3 by simp [gramC]; omega, List.drop_of_length_le (l := gramC y) (by simp [gramC]; omega), List.nil_append]
set_option maxRecDepth 100000 in
set_option maxHeartbeats 1000000 in
theorem RDrop_f {w : World} {rb base : Nat} {v : Value} {N : NetD} (h : RAt w rb base v N) (n : Nat) : Calls Try.prog 20 #[ptr rb, .int .u64 (n : Int)] w fun e w' => e = .returned (.bool (findG N.G n).isSome) ∧ ∃ v', RAt w' rb base v' (dropN N n) ∧ Kept (fun i => i = rb) w w' ∧ Sprung v v' w.heap.size := by
  have HAT := Lib.hid (At_f h n)
  have H := Lib.hid h
  by_cases hat : atN N.G n < N.G.length
  · obtain ⟨g, cap, rfl, hcap, hbg, hgl, -⟩ := h.at hat
    have HE := Lib.hid (show atI N.G n = (atN N.G n : Int) from if_pos hat)
    have HF := Lib.hid (show (findG N.G n).isSome = true by rw [(find_at_some hat).1]; rfl)
    obtain ⟨l1, l2, l3⟩ := drop_row N.G n h.fine.rise hat
    have hfew := h.fine.few
    have htop := h.top
    have hlo := h.lo
    have hcell := fun j (hj : j < N.G.length * 3) => h.row.cellAt j hj
    generalize atN N.G n = k at *
    have c0 := h.c0
    -- the first append
    obtain ⟨v1, w1, hr1, ho1, hg1, hs1⟩ := append_grams w base htop (.slice none 0 0) [] (World.ownsRow_nil w base _ 3) ⟨g, 0, none⟩ cap (N.G.take k) (fun j u hj => by
      rw [flat_take] at hj
      have hj3 : j < k * 3 := by
        rcases Nat.lt_or_ge j (k * 3) with h | h
        · exact h
        · rw [List.getElem?_eq_none (by rw [List.length_take]; omega)] at hj; cases hj
      rw [List.getElem?_take_of_lt hj3] at hj
      rw [addr_row, hcell j (by omega), hj]) (by simp; omega)
    obtain ⟨p1, cp1, rfl⟩ := own_slice ho1
    rw [List.nil_append, l1] at hr1 ho1 hs1
    have hk1 : Kept (fun _ => False) w w1 := (kept_grown hg1).mono (fun i hi => by cases hi)
    have h1 := h.kept hk1 (fun h => h) (fun _ _ h => h)
    have hcell1 := fun j (hj : j < N.G.length * 3) => h1.row.cellAt j hj
    have c1 := h1.c0
    -- the second
    obtain ⟨ad, had, hadd⟩ : ∃ ad : Addr, ad = (if cap = k + 1 then (⟨g, 0, none⟩ : Addr) else ⟨g, (k + 1) * 3, none⟩) ∧ (k + 1 < N.G.length → ad = ⟨g, (k + 1) * 3, none⟩) := by
      by_cases hc : cap = k + 1
      · exact ⟨_, rfl, fun hh => by omega⟩
      · exact ⟨_, rfl, fun _ => if_neg hc⟩
    have haddr : ∀ j, (⟨g, (k + 1) * 3, none⟩ : Addr).add j = ⟨g, (k + 1) * 3 + j, none⟩ := fun j => by by_cases h : j = 0 <;> simp [Addr.add, h]
    obtain ⟨v2, w2, hr2, ho2, hg2, hs2⟩ := append_grams w1 base (Nat.le_trans htop hk1.size) (.slice p1 k cp1) (N.G.take k) (by rw [l1]; exact ho1) ad (cap - (k + 1)) (N.G.drop (k + 1)) (fun j u hj => by
      rw [flat_drop, List.getElem?_drop] at hj
      have hj3 : (k + 1) * 3 + j < N.G.length * 3 := by
        rcases Nat.lt_or_ge ((k + 1) * 3 + j) (N.G.length * 3) with h | h
        · exact h
        · rw [List.getElem?_eq_none (by rw [flat_gram]; omega)] at hj; cases hj
      rw [hadd (by omega), haddr, hcell1 _ hj3, hj]) (by simp; omega)
    rw [l3] at ho2
    rw [l2] at hr2
    obtain ⟨p2, cap2, rfl⟩ := own_slice ho2
    have hv1 : ∀ q, (Value.slice p1 k cp1).ownBlock = some q → w.heap.size ≤ q := fun q hq => by
      rcases hs1 with e | e
      · rw [e] at hq; cases hq
      · rw [e] at hq; injection hq with hq; omega
    have hk2 : Kept (fun i => (Value.slice p1 k cp1).ownBlock = some i) w1 w2 := (kept_grown hg2).mono (fun i hi => hi.symm)
    have hk02 : Kept (fun _ => False) w w2 := hk1.trans hk2 (fun i hi => .inr (hv1 i hi))
    have h2 := h.kept hk02 (fun h => h) (fun _ _ h => h)
    have f2 := h2.head
    have g0 := (f2 0 (by omega)).2
    have g00 := (f2 0 (by omega)).1
    have HR1 := Lib.hid hr1
    have HR2 := Lib.hid hr2
    have HO2 := Lib.hid ho2
    have HK2 := Lib.hid hk02
    have HS := Lib.hid (show Sprung (.slice (some ⟨g, 0, none⟩) N.G.length cap) (.slice p2 (dropG N.G n).length cap2) w.heap.size from fun q hq => by
      rcases hs2 with e | e
      · exact .inr (hv1 q (e ▸ hq))
      · rw [e] at hq; injection hq with hq; have := hk1.size; exact .inr (by omega))
    have HH2 := Lib.hid h2
    have HAD := Lib.hid had
    rw [HE.out] at HAT
    have t0 : ¬ ((k : Int) < 0) := by omega
    have eW : IntKind.i64.wrap ((k : Int) + 1) = (k : Int) + 1 := by rw [IntKind.wrap_i64]; omega
    clear hr1 ho1 hg1 hs1 hr2 ho2 hg2 hs2 hv1 hk1 hk2 hk02 h1 h2 f2 h hcell hcell1 l1 l2 l3 hadd haddr HAD
    unfold ptr at *
    by_cases hc : cap = k + 1
    · rw [if_pos hc] at had
      subst had
      subst hc
      rw [Nat.sub_self, show N.G.length - (k + 1) = 0 by omega] at HR2
      go_enter Try.func20, Try.ntmps20
      go_wp2_with fail
      with_reducible refine HAT.out.mono ?_
      rintro e w' ⟨rfl, rfl⟩
      go_upto_region 6 with (at_builtin; refine wpList_append_run rfl _ _ _ rfl rfl rfl HR1.out ?_)
      go_wp2_with (at_builtin; refine wpList_append_run rfl _ _ _ rfl rfl rfl HR2.out ?_)
      go_ret
      rw [HF.out]
      refine ⟨rfl, _, ⟨?_, ?_, H.out.lo, ?_, H.out.fine.drop n⟩, ?_, HS.out⟩
      · refine (CellsAt.set HH2.out.head (i := 0) (by omega) (.slice p2 (dropG N.G n).length cap2)).congr fun j hj => ?_
        have : j = 0 ∨ j = 1 ∨ j = 2 := by omega
        rcases this with rfl | rfl | rfl <;> rfl
      · exact ownsRow_setCell_below HO2.out (a := ⟨rb, 0, none⟩) H.out.lo (.slice p2 (dropG N.G n).length cap2)
      · have := HH2.out.top
        simpa using this
      · exact (HK2.out.mono (T' := fun i => i = rb) (fun _ h => h.elim)).setCell (p := ⟨rb, 0, none⟩) (.inl rfl) _
    · rw [if_neg hc] at had
      subst had
      go_enter Try.func20, Try.ntmps20
      go_wp2_with fail
      with_reducible refine HAT.out.mono ?_
      rintro e w' ⟨rfl, rfl⟩
      go_upto_region 6 with (at_builtin; refine wpList_append_run rfl _ _ _ rfl rfl rfl HR1.out ?_)
      go_wp2_with (at_builtin; refine wpList_append_run rfl _ _ _ rfl rfl rfl HR2.out ?_)
      go_ret
      rw [HF.out]
      refine ⟨rfl, _, ⟨?_, ?_, H.out.lo, ?_, H.out.fine.drop n⟩, ?_, HS.out⟩
      · refine (CellsAt.set HH2.out.head (i := 0) (by omega) (.slice p2 (dropG N.G n).length cap2)).congr fun j hj => ?_
        have : j = 0 ∨ j = 1 ∨ j = 2 := by omega
        rcases this with rfl | rfl | rfl <;> rfl
      · exact ownsRow_setCell_below HO2.out (a := ⟨rb, 0, none⟩) H.out.lo (.slice p2 (dropG N.G n).length cap2)
      · have := HH2.out.top
        simpa using this
      · exact (HK2.out.mono (T' := fun i => i = rb) (fun _ h => h.elim)).setCell (p := ⟨rb, 0, none⟩) (.inl rfl) _
  · have HE := Lib.hid (show atI N.G n = -1 from if_neg hat)
    have HF := Lib.hid (show (findG N.G n).isSome = false by rw [find_at_none hat]; rfl)
    have HD := Lib.hid (show dropN N n = N by unfold dropN; rw [drop_not hat])
    rw [HE.out] at HAT
    clear h hat
    unfold ptr at *
    go_enter Try.func20, Try.ntmps20
    go_wp2_with fail
    with_reducible refine HAT.out.mono ?_
    rintro e w' ⟨rfl, rfl⟩
    go_wp2
    go_ret
    rw [HF.out, HD.out]
    exact ⟨rfl, _, H.out, Kept.refl _ _, Sprung.same _ _⟩
end Go.Proofs.Ytplfnjpoikhmbaa.Nt
