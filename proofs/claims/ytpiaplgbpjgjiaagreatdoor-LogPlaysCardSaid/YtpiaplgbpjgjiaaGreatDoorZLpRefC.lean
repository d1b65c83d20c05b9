/-
  The document's disk (layer 7) with one file at most, "a": the walk of Create; a new row of one file. Condition: the disk is the call's own, and has no file.
-/
import Derived.Deep.Upon
import Derived.Test.YtpiaplgbpjgjiaaGreatDoorZLpRefB
open Go Go.RowKit
namespace Go.Proofs.YtpiaplgbpjgjiaaGreatDoor.Lp
open Base Mp Dk Frame Lg

theorem infoFile : (Tryz.prog.info? 72).map (fun i => (i.zero, i.size, i.bytes)) = some (some (.agg #[.string ⟨#[]⟩, .string ⟨#[]⟩, .int .i64 0, .bool false]), 4, 48) := by kernel_rfl
theorem wpList_append_run {P : Program} {w w' : World} {ops : Array Oper} {rest : List Oper} {o : Oper} {a : Act} {Q : Exit → Act → World → Prop} (hgd : o.guard = none) (s x : Operand) (t : TypeId)
    (ho : o.op = .call { callee := .builtin .append, args := #[s, x], argTypes := #[t, t] }) {v xv v' : Value} (hs : a.eval s = v) (hx : a.eval x = xv) (hr : (Builtin.append_ #[t, t] o.type #[v, xv]).run P w = .ok v' w')
    (h : wpList P ops Q rest (a.put o.dst v') w') : wpList P ops Q (o :: rest) a w :=
  wpList_plain hgd fun _ hK => by
    unfold Oper.wp execOp
    simp only [ho, resolve, invoke, builtin, Sem.run_bind, Sem.run_pure, Result.andThen_ok, List.map_toArray, List.map_cons, List.map_nil, hs, hx, hr]
    exact hK _ _ h
theorem step_append_run {P : Program} {w w' : World} {ops : Array Oper} {o : Oper} {a : Act} {K : Act → World → Prop} {Q : Exit → Act → World → Prop} {E : Prop} (hgd : o.guard = none) (s x : Operand) (t : TypeId)
    (ho : o.op = .call { callee := .builtin .append, args := #[s, x], argTypes := #[t, t] }) {v xv v' : Value} (hs : a.eval s = v) (hx : a.eval x = xv) (hr : (Builtin.append_ #[t, t] o.type #[v, xv]).run P w = .ok v' w')
    (h : K (a.put o.dst v') w') : if Region.wanted o (yielded ops a.tmps) = true then Oper.wp P o a w K Q else E := by
  have hw : Region.wanted o (yielded ops a.tmps) = true := by simp [Region.wanted, hgd]
  rw [if_pos hw]
  unfold Oper.wp execOp
  simp only [ho, resolve, invoke, builtin, Sem.run_bind, Sem.run_pure, Result.andThen_ok, List.map_toArray, List.map_cons, List.map_nil, hs, hx, hr]
  exact h
/-- 'append(nil, f)'. -/
theorem append_file (W : World) (z1 : Key) (z2 : Int) (z3 : Bool) : ∃ g cap w', (Builtin.append_ #[59, 59] 59 #[.slice none 0 0, .slice (some ⟨W.heap.size, 0, none⟩) 1 1]).run Tryz.prog (W.alloc (.cells #[.string (B nA), .string (B z1), .int .i64 z2, .bool z3] 72)) = .ok (.slice (some ⟨g, 0, none⟩) 1 cap) w' ∧
    CellsAt w' g 4 (fun | 0 => .string (B nA) | 1 => .string (B z1) | 2 => .int .i64 z2 | _ => .bool z3) ∧ Below W.heap.size W w' ∧ W.heap.size ≤ g ∧ g < w'.heap.size ∧ 1 ≤ cap := by
  obtain ⟨i0, hi, hz0, hz1, hz2⟩ := info_parts infoFile
  have hz := alloc_more W (.cells #[.string (B nA), .string (B z1), .int .i64 z2, .bool z3] 72)
  have hc := cells_made W #[.string (B nA), .string (B z1), .int .i64 z2, .bool z3] 72
  have hal : Below W.heap.size W (W.alloc (.cells #[.string (B nA), .string (B z1), .int .i64 z2, .bool z3] 72)) := (Below.refl _ _).alloc (Nat.le_refl _) _
  obtain ⟨g, cap, w', h1, h2, h3, h4, h5⟩ := run_append_lies (P := Tryz.prog) (W.alloc (.cells #[.string (B nA), .string (B z1), .int .i64 z2, .bool z3] 72)) 59 59 W.heap.size 72 i0 _ 4 48 Tryz.underlying59 hi hz0 hz1 hz2 rfl (by decide)
    (.slice none 0 0) 0 [] (World.ownsRow_nil _ _ _ _) ⟨W.heap.size, 0, none⟩ 1 1 [.string (B nA), .string (B z1), .int .i64 z2, .bool z3] rfl (fun j u hj => by
      have hj4 : j < 4 := by
        rcases Nat.lt_or_ge j 4 with h | h
        · exact h
        · rw [List.getElem?_eq_none (by simpa using h)] at hj; cases hj
      rw [show (⟨W.heap.size, 0, none⟩ : Addr).add j = ⟨W.heap.size, j, none⟩ by simp [Addr.add]; omega, (hc j hj4).1]
      have : j = 0 ∨ j = 1 ∨ j = 2 ∨ j = 3 := by omega
      rcases this with rfl | rfl | rfl | rfl <;> exact hj) (by simp [Value.oneCell']) (by decide) (by decide) (by decide) (by omega) _ rfl
  have hcap : 1 ≤ cap := by
    rcases h2.2 with ⟨h, -⟩ | ⟨g', cap', cur, h, -, -, hnc, -⟩
    · cases h
    · injection h with h6 h7 h8
      omega
  refine ⟨g, cap, w', h1, fun j hj => ⟨?_, h2.frozenAt j⟩, hal.grown h3 (by omega) (fun k hk => by cases hk), by
    rcases h4 with h4 | h4
    · cases h4
    · omega, h5, hcap⟩
  have := h2.cellAt j (by omega)
  rw [this]
  have : j = 0 ∨ j = 1 ∨ j = 2 ∨ j = 3 := by omega
  rcases this with rfl | rfl | rfl | rfl <;> rfl
/-- 'append(l, nil...)'. -/
theorem append_none (W : World) (b : Option Addr) (n c : Nat) (h : n ≤ c) : (Builtin.append_ #[59, 59] 59 #[.slice b n c, .slice none 0 0]).run Tryz.prog W = .ok (.slice b n c) W := by
  obtain ⟨i0, hi, -, -, -⟩ := info_parts infoFile
  exact run_append_nothing W 59 59 59 72 i0 Tryz.underlying59 hi b n c h _ (Src.ofNil W Tryz.underlying59 0)
section
variable {w w3 w' : World} {rb g cap : Nat} {D : DiskD} {o o' : Option FileD} {R : Nat → Prop}
/-- A new row is the disk's. -/
theorem RDAt.row (h : RDAt w rb g cap D o R) {D' : DiskD} {g' cap' : Nat} (hk : Kept (fun i => i = rb) w w') (hh : CellsAt w' rb 3 (rdCell (rv g' cap' o') D')) (hf : ∀ F, o' = some F → CellsAt w' g' 4 (rfCell F) ∧ w.heap.size ≤ g' ∧ g' < w'.heap.size ∧ 1 ≤ cap') (hs : D'.files = (o'.map fun F => (keyS nA, F)).toList) (hfi : Fine D') : RDAt w' rb g' cap' D' o' (More R w w') ∧ Kept R w w' :=
  ⟨⟨hh, fun F hF => by
    obtain ⟨h1, h2, h3, h4⟩ := hf F hF
    exact ⟨h1, by have := h.old _ h.mine; omega, .inr ⟨h2, h3⟩, h4⟩, hs, .inl h.mine, fun i hi => by
    rcases hi with hi | hi
    · exact Nat.lt_of_lt_of_le (h.old i hi) hk.size
    · exact hi.2, hfi⟩, hk.mono fun i hi => by rw [hi]; exact h.mine⟩
end
set_option maxRecDepth 100000 in
set_option maxHeartbeats 2000000 in
theorem RCreate_f {w : World} {rb g cap : Nat} {D : DiskD} {R : Nat → Prop} (h : RDAt w rb g cap D none R) : Calls Tryz.prog 30 #[.pointer (some ⟨rb, 0, none⟩), .string (B nA)] w (RPost w rb R (createD D nA)) := by
  have HDN := Lib.hid (RDown_f h)
  have HMY := Lib.hid (RMay_f w)
  have H := Lib.hid h
  cases hs : still D with
  | true =>
    rw [hs] at HDN
    have HE := Lib.hid (show createD D nA = (D, 70) by unfold createD; rw [if_neg (by decide), if_pos hs])
    clear h hs
    go_enter Tryz.func30, Tryz.ntmps30
    go_wp2_with fail
    with_reducible refine HMY.out.mono ?_
    rintro e w1 ⟨rfl, rfl⟩
    go_wp2_with fail
    with_reducible refine HDN.out.mono ?_
    rintro e w2 ⟨rfl, rfl⟩
    go_wp2
    go_ret
    exact RPost.same H.out HE.out
  | false =>
    rw [hs] at HDN
    have hl := h.look
    have hfs : D.files = [] := h.fs
    have HE := Lib.hid (show createD D nA = (Dk.done { D with files := putL D.files (keyS nA) ⟨[], 0, true⟩ }, 0) by
      unfold createD
      rw [if_neg (by decide), if_neg (by rw [hs]; decide), hl, if_neg (by decide), if_neg (by rw [hfs]; decide)])
    have HFI := Lib.hid (h.fine.put mayA hl (by rw [hfs]; decide)).done
    have HAT := Lib.hid (at_none h)
    have HDO := Lib.hid (RDone_f h hs)
    have c1 : w.cell? ⟨rb, 1, none⟩ = some (.slice none 0 0) := h.c1
    have HFS := Lib.hid hfs
    clear h hs hl hfs
    go_enter Tryz.func30, Tryz.ntmps30
    go_wp2_with fail
    with_reducible refine HMY.out.mono ?_
    rintro e w1 ⟨rfl, rfl⟩
    go_wp2_with fail
    with_reducible refine HDN.out.mono ?_
    rintro e w2 ⟨rfl, rfl⟩
    go_wp2_with fail
    with_reducible refine HAT.out.mono ?_
    rintro e w3 ⟨rfl, rfl⟩
    go_wp2_with fail
    with_reducible refine HDO.out.mono ?_
    rintro e w4 ⟨rfl, h4, hk4⟩
    have c4 : w4.cell? ⟨rb, 1, none⟩ = some (.slice none 0 0) := h4.c1
    obtain ⟨g5, cap5, w5, hr5, hc5, hb5, hg5, hg5', hcap⟩ := append_file w4 [] 0 true
    have hn4 := append_none w4 none 0 0 (Nat.le_refl _)
    have hn5 := append_none w5 (some ⟨g5, 0, none⟩) 1 cap5 hcap
    have h5 := h4.later hb5
    have HR5 := Lib.hid hr5
    have HN4 := Lib.hid hn4
    have HN5 := Lib.hid hn5
    have c5 : w5.cell? ⟨rb, 1, none⟩ = some (.slice none 0 0) := h5.c1
    have f5 := h5.f1
    have H5 := Lib.hid h5
    have HC5 := Lib.hid (And.intro hc5 (And.intro hg5 (And.intro hg5' hcap)))
    have HK5 := Lib.hid (hk4.trans (Kept.of_below (T := fun i => i = rb) hb5) (fun _ h => .inl h))
    have HZ := Lib.hid hk4.size
    clear hr5 hc5 hb5 hg5 hg5' hcap hn4 hn5 h5 h4 hk4 c1
    go_wp2_with fail
    go_loopw [5] (fun u wr => u = .int .i64 0 ∧ wr = w4) (fun _ _ => 0)
    case atStart => exact ⟨rfl, rfl⟩
    case round =>
      obtain ⟨rfl, rfl⟩ := hrel
      go_upto_region 15 with (at_builtin; refine wpList_append_run rfl _ _ _ rfl rfl rfl HN4.out ?_)
      go_upto_region 16 with (at_builtin; refine wpList_append_run rfl _ _ _ rfl rfl rfl HR5.out ?_)
      go_wp2_with (at_builtin; refine wpList_append_run rfl _ _ _ rfl rfl rfl HN5.out ?_)
      go_ret
      have hk6 : Kept (fun i => i = rb) w3 (w5.setCell ⟨rb, 1, none⟩ (.slice (some ⟨g5, 0, none⟩) 1 cap5)) := HK5.out.setCell (p := ⟨rb, 1, none⟩) (.inl rfl) _
      have hne : g5 ≠ rb := by have := H.out.old _ H.out.mine; have := HC5.out.2.1; have := HZ.out; omega
      obtain ⟨q1, q2⟩ := H.out.row (o' := some ⟨[], 0, true⟩) (D' := Dk.done { D with files := putL D.files (keyS nA) ⟨[], 0, true⟩ }) (g' := g5) (cap' := cap5) hk6 ((CellsAt.set H5.out.head (i := 1) (by omega) _).congr fun j hj => by
        have : j = 0 ∨ j = 1 ∨ j = 2 := by omega
        rcases this with rfl | rfl | rfl
        · show Value.int .i64 ((Dk.done D).room : Int) = Value.int .i64 _
          rw [done_room, done_room]
        · rfl
        · show Value.int .i64 (rdFuse (Dk.done D)) = Value.int .i64 (rdFuse _)
          obtain ⟨r, f, fu, c⟩ := D
          cases fu <;> rfl) (fun F hF => by
        injection hF with hF
        subst hF
        refine ⟨CellsAt.other HC5.out.1 (fun e => hne e.symm) _ |>.congr fun j hj => ?_, by have := HC5.out.2.1; have := HZ.out; omega, by simpa using HC5.out.2.2.1, HC5.out.2.2.2⟩
        have : j = 0 ∨ j = 1 ∨ j = 2 ∨ j = 3 := by omega
        rcases this with rfl | rfl | rfl | rfl <;> rfl) (by rw [done_files, HFS.out]; rfl) HFI.out
      rw [HE.out]
      exact ⟨rfl, _, _, _, q1, q2⟩
end Go.Proofs.YtpiaplgbpjgjiaaGreatDoor.Lp
