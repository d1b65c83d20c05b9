/-
  The net (layer 30): the walks of Take, Drop, Double, Turn. Condition: the net is the call's own.
-/
import Derived.Test.YtplfnjpoikhmbaaNtMem
open Go Go.RowKit
namespace Go.Proofs.Ytplfnjpoikhmbaa.Nt
open Base Mp

theorem dropG_none {G : List GramD} {n : Nat} (h : findG G n = none) : dropG G n = G := by
  refine drop_none G n fun g hg => ?_
  unfold findG at h
  rw [List.find?_eq_none] at h
  simpa using h g hg
def takeV (N : NetD) (n : Nat) : Value := match findG N.G n with
  | some g => .tuple #[gramV g, .int .i64 0]
  | none => .tuple #[gramV zeroG, .int .i64 5]
theorem results_ct {fn : Func} {p v : Tmp} {ty : TypeId} (h : fn.results = #[.cell p ty, .tmp v]) (tmps : Array Value) (P : Program) (w : World) (a : Addr) (hp : tmps.getD p undef = .pointer (some a)) (x : Value) (hx : (loadVar ty a).run P w = .ok x w) :
    (results fn tmps).run P w = .ok (.tuple #[x, tmps.getD v undef]) w := by
  have hp' : tmps[p]?.getD undef = .pointer (some a) := by simpa using hp
  simp [results, h, Result.andThen, hp', asAddr, hx]
/-- A message's struct in a block of its own. -/
def GramAt (w : World) (x : Nat) (g : GramD) : Prop := CellsAt w x 3 (fun j => if j = 0 then .int .u64 (g.id : Int) else if j = 1 then .string (B g.whom) else .string (B g.text))
theorem load_gram {w : World} {x : Nat} {g : GramD} (h : GramAt w x g) : (loadVar 32 ⟨x, 0, none⟩).run Try.prog w = .ok (gramV g) w := by
  have h0 : w.cell? ⟨x, 0, none⟩ = some (.int .u64 (g.id : Int)) := (h 0 (by omega)).1
  have h1 : w.cell? ⟨x, 1, none⟩ = some (.string (B g.whom)) := (h 1 (by omega)).1
  have h2 : w.cell? ⟨x, 2, none⟩ = some (.string (B g.text)) := (h 2 (by omega)).1
  unfold gramV
  go_simp
theorem gram_made (w : World) (g : GramD) : GramAt (w.alloc (.cells #[.int .u64 (g.id : Int), .string (B g.whom), .string (B g.text)] 32)) w.heap.size g := by
  refine (cells_made w #[.int .u64 (g.id : Int), .string (B g.whom), .string (B g.text)] 32).congr fun j hj => ?_
  have : j = 0 ∨ j = 1 ∨ j = 2 := by have : j < 3 := hj; omega
  rcases this with rfl | rfl | rfl <;> rfl
theorem GramAt.put {w : World} {x : Nat} {g g' : GramD} (h : GramAt w x g) : GramAt (((w.setCell ⟨x, 0, none⟩ (.int .u64 (g'.id : Int))).setCell ⟨x, 1, none⟩ (.string (B g'.whom))).setCell ⟨x, 2, none⟩ (.string (B g'.text))) x g' := by
  have := ((CellsAt.set h (i := 0) (by omega) (.int .u64 (g'.id : Int))).set (i := 1) (by omega) (.string (B g'.whom))).set (i := 2) (by omega) (.string (B g'.text))
  refine this.congr fun j hj => ?_
  have : j = 0 ∨ j = 1 ∨ j = 2 := by omega
  rcases this with rfl | rfl | rfl <;> simp
structure GramCells (w : World) (x : Nat) (g : GramD) : Prop where
  c0 : w.cell? ⟨x, 0, none⟩ = some (.int .u64 (g.id : Int))
  c1 : w.cell? ⟨x, 1, none⟩ = some (.string (B g.whom))
  c2 : w.cell? ⟨x, 2, none⟩ = some (.string (B g.text))
  f0 : w.frozen? ⟨x, 0, none⟩ = false
  f1 : w.frozen? ⟨x, 1, none⟩ = false
  f2 : w.frozen? ⟨x, 2, none⟩ = false
theorem GramAt.cells {w : World} {x : Nat} {g : GramD} (h : GramAt w x g) : GramCells w x g :=
  ⟨(h 0 (by omega)).1, (h 1 (by omega)).1, (h 2 (by omega)).1, (h 0 (by omega)).2, (h 1 (by omega)).2, (h 2 (by omega)).2⟩
set_option maxRecDepth 100000 in
set_option maxHeartbeats 4000000 in
theorem Take_f {w : World} {b bm : Nat} {N : NetD} (h : NetAt w b bm N) (n : Nat) (hn : n < 18446744073709551616) : Calls Try.prog 13 #[ptr b, .int .u64 (n : Int)] w fun e w' => e = .returned (takeV N n) ∧ NetAt w' b bm (dropN N n) ∧ Kept (fun i => i = bm) w w' := by
  have HT := Lib.hid (fun w (h : NetAt w b bm N) => There_f h)
  have hb1 : Below w.heap.size w (w.alloc (.cells #[.int .u64 0, .string ⟨#[]⟩, .string ⟨#[]⟩] 32)) := (Below.refl _ _).alloc (Nat.le_refl _) _
  have HW1 := Lib.hid (h.next hb1)
  have HB1 := Lib.hid hb1
  have HZ1 := Lib.hid (show GramAt (w.alloc (.cells #[.int .u64 0, .string ⟨#[]⟩, .string ⟨#[]⟩] 32)) w.heap.size zeroG from gram_made w zeroG)
  have HS1 := Lib.hid (alloc_more w (.cells #[.int .u64 0, .string ⟨#[]⟩, .string ⟨#[]⟩] 32))
  have HLT := Lib.hid (And.intro h.lt h.map.lt)
  have H0 := Lib.hid h
  clear h hb1
  unfold ptr at *
  go_enter Try.func13, Try.ntmps13
  go_wp2_with fail
  generalize w.alloc (.cells #[.int .u64 0, .string ⟨#[]⟩, .string ⟨#[]⟩] 32) = w1 at *
  with_reducible refine (HT.out w1 HW1.out).mono ?_
  rintro e w2 ⟨rfl, rfl⟩
  have c0 := HW1.out.c0
  have hk := HW1.out.look hn
  cases hg : findG N.G n with
  | none =>
    rw [hg] at hk
    have HD := Lib.hid (show takeV N n = .tuple #[gramV zeroG, .int .i64 5] ∧ dropN N n = N from ⟨by unfold takeV; rw [hg], by unfold dropN; rw [dropG_none hg]⟩)
    simp only [Option.map, Option.getD, Option.isSome] at hk
    unfold gramV zeroG at hk
    have HZ3 := Lib.hid (show GramAt (w2.alloc (.cells #[.int .u64 0, .string (B []), .string (B [])] 32)) w.heap.size zeroG from HZ1.out.below ((Below.refl _ _).alloc (Nat.le_refl w2.heap.size) _) (by have := HS1.out; omega))
    obtain ⟨z0, z1, z2, y0, y1, y2⟩ := HZ3.out.cells
    have HB3 := Lib.hid (show Below w.heap.size w (w2.alloc (.cells #[.int .u64 0, .string (B []), .string (B [])] 32)) from HB1.out.alloc (by have := HS1.out; omega) _)
    clear hg
    go_wp2
    have HP := Lib.hid (HZ3.out.put (g' := zeroG))
    refine bodyPost_ret (results_ct rfl _ _ _ ⟨w.heap.size, 0, none⟩ rfl (gramV zeroG) (load_gram HP.out)) rfl ?_
    have HB4 := ((HB3.out.setCell (p := ⟨w.heap.size, 0, none⟩) (Nat.le_refl _) (.int .u64 0)).setCell (p := ⟨w.heap.size, 1, none⟩) (Nat.le_refl _) (.string ⟨#[]⟩)).setCell (p := ⟨w.heap.size, 2, none⟩) (Nat.le_refl _) (.string ⟨#[]⟩)
    rw [HD.out.1, HD.out.2]
    exact ⟨rfl, H0.out.next HB4, Kept.of_below HB4⟩
  | some g =>
    rw [hg] at hk
    have HD := Lib.hid (show takeV N n = .tuple #[gramV g, .int .i64 0] by unfold takeV; rw [hg])
    simp only [Option.map, Option.getD, Option.isSome] at hk
    unfold gramV at hk
    obtain ⟨gi, gt, gx⟩ := g
    simp only at hk
    clear hg
    have hb3 : Below w2.heap.size w2 (w2.alloc (.cells #[.int .u64 (gi : Int), .string (B gt), .string (B gx)] 32)) := (Below.refl _ _).alloc (Nat.le_refl _) _
    have HW3 := Lib.hid (HW1.out.next hb3)
    have HZ3 := Lib.hid (HZ1.out.below hb3 (by have := HS1.out; omega))
    have HG3 := Lib.hid (show GramAt (w2.alloc (.cells #[.int .u64 (gi : Int), .string (B gt), .string (B gx)] 32)) w2.heap.size ⟨gi, gt, gx⟩ from gram_made w2 ⟨gi, gt, gx⟩)
    have HB3 := Lib.hid (HB1.out.trans (hb3.mono (by have := HS1.out; omega)))
    have HS3 := Lib.hid (alloc_more w2 (.cells #[.int .u64 (gi : Int), .string (B gt), .string (B gx)] 32))
    have c3 := HW3.out.c0
    obtain ⟨W4, hdel, hn4, hk4⟩ := HW3.out.dropped hn 0
    have HN4 := Lib.hid hn4
    have HK4 := Lib.hid hk4
    have hz4 : GramAt W4 w.heap.size zeroG := CellsAt.kept HZ3.out hk4 (by have := HS1.out; have := HS3.out; omega) (by have := HLT.out; omega)
    have hg4 : GramAt W4 w2.heap.size ⟨gi, gt, gx⟩ := CellsAt.kept HG3.out hk4 (by have := HS3.out; omega) (by have := HLT.out; have := HS1.out; omega)
    have HZ4 := Lib.hid hz4
    obtain ⟨z0, z1, z2, y0, y1, y2⟩ := hz4.cells
    obtain ⟨q0, q1, q2, -, -, -⟩ := hg4.cells
    simp only at q0 q1 q2
    have hdif : w2.heap.size ≠ w.heap.size := by have := HS1.out; omega
    clear hb3 hn4 hk4 hz4 hg4
    go_wp2
    have HP := Lib.hid (HZ4.out.put (g' := ⟨gi, gt, gx⟩))
    refine bodyPost_ret (results_ct rfl _ _ _ ⟨w.heap.size, 0, none⟩ rfl (gramV ⟨gi, gt, gx⟩) (load_gram HP.out)) rfl ?_
    rw [HD.out]
    have k4 : Kept (fun i => i = bm) w W4 := (Kept.of_below (T := fun i => i = bm) HB3.out).trans HK4.out (fun _ h => .inl h)
    refine ⟨rfl, HN4.out.kept (T := fun i => i = w.heap.size) ?_ (by have := HLT.out; omega) (by have := HLT.out; omega), ?_⟩
    · exact ((Kept.refl (fun i => i = w.heap.size) W4).setCell (p := ⟨w.heap.size, 0, none⟩) (.inl rfl) _).setCell (p := ⟨w.heap.size, 1, none⟩) (.inl rfl) _ |>.setCell (p := ⟨w.heap.size, 2, none⟩) (.inl rfl) _
    · exact ((k4.setCell (p := ⟨w.heap.size, 0, none⟩) (.inr (Nat.le_refl _)) _).setCell (p := ⟨w.heap.size, 1, none⟩) (.inr (Nat.le_refl _)) _).setCell (p := ⟨w.heap.size, 2, none⟩) (.inr (Nat.le_refl _)) _

theorem cell_not_map {w : World} {bm g o : Nat} {es : List (Lit × Value)} {v : Value} (h : MapL Try.prog 28 w bm es) (hc : w.cell? ⟨g, o, none⟩ = some v) : g ≠ bm := by
  rintro rfl
  obtain ⟨xs, clock, hb, -⟩ := h
  simp [World.cell?, hb] at hc
theorem NetAt.lostMore {w : World} {b bm : Nat} {N : NetD} (h : NetAt w b bm N) : NetAt (w.setCell ⟨b, 2, none⟩ (.int .u64 ((N.lost : Int) + 1))) b bm ⟨N.G, N.last, N.lost + 1⟩ := by
  refine ⟨(h.head.set (i := 2) (by omega) (.int .u64 ((N.lost : Int) + 1))).congr fun j hj => ?_, h.map.setCell (fun e => h.ne e.symm) _, h.ne, ⟨h.fine.rise, h.fine.low, h.fine.few⟩⟩
  have : j = 0 ∨ j = 1 ∨ j = 2 := by omega
  rcases this with rfl | rfl | rfl <;> simp [netCell]
set_option maxRecDepth 100000 in
set_option maxHeartbeats 4000000 in
theorem Send_f {w : World} {b bm : Nat} {N : NetD} (h : NetAt w b bm N) (to_ : List UInt8) (ts : List (List UInt8)) (g cap : Nat) (hc : ∀ j (hj : j < ts.length), w.cell? ⟨g, j, none⟩ = some (.string (B ts[j]))) (hg : g ≠ b) (hgm : g ≠ bm) (hl : N.last + ts.length < 4611686018427387904) (hlo : N.lost + ts.length < 4611686018427387904) :
    Calls Try.prog 10 #[ptr b, .string (B to_), .slice (some ⟨g, 0, none⟩) ts.length cap] w fun e w' => e = .returned (.int .i64 (((sends to_ N ts).2 : Nat) : Int)) ∧ NetAt w' b bm (sends to_ N ts).1 ∧ Kept (fun i => i = b ∨ i = bm) w w' := by
  have HT := Lib.hid (There_f h)
  have HF := Lib.hid (fun w N (h : NetAt w b bm N) => Full_f h)
  have HP := Lib.hid (fun w N (h : NetAt w b bm N) => Put_f h)
  have H := Lib.hid h
  have HS := Lib.hid (fun n => sends_fine h.fine to_ (ts.take n))
  have HC := Lib.hid hc
  clear h hc
  unfold ptr at *
  go_enter Try.func10, Try.ntmps10
  go_wp2_with fail
  with_reducible refine HT.out.mono ?_
  rintro e w2 ⟨rfl, rfl⟩
  go_wp2
  go_loopw [7, 15] (fun u v wr => ∃ i : Nat, u = .int .i64 (((sends to_ N (ts.take i)).2 : Nat) : Int) ∧ v = .int .i64 (i : Int) ∧ i ≤ ts.length ∧ NetAt wr b bm (sends to_ N (ts.take i)).1 ∧ Kept (fun i => i = b ∨ i = bm) w2 wr) (fun _ v _ => ts.length - (intOf v).toNat)
  case atStart => exact ⟨0, rfl, rfl, Nat.zero_le _, H.out, Kept.refl _ _⟩
  case round =>
    obtain ⟨i, rfl, rfl, hi, hn, hk⟩ := hrel
    have HN := Lib.hid hn
    have HK := Lib.hid hk
    by_cases hlt : i < ts.length
    · have hci : wr.cell? ⟨g, i, none⟩ = some (.string (B ts[i])) := by
        rw [World.cell?_of_block (a := ⟨g, i, none⟩) (hk.block g (lt_of_cell (HC.out i hlt)) (by simp [hg, hgm]))]
        exact HC.out i hlt
      have HSn := Lib.hid (sends_snoc to_ N (ts.take i) ts[i])
      rw [List.take_append_getElem hlt] at HSn
      obtain ⟨hf1, hf2, hf3, hf4⟩ := HS.out i
      have hli : (ts.take i).length = i := by rw [List.length_take]; omega
      rw [hli] at hf2 hf3 hf4
      have HF0 := Lib.hid hf1
      clear hn hk hf1 hli
      generalize ts[i] = t at *
      generalize sends to_ N (ts.take i) = R at *
      obtain ⟨N1, k1⟩ := R
      simp only at hf2 hf3 hf4 HSn HN
      have tl : (i : Int) < (ts.length : Int) := by omega
      have tz : 0 ≤ (i : Int) := by omega
      go_wp2_with fail
      with_reducible refine (HF.out wr N1 HN.out).mono ?_
      rintro e w3 ⟨rfl, rfl⟩
      by_cases hfull : N1.G.length < 1024
      · rw [show decide (1024 ≤ N1.G.length) = false by simp; omega]
        have HE := Lib.hid (show sends to_ N (ts.take (i + 1)) = (putN N1 to_ t, k1 + 1) by rw [HSn.out]; unfold sendN; rw [if_pos hfull, if_pos hfull])
        go_wp2_with fail
        with_reducible refine (HP.out w3 N1 HN.out hfull (by omega) to_ t).mono ?_
        rintro e w4 ⟨rfl, hn4, hk4⟩
        have HN4 := Lib.hid hn4
        have HK4 := Lib.hid (HK.out.trans hk4 (fun _ h => .inl h))
        clear hn4 hk4
        go_wp2
        go_roundw
        case rel => exact ⟨i + 1, by rw [HE.out]; go_num, by go_num, by omega, by rw [HE.out]; exact HN4.out, HK4.out⟩
        case measure => simp [intOf]; omega
      · rw [show decide (1024 ≤ N1.G.length) = true by simp; omega]
        have HE := Lib.hid (show sends to_ N (ts.take (i + 1)) = (⟨N1.G, N1.last, N1.lost + 1⟩, k1) by rw [HSn.out]; unfold sendN; rw [if_neg hfull, if_neg hfull]; rfl)
        have c2 := HN.out.c2
        have f2 := HN.out.f2
        have eW : IntKind.u64.wrap ((N1.lost : Int) + 1) = (N1.lost : Int) + 1 := by rw [IntKind.wrap_u64]; omega
        go_wp2
        go_roundw
        case rel => exact ⟨i + 1, by rw [HE.out], by go_num, by omega, by rw [HE.out]; exact HN.out.lostMore, HK.out.setCell (p := ⟨b, 2, none⟩) (.inl (.inl rfl)) _⟩
        case measure => simp [intOf]; omega
    · have tl : ¬ (i : Int) < (ts.length : Int) := by omega
      have HI := Lib.hid (show ts.take i = ts from List.take_of_length_le (by omega))
      clear hn hk
      go_wp2
      go_ret
      rw [HI.out] at HN
      exact ⟨by rw [HI.out]; rfl, HN.out, HK.out⟩

set_option maxRecDepth 100000 in
set_option maxHeartbeats 4000000 in
theorem Drop_f {w : World} {b bm : Nat} {N : NetD} (h : NetAt w b bm N) (ns : List Nat) (g cap : Nat) (hc : ∀ j (hj : j < ns.length), w.cell? ⟨g, j, none⟩ = some (.int .u64 (ns[j] : Int))) (hgm : g ≠ bm) (hn : ∀ n ∈ ns, n < 18446744073709551616) (hl : ns.length < 4611686018427387904) :
    Calls Try.prog 15 #[ptr b, .slice (some ⟨g, 0, none⟩) ns.length cap] w fun e w' => e = .returned (.int .i64 (((drops N ns).2 : Nat) : Int)) ∧ NetAt w' b bm (drops N ns).1 ∧ Kept (fun i => i = bm) w w' := by
  have HT := Lib.hid (There_f h)
  have H := Lib.hid h
  have HS := Lib.hid (fun n => drops_fine h.fine (ns.take n))
  have HC := Lib.hid hc
  have HN0 := Lib.hid hn
  clear h hc hn
  unfold ptr at *
  go_enter Try.func15, Try.ntmps15
  go_wp2_with fail
  with_reducible refine HT.out.mono ?_
  rintro e w2 ⟨rfl, rfl⟩
  go_wp2
  go_loopw [5, 15] (fun u v wr => ∃ i : Nat, u = .int .i64 (((drops N (ns.take i)).2 : Nat) : Int) ∧ v = .int .i64 (i : Int) ∧ i ≤ ns.length ∧ NetAt wr b bm (drops N (ns.take i)).1 ∧ Kept (fun i => i = bm) w2 wr) (fun _ v _ => ns.length - (intOf v).toNat)
  case atStart => exact ⟨0, rfl, rfl, Nat.zero_le _, H.out, Kept.refl _ _⟩
  case round =>
    obtain ⟨i, rfl, rfl, hi, hn, hk⟩ := hrel
    have HN := Lib.hid hn
    have HK := Lib.hid hk
    by_cases hlt : i < ns.length
    · have hci : wr.cell? ⟨g, i, none⟩ = some (.int .u64 (ns[i] : Int)) := by
        rw [World.cell?_of_block (a := ⟨g, i, none⟩) (hk.block g (lt_of_cell (HC.out i hlt)) hgm)]
        exact HC.out i hlt
      have HSn := Lib.hid (drops_snoc N (ns.take i) ns[i])
      rw [List.take_append_getElem hlt] at HSn
      obtain ⟨hf1, -, -, hf4⟩ := HS.out i
      have hli : (ns.take i).length = i := by rw [List.length_take]; omega
      rw [hli] at hf4
      have hx := HN0.out ns[i] (List.getElem_mem hlt)
      clear hn hk hf1 hli
      generalize ns[i] = n at *
      generalize drops N (ns.take i) = R at *
      obtain ⟨N1, k1⟩ := R
      simp only at hf4 HSn HN
      have tl : (i : Int) < (ns.length : Int) := by omega
      have tz : 0 ≤ (i : Int) := by omega
      have c0 := HN.out.c0
      have hk := HN.out.look hx
      cases hg : findG N1.G n with
      | none =>
        rw [hg] at hk
        have HE := Lib.hid (show drops N (ns.take (i + 1)) = (N1, k1) by rw [HSn.out, if_neg (by rw [hg]; simp)])
        simp only [Option.map, Option.getD, Option.isSome] at hk
        unfold gramV zeroG at hk
        have hb3 : Below wr.heap.size wr (wr.alloc (.cells #[.int .u64 0, .string (B []), .string (B [])] 32)) := (Below.refl _ _).alloc (Nat.le_refl _) _
        have HN3 := Lib.hid (HN.out.next hb3)
        have HK3 := Lib.hid (HK.out.trans (Kept.of_below (T := fun i => i = bm) hb3) (fun _ h => .inl h))
        clear hg hb3
        go_wp2
        go_roundw
        case rel => first | exact ⟨i + 1, by rw [HE.out], by go_num, by omega, by rw [HE.out]; exact HN3.out, HK3.out⟩ | ((repeat apply Exists.intro); exact ⟨⟨i + 1, by rw [HE.out], by go_num, by omega, by rw [HE.out]; exact HN3.out, HK3.out⟩, rfl⟩)
        case measure => simp [intOf]; omega
      | some gg =>
        rw [hg] at hk
        have HE := Lib.hid (show drops N (ns.take (i + 1)) = (dropN N1 n, k1 + 1) by rw [HSn.out, if_pos (by rw [hg]; simp)])
        simp only [Option.map, Option.getD, Option.isSome] at hk
        obtain ⟨gi, gt, gx⟩ := gg
        unfold gramV at hk
        simp only at hk
        have hb3 : Below wr.heap.size wr (wr.alloc (.cells #[.int .u64 (gi : Int), .string (B gt), .string (B gx)] 32)) := (Below.refl _ _).alloc (Nat.le_refl _) _
        have HN3 := Lib.hid (HN.out.next hb3)
        have c3 := HN3.out.c0
        obtain ⟨W4, hdel, hn4, hk4⟩ := HN3.out.dropped hx 0
        have HN4 := Lib.hid hn4
        have HK4 := Lib.hid ((HK.out.trans (Kept.of_below (T := fun i => i = bm) hb3) (fun _ h => .inl h)).trans hk4 (fun _ h => .inl h))
        clear hg hb3 hn4 hk4
        go_wp2
        go_roundw
        case rel => first | exact ⟨i + 1, by rw [HE.out]; go_num, by go_num, by omega, by rw [HE.out]; exact HN4.out, HK4.out⟩ | ((repeat apply Exists.intro); exact ⟨⟨i + 1, by rw [HE.out]; go_num, by go_num, by omega, by rw [HE.out]; exact HN4.out, HK4.out⟩, rfl⟩)
        case measure => simp [intOf]; omega
    · have tl : ¬ (i : Int) < (ns.length : Int) := by omega
      have HI := Lib.hid (show ns.take i = ns from List.take_of_length_le (by omega))
      clear hn hk
      go_wp2
      go_ret
      rw [HI.out] at HN
      exact ⟨by rw [HI.out]; rfl, HN.out, HK.out⟩
def doubleV (N : NetD) (n : Nat) : Value := match findG N.G n with
  | some _ => if N.G.length < 1024 then .tuple #[.int .u64 ((N.last + 1 : Nat) : Int), .int .i64 0] else .tuple #[.int .u64 0, .int .i64 6]
  | none => .tuple #[.int .u64 0, .int .i64 5]
def doubleN (N : NetD) (n : Nat) : NetD := match findG N.G n with
  | some g => if N.G.length < 1024 then putN N g.whom g.text else N
  | none => N
set_option maxRecDepth 100000 in
set_option maxHeartbeats 4000000 in
theorem Double_f {w : World} {b bm : Nat} {N : NetD} (h : NetAt w b bm N) (n : Nat) (hn : n < 18446744073709551616) (hl : N.last < 4611686018427387904) : Calls Try.prog 16 #[ptr b, .int .u64 (n : Int)] w fun e w' => e = .returned (doubleV N n) ∧ NetAt w' b bm (doubleN N n) ∧ Kept (fun i => i = b ∨ i = bm) w w' := by
  have HT := Lib.hid (There_f h)
  have HF := Lib.hid (fun w N (h : NetAt w b bm N) => Full_f h)
  have HP := Lib.hid (fun w N (h : NetAt w b bm N) => Put_f h)
  have H := Lib.hid h
  have c0 := h.c0
  have hk := h.look hn
  clear h
  unfold ptr at *
  go_enter Try.func16, Try.ntmps16
  go_wp2_with fail
  with_reducible refine HT.out.mono ?_
  rintro e w2 ⟨rfl, rfl⟩
  cases hg : findG N.G n with
  | none =>
    rw [hg] at hk
    have HD := Lib.hid (show doubleV N n = .tuple #[.int .u64 0, .int .i64 5] ∧ doubleN N n = N from ⟨by unfold doubleV; rw [hg], by unfold doubleN; rw [hg]⟩)
    simp only [Option.map, Option.getD, Option.isSome] at hk
    unfold gramV zeroG at hk
    have hb3 : Below w2.heap.size w2 (w2.alloc (.cells #[.int .u64 0, .string (B []), .string (B [])] 32)) := (Below.refl _ _).alloc (Nat.le_refl _) _
    have HB3 := Lib.hid hb3
    clear hg hb3
    go_wp2
    go_ret2
    rw [HD.out.1, HD.out.2]
    exact ⟨rfl, H.out.next HB3.out, Kept.of_below HB3.out⟩
  | some gg =>
    rw [hg] at hk
    simp only [Option.map, Option.getD, Option.isSome] at hk
    have HD := Lib.hid (show doubleV N n = (if N.G.length < 1024 then .tuple #[.int .u64 ((N.last + 1 : Nat) : Int), .int .i64 0] else .tuple #[.int .u64 0, .int .i64 6]) ∧ doubleN N n = if N.G.length < 1024 then putN N gg.whom gg.text else N from ⟨by unfold doubleV; rw [hg], by unfold doubleN; rw [hg]⟩)
    obtain ⟨gi, gt, gx⟩ := gg
    unfold gramV at hk
    simp only at hk HD
    have hb3 : Below w2.heap.size w2 (w2.alloc (.cells #[.int .u64 (gi : Int), .string (B gt), .string (B gx)] 32)) := (Below.refl _ _).alloc (Nat.le_refl _) _
    have HB3 := Lib.hid hb3
    have HN3 := Lib.hid (H.out.next hb3)
    have hg3 := (gram_made w2 ⟨gi, gt, gx⟩).cells
    have HG3 := Lib.hid hg3
    clear hg hb3 hg3
    go_wp2_with fail
    with_reducible refine (HF.out _ N HN3.out).mono ?_
    rintro e w3 ⟨rfl, rfl⟩
    obtain ⟨q0, q1, q2, -, -, -⟩ := HG3.out
    simp only at q0 q1 q2
    by_cases hfull : N.G.length < 1024
    · rw [show decide (1024 ≤ N.G.length) = false by simp; omega]
      rw [if_pos hfull, if_pos hfull] at HD
      go_wp2_with fail
      with_reducible refine (HP.out _ N HN3.out hfull hl gt gx).mono ?_
      rintro e w4 ⟨rfl, hn4, hk4⟩
      have HN4 := Lib.hid hn4
      have HK4 := Lib.hid ((Kept.of_below (T := fun i => i = b ∨ i = bm) HB3.out).trans hk4 (fun _ h => .inl h))
      clear hn4 hk4
      go_wp2
      go_ret2
      rw [HD.out.1, HD.out.2]
      exact ⟨rfl, HN4.out, HK4.out⟩
    · rw [show decide (1024 ≤ N.G.length) = true by simp; omega]
      rw [if_neg hfull, if_neg hfull] at HD
      go_wp2
      go_ret2
      rw [HD.out.1, HD.out.2]
      exact ⟨rfl, HN3.out, Kept.of_below HB3.out⟩
end Go.Proofs.Ytplfnjpoikhmbaa.Nt
