/-
  Sums in memory (layer 12): the walk of greatest (lists put together, path by path).
-/
import Derived.Test.YtloackmpmhgkeaaCntList
open Go Go.RowKit Go.Maps
namespace Go.Proofs.Ytloackmpmhgkeaa.Cnt
open Base Mp

structure CntOk (c : CntD) : Prop where
  by_ : c.by_.length ≤ maxLen
  plus : c.plus < 2 ^ 64
  minus : c.minus < 2 ^ 64
/-- A count in memory, its first cell at o. -/
structure CntAt (w : World) (b o : Nat) (c : CntD) : Prop where
  c0 : w.cell? ⟨b, o, none⟩ = some (.string (B c.by_))
  c1 : w.cell? ⟨b, o + 1, none⟩ = some (.int .u64 (c.plus : Int))
  c2 : w.cell? ⟨b, o + 2, none⟩ = some (.int .u64 (c.minus : Int))
theorem CntAt.below {w w' : World} {b o : Nat} {c : CntD} (h : CntAt w b o c) (hb : Below w.heap.size w w') : CntAt w' b o c := by
  have hlt := lt_of_cell h.c0
  have key : ∀ j v, w.cell? ⟨b, j, none⟩ = some v → w'.cell? ⟨b, j, none⟩ = some v := fun j v hc => (World.cell?_of_block (a := ⟨b, j, none⟩) (hb.block b hlt)).trans hc
  exact ⟨key _ _ h.c0, key _ _ h.c1, key _ _ h.c2⟩
/-- A slice of counts that is read. -/
def CntsArg (w : World) (p : Option Addr) (l : List CntD) : Prop := ∀ j (h : j < l.length), ∃ b o, p = some ⟨b, o, none⟩ ∧ CntAt w b (o + j * 3) l[j] ∧ CntOk l[j]
theorem CntsArg.below {w w' : World} {p : Option Addr} {l : List CntD} (h : CntsArg w p l) (hb : Below w.heap.size w w') : CntsArg w' p l := fun j hj => by
  obtain ⟨b, o, h1, h2, h3⟩ := h j hj
  exact ⟨b, o, h1, h2.below hb, h3⟩
theorem CntsArg.ok {w : World} {p : Option Addr} {l : List CntD} (h : CntsArg w p l) : ∀ c ∈ l, CntOk c := fun c hc => by
  obtain ⟨j, hj, rfl⟩ := List.getElem_of_mem hc
  exact (h j hj).elim fun _ h => h.elim fun _ h => h.2.2
/-- A slice of such slices that is read. -/
def ListsArg (w : World) (p : Option Addr) (ls : List (List CntD)) : Prop := ∀ j (h : j < ls.length), ∃ b o q cap, p = some ⟨b, o, none⟩ ∧ w.cell? ⟨b, o + j, none⟩ = some (.slice q ls[j].length cap) ∧ CntsArg w q ls[j]
theorem ListsArg.below {w w' : World} {p : Option Addr} {ls : List (List CntD)} (h : ListsArg w p ls) (hb : Below w.heap.size w w') : ListsArg w' p ls := fun j hj => by
  obtain ⟨b, o, q, cap, h1, h2, h3⟩ := h j hj
  exact ⟨b, o, q, cap, h1, (hb.cell (p := ⟨b, o + j, none⟩) (lt_of_cell h2)).trans h2, h3.below hb⟩
theorem ListsArg.ok {w : World} {p : Option Addr} {ls : List (List CntD)} (h : ListsArg w p ls) : ∀ c ∈ ls.flatten, CntOk c := fun c hc => by
  obtain ⟨l, hl, hc⟩ := List.mem_flatten.1 hc
  obtain ⟨j, hj, rfl⟩ := List.getElem_of_mem hl
  obtain ⟨_, _, _, _, _, _, h3⟩ := h j hj
  exact h3.ok c hc
theorem putGs_append (es : Ent) (a b : List CntD) : putGs es (a ++ b) = putGs (putGs es a) b := by unfold putGs; rw [List.foldl_append]
/-- What greatest has, on its way. -/
structure GrAt (H : Nat) (w wr : World) (es : Ent) : Prop where
  sums : SumsAt wr (H + 1) (H + 1 + 1) es
  below : Below H w wr
  size : H + 4 ≤ wr.heap.size
  r0 : wr.cell? ⟨H, 0, none⟩ = some (.map none)
  r1 : wr.cell? ⟨H, 1, none⟩ = some (.map none)
  f0 : wr.frozen? ⟨H, 0, none⟩ = false
  f1 : wr.frozen? ⟨H, 1, none⟩ = false
  s0 : wr.cell? ⟨H + 1 + 1 + 1, 0, none⟩ = some (.map (some (H + 1)))
  s1 : wr.cell? ⟨H + 1 + 1 + 1, 1, none⟩ = some (.map (some (H + 1 + 1)))
theorem GrAt.kept {H : Nat} {w wr w' : World} {es es' : Ent} (h : GrAt H w wr es) (hs : SumsAt w' (H + 1) (H + 1 + 1) es') (hk : Kept (fun i => i = H + 1 ∨ i = H + 1 + 1) wr w') : GrAt H w w' es' := by
  have hsz := h.size
  have key : ∀ b o, (b = H ∨ b = H + 1 + 1 + 1) → w'.cell? ⟨b, o, none⟩ = wr.cell? ⟨b, o, none⟩ ∧ w'.frozen? ⟨b, o, none⟩ = wr.frozen? ⟨b, o, none⟩ := fun b o hb => by
    have hh := hk.block b (by omega) (by omega)
    exact ⟨World.cell?_of_block (a := ⟨b, o, none⟩) hh, World.frozen?_of_block (a := ⟨b, o, none⟩) hh⟩
  refine ⟨hs, h.below.trans ?_, by have := hk.size; omega, ?_, ?_, ?_, ?_, ?_, ?_⟩
  · exact hk.below (fun i hi => by omega) (by omega)
  · rw [(key H 0 (.inl rfl)).1]; exact h.r0
  · rw [(key H 1 (.inl rfl)).1]; exact h.r1
  · rw [(key H 0 (.inl rfl)).2]; exact h.f0
  · rw [(key H 1 (.inl rfl)).2]; exact h.f1
  · rw [(key (H + 1 + 1 + 1) 0 (.inr rfl)).1]; exact h.s0
  · rw [(key (H + 1 + 1 + 1) 1 (.inr rfl)).1]; exact h.s1
theorem GrAt.next {H : Nat} {w wr w' : World} {es : Ent} (h : GrAt H w wr es) (hb : Below wr.heap.size wr w') : GrAt H w w' es :=
  h.kept (h.sums.next hb) (Kept.of_below hb)
theorem gr_start (w : World) : GrAt w.heap.size w ((((w.alloc (.cells #[.map none, .map none] 48)).alloc (.map #[] 0)).alloc (.map #[] 0)).alloc (.cells #[.map (some (w.heap.size + 1)), .map (some (w.heap.size + 1 + 1))] 48)) [] := by
  obtain ⟨w1, e1⟩ : ∃ w1, w1 = w.alloc (.cells #[.map none, .map none] 48) := ⟨_, rfl⟩
  have z1 : w1.heap.size = w.heap.size + 1 := by rw [e1]; exact alloc_more _ _
  have c1 := cells_made w #[.map none, .map none] 48
  have b1 : Below w.heap.size w w1 := by rw [e1]; exact (Below.refl _ _).alloc (Nat.le_refl _) _
  rw [← e1] at c1 ⊢
  obtain ⟨w2, e2⟩ : ∃ w2, w2 = w1.alloc (.map #[] 0) := ⟨_, rfl⟩
  have z2 : w2.heap.size = w1.heap.size + 1 := by rw [e2]; exact alloc_more _ _
  have m2 := made w1 Try.prog 9
  have b2 : Below w1.heap.size w1 w2 := by rw [e2]; exact (Below.refl _ _).alloc (Nat.le_refl _) _
  rw [← e2] at m2 ⊢
  obtain ⟨w3, e3⟩ : ∃ w3, w3 = w2.alloc (.map #[] 0) := ⟨_, rfl⟩
  have z3 : w3.heap.size = w2.heap.size + 1 := by rw [e3]; exact alloc_more _ _
  have m3 := made w2 Try.prog 9
  have b3 : Below w2.heap.size w2 w3 := by rw [e3]; exact (Below.refl _ _).alloc (Nat.le_refl _) _
  rw [← e3] at m3 ⊢
  obtain ⟨w4, e4⟩ : ∃ w4, w4 = w3.alloc (.cells #[.map (some (w.heap.size + 1)), .map (some (w.heap.size + 1 + 1))] 48) := ⟨_, rfl⟩
  have z4 : w4.heap.size = w3.heap.size + 1 := by rw [e4]; exact alloc_more _ _
  have c4 := cells_made w3 #[.map (some (w.heap.size + 1)), .map (some (w.heap.size + 1 + 1))] 48
  have b4 : Below w3.heap.size w3 w4 := by rw [e4]; exact (Below.refl _ _).alloc (Nat.le_refl _) _
  rw [← e4] at c4 ⊢
  clear e1 e2 e3 e4
  have c1' := ((c1.below b2 (by omega)).below b3 (by omega)).below b4 (by omega)
  rw [show w3.heap.size = w.heap.size + 1 + 1 + 1 by omega] at c4
  rw [show w1.heap.size = w.heap.size + 1 by omega] at m2
  rw [show w2.heap.size = w.heap.size + 1 + 1 by omega] at m3
  exact ⟨⟨by omega, (m2.below b3 (by omega)).below b4 (by omega), m3.below b4 (by omega)⟩, later (later (later b1 b2) b3) b4, by omega, (c1' 0 (by simp)).1, (c1' 1 (by simp)).1, (c1' 0 (by simp)).2, (c1' 1 (by simp)).2, (c4 0 (by simp)).1, (c4 1 (by simp)).1⟩
theorem take_flat (ls : List (List CntD)) (i : Nat) (h : i < ls.length) : (ls.take (i + 1)).flatten = (ls.take i).flatten ++ ls[i] := by
  rw [List.take_succ_eq_append_getElem h, List.flatten_append]; simp
theorem flat_le (ls : List (List CntD)) (i : Nat) (h : i < ls.length) : (ls.take i).flatten.length + ls[i].length ≤ ls.flatten.length := by
  have h1 : ls.flatten = (ls.take (i + 1)).flatten ++ (ls.drop (i + 1)).flatten := by rw [← List.flatten_append, List.take_append_drop]
  have h2 := congrArg List.length h1
  rw [take_flat ls i h, List.length_append, List.length_append] at h2
  omega
set_option maxHeartbeats 1000000 in
theorem Greatest_calls (w : World) (p : Option Addr) (cap : Nat) (ls : List (List CntD)) (h : ListsArg w p ls) (hn : ls.flatten.length ≤ 4398046511103) (hl : ls.length ≤ 4398046511103) :
    Calls Try.prog 20 #[.slice p ls.length cap] w fun e w' => e = .returned (sumsV (w.heap.size + 1) (w.heap.size + 1 + 1)) ∧ SumsAt w' (w.heap.size + 1) (w.heap.size + 1 + 1) (putGs [] ls.flatten) ∧ Below w.heap.size w w' ∧ w.heap.size + 3 ≤ w'.heap.size := by
  have HA := Lib.hid h
  have HN := Lib.hid hn
  have HG := Lib.hid (gr_start w)
  clear h hn
  have hmm := @run_makeMap Try.prog
  go_enter Try.func20, Try.ntmps20
  go_wp2_with fail
  clear hmm
  generalize ((((w.alloc (.cells #[.map none, .map none] 48)).alloc (.map #[] 0)).alloc (.map #[] 0)).alloc (.cells #[.map (some (w.heap.size + 1)), .map (some (w.heap.size + 1 + 1))] 48)) = W0 at *
  go_loopw [14] (fun u wr => ∃ i : Nat, u = .int .i64 (i : Int) ∧ i ≤ ls.length ∧ GrAt w.heap.size w wr (putGs [] (ls.take i).flatten)) (fun u _ => ls.length - (intOf u).toNat)
  case atStart => exact ⟨0, rfl, Nat.zero_le _, HG.out⟩
  case round =>
    obtain ⟨i, rfl, hi, hg⟩ := hrel
    clear HG
    have HG := Lib.hid hg
    clear hg
    by_cases hlt : i < ls.length
    · obtain ⟨b, o, q, cap2, rfl, hc0, hcn⟩ := HA.out i hlt
      have hc := (HG.out.below.cell (p := ⟨b, o + i, none⟩) (lt_of_cell hc0)).trans hc0
      have HLI := Lib.hid hlt
      have HOKS := Lib.hid (fun c hc => HA.out.ok c hc)
      have HMEM := Lib.hid (show ∀ k (h : k < (ls[i]).length), ∀ c ∈ (ls.take i).flatten ++ (ls[i]).take k, c ∈ ls.flatten from fun k hk c hc => by
        rcases List.mem_append.1 hc with h | h
        · obtain ⟨l, hl, h⟩ := List.mem_flatten.1 h
          exact List.mem_flatten.2 ⟨l, List.mem_of_mem_take hl, h⟩
        · exact List.mem_flatten.2 ⟨_, List.getElem_mem hlt, List.mem_of_mem_take h⟩)
      clear hc0
      have HC := Lib.hid hcn
      have HTF := Lib.hid (take_flat ls i hlt)
      have HFL := Lib.hid (flat_le ls i hlt)
      have hlb : (ls[i]).length ≤ 4398046511103 := by have := HFL.out; have := HN.out; omega
      clear hcn
      generalize hgl : ls[i] = l at *
      clear hgl
      obtain ⟨wo, rfl⟩ : ∃ wo : World, wo = wr := ⟨_, rfl⟩
      go_wp2_with fail
      go_loopw [20] (fun u wr => ∃ k : Nat, u = .int .i64 (k : Int) ∧ k ≤ l.length ∧ GrAt w.heap.size w wr (putGs [] ((ls.take i).flatten ++ l.take k))) (fun u _ => l.length - (intOf u).toNat)
      case atStart => exact ⟨0, rfl, Nat.zero_le _, by simpa using HG.out⟩
      case round =>
        obtain ⟨k, rfl, hk, hg⟩ := hrel
        clear HG
        have HG := Lib.hid hg
        clear hg hc
        by_cases hlt2 : k < l.length
        · obtain ⟨b2, o2, rfl, ⟨c0, c1, c2⟩, hok⟩ := (HC.out.below HG.out.below) k hlt2
          have HTK := Lib.hid (show l.take (k + 1) = l.take k ++ [l[k]] from List.take_succ_eq_append_getElem hlt2)
          have HM := Lib.hid (HMEM.out k hlt2)
          have HKL := Lib.hid hlt2
          have HOK := Lib.hid hok
          generalize l[k] = c at *
          have hal := (Below.refl wr.heap.size wr).alloc (Nat.le_refl _) (.cells #[.string (B c.by_), .int .u64 (c.plus : Int), .int .u64 (c.minus : Int)] 43)
          have hle := putGs_le ((ls.take i).flatten ++ l.take k) []
          rw [List.length_append, List.length_take] at hle
          have hin : InU (putGs [] ((ls.take i).flatten ++ l.take k)) := InU.putGs _ (fun d hd => ⟨(HOKS.out d (HM.out d hd)).plus, (HOKS.out d (HM.out d hd)).minus⟩) (fun p hp => by cases hp)
          have HP := Lib.hid (PutG_calls _ _ _ _ c (HG.out.sums.next hal) (by have := HFL.out; have := HN.out; simp only [List.length_nil] at hle; unfold maxLen; omega) (hin.get _) hok.by_ hok.plus hok.minus)
          have HG2 := Lib.hid (HG.out.next hal)
          have s0 := HG.out.s0
          have s1 := HG.out.s1
          have hsz : w.heap.size + 1 + 1 + 1 < wr.heap.size := by have := HG.out.size; omega
          clear hal hle hin hok
          unfold sumsV cntV u64 at HP
          go_wp2_with fail
          with_reducible refine HP.out.mono ?_
          rintro e w2 ⟨rfl, hs2, hk2⟩
          have HG3 := Lib.hid (HG2.out.kept hs2 hk2)
          clear hs2 hk2 HP HG2 c0 c1 c2 s0 s1 hsz
          go_wp2
          go_roundw
          case rel =>
            refine ⟨k + 1, by go_num, HKL.out, ?_⟩
            rw [HTK.out, ← List.append_assoc, putGs_append]
            exact HG3.out
          case measure => have := HKL.out; simp [intOf]; omega
        · obtain rfl : k = l.length := by omega
          have HG2 := Lib.hid (show GrAt w.heap.size w wr (putGs [] (ls.take (i + 1)).flatten) by
            rw [HTF.out]
            have := HG.out
            rwa [List.take_length] at this)
          clear HG
          go_wp2
          go_roundw
          case rel => exact ⟨i + 1, by go_num, HLI.out, HG2.out⟩
          case measure => have := HLI.out; simp [intOf]; omega
    · obtain rfl : i = ls.length := by omega
      obtain ⟨hs, hb, hz, r0, r1, f0, f1, s0, s1⟩ := HG.out
      have HSS := Lib.hid (And.intro hs (And.intro hb hz))
      clear hs hb hz
      go_wp2_with fail
      rw [List.take_length] at HSS
      have g0 : (wr.setCell ⟨w.heap.size, 0, none⟩ (.map (some (w.heap.size + 1)))).cell? ⟨w.heap.size, 0, none⟩ = some (.map (some (w.heap.size + 1))) := World.cell?_setCell_same _ _ _ r0
      have r1' : (wr.setCell ⟨w.heap.size, 0, none⟩ (.map (some (w.heap.size + 1)))).cell? ⟨w.heap.size, 1, none⟩ = some (.map none) := (World.cell?_setCell_other _ _ _ _ (by simp)).trans r1
      have g1 : ((wr.setCell ⟨w.heap.size, 0, none⟩ (.map (some (w.heap.size + 1)))).setCell ⟨w.heap.size, 1, none⟩ (.map (some (w.heap.size + 1 + 1)))).cell? ⟨w.heap.size, 1, none⟩ = some (.map (some (w.heap.size + 1 + 1))) :=
        World.cell?_setCell_same _ _ _ r1'
      refine bodyPost_ret (v := sumsV (w.heap.size + 1) (w.heap.size + 1 + 1)) (by simp [results, Try.results20, go_sem, g0, g1, sumsV]) rfl ⟨rfl, ?_⟩
      have hz := HSS.out.2.2
      refine ⟨⟨HSS.out.1.apart, (HSS.out.1.plus.setCell ?_ _).setCell ?_ _, (HSS.out.1.minus.setCell ?_ _).setCell ?_ _⟩, (HSS.out.2.1.setCell ?_ _).setCell ?_ _, ?_⟩
      · simp
      · simp
      · simp; omega
      · simp; omega
      · simp
      · simp
      · simp [World.setCell]; omega
end Go.Proofs.Ytloackmpmhgkeaa.Cnt
