/-
  An argument that is a slice of a net's steps (layer 30): what lies in its cells, and that its texts are weighed; the walk of the guard heavy.
-/
import Derived.Test.YtplfnjpoikhmbaaNtTurned
import Derived.Test.YtplfnjpoikhmbaaFront
import Derived.Deep.Slices
import Derived.Deep.Fields
import Derived.ChangeSame
import Derived.SizedLaws
open Go Go.RowKit Go.ChangeShapes Go.WideShapes Go.Deep
namespace Go.Proofs.Ytplfnjpoikhmbaa.Nt
open Base Mp

structure StepD where
  what : Int
  whom : List UInt8
  s : List UInt8
  t : List UInt8
  n : Nat
  m : Nat
  place : Int
  turn : UInt8
def stepCs (s : StepD) : Array Value := #[.int .i64 s.what, .string (B s.whom), .string (B s.s), .string (B s.t), .int .u64 (s.n : Int), .int .u64 (s.m : Int), .int .i64 s.place, .int .u8 ((s.turn.toNat : Nat) : Int)]
/-- A step in memory, its first cell at o. -/
structure StepAt (w : World) (b o : Nat) (s : StepD) : Prop where
  c0 : w.cell? ⟨b, o, none⟩ = some (.int .i64 s.what)
  c1 : w.cell? ⟨b, o + 1, none⟩ = some (.string (B s.whom))
  c2 : w.cell? ⟨b, o + 2, none⟩ = some (.string (B s.s))
  c3 : w.cell? ⟨b, o + 3, none⟩ = some (.string (B s.t))
  c4 : w.cell? ⟨b, o + 4, none⟩ = some (.int .u64 (s.n : Int))
  c5 : w.cell? ⟨b, o + 5, none⟩ = some (.int .u64 (s.m : Int))
  c6 : w.cell? ⟨b, o + 6, none⟩ = some (.int .i64 s.place)
  c7 : w.cell? ⟨b, o + 7, none⟩ = some (.int .u8 ((s.turn.toNat : Nat) : Int))
theorem StepAt.below {w w' : World} {b o : Nat} {s : StepD} (h : StepAt w b o s) (hb : Below w.heap.size w w') : StepAt w' b o s := by
  have hlt := lt_of_cell h.c0
  have key : ∀ j v, w.cell? ⟨b, j, none⟩ = some v → w'.cell? ⟨b, j, none⟩ = some v := fun j v hc => (World.cell?_of_block (a := ⟨b, j, none⟩) (hb.block b hlt)).trans hc
  exact ⟨key _ _ h.c0, key _ _ h.c1, key _ _ h.c2, key _ _ h.c3, key _ _ h.c4, key _ _ h.c5, key _ _ h.c6, key _ _ h.c7⟩
/-- What is known of a step ahead of the reach. -/
structure StepPre (s : StepD) : Prop where
  what : -9223372036854775808 ≤ s.what ∧ s.what ≤ 9223372036854775807
  n : s.n < 18446744073709551616
  m : s.m < 18446744073709551616
  place : -9223372036854775808 ≤ s.place ∧ s.place ≤ 9223372036854775807
structure StepOk (s : StepD) : Prop extends StepPre s where
  l1 : s.whom.length ≤ 140737488351232
  l2 : s.s.length ≤ 140737488351232
  l3 : s.t.length ≤ 140737488351232
def StepsArg (w : World) (p : Option Addr) (l : List StepD) : Prop := ∀ j (h : j < l.length), ∃ b o, p = some ⟨b, o, none⟩ ∧ StepAt w b (o + j * 8) l[j] ∧ StepOk l[j]
theorem StepsArg.below {w w' : World} {p : Option Addr} {l : List StepD} (h : StepsArg w p l) (hb : Below w.heap.size w w') : StepsArg w' p l := fun j hj => by
  obtain ⟨b, o, h1, h2, h3⟩ := h j hj
  exact ⟨b, o, h1, h2.below hb, h3⟩
theorem cStep : Try.prog.cellsOf 41 = 8 := by kernel_rfl
theorem cStr : Try.prog.cellsOf 9 = 1 := by kernel_rfl
theorem cInt : Try.prog.cellsOf 3 = 1 := by kernel_rfl
theorem cU8 : Try.prog.cellsOf 5 = 1 := by kernel_rfl
theorem cU64 : Try.prog.cellsOf 28 = 1 := by kernel_rfl
theorem weighed_all {H : Type} {P : Program} {e : TypeId} {l : List (DataW H)} {d : DataW H} (hd : d ∈ l) {n : Nat} (hn : n ∈ d.weights P e) : n ∈ DataW.weightsAll P e l := by
  induction l with
  | nil => cases hd
  | cons a r ih =>
    rw [DataW.weightsAll, List.mem_append]
    rcases List.mem_cons.1 hd with rfl | hd
    · exact .inl hn
    · exact .inr (ih hd)
set_option maxRecDepth 100000 in
theorem open_step {H : Type} {enc : TypeId × Value → H} {W : World} {fuel : Nat} {held : Bool} {cs : List Value} {x : DataW H × List MemPlace} (h : DataW.trod enc Try.prog W 0 (fun _ => true) held fuel 41 cs = some x) :
    ∃ s : StepD, cs = (stepCs s).toList ∧ StepPre s ∧ s.whom.length ∈ DataW.weights Try.prog 41 x.1 ∧ s.s.length ∈ DataW.weights Try.prog 41 x.1 ∧ s.t.length ∈ DataW.weights Try.prog 41 x.1 := by
  obtain ⟨ys, n, -, rfl, hl, hyl, hf⟩ := DataW.trod_struct Try.underlying41 h
  rw [cStep] at hl
  match cs, hl with
  | [c0, c1, c2, c3, c4, c5, c6, c7], _ =>
  have f0 : DataW.trod enc Try.prog W 0 (fun _ => true) held n 3 (([c0, c1, c2, c3, c4, c5, c6, c7].drop 0).take (Try.prog.cellsOf 3)) = ys[0]? := hf 0 _ rfl
  rw [cInt] at f0
  replace f0 : DataW.trod enc Try.prog W 0 (fun _ => true) held n 3 [c0] = ys[0]? := f0
  have f1 : DataW.trod enc Try.prog W 0 (fun _ => true) held n 9 (([c0, c1, c2, c3, c4, c5, c6, c7].drop 1).take (Try.prog.cellsOf 9)) = ys[1]? := hf 1 _ rfl
  rw [cStr] at f1
  replace f1 : DataW.trod enc Try.prog W 0 (fun _ => true) held n 9 [c1] = ys[1]? := f1
  have f2 : DataW.trod enc Try.prog W 0 (fun _ => true) held n 9 (([c0, c1, c2, c3, c4, c5, c6, c7].drop 2).take (Try.prog.cellsOf 9)) = ys[2]? := hf 2 _ rfl
  rw [cStr] at f2
  replace f2 : DataW.trod enc Try.prog W 0 (fun _ => true) held n 9 [c2] = ys[2]? := f2
  have f3 : DataW.trod enc Try.prog W 0 (fun _ => true) held n 9 (([c0, c1, c2, c3, c4, c5, c6, c7].drop 3).take (Try.prog.cellsOf 9)) = ys[3]? := hf 3 _ rfl
  rw [cStr] at f3
  replace f3 : DataW.trod enc Try.prog W 0 (fun _ => true) held n 9 [c3] = ys[3]? := f3
  have f4 : DataW.trod enc Try.prog W 0 (fun _ => true) held n 28 (([c0, c1, c2, c3, c4, c5, c6, c7].drop 4).take (Try.prog.cellsOf 28)) = ys[4]? := hf 4 _ rfl
  rw [cU64] at f4
  replace f4 : DataW.trod enc Try.prog W 0 (fun _ => true) held n 28 [c4] = ys[4]? := f4
  have f5 : DataW.trod enc Try.prog W 0 (fun _ => true) held n 28 (([c0, c1, c2, c3, c4, c5, c6, c7].drop 5).take (Try.prog.cellsOf 28)) = ys[5]? := hf 5 _ rfl
  rw [cU64] at f5
  replace f5 : DataW.trod enc Try.prog W 0 (fun _ => true) held n 28 [c5] = ys[5]? := f5
  have f6 : DataW.trod enc Try.prog W 0 (fun _ => true) held n 3 (([c0, c1, c2, c3, c4, c5, c6, c7].drop 6).take (Try.prog.cellsOf 3)) = ys[6]? := hf 6 _ rfl
  rw [cInt] at f6
  replace f6 : DataW.trod enc Try.prog W 0 (fun _ => true) held n 3 [c6] = ys[6]? := f6
  have f7 : DataW.trod enc Try.prog W 0 (fun _ => true) held n 5 (([c0, c1, c2, c3, c4, c5, c6, c7].drop 7).take (Try.prog.cellsOf 5)) = ys[7]? := hf 7 _ rfl
  rw [cU8] at f7
  replace f7 : DataW.trod enc Try.prog W 0 (fun _ => true) held n 5 [c7] = ys[7]? := f7
  have hyl' : ys.length = 8 := hyl
  have hw : ∀ (j : Nat) (t : TypeId) (y : DataW H × List MemPlace), (#[3, 9, 9, 9, 28, 28, 3, 5] : Array TypeId)[j]? = some t → ys[j]? = some y → ∀ m ∈ DataW.weights Try.prog t y.1, m ∈ DataW.weights Try.prog 41 (.agg (ys.map (·.1))) := fun j t y ht hy m hm => by
    simp only [DataW.weights, Try.underlying41]
    refine DataW.weights_mem_each (j := j) (t := t) (d := y.1) ?_ (by rw [List.getElem?_map, hy]; rfl) m hm
    rw [← ht]
    simp
  obtain ⟨y0, e0⟩ : ∃ y, ys[0]? = some y := ⟨_, List.getElem?_eq_getElem (by omega)⟩
  obtain ⟨y1, e1⟩ : ∃ y, ys[1]? = some y := ⟨_, List.getElem?_eq_getElem (by omega)⟩
  obtain ⟨y2, e2⟩ : ∃ y, ys[2]? = some y := ⟨_, List.getElem?_eq_getElem (by omega)⟩
  obtain ⟨y3, e3⟩ : ∃ y, ys[3]? = some y := ⟨_, List.getElem?_eq_getElem (by omega)⟩
  obtain ⟨y4, e4⟩ : ∃ y, ys[4]? = some y := ⟨_, List.getElem?_eq_getElem (by omega)⟩
  obtain ⟨y5, e5⟩ : ∃ y, ys[5]? = some y := ⟨_, List.getElem?_eq_getElem (by omega)⟩
  obtain ⟨y6, e6⟩ : ∃ y, ys[6]? = some y := ⟨_, List.getElem?_eq_getElem (by omega)⟩
  obtain ⟨y7, e7⟩ : ∃ y, ys[7]? = some y := ⟨_, List.getElem?_eq_getElem (by omega)⟩
  rw [e0] at f0
  rw [e1] at f1
  rw [e2] at f2
  rw [e3] at f3
  rw [e4] at f4
  rw [e5] at f5
  rw [e6] at f6
  rw [e7] at f7
  obtain ⟨a0, g0, -, r0⟩ := DataW.trod_int Try.underlying3 f0
  obtain ⟨a1, g1, q1, -⟩ := DataW.trod_string Try.underlying9 f1
  obtain ⟨a2, g2, q2, -⟩ := DataW.trod_string Try.underlying9 f2
  obtain ⟨a3, g3, q3, -⟩ := DataW.trod_string Try.underlying9 f3
  obtain ⟨a4, g4, -, r4⟩ := DataW.trod_int Try.underlying28 f4
  obtain ⟨a5, g5, -, r5⟩ := DataW.trod_int Try.underlying28 f5
  obtain ⟨a6, g6, -, r6⟩ := DataW.trod_int Try.underlying3 f6
  obtain ⟨a7, g7, -, r7⟩ := DataW.trod_int Try.underlying5 f7
  injection g0 with g0
  injection g1 with g1
  injection g2 with g2
  injection g3 with g3
  injection g4 with g4
  injection g5 with g5
  injection g6 with g6
  injection g7 with g7
  subst g0 g1 g2 g3 g4 g5 g6 g7
  have b0 := bounds_i64 r0
  have b4 := bounds_u64 r4
  have b5 := bounds_u64 r5
  have b6 := bounds_i64 r6
  have b7 := bounds_u8 r7
  obtain ⟨n4, rfl⟩ := Int.eq_ofNat_of_zero_le b4.1
  obtain ⟨n5, rfl⟩ := Int.eq_ofNat_of_zero_le b5.1
  have x1 := hw 1 _ _ rfl e1 a1.data.toList.length (by rw [q1]; simp [DataW.weights])
  have x2 := hw 2 _ _ rfl e2 a2.data.toList.length (by rw [q2]; simp [DataW.weights])
  have x3 := hw 3 _ _ rfl e3 a3.data.toList.length (by rw [q3]; simp [DataW.weights])
  refine ⟨⟨a0, a1.data.toList, a2.data.toList, a3.data.toList, n4, n5, a6, UInt8.ofNat a7.toNat⟩, ?_, ⟨b0, by simp only; omega, by simp only; omega, b6⟩, x1, x2, x3⟩
  have e7' : (((UInt8.ofNat a7.toNat).toNat : Nat) : Int) = a7 := by
    simp; omega
  simp only [stepCs, e7']
  rfl
set_option maxRecDepth 100000 in
theorem open_steps30 {H : Type} {enc : TypeId × Value → H} {W : World} {r : Reach} {b0 : Nat} {v : Value} {d : DataW H} {ps : List MemPlace} {held : Bool}
    (hval : Value.okWide Try.prog W r b0 36 v) (hd : DataW.Trod enc Try.prog W 0 (fun _ => true) held 36 v d ps) :
    ∃ (p : Option Addr) (l : List StepD) (cap : Nat), v = .slice p l.length cap ∧ l.length ≤ maxLen ∧ l.length ≤ cap ∧ (∀ j (h : j < l.length), ∃ b o, p = some ⟨b, o, none⟩ ∧ StepAt W b (o + j * 8) l[j] ∧ StepPre l[j]) ∧
      ∀ s ∈ l, s.whom.length ∈ DataW.weights Try.prog 36 d ∧ s.s.length ∈ DataW.weights Try.prog 36 d ∧ s.t.length ∈ DataW.weights Try.prog 36 d := by
  obtain ⟨a, len, cap, rfl⟩ := okWide_slice Try.underlying36 hval
  obtain ⟨fuel, hf⟩ := hd
  rcases Go.Deep.open_slice Try.underlying36 hf with ⟨hcs, _⟩ | ⟨a', len', cap', m, n, D, Pl, hcs, hb, hl, hm, hmm, hx, hi⟩
  · simp [Value.cells] at hcs
    obtain ⟨rfl, rfl, rfl⟩ := hcs
    exact ⟨none, [], 0, rfl, by simp, by simp, fun j hj => by simp at hj, fun s hs => by simp at hs⟩
  · simp [Value.cells] at hcs
    obtain ⟨rfl, rfl, rfl⟩ := hcs
    simp at hmm
    subst hmm
    have hD := (Prod.mk.inj hx).1
    subst hD
    have hex : ∀ i, ∃ s : StepD, i < len → (∃ b o, a' = ⟨b, o, none⟩ ∧ StepAt W b (o + i * 8) s ∧ StepPre s ∧ s.whom.length ∈ DataW.weights Try.prog 41 (D i) ∧ s.s.length ∈ DataW.weights Try.prog 41 (D i) ∧ s.t.length ∈ DataW.weights Try.prog 41 (D i)) := by
      intro i
      by_cases hil : i < len
      · obtain ⟨cs', hc, ht⟩ := hi i (by omega)
        obtain ⟨s, rfl, hok, hw1, hw2, hw3⟩ := open_step ht
        refine ⟨s, fun _ => ?_⟩
        obtain ⟨-, hlen, hcell⟩ := World.cells?_some hc
        rw [cStep] at hcell
        obtain ⟨b, o, spot⟩ := a'
        have hspot : spot = none := by
          obtain ⟨cs0, hc0, ht0⟩ := hi 0 (by omega)
          obtain ⟨s0, rfl, -⟩ := open_step ht0
          obtain ⟨-, -, hcell0⟩ := World.cells?_some hc0
          have h0 := hcell0 0 (by rw [cStep]; omega)
          simpa [Addr.add] using World.cell?_spot (h0.trans rfl)
        subst hspot
        have hadd : ∀ k j : Nat, ((⟨b, o, none⟩ : Addr).add k).add j = ⟨b, o + k + j, none⟩ := fun k j => by by_cases hk : k = 0 <;> by_cases hj : j = 0 <;> simp [Addr.add, hk, hj]
        have e0 := hcell 0 (by omega)
        have e1 := hcell 1 (by omega)
        have e2 := hcell 2 (by omega)
        have e3 := hcell 3 (by omega)
        have e4 := hcell 4 (by omega)
        have e5 := hcell 5 (by omega)
        have e6 := hcell 6 (by omega)
        have e7 := hcell 7 (by omega)
        rw [hadd] at e0 e1 e2 e3 e4 e5 e6 e7
        exact ⟨b, o, rfl, ⟨e0, e1, e2, e3, e4, e5, e6, e7⟩, hok, hw1, hw2, hw3⟩
      · exact ⟨⟨0, [], [], [], 0, 0, 0, 0⟩, fun h => absurd h hil⟩
    obtain ⟨f, hf⟩ := Classical.axiomOfChoice hex
    refine ⟨some a', (List.range len).map f, m, by simp, by simp; omega, by simp; omega, fun j hj => ?_, fun s hs => ?_⟩
    · have hj' : j < len := by simpa using hj
      obtain ⟨b, o, rfl, h1, h2, _⟩ := hf j hj'
      exact ⟨b, o, rfl, by simpa using h1, by simpa using h2⟩
    · obtain ⟨j, hj, rfl⟩ := List.mem_map.1 hs
      rw [List.mem_range] at hj
      obtain ⟨_, _, _, _, _, k1, k2, k3⟩ := hf j hj
      have key : ∀ z ∈ DataW.weights Try.prog 41 (D j), z ∈ DataW.weights Try.prog 36 (.slice ((List.range len).map D) ((List.range (m - len)).map fun j => D (len + j))) := fun z hm => by
        simp only [DataW.weights, Try.underlying36, List.mem_cons, List.mem_append]
        exact .inr (.inl (weighed_all (List.mem_map.2 ⟨j, List.mem_range.2 hj, rfl⟩) hm))
      exact ⟨key _ k1, key _ k2, key _ k3⟩
/-- Under the reach. -/
theorem steps_arg {W : World} {p : Option Addr} {l : List StepD} {ws : List Nat} (h : ∀ j (h : j < l.length), ∃ b o, p = some ⟨b, o, none⟩ ∧ StepAt W b (o + j * 8) l[j] ∧ StepPre l[j])
    (hw : ∀ s ∈ l, s.whom.length ∈ ws ∧ s.s.length ∈ ws ∧ s.t.length ∈ ws) (hz : ∀ n ∈ ws, n ≤ 140737488351232) : StepsArg W p l := fun j hj => by
  obtain ⟨b, o, h1, h2, h3⟩ := h j hj
  obtain ⟨k1, k2, k3⟩ := hw _ (List.getElem_mem hj)
  exact ⟨b, o, h1, h2, ⟨h3, hz _ k1, hz _ k2, hz _ k3⟩⟩
def HeavyPost (n : Nat) (e : Ending) : Prop := ∃ v : Bool, e = .returned (.bool v) ∧ (v = false → n ≤ 250)
set_option maxHeartbeats 4000000 in
set_option maxRecDepth 100000 in
theorem Heavy_f (p : Option Addr) (l : List StepD) (cap : Nat) (w : World) (hl : l.length ≤ maxLen) (h : StepsArg w p l) :
    Calls Try.prog 14 #[.slice p l.length cap] w fun e w' => HeavyPost l.length e ∧ Below w.heap.size w w' := by
  unfold maxLen at hl
  go_enter Try.func14, Try.ntmps14
  go_wp2
  go_loopw [3, 4] (fun v u wr => ∃ (k : Nat) (n : Int), v = .int .i64 n ∧ u = .int .i64 k ∧ k ≤ l.length ∧ Below w.heap.size w wr) (fun _ u _ => l.length - (intOf u).toNat)
  case atStart => exact ⟨0, 0, rfl, rfl, Nat.zero_le _, Below.refl _ _⟩
  case round =>
    obtain ⟨k, n, rfl, rfl, hk, hb⟩ := hrel
    have HB := Lib.hid hb
    clear hb
    by_cases hgo : k < l.length ∧ k < 500
    · obtain ⟨hlt, h500⟩ := hgo
      obtain ⟨b, o, rfl, hs, hok⟩ := (h.below HB.out) k hlt
      obtain ⟨c0, c1, c2, c3, c4, c5, c6, c7⟩ := hs
      have t1 : (k : Int) < (l.length : Int) := by omega
      have t2 : (k : Int) < 500 := by omega
      have l1 := hok.l1
      have l2 := hok.l2
      have l3 := hok.l3
      clear hok h c0 c4 c5 c6 c7
      generalize l[k] = x at *
      generalize l.length = m at *
      obtain ⟨_, xw, xs, xt, _, _, _, _⟩ := x
      simp only at c1 c2 c3 l1 l2 l3
      go_wp2
      go_region
      have HB2 := Lib.hid (HB.out.drew)
      clear c1 c2 c3
      generalize wr.drew = wd at *
      go_wp2
      all_goals first
        | exact ⟨⟨k + 1, _, rfl, by go_num, by omega, HB2.out⟩, by simp [intOf]; omega⟩
        | (go_roundw; case rel => exact ⟨k + 1, _, rfl, by go_num, by omega, HB2.out⟩; case measure => simp [intOf]; omega)
    · have hend : l.length ≤ k ∨ 500 ≤ k := by omega
      have HE := Lib.hid hend
      by_cases hlt : k < l.length
      · have t1 : (k : Int) < (l.length : Int) := by omega
        have t2 : ¬ (k : Int) < 500 := by omega
        have t3 : 250 < (l.length : Int) := by omega
        clear h hgo
        generalize l.length = m at *
        go_wp2
        all_goals go_ret
        all_goals exact ⟨⟨_, rfl, by intro hv; first | cases hv | omega⟩, HB.out⟩
      · have t1 : ¬ (k : Int) < (l.length : Int) := by omega
        clear h hgo
        by_cases h250 : l.length ≤ 250
        · have H250 := Lib.hid h250
          generalize l.length = m at h250 t1 hl hend hlt hk ⊢
          go_wp2
          all_goals go_ret
          all_goals exact ⟨⟨_, rfl, fun _ => H250.out⟩, HB.out⟩
        · have t3 : 250 < (l.length : Int) := by omega
          generalize l.length = m at *
          go_wp2
          all_goals go_ret
          all_goals exact ⟨⟨_, rfl, by intro hv; first | cases hv | omega⟩, HB.out⟩
end Go.Proofs.Ytplfnjpoikhmbaa.Nt
