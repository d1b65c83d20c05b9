/-
  An argument that is a slice of a log's steps (layer 8): what lies in its cells, and that its texts and lists are weighed.
-/
import Derived.Test.YtpiaplgbpjgjiaaGreatDoorZLpMath
import Derived.Test.YtpiaplgbpjgjiaaGreatDoorZDkOpen
import Derived.Test.YtpiaplgbpjgjiaaGreatDoorZLgRounds
open Go Go.RowKit Go.ChangeShapes Go.WideShapes Go.Deep
namespace Go.Proofs.YtpiaplgbpjgjiaaGreatDoor.Lp
open Base Mp Dk Frame Lg

structure LStep where
  x : StepD
  l : List Key
  lp : Option Addr
  lc : Nat
/-- A step in memory, its first cell at offset o. -/
structure LStepAt (w : World) (b o : Nat) (s : LStep) : Prop where
  step : StepAt w b o s.x
  c6 : w.cell? ⟨b, o + 6, none⟩ = some (.slice s.lp s.l.length s.lc)
/-- What is known of each step that comes in. -/
structure LFit (w : World) (s : LStep) : Prop where
  fit : StepFit w s.x
  row : RowArg w s.lp (strs s.l)
  few : s.l.length ≤ maxLen
  short : ∀ t ∈ s.l, t.length ≤ 140737488355328
theorem LStepAt.below {w w' : World} {b o : Nat} {s : LStep} (h : LStepAt w b o s) (hb : Below w.heap.size w w') : LStepAt w' b o s :=
  ⟨h.step.below hb, (World.cell?_of_block (a := ⟨b, o + 6, none⟩) (hb.block b (lt_of_cell h.c6))).trans h.c6⟩
theorem LFit.below {w w' : World} {s : LStep} (h : LFit w s) (hb : Below w.heap.size w w') : LFit w' s := ⟨h.fit.below hb, h.row.below hb, h.few, h.short⟩
def LArg (w : World) (p : Option Addr) (l : List LStep) : Prop := ∀ j (h : j < l.length), ∃ b o, p = some ⟨b, o, none⟩ ∧ LStepAt w b (o + j * 7) l[j] ∧ LFit w l[j]
theorem LArg.below {w w' : World} {p : Option Addr} {l : List LStep} (h : LArg w p l) (hb : Below w.heap.size w w') : LArg w' p l := fun j hj => by
  obtain ⟨b, o, h1, h2, h3⟩ := h j hj
  exact ⟨b, o, h1, h2.below hb, h3.below hb⟩
theorem cLStep : Tryz.prog.cellsOf 43 = 7 := by kernel_rfl
def lstepCs (s : LStep) : Array Value := #[.int .i64 s.x.do_, .string (B s.x.name), .string (B s.x.s), .int .i64 s.x.n, .int .u8 (s.x.by_.toNat : Int), .slice s.x.kp s.x.keep.length s.x.kc, .slice s.lp s.l.length s.lc]
/-- What is known of a step ahead of the reach. -/
structure LPre (W : World) (s : LStep) : Prop where
  pre : StepPre W s.x
  row : RowArg W s.lp (strs s.l)
  few : s.l.length ≤ maxLen
set_option maxRecDepth 100000 in
theorem open_lstep {H : Type} {enc : TypeId × Value → H} {W : World} {fuel : Nat} {held : Bool} {cs : List Value} {x : DataW H × List MemPlace} (h : DataW.trod enc Tryz.prog W 0 (fun _ => true) held fuel 43 cs = some x) :
    ∃ s : LStep, cs = (lstepCs s).toList ∧ LPre W s ∧ s.x.name.length ∈ DataW.weights Tryz.prog 43 x.1 ∧ s.x.s.length ∈ DataW.weights Tryz.prog 43 x.1 ∧ (s.x.kc = 0 ∨ s.x.kc * 8 ∈ DataW.weights Tryz.prog 43 x.1) ∧ ∀ t ∈ s.l, t.length ∈ DataW.weights Tryz.prog 43 x.1 := by
  obtain ⟨ys, n, -, rfl, hl, hyl, hf⟩ := DataW.trod_struct Tryz.underlying43 h
  rw [cLStep] at hl
  match cs, hl with
  | [c0, c1, c2, c3, c4, c5, c6], _ =>
  have f0 : DataW.trod enc Tryz.prog W 0 (fun _ => true) held n 41 (([c0, c1, c2, c3, c4, c5, c6].drop 0).take (Tryz.prog.cellsOf 41)) = ys[0]? := hf 0 _ rfl
  rw [cStep] at f0
  replace f0 : DataW.trod enc Tryz.prog W 0 (fun _ => true) held n 41 [c0, c1, c2, c3, c4, c5] = ys[0]? := f0
  have f1 : DataW.trod enc Tryz.prog W 0 (fun _ => true) held n 33 (([c0, c1, c2, c3, c4, c5, c6].drop 6).take (Tryz.prog.cellsOf 33)) = ys[1]? := hf 1 _ rfl
  rw [cTexts] at f1
  replace f1 : DataW.trod enc Tryz.prog W 0 (fun _ => true) held n 33 [c6] = ys[1]? := f1
  have hyl' : ys.length = 2 := hyl
  have hw : ∀ (j : Nat) (t : TypeId) (y : DataW H × List MemPlace), (#[41, 33] : Array TypeId)[j]? = some t → ys[j]? = some y → ∀ m ∈ DataW.weights Tryz.prog t y.1, m ∈ DataW.weights Tryz.prog 43 (.agg (ys.map (·.1))) := fun j t y ht hy m hm => by
    simp only [DataW.weights, Tryz.underlying43]
    refine DataW.weights_mem_each (j := j) (t := t) (d := y.1) ?_ (by rw [List.getElem?_map, hy]; rfl) m hm
    rw [← ht]
    simp
  obtain ⟨y0, e0⟩ : ∃ y, ys[0]? = some y := ⟨_, List.getElem?_eq_getElem (by omega)⟩
  obtain ⟨y1, e1⟩ : ∃ y, ys[1]? = some y := ⟨_, List.getElem?_eq_getElem (by omega)⟩
  rw [e0] at f0
  rw [e1] at f1
  obtain ⟨s, g0, hpre, k1, k2, k3⟩ := open_step f0
  obtain ⟨lp, l, lc, g1, hm, hrow, hts⟩ := open_texts f1
  subst g1
  have g0' : [c0, c1, c2, c3, c4, c5] = [.int .i64 s.do_, .string (B s.name), .string (B s.s), .int .i64 s.n, .int .u8 (s.by_.toNat : Int), .slice s.kp s.keep.length s.kc] := g0
  simp only [List.cons.injEq, and_true] at g0'
  obtain ⟨rfl, rfl, rfl, rfl, rfl, rfl⟩ := g0'
  exact ⟨⟨s, l, lp, lc⟩, rfl, ⟨hpre, hrow, hm⟩, hw 0 _ _ rfl e0 _ k1, hw 0 _ _ rfl e0 _ k2, k3.imp id (hw 0 _ _ rfl e0 _), fun t ht => hw 1 _ _ rfl e1 _ (hts t ht)⟩
set_option maxRecDepth 100000 in
theorem open_lsteps {H : Type} {enc : TypeId × Value → H} {W : World} {r : Reach} {b0 : Nat} {v : Value} {d : DataW H} {ps : List MemPlace} {held : Bool}
    (hval : Value.okWide Tryz.prog W r b0 23 v) (hd : DataW.Trod enc Tryz.prog W 0 (fun _ => true) held 23 v d ps) :
    ∃ (p : Option Addr) (l : List LStep) (cap : Nat), v = .slice p l.length cap ∧ l.length ≤ maxLen ∧ l.length ≤ cap ∧ (∀ j (h : j < l.length), ∃ b o, p = some ⟨b, o, none⟩ ∧ LStepAt W b (o + j * 7) l[j] ∧ LPre W l[j]) ∧
      ∀ s ∈ l, s.x.name.length ∈ DataW.weights Tryz.prog 23 d ∧ s.x.s.length ∈ DataW.weights Tryz.prog 23 d ∧ (s.x.kc = 0 ∨ s.x.kc * 8 ∈ DataW.weights Tryz.prog 23 d) ∧ ∀ t ∈ s.l, t.length ∈ DataW.weights Tryz.prog 23 d := by
  obtain ⟨a, len, cap, rfl⟩ := okWide_slice Tryz.underlying23 hval
  obtain ⟨fuel, hf⟩ := hd
  rcases Go.Deep.open_slice Tryz.underlying23 hf with ⟨hcs, _⟩ | ⟨a', len', cap', m, n, D, Pl, hcs, hb, hl, hm, hmm, hx, hi⟩
  · simp [Value.cells] at hcs
    obtain ⟨rfl, rfl, rfl⟩ := hcs
    exact ⟨none, [], 0, rfl, by simp, by simp, fun j hj => by simp at hj, fun s hs => by simp at hs⟩
  · simp [Value.cells] at hcs
    obtain ⟨rfl, rfl, rfl⟩ := hcs
    simp at hmm
    subst hmm
    have hD := (Prod.mk.inj hx).1
    subst hD
    have hex : ∀ i, ∃ s : LStep, i < len → (∃ b o, a' = ⟨b, o, none⟩ ∧ LStepAt W b (o + i * 7) s ∧ LPre W s ∧ s.x.name.length ∈ DataW.weights Tryz.prog 43 (D i) ∧ s.x.s.length ∈ DataW.weights Tryz.prog 43 (D i) ∧ (s.x.kc = 0 ∨ s.x.kc * 8 ∈ DataW.weights Tryz.prog 43 (D i)) ∧ ∀ t ∈ s.l, t.length ∈ DataW.weights Tryz.prog 43 (D i)) := by
      intro i
      by_cases hil : i < len
      · obtain ⟨cs', hc, ht⟩ := hi i (by omega)
        obtain ⟨s, rfl, hok, hw1, hw2, hw3, hw4⟩ := open_lstep ht
        refine ⟨s, fun _ => ?_⟩
        obtain ⟨-, hlen, hcell⟩ := World.cells?_some hc
        rw [cLStep] at hcell
        obtain ⟨b, o, spot⟩ := a'
        have hspot : spot = none := by
          obtain ⟨cs0, hc0, ht0⟩ := hi 0 (by omega)
          obtain ⟨s0, rfl, -⟩ := open_lstep ht0
          obtain ⟨-, -, hcell0⟩ := World.cells?_some hc0
          have h0 := hcell0 0 (by rw [cLStep]; omega)
          simpa [Addr.add] using World.cell?_spot (h0.trans rfl)
        subst hspot
        have hadd : ∀ k j : Nat, ((⟨b, o, none⟩ : Addr).add k).add j = ⟨b, o + k + j, none⟩ := fun k j => by by_cases hk : k = 0 <;> by_cases hj : j = 0 <;> simp [Addr.add, hk, hj]
        have e0 := hcell 0 (by omega)
        have e1 := hcell 1 (by omega)
        have e2 := hcell 2 (by omega)
        have e3 := hcell 3 (by omega)
        have e4 := hcell 4 (by omega)
        have e5 := hcell 5 (by omega)
        have e6 := hcell 6 (by omega)
        rw [hadd] at e0 e1 e2 e3 e4 e5 e6
        exact ⟨b, o, rfl, ⟨⟨e0, e1, e2, e3, e4, e5⟩, e6⟩, hok, hw1, hw2, hw3, hw4⟩
      · exact ⟨⟨⟨0, [], [], 0, 0, [], none, 0⟩, [], none, 0⟩, fun h => absurd h hil⟩
    obtain ⟨f, hf⟩ := Classical.axiomOfChoice hex
    refine ⟨some a', (List.range len).map f, m, by simp, by simp; omega, by simp; omega, fun j hj => ?_, fun s hs => ?_⟩
    · have hj' : j < len := by simpa using hj
      obtain ⟨b, o, rfl, h1, h2, _⟩ := hf j hj'
      exact ⟨b, o, rfl, by simpa using h1, by simpa using h2⟩
    · obtain ⟨j, hj, rfl⟩ := List.mem_map.1 hs
      rw [List.mem_range] at hj
      obtain ⟨_, _, _, _, _, k1, k2, k3, k4⟩ := hf j hj
      have key : ∀ z ∈ DataW.weights Tryz.prog 43 (D j), z ∈ DataW.weights Tryz.prog 23 (.slice ((List.range len).map D) ((List.range (m - len)).map fun j => D (len + j))) := fun z hm => by
        simp only [DataW.weights, Tryz.underlying23, List.mem_cons, List.mem_append]
        exact .inr (.inl (weighed_all (List.mem_map.2 ⟨j, List.mem_range.2 hj, rfl⟩) hm))
      exact ⟨key _ k1, key _ k2, k3.imp id (key _), fun t ht => key _ (k4 t ht)⟩
/-- Under the reach. -/
theorem lsteps_arg {W : World} {p : Option Addr} {l : List LStep} {ws : List Nat} (h : ∀ j (h : j < l.length), ∃ b o, p = some ⟨b, o, none⟩ ∧ LStepAt W b (o + j * 7) l[j] ∧ LPre W l[j])
    (hw : ∀ s ∈ l, s.x.name.length ∈ ws ∧ s.x.s.length ∈ ws ∧ (s.x.kc = 0 ∨ s.x.kc * 8 ∈ ws) ∧ ∀ t ∈ s.l, t.length ∈ ws) (hz : ∀ n ∈ ws, n ≤ 140737488351232) : LArg W p l := fun j hj => by
  obtain ⟨b, o, h1, h2, h3⟩ := h j hj
  obtain ⟨k1, k2, k3, k4⟩ := hw _ (List.getElem_mem hj)
  refine ⟨b, o, h1, h2, ⟨Nat.le_trans (hz _ k1) (by decide), Nat.le_trans (hz _ k2) (by decide), h3.pre.n, h3.pre.keep, ?_, h3.pre.ints⟩, h3.row, h3.few, fun t ht => Nat.le_trans (hz _ (k4 t ht)) (by decide)⟩
  have h4 := h3.pre.kc
  rcases k3 with k3 | k3
  · omega
  · have := hz _ k3; omega
end Go.Proofs.YtpiaplgbpjgjiaaGreatDoor.Lp
