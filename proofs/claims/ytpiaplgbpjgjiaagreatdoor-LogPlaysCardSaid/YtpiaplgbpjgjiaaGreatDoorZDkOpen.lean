/-
  An argument that is a slice of a disk's steps (layer 7): what lies in its cells, and that its texts and lists are weighed.
-/
import Derived.Deep.Slices
import Derived.Deep.Fields
import Derived.ChangeSame
import Derived.SizedLaws
import Derived.Test.YtpiaplgbpjgjiaaGreatDoorZDkB
import Derived.Test.YtpiaplgbpjgjiaaGreatDoorZFront
open Go Go.RowKit Go.ChangeShapes Go.WideShapes Go.Deep
namespace Go.Proofs.YtpiaplgbpjgjiaaGreatDoor.Dk
open Base Mp

theorem cStep : Tryz.prog.cellsOf 41 = 6 := by kernel_rfl
theorem cStr : Tryz.prog.cellsOf 9 = 1 := by kernel_rfl
theorem cInt : Tryz.prog.cellsOf 3 = 1 := by kernel_rfl
theorem cU8 : Tryz.prog.cellsOf 5 = 1 := by kernel_rfl
theorem cInts : Tryz.prog.cellsOf 39 = 1 := by kernel_rfl
theorem byInt : Tryz.prog.bytesOf 3 = 8 := by kernel_rfl
set_option maxRecDepth 100000 in
/-- A list of numbers that comes in, or lies inside. -/
theorem open_keep {H : Type} {enc : TypeId × Value → H} {W : World} {fuel : Nat} {held : Bool} {cs : List Value} {x : DataW H × List MemPlace} (h : DataW.trod enc Tryz.prog W 0 (fun _ => true) held fuel 39 cs = some x) :
    ∃ (p : Option Addr) (l : List Int) (cap : Nat), cs = [.slice p l.length cap] ∧ l.length ≤ cap ∧ cap ≤ maxLen ∧ IntsAt W p l ∧ IntsIn l ∧ (cap = 0 ∨ cap * 8 ∈ DataW.weights Tryz.prog 39 x.1) := by
  rcases open_ints Tryz.underlying39 Tryz.underlying3 cInt h with ⟨rfl, _⟩ | ⟨a, len, cap, zs, rfl, _, hl, hm, hz, rfl, hcell, hwz⟩
  · exact ⟨none, [], 0, rfl, by simp, by simp, fun j hj => by simp at hj, fun x hx => by simp at hx, .inl rfl⟩
  · simp only [if_true] at hz
    refine ⟨some a, zs.take len, cap, by rw [List.length_take, hz, Nat.min_eq_left hl], by rw [List.length_take]; omega, hm, fun j hj => ?_, fun x hx => bounds_i64 (hwz x (List.mem_of_mem_take hx)), ?_⟩
    · rw [List.length_take] at hj
      have hjz : j < zs.length := by omega
      obtain ⟨b, off, rfl, hc2⟩ := ints_at hcell (by omega)
      refine ⟨b, off, rfl, ?_⟩
      rw [hc2 j hjz]
      simp [List.getD, List.getElem?_eq_getElem hjz]
    · right
      simp only [DataW.weights, Tryz.underlying39, List.mem_cons]
      left
      simp only [lits, List.length_map, List.length_take, List.length_drop, byInt]
      omega
theorem weighed_all {H : Type} {P : Program} {e : TypeId} {l : List (DataW H)} {d : DataW H} (hd : d ∈ l) {n : Nat} (hn : n ∈ d.weights P e) : n ∈ DataW.weightsAll P e l := by
  induction l with
  | nil => cases hd
  | cons a r ih =>
    rw [DataW.weightsAll, List.mem_append]
    rcases List.mem_cons.1 hd with rfl | hd
    · exact .inl hn
    · exact .inr (ih hd)
/-- What is known of a step ahead of the reach. -/
structure StepPre (W : World) (s : StepD) : Prop where
  n : -9223372036854775808 ≤ s.n ∧ s.n ≤ 9223372036854775807
  keep : IntsIn s.keep
  ints : IntsAt W s.kp s.keep
  kc : s.keep.length ≤ s.kc
set_option maxRecDepth 100000 in
theorem open_step {H : Type} {enc : TypeId × Value → H} {W : World} {fuel : Nat} {held : Bool} {cs : List Value} {x : DataW H × List MemPlace} (h : DataW.trod enc Tryz.prog W 0 (fun _ => true) held fuel 41 cs = some x) :
    ∃ s : StepD, cs = (stepCs s).toList ∧ StepPre W s ∧ s.name.length ∈ DataW.weights Tryz.prog 41 x.1 ∧ s.s.length ∈ DataW.weights Tryz.prog 41 x.1 ∧ (s.kc = 0 ∨ s.kc * 8 ∈ DataW.weights Tryz.prog 41 x.1) := by
  obtain ⟨ys, n, -, rfl, hl, hyl, hf⟩ := DataW.trod_struct Tryz.underlying41 h
  rw [cStep] at hl
  match cs, hl with
  | [c0, c1, c2, c3, c4, c5], _ =>
  have f0 : DataW.trod enc Tryz.prog W 0 (fun _ => true) held n 3 (([c0, c1, c2, c3, c4, c5].drop 0).take (Tryz.prog.cellsOf 3)) = ys[0]? := hf 0 _ rfl
  rw [cInt] at f0
  replace f0 : DataW.trod enc Tryz.prog W 0 (fun _ => true) held n 3 [c0] = ys[0]? := f0
  have f1 : DataW.trod enc Tryz.prog W 0 (fun _ => true) held n 9 (([c0, c1, c2, c3, c4, c5].drop 1).take (Tryz.prog.cellsOf 9)) = ys[1]? := hf 1 _ rfl
  rw [cStr] at f1
  replace f1 : DataW.trod enc Tryz.prog W 0 (fun _ => true) held n 9 [c1] = ys[1]? := f1
  have f2 : DataW.trod enc Tryz.prog W 0 (fun _ => true) held n 9 (([c0, c1, c2, c3, c4, c5].drop 2).take (Tryz.prog.cellsOf 9)) = ys[2]? := hf 2 _ rfl
  rw [cStr] at f2
  replace f2 : DataW.trod enc Tryz.prog W 0 (fun _ => true) held n 9 [c2] = ys[2]? := f2
  have f3 : DataW.trod enc Tryz.prog W 0 (fun _ => true) held n 3 (([c0, c1, c2, c3, c4, c5].drop 3).take (Tryz.prog.cellsOf 3)) = ys[3]? := hf 3 _ rfl
  rw [cInt] at f3
  replace f3 : DataW.trod enc Tryz.prog W 0 (fun _ => true) held n 3 [c3] = ys[3]? := f3
  have f4 : DataW.trod enc Tryz.prog W 0 (fun _ => true) held n 5 (([c0, c1, c2, c3, c4, c5].drop 4).take (Tryz.prog.cellsOf 5)) = ys[4]? := hf 4 _ rfl
  rw [cU8] at f4
  replace f4 : DataW.trod enc Tryz.prog W 0 (fun _ => true) held n 5 [c4] = ys[4]? := f4
  have f5 : DataW.trod enc Tryz.prog W 0 (fun _ => true) held n 39 (([c0, c1, c2, c3, c4, c5].drop 5).take (Tryz.prog.cellsOf 39)) = ys[5]? := hf 5 _ rfl
  rw [cInts] at f5
  replace f5 : DataW.trod enc Tryz.prog W 0 (fun _ => true) held n 39 [c5] = ys[5]? := f5
  have hyl' : ys.length = 6 := hyl
  have hw : ∀ (j : Nat) (t : TypeId) (y : DataW H × List MemPlace), (#[3, 9, 9, 3, 5, 39] : Array TypeId)[j]? = some t → ys[j]? = some y → ∀ m ∈ DataW.weights Tryz.prog t y.1, m ∈ DataW.weights Tryz.prog 41 (.agg (ys.map (·.1))) := fun j t y ht hy m hm => by
    simp only [DataW.weights, Tryz.underlying41]
    refine DataW.weights_mem_each (j := j) (t := t) (d := y.1) ?_ (by rw [List.getElem?_map, hy]; rfl) m hm
    rw [← ht]
    simp
  obtain ⟨y0, e0⟩ : ∃ y, ys[0]? = some y := ⟨_, List.getElem?_eq_getElem (by omega)⟩
  obtain ⟨y1, e1⟩ : ∃ y, ys[1]? = some y := ⟨_, List.getElem?_eq_getElem (by omega)⟩
  obtain ⟨y2, e2⟩ : ∃ y, ys[2]? = some y := ⟨_, List.getElem?_eq_getElem (by omega)⟩
  obtain ⟨y3, e3⟩ : ∃ y, ys[3]? = some y := ⟨_, List.getElem?_eq_getElem (by omega)⟩
  obtain ⟨y4, e4⟩ : ∃ y, ys[4]? = some y := ⟨_, List.getElem?_eq_getElem (by omega)⟩
  obtain ⟨y5, e5⟩ : ∃ y, ys[5]? = some y := ⟨_, List.getElem?_eq_getElem (by omega)⟩
  rw [e0] at f0
  rw [e1] at f1
  rw [e2] at f2
  rw [e3] at f3
  rw [e4] at f4
  rw [e5] at f5
  obtain ⟨a0, g0, -, r0⟩ := DataW.trod_int Tryz.underlying3 f0
  obtain ⟨a1, g1, q1, r1⟩ := DataW.trod_string Tryz.underlying9 f1
  obtain ⟨a2, g2, q2, r2⟩ := DataW.trod_string Tryz.underlying9 f2
  obtain ⟨a3, g3, -, r3⟩ := DataW.trod_int Tryz.underlying3 f3
  obtain ⟨a4, g4, -, r4⟩ := DataW.trod_int Tryz.underlying5 f4
  obtain ⟨kp, kl, kc, g5, r5, -, r5a, r5b, r5w⟩ := open_keep f5
  injection g0 with g0
  injection g1 with g1
  injection g2 with g2
  injection g3 with g3
  injection g4 with g4
  injection g5 with g5
  subst g0 g1 g2 g3 g4 g5
  have b0 := bounds_i64 r0
  have b3 := bounds_i64 r3
  have b4 := bounds_u8 r4
  have x1 := hw 1 _ _ rfl e1 a1.data.toList.length (by rw [q1]; simp [DataW.weights])
  have x2 := hw 2 _ _ rfl e2 a2.data.toList.length (by rw [q2]; simp [DataW.weights])
  refine ⟨⟨a0, a1.data.toList, a2.data.toList, a3, UInt8.ofNat a4.toNat, kl, kp, kc⟩, ?_, ⟨b3, r5b, r5a, r5⟩, x1, x2, ?_⟩
  · have e4' : (((UInt8.ofNat a4.toNat).toNat : Nat) : Int) = a4 := by
      simp; omega
    simp only [stepCs, e4']
    rfl
  · rcases r5w with h | h
    · exact .inl h
    · exact .inr (hw 5 _ _ rfl e5 _ h)
/-- Under the reach. -/
theorem steps_arg {W : World} {p : Option Addr} {l : List StepD} {ws : List Nat} (h : ∀ j (h : j < l.length), ∃ b o, p = some ⟨b, o, none⟩ ∧ StepAt W b (o + j * 6) l[j] ∧ StepPre W l[j])
    (hw : ∀ s ∈ l, s.name.length ∈ ws ∧ s.s.length ∈ ws ∧ (s.kc = 0 ∨ s.kc * 8 ∈ ws)) (hz : ∀ n ∈ ws, n ≤ 140737488351232) : StepsArg W p l := fun j hj => by
  obtain ⟨b, o, h1, h2, h3⟩ := h j hj
  obtain ⟨k1, k2, k3⟩ := hw _ (List.getElem_mem hj)
  refine ⟨b, o, h1, h2, Nat.le_trans (hz _ k1) (by decide), Nat.le_trans (hz _ k2) (by decide), h3.n, h3.keep, ?_, h3.ints⟩
  have h4 := h3.kc
  rcases k3 with k3 | k3
  · omega
  · have := hz _ k3; omega
set_option maxRecDepth 100000 in
/-- A list of numbers that comes in. -/
theorem open_nums {H : Type} {enc : TypeId × Value → H} {W : World} {r : Reach} {b0 : Nat} {v : Value} {d : DataW H} {ps : List MemPlace} {held : Bool}
    (hval : Value.okWide Tryz.prog W r b0 39 v) (hd : DataW.Trod enc Tryz.prog W 0 (fun _ => true) held 39 v d ps) :
    ∃ (p : Option Addr) (l : List Int) (cap : Nat), v = .slice p l.length cap ∧ l.length ≤ maxLen ∧ l.length ≤ cap ∧ (IntsAt W p l ∧ IntsIn l) := by
  obtain ⟨a, len, cap, rfl⟩ := okWide_slice Tryz.underlying39 hval
  obtain ⟨fuel, hf⟩ := hd
  obtain ⟨p, l, c, h1, h2, h3, h4, h5, -⟩ := open_keep hf
  simp [Value.cells] at h1
  obtain ⟨rfl, rfl, rfl⟩ := h1
  exact ⟨_, l, _, rfl, Nat.le_trans h2 h3, h2, h4, h5⟩
end Go.Proofs.YtpiaplgbpjgjiaaGreatDoor.Dk
