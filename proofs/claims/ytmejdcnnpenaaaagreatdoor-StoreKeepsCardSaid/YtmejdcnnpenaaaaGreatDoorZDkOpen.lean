/-
  An argument that is a slice of a disk's steps (layer 7): what lies in its cells, and that its texts and lists are weighed.
-/
import Derived.Deep.Slices
import Derived.Deep.Fields
import Derived.ChangeSame
import Derived.SizedLaws
import Derived.Test.YtmejdcnnpenaaaaGreatDoorZDkB
import Derived.Test.YtmejdcnnpenaaaaGreatDoorZFront
open Go Go.RowKit Go.ChangeShapes Go.WideShapes Go.Deep
namespace Go.Proofs.YtmejdcnnpenaaaaGreatDoor.Dk
open Base Mp

theorem cStr : Tryz.prog.cellsOf 9 = 1 := by kernel_rfl
theorem cInt : Tryz.prog.cellsOf 3 = 1 := by kernel_rfl
theorem cU8 : Tryz.prog.cellsOf 5 = 1 := by kernel_rfl
theorem cInts : Tryz.prog.cellsOf 42 = 1 := by kernel_rfl
theorem byInt : Tryz.prog.bytesOf 3 = 8 := by kernel_rfl
set_option maxRecDepth 100000 in
/-- A list of numbers that comes in, or lies inside. -/
theorem open_keep {H : Type} {enc : TypeId × Value → H} {W : World} {fuel : Nat} {held : Bool} {cs : List Value} {x : DataW H × List MemPlace} (h : DataW.trod enc Tryz.prog W 0 (fun _ => true) held fuel 42 cs = some x) :
    ∃ (p : Option Addr) (l : List Int) (cap : Nat), cs = [.slice p l.length cap] ∧ l.length ≤ cap ∧ cap ≤ maxLen ∧ IntsAt W p l ∧ IntsIn l ∧ (cap = 0 ∨ cap * 8 ∈ DataW.weights Tryz.prog 42 x.1) := by
  rcases open_ints Tryz.underlying42 Tryz.underlying3 cInt h with ⟨rfl, _⟩ | ⟨a, len, cap, zs, rfl, _, hl, hm, hz, rfl, hcell, hwz⟩
  · exact ⟨none, [], 0, rfl, by simp, by simp, fun j hj => by simp at hj, fun x hx => by simp at hx, .inl rfl⟩
  · simp only [if_true] at hz
    refine ⟨some a, zs.take len, cap, by rw [List.length_take, hz, Nat.min_eq_left hl], by rw [List.length_take]; omega, hm, fun j hj => ?_, fun x hx => bounds_i64 (hwz x (List.mem_of_mem_take hx)), ?_⟩
    · rw [List.length_take] at hj
      have hjz : j < zs.length := by omega
      obtain ⟨b, off, rfl, hc2⟩ := ints_at hcell (by omega)
      refine ⟨b, off, rfl, ?_⟩
      rw [hc2 j hjz]
      simp [List.getD, List.getElem?_eq_getElem hjz]
    · right
      simp only [DataW.weights, Tryz.underlying42, List.mem_cons]
      left
      simp only [lits, List.length_map, List.length_take, List.length_drop, byInt]
      omega
theorem weighed_all {H : Type} {P : Program} {e : TypeId} {l : List (DataW H)} {d : DataW H} (hd : d ∈ l) {n : Nat} (hn : n ∈ d.weights P e) : n ∈ DataW.weightsAll P e l := by
  induction l with
  | nil => cases hd
  | cons a r ih =>
    rw [DataW.weightsAll, List.mem_append]
    rcases List.mem_cons.1 hd with rfl | hd
    · exact .inl hn
    · exact .inr (ih hd)
/-- What is known of a step ahead of the reach. -/
structure StepPre (W : World) (s : StepD) : Prop where
  n : -9223372036854775808 ≤ s.n ∧ s.n ≤ 9223372036854775807
  keep : IntsIn s.keep
  ints : IntsAt W s.kp s.keep
  kc : s.keep.length ≤ s.kc
/-- Under the reach. -/
theorem steps_arg {W : World} {p : Option Addr} {l : List StepD} {ws : List Nat} (h : ∀ j (h : j < l.length), ∃ b o, p = some ⟨b, o, none⟩ ∧ StepAt W b (o + j * 6) l[j] ∧ StepPre W l[j])
    (hw : ∀ s ∈ l, s.name.length ∈ ws ∧ s.s.length ∈ ws ∧ (s.kc = 0 ∨ s.kc * 8 ∈ ws)) (hz : ∀ n ∈ ws, n ≤ 140737488351232) : StepsArg W p l := fun j hj => by
  obtain ⟨b, o, h1, h2, h3⟩ := h j hj
  obtain ⟨k1, k2, k3⟩ := hw _ (List.getElem_mem hj)
  refine ⟨b, o, h1, h2, Nat.le_trans (hz _ k1) (by decide), Nat.le_trans (hz _ k2) (by decide), h3.n, h3.keep, ?_, h3.ints⟩
  have h4 := h3.kc
  rcases k3 with k3 | k3
  · omega
  · have := hz _ k3; omega
set_option maxRecDepth 100000 in
/-- A list of numbers that comes in. -/
theorem open_nums {H : Type} {enc : TypeId × Value → H} {W : World} {r : Reach} {b0 : Nat} {v : Value} {d : DataW H} {ps : List MemPlace} {held : Bool}
    (hval : Value.okWide Tryz.prog W r b0 42 v) (hd : DataW.Trod enc Tryz.prog W 0 (fun _ => true) held 42 v d ps) :
    ∃ (p : Option Addr) (l : List Int) (cap : Nat), v = .slice p l.length cap ∧ l.length ≤ maxLen ∧ l.length ≤ cap ∧ (IntsAt W p l ∧ IntsIn l) := by
  obtain ⟨a, len, cap, rfl⟩ := okWide_slice Tryz.underlying42 hval
  obtain ⟨fuel, hf⟩ := hd
  obtain ⟨p, l, c, h1, h2, h3, h4, h5, -⟩ := open_keep hf
  simp [Value.cells] at h1
  obtain ⟨rfl, rfl, rfl⟩ := h1
  exact ⟨_, l, _, rfl, Nat.le_trans h2 h3, h2, h4, h5⟩
end Go.Proofs.YtmejdcnnpenaaaaGreatDoor.Dk
