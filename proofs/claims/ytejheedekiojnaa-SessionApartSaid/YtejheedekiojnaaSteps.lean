/-
  An argument that is a slice of steps (layer 28): what lies in its cells.
-/
import Derived.Test.YtejheedekiojnaaSessDrop
import Derived.Test.YtejheedekiojnaaFront
import Derived.Deep.Slices
import Derived.Deep.Fields
import Derived.ChangeSame
open Go Go.RowKit Go.ChangeShapes Go.WideShapes Go.Deep
namespace Go.Proofs.Ytejheedekiojnaa.Sess
open Base Mp

structure StepD where
  who : List UInt8
  gone : Bool
  p : PartD
structure StepOk (s : StepD) : Prop where
  who : s.who.length ≤ maxLen
  i1 : -9223372036854775808 ≤ s.p.i
  i2 : s.p.i ≤ 9223372036854775807
  n1 : -9223372036854775808 ≤ s.p.n
  n2 : s.p.n ≤ 9223372036854775807
  text : s.p.text.length ≤ maxLen
/-- A step in memory, its first cell at a. -/
structure StepAt (w : World) (b o : Nat) (s : StepD) : Prop where
  c0 : w.cell? ⟨b, o, none⟩ = some (.string (B s.who))
  c1 : w.cell? ⟨b, o + 1, none⟩ = some (.bool s.gone)
  c2 : w.cell? ⟨b, o + 2, none⟩ = some (.int .u64 (s.p.id : Int))
  c3 : w.cell? ⟨b, o + 3, none⟩ = some (.int .i64 s.p.i)
  c4 : w.cell? ⟨b, o + 4, none⟩ = some (.int .i64 s.p.n)
  c5 : w.cell? ⟨b, o + 5, none⟩ = some (.string (B s.p.text))
theorem StepAt.below {w w' : World} {b o : Nat} {s : StepD} (h : StepAt w b o s) (hb : Below w.heap.size w w') : StepAt w' b o s := by
  have hlt := lt_of_cell h.c0
  have key : ∀ j v, w.cell? ⟨b, j, none⟩ = some v → w'.cell? ⟨b, j, none⟩ = some v := fun j v hc => (World.cell?_of_block (a := ⟨b, j, none⟩) (hb.block b hlt)).trans hc
  exact ⟨key _ _ h.c0, key _ _ h.c1, key _ _ h.c2, key _ _ h.c3, key _ _ h.c4, key _ _ h.c5⟩
def StepsArg (w : World) (p : Option Addr) (l : List StepD) : Prop := ∀ j (h : j < l.length), ∃ b o, p = some ⟨b, o, none⟩ ∧ StepAt w b (o + j * 6) l[j] ∧ StepOk l[j]
theorem StepsArg.below {w w' : World} {p : Option Addr} {l : List StepD} (h : StepsArg w p l) (hb : Below w.heap.size w w') : StepsArg w' p l := fun j hj => by
  obtain ⟨b, o, h1, h2, h3⟩ := h j hj
  exact ⟨b, o, h1, h2.below hb, h3⟩

theorem cellsS : Try.prog.cellsOf 35 = 6 := by kernel_rfl
theorem cellsP : Try.prog.cellsOf 32 = 4 := by kernel_rfl
theorem cellsStr : Try.prog.cellsOf 9 = 1 := by kernel_rfl
theorem cellsBool : Try.prog.cellsOf 4 = 1 := by kernel_rfl
theorem cellsInt : Try.prog.cellsOf 3 = 1 := by kernel_rfl
theorem cellsU64 : Try.prog.cellsOf 30 = 1 := by kernel_rfl
theorem open_part {H : Type} {enc : TypeId × Value → H} {W : World} {fuel : Nat} {held : Bool} {cs : List Value} {x : DataW H × List MemPlace} (h : DataW.trod enc Try.prog W 0 (fun _ => true) held fuel 32 cs = some x) :
    ∃ p : PartD, cs = [.int .u64 (p.id : Int), .int .i64 p.i, .int .i64 p.n, .string (B p.text)] ∧ StepOk ⟨[], false, p⟩ := by
  obtain ⟨ys, n, -, -, hl, hyl, hf⟩ := DataW.trod_struct Try.underlying32 h
  rw [cellsP] at hl
  match cs, hl with
  | [c0, c1, c2, c3], _ =>
  have f0 : DataW.trod enc Try.prog W 0 (fun _ => true) held n 30 (([c0, c1, c2, c3].drop 0).take (Try.prog.cellsOf 30)) = ys[0]? := hf 0 _ rfl
  rw [cellsU64] at f0
  replace f0 : DataW.trod enc Try.prog W 0 (fun _ => true) held n 30 [c0] = ys[0]? := f0
  have f1 : DataW.trod enc Try.prog W 0 (fun _ => true) held n 3 (([c0, c1, c2, c3].drop 1).take (Try.prog.cellsOf 3)) = ys[1]? := hf 1 _ rfl
  rw [cellsInt] at f1
  replace f1 : DataW.trod enc Try.prog W 0 (fun _ => true) held n 3 [c1] = ys[1]? := f1
  have f2 : DataW.trod enc Try.prog W 0 (fun _ => true) held n 3 (([c0, c1, c2, c3].drop 2).take (Try.prog.cellsOf 3)) = ys[2]? := hf 2 _ rfl
  rw [cellsInt] at f2
  replace f2 : DataW.trod enc Try.prog W 0 (fun _ => true) held n 3 [c2] = ys[2]? := f2
  have f3 : DataW.trod enc Try.prog W 0 (fun _ => true) held n 9 (([c0, c1, c2, c3].drop 3).take (Try.prog.cellsOf 9)) = ys[3]? := hf 3 _ rfl
  rw [cellsStr] at f3
  replace f3 : DataW.trod enc Try.prog W 0 (fun _ => true) held n 9 [c3] = ys[3]? := f3
  have hyl' : ys.length = 4 := hyl
  obtain ⟨y0, e0⟩ : ∃ y, ys[0]? = some y := ⟨_, List.getElem?_eq_getElem (by omega)⟩
  obtain ⟨y1, e1⟩ : ∃ y, ys[1]? = some y := ⟨_, List.getElem?_eq_getElem (by omega)⟩
  obtain ⟨y2, e2⟩ : ∃ y, ys[2]? = some y := ⟨_, List.getElem?_eq_getElem (by omega)⟩
  obtain ⟨y3, e3⟩ : ∃ y, ys[3]? = some y := ⟨_, List.getElem?_eq_getElem (by omega)⟩
  rw [e0] at f0
  rw [e1] at f1
  rw [e2] at f2
  rw [e3] at f3
  obtain ⟨a0, g0, -, r0⟩ := DataW.trod_int Try.underlying30 f0
  obtain ⟨a1, g1, -, r1⟩ := DataW.trod_int Try.underlying3 f1
  obtain ⟨a2, g2, -, r2⟩ := DataW.trod_int Try.underlying3 f2
  obtain ⟨a3, g3, -, r3⟩ := DataW.trod_string Try.underlying9 f3
  injection g0 with g0
  injection g1 with g1
  injection g2 with g2
  injection g3 with g3
  subst g0 g1 g2 g3
  have b0 := bounds_u64 r0
  have b1 := bounds_i64 r1
  have b2 := bounds_i64 r2
  obtain ⟨n0, rfl⟩ := Int.eq_ofNat_of_zero_le b0.1
  exact ⟨⟨n0, a1, a2, a3.data.toList⟩, rfl, ⟨by simp, by simp only; omega, by simp only; omega, by simp only; omega, by simp only; omega, r3⟩⟩
theorem open_step {H : Type} {enc : TypeId × Value → H} {W : World} {fuel : Nat} {held : Bool} {cs : List Value} {x : DataW H × List MemPlace} (h : DataW.trod enc Try.prog W 0 (fun _ => true) held fuel 35 cs = some x) :
    ∃ s : StepD, cs = [.string (B s.who), .bool s.gone, .int .u64 (s.p.id : Int), .int .i64 s.p.i, .int .i64 s.p.n, .string (B s.p.text)] ∧ StepOk s := by
  obtain ⟨ys, n, -, -, hl, hyl, hf⟩ := DataW.trod_struct Try.underlying35 h
  rw [cellsS] at hl
  match cs, hl with
  | [c0, c1, c2, c3, c4, c5], _ =>
  have f0 : DataW.trod enc Try.prog W 0 (fun _ => true) held n 9 (([c0, c1, c2, c3, c4, c5].drop 0).take (Try.prog.cellsOf 9)) = ys[0]? := hf 0 _ rfl
  rw [cellsStr] at f0
  replace f0 : DataW.trod enc Try.prog W 0 (fun _ => true) held n 9 [c0] = ys[0]? := f0
  have f1 : DataW.trod enc Try.prog W 0 (fun _ => true) held n 4 (([c0, c1, c2, c3, c4, c5].drop 1).take (Try.prog.cellsOf 4)) = ys[1]? := hf 1 _ rfl
  rw [cellsBool] at f1
  replace f1 : DataW.trod enc Try.prog W 0 (fun _ => true) held n 4 [c1] = ys[1]? := f1
  have f2 : DataW.trod enc Try.prog W 0 (fun _ => true) held n 32 (([c0, c1, c2, c3, c4, c5].drop 2).take (Try.prog.cellsOf 32)) = ys[2]? := hf 2 _ rfl
  rw [cellsP] at f2
  replace f2 : DataW.trod enc Try.prog W 0 (fun _ => true) held n 32 [c2, c3, c4, c5] = ys[2]? := f2
  have hyl' : ys.length = 3 := hyl
  obtain ⟨y0, e0⟩ : ∃ y, ys[0]? = some y := ⟨_, List.getElem?_eq_getElem (by omega)⟩
  obtain ⟨y1, e1⟩ : ∃ y, ys[1]? = some y := ⟨_, List.getElem?_eq_getElem (by omega)⟩
  obtain ⟨y2, e2⟩ : ∃ y, ys[2]? = some y := ⟨_, List.getElem?_eq_getElem (by omega)⟩
  rw [e0] at f0
  rw [e1] at f1
  rw [e2] at f2
  obtain ⟨a0, g0, -, r0⟩ := DataW.trod_string Try.underlying9 f0
  obtain ⟨a1, g1, -⟩ := DataW.trod_bool Try.underlying4 f1
  obtain ⟨p, g2, r2⟩ := open_part f2
  injection g0 with g0
  injection g1 with g1
  injection g2 with g2 g3
  injection g3 with g3 g4
  injection g4 with g4 g5
  injection g5 with g5
  subst g0 g1 g2 g3 g4 g5
  exact ⟨⟨a0.data.toList, a1, p⟩, rfl, ⟨r0, r2.i1, r2.i2, r2.n1, r2.n2, r2.text⟩⟩
theorem open_steps {H : Type} {enc : TypeId × Value → H} {W : World} {r : Reach} {b0 : Nat} {v : Value} {d : DataW H} {ps : List MemPlace} {held : Bool}
    (hval : Value.okWide Try.prog W r b0 25 v) (hd : DataW.Trod enc Try.prog W 0 (fun _ => true) held 25 v d ps) :
    ∃ (p : Option Addr) (l : List StepD) (cap : Nat), v = .slice p l.length cap ∧ l.length ≤ maxLen ∧ l.length ≤ cap ∧ StepsArg W p l := by
  obtain ⟨a, len, cap, rfl⟩ := okWide_slice Try.underlying25 hval
  obtain ⟨fuel, hf⟩ := hd
  rcases Go.Deep.open_slice Try.underlying25 hf with ⟨hcs, _⟩ | ⟨a', len', cap', m, n, D, Pl, hcs, hb, hl, hm, hmm, hx, hi⟩
  · simp [Value.cells] at hcs
    obtain ⟨rfl, rfl, rfl⟩ := hcs
    exact ⟨none, [], 0, rfl, by simp, by simp, fun j hj => by simp at hj⟩
  · simp [Value.cells] at hcs
    obtain ⟨rfl, rfl, rfl⟩ := hcs
    simp at hmm
    subst hmm
    have hex : ∀ i, ∃ s : StepD, i < len → (∃ b o, a' = ⟨b, o, none⟩ ∧ StepAt W b (o + i * 6) s ∧ StepOk s) := by
      intro i
      by_cases hil : i < len
      · obtain ⟨cs', hc, ht⟩ := hi i (by omega)
        obtain ⟨s, rfl, hok⟩ := open_step ht
        refine ⟨s, fun _ => ?_⟩
        obtain ⟨-, hlen, hcell⟩ := World.cells?_some hc
        rw [cellsS] at hcell
        obtain ⟨b, o, spot⟩ := a'
        have hspot : spot = none := by
          obtain ⟨cs0, hc0, ht0⟩ := hi 0 (by omega)
          obtain ⟨s0, rfl, -⟩ := open_step ht0
          obtain ⟨-, -, hcell0⟩ := World.cells?_some hc0
          have h0 := hcell0 0 (by rw [cellsS]; omega)
          simpa [Addr.add] using World.cell?_spot (h0.trans rfl)
        subst hspot
        have hadd : ∀ k j : Nat, ((⟨b, o, none⟩ : Addr).add k).add j = ⟨b, o + k + j, none⟩ := fun k j => by by_cases hk : k = 0 <;> by_cases hj : j = 0 <;> simp [Addr.add, hk, hj]
        have e0 := hcell 0 (by omega)
        have e1 := hcell 1 (by omega)
        have e2 := hcell 2 (by omega)
        have e3 := hcell 3 (by omega)
        have e4 := hcell 4 (by omega)
        have e5 := hcell 5 (by omega)
        rw [hadd] at e0 e1 e2 e3 e4 e5
        exact ⟨b, o, rfl, ⟨e0, e1, e2, e3, e4, e5⟩, hok⟩
      · exact ⟨⟨[], false, ⟨0, 0, 0, []⟩⟩, fun h => absurd h hil⟩
    obtain ⟨f, hf⟩ := Classical.axiomOfChoice hex
    refine ⟨some a', (List.range len).map f, m, by simp, by simp; omega, by simp; omega, fun j hj => ?_⟩
    have hj' : j < len := by simpa using hj
    obtain ⟨b, o, rfl, h1, h2⟩ := hf j hj'
    exact ⟨b, o, rfl, by simpa using h1, by simpa using h2⟩
end Go.Proofs.Ytejheedekiojnaa.Sess
