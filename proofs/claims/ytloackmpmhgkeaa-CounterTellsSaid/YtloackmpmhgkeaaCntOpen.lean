/-
  A []api.Count that came in, as data (layer 12).
-/
import Derived.Test.YtloackmpmhgkeaaCntGreat
import Derived.OpenShut
import Derived.Deep.Slices
open Go Go.RowKit Go.ChangeShapes Go.WideShapes
namespace Go.Proofs.Ytloackmpmhgkeaa.Cnt
open Base

theorem cellsCnt : Try.prog.cellsOf 43 = 3 := by kernel_rfl
theorem cellsStr : Try.prog.cellsOf 9 = 1 := by kernel_rfl
theorem cellsU64 : Try.prog.cellsOf 41 = 1 := by kernel_rfl
theorem open_count {H : Type} {enc : TypeId × Value → H} {W : World} {fuel : Nat} {held : Bool} {cs : List Value} {x : DataW H × List MemPlace} (h : DataW.trod enc Try.prog W 0 (fun _ => true) held fuel 43 cs = some x) :
    ∃ c : CntD, cs = [.string (B c.by_), .int .u64 (c.plus : Int), .int .u64 (c.minus : Int)] ∧ CntOk c := by
  obtain ⟨ys, n, -, -, hl, hyl, hf⟩ := DataW.trod_struct Try.underlying43 h
  rw [cellsCnt] at hl
  match cs, hl with
  | [c0, c1, c2], _ =>
  have f0 : DataW.trod enc Try.prog W 0 (fun _ => true) held n 9 (([c0, c1, c2].drop 0).take (Try.prog.cellsOf 9)) = ys[0]? := hf 0 _ rfl
  rw [cellsStr] at f0
  replace f0 : DataW.trod enc Try.prog W 0 (fun _ => true) held n 9 [c0] = ys[0]? := f0
  have f1 : DataW.trod enc Try.prog W 0 (fun _ => true) held n 41 (([c0, c1, c2].drop 1).take (Try.prog.cellsOf 41)) = ys[1]? := hf 1 _ rfl
  rw [cellsU64] at f1
  replace f1 : DataW.trod enc Try.prog W 0 (fun _ => true) held n 41 [c1] = ys[1]? := f1
  have f2 : DataW.trod enc Try.prog W 0 (fun _ => true) held n 41 (([c0, c1, c2].drop 2).take (Try.prog.cellsOf 41)) = ys[2]? := hf 2 _ rfl
  rw [cellsU64] at f2
  replace f2 : DataW.trod enc Try.prog W 0 (fun _ => true) held n 41 [c2] = ys[2]? := f2
  have hyl' : ys.length = 3 := hyl
  obtain ⟨y0, e0⟩ : ∃ y, ys[0]? = some y := ⟨_, List.getElem?_eq_getElem (by omega)⟩
  obtain ⟨y1, e1⟩ : ∃ y, ys[1]? = some y := ⟨_, List.getElem?_eq_getElem (by omega)⟩
  obtain ⟨y2, e2⟩ : ∃ y, ys[2]? = some y := ⟨_, List.getElem?_eq_getElem (by omega)⟩
  rw [e0] at f0
  rw [e1] at f1
  rw [e2] at f2
  obtain ⟨a0, g0, -, r0⟩ := DataW.trod_string Try.underlying9 f0
  obtain ⟨a1, g1, -, r1⟩ := DataW.trod_int Try.underlying41 f1
  obtain ⟨a2, g2, -, r2⟩ := DataW.trod_int Try.underlying41 f2
  injection g0 with g0
  injection g1 with g1
  injection g2 with g2
  subst g0 g1 g2
  have b1 := bounds_u64 r1
  have b2 := bounds_u64 r2
  obtain ⟨n1, rfl⟩ := Int.eq_ofNat_of_zero_le b1.1
  obtain ⟨n2, rfl⟩ := Int.eq_ofNat_of_zero_le b2.1
  exact ⟨⟨a0.data.toList, n1, n2⟩, rfl, ⟨r0, by simp only; omega, by simp only; omega⟩⟩
theorem open_counts {H : Type} {enc : TypeId × Value → H} {W : World} {r : Reach} {b0 : Nat} {v : Value} {d : DataW H} {ps : List MemPlace} {held : Bool}
    (hval : Value.okWide Try.prog W r b0 22 v) (hd : DataW.Trod enc Try.prog W 0 (fun _ => true) held 22 v d ps) :
    ∃ (p : Option Addr) (l : List CntD) (cap : Nat), v = .slice p l.length cap ∧ l.length ≤ maxLen ∧ l.length ≤ cap ∧ CntsArg W p l := by
  obtain ⟨a, len, cap, rfl⟩ := okWide_slice Try.underlying22 hval
  obtain ⟨fuel, hf⟩ := hd
  rcases Go.Deep.open_slice Try.underlying22 hf with ⟨hcs, _⟩ | ⟨a', len', cap', m, n, D, Pl, hcs, hb, hl, hm, hmm, hx, hi⟩
  · simp [Value.cells] at hcs
    obtain ⟨rfl, rfl, rfl⟩ := hcs
    exact ⟨none, [], 0, rfl, by simp, by simp, fun j hj => by simp at hj⟩
  · simp [Value.cells] at hcs
    obtain ⟨rfl, rfl, rfl⟩ := hcs
    simp at hmm
    subst hmm
    have hex : ∀ i, ∃ c : CntD, i < len → (∃ b o, a' = ⟨b, o, none⟩ ∧ CntAt W b (o + i * 3) c ∧ CntOk c) := by
      intro i
      by_cases hil : i < len
      · obtain ⟨cs', hc, ht⟩ := hi i (by omega)
        obtain ⟨s, rfl, hok⟩ := open_count ht
        refine ⟨s, fun _ => ?_⟩
        obtain ⟨-, hlen, hcell⟩ := World.cells?_some hc
        rw [cellsCnt] at hcell
        obtain ⟨b, o, spot⟩ := a'
        have hspot : spot = none := by
          obtain ⟨cs0, hc0, ht0⟩ := hi 0 (by omega)
          obtain ⟨s0, rfl, -⟩ := open_count ht0
          obtain ⟨-, -, hcell0⟩ := World.cells?_some hc0
          have h0 := hcell0 0 (by rw [cellsCnt]; omega)
          simpa [Addr.add] using World.cell?_spot (h0.trans rfl)
        subst hspot
        have hadd : ∀ k j : Nat, ((⟨b, o, none⟩ : Addr).add k).add j = ⟨b, o + k + j, none⟩ := fun k j => by by_cases hk : k = 0 <;> by_cases hj : j = 0 <;> simp [Addr.add, hk, hj]
        have e0 := hcell 0 (by omega)
        have e1 := hcell 1 (by omega)
        have e2 := hcell 2 (by omega)
        rw [hadd] at e0 e1 e2
        exact ⟨b, o, rfl, ⟨e0, e1, e2⟩, hok⟩
      · exact ⟨⟨[], 0, 0⟩, fun h => absurd h hil⟩
    obtain ⟨f, hf⟩ := Classical.axiomOfChoice hex
    refine ⟨some a', (List.range len).map f, m, by simp, by simp; omega, by simp; omega, fun j hj => ?_⟩
    have hj' : j < len := by simpa using hj
    obtain ⟨b, o, rfl, h1, h2⟩ := hf j hj'
    exact ⟨b, o, rfl, by simpa using h1, by simpa using h2⟩
end Go.Proofs.Ytloackmpmhgkeaa.Cnt
