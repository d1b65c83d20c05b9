/-
  What every law's row wants behind its walk: the call returned true, nothing that was there has turned, so each argument reads as it did. No program in sight but the model's own. No condition.
-/
import Derived.WalkKit
import Derived.ProofKit
import Derived.OpenShut
import Derived.SliceStrings
import Derived.Test.YtpiaplgbpjgjiaaGreatDoorZBase
open Go Go.RowKit Go.ChangeShapes Go.WideShapes
namespace Go.Proofs.YtpiaplgbpjgjiaaGreatDoor.Front

theorem args_stay {H : Type} {enc : TypeId × Value → H} {P : Program} (hl : laidOutB P = true) {W W' : World} (hb : Below W.heap.size W W') :
    ∀ (ts : List TypeId), (ts.all fun t => P.readableRec t && decide (t < P.types.size)) = true → ∀ (vs : List Value) (ds : List (DataW H)) (ps : List MemPlace), DataW.TrodAll enc P W 0 (fun _ => true) true ts vs ds ps → (∀ x ∈ ps, x.block < W.heap.size) →
      DataW.TrodAll enc P W' 0 (fun b => decide (b < W.heap.size)) true ts vs ds ps
  | [], _, vs, ds, ps, h, _ => by
    obtain ⟨rfl, rfl, rfl⟩ := trodAll_nil h
    exact rfl
  | t :: ts, hr, vs, ds, ps, h, hp => by
    obtain ⟨v, vs', d, ds', p, q, rfl, rfl, rfl, h0, h1⟩ := trodAll_cons h
    rw [List.all_cons, Bool.and_eq_true, Bool.and_eq_true] at hr
    exact ⟨p, q, Below.trod hl hr.1.1 (of_decide_eq_true hr.1.2) h0 hb (fun x hx => hp x (List.mem_append_left _ hx)), args_stay hl hb ts hr.2 _ _ _ h1 (fun x hx => hp x (List.mem_append_right _ hx)), rfl⟩

theorem post_true {H : Type} {enc : TypeId × Value → H} {P : Program} {f : Func} {s : ChangeSpec} {W W' : World} {args : Array Value} {ds gs : List (DataW H)} {before : List MemPlace} {tb : TypeId}
    (hl : laidOutB P = true) (hread : (f.params.toList.all fun t => P.readableRec t && decide (t < P.types.size)) = true) (hvars : s.vars = []) (hrt : f.resultTypes = #[tb]) (hbool : P.underlying tb = some .bool)
    (hW : DataW.Whole enc P f.params.toList s.vars false W args.toList ds gs before) (hfn : s.fn H (ds ++ gs) = { results := [.lit (.bool true)], args := ds }) (hb : Below W.heap.size W W') :
    s.post enc P f false true false false W args (.bool true) W' := by
  have hlt : ∀ x ∈ before, x.block < W.heap.size := fun x hx => by simpa using hW.lt x hx
  have hW' := hW
  obtain ⟨p, q, hA, hV, rfl, hz, hn⟩ := hW
  have hargs := args_stay hl hb _ hread _ _ _ hA (fun x hx => hlt x (List.mem_append_left _ hx))
  refine ⟨ds, gs, _, [], p, [], hW', ?_, ?_, ?_, hb.frame _, fun h => by cases h⟩
  · rw [hfn, hrt]
    exact ⟨[], [], shut_bool hbool true, rfl, rfl⟩
  · rw [hfn]; exact hargs
  · rw [hfn, hvars]; exact rfl

/-- A slice of bytes that comes in. -/
theorem open_bytes {H : Type} {enc : TypeId × Value → H} {P : Program} {W : World} {r : Reach} {b0 : Nat} {t e : TypeId} {v : Value} {d : DataW H} {ps : List MemPlace} {held : Bool} (ht : P.underlying t = some (.slice e)) (he : P.underlying e = some (.int .u8)) (hc : P.cellsOf e = 1)
    (hval : Value.okWide P W r b0 t v) (hd : DataW.Trod enc P W 0 (fun _ => true) held t v d ps) :
    ∃ (p : Option Addr) (l : List UInt8) (cap : Nat), v = .slice p l.length cap ∧ l.length ≤ maxLen ∧ Base.BytesArg W p l := by
  obtain ⟨a, len, cap, rfl⟩ := okWide_slice ht hval
  obtain ⟨fuel, hf⟩ := hd
  rcases open_ints ht he hc hf with ⟨hcs, _⟩ | ⟨a', len', cap', zs, hcs, _, hl, hm, hz, hx, hcell, hwz⟩
  · simp [Value.cells] at hcs
    obtain ⟨rfl, rfl, rfl⟩ := hcs
    exact ⟨none, [], 0, rfl, by simp, fun j hj => by simp at hj⟩
  · simp [Value.cells] at hcs
    obtain ⟨rfl, rfl, rfl⟩ := hcs
    simp at hz
    refine ⟨some a', (zs.take len).map (fun n => UInt8.ofNat n.toNat), cap, by simp [hz]; omega, by simp [hz]; omega, fun j hj => ?_⟩
    have hj' : j < len := by simp [hz] at hj; omega
    have hjz : j < zs.length := by omega
    have hx2 := (Prod.mk.inj hx).2
    obtain ⟨b, off, rfl, hc2⟩ := ints_at hcell (by omega)
    have hw := hwz _ (List.getElem_mem hjz)
    have hb := bounds_u8 hw
    refine ⟨b, off, rfl, ?_, ?_⟩
    · exact Base.lt_of_cell (hc2 j hjz)
    · rw [hc2 j hjz]
      simp [List.getD, List.getElem?_eq_getElem hjz]
      omega

/-- A slice of 16 bit numbers that comes in. -/
theorem open_u16s {H : Type} {enc : TypeId × Value → H} {P : Program} {W : World} {r : Reach} {b0 : Nat} {t e : TypeId} {v : Value} {d : DataW H} {ps : List MemPlace} {held : Bool} (ht : P.underlying t = some (.slice e)) (he : P.underlying e = some (.int .u16)) (hc : P.cellsOf e = 1)
    (hval : Value.okWide P W r b0 t v) (hd : DataW.Trod enc P W 0 (fun _ => true) held t v d ps) :
    ∃ (p : Option Addr) (l : List Nat) (cap : Nat), v = .slice p l.length cap ∧ l.length ≤ maxLen ∧ Base.RowArg W p (l.map fun x => .int .u16 ((x : Nat) : Int)) ∧ ∀ x ∈ l, x < 65536 := by
  obtain ⟨a, len, cap, rfl⟩ := okWide_slice ht hval
  obtain ⟨fuel, hf⟩ := hd
  rcases open_ints ht he hc hf with ⟨hcs, _⟩ | ⟨a', len', cap', zs, hcs, _, hl, hm, hz, hx, hcell, hwz⟩
  · simp [Value.cells] at hcs
    obtain ⟨rfl, rfl, rfl⟩ := hcs
    exact ⟨none, [], 0, rfl, by simp, fun j hj => by simp at hj, fun x hx => by simp at hx⟩
  · simp [Value.cells] at hcs
    obtain ⟨rfl, rfl, rfl⟩ := hcs
    simp at hz
    refine ⟨some a', (zs.take len).map Int.toNat, cap, by simp [hz]; omega, by simp [hz]; omega, fun j hj => ?_, fun x hx => ?_⟩
    · have hj' : j < len := by simp [hz] at hj; omega
      have hjz : j < zs.length := by omega
      obtain ⟨b, off, rfl, hc2⟩ := ints_at hcell (by omega)
      have hb := bounds_u16 (hwz _ (List.getElem_mem hjz))
      refine ⟨b, off, rfl, Base.lt_of_cell (hc2 j hjz), ?_⟩
      rw [hc2 j hjz]
      simp [List.getD, List.getElem?_eq_getElem hjz]
      omega
    · obtain ⟨y, hy, rfl⟩ := List.mem_map.1 hx
      have hb := bounds_u16 (hwz _ (List.mem_of_mem_take hy))
      omega

/-- A slice of strings that comes in: its texts, and that each is weighed. -/
theorem open_strs {H : Type} {enc : TypeId × Value → H} {P : Program} {W : World} {r : Reach} {b0 : Nat} {t e : TypeId} {v : Value} {d : DataW H} {ps : List MemPlace} {held : Bool} (ht : P.underlying t = some (.slice e)) (he : P.underlying e = some .string) (hc : P.cellsOf e = 1)
    (hval : Value.okWide P W r b0 t v) (hd : DataW.Trod enc P W 0 (fun _ => true) held t v d ps) :
    ∃ (p : Option Addr) (l : List (List UInt8)) (cap : Nat), v = .slice p l.length cap ∧ l.length ≤ maxLen ∧ l.length ≤ cap ∧ Base.RowArg W p (l.map fun x => .string (Base.B x)) ∧ ∀ x ∈ l, x.length ∈ DataW.weights P t d := by
  obtain ⟨a, len, cap, rfl⟩ := okWide_slice ht hval
  obtain ⟨fuel, hf⟩ := hd
  rcases Go.ChangeShapes.open_strings ht he hc hf with ⟨hcs, _⟩ | ⟨a', len', cap', ss, hcs, _, hl, hm, hz, hx, hcell, hws⟩
  · simp [Value.cells] at hcs
    obtain ⟨rfl, rfl, rfl⟩ := hcs
    exact ⟨none, [], 0, rfl, by simp, by simp, fun j hj => by simp at hj, fun x hx => by simp at hx⟩
  · simp [Value.cells] at hcs
    obtain ⟨rfl, rfl, rfl⟩ := hcs
    simp at hz
    have hlen : ((ss.take len).map fun s => s.data.toList).length = len := by simp [hz]; omega
    refine ⟨some a', (ss.take len).map fun s => s.data.toList, cap, by rw [hlen], by rw [hlen]; omega, by rw [hlen]; exact hl, fun j hj => ?_, fun x hx2 => ?_⟩
    · have hj' : j < len := by rw [List.length_map, hlen] at hj; exact hj
      have hjz : j < ss.length := by omega
      have h0 := hcell j hjz
      obtain ⟨b, off, spot⟩ := a'
      have hspot : spot = none := by simpa [Addr.add] using World.cell?_spot (hcell 0 (by omega))
      subst hspot
      have hadd : (⟨b, off, none⟩ : Addr).add j = ⟨b, off + j, none⟩ := by unfold Addr.add; split <;> simp_all
      rw [hadd] at h0
      refine ⟨b, off, rfl, Base.lt_of_cell h0, ?_⟩
      rw [h0]
      simp [List.getD, List.getElem?_eq_getElem hjz]
      rfl
    · obtain ⟨s, hs, rfl⟩ := List.mem_map.1 hx2
      have hd2 := (Prod.mk.inj hx).1
      subst hd2
      simp only [DataW.weights, ht, List.mem_cons, List.mem_append]
      refine .inr (.inl ?_)
      have key : ∀ (q : List ByteArray), s ∈ q → s.data.toList.length ∈ DataW.weightsAll P e (Go.ChangeShapes.strs (H := H) q) := by
        intro q
        induction q with
        | nil => intro h; simp at h
        | cons y q ih =>
          intro h
          simp only [Go.ChangeShapes.strs, List.map_cons, DataW.weightsAll, List.mem_append]
          rcases List.mem_cons.1 h with h | h
          · subst h; exact .inl (by simp [DataW.weights])
          · exact .inr (ih h)
      exact key _ hs
end Go.Proofs.YtpiaplgbpjgjiaaGreatDoor.Front
