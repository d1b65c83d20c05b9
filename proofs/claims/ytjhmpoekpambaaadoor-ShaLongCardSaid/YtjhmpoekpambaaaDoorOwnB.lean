/-
  A slice of bytes that the call made itself, also by a conversion of a string: what it holds, and append onto it.
-/
import Derived.Test.YtjhmpoekpambaaaDoorKept
import Derived.Maps.AppendAt
import Derived.Lib.LazyBuf
open Go Go.RowKit
namespace Go.Proofs.YtjhmpoekpambaaaDoor.Base

theorem cells_set2 {b m : Nat} : ∀ (vs : List Value) (o : Nat) {w : World} {f : Nat → Value}, CellsAt w b m f → o + vs.length ≤ m → CellsAt (w.setCells b o vs) b m fun j => if o ≤ j ∧ j < o + vs.length then vs.getD (j - o) (.bool false) else f j
  | [], o, w, f, h, _ => h.congr fun j hj => by rw [if_neg (by simp)]
  | v :: r, o, w, f, h, hm => by
    have h1 := cells_set2 r (o + 1) (h.set (i := o) (by simp at hm; omega) v) (by simp at hm; omega)
    refine CellsAt.congr h1 fun j hj => ?_
    simp only [List.length_cons]
    by_cases hjo : j = o
    · subst hjo
      rw [if_neg (by omega), if_pos rfl, if_pos (by omega), Nat.sub_self]
      rfl
    · by_cases hin : o ≤ j ∧ j < o + (r.length + 1)
      · rw [if_pos (by omega), if_pos hin, show j - o = (j - (o + 1)) + 1 by omega]
        rfl
      · rw [if_neg (by omega), if_neg hjo, if_neg hin]
theorem below_sets {B b : Nat} (hb : B ≤ b) : ∀ (vs : List Value) (o : Nat) {a w : World}, Below B a w → Below B a (w.setCells b o vs)
  | [], _, _, _, h => h
  | v :: r, o, _, _, h => below_sets hb r (o + 1) (h.setCell (p := ⟨b, o, none⟩) hb v)
theorem size_sets {b : Nat} : ∀ (vs : List Value) (o : Nat) {w : World}, (w.setCells b o vs).heap.size = w.heap.size
  | [], _, _ => rfl
  | v :: r, o, w => by show (World.setCells _ b (o + 1) r).heap.size = _; rw [size_sets r (o + 1), set_size]
def byteV (l : List UInt8) : List Value := l.map fun x => Value.int .u8 (x.toNat : Int)
theorem byteV_length (l : List UInt8) : (byteV l).length = l.length := List.length_map ..
/-- A slice that owns the bytes l, in a block from base on. -/
def OwnB (w : World) (base : Nat) (v : Value) (l : List UInt8) : Prop :=
  ∃ (g cap : Nat) (f : Nat → Value), v = .slice (some ⟨g, 0, none⟩) l.length cap ∧ base ≤ g ∧ g < w.heap.size ∧ l.length ≤ cap ∧ cap ≤ maxLen ∧ CellsAt w g cap f ∧ ∀ (j : Nat) (h : j < l.length), f j = .int .u8 (l[j].toNat : Int)
theorem OwnB.below {w w' : World} {base : Nat} {v : Value} {l : List UInt8} (h : OwnB w base v l) (hb : Below w.heap.size w w') : OwnB w' base v l := by
  obtain ⟨g, cap, f, h1, h2, h3, h4, h5, h6, h7⟩ := h
  exact ⟨g, cap, f, h1, h2, Nat.lt_of_lt_of_le h3 hb.size, h4, h5, h6.below hb h3, h7⟩
theorem OwnB.lower {w : World} {base base' : Nat} {v : Value} {l : List UInt8} (h : OwnB w base v l) (hb : base' ≤ base) : OwnB w base' v l := by
  obtain ⟨g, cap, f, h1, h2, r⟩ := h
  exact ⟨g, cap, f, h1, Nat.le_trans hb h2, r⟩
theorem OwnB.form {w : World} {base : Nat} {v : Value} {l : List UInt8} (h : OwnB w base v l) : ∃ g cap, v = .slice (some ⟨g, 0, none⟩) l.length cap ∧ base ≤ g ∧ g < w.heap.size ∧ l.length ≤ cap ∧ cap ≤ maxLen ∧ BytesAt w g l := by
  obtain ⟨g, cap, f, h1, h2, h3, h4, h5, h6, h7⟩ := h
  exact ⟨g, cap, h1, h2, h3, h4, h5, fun j hj => by have := h6 j (by omega); rw [h7 j hj] at this; exact this⟩
/-- '[]byte(s)'. -/
theorem ownB_conv {P : Program} (w : World) (src dst e : TypeId) (s : ByteArray) (hs : P.underlying src = some .string) (hd : P.underlying dst = some (.slice e)) (he : P.underlying e = some (.int .u8)) (hlen : s.size ≤ maxLen) :
    ∃ (k : Nat) (w1 : World), (convert src dst (.string s)).run P w = .ok (.slice (some ⟨w.heap.size, 0, none⟩) s.size k) w1 ∧ OwnB w1 w.heap.size (.slice (some ⟨w.heap.size, 0, none⟩) s.size k) s.data.toList ∧ Below w.heap.size w w1 ∧ w1.heap.size = w.heap.size + 1 := by
  have hge : s.size ≤ grownCap w s.size 0 e := grownCap_ge _ _ _ _
  have hrs : (bytesRow s (grownCap w s.size 0 e)).size = grownCap w s.size 0 e := by
    unfold bytesRow
    rw [Array.size_append, Array.size_map, Array.size_replicate]
    show s.size + _ = _
    omega
  refine ⟨_, _, run_bytes_of_string w src dst e s hs hd he, ⟨w.heap.size, _, fun j => (bytesRow s (grownCap w s.size 0 e))[j]!, ?_, Nat.le_refl _, by simp, by simpa using hge, grownCap_le_maxLen _ _ _ _ hlen, fun j hj => ⟨?_, ?_⟩, fun j hj => ?_⟩, (Below.refl _ _).drew.alloc (Nat.le_refl _) _, by simp⟩
  · have : s.data.toList.length = s.size := by simp
    rw [this]
  · have := World.cell?_alloc_mark w.drew (bytesRow s (grownCap w s.size 0 e)) e ((bytesRow s (grownCap w s.size 0 e)).size, (bytesRow s (grownCap w s.size 0 e)).size + 1) j
    rw [show (World.drew w).heap.size = w.heap.size from rfl] at this
    rw [this]
    simp [hrs, hj]
  · have := World.frozen?_alloc_mark w.drew (bytesRow s (grownCap w s.size 0 e)) e (bytesRow s (grownCap w s.size 0 e)).size ((bytesRow s (grownCap w s.size 0 e)).size + 1) j
    rw [show (World.drew w).heap.size = w.heap.size from rfl] at this
    rw [this, hrs]
    simp; omega
  · have hr := bytesRow_at s (grownCap w s.size 0 e) j (by simpa using hj)
    show (bytesRow s (grownCap w s.size 0 e))[j]! = _
    rw [Array.getElem!_eq_getD, Array.getD_eq_getD_getElem?, hr]
    simp
theorem run_append_B {P : Program} (w : World) (base : Nat) (t ty e : TypeId) (i : TypeInfo) (ht : P.underlying t = some (.slice e)) (hi : P.info? e = some i) (hz : i.zero = some (.int .u8 0)) (hsize : i.size = 1) (hby : i.bytes = 1)
    (v : Value) (l : List UInt8) (hown : OwnB w base v l) (a : Nat) (m c : Nat) (news : List UInt8) (hl : news.length = m) (hnews : ∀ (j : Nat) (h : j < m), w.cell? ⟨a, j, none⟩ = some (.int .u8 (news[j].toNat : Int)))
    (hlen : l.length + m ≤ 140737488355328) (hbase : base ≤ w.heap.size) :
    ∃ v' w', (Builtin.append_ #[t, t] ty #[v, .slice (some ⟨a, 0, none⟩) m c]).run P w = .ok v' w' ∧ OwnB w' base v' (l ++ news) ∧ Below base w w' := by
  subst hl
  obtain ⟨g, cap, f, rfl, h2, h3, h4, h5, h6, h7⟩ := hown
  have hnv : ∀ (j : Nat) (u : Value), (byteV news)[j]? = some u → w.cell? ((⟨a, 0, none⟩ : Addr).add j) = some u := fun j u hj => by
    unfold byteV at hj
    rw [List.getElem?_map, Option.map_eq_some_iff] at hj
    obtain ⟨x, hx, rfl⟩ := hj
    obtain ⟨hjl, rfl⟩ := List.getElem?_eq_some_iff.1 hx
    have : (⟨a, 0, none⟩ : Addr).add j = ⟨a, j, none⟩ := by unfold Addr.add; split <;> simp_all
    rw [this]
    exact hnews j hjl
  have hone : ∀ u ∈ byteV news, u.oneCell' = true := fun u hu => by
    obtain ⟨x, _, rfl⟩ := List.mem_map.1 hu
    rfl
  by_cases hroom : l.length + news.length ≤ cap
  · have hf := run_firstCells_some (P := P) w i.size news.length ⟨a, 0, none⟩ news.length c (byteV news) (by rw [hsize, Nat.mul_one, byteV_length]) hnv
    have hst := run_storeCells_cells (P := P) g l.length (byteV news) 0 w (fun j hj => by rw [byteV_length] at hj; rw [Nat.add_zero, (h6 (l.length + j) (by omega)).1]; rfl) (fun j hj => by rw [byteV_length] at hj; rw [Nat.add_zero]; exact (h6 (l.length + j) (by omega)).2) hone
    simp only [Nat.add_zero] at hst
    rw [hsize] at hf
    refine ⟨.slice (some ⟨g, 0, none⟩) (l.length + news.length) cap, w.setCells g l.length (byteV news), ?_, ⟨g, cap, _, by rw [List.length_append], h2, by rw [size_sets]; exact h3, by rw [List.length_append]; exact hroom, h5, cells_set2 (byteV news) l.length h6 (by rw [byteV_length]; exact hroom), fun j hj => ?_⟩, below_sets h2 _ _ (Below.refl _ _)⟩
    · simp [Builtin.append_, run_underlying ht, sizeOf, typeInfo, hi, Builtin.lenOf, hroom, hf, Addr.add_lit, hst, hsize]
    · rw [byteV_length]
      rw [List.length_append] at hj
      by_cases hlt : j < l.length
      · rw [if_neg (by omega), h7 j hlt, List.getElem_append_left hlt]
      · rw [if_pos (by omega), List.getElem_append_right (by omega)]
        have : j - l.length < news.length := by omega
        simp [byteV, this]
  · have hmax : maxLen = 9223372036854775807 := rfl
    have hr := run_append_grow (P := P) w t ty e i (.int .u8 0) ht hi hz ⟨g, 0, none⟩ l.length cap (byteV l) (by rw [hsize, Nat.mul_one, byteV_length]) (fun j u hj => by
      unfold byteV at hj
      rw [List.getElem?_map, Option.map_eq_some_iff] at hj
      obtain ⟨x, hx, rfl⟩ := hj
      obtain ⟨hjl, rfl⟩ := List.getElem?_eq_some_iff.1 hx
      have : (⟨g, 0, none⟩ : Addr).add j = ⟨g, j, none⟩ := by unfold Addr.add; split <;> simp_all
      rw [this, (h6 j (by omega)).1, h7 j hjl]) ⟨a, 0, none⟩ news.length c (byteV news) (by rw [hsize, Nat.mul_one, byteV_length]) hnv (by omega) (by omega)
      (growslice_fits (by omega) (by rw [hby]; omega))
    have hge := grownCap_ge w (l.length + news.length) cap e
    have hcm := grownCap_le_maxLen w (l.length + news.length) cap e (by omega)
    refine ⟨_, _, hr, ⟨w.heap.size, grownCap w (l.length + news.length) cap e, fun j => ((byteV l).toArray ++ (byteV news).toArray ++ Builtin.zeroCells (Value.int IntKind.u8 0).cells (grownCap w (l.length + news.length) cap e - (l.length + news.length)))[j]!, by rw [List.length_append], hbase, by simp, by rw [List.length_append]; exact hge, hcm, ?_, fun j hj => ?_⟩, ((Below.refl _ _).drew.alloc (by simpa using hbase) _)⟩
    · have h := cells_made w.drew ((byteV l).toArray ++ (byteV news).toArray ++ Builtin.zeroCells (Value.int IntKind.u8 0).cells (grownCap w (l.length + news.length) cap e - (l.length + news.length))) e
      have hs : ((byteV l).toArray ++ (byteV news).toArray ++ Builtin.zeroCells (Value.int IntKind.u8 0).cells (grownCap w (l.length + news.length) cap e - (l.length + news.length))).size = grownCap w (l.length + news.length) cap e := by
        rw [Array.size_append, Array.size_append, List.size_toArray, List.size_toArray, byteV_length, byteV_length, size_zeroCells]
        simp [Value.cells]
        omega
      rw [hs] at h
      exact h
    · rw [List.length_append] at hj
      by_cases hlt : j < l.length
      · rw [List.getElem_append_left hlt]
        have h1 : ((byteV l).toArray ++ (byteV news).toArray ++ Builtin.zeroCells (Value.int IntKind.u8 0).cells (grownCap w (l.length + news.length) cap e - (l.length + news.length)))[j]? = some (.int .u8 (l[j].toNat : Int)) := by
          rw [Array.append_assoc, Array.getElem?_append_left (by simp [byteV_length, hlt])]
          simp [byteV, hlt]
        dsimp only
        rw [Array.getElem!_eq_getD, Array.getD_eq_getD_getElem?, h1]
        rfl
      · rw [List.getElem_append_right (by omega)]
        have h1 : ((byteV l).toArray ++ (byteV news).toArray ++ Builtin.zeroCells (Value.int IntKind.u8 0).cells (grownCap w (l.length + news.length) cap e - (l.length + news.length)))[j]? = some (.int .u8 (news[j - l.length].toNat : Int)) := by
          rw [Array.getElem?_append_left (by simp [byteV_length]; omega), Array.getElem?_append_right (by simp [byteV_length]; omega)]
          have : j - l.length < news.length := by omega
          simp [byteV, this]
        dsimp only
        rw [Array.getElem!_eq_getD, Array.getD_eq_getD_getElem?, h1]
        rfl
/-- The same at the walk's operation. -/
theorem wpList_append_B {P : Program} {w : World} {ops : Array Oper} {rest : List Oper} {o : Oper} {a : Act} {Q : Exit → Act → World → Prop} (hgd : o.guard = none) (s x : Operand) (t : TypeId)
    (ho : o.op = .call { callee := .builtin .append, args := #[s, x], argTypes := #[t, t] })
    (base : Nat) (e : TypeId) (i : TypeInfo) (ht : P.underlying t = some (.slice e)) (hi : P.info? e = some i) (hz : i.zero = some (.int .u8 0)) (hsize : i.size = 1) (hby : i.bytes = 1)
    (v : Value) (l : List UInt8) (hs : a.eval s = v) (hown : OwnB w base v l)
    (ad : Nat) (m c : Nat) (news : List UInt8) (hx : a.eval x = .slice (some ⟨ad, 0, none⟩) m c) (hl : news.length = m) (hnews : ∀ (j : Nat) (h : j < m), w.cell? ⟨ad, j, none⟩ = some (.int .u8 (news[j].toNat : Int)))
    (hlen : l.length + m ≤ 140737488355328) (hbase : base ≤ w.heap.size)
    (h : ∀ v' w', OwnB w' base v' (l ++ news) → Below base w w' → wpList P ops Q rest (a.put o.dst v') w') :
    wpList P ops Q (o :: rest) a w := by
  refine wpList_plain hgd fun K hK => ?_
  obtain ⟨v', w', hr, h2, h3⟩ := run_append_B (P := P) w base t o.type e i ht hi hz hsize hby v l hown ad m c news hl hnews hlen hbase
  unfold Oper.wp execOp
  simp only [ho, resolve, invoke, builtin, Sem.run_bind, Sem.run_pure, Result.andThen_ok, List.map_toArray, List.map_cons, List.map_nil, hs, hx, hr]
  exact hK _ _ (h v' w' h2 h3)
end Go.Proofs.YtjhmpoekpambaaaDoor.Base
