/-
  A session in memory (layer 28), and the small walks: New, there, may, Len.
-/
import Derived.Test.YtejheedekiojnaaSessCut
import Derived.BigQuiet
open Go Go.RowKit
namespace Go.Proofs.Ytejheedekiojnaa.Sess
open Base Mp

/-- All that was there, but the blocks of T, is as it was. -/
structure Kept (T : Nat → Prop) (w w' : World) : Prop where
  os : w'.os = w.os
  tape : w'.tape = w.tape
  output : w'.output = w.output
  size : w.heap.size ≤ w'.heap.size
  block : ∀ k, k < w.heap.size → ¬ T k → w'.heap[k]? = w.heap[k]?
theorem Kept.refl (T : Nat → Prop) (w : World) : Kept T w w := ⟨rfl, rfl, rfl, Nat.le_refl _, fun _ _ _ => rfl⟩
theorem Kept.trans {T T' : Nat → Prop} {a b c : World} (h : Kept T a b) (k : Kept T' b c) (hT : ∀ i, T' i → T i ∨ a.heap.size ≤ i) : Kept T a c :=
  ⟨k.os.trans h.os, k.tape.trans h.tape, k.output.trans h.output, Nat.le_trans h.size k.size, fun i hi hn => by
    rw [k.block i (Nat.lt_of_lt_of_le hi h.size) (fun ht => (hT i ht).elim hn (fun h2 => by omega)), h.block i hi hn]⟩
theorem Kept.mono {T T' : Nat → Prop} {a b : World} (h : Kept T a b) (hT : ∀ i, T i → T' i) : Kept T' a b := ⟨h.os, h.tape, h.output, h.size, fun i hi hn => h.block i hi (fun ht => hn (hT i ht))⟩
theorem Kept.below {T : Nat → Prop} {a b : World} (h : Kept T a b) {K : Nat} (hT : ∀ i, T i → K ≤ i) (hK : K ≤ a.heap.size) : Below K a b :=
  ⟨h.os, h.tape, h.output, h.size, fun i hi => h.block i (by omega) (fun ht => by have := hT i ht; omega)⟩
theorem Kept.of_below {T : Nat → Prop} {a b : World} (h : Below a.heap.size a b) : Kept T a b := ⟨h.os, h.tape, h.output, h.size, fun i hi _ => h.block i hi⟩
theorem Kept.setCell {T : Nat → Prop} {a w : World} (h : Kept T a w) {p : Addr} (hp : T p.block ∨ a.heap.size ≤ p.block) (u : Value) : Kept T a (w.setCell p u) :=
  ⟨h.os, h.tape, h.output, by have := ((Below.refl 0 w).setCell (p := p) (Nat.zero_le _) u).size; exact Nat.le_trans h.size this, fun i hi hn => by
    rw [Below.heap_setCell w p u i (by rintro rfl; rcases hp with hp | hp; exact hn hp; omega), h.block i hi hn]⟩
theorem Kept.turned {T : Nat → Prop} {a w w' : World} {b : Nat} (h : Kept T a w) (ht : w.mapTurned w' b) (hb : T b ∨ a.heap.size ≤ b) : Kept T a w' := by
  have hg := ht.grown
  have h0 : Below 0 w w' := (Below.refl 0 w).grown hg (Nat.zero_le _) (fun _ _ => Nat.zero_le _)
  refine ⟨h0.os.trans h.os, h0.tape.trans h.tape, h0.output.trans h.output, Nat.le_trans h.size h0.size, fun i hi hn => ?_⟩
  rw [hg.block i (Nat.lt_of_lt_of_le hi h.size) (by intro e; injection e with e; subst e; rcases hb with hb | hb; exact hn hb; omega), h.block i hi hn]
theorem _root_.Go.Proofs.Ytejheedekiojnaa.Base.CellsAt.kept {T : Nat → Prop} {w w' : World} {b m : Nat} {f : Nat → Value} (h : CellsAt w b m f) (hk : Kept T w w') (hb : b < w.heap.size) (hT : ¬ T b) : CellsAt w' b m f := fun j hj => by
  obtain ⟨h1, h2⟩ := h j hj
  have hh := hk.block b hb hT
  exact ⟨(World.cell?_of_block (a := ⟨b, j, none⟩) hh).trans h1, (World.frozen?_of_block (a := ⟨b, j, none⟩) hh).trans h2⟩
theorem _root_.Go.Proofs.Ytejheedekiojnaa.Base.CellsAt.lt {w : World} {b m : Nat} {f : Nat → Value} (h : CellsAt w b m f) (hm : 0 < m) : b < w.heap.size := lt_of_cell (h 0 hm).1
theorem _root_.Go.Proofs.Ytejheedekiojnaa.Mp.MapL.kept' {P : Program} {k : TypeId} {T : Nat → Prop} {w w' : World} {b : Nat} {es : List (Lit × Value)} (h : MapL P k w b es) (hk : Kept T w w') (hT : ¬ T b) : MapL P k w' b es := by
  have hlt := h.lt
  obtain ⟨xs, clock, hh, r⟩ := h
  exact ⟨xs, clock, (hk.block b hlt hT).trans hh, r⟩

def pieceCell (ps : List (Option (List UInt8))) (j : Nat) : Value := if j % 2 = 0 then .bool (ps[j / 2]?.getD none).isSome else .string (B ((ps[j / 2]?.getD none).getD []))
def headCell (b : Nat) (H : Held) : Nat → Value
  | 0 => .int .u64 (H.id : Int)
  | 1 => .slice (some ⟨b, 0, none⟩) H.ps.length H.ps.length
  | 2 => .int .i64 (came H : Nat)
  | _ => .int .i64 (bytes H : Nat)
/-- What a sender holds, in memory: the pieces in block b, the rest in the next. -/
structure HeldAt (w : World) (b : Nat) (H : Held) : Prop where
  body : CellsAt w b (H.ps.length * 2) (pieceCell H.ps)
  head : CellsAt w (b + 1) 4 (headCell b H)
theorem HeldAt.kept {T : Nat → Prop} {w w' : World} {b : Nat} {H : Held} (h : HeldAt w b H) (hk : Kept T w w') (h0 : ¬ T b) (h1 : ¬ T (b + 1)) : HeldAt w' b H := by
  have hlt := h.head.lt (by omega)
  exact ⟨h.body.kept hk (by omega) h0, h.head.kept hk hlt h1⟩
theorem keyedS : Maps.Keyed Try.prog 9 := Maps.string_keyed Try.underlying9
def ptr (b : Nat) : Value := .pointer (some ⟨b, 0, none⟩)
/-- A session: the map in block b, the head in the next one, what is held in others; all its blocks are of T. -/
structure SessBy (blk : Lit → Nat) (w : World) (b : Nat) (S : St) (T : Nat → Prop) : Prop where
  head : CellsAt w (b + 1) 1 (fun _ => .map (some b))
  map : MapL Try.prog 9 w b (mapE (fun k _ => ptr (blk k + 1)) S)
  held : ∀ p ∈ S, HeldAt w (blk p.1) p.2 ∧ Fine p.2 ∧ T (blk p.1) ∧ T (blk p.1 + 1) ∧ b + 1 < blk p.1
  apart : ∀ p ∈ S, ∀ q ∈ S, p.1 ≠ q.1 → blk p.1 + 1 < blk q.1 ∨ blk q.1 + 1 < blk p.1
  few : S.length ≤ 32
  mine0 : T b
  mine1 : T (b + 1)
  old : ∀ i, T i → i < w.heap.size
def SessAt (w : World) (b : Nat) (S : St) (T : Nat → Prop) : Prop := ∃ blk, SessBy blk w b S T
section
variable {blk : Lit → Nat} {w w' : World} {b : Nat} {S : St} {T T' : Nat → Prop}
theorem SessBy.next (h : SessBy blk w b S T) (hk : Kept (fun i => ¬ T i) w w') (hT : ∀ i, T i → T' i) (hT' : ∀ i, T' i → i < w'.heap.size) : SessBy blk w' b S T' :=
  ⟨h.head.kept hk (h.old _ h.mine1) (fun n => n h.mine1), h.map.kept' hk (fun n => n h.mine0), fun p hp => by
    obtain ⟨h1, h2, h3, h4, h5⟩ := h.held p hp
    exact ⟨h1.kept hk (fun n => n h3) (fun n => n h4), h2, hT _ h3, hT _ h4, h5⟩, h.apart, h.few, hT _ h.mine0, hT _ h.mine1, hT'⟩
theorem SessBy.later (h : SessBy blk w b S T) (hb : Below w.heap.size w w') : SessBy blk w' b S T := h.next (Kept.of_below hb) (fun _ h => h) (fun i hi => Nat.lt_of_lt_of_le (h.old i hi) hb.size)
theorem SessBy.drew (h : SessBy blk w b S T) : SessBy blk w.drew b S T := h.later ((Below.refl _ w).drew)
theorem SessBy.keys (h : SessBy blk w b S T) : S.Pairwise fun p q => p.1 ≠ q.1 := by
  have := (h.map.keys keyedS).1
  unfold mapE at this
  rw [List.pairwise_map] at this
  exact this
theorem SessBy.dropped (h : SessBy blk w b S T) {k : Lit} (hm : MapL Try.prog 9 w' b (delL (mapE (fun k _ => ptr (blk k + 1)) S) k)) (ht : w.mapTurned w' b) : SessBy blk w' b (delL S k) T := by
  have hk : Kept (fun i => i = b) w w' := (Kept.refl _ w).turned ht (.inl rfl)
  rw [mapE_del] at hm
  refine ⟨h.head.kept hk (h.old _ h.mine1) (by omega), hm, fun p hp => ?_, fun p hp q hq => h.apart p (mem_del hp).1 q (mem_del hq).1, Nat.le_trans (del_le _ _) h.few, h.mine0, h.mine1, fun i hi => Nat.lt_of_lt_of_le (h.old i hi) hk.size⟩
  obtain ⟨h1, h2, h3, h4, h5⟩ := h.held p (mem_del hp).1
  exact ⟨h1.kept hk (by omega) (by omega), h2, h3, h4, h5⟩
theorem SessBy.changed (h : SessBy blk w b S T) {k : Lit} {H H' : Held} (hl : lookL S k = some H) (hk : Kept (fun i => i = blk k ∨ i = blk k + 1) w w') (hh : HeldAt w' (blk k) H') (hf : Fine H') : SessBy blk w' b (setL S k H') T := by
  have hm := mem_of_look hl
  obtain ⟨_, _, g3, g4, g5⟩ := h.held _ hm
  refine ⟨h.head.kept hk (h.old _ h.mine1) (by simp only at g5; omega), ?_, fun p hp => ?_, ?_, by rw [Mp.set_length]; exact h.few, h.mine0, h.mine1, fun i hi => Nat.lt_of_lt_of_le (h.old i hi) hk.size⟩
  · rw [mapE_set (fun q => ptr (blk q + 1))]
    exact h.map.kept' hk (by simp only at g5; omega)
  · rcases mem_set hp with ⟨hp, hs⟩ | ⟨e1, e2⟩
    · obtain ⟨h1, h2, h3, h4, h5⟩ := h.held p hp
      have hne : p.1 ≠ k := by
        intro e
        rw [e, WideAt.sameKey_self ((h.map.keys keyedS).2 (k, ptr (blk k + 1)) (List.mem_map.2 ⟨_, hm, rfl⟩))] at hs
        cases hs
      have ha := h.apart p hp _ hm hne
      simp only at ha
      exact ⟨h1.kept hk (by omega) (by omega), h2, h3, h4, h5⟩
    · rw [e1, e2]
      exact ⟨hh, hf, g3, g4, g5⟩
  · intro p hp q hq hne
    have key : ∀ p ∈ setL S k H', ∃ p' ∈ S, p'.1 = p.1 := by
      intro p hp
      rcases mem_set hp with ⟨hp, _⟩ | ⟨e1, _⟩
      · exact ⟨p, hp, rfl⟩
      · exact ⟨_, hm, e1.symm⟩
    obtain ⟨p', hp', e1⟩ := key p hp
    obtain ⟨q', hq', e2⟩ := key q hq
    rw [← e1, ← e2] at hne ⊢
    exact h.apart p' hp' q' hq' hne
theorem SessBy.stored (h : SessBy blk w b S T) {k : Lit} {H : Held} {c : Nat} (hm : MapL Try.prog 9 w' b (putL (mapE (fun k _ => ptr (blk k + 1)) S) k (ptr (c + 1)))) (ht : w.mapTurned w' b)
    (hn : lookL S k = none) (hlen : S.length < 32) (hh : HeldAt w c H) (hf : Fine H) (hc : T c) (hc1 : T (c + 1)) (hbc : b + 1 < c) (hup : ∀ p ∈ S, blk p.1 + 1 < c) :
    SessBy (fun q => if q.sameKey k then c else blk q) w' b (putL S k H) T := by
  have hk : Kept (fun i => i = b) w w' := (Kept.refl _ w).turned ht (.inl rfl)
  have hold : ∀ p ∈ S, p.1.sameKey k = false := by
    intro p hp
    unfold lookL at hn
    rw [Option.map_eq_none_iff, List.find?_eq_none] at hn
    simpa using hn p hp
  have hkk : k.sameKey k = true := by
    have hmem : (k, ptr (c + 1)) ∈ putL (mapE (fun k (_ : Held) => ptr (blk k + 1)) S) k (ptr (c + 1)) := (mem_ins _ _ _).2 (.inl rfl)
    exact WideAt.sameKey_self ((hm.keys keyedS).2 _ hmem)
  refine ⟨h.head.kept hk (h.old _ h.mine1) (by omega), ?_, fun p hp => ?_, ?_, by rw [put_length_new _ _ _ hn]; omega, h.mine0, h.mine1, fun i hi => Nat.lt_of_lt_of_le (h.old i hi) hk.size⟩
  · have he : mapE (fun q (_ : Held) => ptr ((if q.sameKey k then c else blk q) + 1)) S = mapE (fun k (_ : Held) => ptr (blk k + 1)) S := mapE_congr _ _ _ fun p hp => by
      rw [hold p hp]; rfl
    rw [← mapE_put (fun q (_ : Held) => ptr ((if q.sameKey k then c else blk q) + 1)), he, hkk]
    exact hm
  · rcases mem_put hp with rfl | ⟨hp, hs⟩
    · simp only [hkk, if_true]
      exact ⟨hh.kept hk (by omega) (by omega), hf, hc, hc1, hbc⟩
    · simp only [hs, Bool.false_eq_true, if_false]
      obtain ⟨h1, h2, h3, h4, h5⟩ := h.held p hp
      exact ⟨h1.kept hk (by omega) (by omega), h2, h3, h4, h5⟩
  · intro p hp q hq hne
    rcases mem_put hp with rfl | ⟨hp, hs⟩ <;> rcases mem_put hq with rfl | ⟨hq, hs2⟩
    · exact absurd rfl hne
    · simp only [hkk, hs2, if_true, Bool.false_eq_true, if_false]
      exact .inr (hup q hq)
    · simp only [hkk, hs, if_true, Bool.false_eq_true, if_false]
      exact .inl (hup p hp)
    · simp only [hs, hs2, Bool.false_eq_true, if_false]
      exact h.apart p hp q hq hne
end

theorem ul49 : Try.prog.underlying 49 = some (.map 9 53) := by kernel_rfl
theorem infoHead : (Try.prog.info? 51).map (fun i => (i.zero, i.size, i.bytes)) = some (some (.agg #[.map none]), 1, 8) := by kernel_rfl

theorem may_calls (p : PartD) (w : World) (hp : -9223372036854775808 ≤ p.i ∧ p.i ≤ 9223372036854775807) (hn : -9223372036854775808 ≤ p.n ∧ p.n ≤ 9223372036854775807) (ht : p.text.length ≤ maxLen) :
    Calls Try.prog 17 #[partV p] w fun e w' => e = .returned (.bool (may p)) ∧ Below w.heap.size w w' := by
  unfold partV
  obtain ⟨pid, pi, pn, pt⟩ := p
  simp only at hp hn ht ⊢
  unfold maxLen at ht
  go_enter Try.func17, Try.ntmps17
  go_wp2
  all_goals go_ret
  all_goals refine ⟨?_, (Below.refl _ _).alloc (Nat.le_refl _) _⟩
  all_goals first
    | (rw [show may ⟨pid, pi, pn, pt⟩ = false from decide_eq_false (by intro h; simp only at h; omega)]; rfl)
    | (rw [show may ⟨pid, pi, pn, pt⟩ = decide ((pt.length : Int) ≤ 4096) from decide_eq_decide.2 (by simp only; omega)]; rfl)

theorem run_neq_map {P : Program} (w : World) (t k e : TypeId) (a : Option Nat) (h : P.underlying t = some (.map k e)) : (binOp .neq t (.map a) (.map none)).run P w = .ok (.bool (!a.isNone)) w := by
  have hd : ∀ d : Nat, (Op.equalIn (d + 1) t (.map a) (.map none)).run P w = .ok a.isNone w := fun d => by
    cases a <;> simp [Op.equalIn, run_underlying h]
  have he : (Op.equal t (.map a) (.map none)).run P w = .ok a.isNone w := hd 9999
  simp [binOp, he]
theorem there_calls (w : World) (b : Nat) (hc : w.cell? ⟨b + 1, 0, none⟩ = some (.map (some b))) :
    Calls Try.prog 16 #[ptr (b + 1)] w fun e w' => e = .returned (.bool true) ∧ w = w' := by
  unfold ptr
  have hr := run_neq_map (P := Try.prog) w 49 _ _ (some b) ul49
  go_enter Try.func16, Try.ntmps16
  go_wp2
  go_ret
  exact ⟨rfl, rfl⟩
theorem there_nil (w : World) : Calls Try.prog 16 #[.pointer none] w fun e w' => e = .returned (.bool false) ∧ w = w' := by
  go_enter Try.func16, Try.ntmps16
  go_wp2
  go_ret
  exact ⟨rfl, rfl⟩
theorem New_calls (w : World) : Calls Try.prog 10 #[] w fun e w' => e = .returned (ptr (w.heap.size + 1)) ∧ SessAt w' w.heap.size [] (fun i => w.heap.size ≤ i ∧ i < w'.heap.size) ∧ Below w.heap.size w w' := by
  have hr := run_makeMap (P := Try.prog) 49 w
  have hs := alloc_more w (.map #[] 0)
  have hb : Below w.heap.size w (w.alloc (.map #[] 0)) := (Below.refl _ _).alloc (Nat.le_refl _) _
  have hm : MapL Try.prog 9 (w.alloc (.map #[] 0)) w.heap.size [] := Mp.made w _ _
  have HB := Lib.hid hb
  have HM := Lib.hid hm
  go_enter Try.func10, Try.ntmps10
  go_wp2
  go_ret
  clear hr hb hm
  generalize w.alloc (.map #[] 0) = w1 at *
  have hc := cells_made w1 #[.map (some w.heap.size)] 51
  have hb2 : Below w1.heap.size w1 (w1.alloc (.cells #[.map (some w.heap.size)] 51)) := (Below.refl _ _).alloc (Nat.le_refl _) _
  have hs2 := alloc_more w1 (.cells #[.map (some w.heap.size)] 51)
  refine ⟨rfl, ⟨fun _ => 0, ?_, ?_, by simp, by simp, by simp, ⟨Nat.le_refl _, by omega⟩, ⟨by omega, by omega⟩, fun i hi => hi.2⟩, Base.later HB.out hb2⟩
  · rw [← hs]
    exact hc.congr fun j hj => by
      have : j = 0 := by simp at hj; omega
      subst this; rfl
  · exact HM.out.next hb2
theorem Len_calls (w : World) (b : Nat) (S : St) (T : Nat → Prop) (h : SessAt w b S T) :
    Calls Try.prog 12 #[ptr (b + 1)] w fun e w' => e = .returned (.int .i64 (S.length : Nat)) ∧ w = w' := by
  obtain ⟨blk, hs⟩ := h
  have hc := hs.head
  have hm := hs.map
  have hc0 := (hc 0 (by omega)).1
  have hlen := hm.len ul49 3
  rw [mapE_length] at hlen
  have HR := Lib.hid (there_calls w b hc0)
  unfold ptr
  go_enter Try.func12, Try.ntmps12
  go_wp2_with fail
  refine (HR.out).mono ?_
  rintro e w1 ⟨rfl, rfl⟩
  go_wp2
  go_ret
  exact ⟨rfl, rfl⟩
end Go.Proofs.Ytejheedekiojnaa.Sess
