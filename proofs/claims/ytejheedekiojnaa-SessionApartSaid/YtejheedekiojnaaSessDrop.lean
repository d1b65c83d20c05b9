/-
  The walks of Drop (one sender) and of Put and Drop at nil (layer 28).
-/
import Derived.Test.YtejheedekiojnaaSessWorks
open Go Go.RowKit
namespace Go.Proofs.Ytejheedekiojnaa.Sess
open Base Mp

set_option maxHeartbeats 1000000 in
theorem Drop_calls (w : World) (b : Nat) (S : St) (T : Nat → Prop) (f : List UInt8) (c o cap : Nat) (h : SessAt w b S T) (hf : f.length ≤ maxLen) (hcell : w.cell? ⟨c, o, none⟩ = some (.string (B f))) :
    Calls Try.prog 15 #[ptr (b + 1), .slice (some ⟨c, o, none⟩) 1 cap] w fun e w' => e = .returned (.tuple #[]) ∧ SessAt w' b (delL S (keyS f)) T ∧ Kept T w w' := by
  obtain ⟨blk, hs⟩ := h
  have hc : w.cell? ⟨b + 1, 0, none⟩ = some (.map (some b)) := (hs.head 0 (by omega)).1
  have HTH := Lib.hid (there_calls w b hc)
  obtain ⟨w5, hrun5, hm5, ht5⟩ := hs.map.drop keyedS ul49 (keyB f hf) 0
  have hs5 : SessBy blk w5 b (delL S (keyS f)) T := hs.dropped hm5 ht5
  have hk5 : Kept T w w5 := (Kept.refl T w).turned ht5 (.inl hs.mine0)
  have HS5 := Lib.hid hs5
  have HK5 := Lib.hid hk5
  clear hs hm5 ht5 hs5 hk5
  unfold ptr
  go_enter Try.func15, Try.ntmps15
  go_wp2_with fail
  refine HTH.out.mono ?_
  rintro e w1 ⟨rfl, rfl⟩
  clear HTH
  go_wp2
  go_loopw [11] (fun v wr => (v = .int .i64 0 ∧ wr = w) ∨ (v = .int .i64 1 ∧ wr = w5)) (fun v _ => 1 - (intOf v).toNat)
  case atStart => simp
  case round =>
    rcases hrel with ⟨rfl, rfl⟩ | ⟨rfl, rfl⟩
    · go_wp2
      go_roundw
      case rel => exact .inr ⟨by go_num, trivial⟩
      case measure => simp [intOf]
    · go_wp2
      go_end0
      exact ⟨rfl, ⟨blk, HS5.out⟩, HK5.out⟩
theorem Drop_nil (w : World) (v : Value) : Calls Try.prog 15 #[.pointer none, v] w fun e w' => e = .returned (.tuple #[]) ∧ w = w' := by
  go_enter Try.func15, Try.ntmps15
  go_wp2_with fail
  refine (there_nil w).mono ?_
  rintro e w1 ⟨rfl, rfl⟩
  go_wp2
  refine bodyPost_ret (results_none rfl _ _ _) rfl ?_
  exact ⟨rfl, rfl⟩
theorem Put_nil (w : World) (v : Value) (p : PartD) : Calls Try.prog 11 #[.pointer none, v, partV p] w fun e w' => e = .returned (.tuple #[.string ⟨#[]⟩, .bool false, .int .i64 1]) ∧ Below w.heap.size w w' := by
  unfold partV
  have hb : Below w.heap.size w (w.alloc (.cells #[.int .u64 (p.id : Int), .int .i64 p.i, .int .i64 p.n, .string (B p.text)] 32)) := (Below.refl _ _).alloc (Nat.le_refl _) _
  go_enter Try.func11, Try.ntmps11
  go_wp2_with fail
  refine (there_nil _).mono ?_
  rintro e w1 ⟨rfl, rfl⟩
  go_wp2
  go_ret3
  exact ⟨rfl, hb⟩
theorem Drop_solo (w : World) (m : Nat) (S : St) (f : List UInt8) (c o cap : Nat) (h : Solo w m S) (hf : f.length ≤ maxLen) (hcell : w.cell? ⟨c, o, none⟩ = some (.string (B f))) :
    Calls Try.prog 15 #[ptr (m + 1), .slice (some ⟨c, o, none⟩) 1 cap] w fun e w' => e = .returned (.tuple #[]) ∧ Solo w' m (delL S (keyS f)) ∧ Below m w w' := by
  refine (Drop_calls w m S _ f c o cap h hf hcell).mono ?_
  rintro e w' ⟨he, ⟨blk, hs⟩, hk⟩
  have hm : m ≤ w.heap.size := Nat.le_of_lt h.lt
  exact ⟨he, ⟨blk, hs.next (Kept.refl _ _) (fun i hi => ⟨hi.1, Nat.lt_of_lt_of_le hi.2 hk.size⟩) (fun i hi => hi.2)⟩, hk.below (fun i hi => hi.1) hm⟩
end Go.Proofs.Ytejheedekiojnaa.Sess
