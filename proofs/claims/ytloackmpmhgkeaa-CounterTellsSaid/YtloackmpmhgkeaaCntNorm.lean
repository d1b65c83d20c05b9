/-
  Sums (layer 12): their keys, and their value as a sum over the keys. No program in sight.
-/
import Derived.Test.YtloackmpmhgkeaaCntPut
open Go Go.RowKit
namespace Go.Proofs.Ytloackmpmhgkeaa.Cnt
open Base Mp

def keyL : Lit → Key
  | .string f => f
  | _ => []
def keysE (es : Ent) : List Key := es.map fun p => keyL p.1
theorem keysE_nodup {es : Ent} (hs : StrKeys es) (hn : es.Pairwise fun p q => p.1 ≠ q.1) : (keysE es).Nodup := by
  unfold keysE List.Nodup
  rw [List.pairwise_map]
  refine hn.imp_of_mem fun {p q} hp hq h e => h ?_
  obtain ⟨k, hk, -⟩ := hs p hp
  obtain ⟨l, hl, -⟩ := hs q hq
  rw [hk, hl] at e ⊢
  simp only [keyL, keyS] at e ⊢
  rw [e]
theorem mem_keysE {es : Ent} (k : Key) (h : fnE es k ≠ (0, 0)) : k ∈ keysE es := by
  unfold fnE getE at h
  cases hl : lookL es (keyS k) with
  | none => rw [hl] at h; exact absurd rfl h
  | some v => exact List.mem_map.2 ⟨_, mem_of_look hl, rfl⟩
theorem fnE_mem {es : Ent} (hn : es.Pairwise fun p q => p.1 ≠ q.1) (k : Key) (v : Nat × Nat) (h : (keyS k, v) ∈ es) : fnE es k = v := by
  unfold fnE getE
  rw [look_of_mem hn (isKey k) h]; rfl
theorem allV_vSum {es : Ent} (hs : StrKeys es) (hn : es.Pairwise fun p q => p.1 ≠ q.1) : allV es = vSum (keysE es) (fnE es) := by
  unfold allV vSum keysE
  rw [List.map_map]
  congr 1
  refine List.map_congr_left fun p hp => ?_
  obtain ⟨k, hk, -⟩ := hs p hp
  obtain ⟨q, v⟩ := p
  simp only at hk
  subst hk
  simp only [Function.comp, keyL, keyS]
  have := fnE_mem hn k v hp
  unfold term trm
  rw [this]
end Go.Proofs.Ytloackmpmhgkeaa.Cnt
