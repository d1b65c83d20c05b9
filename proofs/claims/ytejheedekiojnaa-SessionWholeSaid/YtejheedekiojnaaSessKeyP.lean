/-
  A map whose keys are parts (layer 28): the key that a part reads as; and 'm[p]++' on such a map.
-/
import Derived.Test.YtejheedekiojnaaSessMem
import Derived.Test.YtejheedekiojnaaSessWholeM
import Derived.DeepKeys5
import Derived.WideKeyEntry
open Go Go.RowKit
namespace Go.Proofs.Ytejheedekiojnaa.Sess
open Base Mp

theorem laidOut28 : laidOutB Try.prog = true := by kernel_rfl
theorem lawP : WideMaps.KeyLaw Try.prog 32 := deep_law_gate laidOut28 (of_decide_eq_true (by kernel_rfl)) (of_decide_eq_true (by kernel_rfl)) (by kernel_rfl) (by kernel_rfl)
theorem keyedP : Maps.Keyed Try.prog 32 := Maps.Keyed.of_law lawP
def klP (p : PartD) : Lit := .string (keyBytes [.int .u64 (p.id : Int), .int .i64 p.i, .int .i64 p.n, .string p.text])
theorem lits_int {P : Program} {d : Nat} {t : TypeId} {q : IntKind} {n : Int} (hu : P.underlying t = some (.int q)) (hw : (Lit.int q n).wf = true) : P.keyLits (d + 1) t [.int q n] = some [.int q n] := by
  unfold Program.keyLits
  rw [hu]
  simp [hw]
theorem lits_string {P : Program} {d : Nat} {t : TypeId} {f : List UInt8} (hu : P.underlying t = some .string) (hw : f.length ≤ maxLen) : P.keyLits (d + 1) t [.string (B f)] = some [.string f] := by
  unfold Program.keyLits
  rw [hu]
  simp [B_size, B_data, hw]
theorem cellsPart : Try.prog.cellsOf 32 = 4 := by kernel_rfl
theorem cellsStr' : Try.prog.cellsOf 9 = 1 := by kernel_rfl
theorem cellsInt' : Try.prog.cellsOf 3 = 1 := by kernel_rfl
theorem cellsU64' : Try.prog.cellsOf 30 = 1 := by kernel_rfl
theorem keyP (p : PartD) (h1 : p.id < 18446744073709551616) (h2 : -9223372036854775808 ≤ p.i ∧ p.i ≤ 9223372036854775807) (h3 : -9223372036854775808 ≤ p.n ∧ p.n ≤ 9223372036854775807) (h4 : p.text.length ≤ maxLen) :
    keyOf Try.prog 32 (partV p) = some (klP p) := by
  have hk : Try.prog.keyType 32 = true := by kernel_rfl
  have hf : Value.formed Try.prog 32 (partV p) = true := by
    unfold Value.formed partV
    rw [Try.underlying32, cellsPart]
    rfl
  obtain ⟨m, hm⟩ : ∃ m, Try.prog.types.size = m + 1 := ⟨Try.prog.types.size - 1, by have : 0 < Try.prog.types.size := of_decide_eq_true (by kernel_rfl); omega⟩
  have l0 := lits_int (P := Try.prog) (d := m) (n := (p.id : Int)) Try.underlying30 (WalkArith.wf_u64 (by omega))
  have l1 := lits_int (P := Try.prog) (d := m) (n := p.i) Try.underlying3 (WalkArith.wf_i64 (by omega))
  have l2 := lits_int (P := Try.prog) (d := m) (n := p.n) Try.underlying3 (WalkArith.wf_i64 (by omega))
  have l3 := lits_string (P := Try.prog) (d := m) Try.underlying9 h4
  unfold keyOf
  rw [Try.underlying32]
  simp only [hk, hf, Bool.and_self, if_true, hm]
  unfold Program.keyLits
  rw [Try.underlying32]
  simp [partV, Value.cells, cellsPart, cellsStr', cellsInt', cellsU64', l0, l1, l2, l3, klP]
end Go.Proofs.Ytejheedekiojnaa.Sess
