/-
  The walk of layer 28's guard ('heavy').
-/
import Derived.Test.YtejheedekiojnaaSteps
open Go Go.RowKit
namespace Go.Proofs.Ytejheedekiojnaa.Sess
open Base Mp

def AnyBool (e : Ending) : Prop := ∃ v, e = .returned (.bool v)
set_option maxHeartbeats 4000000 in
set_option maxRecDepth 100000 in
theorem heavy_calls (p : Option Addr) (l : List StepD) (cap : Nat) (w : World) (hl : l.length ≤ maxLen) (h : StepsArg w p l) :
    Calls Try.prog 14 #[.slice p l.length cap] w fun e w' => AnyBool e ∧ Below w.heap.size w w' := by
  unfold maxLen at hl
  go_enter Try.func14, Try.ntmps14
  go_wp2
  go_loopw [3, 4] (fun v u wr => ∃ (k : Nat) (n : Int), v = .int .i64 n ∧ u = .int .i64 k ∧ k ≤ l.length ∧ Below w.heap.size w wr) (fun _ u _ => l.length - (intOf u).toNat)
  case atStart => exact ⟨0, 0, rfl, rfl, Nat.zero_le _, Below.refl _ _⟩
  case round =>
    obtain ⟨k, n, rfl, rfl, hk, hb⟩ := hrel
    have HB := Lib.hid hb
    clear hb
    by_cases h600 : k < 600
    · by_cases hlt : k < l.length
      · obtain ⟨b, o, rfl, hs, hok⟩ := (h.below HB.out) k hlt
        obtain ⟨c0, c1, c2, c3, c4, c5⟩ := hs
        have hw := hok.who
        have ht := hok.text
        unfold maxLen at hw ht
        have t1 : (k : Int) < (l.length : Int) := by omega
        have t2 : (k : Int) < 600 := by omega
        clear hok h
        generalize l[k] = x at *
        generalize l.length = m at *
        obtain ⟨who, gone, ⟨pid, pi, pn, pt⟩⟩ := x
        simp only at c0 c1 c2 c3 c4 c5 hw ht
        go_wp2
        go_region
        have HB2 := Lib.hid (HB.out.drew)
        replace c4 : wr.drew.cell? ⟨b, o + k * 6 + 4, none⟩ = some (.int .i64 pn) := c4
        replace c5 : wr.drew.cell? ⟨b, o + k * 6 + 5, none⟩ = some (.string (B pt)) := c5
        clear c0 c1 c2 c3
        generalize wr.drew = wd at *
        go_wp2
        all_goals first
          | exact ⟨⟨k + 1, _, rfl, by go_num, by omega, HB2.out⟩, by simp [intOf]; omega⟩
          | (go_ret; exact ⟨⟨_, rfl⟩, HB2.out⟩)
      · have hkl : k = l.length := by omega
        subst hkl
        have t1 : ¬ (l.length : Int) < (l.length : Int) := by omega
        clear h
        generalize l.length = m at *
        go_wp2
        all_goals go_ret
        all_goals exact ⟨⟨_, rfl⟩, HB.out⟩
    · have t2 : ¬ (k : Int) < 600 := by omega
      clear h
      generalize l.length = m at *
      go_wp2
      all_goals go_ret
      all_goals exact ⟨⟨_, rfl⟩, HB.out⟩
end Go.Proofs.Ytejheedekiojnaa.Sess
