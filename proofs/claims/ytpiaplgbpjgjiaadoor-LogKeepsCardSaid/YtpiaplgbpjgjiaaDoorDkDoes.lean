/-
  Disks (layer 7): the walk of does, a step of a script. Conditions: the step's numbers are of their kinds, its texts are no longer than a string may be.
-/
import Derived.Test.YtpiaplgbpjgjiaaDoorDkSpoil
import Derived.Deep.Upon
open Go Go.RowKit
namespace Go.Proofs.YtpiaplgbpjgjiaaDoor.Dk
open Base Mp

structure StepD where
  do_ : Int
  name : Key
  s : Key
  n : Int
  by_ : UInt8
  keep : List Int
  kp : Option Addr
  kc : Nat
def stepCs (x : StepD) : Array Value := #[.int .i64 x.do_, .string (B x.name), .string (B x.s), .int .i64 x.n, .int .u8 (x.by_.toNat : Int), .slice x.kp x.keep.length x.kc]
def stepV (x : StepD) : Value := .agg (stepCs x)
structure StepOk (x : StepD) : Prop where
  name : x.name.length ≤ maxLen
  s : x.s.length ≤ maxLen
  n : -9223372036854775808 ≤ x.n ∧ x.n ≤ 9223372036854775807
  keep : IntsIn x.keep
  few : x.keep.length ≤ 1099511627776
def doesD (D : DiskD) (x : StepD) : DiskD × Int :=
  if x.do_ = 0 then createD D x.name else if x.do_ = 1 then appendD D x.name x.s else if x.do_ = 2 then syncD D x.name else if x.do_ = 3 then cutD D x.name x.n else if x.do_ = 4 then removeD D x.name else if x.do_ = 5 then spoilD D x.name x.n x.by_ else if x.do_ = 6 then fuseD D x.n else if x.do_ = 7 then (crashD D x.keep, 0) else (D, 0)
theorem infoInt : (Tryd.prog.info? 3).map (fun i => (i.zero, i.size, i.bytes)) = some (some (.int .i64 0), 1, 8) := by kernel_rfl
def intV (x : Int) : Value := .int .i64 x
set_option maxRecDepth 100000 in
theorem append_ints (W : World) (p : Option Addr) (cap : Nat) (l : List Int) (h : IntsAt W p l) (hm : l.length ≤ 1099511627776) : ∃ p' cap' w', (Builtin.append_ #[46, 46] 46 #[.slice none 0 0, .slice p l.length cap]).run Tryd.prog W = .ok (.slice p' l.length cap') w' ∧ IntsAt w' p' l ∧ l.length ≤ cap' ∧ cap' ≤ 9223372036854775807 ∧ Below W.heap.size W w' ∧ ∀ a, p' = some a → W.heap.size ≤ a.block := by
  obtain ⟨i0, hi, hz0, hz1, hz2⟩ := info_parts infoInt
  cases hl : l with
  | nil =>
    refine ⟨none, 0, W, ?_, fun j hj => absurd hj (by simp), by simp, by decide, Below.refl _ _, fun a h => by cases h⟩
    have := run_append_nothing W 46 46 46 3 i0 Tryd.underlying46 hi none 0 0 (Nat.le_refl _) (.slice p 0 cap)
    cases p with
    | none => exact this (Src.ofNil W Tryd.underlying46 cap)
    | some a => exact this (Src.ofSlice W Tryd.underlying46 a 0 cap [] (by simp) (fun j u hj => by simp at hj) (by simp))
  | cons x r =>
    rw [← hl]
    have hn : 0 < l.length := by rw [hl]; simp
    obtain ⟨b0, o0, rfl, _⟩ := h 0 hn
    obtain ⟨g, cap', w', h1, h2, h3, h4, -⟩ := run_append_lies (P := Tryd.prog) W 46 46 W.heap.size 3 i0 _ 1 8 Tryd.underlying46 hi hz0 hz1 hz2 rfl (by decide)
      (.slice none 0 0) 0 [] ⟨by simp, .inl ⟨rfl, rfl⟩⟩ ⟨b0, o0, none⟩ l.length cap (l.map intV) (by simp) (fun j u hj => by
        rw [List.getElem?_map] at hj
        rcases Nat.lt_or_ge j l.length with hlj | hlj
        · rw [List.getElem?_eq_getElem hlj] at hj
          obtain ⟨b1, o1, he, hc⟩ := h j hlj
          injection he with he
          injection he with e1 e2
          subst e1 e2
          rw [show (⟨b0, o0, none⟩ : Addr).add j = ⟨b0, o0 + j, none⟩ by simp [Addr.add], hc]
          exact hj
        · rw [List.getElem?_eq_none hlj] at hj; cases hj) (by intro u hu; obtain ⟨k, _, rfl⟩ := List.mem_map.1 hu; rfl) hn (by unfold maxLen; omega) (by omega) (Nat.le_refl _) _ rfl
    rw [Nat.zero_add] at h1 h2
    rw [List.nil_append] at h2
    obtain ⟨hll, ⟨e1, _⟩ | ⟨g', cap2, cur, e1, hg, hb, hnc, hcm, hcs, ht⟩⟩ := h2
    · cases e1
    · injection e1 with e2 e3 e4
      injection e2 with e2
      injection e2 with e2
      subst e2 e4
      refine ⟨some ⟨g, 0, none⟩, cap', w', h1, fun j hj => ⟨g, 0, rfl, ?_⟩, hnc, hcm, (Below.refl _ _).grown h3 (Nat.le_refl _) (fun q hq => by cases hq), fun a ha => by injection ha with ha; rw [← ha]; exact hg⟩
      have h5 : (cur.toList.take (l.length * 1))[j]? = (l.map intV)[j]? := by rw [ht]
      rw [List.getElem?_take_of_lt (by omega), List.getElem?_map, List.getElem?_eq_getElem hj] at h5
      simp [World.cell?, hb, intV] at h5 ⊢
      exact h5
theorem DW.crash {w0 w1 w2 : World} {b : Nat} {D : DiskD} (h : DW w0 w1 b D) (hk : Below w1.heap.size w1 w2) (p : Option Addr) (keep : List Int) (cap : Nat) (hI : IntsAt w2 p keep) (hi : IntsIn keep) (hc : keep.length ≤ cap) (hm : cap ≤ 9223372036854775807) (hp : ∀ a, p = some a → w1.heap.size ≤ a.block) :
    Calls Tryd.prog 22 #[.pointer (some ⟨b, 0, none⟩), .slice p keep.length cap] w2 fun e w' => e = .returned (.int .i64 0) ∧ DW w0 w' b (crashD D keep) := by
  obtain ⟨hb, T, hd, hT⟩ := h
  have hd0 := hd
  obtain ⟨tag, blk, bm, hdd⟩ := hd0
  have hd2 := hd.next (Kept.of_below (T := fun i => ¬ T i) hk)
  refine (Crash_f hd2 p keep cap hI hi hc hm (fun a ha ht => by have h1 := hp a ha; have h2 := hdd.old _ ht; omega)).mono ?_
  rintro e w' ⟨he, h1, h2⟩
  have hb2 := hb.trans (hk.mono hb.size)
  refine ⟨he, hb2.trans (h2.below hT hb2.size), _, h1, fun i hi => ?_⟩
  rcases hi with hi | hi
  · exact hT i hi
  · exact Nat.le_trans hb2.size hi.1
end Go.Proofs.YtpiaplgbpjgjiaaDoor.Dk
