/-
  Swim (layer 22): the walk of begin. No condition.
-/
import Derived.Test.YtekjmkjghlbkbaaSwMem
import Derived.WalkMore
open Go Go.RowKit Go.Sort
namespace Go.Proofs.Ytekjmkjghlbkbaa.Sw
open Base

structure AskD where
  to : Key
  for_ : Key
  seq : Nat
def askV (a : AskD) : Value := .agg #[.string (B a.to), .string (B a.for_), .int .u64 (a.seq : Int)]
def nextK (s : SwD) (ks : List Key) : Key := if s.seq = 0 then ks.headD [] else (ks.find? fun m => decide (s.target < m)).getD (ks.headD [])
def begun (s : SwD) (k : Key) : SwD := { s with open_ := true, asked := false, target := k, since := s.now, seq := s.seq + 1 }
theorem begun_at {w : World} {b : Nat} {s : SwD} (h : SwAt w b s) (k : Key) : SwAt (((((w.setCell ⟨b, 5, none⟩ (.bool true)).setCell ⟨b, 9, none⟩ (.bool false)).setCell ⟨b, 6, none⟩ (.string (B k))).setCell ⟨b, 8, none⟩ (.int .i64 s.now)).setCell ⟨b, 7, none⟩ (.int .u64 ((s.seq : Int) + 1))) b (begun s k) := by
  have h1 := CellsAt.set h (i := 5) (by omega) (.bool true)
  have h2 := CellsAt.set h1 (i := 9) (by omega) (.bool false)
  have h3 := CellsAt.set h2 (i := 6) (by omega) (.string (B k))
  have h4 := CellsAt.set h3 (i := 8) (by omega) (.int .i64 s.now)
  have h5 := CellsAt.set h4 (i := 7) (by omega) (.int .u64 ((s.seq : Int) + 1))
  refine CellsAt.congr h5 fun j hj => ?_
  have : j = 0 ∨ j = 1 ∨ j = 2 ∨ j = 3 ∨ j = 4 ∨ j = 5 ∨ j = 6 ∨ j = 7 ∨ j = 8 ∨ j = 9 := by omega
  rcases this with rfl | rfl | rfl | rfl | rfl | rfl | rfl | rfl | rfl | rfl <;> rfl
def BeginPost (w : World) (b : Nat) (s : SwD) (k : Key) (e : Ending) (w' : World) : Prop := e = .returned (askV ⟨k, [], s.seq + 1⟩) ∧ SwAt w' b (begun s k) ∧ Kept (· = b) w w'
theorem B_nil : (B [] : ByteArray) = ⟨#[]⟩ := rfl
theorem begun_w {w : World} {b : Nat} {s : SwD} (h : SwAt w b s) (k : Key) (c : Array Value) (t : Nat) : SwAt ((((((w.setCell ⟨b, 5, none⟩ (.bool true)).setCell ⟨b, 9, none⟩ (.bool false)).setCell ⟨b, 6, none⟩ (.string (B k))).setCell ⟨b, 8, none⟩ (.int .i64 s.now)).setCell ⟨b, 7, none⟩ (.int .u64 ((s.seq : Int) + 1))).alloc (.cells c t)) b (begun s k) ∧ Kept (· = b) w ((((((w.setCell ⟨b, 5, none⟩ (.bool true)).setCell ⟨b, 9, none⟩ (.bool false)).setCell ⟨b, 6, none⟩ (.string (B k))).setCell ⟨b, 8, none⟩ (.int .i64 s.now)).setCell ⟨b, 7, none⟩ (.int .u64 ((s.seq : Int) + 1))).alloc (.cells c t)) := by
  have h1 := begun_at h k
  refine ⟨h1.next ((Below.refl _ _).alloc (Nat.le_refl _) _), ?_⟩
  have g : Kept (· = b) w (((((w.setCell ⟨b, 5, none⟩ (.bool true)).setCell ⟨b, 9, none⟩ (.bool false)).setCell ⟨b, 6, none⟩ (.string (B k))).setCell ⟨b, 8, none⟩ (.int .i64 s.now)).setCell ⟨b, 7, none⟩ (.int .u64 ((s.seq : Int) + 1))) := kset (kset (kset (kset (kset (Kept.refl _ _)))))
  exact kthen g (Kept.of_below ((Below.refl _ _).alloc (Nat.le_refl _) _))
set_option maxHeartbeats 2000000 in
theorem Begin_f (w : World) (b : Nat) (s : SwD) (p : Option Addr) (cap : Nat) (ks : List Key) (h : SwAt w b s) (hp : StrsArg w p ks) (hn : 0 < ks.length) (hb : ks.length ≤ 8796093022207) (hq : s.seq + 1 < 2 ^ 64) :
    Calls Try.prog 17 #[.pointer (some ⟨b, 0, none⟩), .slice p ks.length cap] w (BeginPost w b s (nextK s ks)) := by
  have HS := Lib.hid h
  have hlt := h.lt
  obtain ⟨b0, o0, hp0, hk0⟩ := hp 0 hn
  subst hp0
  rw [Nat.add_zero] at hk0
  have HC := Lib.hid (show ∀ i (hi : i < ks.length), w.cell? ⟨b0, o0 + i, none⟩ = some (.string (B ks[i])) from fun i hi => by
    obtain ⟨b1, o1, h1, h2⟩ := hp i hi
    injection h1 with h1; injection h1 with h3 h4; subst h3; subst h4; exact h2)
  have c4 : w.cell? ⟨b, 4, none⟩ = some (.int .i64 s.now) := (h 4 (by omega)).1
  have c5 : w.cell? ⟨b, 5, none⟩ = some (.bool s.open_) := (h 5 (by omega)).1
  have c6 : w.cell? ⟨b, 6, none⟩ = some (.string (B s.target)) := (h 6 (by omega)).1
  have c7 : w.cell? ⟨b, 7, none⟩ = some (.int .u64 (s.seq : Int)) := (h 7 (by omega)).1
  have c8 : w.cell? ⟨b, 8, none⟩ = some (.int .i64 s.since) := (h 8 (by omega)).1
  have c9 : w.cell? ⟨b, 9, none⟩ = some (.bool s.asked) := (h 9 (by omega)).1
  have f5 : w.frozen? ⟨b, 5, none⟩ = false := (h 5 (by omega)).2
  have f6 : w.frozen? ⟨b, 6, none⟩ = false := (h 6 (by omega)).2
  have f7 : w.frozen? ⟨b, 7, none⟩ = false := (h 7 (by omega)).2
  have f8 : w.frozen? ⟨b, 8, none⟩ = false := (h 8 (by omega)).2
  have f9 : w.frozen? ⟨b, 9, none⟩ = false := (h 9 (by omega)).2
  have hq2 : (s.seq : Int) + 1 < 18446744073709551616 := by omega
  have hblt : b0 < w.heap.size := lt_of_cell hk0
  clear h hp
  by_cases hq0 : s.seq = 0
  · have HN := Lib.hid (show nextK s ks = ks[0] by unfold nextK; rw [if_pos hq0]; cases ks with | nil => exact absurd hn (by simp) | cons x r => rfl)
    have t1 : ¬ 0 < s.seq := by omega
    rw [HN.out]
    clear hq0 HN HC
    generalize ks[0] = k0 at *
    go_enter Try.func17, Try.ntmps17
    go_wp2
    refine bodyPost_ret (v := askV ⟨k0, [], s.seq + 1⟩) (by simp [results, Try.results17, go_sem, askV, B_nil]) rfl ?_
    constructor
    · with_reducible rfl
    · have e := begun_w HS.out k0 #[.string (B k0), .string ⟨#[]⟩, .int .u64 ((s.seq : Int) + 1)] 39
      with_reducible exact e
  · have t1 : 0 < s.seq := by omega
    have HN := Lib.hid (show nextK s ks = (ks.find? fun m => decide (s.target < m)).getD ks[0] by unfold nextK; rw [if_neg hq0]; cases ks with | nil => exact absurd hn (by simp) | cons x r => rfl)
    clear hq0
    have HK0 := Lib.hid (HC.out 0 hn)
    obtain ⟨k0, hk⟩ : ∃ k0, k0 = ks[0] := ⟨_, rfl⟩
    rw [← hk] at HN hk0
    clear hk HK0
    go_enter Try.func17, Try.ntmps17
    go_wp2_with fail
    go_step3
    go_wp2_with fail
    go_step3
    go_wp2_with fail
    go_loop [5, 18] (fun u v => ∃ i : Nat, u = .string (B k0) ∧ v = .int .i64 (i : Int) ∧ i ≤ ks.length ∧ (∀ a (h : a < ks.length), a < i → ¬ s.target < ks[a])) (fun _ v => ks.length - (intOf v).toNat)
    case atStart => exact ⟨0, rfl, rfl, Nat.zero_le _, fun a _ h => absurd h (by omega)⟩
    case round =>
      obtain ⟨i, rfl, rfl, hi, hlo⟩ := hrel
      have HLO := Lib.hid hlo
      clear hlo
      by_cases hik : i < ks.length
      · have m0 : 0 ≤ (i : Int) := by omega
        have m1 : (i : Int) < (ks.length : Int) := by omega
        have hc := HC.out i hik
        have HF := Lib.hid (show s.target < ks[i] → (ks.find? fun m => decide (s.target < m)).getD k0 = ks[i] from fun h => by
          rw [List.find?_eq_some_iff_getElem.2 ⟨by simpa using h, i, hik, rfl, fun j hj => by simpa using HLO.out j (by omega) hj⟩]; rfl)
        have HL2 := Lib.hid (show ¬ s.target < ks[i] → ∀ a (h : a < ks.length), a < i + 1 → ¬ s.target < ks[a] from fun h a h1 h2 => by
          rcases Nat.lt_or_ge a i with h3 | h3
          · exact HLO.out a h1 h3
          · obtain rfl : a = i := by omega
            exact h)
        generalize ks[i] = ki at *
        by_cases hkt : s.target < ki
        · have q1 : Op.bytesLess ki s.target = false := by rw [bytesLess_eq]; exact decide_eq_false (List.lt_asymm hkt)
          have q2 : (ki == s.target) = false := by simpa using fun h => List.lt_irrefl _ (h ▸ hkt)
          have HE := Lib.hid (HN.out.trans (HF.out hkt))
          clear hkt
          go_wp2
          refine bodyPost_ret (v := askV ⟨ki, [], s.seq + 1⟩) (by simp [results, Try.results17, go_sem, askV, B_nil]) rfl ?_
          rw [HE.out]
          constructor
          · with_reducible rfl
          · have e := begun_w HS.out ki #[.string (B ki), .string ⟨#[]⟩, .int .u64 ((s.seq : Int) + 1)] 39
            with_reducible exact e
        · cases hbl : Op.bytesLess ki s.target
          · have q2 : (ki == s.target) = true := by
              have : ¬ ki < s.target := fun h => by rw [bytesLess_eq] at hbl; simp [h] at hbl
              simpa using List.le_antisymm (List.not_lt.1 hkt) (List.not_lt.1 this)
            go_wp2
            go_round
            case rel => exact ⟨i + 1, rfl, by go_num, hik, HL2.out hkt⟩
            case measure => simp [intOf]; omega
          · go_wp2
            go_round
            case rel => exact ⟨i + 1, rfl, by go_num, hik, HL2.out hkt⟩
            case measure => simp [intOf]; omega
      · have HE := Lib.hid (show nextK s ks = k0 by
          rw [HN.out, List.find?_eq_none.2 fun x hx => ?_]
          · rfl
          · obtain ⟨a, ha, rfl⟩ := List.getElem_of_mem hx
            simpa using HLO.out a ha (by omega))
        clear HLO
        go_wp2
        refine bodyPost_ret (v := askV ⟨k0, [], s.seq + 1⟩) (by simp [results, Try.results17, go_sem, askV, B_nil]) rfl ?_
        rw [HE.out]
        constructor
        · with_reducible rfl
        · have e := begun_w HS.out k0 #[.string (B k0), .string ⟨#[]⟩, .int .u64 ((s.seq : Int) + 1)] 39
          with_reducible exact e
end Go.Proofs.Ytekjmkjghlbkbaa.Sw
