/-
  Stores (layer 9): a row of texts of the call's own beside a store; lists of bools that come in. Condition: rows are no longer than 2^40.
-/
import Derived.ProofKit
import Derived.OpenShut
import Derived.Test.YtmejdcnnpenaaaaGreatDoorZStWorks
open Go Go.RowKit
namespace Go.Proofs.YtmejdcnnpenaaaaGreatDoor.St
open Base Mp Dk Frame Lg

theorem SX.next {w0 w w' : World} {b sb : Nat} {D : DiskD} {S : StoreD} {U X : Nat → Prop} (h : SX w0 w b sb D S U) (hk : Kept X w w') (hX : ∀ i, X i → w0.heap.size ≤ i ∧ ¬ U i) : SX w0 w' b sb D S U := by
  obtain ⟨T, lb, h⟩ := h
  exact ⟨T, lb, h.lx.next hk fun i hi => ⟨(hX i hi).1, fun e => (hX i hi).2 (h.sub i e), fun e => (hX i hi).2 (by rw [e]; exact h.ul)⟩, h.st.kept hk (h.st.lt (by omega)) (fun e => (hX sb e).2 h.us), h.far, h.ne, h.sub, h.ul, h.us, fun i hi => ⟨(h.own i hi).1, Nat.lt_of_lt_of_le (h.own i hi).2 hk.size⟩⟩
/-- A row that lies apart from the store's blocks. -/
structure Put2 (w0 w : World) (v : Value) (rs : List Key) (U : Nat → Prop) : Prop where
  own : w.ownsRow w0.heap.size 9 1 v rs.length (strs rs)
  apart : ∀ k, v.ownBlock = some k → ¬ U k
theorem Put2.none (w0 w : World) (U : Nat → Prop) : Put2 w0 w (.slice none 0 0) [] U := ⟨World.ownsRow_nil _ _ _ _, fun k hk => by cases hk⟩
theorem Put2.kept {w0 w w' : World} {v : Value} {rs : List Key} {U : Nat → Prop} (h : Put2 w0 w v rs U) (hk : Kept U w w') : Put2 w0 w' v rs (More U w w') :=
  ⟨own_kept h.own hk h.apart, fun k hk2 ht => by
    have := h.own.lt k hk2
    rcases ht with ht | ht
    · exact h.apart k hk2 ht
    · omega⟩
theorem Put2.later {w0 w w' : World} {v : Value} {rs : List Key} {U : Nat → Prop} (h : Put2 w0 w v rs U) (hk : Below w.heap.size w w') : Put2 w0 w' v rs U := ⟨own_next h.own hk, h.apart⟩
/-- Some blocks were made. -/
theorem Put2.open_ {w0 w w' : World} {v : Value} {rs : List Key} {U U' T : Nat → Prop} (h : Put2 w0 w v rs U) (hT : ∀ i, T i → U i) (hk : Kept T w w') (hU : ∀ i, U' i → T i ∨ w.heap.size ≤ i) : Put2 w0 w' v rs U' :=
  ⟨own_kept h.own hk (fun k hk2 e => h.apart k hk2 (hT k e)), fun k hk2 ht => by
    have := h.own.lt k hk2
    rcases hU k ht with e | e
    · exact h.apart k hk2 (hT k e)
    · omega⟩
theorem Put2.arg {w0 w : World} {v : Value} {rs : List Key} {U : Nat → Prop} (h : Put2 w0 w v rs U) : ∃ p cap, v = .slice p rs.length cap ∧ RowArg w p (strs rs) := by
  obtain ⟨p, cap, e, hr, -, -⟩ := RowArg.of_own h.own
  exact ⟨p, cap, e, hr⟩
/-- One text more. -/
theorem append_put {w0 w : World} {b sb : Nat} {D : DiskD} {S : StoreD} {U : Nat → Prop} {v : Value} {rs : List Key} (hx : SX w0 w b sb D S U) (h : Put2 w0 w v rs U) (x : Key) (hm : rs.length + 1 ≤ 1099511627776) :
    ∃ v' w', (Builtin.append_ #[22, 22] 22 #[v, .slice (some ⟨w.heap.size, 0, none⟩) 1 1]).run Tryz.prog (w.alloc (.cells #[.string (B x)] 9)) = .ok v' w' ∧ SX w0 w' b sb D S U ∧ Put2 w0 w' v' (rs ++ [x]) U := by
  have ho := h.own
  have hl : (strs rs).length = rs.length := strs_length rs
  obtain ⟨g, cap, w', h1, hg⟩ := append_key w w0.heap.size hx.below.size v (strs rs) (by rw [hl]; exact ho) x (by rw [hl]; exact hm)
  refine ⟨_, w', h1, hx.next hg.kept fun i hi => ⟨(ho.lt i hi).1, h.apart i hi⟩, ⟨?_, fun k hk => ?_⟩⟩
  · rw [List.length_append, strs_snoc]
    have := hg.own
    rw [hl] at this ⊢
    exact this
  · injection hk with hk
    subst hk
    rcases hg.blk with h4 | h4
    · exact h.apart _ h4
    · intro ht
      have := (hx.own _ ht).2
      simp only at this h4
      omega
/-- A list of bools that comes in. -/
def BoolsArg (w : World) (p : Option Addr) (l : List Bool) : Prop := ∀ j (h : j < l.length), ∃ b o, p = some ⟨b, o, none⟩ ∧ b < w.heap.size ∧ w.cell? ⟨b, o + j, none⟩ = some (.bool l[j])
set_option maxHeartbeats 400000 in
theorem Same9_f (p q : Option Addr) (l m : List (List UInt8)) (c d : Nat) (w : World) (hl : l.length ≤ maxLen) (hm : m.length ≤ maxLen) (hp : RowArg w p (strs l)) (hq : RowArg w q (strs m)) :
    Calls Tryz.prog 15 #[.slice p l.length c, .slice q m.length d] w fun e w' => e = .returned (.bool (decide (l = m))) ∧ ∃ n, w' = w.drewN n := by
  have HP := Lib.hid hp
  have HQ := Lib.hid hq
  clear hp hq
  unfold maxLen at hl hm
  by_cases hne : l.length = m.length
  · have hb : ((l.length : Int) != (m.length : Int)) = false := by simp [hne]
    have HNE := Lib.hid hne
    clear hne
    go_enter Tryz.func15, Tryz.ntmps15
    go_wp2
    go_loopw [5] (fun i wr => ∃ k : Nat, k ≤ l.length ∧ i = .int .i64 k ∧ l.take k = m.take k ∧ ∃ n, wr = w.drewN n) (fun i _ => l.length - (intOf i).toNat)
    case atStart => exact ⟨0, Nat.zero_le _, rfl, by simp, 0, rfl⟩
    case round =>
      obtain ⟨k, hk, rfl, heq, n, rfl⟩ := hrel
      have HEQ := Lib.hid heq
      clear heq
      by_cases hlt : k < l.length
      · have hlt2 : k < m.length := by have := HNE.out; omega
        obtain ⟨b1, o1, rfl, _, hc1⟩ := HP.out k (by rw [strs_length]; exact hlt)
        obtain ⟨b2, o2, rfl, _, hc2⟩ := HQ.out k (by rw [strs_length]; exact hlt2)
        rw [strs_at _ _ hlt] at hc1
        rw [strs_at _ _ hlt2] at hc2
        by_cases he : l[k] = m[k]
        · have hnext : l.take (k + 1) = m.take (k + 1) := by rw [List.take_succ_eq_append_getElem hlt, List.take_succ_eq_append_getElem hlt2, HEQ.out, he]
          have HX := Lib.hid hnext
          rw [he] at hc1
          clear hnext he
          generalize m[k] = mk at *
          go_wp2
          go_region
          go_wp2
          go_roundw
          case rel => exact ⟨k + 1, by omega, by go_num, HX.out, _, World.drew_drewN _ _⟩
          case measure => simp [intOf]; omega
        · have hfin : decide (l = m) = false := decide_eq_false (fun e => he (by subst e; rfl))
          have hb2 : (l[k] == m[k]) = false := beq_eq_false_iff_ne.2 he
          have HF := Lib.hid hfin
          clear he hfin
          generalize l[k] = lk at *
          generalize m[k] = mk at *
          go_wp2
          go_region
          go_wp2
          go_ret
          exact ⟨by rw [HF.out]; rfl, _, World.drew_drewN _ _⟩
      · have hfin : decide (l = m) = true := by
          have h1 := HEQ.out
          have h2 := HNE.out
          rw [List.take_of_length_le (by omega), List.take_of_length_le (by omega)] at h1
          simp [h1]
        have HF := Lib.hid hfin
        clear hfin
        go_wp2
        go_ret
        exact ⟨by rw [HF.out]; rfl, n, rfl⟩
  · have hb : ((l.length : Int) != (m.length : Int)) = true := by simp; omega
    have hfin : decide (l = m) = false := decide_eq_false (fun e => hne (by rw [e]))
    have HF := Lib.hid hfin
    clear hfin hne
    go_enter Tryz.func15, Tryz.ntmps15
    go_wp2
    go_ret
    exact ⟨by rw [HF.out]; rfl, 0, rfl⟩

end Go.Proofs.YtmejdcnnpenaaaaGreatDoor.St
