/-
  Logs (layer 8): the walk of same; a copy of a row of texts; what texts weigh. Conditions: lists are no longer than a slice may be.
-/
import Derived.BigFrame
import Derived.Test.YtpiaplgbpjgjiaaGreatDoorZLgWorks
open Go Go.RowKit
namespace Go.Proofs.YtpiaplgbpjgjiaaGreatDoor.Lg
open Base Mp Dk Frame

set_option maxHeartbeats 400000 in
theorem Same_f (p q : Option Addr) (l m : List (List UInt8)) (c d : Nat) (w : World) (hl : l.length ≤ maxLen) (hm : m.length ≤ maxLen) (hp : RowArg w p (strs l)) (hq : RowArg w q (strs m)) :
    Calls Tryz.prog 14 #[.slice p l.length c, .slice q m.length d] w fun e w' => e = .returned (.bool (decide (l = m))) ∧ ∃ n, w' = w.drewN n := by
  have HP := Lib.hid hp
  have HQ := Lib.hid hq
  clear hp hq
  unfold maxLen at hl hm
  by_cases hne : l.length = m.length
  · have hb : ((l.length : Int) != (m.length : Int)) = false := by simp [hne]
    have HNE := Lib.hid hne
    clear hne
    go_enter Tryz.func14, Tryz.ntmps14
    go_wp2
    go_loopw [5] (fun i wr => ∃ k : Nat, k ≤ l.length ∧ i = .int .i64 k ∧ l.take k = m.take k ∧ ∃ n, wr = w.drewN n) (fun i _ => l.length - (intOf i).toNat)
    case atStart => exact ⟨0, Nat.zero_le _, rfl, by simp, 0, rfl⟩
    case round =>
      obtain ⟨k, hk, rfl, heq, n, rfl⟩ := hrel
      have HEQ := Lib.hid heq
      clear heq
      by_cases hlt : k < l.length
      · have hlt2 : k < m.length := by have := HNE.out; omega
        obtain ⟨b1, o1, rfl, _, hc1⟩ := HP.out k (by rw [strs_length]; exact hlt)
        obtain ⟨b2, o2, rfl, _, hc2⟩ := HQ.out k (by rw [strs_length]; exact hlt2)
        rw [strs_at _ _ hlt] at hc1
        rw [strs_at _ _ hlt2] at hc2
        by_cases he : l[k] = m[k]
        · have hnext : l.take (k + 1) = m.take (k + 1) := by rw [List.take_succ_eq_append_getElem hlt, List.take_succ_eq_append_getElem hlt2, HEQ.out, he]
          have HX := Lib.hid hnext
          rw [he] at hc1
          clear hnext he
          generalize m[k] = mk at *
          go_wp2
          go_region
          go_wp2
          go_roundw
          case rel => exact ⟨k + 1, by omega, by go_num, HX.out, _, World.drew_drewN _ _⟩
          case measure => simp [intOf]; omega
        · have hfin : decide (l = m) = false := decide_eq_false (fun e => he (by subst e; rfl))
          have hb2 : (l[k] == m[k]) = false := beq_eq_false_iff_ne.2 he
          have HF := Lib.hid hfin
          clear he hfin
          generalize l[k] = lk at *
          generalize m[k] = mk at *
          go_wp2
          go_region
          go_wp2
          go_ret
          exact ⟨by rw [HF.out]; rfl, _, World.drew_drewN _ _⟩
      · have hfin : decide (l = m) = true := by
          have h1 := HEQ.out
          have h2 := HNE.out
          rw [List.take_of_length_le (by omega), List.take_of_length_le (by omega)] at h1
          simp [h1]
        have HF := Lib.hid hfin
        clear hfin
        go_wp2
        go_ret
        exact ⟨by rw [HF.out]; rfl, n, rfl⟩
  · have hb : ((l.length : Int) != (m.length : Int)) = true := by simp; omega
    have hfin : decide (l = m) = false := decide_eq_false (fun e => hne (by rw [e]))
    have HF := Lib.hid hfin
    clear hfin hne
    go_enter Tryz.func14, Tryz.ntmps14
    go_wp2
    go_ret
    exact ⟨by rw [HF.out]; rfl, 0, rfl⟩

set_option maxRecDepth 100000 in
theorem append_strs (W : World) (p : Option Addr) (cap : Nat) (l : List Key) (h : RowArg W p (strs l)) (hm : l.length ≤ 1099511627776) : ∃ p' cap' w', (Builtin.append_ #[33, 33] 33 #[.slice none 0 0, .slice p l.length cap]).run Tryz.prog W = .ok (.slice p' l.length cap') w' ∧ w'.ownsRow W.heap.size 9 1 (.slice p' l.length cap') l.length (strs l) ∧ Below W.heap.size W w' := by
  obtain ⟨i0, hi, hz0, hz1, hz2⟩ := info_parts infoKey
  cases hl : l with
  | nil =>
    refine ⟨none, 0, W, ?_, World.ownsRow_nil _ _ _ _, Below.refl _ _⟩
    have := run_append_nothing W 33 33 33 9 i0 Tryz.underlying33 hi none 0 0 (Nat.le_refl _) (.slice p 0 cap)
    cases p with
    | none => exact this (Src.ofNil W Tryz.underlying33 cap)
    | some a => exact this (Src.ofSlice W Tryz.underlying33 a 0 cap [] (by simp) (fun j u hj => by simp at hj) (by simp))
  | cons x r =>
    rw [← hl]
    have hn : 0 < l.length := by rw [hl]; simp
    obtain ⟨b0, o0, rfl, _, _⟩ := h 0 (by rw [strs_length]; exact hn)
    obtain ⟨g, cap', w', h1, h2, h3, h4, -⟩ := run_append_lies (P := Tryz.prog) W 33 33 W.heap.size 9 i0 _ 1 16 Tryz.underlying33 hi hz0 hz1 hz2 rfl (by decide)
      (.slice none 0 0) 0 [] ⟨by simp, .inl ⟨rfl, rfl⟩⟩ ⟨b0, o0, none⟩ l.length cap (strs l) (by rw [strs_length]; omega) (fun j u hj => by
        rcases Nat.lt_or_ge j (strs l).length with hlj | hlj
        · obtain ⟨b1, o1, he, _, hc⟩ := h j hlj
          injection he with he
          injection he with e1 e2
          subst e1 e2
          rw [show (⟨b0, o0, none⟩ : Addr).add j = ⟨b0, o0 + j, none⟩ by simp [Addr.add], hc, ← hj, List.getElem?_eq_getElem hlj]
        · rw [List.getElem?_eq_none hlj] at hj; cases hj) (by intro u hu; unfold strs at hu; obtain ⟨k, _, rfl⟩ := List.mem_map.1 hu; rfl) hn (by unfold maxLen; omega) (by omega) (Nat.le_refl _) _ rfl
    rw [Nat.zero_add] at h1 h2
    rw [List.nil_append] at h2
    exact ⟨_, cap', w', h1, h2, (Below.refl _ _).grown h3 (Nat.le_refl _) (fun q hq => by cases hq)⟩
/-- An append under a guard that is met. -/
theorem wpList_append_run_g {P : Program} {w w' : World} {ops : Array Oper} {rest : List Oper} {o : Oper} {a : Act} {Q : Exit → Act → World → Prop} (hw : Region.wanted o (yielded ops a.tmps) = true) (s x : Operand) (t u : TypeId)
    (ho : o.op = .call { callee := .builtin .append, args := #[s, x], argTypes := #[t, u] }) {v xv v' : Value} (hs : a.eval s = v) (hx : a.eval x = xv) (hr : (Builtin.append_ #[t, u] o.type #[v, xv]).run P w = .ok v' w')
    (h : wpList P ops Q rest (a.put o.dst v') w') : wpList P ops Q (o :: rest) a w :=
  BigFrame.wpList_want hw fun _ hK => by
    unfold Oper.wp execOp
    simp only [ho, resolve, invoke, builtin, Sem.run_bind, Sem.run_pure, Result.andThen_ok, List.map_toArray, List.map_cons, List.map_nil, hs, hx, hr]
    exact hK _ _ h
theorem step_append_g {P : Program} {w w' : World} {o : Oper} {a : Act} {K : Act → World → Prop} {Q : Exit → Act → World → Prop} (s x : Operand) (t u : TypeId)
    (ho : o.op = .call { callee := .builtin .append, args := #[s, x], argTypes := #[t, u] }) {v xv v' : Value} (hs : a.eval s = v) (hx : a.eval x = xv) (hr : (Builtin.append_ #[t, u] o.type #[v, xv]).run P w = .ok v' w')
    (h : K (a.put o.dst v') w') : Oper.wp P o a w K Q := by
  unfold Oper.wp execOp
  simp only [ho, resolve, invoke, builtin, Sem.run_bind, Sem.run_pure, Result.andThen_ok, List.map_toArray, List.map_cons, List.map_nil, hs, hx, hr]
  exact h
def weight (l : List Key) : Nat := (l.map fun x => 1 + x.length).sum
theorem weight_succ (l : List Key) (i : Nat) (h : i < l.length) : weight (l.take (i + 1)) = weight (l.take i) + 1 + l[i].length := by
  unfold weight
  rw [List.take_succ_eq_append_getElem h, List.map_append, List.sum_append]
  simp
  omega
theorem puts_weight (l : List Key) : (puts l).length ≤ 8 * weight l := by
  induction l with
  | nil => simp [puts, weight]
  | cons a r ih =>
    have e : weight (a :: r) = 1 + a.length + weight r := by unfold weight; simp
    rw [puts_cons, List.length_append, put_length, e]
    omega
theorem mem_weight {l : List Key} {x : Key} (h : x ∈ l) : x.length ≤ weight l := by
  have : 1 + x.length ≤ weight l := mem_le_sum (List.mem_map.2 ⟨x, h, rfl⟩)
  omega
theorem weight_take_le (l : List Key) (k : Nat) : weight (l.take k) ≤ weight l := by
  conv => rhs; rw [← List.take_append_drop k l]
  unfold weight
  rw [List.map_append, List.sum_append]
  omega
end Go.Proofs.YtpiaplgbpjgjiaaGreatDoor.Lg
