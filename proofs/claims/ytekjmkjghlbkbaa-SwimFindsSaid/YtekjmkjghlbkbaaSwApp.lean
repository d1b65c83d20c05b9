/-
  Swim (layer 22): appends of one string and of one ask to an owned row, as run equations. No condition but the row's length.
-/
import Derived.Test.YtekjmkjghlbkbaaSwBegin
import Derived.WalkLawsBesides
import Derived.Deep.AppendLies
open Go Go.RowKit Go.Sort
namespace Go.Proofs.Ytekjmkjghlbkbaa.Sw
open Base

theorem infoStr : (Try.prog.info? 9).map (fun i => (i.zero, i.size, i.bytes)) = some (some (.string ⟨#[]⟩), 1, 16) := by kernel_rfl
theorem infoAsk : (Try.prog.info? 39).map (fun i => (i.zero, i.size, i.bytes)) = some (some (.agg #[.string ⟨#[]⟩, .string ⟨#[]⟩, .int .u64 0]), 3, 40) := by kernel_rfl
def strC (k : Key) : Value := .string (B k)
def askC (a : AskD) : List Value := [.string (B a.to), .string (B a.for_), .int .u64 (a.seq : Int)]
theorem flat_ask (A : List AskD) (x : AskD) : (A ++ [x]).flatMap askC = A.flatMap askC ++ [.string (B x.to), .string (B x.for_), .int .u64 (x.seq : Int)] := by
  rw [List.flatMap_append]; simp [askC]
theorem wpList_append_run {P : Program} {w w' : World} {ops : Array Oper} {rest : List Oper} {o : Oper} {a : Act} {Q : Exit → Act → World → Prop} (hgd : o.guard = none) (s x : Operand) (t : TypeId)
    (ho : o.op = .call { callee := .builtin .append, args := #[s, x], argTypes := #[t, t] }) {v xv v' : Value} (hs : a.eval s = v) (hx : a.eval x = xv) (hr : (Builtin.append_ #[t, t] o.type #[v, xv]).run P w = .ok v' w')
    (h : wpList P ops Q rest (a.put o.dst v') w') : wpList P ops Q (o :: rest) a w :=
  wpList_plain hgd fun _ hK => by
    unfold Oper.wp execOp
    simp only [ho, resolve, invoke, builtin, Sem.run_bind, Sem.run_pure, Result.andThen_ok, List.map_toArray, List.map_cons, List.map_nil, hs, hx, hr]
    exact hK _ _ h
theorem step_append_run {P : Program} {w w' : World} {ops : Array Oper} {o : Oper} {a : Act} {K : Act → World → Prop} {Q : Exit → Act → World → Prop} {E : Prop} (hgd : o.guard = none) (s x : Operand) (t : TypeId)
    (ho : o.op = .call { callee := .builtin .append, args := #[s, x], argTypes := #[t, t] }) {v xv v' : Value} (hs : a.eval s = v) (hx : a.eval x = xv) (hr : (Builtin.append_ #[t, t] o.type #[v, xv]).run P w = .ok v' w')
    (h : K (a.put o.dst v') w') : if Region.wanted o (yielded ops a.tmps) = true then Oper.wp P o a w K Q else E := by
  have hw : Region.wanted o (yielded ops a.tmps) = true := by simp [Region.wanted, hgd]
  rw [if_pos hw]
  unfold Oper.wp execOp
  simp only [ho, resolve, invoke, builtin, Sem.run_bind, Sem.run_pure, Result.andThen_ok, List.map_toArray, List.map_cons, List.map_nil, hs, hx, hr]
  exact h
/-- 'append(asks, x)'. -/
theorem append_ask (W : World) (base : Nat) (hb : base ≤ W.heap.size) (v : Value) (A : List AskD) (ho : W.ownsRow base 39 3 v A.length (A.flatMap askC)) (x : AskD) (hm : A.length + 1 ≤ 2199023255552) :
    ∃ g cap w', (Builtin.append_ #[35, 35] 35 #[v, .slice (some ⟨W.heap.size, 0, none⟩) 1 1]).run Try.prog (W.alloc (.cells #[.string (B x.to), .string (B x.for_), .int .u64 (x.seq : Int)] 39)) = .ok (.slice (some ⟨g, 0, none⟩) (A.length + 1) cap) w' ∧
      w'.ownsRow base 39 3 (.slice (some ⟨g, 0, none⟩) (A.length + 1) cap) (A ++ [x]).length ((A ++ [x]).flatMap askC) ∧ Below base W w' ∧ W.heap.size ≤ w'.heap.size := by
  obtain ⟨i0, hi, hz0, hz1, hz2⟩ := info_parts infoAsk
  have hz := alloc_more W (.cells #[.string (B x.to), .string (B x.for_), .int .u64 (x.seq : Int)] 39)
  have hc := cells_made W #[.string (B x.to), .string (B x.for_), .int .u64 (x.seq : Int)] 39
  have hb1 : Below base W (W.alloc (.cells #[.string (B x.to), .string (B x.for_), .int .u64 (x.seq : Int)] 39)) := (Below.refl _ _).alloc hb _
  obtain ⟨g, cap, w', h1, h2, h3, -, -⟩ := run_append_lies (P := Try.prog) (W.alloc (.cells #[.string (B x.to), .string (B x.for_), .int .u64 (x.seq : Int)] 39)) 35 35 base 39 i0 _ 3 40 Try.underlying35 hi hz0 hz1 hz2 rfl (by decide)
    v A.length _ (ho.alloc _) ⟨W.heap.size, 0, none⟩ 1 1 [.string (B x.to), .string (B x.for_), .int .u64 (x.seq : Int)] rfl (fun j u hj => by
      have hj3 : j < 3 := by
        rcases Nat.lt_or_ge j 3 with h | h
        · exact h
        · rw [List.getElem?_eq_none (by simpa using h)] at hj; cases hj
      have := (hc j hj3).1
      rw [show (⟨W.heap.size, 0, none⟩ : Addr).add j = ⟨W.heap.size, j, none⟩ by simp [Addr.add]; omega, this]
      have : j = 0 ∨ j = 1 ∨ j = 2 := by omega
      rcases this with rfl | rfl | rfl <;> exact hj) (by simp [Value.oneCell']) (by decide) (by unfold maxLen; omega) (by omega) (by omega) _ rfl
  refine ⟨g, cap, w', h1, ?_, hb1.grown h3 (by omega) (fun q hq => (ho.lt q hq).1), ?_⟩
  · rw [flat_ask, List.length_append]; exact h2
  · have := h3.size; omega
/-- 'append(rest, m)'. -/
theorem append_str (W : World) (base : Nat) (hb : base ≤ W.heap.size) (v : Value) (A : List Key) (ho : W.ownsRow base 9 1 v A.length (A.map strC)) (x : Key) (hm : A.length + 1 ≤ 2199023255552) :
    ∃ g cap w', (Builtin.append_ #[32, 32] 32 #[v, .slice (some ⟨W.heap.size, 0, none⟩) 1 1]).run Try.prog (W.alloc (.cells #[.string (B x)] 9)) = .ok (.slice (some ⟨g, 0, none⟩) (A.length + 1) cap) w' ∧
      w'.ownsRow base 9 1 (.slice (some ⟨g, 0, none⟩) (A.length + 1) cap) (A ++ [x]).length ((A ++ [x]).map strC) ∧ Below base W w' ∧ W.heap.size ≤ w'.heap.size := by
  obtain ⟨i0, hi, hz0, hz1, hz2⟩ := info_parts infoStr
  have hz := alloc_more W (.cells #[.string (B x)] 9)
  have hc := cells_made W #[.string (B x)] 9
  have hb1 : Below base W (W.alloc (.cells #[.string (B x)] 9)) := (Below.refl _ _).alloc hb _
  obtain ⟨g, cap, w', h1, h2, h3, -, -⟩ := run_append_lies (P := Try.prog) (W.alloc (.cells #[.string (B x)] 9)) 32 32 base 9 i0 _ 1 16 Try.underlying32 hi hz0 hz1 hz2 rfl (by decide)
    v A.length _ (ho.alloc _) ⟨W.heap.size, 0, none⟩ 1 1 [.string (B x)] rfl (fun j u hj => by
      have hj3 : j < 1 := by
        rcases Nat.lt_or_ge j 1 with h | h
        · exact h
        · rw [List.getElem?_eq_none (by simpa using h)] at hj; cases hj
      obtain rfl : j = 0 := by omega
      rw [show (⟨W.heap.size, 0, none⟩ : Addr).add 0 = ⟨W.heap.size, 0, none⟩ by simp [Addr.add], (hc 0 hj3).1]
      exact hj) (by simp [Value.oneCell']) (by decide) (by unfold maxLen; omega) (by omega) (by omega) _ rfl
  refine ⟨g, cap, w', h1, ?_, hb1.grown h3 (by omega) (fun q hq => (ho.lt q hq).1), ?_⟩
  · rw [List.map_append, List.length_append]; exact h2
  · have := h3.size; omega
end Go.Proofs.Ytekjmkjghlbkbaa.Sw
