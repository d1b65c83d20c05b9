/-
  The document's net (layer 30): the walks of At, Send, Drop, Turn. Condition: its struct and its row are the call's own; Send: fewer messages than may be.
-/
import Derived.Test.YtplfnjpoikhmbaaNtRefM
import Derived.Deep.RegionLaw
import Derived.WalkLawsBesides
open Go Go.RowKit
namespace Go.Proofs.Ytplfnjpoikhmbaa.Nt
open Base Mp

theorem wpList_append_run {P : Program} {w w' : World} {ops : Array Oper} {rest : List Oper} {o : Oper} {a : Act} {Q : Exit → Act → World → Prop} (hgd : o.guard = none) (s x : Operand) (t : TypeId)
    (ho : o.op = .call { callee := .builtin .append, args := #[s, x], argTypes := #[t, t] }) {v xv v' : Value} (hs : a.eval s = v) (hx : a.eval x = xv) (hr : (Builtin.append_ #[t, t] o.type #[v, xv]).run P w = .ok v' w')
    (h : wpList P ops Q rest (a.put o.dst v') w') : wpList P ops Q (o :: rest) a w :=
  wpList_plain hgd fun _ hK => by
    unfold Oper.wp execOp
    simp only [ho, resolve, invoke, builtin, Sem.run_bind, Sem.run_pure, Result.andThen_ok, List.map_toArray, List.map_cons, List.map_nil, hs, hx, hr]
    exact hK _ _ h
theorem step_append_run {P : Program} {w w' : World} {ops : Array Oper} {o : Oper} {a : Act} {K : Act → World → Prop} {Q : Exit → Act → World → Prop} {E : Prop} (hgd : o.guard = none) (s x : Operand) (t : TypeId)
    (ho : o.op = .call { callee := .builtin .append, args := #[s, x], argTypes := #[t, t] }) {v xv v' : Value} (hs : a.eval s = v) (hx : a.eval x = xv) (hr : (Builtin.append_ #[t, t] o.type #[v, xv]).run P w = .ok v' w')
    (h : K (a.put o.dst v') w') : if Region.wanted o (yielded ops a.tmps) = true then Oper.wp P o a w K Q else E := by
  have hw : Region.wanted o (yielded ops a.tmps) = true := by simp [Region.wanted, hgd]
  rw [if_pos hw]
  unfold Oper.wp execOp
  simp only [ho, resolve, invoke, builtin, Sem.run_bind, Sem.run_pure, Result.andThen_ok, List.map_toArray, List.map_cons, List.map_nil, hs, hx, hr]
  exact h
/-- The new row is the old one, or lies in a new block. -/
def Sprung (v v' : Value) (K : Nat) : Prop := ∀ k, v'.ownBlock = some k → v.ownBlock = some k ∨ K ≤ k
theorem Sprung.same (v : Value) (K : Nat) : Sprung v v K := fun _ h => .inl h
theorem append_gram (W : World) (base : Nat) (hb : base ≤ W.heap.size) (v : Value) (A : List GramD) (ho : W.ownsRow base 32 3 v A.length (A.flatMap gramC)) (x : GramD) (hm : A.length + 1 ≤ 2199023255552) :
    ∃ p cap w', (Builtin.append_ #[29, 29] 29 #[v, .slice (some ⟨W.heap.size, 0, none⟩) 1 1]).run Try.prog (W.alloc (.cells #[.int .u64 (x.id : Int), .string (B x.whom), .string (B x.text)] 32)) = .ok (.slice p (A.length + 1) cap) w' ∧
      w'.ownsRow base 32 3 (.slice p (A.length + 1) cap) (A ++ [x]).length ((A ++ [x]).flatMap gramC) ∧ Kept (fun i => v.ownBlock = some i) W w' ∧ Sprung v (.slice p (A.length + 1) cap) W.heap.size := by
  have hz := alloc_more W (.cells #[.int .u64 (x.id : Int), .string (B x.whom), .string (B x.text)] 32)
  have hc := cells_made W #[.int .u64 (x.id : Int), .string (B x.whom), .string (B x.text)] 32
  have hal : Below W.heap.size W (W.alloc (.cells #[.int .u64 (x.id : Int), .string (B x.whom), .string (B x.text)] 32)) := (Below.refl _ _).alloc (Nat.le_refl _) _
  obtain ⟨v', w', h1, h2, h3, h5⟩ := append_grams (W.alloc (.cells #[.int .u64 (x.id : Int), .string (B x.whom), .string (B x.text)] 32)) base (by omega) v A (ho.alloc _) ⟨W.heap.size, 0, none⟩ 1 [x] (fun j u hj => by
    have hj3 : j < 3 := by
      rcases Nat.lt_or_ge j 3 with h | h
      · exact h
      · rw [List.getElem?_eq_none (by rw [flat_gram]; simpa using h)] at hj; cases hj
    rw [show (⟨W.heap.size, 0, none⟩ : Addr).add j = ⟨W.heap.size, j, none⟩ by simp [Addr.add]; omega, (hc j hj3).1]
    have : j = 0 ∨ j = 1 ∨ j = 2 := by omega
    rcases this with rfl | rfl | rfl <;> simpa [gramC] using hj) (by simpa using hm)
  obtain ⟨p, cap, rfl⟩ := own_slice h2
  have e : (A ++ [x]).length = A.length + 1 := by simp
  rw [e] at h1 h2 h5
  rw [e]
  refine ⟨p, cap, w', h1, h2, ?_, ?_⟩
  · exact (Kept.of_below (T := fun i => v.ownBlock = some i) hal).trans (kept_grown h3) (fun i hi => .inl hi.symm)
  · intro k hk
    rcases h5 with h5 | h5
    · exact .inl (h5 ▸ hk)
    · right
      rw [h5] at hk
      injection hk with hk
      omega
set_option maxRecDepth 100000 in
set_option maxHeartbeats 1000000 in
theorem At_f {w : World} {rb base : Nat} {v : Value} {N : NetD} (h : RAt w rb base v N) (n : Nat) : Calls Try.prog 19 #[ptr rb, .int .u64 (n : Int)] w fun e w' => e = .returned (.int .i64 (atI N.G n)) ∧ w' = w := by
  obtain ⟨p, cap, rfl⟩ := h.slice
  have H := Lib.hid h
  have c0 := h.c0
  have hfew := h.fine.few
  clear h
  unfold ptr
  go_enter Try.func19, Try.ntmps19
  go_wp2
  go_loopw [5] (fun u wr => ∃ i : Nat, u = .int .i64 (i : Int) ∧ i ≤ N.G.length ∧ i ≤ atN N.G n ∧ wr = w) (fun u _ => N.G.length - (intOf u).toNat)
  case atStart => exact ⟨0, rfl, Nat.zero_le _, Nat.zero_le _, rfl⟩
  case round =>
    obtain ⟨i, rfl, hi, ha, rfl⟩ := hrel
    have HA := Lib.hid ha
    clear ha
    by_cases hlt : i < N.G.length
    · obtain ⟨g, cap', e, hcap, hb, hg, r0, r1, r2, -⟩ := H.out.at hlt
      obtain ⟨rfl, rfl⟩ : p = some ⟨g, 0, none⟩ ∧ cap = cap' := by
        injection e with e1 _ e2
        exact ⟨e1, e2⟩
      have tl : (i : Int) < (N.G.length : Int) := by omega
      have tz : 0 ≤ (i : Int) := by omega
      by_cases hid : N.G[i].id = n
      · have HE := Lib.hid (show atI N.G n = (i : Int) by unfold atI; rw [at_hit hlt HA.out hid, if_pos hlt])
        have q1 : ((N.G[i].id : Int) == (n : Int)) = true := by simp [hid]
        clear e hcap hb hg r1 r2 hid
        generalize N.G[i] = G1 at *
        go_wp2
        go_ret
        rw [HE.out]
        exact ⟨rfl, rfl⟩
      · have HM := Lib.hid (at_miss hlt HA.out hid)
        have q1 : ((N.G[i].id : Int) == (n : Int)) = false := by simpa using fun e => hid (by omega)
        clear e hcap hb hg r1 r2 hid
        generalize N.G[i] = G1 at *
        go_wp2
        go_roundw
        case rel => exact ⟨i + 1, by go_num, by omega, HM.out, by first | rfl | trivial⟩
        case measure => simp [intOf]; omega
    · have tl : ¬ (i : Int) < (N.G.length : Int) := by omega
      have HE := Lib.hid (show atI N.G n = -1 by unfold atI; exact if_neg (by have := HA.out; omega))
      go_wp2
      go_ret
      rw [HE.out]
      exact ⟨rfl, rfl⟩
set_option maxRecDepth 100000 in
set_option maxHeartbeats 1000000 in
theorem RSend_f {w : World} {rb base : Nat} {v : Value} {N : NetD} (h : RAt w rb base v N) (hf : N.G.length < 1024) (hl : N.last < 4611686018427387904) (to_ t : List UInt8) : Calls Try.prog 18 #[ptr rb, .string (B to_), .string (B t)] w fun e w' => e = .returned (.bool true) ∧ ∃ v', RAt w' rb base v' (putN N to_ t) ∧ Kept (fun i => i = rb ∨ v.ownBlock = some i) w w' ∧ Sprung v v' w.heap.size := by
  obtain ⟨p, cap, rfl⟩ := h.slice
  have c0 := h.c0
  have c1 := h.c1
  have f1 := h.f1
  have hlt := h.lt
  have eW : IntKind.u64.wrap ((N.last : Int) + 1) = (N.last : Int) + 1 := by rw [IntKind.wrap_u64]; omega
  have t1 : ¬ ((1024 : Int) ≤ (N.G.length : Int)) := by omega
  have hrow := fun k hk => h.row.lt k hk
  have hk1 : Kept (fun i => i = rb) w (w.setCell ⟨rb, 1, none⟩ (.int .u64 ((N.last : Int) + 1))) := (Kept.refl (fun i => i = rb) w).setCell (p := ⟨rb, 1, none⟩) (.inl rfl) _
  have hlo := h.lo
  have hd1 := h.head.set (i := 1) (by omega) (.int .u64 ((N.last : Int) + 1))
  have ho1 : (w.setCell ⟨rb, 1, none⟩ (.int .u64 ((N.last : Int) + 1))).drew.ownsRow base 32 3 (.slice p N.G.length cap) N.G.length (N.G.flatMap gramC) := (own_kept h.row hk1 (fun k hk e => by have := hrow k hk; omega)).drew
  have hz1 : (w.setCell ⟨rb, 1, none⟩ (.int .u64 ((N.last : Int) + 1))).drew.heap.size = w.heap.size := by simp
  obtain ⟨p', cap', w3, hr3, ho3, hk3, hs3⟩ := append_gram (w.setCell ⟨rb, 1, none⟩ (.int .u64 ((N.last : Int) + 1))).drew base (by rw [hz1]; exact h.top) _ N.G ho1 ⟨N.last + 1, to_, t⟩ (by omega)
  rw [hz1] at hr3 hs3
  have hne : ¬ (Value.slice p N.G.length cap).ownBlock = some rb := fun e => by have := hrow rb e; omega
  have hd3 := CellsAt.kept (w := (w.setCell ⟨rb, 1, none⟩ (.int .u64 ((N.last : Int) + 1))).drew) hd1 hk3 (by rw [hz1]; exact hlt) hne
  have q0 : w3.cell? ⟨rb, 0, none⟩ = some (.slice p N.G.length cap) := (hd3 0 (by omega)).1
  have g0 := (hd3 0 (by omega)).2
  have eL : ((N.last + 1 : Nat) : Int) = (N.last : Int) + 1 := by omega
  simp only [eL] at hr3
  have HR3 := Lib.hid hr3
  have HO3 := Lib.hid ho3
  have HK3 := Lib.hid (show Kept (fun i => i = rb ∨ (Value.slice p N.G.length cap).ownBlock = some i) w w3 from (show Kept (fun i => i = rb ∨ (Value.slice p N.G.length cap).ownBlock = some i) w (w.setCell ⟨rb, 1, none⟩ (.int .u64 ((N.last : Int) + 1))).drew from ⟨hk1.os, hk1.tape, hk1.output, hk1.size, fun i hi hn => hk1.block i hi (fun e => hn (.inl e))⟩).trans hk3 (fun i hi => .inl (.inr hi)))
  have HD3 := Lib.hid hd3
  have HS3 := Lib.hid hs3
  have H := Lib.hid h
  have e0 : (w.setCell ⟨rb, 1, none⟩ (.int .u64 ((N.last : Int) + 1))).cell? ⟨rb, 0, none⟩ = some (.slice p N.G.length cap) := (hd1 0 (by omega)).1
  have e1 : (w.setCell ⟨rb, 1, none⟩ (.int .u64 ((N.last : Int) + 1))).cell? ⟨rb, 1, none⟩ = some (.int .u64 ((N.last : Int) + 1)) := (hd1 1 (by omega)).1
  clear h hr3 ho3 hk3 hs3 hd3 hd1 ho1 hk1 hrow hne
  unfold ptr
  go_enter Try.func18, Try.ntmps18
  go_wp2
  go_region_law
    ((refine step_append_run (by rfl) _ _ _ (by rfl) (by rfl) (by rfl) HR3.out ?_))
  all_goals
    go_wp2
    go_ret
    have hfw := H.out.fine.put hf to_ t
    refine ⟨rfl, _, ⟨?_, ?_, H.out.lo, ?_, hfw⟩, ?_, HS3.out⟩
    · refine (CellsAt.set HD3.out (i := 0) (by omega) (.slice p' (N.G.length + 1) cap')).congr fun j hj => ?_
      have : j = 0 ∨ j = 1 ∨ j = 2 := by omega
      rcases this with rfl | rfl | rfl <;> rfl
    · have := ownsRow_setCell_below HO3.out (a := ⟨rb, 0, none⟩) H.out.lo (.slice p' (N.G.length + 1) cap')
      rw [List.length_append] at this
      simpa [putN] using this
    · have := HK3.out.size
      have := H.out.top
      simp; omega
    · exact HK3.out.setCell (p := ⟨rb, 0, none⟩) (.inl (.inl rfl)) _
end Go.Proofs.Ytplfnjpoikhmbaa.Nt
