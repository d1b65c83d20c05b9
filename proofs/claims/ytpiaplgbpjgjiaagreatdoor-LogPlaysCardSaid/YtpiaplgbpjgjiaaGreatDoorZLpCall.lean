/-
  The program's log beside the document's (layer 8): the calls of one step, one side after the other. Conditions: the sum's table is laid; the step's texts lie in memory that was there ahead of the call.
-/
import Derived.BigQuiet
import Derived.Test.YtpiaplgbpjgjiaaGreatDoorZLpSide
open Go Go.RowKit
namespace Go.Proofs.YtpiaplgbpjgjiaaGreatDoor.Lp
open Base Mp Dk Frame Lg

section
variable {w0 w w1 w2 w' : World} {b rb room i : Nat} {D D1 D' : DiskD} {lv lv' gv gv' : Value} {L L1 : LogD} {rs rs' : List Key} {m : Option LogD} {k : Option (LogD × List Key)} {S V : Nat → Prop}
theorem Both.lo (h : Both w0 w b rb D1 D lv gv m k S V) : w0.heap.size ≤ w.heap.size := h.p.lo
theorem step_p (h : Both w0 w b rb D D lv gv m k S V) (x : StepD) (sv : Value) (hx : TFit w x) (hki : IntsIn x.keep) (hfew : x.keep.length ≤ 1099511627776) :
    Calls Tryz.prog 15 #[.pointer (some ⟨b, 0, none⟩), .agg #[.int .i64 x.do_, .string (B x.name), .string (B x.s), .int .i64 x.n, .int .u8 (x.by_.toNat : Int), .slice x.kp x.keep.length x.kc, sv]] w fun e w' => e = .returned (.tuple #[]) ∧ Both w0 w' b rb (plD D x) D lv gv m k (More S w w') V ∧ Kept S w w' := by
  refine (disked_f h.p x sv hx hki hfew).mono ?_
  rintro e w' ⟨he, h1, h2⟩
  exact ⟨he, h.prog h1 h2, h2⟩
theorem step_d (h : Both w0 w b rb D1 D lv gv m k S V) (x : StepD) (sv : Value) (hx : TFit w x) :
    Calls Tryz.prog 16 #[.pointer (some ⟨rb, 0, none⟩), .agg #[.int .i64 x.do_, .string (B x.name), .string (B x.s), .int .i64 x.n, .int .u8 (x.by_.toNat : Int), .slice x.kp x.keep.length x.kc, sv]] w fun e w' => e = .returned (.tuple #[]) ∧ Both w0 w' b rb D1 (plD D x) lv gv m k S (More V w w') := by
  refine (h.d.tell (E := fun e => e = .returned (.tuple #[])) h.lo fun R g cap o _ hr => told_f hr x sv hx).mono ?_
  rintro e w' ⟨he, h1, h2⟩
  exact ⟨he, h.docu h1 h2⟩
theorem put_p {lb : Nat} (h : Both w0 w b rb D D (.pointer (some ⟨lb, 0, none⟩)) gv (some L) k S V) (hT : Crc.TabOk w0) (p : Option Addr) (cap : Nat) (xs : List Key) (hp : PutOk w p xs L) :
    Calls Tryz.prog 10 #[.pointer (some ⟨lb, 0, none⟩), .slice p xs.length cap] w fun e w' => e = .returned (.int .i64 (putRs D L xs).2.2) ∧ Both w0 w' b rb (putRs D L xs).1 D (.pointer (some ⟨lb, 0, none⟩)) gv (some (putRs D L xs).2.1) k (More S w w') V ∧ Kept S w w' := by
  refine (h.p.put (r := putRs D L xs) fun lb2 T e hx => ?_).mono ?_
  · have e2 : lb = lb2 := by
      unfold ptrP at e
      injection e with e
      injection e with e
      injection e with e
    subst e2
    exact LAppend_f hx hT p cap xs hp
  · rintro e w' ⟨he, h1, h2⟩
    exact ⟨he, h.prog h1 h2, h2⟩
/-- A region whose operations leave the world in a class: one walk, in the text's order. -/
theorem wp_region_class_lit {P : Program} {C : World → Prop} {id : Nat} {Q : Exit → Act → World → Prop} {a : Act} {w : World} {l : List Oper} (hm : P.follows .mixedOrders = true) (hB : Region.lexB .any l.toArray = true) (hC : C w.drew)
    (h : wpQuiet P l.toArray C (fun a' => ∀ w', C w' → Q .normal a' w') l a) : (Code.region id l.toArray true).wp P Q a w :=
  wp_region_quiet (C := C) hm hB hC (by simpa using h)
/-- A later world. -/
structure Later (w : World) where
  to_ : World
  below : Below w.heap.size w to_
/-- An append under a guard that is met, as a step of a region. -/
theorem step_append_w {P : Program} {w w' : World} {ops : Array Oper} {o : Oper} {a : Act} {K : Act → World → Prop} {Q : Exit → Act → World → Prop} {E : Prop} (hw : Region.wanted o (yielded ops a.tmps) = true) (s x : Operand) (t u : TypeId)
    (ho : o.op = .call { callee := .builtin .append, args := #[s, x], argTypes := #[t, u] }) {v xv v' : Value} (hs : a.eval s = v) (hx : a.eval x = xv) (hr : (Builtin.append_ #[t, u] o.type #[v, xv]).run P w = .ok v' w')
    (h : K (a.put o.dst v') w') : if Region.wanted o (yielded ops a.tmps) = true then Oper.wp P o a w K Q else E := by
  rw [if_pos hw]
  exact step_append_g s x t u ho hs hx hr h
theorem RGAppend_f {R : Nat → Prop} {gb : Nat} {v : Value} (h : GX w0 w rb gb v D L rs R) (p : Option Addr) (cap : Nat) (xs : List Key) (hp : GPutOk w p xs L) (hf : xs ≠ [] → ∀ a, p = some a → ¬ R a.block) (hw : w0.heap.size ≤ w.heap.size) : Calls Tryz.prog 11 #[.pointer (some ⟨gb, 0, none⟩), .slice p xs.length cap] w (GPost w0 w rb gb R v (putRs D L xs) (after D L rs xs)) := by
  by_cases h0 : xs = []
  · subst h0
    rw [show after D L rs [] = rs by unfold after; split <;> simp]
    exact RGAppend0_f h p cap
  · exact RGAppend1_f h p cap xs hp (hf h0) h0 hw
theorem put_d {gb : Nat} (h : Both w0 w b rb D1 D lv (.pointer (some ⟨gb, 0, none⟩)) m (some (L, rs)) S V) (p : Option Addr) (cap : Nat) (xs : List Key) (hp : GPutOk w p xs L) (ho : xs ≠ [] → ∀ a, p = some a → a.block < w0.heap.size) :
    Calls Tryz.prog 11 #[.pointer (some ⟨gb, 0, none⟩), .slice p xs.length cap] w fun e w' => e = .returned (.int .i64 (putRs D L xs).2.2) ∧ Both w0 w' b rb D1 (putRs D L xs).1 lv (.pointer (some ⟨gb, 0, none⟩)) m (some ((putRs D L xs).2.1, after D L rs xs)) S (More V w w') ∧ Kept V w w' := by
  refine (h.d.put (r := putRs D L xs) (rs' := after D L rs xs) h.lo fun gb2 v R e hR hg => ?_).mono ?_
  · have e2 : gb = gb2 := by
      unfold ptrP at e
      injection e with e
      injection e with e
      injection e with e
    subst e2
    exact RGAppend_f hg p cap xs hp (fun h0 a ha hr => by
      have := (h.d.old _ (hR _ hr)).1
      have := ho h0 a ha
      omega) h.lo
  · rintro e w' ⟨he, h1, h2⟩
    exact ⟨he, h.docu h1 h2, h2⟩
theorem keep_p {lb : Nat} (h : Both w0 w b rb D D (.pointer (some ⟨lb, 0, none⟩)) gv (some L) k S V) (hn : L.name = nA) :
    Calls Tryz.prog 12 #[.pointer (some ⟨lb, 0, none⟩)] w fun e w' => e = .returned (.int .i64 (keepL D L).2.2) ∧ Both w0 w' b rb (keepL D L).1 D (.pointer (some ⟨lb, 0, none⟩)) gv (some (keepL D L).2.1) k (More S w w') V := by
  refine (h.p.put (r := keepL D L) fun lb2 T e hx => ?_).mono ?_
  · have e2 : lb = lb2 := by
      unfold ptrP at e
      injection e with e
      injection e with e
      injection e with e
    subst e2
    exact LSync_f hx (by rw [hn]; decide)
  · rintro e w' ⟨he, h1, h2⟩
    exact ⟨he, h.prog h1 h2⟩
theorem keep_d {gb : Nat} (h : Both w0 w b rb D1 D lv (.pointer (some ⟨gb, 0, none⟩)) m (some (L, rs)) S V) :
    Calls Tryz.prog 13 #[.pointer (some ⟨gb, 0, none⟩)] w fun e w' => e = .returned (.int .i64 (keepL D L).2.2) ∧ Both w0 w' b rb D1 (keepL D L).1 lv (.pointer (some ⟨gb, 0, none⟩)) m (some ((keepL D L).2.1, rs)) S (More V w w') := by
  refine (h.d.put (r := keepL D L) (rs' := rs) h.lo fun gb2 v R e hR hg => ?_).mono ?_
  · have e2 : gb = gb2 := by
      unfold ptrP at e
      injection e with e
      injection e with e
      injection e with e
    subst e2
    exact RGSync_f hg
  · rintro e w' ⟨he, h1, h2⟩
    exact ⟨he, h.docu h1 h2⟩
/-- The records that Open tells. -/
def toldRs (k : Option (LogD × List Key)) : List Key := (k.map (·.2)).getD []
theorem open_p (h : Both w0 w b rb D D lv gv m k S V) (hT : Crc.TabOk w0) (hro : D.room ≤ 65535) :
    Calls Tryz.prog 8 #[.pointer (some ⟨b, 0, none⟩), .string ⟨#[97]⟩] w fun e w' => ∃ lv' p cap, e = .returned (.tuple #[lv', .slice p (toldRs (openL D nA).2.1).length cap, .int .i64 (openL D nA).2.2]) ∧ Both w0 w' b rb (openL D nA).1 D lv' gv ((openL D nA).2.1.map (·.1)) k (More S w w') V ∧ ((openL D nA).2.1 = none ↔ (openL D nA).2.2 ≠ 0) ∧
      RowArg w' p (strs (toldRs (openL D nA).2.1)) ∧ ∀ a, p = some a → (toldRs (openL D nA).2.1) ≠ [] → ¬ V a.block := by
  refine (h.p.open_ hT hro).mono ?_
  rintro e w' ⟨lv', p, cap, he, h1, h2, h3, h4⟩
  refine ⟨lv', p, cap, he, h.prog h1 h2, h3, fun j hj => ?_, fun a ha hne hv => ?_⟩
  · rw [strs_length] at hj
    obtain ⟨g, e1, e2, e3, e4⟩ := h4 j hj
    exact ⟨g, 0, e1, e3, by rw [Nat.zero_add, e4, strs_at _ _ hj]; rfl⟩
  · obtain ⟨g, e1, e2, e3, e4⟩ := h4 0 (List.length_pos_iff.2 hne)
    rw [e1] at ha
    injection ha with ha
    have h5 := (h.d.old _ hv).2
    rw [← ha] at h5
    exact absurd (Nat.lt_of_lt_of_le h5 e2) (Nat.lt_irrefl _)
theorem open_d (h : Both w0 w b rb D1 D lv gv m k S V) (hro : D.room ≤ 65535) :
    Calls Tryz.prog 9 #[.pointer (some ⟨rb, 0, none⟩), .string ⟨#[97]⟩] w fun e w' => ∃ gv', e = .returned (.tuple #[gv', .int .i64 (openL D nA).2.2]) ∧ Both w0 w' b rb D1 (openL D nA).1 lv gv' m (openL D nA).2.1 S (More V w w') ∧ Kept V w w' := by
  refine (h.d.open_ h.lo (by omega)).mono ?_
  rintro e w' ⟨gv', he, h1, h2⟩
  exact ⟨gv', he, h.docu h1 h2, h2⟩
/-- What stands behind a step. -/
theorem LP.made_open (h : LP w0 w b rb room i lv gv k D S V) {S' V' : Nat → Prop} (h2 : Both w0 w' b rb (openL D nA).1 (openL D nA).1 lv' gv' ((openL D nA).2.1.map (·.1)) (openL D nA).2.1 S' V') (hr : room ≤ 65535) : LP w0 w' b rb room (i + 1) lv' gv' (openL D nA).2.1 (openL D nA).1 S' V' :=
  ⟨h2, (open_room D nA).trans h.room, fun L rs hL => by
    have := (open_told h.both.p.fine hL).2
    rw [h.room] at this
    omega⟩
theorem LP.made_put (h : LP w0 w b rb room i lv gv (some (L, rs)) D S V) (xs : List Key) {S' V' : Nat → Prop} (h2 : Both w0 w' b rb (putRs D L xs).1 (putRs D L xs).1 lv' gv' (some (putRs D L xs).2.1) (some ((putRs D L xs).2.1, after D L rs xs)) S' V') (hr : room ≤ 65535) : LP w0 w' b rb room (i + 1) lv' gv' (some ((putRs D L xs).2.1, after D L rs xs)) (putRs D L xs).1 S' V' :=
  ⟨h2, (put_room D L xs).trans h.room, fun L2 rs2 hL => by
    simp only [Option.some.injEq, Prod.mk.injEq] at hL
    obtain ⟨rfl, rfl⟩ := hL
    obtain ⟨ht, hs⟩ := h.told
    obtain ⟨ys, -, -, h3⟩ := put_told (D := D) (xs := xs) ht
    rw [h.room] at h3
    omega⟩
theorem LP.made_keep (h : LP w0 w b rb room i lv gv (some (L, rs)) D S V) {S' V' : Nat → Prop} (h2 : Both w0 w' b rb (keepL D L).1 (keepL D L).1 lv' gv' (some (keepL D L).2.1) (some ((keepL D L).2.1, rs)) S' V') : LP w0 w' b rb room (i + 1) lv' gv' (some ((keepL D L).2.1, rs)) (keepL D L).1 S' V' :=
  ⟨h2, (keep_room D L).trans h.room, fun L2 rs2 hL => by
    simp only [Option.some.injEq, Prod.mk.injEq] at hL
    obtain ⟨rfl, rfl⟩ := hL
    obtain ⟨ht, hs⟩ := h.told
    have := (keep_told (D := D) ht).2
    omega⟩
theorem LP.made_step (h : LP w0 w b rb room i lv gv k D S V) (x : StepD) {S' V' : Nat → Prop} (h2 : Both w0 w' b rb (plD D x) (plD D x) lv gv (k.map (·.1)) k S' V') : LP w0 w' b rb room (i + 1) lv gv k (plD D x) S' V' :=
  ⟨h2, (pl_room D x).trans h.room, fun L rs hL => by have := h.size L rs hL; omega⟩
theorem nil_l (h : Both w0 w b rb D1 D lv gv m k S V) (W : World) : (binOp BinOp.eql 32 lv (.pointer none)).run Tryz.prog W = .ok (.bool m.isNone) W := by
  cases m with
  | none => rw [h.p.nil_]; kernel_rfl
  | some L =>
    obtain ⟨lb, T, e, -⟩ := h.p.log
    rw [e]
    kernel_rfl
theorem nil_g (h : Both w0 w b rb D1 D lv gv m k S V) (W : World) : (binOp BinOp.eql 36 gv (.pointer none)).run Tryz.prog W = .ok (.bool k.isNone) W := by
  cases k with
  | none => rw [h.d.nil_]; kernel_rfl
  | some x =>
    obtain ⟨L, rs⟩ := x
    obtain ⟨R, g, cap, o, h1, h2, h3, h4⟩ := h.d.disk
    obtain ⟨gb, v, e, hg⟩ := h4 L rs rfl
    rw [e]
    kernel_rfl
theorem guard_l (h : Both w0 w b rb D1 D lv gv m k S V) (s : Operand) (W : World) : (eqGuard BinOp.eql 32 s (.const (.pointer none)) lv (.pointer none)).run Tryz.prog W = .ok () W := by
  cases m with
  | none => rw [h.p.nil_]; rfl
  | some L =>
    obtain ⟨lb, T, e, -⟩ := h.p.log
    rw [e]
    rfl
theorem guard_g (h : Both w0 w b rb D1 D lv gv m k S V) (s : Operand) (W : World) : (eqGuard BinOp.eql 36 s (.const (.pointer none)) gv (.pointer none)).run Tryz.prog W = .ok () W := by
  cases k with
  | none => rw [h.d.nil_]; rfl
  | some x =>
    obtain ⟨L, rs⟩ := x
    obtain ⟨R, g, cap, o, h1, h2, h3, h4⟩ := h.d.disk
    obtain ⟨gb, v, e, hg⟩ := h4 L rs rfl
    rw [e]
    rfl
/-- The start. -/
theorem LP.start {T : Nat → Prop} (h : DX w0 w b (DL0 room) T) (hw : w0.heap.size ≤ w.heap.size) {R : Nat → Prop} {g cap : Nat} (hb : Below w.heap.size w w') (hd : RDAt w' rb g cap (DL0 room) none R) (hR : ∀ i, R i → w.heap.size ≤ i) : Both w0 w' b rb (DL0 room) (DL0 room) nilP nilP none none T R :=
  ⟨⟨⟨T, fun i hi => hi, h.later hb, fun _ => rfl, fun L hL => by cases hL⟩, fun i hi => ⟨h.own i hi, Nat.lt_of_lt_of_le (h.old i hi) hb.size⟩⟩,
    ⟨⟨R, g, cap, none, fun i hi => hi, hd, fun _ => rfl, fun L rs hL => by cases hL⟩, fun i hi => ⟨Nat.le_trans hw (hR i hi), hd.old i hi⟩⟩,
    fun i hi hr => by have := h.old i hi; have := hR i hr; omega⟩
end
end Go.Proofs.YtpiaplgbpjgjiaaGreatDoor.Lp
