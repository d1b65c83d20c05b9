/-
  CounterSums (layer 12): replicas in memory, deeds that came in; Join and Add with new rows.
-/
import Derived.Test.YtloackmpmhgkeaaCntSumsM
import Derived.Test.YtloackmpmhgkeaaCntOpen
open Go Go.RowKit Go.ChangeShapes Go.WideShapes
namespace Go.Proofs.Ytloackmpmhgkeaa.Cnt
open Base Mp

def New (w : World) (p : Option Addr) : Prop := ∀ a, p = some a → w.heap.size ≤ a.block
theorem newarg_of_own {w : World} {base m : Nat} {v : Value} {l : List CntD} (h : w.ownsRow base 43 3 v m (l.flatMap cntC)) (hm : m = l.length) (ho : Oks l) : ∃ p cap, v = .slice p l.length cap ∧ CntsArg w p l ∧ ∀ a, p = some a → base ≤ a.block := by
  obtain ⟨p, cap, rfl, h2⟩ := arg_of_own h hm ho
  refine ⟨p, cap, rfl, h2, fun a e => ?_⟩
  subst e
  rcases h.2 with ⟨h1, _⟩ | ⟨g, cap', cur, h1, hb, _⟩
  · cases h1
  · injection h1 with h1
    injection h1 with h1
    rw [h1]
    exact hb
def GivesN (w w' : World) (v : Value) (f : Fn) : Prop := ∃ p cap l, v = .slice p l.length cap ∧ CntsArg w' p l ∧ Canon l f ∧ New w p ∧ Below w.heap.size w w'
theorem givesN_of {w w' : World} {v : Value} {m : Nat} {es : Ent} (ho : w'.ownsRow w.heap.size 43 3 v m ((norm (keysE es) (fnE es)).flatMap cntC)) (hm : m = (norm (keysE es) (fnE es)).length) (hb : Below w.heap.size w w')
    (hu : InU es) (hs : StrKeys es) (hd : Dist es) : GivesN w w' v (fnE es) := by
  obtain ⟨p, cap, h1, h2, h3⟩ := newarg_of_own ho hm (oks_norm hu hs)
  exact ⟨p, cap, _, h1, h2, Canon.of hs hd, h3, hb⟩
theorem Join_n (w : World) (p q : Option Addr) (cap cap' : Nat) (a b : List CntD) (h : CntsArg w p a) (k : CntsArg w q b) (hn : a.length + b.length ≤ 4398046511103) :
    Calls Try.prog 16 #[.slice p a.length cap, .slice q b.length cap'] w fun e w' => ∃ v, e = .returned v ∧ GivesN w w' v (fOf (a ++ b)) := by
  have hOK : Oks (a ++ b) := fun c hc => (List.mem_append.1 hc).elim (h.ok c) (k.ok c)
  refine (Join_raw w p q cap cap' a b h k hn).mono ?_
  rintro e w' ⟨v, m, rfl, ho, hm, hb⟩
  refine ⟨v, rfl, ?_⟩
  rw [← fnE_putGs] at ho hm ⊢
  exact givesN_of ho hm hb hOK.inU hOK.str (dist_putGs _)
theorem Add_n (w : World) (p : Option Addr) (cap : Nat) (l : List CntD) (k : Key) (n : Int) (h : CntsArg w p l) (hn : l.length ≤ 4398046511102) (hk : k.length ≤ maxLen) (n1 : -9223372036854775808 ≤ n) (n2 : n ≤ 9223372036854775807)
    (hr : -9223372036854775808 ≤ valE l + n ∧ valE l + n ≤ 9223372036854775807) (hfit : (fOf l k).1 + n.toNat ≤ 2 ^ 63 ∧ (fOf l k).2 + (-n).toNat ≤ 2 ^ 63) :
    Calls Try.prog 9 #[.slice p l.length cap, .string (B k), .int .i64 n] w fun e w' => ∃ v, e = .returned (.tuple #[v, .int .i64 0]) ∧ GivesN w w' v (addF (fOf l) k n.toNat (-n).toNat) := by
  have hOK : Oks l := h.ok
  refine (Add_raw w p cap l k n h hn hk n1 n2 hr hfit).mono ?_
  rintro e w' ⟨v, m, rfl, ho, hm, hb⟩
  refine ⟨v, rfl, ?_⟩
  have := givesN_of ho hm hb (InU.putT hOK.inU _) (hOK.str.putT _ hk) ((dist_putGs l).put _ _)
  rw [show fnE (putT (putGs [] l) ⟨k, n.toNat, (-n).toNat⟩) = addF (fOf l) k n.toNat (-n).toNat by funext j; rw [fnE_putT, fnE_putGs]; rfl] at this
  exact this
theorem CntsArg.setCell {w : World} {p : Option Addr} {l : List CntD} (h : CntsArg w p l) {a : Addr} (ha : ∀ x, p = some x → x.block ≠ a.block) (u : Value) : CntsArg (w.setCell a u) p l := fun j hj => by
  obtain ⟨b, o, h1, ⟨c0, c1, c2⟩, h3⟩ := h j hj
  have hne : b ≠ a.block := ha _ h1
  have key : ∀ i v, w.cell? ⟨b, i, none⟩ = some v → (w.setCell a u).cell? ⟨b, i, none⟩ = some v := fun i v hc => by
    rw [World.cell?_setCell_other _ _ _ _ (by rintro rfl; exact hne rfl)]
    exact hc
  exact ⟨b, o, h1, ⟨key _ _ c0, key _ _ c1, key _ _ c2⟩, h3⟩
/-- The replicas in memory. -/
def AllAt (w : World) (b n : Nat) (F : Nat → List CntD) : Prop := ∀ k, k < n → ∃ p cap, w.cell? ⟨b, k, none⟩ = some (.slice p (F k).length cap) ∧ w.frozen? ⟨b, k, none⟩ = false ∧ CntsArg w p (F k) ∧ ∀ a, p = some a → a.block ≠ b
theorem AllAt.below {w w' : World} {b n : Nat} {F : Nat → List CntD} (h : AllAt w b n F) (hb : Below w.heap.size w w') : AllAt w' b n F := fun k hk => by
  obtain ⟨p, cap, h1, h2, h3, h4⟩ := h k hk
  have hlt := lt_of_cell h1
  exact ⟨p, cap, (hb.cell (p := ⟨b, k, none⟩) hlt).trans h1, (hb.frozen (p := ⟨b, k, none⟩) hlt).trans h2, h3.below hb, h4⟩
theorem AllAt.store {w : World} {b n K : Nat} {F : Nat → List CntD} (h : AllAt w b n F) {p : Option Addr} {cap : Nat} {l : List CntD} (hK : K < n) (hl : CntsArg w p l) (hp : ∀ a, p = some a → a.block ≠ b) : AllAt (w.setCell ⟨b, K, none⟩ (.slice p l.length cap)) b n (upd F K l) := fun k hk => by
  obtain ⟨q, cap', h1, h2, h3, h4⟩ := h k hk
  by_cases e : k = K
  · subst e
    refine ⟨p, cap, ?_, by rw [World.frozen?_setCell]; exact h2, ?_, hp⟩
    · rw [upd_same]; exact World.cell?_setCell_same _ _ _ h1
    · rw [upd_same]; exact hl.setCell hp _
  · refine ⟨q, cap', ?_, by rw [World.frozen?_setCell]; exact h2, ?_, h4⟩
    · rw [upd_other _ _ e, World.cell?_setCell_other _ _ _ _ (by intro e2; injection e2 with _ e3; exact e e3.symm)]; exact h1
    · rw [upd_other _ _ e]; exact h3.setCell h4 _
/-! ### Deeds -/
structure DeedD where
  n : Nat
  by_ : Int
  join : Bool
  other : Nat
structure DeedOk (d : DeedD) : Prop where
  n : d.n < 256
  b1 : -2147483648 ≤ d.by_
  b2 : d.by_ ≤ 2147483647
  other : d.other < 256
structure DeedAt (w : World) (b o : Nat) (d : DeedD) : Prop where
  c0 : w.cell? ⟨b, o, none⟩ = some (.int .u8 (d.n : Int))
  c1 : w.cell? ⟨b, o + 1, none⟩ = some (.int .i32 d.by_)
  c2 : w.cell? ⟨b, o + 2, none⟩ = some (.bool d.join)
  c3 : w.cell? ⟨b, o + 3, none⟩ = some (.int .u8 (d.other : Int))
theorem DeedAt.below {w w' : World} {b o : Nat} {d : DeedD} (h : DeedAt w b o d) (hlt : b < w.heap.size) (hb : Below w.heap.size w w') : DeedAt w' b o d := by
  have key : ∀ j v, w.cell? ⟨b, j, none⟩ = some v → w'.cell? ⟨b, j, none⟩ = some v := fun j v hc => (World.cell?_of_block (a := ⟨b, j, none⟩) (hb.block b hlt)).trans hc
  exact ⟨key _ _ h.c0, key _ _ h.c1, key _ _ h.c2, key _ _ h.c3⟩
def DeedsArg (w : World) (p : Option Addr) (l : List DeedD) : Prop := ∀ j (h : j < l.length), ∃ b o, p = some ⟨b, o, none⟩ ∧ DeedAt w b (o + j * 4) l[j] ∧ DeedOk l[j]
theorem DeedsArg.below {w w' : World} {p : Option Addr} {l : List DeedD} (h : DeedsArg w p l) (hb : Below w.heap.size w w') : DeedsArg w' p l := fun j hj => by
  obtain ⟨b, o, h1, h2, h3⟩ := h j hj
  exact ⟨b, o, h1, h2.below (lt_of_cell h2.c0) hb, h3⟩
theorem cellsDeed : Try.prog.cellsOf 38 = 4 := by kernel_rfl
theorem cellsU8 : Try.prog.cellsOf 5 = 1 := by kernel_rfl
theorem cellsI32 : Try.prog.cellsOf 21 = 1 := by kernel_rfl
theorem cellsBool : Try.prog.cellsOf 4 = 1 := by kernel_rfl
theorem open_deed {H : Type} {enc : TypeId × Value → H} {W : World} {fuel : Nat} {held : Bool} {cs : List Value} {x : DataW H × List MemPlace} (h : DataW.trod enc Try.prog W 0 (fun _ => true) held fuel 38 cs = some x) :
    ∃ d : DeedD, cs = [.int .u8 (d.n : Int), .int .i32 d.by_, .bool d.join, .int .u8 (d.other : Int)] ∧ DeedOk d := by
  obtain ⟨ys, n, -, -, hl, hyl, hf⟩ := DataW.trod_struct Try.underlying38 h
  rw [cellsDeed] at hl
  match cs, hl with
  | [c0, c1, c2, c3], _ =>
  have f0 : DataW.trod enc Try.prog W 0 (fun _ => true) held n 5 (([c0, c1, c2, c3].drop 0).take (Try.prog.cellsOf 5)) = ys[0]? := hf 0 _ rfl
  rw [cellsU8] at f0
  replace f0 : DataW.trod enc Try.prog W 0 (fun _ => true) held n 5 [c0] = ys[0]? := f0
  have f1 : DataW.trod enc Try.prog W 0 (fun _ => true) held n 21 (([c0, c1, c2, c3].drop 1).take (Try.prog.cellsOf 21)) = ys[1]? := hf 1 _ rfl
  rw [cellsI32] at f1
  replace f1 : DataW.trod enc Try.prog W 0 (fun _ => true) held n 21 [c1] = ys[1]? := f1
  have f2 : DataW.trod enc Try.prog W 0 (fun _ => true) held n 4 (([c0, c1, c2, c3].drop 2).take (Try.prog.cellsOf 4)) = ys[2]? := hf 2 _ rfl
  rw [cellsBool] at f2
  replace f2 : DataW.trod enc Try.prog W 0 (fun _ => true) held n 4 [c2] = ys[2]? := f2
  have f3 : DataW.trod enc Try.prog W 0 (fun _ => true) held n 5 (([c0, c1, c2, c3].drop 3).take (Try.prog.cellsOf 5)) = ys[3]? := hf 3 _ rfl
  rw [cellsU8] at f3
  replace f3 : DataW.trod enc Try.prog W 0 (fun _ => true) held n 5 [c3] = ys[3]? := f3
  have hyl' : ys.length = 4 := hyl
  obtain ⟨y0, e0⟩ : ∃ y, ys[0]? = some y := ⟨_, List.getElem?_eq_getElem (by omega)⟩
  obtain ⟨y1, e1⟩ : ∃ y, ys[1]? = some y := ⟨_, List.getElem?_eq_getElem (by omega)⟩
  obtain ⟨y2, e2⟩ : ∃ y, ys[2]? = some y := ⟨_, List.getElem?_eq_getElem (by omega)⟩
  obtain ⟨y3, e3⟩ : ∃ y, ys[3]? = some y := ⟨_, List.getElem?_eq_getElem (by omega)⟩
  rw [e0] at f0
  rw [e1] at f1
  rw [e2] at f2
  rw [e3] at f3
  obtain ⟨a0, g0, -, r0⟩ := DataW.trod_int Try.underlying5 f0
  obtain ⟨a1, g1, -, r1⟩ := DataW.trod_int Try.underlying21 f1
  obtain ⟨a2, g2, -⟩ := DataW.trod_bool Try.underlying4 f2
  obtain ⟨a3, g3, -, r3⟩ := DataW.trod_int Try.underlying5 f3
  injection g0 with g0
  injection g1 with g1
  injection g2 with g2
  injection g3 with g3
  subst g0 g1 g2 g3
  have b0 := bounds_u8 r0
  have b1 := bounds_i32 r1
  have b3 := bounds_u8 r3
  obtain ⟨n0, rfl⟩ := Int.eq_ofNat_of_zero_le b0.1
  obtain ⟨n3, rfl⟩ := Int.eq_ofNat_of_zero_le b3.1
  exact ⟨⟨n0, a1, a2, n3⟩, rfl, ⟨by simp only; omega, by simp only; omega, by simp only; omega, by simp only; omega⟩⟩
theorem open_deeds {H : Type} {enc : TypeId × Value → H} {W : World} {r : Reach} {b0 : Nat} {v : Value} {d : DataW H} {ps : List MemPlace} {held : Bool}
    (hval : Value.okWide Try.prog W r b0 35 v) (hd : DataW.Trod enc Try.prog W 0 (fun _ => true) held 35 v d ps) :
    ∃ (p : Option Addr) (l : List DeedD) (cap : Nat), v = .slice p l.length cap ∧ l.length ≤ maxLen ∧ l.length ≤ cap ∧ DeedsArg W p l := by
  obtain ⟨a, len, cap, rfl⟩ := okWide_slice Try.underlying35 hval
  obtain ⟨fuel, hf⟩ := hd
  rcases Go.Deep.open_slice Try.underlying35 hf with ⟨hcs, _⟩ | ⟨a', len', cap', m, n, D, Pl, hcs, hb, hl, hm, hmm, hx, hi⟩
  · simp [Value.cells] at hcs
    obtain ⟨rfl, rfl, rfl⟩ := hcs
    exact ⟨none, [], 0, rfl, by simp, by simp, fun j hj => by simp at hj⟩
  · simp [Value.cells] at hcs
    obtain ⟨rfl, rfl, rfl⟩ := hcs
    simp at hmm
    subst hmm
    have hex : ∀ i, ∃ c : DeedD, i < len → (∃ b o, a' = ⟨b, o, none⟩ ∧ DeedAt W b (o + i * 4) c ∧ DeedOk c) := by
      intro i
      by_cases hil : i < len
      · obtain ⟨cs', hc, ht⟩ := hi i (by omega)
        obtain ⟨s, rfl, hok⟩ := open_deed ht
        refine ⟨s, fun _ => ?_⟩
        obtain ⟨-, hlen, hcell⟩ := World.cells?_some hc
        rw [cellsDeed] at hcell
        obtain ⟨b, o, spot⟩ := a'
        have hspot : spot = none := by
          obtain ⟨cs0, hc0, ht0⟩ := hi 0 (by omega)
          obtain ⟨s0, rfl, -⟩ := open_deed ht0
          obtain ⟨-, -, hcell0⟩ := World.cells?_some hc0
          have h0 := hcell0 0 (by rw [cellsDeed]; omega)
          simpa [Addr.add] using World.cell?_spot (h0.trans rfl)
        subst hspot
        have hadd : ∀ k j : Nat, ((⟨b, o, none⟩ : Addr).add k).add j = ⟨b, o + k + j, none⟩ := fun k j => by by_cases hk : k = 0 <;> by_cases hj : j = 0 <;> simp [Addr.add, hk, hj]
        have e0 := hcell 0 (by omega)
        have e1 := hcell 1 (by omega)
        have e2 := hcell 2 (by omega)
        have e3 := hcell 3 (by omega)
        rw [hadd] at e0 e1 e2 e3
        exact ⟨b, o, rfl, ⟨e0, e1, e2, e3⟩, hok⟩
      · exact ⟨⟨0, 0, false, 0⟩, fun h => absurd h hil⟩
    obtain ⟨f, hf⟩ := Classical.axiomOfChoice hex
    refine ⟨some a', (List.range len).map f, m, by simp, by simp; omega, by simp; omega, fun j hj => ?_⟩
    have hj' : j < len := by simpa using hj
    obtain ⟨b, o, rfl, h1, h2⟩ := hf j hj'
    exact ⟨b, o, rfl, by simpa using h1, by simpa using h2⟩
end Go.Proofs.Ytloackmpmhgkeaa.Cnt
