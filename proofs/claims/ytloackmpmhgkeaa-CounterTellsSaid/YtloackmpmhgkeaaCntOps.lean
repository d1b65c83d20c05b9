/-
  The counter's functions (layer 12): Value, Join, Fold.
-/
import Derived.Test.YtloackmpmhgkeaaCntGreat
import Derived.Test.YtloackmpmhgkeaaCntPlain
open Go Go.RowKit Go.Maps
namespace Go.Proofs.Ytloackmpmhgkeaa.Cnt
open Base Mp

/-- The value of a list. -/
def valE (l : List CntD) : Int := wrap64 (allV (putGs [] l))
def sliceC (p : Option Addr) (l : List CntD) (cap : Nat) : Value := .slice p l.length cap
theorem lists_one {w : World} {p : Option Addr} {l : List CntD} (cap : Nat) (t : TypeId) (h : CntsArg w p l) : ListsArg (w.alloc (.cells #[.slice p l.length cap] t)) (some ⟨w.heap.size, 0, none⟩) [l] := fun j hj => by
  obtain rfl : j = 0 := by simpa using hj
  have hb : Below w.heap.size w (w.alloc (.cells #[.slice p l.length cap] t)) := (Below.refl _ _).alloc (Nat.le_refl _) _
  exact ⟨w.heap.size, 0, p, cap, rfl, (cells_made w #[.slice p l.length cap] t 0 (by simp)).1, h.below hb⟩
theorem lists_two {w : World} {p q : Option Addr} {l m : List CntD} (cap cap' : Nat) (t : TypeId) (h : CntsArg w p l) (k : CntsArg w q m) : ListsArg (w.alloc (.cells #[.slice p l.length cap, .slice q m.length cap'] t)) (some ⟨w.heap.size, 0, none⟩) [l, m] := fun j hj => by
  have hb : Below w.heap.size w (w.alloc (.cells #[.slice p l.length cap, .slice q m.length cap'] t)) := (Below.refl _ _).alloc (Nat.le_refl _) _
  have hc := cells_made w #[.slice p l.length cap, .slice q m.length cap'] t
  rcases j with _ | _ | j
  · exact ⟨w.heap.size, 0, p, cap, rfl, (hc 0 (by simp)).1, h.below hb⟩
  · exact ⟨w.heap.size, 0, q, cap', rfl, (hc 1 (by simp)).1, k.below hb⟩
  · exact absurd (show j + 1 + 1 < 2 from hj) (by omega)
theorem wrap_mod {a b : Int} (h : a % 2 ^ 64 = b % 2 ^ 64) : wrap64 a = wrap64 b := by unfold wrap64; omega
/-- A list's counts are counts. -/
def Oks (l : List CntD) : Prop := ∀ c ∈ l, CntOk c
theorem Oks.inU {l : List CntD} (h : Oks l) : InU (putGs [] l) := InU.putGs l (fun c hc => ⟨(h c hc).plus, (h c hc).minus⟩) (fun p hp => by cases hp)
theorem Oks.str {l : List CntD} (h : Oks l) : StrKeys (putGs [] l) := StrKeys.putGs l (fun c hc => (h c hc).by_) (fun p hp => by cases hp)
theorem putGs_len (l : List CntD) : (putGs [] l).length ≤ l.length := by simpa using putGs_le l []
theorem Value_f (w : World) (p : Option Addr) (cap : Nat) (l : List CntD) (h : CntsArg w p l) (hn : l.length ≤ 4398046511103) :
    Calls Try.prog 13 #[.slice p l.length cap] w fun e w' => e = .returned (.int .i64 (valE l)) ∧ Below w.heap.size w w' := by
  have hb1 : Below w.heap.size w (w.alloc (.cells #[.slice p l.length cap] 22)) := (Below.refl _ _).alloc (Nat.le_refl _) _
  have hz : (w.alloc (.cells #[.slice p l.length cap] 22)).heap.size = w.heap.size + 1 := by simp
  have hG := Greatest_calls _ (some ⟨w.heap.size, 0, none⟩) 1 [l] (lists_one cap 22 h) (by simpa using hn) (by simp)
  have hOK := h.ok
  rw [hz, show [l].length = 1 from rfl] at hG
  have HG := Lib.hid hG
  have HO := Lib.hid (show Oks l from hOK)
  have HB := Lib.hid hb1
  clear hG hOK h hb1 hz
  go_enter Try.func13, Try.ntmps13
  go_wp2_with fail
  with_reducible refine HG.out.mono ?_
  rintro e w2 ⟨rfl, hs, hb, hz⟩
  rw [show [l].flatten = l by simp] at hs
  have HV := Lib.hid (Value_calls _ _ _ _ hs HO.out.inU)
  have HB2 := Lib.hid (HB.out.trans (hb.mono (by omega)))
  clear hs hb hz HG HB
  go_wp2_with fail
  with_reducible refine HV.out.mono ?_
  rintro e w3 ⟨⟨v, rfl, h0, h1, h2⟩, hb3⟩
  have HE := Lib.hid (show wrap64 v = valE l from wrap_mod h2)
  have HB3 := Lib.hid (later HB2.out hb3)
  clear h0 h1 h2 hb3 HV
  go_wp2
  go_ret
  exact ⟨by rw [HE.out]; rfl, HB3.out⟩
theorem Join_raw (w : World) (p q : Option Addr) (cap cap' : Nat) (a b : List CntD) (h : CntsArg w p a) (k : CntsArg w q b) (hn : a.length + b.length ≤ 4398046511103) :
    Calls Try.prog 16 #[.slice p a.length cap, .slice q b.length cap'] w fun e w' => ∃ v m, e = .returned v ∧ w'.ownsRow w.heap.size 43 3 v m ((norm (keysE (putGs [] (a ++ b))) (fOf (a ++ b))).flatMap cntC) ∧ m = (norm (keysE (putGs [] (a ++ b))) (fOf (a ++ b))).length ∧ Below w.heap.size w w' := by
  have hb1 : Below w.heap.size w (w.alloc (.cells #[.slice p a.length cap, .slice q b.length cap'] 22)) := (Below.refl _ _).alloc (Nat.le_refl _) _
  have hz : (w.alloc (.cells #[.slice p a.length cap, .slice q b.length cap'] 22)).heap.size = w.heap.size + 1 := by simp
  have hG := Greatest_calls _ (some ⟨w.heap.size, 0, none⟩) 2 [a, b] (lists_two cap cap' 22 h k) (by simpa using hn) (by simp)
  have hOK : Oks (a ++ b) := fun c hc => (List.mem_append.1 hc).elim (h.ok c) (k.ok c)
  rw [hz, show [a, b].length = 2 from rfl] at hG
  have HG := Lib.hid hG
  have HO := Lib.hid hOK
  have HB := Lib.hid hb1
  have HN := Lib.hid hn
  clear hG hOK h k hb1 hz hn
  go_enter Try.func16, Try.ntmps16
  go_wp2_with fail
  with_reducible refine HG.out.mono ?_
  rintro e w2 ⟨rfl, hs, hb, hz⟩
  rw [show [a, b].flatten = a ++ b by simp] at hs
  have hlen := putGs_len (a ++ b)
  rw [List.length_append] at hlen
  have HV := Lib.hid (List_calls _ _ _ _ hs HO.out.inU HO.out.str (by have := HN.out; omega))
  rw [fnE_putGs] at HV
  have HB2 := Lib.hid (HB.out.trans (hb.mono (by omega)))
  have HZ := Lib.hid hb.size
  clear hs hb hz HG HB hlen
  go_wp2_with fail
  with_reducible refine HV.out.mono ?_
  rintro e w3 ⟨v, m, rfl, ho, hm, hb3⟩
  have HB3 := Lib.hid (later HB2.out hb3)
  have HO3 := Lib.hid (own_lower ho HB2.out.size)
  have HM := Lib.hid hm
  clear hb3 HV ho hm
  go_wp2
  go_ret
  exact ⟨_, _, rfl, HO3.out, HM.out, HB3.out⟩
theorem together_f (w : World) : Calls Try.prog 23 #[] w fun e w' => e = .returned (.func (.func 30) #[] #[]) ∧ w' = w := by
  go_enter Try.func23, Try.ntmps23
  go_wp2
  go_ret
  exact ⟨rfl, rfl⟩
theorem SumsAt.dropped {w : World} {bp bm : Nat} {es : Ent} (h : SumsAt w bp bm es) (k : Key) (hk : k.length ≤ maxLen) (ty ty' : TypeId) :
    ∃ w1 w2, (Builtin.delete_ #[46, 9] ty #[.map (some bp), .string (B k)]).run Try.prog w = .ok (.tuple #[]) w1 ∧ (Builtin.delete_ #[46, 9] ty' #[.map (some bm), .string (B k)]).run Try.prog w1 = .ok (.tuple #[]) w2 ∧
      SumsAt w2 bp bm (delL es (keyS k)) ∧ Kept (fun i => i = bp) w w1 ∧ Kept (fun i => i = bp ∨ i = bm) w w2 := by
  obtain ⟨w1, h1, m1, t1⟩ := h.plus.drop keyedS Try.underlying46 (keyB k hk) ty
  have k1 : Kept (fun i => i = bp) w w1 := (Kept.refl _ w).turned t1 (.inl rfl)
  have hm : MapL Try.prog 9 w1 bm (minusE es) := h.minus.kept t1.grown (by intro e; injection e with e; exact h.apart e.symm)
  obtain ⟨w2, h2, m2, t2⟩ := hm.drop keyedS Try.underlying46 (keyB k hk) ty'
  refine ⟨w1, w2, h1, h2, ⟨h.apart, ?_, ?_⟩, k1, (k1.mono fun i hi => .inl hi).turned t2 (.inl (.inr rfl))⟩
  · have h3 := m1.kept t2.grown (by intro e; injection e with e; exact h.apart e)
    unfold plusE at h3 ⊢
    rw [← mapE_del]
    exact h3
  · unfold minusE at m2 ⊢
    rw [← mapE_del]
    exact m2



theorem Fold_raw (w : World) (p : Option Addr) (cap : Nat) (l : List CntD) (k : Key) (h : CntsArg w p l) (hn : l.length ≤ 4398046511102) (hk : k.length ≤ maxLen) :
    Calls Try.prog 18 #[.slice p l.length cap, .string (B k)] w fun e w' => ∃ v m, e = .returned v ∧ w'.ownsRow w.heap.size 43 3 v m ((norm (keysE (foldE (putGs [] l) k)) (fnE (foldE (putGs [] l) k))).flatMap cntC) ∧ m = (norm (keysE (foldE (putGs [] l) k)) (fnE (foldE (putGs [] l) k))).length ∧ Below w.heap.size w w' := by
  have hb1 : Below w.heap.size w (w.alloc (.cells #[.slice p l.length cap] 22)) := (Below.refl _ _).alloc (Nat.le_refl _) _
  have hz : (w.alloc (.cells #[.slice p l.length cap] 22)).heap.size = w.heap.size + 1 := by simp
  have hG := Greatest_calls _ (some ⟨w.heap.size, 0, none⟩) 1 [l] (lists_one cap 22 h) (by simp; omega) (by simp)
  have hOK := h.ok
  rw [hz, show [l].length = 1 from rfl, show [l].flatten = l by simp] at hG
  have HG := Lib.hid hG
  have HO := Lib.hid (show Oks l from hOK)
  have HB := Lib.hid hb1
  have hlen := putGs_len l
  have HL := Lib.hid (show (putGs [] l).length ≤ 4398046511102 by omega)
  clear hG hOK h hb1 hz hlen
  unfold sumsV at HG
  by_cases hk0 : k = []
  · have HF := Lib.hid (show foldE (putGs [] l) k = putGs [] l by unfold foldE; rw [if_pos hk0])
    have t1 : k.isEmpty = true := by rw [hk0]; rfl
    have t2 : (B k).toList = [] := by rw [B_toList]; exact hk0
    go_enter Try.func18, Try.ntmps18
    go_wp2_with fail
    with_reducible refine HG.out.mono ?_
    rintro e w2 ⟨rfl, hs, hb, hz⟩
    have hal := (Below.refl w2.heap.size w2).alloc (Nat.le_refl _) (.cells #[.map (some (w.heap.size + 1 + 1)), .map (some (w.heap.size + 1 + 1 + 1))] 48)
    have HV := Lib.hid (List_calls _ _ _ _ (hs.next hal) HO.out.inU HO.out.str (by have := HL.out; omega))
    have HB2 := Lib.hid ((HB.out.trans (hb.mono (by omega))).trans (hal.mono (Nat.le_trans (HB.out.trans (hb.mono (by omega))).size (Nat.le_refl _))))
    clear hs hb hz HG HB hal
    unfold sumsV at HV
    go_wp2_with fail
    with_reducible refine HV.out.mono ?_
    rintro e w3 ⟨v, m, rfl, ho, hm, hb3⟩
    have hz4 : (w2.alloc (.cells #[.map (some (w.heap.size + 1 + 1)), .map (some (w.heap.size + 1 + 1 + 1))] 48)).heap.size = w2.heap.size + 1 := by simp
    have HB3 := Lib.hid (HB2.out.trans (hb3.mono HB2.out.size))
    have HO3 := Lib.hid (own_lower ho HB2.out.size)
    have HM := Lib.hid hm
    clear hb3 HV ho hm hz4
    go_wp2
    go_ret
    rw [HF.out]
    exact ⟨_, _, rfl, HO3.out, HM.out, HB3.out⟩
  · have t1 : k.isEmpty = false := by cases k; exact absurd rfl hk0; rfl
    have t2 : ¬ (B k).toList = [] := by rw [B_toList]; exact hk0
    have HF := Lib.hid (fold_some (putGs [] l) hk0)
    have HK := Lib.hid hk
    clear hk
    go_enter Try.func18, Try.ntmps18
    go_wp2_with fail
    with_reducible refine HG.out.mono ?_
    rintro e w2 ⟨rfl, hs, hb, hz⟩
    have hal := (Below.refl w2.heap.size w2).alloc (Nat.le_refl _) (.cells #[.map (some (w.heap.size + 1 + 1)), .map (some (w.heap.size + 1 + 1 + 1))] 48)
    have hs2 := hs.next hal
    have HB2 := Lib.hid ((HB.out.trans (hb.mono (by omega))).trans (hal.mono (Nat.le_trans (HB.out.trans (hb.mono (by omega))).size (Nat.le_refl _))))
    have hc0 : (w2.alloc (.cells #[.map (some (w.heap.size + 1 + 1)), .map (some (w.heap.size + 1 + 1 + 1))] 48)).cell? ⟨w2.heap.size, 0, none⟩ = some (.map (some (w.heap.size + 1 + 1))) := by simp
    have hc1 : (w2.alloc (.cells #[.map (some (w.heap.size + 1 + 1)), .map (some (w.heap.size + 1 + 1 + 1))] 48)).cell? ⟨w2.heap.size, 1, none⟩ = some (.map (some (w.heap.size + 1 + 1 + 1))) := by simp
    have hlt1 : w.heap.size + 1 + 1 + 1 < w2.heap.size := hs.minus.lt
    go_wp2_with fail
    generalize (w2.alloc (.cells #[.map (some (w.heap.size + 1 + 1)), .map (some (w.heap.size + 1 + 1 + 1))] 48)) = W2 at *
    have hv := HO.out.inU.get (keyS k)
    have hd1 : MapL Try.prog 9 W2.drew _ (plusE (putGs [] l)) := hs2.plus.drew
    have hd2 : MapL Try.prog 9 W2.drew _ (minusE (putGs [] l)) := hs2.minus.drew
    have hlk1 := hd1.look keyedS Try.underlying46 (zU W2.drew) (keyB k HK.out)
    have hlk2 := hd2.look keyedS Try.underlying46 (zU W2.drew) (keyB k HK.out)
    rw [look_plus] at hlk1
    rw [look_minus] at hlk2
    generalize hgt : getE (putGs [] l) (keyS k) = pq at *
    obtain ⟨pp, qq⟩ := pq
    simp only at hv hlk1 hlk2
    have hP := Lib.hid (PutT_calls W2.drew _ _ _ ⟨[], pp, qq⟩ (show SumsAt W2.drew _ _ _ from ⟨hs2.apart, hd1, hd2⟩) (by have := HL.out; unfold maxLen; omega) (HO.out.inU.get _) (by simp) hv.1 hv.2)
    have hT := together_f W2.drew
    unfold u64 at hlk1 hlk2
    unfold sumsV cntV u64 at hP
    rw [show B [] = ⟨#[]⟩ from rfl] at hP
    have HGT := Lib.hid hgt
    clear hd1 hd2 hs hs2 hal hgt hz hb HG HB
    go_still_tail 11, (by kernel_rfl)
    still_call hT
    refine wpStill_nil ?_
    change wpList _ _ _ _ _ W2.drew
    go_wp2_with fail
    with_reducible refine hP.out.mono ?_
    rintro e w4 ⟨rfl, hs4, hk4⟩
    obtain ⟨w5, w6, hd5, hd6, hs6, hk5, hk6⟩ := hs4.dropped k HK.out 0 0
    have hWz : w2.heap.size < W2.drew.heap.size := lt_of_cell hc0
    have hc04 := (World.cell?_of_block (a := ⟨w2.heap.size, 0, none⟩) (hk4.block w2.heap.size hWz (by omega))).trans hc0
    have hc14 := (World.cell?_of_block (a := ⟨w2.heap.size, 1, none⟩) (hk4.block w2.heap.size hWz (by omega))).trans hc1
    have hc15 := (World.cell?_of_block (a := ⟨w2.heap.size, 1, none⟩) (hk5.block w2.heap.size (Nat.lt_of_lt_of_le hWz hk4.size) (by omega))).trans hc14
    have hc06 := (World.cell?_of_block (a := ⟨w2.heap.size, 0, none⟩) (hk6.block w2.heap.size (Nat.lt_of_lt_of_le hWz hk4.size) (by omega))).trans hc04
    have hc16 := (World.cell?_of_block (a := ⟨w2.heap.size, 1, none⟩) (hk6.block w2.heap.size (Nat.lt_of_lt_of_le hWz hk4.size) (by omega))).trans hc14
    have hes : delL (putT (putGs [] l) ⟨[], pp, qq⟩) (keyS k) = foldE (putGs [] l) k := by rw [HF.out]
    have HS6 := Lib.hid (show SumsAt w6 (w.heap.size + 1 + 1) (w.heap.size + 1 + 1 + 1) (foldE (putGs [] l) k) by rw [← hes]; exact hs6)
    have HB6 := Lib.hid ((HB2.out.drew.trans (hk4.below (K := w.heap.size) (fun i hi => by omega) HB2.out.size)).trans (hk6.below (K := w.heap.size) (fun i hi => by omega) (Nat.le_trans HB2.out.size hk4.size)))
    have HL6 := Lib.hid (List_calls _ _ _ _ HS6.out (HO.out.inU.fold k) (HO.out.str.fold k) (by have := foldE_le (putGs [] l) k; have := HL.out; omega))
    unfold sumsV at HL6
    clear hs4 hk4 hk5 hk6 hs6 hes hlk1 hlk2 hT hP
    go_wp2_with fail
    with_reducible refine HL6.out.mono ?_
    rintro e w7 ⟨v, m, rfl, ho, hm, hb7⟩
    have HB7 := Lib.hid (later HB6.out hb7)
    have HO7 := Lib.hid (own_lower ho HB6.out.size)
    have HM := Lib.hid hm
    clear hb7 ho hm HL6
    go_wp2
    go_ret
    exact ⟨_, _, rfl, HO7.out, HM.out, HB7.out⟩
end Go.Proofs.Ytloackmpmhgkeaa.Cnt
