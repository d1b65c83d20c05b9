/-
  Sums in memory (layer 12): the walk of list.
-/
import Derived.Test.YtloackmpmhgkeaaCntNorm
import Derived.Test.YtloackmpmhgkeaaCntIter
import Derived.Deep.AppendLies
open Go Go.RowKit Go.Maps
namespace Go.Proofs.Ytloackmpmhgkeaa.Cnt
open Base Mp

theorem Keys_calls (mb : Option Nat) (W : World) : Calls Try.prog 32 #[.map mb] W fun e w' => e = .returned (.func (.func 35) #[] #[.pointer (some ⟨W.heap.size, 0, none⟩)]) ∧ w' = W.alloc (.cells #[.map mb] 46) :=
  (callsIn_wide (n := 5)).1 (Try.maps_Keys_32 mb W)
/-- The keys of a map, sorted, in a new row. -/
theorem Sorted_calls (b : Nat) (es : List (Lit × Value)) (w : World) (h : MapL Try.prog 9 w b es) (hn : es.length ≤ 8796093022207) :
    Calls Try.prog 31 #[.func (.func 35) #[] #[.pointer (some ⟨w.heap.size, 0, none⟩)]] (w.alloc (.cells #[.map (some b)] 46)) fun e w' => ∃ (v : Value) (ss : List (List UInt8)), e = .returned v ∧ ss.Perm (es.map fun p => strOf p.1) ∧
      w'.ownsRow (w.heap.size + 1) 9 1 v ss.length ((ss.mergeSort (fun x y => decide (x ≤ y))).map encStr) ∧ Below (w.heap.size + 1) (w.alloc (.cells #[.map (some b)] 46)) w' := by
  have hsz : Maps.size (DataW.map (es.map hv)) = es.length := size_hv es
  refine ((callsIn_wide (n := 5)).1 (Try.slices_Sorted_keys_31_32 b es.length (.map (es.map hv)) HV w h (by rw [hsz]; unfold maxLen; omega) (by rw [hsz]; omega))).mono ?_
  rintro e w' ⟨v, ss, rfl, hp, hr, -, hb⟩
  have hz : (w.alloc (.cells #[.map (some b)] 46)).heap.size = w.heap.size + 1 := by simp
  rw [hz] at hr hb
  refine ⟨v, ss, rfl, ?_, hr, hb⟩
  have : strKeys (DataW.map (es.map hv)) = es.map fun p => strOf p.1 := by
    show (es.map hv).map _ = _
    rw [List.map_map]
    rfl
  rw [← this]
  exact hp
theorem row_len {w : World} {base e size n : Nat} {v : Value} {xs : List Value} (h : w.ownsRow base e size v n xs) : (Builtin.len_ #[60] 3 #[v]).run Try.prog w = .ok (.int .i64 (n : Nat)) w := by
  rcases h with ⟨_, ⟨rfl, rfl⟩ | ⟨g, cap, cur, rfl, _⟩⟩
  · simp [Builtin.len_, run_underlying Try.underlying60, goInt]
  · simp [Builtin.len_, run_underlying Try.underlying60, goInt]
/-- A row of strings: its form, where it has a cell. -/
theorem row_str {w : World} {base e n : Nat} {v : Value} {ks : List (List UInt8)} (h : w.ownsRow base e 1 v n (ks.map encStr)) (i : Nat) (hi : i < n) : ∃ g cap, v = .slice (some ⟨g, 0, none⟩) n cap ∧ ∃ hk : i < ks.length, w.cell? ⟨g, i, none⟩ = some (.string (B (ks[i]))) := by
  obtain ⟨hl, ⟨rfl, rfl⟩ | ⟨g, cap, cur, rfl, hg, hb, hnc, hcm, hcs, ht⟩⟩ := h
  · omega
  · rw [List.length_map] at hl
    have hk : i < ks.length := by omega
    refine ⟨g, cap, rfl, hk, ?_⟩
    have h1 : (cur.toList.take (n * 1))[i]? = (ks.map encStr)[i]? := by rw [ht]
    rw [List.getElem?_take_of_lt (by omega), List.getElem?_map, List.getElem?_eq_getElem hk] at h1
    simp [World.cell?, hb, encStr] at h1 ⊢
    exact h1
theorem srt_eq {a b : List Key} (h : a.Perm b) : srt a = srt b :=
  (((srt_perm a).trans h).trans (srt_perm b).symm).eq_of_pairwise (fun _ _ _ _ h1 h2 => List.le_antisymm h1 h2) (srt_pair a) (srt_pair b)
theorem keys_plusE (es : Ent) : ((plusE es).map fun p => strOf p.1) = keysE es := by
  unfold plusE mapE keysE
  rw [List.map_map]
  refine List.map_congr_left fun p _ => ?_
  simp only [Function.comp]
  cases p.1 <;> rfl
def cntC (c : CntD) : List Value := [.string (B c.by_), u64 c.plus, u64 c.minus]
theorem infoCnt : (Try.prog.info? 43).map (fun i => (i.zero, i.size, i.bytes)) = some (some (.agg #[.string ⟨#[]⟩, .int .u64 0, .int .u64 0]), 3, 32) := by kernel_rfl
theorem flat_len (l : List CntD) : (l.flatMap cntC).length = l.length * 3 := by
  induction l with
  | nil => rfl
  | cons c r ih => rw [List.flatMap_cons, List.length_append, ih, List.length_cons]; simp [cntC]; omega
theorem rows_skip (f : Fn) (l : List Key) (k : Key) (h : live f k = false) : ((((l ++ [k]).filter (live f)).map (mk f)).flatMap cntC) = (((l.filter (live f)).map (mk f)).flatMap cntC) := by
  rw [List.filter_append, List.filter_cons, h]; simp
theorem rows_more (f : Fn) (l : List Key) (k : Key) (h : live f k = true) : ((((l ++ [k]).filter (live f)).map (mk f)).flatMap cntC) = (((l.filter (live f)).map (mk f)).flatMap cntC) ++ cntC (mk f k) := by
  rw [List.filter_append, List.filter_cons, h]; simp
theorem keysE_len {es : Ent} (hs : StrKeys es) {k : Key} (h : k ∈ keysE es) : k.length ≤ maxLen := by
  obtain ⟨p, hp, rfl⟩ := List.mem_map.1 h
  obtain ⟨k, hk, hl⟩ := hs p hp
  rw [hk]
  exact hl
set_option maxHeartbeats 1000000 in
theorem List_calls (w : World) (bp bm : Nat) (es : Ent) (h : SumsAt w bp bm es) (hu : InU es) (hs : StrKeys es) (hn : es.length ≤ 4398046511103) :
    Calls Try.prog 24 #[sumsV bp bm] w fun e w' => ∃ v m, e = .returned v ∧ w'.ownsRow w.heap.size 43 3 v m ((norm (keysE es) (fnE es)).flatMap cntC) ∧ m = (norm (keysE es) (fnE es)).length ∧ Below w.heap.size w w' := by
  have hlt1 := h.plus.lt
  have hlt2 := h.minus.lt
  have hb2 : Below w.heap.size w (w.alloc (.cells #[Value.map (some bp), Value.map (some bm)] 48)) := (Below.refl _ w).alloc (Nat.le_refl _) _
  have hc0 : (w.alloc (.cells #[Value.map (some bp), Value.map (some bm)] 48)).cell? ⟨w.heap.size, 0, none⟩ = some (.map (some bp)) := by simp
  have hc1 : (w.alloc (.cells #[Value.map (some bp), Value.map (some bm)] 48)).cell? ⟨w.heap.size, 1, none⟩ = some (.map (some bm)) := by simp
  have hz : (w.alloc (.cells #[Value.map (some bp), Value.map (some bm)] 48)).heap.size = w.heap.size + 1 := by simp
  have hK0 := (Keys_calls (some bp) (w.alloc (.cells #[Value.map (some bp), Value.map (some bm)] 48)))
  have hS0 := (Sorted_calls bp (plusE es) _ (h.next hb2).plus (by rw [plusE, mapE_length]; omega))
  rw [hz] at hK0 hS0
  have hK := Lib.hid hK0
  have hS := Lib.hid hS0
  clear hK0 hS0 hz
  unfold sumsV
  go_enter Try.func24, Try.ntmps24
  go_wp2_with (first
    | (go_at_call 32; with_reducible refine hK.out.mono ?_; rintro e w1 ⟨rfl, rfl⟩)
    | (go_at_call 31; with_reducible refine hS.out.mono ?_; rintro e w2 ⟨v, ss, rfl, hperm, hrow, hb⟩; have HLEN := row_len hrow))
  have hlk : (ss.mergeSort (fun x y => decide (x ≤ y))).length = ss.length := (List.mergeSort_perm _ _).length_eq
  generalize hks : ss.mergeSort (fun x y => decide (x ≤ y)) = ks at *
  have HP0 : MapL Try.prog 9 w2 bp (plusE es) := (((h.next hb2).plus.next ((Below.refl _ _).alloc (Nat.le_refl _) _)).below hb (by omega))
  have HM0 : MapL Try.prog 9 w2 bm (minusE es) := (((h.next hb2).minus.next ((Below.refl _ _).alloc (Nat.le_refl _) _)).below hb (by omega))
  have HC0 : w2.cell? ⟨w.heap.size, 0, none⟩ = some (.map (some bp)) := (hb.cell (p := ⟨w.heap.size, 0, none⟩) (by simp; omega)).trans (by simp)
  have HC1 : w2.cell? ⟨w.heap.size, 1, none⟩ = some (.map (some bm)) := (hb.cell (p := ⟨w.heap.size, 1, none⟩) (by simp; omega)).trans (by simp)
  have HB2 : Below w.heap.size w w2 := (hb2.alloc (by simp) _).trans (hb.mono (by omega))
  have HV := Lib.hid (And.intro hrow (And.intro HP0 (And.intro HM0 (And.intro HC0 (And.intro HC1 HB2)))))
  have HKS := Lib.hid hks
  have HU := Lib.hid (And.intro hu (And.intro hs hperm))
  have HR := Lib.hid h.keys
  clear hrow HP0 HM0 HC0 HC1 HB2 hu hs hperm hb hK hS hc0 hc1 hb2 HLEN h hks
  go_loopw [3, 11] (fun r u wr => ∃ i m : Nat, u = .int .i64 (i : Int) ∧ i ≤ ss.length ∧ m ≤ i ∧ wr.ownsRow (w.heap.size + 1) 43 3 r m ((((ks.take i).filter (live (fnE es))).map (mk (fnE es))).flatMap cntC) ∧ wr.ownsRow (w.heap.size + 1 + 1) 9 1 v ss.length (ks.map encStr) ∧
    MapL Try.prog 9 wr bp (plusE es) ∧ MapL Try.prog 9 wr bm (minusE es) ∧ wr.cell? ⟨w.heap.size, 0, none⟩ = some (.map (some bp)) ∧ wr.cell? ⟨w.heap.size, 1, none⟩ = some (.map (some bm)) ∧ Below w.heap.size w wr ∧ (∀ g, v.ownBlock = some g → r.ownBlock ≠ some g)) (fun _ u _ => ss.length - (intOf u).toNat)
  case atStart =>
    obtain ⟨h1, h2, h3, h4, h5, h6⟩ := HV.out
    have hnil : w2.ownsRow (w.heap.size + 1) 43 3 (.slice none 0 0) 0 [] := ⟨rfl, .inl ⟨rfl, rfl⟩⟩
    exact ⟨0, 0, rfl, Nat.zero_le _, Nat.le_refl _, by simpa using hnil, h1, h2, h3, h4, h5, h6, fun g _ e => by cases e⟩
  case round =>
    obtain ⟨i, m, rfl, hi, hmi, hown, hrow, hp, hm, hc0, hc1, hbe, hne⟩ := hrel
    by_cases hlt : i < ss.length
    · obtain ⟨g, cap, rfl, hk, hcell⟩ := row_str hrow i hlt
      have hmem : ks[i] ∈ keysE es := by
        have h1 := HU.out.2.2
        rw [keys_plusE] at h1
        have h2 : ks.Perm ss := by rw [← HKS.out]; exact List.mergeSort_perm _ _
        exact (h2.trans h1).mem_iff.1 (List.getElem_mem hk)
      have hse : ss.length = es.length := by
        have h1 := HU.out.2.2.length_eq
        rw [h1, List.length_map, plusE, mapE_length]
      have hkb : (ks[i]).length ≤ maxLen := keysE_len HU.out.2.1 hmem
      have hl1 := hp.look keyedS Try.underlying46 (zU wr) (keyB ks[i] hkb)
      have hl2 := hm.look keyedS Try.underlying46 (zU wr) (keyB ks[i] hkb)
      rw [look_plus] at hl1
      rw [look_minus] at hl2
      have hfn : fnE es ks[i] = getE es (keyS ks[i]) := rfl
      have htk : ks.take (i + 1) = ks.take i ++ [ks[i]] := List.take_succ_eq_append_getElem hk
      have hgl := (hrow.lt g rfl).2
      generalize ks[i] = kk at *
      generalize getE es (keyS kk) = pq at *
      obtain ⟨p, q⟩ := pq
      unfold u64 at hl1 hl2
      have HT := Lib.hid htk
      have HF := Lib.hid hfn
      have HN := Lib.hid hne
      have HSE := Lib.hid (And.intro hse hkb)
      have HW := Lib.hid (And.intro hown (And.intro hrow (And.intro hp (And.intro hm hbe))))
      have HB := Lib.hid (lt_of_cell hc0)
      have HLT := Lib.hid (And.intro hlt hmi)
      have hsb : ss.length ≤ 4398046511103 := by rw [HSE.out.1]; exact hn
      clear htk hfn hne hown hrow hp hm hbe hmem hse hkb
      by_cases hpq : p = 0 ∧ q = 0
      · obtain ⟨rfl, rfl⟩ := hpq
        go_wp2
        go_roundw
        case rel =>
          obtain ⟨hown, hrow, hp, hm, hbe⟩ := HW.out
          have hlt' := HLT.out
          refine ⟨i + 1, m, by go_num, by omega, by omega, ?_, hrow, hp, hm, hc0, hc1, hbe, HN.out⟩
          rw [HT.out, rows_skip _ _ _ (by simp [live, HF.out])]
          exact hown
        case measure => have hlt' := HLT.out; simp [intOf]; omega
      · have HL := Lib.hid (show live (fnE es) kk = true by simp only [live, HF.out, decide_eq_true_eq, ne_eq, Prod.mk.injEq]; exact hpq)
        obtain ⟨i0, hi0, hz0, hz1, hz2⟩ := info_parts infoCnt
        have HI := Lib.hid (And.intro hz0 (And.intro hz1 hz2))
        clear hz0 hz1 hz2
        by_cases hp0 : p = 0
        all_goals
          first
          | (have t3 : ((p : Int) == 0) = false := by simpa using hp0
             have t4 : ((p : Int) != 0) = true := by simpa using hp0)
          | (have hq0 : ¬ q = 0 := fun e => hpq ⟨hp0, e⟩
             have t1 : ((p : Int) == 0) = true := by simpa using hp0
             have t2 : ((p : Int) != 0) = false := by simpa using hp0
             have t3 : ((q : Int) == 0) = false := by simpa using hq0
             have t4 : ((q : Int) != 0) = true := by simpa using hq0
             clear hq0)
          clear hpq hp0
          go_wp2_with (at_builtin; (refine wpList_append_lies _ rfl _ _ _ rfl (w.heap.size + 1) 43 i0 _ 3 32 Try.underlying22 hi0 HI.out.1 HI.out.2.1 HI.out.2.2 rfl (by decide) _ m _ rfl (HW.out.1.alloc _) ⟨wr.heap.size, 0, none⟩ 1 1 [.string (B kk), .int .u64 (p : Int), .int .u64 (q : Int)] rfl rfl ?c1 ?c2 (by decide) ?c3 ?c4 ?c5 _ rfl ?_))
          case c2 => exact ⟨rfl, rfl, rfl⟩
          case c3 => unfold maxLen; have hlt' := HLT.out; omega
          case c4 => have hlt' := HLT.out; omega
          case c5 => have h5 : w.heap.size < wr.heap.size := HB.out; omega
          intro g2 cap2 w1 hown1 hgrow hat hlt1
          have hsz1 : (wr.alloc (.cells #[.string (B kk), .int .u64 (p : Int), .int .u64 (q : Int)] 43)).heap.size = wr.heap.size + 1 := by simp
          have hbz : w.heap.size < wr.heap.size := HB.out
          have hrb := fun k hk => (HW.out.1.lt k hk)
          have hal := (Below.refl _ wr).alloc (Nat.le_refl _) (.cells #[.string (B kk), .int .u64 (p : Int), .int .u64 (q : Int)] 43)
          have hbl1 := HW.out.2.2.2.2.alloc (Nat.le_of_lt hbz) (.cells #[.string (B kk), .int .u64 (p : Int), .int .u64 (q : Int)] 43)
          have hbl2 := hbl1.grown hgrow (by omega) (fun k hk => Nat.le_of_succ_le (hrb k hk).1)
          have hpl := (HW.out.2.2.1.next hal).kept hgrow (fun e => by have := (hrb _ e.symm).1; omega)
          have hmi1 := (HW.out.2.2.2.1.next hal).kept hgrow (fun e => by have := (hrb _ e.symm).1; omega)
          have hro1 := (HW.out.2.1.alloc (.cells #[.string (B kk), .int .u64 (p : Int), .int .u64 (q : Int)] 43)).kept hgrow (.inr fun e => HN.out g rfl e.symm)
          have hne1 : ∀ gg, (Value.slice (some ⟨g, 0, none⟩) ss.length cap).ownBlock = some gg → (Value.slice (some ⟨g2, 0, none⟩) (m + 1) cap2).ownBlock ≠ some gg := by
            intro gg e1 e2
            have e3 : g = gg := by simpa [Value.ownBlock] using e1
            have e4 : g2 = gg := by simpa [Value.ownBlock] using e2
            subst e3 e4
            rcases hat with h | h
            · exact HN.out g2 rfl h
            · omega
          have hc0' := hgrow.cell ((hal.cell (p := ⟨w.heap.size, 0, none⟩) hbz).trans hc0) (fun e => by have h7 : w.heap.size + 1 ≤ w.heap.size := (hrb _ e.symm).1; omega)
          have hc1' := hgrow.cell ((hal.cell (p := ⟨w.heap.size, 1, none⟩) hbz).trans hc1) (fun e => by have h7 : w.heap.size + 1 ≤ w.heap.size := (hrb _ e.symm).1; omega)
          have HOW := Lib.hid (And.intro hown1 (And.intro hro1 (And.intro hpl (And.intro hmi1 (And.intro hbl2 hne1)))))
          clear hown1 hro1 hpl hmi1 hbl2 hne1 hal hbl1 hgrow hat hrb
          go_wp2
          go_roundw
          case rel =>
            obtain ⟨hown, hrow, hp, hm, hbe, hne⟩ := HOW.out
            have hlt' := HLT.out
            refine ⟨i + 1, m + 1, by go_num, by omega, by omega, ?_, hrow, hp, hm, hc0', hc1', hbe, hne⟩
            rw [HT.out, rows_more _ _ _ HL.out]
            have hmk : cntC (mk (fnE es) kk) = [.string (B kk), .int .u64 (p : Int), .int .u64 (q : Int)] := by
              unfold cntC mk u64
              rw [HF.out]
            rw [hmk]
            exact hown
          case measure => have hlt' := HLT.out; simp [intOf]; omega
    · obtain rfl : i = ss.length := by omega
      rw [List.take_of_length_le (by omega)] at hown
      obtain ⟨-, -, hperm⟩ := HU.out
      rw [keys_plusE] at hperm
      have hn2 : (((ks.filter (live (fnE es))).map (mk (fnE es)))) = norm (keysE es) (fnE es) := by
        unfold norm
        rw [← srt_eq hperm, ← HKS.out]; rfl
      rw [hn2] at hown
      have hm3 := hown.1
      rw [flat_len] at hm3
      have HO := Lib.hid (And.intro hown hbe)
      clear hown hrow hp hm hc0 hc1 hbe hne hn2 hperm
      go_wp2
      go_ret
      exact ⟨_, m, rfl, own_lower HO.out.1 (by omega), by omega, HO.out.2⟩
end Go.Proofs.Ytloackmpmhgkeaa.Cnt
