/-
  Logs (layer 8): for LogKeeps: a disk with one file at most, under a fuse: what Open, Append, Sync, a crash make of it. No program in sight.
-/
import Derived.Test.YtpiaplgbpjgjiaaDoorLgRow
open Go Go.RowKit
namespace Go.Proofs.YtpiaplgbpjgjiaaDoor.Lg
open Base Mp Dk Frame

/-- A disk with the log's file alone, or with none. -/
def oneD (o : Option FileD) (fu : Bool) (ca : Nat) : DiskD := ⟨65536, (o.map fun F => (keyS nA, F)).toList, fu, ca⟩
theorem look_one (F : FileD) (fu : Bool) (ca : Nat) : lookL (oneD (some F) fu ca).files (keyS nA) = some F := rfl
theorem look_no (fu : Bool) (ca : Nat) : lookL (oneD none fu ca).files (keyS nA) = none := rfl
theorem with_one (F G : FileD) (fu : Bool) (ca : Nat) : withFile (oneD (some F) fu ca) (keyS nA) G = oneD (some G) fu ca := rfl
theorem done_one (o : Option FileD) (fu : Bool) (ca : Nat) : ∃ ca', done (oneD o fu ca) = oneD o fu ca' := by
  cases fu
  · exact ⟨ca, rfl⟩
  · exact ⟨ca - 1, rfl⟩
theorem op_one (F : FileD) (fu : Bool) (ca : Nat) (f : FileD → DiskD × Int) : opD (oneD (some F) fu ca) nA f = (oneD (some F) fu ca, 70) ∨ (still (oneD (some F) fu ca) = false ∧ opD (oneD (some F) fu ca) nA f = f F) := by
  unfold opD
  rw [look_one]
  by_cases h : still (oneD (some F) fu ca) = true
  · left; rw [if_pos h]
  · right; exact ⟨by simpa using h, by rw [if_neg h]⟩
theorem sync_one (F : FileD) (fu : Bool) (ca : Nat) : syncD (oneD (some F) fu ca) nA = (oneD (some F) fu ca, 70) ∨ ∃ ca', syncD (oneD (some F) fu ca) nA = (oneD (some ⟨F.bytes, F.bytes.length, false⟩) fu ca', 0) := by
  unfold syncD
  rcases op_one F fu ca (fun F => (done (withFile (oneD (some F) fu ca) (keyS nA) ⟨F.bytes, F.bytes.length, false⟩), 0)) with h | ⟨_, h⟩
  · exact .inl h
  · right
    obtain ⟨ca', hd⟩ := done_one (some ⟨F.bytes, F.bytes.length, false⟩) fu ca
    refine ⟨ca', h.trans ?_⟩
    rw [with_one, hd]
theorem cut_one (F : FileD) (fu : Bool) (ca m : Nat) (hm : m ≤ F.bytes.length) : cutD (oneD (some F) fu ca) nA (m : Int) = (oneD (some F) fu ca, 70) ∨ ∃ ca', cutD (oneD (some F) fu ca) nA (m : Int) = (oneD (some ⟨F.bytes.take m, m, false⟩) fu ca', 0) := by
  unfold cutD
  rcases op_one F fu ca (fun F => if (m : Int) < 0 ∨ (F.bytes.length : Int) < (m : Int) then (oneD (some F) fu ca, 2) else (done (withFile (oneD (some F) fu ca) (keyS nA) ⟨F.bytes.take (m : Int).toNat, (m : Int).toNat, false⟩), 0)) with h | ⟨_, h⟩
  · exact .inl h
  · right
    obtain ⟨ca', hd⟩ := done_one (some ⟨F.bytes.take m, m, false⟩) fu ca
    refine ⟨ca', h.trans ?_⟩
    rw [if_neg (by omega), Int.toNat_natCast, with_one, hd]
theorem append_one_ (F : FileD) (fu : Bool) (ca : Nat) (s : Key) : (∃ c, c ≠ 0 ∧ appendD (oneD (some F) fu ca) nA s = (oneD (some F) fu ca, c)) ∨ ∃ ca', appendD (oneD (some F) fu ca) nA s = (oneD (some ⟨F.bytes ++ s, F.sure, F.fresh⟩) fu ca', 0) := by
  unfold appendD
  rcases op_one F fu ca (fun F => if left (oneD (some F) fu ca) < s.length then (oneD (some F) fu ca, 6) else (done (withFile (oneD (some F) fu ca) (keyS nA) ⟨F.bytes ++ s, F.sure, F.fresh⟩), 0)) with h | ⟨_, h⟩
  · exact .inl ⟨70, by decide, h⟩
  · by_cases hl : left (oneD (some F) fu ca) < s.length
    · left
      refine ⟨6, by decide, h.trans ?_⟩
      rw [if_pos hl]
    · right
      obtain ⟨ca', hd⟩ := done_one (some ⟨F.bytes ++ s, F.sure, F.fresh⟩) fu ca
      refine ⟨ca', h.trans ?_⟩
      rw [if_neg hl, with_one, hd]
theorem create_one (fu : Bool) (ca : Nat) : createD (oneD none fu ca) nA = (oneD none fu ca, 70) ∨ ∃ ca', createD (oneD none fu ca) nA = (oneD (some ⟨[], 0, true⟩) fu ca', 0) := by
  unfold createD
  rw [if_neg (by rw [mayA]; decide)]
  by_cases h : still (oneD none fu ca) = true
  · left; rw [if_pos h]
  · right
    rw [if_neg h, if_neg (by rw [look_no]; decide), if_neg (by show ¬ 16 ≤ 0; decide)]
    obtain ⟨ca', hd⟩ := done_one (some ⟨[], 0, true⟩) fu ca
    refine ⟨ca', ?_⟩
    rw [← hd]
    rfl
/-- Ahead of Open. -/
structure Ahead (D : DiskD) (put : List Key) (sure : Nat) : Prop where
  disk : ∃ o fu ca, D = oneD o fu ca ∧ ((o = none ∧ sure = 0) ∨ ∃ m, o = some ⟨(puts put).take m, m, false⟩ ∧ (puts (put.take sure)).length ≤ m ∧ m ≤ (puts put).length)
  le : sure ≤ put.length
  short : ∀ t ∈ put, t.length ≤ 1048576
/-- Where Open was cut. -/
structure Fell (D : DiskD) (put : List Key) (sure : Nat) : Prop where
  disk : ∃ o fu ca, D = oneD o fu ca ∧ ((o = none ∧ sure = 0) ∨ (o = some ⟨[], 0, true⟩ ∧ sure = 0) ∨ ∃ m, o = some ⟨(puts put).take m, m, false⟩ ∧ (puts (put.take sure)).length ≤ m ∧ m ≤ (puts put).length)
  le : sure ≤ put.length
  short : ∀ t ∈ put, t.length ≤ 1048576
/-- Between two records. -/
structure Mid (D : DiskD) (L : LogD) (put : List Key) (sure : Nat) : Prop where
  disk : ∃ s fu ca, D = oneD (some ⟨puts put, s, false⟩) fu ca ∧ (puts (put.take sure)).length ≤ s ∧ s ≤ (puts put).length
  name : L.name = nA
  size : L.size = (puts put).length
  count : L.count = put.length
  sur : L.sure = sure
  le : sure ≤ put.length
  short : ∀ t ∈ put, t.length ≤ 1048576
theorem mid_fell {D : DiskD} {L : LogD} {put : List Key} {sure : Nat} (h : Mid D L put sure) : ∃ s fu ca, D = oneD (some ⟨puts put, s, false⟩) fu ca ∧ (puts (put.take sure)).length ≤ s ∧ s ≤ (puts put).length := h.disk
/-- A file that is a beginning of frames holds the whole ones of them. -/
theorem scan_part (put : List Key) (hs : ∀ t ∈ put, t.length ≤ 1048576) (m sure : Nat) (hm : m ≤ (puts put).length) (h1 : (puts (put.take sure)).length ≤ m) (hle : sure ≤ put.length) :
    ∃ j, sure ≤ j ∧ j ≤ put.length ∧ recs ((puts put).take m) = put.take j ∧ good ((puts put).take m) = (puts (put.take j)).length ∧ (puts (put.take j)).length ≤ m := by
  obtain ⟨j, e, a1, a2, a3, a4, a5, a6⟩ := scanAll_take put hs m hm
  have hlen : ((puts put).take m).length = m := by rw [List.length_take]; omega
  refine ⟨j, ?_, a1, by unfold recs; rw [a6], ?_, a2⟩
  · rcases a3 with a3 | ⟨t, ht, hlt⟩
    · omega
    · by_cases hj : sure ≤ j
      · exact hj
      · exfalso
        have hjl : j < put.length := (List.getElem?_eq_some_iff.1 ht).1
        have h2 : (puts (put.take (j + 1))).length ≤ (puts (put.take sure)).length := by
          have := puts_take_le (put.take sure) (j + 1)
          rw [List.take_take, Nat.min_eq_left (by omega)] at this
          exact this
        rw [puts_take_succ put j hjl, List.length_append] at h2
        have h3 : put[j] = t := by
          rw [List.getElem?_eq_getElem hjl] at ht
          injection ht
        rw [h3] at h2
        omega
  · unfold good
    rw [a6, hlen]
    simp only [List.length_drop, hlen]
    omega
theorem puts_part (put : List Key) (j : Nat) : (puts put).take (puts (put.take j)).length = puts (put.take j) := by
  have h := puts_take (put.take j) (put.drop j)
  rw [List.take_append_drop] at h
  exact h
theorem one_ne (h : (70 : Int) = 0) : False := by cases h
/-- What Open does. -/
theorem ahead_open {D : DiskD} {put : List Key} {sure : Nat} (h : Ahead D put sure) :
    (∃ D', openL D nA = (D', none, 70) ∧ Fell D' put sure) ∨ ∃ D' L j, openL D nA = (D', some (L, put.take j), 0) ∧ sure ≤ j ∧ j ≤ put.length ∧ Mid D' L (put.take j) j := by
  obtain ⟨o, fu, ca, rfl, ⟨rfl, h0⟩ | ⟨m, rfl, h1, h2⟩⟩ := h.disk
  · rcases create_one fu ca with hc | ⟨ca1, hc⟩
    · left
      refine ⟨oneD none fu ca, ?_, ⟨⟨none, fu, ca, rfl, .inl ⟨rfl, h0⟩⟩, h.le, h.short⟩⟩
      unfold openL
      rw [look_no]
      simp only
      rw [hc, if_neg one_ne]
    · have hm : mend (oneD (some ⟨[], 0, true⟩) fu ca1) nA [] true = syncD (oneD (some ⟨[], 0, true⟩) fu ca1) nA := by
        unfold mend
        rw [if_neg (by decide), if_pos (.inl rfl)]
      have ho : openL (oneD none fu ca) nA = ends nA [] (syncD (oneD (some ⟨[], 0, true⟩) fu ca1) nA) := by
        unfold openL
        rw [look_no]
        simp only
        rw [hc]
        simp only [if_true]
        rw [hm]
      rcases sync_one ⟨[], 0, true⟩ fu ca1 with hs | ⟨ca2, hs⟩
      · left
        refine ⟨oneD (some ⟨[], 0, true⟩) fu ca1, ?_, ⟨⟨_, fu, ca1, rfl, .inr (.inl ⟨rfl, h0⟩)⟩, h.le, h.short⟩⟩
        rw [ho, hs]
        unfold ends
        rw [if_neg one_ne]
      · right
        refine ⟨oneD (some ⟨[], 0, false⟩) fu ca2, ⟨nA, 0, 0, 0, false⟩, 0, ?_, by omega, Nat.zero_le _, ⟨⟨0, fu, ca2, rfl, Nat.le_refl _, Nat.le_refl _⟩, rfl, rfl, rfl, rfl, Nat.le_refl _, fun t ht => by simp at ht⟩⟩
        rw [ho, hs]
        unfold ends
        rw [if_pos rfl]
        rfl
  · obtain ⟨j, b1, b2, b3, b4, b5⟩ := scan_part put h.short m sure h2 h1 h.le
    have hlen : ((puts put).take m).length = m := by rw [List.length_take]; omega
    have ho : openL (oneD (some ⟨(puts put).take m, m, false⟩) fu ca) nA = ends nA ((puts put).take m) (mend (oneD (some ⟨(puts put).take m, m, false⟩) fu ca) nA ((puts put).take m) false) := by
      unfold openL
      rw [look_one]
    have hjl : (put.take j).length = j := by rw [List.length_take]; omega
    have hmid : ∀ ca', Mid (oneD (some ⟨puts (put.take j), (puts (put.take j)).length, false⟩) fu ca') (fresh nA ((puts put).take m)) (put.take j) j := fun ca' =>
      ⟨⟨_, fu, ca', rfl, by rw [List.take_of_length_le (by omega)]; exact Nat.le_refl _, Nat.le_refl _⟩, rfl, b4, by show (recs _).length = _; rw [b3], by show (recs _).length = _; rw [b3, hjl], by omega, fun t ht => h.short t (List.mem_of_mem_take ht)⟩
    by_cases hg : good ((puts put).take m) < ((puts put).take m).length
    · have hm : mend (oneD (some ⟨(puts put).take m, m, false⟩) fu ca) nA ((puts put).take m) false = cutD (oneD (some ⟨(puts put).take m, m, false⟩) fu ca) nA (good ((puts put).take m) : Int) := by
        unfold mend
        rw [if_pos hg]
      rcases cut_one ⟨(puts put).take m, m, false⟩ fu ca (good ((puts put).take m)) (by exact good_le _) with hs | ⟨ca2, hs⟩
      · left
        refine ⟨oneD (some ⟨(puts put).take m, m, false⟩) fu ca, ?_, ⟨⟨_, fu, ca, rfl, .inr (.inr ⟨m, rfl, h1, h2⟩)⟩, h.le, h.short⟩⟩
        rw [ho, hm, hs]
        unfold ends
        rw [if_neg one_ne]
      · right
        simp only at hs
        rw [b4, List.take_take, Nat.min_eq_left b5, puts_part] at hs
        refine ⟨_, fresh nA ((puts put).take m), j, ?_, b1, b2, hmid ca2⟩
        rw [ho, hm, b4, hs]
        unfold ends
        rw [if_pos rfl, b3]
    · have hgl := good_le ((puts put).take m)
      have hmj : m = (puts (put.take j)).length := by omega
      have hm : mend (oneD (some ⟨(puts put).take m, m, false⟩) fu ca) nA ((puts put).take m) false = (oneD (some ⟨(puts put).take m, m, false⟩) fu ca, 0) := by
        unfold mend
        rw [if_neg hg, if_neg]
        rintro (hh | hh)
        · cases hh
        · unfold looseD findD at hh
          rw [look_one] at hh
          simp only [hlen] at hh
          omega
      right
      refine ⟨_, fresh nA ((puts put).take m), j, ?_, b1, b2, hmid ca⟩
      rw [ho, hm]
      unfold ends
      rw [if_pos rfl, b3]
      have e1 : (puts put).take m = puts (put.take j) := by rw [hmj]; exact puts_part put j
      rw [e1, hmj]
/-- One record. -/
theorem mid_put {D : DiskD} {L : LogD} {put : List Key} {sure : Nat} (h : Mid D L put sure) (x : Key) (hx : x.length ≤ 1048576) :
    ∃ D' L' c, putRs D L [x] = (D', L', c) ∧ ((c = 0 ∧ Mid D' L' (put ++ [x]) sure) ∨ (c ≠ 0 ∧ Mid D' L' put sure)) := by
  obtain ⟨s, fu, ca, rfl, h1, h2⟩ := h.disk
  by_cases hb : L.broken = true
  · exact ⟨_, L, 3, by unfold putRs; rw [if_pos hb], .inr ⟨by decide, h⟩⟩
  · have hp : puts put ++ puts [x] = puts (put ++ [x]) := by unfold puts; rw [List.map_append, List.flatten_append]
    have ha := append_one_ ⟨puts put, s, false⟩ fu ca (puts [x])
    rw [← h.name] at ha
    rcases ha with ⟨c, hc, ha⟩ | ⟨ca', ha⟩
    · refine ⟨_, toldL L c, c, by unfold putRs; rw [if_neg hb, if_neg (by simp), ha, if_neg hc], .inr ⟨hc, ⟨⟨s, fu, ca, rfl, h1, h2⟩, ?_, ?_, ?_, ?_, h.le, h.short⟩⟩⟩
      · rw [told_name]; exact h.name
      · unfold toldL; split <;> exact h.size
      · unfold toldL; split <;> exact h.count
      · unfold toldL; split <;> exact h.sur
    · refine ⟨oneD (some ⟨puts put ++ puts [x], s, false⟩) fu ca', { L with size := L.size + (puts [x]).length, count := L.count + [x].length }, 0, by unfold putRs; rw [if_neg hb, if_neg (by simp), ha, if_pos rfl], .inl ⟨rfl, ⟨⟨s, fu, ca', by rw [hp], ?_, ?_⟩, h.name, ?_, ?_, h.sur, ?_, ?_⟩⟩⟩
      · rw [List.take_append_of_le_length h.le]; exact h1
      · rw [← hp, List.length_append]; omega
      · show L.size + (puts [x]).length = _
        rw [← hp, List.length_append, h.size]
      · show L.count + [x].length = _
        rw [List.length_append, h.count]
      · rw [List.length_append]; have := h.le; omega
      · intro t ht
        rcases List.mem_append.1 ht with ht | ht
        · exact h.short t ht
        · rw [List.mem_singleton.1 ht]; exact hx
theorem mid_keep {D : DiskD} {L : LogD} {put : List Key} {sure : Nat} (h : Mid D L put sure) :
    ∃ D' L' c, keepL D L = (D', L', c) ∧ ((c = 0 ∧ Mid D' L' put put.length) ∨ (c ≠ 0 ∧ Mid D' L' put sure)) := by
  obtain ⟨s, fu, ca, rfl, h1, h2⟩ := h.disk
  by_cases hb : L.broken = true
  · exact ⟨_, L, 3, by unfold keepL; rw [if_pos hb], .inr ⟨by decide, h⟩⟩
  · have ha := sync_one ⟨puts put, s, false⟩ fu ca
    rw [← h.name] at ha
    rcases ha with ha | ⟨ca', ha⟩
    · refine ⟨_, toldL L 70, 70, by unfold keepL; rw [if_neg hb, ha, if_neg one_ne], .inr ⟨by decide, ⟨⟨s, fu, ca, rfl, h1, h2⟩, ?_, ?_, ?_, ?_, h.le, h.short⟩⟩⟩
      · rw [told_name]; exact h.name
      · unfold toldL; split <;> exact h.size
      · unfold toldL; split <;> exact h.count
      · unfold toldL; split <;> exact h.sur
    · refine ⟨oneD (some ⟨puts put, (puts put).length, false⟩) fu ca', { L with sure := L.count }, 0, by unfold keepL; rw [if_neg hb, ha, if_pos rfl], .inl ⟨rfl, ⟨⟨(puts put).length, fu, ca', rfl, by rw [List.take_length]; exact Nat.le_refl _, Nat.le_refl _⟩, h.name, h.size, h.count, h.count, Nat.le_refl _, h.short⟩⟩⟩
/-- A crash. -/
theorem names_oneD (F : FileD) (fu : Bool) (ca : Nat) : namesD (oneD (some F) fu ca) = [nA] := names_one _ F rfl
theorem crash_none_ (fu : Bool) (ca : Nat) (keep : List Int) : crashD (oneD none fu ca) keep = oneD none false 0 := by
  unfold crashD crashed
  rw [show namesD (oneD none fu ca) = [] from List.length_eq_zero_iff.1 (by rw [names_len]; rfl)]
  rfl
theorem crash_one (F : FileD) (fu : Bool) (ca : Nat) (keep : List Int) (hs : F.sure ≤ F.bytes.length) : (F.fresh = true ∧ crashD (oneD (some F) fu ca) keep = oneD none false 0) ∨ ∃ m, F.sure ≤ m ∧ m ≤ F.bytes.length ∧ crashD (oneD (some F) fu ca) keep = oneD (some ⟨F.bytes.take m, m, false⟩) false 0 := by
  have hc : crashed (oneD (some F) fu ca) keep = (crash1 ((oneD (some F) fu ca).files, keep) nA).1 := by
    unfold crashed
    rw [names_oneD]
    rfl
  have hd : crashD (oneD (some F) fu ca) keep = ⟨65536, (crash1 ((oneD (some F) fu ca).files, keep) nA).1, false, 0⟩ := by
    unfold crashD
    rw [hc]
    rfl
  rw [hd]
  unfold crash1
  simp only
  rw [look_one]
  simp only
  split
  · next h =>
    right
    refine ⟨F.bytes.length, hs, Nat.le_refl _, ?_⟩
    rw [List.take_length]
    obtain ⟨b, s, f⟩ := F
    simp only at h hs ⊢
    rw [show s = b.length by omega, h.2]
    rfl
  · split
    · next h => exact .inl ⟨h.1, rfl⟩
    · exact .inr ⟨_, by unfold keptOf; omega, keptOf_le _ _ hs, rfl⟩
theorem fell_crash {D : DiskD} {put : List Key} {sure : Nat} (h : Fell D put sure) (keep : List Int) : Ahead (crashD D keep) put sure := by
  obtain ⟨o, fu, ca, rfl, ⟨rfl, h0⟩ | ⟨rfl, h0⟩ | ⟨m, rfl, h1, h2⟩⟩ := h.disk
  · rw [crash_none_]
    exact ⟨⟨none, false, 0, rfl, .inl ⟨rfl, h0⟩⟩, h.le, h.short⟩
  · rcases crash_one ⟨[], 0, true⟩ fu ca keep (Nat.le_refl _) with ⟨_, hc⟩ | ⟨m, h1, h2, hc⟩
    · rw [hc]
      exact ⟨⟨none, false, 0, rfl, .inl ⟨rfl, h0⟩⟩, h.le, h.short⟩
    · rw [hc]
      simp only [List.length_nil, Nat.le_zero] at h2
      subst h2
      refine ⟨⟨_, false, 0, rfl, .inr ⟨0, by simp, ?_, Nat.zero_le _⟩⟩, h.le, h.short⟩
      rw [h0]
      simp [puts]
  · have hlen : ((puts put).take m).length = m := by rw [List.length_take]; omega
    rcases crash_one ⟨(puts put).take m, m, false⟩ fu ca keep (by simp only [hlen]; exact Nat.le_refl _) with ⟨hf, _⟩ | ⟨m2, a1, a2, hc⟩
    · cases hf
    · rw [hc]
      simp only [hlen] at a1 a2
      obtain rfl : m2 = m := by omega
      refine ⟨⟨_, false, 0, rfl, .inr ⟨m2, ?_, h1, h2⟩⟩, h.le, h.short⟩
      rw [List.take_take, Nat.min_self]
theorem mid_crash {D : DiskD} {L : LogD} {put : List Key} {sure : Nat} (h : Mid D L put sure) (keep : List Int) : Ahead (crashD D keep) put sure := by
  obtain ⟨s, fu, ca, rfl, h1, h2⟩ := h.disk
  rcases crash_one ⟨puts put, s, false⟩ fu ca keep h2 with ⟨hf, _⟩ | ⟨m, a1, a2, hc⟩
  · cases hf
  · rw [hc]
    simp only at a1 a2
    exact ⟨⟨_, false, 0, rfl, .inr ⟨m, rfl, by omega, a2⟩⟩, h.le, h.short⟩
theorem ahead_fuse {D : DiskD} {put : List Key} {sure : Nat} (h : Ahead D put sure) (n : Nat) : ∃ D', fuseD D (n : Int) = (D', 0) ∧ Ahead D' put sure := by
  obtain ⟨o, fu, ca, rfl, hd⟩ := h.disk
  refine ⟨oneD o true n, ?_, ⟨o, true, n, rfl, hd⟩, h.le, h.short⟩
  unfold fuseD
  rw [if_neg (by omega), Int.toNat_natCast]
  rfl
theorem ahead_start : Ahead (DL0 65536) [] 0 := ⟨⟨none, false, 0, rfl, .inl ⟨rfl, rfl⟩⟩, Nat.le_refl _, fun t ht => by simp at ht⟩
end Go.Proofs.YtpiaplgbpjgjiaaDoor.Lg
