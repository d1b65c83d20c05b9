/-
  The walk of SessionBounds (layer 28).
-/
import Derived.Test.YtejheedekiojnaaSessHeavy
import Derived.Test.YtejheedekiojnaaSessPhase
import Derived.Deep.RegionWith
open Go Go.RowKit
namespace Go.Proofs.Ytejheedekiojnaa.Sess
open Base Mp

theorem more_keys (S : St) (f : List UInt8) (h : Held) (p : PartD) (q : Lit × Held) (hq : q ∈ (more S f h p).1) : q.1 = keyS f ∨ ∃ r ∈ S, r.1 = q.1 := by
  unfold more at hq
  split at hq
  · exact .inr ⟨q, hq, rfl⟩
  · split at hq
    · exact .inr ⟨q, hq, rfl⟩
    · split at hq
      · rcases mem_set hq with ⟨h1, _⟩ | ⟨h1, _⟩
        · exact .inr ⟨q, h1, rfl⟩
        · exact .inl h1
      · exact .inr ⟨q, (mem_del hq).1, rfl⟩
theorem begin_keys (S : St) (f : List UInt8) (p : PartD) (q : Lit × Held) (hq : q ∈ (begin_ S f p).1) : q.1 = keyS f ∨ ∃ r ∈ S, r.1 = q.1 := by
  unfold begin_ at hq
  split at hq
  · exact .inr ⟨q, hq, rfl⟩
  · rcases more_keys _ _ _ _ _ hq with h | ⟨r, hr, he⟩
    · exact .inl h
    · rcases mem_put hr with rfl | ⟨h1, _⟩
      · exact .inl he.symm
      · exact .inr ⟨r, h1, he⟩
theorem sput_keys (S : St) (f : List UInt8) (p : PartD) (q : Lit × Held) (hq : q ∈ (sput S f p).1) : q.1 = keyS f ∨ ∃ r ∈ S, r.1 = q.1 := by
  unfold sput at hq
  split at hq
  · exact .inr ⟨q, hq, rfl⟩
  · split at hq
    · exact begin_keys _ _ _ _ hq
    · split at hq
      · exact .inr ⟨q, hq, rfl⟩
      · split at hq
        · rcases begin_keys _ _ _ _ hq with h | ⟨r, hr, he⟩
          · exact .inl h
          · exact .inr ⟨r, (mem_del hr).1, he⟩
        · exact more_keys _ _ _ _ _ hq
/-- Every sender is one of those from i to j of the script. -/
def Among (l : List StepD) (i j : Nat) (S : St) : Prop := ∀ q ∈ S, ∃ k, ∃ h : k < l.length, i ≤ k ∧ k < j ∧ q.1 = keyS l[k].who
theorem Among.put {l : List StepD} {j : Nat} {S : St} (h : Among l 0 j S) (hj : j < l.length) : Among l 0 (j + 1) (sput S l[j].who l[j].p).1 := by
  intro q hq
  rcases sput_keys _ _ _ _ hq with e | ⟨r, hr, e⟩
  · exact ⟨j, hj, Nat.zero_le _, Nat.lt_succ_self _, e⟩
  · obtain ⟨k, hk, _, h2, h3⟩ := h r hr
    exact ⟨k, hk, Nat.zero_le _, by omega, by rw [← e, h3]⟩
theorem Among.drop {l : List StepD} {i : Nat} {S : St} (h : Among l i l.length S) (hi : i < l.length) : Among l (i + 1) l.length (delL S (keyS l[i].who)) := by
  intro q hq
  obtain ⟨h1, h2⟩ := mem_del hq
  obtain ⟨k, hk, h3, h4, h5⟩ := h q h1
  refine ⟨k, hk, ?_, h4, h5⟩
  rcases Nat.lt_or_ge i k with h6 | h6
  · exact h6
  · have : k = i := by omega
    subst this
    rw [h5, key_self] at h2
    cases h2
theorem Among.done {l : List StepD} {S : St} (h : Among l l.length l.length S) : S = [] := by
  cases S with
  | nil => rfl
  | cons q r =>
    obtain ⟨k, _, h1, h2, _⟩ := h q (by simp)
    omega
theorem Solo.bounds {w : World} {m : Nat} {S : St} (h : Solo w m S) : S.length ≤ 32 ∧ heldS S ≤ 33554432 := by
  obtain ⟨blk, hs⟩ := h
  exact ⟨hs.few, heldS_le S (fun p hp => (hs.held p hp).2.1) hs.few⟩

set_option maxHeartbeats 8000000 in
set_option maxRecDepth 100000 in
theorem SessionBounds_calls (p : Option Addr) (l : List StepD) (cap : Nat) (w : World) (hl : l.length ≤ maxLen) (h : StepsArg w p l) :
    Calls Try.prog 5 #[.slice p l.length cap] w fun e w' => e = .returned (.bool true) ∧ Below w.heap.size w w' := by
  have HW := Lib.hid works_calls
  have HH := Lib.hid (heavy_calls p l cap w hl h)
  unfold maxLen at hl
  go_enter Try.func5, Try.ntmps5
  go_wp2_with fail
  refine HH.out.mono ?_
  clear HH
  rintro e w1 ⟨⟨v, rfl⟩, hb⟩
  have h1 := h.below hb
  have HB1 := Lib.hid hb
  clear hb h
  cases v with
  | true =>
    go_wp2_with fail
    refine (HW.out w1).mono ?_
    rintro e w2 ⟨rfl, hb⟩
    have HB2 := Lib.hid (later HB1.out hb)
    clear hb
    go_wp2
    go_ret
    exact ⟨rfl, HB2.out⟩
  | false =>
  go_wp2_with fail
  refine (New_solo w1).mono ?_
  rintro e w2 ⟨rfl, hs2, hbe⟩
  have hfar : ∀ wr, Below w1.heap.size w1 wr → Below w.heap.size w wr ∧ StepsArg wr p l := fun wr h => ⟨later HB1.out h, h1.below h⟩
  have HFAR := Lib.hid hfar
  have HS2 := Lib.hid hs2
  have HB2 := Lib.hid hbe
  clear hfar hs2 hbe h1 HB1
  generalize w1.heap.size = m at *
  have HPUT := Lib.hid (fun (w : World) (S : St) (s : StepD) (h : Solo w m S) (hk : StepOk s) => Put_solo w m S s.who s.p h hk.who ⟨hk.i1, hk.i2⟩ ⟨hk.n1, hk.n2⟩ hk.text)
  have HDROP := Lib.hid (fun (w : World) (S : St) (f : List UInt8) (c : Nat) h hf hc => Drop_solo w m S f c 0 1 h hf hc)
  have HL := Lib.hid (fun w S h => Len_solo w m S h)
  have HE := Lib.hid (fun w S h => Held_solo w m S h)
  unfold ptr at *
  go_wp2
  go_loopw [4] (fun v wr => ∃ (k : Nat) (S : St), v = .int .i64 k ∧ k ≤ l.length ∧ Solo wr m S ∧ Among l 0 k S ∧ Below m w1 wr) (fun v _ => l.length - (intOf v).toNat)
  case atStart => exact ⟨0, [], rfl, Nat.zero_le _, HS2.out, fun q hq => by simp at hq, HB2.out⟩
  case round =>
    obtain ⟨k, S, rfl, hk, hs, ha, hbe⟩ := hrel
    have HS := Lib.hid hs
    have HA := Lib.hid ha
    have HB := Lib.hid hbe
    clear hs ha hbe
    obtain ⟨hb0, hsteps⟩ := HFAR.out _ HB.out
    have HBW := Lib.hid hb0
    have HST := Lib.hid hsteps
    clear hb0 hsteps
    by_cases hlt : k < l.length
    · obtain ⟨b, o, rfl, hs, hok⟩ := HST.out k hlt
      obtain ⟨c0, c1, c2, c3, c4, c5⟩ := hs
      have t1 : (k : Int) < (l.length : Int) := by omega
      have HP := Lib.hid (HPUT.out wr.drew S l[k] (HS.out.later ((Below.refl _ wr).drew)) hok)
      have HA2 := Lib.hid (HA.out.put hlt)
      have HBD := Lib.hid (HB.out.drew)
      have HKK := Lib.hid hok
      unfold partV at HP
      clear hok
      generalize l[k] = x at *
      obtain ⟨who, gone, ⟨pid, pi, pn, pt⟩⟩ := x
      simp only at c0 c1 c2 c3 c4 c5
      go_wp2
      go_region_with (refine HP.out.mono ?_; rintro e w3 ⟨rfl, hs, hbe⟩)
      all_goals
        have HS3 := Lib.hid hs
        have HB3 := Lib.hid (HBD.out.trans hbe)
        obtain ⟨hS1, hS2⟩ := hs.bounds
        have H1 := Lib.hid (HL.out w3 _ hs)
        have H2 := Lib.hid (HE.out w3 _ hs)
        clear HP hs hbe c0 c1 c2 c3 c4 c5 HKK
        generalize (sput S who ⟨pid, pi, pn, pt⟩) = r at *
        unfold putV
        go_wp2_with fail
        refine H1.out.mono ?_
        clear H1
        rintro e w4 ⟨rfl, rfl⟩
        have t2 : ((List.length r.1 : Nat) : Int) ≤ 32 := by omega
        go_wp2_with fail
        refine H2.out.mono ?_
        clear H2
        rintro e w4 ⟨rfl, hs, hbe⟩
        have HS4 := Lib.hid hs
        have HB4 := Lib.hid (HB3.out.trans (hbe.mono (Nat.le_of_lt HS3.out.lt)))
        have t3 : ((heldS r.1 : Nat) : Int) ≤ 33554432 := by omega
        clear hs hbe
        go_wp2
        go_roundw
        case rel => exact ⟨k + 1, r.1, by go_num, by omega, HS4.out, HA2.out, HB4.out⟩
        case measure => simp [intOf]; omega
    · have hkl : k = l.length := by omega
      have HA3 := Lib.hid (show Among l 0 l.length S by rw [← hkl]; exact HA.out)
      have t1 : ¬ (k : Int) < (l.length : Int) := by omega
      clear HA hkl HST
      go_wp2
      clear t1
      go_loopw [5] (fun v wt => ∃ (j : Nat) (S : St), v = .int .i64 j ∧ j ≤ l.length ∧ Solo wt m S ∧ Among l j l.length S ∧ Below m w1 wt) (fun v _ => l.length - (intOf v).toNat)
      case atStart => exact ⟨0, S, rfl, Nat.zero_le _, HS.out, HA3.out, HB.out⟩
      case round =>
        obtain ⟨j, S, rfl, hj, hs, ha, hbe⟩ := hrel
        clear HS HA3 HB HBW
        have HS := Lib.hid hs
        have HA := Lib.hid ha
        have HB := Lib.hid hbe
        clear hs ha hbe
        obtain ⟨hb0, hsteps⟩ := HFAR.out _ HB.out
        have HBW := Lib.hid hb0
        have HST := Lib.hid hsteps
        clear hb0 hsteps
        by_cases hlt : j < l.length
        · obtain ⟨b, o, rfl, hs, hok⟩ := HST.out j hlt
          have c0 := hs.c0
          have hwho := hok.who
          have t1 : (j : Int) < (l.length : Int) := by omega
          have HA2 := Lib.hid (HA.out.drop hlt)
          clear hs hok
          generalize l[j] = x at *
          obtain ⟨who, gone, pd⟩ := x
          simp only at c0 hwho
          have hs6 := HS.out.later ((Below.refl wr.heap.size wr).alloc (Nat.le_refl _) (.cells #[.string (B who)] 9))
          have hb6 : Below m w1 (wr.alloc (.cells #[.string (B who)] 9)) := HB.out.alloc (Nat.le_of_lt HS.out.lt) _
          have hc6 : (wr.alloc (.cells #[.string (B who)] 9)).cell? ⟨wr.heap.size, 0, none⟩ = some (.string (B who)) := (cells_made wr #[.string (B who)] 9 0 (by simp)).1
          have HB6 := Lib.hid hb6
          have HD6 := Lib.hid (HDROP.out _ _ _ _ hs6 hwho hc6)
          clear hs6 hb6 hc6 hwho
          go_wp2_with fail
          refine HD6.out.mono ?_
          clear HD6
          rintro e w7 ⟨rfl, hs, hbe⟩
          have HS7 := Lib.hid hs
          have HB7 := Lib.hid (HB6.out.trans hbe)
          clear hs hbe
          go_wp2
          go_roundw
          case rel => exact ⟨j + 1, _, by go_num, by omega, HS7.out, HA2.out, HB7.out⟩
          case measure => simp [intOf]; omega
        · have hjl : j = l.length := by omega
          have hS0 : S = [] := by
            refine Among.done (l := l) ?_
            have := HA.out
            rw [hjl] at this
            exact this
          have t1 : ¬ (j : Int) < (l.length : Int) := by omega
          subst hS0
          clear hjl HA HST
          have HP := Lib.hid (Put_nil wr (.string ⟨#[97]⟩) ⟨0, 0, 1, []⟩)
          unfold partV at HP
          go_wp2_with fail
          refine HP.out.mono ?_
          clear HP
          rintro e w3 ⟨rfl, hbe⟩
          have HBW3 := Lib.hid (later HBW.out hbe)
          have HS3 := Lib.hid (HS.out.later hbe)
          clear hbe
          have hb4 : Below w3.heap.size w3 (w3.alloc (.cells #[.string ⟨#[97]⟩] 9)) := (Below.refl _ _).alloc (Nat.le_refl _) _
          have HBW4 := Lib.hid (later HBW3.out hb4)
          have HS4 := Lib.hid (HS3.out.later hb4)
          have HN := Lib.hid (fun v => Drop_nil (w3.alloc (.cells #[.string ⟨#[97]⟩] 9)) v)
          clear hb4
          go_wp2_with fail
          refine (HN.out _).mono ?_
          clear HN
          rintro e w4 ⟨rfl, rfl⟩
          generalize w3.alloc (.cells #[.string ⟨#[97]⟩] 9) = w4 at *
          have H1 := Lib.hid (HL.out w4 _ HS4.out)
          have H2 := Lib.hid (HE.out w4 _ HS4.out)
          go_wp2_with fail
          refine H1.out.mono ?_
          clear H1
          rintro e w5 ⟨rfl, rfl⟩
          go_wp2_with fail
          refine H2.out.mono ?_
          clear H2
          rintro e w5 ⟨rfl, -, hbe⟩
          have HB5 := Lib.hid (later HBW4.out hbe)
          clear hbe
          rw [show heldS [] = 0 from rfl]
          have HN1 := Lib.hid (Held_nil w5)
          have HN2 := Lib.hid (Len_nil w5)
          go_wp2_with fail
          refine HN1.out.mono ?_
          clear HN1
          rintro e w6 ⟨rfl, rfl⟩
          go_wp2_with fail
          refine HN2.out.mono ?_
          clear HN2
          rintro e w6 ⟨rfl, rfl⟩
          go_wp2_with fail
          refine (HW.out w5).mono ?_
          rintro e w6 ⟨rfl, hbe⟩
          have HB6 := Lib.hid (later HB5.out hbe)
          clear hbe
          go_wp2
          go_ret
          exact ⟨rfl, HB6.out⟩
end Go.Proofs.Ytejheedekiojnaa.Sess
