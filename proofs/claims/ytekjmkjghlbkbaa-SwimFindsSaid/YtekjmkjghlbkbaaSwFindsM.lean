/-
  Swim (layer 22): for SwimFinds: a map of counts in memory; who is lost, counted. No condition but that names fit a string.
-/
import Derived.Test.YtekjmkjghlbkbaaSwTickAll
import Derived.Test.YtekjmkjghlbkbaaMaps
open Go Go.RowKit Go.Sort
namespace Go.Proofs.Ytekjmkjghlbkbaa.Sw
open Base

def keyS (f : Key) : Lit := .string f
theorem keyB (f : Key) (hf : f.length ≤ maxLen) : keyOf Try.prog 9 (.string (B f)) = some (keyS f) := by
  simp [keyOf, mapKey, Try.underlying9, keyS, B_size, B_data, hf]
theorem keyedS : Maps.Keyed Try.prog 9 := Maps.string_keyed Try.underlying9
theorem isKey (f : Key) : WideAt.IsKeyLit (keyS f) := by simp [WideAt.IsKeyLit, keyS]
theorem zI (w : World) : (zeroValue 3).run Try.prog w = .ok (.int .i64 0) w := by kernel_rfl
theorem bytes_next {w w' : World} {p : Option Addr} {l : List UInt8} (h : BytesArg w p l) (hb : Below w.heap.size w w') : BytesArg w' p l := fun j hj => by
  obtain ⟨b, o, he, hl, hc⟩ := h j hj
  exact ⟨b, o, he, Nat.lt_of_lt_of_le hl hb.size, (hb.cell (p := ⟨b, o + j, none⟩) hl).trans hc⟩
theorem bytes_kept {T : Nat → Prop} {w w' : World} {p : Option Addr} {l : List UInt8} {K : Nat} (h : BytesArg w p l) (hb : ∀ b o, p = some ⟨b, o, none⟩ → b < K ∨ l.length = 0) (hk : Kept T w w') (hT : ∀ i, T i → K ≤ i) : BytesArg w' p l := fun j hj => by
  obtain ⟨b, o, he, hl, hc⟩ := h j hj
  exact ⟨b, o, he, Nat.lt_of_lt_of_le hl hk.size, (World.cell?_of_block (a := ⟨b, o + j, none⟩) (hk.block b hl (fun ht => by have := hT b ht; have := hb b o he; omega))).trans hc⟩
/-- Block bm is a map of the counts f, of m entries at most. -/
def GoneAt (w : World) (bm : Nat) (f : Key → Nat) (m : Nat) : Prop := ∃ es, Mp.MapL Try.prog 9 w bm es ∧ es.length ≤ m ∧ ∀ key, (Mp.lookL es (keyS key)).getD (.int .i64 0) = .int .i64 (f key : Int)
def bump (f : Key → Nat) (k : Key) : Key → Nat := fun q => if q = k then f q + 1 else f q
theorem GoneAt.made (w : World) : GoneAt (w.alloc (.map #[] 0)) w.heap.size (fun _ => 0) 0 := ⟨[], Mp.made w _ _, Nat.le_refl _, fun _ => rfl⟩
theorem GoneAt.lt {w : World} {bm : Nat} {f : Key → Nat} {m : Nat} (h : GoneAt w bm f m) : bm < w.heap.size := by
  obtain ⟨es, hm, _⟩ := h
  exact hm.lt
theorem GoneAt.kept {T : Nat → Prop} {w w' : World} {bm : Nat} {f : Key → Nat} {m : Nat} (h : GoneAt w bm f m) (hk : Kept T w w') (hT : ¬ T bm) : GoneAt w' bm f m := by
  have hl := h.lt
  obtain ⟨es, ⟨xs, clock, hh, r⟩, h2⟩ := h
  exact ⟨es, ⟨xs, clock, (hk.block bm hl hT).trans hh, r⟩, h2⟩
theorem GoneAt.look {w : World} {bm : Nat} {f : Key → Nat} {m : Nat} (h : GoneAt w bm f m) (k : Key) (hk : k.length ≤ maxLen) : (Instr.lookup 33 (.map (some bm)) (.string (B k)) false).run Try.prog w = .ok (.int .i64 (f k : Int)) w := by
  obtain ⟨es, hm, _, hf⟩ := h
  have := hm.look keyedS Try.underlying33 (zI w) (keyB k hk)
  rw [hf] at this
  exact this
theorem GoneAt.bump {w : World} {bm : Nat} {f : Key → Nat} {m : Nat} (h : GoneAt w bm f m) (k : Key) (hk : k.length ≤ maxLen) (hm2 : m < maxLen) : ∃ w', (Instr.mapUpdate 33 (.map (some bm)) (.string (B k)) (.int .i64 ((f k : Int) + 1))).run Try.prog w = .ok () w' ∧ GoneAt w' bm (Sw.bump f k) (m + 1) ∧ Kept (fun x => x = bm) w w' := by
  obtain ⟨es, hm, hl, hf⟩ := h
  obtain ⟨w', h1, h2, h3⟩ := hm.store keyedS Try.underlying33 (by omega) (keyB k hk) (val := .int .i64 ((f k : Int) + 1))
  refine ⟨w', h1, ⟨_, h2, ?_, fun q => ?_⟩, Kept.turned (T := fun x => x = bm) (Kept.refl _ _) h3 (.inl rfl)⟩
  · have := (Mp.put_perm es (keyS k) (Value.int .i64 ((f k : Int) + 1))).length_eq
    rw [this]
    have h4 : (Mp.delL es (keyS k)).length ≤ es.length := List.length_filter_le _ _
    simp only [List.length_cons]
    omega
  · unfold Sw.bump
    by_cases hq : q = k
    · subst hq
      rw [if_pos rfl, Mp.look_put_same es (keyS q) (isKey q)]
      simp
    · rw [if_neg hq, Mp.look_put_other es (keyS k) (keyS q) (fun e => hq (by unfold keyS at e; injection e))]
      exact hf q
/-- What is known of the question and the lost ones ahead of the time x. -/
structure Lost (ans : Nat → Bool) (n k : Nat) (s : SwD) (f : Key → Nat) : Prop where
  target : k ≠ 0 → s.target = letter ((k - 1) % n) ∧ s.open_ = !ans ((k - 1) % n)
  none : ∀ i, i < n → ans i = true → f (letter i) = 0
  some : ∀ i, i < n → ans i = false → i + 2 ≤ k → 1 ≤ f (letter i)
  few : ∀ key, f key ≤ k
theorem Lost.start (ans : Nat → Bool) (n : Nat) (s : SwD) : Lost ans n 0 s fun _ => 0 := ⟨fun h => absurd rfl h, fun _ _ _ => rfl, fun i _ _ h => absurd h (by omega), fun _ => Nat.zero_le _⟩
theorem next_of (s : SwD) (n k : Nat) (h0 : 0 < n) (h1 : n ≤ 12) (hs : s.seq = k) (ht : k ≠ 0 → s.target = letter ((k - 1) % n)) : nextK s (letters n) = letter (k % n) := by
  unfold nextK
  rw [hs]
  by_cases hk : k = 0
  · subst hk
    rw [if_pos rfl, Nat.zero_mod]
    exact first_letter n h0
  · rw [if_neg hk, ht hk, next_letter n ((k - 1) % n) h1 (Nat.mod_lt _ h0), Nat.mod_add_mod, Nat.sub_add_cancel (by omega)]
theorem letter_ne' {i j : Nat} (hi : i < 12) (hj : j < 12) (h : i ≠ j) : letter i ≠ letter j := fun e => by
  rcases Nat.lt_or_gt_of_ne h with h | h
  · exact absurd (e ▸ letter_lt hj h) (List.lt_irrefl _)
  · exact absurd (e ▸ letter_lt hi h) (List.lt_irrefl _)
/-- A tick that begins none. -/
theorem Lost.same {ans : Nat → Bool} {n k : Nat} {s s' : SwD} {f : Key → Nat} (h : Lost ans n k s f) (h1 : s'.target = s.target) (h2 : s'.open_ = s.open_) : Lost ans n k s' f := ⟨fun hk => by rw [h1, h2]; exact h.target hk, h.none, h.some, h.few⟩
/-- A tick that begins one, behind one that was answered. -/
theorem Lost.next {ans : Nat → Bool} {n k : Nat} {s s' : SwD} {f : Key → Nat} (h : Lost ans n k s f) (ho : k ≠ 0 → s.open_ = false) (h1 : s'.target = letter (k % n)) (h2 : s'.open_ = !ans (k % n)) : Lost ans n (k + 1) s' f := by
  refine ⟨fun _ => by rw [Nat.add_sub_cancel]; exact ⟨h1, h2⟩, h.none, fun i hi ha hk => ?_, fun key => Nat.le_succ_of_le (h.few key)⟩
  by_cases hk2 : i + 2 ≤ k
  · exact h.some i hi ha hk2
  · have hki : k - 1 = i := by omega
    have h3 := (h.target (by omega)).2
    rw [ho (by omega), hki, Nat.mod_eq_of_lt hi, ha] at h3
    cases h3
/-- .. behind one that is lost. -/
theorem Lost.lost {ans : Nat → Bool} {n k : Nat} {s s' : SwD} {f : Key → Nat} (h : Lost ans n k s f) (hn : 0 < n) (hn2 : n ≤ 12) (hk0 : k ≠ 0) (ho : s.open_ = true) (h1 : s'.target = letter (k % n)) (h2 : s'.open_ = !ans (k % n)) : Lost ans n (k + 1) s' (bump f s.target) := by
  obtain ⟨t1, t2⟩ := h.target hk0
  rw [ho] at t2
  have ta : ans ((k - 1) % n) = false := by
    cases hh : ans ((k - 1) % n) with
    | false => rfl
    | true => rw [hh] at t2; cases t2
  have hin : (k - 1) % n < n := Nat.mod_lt _ hn
  refine ⟨fun _ => by rw [Nat.add_sub_cancel]; exact ⟨h1, h2⟩, fun i hi ha => ?_, fun i hi ha hk => ?_, fun key => ?_⟩
  · unfold bump
    rw [if_neg, h.none i hi ha]
    intro e
    rw [t1] at e
    by_cases hi2 : i = (k - 1) % n
    · rw [← hi2, ha] at ta; cases ta
    · exact letter_ne' (by omega) (by omega) hi2 e
  · unfold bump
    by_cases hk2 : i + 2 ≤ k
    · have := h.some i hi ha hk2
      split <;> omega
    · have hki : k - 1 = i := by omega
      rw [if_pos (by rw [t1, hki, Nat.mod_eq_of_lt hi])]
      omega
  · unfold bump
    have := h.few key
    split <;> omega
theorem Num.shut {P T O x k : Nat} {s : SwD} (h : Num P T O x k s) : Num P T O x k (Sw.shut s) := ⟨h.period, h.wait, h.others, h.now, h.seq, h.since, fun _ => rfl⟩
/-- What a tick leaves: none begun, and asks for one alone who does not answer; or one begun. -/
theorem rel_finds {T P O x k n : Nat} {s : SwD} {d : Nat} {s' : SwD} {A : List AskD} {L : List Key} {ans : Nat → Bool} {f : Key → Nat} (h : TickRel T P x k s (letters n) d s' A L) (hN : Num P T O x k s) (hl : Lost ans n k s f) (h0 : 0 < n) (h1 : n ≤ 12) :
    L.length ≤ 1 ∧ (∀ key ∈ L, key.length = 1) ∧ A.length ≤ O + 1 ∧
    ((x ≠ k * P ∧ L.length = 0 ∧ (∀ j, j < A.length → ∃ i0, i0 < n ∧ A[j]?.map (·.for_) = some (letter i0) ∧ ans i0 = false) ∧ Lost ans n k s' (L.foldl bump f)) ∨
     (x = k * P ∧ ∃ i1, i1 < n ∧ A = [⟨letter i1, [], k + 1⟩] ∧ s'.seq = k + 1 ∧ s'.open_ = true ∧ Lost ans n (k + 1) (if ans i1 = true then Sw.shut s' else s') (L.foldl bump f))) := by
  have hk1 : x < k * P → k ≠ 0 := by rintro h rfl; omega
  have hmem : k ≠ 0 → s.target ∈ letters n := fun hk => by
    rw [(hl.target hk).1]
    exact List.mem_map.2 ⟨_, List.mem_range.2 (Nat.mod_lt _ h0), rfl⟩
  have hnx := next_of s n k h0 h1 hN.seq (fun hk => (hl.target hk).1)
  have hne : ∀ (sx : SwD), sx.target = letter (k % n) → sx.open_ = true → (if ans (k % n) = true then Sw.shut sx else sx).target = letter (k % n) ∧ (if ans (k % n) = true then Sw.shut sx else sx).open_ = !ans (k % n) := fun sx ht ho => by
    cases ans (k % n) with
    | true => exact ⟨ht, rfl⟩
    | false => exact ⟨ht, ho⟩
  cases h with
  | still h ho =>
    refine ⟨by simp, fun _ h => absurd h (by simp), by simp, .inl ⟨by omega, rfl, fun j hj => absurd hj (by simp), hl.same rfl ?_⟩⟩
    rcases ho with ho | ho
    · exact ho.symm
    · exact absurd (hmem (hk1 h)) ho
  | wait h ho hm => exact ⟨by simp, fun _ h => absurd h (by simp), by simp, .inl ⟨by omega, rfl, fun j hj => absurd hj (by simp), hl.same rfl rfl⟩⟩
  | round h ho hm =>
    refine ⟨by simp, fun _ h => absurd h (by simp), ?_, .inl ⟨by omega, rfl, fun j hj => ?_, hl.same rfl rfl⟩⟩
    · have := round_len (askd (nowS s x)) (letters n) d
      have e : (askd (nowS s x)).others = (O : Int) := hN.others
      rw [e] at this
      omega
    · obtain ⟨t1, t2⟩ := hl.target (hk1 h)
      refine ⟨(k - 1) % n, Nat.mod_lt _ h0, ?_, ?_⟩
      · rw [List.getElem?_eq_getElem hj]
        have := (round_mem _ _ _ _ (List.getElem_mem hj)).2.1
        simp only [Option.map_some, this]
        exact congrArg some t1
      · rw [ho] at t2
        cases hh : ans ((k - 1) % n) with
        | false => rfl
        | true => rw [hh] at t2; cases t2
  | begin_ h ho =>
    refine ⟨by simp, fun _ h => absurd h (by simp), by simp, .inr ⟨h, k % n, Nat.mod_lt _ h0, by rw [hnx], by show s.seq + 1 = k + 1; rw [hN.seq], rfl, ?_⟩⟩
    obtain ⟨e1, e2⟩ := hne (begun (Sw.shut (nowS s x)) (nextK s (letters n))) hnx rfl
    refine hl.next (fun hk => ?_) e1 e2
    rcases ho with ho | ho
    · exact ho
    · exact absurd (hmem hk) ho
  | lost h ho hm =>
    have hk0 : k ≠ 0 := fun e => by rw [hN.first e] at ho; cases ho
    refine ⟨by simp, fun key hkey => ?_, by simp, .inr ⟨h, k % n, Nat.mod_lt _ h0, by rw [hnx], by show s.seq + 1 = k + 1; rw [hN.seq], rfl, ?_⟩⟩
    · rw [List.mem_singleton.1 hkey, (hl.target hk0).1]; rfl
    · obtain ⟨e1, e2⟩ := hne (begun (Sw.shut (nowS s x)) (nextK s (letters n))) hnx rfl
      exact hl.lost h0 h1 hk0 ho e1 e2
theorem GoneAt.mono {w : World} {bm : Nat} {f : Key → Nat} {m m' : Nat} (h : GoneAt w bm f m) (hm : m ≤ m') : GoneAt w bm f m' := by
  obtain ⟨es, h1, h2, h3⟩ := h
  exact ⟨es, h1, Nat.le_trans h2 hm, h3⟩
theorem letter_byte (i : Nat) (hi : i < 12) : ∃ c : UInt8, letter i = [c] ∧ (c.toNat : Int) = 97 + (i : Int) := by
  refine ⟨UInt8.ofNat (97 + i), rfl, ?_⟩
  rw [UInt8.toNat_ofNat', Nat.mod_eq_of_lt (by omega)]
  omega
end Go.Proofs.Ytekjmkjghlbkbaa.Sw
