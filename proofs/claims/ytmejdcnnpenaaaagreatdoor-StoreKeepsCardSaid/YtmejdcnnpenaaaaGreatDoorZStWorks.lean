/-
  Stores (layer 9): the document's example, on plain data and walked. Condition: the tables are laid.
-/
import Derived.Test.YtmejdcnnpenaaaaGreatDoorZStM
import Derived.Test.YtmejdcnnpenaaaaGreatDoorZLgRow
open Go Go.RowKit
namespace Go.Proofs.YtmejdcnnpenaaaaGreatDoor.St
open Base Mp Dk Frame Lg

/-! On a disk without a fuse. -/
/-- A store that is open, on a disk without a fuse: how many bytes its files have at most. -/
structure Well (D : DiskD) (S : StoreD) (t : Key) (l : List Key) (s c r : Nat) : Prop where
  good : Good D S t l s
  fine : Fine D
  fused : D.fused = false
  total : total D.files ≤ c
  room : D.room = r
theorem Well.near {D D' : DiskD} {S S' : StoreD} {t t' : Key} {l l' : List Key} {s s' c r k : Nat} (h : Well D S t l s c r) (hg : Good D' S' t' l' s') (hk : Near D D' k) : Well D' S' t' l' s' (c + k) r :=
  ⟨hg, hk.fine, hk.fused.trans h.fused, by have := hk.total; have := h.total; omega, hk.room.trans h.room⟩
theorem no_fuse {D : DiskD} (h : D.fused = false) (h2 : D.fused = true) : False := by rw [h] at h2; cases h2
theorem well_open {D : DiskD} {N : Nat} {t : Key} {l : List Key} {s c r : Nat} (h : Held D N t l s) (hf : Fine D) (hu : D.fused = false) (ht : total D.files ≤ c) (hr : D.room = r) :
    ∃ D' j, openS D = (D', some (opened N j l, t, l.take j), 0) ∧ s ≤ j ∧ j ≤ l.length ∧ ((∃ sr fr, lookL D.files (keyS (logN N)) = some ⟨puts l, sr, fr⟩) → j = l.length) ∧ Well D' (opened N j l) t (l.take j) j c r := by
  rcases open_held h hf with ⟨e, _⟩ | ⟨D', j, h1, h2, h3, h4, h5, h6⟩
  · exact (no_fuse hu e).elim
  · exact ⟨D', j, h1, h2, h3, h4, h5, h6.fine, h6.fused.trans hu, by have := h6.total; omega, h6.room.trans hr⟩
theorem well_put {D : DiskD} {S : StoreD} {t : Key} {l : List Key} {s c r : Nat} (h : Well D S t l s c r) (x : Key) (hx : x.length ≤ 1048576) (hc : c + (8 + x.length) ≤ r) :
    ∃ D' S', putS D S [x] = (D', S', 0) ∧ S'.number = S.number ∧ Well D' S' t (l ++ [x]) s (c + (8 + x.length)) r := by
  rcases good_put h.good h.fine x hx with ⟨D', S', h1, h2, h3, h4⟩ | ⟨e, _⟩ | ⟨e, _⟩
  · exact ⟨D', S', h1, h3, h.near h2 h4⟩
  · exfalso
    have := h.total
    have := h.room
    unfold left at e
    omega
  · exact (no_fuse h.fused e).elim
theorem well_keep {D : DiskD} {S : StoreD} {t : Key} {l : List Key} {s c r : Nat} (h : Well D S t l s c r) :
    ∃ D' S', keepS D S = (D', S', 0) ∧ S'.number = S.number ∧ Well D' S' t l l.length c r := by
  rcases good_keep h.good h.fine with ⟨D', S', h1, h2, h3, h4⟩ | ⟨e, _⟩
  · exact ⟨D', S', h1, h3, h.near h2 h4⟩
  · exact (no_fuse h.fused e).elim
theorem well_save {D : DiskD} {S : StoreD} {t : Key} {l : List Key} {s c r : Nat} (h : Well D S t l s c r) (hn : S.number + 1 ≤ 1000000) (x : Key) (hx : x.length ≤ 1048576) (hc : c + (8 + x.length) ≤ r) :
    ∃ D' S', saveS D S x = (D', S', 0) ∧ S'.number = S.number + 1 ∧ Well D' S' x [] 0 (c + (8 + x.length)) r := by
  rcases good_save h.good h.fine hn x hx with ⟨D', S', h1, h2, h3, h4⟩ | ⟨e, _⟩ | ⟨e, _⟩
  · exact ⟨D', S', h1, h3, h.near h2 h4⟩
  · exfalso
    have := h.total
    have := h.room
    unfold left at e
    omega
  · exact (no_fuse h.fused e).elim
theorem puts_len (l : List Key) : l.length ≤ (puts l).length := by
  induction l with
  | nil => exact Nat.zero_le _
  | cons a r ih => rw [puts_cons, List.length_append, put_length, List.length_cons]; omega
theorem crash1_total {st : FS × List Int} (h1 : st.1.Pairwise fun p q => p.1 ≠ q.1) (h2 : ∀ p ∈ st.1, WideAt.IsKeyLit p.1) (n : Key) : Dk.total (crash1 st n).1 ≤ Dk.total st.1 := by
  unfold crash1
  split
  · exact Nat.le_refl _
  · next F hF =>
    split
    · exact Nat.le_refl _
    · split
      · exact total_del _ _
      · have := total_set (G := ⟨F.bytes.take (keptOf F (st.2.headD (-1))), keptOf F (st.2.headD (-1)), false⟩) h1 h2 hF (isKey n)
        have hle : (F.bytes.take (keptOf F (st.2.headD (-1)))).length ≤ F.bytes.length := by rw [List.length_take]; omega
        simp only at this
        show Dk.total (setL st.1 (keyS n) _) ≤ _
        omega
theorem crashed_total (l : List Key) (st : FS × List Int) (h1 : st.1.Pairwise fun p q => p.1 ≠ q.1) (h2 : ∀ p ∈ st.1, WideAt.IsKeyLit p.1) : Dk.total (l.foldl crash1 st).1 ≤ Dk.total st.1 := by
  induction l generalizing st with
  | nil => exact Nat.le_refl _
  | cons n r ih =>
    rw [List.foldl_cons]
    refine Nat.le_trans (ih _ (crash1_apart h1 n) fun p hp => ?_) (crash1_total h1 h2 n)
    obtain ⟨q, hq, e⟩ := crash1_keys st n p hp
    rw [← e]; exact h2 q hq
theorem crash_total {D : DiskD} (h : Fine D) (keep : List Int) : Dk.total (crashD D keep).files ≤ Dk.total D.files := crashed_total (namesD D) (D.files, keep) h.apart fun _ hp => h.key hp
theorem crash_fine {D : DiskD} (h : Fine D) (keep : List Int) : Fine (crashD D keep) :=
  ⟨Nat.le_trans (crashed_len (namesD D) (D.files, keep)) h.few, h.room, Nat.le_trans (crash_total h keep) h.fits, fun p hp => by
    obtain ⟨q, hq, e⟩ := crashed_keys (namesD D) (D.files, keep) p hp
    rw [← e]; exact h.names q hq, fun p hp => Nat.le_of_eq (crash_settles h keep p hp).1, crashed_apart (namesD D) (D.files, keep) h.apart, by show (0 : Nat) < 9223372036854775808; decide⟩
theorem Well.count {D : DiskD} {S : StoreD} {t : Key} {l : List Key} {s c r : Nat} (h : Well D S t l s c r) : S.log.count = l.length ∧ S.log.sure = s ∧ S.log.name = logN S.number ∧ S.log.size = (puts l).length ∧ S.log.name.length ≤ maxLen ∧ (puts l).length ≤ c ∧ l.length ≤ c := by
  have hl := h.good.log
  obtain ⟨sr, fr, hfile⟩ := h.good.file
  have h1 := total_mem (mem_of_look hfile)
  have h2 := h.total
  have hp := puts_len l
  refine ⟨by rw [hl], by rw [hl], by rw [hl], by rw [hl], ?_, Nat.le_trans h1 h2, Nat.le_trans hp (Nat.le_trans h1 h2)⟩
  rw [hl]
  show (logN S.number).length ≤ maxLen
  rw [logN_len (by have := h.good.held.num; omega)]
  decide
/-- The example. -/
theorem sworks_plain : ∃ D1 S1 D2 S2 D3 S3 D4 S4 D5 S5 D6 S6 D7 S7, openS (DL0 1000) = (D1, some (S1, [], []), 0) ∧ putS D1 S1 [[97]] = (D2, S2, 0) ∧ keepS D2 S2 = (D3, S3, 0) ∧ saveS D3 S3 [120] = (D4, S4, 0) ∧ putS D4 S4 [[98]] = (D5, S5, 0) ∧ keepS D5 S5 = (D6, S6, 0) ∧ openS (crashD D6 []) = (D7, some (S7, [120], [[98]]), 0) ∧
    Well D1 S1 [] [] 0 0 1000 ∧ Well D2 S2 [] [[97]] 0 9 1000 ∧ Well D3 S3 [] [[97]] 1 9 1000 ∧ Well D4 S4 [120] [] 0 18 1000 ∧ Well D5 S5 [120] [[98]] 0 27 1000 ∧ Well D6 S6 [120] [[98]] 1 27 1000 ∧ Well D7 S7 [120] [[98]] 1 1000 1000 ∧ Held (crashD D6 []) 1 [120] [[98]] 1 ∧ S3.number = 0 ∧ S7.number = 1 := by
  have f0 := fine0 (r := 1000) (by decide)
  obtain ⟨D1, j, a1, -, a3, -, w1⟩ := well_open (c := 0) (r := 1000) (held_none 1000) f0 rfl (Nat.le_refl _) rfl
  obtain rfl : j = 0 := by simpa using a3
  obtain ⟨D2, S2, b1, n2, w2⟩ := well_put w1 [97] (by decide) (by decide)
  obtain ⟨D3, S3, c1, n3, w3⟩ := well_keep w2
  have e3 : S3.number = 0 := n3.trans n2
  obtain ⟨D4, S4, d1, n4, w4⟩ := well_save w3 (by rw [e3]; decide) [120] (by decide) (by decide)
  obtain ⟨D5, S5, g1, n5, w5⟩ := well_put w4 [98] (by decide) (by decide)
  obtain ⟨D6, S6, h1, n6, w6⟩ := well_keep w5
  have e6 : S6.number = 1 := by rw [n6, n5, n4, e3]
  have hh := w6.good.held.crash (fun b m h => h.take m) w6.fine []
  rw [e6] at hh
  have hfi : Fine (crashD D6 []) := crash_fine w6.fine []
  obtain ⟨D7, j7, k1, k2, k3, -, w7⟩ := well_open (c := 1000) (r := 1000) hh hfi rfl (by have := hfi.fits; have h2 : (crashD D6 []).room = 1000 := w6.room; omega) w6.room
  obtain rfl : j7 = 1 := by
    have h3 : j7 ≤ 1 := k3
    have h2 : 1 ≤ j7 := k2
    omega
  exact ⟨D1, _, D2, S2, D3, S3, D4, S4, D5, S5, D6, S6, D7, _, a1, b1, c1, d1, g1, h1, k1, w1, w2, w3, w4, w5, w6, w7, hh, e3, rfl⟩
/-! Walked. -/
theorem SX.later {w0 w w' : World} {b sb : Nat} {D : DiskD} {S : StoreD} {U : Nat → Prop} (h : SX w0 w b sb D S U) (hk : Below w.heap.size w w') : SX w0 w' b sb D S U := by
  obtain ⟨T, lb, h⟩ := h
  exact ⟨T, lb, h.lx.later hk, h.st.below hk (h.st.lt (by omega)), h.far, h.ne, h.sub, h.ul, h.us, fun i hi => ⟨(h.own i hi).1, Nat.lt_of_lt_of_le (h.own i hi).2 hk.size⟩⟩
theorem SX.below {w0 w : World} {b sb : Nat} {D : DiskD} {S : StoreD} {U : Nat → Prop} (h : SX w0 w b sb D S U) : Below w0.heap.size w0 w := by
  obtain ⟨T, lb, h⟩ := h
  exact h.lx.dx.below
theorem SX.dx {w0 w : World} {b sb : Nat} {D : DiskD} {S : StoreD} {U : Nat → Prop} (h : SX w0 w b sb D S U) : ∃ T, DX w0 w b D T ∧ ∀ i, T i → U i := by
  obtain ⟨T, lb, h⟩ := h
  exact ⟨T, h.lx.dx, h.sub⟩
theorem SX.both {w0 w : World} {b sb : Nat} {D : DiskD} {S : StoreD} {U : Nat → Prop} (h : SX w0 w b sb D S U) : ∃ lb, CellsAt w sb 4 (storeCell b lb S) ∧ CellsAt w lb 6 (logCell b S.log) := by
  obtain ⟨T, lb, h⟩ := h
  exact ⟨lb, h.st, h.lx.log⟩
theorem SX.own {w0 w : World} {b sb : Nat} {D : DiskD} {S : StoreD} {U : Nat → Prop} (h : SX w0 w b sb D S U) : ∀ i, U i → w0.heap.size ≤ i ∧ i < w.heap.size := by
  obtain ⟨T, lb, h⟩ := h
  exact h.own
theorem SOpen_ok {w0 w : World} {b : Nat} {D : DiskD} {T : Nat → Prop} (h : DX w0 w b D T) (hL : Laid w0) (hM : ∀ f ∈ namesD D, Mine f) (hro : D.room ≤ 1048576) {D' : DiskD} {S : StoreD} {t : Key} {rs : List Key} (he : openS D = (D', some (S, t, rs), 0)) :
    Calls Tryz.prog 9 #[.pointer (some ⟨b, 0, none⟩)] w fun e w' => ∃ sb p cap U, e = .returned (.tuple #[.pointer (some ⟨sb, 0, none⟩), .string (B t), .slice p rs.length cap, .int .i64 0]) ∧ SX w0 w' b sb D' S U ∧ Kept T w w' ∧ (∀ i, U i → T i ∨ w.heap.size ≤ i) ∧
      (w'.ownsRow w.heap.size 9 1 (.slice p rs.length cap) rs.length (strs rs) ∧ ∀ k, (Value.slice p rs.length cap).ownBlock = some k → ¬ U k) := by
  refine (SOpen_f h hL hM hro).mono ?_
  rw [he]
  rintro e w' ⟨T', h1, h2, ⟨h3, _⟩ | ⟨S2, t2, rs2, sb, v, h3, _, h5, h6, h7, h8⟩⟩
  · cases h3
  · simp only [Option.some.injEq, Prod.mk.injEq] at h3
    obtain ⟨rfl, rfl, rfl⟩ := h3
    obtain ⟨p, cap, rfl, hl, hc⟩ := own_cells h7
    exact ⟨sb, p, cap, T', h5, h6, h2, h1, h7, h8⟩
theorem row_at {w : World} {base : Nat} {p : Option Addr} {rs : List Key} {cap : Nat} (h : w.ownsRow base 9 1 (.slice p rs.length cap) rs.length (strs rs)) (j : Nat) (hj : j < rs.length) : ∃ g, p = some ⟨g, 0, none⟩ ∧ base ≤ g ∧ g < w.heap.size ∧ w.cell? ⟨g, j, none⟩ = some (.string (B rs[j])) := by
  obtain ⟨p2, cap2, e, hl, hc⟩ := own_cells h
  injection e with e1 e2 e3
  subst e1 e3
  obtain ⟨g, h1, h2, h3, h4⟩ := hc j (by rw [hl]; exact hj)
  exact ⟨g, h1, h2, h3, by rw [h4, strs_at _ _ hj]⟩
theorem mine_held {J : Key → Prop} {D : DiskD} {N : Nat} {t : Key} {l : List Key} {s : Nat} (h : HeldJ J D N t l s) {w0 w : World} {b : Nat} {T : Nat → Prop} (hx : DX w0 w b D T) : ∀ f ∈ namesD D, Mine f := h.mine hx.fine
theorem put_ok {w : World} {D : DiskD} {S : StoreD} {t : Key} {l : List Key} {s c r : Nat} (h : Well D S t l s c r) (hc : c ≤ 1048576) (p : Option Addr) (x : Key) (hx : x.length ≤ 1048576) (hr : RowArg w p (strs [x])) : PutOk w p [x] S.log := by
  obtain ⟨c1, c2, c3, c4, c5, c6, c7⟩ := h.count
  exact ⟨hr, fun y hy => by rw [List.mem_singleton.1 hy]; exact hx, by rw [puts_one, put_length]; omega, by rw [c4]; omega, by rw [c1]; omega, c5⟩
/-- A record is appended. -/
theorem SPut_ok {w0 w : World} {b sb : Nat} {D D' : DiskD} {S S' : StoreD} {t : Key} {l : List Key} {s c r : Nat} {U : Nat → Prop} (h : SX w0 w b sb D S U) (hL : Laid w0) (hw : Well D S t l s c r) (hc : c ≤ 1048576) (x : Key) (hx : x.length ≤ 1048576) {k : Int} (he : putS D S [x] = (D', S', k)) :
    Calls Tryz.prog 11 #[.pointer (some ⟨sb, 0, none⟩), .slice (some ⟨w.heap.size, 0, none⟩) 1 1] (w.alloc (.cells #[.string (B x)] 9)) fun e w' => e = .returned (.int .i64 k) ∧ SX w0 w' b sb D' S' (More U w w') ∧ Kept U w w' := by
  have hal : Below w.heap.size w (w.alloc (.cells #[.string (B x)] 9)) := (Below.refl _ _).alloc (Nat.le_refl _) _
  have hz := alloc_more w (.cells #[.string (B x)] 9)
  have hown := h.own
  have hz0 := h.below.size
  have hA := SAppend_f (h.later hal) hL (some ⟨w.heap.size, 0, none⟩) 1 [x] (put_ok hw hc _ x hx (row_made w [x]))
  rw [he] at hA
  refine hA.mono ?_
  rintro e w' ⟨h1, ⟨T, lb, h2⟩, h3⟩
  have hz3 := h3.size
  refine ⟨h1, ⟨T, lb, h2.lx, h2.st, h2.far, h2.ne, fun i hi => ?_, ?_, ?_, fun i hi => ?_⟩, (Kept.of_below (T := U) hal).trans h3 fun _ e => .inl e⟩
  · exact (h2.sub i hi).imp id fun e => ⟨by omega, e.2⟩
  · exact h2.ul.imp id fun e => ⟨by omega, e.2⟩
  · exact h2.us.imp id fun e => ⟨by omega, e.2⟩
  · rcases hi with hi | hi
    · have := hown i hi; exact ⟨this.1, by omega⟩
    · exact ⟨by omega, hi.2⟩
theorem SSync_ok {w0 w : World} {b sb : Nat} {D D' : DiskD} {S S' : StoreD} {U : Nat → Prop} (h : SX w0 w b sb D S U) (hn : S.log.name.length ≤ maxLen) {k : Int} (he : keepS D S = (D', S', k)) :
    Calls Tryz.prog 16 #[.pointer (some ⟨sb, 0, none⟩)] w fun e w' => e = .returned (.int .i64 k) ∧ SX w0 w' b sb D' S' (More U w w') ∧ Kept U w w' := by
  have hA := SSync_f h hn
  rw [he] at hA
  exact hA
theorem SSave_ok {w0 w : World} {b sb : Nat} {D D' : DiskD} {S S' : StoreD} {U : Nat → Prop} (h : SX w0 w b sb D S U) (hL : Laid w0) (hro : D.room ≤ 1048576) (x : Key) (hx : x.length ≤ 1048576) (hn : S.number < 1099511627776) {k : Int} (he : saveS D S x = (D', S', k)) :
    Calls Tryz.prog 10 #[.pointer (some ⟨sb, 0, none⟩), .string (B x)] w fun e w' => e = .returned (.int .i64 k) ∧ SX w0 w' b sb D' S' (More U w w') ∧ Kept U w w' := by
  have hA := SSave_f h hL hro x hx hn
  rw [he] at hA
  exact hA
theorem SCrash0 {w0 w : World} {b : Nat} {D : DiskD} {T : Nat → Prop} (h : DX w0 w b D T) : Calls Tryz.prog 17 #[.pointer (some ⟨b, 0, none⟩), .slice none 0 0] w fun e w' => e = .returned (.int .i64 0) ∧ DX w0 w' b (crashD D []) (More T w w') ∧ Kept T w w' :=
  h.op (Crash_f h.dk none [] 0 (fun j hj => by simp at hj) (fun x hx => by simp at hx) (Nat.le_refl _) (by decide) (fun a ha => by cases ha))
set_option maxRecDepth 100000 in
set_option maxHeartbeats 4000000 in
theorem SWorks_f (w : World) (hL : Laid w) : Calls Tryz.prog 7 #[] w fun e w' => e = .returned (.bool true) ∧ Below w.heap.size w w' := by
  obtain ⟨D1, S1, D2, S2, D3, S3, D4, S4, D5, S5, D6, S6, D7, S7, p1, p2, p3, p4, p5, p6, p7, w1, w2, w3, w4, w5, w6, w7, hh, n3, n7⟩ := sworks_plain
  have HL := Lib.hid hL
  have W1 := Lib.hid w1
  have W2 := Lib.hid w2
  have W3 := Lib.hid w3
  have W4 := Lib.hid w4
  have W5 := Lib.hid w5
  have W6 := Lib.hid w6
  have W7 := Lib.hid w7
  have HH := Lib.hid hh
  have N3 := Lib.hid n3
  have N7 := Lib.hid n7
  have P1 := Lib.hid p1
  have P2 := Lib.hid p2
  have P3 := Lib.hid p3
  have P4 := Lib.hid p4
  have P5 := Lib.hid p5
  have P6 := Lib.hid p6
  have P7 := Lib.hid p7
  have HN := Lib.hid (show Calls Tryz.prog 8 #[.int .i64 1000] w fun e w' => ∃ b, e = .returned (.tuple #[.pointer (some ⟨b, 0, none⟩), .int .i64 0]) ∧ DW w w' b ⟨1000, [], false, 0⟩ from DW.new (r := 1000) (by decide) (Below.refl w.heap.size w))
  clear w1 w2 w3 w4 w5 w6 w7 hh n3 n7 p1 p2 p3 p4 p5 p6 p7 hL
  go_enter Tryz.func7, Tryz.ntmps7
  go_wp2_with fail
  with_reducible refine HN.out.mono ?_
  rintro e v1 ⟨b, rfl, h1⟩
  obtain ⟨T1, h1⟩ := dx_of h1
  have HO := Lib.hid (show Calls Tryz.prog 9 #[.pointer (some ⟨b, 0, none⟩)] v1 fun e w' => ∃ sb p cap U, e = .returned (.tuple #[.pointer (some ⟨sb, 0, none⟩), .string ⟨#[]⟩, .slice p 0 cap, .int .i64 0]) ∧ SX w w' b sb D1 S1 U ∧ Kept T1 v1 w' ∧ (∀ i, U i → T1 i ∨ v1.heap.size ≤ i) ∧ _ from SOpen_ok h1 HL.out (mine_held (held_none 1000) h1) (by decide) P1.out)
  clear h1 HN
  go_wp2_with fail
  with_reducible refine HO.out.mono ?_
  rintro e v2 ⟨sb, q2, c2, U2, rfl, h2, -, -, -⟩
  have HA := Lib.hid (show Calls Tryz.prog 11 #[.pointer (some ⟨sb, 0, none⟩), .slice (some ⟨v2.heap.size, 0, none⟩) 1 1] (v2.alloc (.cells #[.string ⟨#[97]⟩] 9)) _ from SPut_ok h2 HL.out W1.out (by decide) [97] (by decide) P2.out)
  clear h2 HO
  go_wp2_with fail
  with_reducible refine HA.out.mono ?_
  rintro e v3 ⟨rfl, h3, -⟩
  generalize More U2 v2 v3 = U3 at h3
  have HA := Lib.hid (SSync_ok h3 W2.out.count.2.2.2.2.1 P3.out)
  clear h3
  go_wp2_with fail
  with_reducible refine HA.out.mono ?_
  rintro e v4 ⟨rfl, h4, -⟩
  generalize More U3 v3 v4 = U4 at h4
  have HA := Lib.hid (show Calls Tryz.prog 10 #[.pointer (some ⟨sb, 0, none⟩), .string ⟨#[120]⟩] v4 _ from SSave_ok h4 HL.out (by rw [W3.out.room]; decide) [120] (by decide) (by rw [N3.out]; decide) P4.out)
  clear h4
  go_wp2_with fail
  with_reducible refine HA.out.mono ?_
  rintro e v5 ⟨rfl, h5, -⟩
  generalize More U4 v4 v5 = U5 at h5
  have HA := Lib.hid (show Calls Tryz.prog 11 #[.pointer (some ⟨sb, 0, none⟩), .slice (some ⟨v5.heap.size, 0, none⟩) 1 1] (v5.alloc (.cells #[.string ⟨#[98]⟩] 9)) _ from SPut_ok h5 HL.out W4.out (by decide) [98] (by decide) P5.out)
  clear h5
  go_wp2_with fail
  with_reducible refine HA.out.mono ?_
  rintro e v6 ⟨rfl, h6, -⟩
  generalize More U5 v5 v6 = U6 at h6
  have HA := Lib.hid (SSync_ok h6 W5.out.count.2.2.2.2.1 P6.out)
  clear h6
  go_wp2_with fail
  with_reducible refine HA.out.mono ?_
  rintro e v7 ⟨rfl, h7, -⟩
  generalize More U6 v6 v7 = U7 at h7
  obtain ⟨T7, h7, -⟩ := h7.dx
  have HA := Lib.hid (SCrash0 h7)
  clear h7
  go_wp2_with fail
  with_reducible refine HA.out.mono ?_
  rintro e v8 ⟨rfl, h8, -⟩
  generalize More T7 v7 v8 = T8 at h8
  have HO := Lib.hid (show Calls Tryz.prog 9 #[.pointer (some ⟨b, 0, none⟩)] v8 fun e w' => ∃ sb p cap U, e = .returned (.tuple #[.pointer (some ⟨sb, 0, none⟩), .string ⟨#[120]⟩, .slice p 1 cap, .int .i64 0]) ∧ SX w w' b sb D7 S7 U ∧ Kept T8 v8 w' ∧ (∀ i, U i → T8 i ∨ v8.heap.size ≤ i) ∧ (w'.ownsRow v8.heap.size 9 1 (.slice p 1 cap) 1 (strs [[98]]) ∧ _) from SOpen_ok h8 HL.out (mine_held HH.out h8) (by show D6.room ≤ 1048576; rw [W6.out.room]; decide) P7.out)
  clear h8 HA
  go_wp2_with fail
  with_reducible refine HO.out.mono ?_
  rintro e v9 ⟨tb, q9, c9, U9, rfl, h9, -, -, hrow, -⟩
  obtain ⟨g, rfl, -, hgl, hc0⟩ := row_at (rs := [[98]]) hrow 0 (by decide)
  have hc0' : v9.cell? ⟨g, 0, none⟩ = some (.string ⟨#[98]⟩) := hc0
  obtain ⟨lb9, st9, lg9⟩ := h9.both
  have HN := Lib.hid (SNumber_f st9)
  have HC := Lib.hid (SCount_f st9 lg9)
  have HU := Lib.hid (SSure_f st9 lg9)
  obtain ⟨k1, k2, -⟩ := W7.out.count
  rw [N7.out] at HN
  rw [k1] at HC
  rw [k2] at HU
  have HB := Lib.hid h9.below
  clear h9 hrow hc0 st9 lg9 HO k1 k2
  have HN : Hid (Calls Tryz.prog 12 #[.pointer (some ⟨tb, 0, none⟩)] v9 fun e w' => e = .returned (.int .u64 1) ∧ v9 = w') := HN
  have HC : Hid (Calls Tryz.prog 13 #[.pointer (some ⟨tb, 0, none⟩)] v9 fun e w' => e = .returned (.int .i64 1) ∧ v9 = w') := HC
  have HU : Hid (Calls Tryz.prog 19 #[.pointer (some ⟨tb, 0, none⟩)] v9 fun e w' => e = .returned (.int .i64 1) ∧ v9 = w') := HU
  go_wp2_with fail
  with_reducible refine HN.out.mono ?_
  rintro e va ⟨rfl, rfl⟩
  go_wp2_with fail
  with_reducible refine HC.out.mono ?_
  rintro e va ⟨rfl, rfl⟩
  go_wp2_with fail
  with_reducible refine HU.out.mono ?_
  rintro e va ⟨rfl, rfl⟩
  go_wp2
  go_ret
  exact ⟨rfl, HB.out⟩
end Go.Proofs.YtmejdcnnpenaaaaGreatDoor.St
