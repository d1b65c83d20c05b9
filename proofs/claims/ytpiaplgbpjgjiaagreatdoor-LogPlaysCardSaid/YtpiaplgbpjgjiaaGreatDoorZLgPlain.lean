/-
  Logs (layer 8) on plain data: on a disk without a fuse: what Open, Append, Sync do. No program in sight.
-/
import Derived.Test.YtpiaplgbpjgjiaaGreatDoorZLgOpen
open Go Go.RowKit
namespace Go.Proofs.YtpiaplgbpjgjiaaGreatDoor.Lg
open Base Mp Dk Frame

theorem unfused {D : DiskD} (h : D.fused = false) : still D = false ∧ done D = D := by
  unfold still done; rw [h]; exact ⟨rfl, rfl⟩
theorem create_new {D : DiskD} {n : Key} (hf : D.fused = false) (hn : mayName n = true) (hl : lookL D.files (keyS n) = none) (h16 : D.files.length < 16) : createD D n = ({ D with files := putL D.files (keyS n) ⟨[], 0, true⟩ }, 0) := by
  unfold createD
  rw [if_neg (by rw [hn]; decide), if_neg (by rw [(unfused hf).1]; decide), if_neg (by rw [hl]; decide), if_neg (by omega), (unfused (D := { D with files := putL D.files (keyS n) ⟨[], 0, true⟩ }) hf).2]
theorem sync_some {D : DiskD} {n : Key} {F : FileD} (hf : D.fused = false) (hl : lookL D.files (keyS n) = some F) : syncD D n = (withFile D (keyS n) ⟨F.bytes, F.bytes.length, false⟩, 0) := by
  unfold syncD opD
  rw [if_neg (by rw [(unfused hf).1]; decide), hl]
  simp only
  rw [(unfused (D := withFile D (keyS n) ⟨F.bytes, F.bytes.length, false⟩) hf).2]
theorem append_some {D : DiskD} {n s : Key} {F : FileD} (hf : D.fused = false) (hl : lookL D.files (keyS n) = some F) (hs : s.length ≤ left D) : appendD D n s = (withFile D (keyS n) ⟨F.bytes ++ s, F.sure, F.fresh⟩, 0) := by
  unfold appendD opD
  rw [if_neg (by rw [(unfused hf).1]; decide), hl]
  simp only
  rw [if_neg (by omega), (unfused (D := withFile D (keyS n) ⟨F.bytes ++ s, F.sure, F.fresh⟩) hf).2]
theorem append_full {D : DiskD} {n s : Key} {F : FileD} (hf : D.fused = false) (hl : lookL D.files (keyS n) = some F) (hs : left D < s.length) : appendD D n s = (D, 6) := by
  unfold appendD opD
  rw [if_neg (by rw [(unfused hf).1]; decide), hl]
  simp only
  rw [if_pos hs]
theorem with_same {D : DiskD} {k : Lit} {F G : FileD} (hl : lookL D.files k = some F) : lookL (withFile D k G).files k = some G := look_set_same _ _ _ _ hl
theorem with_other {D : DiskD} {k q : Lit} {G : FileD} (h : q ≠ k) : lookL (withFile D k G).files q = lookL D.files q := look_set_other _ _ _ _ h
theorem with_left {D : DiskD} (hfi : Fine D) {k : Lit} {F G : FileD} (hl : lookL D.files k = some F) (hfit : total D.files + G.bytes.length ≤ D.room + F.bytes.length) : left (withFile D k G) + G.bytes.length = left D + F.bytes.length := by
  have h1 := total_set (G := G) hfi.apart (fun p hp => hfi.key hp) hl (hfi.key (mem_of_look hl))
  have h2 := hfi.fits
  unfold left withFile
  simp only
  omega
/-- The files of one disk are another one's, but for one name. -/
structure Else (D D' : DiskD) (n : Key) : Prop where
  fused : D'.fused = D.fused
  room : D'.room = D.room
  other : ∀ m, m ≠ n → lookL D'.files (keyS m) = lookL D.files (keyS m)
theorem Else.refl (D : DiskD) (n : Key) : Else D D n := ⟨rfl, rfl, fun _ _ => rfl⟩
theorem Else.trans {A B C : DiskD} {n : Key} (h : Else A B n) (k : Else B C n) : Else A C n := ⟨k.fused.trans h.fused, k.room.trans h.room, fun m hm => (k.other m hm).trans (h.other m hm)⟩
theorem Else.with (D : DiskD) (n : Key) (G : FileD) : Else D (withFile D (keyS n) G) n := ⟨rfl, rfl, fun _ hm => with_other (fun e => hm (keyS_inj e))⟩
/-- Open, where there is no such file. -/
theorem open_absent {D : DiskD} {n : Key} (hf : D.fused = false) (hn : mayName n = true) (hl : lookL D.files (keyS n) = none) (h16 : D.files.length < 16) :
    ∃ D', openL D n = (D', some (⟨n, 0, 0, 0, false⟩, []), 0) ∧ lookL D'.files (keyS n) = some ⟨[], 0, false⟩ ∧ Else D D' n ∧ (Fine D → Fine D' ∧ left D' = left D) ∧ D'.files.length = D.files.length + 1 := by
  have hc := create_new hf hn hl h16
  have hls : lookL (putL D.files (keyS n) (⟨[], 0, true⟩ : FileD)) (keyS n) = some ⟨[], 0, true⟩ := look_put_same _ _ (isKey n) _
  have hs := sync_some (D := { D with files := putL D.files (keyS n) ⟨[], 0, true⟩ }) (n := n) hf hls
  refine ⟨_, ?_, with_same (D := { D with files := putL D.files (keyS n) ⟨[], 0, true⟩ }) hls, ⟨rfl, rfl, fun m hm => ?_⟩, fun hfi => ⟨?_, ?_⟩, ?_⟩
  · unfold openL
    rw [hl]
    simp only
    rw [hc]
    simp only [if_true]
    unfold mend
    rw [if_neg (by decide), if_pos (.inl rfl), hs]
    rfl
  · exact (with_other (D := { D with files := putL D.files (keyS n) ⟨[], 0, true⟩ }) (fun e => hm (keyS_inj e))).trans (look_put_other _ _ _ (fun e => hm (keyS_inj e)) _)
  · exact (hfi.put hn hl h16).set hls (Nat.le_refl _) (by have := (hfi.put hn hl h16).fits; simp only [List.length_nil]; omega)
  · have hfp := hfi.put hn hl h16
    have h1 := with_left hfp (k := keyS n) (G := ⟨[], 0, false⟩) hls (by have := hfp.fits; simp only [List.length_nil]; omega)
    simp only [List.length_nil, Nat.add_zero] at h1
    refine h1.trans ?_
    unfold left
    simp only
    have hperm : (putL D.files (keyS n) (⟨[], 0, true⟩ : FileD)).Perm ((keyS n, ⟨[], 0, true⟩) :: D.files) := by
      have := put_perm D.files (keyS n) (⟨[], 0, true⟩ : FileD)
      rw [del_none _ _ hl] at this
      exact this
    rw [total_perm hperm, total_cons]
    simp
  · show (setL (putL D.files (keyS n) (⟨[], 0, true⟩ : FileD)) (keyS n) _).length = _
    rw [set_length, put_length_new _ _ _ hl]
theorem good_puts (rs : List Key) (h : ∀ r ∈ rs, r.length ≤ 1048576) : good (puts rs) = (puts rs).length ∧ recs (puts rs) = rs := by
  unfold good recs
  rw [scanAll_puts rs h]
  simp
/-- Open, where all of the file are whole frames. -/
theorem open_good {D : DiskD} {n : Key} {rs : List Key} {s : Nat} {f : Bool} (hf : D.fused = false) (hl : lookL D.files (keyS n) = some ⟨puts rs, s, f⟩) (hs : s ≤ (puts rs).length) (hr : ∀ r ∈ rs, r.length ≤ 1048576) :
    ∃ D' f', openL D n = (D', some (⟨n, (puts rs).length, rs.length, rs.length, false⟩, rs), 0) ∧ lookL D'.files (keyS n) = some ⟨puts rs, (puts rs).length, f'⟩ ∧ (f = false → f' = false) ∧ Else D D' n ∧ (Fine D → Fine D' ∧ left D' = left D) ∧ D'.files.length = D.files.length := by
  obtain ⟨hg, hrc⟩ := good_puts rs hr
  have hlo : looseD D n = (puts rs).length - s := by unfold looseD findD; rw [hl]
  have he : openL D n = ends n (puts rs) (mend D n (puts rs) false) := by unfold openL; rw [hl]
  by_cases h0 : s = (puts rs).length
  · have hm : mend D n (puts rs) false = (D, 0) := by
      unfold mend
      rw [hg, if_neg (by omega), if_neg (by rw [hlo]; simp; omega)]
    refine ⟨D, f, ?_, by rw [hl, h0], id, Else.refl _ _, fun h => ⟨h, rfl⟩, rfl⟩
    rw [he, hm]
    unfold ends fresh
    simp only [if_true, hg, hrc]
  · have hsy := sync_some hf hl
    have hm : mend D n (puts rs) false = (withFile D (keyS n) ⟨puts rs, (puts rs).length, false⟩, 0) := by
      unfold mend
      rw [hg, if_neg (by omega), if_pos (by rw [hlo]; right; omega), hsy]
    refine ⟨withFile D (keyS n) ⟨puts rs, (puts rs).length, false⟩, false, ?_, with_same hl, fun _ => rfl, Else.with _ _ _, fun hfi => ⟨hfi.set hl (Nat.le_refl _) (by have := hfi.fits; simp only; omega), ?_⟩, set_length _ _ _⟩
    · rw [he, hm]
      unfold ends fresh
      simp only [if_true, hg, hrc]
    · have := with_left hfi (k := keyS n) (G := ⟨puts rs, (puts rs).length, false⟩) hl (by have := hfi.fits; simp only; omega)
      simp only at this
      omega
/-- A log that is well: its file has just its records. -/
structure Well (D : DiskD) (L : LogD) (rs : List Key) (s : Nat) (f : Bool) : Prop where
  fused : D.fused = false
  file : lookL D.files (keyS L.name) = some ⟨puts rs, s, f⟩
  size : L.size = (puts rs).length
  count : L.count = rs.length
  good : L.broken = false
theorem put_well {D : DiskD} {L : LogD} {rs : List Key} {s : Nat} {f : Bool} (h : Well D L rs s f) (xs : List Key) (hx : xs ≠ []) (hr : (puts xs).length ≤ left D) :
    ∃ D', putRs D L xs = (D', { L with size := L.size + (puts xs).length, count := L.count + xs.length }, 0) ∧ Well D' { L with size := L.size + (puts xs).length, count := L.count + xs.length } (rs ++ xs) s f ∧ Else D D' L.name ∧ (Fine D → s ≤ (puts rs).length → Fine D' ∧ left D' + (puts xs).length = left D) ∧ D'.files.length = D.files.length := by
  have ha := append_some h.fused h.file hr
  have hp : puts rs ++ puts xs = puts (rs ++ xs) := by unfold puts; rw [List.map_append, List.flatten_append]
  refine ⟨withFile D (keyS L.name) ⟨puts rs ++ puts xs, s, f⟩, ?_, ⟨h.fused, ?_, ?_, ?_, h.good⟩, Else.with _ _ _, fun hfi hs => ⟨?_, ?_⟩, set_length _ _ _⟩
  · unfold putRs
    rw [if_neg (by rw [h.good]; decide), if_neg hx, ha]
    simp only [if_true]
  · simp only
    rw [hp]
    exact with_same h.file
  · simp only
    rw [← hp, List.length_append, h.size]
  · simp only [List.length_append, h.count]
  · refine hfi.set h.file (by simp only [List.length_append]; omega) ?_
    have h1 := hfi.fits
    unfold left at hr
    simp only [List.length_append]
    omega
  · have h1 := hfi.fits
    have h2 := with_left hfi (k := keyS L.name) (G := ⟨puts rs ++ puts xs, s, f⟩) h.file (by unfold left at hr; simp only [List.length_append]; omega)
    simp only [List.length_append] at h2
    omega
theorem put_nofit {D : DiskD} {L : LogD} {rs : List Key} {s : Nat} {f : Bool} (h : Well D L rs s f) (xs : List Key) (hx : xs ≠ []) (hr : left D < (puts xs).length) : putRs D L xs = (D, L, 6) := by
  unfold putRs
  rw [if_neg (by rw [h.good]; decide), if_neg hx, append_full h.fused h.file hr, if_neg (by show ¬ ((6 : Int) = 0); decide)]
  simp only [told_full]
theorem keep_well {D : DiskD} {L : LogD} {rs : List Key} {s : Nat} {f : Bool} (h : Well D L rs s f) :
    ∃ D', keepL D L = (D', { L with sure := L.count }, 0) ∧ Well D' { L with sure := L.count } rs (puts rs).length false ∧ Else D D' L.name ∧ (Fine D → Fine D' ∧ left D' = left D) ∧ D'.files.length = D.files.length := by
  have ha := sync_some h.fused h.file
  refine ⟨withFile D (keyS L.name) ⟨puts rs, (puts rs).length, false⟩, ?_, ⟨h.fused, with_same h.file, h.size, h.count, h.good⟩, Else.with _ _ _, fun hfi => ⟨hfi.set h.file (Nat.le_refl _) (by have := hfi.fits; simp only; omega), ?_⟩, set_length _ _ _⟩
  · unfold keepL
    rw [if_neg (by rw [h.good]; decide), ha]
    simp only [if_true]
  · have := with_left hfi (k := keyS L.name) (G := ⟨puts rs, (puts rs).length, false⟩) h.file (by have := hfi.fits; simp only; omega)
    simp only at this
    omega
theorem puts_one (t : Key) : puts [t] = put t := by simp [puts]
theorem puts_take (rs xs : List Key) : (puts (rs ++ xs)).take (puts rs).length = puts rs := by
  unfold puts
  rw [List.map_append, List.flatten_append, List.take_left]
/-- A crash that keeps nothing loose. -/
theorem crash_nil {D : DiskD} (h : Fine D) {n : Key} {F : FileD} (hF : lookL D.files (keyS n) = some F) (hfr : F.fresh = false) : lookL (crashD D []).files (keyS n) = some ⟨F.bytes.take F.sure, F.sure, false⟩ := by
  have hn := name_mem hF
  show lookL (crashed D []) (keyS n) = _
  obtain ⟨l1, l2, hl⟩ := List.append_of_mem hn
  have hnd := h.nodup
  rw [hl, List.pairwise_append, List.pairwise_cons] at hnd
  obtain ⟨_, ⟨h2, _⟩, h3⟩ := hnd
  have hk : ∀ (l : List Key) (st : FS × List Int), st.2 = [] → (l.foldl crash1 st).2 = [] := by
    intro l
    induction l with
    | nil => exact fun _ h => h
    | cons x r ih =>
      intro st hst
      rw [List.foldl_cons]
      refine ih _ ?_
      unfold crash1
      split
      · exact hst
      · split
        · exact hst
        · split
          · rw [hst]; rfl
          · rw [hst]; rfl
  unfold crashed
  rw [hl, List.foldl_append, List.foldl_cons, crash_still _ _ _ (fun x hx => h2 x hx)]
  have h4 : lookL (l1.foldl crash1 (D.files, [])).1 (keyS n) = some F := by
    rw [crash_still _ _ _ (fun x hx e => h3 x hx n (by simp) e.symm)]
    exact hF
  have h5 := hk l1 (D.files, []) rfl
  generalize l1.foldl crash1 (D.files, []) = st at h4 h5
  have hs := h.sure _ (mem_of_look hF)
  simp only at hs
  unfold crash1
  rw [h4]
  simp only
  split
  · next h6 =>
    rw [h4]
    obtain ⟨b, s, f⟩ := F
    simp only at h6 hs hfr ⊢
    rw [hfr, show s = b.length by omega, List.take_length]
  · rw [if_neg (by rw [hfr]; rintro ⟨h, _⟩; cases h)]
    rw [look_set_same _ _ _ _ h4, h5]
    show some (⟨F.bytes.take (keptOf F (-1)), keptOf F (-1), false⟩ : FileD) = _
    rw [show keptOf F (-1) = F.sure by unfold keptOf; rw [show (max (-1 : Int) 0).toNat = 0 from rfl]; omega]
end Go.Proofs.YtpiaplgbpjgjiaaGreatDoor.Lg
