/-
  Disks (layer 7) on plain data: files, their room, what each call does. No program in sight. No condition.
-/
import Derived.Test.YtpiaplgbpjgjiaaDoorMaps
open Go
namespace Go.Proofs.YtpiaplgbpjgjiaaDoor.Dk
open Mp

structure FileD where
  bytes : List UInt8
  sure : Nat
  fresh : Bool
abbrev FS := List (Lit × FileD)
structure DiskD where
  room : Nat
  files : FS
  fused : Bool
  calls : Nat
def keyS (f : List UInt8) : Lit := .string f
theorem isKey (f : List UInt8) : WideAt.IsKeyLit (keyS f) := by simp [WideAt.IsKeyLit, keyS]
theorem keyS_inj {f g : List UInt8} (h : keyS f = keyS g) : f = g := by unfold keyS at h; injection h
/-- The bytes of all files. -/
def total (l : FS) : Nat := (l.map fun p => p.2.bytes.length).sum
def left (D : DiskD) : Nat := D.room - total D.files
def still (D : DiskD) : Bool := D.fused && D.calls == 0
def done (D : DiskD) : DiskD := if D.fused then { D with calls := D.calls - 1 } else D
def okByte (c : UInt8) : Bool := ((97 ≤ c.toNat && c.toNat ≤ 122) || (48 ≤ c.toNat && c.toNat ≤ 57)) || c.toNat == 45
def mayName (n : List UInt8) : Bool := decide (1 ≤ n.length) && decide (n.length ≤ 40) && n.all okByte
def withFile (D : DiskD) (k : Lit) (F : FileD) : DiskD := { D with files := setL D.files k F }
/-- What holds of every disk. -/
structure Fine (D : DiskD) : Prop where
  few : D.files.length ≤ 16
  room : D.room ≤ 4194304
  fits : total D.files ≤ D.room
  names : ∀ p ∈ D.files, ∃ n, p.1 = keyS n ∧ mayName n = true
  sure : ∀ p ∈ D.files, p.2.sure ≤ p.2.bytes.length
  apart : D.files.Pairwise fun p q => p.1 ≠ q.1
  calls : D.calls < 9223372036854775808
theorem total_cons (p : Lit × FileD) (r : FS) : total (p :: r) = p.2.bytes.length + total r := rfl
theorem total_mem {l : FS} {p : Lit × FileD} (h : p ∈ l) : p.2.bytes.length ≤ total l := by
  induction l with
  | nil => cases h
  | cons x r ih =>
    rw [total_cons]
    rcases List.mem_cons.1 h with rfl | h
    · omega
    · have := ih h; omega
theorem Fine.short {D : DiskD} (h : Fine D) {p : Lit × FileD} (hp : p ∈ D.files) : p.2.bytes.length ≤ 4194304 := Nat.le_trans (total_mem hp) (Nat.le_trans h.fits h.room)
theorem Fine.key {D : DiskD} (h : Fine D) {p : Lit × FileD} (hp : p ∈ D.files) : WideAt.IsKeyLit p.1 := by
  obtain ⟨n, hn, _⟩ := h.names p hp
  rw [hn]; exact isKey n
theorem same_key {k q : Lit} (hk : WideAt.IsKeyLit k) (hq : WideAt.IsKeyLit q) : k.sameKey q = true ↔ k = q := by
  constructor
  · intro h
    cases k <;> cases q <;> simp_all [WideAt.IsKeyLit, Lit.sameKey]
  · rintro rfl
    exact WideAt.sameKey_self hk
/-- The bytes of all files, where one is another one. -/
theorem total_set {l : FS} {k : Lit} {F G : FileD} (hn : l.Pairwise fun p q => p.1 ≠ q.1) (hk : ∀ p ∈ l, WideAt.IsKeyLit p.1) (hl : lookL l k = some F) (hkk : WideAt.IsKeyLit k) : total (setL l k G) + F.bytes.length = total l + G.bytes.length := by
  induction l with
  | nil => cases hl
  | cons x r ih =>
    obtain ⟨h1, h2⟩ := List.pairwise_cons.1 hn
    unfold setL
    rw [List.map_cons]
    by_cases hx : x.1.sameKey k = true
    · have hxk := (same_key (hk x (by simp)) hkk).1 hx
      have hF : x.2 = F := by
        unfold lookL at hl
        rw [List.find?_cons, hx] at hl
        simpa using hl
      have hr : (r.map fun p => if p.1.sameKey k then (p.1, G) else p) = r := by
        refine (List.map_congr_left fun p hp => ?_).trans (List.map_id r)
        rw [if_neg]
        · rfl
        · intro e
          exact h1 p hp (hxk.trans ((same_key (hk p (by simp [hp])) hkk).1 e).symm)
      rw [hr, if_pos hx, total_cons, total_cons, hF]
      simp only
      omega
    · have hx' : x.1.sameKey k = false := by simpa using hx
      have hl2 : lookL r k = some F := by
        unfold lookL at hl ⊢
        rw [List.find?_cons, hx'] at hl
        exact hl
      have := ih h2 (fun p hp => hk p (by simp [hp])) hl2
      rw [if_neg hx, total_cons, total_cons]
      unfold setL at this
      omega
theorem Fine.set {D : DiskD} (h : Fine D) {k : Lit} {F G : FileD} (hl : lookL D.files k = some F) (hs : G.sure ≤ G.bytes.length) (ht : total D.files + G.bytes.length ≤ D.room + F.bytes.length) : Fine (withFile D k G) := by
  have hm := mem_of_look hl
  have hkk := h.key hm
  have htt := total_set (G := G) h.apart (fun p hp => h.key hp) hl hkk
  refine ⟨?_, h.room, ?_, fun p hp => ?_, fun p hp => ?_, ?_, h.calls⟩
  · show (setL D.files k G).length ≤ 16
    rw [set_length]; exact h.few
  · show total (setL D.files k G) ≤ D.room
    omega
  · rcases mem_set hp with ⟨hp, _⟩ | ⟨e, _⟩
    · exact h.names p hp
    · rw [e]; exact h.names _ hm
  · rcases mem_set hp with ⟨hp, _⟩ | ⟨_, e⟩
    · exact h.sure p hp
    · rw [e]; exact hs
  · show (setL D.files k G).Pairwise _
    unfold setL
    rw [List.pairwise_map]
    refine h.apart.imp_of_mem fun ha hb hab => ?_
    split <;> split <;> exact hab
theorem Fine.done {D : DiskD} (h : Fine D) : Fine (done D) := by
  unfold Dk.done
  split
  · exact ⟨h.few, h.room, h.fits, h.names, h.sure, h.apart, by have := h.calls; show D.calls - 1 < _; omega⟩
  · exact h
theorem Fine.drop {D : DiskD} (h : Fine D) (k : Lit) : Fine { D with files := delL D.files k } := by
  have hle : ∀ l : FS, total (delL l k) ≤ total l := fun l => by
    unfold delL
    induction l with
    | nil => exact Nat.le_refl _
    | cons x r ih =>
      rw [List.filter_cons]
      split
      · rw [total_cons, total_cons]; omega
      · rw [total_cons]; omega
  exact ⟨Nat.le_trans (List.length_filter_le _ _) h.few, h.room, Nat.le_trans (hle _) h.fits, fun p hp => h.names p (mem_del hp).1, fun p hp => h.sure p (mem_del hp).1, h.apart.filter _, h.calls⟩
theorem total_perm {l l' : FS} (h : l.Perm l') : total l = total l' := (h.map _).sum_nat
theorem Fine.put {D : DiskD} (h : Fine D) {n : List UInt8} (hn : mayName n = true) (hl : lookL D.files (keyS n) = none) (hf : D.files.length < 16) : Fine { D with files := putL D.files (keyS n) ⟨[], 0, true⟩ } := by
  have hperm : (putL D.files (keyS n) (⟨[], 0, true⟩ : FileD)).Perm ((keyS n, ⟨[], 0, true⟩) :: D.files) := by
    have := put_perm D.files (keyS n) (⟨[], 0, true⟩ : FileD)
    rw [del_none _ _ hl] at this
    exact this
  have hno : ∀ p ∈ D.files, p.1 ≠ keyS n := fun p hp e => by
    unfold lookL at hl
    rw [Option.map_eq_none_iff, List.find?_eq_none] at hl
    exact hl p hp (by rw [e]; exact WideAt.sameKey_self (isKey n))
  refine ⟨?_, h.room, ?_, fun p hp => ?_, fun p hp => ?_, ?_, h.calls⟩
  · show (putL D.files _ _).length ≤ 16
    rw [hperm.length_eq]; simp only [List.length_cons]; omega
  · show total (putL D.files _ _) ≤ D.room
    rw [total_perm hperm, total_cons]
    have := h.fits
    simp only [List.length_nil]
    omega
  · rcases mem_put hp with rfl | ⟨hp, _⟩
    · exact ⟨n, rfl, hn⟩
    · exact h.names p hp
  · rcases mem_put hp with rfl | ⟨hp, _⟩
    · exact Nat.le_refl _
    · exact h.sure p hp
  · show (putL D.files _ _).Pairwise _
    refine hperm.symm.pairwise (List.pairwise_cons.2 ⟨fun p hp e => hno p hp e.symm, h.apart⟩) (fun h e => h e.symm)
end Go.Proofs.YtpiaplgbpjgjiaaDoor.Dk
