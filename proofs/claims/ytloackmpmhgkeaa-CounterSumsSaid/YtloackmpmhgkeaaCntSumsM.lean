/-
  CounterSums (layer 12) on plain data: replicas, deeds, and what their counters are. No program in sight.
-/
import Derived.Test.YtloackmpmhgkeaaCntOwn
open Go Go.RowKit
namespace Go.Proofs.Ytloackmpmhgkeaa.Cnt
open Base Mp

def keyR (k : Nat) : Key := [1, UInt8.ofNat (k + 1)]
theorem keyR_inj {i j : Nat} (hi : i < 5) (hj : j < 5) (h : keyR i = keyR j) : i = j := by
  have : ∀ i j : Fin 5, keyR i.val = keyR j.val → i = j := by decide
  have := this ⟨i, hi⟩ ⟨j, hj⟩ h
  simpa using this
def upd {α : Type} (F : Nat → α) (k : Nat) (v : α) : Nat → α := fun j => if j = k then v else F j
theorem upd_same {α : Type} (F : Nat → α) (k : Nat) (v : α) : upd F k v k = v := if_pos rfl
theorem upd_other {α : Type} (F : Nat → α) {k j : Nat} (v : α) (h : j ≠ k) : upd F k v j = F j := if_neg h
structure Inv (n i : Nat) (F : Nat → List CntD) (P M : Nat → Nat) : Prop where
  can : ∀ k, k < n → may (F k) = true
  supp : ∀ k, k < n → ∀ q, fOf (F k) q ≠ (0, 0) → ∃ j, j < n ∧ q = keyR j
  leP : ∀ k, k < n → ∀ j, j < n → (fOf (F k) (keyR j)).1 ≤ P j
  leM : ∀ k, k < n → ∀ j, j < n → (fOf (F k) (keyR j)).2 ≤ M j
  own : ∀ k, k < n → fOf (F k) (keyR k) = (P k, M k)
  bP : ∀ j, j < n → P j ≤ i * 2147483648
  bM : ∀ j, j < n → M j ≤ i * 2147483648
theorem bnd_next {a i c : Nat} (h : a ≤ i * c) : a ≤ (i + 1) * c := Nat.le_trans h (Nat.mul_le_mul_right c (Nat.le_succ i))
theorem bnd_more {a b i c : Nat} (h : a ≤ i * c) (k : b ≤ c) : a + b ≤ (i + 1) * c := by rw [Nat.succ_mul]; omega
theorem Inv.start (n : Nat) : Inv n 0 (fun _ => []) (fun _ => 0) (fun _ => 0) :=
  ⟨fun _ _ => rfl, fun _ _ _ h => absurd rfl h, fun _ _ _ _ => Nat.le_refl _, fun _ _ _ _ => Nat.le_refl _, fun _ _ => rfl, fun _ _ => by omega, fun _ _ => by omega⟩
theorem Inv.join {n i : Nat} {F : Nat → List CntD} {P M : Nat → Nat} (h : Inv n i F P M) {K O : Nat} (hK : K < n) (hO : O < n) {l : List CntD} (hm : may l = true) (hf : fOf l = fOf (F K ++ F O)) : Inv n (i + 1) (upd F K l) P M := by
  have hq : ∀ q, fOf l q = (max (fOf (F K) q).1 (fOf (F O) q).1, max (fOf (F K) q).2 (fOf (F O) q).2) := fun q => by rw [hf, fOf_append]
  refine ⟨fun k hk => ?_, fun k hk q h0 => ?_, fun k hk j hj => ?_, fun k hk j hj => ?_, fun k hk => ?_, fun j hj => bnd_next (h.bP j hj), fun j hj => bnd_next (h.bM j hj)⟩
  · by_cases e : k = K
    · subst e; rw [upd_same]; exact hm
    · rw [upd_other _ _ e]; exact h.can k hk
  · by_cases e : k = K
    · subst e
      rw [upd_same] at h0
      rcases Classical.em (fOf (F k) q = (0, 0)) with h1 | h1
      · rcases Classical.em (fOf (F O) q = (0, 0)) with h2 | h2
        · rw [hq, h1, h2] at h0; exact absurd rfl h0
        · exact h.supp O hO q h2
      · exact h.supp k hk q h1
    · rw [upd_other _ _ e] at h0; exact h.supp k hk q h0
  · by_cases e : k = K
    · subst e
      rw [upd_same, hq]
      have h1 := h.leP k hk j hj
      have h2 := h.leP O hO j hj
      simp only
      omega
    · rw [upd_other _ _ e]; exact h.leP k hk j hj
  · by_cases e : k = K
    · subst e
      rw [upd_same, hq]
      have h1 := h.leM k hk j hj
      have h2 := h.leM O hO j hj
      simp only
      omega
    · rw [upd_other _ _ e]; exact h.leM k hk j hj
  · by_cases e : k = K
    · subst e
      rw [upd_same, hq, h.own k hk]
      have h2 := h.leP O hO k hk
      have h3 := h.leM O hO k hk
      rw [Prod.mk.injEq]
      simp only
      omega
    · rw [upd_other _ _ e]; exact h.own k hk
theorem Inv.add {n i : Nat} {F : Nat → List CntD} {P M : Nat → Nat} (h : Inv n i F P M) (hn : n ≤ 5) (hi : i ≤ 200) {K u d : Nat} (hK : K < n) (hu : u ≤ 2147483648) (hd : d ≤ 2147483648) {l : List CntD} (hm : may l = true) (hf : fOf l = addF (fOf (F K)) (keyR K) u d) :
    Inv n (i + 1) (upd F K l) (upd P K (P K + u)) (upd M K (M K + d)) := by
  have hown := h.own K hK
  have hb1 := h.bP K hK
  have hb2 := h.bM K hK
  have hk : fOf l (keyR K) = (P K + u, M K + d) := by
    rw [hf]
    unfold addF
    rw [if_pos rfl, hown]
    unfold tog
    rw [Prod.mk.injEq]
    simp only
    omega
  have ho : ∀ q, q ≠ keyR K → fOf l q = fOf (F K) q := fun q hq => by rw [hf]; exact if_neg hq
  have hne : ∀ j, j < n → j ≠ K → keyR j ≠ keyR K := fun j hj e e2 => e (keyR_inj (by omega) (by omega) e2)
  refine ⟨fun k hk' => ?_, fun k hk' q h0 => ?_, fun k hk' j hj => ?_, fun k hk' j hj => ?_, fun k hk' => ?_, fun j hj => ?_, fun j hj => ?_⟩
  · by_cases e : k = K
    · subst e; rw [upd_same]; exact hm
    · rw [upd_other _ _ e]; exact h.can k hk'
  · by_cases e : k = K
    · subst e
      rw [upd_same] at h0
      by_cases hq : q = keyR k
      · exact ⟨k, hK, hq⟩
      · rw [ho q hq] at h0; exact h.supp k hK q h0
    · rw [upd_other _ _ e] at h0; exact h.supp k hk' q h0
  · by_cases e2 : j = K
    · subst e2
      rw [upd_same]
      by_cases e : k = j
      · subst e; rw [upd_same, hk]; exact Nat.le_refl _
      · rw [upd_other _ _ e]; have := h.leP k hk' j hj; omega
    · rw [upd_other _ _ e2]
      by_cases e : k = K
      · subst e; rw [upd_same, ho _ (hne j hj e2)]; exact h.leP k hk' j hj
      · rw [upd_other _ _ e]; exact h.leP k hk' j hj
  · by_cases e2 : j = K
    · subst e2
      rw [upd_same]
      by_cases e : k = j
      · subst e; rw [upd_same, hk]; exact Nat.le_refl _
      · rw [upd_other _ _ e]; have := h.leM k hk' j hj; omega
    · rw [upd_other _ _ e2]
      by_cases e : k = K
      · subst e; rw [upd_same, ho _ (hne j hj e2)]; exact h.leM k hk' j hj
      · rw [upd_other _ _ e]; exact h.leM k hk' j hj
  · by_cases e : k = K
    · subst e; rw [upd_same, upd_same, upd_same, hk]
    · rw [upd_other _ _ e, upd_other _ _ e, upd_other _ _ e]; exact h.own k hk'
  · by_cases e : j = K
    · subst e; rw [upd_same]; exact bnd_more hb1 hu
    · rw [upd_other _ _ e]; exact bnd_next (h.bP j hj)
  · by_cases e : j = K
    · subst e; rw [upd_same]; exact bnd_more hb2 hd
    · rw [upd_other _ _ e]; exact bnd_next (h.bM j hj)
/-! ### Lengths and values -/
theorem nodup_sub_len : ∀ (a b : List Key), a.Nodup → (∀ x ∈ a, x ∈ b) → a.length ≤ b.length
  | [], _, _, _ => Nat.zero_le _
  | x :: r, b, hn, hs => by
    obtain ⟨h1, h2⟩ := List.nodup_cons.1 hn
    have hx := hs x (by simp)
    have := nodup_sub_len r (b.erase x) h2 fun y hy => by
      have hne : y ≠ x := fun e => h1 (e ▸ hy)
      exact (List.mem_erase_of_ne hne).2 (hs y (by simp [hy]))
    rw [List.length_erase_of_mem hx] at this
    have := List.length_pos_of_mem hx
    rw [List.length_cons]
    omega
def keysR (n : Nat) : List Key := (List.range n).map keyR
theorem mem_keysR {n : Nat} {q : Key} : q ∈ keysR n ↔ ∃ j, j < n ∧ q = keyR j := by
  unfold keysR
  rw [List.mem_map]
  exact ⟨fun ⟨j, h1, h2⟩ => ⟨j, List.mem_range.1 h1, h2.symm⟩, fun ⟨j, h1, h2⟩ => ⟨j, List.mem_range.2 h1, h2.symm⟩⟩
theorem keysR_nodup {n : Nat} (hn : n ≤ 5) : (keysR n).Nodup := by
  unfold keysR List.Nodup
  rw [List.pairwise_map]
  exact (List.nodup_range (n := n)).imp_of_mem fun {i j} hi hj h e => h (keyR_inj (by have := List.mem_range.1 hi; omega) (by have := List.mem_range.1 hj; omega) e)
theorem len_of_supp {l : List CntD} {n : Nat} (hm : may l = true) (hs : ∀ q, fOf l q ≠ (0, 0) → ∃ j, j < n ∧ q = keyR j) : l.length ≤ n := by
  have h1 := (may_iff l).1 hm
  have hnd : (l.map (·.by_)).Nodup := h1.2.imp fun h e => by rw [e] at h; exact List.lt_irrefl _ h
  have := nodup_sub_len (l.map (·.by_)) (keysR n) hnd fun q hq => by
    obtain ⟨c, hc, rfl⟩ := List.mem_map.1 hq
    obtain ⟨a, b⟩ := mx_one l hnd c hc
    refine mem_keysR.2 (hs _ fun e => h1.1 c hc ?_)
    simp only [fOf, a, b, Prod.mk.injEq] at e
    exact e
  simpa [keysR] using this
def sumT : Nat → (Nat → Nat) → (Nat → Nat) → Int
  | 0, _, _ => 0
  | n + 1, P, M => sumT n P M + ((P n : Int) - M n)
theorem vSum_keysR (f : Fn) : ∀ n, vSum (keysR (n + 1)) f = vSum (keysR n) f + term f (keyR n) := fun n => by
  unfold keysR vSum
  rw [List.range_succ, List.map_append, List.map_append, List.sum_append]
  simp
theorem vSum_bound {f : Fn} {B : Nat} : ∀ n : Nat, (∀ j, j < n → (f (keyR j)).1 ≤ B ∧ (f (keyR j)).2 ≤ B) → -((n * B : Nat) : Int) ≤ vSum (keysR n) f ∧ vSum (keysR n) f ≤ ((n * B : Nat) : Int)
  | 0, _ => by simp [keysR, vSum]
  | n + 1, h => by
    have ih := vSum_bound (f := f) n fun j hj => h j (by omega)
    obtain ⟨h1, h2⟩ := h n (by omega)
    rw [vSum_keysR]
    unfold term
    have e : ((n + 1) * B : Nat) = n * B + B := Nat.succ_mul n B
    rw [e]
    omega
theorem vSum_sumT {f : Fn} {P M : Nat → Nat} : ∀ n : Nat, (∀ j, j < n → f (keyR j) = (P j, M j)) → vSum (keysR n) f = sumT n P M
  | 0, _ => rfl
  | n + 1, h => by
    rw [vSum_keysR, vSum_sumT n fun j hj => h j (by omega), sumT]
    unfold term
    rw [h n (by omega)]
theorem sumT_congr {P P' M M' : Nat → Nat} : ∀ n : Nat, (∀ j, j < n → P j = P' j ∧ M j = M' j) → sumT n P M = sumT n P' M'
  | 0, _ => rfl
  | n + 1, h => by
    rw [sumT, sumT, sumT_congr n fun j hj => h j (by omega), (h n (by omega)).1, (h n (by omega)).2]
theorem sumT_upd {P M : Nat → Nat} {K u d : Nat} : ∀ n : Nat, K < n → sumT n (upd P K (P K + u)) (upd M K (M K + d)) = sumT n P M + u - d
  | 0, h => absurd h (by omega)
  | n + 1, h => by
    rw [sumT, sumT]
    by_cases e : n = K
    · subst e
      rw [upd_same, upd_same, sumT_congr n (P' := P) (M' := M) fun j hj => ⟨upd_other _ _ (by omega), upd_other _ _ (by omega)⟩]
      omega
    · rw [upd_other _ _ e, upd_other _ _ e, sumT_upd n (by omega)]
      omega
theorem Inv.len {n i : Nat} {F : Nat → List CntD} {P M : Nat → Nat} (h : Inv n i F P M) {k : Nat} (hk : k < n) : (F k).length ≤ n := len_of_supp (h.can k hk) (h.supp k hk)
theorem Inv.val {n i : Nat} {F : Nat → List CntD} {P M : Nat → Nat} (h : Inv n i F P M) (hn : n ≤ 5) (hi : i ≤ 200) {k : Nat} (hk : k < n) (ho : Oks (F k)) : -2147483648000 ≤ valE (F k) ∧ valE (F k) ≤ 2147483648000 := by
  unfold valE
  rw [sum_of rfl ho.str (keysR_nodup hn) (fun q hq => mem_keysR.2 (h.supp k hk q hq))]
  have hb := vSum_bound (f := fOf (F k)) (B := i * 2147483648) n fun j hj => ⟨Nat.le_trans (h.leP k hk j hj) (h.bP j hj), Nat.le_trans (h.leM k hk j hj) (h.bM j hj)⟩
  have hle : n * (i * 2147483648) ≤ 5 * (200 * 2147483648) := Nat.mul_le_mul hn (by omega)
  unfold wrap64
  omega
/-! ### The last joins -/
structure Fin (n k : Nat) (P M : Nat → Nat) (j : List CntD) : Prop where
  can : may j = true
  supp : ∀ q, fOf j q ≠ (0, 0) → ∃ i, i < n ∧ q = keyR i
  leP : ∀ i, i < n → (fOf j (keyR i)).1 ≤ P i
  leM : ∀ i, i < n → (fOf j (keyR i)).2 ≤ M i
  all : ∀ i, i < n → n ≤ i + k → fOf j (keyR i) = (P i, M i)
theorem Fin.start (n : Nat) (P M : Nat → Nat) : Fin n 0 P M [] := ⟨rfl, fun _ h => absurd rfl h, fun _ _ => Nat.zero_le _, fun _ _ => Nat.zero_le _, fun i hi h => absurd h (by omega)⟩
theorem Fin.step {n i k K : Nat} {F : Nat → List CntD} {P M : Nat → Nat} (h : Inv n i F P M) {j l : List CntD} (hj : Fin n k P M j) (hK : K + k + 1 = n) (hm : may l = true) (hf : fOf l = fOf (F K ++ j)) : Fin n (k + 1) P M l := by
  have hKn : K < n := by omega
  have hq : ∀ q, fOf l q = (max (fOf (F K) q).1 (fOf j q).1, max (fOf (F K) q).2 (fOf j q).2) := fun q => by rw [hf, fOf_append]
  refine ⟨hm, fun q h0 => ?_, fun i hi => ?_, fun i hi => ?_, fun i hi h0 => ?_⟩
  · rcases Classical.em (fOf (F K) q = (0, 0)) with h1 | h1
    · rcases Classical.em (fOf j q = (0, 0)) with h2 | h2
      · rw [hq, h1, h2] at h0; exact absurd rfl h0
      · exact hj.supp q h2
    · exact h.supp K hKn q h1
  · rw [hq]
    have h1 := h.leP K hKn i hi
    have h2 := hj.leP i hi
    simp only
    omega
  · rw [hq]
    have h1 := h.leM K hKn i hi
    have h2 := hj.leM i hi
    simp only
    omega
  · rw [hq]
    have h1 := h.leP K hKn i hi
    have h2 := hj.leP i hi
    have h3 := h.leM K hKn i hi
    have h4 := hj.leM i hi
    by_cases e : i = K
    · subst e
      rw [h.own i hi]
      rw [Prod.mk.injEq]
      simp only
      omega
    · have h5 := hj.all i hi (by omega)
      rw [h5, Prod.mk.injEq]
      simp only
      omega
theorem Fin.val {n i : Nat} {F : Nat → List CntD} {P M : Nat → Nat} {j : List CntD} (h : Inv n i F P M) (hj : Fin n n P M j) (hn : n ≤ 5) (hi : i ≤ 200) (ho : Oks j) : valE j = sumT n P M := by
  unfold valE
  rw [sum_of rfl ho.str (keysR_nodup hn) (fun q hq => mem_keysR.2 (hj.supp q hq))]
  have hb := vSum_bound (f := fOf j) (B := i * 2147483648) n fun a ha => ⟨Nat.le_trans (hj.leP a ha) (h.bP a ha), Nat.le_trans (hj.leM a ha) (h.bM a ha)⟩
  have hs := vSum_sumT (f := fOf j) (P := P) (M := M) n fun a ha => hj.all a ha (by omega)
  have hle : n * (i * 2147483648) ≤ 5 * (200 * 2147483648) := Nat.mul_le_mul hn (by omega)
  rw [hs] at hb ⊢
  unfold wrap64
  omega
theorem sumT_bound {n i : Nat} {F : Nat → List CntD} {P M : Nat → Nat} (h : Inv n i F P M) (hn : n ≤ 5) (hi : i ≤ 200) : -2147483648000 ≤ sumT n P M ∧ sumT n P M ≤ 2147483648000 := by
  have key : ∀ m, m ≤ n → -((m * (i * 2147483648) : Nat) : Int) ≤ sumT m P M ∧ sumT m P M ≤ ((m * (i * 2147483648) : Nat) : Int) := by
    intro m
    induction m with
    | zero => intro _; simp [sumT]
    | succ m ih =>
      intro hm
      have ih := ih (by omega)
      have h1 := h.bP m (by omega)
      have h2 := h.bM m (by omega)
      have e : ((m + 1) * (i * 2147483648) : Nat) = m * (i * 2147483648) + i * 2147483648 := Nat.succ_mul _ _
      rw [sumT, e]
      omega
  have := key n (Nat.le_refl _)
  have hle : n * (i * 2147483648) ≤ 5 * (200 * 2147483648) := Nat.mul_le_mul hn (by omega)
  omega
theorem Fin.idem {n i : Nat} {F : Nat → List CntD} {P M : Nat → Nat} {j : List CntD} (h : Inv n i F P M) (hj : Fin n n P M j) (h0 : 0 < n) : fOf (j ++ F 0) = fOf j := by
  funext q
  rw [fOf_append]
  rcases Classical.em (fOf (F 0) q = (0, 0)) with h1 | h1
  · rw [h1]; simp
  · obtain ⟨a, ha, rfl⟩ := h.supp 0 h0 q h1
    have h2 := h.leP 0 h0 a ha
    have h3 := h.leM 0 h0 a ha
    rw [hj.all a ha (by omega), Prod.mk.injEq]
    simp only
    omega
end Go.Proofs.Ytloackmpmhgkeaa.Cnt
