/-
  Stores (layer 9): the walk of steps over three closures. No condition but what it says.
-/
import Derived.Shelf.Abstract
import Derived.Test.YtmejdcnnpenaaaaGreatDoorZStF
open Go Go.RowKit
namespace Go.Proofs.YtmejdcnnpenaaaaGreatDoor.St
open Base Mp Dk Frame Lg

/-- A closure's answer is 0 and what it leaves is P, or it is another one and what it leaves is Q. -/
def Step (P : World → Prop) (Q : Int → World → Prop) (e : Ending) (w' : World) : Prop := ∃ c : Int, e = .returned (.int .i64 c) ∧ ((c = 0 ∧ P w') ∨ (c ≠ 0 ∧ Q c w'))
set_option maxRecDepth 100000 in
theorem Steps3 {w : World} {g : Nat} {cap : Nat} {F1 F2 F3 : FuncId} {k1 k2 k3 : Array Value} {P1 P2 P3 : World → Prop} {Q : Int → World → Prop}
    (e1 : ∀ args w, (callFunc F1 args).run Tryz.prog w = .ok (.enter F1 args) w) (e2 : ∀ args w, (callFunc F2 args).run Tryz.prog w = .ok (.enter F2 args) w) (e3 : ∀ args w, (callFunc F3 args).run Tryz.prog w = .ok (.enter F3 args) w)
    (h1 : w.cell? ⟨g, 0, none⟩ = some (.func (.func F1) #[] k1))
    (h2 : ∀ w', P1 w' → w'.cell? ⟨g, 1, none⟩ = some (.func (.func F2) #[] k2))
    (h3 : ∀ w', P2 w' → w'.cell? ⟨g, 2, none⟩ = some (.func (.func F3) #[] k3))
    (c1 : Calls Tryz.prog F1 k1 w (Step P1 Q)) (c2 : ∀ w', P1 w' → Calls Tryz.prog F2 k2 w' (Step P2 Q)) (c3 : ∀ w', P2 w' → Calls Tryz.prog F3 k3 w' (Step P3 Q)) :
    Calls Tryz.prog 23 #[.slice (some ⟨g, 0, none⟩) 3 cap] w (Step P3 Q) := by
  have H2 := Lib.hid h2
  have H3 := Lib.hid h3
  have C1 := Lib.hid c1
  have C2 := Lib.hid c2
  have C3 := Lib.hid c3
  clear h2 h3 c1 c2 c3
  go_enter Tryz.func23, Tryz.ntmps23
  go_wp2
  go_loopw [8] (fun u wr => (u = .int .i64 0 ∧ wr = w) ∨ (u = .int .i64 1 ∧ P1 wr) ∨ (u = .int .i64 2 ∧ P2 wr) ∨ (u = .int .i64 3 ∧ P3 wr)) (fun u _ => 3 - (intOf u).toNat)
  case atStart => exact .inl ⟨rfl, rfl⟩
  case round =>
    rcases hrel with ⟨rfl, rfl⟩ | ⟨rfl, hp0⟩ | ⟨rfl, hp0⟩ | ⟨rfl, hp0⟩
    · have cc := h1
      go_wp2_with fail
      go_at_fn F1
      refine (C1.out).mono ?_
      rintro e w1 ⟨c, rfl, hc⟩
      rcases hc with ⟨rfl, hp⟩ | ⟨hne, hq⟩
      · have HP := Lib.hid hp
        clear hp
        go_wp2
        go_roundw
        case rel => exact .inr (.inl ⟨rfl, HP.out⟩)
        case measure => simp [intOf]
      · have q : (c != 0) = true := by simpa using hne
        have HQ := Lib.hid (And.intro hne hq)
        clear hne hq
        go_wp2
        go_ret
        exact ⟨c, rfl, .inr HQ.out⟩
    · have cc := H2.out _ hp0
      go_wp2_with fail
      go_at_fn F2
      refine (C2.out _ hp0).mono ?_
      rintro e w1 ⟨c, rfl, hc⟩
      rcases hc with ⟨rfl, hp⟩ | ⟨hne, hq⟩
      · have HP := Lib.hid hp
        clear hp
        go_wp2
        go_roundw
        case rel => exact .inr (.inr (.inl ⟨rfl, HP.out⟩))
        case measure => simp [intOf]
      · have q : (c != 0) = true := by simpa using hne
        have HQ := Lib.hid (And.intro hne hq)
        clear hne hq
        go_wp2
        go_ret
        exact ⟨c, rfl, .inr HQ.out⟩
    · have cc := H3.out _ hp0
      go_wp2_with fail
      go_at_fn F3
      refine (C3.out _ hp0).mono ?_
      rintro e w1 ⟨c, rfl, hc⟩
      rcases hc with ⟨rfl, hp⟩ | ⟨hne, hq⟩
      · have HP := Lib.hid hp
        clear hp
        go_wp2
        go_roundw
        case rel => exact .inr (.inr (.inr ⟨rfl, HP.out⟩))
        case measure => simp [intOf]
      · have q : (c != 0) = true := by simpa using hne
        have HQ := Lib.hid (And.intro hne hq)
        clear hne hq
        go_wp2
        go_ret
        exact ⟨c, rfl, .inr HQ.out⟩
    · go_wp2
      go_ret
      exact ⟨0, rfl, .inl ⟨rfl, hp0⟩⟩
end Go.Proofs.YtmejdcnnpenaaaaGreatDoor.St
