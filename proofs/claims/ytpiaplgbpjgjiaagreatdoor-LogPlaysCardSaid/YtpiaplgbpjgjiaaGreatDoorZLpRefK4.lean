/-
  The document's disk (layer 7) with one file at most, "a": the walk of Crash, all paths together. Condition: the disk is the call's own.
-/
import Derived.Test.YtpiaplgbpjgjiaaGreatDoorZLpRefK1
import Derived.Test.YtpiaplgbpjgjiaaGreatDoorZLpRefK2
import Derived.Test.YtpiaplgbpjgjiaaGreatDoorZLpRefK3
open Go Go.RowKit
namespace Go.Proofs.YtpiaplgbpjgjiaaGreatDoor.Lp
open Base Mp Dk Frame Lg

theorem RCrash_f {w : World} {rb g cap : Nat} {D : DiskD} {o : Option FileD} {R : Nat → Prop} (h : RDAt w rb g cap D o R) (p : Option Addr) (keep : List Int) (c : Nat) (hka : IntsAt w p keep) : Calls Tryz.prog 69 #[.pointer (some ⟨rb, 0, none⟩), .slice p keep.length c] w (CPost w rb R (crashD D keep)) := by
  cases o with
  | none => exact RCrash0_f h p keep c
  | some F =>
    by_cases ha : F.bytes.length - F.sure = 0 ∧ F.fresh = false
    · exact RCrashA_f h p keep c ha
    · by_cases hk0 : keep = []
      · cases hfr : F.fresh with
        | false => exact RCrashFNempty_f h p keep c hfr (fun e => ha ⟨e, hfr⟩) hk0
        | true =>
          by_cases hz : F.bytes.length - F.sure = 0
          · exact RCrashTZempty_f h p keep c hfr hz hk0
          · exact RCrashTNempty_f h p keep c hfr hz hk0
      · have hkl : 0 < keep.length := List.length_pos_iff.2 hk0
        by_cases hn : keep.headD (-1) < 0
        · cases hfr : F.fresh with
          | false => exact RCrashFNneg_f h p keep c hfr (fun e => ha ⟨e, hfr⟩) _ rfl hn hkl hka
          | true =>
            by_cases hz : F.bytes.length - F.sure = 0
            · exact RCrashTZneg_f h p keep c hfr hz _ rfl hn hkl hka
            · exact RCrashTNneg_f h p keep c hfr hz _ rfl hn hkl hka
        · obtain ⟨q, hq⟩ : ∃ q : Nat, keep.headD (-1) = (q : Int) := ⟨(keep.headD (-1)).toNat, by omega⟩
          by_cases hb : q ≤ F.bytes.length - F.sure
          · cases hfr : F.fresh with
            | false => exact RCrashFNmid_f h p keep c hfr (fun e => ha ⟨e, hfr⟩) q hq hb hkl hka
            | true =>
              by_cases hz : F.bytes.length - F.sure = 0
              · exact RCrashTZmid_f h p keep c hfr hz q hq hb hkl hka
              · exact RCrashTNmid_f h p keep c hfr hz q hq hb hkl hka
          · have hb2 : F.bytes.length - F.sure < q := by omega
            cases hfr : F.fresh with
            | false => exact RCrashFNbig_f h p keep c hfr (fun e => ha ⟨e, hfr⟩) q hq hb2 hkl hka
            | true =>
              by_cases hz : F.bytes.length - F.sure = 0
              · exact RCrashTZbig_f h p keep c hfr hz q hq hb2 hkl hka
              · exact RCrashTNbig_f h p keep c hfr hz q hq hb2 hkl hka
end Go.Proofs.YtpiaplgbpjgjiaaGreatDoor.Lp
