/-
  LogKeeps: the law's row and its card: the call returns true, at every input; the argument reads behind the call as it did.
-/
import Derived.Test.YtpiaplgbpjgjiaaDoorCards
import Derived.Test.YtpiaplgbpjgjiaaDoorTie
import Derived.Test.YtpiaplgbpjgjiaaDoorFront
import Derived.Test.YtpiaplgbpjgjiaaDoorLgKeeps
import Derived.Test.YtpiaplgbpjgjiaaDoorDkOpen
import Derived.WalkKit
import Derived.ProofKit
import Derived.OpenShut
import Derived.Deep.DeepHandedRow
import Derived.Lib.LaidTab
import Derived.LaidMore
import Derived.SevenTiedAt
namespace Go.Proofs.YtpiaplgbpjgjiaaDoor.PLogKeeps
open Go Go.ChangeShapes Go.WideShapes Go.ChangeAt Go.RowKit Go.WideMaps Go.WideElems
open Go.ChangeMaps (open_string)

theorem own : ownKnob Tryd.prog.godebug = none := by kernel_rfl
theorem laidOut : laidOutB Tryd.prog = true := by kernel_rfl
theorem gTab : Tryd.prog.globalNamed "gossamer/crc.table" = some 0 := by kernel_rfl
theorem gTabType : (Tryd.prog.globals[0]?).map (·.type) = some 92 := by kernel_rfl
theorem cellsA : Tryd.prog.cellsOf 92 = 16 := by kernel_rfl
theorem cellsE : Tryd.prog.cellsOf 50 = 1 := by kernel_rfl
theorem table {W : World} (h : laidMetH Tryd.prog Rows.logKeepsRow.laid W) : Crc.TabOk W := by
  have ht : Lib.TabIs Tryd.prog W "gossamer/crc.table" .u32 [0, 274646895, 549293790, 820201905, 1098587580, 1361435347, 1640403810, 1905808397, 2197175160, 2460548119, 2722870694, 2987750089, 3280807620, 3553878443, 3811616794, 4084100981] :=
    Lib.tabIs_of_head (rest := []) gTab gTabType Tryd.underlying92 Tryd.underlying50 cellsE cellsA h
  intro i hi
  rw [ht.cell gTab i (by simpa using hi)]
  have : ∀ i : Fin 16, ([0, 274646895, 549293790, 820201905, 1098587580, 1361435347, 1640403810, 1905808397, 2197175160, 2460548119, 2722870694, 2987750089, 3280807620, 3553878443, 3811616794, 4084100981] : List Int)[i.val]?.getD 0 = (Crc.tab i.val : Nat) := by decide
  simpa using this ⟨i, hi⟩

set_option maxRecDepth 100000 in
theorem contract (H : Type) (enc : TypeId × Value → H) (W : World) (base : Nat) (args : Array Value) (ds gs : List (DataW H)) (before : List MemPlace)
    (hval : ∀ (j : Nat) t v, Tryd.f6.params[j]? = some t → args[j]? = some v → Value.okWide Tryd.prog W .any base t v)
    (hW : DataW.Whole enc Tryd.prog Tryd.f6.params.toList Rows.logKeepsSpec.vars false W args.toList ds gs before) (hz : (DataW.weightsEach Tryd.prog (Tryd.f6.params.toList ++ (OpenSpec.ofChange Rows.logKeepsSpec).bare.plain.varTypes Tryd.prog) (ds ++ gs)).all (· ≤ reachBytes) = true) (hL : laidMetH Tryd.prog Rows.logKeepsRow.laid W) :
    Calls Tryd.prog 6 args W fun e W' => ∃ v, e = .returned v ∧ Rows.logKeepsSpec.post enc Tryd.prog Tryd.f6 false true false false W args v W' := by
  have hW' := hW
  obtain ⟨p, q, hA0, hV, rfl, hfz, hnd⟩ := hW
  have hA : DataW.TrodAll enc Tryd.prog W 0 (fun _ => true) true Tryd.f6.params.toList args.toList ds p := hA0
  rw [Tryd.params6] at hA hval
  obtain ⟨v0, vs0, d0, ds0, p0, q0, hargs, rfl, rfl, h0, r0⟩ := trodAll_cons hA
  obtain ⟨v1, vs1, d1, ds1, p1, q1, rfl, rfl, rfl, h1, r1⟩ := trodAll_cons r0
  obtain ⟨v2, vs2, d2, ds2, p2, q2, rfl, rfl, rfl, h2, r2⟩ := trodAll_cons r1
  obtain ⟨rfl, rfl, rfl⟩ := trodAll_nil r2
  obtain rfl : args = #[v0, v1, v2] := by cases args; simp_all
  obtain ⟨rfl, rfl⟩ := trodVars_none hV
  obtain ⟨a0, x0, c0, rfl, w0, cc0, b0, e0⟩ := Lg.open_rounds (hval 0 44 v0 rfl rfl) h0
  obtain ⟨a1, x1, c1, rfl, w1, b1⟩ := Front.open_bytes Tryd.underlying45 Tryd.underlying5 (by kernel_rfl) (hval 1 45 v1 rfl rfl) h1
  obtain ⟨a2, x2, c2, rfl, w2, cc2, b2⟩ := Dk.open_nums (hval 2 46 v2 rfl rfl) h2
  have z0 : ∀ l ∈ x0, ∀ t ∈ l, t.length ≤ 140737488351232 := fun l hl t ht => by
    have hm := (e0 l hl).2 t ht
    have := of_decide_eq_true (List.all_eq_true.1 hz t.length (by
      rw [Tryd.params6]
      simp only [List.cons_append, List.nil_append, DataW.weightsEach, List.mem_append]
      first | exact .inl hm | exact .inr (.inl hm) | exact .inr (.inr (.inl hm)) | exact .inr (.inr (.inr (.inl hm)))))
    simpa [reachBytes] using this
  have walk : Calls Tryd.prog 6 _ W fun e w' => e = .returned (.bool true) ∧ Below W.heap.size W w' :=
    Lg.LogKeeps_calls W a0 a1 a2 c0 c1 c2 x0 x1 x2 w0 b0 (fun l hl => (e0 l hl).1) z0 w1 b1 w2 b2 (table hL)
  refine walk.mono fun e W' ⟨he, hb⟩ => ?_
  subst he
  exact ⟨_, rfl, Front.post_true laidOut (by kernel_rfl) rfl (by kernel_rfl) Tryd.underlying4 hW' rfl hb⟩

theorem laid_met (os : Os) : laidMet Tryd.prog Rows.logKeepsRow.laid ((World.doorLaid Tryd.prog 400 os).forCall (fun _ _ => 0) ⟨#[], #[Value.slice none 0 0, Value.slice none 0 0, Value.slice none 0 0], []⟩).memory :=
  laidMet_of_run' 8 (by kernel_rfl) (by kernel_rfl)
theorem reads (os : Os) {H : Type} (enc : TypeId × Value → H) : ∃ places, DataW.whole enc Tryd.prog ((World.doorLaid Tryd.prog 400 os).forCall (fun _ _ => 0) ⟨#[], #[Value.slice none 0 0, Value.slice none 0 0, Value.slice none 0 0], []⟩).memory Tryd.f6.params.toList Rows.logKeepsSpec.vars false (#[Value.slice none 0 0, Value.slice none 0 0, Value.slice none 0 0] : Array Value).toList 8 = some ([.nil, .nil, .nil], [], places) :=
  ⟨[], by kernel_rfl⟩

set_option maxRecDepth 100000 in
theorem lifted (os : Os) (started : os.Started) (H : Type) (enc : TypeId × Value → H) (F : Stop.Interp) :
    ReturnsInHanded {} Tryd.checked os 6 .any ((OpenSpec.ofChange Rows.logKeepsSpec).preRow enc Tryd.prog Tryd.f6 Rows.logKeepsRow.domain false Rows.logKeepsRow.laid) (((OpenSpec.ofChange Rows.logKeepsSpec).at F).post enc Tryd.prog Tryd.f6 false true false false) := by
  obtain ⟨places, hx⟩ := reads os enc
  refine returnsInHanded_of_row (C := Tryd.checked) (s := OpenSpec.ofChange Rows.logKeepsSpec) own started (by kernel_rfl) Tryd.func6
    (witness_row_at (enc := enc) (C := Tryd.checked) false (World.doorLaid Tryd.prog 400 os) #[Value.slice none 0 0, Value.slice none 0 0, Value.slice none 0 0] rfl (by kernel_rfl) (by kernel_rfl) (by kernel_rfl)
      (OpenSpec.preRow_of_cond 8 hx (by kernel_rfl) (fun k hk => by cases hk) (by kernel_rfl) (laid_met os))) ?_
  intro W base args ds gs before hval hW _ _ hz hL _ _
  exact contract H enc W base args ds gs before hval hW hz hL

theorem said : Rows.LogKeepsSaid :=
  OpenClaim.holds_of_cond 6 Tryd.f6 rfl rfl rfl rfl rfl rfl rfl ⟨rfl, rfl, rfl, rfl, rfl⟩ rfl rfl rfl rfl rfl (by kernel_rfl) Tryd.func6 (by kernel_rfl)
    (of_decide_eq_true (by kernel_rfl)) (by unfold Func.isWrapper; first | (rw [if_pos (by decide +kernel)]; kernel_rfl) | (rw [if_neg (by decide +kernel)]; exact ⟨rfl, rfl⟩))
    (fun os started H enc _ F => by rw [OpenClaim.pre_eq_preRow]; exact lifted os started H enc F)

theorem plain (f : FuncId) (fn : Func) (hf : Tryd.pinned.checked.prog.funcNamed "gossamer/gossamerlaw08.LogKeeps" = some f) (hfn : Tryd.pinned.checked.prog.funcs[f]? = some fn) :
    false = Tryd.pinned.checked.prog.looks [] ∧ ∀ (j : Nat) t, fn.params[j]? = some t → Tryd.pinned.checked.prog.wantsStandIn t = false := by
  obtain rfl : f = 6 := Option.some.inj ((show Tryd.prog.funcNamed "gossamer/gossamerlaw08.LogKeeps" = some 6 by kernel_rfl).symm.trans hf) |>.symm
  obtain rfl : fn = Tryd.f6 := (Option.some.inj (Tryd.func6.symm.trans hfn)).symm
  refine ⟨by kernel_rfl, fun j t ht => ?_⟩
  have hall : (Tryd.f6.params.toList.all fun u => !Tryd.prog.wantsStandIn u) = true := by kernel_rfl
  have hm : t ∈ Tryd.f6.params.toList := by simpa using Array.mem_of_getElem? ht
  exact (show Tryd.prog.wantsStandIn t = false by simpa using List.all_eq_true.1 hall t hm)

theorem card : Rows.LogKeepsCardSaid :=
  Claim7.holds_tied_plain_at .later [] _ _ _ _ said (fun _ h => by cases h) (by kernel_rfl) (fun _ h => by cases h) logKeeps_row_tie rfl ⟨rfl, rfl⟩ (by kernel_rfl) rfl plain (by kernel_rfl)
#print axioms card
end Go.Proofs.YtpiaplgbpjgjiaaDoor.PLogKeeps
