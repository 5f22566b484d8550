/- VmFuel of the given program, part 6 of 6 of the proof: for all arguments within the bound the law answers true, and each argument reads behind the call as before. Conditions: those of the given card. -/
import Derived.Test.YtnkfojenfnbchaaGreatDoorZ5
import Derived.Test.YtnkfojenfnbchaaGreatDoorTie
import Derived.WalkKit
import Derived.OpenShut
import Derived.Deep.DeepHandedRow
import Derived.Test.YtnkfojenfnbchaaGreatDoorCards
set_option linter.all false
set_option linter.unusedVariables false
set_option linter.unusedSimpArgs false
set_option linter.unnecessarySimpa false
section
namespace Go.Proofs.YtnkfojenfnbchaaGreatDoor.vmFuel
open Go.ChangeShapes Go.WideShapes Go.ChangeAt Go.RowKit
open Go.Am (imW vI vB valsV laidT Mdl Val)
set_option maxRecDepth 100000
theorem own : ownKnob Tryz.prog.godebug = none := by kernel_rfl
theorem gTab : Tryz.prog.globalNamed "internal/strconv.uint64pow10" = some 1 := by kernel_rfl
theorem gTabType : (Tryz.prog.globals[1]?).map (·.type) = some 145 := by kernel_rfl
theorem u145 : ∃ e, Tryz.prog.underlying 145 = some (.array 20 e) ∧ Tryz.prog.underlying e = some (.int .u64) ∧ Tryz.prog.cellsOf e = 1 := ⟨_, Tryz.underlying145, by kernel_rfl, by kernel_rfl⟩
theorem c145 : Tryz.prog.cellsOf 145 = 20 := by kernel_rfl
theorem table {W : World} (h : laidMetH Tryz.prog Rows.vmFuelRow.laid W) : ∀ p ∈ laidT, imW W p.1 = some p.2 := by
  have h' : laidMet Tryz.prog Rows.vmFuelRow.laid W := h
  obtain ⟨ps, ⟨_, _, _, _, _, _, _, _, _, _, ⟨_, _, _, _, _, _, _, _, _, _, ⟨g, t, cs, fuel, p, q, hg, ht, hv, hd, _⟩, _⟩, _⟩, _⟩ := h'
  obtain rfl := Option.some.inj (gTab.symm.trans hg)
  obtain rfl := Option.some.inj (gTabType.symm.trans ht)
  obtain ⟨e, u1, u2, u3⟩ := u145
  have hd' : DataW.trod (fun _ => ()) Tryz.prog W 0 (fun _ => true) false fuel 145 cs.toList = some (Lib.tabData .u64 Lib.pow10Tab, p) := hd
  have hc := Lib.cells_of_tab u1 u2 u3 c145 hd'
  intro x hx
  obtain rfl := List.mem_singleton.1 hx
  unfold World.var? at hv
  rw [gTab] at hv
  simp only [Option.bind_some] at hv
  show imW W 1 = _
  unfold imW
  split at hv
  · rename_i c t f hb
    rw [hb]
    injection hv with hv
    subst hv
    have : c = (Lib.pow10Tab.map fun z => Value.int .u64 z).toArray := by
      rw [← hc]
    rw [this]
    rfl
  · cases hv
def T15 (t : TypeId) : Prop := t = 25 ∨ t = 27 ∨ t = 3 ∨ t = 22 ∨ t = 23 ∨ t = 31 ∨ t = 52 ∨ t = 50 ∨ t = 48 ∨ t = 9
theorem flat15 : ∀ t, T15 t → Go.Am.Flat1 Tryz.prog T15 t := by
  intro t h
  rcases h with rfl | rfl | rfl | rfl | rfl | rfl | rfl | rfl | rfl | rfl <;> unfold Go.Am.Flat1
  · rw [Tryz.underlying25]; intro f hf; simp at hf; rcases hf with rfl | rfl <;> simp [T15]
  · rw [Tryz.underlying27]; intro f hf; simp at hf; rcases hf with rfl | rfl | rfl | rfl <;> simp [T15]
  · rw [Tryz.underlying3]; trivial
  · rw [Tryz.underlying22]; exact ⟨by simp [T15], by rw [Go.Am.c31]; decide⟩
  · rw [Tryz.underlying23]; exact ⟨by simp [T15], by rw [Go.Am.c52]; decide⟩
  · rw [Tryz.underlying31]; intro f hf; simp at hf; rcases hf with rfl | rfl | rfl | rfl <;> simp [T15]
  · rw [Tryz.underlying52]; intro f hf; simp at hf; rcases hf with rfl | rfl | rfl | rfl | rfl <;> simp [T15]
  · rw [Tryz.underlying50]; exact ⟨by simp [T15], by rw [Go.Am.c48]; decide⟩
  · rw [Tryz.underlying48]; intro f hf; simp at hf; rcases hf with rfl | rfl <;> simp [T15]
  · rw [Tryz.underlying9]; trivial
theorem args15 : ∀ t ∈ Tryz.f5.params.toList, T15 t := by
  rw [Tryz.params5]; intro t ht; simp at ht; rcases ht with rfl | rfl | rfl <;> simp [T15]
theorem contract (H : Type) (enc : TypeId × Value → H) (W : World) (base : Nat) (args : Array Value) (ds gs : List (DataW H)) (before : List MemPlace)
    (hval : ∀ (j : Nat) t v, Tryz.f5.params[j]? = some t → args[j]? = some v → Value.okWide Tryz.prog W .any base t v)
    (hW : DataW.Whole enc Tryz.prog Tryz.f5.params.toList Rows.vmFuelSpec.vars false W args.toList ds gs before) (hL : laidMetH Tryz.prog Rows.vmFuelRow.laid W) (hk : Rows.uptoSmall H (ds ++ gs) = true) :
    Calls Tryz.prog 5 args W fun e W' => ∃ v, e = .returned v ∧ Rows.vmFuelSpec.post enc Tryz.prog Tryz.f5 false true false false W args v W' := by
  have hW' := hW
  obtain ⟨p, q, hA0, hV, rfl, hfz, hnd⟩ := hW
  have hA : DataW.TrodAll enc Tryz.prog W 0 (fun _ => true) true Tryz.f5.params.toList args.toList ds p := hA0
  rw [Tryz.params5] at hA hval
  obtain ⟨a0, vs0, d0, ds0, p0, q0, hargs, rfl, rfl, h0, r0⟩ := trodAll_cons hA
  obtain ⟨a1, vs1, d1, ds1, p1, q1, rfl, rfl, rfl, h1, r1⟩ := trodAll_cons r0
  obtain ⟨a2, vs2, d2, ds2, p2, q2, rfl, rfl, rfl, h2, r2⟩ := trodAll_cons r1
  obtain ⟨rfl, rfl, rfl⟩ := trodAll_nil r2
  obtain rfl : args = #[a0, a1, a2] := by cases args; simp_all
  obtain ⟨rfl, rfl⟩ := trodVars_none hV
  have hbk : Rows.uptoBulkAll ([d0, d1, d2] ++ []) ≤ 1048576 := of_decide_eq_true hk
  simp only [List.append_nil, Rows.uptoBulkAll] at hbk
  obtain ⟨more, rfl, _, _⟩ := open_int Tryz.underlying3 (hval 2 3 a2 rfl rfl) h2
  obtain ⟨c0, rfl, _, _⟩ : ∃ cs, a0 = .agg cs ∧ cs.size = Tryz.prog.cellsOf 25 ∧ True := by
    have := hval 0 25 a0 rfl rfl
    unfold Value.okWide at this
    rw [Tryz.underlying25] at this
    obtain ⟨cs, h1, h2, _⟩ := this
    exact ⟨cs, h1, h2, trivial⟩
  obtain ⟨c1, rfl, _, _⟩ : ∃ cs, a1 = .agg cs ∧ cs.size = Tryz.prog.cellsOf 27 ∧ True := by
    have := hval 1 27 a1 rfl rfl
    unfold Value.okWide at this
    rw [Tryz.underlying27] at this
    obtain ⟨cs, h1, h2, _⟩ := this
    exact ⟨cs, h1, h2, trivial⟩
  obtain ⟨n0, t0⟩ := h0
  obtain ⟨n1, t1⟩ := h1
  obtain ⟨m, x0, x1, e0, hR0, hsm, hlc⟩ := Go.Am.rd_mdl t0 (by simp only; omega)
  obtain ⟨sts, ags, k, f, y0, y1, y2, y3, e1, hR1, hls, hla, hns, hna⟩ := Go.Am.rd_from t1 (by simp only; omega)
  have ec0 : c0 = #[x0, x1] := by cases c0; simpa [Value.cells] using e0
  have ec1 : c1 = #[y0, y1, y2, y3] := by cases c1; simpa [Value.cells] using e1
  subst ec0 ec1
  have hret := Go.Am.VmFuel_spec m sts ags k f more ⟨hsm, hlc, hls, hla, hns, hna⟩
  have hcalled := hret (imW W) Go.Am.Mu.bot #[.agg #[x0, x1], .agg #[y0, y1, y2, y3], .int .i64 more] W
    ⟨rfl, fun j u hj => by
      match j, hj with
      | 0, hj => injection hj with hj; subst hj; exact hR0
      | 1, hj => injection hj with hj; subst hj; exact hR1
      | 2, hj => injection hj with hj; subst hj; exact .c _
      | j + 3, hj => simp at hj⟩ (Go.Am.wd_imW (table hL))
  obtain ⟨fn, c, k1, k2, k3, _⟩ := Go.Am.fn_quernlaw15_VmFuel.ex
  have hrun : (callFunc 5 #[.agg #[x0, x1], .agg #[y0, y1, y2, y3], .int .i64 more]).run Tryz.prog W = .ok (.enter 5 #[.agg #[x0, x1], .agg #[y0, y1, y2, y3], .int .i64 more]) W := by
    have k2' : ¬ fn.name = "runtime.NumGoroutine" := by simpa using k2
    simp [callFunc, k1, k2', k3]
  unfold Go.Am.Called at hcalled
  rw [hrun] at hcalled
  refine Calls.mono hcalled ?_
  rintro e W' ⟨r, H', μ', rfl, ⟨x, rfl, hx⟩, hNj, hWd, _, _⟩
  obtain rfl := hx.c_inv
  have hkeep : ∀ b, b < W.heap.size → W'.heap[b]? = W.heap[b]? := fun b hb => hNj.keep b hb (by simp [Go.Am.Owns, Go.Am.hpE])
  refine ⟨_, rfl, _, _, _, [], p0 ++ (p1 ++ (p2 ++ [])), [], hW', ?_, ?_, rfl, ?_, fun h => by cases h⟩
  · exact trodAll_cons_mk (shut_bool Tryz.underlying4 _) trodAll_mk0
  · exact Go.Am.trodAll_back flat15 hkeep args15 hA0 fun p hp => by
      have := hW'.lt p (by simpa using hp)
      simpa using this
  · refine ⟨hNj.os, hNj.output, fun i hi => ?_⟩
    rw [hkeep i hi]
    split
    · rename_i e1 e2
      rw [e1] at e2
      injection e2 with e2
      injection e2 with e3 e4 e5
      subst e3 e4 e5
      exact ⟨rfl, rfl, rfl, fun _ _ => rfl⟩
    · rename_i e1 e2
      rw [e1] at e2
      injection e2 with e2
      injection e2 with e3 e4
      exact .inr ⟨e3.symm, e4.symm⟩
    · rfl
end Go.Proofs.YtnkfojenfnbchaaGreatDoor.vmFuel
end

section
namespace Go.Proofs.YtnkfojenfnbchaaGreatDoor.vmFuel
open Go.ChangeShapes Go.WideShapes Go.ChangeAt Go.RowKit
set_option maxRecDepth 100000
def cellsD : DataW Unit → Array Value
  | .agg ps => (ps.map fun d => match d with | .lit (.int k n) => Value.int k n | _ => Value.bool false).toArray
  | _ => #[]
def lay (o : Obj) (d : DataW Unit) : Obj := match o with | .cells _ t frozen => .cells (cellsD d) t frozen | o => o
noncomputable def laidWorld (os : Os) : World :=
  { World.holding Tryz.prog os ⟨#[], #[], []⟩ with heap := (((World.holding Tryz.prog os ⟨#[], #[], []⟩).heap.modify 1 fun o => lay o Rows.laid_internal_strconv_uint64pow10).modify 2 fun o => lay o Rows.laid_math_bits_deBruijn32tab).modify 3 fun o => lay o Rows.laid_math_bits_deBruijn64tab }
abbrev wargs : Array Value := #[.agg #[.slice none 0 0, .slice none 0 0], .agg #[.slice none 0 0, .slice none 0 0, .int .i64 0, .int .i64 0], .int .i64 0]
theorem laid_met (os : Os) : laidMet Tryz.prog Rows.vmFuelRow.laid ((laidWorld os).forCall (fun _ _ => 0) ⟨#[], wargs, []⟩).memory :=
  laidMet_of_run' 8 (by kernel_rfl) (by kernel_rfl)
theorem reads (os : Os) {H : Type} (enc : TypeId × Value → H) : ∃ places, DataW.whole enc Tryz.prog ((laidWorld os).forCall (fun _ _ => 0) ⟨#[], wargs, []⟩).memory Tryz.f5.params.toList Rows.vmFuelSpec.vars false wargs.toList 8 =
    some ([.agg [.nil, .nil], .agg [.nil, .nil, .lit (.int .i64 0), .lit (.int .i64 0)], .lit (.int .i64 0)], [], places) :=
  ⟨[], by kernel_rfl⟩
theorem liftedUpto (os : Os) (started : os.Started) (H : Type) (enc : TypeId × Value → H) (F : Stop.Interp) :
    ReturnsInHanded {} Tryz.checked os 5 .any ((Rows.OpenSpec.upto Rows.vmFuelSpec).preRow enc Tryz.prog Tryz.f5 Rows.vmFuelUptoRow.domain false Rows.vmFuelUptoRow.laid) (((Rows.OpenSpec.upto Rows.vmFuelSpec).at F).post enc Tryz.prog Tryz.f5 false true false false) := by
  obtain ⟨places, hx⟩ := reads os enc
  refine returnsInHanded_of_row (C := Tryz.checked) (s := Rows.OpenSpec.upto Rows.vmFuelSpec) own started (by kernel_rfl) Tryz.func5
    (witness_row_at (enc := enc) (C := Tryz.checked) false (laidWorld os) wargs rfl (by kernel_rfl) (by kernel_rfl) (by kernel_rfl)
      (OpenSpec.preRow_of_cond 8 hx (by kernel_rfl) (fun k hk => by cases hk; kernel_rfl) (by kernel_rfl) (laid_met os))) ?_
  intro W base args ds gs before hval hW _ hcond _ hL _ _
  exact contract H enc W base args ds gs before hval hW hL (hcond _ rfl)
theorem saidUpto : Rows.VmFuelUptoSaid :=
  OpenClaim.holds_of_cond 5 Tryz.f5 rfl rfl rfl rfl rfl rfl rfl ⟨rfl, rfl, rfl, rfl, rfl⟩ rfl rfl rfl rfl rfl (by kernel_rfl) Tryz.func5 (by kernel_rfl)
    (of_decide_eq_true (by kernel_rfl)) (by unfold Func.isWrapper; first | (rw [if_pos (by decide +kernel)]; kernel_rfl) | (rw [if_neg (by decide +kernel)]; exact ⟨rfl, rfl⟩))
    (fun os started H enc _ F => by rw [OpenClaim.pre_eq_preRow]; exact liftedUpto os started H enc F)
theorem plain (f : FuncId) (fn : Func) (hf : Tryz.pinned.checked.prog.funcNamed "quern/quernlaw15.VmFuel" = some f) (hfn : Tryz.pinned.checked.prog.funcs[f]? = some fn) :
    true = Tryz.pinned.checked.prog.looks [] ∧ ∀ (j : Nat) t, fn.params[j]? = some t → Tryz.pinned.checked.prog.wantsStandIn t = false := by
  obtain rfl : f = 5 := Option.some.inj ((show Tryz.prog.funcNamed "quern/quernlaw15.VmFuel" = some 5 by kernel_rfl).symm.trans hf) |>.symm
  obtain rfl : fn = Tryz.f5 := (Option.some.inj (Tryz.func5.symm.trans hfn)).symm
  refine ⟨by kernel_rfl, fun j t ht => ?_⟩
  rw [Tryz.params5] at ht
  have hm := Array.mem_of_getElem? ht
  simp at hm
  rcases hm with rfl | rfl | rfl
  · exact (show Tryz.prog.wantsStandIn 25 = false by kernel_rfl)
  · exact (show Tryz.prog.wantsStandIn 27 = false by kernel_rfl)
  · exact (show Tryz.prog.wantsStandIn 3 = false by kernel_rfl)
theorem cardUpto : Rows.VmFuelUptoCardSaid :=
  Claim7.holds_tied_plain_at .later [] _ _ _ _ saidUpto (fun _ h => by cases h) (by kernel_rfl) (fun _ h => by cases h) vmFuelUpto_row_tie rfl ⟨rfl, rfl⟩ (by kernel_rfl) rfl plain (by kernel_rfl)
end Go.Proofs.YtnkfojenfnbchaaGreatDoor.vmFuel
end
