/- VmSound of the given program, part 6 of 6 of the proof: for all arguments within the bound the law answers true, and each argument reads behind the call as before. Conditions: those of the given card. -/
import Derived.Test.YtnkfojenfnbchaaGreatDoorZ5
import Derived.Test.YtnkfojenfnbchaaGreatDoorTie
import Derived.WalkKit
import Derived.OpenShut
import Derived.Deep.DeepHandedRow
import Derived.Test.YtnkfojenfnbchaaGreatDoorCards
set_option linter.all false
set_option linter.unusedVariables false
set_option linter.unusedSimpArgs false
set_option linter.unnecessarySimpa false
section
namespace Go.Am
set_option maxRecDepth 100000
attribute [local irreducible] vc vcIs vcI vcOp vcD vcDp vcDR vcT vcAR stepD stepDp panD neG ne pv J callS callN loopS lookK evK evsK nthK objK boxK rowK boolK intK strK aggK fnK ifcK cellsK cellsLK ldK ldaK iaK srcK stK appK appD isnlD pvK callJ callJD callA
theorem OutOk.imp {P Q : Val → Prop} {st fuel : Int} {out : Out} (hpq : ∀ v, P v → Q v) (h : OutOk P st fuel out) : OutOk Q st fuel out := by
  cases out with
  | val v sts fu => obtain ⟨q1, q2, q3⟩ := h; exact ⟨hpq _ q1, fun x hx => hpq _ (q2 x hx), q3⟩
  | trap e sts fu => exact h
theorem limL_rng {l : List Val} (h : Val.limL l) : ∀ v ∈ l, v.rng := fun v hv => ((Val.limL_iff _).1 h v hv).rng
theorem begins_good {m : Mdl} {states args : List Val} {n fuel : Int} (h : Handed15 m states args) (hl : m.large states args = false) (hb : Begins m states n args) (h0 : 0 ≤ fuel) (h1 : fuel ≤ 4096) :
    ∃ g out, run m g (m.funcs[n.toNat]'hb.n1) ((m.funcs[n.toNat]'hb.n1).start args states fuel) = some out ∧ OutOk Val.good states.length fuel out := by
  obtain ⟨l1, l2, l3⟩ := large_no hl
  have hfn := hb.ver.fn _ hb.n1
  obtain ⟨G, hG⟩ : ∃ G, (m.gr (m.funcs[n.toNat]'hb.n1)).good G := by have h := hfn.hgt; simp only [Gr.hB, decide_eq_true_eq] at h; exact h
  have b := hfn.bnd
  have b0 := b.p0; have b1 := b.l0; have b2 := b.c0
  have har := hb.ar
  have okk : ∀ l : List Val, Val.limL l → l.all sOk = true → ∀ v ∈ l, v.good := fun l q1 q2 v hv => by
    have := List.all_eq_true.1 q2 v hv
    simp only [sOk, Bool.and_eq_true, decide_eq_true_eq] at this
    exact ⟨⟨this.1, limL_rng q1 v hv⟩, this.2⟩
  have oka := okk _ h.ha hb.ag
  exact run_total hb.ver keeps_good (fun v hv => ⟨limL_ok h.hc l1 v hv, snd_const (hb.ver.ct v hv)⟩) _ _ hb.n1 G hG _ _
    ⟨Int.le_refl _, by simp only [Fnc.start]; simp; omega, by simp only [Fnc.start]; simp; exact hG.1.symm, by simp [Fnc.start], by simp only [Fnc.start]; simp; omega, rfl, h0, h1,
      ⟨fun v hv => by simp only [Fnc.start] at hv; simp at hv; rcases hv with hv | ⟨_, rfl⟩; exact oka v hv; exact keeps_good.int0, fun v hv => by simp [Fnc.start] at hv, okk _ h.hs hb.st⟩⟩ (Nat.le_refl _) (Nat.le_refl _)
theorem VmSound_spec (m : Mdl) (states args : List Val) (n fuel : Int) (h : Handed15 m states args) :
    Ret prog f_quernlaw15_VmSound [m.V, .agg [valsV states, valsV args, vI n, vI fuel]] (vB true) := by
  refine J_pure fn_quernlaw15_VmSound (by simp) ?_
  simp (config := { contextual := true, maxSteps := 2000000 }) (disch := omega) [-Int.not_lt, -Int.not_le, -Nat.not_lt, -Nat.not_le, elemK_get, wrapI, leT, leF, ltT, ltF, leTn, leFn, ltTn, ltFn, cd_quernlaw15_VmSound]
  refine callS_go ?_; simp; refine callA_of (wakes_spec) (by simp) ?_
  simp (config := { contextual := true, maxSteps := 2000000 }) (disch := omega) [-Int.not_lt, -Int.not_le, -Nat.not_lt, -Nat.not_le, elemK_get, wrapI, leT, leF, ltT, ltF, leTn, leFn, ltTn, ltFn]
  refine callS_go ?_; simp; refine callA_of (large_spec m states args h.sm h.hc h.hs h.ha h.ls h.la) (by simp) ?_
  cases hl : m.large states args with
  | true => simp (config := { contextual := true, maxSteps := 2000000 }) (disch := omega) [-Int.not_lt, -Int.not_le, -Nat.not_lt, -Nat.not_le, elemK_get, wrapI, leT, leF, ltT, ltF, leTn, leFn, ltTn, ltFn]
  | false =>
  obtain ⟨l1, l2, l3⟩ := large_no hl
  have hms := h.small hl
  simp (config := { contextual := true, maxSteps := 2000000 }) (disch := omega) [-Int.not_lt, -Int.not_le, -Nat.not_lt, -Nat.not_le, elemK_get, wrapI, leT, leF, ltT, ltF, leTn, leFn, ltTn, ltFn]
  have hfu : (if 200 < fuel then 200 else fuel) ≤ 200 := by split <;> omega
  generalize (if 200 < fuel then 200 else fuel) = fu at *
  by_cases hb : Begins m states n args
  case neg =>
    refine callS_go ?_; simp; refine callA_of (vm_Run_bad m hms states n args fu (by omega) (by omega) hb) (by simp [ocells, V.pure, V.pureL]) ?_
    by_cases hf0 : fu < 0
    · simp (config := { contextual := true, maxSteps := 2000000 }) (disch := omega) [-Int.not_lt, -Int.not_le, -Nat.not_lt, -Nat.not_le, elemK_get, wrapI, leT, leF, ltT, ltF, leTn, leFn, ltTn, ltFn, ocells, Val.zero, hf0]
    · simp (config := { contextual := true, maxSteps := 2000000 }) (disch := omega) [-Int.not_lt, -Int.not_le, -Nat.not_lt, -Nat.not_le, elemK_get, wrapI, leT, leF, ltT, ltF, leTn, leFn, ltTn, ltFn, ocells, Val.zero, hf0]
  have hm0 : 0 ≤ minmax fu ∧ minmax fu ≤ 200 ∧ minmax fu = max fu 0 := by unfold minmax; (repeat' split) <;> omega
  obtain ⟨m0, m1, m2⟩ := hm0
  obtain ⟨g, out, hr, hgo⟩ := begins_good h hl hb (fuel := minmax fu) m0 (by omega)
  have ho : OutOk Val.ok states.length (minmax fu) out := hgo.imp fun v hv => hv.1
  have hwt := ho.wt (by have := hb.ver.s1; omega)
  refine callS_go ?_; simp; refine callA_of (vm_Run_ok m hms states n args fu (by omega) (by omega) hb g out hr hwt) (by cases out <;> simp [RunIs, ocells, V.pure, V.pureL]) ?_
  cases out with
  | val v sts f =>
    obtain ⟨hv1, hv2⟩ := hwt v sts f rfl
    obtain ⟨q1, q2, q3, q4, q5⟩ := hgo
    have hsl := Val.len_wtL sts
    obtain ⟨vk, vn, vt, vl⟩ := v
    simp (config := { contextual := true, maxSteps := 2000000 }) (disch := omega) [-Int.not_lt, -Int.not_le, -Nat.not_lt, -Nat.not_le, elemK_get, wrapI, leT, leF, ltT, ltF, leTn, leFn, ltTn, ltFn, RunIs, ocells, Val.kind, Val.num, Val.text, Val.list]
    refine loopS_for sts.length (fun i => [(54, vI i), (53, vI sts.length), (52, valsV sts), (7, .bp (.l 7 0) 0), (6, valsV sts), (3, .bp (.l 3 0) 0)])
      (fun _ => [(.l 7 0, .box [vI vk, vI vn, vS vt, valsV vl, vI 0, vI f]), (.l 3 0, .box [valsV states, valsV args, vI n, vI fuel])]) (Wk.subs (by simp) (by simp)) ?_
    intro i hi
    simp (config := { contextual := true, maxSteps := 2000000 }) (disch := omega) [-Int.not_lt, -Int.not_le, -Nat.not_lt, -Nat.not_le, elemK_get, wrapI, leT, leF, ltT, ltF, leTn, leFn, ltTn, ltFn]
    refine ⟨fun hlt => ?_, fun hge => ?_⟩
    · obtain ⟨⟨x1, x2⟩, x3⟩ := q2 _ (List.getElem_mem hlt)
      refine callS_go ?_; simp; refine callA_of (vm_Sound_spec sts[i] (by omega)) (by simp) ?_
      simp (config := { contextual := true, maxSteps := 2000000 }) (disch := omega) [-Int.not_lt, -Int.not_le, -Nat.not_lt, -Nat.not_le, elemK_get, wrapI, leT, leF, ltT, ltF, leTn, leFn, ltTn, ltFn, x1, x3]
      exact .of hlt (Wk.subs (by simp) (by simp))
    · obtain ⟨⟨x1, x2⟩, x3⟩ := q1
      refine ⟨fun _ => ?_, q3⟩
      refine callS_go ?_; simp; refine callA_of (vm_Sound_spec (.mk vk vn vt vl) hv1) (by simp) ?_
      simp (config := { contextual := true, maxSteps := 2000000 }) (disch := omega) [-Int.not_lt, -Int.not_le, -Nat.not_lt, -Nat.not_le, elemK_get, wrapI, leT, leF, ltT, ltF, leTn, leFn, ltTn, ltFn, x1, x3]
  | trap e sts f =>
    obtain ⟨q1, q2, q3, q4⟩ := hgo
    simp (config := { contextual := true, maxSteps := 2000000 }) (disch := omega) [-Int.not_lt, -Int.not_le, -Nat.not_lt, -Nat.not_le, elemK_get, wrapI, leT, leF, ltT, ltF, leTn, leFn, ltTn, ltFn, RunIs, ocells, Val.zero, Val.kind, Val.num, Val.text, Val.list]
    have hsl := Val.len_wtL states
    have hst : ∀ v ∈ states, v.wt ≤ 16384 ∧ v.sound = true := fun v hv => by
      have := List.all_eq_true.1 hb.st v hv
      simpa only [sOk, Bool.and_eq_true, decide_eq_true_eq] using this
    refine ⟨fun h40 hne => ?_, fun h40 => ?_⟩
    all_goals
      refine loopS_for states.length (fun i => [(54, vI i), (53, vI states.length), (52, valsV states), (7, .bp (.l 7 0) 0), (6, valsV states), (3, .bp (.l 3 0) 0)])
        (fun _ => [(.l 7 0, .box [vI 0, vI 0, vS noS, valsV [], vI e, vI f]), (.l 3 0, .box [valsV states, valsV args, vI n, vI fuel])]) (Wk.subs (by simp) (by simp [h40])) ?_
      intro i hi
      simp (config := { contextual := true, maxSteps := 2000000 }) (disch := omega) [-Int.not_lt, -Int.not_le, -Nat.not_lt, -Nat.not_le, elemK_get, wrapI, leT, leF, ltT, ltF, leTn, leFn, ltTn, ltFn]
      refine ⟨fun hlt => ?_, fun hge => ?_⟩
      · obtain ⟨x1, x3⟩ := hst _ (List.getElem_mem hlt)
        refine callS_go ?_; simp; refine callA_of (vm_Sound_spec states[i] (by omega)) (by simp) ?_
        simp (config := { contextual := true, maxSteps := 2000000 }) (disch := omega) [-Int.not_lt, -Int.not_le, -Nat.not_lt, -Nat.not_le, elemK_get, wrapI, leT, leF, ltT, ltF, leTn, leFn, ltTn, ltFn, x1, x3]
        exact .of hlt (Wk.subs (by simp) (by simp))
      · refine ⟨fun _ => ?_, fun h => absurd h q1⟩
        refine callS_go ?_; simp; refine callA_of (ref09_SameAll_spec states states (by omega) (by omega)) (by simp) ?_
        simp (config := { contextual := true, maxSteps := 2000000 }) (disch := omega) [-Int.not_lt, -Int.not_le, -Nat.not_lt, -Nat.not_le, elemK_get, wrapI, leT, leF, ltT, ltF, leTn, leFn, ltTn, ltFn]
        exact q4
end Go.Am
end

section
namespace Go.Proofs.YtnkfojenfnbchaaGreatDoor.vmSound
open Go.ChangeShapes Go.WideShapes Go.ChangeAt Go.RowKit
open Go.Am (imW vI vB valsV laidT Mdl Val)
set_option maxRecDepth 100000
theorem own : ownKnob Tryz.prog.godebug = none := by kernel_rfl
theorem gTab : Tryz.prog.globalNamed "internal/strconv.uint64pow10" = some 1 := by kernel_rfl
theorem gTabType : (Tryz.prog.globals[1]?).map (·.type) = some 145 := by kernel_rfl
theorem u145 : ∃ e, Tryz.prog.underlying 145 = some (.array 20 e) ∧ Tryz.prog.underlying e = some (.int .u64) ∧ Tryz.prog.cellsOf e = 1 := ⟨_, Tryz.underlying145, by kernel_rfl, by kernel_rfl⟩
theorem c145 : Tryz.prog.cellsOf 145 = 20 := by kernel_rfl
theorem table {W : World} (h : laidMetH Tryz.prog Rows.vmSoundRow.laid W) : ∀ p ∈ laidT, imW W p.1 = some p.2 := by
  have h' : laidMet Tryz.prog Rows.vmSoundRow.laid W := h
  obtain ⟨ps, ⟨_, _, _, _, _, _, _, _, _, _, ⟨_, _, _, _, _, _, _, _, _, _, ⟨g, t, cs, fuel, p, q, hg, ht, hv, hd, _⟩, _⟩, _⟩, _⟩ := h'
  obtain rfl := Option.some.inj (gTab.symm.trans hg)
  obtain rfl := Option.some.inj (gTabType.symm.trans ht)
  obtain ⟨e, u1, u2, u3⟩ := u145
  have hd' : DataW.trod (fun _ => ()) Tryz.prog W 0 (fun _ => true) false fuel 145 cs.toList = some (Lib.tabData .u64 Lib.pow10Tab, p) := hd
  have hc := Lib.cells_of_tab u1 u2 u3 c145 hd'
  intro x hx
  obtain rfl := List.mem_singleton.1 hx
  unfold World.var? at hv
  rw [gTab] at hv
  simp only [Option.bind_some] at hv
  show imW W 1 = _
  unfold imW
  split at hv
  · rename_i c t f hb
    rw [hb]
    injection hv with hv
    subst hv
    have : c = (Lib.pow10Tab.map fun z => Value.int .u64 z).toArray := by
      rw [← hc]
    rw [this]
    rfl
  · cases hv
def T15 (t : TypeId) : Prop := t = 25 ∨ t = 27 ∨ t = 3 ∨ t = 22 ∨ t = 23 ∨ t = 31 ∨ t = 52 ∨ t = 50 ∨ t = 48 ∨ t = 9
theorem flat15 : ∀ t, T15 t → Go.Am.Flat1 Tryz.prog T15 t := by
  intro t h
  rcases h with rfl | rfl | rfl | rfl | rfl | rfl | rfl | rfl | rfl | rfl <;> unfold Go.Am.Flat1
  · rw [Tryz.underlying25]; intro f hf; simp at hf; rcases hf with rfl | rfl <;> simp [T15]
  · rw [Tryz.underlying27]; intro f hf; simp at hf; rcases hf with rfl | rfl | rfl | rfl <;> simp [T15]
  · rw [Tryz.underlying3]; trivial
  · rw [Tryz.underlying22]; exact ⟨by simp [T15], by rw [Go.Am.c31]; decide⟩
  · rw [Tryz.underlying23]; exact ⟨by simp [T15], by rw [Go.Am.c52]; decide⟩
  · rw [Tryz.underlying31]; intro f hf; simp at hf; rcases hf with rfl | rfl | rfl | rfl <;> simp [T15]
  · rw [Tryz.underlying52]; intro f hf; simp at hf; rcases hf with rfl | rfl | rfl | rfl | rfl <;> simp [T15]
  · rw [Tryz.underlying50]; exact ⟨by simp [T15], by rw [Go.Am.c48]; decide⟩
  · rw [Tryz.underlying48]; intro f hf; simp at hf; rcases hf with rfl | rfl <;> simp [T15]
  · rw [Tryz.underlying9]; trivial
theorem args15 : ∀ t ∈ Tryz.f4.params.toList, T15 t := by
  rw [Tryz.params4]; intro t ht; simp at ht; rcases ht with rfl | rfl <;> simp [T15]
theorem contract (H : Type) (enc : TypeId × Value → H) (W : World) (base : Nat) (args : Array Value) (ds gs : List (DataW H)) (before : List MemPlace)
    (hval : ∀ (j : Nat) t v, Tryz.f4.params[j]? = some t → args[j]? = some v → Value.okWide Tryz.prog W .any base t v)
    (hW : DataW.Whole enc Tryz.prog Tryz.f4.params.toList Rows.vmSoundSpec.vars false W args.toList ds gs before) (hL : laidMetH Tryz.prog Rows.vmSoundRow.laid W) (hk : Rows.uptoSmall H (ds ++ gs) = true) :
    Calls Tryz.prog 4 args W fun e W' => ∃ v, e = .returned v ∧ Rows.vmSoundSpec.post enc Tryz.prog Tryz.f4 false true false false W args v W' := by
  have hW' := hW
  obtain ⟨p, q, hA0, hV, rfl, hfz, hnd⟩ := hW
  have hA : DataW.TrodAll enc Tryz.prog W 0 (fun _ => true) true Tryz.f4.params.toList args.toList ds p := hA0
  rw [Tryz.params4] at hA hval
  obtain ⟨a0, vs0, d0, ds0, p0, q0, hargs, rfl, rfl, h0, r0⟩ := trodAll_cons hA
  obtain ⟨a1, vs1, d1, ds1, p1, q1, rfl, rfl, rfl, h1, r1⟩ := trodAll_cons r0
  obtain ⟨rfl, rfl, rfl⟩ := trodAll_nil r1
  obtain rfl : args = #[a0, a1] := by cases args; simp_all
  obtain ⟨rfl, rfl⟩ := trodVars_none hV
  have hbk : Rows.uptoBulkAll ([d0, d1] ++ []) ≤ 1048576 := of_decide_eq_true hk
  simp only [List.append_nil, Rows.uptoBulkAll] at hbk
  obtain ⟨c0, rfl, _, _⟩ : ∃ cs, a0 = .agg cs ∧ cs.size = Tryz.prog.cellsOf 25 ∧ True := by
    have := hval 0 25 a0 rfl rfl
    unfold Value.okWide at this
    rw [Tryz.underlying25] at this
    obtain ⟨cs, h1, h2, _⟩ := this
    exact ⟨cs, h1, h2, trivial⟩
  obtain ⟨c1, rfl, _, _⟩ : ∃ cs, a1 = .agg cs ∧ cs.size = Tryz.prog.cellsOf 27 ∧ True := by
    have := hval 1 27 a1 rfl rfl
    unfold Value.okWide at this
    rw [Tryz.underlying27] at this
    obtain ⟨cs, h1, h2, _⟩ := this
    exact ⟨cs, h1, h2, trivial⟩
  obtain ⟨n0, t0⟩ := h0
  obtain ⟨n1, t1⟩ := h1
  obtain ⟨m, x0, x1, e0, hR0, hsm, hlc⟩ := Go.Am.rd_mdl t0 (by simp only; omega)
  obtain ⟨sts, ags, k, f, y0, y1, y2, y3, e1, hR1, hls, hla, hns, hna⟩ := Go.Am.rd_from t1 (by simp only; omega)
  have ec0 : c0 = #[x0, x1] := by cases c0; simpa [Value.cells] using e0
  have ec1 : c1 = #[y0, y1, y2, y3] := by cases c1; simpa [Value.cells] using e1
  subst ec0 ec1
  have hret := Go.Am.VmSound_spec m sts ags k f ⟨hsm, hlc, hls, hla, hns, hna⟩
  have hcalled := hret (imW W) Go.Am.Mu.bot #[.agg #[x0, x1], .agg #[y0, y1, y2, y3]] W
    ⟨rfl, fun j u hj => by
      match j, hj with
      | 0, hj => injection hj with hj; subst hj; exact hR0
      | 1, hj => injection hj with hj; subst hj; exact hR1
      | j + 2, hj => simp at hj⟩ (Go.Am.wd_imW (table hL))
  obtain ⟨fn, c, k1, k2, k3, _⟩ := Go.Am.fn_quernlaw15_VmSound.ex
  have hrun : (callFunc 4 #[.agg #[x0, x1], .agg #[y0, y1, y2, y3]]).run Tryz.prog W = .ok (.enter 4 #[.agg #[x0, x1], .agg #[y0, y1, y2, y3]]) W := by
    have k2' : ¬ fn.name = "runtime.NumGoroutine" := by simpa using k2
    simp [callFunc, k1, k2', k3]
  unfold Go.Am.Called at hcalled
  rw [hrun] at hcalled
  refine Calls.mono hcalled ?_
  rintro e W' ⟨r, H', μ', rfl, ⟨x, rfl, hx⟩, hNj, hWd, _, _⟩
  obtain rfl := hx.c_inv
  have hkeep : ∀ b, b < W.heap.size → W'.heap[b]? = W.heap[b]? := fun b hb => hNj.keep b hb (by simp [Go.Am.Owns, Go.Am.hpE])
  refine ⟨_, rfl, _, _, _, [], p0 ++ (p1 ++ []), [], hW', ?_, ?_, rfl, ?_, fun h => by cases h⟩
  · exact trodAll_cons_mk (shut_bool Tryz.underlying4 _) trodAll_mk0
  · exact Go.Am.trodAll_back flat15 hkeep args15 hA0 fun p hp => by
      have := hW'.lt p (by simpa using hp)
      simpa using this
  · refine ⟨hNj.os, hNj.output, fun i hi => ?_⟩
    rw [hkeep i hi]
    split
    · rename_i e1 e2
      rw [e1] at e2
      injection e2 with e2
      injection e2 with e3 e4 e5
      subst e3 e4 e5
      exact ⟨rfl, rfl, rfl, fun _ _ => rfl⟩
    · rename_i e1 e2
      rw [e1] at e2
      injection e2 with e2
      injection e2 with e3 e4
      exact .inr ⟨e3.symm, e4.symm⟩
    · rfl
end Go.Proofs.YtnkfojenfnbchaaGreatDoor.vmSound
end

section
namespace Go.Proofs.YtnkfojenfnbchaaGreatDoor.vmSound
open Go.ChangeShapes Go.WideShapes Go.ChangeAt Go.RowKit
set_option maxRecDepth 100000
def cellsD : DataW Unit → Array Value
  | .agg ps => (ps.map fun d => match d with | .lit (.int k n) => Value.int k n | _ => Value.bool false).toArray
  | _ => #[]
def lay (o : Obj) (d : DataW Unit) : Obj := match o with | .cells _ t frozen => .cells (cellsD d) t frozen | o => o
noncomputable def laidWorld (os : Os) : World :=
  { World.holding Tryz.prog os ⟨#[], #[], []⟩ with heap := (((World.holding Tryz.prog os ⟨#[], #[], []⟩).heap.modify 1 fun o => lay o Rows.laid_internal_strconv_uint64pow10).modify 2 fun o => lay o Rows.laid_math_bits_deBruijn32tab).modify 3 fun o => lay o Rows.laid_math_bits_deBruijn64tab }
abbrev wargs : Array Value := #[.agg #[.slice none 0 0, .slice none 0 0], .agg #[.slice none 0 0, .slice none 0 0, .int .i64 0, .int .i64 0]]
theorem laid_met (os : Os) : laidMet Tryz.prog Rows.vmSoundRow.laid ((laidWorld os).forCall (fun _ _ => 0) ⟨#[], wargs, []⟩).memory :=
  laidMet_of_run' 8 (by kernel_rfl) (by kernel_rfl)
theorem reads (os : Os) {H : Type} (enc : TypeId × Value → H) : ∃ places, DataW.whole enc Tryz.prog ((laidWorld os).forCall (fun _ _ => 0) ⟨#[], wargs, []⟩).memory Tryz.f4.params.toList Rows.vmSoundSpec.vars false wargs.toList 8 =
    some ([.agg [.nil, .nil], .agg [.nil, .nil, .lit (.int .i64 0), .lit (.int .i64 0)]], [], places) :=
  ⟨[], by kernel_rfl⟩
theorem liftedUpto (os : Os) (started : os.Started) (H : Type) (enc : TypeId × Value → H) (F : Stop.Interp) :
    ReturnsInHanded {} Tryz.checked os 4 .any ((Rows.OpenSpec.upto Rows.vmSoundSpec).preRow enc Tryz.prog Tryz.f4 Rows.vmSoundUptoRow.domain false Rows.vmSoundUptoRow.laid) (((Rows.OpenSpec.upto Rows.vmSoundSpec).at F).post enc Tryz.prog Tryz.f4 false true false false) := by
  obtain ⟨places, hx⟩ := reads os enc
  refine returnsInHanded_of_row (C := Tryz.checked) (s := Rows.OpenSpec.upto Rows.vmSoundSpec) own started (by kernel_rfl) Tryz.func4
    (witness_row_at (enc := enc) (C := Tryz.checked) false (laidWorld os) wargs rfl (by kernel_rfl) (by kernel_rfl) (by kernel_rfl)
      (OpenSpec.preRow_of_cond 8 hx (by kernel_rfl) (fun k hk => by cases hk; kernel_rfl) (by kernel_rfl) (laid_met os))) ?_
  intro W base args ds gs before hval hW _ hcond _ hL _ _
  exact contract H enc W base args ds gs before hval hW hL (hcond _ rfl)
theorem saidUpto : Rows.VmSoundUptoSaid :=
  OpenClaim.holds_of_cond 4 Tryz.f4 rfl rfl rfl rfl rfl rfl rfl ⟨rfl, rfl, rfl, rfl, rfl⟩ rfl rfl rfl rfl rfl (by kernel_rfl) Tryz.func4 (by kernel_rfl)
    (of_decide_eq_true (by kernel_rfl)) (by unfold Func.isWrapper; first | (rw [if_pos (by decide +kernel)]; kernel_rfl) | (rw [if_neg (by decide +kernel)]; exact ⟨rfl, rfl⟩))
    (fun os started H enc _ F => by rw [OpenClaim.pre_eq_preRow]; exact liftedUpto os started H enc F)
theorem plain (f : FuncId) (fn : Func) (hf : Tryz.pinned.checked.prog.funcNamed "quern/quernlaw15.VmSound" = some f) (hfn : Tryz.pinned.checked.prog.funcs[f]? = some fn) :
    true = Tryz.pinned.checked.prog.looks [] ∧ ∀ (j : Nat) t, fn.params[j]? = some t → Tryz.pinned.checked.prog.wantsStandIn t = false := by
  obtain rfl : f = 4 := Option.some.inj ((show Tryz.prog.funcNamed "quern/quernlaw15.VmSound" = some 4 by kernel_rfl).symm.trans hf) |>.symm
  obtain rfl : fn = Tryz.f4 := (Option.some.inj (Tryz.func4.symm.trans hfn)).symm
  refine ⟨by kernel_rfl, fun j t ht => ?_⟩
  rw [Tryz.params4] at ht
  have hm := Array.mem_of_getElem? ht
  simp at hm
  rcases hm with rfl | rfl
  · exact (show Tryz.prog.wantsStandIn 25 = false by kernel_rfl)
  · exact (show Tryz.prog.wantsStandIn 27 = false by kernel_rfl)
theorem cardUpto : Rows.VmSoundUptoCardSaid :=
  Claim7.holds_tied_plain_at .later [] _ _ _ _ saidUpto (fun _ h => by cases h) (by kernel_rfl) (fun _ h => by cases h) vmSoundUpto_row_tie rfl ⟨rfl, rfl⟩ (by kernel_rfl) rfl plain (by kernel_rfl)
end Go.Proofs.YtnkfojenfnbchaaGreatDoor.vmSound
end
