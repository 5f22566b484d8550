/- VmRuns of the given program, part 5 of 6 of the proof: for all arguments within the bound the law answers true, and each argument reads behind the call as before. Conditions: those of the given card. -/
import Derived.Test.YtnkfojenfnbchaaGreatDoorZ4
import Derived.Lib.LaidTab
set_option linter.all false
set_option linter.unusedVariables false
set_option linter.unusedSimpArgs false
set_option linter.unnecessarySimpa false
section
namespace Go.Am
variable {P : Program} {env : Env} {hp : Hp}
def dfrS (P : Program) (k : Nat) (t : Operand) (args : List Operand) (c : Cd) (QD : FuncId -> List V -> Qs) (e : Env) (h : Hp) : Prop :=
 ∃ g caps vs, Env.ev e t = some (.fn g caps) /\ args.mapM (Env.ev e) = some vs /\ ∃ E h' cs', WkE k E h' cs' e h (vs ++ caps) /\ V.mx0 cs' = true /\ vc P c E h' (QD g cs')
theorem r00 {k c f Q QD} : vcF P k (.seq c f) env hp Q QD = vc P c env hp (hold (mm0 (fun e h => vcF P k f e h Q QD) Q)) := _root_.id rfl
theorem rZ0 {k is t args c Q QD} : vcF P k (.dfr is t args c) env hp Q QD = vcIs P env hp is (hold fun e h => dfrS P k t args c QD e h) (hold fun v h => Q (.pan v) [] h) := _root_.id rfl
theorem dfrS_go {k t args c QD} {g : FuncId} {caps vs cs' : List V} {E : Env} {h' : Hp} (h1 : Env.ev env t = some (.fn g caps)) (h2 : args.mapM (Env.ev env) = some vs) (hw : WkE k E h' cs' env hp (vs ++ caps)) (ha : V.mx0 cs' = true)
  (h : vc P c E h' (QD g cs')) : dfrS P k t args c QD env hp := ⟨g, caps, vs, h1, h2, E, h', cs', hw, ha, h⟩
theorem JD.mono {rec : Bool} {f : FuncId} {args : List V} {obs : List Ob} {pv : Option V} {Q Q' : Res -> Prop} (h : JD P rec f args obs pv Q) (hq : ∀ r, Q r -> Q' r) : JD P rec f args obs pv Q' := fun H μ vs w u h1 h2 h3 => by
 obtain ⟨k1, k2⟩ := h H μ vs w u h1 h2 h3
 refine ⟨k1, k2.mono fun e u' w' ⟨q1, r, H', μ', q2, q3⟩ => ⟨q1, r, H', μ', hq r q2, q3⟩⟩
def dJ (P : Program) (rec : Bool) (g : FuncId) (args : List V) (obs : List Ob) (pv : Option V) (env : Env) (hp : Hp) (ids : List Id) (K : Env -> Hp -> Prop) : Prop :=
 JD P rec g args obs pv fun r => match r with
  | .ret v obs' => obs'.length <= ids.length /\ gC0 env hp ids 0 v obs' fun _ env' hp' => K env' hp'
  | .pan _ _ => False
theorem qq0 {rec : Bool} {g : FuncId} {cs : List V} {pv : Option V} {K : Env -> Hp -> Prop} (ids : List Id) (hnd : ids.Nodup)
  (h : V.seeL false ids (Hp.frz (.tup (V.cA0 ids (cs ++ boxes hp ids))) hp) cs (hold fun us => fp0 (toE ids 0) us (hold fun args =>
   fm0 ids (Hp.frz (.tup (V.cA0 ids (cs ++ boxes hp ids))) hp) ids (hold fun obs => dJ P rec g args obs pv env (Hp.frz (.tup (V.cA0 ids (cs ++ boxes hp ids))) hp) ids K)))) : pc0 P rec g cs pv env hp K :=
 ⟨ids, hnd, h⟩
theorem dJ_ret {rec : Bool} {g : FuncId} {args : List V} {obs obs' : List Ob} {pv : Option V} {ids : List Id} {K : Env -> Hp -> Prop} {v : V} (h : JD P rec g args obs pv (· = .ret v obs')) (hl : obs'.length <= ids.length)
  (hK : gC0 env hp ids 0 v obs' (hold fun _ env' hp' => K env' hp')) : dJ P rec g args obs pv env hp ids K := h.mono fun r e => by subst e; exact ⟨hl, hK⟩
theorem dEnd_ret {k : Nat} {rs : List IOp} {Q : Res -> Prop} {rec : Bool} {g : FuncId} {cs : List V} (E : Env) (h : Hp) (hw : Wk E h env hp) (hd : pc0 P rec g cs none E h (wkQ (retX k rs Q) .ret)) : dEnd P k rs Q rec g cs .ret env hp := ⟨E, h, hw, hd⟩
theorem dEnd_pan {k : Nat} {rs : List IOp} {Q : Res -> Prop} {g : FuncId} {cs : List V} {p : V} (hpu : p.pure = true) (E : Env) (h : Hp) (hw : Wk E h env hp) (hd : pc0 P true g cs (some p) E h (wkQ (retX k rs Q) .ret)) : dEnd P k rs Q true g cs (.pan p) env hp := ⟨hpu, E, h, hw, hd⟩
end Go.Am
end

section
namespace Go.Am
set_option maxRecDepth 100000
attribute [local irreducible] vc vcIs vcI vcOp vcD vcDp vcDR vcT vcAR bp0 aK0 panD neG ne pv J bm0 bl0 bt0 aS0 evK evsK nthK objK boxK rowK bg0 intK strK aggK fnK ifcK aw0 at0 ldK ldaK iaK srcK stK appK appD bv0 pvK br0 aF0 bk0
attribute [local irreducible] vcF dfrS dEnd pc0 dJ JD
def cY0 (fuel : Int) : Int := if 4096 < if fuel < 0 then 0 else fuel then 4096 else if fuel < 0 then 0 else fuel
theorem qY0 (fuel : Int) : (if 4096 < if fuel < 0 then 0 else fuel then 4096 else if fuel < 0 then 0 else fuel) = cY0 fuel := rfl
def bi0 (v : Val) (e fuel : Int) : List V := [vI v.kind, vI v.num, vS v.text, ay0 v.list, vI e, vI fuel]
def e20 (states : List Val) : Out -> V
 | .val v sts fuel => .tup [ay0 sts, .agg (bi0 v 0 fuel)]
 | .trap e sts fuel => .tup [ay0 states, .agg (bi0 Val.zero e fuel)]
structure Mdl.small (m : Mdl) : Prop where
 hc : ∀ v ∈ m.consts, v.wt < 2 ^ 40
 hcl : m.consts.length < 2 ^ 40
 hfl : m.funcs.length < 2 ^ 40
 hf : ∀ f ∈ m.funcs, f.code.length < 2 ^ 40
def sOk (v : Val) : Bool := decide (v.wt <= 16384) && v.sound
structure lN0 (m : Mdl) (states : List Val) (n : Int) (args : List Val) : Prop where
 ver : m.vOk states.length
 n0 : 0 <= n
 n1 : n.toNat < m.funcs.length
 ar : (args.length : Int) = (m.funcs[n.toNat]).params
 st : states.all sOk = true
 ag : args.all sOk = true
abbrev dE (a b c : Id) (n : Int) (args : List Val) : Env := [(12, .bp a 0), (2, vI n), (3, ay0 args), (10, .bp b 0), (11, .bp c 0)]
abbrev dH (a b c : Id) (m : Mdl) (states : List Val) (fuel : Int) : Hp :=
 [(a, .box [.bp (.l 60 0) 0]), (.l 60 0, .box [.lst (m.consts.map Val.cells), .lst (m.funcs.map Fnc.cells), .arr (.l 57 0) 0 states.length, vI fuel]), (.l 57 0, .row ac0 4 true (states.map Val.cells)),
   (c, .box [vI 0, vI 0, vS noS, .nil, vI 0, vI 0]), (b, .box [.nil]), (.e 0, .box [ay0 states])]
theorem la0 (m : Mdl) (hm : m.small) (states : List Val) (n : Int) (args : List Val) (fuel : Int) (hs : Val.wtL states < 2 ^ 40) (ha : Val.wtL args < 2 ^ 40) (hb : lN0 m states n args)
  (g : Nat) (out : Out) (hr : run m g (m.funcs[n.toNat]'hb.n1) ((m.funcs[n.toNat]'hb.n1).start args states (cY0 fuel)) = some out)
  (hw : ∀ v sts fuel, out = .val v sts fuel -> v.wt < 2 ^ 40 /\ Val.wtL sts < 2 ^ 40) :
  Ret prog ph0 [m.V, ay0 states, vI n, ay0 args, vI fuel] (e20 states out) := by
 have hsl := Val.be0 states
 have hal := Val.be0 args
 have hver := m.oZ0 hb.ver
 have n0 := hb.n0
 have n1 := hb.n1
 have har := hb.ar
 have hst : (states.all fun v => decide (v.wt <= 16384) && v.sound) = true := hb.st
 have hag : (args.all fun v => decide (v.wt <= 16384) && v.sound) = true := hb.ag
 have hws : ∀ x ∈ states, x.wt < 2 ^ 40 := fun x hx => by have := Val.aR0 hx; omega
 have hwa : ∀ x ∈ args, x.wt < 2 ^ 40 := fun x hx => by have := Val.aR0 hx; omega
 refine J_dfr true qH0 (by simp) ?_
 simp +contextual (maxSteps := 2000000) (disch := omega) [-Int.not_lt, -Int.not_le, -Nat.not_lt, -Nat.not_le, sx, mU0, r00, rZ0, qY0]
 refine ab0 ?_; simp; refine aa0 (h40 m states.length hm.hc hm.hcl hm.hfl hm.hf) (by simp) ?_
 rw [hver]
 simp +contextual (maxSteps := 2000000) (disch := omega) [-Int.not_lt, -Int.not_le, -Nat.not_lt, -Nat.not_le, sx, <- har]
 refine ab0 ?_; simp; refine aa0 (fz0 states (by omega) hws) (by simp) ?_
 rw [hst]
 simp +contextual (maxSteps := 2000000) (disch := omega) [-Int.not_lt, -Int.not_le, -Nat.not_lt, -Nat.not_le, sx]
 refine ab0 ?_; simp; refine aa0 (fz0 args (by omega) hwa) (by simp) ?_
 rw [hag]
 simp +contextual (maxSteps := 2000000) (disch := omega) [-Int.not_lt, -Int.not_le, -Nat.not_lt, -Nat.not_le, sx]
 rw [r00]
 simp +contextual (maxSteps := 2000000) (disch := omega) [-Int.not_lt, -Int.not_le, -Nat.not_lt, -Nat.not_le, sx]
 refine cr0 [] [] rfl rfl (by simp) ?_
 simp
 have hpO := lc0 states hs
 try simp [VmS.obs, VmS.obs', ag0] at hpO
 refine ch0 57 hpO (by simp) ?_
 clear hpO
 simp +contextual (maxSteps := 2000000) (disch := omega) [-Int.not_lt, -Int.not_le, -Nat.not_lt, -Nat.not_le, sx]
 rw [rZ0]
 simp +contextual (maxSteps := 2000000) (disch := omega) [-Int.not_lt, -Int.not_le, -Nat.not_lt, -Nat.not_le, sx]
 refine dfrS_go rfl rfl (.trans (.ren (.l 6 0) 0 (by simp) (by simp) (E := dE (.l 12 0) (.l 10 0) (.l 11 0) n args) (h := dH (.l 12 0) (.l 10 0) (.l 11 0) m states (cY0 fuel)) (cs' := [.bp (.e 0) 0, .bp (.l 12 0) 0, .bp (.l 10 0) 0, .bp (.l 11 0) 0]) (by simp [renF]) (by simp [renF, bw0]) (by simp [renF]))
  (.trans (.ren (.l 12 0) 1 (by simp) (by simp) (E := dE (.e 1) (.l 10 0) (.l 11 0) n args) (h := dH (.e 1) (.l 10 0) (.l 11 0) m states (cY0 fuel)) (cs' := [.bp (.e 0) 0, .bp (.e 1) 0, .bp (.l 10 0) 0, .bp (.l 11 0) 0]) (by simp [renF]) (by simp [renF, bw0]) (by simp [renF]))
  (.trans (.ren (.l 10 0) 2 (by simp) (by simp) (E := dE (.e 1) (.e 2) (.l 11 0) n args) (h := dH (.e 1) (.e 2) (.l 11 0) m states (cY0 fuel)) (cs' := [.bp (.e 0) 0, .bp (.e 1) 0, .bp (.e 2) 0, .bp (.l 11 0) 0]) (by simp [renF]) (by simp [renF, bw0]) (by simp [renF]))
  (.ren (.l 11 0) 3 (by simp) (by simp) (E := dE (.e 1) (.e 2) (.e 3) n args) (h := dH (.e 1) (.e 2) (.e 3) m states (cY0 fuel)) (cs' := [.bp (.e 0) 0, .bp (.e 1) 0, .bp (.e 2) 0, .bp (.e 3) 0]) (by simp [renF]) (by simp [renF, bw0]) (by simp [renF]))))) rfl ?_
 simp +contextual (maxSteps := 2000000) (disch := omega) [-Int.not_lt, -Int.not_le, -Nat.not_lt, -Nat.not_le, sx]
 refine cr0 [] [] rfl rfl (by simp) ?_
 simp
 have hpO := lc0 args ha
 try simp [VmS.obs, VmS.obs', ag0] at hpO
 refine ch0 65 hpO (by simp) ?_
 clear hpO
 simp +contextual (maxSteps := 2000000) (disch := omega) [-Int.not_lt, -Int.not_le, -Nat.not_lt, -Nat.not_le, sx]
 have hokc : ∀ f ∈ m.funcs, f.okc := fun f hf => by
  obtain ⟨k, hk, rfl⟩ := List.getElem_of_mem hf
  have b := (hb.ver.fn k hk).bnd
  have := b.l1; have := b.c1
  exact ⟨b.p0, b.l0, by omega, by omega⟩
 have hargs : args.length <= (m.funcs[n.toNat]).locals.toNat := by
  have := (hb.ver.fn _ n1).bnd.l0
  omega
 have hJ := tj0 hokc g n.toNat _ args states (cY0 fuel) out n1 rfl hargs hr
 rw [show ((n.toNat : Nat) : Int) = n by omega] at hJ
 cases out with
 | val v sts fu =>
  obtain ⟨hwv, hwst⟩ := hw v sts fu rfl
  clear hr hw
  have hJ : J _ _ _ _ (fun r => r = _) := hJ
  refine cr0 [.l 60 0, .l 57 0, .l 65 0] [.l 60 0, .l 57 0, .l 65 0] rfl rfl (by simp) ?_
  simp
  have hpO := hJ
  try simp [VmS.obs, VmS.obs', ag0] at hpO
  refine ch0 66 hpO (by simp) ?_
  clear hpO
  simp +contextual (maxSteps := 2000000) (disch := omega) [-Int.not_lt, -Int.not_le, -Nat.not_lt, -Nat.not_le, sx]
  refine cr0 [.l 57 0] [.l 57 0] rfl rfl (by simp) ?_
  simp
  have hpO := p00 sts hwst
  try simp [VmS.obs, VmS.obs', ag0] at hpO
  refine ch0 71 hpO (by simp) ?_
  clear hpO
  simp +contextual (maxSteps := 2000000) (disch := omega) [-Int.not_lt, -Int.not_le, -Nat.not_lt, -Nat.not_le, sx]
  refine al0 ?_; simp; refine aa0 (aW0 v hwv) (by simp) ?_
  have hbuild : List.take 5 (v.cells ++ [vI 0, vI 0]) ++ vI fu :: List.drop 6 (v.cells ++ [vI 0, vI 0]) = [vI v.kind, vI v.num, vS v.text, ay0 v.list, vI 0, vI fu] := by rw [Val.au0]; rfl
  simp +contextual (maxSteps := 2000000) (disch := omega) [-Int.not_lt, -Int.not_le, -Nat.not_lt, -Nat.not_le, sx, hbuild]
  refine dEnd_ret _ _ (Wk.refl _ _) (qq0 [.e 0, .e 1, .e 2, .e 3, .l 60 0, .l 57 0] (by simp) ?_)
  simp
  refine dJ_ret (pX0 states sts v 0 fu m sts fu) (by simp) ?_
  simp
  refine endR _ _ (Wk.refl _ _) [] (by simp) ?_
  simp +contextual (maxSteps := 2000000) (disch := omega) [-Int.not_lt, -Int.not_le, -Nat.not_lt, -Nat.not_le, sx, e20, bi0]
 | trap e sts fu =>
  clear hr hw
  have hJ : J _ _ _ _ (fun r => r = _) := hJ
  refine cr0 [.l 60 0, .l 57 0, .l 65 0] [.l 60 0, .l 57 0, .l 65 0] rfl rfl (by simp) ?_
  simp
  have hpO := hJ
  try simp [VmS.obs, VmS.obs', ag0] at hpO
  refine sR0 hpO ?_
  clear hpO
  simp +contextual (maxSteps := 2000000) (disch := omega) [-Int.not_lt, -Int.not_le, -Nat.not_lt, -Nat.not_le, sx]
  refine dEnd_pan (by simp) _ _ (Wk.refl _ _) (qq0 [.e 0, .e 1, .e 2, .e 3, .l 60 0, .l 57 0] (by simp) ?_)
  simp
  refine dJ_ret (pY0 states hs m sts e fu) (by simp) ?_
  simp
  refine endR _ _ (Wk.refl _ _) [] (by simp) ?_
  simp +contextual (maxSteps := 2000000) (disch := omega) [-Int.not_lt, -Int.not_le, -Nat.not_lt, -Nat.not_le, sx, e20, bi0, Val.zero, stab, V.allE, V.mx0, dE, List.filter_cons, Id.isE]
theorem ti0 (m : Mdl) (hm : m.small) (states : List Val) (n : Int) (args : List Val) (fuel : Int) (hs : Val.wtL states < 2 ^ 40) (ha : Val.wtL args < 2 ^ 40) (hb : ¬ lN0 m states n args) :
  Ret prog ph0 [m.V, ay0 states, vI n, ay0 args, vI fuel] (.tup [ay0 [], .agg (bi0 Val.zero 40 0)]) := by
 have hsl := Val.be0 states
 have hal := Val.be0 args
 have hws : ∀ x ∈ states, x.wt < 2 ^ 40 := fun x hx => by have := Val.aR0 hx; omega
 have hwa : ∀ x ∈ args, x.wt < 2 ^ 40 := fun x hx => by have := Val.aR0 hx; omega
 refine J_dfr true qH0 (by simp) ?_
 simp +contextual (maxSteps := 2000000) (disch := omega) [-Int.not_lt, -Int.not_le, -Nat.not_lt, -Nat.not_le, sx, mU0, r00, rZ0, qY0]
 refine ab0 ?_; simp; refine aa0 (h40 m states.length hm.hc hm.hcl hm.hfl hm.hf) (by simp) ?_
 by_cases hver : m.vOk states.length
 case neg =>
  rw [m.aU0 hver]
  simp +contextual (maxSteps := 2000000) (disch := omega) [-Int.not_lt, -Int.not_le, -Nat.not_lt, -Nat.not_le, sx]
  refine endR _ _ (Wk.refl _ _) [] (by simp) ?_
  simp +contextual (maxSteps := 2000000) (disch := omega) [-Int.not_lt, -Int.not_le, -Nat.not_lt, -Nat.not_le, sx, bi0, Val.zero]
 rw [m.oZ0 hver]
 by_cases hn : 0 <= n /\ n.toNat < m.funcs.length
 case neg =>
  simp +contextual (maxSteps := 2000000) (disch := omega) [-Int.not_lt, -Int.not_le, -Nat.not_lt, -Nat.not_le, sx]
  refine ⟨fun _ => ?_, fun _ => ?_⟩
  ·refine endR _ _ (Wk.refl _ _) [] (by simp) ?_
   simp +contextual (maxSteps := 2000000) (disch := omega) [-Int.not_lt, -Int.not_le, -Nat.not_lt, -Nat.not_le, sx, bi0, Val.zero]
  ·refine endR _ _ (Wk.refl _ _) [] (by simp) ?_
   simp +contextual (maxSteps := 2000000) (disch := omega) [-Int.not_lt, -Int.not_le, -Nat.not_lt, -Nat.not_le, sx, bi0, Val.zero]
 obtain ⟨n0, n1⟩ := hn
 by_cases har : (args.length : Int) = (m.funcs[n.toNat]).params
 case neg =>
  simp +contextual (maxSteps := 2000000) (disch := omega) [-Int.not_lt, -Int.not_le, -Nat.not_lt, -Nat.not_le, sx]
  refine ⟨fun _ => ?_, fun h => absurd h har⟩
  refine endR _ _ (Wk.refl _ _) [] (by simp) ?_
  simp +contextual (maxSteps := 2000000) (disch := omega) [-Int.not_lt, -Int.not_le, -Nat.not_lt, -Nat.not_le, sx, bi0, Val.zero]
 by_cases hst : (states.all fun v => decide (v.wt <= 16384) && v.sound) = true
 case neg =>
  simp +contextual (maxSteps := 2000000) (disch := omega) [-Int.not_lt, -Int.not_le, -Nat.not_lt, -Nat.not_le, sx, <- har]
  refine ab0 ?_; simp; refine aa0 (fz0 states (by omega) hws) (by simp) ?_
  rw [Bool.not_eq_true] at hst
  rw [hst]
  simp +contextual (maxSteps := 2000000) (disch := omega) [-Int.not_lt, -Int.not_le, -Nat.not_lt, -Nat.not_le, sx]
  refine endR _ _ (Wk.refl _ _) [] (by simp) ?_
  simp +contextual (maxSteps := 2000000) (disch := omega) [-Int.not_lt, -Int.not_le, -Nat.not_lt, -Nat.not_le, sx, bi0, Val.zero]
 by_cases hag : (args.all fun v => decide (v.wt <= 16384) && v.sound) = true
 case neg =>
  simp +contextual (maxSteps := 2000000) (disch := omega) [-Int.not_lt, -Int.not_le, -Nat.not_lt, -Nat.not_le, sx, <- har]
  refine ab0 ?_; simp; refine aa0 (fz0 states (by omega) hws) (by simp) ?_
  rw [hst]
  simp +contextual (maxSteps := 2000000) (disch := omega) [-Int.not_lt, -Int.not_le, -Nat.not_lt, -Nat.not_le, sx]
  refine ab0 ?_; simp; refine aa0 (fz0 args (by omega) hwa) (by simp) ?_
  rw [Bool.not_eq_true] at hag
  rw [hag]
  simp +contextual (maxSteps := 2000000) (disch := omega) [-Int.not_lt, -Int.not_le, -Nat.not_lt, -Nat.not_le, sx]
  refine endR _ _ (Wk.refl _ _) [] (by simp) ?_
  simp +contextual (maxSteps := 2000000) (disch := omega) [-Int.not_lt, -Int.not_le, -Nat.not_lt, -Nat.not_le, sx, bi0, Val.zero]
 exact absurd ⟨hver, n0, n1, har, hst, hag⟩ hb
end Go.Am
end

section
namespace Go.Am
mutual
def Val.rng : Val -> Prop
 | .mk _ n _ l => (-9223372036854775808 <= n /\ n < 9223372036854775808) /\ Val.rngL l
def Val.rngL : List Val -> Prop
 | [] => True
 | v :: vs => v.rng /\ Val.rngL vs
end
theorem Val.q80 (v : Val) : v.rng ↔ (-9223372036854775808 <= v.num /\ v.num < 9223372036854775808) /\ Val.rngL v.list := by
 obtain ⟨k, n, t, l⟩ := v; simp [Val.rng, Val.num, Val.list]
theorem Val.jc0 : ∀ (l : List Val), Val.rngL l ↔ ∀ x ∈ l, x.rng
 | [] => by simp [Val.rngL]
 | v :: l => by simp [Val.rngL, Val.jc0 l]
structure Val.ok (v : Val) : Prop where
 wt : v.wt <= 16384
 rng : v.rng
theorem Val.ok.num {v : Val} (h : v.ok) : -9223372036854775808 <= v.num /\ v.num < 9223372036854775808 := (v.q80.1 h.rng).1
theorem Val.ok.elem {v x : Val} (h : v.ok) (hx : x ∈ v.list) : x.ok := by
 have h1 := v.cB0
 have h2 := Val.aR0 hx
 have := h.wt
 exact ⟨by omega, (Val.jc0 _).1 (v.q80.1 h.rng).2 x hx⟩
theorem ok_int {n : Int} (h1 : -9223372036854775808 <= n) (h2 : n < 9223372036854775808) : (Val.int n).ok := ⟨by simp only [Val.int, Val.wt, Val.wtL]; show 1 + 0 + 0 <= 16384; decide, by simp [Val.int, Val.rng, Val.rngL]; exact ⟨h1, h2⟩⟩
theorem rF0 (b : Bool) : (Val.bool b).ok := ⟨by simp only [Val.bool, Val.wt, Val.wtL]; show 1 + 0 + 0 <= 16384; decide, by cases b <;> simp [Val.bool, Val.rng, Val.rngL]⟩
theorem eE0 : Val.zero.ok := ⟨by simp only [Val.zero, Val.wt, Val.wtL]; show 1 + 0 + 0 <= 16384; decide, by simp [Val.zero, Val.rng, Val.rngL]⟩
theorem ok_str {s : ByteArray} (h : s.size <= 16383) : (Val.str s).ok := ⟨by simp [Val.str, Val.wt, Val.wtL]; omega, by simp [Val.str, Val.rng, Val.rngL]⟩
theorem ok_getD {v : Val} (h : v.ok) (i : Nat) : (v.list.getD i Val.zero).ok := by
 by_cases hi : i < v.list.length
 ·rw [List.getD_eq_getElem?_getD, List.getElem?_eq_getElem hi]; exact h.elem (List.getElem_mem hi)
 ·rw [List.getD_eq_getElem?_getD, List.getElem?_eq_none (by omega)]; exact eE0
theorem lE0 {v : Val} (h : v.rng) : (bounded v).1.ok := by
 unfold bounded
 split
 ·exact eE0
 ·rename_i hw; exact ⟨by show v.wt <= 16384; omega, h⟩
theorem arith_rng {op a b : Int} (ha : -9223372036854775808 <= a /\ a < 9223372036854775808) (hb : -9223372036854775808 <= b /\ b < 9223372036854775808) : -9223372036854775808 <= (arith op a b).1 /\ (arith op a b).1 < 9223372036854775808 := by
 unfold arith
 have hf : ∀ x, -9223372036854775808 <= (fitI x).1 /\ (fitI x).1 < 9223372036854775808 := fun x => by unfold fitI; split <;> simp <;> omega
 split
 ·exact hf _
 split
 ·exact hf _
 split
 ·exact hf _
 split
 ·simp
 rename_i hb0
 split
 ·have := Int.natAbs_tmod a b
  have h2 : (a.tmod b).natAbs <= a.natAbs := by rw [this]; exact Nat.mod_le _ _
  have h3 : 0 <= a -> 0 <= a.tmod b := fun h => Int.tmod_nonneg b h
  have h4 : a < 0 -> a.tmod b <= 0 := fun h => by
   have := Int.tmod_nonneg b (show 0 <= -a by omega)
   rw [Int.neg_tmod] at this; omega
  simp only; omega
 split
 ·simp
 rename_i hov
 by_cases h1 : b = -1
 ·subst h1
  simp only [Int.tdiv_neg, Int.tdiv_one]
  omega
 ·have := c80 ha.1 ha.2 hb0 h1
  exact this
theorem ok_neg {v : Val} (h : v.ok) : v.neg.1.ok := by
 unfold Val.neg
 have := h.num
 split
 ·exact eE0
 split
 ·exact eE0
 ·exact ok_int (by omega) (by omega)
theorem ok_bin {op : Int} {a b : Val} (ha : a.ok) (hb : b.ok) : (Val.bin op a b).1.ok := by
 unfold Val.bin
 have h3 := arith_rng (op := op) ha.num hb.num
 repeat' split
 all_goals first
  | exact rF0 _
  | exact eE0
  | exact ok_int h3.1 h3.2
  | (refine ok_str ?_; rw [ByteArray.size_append]; omega)
theorem ok_at {v k : Val} (hv : v.ok) : (v.at k).1.ok := by
 unfold Val.at
 repeat' split
 all_goals first
  | exact eE0
  | exact ok_getD hv _
theorem sB0 {k n : Int} {t : ByteArray} {l : List Val} (h : -9223372036854775808 <= n /\ n < 9223372036854775808) (hl : ∀ x ∈ l, x.rng) : (Val.mk k n t l).rng := by
 simp only [Val.rng]; exact ⟨h, (Val.jc0 l).2 hl⟩
theorem ok_push {v x : Val} (hv : v.ok) (hx : x.ok) : (v.push x).1.ok := by
 unfold Val.push
 repeat' split
 all_goals first
  | exact eE0
  | (refine lE0 (sB0 hv.num fun y hy => ?_); simp at hy; rcases hy with hy | rfl; exact (hv.elem hy).rng; exact hx.rng)
theorem ok_put {v k x : Val} (hv : v.ok) (hk : k.ok) (hx : x.ok) : (v.put k x).1.ok := by
 unfold Val.put
 have hset : ∀ i, ∀ y ∈ v.list.set i x, y.rng := fun i y hy => by
  rcases List.mem_or_eq_of_mem_set hy with h | rfl
  ·exact (hv.elem h).rng
  ·exact hx.rng
 have hins : ∀ i, ∀ y ∈ v.list.take i ++ (k :: x :: v.list.drop i), y.rng := fun i y hy => by
  simp at hy
  rcases hy with h | rfl | rfl | h
  ·exact (hv.elem (List.mem_of_mem_take h)).rng
  ·exact hk.rng
  ·exact hx.rng
  ·exact (hv.elem (List.mem_of_mem_drop h)).rng
 repeat' split
 all_goals first
  | exact eE0
  | exact lE0 (sB0 hv.num (hset _))
  | exact lE0 (sB0 hv.num (hins _))
theorem qe0 (l : List Val) (i j : Nat) (h : i <= j) : Val.wtL (l.take i ++ l.drop j) <= Val.wtL l := by
 have h1 : Val.wtL l = Val.wtL (l.take i) + Val.wtL (l.drop i) := by rw [<- Val.dp0, List.take_append_drop]
 have h2 : Val.wtL (l.drop i) = Val.wtL ((l.drop i).take (j - i)) + Val.wtL (l.drop j) := by
  rw [<- Val.dp0, show l.drop j = (l.drop i).drop (j - i) by rw [List.drop_drop]; congr 1; omega, List.take_append_drop]
 rw [Val.dp0]; omega
theorem ok_del {v k : Val} (hv : v.ok) : (v.del k).1.ok := by
 unfold Val.del
 split
 ·split
  ·refine ⟨?_, sB0 hv.num fun y hy => ?_⟩
   ·have h1 := v.cB0
    have h2 := qe0 v.list (aD0 k v.list 0).1 ((aD0 k v.list 0).1 + 2) (by omega)
    have := hv.wt
    simp only [Val.wt]; omega
   ·simp at hy
    rcases hy with h | h
    ·exact (hv.elem (List.mem_of_mem_take h)).rng
    ·exact (hv.elem (List.mem_of_mem_drop h)).rng
  ·exact hv
 ·exact eE0
theorem ok_len {v : Val} (hv : v.ok) : (Val.int v.len.1).ok := by
 have h1 := v.cB0
 have h2 := Val.be0 v.list
 have := hv.wt
 unfold Val.len
 repeat' split
 all_goals (refine ok_int ?_ ?_ <;> simp only <;> omega)
theorem qr0 : ∀ (k u : Nat), u < 10 ^ (k + 1) -> (Lib.decDigits u).length <= k + 1
 | 0, u, h => by rw [Lib.decDigits, dif_pos (by omega)]; simp
 | k + 1, u, h => by
  rw [Lib.decDigits]
  split
  ·simp
  ·have := qr0 k (u / 10) (by rw [Nat.pow_succ] at h; omega)
   simp; omega
theorem sZ0 {n : Int} (h1 : -9223372036854775808 <= n) (h2 : n < 9223372036854775808) : (qO0 n).size <= 16383 := by
 show (Lib.itoa n).toArray.size <= 16383
 unfold Lib.itoa
 split
 ·have := qr0 19 n.natAbs (by omega)
  simp; omega
 ·have := qr0 19 n.toNat (by omega)
  simp; omega
theorem ok_strv {v : Val} (hv : v.ok) : v.strv.1.ok := by
 unfold Val.strv
 split
 ·exact eE0
 ·exact ok_str (sZ0 hv.num.1 hv.num.2)
theorem mk1_ok {op a : Int} {vs : List Val} {r : Val × Int} (h : mk1 op a vs = some r) (hv : ∀ v ∈ vs, v.ok) : r.1.ok := by
 match vs, h, hv with
 | [], h, _ => cases h
 | [x], h, hv =>
  have hx := hv x (by simp)
  unfold mk1 at h; simp only at h
  repeat' split at h
  all_goals first
   | (injection h with h; subst h; first | exact ok_neg hx | exact rF0 _ | exact eE0 | exact ok_len hx | exact ok_strv hx)
   | cases h
 | [x, y], h, hv =>
  have hx := hv x (by simp)
  have hy := hv y (by simp)
  unfold mk1 at h; simp only at h
  repeat' split at h
  all_goals first
   | (injection h with h; subst h; first | exact ok_bin hx hy | exact rF0 _ | exact ok_at hx | exact ok_push hx hy | exact ok_del hx)
   | cases h
 | [x, y, z], h, hv =>
  have hx := hv x (by simp)
  have hy := hv y (by simp)
  have hz := hv z (by simp)
  unfold mk1 at h; simp only at h
  repeat' split at h
  all_goals first
   | (injection h with h; subst h; exact ok_put hx hy hz)
   | cases h
 | _ :: _ :: _ :: _ :: _, h, _ => cases h
end Go.Am
end

section
namespace Go.Am
structure Keeps (P : Val -> Prop) : Prop where
 ok : ∀ v, P v -> v.wt < 2 ^ 40 /\ -9223372036854775808 <= v.num /\ v.num < 9223372036854775808
 int0 : P (Val.int 0)
 mk1 : ∀ op a vs r, mk1 op a vs = some r -> r.2 = 0 -> (∀ v ∈ vs, P v) -> P r.1
theorem pB0 : Keeps Val.ok := ⟨fun v h => ⟨by have := h.wt; omega, h.num⟩, ok_int (by omega) (by omega), fun op a vs r h _ hv => mk1_ok h hv⟩
structure Fr.oks (P : Val -> Prop) (S : Fr) : Prop where
 loc : ∀ v ∈ S.loc, P v
 stk : ∀ v ∈ S.stk, P v
 sts : ∀ v ∈ S.sts, P v
def dT0.oks (P : Val -> Prop) : dT0 -> Prop
 | .on S => S.oks P
 | .trap _ _ => True
theorem sm0 {P : Val -> Prop} {S : Fr} (h : S.oks P) (a : Int) : (S.jump a).oks P := by
 unfold Fr.jump
 repeat' split
 all_goals first | trivial | exact ⟨h.loc, h.stk, h.sts⟩
theorem pH0 {P : Val -> Prop} (hP : Keeps P) {m : Mdl} {i : Ins} {S : Fr} {r : dT0} (hp : prim m i S = some r) (h : S.oks P) (hm : ∀ v ∈ m.consts, P v) : r.oks P := by
 have push : ∀ v : Val, P v -> ({ S with stk := S.stk ++ [v] } : Fr).oks P := fun v hv => ⟨h.loc, fun x hx => by simp at hx; rcases hx with hx | rfl; exact h.stk x hx; exact hv, h.sts⟩
 have pop : ∀ {s : List Val} {v : Val}, popL S.stk = some (s, v) -> P v /\ ∀ x ∈ s, P x := fun {s v} hq => by
  have e := ef0 hq
  exact ⟨h.stk v (by rw [e]; simp), fun x hx => h.stk x (by rw [e]; simp [hx])⟩
 have set : ∀ (l : List Val) (k : Nat) (v : Val), (∀ x ∈ l, P x) -> P v -> ∀ x ∈ l.set k v, P x := fun l k v h1 h2 x hx => by
  rcases List.mem_or_eq_of_mem_set hx with hx | rfl
  ·exact h1 x hx
  ·exact h2
 unfold prim at hp
 by_cases c0 : i.a < 0
 ·rw [if_pos c0] at hp; cases hp
 rw [if_neg c0] at hp
 by_cases c : i.op = 1
 ·rw [if_pos c] at hp
  obtain ⟨v, hv, rfl⟩ := Option.map_eq_some_iff.1 hp
  exact push v (hm v (List.mem_of_getElem? hv))
 rw [if_neg c] at hp
 clear c
 by_cases c : i.op = 2
 ·rw [if_pos c] at hp
  obtain ⟨v, hv, rfl⟩ := Option.map_eq_some_iff.1 hp
  exact push v (h.loc v (List.mem_of_getElem? hv))
 rw [if_neg c] at hp
 clear c
 by_cases c : i.op = 4
 ·rw [if_pos c] at hp
  obtain ⟨v, hv, rfl⟩ := Option.map_eq_some_iff.1 hp
  exact push v (h.sts v (List.mem_of_getElem? hv))
 rw [if_neg c] at hp
 clear c
 by_cases c : i.op = 3
 ·rw [if_pos c] at hp
  split at hp
  ·obtain ⟨⟨s, v⟩, hv, rfl⟩ := Option.map_eq_some_iff.1 hp
   exact ⟨set _ _ _ h.loc (pop hv).1, (pop hv).2, h.sts⟩
  ·cases hp
 rw [if_neg c] at hp
 clear c
 by_cases c : i.op = 5
 ·rw [if_pos c] at hp
  split at hp
  ·obtain ⟨⟨s, v⟩, hv, rfl⟩ := Option.map_eq_some_iff.1 hp
   exact ⟨h.loc, (pop hv).2, set _ _ _ h.sts (pop hv).1⟩
  ·cases hp
 rw [if_neg c] at hp
 clear c
 by_cases c : i.op = 6
 ·rw [if_pos c] at hp
  obtain ⟨⟨s, v⟩, hv, rfl⟩ := Option.map_eq_some_iff.1 hp
  exact ⟨h.loc, (pop hv).2, h.sts⟩
 rw [if_neg c] at hp
 clear c
 by_cases c : i.op = 7
 ·rw [if_pos c] at hp
  injection hp with hp; subst hp; exact sm0 h _
 rw [if_neg c] at hp
 clear c
 by_cases c : i.op = 8
 ·rw [if_pos c] at hp
  obtain ⟨⟨s, v⟩, hv, rfl⟩ := Option.map_eq_some_iff.1 hp
  have h1 : ({ S with stk := s } : Fr).oks P := ⟨h.loc, (pop hv).2, h.sts⟩
  simp only
  repeat' split
  ·exact h1
  ·exact sm0 h1 _
  ·trivial
 rw [if_neg c] at hp
 clear c
 by_cases c : i.op = 11
 ·rw [if_pos c] at hp
  injection hp with hp; subst hp
  split <;> first | trivial | exact ⟨h.loc, h.stk, h.sts⟩
 rw [if_neg c] at hp
 obtain ⟨⟨s, vs⟩, hsp, hp⟩ := Option.bind_eq_some_iff.1 hp
 obtain ⟨rr, hr, rfl⟩ := Option.map_eq_some_iff.1 hp
 obtain ⟨hs, hlen⟩ := er0 hsp
 have hst : ∀ x ∈ s, P x := fun x hx => h.stk x (by rw [hs]; simp [hx])
 split
 ·rename_i h0
  have hok := hP.mk1 _ _ _ _ hr h0 fun v hv => h.stk v (by rw [hs]; simp [hv])
  exact ⟨h.loc, fun x hx => by simp at hx; rcases hx with hx | rfl; exact hst x hx; exact hok, h.sts⟩
 ·trivial
end Go.Am
end

section
namespace Go.Am
theorem iK0 {l : List Val} (h : 1 <= l.length) : ∃ s v, popL l = some (s, v) /\ l.length = s.length + 1 := by
 rcases l.eq_nil_or_concat with rfl | ⟨t, w, rfl⟩
 ·simp at h
 ·exact ⟨t, w, by rw [List.concat_eq_append, dg0], by simp⟩
theorem nt0 {l : List Val} {k : Nat} (h : k <= l.length) : ∃ s vs, g40 l k = some (s, vs) /\ vs.length = k /\ l.length = s.length + k := ⟨l.take (l.length - k), l.drop (l.length - k), by simp [g40, h], by simp; omega, by simp; omega⟩
theorem mk1_some {op a : Int} {vs : List Val} (h1 : 12 <= op) (h2 : op <= 21) (h : vs.length = cnt op) : ∃ r, mk1 op a vs = some r := by
 have hop : op = 12 \/ op = 13 \/ op = 14 \/ op = 15 \/ op = 16 \/ op = 17 \/ op = 18 \/ op = 19 \/ op = 20 \/ op = 21 := by omega
 match vs, h with
 | [], h => unfold cnt at h; (repeat' split at h) <;> cases h
 | [x], h => rcases hop with rfl | rfl | rfl | rfl | rfl | rfl | rfl | rfl | rfl | rfl <;> simp [cnt] at h <;> simp [mk1]
 | [x, y], h => rcases hop with rfl | rfl | rfl | rfl | rfl | rfl | rfl | rfl | rfl | rfl <;> simp [cnt] at h <;> simp [mk1]
 | [x, y, z], h => rcases hop with rfl | rfl | rfl | rfl | rfl | rfl | rfl | rfl | rfl | rfl <;> simp [cnt] at h <;> simp [mk1]
 | _ :: _ :: _ :: _ :: _, h => unfold cnt at h; (repeat' split at h) <;> simp at h
theorem mB0 (v : Val) : (bounded v).2 ≠ 54 := by unfold bounded; split <;> simp
theorem arith_err (op a b : Int) : (arith op a b).2 ≠ 54 := by
 have hf : ∀ x, (fitI x).2 ≠ 54 := fun x => by unfold fitI; split <;> simp
 unfold arith
 repeat' split
 all_goals first | exact hf _ | simp
theorem mk1_err {op a : Int} {vs : List Val} {r : Val × Int} (h : mk1 op a vs = some r) : r.2 ≠ 54 := by
 match vs, h with
 | [], h => cases h
 | [x], h =>
  unfold mk1 at h; simp only at h
  repeat' split at h
  all_goals first
   | cases h; done
   | (injection h with h; subst h; first | (unfold Val.neg; (repeat' split) <;> simp; done) | (unfold Val.len; (repeat' split) <;> simp; done) | (unfold Val.strv; (repeat' split) <;> simp; done) | (simp; done))
 | [x, y], h =>
  unfold mk1 at h; simp only at h
  repeat' split at h
  all_goals first
   | cases h; done
   | (injection h with h; subst h; first | (unfold Val.bin; (repeat' split) <;> first | exact arith_err _ _ _ | (simp; done)) | (unfold Val.has; (repeat' split) <;> simp; done) | (unfold Val.at; (repeat' split) <;> simp; done) | (unfold Val.push; (repeat' split) <;> first | exact mB0 _ | (simp; done)) | (unfold Val.del; (repeat' split) <;> simp; done))
 | [x, y, z], h =>
  unfold mk1 at h; simp only at h
  split at h
  ·injection h with h; subst h
   unfold Val.put
   (repeat' split) <;> first | exact mB0 _ | (simp; done)
  ·cases h
 | _ :: _ :: _ :: _ :: _, h => cases h
def StepOk (S : Fr) (nx : List Int) (p out : Int) : dT0 -> Prop
 | .on S' => S'.loc.length = S.loc.length /\ S'.sts.length = S.sts.length /\ 0 <= S'.fuel /\ S'.fuel <= S.fuel /\ S'.at_ ∈ nx /\ (S'.at_ <= p -> S'.fuel < S.fuel) /\ (S'.stk.length : Int) = out
 | .trap e S' => e ≠ 0 /\ 0 <= S'.fuel /\ S'.fuel <= S.fuel /\ (e = 54 -> S'.fuel = 0)
theorem jump_ok {S : Fr} {nx : List Int} {p a out : Int} (hat : S.at_ = p + 1) (ha : a ∈ nx) (h0 : 0 <= S.fuel) (ho : (S.stk.length : Int) = out) : StepOk S nx p out (S.jump a) := by
 unfold Fr.jump
 split
 ·split
  ·exact ⟨by simp, by simp, h0, fun _ => rfl⟩
  ·exact ⟨rfl, rfl, by simp only; omega, by simp only; omega, ha, fun _ => by simp only; omega, ho⟩
 ·exact ⟨rfl, rfl, h0, Int.le_refl _, ha, fun h => by simp only at h; omega, ho⟩
theorem prim_ok {m : Mdl} {st : Int} {n : Nat} {f : Fnc} {i : Ins} {S : Fr} {p : Int} (hi : m.fn0 st n f i = true) (h9 : i.op ≠ 9) (h10 : i.op ≠ 10) (hat : S.at_ = p + 1) (h0 : 0 <= S.fuel)
  (hl : (S.loc.length : Int) = f.locals) (hs : (S.sts.length : Int) = st) (hst : m.pops i <= S.stk.length) :
  ∃ r, prim m i S = some r /\ StepOk S (i.aN0 p) p (S.stk.length - m.pops i + i.ax0) r := by
 obtain ⟨op, a⟩ := i
 simp only [Mdl.fn0, Bool.and_eq_true, decide_eq_true_eq] at hi
 obtain ⟨⟨⟨o1, o2⟩, a1⟩, a2⟩ := hi
 have ha0 : 0 <= a := by unfold Mdl.most at a1; (repeat' split at a1) <;> simp at a1 <;> omega
 unfold prim
 simp only at *
 rw [if_neg (by omega)]
 have plain : ∀ S' : Fr, S'.at_ = S.at_ -> S'.fuel = S.fuel -> S'.loc.length = S.loc.length -> S'.sts.length = S.sts.length -> (S'.stk.length : Int) = S.stk.length - m.pops ⟨op, a⟩ + Ins.ax0 ⟨op, a⟩ -> op ≠ 7 ->
   StepOk S (Ins.aN0 ⟨op, a⟩ p) p (S.stk.length - m.pops ⟨op, a⟩ + Ins.ax0 ⟨op, a⟩) (.on S') := fun S' e1 e2 e3 e4 e5 e7 => by
  refine ⟨e3, e4, by omega, by omega, ?_, fun h => by omega, e5⟩
  unfold Ins.aN0
  rw [if_neg h10, if_neg e7]
  split <;> simp [e1, hat]
 by_cases c : op = 1
 ·subst c
  simp [Mdl.most] at a2
  rw [if_pos rfl, List.getElem?_eq_getElem (by omega)]
  exact ⟨_, rfl, plain _ rfl rfl rfl rfl (by simp [Mdl.pops, Ins.ax0]) (by omega)⟩
 rw [if_neg c]
 by_cases c : op = 2
 ·subst c
  simp [Mdl.most] at a2
  rw [if_pos rfl, List.getElem?_eq_getElem (by omega)]
  exact ⟨_, rfl, plain _ rfl rfl rfl rfl (by simp [Mdl.pops, Ins.ax0]) (by omega)⟩
 rw [if_neg c]
 by_cases c : op = 4
 ·subst c
  simp [Mdl.most] at a2
  rw [if_pos rfl, List.getElem?_eq_getElem (by omega)]
  exact ⟨_, rfl, plain _ rfl rfl rfl rfl (by simp [Mdl.pops, Ins.ax0]) (by omega)⟩
 rw [if_neg c]
 by_cases c : op = 3
 ·subst c
  simp [Mdl.most] at a2
  have hp : m.pops ⟨3, a⟩ = 1 := by simp [Mdl.pops]
  obtain ⟨s, v, e1, e2⟩ := iK0 (l := S.stk) (by omega)
  rw [if_pos rfl, if_pos (by omega), e1]
  exact ⟨_, rfl, plain _ rfl rfl (by simp) rfl (by simp [hp, Ins.ax0]; omega) (by omega)⟩
 rw [if_neg c]
 by_cases c : op = 5
 ·subst c
  simp [Mdl.most] at a2
  have hp : m.pops ⟨5, a⟩ = 1 := by simp [Mdl.pops]
  obtain ⟨s, v, e1, e2⟩ := iK0 (l := S.stk) (by omega)
  rw [if_pos rfl, if_pos (by omega), e1]
  exact ⟨_, rfl, plain _ rfl rfl rfl (by simp) (by simp [hp, Ins.ax0]; omega) (by omega)⟩
 rw [if_neg c]
 by_cases c : op = 6
 ·subst c
  have hp : m.pops ⟨6, a⟩ = 1 := by simp [Mdl.pops]
  obtain ⟨s, v, e1, e2⟩ := iK0 (l := S.stk) (by omega)
  rw [if_pos rfl, e1]
  exact ⟨_, rfl, plain _ rfl rfl rfl rfl (by simp [hp, Ins.ax0]; omega) (by omega)⟩
 rw [if_neg c]
 by_cases c : op = 7
 ·subst c
  rw [if_pos rfl]
  exact ⟨_, rfl, jump_ok hat (by simp [Ins.aN0]) h0 (by simp [Mdl.pops, Ins.ax0])⟩
 rw [if_neg c]
 by_cases c : op = 8
 ·subst c
  have hp : m.pops ⟨8, a⟩ = 1 := by simp [Mdl.pops]
  obtain ⟨s, v, e1, e2⟩ := iK0 (l := S.stk) (by omega)
  rw [if_pos rfl, e1]
  refine ⟨_, rfl, ?_⟩
  simp only
  split
  ·split
   ·exact plain _ rfl rfl rfl rfl (by simp [hp, Ins.ax0]; omega) (by omega)
   ·exact jump_ok (S := { S with stk := s }) hat (by simp [Ins.aN0]) h0 (by simp [hp, Ins.ax0]; omega)
  ·exact ⟨by simp, h0, Int.le_refl _, by simp⟩
 rw [if_neg c]
 by_cases c : op = 11
 ·subst c
  rw [if_pos rfl]
  refine ⟨_, rfl, ?_⟩
  split
  ·exact ⟨by simp, by simp, h0, fun _ => rfl⟩
  ·exact ⟨rfl, rfl, by simp only; omega, by simp only; omega, by simp [Ins.aN0, hat], fun h => by simp only at h; omega, by simp [Mdl.pops, Ins.ax0]⟩
 rw [if_neg c]
 have hc : m.pops ⟨op, a⟩ = cnt op := by
  unfold Mdl.pops cnt
  simp only
  (repeat' split) <;> simp <;> omega
 have hpu : Ins.ax0 ⟨op, a⟩ = 1 := by
  unfold Ins.ax0
  simp only
  split <;> omega
 obtain ⟨s, vs, e1, e2, e3⟩ := nt0 (l := S.stk) (k := cnt op) (by omega)
 obtain ⟨r, hr⟩ := mk1_some (a := a) (by omega) o2 e2
 rw [e1]
 simp only [Option.bind_some, hr, Option.map_some]
 refine ⟨_, rfl, ?_⟩
 split
 ·exact plain _ rfl rfl rfl rfl (by simp [hc, hpu]; omega) (by omega)
 ·exact ⟨by assumption, h0, Int.le_refl _, fun h => absurd h (mk1_err hr)⟩
end Go.Am
end

section
namespace Go.Am
theorem mt0 {m : Mdl} : ∀ (g : Nat) {f : Fnc} {S : Fr} {out : Out}, run m g f S = some out -> run m (g + 1) f S = some out
 | 0, f, S, out, h => by cases h
 | g + 1, f, S, out, h => by
  rw [run] at h
  rw [run]
  by_cases hfit : S.fit
  case neg => rw [if_neg hfit] at h; cases h
  rw [if_pos hfit] at h ⊢
  cases hc : f.code[S.at_.toNat]? with
  | none => rw [hc] at h; cases h
  | some i =>
   rw [hc] at h
   simp only [Option.bind_some] at h ⊢
   by_cases h10 : i.op = 10
   ·rw [if_pos h10] at h ⊢; exact h
   rw [if_neg h10] at h ⊢
   by_cases h9 : i.op = 9
   ·rw [if_pos h9] at h ⊢
    by_cases ha : i.a < 0
    ·rw [if_pos ha] at h; cases h
    rw [if_neg ha] at h ⊢
    by_cases hfu : S.fuel < 1
    ·rw [if_pos hfu] at h ⊢; exact h
    rw [if_neg hfu] at h ⊢
    cases hq : m.funcs[i.a.toNat]? with
    | none => rw [hq] at h; cases h
    | some h' =>
     rw [hq] at h
     simp only [Option.bind_some] at h ⊢
     by_cases hp : h'.params < 0
     ·rw [if_pos hp] at h; cases h
     rw [if_neg hp] at h ⊢
     cases hs : g40 S.stk h'.params.toNat with
     | none => rw [hs] at h; cases h
     | some p =>
      rw [hs] at h
      simp only [Option.bind_some] at h ⊢
      cases hr : run m g h' (h'.start p.2 S.sts (S.fuel - 1)) with
      | none => rw [hr] at h; cases h
      | some o =>
       rw [hr] at h
       rw [mt0 g hr]
       cases o with
       | trap e sts fuel => exact h
       | val v sts fuel => exact mt0 g h
   ·rw [if_neg h9] at h ⊢
    cases hp : prim m i { S with at_ := S.at_ + 1 } with
    | none => rw [hp] at h; cases h
    | some r =>
     rw [hp] at h
     cases r with
     | trap e S' => exact h
     | on S' => exact mt0 g h
theorem sC0 {m : Mdl} {g g' : Nat} {f : Fnc} {S : Fr} {out : Out} (h : run m g f S = some out) (hg : g <= g') : run m g' f S = some out := by
 obtain ⟨k, rfl⟩ := Nat.exists_eq_add_of_le hg
 clear hg
 induction k with
 | zero => exact h
 | succ k ih => exact mt0 _ ih
theorem run_det {m : Mdl} {g g' : Nat} {f : Fnc} {S : Fr} {out out' : Out} (h : run m g f S = some out) (h' : run m g' f S = some out') : out = out' := by
 have h1 := sC0 h (Nat.le_max_left g g')
 have h2 := sC0 h' (Nat.le_max_right g g')
 rw [h1] at h2; injection h2
structure FrI (P : Val -> Prop) (f : Fnc) (G : Nat -> Int) (st : Int) (S : Fr) : Prop where
 a0 : 0 <= S.at_
 al : S.at_.toNat < f.code.length
 hh : (S.stk.length : Int) = G S.at_.toNat
 hb : S.stk.length <= 256
 loc : (S.loc.length : Int) = f.locals
 sts : (S.sts.length : Int) = st
 f0 : 0 <= S.fuel
 f1 : S.fuel <= 4096
 ok : S.oks P
def lh0 (P : Val -> Prop) (st fuel : Int) : Out -> Prop
 | .val v sts fu => P v /\ (∀ x ∈ sts, P x) /\ (sts.length : Int) = st /\ 0 <= fu /\ fu <= fuel
 | .trap e sts fu => e ≠ 0 /\ 0 <= fu /\ fu <= fuel /\ (e = 54 -> fu = 0)
theorem lh0.le {P : Val -> Prop} {st a b : Int} {o : Out} (h : lh0 P st a o) (hab : a <= b) : lh0 P st b o := by
 cases o with
 | val v sts fu => exact ⟨h.1, h.2.1, h.2.2.1, h.2.2.2.1, Int.le_trans h.2.2.2.2 hab⟩
 | trap e sts fu => exact ⟨h.1, h.2.1, Int.le_trans h.2.2.1 hab, h.2.2.2⟩
theorem q00 {m : Mdl} {st : Int} {n : Nat} {f : Fnc} {i : Ins} {p q : Int} (hi : m.fn0 st n f i = true) (hp : 0 <= p) (hq : q ∈ i.aN0 p) : 0 <= q := by
 simp only [Mdl.fn0, Bool.and_eq_true, decide_eq_true_eq] at hi
 obtain ⟨⟨⟨o1, o2⟩, a1⟩, a2⟩ := hi
 have ha0 : 0 <= i.a := by unfold Mdl.most at a1; (repeat' split at a1) <;> simp at a1 <;> omega
 unfold Ins.aN0 at hq
 (repeat' split at hq) <;> simp at hq <;> omega
theorem run_total {m : Mdl} {st : Int} (hv : m.vOk st) {P : Val -> Prop} (hP : Keeps P) (hc : ∀ v ∈ m.consts, P v) : ∀ (F n : Nat) (hn : n < m.funcs.length) (G : Nat -> Int), (m.gr m.funcs[n]).good G ->
  ∀ (d : Nat) (S : Fr), FrI P m.funcs[n] G st S -> S.fuel.toNat <= F -> m.funcs[n].code.length - S.at_.toNat <= d -> ∃ g out, run m g m.funcs[n] S = some out /\ lh0 P st S.fuel out := by
 intro F
 induction F using Nat.strongRecOn with
 | _ F IH =>
 intro n hn G hG d
 induction d with
 | zero => intro S hS _ hd; have := hS.al; omega
 | succ d IHd =>
 intro S hS hF hd
 have hfn := hv.fn n hn
 have hal := hS.al
 have ha0 := hS.a0
 have hins := hfn.ins _ (List.getElem_mem hal)
 have hgl : (m.gr m.funcs[n]).len = m.funcs[n].code.length := rfl
 have hok := hG.2 S.at_.toNat (by rw [hgl]; exact hal) (by rw [<- hS.hh]; omega)
 have hgp : (m.gr m.funcs[n]).pops S.at_.toNat = m.pops m.funcs[n].code[S.at_.toNat] := by simp [Mdl.gr, hal]
 have hgu : (m.gr m.funcs[n]).ax0 S.at_.toNat = m.funcs[n].code[S.at_.toNat].ax0 := by simp [Mdl.gr, hal]
 have hgn : (m.gr m.funcs[n]).aN0 S.at_.toNat = m.funcs[n].code[S.at_.toNat].aN0 S.at_ := by simp [Mdl.gr, hal]; rw [Int.max_eq_left ha0]
 have hcap : (m.gr m.funcs[n]).cap = m.funcs[n].stack := rfl
 have hst1 := hfn.bnd.s1
 obtain ⟨en, fi, ways⟩ := hok
 rw [hgn] at ways
 unfold Gr.out at fi ways
 rw [hgp, hgu, hcap] at fi
 rw [hgp, hgu] at ways
 rw [hgp] at en
 rw [<- hS.hh] at en fi ways
 rw [hgl] at ways
 have hcode : m.funcs[n].code[S.at_.toNat]? = some m.funcs[n].code[S.at_.toNat] := List.getElem?_eq_getElem hal
 generalize hi : m.funcs[n].code[S.at_.toNat] = i at *
 have hfit : S.fit := ⟨ha0, by have := hS.hb; omega, hS.f0, by have := hS.f1; omega, fun v hv => hP.ok v (hS.ok.stk v hv)⟩
 have hf0 := hS.f0
 have hf1 := hS.f1
 by_cases h10 : i.op = 10
 ·have hp : m.pops i = 1 := by simp [Mdl.pops, h10]
  obtain ⟨s, v, e1, e2⟩ := iK0 (l := S.stk) (by omega)
  refine ⟨1, .val v S.sts S.fuel, ?_, hS.ok.stk v (by rw [ef0 e1]; simp), hS.ok.sts, hS.sts, hf0, Int.le_refl _⟩
  rw [run, if_pos hfit, hcode]
  simp only [Option.bind_some]
  rw [if_pos h10, e1]; rfl
 by_cases h9 : i.op = 9
 ·have hpu : i.ax0 = 1 := by simp [Ins.ax0, h9]
  have hnx : i.aN0 S.at_ = [S.at_ + 1] := by simp [Ins.aN0, h9]
  have hin := hins
  simp only [Mdl.fn0, Bool.and_eq_true, decide_eq_true_eq] at hin
  obtain ⟨⟨⟨o1, o2⟩, a1⟩, a2⟩ := hin
  simp [Mdl.most, h9] at a1 a2
  have hal2 : i.a.toNat < m.funcs.length := by omega
  have hp : m.pops i = m.funcs[i.a.toNat].params := by simp [Mdl.pops, h9, hal2]
  have hfn2 := hv.fn _ hal2
  have hp0 := hfn2.bnd.p0
  have hpl := hfn2.bnd.l0
  have hq : m.funcs[i.a.toNat]? = some m.funcs[i.a.toNat] := List.getElem?_eq_getElem hal2
  by_cases hfu : S.fuel < 1
  ·refine ⟨1, .trap 54 S.sts 0, ?_, by simp, by simp, hf0, fun _ => rfl⟩
   rw [run, if_pos hfit, hcode]
   simp only [Option.bind_some]
   rw [if_neg h10, if_pos h9, if_neg (by omega), if_pos hfu]
  obtain ⟨s, vs, e1, e2, e3⟩ := nt0 (l := S.stk) (k := m.funcs[i.a.toNat].params.toNat) (by omega)
  have hs := (er0 e1).1
  obtain ⟨G', hG'⟩ : ∃ G', (m.gr m.funcs[i.a.toNat]).good G' := by have h := hfn2.hgt; simp only [Gr.hB, decide_eq_true_eq] at h; exact h
  have hc0 := hfn2.bnd.c0
  have hloc : ((vs ++ List.replicate (m.funcs[i.a.toNat].locals.toNat - vs.length) (Val.int 0)).length : Int) = m.funcs[i.a.toNat].locals := by simp; omega
  obtain ⟨g1, o1, hr1, hk1⟩ := IH (S.fuel - 1).toNat (by omega) _ hal2 G' hG' m.funcs[i.a.toNat].code.length (m.funcs[i.a.toNat].start vs S.sts (S.fuel - 1))
   ⟨Int.le_refl _, by simp only [Fnc.start]; simp; omega, by simp only [Fnc.start]; simp; exact hG'.1.symm, by simp [Fnc.start], hloc, hS.sts, by simp only [Fnc.start]; omega, by simp only [Fnc.start]; omega,
    ⟨fun v hv => by simp only [Fnc.start] at hv; simp at hv; rcases hv with hv | ⟨_, rfl⟩; exact hS.ok.stk v (by rw [hs]; simp [hv]); exact hP.int0, fun v hv => by simp [Fnc.start] at hv, hS.ok.sts⟩⟩ (Nat.le_refl _) (by omega)
  have hk1f : lh0 P st (S.fuel - 1) o1 := hk1
  cases o1 with
  | trap e sts fu =>
   refine ⟨g1 + 1, .trap e sts fu, ?_, hk1f.le (by omega)⟩
   rw [run, if_pos hfit, hcode]
   simp only [Option.bind_some]
   rw [if_neg h10, if_pos h9, if_neg (by omega), if_neg hfu, hq]
   simp only [Option.bind_some]
   rw [if_neg (by omega), e1]
   simp only [Option.bind_some]
   rw [hr1]
  | val v sts fu =>
   obtain ⟨q1, q2, q3, q4, q5⟩ := hk1f
   obtain ⟨w1, w2⟩ := ways (S.at_ + 1) (by rw [hnx]; simp)
   have hst2 : ∀ x ∈ s, P x := fun x hx => hS.ok.stk x (by rw [hs]; simp [hx])
   obtain ⟨g2, o2, hr2, hk2⟩ := IH fu.toNat (by omega) n hn G hG m.funcs[n].code.length { S with stk := s ++ [v], at_ := S.at_ + 1, sts := sts, fuel := fu }
    ⟨by simp only; omega, w1, by simp only; rw [w2]; simp; omega, by simp; omega, hS.loc, q3, q4, by simp only; omega,
     ⟨hS.ok.loc, fun x hx => by simp at hx; rcases hx with hx | rfl; exact hst2 x hx; exact q1, q2⟩⟩ (Nat.le_refl _) (by omega)
   refine ⟨max g1 g2 + 1, o2, ?_, hk2.le (by simp only; omega)⟩
   rw [run, if_pos hfit, hcode]
   simp only [Option.bind_some]
   rw [if_neg h10, if_pos h9, if_neg (by omega), if_neg hfu, hq]
   simp only [Option.bind_some]
   rw [if_neg (by omega), e1]
   simp only [Option.bind_some]
   rw [sC0 hr1 (Nat.le_max_left _ _)]
   exact sC0 hr2 (Nat.le_max_right _ _)
 ·obtain ⟨r, hpr, hso⟩ := prim_ok (S := { S with at_ := S.at_ + 1 }) (p := S.at_) hins h9 h10 rfl hf0 hS.loc hS.sts (by simp only; omega)
  have hoks := pH0 hP hpr ⟨hS.ok.loc, hS.ok.stk, hS.ok.sts⟩ hc
  cases r with
  | trap e S' =>
   refine ⟨1, .trap e S'.sts S'.fuel, ?_, hso⟩
   rw [run, if_pos hfit, hcode]
   simp only [Option.bind_some]
   rw [if_neg h10, if_neg h9, hpr]
  | on S' =>
   obtain ⟨s1, s2, s3, s4, s5, s6, s7⟩ := hso
   simp only at s1 s2 s4 s6 s7
   obtain ⟨w1, w2⟩ := ways S'.at_ s5
   have hn0 := q00 hins ha0 s5
   have hI : FrI P m.funcs[n] G st S' := ⟨hn0, w1, by rw [w2]; exact s7, by omega, by rw [s1]; exact hS.loc, by rw [s2]; exact hS.sts, s3, by omega, hoks⟩
   have hend : ∃ g out, run m g m.funcs[n] S' = some out /\ lh0 P st S'.fuel out := by
    by_cases hle : S'.at_ <= S.at_
    ·have := s6 hle
     exact IH S'.fuel.toNat (by omega) n hn G hG m.funcs[n].code.length S' hI (Nat.le_refl _) (by omega)
    ·exact IHd S' hI (by omega) (by omega)
   obtain ⟨g, out, hr, ho⟩ := hend
   refine ⟨g + 1, out, ?_, ho.le s4⟩
   rw [run, if_pos hfit, hcode]
   simp only [Option.bind_some]
   rw [if_neg h10, if_neg h9, hpr]
   exact hr
end Go.Am
end

section
namespace Go.Am
def Fr.more (S : Fr) (k : Int) : Fr := { S with fuel := S.fuel + k }
def dT0.more (k : Int) : dT0 -> dT0
 | .on S => .on (S.more k)
 | .trap e S => .trap e (S.more k)
def dT0.fuel : dT0 -> Int
 | .on S => S.fuel
 | .trap _ S => S.fuel
def dT0.short : dT0 -> Prop
 | .on _ => False
 | .trap e _ => e = 54
def Out.more (k : Int) : Out -> Out
 | .val v sts fu => .val v sts (fu + k)
 | .trap e sts fu => .trap e sts (fu + k)
def Out.fuel : Out -> Int
 | .val _ _ fu => fu
 | .trap _ _ fu => fu
def Out.short : Out -> Prop
 | .val _ _ _ => False
 | .trap e _ _ => e = 54
def More (S : Fr) (k : Int) (r r' : dT0) : Prop := (0 <= S.fuel -> r.fuel <= S.fuel) /\ (¬ r.short -> r' = r.more k)
theorem qP0 (S : Fr) (a k : Int) (hk : 0 <= k) : More S k (S.jump a) ((S.more k).jump a) := by
 unfold Fr.jump Fr.more
 by_cases h1 : a < S.at_
 ·simp only [if_pos h1]
  by_cases h2 : S.fuel < 1
  ·rw [if_pos h2]; exact ⟨fun h => h, fun h => absurd rfl h⟩
  ·rw [if_neg h2, if_neg (by omega)]
   exact ⟨fun _ => by simp only [dT0.fuel]; omega, fun _ => by simp only [dT0.more, Fr.more, dT0.on.injEq, Fr.mk.injEq, true_and]; omega⟩
 ·simp only [if_neg h1]
  exact ⟨fun _ => Int.le_refl _, fun _ => rfl⟩
theorem q20 {m : Mdl} {i : Ins} {S : Fr} {r : dT0} {k : Int} (hk : 0 <= k) (hp : prim m i S = some r) : ∃ r', prim m i (S.more k) = some r' /\ More S k r r' := by
 have same : ∀ S' : Fr, S'.fuel = S.fuel -> More S k (.on S') (.on (S'.more k)) := fun S' h => ⟨fun _ => by simp only [dT0.fuel]; omega, fun _ => rfl⟩
 unfold prim at hp ⊢
 by_cases c : i.a < 0
 ·rw [if_pos c] at hp; cases hp
 rw [if_neg c] at hp ⊢
 by_cases c1 : i.op = 1
 ·rw [if_pos c1] at hp ⊢
  obtain ⟨v, hv, rfl⟩ := Option.map_eq_some_iff.1 hp
  rw [hv]; exact ⟨_, rfl, same _ rfl⟩
 rw [if_neg c1] at hp ⊢
 by_cases c2 : i.op = 2
 ·rw [if_pos c2] at hp ⊢
  obtain ⟨v, hv, rfl⟩ := Option.map_eq_some_iff.1 hp
  rw [show (S.more k).loc = S.loc from rfl, hv]; exact ⟨_, rfl, same _ rfl⟩
 rw [if_neg c2] at hp ⊢
 by_cases c4 : i.op = 4
 ·rw [if_pos c4] at hp ⊢
  obtain ⟨v, hv, rfl⟩ := Option.map_eq_some_iff.1 hp
  rw [show (S.more k).sts = S.sts from rfl, hv]; exact ⟨_, rfl, same _ rfl⟩
 rw [if_neg c4] at hp ⊢
 by_cases c3 : i.op = 3
 ·rw [if_pos c3] at hp ⊢
  rw [show (S.more k).loc = S.loc from rfl, show (S.more k).stk = S.stk from rfl]
  by_cases d : i.a.toNat < S.loc.length
  ·rw [if_pos d] at hp ⊢
   obtain ⟨v, hv, rfl⟩ := Option.map_eq_some_iff.1 hp
   rw [hv]; exact ⟨_, rfl, same _ rfl⟩
  ·rw [if_neg d] at hp; cases hp
 rw [if_neg c3] at hp ⊢
 by_cases c5 : i.op = 5
 ·rw [if_pos c5] at hp ⊢
  rw [show (S.more k).sts = S.sts from rfl, show (S.more k).stk = S.stk from rfl]
  by_cases d : i.a.toNat < S.sts.length
  ·rw [if_pos d] at hp ⊢
   obtain ⟨v, hv, rfl⟩ := Option.map_eq_some_iff.1 hp
   rw [hv]; exact ⟨_, rfl, same _ rfl⟩
  ·rw [if_neg d] at hp; cases hp
 rw [if_neg c5] at hp ⊢
 by_cases c6 : i.op = 6
 ·rw [if_pos c6] at hp ⊢
  rw [show (S.more k).stk = S.stk from rfl]
  obtain ⟨v, hv, rfl⟩ := Option.map_eq_some_iff.1 hp
  rw [hv]; exact ⟨_, rfl, same _ rfl⟩
 rw [if_neg c6] at hp ⊢
 by_cases c7 : i.op = 7
 ·rw [if_pos c7] at hp ⊢
  injection hp with hp; subst hp
  exact ⟨_, rfl, qP0 S i.a k hk⟩
 rw [if_neg c7] at hp ⊢
 by_cases c8 : i.op = 8
 ·rw [if_pos c8] at hp ⊢
  rw [show (S.more k).stk = S.stk from rfl]
  obtain ⟨⟨s, v⟩, hv, rfl⟩ := Option.map_eq_some_iff.1 hp
  rw [hv]
  refine ⟨_, rfl, ?_⟩
  simp only
  by_cases d : v.kind = 2
  ·rw [if_pos d, if_pos d]
   by_cases d1 : v.num = 1
   ·rw [if_pos d1, if_pos d1]; exact same _ rfl
   ·rw [if_neg d1, if_neg d1]; exact qP0 { S with stk := s } i.a k hk
  ·rw [if_neg d, if_neg d]
   exact ⟨fun _ => Int.le_refl _, fun _ => rfl⟩
 rw [if_neg c8] at hp ⊢
 by_cases c11 : i.op = 11
 ·rw [if_pos c11] at hp ⊢
  injection hp with hp; subst hp
  refine ⟨_, rfl, ?_⟩
  by_cases d : S.fuel < i.a
  ·rw [if_pos d]
   exact ⟨fun h => h, fun h => absurd rfl h⟩
  ·rw [if_neg d, if_neg (by simp only [Fr.more]; omega)]
   exact ⟨fun _ => by simp only [dT0.fuel]; omega, fun _ => by simp only [dT0.more, Fr.more, dT0.on.injEq, Fr.mk.injEq, true_and]; omega⟩
 rw [if_neg c11] at hp ⊢
 rw [show (S.more k).stk = S.stk from rfl]
 obtain ⟨⟨s, vs⟩, hsp, hp⟩ := Option.bind_eq_some_iff.1 hp
 obtain ⟨rr, hr, rfl⟩ := Option.map_eq_some_iff.1 hp
 rw [hsp]
 simp only at hr
 simp only [Option.bind_some, hr, Option.map_some]
 refine ⟨_, rfl, ?_⟩
 by_cases d : rr.2 = 0
 ·rw [if_pos d, if_pos d]; exact same _ rfl
 ·rw [if_neg d, if_neg d]; exact ⟨fun _ => Int.le_refl _, fun _ => rfl⟩
theorem mu0 {m : Mdl} {k : Int} (hk : 0 <= k) : ∀ (g : Nat) {f : Fnc} {S : Fr} {out : Out}, run m g f S = some out -> S.fuel + k < 2 ^ 40 ->
  out.fuel <= S.fuel /\ (¬ out.short -> run m g f (S.more k) = some (out.more k))
 | 0, f, S, out, h, _ => by cases h
 | g + 1, f, S, out, h, hb => by
  rw [run] at h
  rw [run]
  by_cases hfit : S.fit
  case neg => rw [if_neg hfit] at h; cases h
  have hf0 := hfit.f0
  rw [if_pos hfit] at h
  rw [if_pos (⟨hfit.a0, hfit.len, by simp only [Fr.more]; omega, hb, hfit.vals⟩ : (S.more k).fit), show (S.more k).at_ = S.at_ from rfl]
  cases hc : f.code[S.at_.toNat]? with
  | none => rw [hc] at h; cases h
  | some i =>
   rw [hc] at h
   simp only [Option.bind_some] at h ⊢
   by_cases h10 : i.op = 10
   ·rw [if_pos h10] at h ⊢
    obtain ⟨⟨s, v⟩, hv, rfl⟩ := Option.map_eq_some_iff.1 h
    exact ⟨Int.le_refl _, fun _ => by rw [show (S.more k).stk = S.stk from rfl, hv]; rfl⟩
   rw [if_neg h10] at h ⊢
   by_cases h9 : i.op = 9
   ·rw [if_pos h9] at h ⊢
    by_cases ha : i.a < 0
    ·rw [if_pos ha] at h; cases h
    rw [if_neg ha] at h ⊢
    by_cases hfu : S.fuel < 1
    ·rw [if_pos hfu] at h
     injection h with h; subst h
     exact ⟨hf0, fun h => absurd rfl h⟩
    rw [if_neg hfu] at h
    rw [if_neg (by simp only [Fr.more]; omega)]
    cases hq : m.funcs[i.a.toNat]? with
    | none => rw [hq] at h; cases h
    | some h' =>
     rw [hq] at h
     simp only [Option.bind_some] at h ⊢
     by_cases hp : h'.params < 0
     ·rw [if_pos hp] at h; cases h
     rw [if_neg hp] at h ⊢
     rw [show (S.more k).stk = S.stk from rfl]
     cases hs : g40 S.stk h'.params.toNat with
     | none => rw [hs] at h; cases h
     | some p =>
      rw [hs] at h
      simp only [Option.bind_some] at h ⊢
      cases hr : run m g h' (h'.start p.2 S.sts (S.fuel - 1)) with
      | none => rw [hr] at h; cases h
      | some o =>
       rw [hr] at h
       obtain ⟨q1, q2⟩ := mu0 hk g hr (by simp only [Fnc.start]; omega)
       have q1' : o.fuel <= S.fuel - 1 := q1
       have hst : (h'.start p.2 S.sts (S.fuel - 1)).more k = h'.start p.2 (S.more k).sts ((S.more k).fuel - 1) := by
        simp only [Fnc.start, Fr.more, Fr.mk.injEq, true_and]; omega
       rw [hst] at q2
       cases o with
       | trap e sts fuel =>
        injection h with h; subst h
        refine ⟨by simp only [Out.fuel] at q1' ⊢; omega, fun hn => ?_⟩
        rw [q2 hn]; rfl
       | val v sts fuel =>
        simp only [Out.fuel] at q1'
        obtain ⟨r1, r2⟩ := mu0 hk g h (by simp only; omega)
        refine ⟨by simp only at r1; omega, fun hn => ?_⟩
        rw [q2 (fun h => h)]
        exact r2 hn
   ·rw [if_neg h9] at h ⊢
    cases hp : prim m i { S with at_ := S.at_ + 1 } with
    | none => rw [hp] at h; cases h
    | some r =>
     rw [hp] at h
     obtain ⟨r', hp', hm1, hm2⟩ := q20 hk hp
     have hm1 := hm1 hf0
     simp only at hm1
     have hp2 : prim m i { S.more k with at_ := S.at_ + 1 } = some r' := hp'
     cases r with
     | trap e S' =>
      injection h with h; subst h
      refine ⟨hm1, fun hn => ?_⟩
      have := hm2 hn
      subst this
      rw [show ({ loc := (S.more k).loc, stk := (S.more k).stk, at_ := S.at_ + 1, sts := (S.more k).sts, fuel := (S.more k).fuel } : Fr) = { S.more k with at_ := S.at_ + 1 } from rfl, hp2]
      rfl
     | on S' =>
      have := hm2 (fun h => h)
      subst this
      simp only [dT0.fuel] at hm1
      obtain ⟨r1, r2⟩ := mu0 hk g h (by omega)
      refine ⟨by omega, fun hn => ?_⟩
      rw [show ({ loc := (S.more k).loc, stk := (S.more k).stk, at_ := S.at_ + 1, sts := (S.more k).sts, fuel := (S.more k).fuel } : Fr) = { S.more k with at_ := S.at_ + 1 } from rfl, hp2]
      exact r2 hn
end Go.Am
end

section
namespace Go.Am
set_option maxRecDepth 100000
attribute [local irreducible] vc vcIs vcI vcOp vcD vcDp vcDR vcT vcAR bp0 aK0 panD neG ne pv J bm0 bl0 bt0 aS0 evK evsK nthK objK boxK rowK bg0 intK strK aggK fnK ifcK aw0 at0 ldK ldaK iaK srcK stK appK appD bv0 pvK br0 aF0 bk0
mutual
def Val.lim : Val -> Prop
 | .mk _ n t l => (-9223372036854775808 <= n /\ n < 9223372036854775808) /\ t.size < 2 ^ 40 /\ l.length < 2 ^ 40 /\ Val.limL l
def Val.limL : List Val -> Prop
 | [] => True
 | v :: vs => v.lim /\ Val.limL vs
end
theorem Val.lim_eq (v : Val) : v.lim ↔ (-9223372036854775808 <= v.num /\ v.num < 9223372036854775808) /\ v.text.size < 2 ^ 40 /\ v.list.length < 2 ^ 40 /\ Val.limL v.list := by
 obtain ⟨k, n, t, l⟩ := v; simp [Val.lim, Val.num, Val.list, Val.text]
theorem Val.ge0 : ∀ (l : List Val), Val.limL l ↔ ∀ x ∈ l, x.lim
 | [] => by simp [Val.limL]
 | v :: l => by simp [Val.limL, Val.ge0 l]
theorem Val.lim.rng {v : Val} (h : v.lim) : v.rng := by
 induction v using Val.induct with
 | h v ih =>
 obtain ⟨h1, h2, h3, h4⟩ := v.lim_eq.1 h
 exact v.q80.2 ⟨h1, (Val.jc0 _).2 fun x hx => ih x hx ((Val.ge0 _).1 h4 x hx)⟩
mutual
def Val.cnt : Val -> Int -> Bool × Int
 | .mk _ _ t l, n => if n + (1 + t.size) > 16384 then (true, n + (1 + t.size)) else Val.cntL l (n + (1 + t.size))
def Val.cntL : List Val -> Int -> Bool × Int
 | [], n => (false, n)
 | v :: vs, n => if (v.cnt n).1 then (true, (v.cnt n).2) else Val.cntL vs (v.cnt n).2
end
theorem Val.cnt_eq (v : Val) (n : Int) : v.cnt n = if n + (1 + v.text.size) > 16384 then (true, n + (1 + v.text.size)) else Val.cntL v.list (n + (1 + v.text.size)) := by
 obtain ⟨k, m, t, l⟩ := v; simp [Val.cnt, Val.list, Val.text]
theorem cnt_wt (v : Val) : ∀ n, 0 <= n -> n <= 16384 -> ((v.cnt n).1 = false -> (v.cnt n).2 = n + v.wt /\ n + v.wt <= 16384) := by
 induction v using Val.induct with
 | h v ih =>
 intro n h0 h1 h
 have hw := v.cB0
 rw [Val.cnt_eq] at h ⊢
 split at h
 ·cases h
 rename_i hn
 rw [if_neg hn]
 have key : ∀ (l : List Val) (k : Int), (∀ x ∈ l, x ∈ v.list) -> 0 <= k -> k <= 16384 -> (Val.cntL l k).1 = false -> (Val.cntL l k).2 = k + Val.wtL l /\ k + Val.wtL l <= 16384 := by
  intro l
  induction l with
  | nil => intro k _ _ hk _; simp [Val.cntL, Val.wtL]; exact hk
  | cons x l ihl =>
   intro k hx hk0 hk hc
   rw [Val.cntL] at hc ⊢
   split at hc
   ·cases hc
   rename_i hxx
   rw [if_neg hxx]
   have hxf : (x.cnt k).1 = false := by simpa using hxx
   obtain ⟨q1, q2⟩ := ih x (hx x (by simp)) k hk0 hk hxf
   rw [q1] at hc ⊢
   obtain ⟨r1, r2⟩ := ihl (k + x.wt) (fun y hy => hx y (by simp [hy])) (by omega) q2 hc
   simp only [Val.wtL]
   omega
 have := key v.list (n + (1 + v.text.size)) (fun x hx => hx) (by omega) (by omega) h
 omega
def CntI (l : List Val) (n1 : Int) (x : Nat × Int) : Prop := x.1 <= l.length /\ 0 <= x.2 /\ x.2 <= 16384 /\ Val.cntL l n1 = Val.cntL (l.drop x.1) x.2
theorem CntI.start {l : List Val} {n : Int} (h0 : 0 <= n) (h1 : n <= 16384) : CntI l n (0, n) := ⟨Nat.zero_le _, h0, h1, rfl⟩
theorem CntI.hit {l : List Val} {n1 : Int} {i : Nat} {k : Int} (h : CntI l n1 (i, k)) (hi : i < l.length) (hc : (l[i].cnt k).1 = true) : Val.cntL l n1 = (true, (l[i].cnt k).2) := by
 rw [h.2.2.2, List.drop_eq_getElem_cons hi, Val.cntL, if_pos hc]
theorem CntI.next {l : List Val} {n1 : Int} {i : Nat} {k : Int} (h : CntI l n1 (i, k)) (hi : i < l.length) (hc : (l[i].cnt k).1 = false) : CntI l n1 (i + 1, (l[i].cnt k).2) := by
 obtain ⟨q1, q2⟩ := cnt_wt l[i] k h.2.1 h.2.2.1 hc
 have hk : 0 <= k := h.2.1
 refine ⟨hi, by simp only; omega, by simp only; omega, ?_⟩
 rw [h.2.2.2, List.drop_eq_getElem_cons hi, Val.cntL, if_neg (by simp [hc])]
theorem CntI.end {l : List Val} {n1 : Int} {i : Nat} {k : Int} (h : CntI l n1 (i, k)) (hi : l.length <= i) : Val.cntL l n1 = (false, k) := by
 rw [h.2.2.2, List.drop_eq_nil_of_le hi]; rfl
theorem sS0 (v : Val) : v.lim -> ∀ n : Int, 0 <= n -> n <= 16384 -> J prog fP0 [v.V, .bp (.e 0) 0] [.box [vI n]] (· = .ret (vB (v.cnt n).1) [.box [vI (v.cnt n).2]]) := by
 induction v using Val.induct with
 | h v ih =>
 intro hlim n h0 h1
 obtain ⟨l1, l2, l3, l4⟩ := v.lim_eq.1 hlim
 have hce := v.cnt_eq n
 generalize v.cnt n = r at *
 refine az0 jW0 (by simp) ?_
 simp +contextual (maxSteps := 2000000) (disch := omega) [-Int.not_lt, -Int.not_le, -Nat.not_lt, -Nat.not_le, sx, e30, hpE]
 refine ⟨fun h => ?_, fun h => ?_⟩
 ·rw [if_pos (by omega)] at hce
  subst hce
  refine endR _ _ (Wk.refl _ _) [] (by simp) ?_
  simp +contextual (maxSteps := 2000000) (disch := omega) [-Int.not_lt, -Int.not_le, -Nat.not_lt, -Nat.not_le, sx]
 ·rw [if_neg (by omega)] at hce
  refine ap0 (fun x : Nat × Int => v.list.length - x.1) (fun x => [(23, vI x.1), (22, vI v.list.length), (21, ay0 v.list), (1, .bp (.e 0) 0)]) (fun x => [(.e 0, .box [vI x.2])])
   (CntI v.list (n + (1 + v.text.size))) (0, n + (1 + v.text.size)) (.start (by omega) (by omega)) (Wk.subs (by simp) (by simp)) ?_
  rintro ⟨i, k⟩ hI
  have hi : i <= v.list.length := hI.1
  have hk0 : 0 <= k := hI.2.1
  have hk1 : k <= 16384 := hI.2.2.1
  simp +contextual (maxSteps := 2000000) (disch := omega) [-Int.not_lt, -Int.not_le, -Nat.not_lt, -Nat.not_le, sx]
  refine ⟨fun hlt => ?_, fun hge => ?_⟩
  ·refine ad0 [.e 0] rfl rfl (by simp) ?_
   simp
   have hpO := ih v.list[i] (List.getElem_mem hlt) ((Val.ge0 _).1 l4 _ (List.getElem_mem hlt)) k hk0 hk1
   try simp [VmS.obs, VmS.obs', ag0] at hpO
   refine ae0 29 hpO (by simp) ?_
   clear hpO
   simp +contextual (maxSteps := 2000000) (disch := omega) [-Int.not_lt, -Int.not_le, -Nat.not_lt, -Nat.not_le, sx]
   refine ⟨fun hc => ?_, fun hc => ?_⟩
   ·rw [hI.hit hlt hc] at hce
    subst hce
    refine endR _ _ (Wk.refl _ _) [] (by simp) ?_
    simp +contextual (maxSteps := 2000000) (disch := omega) [-Int.not_lt, -Int.not_le, -Nat.not_lt, -Nat.not_le, sx]
   ·exact .of (i + 1, (v.list[i].cnt k).2) (hI.next hlt hc) (by simp only; omega) (Wk.subs (by simp) (by simp))
  ·rw [hI.end (by omega)] at hce
   subst hce
   refine endR _ _ (Wk.refl _ _) [] (by simp) ?_
   simp +contextual (maxSteps := 2000000) (disch := omega) [-Int.not_lt, -Int.not_le, -Nat.not_lt, -Nat.not_le, sx]
def cntF : List Fnc -> Int -> Bool × Int
 | [], n => (false, n)
 | f :: fs, n => if n + (1 + f.code.length) > 1024 then (true, n) else cntF fs (n + (1 + f.code.length))
def me0 : List (List Val) -> Int -> Bool
 | [], n => false
 | l :: ls, n => if (Val.cntL l n).1 then true else me0 ls (Val.cntL l n).2
def Mdl.n40 (m : Mdl) (a b : List Val) : Bool := if (cntF m.funcs 0).1 then true else me0 [m.consts, a, b] (cntF m.funcs 0).2
def FuI (l : List Fnc) (x : Nat × Int) : Prop := x.1 <= l.length /\ 0 <= x.2 /\ x.2 <= 1024 /\ cntF l 0 = cntF (l.drop x.1) x.2
theorem FuI.hit {l : List Fnc} {i : Nat} {k : Int} (h : FuI l (i, k)) (hi : i < l.length) (hc : k + (1 + l[i].code.length) > 1024) : (cntF l 0).1 = true := by
 rw [h.2.2.2, List.drop_eq_getElem_cons hi, cntF, if_pos hc]
theorem FuI.next {l : List Fnc} {i : Nat} {k : Int} (h : FuI l (i, k)) (hi : i < l.length) (hc : ¬ k + (1 + l[i].code.length) > 1024) : FuI l (i + 1, k + (1 + l[i].code.length)) := by
 have hk : 0 <= k := h.2.1
 refine ⟨hi, by simp only; omega, by simp only; omega, ?_⟩
 rw [h.2.2.2, List.drop_eq_getElem_cons hi, cntF, if_neg hc]
theorem FuI.end {l : List Fnc} {i : Nat} {k : Int} (h : FuI l (i, k)) (hi : l.length <= i) : cntF l 0 = (false, k) := by
 rw [h.2.2.2, List.drop_eq_nil_of_le hi]; rfl
theorem mJ0 : ∀ (l : List Val) (k : Int), 0 <= k -> k <= 16384 -> (Val.cntL l k).1 = false -> (Val.cntL l k).2 = k + Val.wtL l /\ k + Val.wtL l <= 16384
 | [], k, _, hk, _ => by simp [Val.cntL, Val.wtL]; exact hk
 | x :: l, k, hk0, hk, hc => by
  rw [Val.cntL] at hc ⊢
  split at hc
  ·cases hc
  rename_i hxx
  rw [if_neg hxx]
  obtain ⟨q1, q2⟩ := cnt_wt x k hk0 hk (by simpa using hxx)
  rw [q1] at hc ⊢
  obtain ⟨r1, r2⟩ := mJ0 l (k + x.wt) (by omega) q2 hc
  simp only [Val.wtL]
  omega
def LlI (l : List (List Val)) (n0 : Int) (x : Nat × Int) : Prop := x.1 <= l.length /\ 0 <= x.2 /\ x.2 <= 16384 /\ me0 l n0 = me0 (l.drop x.1) x.2
theorem LlI.hit {l : List (List Val)} {n0 : Int} {i : Nat} {k k' : Int} (h : LlI l n0 (i, k)) (hi : i < l.length) (hc : Val.cntL l[i] k = (true, k')) : me0 l n0 = true := by
 rw [h.2.2.2, List.drop_eq_getElem_cons hi, me0, hc]; rfl
theorem LlI.next {l : List (List Val)} {n0 : Int} {i : Nat} {k k' : Int} (h : LlI l n0 (i, k)) (hi : i < l.length) (hc : Val.cntL l[i] k = (false, k')) : LlI l n0 (i + 1, k') := by
 have hk : 0 <= k := h.2.1
 have hk1 : k <= 16384 := h.2.2.1
 obtain ⟨q1, q2⟩ := mJ0 l[i] k hk hk1 (by rw [hc])
 rw [hc] at q1
 simp only at q1
 refine ⟨hi, by simp only; omega, by simp only; omega, ?_⟩
 rw [h.2.2.2, List.drop_eq_getElem_cons hi, me0, hc]; rfl
theorem LlI.end {l : List (List Val)} {n0 : Int} {i : Nat} {k : Int} (h : LlI l n0 (i, k)) (hi : l.length <= i) : me0 l n0 = false := by
 rw [h.2.2.2, List.drop_eq_nil_of_le hi]; rfl
structure Mdl.sm (m : Mdl) : Prop where
 hcl : m.consts.length < 2 ^ 40
 hfl : m.funcs.length < 2 ^ 40
 hf : ∀ f ∈ m.funcs, f.code.length < 2 ^ 40
theorem pC0 {m : Mdl} {a b : List Val} (h : m.n40 a b = false) : Val.wtL m.consts <= 16384 /\ Val.wtL a <= 16384 /\ Val.wtL b <= 16384 := by
 have hF : ∀ (l : List Fnc) (k : Int), 0 <= k -> k <= 1024 -> (cntF l k).1 = false -> 0 <= (cntF l k).2 /\ (cntF l k).2 <= 1024 := by
  intro l
  induction l with
  | nil => intro k h0 h1 _; exact ⟨h0, h1⟩
  | cons f l ih =>
   intro k h0 h1 hc
   rw [cntF] at hc ⊢
   split at hc
   ·cases hc
   rename_i hk
   rw [if_neg hk]
   exact ih _ (by omega) (by omega) hc
 unfold Mdl.n40 at h
 split at h
 ·cases h
 rename_i hf
 obtain ⟨k0, k1⟩ := hF m.funcs 0 (by omega) (by omega) (by simpa using hf)
 generalize (cntF m.funcs 0).2 = k at *
 rw [me0] at h
 split at h
 ·cases h
 rename_i h1
 obtain ⟨q1, q2⟩ := mJ0 m.consts k k0 (by omega) (by simpa using h1)
 rw [q1, me0] at h
 split at h
 ·cases h
 rename_i h2
 obtain ⟨r1, r2⟩ := mJ0 a _ (by omega) q2 (by simpa using h2)
 rw [r1, me0] at h
 split at h
 ·cases h
 rename_i h3
 obtain ⟨s1, s2⟩ := mJ0 b _ (by omega) r2 (by simpa using h3)
 omega
theorem s10 (m : Mdl) (a b : List Val) (hm : m.sm) (hc : Val.limL m.consts) (ha : Val.limL a) (hb : Val.limL b) (ha2 : a.length < 2 ^ 40) (hb2 : b.length < 2 ^ 40) :
  Ret prog fQ0 [m.V, .lst [[ay0 a], [ay0 b]]] (vB (m.n40 a b)) := by
 refine af0 jX0 (by simp) ?_
 simp +contextual (maxSteps := 2000000) (disch := omega) [-Int.not_lt, -Int.not_le, -Nat.not_lt, -Nat.not_le, sx, e40]
 have hfl := hm.hfl
 refine ap0 (fun x : Nat × Int => m.funcs.length - x.1) (fun x => [(15, vI x.1), (14, vI m.funcs.length), (13, .lst (m.funcs.map Fnc.cells)), (2, .bp (.l 2 0) 0), (5, .bp (.l 5 0) 0), (1, .lst [[ay0 a], [ay0 b]])])
  (fun x => [(.l 5 0, .box [vI x.2]), (.l 2 0, .box [.lst (m.consts.map Val.cells), .lst (m.funcs.map Fnc.cells)])]) (FuI m.funcs) (0, 0) ⟨Nat.zero_le _, by simp, by simp, rfl⟩ (Wk.subs (by simp) (by simp)) ?_
 rintro ⟨i, k⟩ hI
 have hi : i <= m.funcs.length := hI.1
 have hk0 : 0 <= k := hI.2.1
 have hk1 : k <= 1024 := hI.2.2.1
 simp +contextual (maxSteps := 2000000) (disch := omega) [-Int.not_lt, -Int.not_le, -Nat.not_lt, -Nat.not_le, sx]
 refine ⟨fun hlt => ?_, fun hge => ?_⟩
 ·have hcl := hm.hf _ (List.getElem_mem hlt)
  simp +contextual (maxSteps := 2000000) (disch := omega) [-Int.not_lt, -Int.not_le, -Nat.not_lt, -Nat.not_le, sx]
  refine ⟨fun h => by unfold Mdl.n40; rw [if_pos (hI.hit hlt (by omega))], fun h => ?_⟩
  exact .of (i + 1, k + (1 + m.funcs[i].code.length)) (hI.next hlt (by omega)) (by simp only; omega) (Wk.subs (by simp) (by simp))
 have he := hI.end (by omega)
 have hML : m.n40 a b = me0 [m.consts, a, b] k := by unfold Mdl.n40; rw [he]; rfl
 rw [hML]
 refine ⟨⟨_, rfl, rfl⟩, ?_⟩
 have hlim : ∀ l ∈ [m.consts, a, b], Val.limL l /\ l.length < 2 ^ 40 := by
  intro l hl
  simp at hl
  rcases hl with rfl | rfl | rfl
  ·exact ⟨hc, hm.hcl⟩
  ·exact ⟨ha, ha2⟩
  ·exact ⟨hb, hb2⟩
 have hL3 : [m.consts, a, b].length = 3 := rfl
 have hrow : ([[V.lst (List.map Val.cells m.consts)], [ay0 a], [ay0 b]] : List (List V)) = [m.consts, a, b].map fun l => [ay0 l] := rfl
 rw [hrow]
 clear hML he hrow
 generalize [m.consts, a, b] = L at *
 refine ap0 (fun x : Nat × Int => 3 - x.1) (fun x => [(34, vI x.1), (33, vI 3), (32, .arr (.l 32 0) 0 3), (5, .bp (.l 5 0) 0)])
  (fun x => [(.l 32 0, .row 22 1 true (L.map fun l => [ay0 l])), (.l 5 0, .box [vI x.2])]) (LlI L k) (0, k) ⟨Nat.zero_le _, hk0, by simp only; omega, rfl⟩ (Wk.subs (by simp) (by simp)) ?_
 rintro ⟨j, n⟩ hJ
 have hj : j <= L.length := hJ.1
 have hn0 : 0 <= n := hJ.2.1
 have hn1 : n <= 16384 := hJ.2.2.1
 simp +contextual (maxSteps := 2000000) (disch := omega) [-Int.not_lt, -Int.not_le, -Nat.not_lt, -Nat.not_le, sx]
 refine ⟨fun hlt => ?_, fun hge => hJ.end (by omega)⟩
 have hjl : j < L.length := by omega
 obtain ⟨hl1, hl2⟩ := hlim _ (List.getElem_mem hjl)
 have hhit := fun k' => hJ.hit (k' := k') hjl
 have hnext := fun k' => hJ.next (k' := k') hjl
 generalize L[j] = l at *
 refine ap0 (fun x : Nat × Int => l.length - x.1) (fun x => [(40, vI x.1), (39, vI l.length), (38, ay0 l), (34, vI j), (33, vI 3), (32, .arr (.l 32 0) 0 3), (5, .bp (.l 5 0) 0)])
  (fun x => [(.l 32 0, .row 22 1 true (L.map fun l => [ay0 l])), (.l 5 0, .box [vI x.2])]) (CntI l n) (0, n) (.start hn0 hn1) (Wk.subs (by simp) (by simp)) ?_
 rintro ⟨i, q⟩ hI
 have hi : i <= l.length := hI.1
 have hq0 : 0 <= q := hI.2.1
 have hq1 : q <= 16384 := hI.2.2.1
 simp +contextual (maxSteps := 2000000) (disch := omega) [-Int.not_lt, -Int.not_le, -Nat.not_lt, -Nat.not_le, sx]
 refine ⟨fun hlt => ?_, fun hge => ?_⟩
 ·refine ad0 [.l 5 0] rfl rfl (by simp) ?_
  simp
  have hpO := sS0 l[i] ((Val.ge0 _).1 hl1 _ (List.getElem_mem hlt)) q hq0 hq1
  try simp [VmS.obs, VmS.obs', ag0] at hpO
  refine ae0 45 hpO (by simp) ?_
  clear hpO
  simp +contextual (maxSteps := 2000000) (disch := omega) [-Int.not_lt, -Int.not_le, -Nat.not_lt, -Nat.not_le, sx]
  refine ⟨fun hc => hhit _ (hI.hit hlt hc), fun hc => ?_⟩
  exact .of (i + 1, (l[i].cnt q).2) (hI.next hlt hc) (by simp only; omega) (Wk.subs (by simp) (by simp))
 ·exact .of (j + 1, q) (hnext _ (hI.end (by omega))) (by simp only; omega) (Wk.subs (by simp) (by simp))
def ba0 (l : List Ins) : Mdl := ⟨[Val.int 7], [⟨0, 0, 0, 1, l⟩]⟩
theorem lJ0 (l : List Ins) (hl : l.length < 2 ^ 40) : Ret prog fR0 [.lst (l.map Ins.cells)] (ba0 l).V := by
 refine af0 jY0 (by simp) ?_
 simp +contextual (maxSteps := 2000000) (disch := omega) [-Int.not_lt, -Int.not_le, -Nat.not_lt, -Nat.not_le, sx, e50, ba0]
 exact ⟨rfl, rfl⟩
theorem iT0 (l : List Ins) (hl : l.length < 2 ^ 40) : (ba0 l).small := ⟨fun v hv => by simp [ba0] at hv; subst hv; have := (ok_int (n := 7) (by omega) (by omega)).wt; omega, by simp [ba0], by simp [ba0], fun f hf => by simp [ba0] at hf; subst hf; exact hl⟩
theorem tyc_int (n : Int) : (Val.int n).tyc ≠ [] := by
 have h1 : (Val.int n).wt <= 16384 := by simp only [Val.int, Val.wt, Val.wtL]; show 1 + 0 + 0 <= 16384; decide
 have h2 : (Val.int n).fitK [105, 110, 116] = true := by
  unfold Val.fitK
  rw [if_pos rfl]
  simp [Val.int, Val.kind, Val.text, noS]
 unfold Val.tyc
 rw [if_pos ⟨rfl, h1⟩]
 simp [tyK, List.find?_cons, h2]
theorem nr0 (l : List Ins) (h1 : 1 <= l.length) (h2 : l.length <= 16384) (hi : ∀ i ∈ l, (ba0 l).fn0 0 0 ⟨0, 0, 0, 1, l⟩ i = true) (G : Nat -> Int) (hG : ((ba0 l).gr ⟨0, 0, 0, 1, l⟩).good G) : (ba0 l).vOk 0 := by
 refine ⟨by simp [ba0], by simp, by simp, by simp [ba0], fun v hv => by simp [ba0] at hv; subst hv; exact tyc_int 7, fun n hn => ?_⟩
 have : n = 0 := by simp [ba0] at hn; exact hn
 subst this
 refine ⟨⟨by simp [ba0], by simp [ba0], by simp [ba0], by simp [ba0], by simp [ba0], by simp [ba0], by simp [ba0], by simp [ba0], h1, h2⟩, hi, ?_⟩
 simp only [Gr.hB, decide_eq_true_eq]
 exact ⟨G, hG⟩
abbrev l1 : List Ins := [⟨1, 0⟩, ⟨10, 0⟩]
abbrev l2 : List Ins := [⟨7, 0⟩]
abbrev l3 : List Ins := [⟨1, 0⟩, ⟨14, 0⟩, ⟨10, 0⟩]
theorem vok1 : (ba0 l1).vOk 0 := by
 refine nr0 l1 (by simp) (by simp) ?_ (fun p => if p = 0 then 0 else if p = 1 then 1 else -1) ?_
 ·intro i hi; simp at hi; rcases hi with rfl | rfl <;> simp [Mdl.fn0, Mdl.most, ba0]
 ·refine ⟨rfl, fun p hp hp0 => ?_⟩
  have hp2 : p < 2 := hp
  have : p = 0 \/ p = 1 := by omega
  rcases this with rfl | rfl <;> simp [Gr.okAt, Gr.out, Mdl.gr, Mdl.pops, Ins.ax0, Ins.aN0]
theorem vok2 : (ba0 l2).vOk 0 := by
 refine nr0 l2 (by simp) (by simp) ?_ (fun p => if p = 0 then 0 else -1) ?_
 ·intro i hi; simp at hi; rcases hi with rfl; simp [Mdl.fn0, Mdl.most, ba0]
 ·refine ⟨rfl, fun p hp hp0 => ?_⟩
  have hp2 : p < 1 := hp
  have : p = 0 := by omega
  subst this
  simp [Gr.okAt, Gr.out, Mdl.gr, Mdl.pops, Ins.ax0, Ins.aN0]
theorem vok3 : (ba0 l3).vOk 0 := by
 refine nr0 l3 (by simp) (by simp) ?_ (fun p => if p = 0 then 0 else if p = 1 then 1 else if p = 2 then 1 else -1) ?_
 ·intro i hi; simp at hi; rcases hi with rfl | rfl | rfl <;> simp [Mdl.fn0, Mdl.most, ba0]
 ·refine ⟨rfl, fun p hp hp0 => ?_⟩
  have hp2 : p < 3 := hp
  have : p = 0 \/ p = 1 \/ p = 2 := by omega
  rcases this with rfl | rfl | rfl <;> simp [Gr.okAt, Gr.out, Mdl.gr, Mdl.pops, Ins.ax0, Ins.aN0]
theorem beg {l : List Ins} (h : (ba0 l).vOk 0) : lN0 (ba0 l) [] 0 [] := ⟨h, Int.le_refl _, by simp [ba0], by simp [ba0], rfl, rfl⟩
theorem fitE (at_ fuel : Int) (h0 : 0 <= at_) (h1 : 0 <= fuel) (h2 : fuel < 2 ^ 40) : (⟨[], [], at_, [], fuel⟩ : Fr).fit := ⟨h0, by simp, h1, h2, by simp⟩
theorem fit7 (at_ fuel : Int) (h0 : 0 <= at_) (h1 : 0 <= fuel) (h2 : fuel < 2 ^ 40) : (⟨[], [Val.int 7], at_, [], fuel⟩ : Fr).fit :=
 ⟨h0, by simp, h1, h2, fun v hv => by simp at hv; subst hv; exact pB0.ok _ (ok_int (by omega) (by omega))⟩
theorem run_on {m : Mdl} {g : Nat} {f : Fnc} {S S' : Fr} {i : Ins} (hf : S.fit) (hc : f.code[S.at_.toNat]? = some i) (h10 : i.op ≠ 10) (h9 : i.op ≠ 9) (hp : prim m i { S with at_ := S.at_ + 1 } = some (.on S')) : run m (g + 1) f S = run m g f S' := by
 rw [run, if_pos hf, hc]
 simp only [Option.bind_some]
 rw [if_neg h10, if_neg h9, hp]
theorem run1 : run (ba0 l1) 2 ⟨0, 0, 0, 1, l1⟩ (Fnc.start ⟨0, 0, 0, 1, l1⟩ [] [] 9) = some (.val (Val.int 7) [] 9) := by
 show run (ba0 l1) 2 ⟨0, 0, 0, 1, l1⟩ ⟨[], [], 0, [], 9⟩ = _
 rw [run, if_pos (fitE _ _ (by omega) (by omega) (by omega))]
 show run (ba0 l1) 1 ⟨0, 0, 0, 1, l1⟩ ⟨[], [Val.int 7], 1, [], 9⟩ = _
 rw [run, if_pos (fit7 _ _ (by omega) (by omega) (by omega))]
 rfl
theorem run2 : ∀ n : Nat, n <= 9 -> run (ba0 l2) (n + 1) ⟨0, 0, 0, 1, l2⟩ ⟨[], [], 0, [], n⟩ = some (.trap 54 [] 0)
 | 0, _ => by
  rw [run, if_pos (fitE _ _ (by omega) (by omega) (by omega))]
  rfl
 | n + 1, h => by
  have ih := run2 n (by omega)
  have hf := fitE 0 ((n + 1 : Nat) : Int) (by omega) (by omega) (by omega)
  have hp : prim (ba0 l2) ⟨7, 0⟩ ⟨[], [], 0 + 1, [], ((n + 1 : Nat) : Int)⟩ = some (.on ⟨[], [], 0, [], n⟩) := by
   simp [prim, Fr.jump]; omega
  rw [run_on hf (i := ⟨7, 0⟩) rfl (by simp) (by simp) hp]
  exact ih
theorem run3 : run (ba0 l3) 2 ⟨0, 0, 0, 1, l3⟩ (Fnc.start ⟨0, 0, 0, 1, l3⟩ [] [] 9) = some (.trap 40 [] 9) := by
 show run (ba0 l3) 2 ⟨0, 0, 0, 1, l3⟩ ⟨[], [], 0, [], 9⟩ = _
 rw [run, if_pos (fitE _ _ (by omega) (by omega) (by omega))]
 show run (ba0 l3) 1 ⟨0, 0, 0, 1, l3⟩ ⟨[], [Val.int 7], 1, [], 9⟩ = _
 rw [run, if_pos (fit7 _ _ (by omega) (by omega) (by omega))]
 rfl
theorem hw1 (v : Val) (sts : List Val) (fuel : Int) (h : Out.val (Val.int 7) [] 9 = .val v sts fuel) : v.wt < 2 ^ 40 /\ Val.wtL sts < 2 ^ 40 := by
 injection h with h1 h2 h3
 subst h1 h2
 have := (ok_int (n := 7) (by omega) (by omega)).wt
 exact ⟨by omega, by show 0 < 2 ^ 40; decide⟩
theorem tl0 : Ret prog fS0 [] (vB true) := by
 refine af0 jZ0 (by simp) ?_
 simp +contextual (maxSteps := 2000000) (disch := omega) [-Int.not_lt, -Int.not_le, -Nat.not_lt, -Nat.not_le, sx, e60]
 refine ab0 ?_; simp; refine aa0 (lJ0 l1 (by simp)) (by simp) ?_
 simp +contextual (maxSteps := 2000000) (disch := omega) [-Int.not_lt, -Int.not_le, -Nat.not_lt, -Nat.not_le, sx]
 refine ab0 ?_; simp; refine aa0 (la0 (ba0 l1) (iT0 l1 (by simp)) [] 0 [] 9 (by simp [Val.wtL]) (by simp [Val.wtL]) (beg vok1) 2 _ run1 hw1) (by simp [e20, bi0, V.pure, V.bD0]) ?_
 simp +contextual (maxSteps := 2000000) (disch := omega) [-Int.not_lt, -Int.not_le, -Nat.not_lt, -Nat.not_le, sx, e20, bi0]
 refine ab0 ?_; simp; refine aa0 (lJ0 l2 (by simp)) (by simp) ?_
 simp +contextual (maxSteps := 2000000) (disch := omega) [-Int.not_lt, -Int.not_le, -Nat.not_lt, -Nat.not_le, sx]
 refine ab0 ?_; simp; refine aa0 (la0 (ba0 l2) (iT0 l2 (by simp)) [] 0 [] 9 (by simp [Val.wtL]) (by simp [Val.wtL]) (beg vok2) 10 _ (run2 9 (by omega)) (fun v sts fuel h => by cases h)) (by simp [e20, bi0, V.pure, V.bD0]) ?_
 simp +contextual (maxSteps := 2000000) (disch := omega) [-Int.not_lt, -Int.not_le, -Nat.not_lt, -Nat.not_le, sx, e20, bi0]
 refine ab0 ?_; simp; refine aa0 (lJ0 l3 (by simp)) (by simp) ?_
 simp +contextual (maxSteps := 2000000) (disch := omega) [-Int.not_lt, -Int.not_le, -Nat.not_lt, -Nat.not_le, sx]
 refine ab0 ?_; simp; refine aa0 (la0 (ba0 l3) (iT0 l3 (by simp)) [] 0 [] 9 (by simp [Val.wtL]) (by simp [Val.wtL]) (beg vok3) 2 _ run3 (fun v sts fuel h => by cases h)) (by simp [e20, bi0, V.pure, V.bD0]) ?_
 simp +contextual (maxSteps := 2000000) (disch := omega) [-Int.not_lt, -Int.not_le, -Nat.not_lt, -Nat.not_le, sx, e20, bi0, Val.int, Val.num]
structure ke0 (m : Mdl) (states args : List Val) : Prop where
 sm : m.sm
 hc : Val.limL m.consts
 hs : Val.limL states
 ha : Val.limL args
 ls : states.length < 2 ^ 40
 la : args.length < 2 ^ 40
theorem limL_ok {l : List Val} (h : Val.limL l) (hw : Val.wtL l <= 16384) : ∀ v ∈ l, v.ok := fun v hv => ⟨by have := Val.aR0 hv; omega, ((Val.ge0 _).1 h v hv).rng⟩
theorem ke0.small {m : Mdl} {states args : List Val} (h : ke0 m states args) (hl : m.n40 states args = false) : m.small :=
 ⟨fun v hv => by have := Val.aR0 hv; have := (pC0 hl).1; omega, h.sm.hcl, h.sm.hfl, h.sm.hf⟩
theorem lh0.wt {st fuel : Int} {out : Out} (h : lh0 Val.ok st fuel out) (hst : st <= 32) : ∀ v sts fu, out = .val v sts fu -> v.wt < 2 ^ 40 /\ Val.wtL sts < 2 ^ 40 := by
 rintro v sts fu rfl
 obtain ⟨q1, q2, q3, q4, q5⟩ := h
 refine ⟨by have := q1.wt; omega, ?_⟩
 have key : ∀ l : List Val, (∀ x ∈ l, x.ok) -> Val.wtL l <= 16384 * l.length := by
  intro l
  induction l with
  | nil => intro _; simp [Val.wtL]
  | cons x l ih =>
   intro hx
   have h1 := (hx x (by simp)).wt
   have h2 := ih fun y hy => hx y (by simp [hy])
   simp only [Val.wtL, List.length_cons]; omega
 have := key sts q2
 omega
theorem mq0 : (Val.mk 0 0 noS []).wt < 2 ^ 40 := by have := eE0.wt; unfold Val.zero at this; omega
end Go.Am
end

section
namespace Go.Am
open Go
open Go.Proofs.YtnkfojenfnbchaaGreatDoor (Rows.uptoBulk Rows.uptoBulkAll)
section
variable {H : Type} {enc : TypeId × Value -> H} {W : World} {sp : Nat -> Bool} {held : Bool}
def imW (W : World) : Imm := fun b => match W.heap[b]? with | some (.cells cs _ _) => some cs | _ => none
theorem r90 {a : Addr} {v : Value} (h : W.cell? a = some v) : a.spot = none /\ ∃ cs, imW W a.block = some cs /\ cs[a.off]? = some v := by
 unfold World.cell? at h
 unfold imW
 split at h
 ·rename_i c e f hb
  split at h
  ·cases h
  ·rename_i hs
   rw [hb]
   exact ⟨by simpa using hs, c, rfl, h⟩
 ·cases h
theorem rs0 {α : Type} {n : Nat} {p : Nat -> α -> Prop} (h : ∀ i, i < n -> ∃ a, p i a) : ∃ l : List α, l.length = n /\ ∀ i (hi : i < l.length), p i l[i] := by
 induction n with
 | zero => exact ⟨[], rfl, fun i hi => by simp at hi⟩
 | succ n ih =>
  obtain ⟨l, h1, h2⟩ := ih fun i hi => h i (by omega)
  obtain ⟨a, ha⟩ := h n (by omega)
  refine ⟨l ++ [a], by simp [h1], fun i hi => ?_⟩
  by_cases e : i < l.length
  ·rw [List.getElem_append_left e]; exact h2 i e
  ·have : i = n := by simp at hi; omega
   subst this
   rw [List.getElem_append_right (by omega)]
   simpa [h1] using ha
theorem r40 {a : Addr} (h : a.spot = none) (k : Nat) : a.add k = ⟨a.block, a.off + k, none⟩ := by
 obtain ⟨b, o, s⟩ := a
 simp only at h; subst h
 unfold Addr.add
 split
 ·rename_i h0; subst h0; rfl
 ·rfl
theorem ms0 {P : Program} {α : Type} (cells : α -> List V) (Q : α -> DataW H -> Prop) {t e : TypeId} {sz : Nat} (ht : P.underlying t = some (.slice e)) (hsz : P.cellsOf e = sz) (hpos : 0 < sz)
  (hflat : ∀ a, (cells a).length = sz /\ scalars (cells a) = true) {n : Nat} (rd : ∀ cs x, DataW.trod enc P W 0 sp held n e cs = some x -> ∃ a, Q a x.1 /\ ∀ j u, (cells a)[j]? = some u -> R (imW W) Mu.bot u (cs.getD j undef))
  {cs : List Value} {x : DataW H × List MemPlace} (h : DataW.trod enc P W 0 sp held (n + 1) t cs = some x) :
  ∃ (l : List α) (v : Value), cs = [v] /\ R (imW W) Mu.bot (.lst (l.map cells)) v /\ ((x.1 = .nil /\ l = []) \/ ∃ ds rest, x.1 = .slice ds rest /\ ds.length = l.length /\ ∀ i (h1 : i < l.length) (h2 : i < ds.length), Q l[i] ds[i]) := by
 rcases DataW.trod_slice ht h with ⟨rfl, rfl⟩ | ⟨a, len, cap, elems, rest, n', hn, rfl, rfl, _, hlc, _, hlen, hel, _⟩
 ·refine ⟨[], _, rfl, ?_, .inl ⟨rfl, rfl⟩⟩
  exact .lst [] sz none 0 0 (fun _ _ => undef) rfl (Nat.le_refl _) (fun i e h => by simp at h) (fun i e j v h => by simp at h) (fun i e j v h => by simp at h)
 have : n' = n := by omega
 subst this
 subst hsz
 have key : ∀ i, i < len -> ∃ a' : α × List Value, (∃ y, elems[i]? = some y /\ Q a'.1 y.1) /\ W.cells? 0 (a.add (i * P.cellsOf e)) (P.cellsOf e) = some a'.2 /\ ∀ j u, (cells a'.1)[j]? = some u -> R (imW W) Mu.bot u (a'.2.getD j undef) := by
  intro i hi
  have h1 := hel i hi
  rw [List.getElem?_eq_getElem (show i < elems.length by omega)] at h1
  obtain ⟨cs', q1, q2⟩ := Option.bind_eq_some_iff.1 h1
  obtain ⟨b, q3, q4⟩ := rd _ _ q2
  exact ⟨(b, cs'), ⟨_, List.getElem?_eq_getElem (by omega), q3⟩, q1, q4⟩
 obtain ⟨l, hl, hp⟩ := rs0 key
 refine ⟨l.map (·.1), _, rfl, ?_, .inr ⟨elems.map (·.1), rest.map (·.1), rfl, by simp [hl, hlen], fun i h1 h2 => ?_⟩⟩
 ·have hspot : 0 < len -> a.spot = none := fun h0 => by
   obtain ⟨_, q1, _⟩ := hp 0 (by omega)
   obtain ⟨_, q2, q3⟩ := World.cells?_some q1
   have q4 := q3 0 hpos
   rw [List.getElem?_eq_getElem (by omega)] at q4
   have q5 := (r90 q4).1
   simpa [Addr.add] using q5
  refine .lst _ (P.cellsOf e) (some a) len cap (fun i j => ((l[i]?.map (·.2)).getD []).getD j undef) (by simp [hl]) hlc (fun i e' he => ?_) (fun i e' j v he hj => ?_) (fun i e' j v he hj => ?_)
  ·simp only [List.map_map, List.getElem?_map, Option.map_eq_some_iff] at he
   obtain ⟨b, _, rfl⟩ := he
   exact hflat _
  ·simp only [List.map_map, List.getElem?_map, Option.map_eq_some_iff] at he
   obtain ⟨b, hb, rfl⟩ := he
   obtain ⟨hi, rfl⟩ := List.getElem?_eq_some_iff.1 hb
   obtain ⟨_, q1, _⟩ := hp i hi
   obtain ⟨_, q2, q3⟩ := World.cells?_some q1
   have hs := hspot (by omega)
   have hjs : j < P.cellsOf e := by rw [<- (hflat l[i].1).1]; exact (List.getElem?_eq_some_iff.1 hj).1
   have q4 := q3 j hjs
   rw [List.getElem?_eq_getElem (by omega), r40 (a := a) hs, r40 rfl] at q4
   obtain ⟨_, cs, q5, q6⟩ := r90 q4
   refine ⟨a.block, a.off, cs, ?_, q5, ?_⟩
   ·obtain ⟨b, o, s⟩ := a; simp only at hs; subst hs; rfl
   ·simp only at q6
    rw [q6]
    simp [hb, List.getElem?_eq_getElem (show j < l[i].2.length by omega)]
  ·simp only [List.map_map, List.getElem?_map, Option.map_eq_some_iff] at he
   obtain ⟨b, hb, rfl⟩ := he
   obtain ⟨hi, rfl⟩ := List.getElem?_eq_some_iff.1 hb
   obtain ⟨_, _, q4⟩ := hp i hi
   have := q4 j v hj
   simpa [hb] using this
 ·obtain ⟨⟨y, q1, q2⟩, _⟩ := hp i (by simpa using h1)
  have hy : elems[i]? = some y := q1
  obtain ⟨hi, rfl⟩ := List.getElem?_eq_some_iff.1 hy
  simpa using q2
end
end Go.Am
end

section
namespace Go.Am
open Go
set_option maxRecDepth 100000
section
variable {H : Type} {enc : TypeId × Value -> H} {W : World} {sp : Nat -> Bool} {held : Bool}
theorem c31 : Go.Proofs.Tryz.prog.cellsOf 31 = 4 := by kernel_rfl
theorem c52 : Go.Proofs.Tryz.prog.cellsOf 52 = 5 := by kernel_rfl
theorem c48 : Go.Proofs.Tryz.prog.cellsOf 48 = 2 := by kernel_rfl
theorem c3 : Go.Proofs.Tryz.prog.cellsOf 3 = 1 := by kernel_rfl
theorem c9 : Go.Proofs.Tryz.prog.cellsOf 9 = 1 := by kernel_rfl
theorem c22 : Go.Proofs.Tryz.prog.cellsOf 22 = 1 := by kernel_rfl
theorem c23 : Go.Proofs.Tryz.prog.cellsOf 23 = 1 := by kernel_rfl
theorem c50 : Go.Proofs.Tryz.prog.cellsOf 50 = 1 := by kernel_rfl
theorem wf_rng {n : Int} (h : (Lit.int .i64 n).wf = true) : -9223372036854775808 <= n /\ n < 9223372036854775808 := by
 simp only [Lit.wf, Bool.and_eq_true, decide_eq_true_eq] at h
 have h1 : IntKind.i64.min = -9223372036854775808 := by decide
 have h2 : IntKind.i64.max = 9223372036854775807 := by decide
 omega
abbrev bulk (d : DataW H) : Nat := Go.Proofs.YtnkfojenfnbchaaGreatDoor.Rows.uptoBulk d
theorem r80 (d : DataW H) : 1 <= bulk d := by
 cases d with
 | lit l => cases l <;> simp [Go.Proofs.YtnkfojenfnbchaaGreatDoor.Rows.uptoBulk]
 | _ => simp [Go.Proofs.YtnkfojenfnbchaaGreatDoor.Rows.uptoBulk]
theorem k80 {α : Type} (f : α -> Nat) : ∀ (l : List α) (ds : List (DataW H)), ds.length = l.length -> (∀ i (h1 : i < l.length) (h2 : i < ds.length), f l[i] <= bulk ds[i]) -> (l.map f).sum <= Go.Proofs.YtnkfojenfnbchaaGreatDoor.Rows.uptoBulkAll ds
 | [], ds, _, _ => by simp
 | a :: l, [], h, _ => by simp at h
 | a :: l, d :: ds, h, hq => by
  have h0 : f a <= Go.Proofs.YtnkfojenfnbchaaGreatDoor.Rows.uptoBulk d := hq 0 (by simp) (by simp)
  have ih := k80 f l ds (by simpa using h) fun i h1 h2 => hq (i + 1) (by simpa using h1) (by simpa using h2)
  simp only [List.map_cons, List.sum_cons, Go.Proofs.YtnkfojenfnbchaaGreatDoor.Rows.uptoBulkAll]
  omega
theorem sG0 {α : Type} (l : List α) : (l.map fun _ => 1).sum = l.length := by
 induction l with
 | nil => rfl
 | cons a l ih => simp only [List.map_cons, List.sum_cons, List.length_cons, ih]; omega
theorem wtL_sum (l : List Val) : Val.wtL l = (l.map Val.wt).sum := by
 induction l with
 | nil => rfl
 | cons v l ih => simp [Val.wtL, ih]
def QVal (v : Val) (d : DataW H) : Prop := v.rng /\ v.wt <= bulk d
theorem rd_val : ∀ (n : Nat) (cs : List Value) (x : DataW H × List MemPlace), DataW.trod enc Go.Proofs.Tryz.prog W 0 sp held n 31 cs = some x ->
  ∃ v : Val, QVal v x.1 /\ ∀ j u, v.cells[j]? = some u -> R (imW W) Mu.bot u (cs.getD j undef) := by
 intro n
 induction n using Nat.strongRecOn with
 | _ n ih =>
 intro cs x h
 obtain ⟨xs, n1, rfl, rfl, hl, hxl, hf⟩ := DataW.trod_struct Go.Proofs.Tryz.underlying31 h
 rw [c31] at hl
 have f0 : DataW.trod enc Go.Proofs.Tryz.prog W 0 sp held n1 3 ((cs.drop 0).take (Go.Proofs.Tryz.prog.cellsOf 3)) = xs[0]? := hf 0 _ rfl
 rw [c3] at f0
 have f1 : DataW.trod enc Go.Proofs.Tryz.prog W 0 sp held n1 3 ((cs.drop 1).take (Go.Proofs.Tryz.prog.cellsOf 3)) = xs[1]? := hf 1 _ rfl
 rw [c3] at f1
 have f2 : DataW.trod enc Go.Proofs.Tryz.prog W 0 sp held n1 9 ((cs.drop 2).take (Go.Proofs.Tryz.prog.cellsOf 9)) = xs[2]? := hf 2 _ rfl
 rw [c9] at f2
 have f3 : DataW.trod enc Go.Proofs.Tryz.prog W 0 sp held n1 22 ((cs.drop 3).take (Go.Proofs.Tryz.prog.cellsOf 22)) = xs[3]? := hf 3 _ rfl
 rw [c22] at f3
 match cs, hl, xs, hxl with
 | [v0, v1, v2, v3], _, [y0, y1, y2, y3], _ =>
 simp only [List.drop, List.take, List.getElem?_cons_zero, List.getElem?_cons_succ] at f0 f1 f2 f3
 obtain ⟨k, e0, rfl, w0⟩ := DataW.trod_int Go.Proofs.Tryz.underlying3 f0
 obtain ⟨z, e1, rfl, w1⟩ := DataW.trod_int Go.Proofs.Tryz.underlying3 f1
 obtain ⟨s, e2, rfl, _⟩ := DataW.trod_string Go.Proofs.Tryz.underlying9 f2
 injection e0 with e0; injection e1 with e1; injection e2 with e2
 subst e0 e1 e2
 cases n1 with
 | zero => simp [DataW.trod] at f3
 | succ n2 =>
 obtain ⟨l, v, e3, hR, hq⟩ := ms0 Val.cells QVal Go.Proofs.Tryz.underlying22 c31 (by omega) (fun a => ⟨a.dx0, a.jd0⟩) (ih n2 (by omega)) f3
 injection e3 with e3
 subst e3
 refine ⟨.mk k z s l, ⟨?_, ?_⟩, fun j u hj => ?_⟩
 ·refine (Val.q80 _).2 ⟨wf_rng w1, (Val.jc0 _).2 fun x hx => ?_⟩
  rcases hq with ⟨_, rfl⟩ | ⟨ds, rest, hy, hlen, hQ⟩
  ·cases hx
  ·obtain ⟨i, hi, rfl⟩ := List.getElem_of_mem hx
   exact (hQ i hi (by rw [hlen]; exact hi)).1
 ·simp only [Val.wt, List.map_cons, List.map_nil, Go.Proofs.YtnkfojenfnbchaaGreatDoor.Rows.uptoBulk, Go.Proofs.YtnkfojenfnbchaaGreatDoor.Rows.uptoBulkAll]
  have hs : s.data.toList.length = s.size := Array.length_toList
  have hw : Val.wtL l <= Go.Proofs.YtnkfojenfnbchaaGreatDoor.Rows.uptoBulk y3.1 := by
   rcases hq with ⟨_, rfl⟩ | ⟨ds, rest, hy, hlen, hQ⟩
   ·simp [Val.wtL]
   ·rw [hy, wtL_sum]
    have := k80 Val.wt l ds hlen fun i h1 h2 => (hQ i h1 h2).2
    simp only [Go.Proofs.YtnkfojenfnbchaaGreatDoor.Rows.uptoBulk]
    omega
  omega
 ·rw [Val.au0] at hj
  match j, hj with
  | 0, hj => injection hj with hj; subst hj; exact .c _
  | 1, hj => injection hj with hj; subst hj; exact .c _
  | 2, hj => injection hj with hj; subst hj; exact .c _
  | 3, hj => injection hj with hj; subst hj; exact hR
  | j + 4, hj => simp at hj
def QIns (i : Ins) (d : DataW H) : Prop := True
theorem rd_ins (n : Nat) (cs : List Value) (x : DataW H × List MemPlace) (h : DataW.trod enc Go.Proofs.Tryz.prog W 0 sp held n 48 cs = some x) :
  ∃ v : Ins, QIns v x.1 /\ ∀ j u, v.cells[j]? = some u -> R (imW W) Mu.bot u (cs.getD j undef) := by
 obtain ⟨xs, n1, rfl, rfl, hl, hxl, hf⟩ := DataW.trod_struct Go.Proofs.Tryz.underlying48 h
 rw [c48] at hl
 have f0 : DataW.trod enc Go.Proofs.Tryz.prog W 0 sp held n1 3 ((cs.drop 0).take (Go.Proofs.Tryz.prog.cellsOf 3)) = xs[0]? := hf 0 _ rfl
 rw [c3] at f0
 have f1 : DataW.trod enc Go.Proofs.Tryz.prog W 0 sp held n1 3 ((cs.drop 1).take (Go.Proofs.Tryz.prog.cellsOf 3)) = xs[1]? := hf 1 _ rfl
 rw [c3] at f1
 match cs, hl, xs, hxl with
 | [v0, v1], _, [y0, y1], _ =>
 simp only [List.drop, List.take, List.getElem?_cons_zero, List.getElem?_cons_succ] at f0 f1
 obtain ⟨k, e0, rfl, w0⟩ := DataW.trod_int Go.Proofs.Tryz.underlying3 f0
 obtain ⟨z, e1, rfl, w1⟩ := DataW.trod_int Go.Proofs.Tryz.underlying3 f1
 injection e0 with e0; injection e1 with e1
 subst e0 e1
 refine ⟨⟨k, z⟩, trivial, fun j u hj => ?_⟩
 rw [Ins.au0] at hj
 match j, hj with
 | 0, hj => injection hj with hj; subst hj; exact .c _
 | 1, hj => injection hj with hj; subst hj; exact .c _
 | j + 2, hj => simp at hj
def QFnc (f : Fnc) (d : DataW H) : Prop := f.code.length <= bulk d
theorem rd_fnc (n : Nat) (cs : List Value) (x : DataW H × List MemPlace) (h : DataW.trod enc Go.Proofs.Tryz.prog W 0 sp held n 52 cs = some x) :
  ∃ v : Fnc, QFnc v x.1 /\ ∀ j u, v.cells[j]? = some u -> R (imW W) Mu.bot u (cs.getD j undef) := by
 obtain ⟨xs, n1, rfl, rfl, hl, hxl, hf⟩ := DataW.trod_struct Go.Proofs.Tryz.underlying52 h
 rw [c52] at hl
 have f0 : DataW.trod enc Go.Proofs.Tryz.prog W 0 sp held n1 3 ((cs.drop 0).take (Go.Proofs.Tryz.prog.cellsOf 3)) = xs[0]? := hf 0 _ rfl
 rw [c3] at f0
 have f1 : DataW.trod enc Go.Proofs.Tryz.prog W 0 sp held n1 3 ((cs.drop 1).take (Go.Proofs.Tryz.prog.cellsOf 3)) = xs[1]? := hf 1 _ rfl
 rw [c3] at f1
 have f2 : DataW.trod enc Go.Proofs.Tryz.prog W 0 sp held n1 3 ((cs.drop 2).take (Go.Proofs.Tryz.prog.cellsOf 3)) = xs[2]? := hf 2 _ rfl
 rw [c3] at f2
 have f3 : DataW.trod enc Go.Proofs.Tryz.prog W 0 sp held n1 3 ((cs.drop 3).take (Go.Proofs.Tryz.prog.cellsOf 3)) = xs[3]? := hf 3 _ rfl
 rw [c3] at f3
 have f4 : DataW.trod enc Go.Proofs.Tryz.prog W 0 sp held n1 50 ((cs.drop 4).take (Go.Proofs.Tryz.prog.cellsOf 50)) = xs[4]? := hf 4 _ rfl
 rw [c50] at f4
 match cs, hl, xs, hxl with
 | [v0, v1, v2, v3, v4], _, [y0, y1, y2, y3, y4], _ =>
 simp only [List.drop, List.take, List.getElem?_cons_zero, List.getElem?_cons_succ] at f0 f1 f2 f3 f4
 obtain ⟨k0, e0, rfl, w0⟩ := DataW.trod_int Go.Proofs.Tryz.underlying3 f0
 obtain ⟨k1, e1, rfl, w1⟩ := DataW.trod_int Go.Proofs.Tryz.underlying3 f1
 obtain ⟨k2, e2, rfl, w2⟩ := DataW.trod_int Go.Proofs.Tryz.underlying3 f2
 obtain ⟨k3, e3, rfl, w3⟩ := DataW.trod_int Go.Proofs.Tryz.underlying3 f3
 injection e0 with e0; injection e1 with e1; injection e2 with e2; injection e3 with e3
 subst e0 e1 e2 e3
 cases n1 with
 | zero => simp [DataW.trod] at f4
 | succ n2 =>
 obtain ⟨l, v, e4, hR, hq⟩ := ms0 Ins.cells QIns Go.Proofs.Tryz.underlying50 c48 (by omega) (fun a => ⟨a.dx0, a.jd0⟩) (rd_ins n2) f4
 injection e4 with e4
 subst e4
 refine ⟨⟨k0, k1, k2, k3, l⟩, ?_, fun j u hj => ?_⟩
 ·simp only [QFnc, List.map_cons, List.map_nil, Go.Proofs.YtnkfojenfnbchaaGreatDoor.Rows.uptoBulk, Go.Proofs.YtnkfojenfnbchaaGreatDoor.Rows.uptoBulkAll]
  have hw : l.length <= Go.Proofs.YtnkfojenfnbchaaGreatDoor.Rows.uptoBulk y4.1 := by
   rcases hq with ⟨_, rfl⟩ | ⟨ds, rest, hy, hlen, hQ⟩
   ·simp
   ·rw [hy]
    have := k80 (fun _ => 1) l ds hlen fun i h1 h2 => r80 _
    rw [sG0] at this
    simp only [Go.Proofs.YtnkfojenfnbchaaGreatDoor.Rows.uptoBulk]
    omega
  omega
 ·rw [Fnc.au0] at hj
  match j, hj with
  | 0, hj => injection hj with hj; subst hj; exact .c _
  | 1, hj => injection hj with hj; subst hj; exact .c _
  | 2, hj => injection hj with hj; subst hj; exact .c _
  | 3, hj => injection hj with hj; subst hj; exact .c _
  | 4, hj => injection hj with hj; subst hj; exact hR
  | j + 5, hj => simp at hj
end
end Go.Am
end

section
namespace Go.Am
open Go
set_option maxRecDepth 100000
section
variable {H : Type} {enc : TypeId × Value -> H} {W : World} {sp : Nat -> Bool} {held : Bool}
theorem lim_of {v : Val} : v.rng -> v.wt < 2 ^ 40 -> v.lim := by
 induction v using Val.induct with
 | h v ih =>
 intro h1 h2
 have hw := v.cB0
 have hl := Val.be0 v.list
 obtain ⟨q1, q2⟩ := v.q80.1 h1
 refine v.lim_eq.2 ⟨q1, by omega, by omega, (Val.ge0 _).2 fun x hx => ?_⟩
 have := Val.aR0 hx
 exact ih x hx ((Val.jc0 _).1 q2 x hx) (by omega)
theorem rH0 {n : Nat} {cs : List Value} {x : DataW H × List MemPlace} (h : DataW.trod enc Go.Proofs.Tryz.prog W 0 sp held n 22 cs = some x) (hb : Go.Proofs.YtnkfojenfnbchaaGreatDoor.Rows.uptoBulk x.1 < 2 ^ 40) :
  ∃ (l : List Val) (v : Value), cs = [v] /\ R (imW W) Mu.bot (ay0 l) v /\ Val.limL l /\ l.length < 2 ^ 40 := by
 cases n with
 | zero => simp [DataW.trod] at h
 | succ n =>
 obtain ⟨l, v, e3, hR, hq⟩ := ms0 Val.cells QVal Go.Proofs.Tryz.underlying22 c31 (by omega) (fun a => ⟨a.dx0, a.jd0⟩) (rd_val n) h
 have hw : Val.wtL l < 2 ^ 40 := by
  rcases hq with ⟨_, rfl⟩ | ⟨ds, rest, hy, hlen, hQ⟩
  ·show 0 < 2 ^ 40; decide
  ·rw [hy] at hb
   have := k80 Val.wt l ds hlen fun i h1 h2 => (hQ i h1 h2).2
   rw [<- wtL_sum] at this
   simp only [Go.Proofs.YtnkfojenfnbchaaGreatDoor.Rows.uptoBulk] at hb
   omega
 have hl := Val.be0 l
 refine ⟨l, v, e3, hR, (Val.ge0 _).2 fun x hx => ?_, by omega⟩
 have hxw := Val.aR0 hx
 rcases hq with ⟨_, rfl⟩ | ⟨ds, rest, hy, hlen, hQ⟩
 ·cases hx
 ·obtain ⟨i, hi, rfl⟩ := List.getElem_of_mem hx
  exact lim_of (hQ i hi (by rw [hlen]; exact hi)).1 (by omega)
theorem c25 : Go.Proofs.Tryz.prog.cellsOf 25 = 2 := by kernel_rfl
theorem c27 : Go.Proofs.Tryz.prog.cellsOf 27 = 4 := by kernel_rfl
theorem bulk_mem {d : DataW H} {l : List (DataW H)} (h : d ∈ l) : Go.Proofs.YtnkfojenfnbchaaGreatDoor.Rows.uptoBulk d <= Go.Proofs.YtnkfojenfnbchaaGreatDoor.Rows.uptoBulkAll l := by
 induction l with
 | nil => cases h
 | cons x r ih =>
  simp only [Go.Proofs.YtnkfojenfnbchaaGreatDoor.Rows.uptoBulkAll]
  rcases List.mem_cons.1 h with rfl | e
  ·omega
  ·have := ih e; omega
theorem rd_mdl {n : Nat} {cs : List Value} {x : DataW H × List MemPlace} (h : DataW.trod enc Go.Proofs.Tryz.prog W 0 sp held n 25 cs = some x) (hb : Go.Proofs.YtnkfojenfnbchaaGreatDoor.Rows.uptoBulk x.1 < 2 ^ 40) :
  ∃ (m : Mdl) (v0 v1 : Value), cs = [v0, v1] /\ R (imW W) Mu.bot m.V (.agg #[v0, v1]) /\ m.sm /\ Val.limL m.consts := by
 obtain ⟨xs, n1, rfl, rfl, hl, hxl, hf⟩ := DataW.trod_struct Go.Proofs.Tryz.underlying25 h
 rw [c25] at hl
 have f0 : DataW.trod enc Go.Proofs.Tryz.prog W 0 sp held n1 22 ((cs.drop 0).take (Go.Proofs.Tryz.prog.cellsOf 22)) = xs[0]? := hf 0 _ rfl
 have f1 : DataW.trod enc Go.Proofs.Tryz.prog W 0 sp held n1 23 ((cs.drop 1).take (Go.Proofs.Tryz.prog.cellsOf 23)) = xs[1]? := hf 1 _ rfl
 rw [c22] at f0
 rw [c23] at f1
 match cs, hl, xs, hxl with
 | [v0, v1], _, [y0, y1], _ =>
 simp only [List.drop, List.take, List.getElem?_cons_zero, List.getElem?_cons_succ] at f0 f1
 simp only [List.map_cons, List.map_nil, Go.Proofs.YtnkfojenfnbchaaGreatDoor.Rows.uptoBulk, Go.Proofs.YtnkfojenfnbchaaGreatDoor.Rows.uptoBulkAll] at hb
 obtain ⟨l, v, e0, hR0, hlim, hlen⟩ := rH0 f0 (by omega)
 injection e0 with e0; subst e0
 cases n1 with
 | zero => simp [DataW.trod] at f1
 | succ n2 =>
 obtain ⟨fl, v, e1, hR1, hq⟩ := ms0 Fnc.cells QFnc Go.Proofs.Tryz.underlying23 c52 (by omega) (fun a => ⟨a.dx0, a.jd0⟩) (rd_fnc n2) f1
 injection e1 with e1; subst e1
 refine ⟨⟨l, fl⟩, _, _, rfl, .agg _ _ rfl fun j u hj => ?_, ⟨hlen, ?_, fun f hf => ?_⟩, hlim⟩
 ·match j, hj with
  | 0, hj => injection hj with hj; subst hj; exact hR0
  | 1, hj => injection hj with hj; subst hj; exact hR1
  | j + 2, hj => simp at hj
 ·rcases hq with ⟨_, rfl⟩ | ⟨ds, rest, hy, hlen, hQ⟩
  ·show 0 < 2 ^ 40; decide
  ·have := k80 (fun _ => 1) fl ds hlen fun i h1 h2 => r80 _
   rw [sG0] at this
   rw [hy] at hb
   simp only [Go.Proofs.YtnkfojenfnbchaaGreatDoor.Rows.uptoBulk] at hb
   show fl.length < 2 ^ 40
   omega
 ·rcases hq with ⟨_, rfl⟩ | ⟨ds, rest, hy, hlen, hQ⟩
  ·cases hf
  ·have hf : f ∈ fl := hf
   obtain ⟨i, hi, rfl⟩ := List.getElem_of_mem hf
   have h1 := hQ i hi (by rw [hlen]; exact hi)
   have h2 := bulk_mem (List.getElem_mem (show i < ds.length by rw [hlen]; exact hi))
   have h3 : fl[i].code.length <= Go.Proofs.YtnkfojenfnbchaaGreatDoor.Rows.uptoBulk ds[i] := h1
   rw [hy] at hb
   simp only [Go.Proofs.YtnkfojenfnbchaaGreatDoor.Rows.uptoBulk] at hb
   show fl[i].code.length < 2 ^ 40
   omega
theorem rd_from {n : Nat} {cs : List Value} {x : DataW H × List MemPlace} (h : DataW.trod enc Go.Proofs.Tryz.prog W 0 sp held n 27 cs = some x) (hb : Go.Proofs.YtnkfojenfnbchaaGreatDoor.Rows.uptoBulk x.1 < 2 ^ 40) :
  ∃ (a b : List Val) (k f : Int) (v0 v1 v2 v3 : Value), cs = [v0, v1, v2, v3] /\ R (imW W) Mu.bot (.agg [ay0 a, ay0 b, vI k, vI f]) (.agg #[v0, v1, v2, v3]) /\ Val.limL a /\ Val.limL b /\ a.length < 2 ^ 40 /\ b.length < 2 ^ 40 := by
 obtain ⟨xs, n1, rfl, rfl, hl, hxl, hf⟩ := DataW.trod_struct Go.Proofs.Tryz.underlying27 h
 rw [c27] at hl
 have f0 : DataW.trod enc Go.Proofs.Tryz.prog W 0 sp held n1 22 ((cs.drop 0).take (Go.Proofs.Tryz.prog.cellsOf 22)) = xs[0]? := hf 0 _ rfl
 have f1 : DataW.trod enc Go.Proofs.Tryz.prog W 0 sp held n1 22 ((cs.drop 1).take (Go.Proofs.Tryz.prog.cellsOf 22)) = xs[1]? := hf 1 _ rfl
 have f2 : DataW.trod enc Go.Proofs.Tryz.prog W 0 sp held n1 3 ((cs.drop 2).take (Go.Proofs.Tryz.prog.cellsOf 3)) = xs[2]? := hf 2 _ rfl
 have f3 : DataW.trod enc Go.Proofs.Tryz.prog W 0 sp held n1 3 ((cs.drop 3).take (Go.Proofs.Tryz.prog.cellsOf 3)) = xs[3]? := hf 3 _ rfl
 rw [c22] at f0 f1
 rw [c3] at f2 f3
 match cs, hl, xs, hxl with
 | [v0, v1, v2, v3], _, [y0, y1, y2, y3], _ =>
 simp only [List.drop, List.take, List.getElem?_cons_zero, List.getElem?_cons_succ] at f0 f1 f2 f3
 simp only [List.map_cons, List.map_nil, Go.Proofs.YtnkfojenfnbchaaGreatDoor.Rows.uptoBulk, Go.Proofs.YtnkfojenfnbchaaGreatDoor.Rows.uptoBulkAll] at hb
 obtain ⟨a, v, e0, hR0, hl0, hn0⟩ := rH0 f0 (by omega)
 obtain ⟨b, v', e1, hR1, hl1, hn1⟩ := rH0 f1 (by omega)
 obtain ⟨k, e2, rfl, w2⟩ := DataW.trod_int Go.Proofs.Tryz.underlying3 f2
 obtain ⟨f, e3, rfl, w3⟩ := DataW.trod_int Go.Proofs.Tryz.underlying3 f3
 injection e0 with e0; injection e1 with e1; injection e2 with e2; injection e3 with e3
 subst e0 e1 e2 e3
 refine ⟨a, b, k, f, _, _, _, _, rfl, .agg _ _ rfl fun j u hj => ?_, hl0, hl1, hn0, hn1⟩
 match j, hj with
 | 0, hj => injection hj with hj; subst hj; exact hR0
 | 1, hj => injection hj with hj; subst hj; exact hR1
 | 2, hj => injection hj with hj; subst hj; exact .c _
 | 3, hj => injection hj with hj; subst hj; exact .c _
 | j + 4, hj => simp at hj
theorem wd_imW (hl : ∀ p ∈ rA0, imW W p.1 = some p.2) : Wd (imW W) Mu.bot (hpE 0 []) W := by
 refine ⟨fun i o h => absurd h (by simp [hpE]), fun i j oi oj bi bj h => absurd h (by simp [hpE]), fun b cs h => ?_, hl⟩
 unfold imW at h
 split at h
 ·rename_i c t f hb
  injection h with h; subst h
  exact ⟨t, f, hb⟩
 ·cases h
end
end Go.Am
end

section
namespace Go.Am
theorem sd0 (a b : Int) : cmpI a b = -cmpI b a := by unfold cmpI; repeat' split <;> omega
theorem cmpI_lt (a b : Int) : cmpI a b < 0 ↔ a < b := by unfold cmpI; repeat' split <;> omega
theorem sc0 : ∀ a b : List UInt8, Lib.compareBytes a b = -Lib.compareBytes b a
 | [], [] => by simp [Lib.compareBytes]
 | [], _ :: _ => by simp [Lib.compareBytes]
 | _ :: _, [] => by simp [Lib.compareBytes]
 | x :: xs, y :: ys => by
  have ih := sc0 xs ys
  rw [Lib.compareBytes, Lib.compareBytes]
  simp only [UInt8.lt_iff_toNat_lt]
  (repeat' split) <;> omega
theorem oL0 : ∀ a b c : List UInt8, Lib.compareBytes a b < 0 -> Lib.compareBytes b c < 0 -> Lib.compareBytes a c < 0
 | [], [], _, h, _ => by simp [Lib.compareBytes] at h
 | [], _ :: _, [], _, h => by simp [Lib.compareBytes] at h
 | [], _ :: _, _ :: _, _, _ => by simp [Lib.compareBytes]
 | _ :: _, [], _, h, _ => by simp [Lib.compareBytes] at h
 | _ :: _, _ :: _, [], _, h => by simp [Lib.compareBytes] at h
 | x :: xs, y :: ys, z :: zs, h, h' => by
  have ih := oL0 xs ys zs
  rw [Lib.compareBytes] at h h' ⊢
  simp only [UInt8.lt_iff_toNat_lt] at h h' ⊢
  by_cases c1 : x.toNat < y.toNat
  ·by_cases c3 : y.toNat < z.toNat
   ·rw [if_pos (by omega)]; decide
   ·rw [if_neg c3] at h'
    by_cases c4 : z.toNat < y.toNat
    ·rw [if_pos c4] at h'; omega
    ·rw [if_pos (by omega)]; decide
  ·rw [if_neg c1] at h
   by_cases c2 : y.toNat < x.toNat
   ·rw [if_pos c2] at h; omega
   ·rw [if_neg c2] at h
    by_cases c3 : y.toNat < z.toNat
    ·rw [if_pos (by omega)]; decide
    ·rw [if_neg c3] at h'
     by_cases c4 : z.toNat < y.toNat
     ·rw [if_pos c4] at h'; omega
     ·rw [if_neg c4] at h'
      rw [if_neg (by omega), if_neg (by omega)]; exact ih h h'
theorem qp0 (f : Val -> Val -> Int) : ∀ a b : List Val, (∀ x ∈ a, ∀ y ∈ b, f x y = -f y x) -> b70 f a b = -b70 f b a
 | [], [], _ => by simp [b70]
 | [], _ :: _, _ => by simp [b70]
 | _ :: _, [], _ => by simp [b70]
 | x :: xs, y :: ys, h => by
  have h0 := h x (by simp) y (by simp)
  have ih := qp0 f xs ys fun a ha b hb => h a (by simp [ha]) b (by simp [hb])
  rw [b70, b70]
  by_cases e : f y x = 0
  ·simp [h0, e, ih]
  ·have : f x y ≠ 0 := by omega
   simp [this, e]; omega
theorem mI0 (f : Val -> Val -> Int) (hz : ∀ x y, f x y = 0 -> x = y) : ∀ a b c : List Val, (∀ x ∈ a, ∀ y z, f x y < 0 -> f y z < 0 -> f x z < 0) -> b70 f a b < 0 -> b70 f b c < 0 -> b70 f a c < 0
 | [], [], _, _, h, _ => by simp [b70] at h
 | [], _ :: _, [], _, _, h => by simp [b70] at h
 | [], _ :: _, _ :: _, _, _, _ => by simp [b70]
 | _ :: _, [], _, _, h, _ => by simp [b70] at h
 | _ :: _, _ :: _, [], _, _, h => by simp [b70] at h
 | x :: xs, y :: ys, z :: zs, ht, h, h' => by
  have ih := mI0 f hz xs ys zs fun a ha => ht a (by simp [ha])
  have h0 := ht x (by simp) y z
  rw [b70] at h h' ⊢
  by_cases e1 : f x y = 0
  ·have := hz _ _ e1; subst this
   rw [if_neg (by simpa using e1)] at h
   by_cases e2 : f x z = 0
   ·rw [if_neg (by simpa using e2)] at h' ⊢; exact ih h h'
   ·rw [if_pos e2] at h' ⊢; exact h'
  ·rw [if_pos e1] at h
   by_cases e2 : f y z = 0
   ·have := hz _ _ e2; subst this
    rw [if_pos e1]; exact h
   ·rw [if_pos e2] at h'
    have := h0 h h'
    rw [if_pos (by omega)]; exact this
theorem orI4_neg (a b c d : Int) : orI [-a, -b, -c, -d] = -orI [a, b, c, d] := by
 simp only [orI]; repeat' split <;> omega
theorem Val.pa0 (v : Val) : ∀ u : Val, v.cmp u = -u.cmp v := by
 induction v using Val.induct with
 | h v ih =>
 intro u
 rw [Val.cmp_eq, Val.cmp_eq, Val.cmpL_eq, Val.cmpL_eq, <- orI4_neg, sd0 v.kind, sd0 v.num, sc0 v.text.data.toList, qp0 _ v.list u.list fun x hx y _ => ih x hx y]
theorem orI4_lt (a b c d : Int) : orI [a, b, c, d] < 0 ↔ a < 0 \/ a = 0 /\ (b < 0 \/ b = 0 /\ (c < 0 \/ c = 0 /\ d < 0)) := by
 simp only [orI]; repeat' split <;> omega
theorem qo0 {a b : ByteArray} : Lib.compareBytes a.data.toList b.data.toList = 0 ↔ a = b := by
 rw [cmpS]
 by_cases h : a = b
 ·simp [h]
 ·by_cases h2 : ltS a b <;> simp [h, h2]
theorem Val.im0 (v : Val) : ∀ u w : Val, v.cmp u < 0 -> u.cmp w < 0 -> v.cmp w < 0 := by
 induction v using Val.induct with
 | h v ih =>
 intro u w h h'
 have hl := mI0 Val.cmp (fun x y => (Val.c90 x y).1) v.list u.list w.list ih
 have hb := oL0 v.text.data.toList u.text.data.toList w.text.data.toList
 rw [Val.cmp_eq, Val.cmpL_eq, orI4_lt] at h h' ⊢
 simp only [cmpI_lt, mG0] at h h' ⊢
 rcases h with h | ⟨h1, h⟩
 ·rcases h' with h' | ⟨h1', h'⟩
  ·exact .inl (by omega)
  ·exact .inl (by omega)
 rcases h' with h' | ⟨h1', h'⟩
 ·exact .inl (by omega)
 refine .inr ⟨by omega, ?_⟩
 rcases h with h | ⟨h2, h⟩
 ·rcases h' with h' | ⟨h2', h'⟩
  ·exact .inl (by omega)
  ·exact .inl (by omega)
 rcases h' with h' | ⟨h2', h'⟩
 ·exact .inl (by omega)
 refine .inr ⟨by omega, ?_⟩
 rcases h with h | ⟨h3, h⟩
 ·rcases h' with h' | ⟨h3', h'⟩
  ·exact .inl (hb h h')
  ·rw [qo0] at h3'; rw [<- h3']; exact .inl h
 rw [qo0] at h3
 rw [h3]
 rcases h' with h' | ⟨h3', h'⟩
 ·exact .inl h'
 ·exact .inr ⟨h3', hl h h'⟩
def hdLt (a : Val) : List Val -> Bool
 | [] => true
 | z :: _ => decide (a.cmp z < 0)
theorem bV0 (a b : Val) (l : List Val) : rise (a :: b :: l) = (hdLt a l && rise l) := by
 cases l <;> simp [rise, hdLt]
theorem dd0 (k : Val) : ∀ (l : List Val) (i : Nat), aD0 k l i = (i + (aD0 k l 0).1, (aD0 k l 0).2)
 | [], i => by simp [aD0]
 | [_], i => by simp [aD0]
 | x :: y :: l, i => by
  rw [aD0, aD0]
  by_cases h : x.cmp k >= 0
  ·simp [h]
  ·rw [if_neg h, if_neg h, dd0 k l (i + 2), dd0 k l (0 + 2)]
   simp; omega
theorem hdLt_ins (a k x : Val) : ∀ (l : List Val) (j : Nat), hdLt a l = true -> a.cmp k < 0 -> hdLt a (l.take j ++ k :: x :: l.drop j) = true
 | [], j, _, h => by simp [hdLt, h]
 | c :: l, 0, _, h => by simp [hdLt, h]
 | c :: l, j + 1, hc, _ => by simpa [hdLt] using hc
theorem sz0 (k x : Val) : ∀ (l : List Val), rise l = true -> l.length % 2 = 0 -> (aD0 k l 0).2 = false -> rise (l.take (aD0 k l 0).1 ++ k :: x :: l.drop (aD0 k l 0).1) = true
 | [], _, _, _ => by simp [aD0, rise]
 | [_], _, h, _ => by simp at h
 | a :: b :: l, hr, he, hf => by
  rw [bV0, Bool.and_eq_true] at hr
  rw [aD0] at hf ⊢
  by_cases h : a.cmp k >= 0
  ·rw [if_pos h] at hf ⊢
   simp only at hf
   have hne : a.cmp k ≠ 0 := by simpa using hf
   have hn := Val.pa0 k a
   simp only [List.take_zero, List.drop_zero, List.nil_append]
   rw [bV0, bV0]
   have hlt : k.cmp a < 0 := by omega
   have h2 : hdLt k (a :: b :: l) = true := by simp [hdLt, hlt]
   rw [h2, hr.1, hr.2]; rfl
  ·rw [if_neg h] at hf ⊢
   rw [dd0 k l (0 + 2)] at hf ⊢
   have ih := sz0 k x l hr.2 (by simp at he; omega) hf
   simp only [Nat.zero_add, show 2 + (aD0 k l 0).1 = (aD0 k l 0).1 + 1 + 1 by omega, List.take_succ_cons, List.drop_succ_cons, List.cons_append]
   rw [bV0, ih, hdLt_ins a k x l _ hr.1 (by omega)]; rfl
theorem hdLt_del (a : Val) : ∀ (l : List Val) (j : Nat), hdLt a l = true -> rise l = true -> l.length % 2 = 0 -> hdLt a (l.take j ++ l.drop (j + 2)) = true
 | [], j, _, _, _ => by simp [hdLt]
 | [_], j, _, _, h => by simp at h
 | c :: d :: l, 0, hc, hr, _ => by
  rw [bV0, Bool.and_eq_true] at hr
  simp [hdLt] at hc
  simp
  cases l with
  | nil => rfl
  | cons e l => simp [hdLt] at hr ⊢; exact Val.im0 _ _ _ hc hr.1
 | c :: d :: l, j + 1, hc, _, _ => by simpa [hdLt] using hc
theorem sy0 (k : Val) : ∀ (l : List Val), rise l = true -> l.length % 2 = 0 -> (aD0 k l 0).2 = true -> rise (l.take (aD0 k l 0).1 ++ l.drop ((aD0 k l 0).1 + 2)) = true
 | [], _, _, h => by simp [aD0] at h
 | [_], _, h, _ => by simp at h
 | a :: b :: l, hr, he, hf => by
  have hr0 := hr
  rw [bV0, Bool.and_eq_true] at hr
  rw [aD0] at hf ⊢
  by_cases h : a.cmp k >= 0
  ·rw [if_pos h]
   simpa using hr.2
  ·rw [if_neg h] at hf ⊢
   rw [dd0 k l (0 + 2)] at hf ⊢
   have ih := sy0 k l hr.2 (by simp at he; omega) hf
   simp only [Nat.zero_add, show 2 + (aD0 k l 0).1 = (aD0 k l 0).1 + 1 + 1 by omega, show (aD0 k l 0).1 + 1 + 1 + 2 = (aD0 k l 0).1 + 2 + 1 + 1 by omega, List.take_succ_cons, List.drop_succ_cons, List.cons_append]
   rw [bV0, ih, hdLt_del a l _ hr.1 hr.2 (by simp at he; omega)]; rfl
theorem sA0 (k x : Val) : ∀ (l : List Val), rise l = true -> (aD0 k l 0).2 = true -> rise (l.set ((aD0 k l 0).1 + 1) x) = true
 | [], _, h => by simp [aD0] at h
 | [_], _, h => by simp [aD0] at h
 | a :: b :: l, hr, hf => by
  rw [bV0, Bool.and_eq_true] at hr
  rw [aD0] at hf ⊢
  by_cases h : a.cmp k >= 0
  ·rw [if_pos h]
   simp only [Nat.zero_add, List.set_cons_succ, List.set_cons_zero]
   rw [bV0, hr.1, hr.2]; rfl
  ·rw [if_neg h] at hf ⊢
   rw [dd0 k l (0 + 2)] at hf ⊢
   have ih := sA0 k x l hr.2 hf
   simp only [Nat.zero_add, show 2 + (aD0 k l 0).1 + 1 = (aD0 k l 0).1 + 1 + 1 + 1 by omega, List.set_cons_succ]
   rw [bV0, ih]
   have : hdLt a (l.set ((aD0 k l 0).1 + 1) x) = hdLt a l := by cases l <;> simp [hdLt]
   rw [this, hr.1]; rfl
end Go.Am
end

section
namespace Go.Am
theorem pR0 (n : Int) : (Val.int n).sound = true := by simp [Val.aY0, Val.int, Val.kind, Val.text, Val.list]
theorem k70 (b : Bool) : (Val.bool b).sound = true := by cases b <;> simp [Val.aY0, Val.bool, Val.kind, Val.num, Val.text, Val.list]
theorem snd_str {s : ByteArray} (h : s.size <= 256) : (Val.str s).sound = true := by simp [Val.aY0, Val.str, Val.kind, Val.num, Val.text, Val.list, h]
theorem snd_elem {v x : Val} (h : v.sound = true) (hx : x ∈ v.list) : x.sound = true := by
 rw [Val.aY0] at h
 have nil : v.list.length = 0 -> False := fun e => by rw [List.length_eq_zero_iff] at e; rw [e] at hx; cases hx
 repeat' split at h
 all_goals try simp only [Bool.and_eq_true, decide_eq_true_eq, List.all_eq_true] at h
 ·exact (nil h.2).elim
 ·exact (nil h.1.2).elim
 ·exact (nil h.1.2).elim
 ·exact h.1.2 x hx
 ·exact h.1.2 x hx
 ·cases h
theorem sE0 {v : Val} (h : v.sound = true) (hk : v.kind = 4) : v.num = 0 /\ v.text = noS /\ (∀ x ∈ v.list, x.sound = true) /\ v.list.length <= 64 := by
 rw [Val.aY0] at h
 simp [hk] at h
 exact ⟨h.1.1.1, h.1.1.2, h.1.2, h.2⟩
theorem ns0 {v : Val} (hk : v.kind = 4) (h1 : v.num = 0) (h2 : v.text = noS) (h3 : ∀ x ∈ v.list, x.sound = true) (h4 : v.list.length <= 64) : v.sound = true := by
 rw [Val.aY0]
 simp [hk, h1, h2, h4]
 exact h3
theorem rV0 {v : Val} (h : v.sound = true) (hk : v.kind = 5) : v.num = 0 /\ v.text = noS /\ (∀ x ∈ v.list, x.sound = true) /\ rise v.list = true /\ v.list.length % 2 = 0 /\ v.list.length <= 128 := by
 rw [Val.aY0] at h
 simp [hk] at h
 exact ⟨h.1.1.1, h.1.1.2, h.1.2, h.2.1.1, h.2.1.2, h.2.2⟩
theorem lK0 {v : Val} (hk : v.kind = 5) (h1 : v.num = 0) (h2 : v.text = noS) (h3 : ∀ x ∈ v.list, x.sound = true) (h4 : rise v.list = true) (h5 : v.list.length % 2 = 0) (h6 : v.list.length <= 128) : v.sound = true := by
 rw [Val.aY0]
 simp [hk, h1, h2, h4, h5, h6]
 exact h3
theorem hT0 {v : Val} (h : v.sound = true) (h0 : (bounded v).2 = 0) : (bounded v).1.sound = true := by
 unfold bounded at h0 ⊢
 split
 ·rename_i hc; rw [if_pos hc] at h0; cases h0
 ·exact h
theorem snd_neg {v : Val} (h0 : v.neg.2 = 0) : v.neg.1.sound = true := by
 unfold Val.neg at h0 ⊢
 split
 ·rename_i hc; rw [if_pos hc] at h0; cases h0
 rename_i hc; rw [if_neg hc] at h0
 split
 ·rename_i hc; rw [if_pos hc] at h0; cases h0
 ·exact pR0 _
theorem snd_bin {op : Int} {a b : Val} (h0 : (Val.bin op a b).2 = 0) : (Val.bin op a b).1.sound = true := by
 unfold Val.bin at h0 ⊢
 by_cases c1 : op = 3
 ·rw [if_pos c1]; exact k70 _
 rw [if_neg c1] at h0 ⊢
 by_cases c2 : op = 4
 ·rw [if_pos c2]; exact k70 _
 rw [if_neg c2] at h0 ⊢
 by_cases c3 : a.kind ≠ b.kind \/ (a.kind ≠ 1 /\ a.kind ≠ 3)
 ·rw [if_pos c3] at h0; cases h0
 rw [if_neg c3] at h0 ⊢
 by_cases c4 : 5 <= op /\ op <= 8
 ·rw [if_pos c4]; exact k70 _
 rw [if_neg c4] at h0 ⊢
 by_cases c5 : a.kind = 3 /\ op = 9
 ·rw [if_pos c5] at h0 ⊢
  by_cases c6 : (a.text.size : Int) + b.text.size > 256
  ·rw [if_pos c6] at h0; cases h0
  ·rw [if_neg c6]; exact snd_str (by rw [ByteArray.size_append]; omega)
 rw [if_neg c5] at h0 ⊢
 by_cases c6 : a.kind = 3 \/ op < 9 \/ 13 < op
 ·rw [if_pos c6] at h0; cases h0
 rw [if_neg c6] at h0 ⊢
 by_cases c7 : (arith op a.num b.num).2 ≠ 0
 ·rw [if_pos c7] at h0; exact absurd h0 c7
 ·rw [if_neg c7]; exact pR0 _
theorem snd_at {v k : Val} (hv : v.sound = true) (h0 : (v.at k).2 = 0) : (v.at k).1.sound = true := by
 have get : ∀ i, i < v.list.length -> (v.list.getD i Val.zero).sound = true := fun i hi => by
  rw [List.getD_eq_getElem?_getD, List.getElem?_eq_getElem hi]; exact snd_elem hv (List.getElem_mem hi)
 unfold Val.at at h0 ⊢
 by_cases c1 : v.kind = 4 /\ k.kind = 1
 ·rw [if_pos c1] at h0 ⊢
  by_cases c2 : k.num < 0 \/ (v.list.length : Int) <= k.num
  ·rw [if_pos c2] at h0; cases h0
  ·rw [if_neg c2]; exact get _ (by omega)
 rw [if_neg c1] at h0 ⊢
 by_cases c2 : v.kind = 5
 ·rw [if_pos c2] at h0 ⊢
  by_cases c3 : (aD0 k v.list 0).2 = true
  ·rw [if_pos c3]; exact get _ (by have := (dJ0 k v.list 0).2 c3; omega)
  ·rw [if_neg c3] at h0; cases h0
 ·rw [if_neg c2] at h0; cases h0
theorem snd_push {v x : Val} (hv : v.sound = true) (hx : x.sound = true) (h0 : (v.push x).2 = 0) : (v.push x).1.sound = true := by
 unfold Val.push at h0 ⊢
 by_cases c1 : v.kind = 4
 ·rw [if_pos c1] at h0 ⊢
  by_cases c2 : (v.list.length : Int) >= 64
  ·rw [if_pos c2] at h0; cases h0
  ·rw [if_neg c2] at h0 ⊢
   obtain ⟨h1, h2, h3, h4⟩ := sE0 hv c1
   refine hT0 (ns0 c1 h1 h2 (fun y hy => ?_) (by rw [Val.ed0]; simp; omega)) h0
   rw [Val.ed0] at hy
   simp at hy
   rcases hy with hy | rfl
   ·exact h3 y hy
   ·exact hx
 ·rw [if_neg c1] at h0; cases h0
theorem snd_put {v k x : Val} (hv : v.sound = true) (hk : k.sound = true) (hx : x.sound = true) (h0 : (v.put k x).2 = 0) : (v.put k x).1.sound = true := by
 have hset : ∀ i, (∀ x ∈ v.list, x.sound = true) -> ∀ y ∈ v.list.set i x, y.sound = true := fun i h y hy => by
  rcases List.mem_or_eq_of_mem_set hy with h' | rfl
  ·exact h y h'
  ·exact hx
 unfold Val.put at h0 ⊢
 by_cases c1 : v.kind = 4 /\ k.kind = 1
 ·rw [if_pos c1] at h0 ⊢
  by_cases c2 : k.num < 0 \/ (v.list.length : Int) <= k.num
  ·rw [if_pos c2] at h0; cases h0
  ·rw [if_neg c2] at h0 ⊢
   obtain ⟨h1, h2, h3, h4⟩ := sE0 hv c1.1
   exact hT0 (ns0 c1.1 h1 h2 (hset _ h3) (by rw [Val.ed0]; simpa using h4)) h0
 rw [if_neg c1] at h0 ⊢
 by_cases c2 : v.kind = 5
 ·rw [if_pos c2] at h0 ⊢
  obtain ⟨h1, h2, h3, h4, h5, h6⟩ := rV0 hv c2
  by_cases c3 : (aD0 k v.list 0).2 = true
  ·rw [if_pos c3] at h0 ⊢
   exact hT0 (lK0 c2 h1 h2 (hset _ h3) (sA0 k x _ h4 c3) (by rw [Val.ed0]; simpa using h5) (by rw [Val.ed0]; simpa using h6)) h0
  ·rw [if_neg c3] at h0 ⊢
   by_cases c4 : (v.list.length : Int) >= 128
   ·rw [if_pos c4] at h0; cases h0
   ·rw [if_neg c4] at h0 ⊢
    have hle := (dJ0 k v.list 0).1
    have hlen : (v.list.take (aD0 k v.list 0).1 ++ (k :: x :: v.list.drop (aD0 k v.list 0).1)).length = v.list.length + 2 := by simp; omega
    refine hT0 (lK0 c2 h1 h2 (fun y hy => ?_) (sz0 k x _ h4 h5 (by simpa using c3)) (by rw [Val.ed0, hlen]; omega) (by rw [Val.ed0, hlen]; omega)) h0
    rw [Val.ed0] at hy
    simp only [List.mem_append, List.mem_cons] at hy
    rcases hy with h | rfl | rfl | h
    ·exact h3 y (List.mem_of_mem_take h)
    ·exact hk
    ·exact hx
    ·exact h3 y (List.mem_of_mem_drop h)
 ·rw [if_neg c2] at h0; cases h0
theorem snd_del {v k : Val} (hv : v.sound = true) (h0 : (v.del k).2 = 0) : (v.del k).1.sound = true := by
 unfold Val.del at h0 ⊢
 by_cases c2 : v.kind = 5
 ·rw [if_pos c2] at h0 ⊢
  obtain ⟨h1, h2, h3, h4, h5, h6⟩ := rV0 hv c2
  by_cases c3 : (aD0 k v.list 0).2 = true
  ·have hlt := (dJ0 k v.list 0).2 c3
   have hlen : (v.list.take (aD0 k v.list 0).1 ++ v.list.drop ((aD0 k v.list 0).1 + 2)).length = v.list.length - 2 := by simp; omega
   simp only [c3, if_true]
   refine lK0 c2 h1 h2 (fun y hy => ?_) (sy0 k _ h4 h5 c3) (by rw [Val.ed0, hlen]; omega) (by rw [Val.ed0, hlen]; omega)
   rw [Val.ed0] at hy
   simp only [List.mem_append] at hy
   rcases hy with h | h
   ·exact h3 y (List.mem_of_mem_take h)
   ·exact h3 y (List.mem_of_mem_drop h)
  ·simp only [c3]; exact hv
 ·rw [if_neg c2] at h0; cases h0
theorem itoaB_256 {n : Int} (h1 : -9223372036854775808 <= n) (h2 : n < 9223372036854775808) : (qO0 n).size <= 256 := by
 show (Lib.itoa n).toArray.size <= 256
 unfold Lib.itoa
 split
 ·have := qr0 19 n.natAbs (by omega)
  simp; omega
 ·have := qr0 19 n.toNat (by omega)
  simp; omega
theorem snd_strv {v : Val} (hv : v.ok) (h0 : v.strv.2 = 0) : v.strv.1.sound = true := by
 unfold Val.strv at h0 ⊢
 by_cases c : v.kind ≠ 1
 ·rw [if_pos c] at h0; cases h0
 ·rw [if_neg c]; exact snd_str (itoaB_256 hv.num.1 hv.num.2)
theorem mk1_snd {op a : Int} {vs : List Val} {r : Val × Int} (h : mk1 op a vs = some r) (h0 : r.2 = 0) (hv : ∀ v ∈ vs, v.ok /\ v.sound = true) : r.1.sound = true := by
 match vs, h, hv with
 | [], h, _ => cases h
 | [x], h, hv =>
  have hx := hv x (by simp)
  unfold mk1 at h; simp only at h
  repeat' split at h
  all_goals first
   | (injection h with h; subst h; first | exact snd_neg h0 | exact k70 _ | exact pR0 _ | exact snd_strv hx.1 h0 | (simp at h0; done))
   | cases h
 | [x, y], h, hv =>
  have hx := hv x (by simp)
  have hy := hv y (by simp)
  unfold mk1 at h; simp only at h
  repeat' split at h
  all_goals first
   | (injection h with h; subst h; first | exact snd_bin h0 | exact k70 _ | exact snd_at hx.2 h0 | exact snd_push hx.2 hy.2 h0 | exact snd_del hx.2 h0)
   | cases h
 | [x, y, z], h, hv =>
  have hx := hv x (by simp)
  have hy := hv y (by simp)
  have hz := hv z (by simp)
  unfold mk1 at h; simp only at h
  repeat' split at h
  all_goals first
   | (injection h with h; subst h; exact snd_put hx.2 hy.2 hz.2 h0)
   | cases h
 | _ :: _ :: _ :: _ :: _, h, _ => cases h
def Val.good (v : Val) : Prop := v.ok /\ v.sound = true
theorem dl0 : Keeps Val.good := ⟨fun v h => pB0.ok v h.1, ⟨pB0.int0, pR0 0⟩, fun op a vs r h h0 hv => ⟨mk1_ok h fun v hm => (hv v hm).1, mk1_snd h h0 hv⟩⟩
theorem snd_const {v : Val} (h : v.tyc ≠ []) : v.sound = true := by
 unfold Val.tyc at h
 by_cases c : v.list = [] /\ v.wt <= 16384
 case neg => rw [if_neg c] at h; exact absurd rfl h
 rw [if_pos c] at h
 cases hf : tyK.find? v.fitK with
 | none => rw [hf] at h; exact absurd rfl h
 | some t =>
  have h1 := List.find?_some hf
  have h2 := List.mem_of_find?_eq_some hf
  have hn : (litS [] : ByteArray) = noS := rfl
  simp [tyK] at h2
  rw [Val.aY0]
  rcases h2 with rfl | rfl | rfl | rfl | rfl <;> simp [Val.fitK, hn] at h1 <;> simp [h1, c.1, rise] <;> omega
end Go.Am
end

section
namespace Go.Am
set_option maxRecDepth 100000
attribute [local irreducible] vc vcIs vcI vcOp vcD vcDp vcDR vcT vcAR bp0 aK0 panD neG ne pv J bm0 bl0 bt0 aS0 evK evsK nthK objK boxK rowK bg0 intK strK aggK fnK ifcK aw0 at0 ldK ldaK iaK srcK stK appK appD bv0 pvK br0 aF0 bk0
theorem lh0.imp {P Q : Val -> Prop} {st fuel : Int} {out : Out} (hpq : ∀ v, P v -> Q v) (h : lh0 P st fuel out) : lh0 Q st fuel out := by
 cases out with
 | val v sts fu => obtain ⟨q1, q2, q3⟩ := h; exact ⟨hpq _ q1, fun x hx => hpq _ (q2 x hx), q3⟩
 | trap e sts fu => exact h
theorem so0 {l : List Val} (h : Val.limL l) : ∀ v ∈ l, v.rng := fun v hv => ((Val.ge0 _).1 h v hv).rng
theorem mz0 {m : Mdl} {states args : List Val} {n fuel : Int} (h : ke0 m states args) (hl : m.n40 states args = false) (hb : lN0 m states n args) (h0 : 0 <= fuel) (h1 : fuel <= 4096) :
  ∃ g out, run m g (m.funcs[n.toNat]'hb.n1) ((m.funcs[n.toNat]'hb.n1).start args states fuel) = some out /\ lh0 Val.good states.length fuel out := by
 obtain ⟨l1, l2, l3⟩ := pC0 hl
 have hfn := hb.ver.fn _ hb.n1
 obtain ⟨G, hG⟩ : ∃ G, (m.gr (m.funcs[n.toNat]'hb.n1)).good G := by have h := hfn.hgt; simp only [Gr.hB, decide_eq_true_eq] at h; exact h
 have b := hfn.bnd
 have b0 := b.p0; have b1 := b.l0; have b2 := b.c0
 have har := hb.ar
 have okk : ∀ l : List Val, Val.limL l -> l.all sOk = true -> ∀ v ∈ l, v.good := fun l q1 q2 v hv => by
  have := List.all_eq_true.1 q2 v hv
  simp only [sOk, Bool.and_eq_true, decide_eq_true_eq] at this
  exact ⟨⟨this.1, so0 q1 v hv⟩, this.2⟩
 have oka := okk _ h.ha hb.ag
 exact run_total hb.ver dl0 (fun v hv => ⟨limL_ok h.hc l1 v hv, snd_const (hb.ver.ct v hv)⟩) _ _ hb.n1 G hG _ _
  ⟨Int.le_refl _, by simp only [Fnc.start]; simp; omega, by simp only [Fnc.start]; simp; exact hG.1.symm, by simp [Fnc.start], by simp only [Fnc.start]; simp; omega, rfl, h0, h1,
   ⟨fun v hv => by simp only [Fnc.start] at hv; simp at hv; rcases hv with hv | ⟨_, rfl⟩; exact oka v hv; exact dl0.int0, fun v hv => by simp [Fnc.start] at hv, okk _ h.hs hb.st⟩⟩ (Nat.le_refl _) (Nat.le_refl _)
def plc (k : Val) : List Val -> Nat -> Option Nat
 | x :: _ :: l, i => if x = k then some i else plc k l (i + 2)
 | _, _ => none
def plcI (o : Option Nat) : Int := match o with | some i => i | none => -1
theorem ib0 (v k : Val) (hv : v.wt < 2 ^ 40) (hk : k.wt < 2 ^ 40) : Ret prog fU0 [v.V, k.V] (vI (plcI (plc k v.list 0))) := by
 have hs := v.gw0 hv
 have hw := v.cB0
 refine af0 j10 (by simp) ?_
 simp +contextual (maxSteps := 2000000) (disch := omega) [-Int.not_lt, -Int.not_le, -Nat.not_lt, -Nat.not_le, sx, e80]
 refine ap0 (fun i : Nat => v.list.length - i) (fun i => [(5, vI i), (2, .bp (.l 2 0) 0), (3, .bp (.l 3 0) 0)]) (fun _ => [(.l 2 0, .box v.cells), (.l 3 0, .box k.cells)])
  (fun i => i <= v.list.length /\ plc k v.list 0 = plc k (v.list.drop i) i) 0 (by simp) (Wk.subs (by simp) (by simp)) ?_
 rintro i ⟨hi, ho⟩
 simp +contextual (maxSteps := 2000000) (disch := omega) [-Int.not_lt, -Int.not_le, -Nat.not_lt, -Nat.not_le, sx]
 refine ⟨fun hlt => ?_, fun hge => ?_⟩
 ·have hlt : i + 1 < v.list.length := by omega
  have hd : v.list.drop i = v.list[i] :: v.list[i + 1] :: v.list.drop (i + 2) := by
   rw [List.drop_eq_getElem_cons (by omega), List.drop_eq_getElem_cons hlt]
  rw [hd, plc] at ho
  have hx := Val.aR0 (List.getElem_mem (show i < v.list.length by omega))
  refine ab0 ?_; simp; refine aa0 (da0 v.list[i] k (by omega) hk) (by simp) ?_
  simp +contextual (maxSteps := 2000000) (disch := omega) [-Int.not_lt, -Int.not_le, -Nat.not_lt, -Nat.not_le, sx]
  refine ⟨fun he => ?_, fun hne => ?_⟩
  ·rw [ho, if_pos he]; rfl
  ·rw [if_neg hne] at ho
   exact .of (i + 2) ⟨by omega, ho⟩ (by omega) (Wk.subs (by simp) (by simp))
 ·rw [ho]
  have : (v.list.drop i).length <= 1 := by simp; omega
  match hm : v.list.drop i with
  | [] => rfl
  | [x] => rfl
  | x :: y :: l => rw [hm] at this; simp at this
theorem sw0 (k : Val) : ∀ (l : List Val) (i : Nat), rise l = true -> hdLt k l = true -> plc k l i = none
 | [], i, _, _ => rfl
 | [_], i, _, _ => rfl
 | x :: y :: l, i, hr, hh => by
  rw [bV0, Bool.and_eq_true] at hr
  have hx : k.cmp x < 0 := by simpa [hdLt] using hh
  have hne : ¬ x = k := fun e => by subst e; have := (Val.c90 x x).2 rfl; omega
  rw [plc, if_neg hne]
  refine sw0 k l _ hr.2 ?_
  cases l with
  | nil => rfl
  | cons z l => simp only [hdLt, decide_eq_true_eq] at hr ⊢; exact Val.im0 _ _ _ hx hr.1
theorem pG0 (k : Val) : ∀ (l : List Val) (i : Nat), rise l = true -> plc k l i = if (aD0 k l i).2 then some (aD0 k l i).1 else none
 | [], i, _ => rfl
 | [_], i, _ => rfl
 | x :: y :: l, i, hr => by
  have hr0 := hr
  rw [bV0, Bool.and_eq_true] at hr
  rw [plc, aD0]
  by_cases h : x.cmp k >= 0
  ·rw [if_pos h]
   by_cases e : x = k
   ·subst e
    have := (Val.c90 x x).2 rfl
    simp [this]
   ·have hz : x.cmp k ≠ 0 := fun q => e ((Val.c90 x k).1 q)
    have hn := Val.pa0 k x
    rw [if_neg e]
    have hf : (x.cmp k == 0) = false := by simpa using hz
    simp only [hf]
    refine sw0 k l _ hr.2 ?_
    cases l with
    | nil => rfl
    | cons z l => simp only [hdLt, decide_eq_true_eq] at hr ⊢; exact Val.im0 _ _ _ (by omega) hr.1
  ·have e : ¬ x = k := fun e => by subst e; have := (Val.c90 x x).2 rfl; omega
   rw [if_neg h, if_neg e]
   exact pG0 k l _ hr.2
theorem kY0 (v k : Val) (hv : v.wt < 2 ^ 40) (hk : k.wt < 2 ^ 40) (hr : v.kind = 5 -> rise v.list = true) : Ret prog cI0 [v.V, k.V] (.tup [(v.at k).1.V, vI (v.at k).2]) := by
 have hs := v.gw0 hv
 have hw := v.cB0
 refine af0 mh0 (by simp) ?_
 by_cases c1 : v.kind = 4 /\ k.kind = 1
 ·by_cases c2 : k.num < 0
  ·simp +contextual (maxSteps := 2000000) (disch := omega) [-Int.not_lt, -Int.not_le, -Nat.not_lt, -Nat.not_le, sx, bJ0, c1.1, c1.2, c2]
   simp [Val.at, Val.zero, c1, c2]
  ·by_cases c3 : (v.list.length : Int) <= k.num
   ·have c4 : ¬ k.num < v.list.length := by omega
    have c5 : 0 <= k.num := by omega
    simp +contextual (maxSteps := 2000000) (disch := omega) [-Int.not_lt, -Int.not_le, -Nat.not_lt, -Nat.not_le, sx, bJ0, c1.1, c1.2, c5, c4]
    simp [Val.at, Val.zero, c1, c2, c3]
   ·have c4 : k.num < v.list.length := by omega
    have c5 : 0 <= k.num := by omega
    simp +contextual (maxSteps := 2000000) (disch := omega) [-Int.not_lt, -Int.not_le, -Nat.not_lt, -Nat.not_le, sx, bJ0, c1.1, c1.2, c5, c4]
    refine ab0 ?_; simp; refine aa0 (ao0 _ (Val.sK0 hv)) (by simp) ?_
    simp +contextual (maxSteps := 2000000) (disch := omega) [-Int.not_lt, -Int.not_le, -Nat.not_lt, -Nat.not_le, sx]
    simp [Val.at, c1, c2, c3]
    rw [List.getElem?_eq_getElem (by omega)]; rfl
 ·by_cases c2 : v.kind = 5
  ·have hf := (dJ0 k v.list 0).2
   have hp := pG0 k v.list 0 (hr c2)
   have e4 : ¬ v.kind = 4 := by omega
   simp +contextual (maxSteps := 2000000) (disch := omega) [-Int.not_lt, -Int.not_le, -Nat.not_lt, -Nat.not_le, sx, bJ0, c2]
   refine ab0 ?_; simp; refine aa0 (ib0 v k hv hk) (by simp) ?_
   rw [hp]
   cases hb : (aD0 k v.list 0).2 with
   | true =>
    have hf := hf hb
    simp +contextual (maxSteps := 2000000) (disch := omega) [-Int.not_lt, -Int.not_le, -Nat.not_lt, -Nat.not_le, sx, plcI]
    refine ab0 ?_; simp; refine aa0 (ao0 _ (Val.sK0 hv)) (by simp) ?_
    simp +contextual (maxSteps := 2000000) (disch := omega) [-Int.not_lt, -Int.not_le, -Nat.not_lt, -Nat.not_le, sx]
    simp [Val.at, c2, hb]
    rw [List.getElem?_eq_getElem (by omega)]; rfl
   | false =>
    simp +contextual (maxSteps := 2000000) (disch := omega) [-Int.not_lt, -Int.not_le, -Nat.not_lt, -Nat.not_le, sx, plcI]
    simp [Val.at, Val.zero, c2, hb]
  ·by_cases c4 : v.kind = 4
   ·have ck : ¬ k.kind = 1 := fun h => c1 ⟨c4, h⟩
    simp +contextual (maxSteps := 2000000) (disch := omega) [-Int.not_lt, -Int.not_le, -Nat.not_lt, -Nat.not_le, sx, bJ0, c4, ck]
    simp [Val.at, Val.zero, c4, ck]
   ·simp +contextual (maxSteps := 2000000) (disch := omega) [-Int.not_lt, -Int.not_le, -Nat.not_lt, -Nat.not_le, sx, bJ0, c4, c2]
    simp [Val.at, Val.zero, c4, c2]
theorem jK0 (v : Val) (h : v.wt < 2 ^ 40) : J prog dY0 [v.V] [] (· = .ret (.agg [vI v.kind, vI v.num, vS v.text, .arr (.e 0) 0 v.list.length]) [.row ac0 4 true (v.list.map Val.cells)]) := by
 have hw := v.cB0
 have hlen := Val.be0 v.list
 refine az0 gb0 (by simp) ?_
 simp +contextual (maxSteps := 2000000) (disch := omega) [-Int.not_lt, -Int.not_le, -Nat.not_lt, -Nat.not_le, sx, dr0]
 refine aA0 v.list.length
  (fun i => [(16, vI i), (15, vI v.list.length), (14, ay0 v.list), (3, .bp (.l 3 0) 0), (2, .bp (.l 2 0) 0)])
  (fun i => [(.l 999 0, .row ac0 4 true ((v.list.take i).map Val.cells)), (.l 3 0, .box [vI v.kind, vI v.num, vS v.text, .arr (.l 999 0) 0 i]), (.l 2 0, .box [vI 0, vI 0, vS noS, .nil])])
  (Wk.trans (Wk.subs (by simp) (by simp)) (Wk.rowB (b := .l 3 0) (id := .l 999 0) (off := 3) (ty := ac0) (sz := 4) rfl rfl (by simp) (by simp))) ?_
 intro i hi
 simp +contextual (maxSteps := 2000000) (disch := omega) [-Int.not_lt, -Int.not_le, -Nat.not_lt, -Nat.not_le, sx]
 refine ⟨fun hlt => ?_, fun hge => ?_⟩
 ·have hxw := Val.aR0 (List.getElem_mem hlt)
  refine al0 ?_; simp; refine aa0 (ao0 v.list[i] (by omega)) (by simp) ?_
  simp +contextual (maxSteps := 2000000) (disch := omega) [-Int.not_lt, -Int.not_le, -Nat.not_lt, -Nat.not_le, sx]
  exact .of hlt (Wk.rens (.l 25 0) (.l 999 0) rfl (by simp) (by simp [renF]) (by simp [renF, bw0]))
 ·have : i = v.list.length := by omega
  subst this
  refine endR _ _ (Wk.refl _ _) [.l 999 0] (by simp) ?_
  simp +contextual (maxSteps := 2000000) (disch := omega) [-Int.not_lt, -Int.not_le, -Nat.not_lt, -Nat.not_le, sx]
theorem nl0 (v x : Val) (hv : v.wt < 2 ^ 40) (hx : x.wt < 2 ^ 40) : Ret prog d00 [v.V, x.V] (.tup [(v.push x).1.V, vI (v.push x).2]) := by
 have hs := v.gw0 hv
 have hw := v.cB0
 have hb : (Val.mk v.kind v.num v.text (v.list ++ [x])).wt < 2 ^ 62 := by
  rw [Val.cB0]; simp [Val.dp0, Val.wtL]; omega
 refine af0 kB0 (by simp) ?_
 by_cases c1 : v.kind = 4
 ·by_cases c2 : (v.list.length : Int) >= 64
  ·simp +contextual (maxSteps := 2000000) (disch := omega) [-Int.not_lt, -Int.not_le, -Nat.not_lt, -Nat.not_le, sx, cC0, c1, c2]
   simp [Val.push, Val.zero, c1, c2]
  ·simp +contextual (maxSteps := 2000000) (disch := omega) [-Int.not_lt, -Int.not_le, -Nat.not_lt, -Nat.not_le, sx, cC0, c1, c2]
   refine ad0 [] rfl rfl (by simp) ?_
   simp
   have hpO := jK0 v hv
   try simp [VmS.obs, VmS.obs', ag0] at hpO
   refine ae0 17 hpO (by simp) ?_
   clear hpO
   simp +contextual (maxSteps := 2000000) (disch := omega) [-Int.not_lt, -Int.not_le, -Nat.not_lt, -Nat.not_le, sx]
   refine al0 ?_; simp; refine aa0 (ao0 x hx) (by simp) ?_
   simp +contextual (maxSteps := 2000000) (disch := omega) [-Int.not_lt, -Int.not_le, -Nat.not_lt, -Nat.not_le, sx]
   refine ab0 ?_; simp; refine aa0 (cv0 (Val.mk v.kind v.num v.text (v.list ++ [x])) hb) (by simp) ?_
   simp +contextual (maxSteps := 2000000) (disch := omega) [-Int.not_lt, -Int.not_le, -Nat.not_lt, -Nat.not_le, sx]
   simp [Val.push, c1, c2]
 ·simp +contextual (maxSteps := 2000000) (disch := omega) [-Int.not_lt, -Int.not_le, -Nat.not_lt, -Nat.not_le, sx, cC0, c1]
  simp [Val.push, Val.zero, c1]
def delP (k : Val) : List Val -> List Val
 | x :: y :: l => if x = k then delP k l else x :: y :: delP k l
 | _ => []
theorem rr0 (k : Val) : ∀ (l : List Val), rise l = true -> hdLt k l = true -> l.length % 2 = 0 -> delP k l = l
 | [], _, _, _ => rfl
 | [_], _, _, h => by simp at h
 | x :: y :: l, hr, hh, he => by
  rw [bV0, Bool.and_eq_true] at hr
  have hx : k.cmp x < 0 := by simpa [hdLt] using hh
  have hne : ¬ x = k := fun e => by subst e; have := (Val.c90 x x).2 rfl; omega
  rw [delP, if_neg hne, rr0 k l hr.2 ?_ (by simp at he; omega)]
  cases l with
  | nil => rfl
  | cons z l => simp only [hdLt, decide_eq_true_eq] at hr ⊢; exact Val.im0 _ _ _ hx hr.1
theorem qt0 (k : Val) : ∀ (l : List Val), rise l = true -> l.length % 2 = 0 -> delP k l = if (aD0 k l 0).2 then l.take (aD0 k l 0).1 ++ l.drop ((aD0 k l 0).1 + 2) else l
 | [], _, _ => rfl
 | [_], _, h => by simp at h
 | x :: y :: l, hr, he => by
  have hr0 := hr
  have he2 : l.length % 2 = 0 := by simp at he; omega
  rw [bV0, Bool.and_eq_true] at hr
  have key : x.cmp k >= 0 -> hdLt k l = true := fun h => by
   have hn := Val.pa0 k x
   cases l with
   | nil => rfl
   | cons z l =>
    simp only [hdLt, decide_eq_true_eq] at hr ⊢
    by_cases e : x = k
    ·subst e; exact hr.1
    ·have hz : x.cmp k ≠ 0 := fun q => e ((Val.c90 x k).1 q)
     exact Val.im0 _ _ _ (by omega) hr.1
  rw [delP, aD0]
  by_cases h : x.cmp k >= 0
  ·rw [if_pos h]
   by_cases e : x = k
   ·have hz := (Val.c90 x k).2 e
    rw [if_pos e, rr0 k l hr.2 (key h) he2]
    simp [hz]
   ·have hz : x.cmp k ≠ 0 := fun q => e ((Val.c90 x k).1 q)
    have hf : (x.cmp k == 0) = false := by simpa using hz
    rw [if_neg e, rr0 k l hr.2 (key h) he2]
    simp [hf]
  ·have e : ¬ x = k := fun e => by subst e; have := (Val.c90 x x).2 rfl; omega
   rw [if_neg h, if_neg e, dd0 k l (0 + 2), qt0 k l hr.2 he2]
   simp only [Nat.zero_add]
   split
   ·simp only [show 2 + (aD0 k l 0).1 = (aD0 k l 0).1 + 1 + 1 by omega, show (aD0 k l 0).1 + 1 + 1 + 2 = (aD0 k l 0).1 + 2 + 1 + 1 by omega, List.take_succ_cons, List.drop_succ_cons, List.cons_append]
   ·rfl
theorem n70 (v k : Val) (hv : v.wt < 2 ^ 40) (hk : k.wt < 2 ^ 40) (hr : v.kind = 5 -> rise v.list = true /\ v.list.length % 2 = 0) : Ret prog ev0 [v.V, k.V] (.tup [(v.del k).1.V, vI (v.del k).2]) := by
 have hs := v.gw0 hv
 have hw := v.cB0
 refine af0 lr0 (by simp) ?_
 by_cases c2 : v.kind = 5
 case neg =>
  simp +contextual (maxSteps := 2000000) (disch := omega) [-Int.not_lt, -Int.not_le, -Nat.not_lt, -Nat.not_le, sx, dU0, c2]
  simp [Val.del, Val.zero, c2]
 obtain ⟨r1, r2⟩ := hr c2
 simp +contextual (maxSteps := 2000000) (disch := omega) [-Int.not_lt, -Int.not_le, -Nat.not_lt, -Nat.not_le, sx, dU0, c2]
 refine ap0 (fun y : Nat × List Val => v.list.length - y.1) (fun y => [(7, vI y.1), (2, .bp (.l 2 0) 0), (3, .bp (.l 3 0) 0), (4, .bp (.l 4 0) 0), (6, .bp (.l 6 0) 0)])
  (fun y => [(.l 999 0, .row ac0 4 true (y.2.map Val.cells)), (.l 6 0, .box [vI 5, vI v.num, vS v.text, .arr (.l 999 0) 0 y.2.length]), (.l 4 0, .box [vI 0, vI 0, vS noS, .nil]), (.l 2 0, .box v.cells), (.l 3 0, .box k.cells)])
  (fun y => y.1 <= v.list.length /\ y.1 % 2 = 0 /\ y.2 ++ delP k (v.list.drop y.1) = delP k v.list /\ y.2.length <= y.1) (0, []) (by simp)
  (Wk.trans (Wk.subs (by simp) (by simp)) (Wk.rowB (b := .l 6 0) (id := .l 999 0) (off := 3) (ty := ac0) (sz := 4) rfl rfl (by simp) (by simp))) ?_
 rintro ⟨i, D⟩ ⟨hi, hi2, ho, hdl⟩
 simp only at hi hi2 ho hdl
 simp +contextual (maxSteps := 2000000) (disch := omega) [-Int.not_lt, -Int.not_le, -Nat.not_lt, -Nat.not_le, sx]
 refine ⟨fun hlt => ?_, fun hge => ?_⟩
 ·have hlt : i + 1 < v.list.length := by omega
  have hd : v.list.drop i = v.list[i] :: v.list[i + 1] :: v.list.drop (i + 2) := by
   rw [List.drop_eq_getElem_cons (by omega), List.drop_eq_getElem_cons hlt]
  rw [hd, delP] at ho
  have hx := Val.aR0 (List.getElem_mem (show i < v.list.length by omega))
  have hy := Val.aR0 (List.getElem_mem hlt)
  refine ab0 ?_; simp; refine aa0 (da0 v.list[i] k (by omega) hk) (by simp) ?_
  simp +contextual (maxSteps := 2000000) (disch := omega) [-Int.not_lt, -Int.not_le, -Nat.not_lt, -Nat.not_le, sx]
  refine ⟨fun he => ?_, fun hne => ?_⟩
  ·rw [if_pos he] at ho
   exact .of (i + 2, D) ⟨by simp only; omega, by simp only; omega, ho, by simp only; omega⟩ (by simp only; omega) (Wk.subs (by simp) (by simp))
  ·rw [if_neg hne] at ho
   refine al0 ?_; simp; refine aa0 (ao0 v.list[i] (by omega)) (by simp) ?_
   simp +contextual (maxSteps := 2000000) (disch := omega) [-Int.not_lt, -Int.not_le, -Nat.not_lt, -Nat.not_le, sx]
   refine al0 ?_; simp; refine aa0 (ao0 v.list[i + 1] (by omega)) (by simp) ?_
   simp +contextual (maxSteps := 2000000) (disch := omega) [-Int.not_lt, -Int.not_le, -Nat.not_lt, -Nat.not_le, sx]
   exact .of (i + 2, D ++ [v.list[i], v.list[i + 1]]) ⟨by simp only; omega, by simp only; omega, by simpa using ho, by simp; omega⟩ (by simp only; omega) (Wk.rens (.l 51 0) (.l 999 0) rfl (by simp) (by simp [renF]) (by simp [renF, bw0]))
 ·have hil : i = v.list.length := by omega
  subst hil
  rw [List.drop_length, show delP k [] = [] from rfl, List.append_nil] at ho
  have hf := qt0 k v.list r1 r2
  rw [<- ho] at hf
  simp +contextual (maxSteps := 2000000) (disch := omega) [-Int.not_lt, -Int.not_le, -Nat.not_lt, -Nat.not_le, sx, Val.del, c2]
  rw [hf]
  cases hb : (aD0 k v.list 0).2 with
  | true => simp [Val.fold]
  | false => simp [<- c2]
def insP (k x : Val) : List Val -> List Val
 | a :: b :: l => if k.cmp a < 0 then k :: x :: a :: b :: l else a :: b :: insP k x l
 | _ => [k, x]
theorem qL0 (k x : Val) : ∀ (l : List Val), l.length % 2 = 0 -> (aD0 k l 0).2 = false -> insP k x l = l.take (aD0 k l 0).1 ++ k :: x :: l.drop (aD0 k l 0).1
 | [], _, _ => rfl
 | [_], h, _ => by simp at h
 | a :: b :: l, he, hf => by
  have hn := Val.pa0 k a
  rw [aD0] at hf ⊢
  rw [insP]
  by_cases h : a.cmp k >= 0
  ·rw [if_pos h] at hf ⊢
   have hne : a.cmp k ≠ 0 := by simpa using hf
   rw [if_pos (by omega)]
   simp
  ·rw [if_neg h] at hf ⊢
   rw [dd0 k l (0 + 2)] at hf ⊢
   rw [if_neg (by omega), qL0 k x l (by simp at he; omega) hf]
   simp only [Nat.zero_add, show 2 + (aD0 k l 0).1 = (aD0 k l 0).1 + 1 + 1 by omega, List.take_succ_cons, List.drop_succ_cons, List.cons_append]
@[simp] theorem fold_app2 {k n : Int} {t : ByteArray} {l : List Val} {x y : Val} : ([.c (.int .i64 k), .c (.int .i64 n), .c (.string t), .lst (l.map Val.cells ++ [x.cells, y.cells])] : List V) = (Val.mk k n t (l ++ [x, y])).cells := by
 rw [<- Val.fold]; simp only [List.map_append, List.map_cons, List.map_nil]
theorem n90 (v k x : Val) (hv : v.wt < 2 ^ 40) (hk : k.wt < 2 ^ 40) (hx : x.wt < 2 ^ 40) (hr : v.kind = 5 -> rise v.list = true /\ v.list.length % 2 = 0) : Ret prog ex0 [v.V, k.V, x.V] (.tup [(v.put k x).1.V, vI (v.put k x).2]) := by
 have hs := v.gw0 hv
 have hw := v.cB0
 have hb1 : ∀ kd i, (Val.mk kd v.num v.text (v.list.set i x)).wt < 2 ^ 62 := by
  intro kd i
  have := Val.wtL_set v.list i x
  rw [Val.cB0]; simp; omega
 have hb2 : ∀ kd i, (Val.mk kd v.num v.text (v.list.take i ++ (k :: x :: v.list.drop i))).wt < 2 ^ 62 := by
  intro kd i
  have := Val.wtL_td v.list i
  rw [Val.cB0]; simp [Val.dp0, Val.wtL]; omega
 have hf1 := (dJ0 k v.list 0).1
 have hf2 := (dJ0 k v.list 0).2
 refine af0 lu0 (by simp) ?_
 simp +contextual (maxSteps := 2000000) (disch := omega) [-Int.not_lt, -Int.not_le, -Nat.not_lt, -Nat.not_le, sx, gF0]
 refine ad0 [] rfl rfl (by simp) ?_
 simp
 have hpO := jK0 v hv
 try simp [VmS.obs, VmS.obs', ag0] at hpO
 refine ae0 13 hpO (by simp) ?_
 clear hpO
 simp +contextual (maxSteps := 2000000) (disch := omega) [-Int.not_lt, -Int.not_le, -Nat.not_lt, -Nat.not_le, sx]
 by_cases c1 : v.kind = 4 /\ k.kind = 1
 ·by_cases c2 : k.num < 0
  ·simp +contextual (maxSteps := 2000000) (disch := omega) [-Int.not_lt, -Int.not_le, -Nat.not_lt, -Nat.not_le, sx, c1.1, c1.2, c2]
   simp [Val.put, Val.zero, c1, c2]
  ·by_cases c3 : (v.list.length : Int) <= k.num
   ·simp +contextual (maxSteps := 2000000) (disch := omega) [-Int.not_lt, -Int.not_le, -Nat.not_lt, -Nat.not_le, sx, c1.1, c1.2, c2, c3]
    simp [Val.put, Val.zero, c1, c2, c3]
   ·have c4 : k.num < v.list.length := by omega
    have c5 : 0 <= k.num := by omega
    simp +contextual (maxSteps := 2000000) (disch := omega) [-Int.not_lt, -Int.not_le, -Nat.not_lt, -Nat.not_le, sx, c1.1, c1.2, c2, c3]
    refine al0 ?_; simp; refine aa0 (ao0 x hx) (by simp) ?_
    simp +contextual (maxSteps := 2000000) (disch := omega) [-Int.not_lt, -Int.not_le, -Nat.not_lt, -Nat.not_le, sx]
    refine ab0 ?_; simp; refine aa0 (cv0 (Val.mk 4 v.num v.text (v.list.set k.num.toNat x)) (hb1 _ _)) (by simp [List.map_set]) ?_
    simp +contextual (maxSteps := 2000000) (disch := omega) [-Int.not_lt, -Int.not_le, -Nat.not_lt, -Nat.not_le, sx]
    simp [Val.put, c1, c2, c3]
 by_cases c2 : v.kind = 5
 case neg =>
  by_cases c4 : v.kind = 4
  ·have ck : ¬ k.kind = 1 := fun h => c1 ⟨c4, h⟩
   simp +contextual (maxSteps := 2000000) (disch := omega) [-Int.not_lt, -Int.not_le, -Nat.not_lt, -Nat.not_le, sx, c4, ck]
   simp [Val.put, Val.zero, c4, ck]
  ·simp +contextual (maxSteps := 2000000) (disch := omega) [-Int.not_lt, -Int.not_le, -Nat.not_lt, -Nat.not_le, sx, c4, c2]
   simp [Val.put, Val.zero, c4, c2]
 obtain ⟨r1, r2⟩ := hr c2
 have hp := pG0 k v.list 0 r1
 simp +contextual (maxSteps := 2000000) (disch := omega) [-Int.not_lt, -Int.not_le, -Nat.not_lt, -Nat.not_le, sx, c2]
 refine ab0 ?_; simp; refine aa0 (ib0 v k hv hk) (by simp) ?_
 rw [hp]
 cases hb : (aD0 k v.list 0).2 with
 | true =>
  have hf2 := hf2 hb
  simp +contextual (maxSteps := 2000000) (disch := omega) [-Int.not_lt, -Int.not_le, -Nat.not_lt, -Nat.not_le, sx, plcI]
  refine al0 ?_; simp; refine aa0 (ao0 x hx) (by simp) ?_
  simp +contextual (maxSteps := 2000000) (disch := omega) [-Int.not_lt, -Int.not_le, -Nat.not_lt, -Nat.not_le, sx]
  refine ab0 ?_; simp; refine aa0 (cv0 (Val.mk 5 v.num v.text (v.list.set ((aD0 k v.list 0).1 + 1) x)) (hb1 _ _)) (by simp [List.map_set]) ?_
  simp +contextual (maxSteps := 2000000) (disch := omega) [-Int.not_lt, -Int.not_le, -Nat.not_lt, -Nat.not_le, sx]
  simp [Val.put, c2, hb]
 | false =>
  have hins := qL0 k x v.list r2 hb
  simp +contextual (maxSteps := 2000000) (disch := omega) [-Int.not_lt, -Int.not_le, -Nat.not_lt, -Nat.not_le, sx, plcI]
  refine ⟨fun h => by simp [Val.put, Val.zero, c2, hb, h], fun h128 => ?_⟩
  refine ap0 (fun y : Nat × Bool × List Val => v.list.length - y.1) (fun y => [(11, vI y.1), (10, vB y.2.1), (3, .bp (.l 3 0) 0), (4, .bp (.l 4 0) 0), (5, .bp (.l 5 0) 0), (6, .bp (.l 6 0) 0), (8, .bp (.l 8 0) 0)])
   (fun y => [(.l 999 0, .row ac0 4 true (y.2.2.map Val.cells)), (.l 8 0, .box [vI 5, vI v.num, vS v.text, .arr (.l 999 0) 0 y.2.2.length]), (.l 6 0, .box [vI 0, vI 0, vS noS, .nil]), (.l 3 0, .box v.cells), (.l 4 0, .box k.cells), (.l 5 0, .box x.cells)])
   (fun y => y.1 <= v.list.length /\ y.1 % 2 = 0 /\ y.2.2 ++ (if y.2.1 then v.list.drop y.1 else insP k x (v.list.drop y.1)) = insP k x v.list /\ y.2.2.length <= y.1 + (if y.2.1 then 2 else 0)) (0, false, []) (by simp)
   (Wk.trans (Wk.subs (by simp) (by simp)) (Wk.rowB (b := .l 8 0) (id := .l 999 0) (off := 3) (ty := ac0) (sz := 4) rfl rfl (by simp) (by simp))) ?_
  rintro ⟨i, laid, D⟩ ⟨hi, hi2, ho, hdl⟩
  simp only at hi hi2 ho hdl
  simp +contextual (maxSteps := 2000000) (disch := omega) [-Int.not_lt, -Int.not_le, -Nat.not_lt, -Nat.not_le, sx]
  refine ⟨fun hlt => ?_, fun hge => ?_⟩
  ·have hlt : i + 1 < v.list.length := by omega
   have hd : v.list.drop i = v.list[i] :: v.list[i + 1] :: v.list.drop (i + 2) := by
    rw [List.drop_eq_getElem_cons (by omega), List.drop_eq_getElem_cons hlt]
   have hy1 := Val.aR0 (List.getElem_mem (show i < v.list.length by omega))
   have hy2 := Val.aR0 (List.getElem_mem hlt)
   cases laid with
   | true =>
    rw [if_pos rfl, hd] at ho
    have hdl : D.length <= i + 2 := by simpa using hdl
    simp +contextual (maxSteps := 2000000) (disch := omega) [-Int.not_lt, -Int.not_le, -Nat.not_lt, -Nat.not_le, sx]
    refine al0 ?_; simp; refine aa0 (ao0 v.list[i] (by omega)) (by simp) ?_
    simp +contextual (maxSteps := 2000000) (disch := omega) [-Int.not_lt, -Int.not_le, -Nat.not_lt, -Nat.not_le, sx]
    refine al0 ?_; simp; refine aa0 (ao0 v.list[i + 1] (by omega)) (by simp) ?_
    simp +contextual (maxSteps := 2000000) (disch := omega) [-Int.not_lt, -Int.not_le, -Nat.not_lt, -Nat.not_le, sx]
    exact .of (i + 2, true, D ++ [v.list[i], v.list[i + 1]]) ⟨by simp only; omega, by simp only; omega, by simpa using ho, by simp; omega⟩ (by simp only; omega) (Wk.rens (.l 116 0) (.l 999 0) rfl (by simp) (by simp [renF]) (by simp [renF, bw0]))
   | false =>
    rw [if_neg (by simp), hd, insP] at ho
    have hdl : D.length <= i := by simpa using hdl
    simp +contextual (maxSteps := 2000000) (disch := omega) [-Int.not_lt, -Int.not_le, -Nat.not_lt, -Nat.not_le, sx]
    refine ab0 ?_; simp; refine aa0 (aq0 k v.list[i] hk (by omega)) (by simp) ?_
    simp +contextual (maxSteps := 2000000) (disch := omega) [-Int.not_lt, -Int.not_le, -Nat.not_lt, -Nat.not_le, sx]
    refine ⟨fun hc => ?_, fun hc => ?_⟩
    ·rw [if_pos hc] at ho
     refine al0 ?_; simp; refine aa0 (ao0 k hk) (by simp) ?_
     simp +contextual (maxSteps := 2000000) (disch := omega) [-Int.not_lt, -Int.not_le, -Nat.not_lt, -Nat.not_le, sx]
     refine al0 ?_; simp; refine aa0 (ao0 x hx) (by simp) ?_
     simp +contextual (maxSteps := 2000000) (disch := omega) [-Int.not_lt, -Int.not_le, -Nat.not_lt, -Nat.not_le, sx]
     refine al0 ?_; simp; refine aa0 (ao0 v.list[i] (by omega)) (by simp) ?_
     simp +contextual (maxSteps := 2000000) (disch := omega) [-Int.not_lt, -Int.not_le, -Nat.not_lt, -Nat.not_le, sx]
     refine al0 ?_; simp; refine aa0 (ao0 v.list[i + 1] (by omega)) (by simp) ?_
     simp +contextual (maxSteps := 2000000) (disch := omega) [-Int.not_lt, -Int.not_le, -Nat.not_lt, -Nat.not_le, sx]
     have ht : List.take (D.length + 2) (D.map Val.cells ++ [k.cells, x.cells]) = D.map Val.cells ++ [k.cells, x.cells] := List.take_of_length_le (by simp)
     exact .of (i + 2, true, D ++ [k, x, v.list[i], v.list[i + 1]]) ⟨by simp only; omega, by simp only; omega, by simpa using ho, by simp; omega⟩ (by simp only; omega) (Wk.rens (.l 116 0) (.l 999 0) rfl (by simp) (by simp [renF, ht]) (by simp [renF, bw0, ht]))
    ·rw [if_neg hc] at ho
     refine al0 ?_; simp; refine aa0 (ao0 v.list[i] (by omega)) (by simp) ?_
     simp +contextual (maxSteps := 2000000) (disch := omega) [-Int.not_lt, -Int.not_le, -Nat.not_lt, -Nat.not_le, sx]
     refine al0 ?_; simp; refine aa0 (ao0 v.list[i + 1] (by omega)) (by simp) ?_
     simp +contextual (maxSteps := 2000000) (disch := omega) [-Int.not_lt, -Int.not_le, -Nat.not_lt, -Nat.not_le, sx]
     exact .of (i + 2, false, D ++ [v.list[i], v.list[i + 1]]) ⟨by simp only; omega, by simp only; omega, by simpa using ho, by simp; omega⟩ (by simp only; omega) (Wk.rens (.l 116 0) (.l 999 0) rfl (by simp) (by simp [renF]) (by simp [renF, bw0]))
  ·have hil : i = v.list.length := by omega
   subst hil
   rw [List.drop_length] at ho
   cases laid with
   | true =>
    rw [if_pos rfl, List.append_nil, hins] at ho
    have hdl : D.length <= v.list.length + 2 := by simpa using hdl
    have hbD : (Val.mk 5 v.num v.text D).wt < 2 ^ 62 := by rw [ho]; exact hb2 _ _
    simp +contextual (maxSteps := 2000000) (disch := omega) [-Int.not_lt, -Int.not_le, -Nat.not_lt, -Nat.not_le, sx]
    refine ab0 ?_; simp; refine aa0 (cv0 (Val.mk 5 v.num v.text D) hbD) (by simp) ?_
    simp +contextual (maxSteps := 2000000) (disch := omega) [-Int.not_lt, -Int.not_le, -Nat.not_lt, -Nat.not_le, sx]
    simp [Val.put, c2, hb, h128, <- ho]
   | false =>
    rw [if_neg (by simp), show insP k x [] = [k, x] from rfl, hins] at ho
    have hdl : D.length <= v.list.length := by simpa using hdl
    simp +contextual (maxSteps := 2000000) (disch := omega) [-Int.not_lt, -Int.not_le, -Nat.not_lt, -Nat.not_le, sx]
    refine al0 ?_; simp; refine aa0 (ao0 k hk) (by simp) ?_
    simp +contextual (maxSteps := 2000000) (disch := omega) [-Int.not_lt, -Int.not_le, -Nat.not_lt, -Nat.not_le, sx]
    refine al0 ?_; simp; refine aa0 (ao0 x hx) (by simp) ?_
    simp +contextual (maxSteps := 2000000) (disch := omega) [-Int.not_lt, -Int.not_le, -Nat.not_lt, -Nat.not_le, sx]
    have hbD : (Val.mk 5 v.num v.text (D ++ [k, x])).wt < 2 ^ 62 := by rw [ho]; exact hb2 _ _
    have ht : List.take (D.length + 2) (D.map Val.cells ++ [k.cells, x.cells]) = D.map Val.cells ++ [k.cells, x.cells] := List.take_of_length_le (by simp)
    refine ab0 ?_; simp [ht]; refine aa0 (cv0 (Val.mk 5 v.num v.text (D ++ [k, x])) hbD) (by simp) ?_
    simp +contextual (maxSteps := 2000000) (disch := omega) [-Int.not_lt, -Int.not_le, -Nat.not_lt, -Nat.not_le, sx]
    simp [Val.put, c2, hb, h128, <- ho]
end Go.Am
end

section
namespace Go.Am
theorem ji0 {x y : Int} (hx : 1 <= x) (hy : 1 <= y) : (9223372036854775807 : Int).tdiv y < x ↔ 9223372036854775807 < x * y := by
 have e := Int.tmod_add_mul_tdiv 9223372036854775807 y
 have h1 : 0 <= (9223372036854775807 : Int).tmod y := Int.tmod_nonneg _ (by omega)
 have h2 : (9223372036854775807 : Int).tmod y < y := Int.tmod_lt_of_pos _ (by omega)
 generalize (9223372036854775807 : Int).tdiv y = q at *
 generalize (9223372036854775807 : Int).tmod y = r at *
 constructor
 ·intro h
  have : y * (q + 1) <= y * x := Int.mul_le_mul_of_nonneg_left (by omega) (by omega)
  rw [Int.mul_add, Int.mul_one] at this
  rw [Int.mul_comm x y]; omega
 ·intro h
  apply Classical.byContradiction
  intro hn
  have : y * x <= y * q := Int.mul_le_mul_of_nonneg_left (by omega) (by omega)
  rw [Int.mul_comm x y] at h; omega
theorem jh0 {x y : Int} (hx : 1 <= x) (hy : 1 <= y) : ((9223372036854775807 : Int).tmod y = y - 1 /\ x = (9223372036854775807 : Int).tdiv y + 1) ↔ x * y = 9223372036854775808 := by
 have e := Int.tmod_add_mul_tdiv 9223372036854775807 y
 have h1 : 0 <= (9223372036854775807 : Int).tmod y := Int.tmod_nonneg _ (by omega)
 have h2 : (9223372036854775807 : Int).tmod y < y := Int.tmod_lt_of_pos _ (by omega)
 generalize (9223372036854775807 : Int).tdiv y = q at *
 generalize (9223372036854775807 : Int).tmod y = r at *
 constructor
 ·rintro ⟨rfl, rfl⟩
  rw [Int.add_mul, Int.one_mul, Int.mul_comm q y]; omega
 ·intro h
  rw [Int.mul_comm x y] at h
  have hxq : x = q + 1 := by
   apply Classical.byContradiction
   intro hn
   rcases Int.lt_or_gt_of_ne hn with h3 | h3
   ·have : y * x <= y * q := Int.mul_le_mul_of_nonneg_left (by omega) (by omega)
    omega
   ·have : y * (q + 2) <= y * x := Int.mul_le_mul_of_nonneg_left (by omega) (by omega)
    rw [Int.mul_add] at this; omega
  subst hxq
  rw [Int.mul_add, Int.mul_one] at h
  exact ⟨by omega, rfl⟩
end Go.Am
end

section
namespace Go.Am
set_option maxRecDepth 100000
attribute [local irreducible] vc vcIs vcI vcOp vcD vcDp vcDR vcT vcAR bp0 aK0 panD neG ne pv J bm0 bl0 bt0 aS0 evK evsK nthK objK boxK rowK bg0 intK strK aggK fnK ifcK aw0 at0 ldK ldaK iaK srcK stK appK appD bv0 pvK br0 aF0 bk0
theorem times_00 (x y : Int) (x1 : 1 <= x) (x2 : x < 9223372036854775808) (y1 : 1 <= y) (y2 : y < 9223372036854775808) :
  Ret prog bF0 [vI (x), vI (y)] (.tup [vI (fitI (x * y)).1, vI (fitI (x * y)).2]) := by
 refine af0 aI0 (by simp) ?_
 have ex : (x = 0) = False := by apply eq_false; omega
 have ey : (y = 0) = False := by apply eq_false; omega
 have lx : (x = 9223372036854775808) = False := by apply eq_false; omega
 have ly : (y = 9223372036854775808) = False := by apply eq_false; omega
 have lx' : (x = -9223372036854775808) = False := by apply eq_false; omega
 have ly' : (y = -9223372036854775808) = False := by apply eq_false; omega
 have px : 0 < x := by omega
 have py : 0 < y := by omega
 have hq := c80 (a := 9223372036854775807) (b := y) (by omega) (by omega) (by omega) (by omega)
 have wq : IntKind.i64.wrap ((9223372036854775807 : Int).tdiv y) = (9223372036854775807 : Int).tdiv y := cl0 hq.1 hq.2
 have m1 := ji0 x1 y1
 have m2 := jh0 x1 y1
 have hpos : 0 < x * y := Int.mul_pos px py
 by_cases hA : x * y <= 9223372036854775807
 ·have hn : ((9223372036854775807 : Int).tdiv y < x) = False := by apply eq_false; rw [m1]; omega
  have w1 : IntKind.i64.wrap (x * y) = x * y := cl0 (by omega) (by omega)
  have w2 : IntKind.i64.wrap (-(x * y)) = -(x * y) := cl0 (by omega) (by omega)
  rw [de0 (by omega) (by omega)]
  simp +contextual (maxSteps := 2000000) (disch := omega) [-Int.not_lt, -Int.not_le, -Nat.not_lt, -Nat.not_le, sx, ai0, ex, ey, lx, ly, lx', ly', px, py, wq, hn, w1, w2]
 ·have hn : ((9223372036854775807 : Int).tdiv y < x) = True := by apply eq_true; rw [m1]; omega
  by_cases hB : x * y = 9223372036854775808
  ·obtain ⟨k1, k2⟩ := m2.2 hB
   have wk : IntKind.i64.wrap ((9223372036854775807 : Int).tdiv y + 1) = (9223372036854775807 : Int).tdiv y + 1 := cl0 (by omega) (by omega)
   have k3 : (x = (9223372036854775807 : Int).tdiv y + 1) = True := by apply eq_true; exact k2
   have k4 : ((9223372036854775807 : Int).tmod y = y - 1) = True := by apply eq_true; exact k1
   rw [hB]
   first | rw [de0 (by omega) (by omega)] | rw [bW0 (by omega)]
   simp +contextual (maxSteps := 2000000) (disch := omega) [-Int.not_lt, -Int.not_le, -Nat.not_lt, -Nat.not_le, sx, ai0, ex, ey, lx, ly, lx', ly', px, py, wq, hn, wk, k3, k4]
  ·rw [bW0 (by omega)]
   have hno : ¬ ((9223372036854775807 : Int).tmod y = y - 1 /\ x = (9223372036854775807 : Int).tdiv y + 1) := fun h => hB (m2.1 h)
   by_cases k1 : (9223372036854775807 : Int).tmod y = y - 1
   ·have k2 : (x = (9223372036854775807 : Int).tdiv y + 1) = False := by apply eq_false; exact fun h => hno ⟨k1, h⟩
    have wk : IntKind.i64.wrap ((9223372036854775807 : Int).tdiv y + 1) = (9223372036854775807 : Int).tdiv y + 1 \/ (9223372036854775807 : Int).tdiv y = 9223372036854775807 := by
     by_cases h : (9223372036854775807 : Int).tdiv y = 9223372036854775807
     ·exact .inr h
     ·exact .inl (cl0 (by omega) (by omega))
    rcases wk with wk | wk
    ·simp +contextual (maxSteps := 2000000) (disch := omega) [-Int.not_lt, -Int.not_le, -Nat.not_lt, -Nat.not_le, sx, ai0, ex, ey, lx, ly, lx', ly', px, py, wq, hn, wk, k1, k2]
    ·exfalso; have := m1; rw [wk] at this; omega
   ·clear m1 m2 hno hq hpos
    have k2 := eq_false k1
    clear k1
    simp (config := { maxSteps := 2000000 }) (disch := omega) [-Int.not_lt, -Int.not_le, -Nat.not_lt, -Nat.not_le, in0, cl0, leT, leF, ltT, ltF, leTn, leFn, ltTn, ltFn, ai0, ex, ey, lx, ly, lx', ly', px, py, wq, hn, k2]
theorem times_01 (x y : Int) (x1 : 1 <= x) (x2 : x < 9223372036854775808) (y1 : 1 <= y) (y2 : y < 9223372036854775808) :
  Ret prog bF0 [vI (x), vI (-y)] (.tup [vI (fitI (-(x * y))).1, vI (fitI (-(x * y))).2]) := by
 refine af0 aI0 (by simp) ?_
 have ex : (x = 0) = False := by apply eq_false; omega
 have ey : (y = 0) = False := by apply eq_false; omega
 have lx : (x = 9223372036854775808) = False := by apply eq_false; omega
 have ly : (y = 9223372036854775808) = False := by apply eq_false; omega
 have lx' : (x = -9223372036854775808) = False := by apply eq_false; omega
 have ly' : (y = -9223372036854775808) = False := by apply eq_false; omega
 have px : 0 < x := by omega
 have py : 0 < y := by omega
 have hq := c80 (a := 9223372036854775807) (b := y) (by omega) (by omega) (by omega) (by omega)
 have wq : IntKind.i64.wrap ((9223372036854775807 : Int).tdiv y) = (9223372036854775807 : Int).tdiv y := cl0 hq.1 hq.2
 have m1 := ji0 x1 y1
 have m2 := jh0 x1 y1
 have hpos : 0 < x * y := Int.mul_pos px py
 by_cases hA : x * y <= 9223372036854775807
 ·have hn : ((9223372036854775807 : Int).tdiv y < x) = False := by apply eq_false; rw [m1]; omega
  have w1 : IntKind.i64.wrap (x * y) = x * y := cl0 (by omega) (by omega)
  have w2 : IntKind.i64.wrap (-(x * y)) = -(x * y) := cl0 (by omega) (by omega)
  rw [de0 (by omega) (by omega)]
  simp +contextual (maxSteps := 2000000) (disch := omega) [-Int.not_lt, -Int.not_le, -Nat.not_lt, -Nat.not_le, sx, ai0, ex, ey, lx, ly, lx', ly', px, py, wq, hn, w1, w2]
 ·have hn : ((9223372036854775807 : Int).tdiv y < x) = True := by apply eq_true; rw [m1]; omega
  by_cases hB : x * y = 9223372036854775808
  ·obtain ⟨k1, k2⟩ := m2.2 hB
   have wk : IntKind.i64.wrap ((9223372036854775807 : Int).tdiv y + 1) = (9223372036854775807 : Int).tdiv y + 1 := cl0 (by omega) (by omega)
   have k3 : (x = (9223372036854775807 : Int).tdiv y + 1) = True := by apply eq_true; exact k2
   have k4 : ((9223372036854775807 : Int).tmod y = y - 1) = True := by apply eq_true; exact k1
   rw [hB]
   first | rw [de0 (by omega) (by omega)] | rw [bW0 (by omega)]
   simp +contextual (maxSteps := 2000000) (disch := omega) [-Int.not_lt, -Int.not_le, -Nat.not_lt, -Nat.not_le, sx, ai0, ex, ey, lx, ly, lx', ly', px, py, wq, hn, wk, k3, k4]
  ·rw [bW0 (by omega)]
   have hno : ¬ ((9223372036854775807 : Int).tmod y = y - 1 /\ x = (9223372036854775807 : Int).tdiv y + 1) := fun h => hB (m2.1 h)
   by_cases k1 : (9223372036854775807 : Int).tmod y = y - 1
   ·have k2 : (x = (9223372036854775807 : Int).tdiv y + 1) = False := by apply eq_false; exact fun h => hno ⟨k1, h⟩
    have wk : IntKind.i64.wrap ((9223372036854775807 : Int).tdiv y + 1) = (9223372036854775807 : Int).tdiv y + 1 \/ (9223372036854775807 : Int).tdiv y = 9223372036854775807 := by
     by_cases h : (9223372036854775807 : Int).tdiv y = 9223372036854775807
     ·exact .inr h
     ·exact .inl (cl0 (by omega) (by omega))
    rcases wk with wk | wk
    ·simp +contextual (maxSteps := 2000000) (disch := omega) [-Int.not_lt, -Int.not_le, -Nat.not_lt, -Nat.not_le, sx, ai0, ex, ey, lx, ly, lx', ly', px, py, wq, hn, wk, k1, k2]
    ·exfalso; have := m1; rw [wk] at this; omega
   ·clear m1 m2 hno hq hpos
    have k2 := eq_false k1
    clear k1
    simp (config := { maxSteps := 2000000 }) (disch := omega) [-Int.not_lt, -Int.not_le, -Nat.not_lt, -Nat.not_le, in0, cl0, leT, leF, ltT, ltF, leTn, leFn, ltTn, ltFn, ai0, ex, ey, lx, ly, lx', ly', px, py, wq, hn, k2]
theorem times_10 (x y : Int) (x1 : 1 <= x) (x2 : x < 9223372036854775808) (y1 : 1 <= y) (y2 : y < 9223372036854775808) :
  Ret prog bF0 [vI (-x), vI (y)] (.tup [vI (fitI (-(x * y))).1, vI (fitI (-(x * y))).2]) := by
 refine af0 aI0 (by simp) ?_
 have ex : (x = 0) = False := by apply eq_false; omega
 have ey : (y = 0) = False := by apply eq_false; omega
 have lx : (x = 9223372036854775808) = False := by apply eq_false; omega
 have ly : (y = 9223372036854775808) = False := by apply eq_false; omega
 have lx' : (x = -9223372036854775808) = False := by apply eq_false; omega
 have ly' : (y = -9223372036854775808) = False := by apply eq_false; omega
 have px : 0 < x := by omega
 have py : 0 < y := by omega
 have hq := c80 (a := 9223372036854775807) (b := y) (by omega) (by omega) (by omega) (by omega)
 have wq : IntKind.i64.wrap ((9223372036854775807 : Int).tdiv y) = (9223372036854775807 : Int).tdiv y := cl0 hq.1 hq.2
 have m1 := ji0 x1 y1
 have m2 := jh0 x1 y1
 have hpos : 0 < x * y := Int.mul_pos px py
 by_cases hA : x * y <= 9223372036854775807
 ·have hn : ((9223372036854775807 : Int).tdiv y < x) = False := by apply eq_false; rw [m1]; omega
  have w1 : IntKind.i64.wrap (x * y) = x * y := cl0 (by omega) (by omega)
  have w2 : IntKind.i64.wrap (-(x * y)) = -(x * y) := cl0 (by omega) (by omega)
  rw [de0 (by omega) (by omega)]
  simp +contextual (maxSteps := 2000000) (disch := omega) [-Int.not_lt, -Int.not_le, -Nat.not_lt, -Nat.not_le, sx, ai0, ex, ey, lx, ly, lx', ly', px, py, wq, hn, w1, w2]
 ·have hn : ((9223372036854775807 : Int).tdiv y < x) = True := by apply eq_true; rw [m1]; omega
  by_cases hB : x * y = 9223372036854775808
  ·obtain ⟨k1, k2⟩ := m2.2 hB
   have wk : IntKind.i64.wrap ((9223372036854775807 : Int).tdiv y + 1) = (9223372036854775807 : Int).tdiv y + 1 := cl0 (by omega) (by omega)
   have k3 : (x = (9223372036854775807 : Int).tdiv y + 1) = True := by apply eq_true; exact k2
   have k4 : ((9223372036854775807 : Int).tmod y = y - 1) = True := by apply eq_true; exact k1
   rw [hB]
   first | rw [de0 (by omega) (by omega)] | rw [bW0 (by omega)]
   simp +contextual (maxSteps := 2000000) (disch := omega) [-Int.not_lt, -Int.not_le, -Nat.not_lt, -Nat.not_le, sx, ai0, ex, ey, lx, ly, lx', ly', px, py, wq, hn, wk, k3, k4]
  ·rw [bW0 (by omega)]
   have hno : ¬ ((9223372036854775807 : Int).tmod y = y - 1 /\ x = (9223372036854775807 : Int).tdiv y + 1) := fun h => hB (m2.1 h)
   by_cases k1 : (9223372036854775807 : Int).tmod y = y - 1
   ·have k2 : (x = (9223372036854775807 : Int).tdiv y + 1) = False := by apply eq_false; exact fun h => hno ⟨k1, h⟩
    have wk : IntKind.i64.wrap ((9223372036854775807 : Int).tdiv y + 1) = (9223372036854775807 : Int).tdiv y + 1 \/ (9223372036854775807 : Int).tdiv y = 9223372036854775807 := by
     by_cases h : (9223372036854775807 : Int).tdiv y = 9223372036854775807
     ·exact .inr h
     ·exact .inl (cl0 (by omega) (by omega))
    rcases wk with wk | wk
    ·simp +contextual (maxSteps := 2000000) (disch := omega) [-Int.not_lt, -Int.not_le, -Nat.not_lt, -Nat.not_le, sx, ai0, ex, ey, lx, ly, lx', ly', px, py, wq, hn, wk, k1, k2]
    ·exfalso; have := m1; rw [wk] at this; omega
   ·clear m1 m2 hno hq hpos
    have k2 := eq_false k1
    clear k1
    simp (config := { maxSteps := 2000000 }) (disch := omega) [-Int.not_lt, -Int.not_le, -Nat.not_lt, -Nat.not_le, in0, cl0, leT, leF, ltT, ltF, leTn, leFn, ltTn, ltFn, ai0, ex, ey, lx, ly, lx', ly', px, py, wq, hn, k2]
theorem times_11 (x y : Int) (x1 : 1 <= x) (x2 : x < 9223372036854775808) (y1 : 1 <= y) (y2 : y < 9223372036854775808) :
  Ret prog bF0 [vI (-x), vI (-y)] (.tup [vI (fitI (x * y)).1, vI (fitI (x * y)).2]) := by
 refine af0 aI0 (by simp) ?_
 have ex : (x = 0) = False := by apply eq_false; omega
 have ey : (y = 0) = False := by apply eq_false; omega
 have lx : (x = 9223372036854775808) = False := by apply eq_false; omega
 have ly : (y = 9223372036854775808) = False := by apply eq_false; omega
 have lx' : (x = -9223372036854775808) = False := by apply eq_false; omega
 have ly' : (y = -9223372036854775808) = False := by apply eq_false; omega
 have px : 0 < x := by omega
 have py : 0 < y := by omega
 have hq := c80 (a := 9223372036854775807) (b := y) (by omega) (by omega) (by omega) (by omega)
 have wq : IntKind.i64.wrap ((9223372036854775807 : Int).tdiv y) = (9223372036854775807 : Int).tdiv y := cl0 hq.1 hq.2
 have m1 := ji0 x1 y1
 have m2 := jh0 x1 y1
 have hpos : 0 < x * y := Int.mul_pos px py
 by_cases hA : x * y <= 9223372036854775807
 ·have hn : ((9223372036854775807 : Int).tdiv y < x) = False := by apply eq_false; rw [m1]; omega
  have w1 : IntKind.i64.wrap (x * y) = x * y := cl0 (by omega) (by omega)
  have w2 : IntKind.i64.wrap (-(x * y)) = -(x * y) := cl0 (by omega) (by omega)
  rw [de0 (by omega) (by omega)]
  simp +contextual (maxSteps := 2000000) (disch := omega) [-Int.not_lt, -Int.not_le, -Nat.not_lt, -Nat.not_le, sx, ai0, ex, ey, lx, ly, lx', ly', px, py, wq, hn, w1, w2]
 ·have hn : ((9223372036854775807 : Int).tdiv y < x) = True := by apply eq_true; rw [m1]; omega
  by_cases hB : x * y = 9223372036854775808
  ·obtain ⟨k1, k2⟩ := m2.2 hB
   have wk : IntKind.i64.wrap ((9223372036854775807 : Int).tdiv y + 1) = (9223372036854775807 : Int).tdiv y + 1 := cl0 (by omega) (by omega)
   have k3 : (x = (9223372036854775807 : Int).tdiv y + 1) = True := by apply eq_true; exact k2
   have k4 : ((9223372036854775807 : Int).tmod y = y - 1) = True := by apply eq_true; exact k1
   rw [hB]
   first | rw [de0 (by omega) (by omega)] | rw [bW0 (by omega)]
   simp +contextual (maxSteps := 2000000) (disch := omega) [-Int.not_lt, -Int.not_le, -Nat.not_lt, -Nat.not_le, sx, ai0, ex, ey, lx, ly, lx', ly', px, py, wq, hn, wk, k3, k4]
  ·rw [bW0 (by omega)]
   have hno : ¬ ((9223372036854775807 : Int).tmod y = y - 1 /\ x = (9223372036854775807 : Int).tdiv y + 1) := fun h => hB (m2.1 h)
   by_cases k1 : (9223372036854775807 : Int).tmod y = y - 1
   ·have k2 : (x = (9223372036854775807 : Int).tdiv y + 1) = False := by apply eq_false; exact fun h => hno ⟨k1, h⟩
    have wk : IntKind.i64.wrap ((9223372036854775807 : Int).tdiv y + 1) = (9223372036854775807 : Int).tdiv y + 1 \/ (9223372036854775807 : Int).tdiv y = 9223372036854775807 := by
     by_cases h : (9223372036854775807 : Int).tdiv y = 9223372036854775807
     ·exact .inr h
     ·exact .inl (cl0 (by omega) (by omega))
    rcases wk with wk | wk
    ·simp +contextual (maxSteps := 2000000) (disch := omega) [-Int.not_lt, -Int.not_le, -Nat.not_lt, -Nat.not_le, sx, ai0, ex, ey, lx, ly, lx', ly', px, py, wq, hn, wk, k1, k2]
    ·exfalso; have := m1; rw [wk] at this; omega
   ·clear m1 m2 hno hq hpos
    have k2 := eq_false k1
    clear k1
    simp (config := { maxSteps := 2000000 }) (disch := omega) [-Int.not_lt, -Int.not_le, -Nat.not_lt, -Nat.not_le, in0, cl0, leT, leF, ltT, ltF, leTn, leFn, ltTn, ltFn, ai0, ex, ey, lx, ly, lx', ly', px, py, wq, hn, k2]
theorem iO0 (a b : Int) (a1 : -9223372036854775808 <= a) (a2 : a < 9223372036854775808) (b1 : -9223372036854775808 <= b) (b2 : b < 9223372036854775808) :
  Ret prog bF0 [vI a, vI b] (.tup [vI (fitI (a * b)).1, vI (fitI (a * b)).2]) := by
 by_cases ha : a = 0
 ·subst ha
  refine af0 aI0 (by simp) ?_
  simp +contextual (maxSteps := 2000000) (disch := omega) [-Int.not_lt, -Int.not_le, -Nat.not_lt, -Nat.not_le, sx, ai0, fitI]
 by_cases hb : b = 0
 ·subst hb
  refine af0 aI0 (by simp) ?_
  simp +contextual (maxSteps := 2000000) (disch := omega) [-Int.not_lt, -Int.not_le, -Nat.not_lt, -Nat.not_le, sx, ai0, fitI, ha]
 by_cases hla : a = -9223372036854775808
 ·subst hla
  by_cases h1 : b = 1
  ·subst h1
   refine af0 aI0 (by simp) ?_
   simp +contextual (maxSteps := 2000000) (disch := omega) [-Int.not_lt, -Int.not_le, -Nat.not_lt, -Nat.not_le, sx, ai0, fitI]
  ·rw [bW0 (by omega)]
   refine af0 aI0 (by simp) ?_
   simp +contextual (maxSteps := 2000000) (disch := omega) [-Int.not_lt, -Int.not_le, -Nat.not_lt, -Nat.not_le, sx, ai0, hb, h1]
 by_cases hlb : b = -9223372036854775808
 ·subst hlb
  by_cases h1 : a = 1
  ·subst h1
   refine af0 aI0 (by simp) ?_
   simp +contextual (maxSteps := 2000000) (disch := omega) [-Int.not_lt, -Int.not_le, -Nat.not_lt, -Nat.not_le, sx, ai0, fitI]
  ·rw [bW0 (by omega)]
   refine af0 aI0 (by simp) ?_
   simp +contextual (maxSteps := 2000000) (disch := omega) [-Int.not_lt, -Int.not_le, -Nat.not_lt, -Nat.not_le, sx, ai0, ha, h1, hla]
 rcases Int.lt_or_gt_of_ne ha with ha | ha <;> rcases Int.lt_or_gt_of_ne hb with hb | hb
 ·have h := times_11 (-a) (-b) (by omega) (by omega) (by omega) (by omega)
  rw [Int.neg_mul_neg] at h
  simpa only [Int.neg_neg] using h
 ·have h := times_10 (-a) b (by omega) (by omega) (by omega) (by omega)
  rw [Int.neg_mul] at h
  simpa only [Int.neg_neg] using h
 ·have h := times_01 a (-b) (by omega) (by omega) (by omega) (by omega)
  rw [Int.mul_neg] at h
  simpa only [Int.neg_neg] using h
 ·exact times_00 a b (by omega) (by omega) (by omega) (by omega)
theorem j90 (v : Val) (h0 : -9223372036854775808 <= v.num) (h1 : v.num < 9223372036854775808) : Ret prog eA0 [v.V] (.tup [v.strv.1.V, vI v.strv.2]) := by
 refine af0 lx0 (by simp) ?_
 by_cases hk : v.kind = 1
 ·simp +contextual (maxSteps := 2000000) (disch := omega) [-Int.not_lt, -Int.not_le, -Nat.not_lt, -Nat.not_le, sx, dV0, hk]
  refine ab0 ?_; simp; refine aa0 (g50 v.num h0 h1) (by simp) ?_
  simp +contextual (maxSteps := 2000000) (disch := omega) [-Int.not_lt, -Int.not_le, -Nat.not_lt, -Nat.not_le, sx, Val.strv, hk, Val.str]
 ·simp +contextual (maxSteps := 2000000) (disch := omega) [-Int.not_lt, -Int.not_le, -Nat.not_lt, -Nat.not_le, sx, dV0, Val.strv, Val.zero, hk]
theorem hQ0 (op : Int) (a b : Val) (ho : 9 <= op /\ op <= 13) (ha : a.wt < 2 ^ 40) (hb : b.wt < 2 ^ 40) (hka : a.kind = 1) (hkb : b.kind = 1)
  (a1 : -9223372036854775808 <= a.num) (a2 : a.num < 9223372036854775808) (b1 : -9223372036854775808 <= b.num) (b2 : b.num < 9223372036854775808) :
  Ret prog cp0 [vI op, a.V, b.V] (.tup [(if (arith op a.num b.num).2 ≠ 0 then Val.zero else Val.int (arith op a.num b.num).1).V, vI (arith op a.num b.num).2]) := by
 have fin : ∀ n : Int, Ret prog ey0 [vI n] (Val.int n).V := cq0
 have fe : ∀ x : Int, (fitI x).2 = 0 \/ ((fitI x).2 = 50 /\ (fitI x).1 = 0) := fun x => by unfold fitI; split <;> simp
 refine af0 a00 (by simp) ?_
 have hop : op = 9 \/ op = 10 \/ op = 11 \/ op = 12 \/ op = 13 := by omega
 rcases hop with rfl | rfl | rfl | rfl | rfl
 ·simp +contextual (maxSteps := 2000000) (disch := omega) [-Int.not_lt, -Int.not_le, -Nat.not_lt, -Nat.not_le, sx, ah0, hka, hkb]
  refine ab0 ?_; simp; refine aa0 (aq0 a b ha hb) (by simp) ?_
  simp +contextual (maxSteps := 2000000) (disch := omega) [-Int.not_lt, -Int.not_le, -Nat.not_lt, -Nat.not_le, sx, hka, hkb]
  refine ab0 ?_; simp; refine aa0 (fs0 a.num b.num a1 a2 b1 b2) (by simp) ?_
  rcases fe (a.num + b.num) with h | ⟨h, h'⟩
  ·simp +contextual (maxSteps := 2000000) (disch := omega) [-Int.not_lt, -Int.not_le, -Nat.not_lt, -Nat.not_le, sx, h]
   refine ab0 ?_; simp; refine aa0 (fin _) (by simp) ?_
   simp +contextual (maxSteps := 2000000) (disch := omega) [-Int.not_lt, -Int.not_le, -Nat.not_lt, -Nat.not_le, sx, arith, h]
  ·simp +contextual (maxSteps := 2000000) (disch := omega) [-Int.not_lt, -Int.not_le, -Nat.not_lt, -Nat.not_le, sx, h, arith, Val.zero]
 ·have ea : arith 10 a.num b.num = fitI (a.num - b.num) := by simp [arith]
  by_cases hl : b.num = -9223372036854775808
  ·by_cases h0 : 0 <= a.num
   ·have ef : fitI (a.num - b.num) = (0, 50) := bW0 (by omega)
    rw [ea, ef]
    simp +contextual (maxSteps := 2000000) (disch := omega) [-Int.not_lt, -Int.not_le, -Nat.not_lt, -Nat.not_le, sx, ah0, hka, hkb]
    refine ab0 ?_; simp; refine aa0 (aq0 a b ha hb) (by simp) ?_
    simp +contextual (maxSteps := 2000000) (disch := omega) [-Int.not_lt, -Int.not_le, -Nat.not_lt, -Nat.not_le, sx, hka, hkb, hl, h0, Val.zero]
   ·have ef : fitI (a.num - b.num) = (a.num - b.num, 0) := de0 (by omega) (by omega)
    rw [ea, ef]
    have w1 : IntKind.i64.wrap (a.num + 9223372036854775807) = a.num + 9223372036854775807 := cl0 (by omega) (by omega)
    have w2 : IntKind.i64.wrap (a.num + 9223372036854775807 + 1) = a.num + 9223372036854775807 + 1 := cl0 (by omega) (by omega)
    simp +contextual (maxSteps := 2000000) (disch := omega) [-Int.not_lt, -Int.not_le, -Nat.not_lt, -Nat.not_le, sx, ah0, hka, hkb]
    refine ab0 ?_; simp; refine aa0 (aq0 a b ha hb) (by simp) ?_
    simp +contextual (maxSteps := 2000000) (disch := omega) [-Int.not_lt, -Int.not_le, -Nat.not_lt, -Nat.not_le, sx, hka, hkb, hl, h0, w1, w2]
    refine ab0 ?_; simp; refine aa0 (fin _) (by simp) ?_
    simp +contextual (maxSteps := 2000000) (disch := omega) [-Int.not_lt, -Int.not_le, -Nat.not_lt, -Nat.not_le, sx]
    rw [show a.num + 9223372036854775807 + 1 = a.num + 9223372036854775808 by omega]
  ·have wn : IntKind.i64.wrap (-b.num) = -b.num := cl0 (by omega) (by omega)
   have hl2 : (b.num = -9223372036854775808) = False := eq_false hl
   simp +contextual (maxSteps := 2000000) (disch := omega) [-Int.not_lt, -Int.not_le, -Nat.not_lt, -Nat.not_le, sx, ah0, hka, hkb]
   refine ab0 ?_; simp; refine aa0 (aq0 a b ha hb) (by simp) ?_
   simp +contextual (maxSteps := 2000000) (disch := omega) [-Int.not_lt, -Int.not_le, -Nat.not_lt, -Nat.not_le, sx, hka, hkb, hl2, wn]
   refine ab0 ?_; simp; refine aa0 (fs0 a.num (-b.num) a1 a2 (by omega) (by omega)) (by simp) ?_
   rw [<- Int.sub_eq_add_neg, ea]
   rcases fe (a.num - b.num) with h | ⟨h, h'⟩
   ·simp +contextual (maxSteps := 2000000) (disch := omega) [-Int.not_lt, -Int.not_le, -Nat.not_lt, -Nat.not_le, sx, h]
    refine ab0 ?_; simp; refine aa0 (fin _) (by simp) ?_
    simp +contextual (maxSteps := 2000000) (disch := omega) [-Int.not_lt, -Int.not_le, -Nat.not_lt, -Nat.not_le, sx, h]
   ·simp +contextual (maxSteps := 2000000) (disch := omega) [-Int.not_lt, -Int.not_le, -Nat.not_lt, -Nat.not_le, sx, h, Val.zero]
 ·simp +contextual (maxSteps := 2000000) (disch := omega) [-Int.not_lt, -Int.not_le, -Nat.not_lt, -Nat.not_le, sx, ah0, hka, hkb]
  refine ab0 ?_; simp; refine aa0 (aq0 a b ha hb) (by simp) ?_
  simp +contextual (maxSteps := 2000000) (disch := omega) [-Int.not_lt, -Int.not_le, -Nat.not_lt, -Nat.not_le, sx, hka, hkb]
  refine ab0 ?_; simp; refine aa0 (iO0 a.num b.num a1 a2 b1 b2) (by simp) ?_
  rcases fe (a.num * b.num) with h | ⟨h, h'⟩
  ·simp +contextual (maxSteps := 2000000) (disch := omega) [-Int.not_lt, -Int.not_le, -Nat.not_lt, -Nat.not_le, sx, h]
   refine ab0 ?_; simp; refine aa0 (fin _) (by simp) ?_
   simp +contextual (maxSteps := 2000000) (disch := omega) [-Int.not_lt, -Int.not_le, -Nat.not_lt, -Nat.not_le, sx, arith, h]
  ·simp +contextual (maxSteps := 2000000) (disch := omega) [-Int.not_lt, -Int.not_le, -Nat.not_lt, -Nat.not_le, sx, h, arith, Val.zero]
 ·by_cases hz : b.num = 0
  ·simp +contextual (maxSteps := 2000000) (disch := omega) [-Int.not_lt, -Int.not_le, -Nat.not_lt, -Nat.not_le, sx, ah0, hka, hkb]
   refine ab0 ?_; simp; refine aa0 (aq0 a b ha hb) (by simp) ?_
   simp +contextual (maxSteps := 2000000) (disch := omega) [-Int.not_lt, -Int.not_le, -Nat.not_lt, -Nat.not_le, sx, hka, hkb, hz, arith, Val.zero]
  ·by_cases hov : b.num = -1 /\ a.num = -9223372036854775808
   ·simp +contextual (maxSteps := 2000000) (disch := omega) [-Int.not_lt, -Int.not_le, -Nat.not_lt, -Nat.not_le, sx, ah0, hka, hkb]
    refine ab0 ?_; simp; refine aa0 (aq0 a b ha hb) (by simp) ?_
    simp +contextual (maxSteps := 2000000) (disch := omega) [-Int.not_lt, -Int.not_le, -Nat.not_lt, -Nat.not_le, sx, hka, hkb, hov.1, hov.2, arith, Val.zero]
   ·have ea : arith 12 a.num b.num = (a.num.tdiv b.num, 0) := by simp [arith, hz, hov]
    have hz2 : (b.num = 0) = False := eq_false hz
    rw [ea]
    by_cases hla : a.num = -9223372036854775808
    ·have hm : ¬ b.num = -1 := fun h => hov ⟨h, hla⟩
     have hm2 : (b.num = -1) = False := eq_false hm
     have hf := c80 a1 a2 hz hm
     have wq : IntKind.i64.wrap (a.num.tdiv b.num) = a.num.tdiv b.num := cl0 hf.1 hf.2
     rw [hla, Int.neg_tdiv] at wq
     rw [hla, Int.neg_tdiv]
     simp +contextual (maxSteps := 2000000) (disch := omega) [-Int.not_lt, -Int.not_le, -Nat.not_lt, -Nat.not_le, sx, ah0, hka, hkb]
     refine ab0 ?_; simp; refine aa0 (aq0 a b ha hb) (by simp) ?_
     simp +contextual (maxSteps := 2000000) (disch := omega) [-Int.not_lt, -Int.not_le, -Nat.not_lt, -Nat.not_le, sx, hka, hkb, hz2, hm2, hla, wq]
     refine ab0 ?_; simp; refine aa0 (fin _) (by simp) ?_
     simp +contextual (maxSteps := 2000000) (disch := omega) [-Int.not_lt, -Int.not_le, -Nat.not_lt, -Nat.not_le, sx]
    ·have hla2 : (a.num = -9223372036854775808) = False := eq_false hla
     have wq : IntKind.i64.wrap (a.num.tdiv b.num) = a.num.tdiv b.num := by
      by_cases hm : b.num = -1
      ·rw [hm]; simp only [Int.tdiv_neg, Int.tdiv_one]; exact cl0 (by omega) (by omega)
      ·have hf := c80 a1 a2 hz hm
       exact cl0 hf.1 hf.2
     simp +contextual (maxSteps := 2000000) (disch := omega) [-Int.not_lt, -Int.not_le, -Nat.not_lt, -Nat.not_le, sx, ah0, hka, hkb]
     refine ab0 ?_; simp; refine aa0 (aq0 a b ha hb) (by simp) ?_
     simp +contextual (maxSteps := 2000000) (disch := omega) [-Int.not_lt, -Int.not_le, -Nat.not_lt, -Nat.not_le, sx, hka, hkb, hz2, hla2, wq]
     refine ab0 ?_; simp; refine aa0 (fin _) (by simp) ?_
     simp +contextual (maxSteps := 2000000) (disch := omega) [-Int.not_lt, -Int.not_le, -Nat.not_lt, -Nat.not_le, sx]
 ·by_cases hz : b.num = 0
  ·simp +contextual (maxSteps := 2000000) (disch := omega) [-Int.not_lt, -Int.not_le, -Nat.not_lt, -Nat.not_le, sx, ah0, hka, hkb]
   refine ab0 ?_; simp; refine aa0 (aq0 a b ha hb) (by simp) ?_
   simp +contextual (maxSteps := 2000000) (disch := omega) [-Int.not_lt, -Int.not_le, -Nat.not_lt, -Nat.not_le, sx, hka, hkb, hz, arith, Val.zero]
  ·have ea : arith 13 a.num b.num = (a.num.tmod b.num, 0) := by simp [arith, hz]
   have hz2 : (b.num = 0) = False := eq_false hz
   rw [ea]
   by_cases hm : b.num = -1
   ·simp +contextual (maxSteps := 2000000) (disch := omega) [-Int.not_lt, -Int.not_le, -Nat.not_lt, -Nat.not_le, sx, ah0, hka, hkb]
    refine ab0 ?_; simp; refine aa0 (aq0 a b ha hb) (by simp) ?_
    simp +contextual (maxSteps := 2000000) (disch := omega) [-Int.not_lt, -Int.not_le, -Nat.not_lt, -Nat.not_le, sx, hka, hkb, hm]
    refine ab0 ?_; simp; refine aa0 (fin _) (by simp) ?_
    simp +contextual (maxSteps := 2000000) (disch := omega) [-Int.not_lt, -Int.not_le, -Nat.not_lt, -Nat.not_le, sx]
   ·have hm2 : (b.num = -1) = False := eq_false hm
    simp +contextual (maxSteps := 2000000) (disch := omega) [-Int.not_lt, -Int.not_le, -Nat.not_lt, -Nat.not_le, sx, ah0, hka, hkb]
    refine ab0 ?_; simp; refine aa0 (aq0 a b ha hb) (by simp) ?_
    simp +contextual (maxSteps := 2000000) (disch := omega) [-Int.not_lt, -Int.not_le, -Nat.not_lt, -Nat.not_le, sx, hka, hkb, hz2, hm2]
    refine ab0 ?_; simp; refine aa0 (fin _) (by simp) ?_
    simp +contextual (maxSteps := 2000000) (disch := omega) [-Int.not_lt, -Int.not_le, -Nat.not_lt, -Nat.not_le, sx]
set_option maxHeartbeats 2000000 in
theorem id0 (op : Int) (a b : Val) (ha : a.wt < 2 ^ 40) (hb : b.wt < 2 ^ 40) (a1 : -9223372036854775808 <= a.num) (a2 : a.num < 9223372036854775808) (b1 : -9223372036854775808 <= b.num) (b2 : b.num < 9223372036854775808) :
  Ret prog cp0 [vI op, a.V, b.V] (.tup [(Val.bin op a b).1.V, vI (Val.bin op a b).2]) := by
 have sa := a.gw0 ha
 have sb := b.gw0 hb
 by_cases h3 : op = 3
 ·subst h3
  refine af0 a00 (by simp) ?_
  simp +contextual (maxSteps := 2000000) (disch := omega) [-Int.not_lt, -Int.not_le, -Nat.not_lt, -Nat.not_le, sx, ah0]
  refine ab0 ?_; simp; refine aa0 (ft0 a b ha hb) (by simp) ?_
  simp +contextual (maxSteps := 2000000) (disch := omega) [-Int.not_lt, -Int.not_le, -Nat.not_lt, -Nat.not_le, sx]
  refine ab0 ?_; simp; refine aa0 (a10 (a.cmp b == 0)) (by simp) ?_
  simp +contextual (maxSteps := 2000000) (disch := omega) [-Int.not_lt, -Int.not_le, -Nat.not_lt, -Nat.not_le, sx, Val.bin]
 by_cases h4 : op = 4
 ·subst h4
  refine af0 a00 (by simp) ?_
  simp +contextual (maxSteps := 2000000) (disch := omega) [-Int.not_lt, -Int.not_le, -Nat.not_lt, -Nat.not_le, sx, ah0]
  refine ab0 ?_; simp; refine aa0 (ft0 a b ha hb) (by simp) ?_
  simp +contextual (maxSteps := 2000000) (disch := omega) [-Int.not_lt, -Int.not_le, -Nat.not_lt, -Nat.not_le, sx]
  refine ab0 ?_; simp; refine aa0 (a10 (!(a.cmp b == 0))) (by simp) ?_
  simp +contextual (maxSteps := 2000000) (disch := omega) [-Int.not_lt, -Int.not_le, -Nat.not_lt, -Nat.not_le, sx, Val.bin]
 by_cases hk : a.kind = b.kind /\ (a.kind = 1 \/ a.kind = 3)
 rotate_left
 ·have e : Val.bin op a b = (Val.zero, 40) := by
   unfold Val.bin
   rw [if_neg h3, if_neg h4, if_pos]
   omega
  rw [e]
  refine af0 a00 (by simp) ?_
  by_cases hkk : a.kind = b.kind
  ·have h5 : ¬ b.kind = 1 := by omega
   have h6 : ¬ b.kind = 3 := by omega
   simp +contextual (maxSteps := 2000000) (disch := omega) [-Int.not_lt, -Int.not_le, -Nat.not_lt, -Nat.not_le, sx, ah0, h3, h4, hkk, h5, h6, Val.zero]
  ·simp +contextual (maxSteps := 2000000) (disch := omega) [-Int.not_lt, -Int.not_le, -Nat.not_lt, -Nat.not_le, sx, ah0, h3, h4, hkk, Val.zero]
 obtain ⟨hkk, hk⟩ := hk
 by_cases hr : op < 3 \/ 13 < op
 ·have e : Val.bin op a b = (Val.zero, 40) := by
   unfold Val.bin
   rw [if_neg h3, if_neg h4, if_neg (by omega), if_neg (by omega), if_neg (by omega), if_pos (by omega)]
  rw [e]
  refine af0 a00 (by simp) ?_
  rcases hk with hk | hk <;> rw [hk] at hkk <;> by_cases h13 : op < 3
  all_goals
   first
    | (simp +contextual (maxSteps := 2000000) (disch := omega) [-Int.not_lt, -Int.not_le, -Nat.not_lt, -Nat.not_le, sx, ah0, h3, h4, hk, <- hkk, h13, Val.zero]
       done)
    | (have h14 : 13 < op := by omega
       simp +contextual (maxSteps := 2000000) (disch := omega) [-Int.not_lt, -Int.not_le, -Nat.not_lt, -Nat.not_le, sx, ah0, h3, h4, hk, <- hkk, h13, h14, Val.zero])
 have r1 : ¬ op < 3 := by omega
 have r2 : ¬ 13 < op := by omega
 by_cases h5 : 5 <= op /\ op <= 8
 ·have hop : op = 5 \/ op = 6 \/ op = 7 \/ op = 8 := by omega
  refine af0 a00 (by simp) ?_
  rcases hk with hk | hk <;> rw [hk] at hkk <;> rcases hop with rfl | rfl | rfl | rfl <;>
   (simp +contextual (maxSteps := 2000000) (disch := omega) [-Int.not_lt, -Int.not_le, -Nat.not_lt, -Nat.not_le, sx, ah0, hk, <- hkk]
    refine ab0 ?_; simp; refine aa0 (aq0 a b ha hb) (by simp) ?_
    simp +contextual (maxSteps := 2000000) (disch := omega) [-Int.not_lt, -Int.not_le, -Nat.not_lt, -Nat.not_le, sx]
    refine ab0 ?_; simp; refine aa0 (a10 _) (by simp) ?_
    simp +contextual (maxSteps := 2000000) (disch := omega) [-Int.not_lt, -Int.not_le, -Nat.not_lt, -Nat.not_le, sx, Val.bin, cmpB, hk, <- hkk])
 by_cases hk3 : a.kind = 3
 ·have hk3' : b.kind = 3 := by omega
  refine af0 a00 (by simp) ?_
  by_cases h9 : op = 9
  ·subst h9
   by_cases hs : (a.text.size : Int) + b.text.size > 256
   ·simp +contextual (maxSteps := 2000000) (disch := omega) [-Int.not_lt, -Int.not_le, -Nat.not_lt, -Nat.not_le, sx, ah0, hk3, hk3']
    refine ab0 ?_; simp; refine aa0 (aq0 a b ha hb) (by simp) ?_
    simp +contextual (maxSteps := 2000000) (disch := omega) [-Int.not_lt, -Int.not_le, -Nat.not_lt, -Nat.not_le, sx, hk3, hk3', Val.bin, Val.zero, hs]
   ·simp +contextual (maxSteps := 2000000) (disch := omega) [-Int.not_lt, -Int.not_le, -Nat.not_lt, -Nat.not_le, sx, ah0, hk3, hk3']
    refine ab0 ?_; simp; refine aa0 (aq0 a b ha hb) (by simp) ?_
    simp +contextual (maxSteps := 2000000) (disch := omega) [-Int.not_lt, -Int.not_le, -Nat.not_lt, -Nat.not_le, sx, hk3, hk3', Val.bin, hs, Val.str]
  ·have e : Val.bin op a b = (Val.zero, 40) := by
    unfold Val.bin
    rw [if_neg h3, if_neg h4, if_neg (by omega), if_neg h5, if_neg (by omega), if_pos (by omega)]
   rw [e]
   have h5' : ¬ op = 5 := by omega
   have h6' : ¬ op = 6 := by omega
   have h7' : ¬ op = 7 := by omega
   have h8' : ¬ op = 8 := by omega
   simp +contextual (maxSteps := 2000000) (disch := omega) [-Int.not_lt, -Int.not_le, -Nat.not_lt, -Nat.not_le, sx, ah0, h3, h4, hk3, hk3', r1, r2]
   refine ab0 ?_; simp; refine aa0 (aq0 a b ha hb) (by simp) ?_
   simp +contextual (maxSteps := 2000000) (disch := omega) [-Int.not_lt, -Int.not_le, -Nat.not_lt, -Nat.not_le, sx, h9, h5', h6', h7', h8', hk3, hk3', Val.zero]
 ·have hk1 : a.kind = 1 := by omega
  have hk1' : b.kind = 1 := by omega
  have e : Val.bin op a b = ((if (arith op a.num b.num).2 ≠ 0 then Val.zero else Val.int (arith op a.num b.num).1), (arith op a.num b.num).2) := by
   unfold Val.bin
   rw [if_neg h3, if_neg h4, if_neg (by omega), if_neg h5, if_neg (by omega), if_neg (by omega)]
   split
   ·rfl
   ·rename_i h; simp only [ne_eq, Decidable.not_not] at h; rw [h]
  rw [e]
  exact hQ0 op a b (by omega) ha hb hk1 hk1' a1 a2 b1 b2
theorem pN0 : ∀ l : List Val, rise l = true ↔ ∀ (j : Nat) (h : j + 2 < l.length), j % 2 = 0 -> l[j].cmp l[j + 2] < 0
 | [] => by simp [rise]
 | [_] => by simp [rise]
 | [_, _] => ⟨fun _ j h => by simp at h; omega, fun _ => rfl⟩
 | x :: y :: z :: l => by
  rw [bV0, Bool.and_eq_true, pN0 (z :: l)]
  constructor
  ·rintro ⟨h1, h2⟩ j hj he
   match j, hj, he with
   | 0, _, _ => simpa [hdLt] using h1
   | 1, _, he => simp at he
   | j + 2, hj, he => exact h2 j (by simpa using hj) (by omega)
  ·intro h
   refine ⟨by simpa [hdLt] using h 0 (by simp) rfl, fun j hj he => ?_⟩
   exact h (j + 2) (by simpa using hj) (by omega)
set_option maxHeartbeats 4000000 in
theorem ml0 (v : Val) : v.wt < 2 ^ 40 -> Ret prog fW0 [v.V] (vB v.sound) := by
 induction v using Val.induct with
 | h v ih =>
 intro hv
 have hs := v.gw0 hv
 have hw := v.cB0
 refine af0 j30 (by simp) ?_
 by_cases hk : v.kind < 1 \/ 5 < v.kind
 ·have e : v.sound = false := by rw [Val.aY0, if_neg (by omega), if_neg (by omega), if_neg (by omega), if_neg (by omega), if_neg (by omega)]
  rw [e]
  rcases hk with hk | hk
  ·simp +contextual (maxSteps := 2000000) (disch := omega) [-Int.not_lt, -Int.not_le, -Nat.not_lt, -Nat.not_le, sx, aB0, hk]
  ·have : ¬ v.kind < 1 := by omega
   simp +contextual (maxSteps := 2000000) (disch := omega) [-Int.not_lt, -Int.not_le, -Nat.not_lt, -Nat.not_le, sx, aB0, this, hk]
 have k1 : ¬ v.kind < 1 := by omega
 have k5 : ¬ 5 < v.kind := by omega
 by_cases ht : v.kind ≠ 3 /\ v.text ≠ noS
 ·have e : v.sound = false := by
   have h3 := ht.1
   have h4 := ht.2
   rw [Val.aY0]; simp [h3, h4]
  rw [e]
  have q1 : (v.kind = 3) = False := eq_false ht.1
  have q2 : (v.text = noS) = False := eq_false ht.2
  simp +contextual (maxSteps := 2000000) (disch := omega) [-Int.not_lt, -Int.not_le, -Nat.not_lt, -Nat.not_le, sx, aB0, k1, k5, q1, q2]
 by_cases hn : 2 < v.kind /\ v.num ≠ 0
 ·have e : v.sound = false := by
   have h4 := hn.2
   rw [Val.aY0, if_neg (by omega), if_neg (by omega)]; simp [h4]
  rw [e]
  have q2 : (v.num = 0) = False := eq_false hn.2
  have q3 := hn.1
  by_cases h3 : v.kind = 3
  ·simp +contextual (maxSteps := 2000000) (disch := omega) [-Int.not_lt, -Int.not_le, -Nat.not_lt, -Nat.not_le, sx, aB0, h3, q2]
  ·have q4 : (v.text = noS) = True := eq_true (Classical.byContradiction fun h => ht ⟨h3, h⟩)
   simp +contextual (maxSteps := 2000000) (disch := omega) [-Int.not_lt, -Int.not_le, -Nat.not_lt, -Nat.not_le, sx, aB0, k1, k5, h3, q2, q3, q4]
 by_cases hl : v.kind < 4 /\ v.list ≠ []
 ·have hlen : v.list.length ≠ 0 := fun h => hl.2 (List.length_eq_zero_iff.1 h)
  have e : v.sound = false := by
   rw [Val.aY0]
   have : v.kind = 1 \/ v.kind = 2 \/ v.kind = 3 := by omega
   rcases this with h | h | h <;> simp [h, hl.2]
  rw [e]
  have q3 : 0 < v.list.length := by omega
  have q5 := hl.1
  by_cases h3 : v.kind = 3
  ·have q2 : v.num = 0 := Classical.byContradiction fun h => hn ⟨by omega, h⟩
   simp +contextual (maxSteps := 2000000) (disch := omega) [-Int.not_lt, -Int.not_le, -Nat.not_lt, -Nat.not_le, sx, aB0, h3, q2, q3]
  ·have q4 : (v.text = noS) = True := eq_true (Classical.byContradiction fun h => ht ⟨h3, h⟩)
   have q6 : ¬ 2 < v.kind := by omega
   simp +contextual (maxSteps := 2000000) (disch := omega) [-Int.not_lt, -Int.not_le, -Nat.not_lt, -Nat.not_le, sx, aB0, k1, k5, h3, q4, q5, q6, q3]
 have hko : v.kind = 1 \/ v.kind = 2 \/ v.kind = 3 \/ v.kind = 4 \/ v.kind = 5 := by omega
 have loop0 : v.kind < 4 -> v.list = [] := fun h => Classical.byContradiction fun h2 => hl ⟨h, h2⟩
 rcases hko with hk | hk | hk | hk | hk
 ·have hnil := loop0 (by omega)
  have q4 : v.text = noS := Classical.byContradiction fun h => ht ⟨by omega, h⟩
  have e : v.sound = true := by rw [Val.aY0]; simp [hk, q4, hnil]
  simp +contextual (maxSteps := 2000000) (disch := omega) [-Int.not_lt, -Int.not_le, -Nat.not_lt, -Nat.not_le, sx, aB0, hk, q4, hnil]
  refine aA0 0 (fun _ => [(47, vI 0), (46, vI 0), (1, .bp (.l 1 0) 0)]) (fun _ => [(.l 1 0, .box v.cells)]) (Wk.subs (by simp) (by simp)) ?_
  intro i hi
  simp +contextual (maxSteps := 2000000) (disch := omega) [-Int.not_lt, -Int.not_le, -Nat.not_lt, -Nat.not_le, sx, hk, e]
 ·have hnil := loop0 (by omega)
  have q4 : v.text = noS := Classical.byContradiction fun h => ht ⟨by omega, h⟩
  have e : v.sound = (decide (v.num = 0) || decide (v.num = 1)) := by rw [Val.aY0]; simp [hk, q4, hnil]
  simp +contextual (maxSteps := 2000000) (disch := omega) [-Int.not_lt, -Int.not_le, -Nat.not_lt, -Nat.not_le, sx, aB0, hk, q4, hnil]
  refine aA0 0 (fun _ => [(47, vI 0), (46, vI 0), (1, .bp (.l 1 0) 0)]) (fun _ => [(.l 1 0, .box v.cells)]) (Wk.subs (by simp) (by simp)) ?_
  intro i hi
  rw [e]
  by_cases h0 : v.num = 0
  ·simp +contextual (maxSteps := 2000000) (disch := omega) [-Int.not_lt, -Int.not_le, -Nat.not_lt, -Nat.not_le, sx, hk, h0]
  ·simp +contextual (maxSteps := 2000000) (disch := omega) [-Int.not_lt, -Int.not_le, -Nat.not_lt, -Nat.not_le, sx, hk, h0]
   rw [Bool.eq_iff_iff]; simp
 ·have hnil := loop0 (by omega)
  have q2 : v.num = 0 := Classical.byContradiction fun h => hn ⟨by omega, h⟩
  have e : v.sound = decide (v.text.size <= 256) := by rw [Val.aY0]; simp [hk, q2, hnil]
  simp +contextual (maxSteps := 2000000) (disch := omega) [-Int.not_lt, -Int.not_le, -Nat.not_lt, -Nat.not_le, sx, aB0, hk, q2, hnil]
  refine aA0 0 (fun _ => [(47, vI 0), (46, vI 0), (1, .bp (.l 1 0) 0)]) (fun _ => [(.l 1 0, .box v.cells)]) (Wk.subs (by simp) (by simp)) ?_
  intro i hi
  rw [e]
  simp +contextual (maxSteps := 2000000) (disch := omega) [-Int.not_lt, -Int.not_le, -Nat.not_lt, -Nat.not_le, sx, hk]
  try omega
 ·have q2 : v.num = 0 := Classical.byContradiction fun h => hn ⟨by omega, h⟩
  have q4 : v.text = noS := Classical.byContradiction fun h => ht ⟨by omega, h⟩
  have e : v.sound = (v.list.all Val.sound && decide (v.list.length <= 64)) := by rw [Val.aY0]; simp [hk, q2, q4]
  simp +contextual (maxSteps := 2000000) (disch := omega) [-Int.not_lt, -Int.not_le, -Nat.not_lt, -Nat.not_le, sx, aB0, hk, q2, q4]
  refine ap0 (fun i : Nat => v.list.length - i) (fun i => [(47, vI i), (46, vI v.list.length), (45, ay0 v.list), (1, .bp (.l 1 0) 0)]) (fun _ => [(.l 1 0, .box v.cells)])
   (fun i => i <= v.list.length /\ ∀ (j : Nat) (h : j < v.list.length), j < i -> v.list[j].sound = true) 0 (by simp) (Wk.subs (by simp) (by simp)) ?_
  rintro i ⟨hi, ho⟩
  simp +contextual (maxSteps := 2000000) (disch := omega) [-Int.not_lt, -Int.not_le, -Nat.not_lt, -Nat.not_le, sx]
  refine ⟨fun hlt => ?_, fun hge => ?_⟩
  ·have hlt : i < v.list.length := by omega
   have hxw := Val.aR0 (List.getElem_mem hlt)
   refine ab0 ?_; simp; refine aa0 (ih _ (List.getElem_mem hlt) (by omega)) (by simp) ?_
   cases hb : v.list[i].sound with
   | false =>
    have e2 : v.list.all Val.sound = false := by rw [List.all_eq_false]; exact ⟨_, List.getElem_mem hlt, by simp [hb]⟩
    rw [e, e2]
    simp +contextual (maxSteps := 2000000) (disch := omega) [-Int.not_lt, -Int.not_le, -Nat.not_lt, -Nat.not_le, sx]
   | true =>
    simp +contextual (maxSteps := 2000000) (disch := omega) [-Int.not_lt, -Int.not_le, -Nat.not_lt, -Nat.not_le, sx, hk]
    refine .of (i + 1) ⟨by omega, fun j h1 h2 => ?_⟩ (by omega) (Wk.subs (by simp) (by simp))
    by_cases hj : j = i
    ·subst hj; exact hb
    ·exact ho j h1 (by omega)
  ·have e2 : v.list.all Val.sound = true := by
    rw [List.all_eq_true]; intro x hx
    obtain ⟨j, hj, rfl⟩ := List.getElem_of_mem hx
    exact ho j hj (by omega)
   rw [e, e2]
   simp +contextual (maxSteps := 2000000) (disch := omega) [-Int.not_lt, -Int.not_le, -Nat.not_lt, -Nat.not_le, sx, hk]
   try omega
 ·have q2 : v.num = 0 := Classical.byContradiction fun h => hn ⟨by omega, h⟩
  have q4 : v.text = noS := Classical.byContradiction fun h => ht ⟨by omega, h⟩
  have e : v.sound = (v.list.all Val.sound && (rise v.list && decide (v.list.length % 2 = 0) && decide (v.list.length <= 128))) := by rw [Val.aY0]; simp [hk, q2, q4]
  simp +contextual (maxSteps := 2000000) (disch := omega) [-Int.not_lt, -Int.not_le, -Nat.not_lt, -Nat.not_le, sx, aB0, hk, q2, q4]
  refine ap0 (fun i : Nat => v.list.length - i) (fun i => [(47, vI i), (46, vI v.list.length), (45, ay0 v.list), (1, .bp (.l 1 0) 0)]) (fun _ => [(.l 1 0, .box v.cells)])
   (fun i => i <= v.list.length /\ (∀ (j : Nat) (h : j < v.list.length), j < i -> v.list[j].sound = true) /\ ∀ (j : Nat) (h : j + 2 < v.list.length), j + 2 < i -> j % 2 = 0 -> v.list[j].cmp v.list[j + 2] < 0) 0 (by simp) (Wk.subs (by simp) (by simp)) ?_
  rintro i ⟨hi, ho, ho2⟩
  simp +contextual (maxSteps := 2000000) (disch := omega) [-Int.not_lt, -Int.not_le, -Nat.not_lt, -Nat.not_le, sx]
  refine ⟨fun hlt => ?_, fun hge => ?_⟩
  ·have hlt : i < v.list.length := by omega
   have hxw := Val.aR0 (List.getElem_mem hlt)
   refine ab0 ?_; simp; refine aa0 (ih _ (List.getElem_mem hlt) (by omega)) (by simp) ?_
   cases hb : v.list[i].sound with
   | false =>
    have e2 : v.list.all Val.sound = false := by rw [List.all_eq_false]; exact ⟨_, List.getElem_mem hlt, by simp [hb]⟩
    rw [e, e2]
    simp +contextual (maxSteps := 2000000) (disch := omega) [-Int.not_lt, -Int.not_le, -Nat.not_lt, -Nat.not_le, sx]
   | true =>
    have ho' : ∀ (j : Nat) (h : j < v.list.length), j < i + 1 -> v.list[j].sound = true := fun j h1 h2 => by
     by_cases hj : j = i
     ·subst hj; exact hb
     ·exact ho j h1 (by omega)
    by_cases hev : i % 2 = 0
    ·by_cases h0 : i = 0
     ·subst h0
      simp +contextual (maxSteps := 2000000) (disch := omega) [-Int.not_lt, -Int.not_le, -Nat.not_lt, -Nat.not_le, sx, hk]
      exact .of 1 ⟨by omega, ho', fun j h1 h2 => by omega⟩ (by omega) (Wk.subs (by simp) (by simp))
     ·have h0' : 0 < i := by omega
      have e2 : (i : Int).tmod 2 = 0 := by rw [Int.tmod_eq_emod_of_nonneg (by omega)]; omega
      obtain ⟨p, rfl⟩ : ∃ p, i = p + 2 := ⟨i - 2, by omega⟩
      have hp : p < v.list.length := by omega
      have hxp := Val.aR0 (List.getElem_mem hp)
      have e3 : ((p : Int) + 2).tmod 2 = 0 := by rw [Int.tmod_eq_emod_of_nonneg (by omega)]; omega
      have hpos : ((0 : Int) < (p : Int) + 2) = True := eq_true (by omega)
      simp +contextual (maxSteps := 2000000) (disch := omega) [-Int.not_lt, -Int.not_le, -Nat.not_lt, -Nat.not_le, sx, hk, e3, hpos]
      refine ab0 ?_; simp; refine aa0 (aq0 v.list[p] v.list[p + 2] (by omega) (by omega)) (by simp) ?_
      simp +contextual (maxSteps := 2000000) (disch := omega) [-Int.not_lt, -Int.not_le, -Nat.not_lt, -Nat.not_le, sx]
      refine ⟨fun hc => ?_, fun hc => ?_⟩
      ·have hnr : rise v.list = false := by
        rw [Bool.eq_false_iff]; intro hr
        have := (pN0 _).1 hr p hlt (by omega)
        omega
       rw [e, hnr]
       simp
      ·refine .of (p + 3) ⟨by omega, ho', fun j h1 h2 h3 => ?_⟩ (by omega) (Wk.subs (by simp; omega) (by simp))
       by_cases hj : j = p
       ·subst hj; omega
       ·exact ho2 j h1 (by omega) h3
    ·have e2 : (i : Int).tmod 2 = 1 := by rw [Int.tmod_eq_emod_of_nonneg (by omega)]; omega
     simp +contextual (maxSteps := 2000000) (disch := omega) [-Int.not_lt, -Int.not_le, -Nat.not_lt, -Nat.not_le, sx, hk, e2]
     refine .of (i + 1) ⟨by omega, ho', fun j h1 h2 h3 => ho2 j h1 (by omega) h3⟩ (by omega) (Wk.subs (by simp) (by simp))
  ·have e2 : v.list.all Val.sound = true := by
    rw [List.all_eq_true]; intro x hx
    obtain ⟨j, hj, rfl⟩ := List.getElem_of_mem hx
    exact ho j hj (by omega)
   have e3 : rise v.list = true := (pN0 _).2 fun j h1 h2 => ho2 j h1 (by omega) h2
   have e4 : (v.list.length : Int).tmod 2 = ((v.list.length % 2 : Nat) : Int) := by rw [Int.tmod_eq_emod_of_nonneg (by omega)]; omega
   rw [e, e2, e3]
   by_cases hm : v.list.length % 2 = 0
   ·simp +contextual (maxSteps := 2000000) (disch := omega) [-Int.not_lt, -Int.not_le, -Nat.not_lt, -Nat.not_le, sx, hk, e4, hm]
    try omega
   ·simp +contextual (maxSteps := 2000000) (disch := omega) [-Int.not_lt, -Int.not_le, -Nat.not_lt, -Nat.not_le, sx, hk, e4, hm]
    try omega
theorem cw0 (v : Val) (hv : v.wt < 2 ^ 40) : Ret prog fV0 [v.V] (vB (decide (v.wt <= 16384) && v.sound)) := by
 refine af0 j20 (by simp) ?_
 simp +contextual (maxSteps := 2000000) (disch := omega) [-Int.not_lt, -Int.not_le, -Nat.not_lt, -Nat.not_le, sx, e90]
 refine ab0 ?_; simp; refine aa0 (ei0 v (by omega)) (by simp) ?_
 simp +contextual (maxSteps := 2000000) (disch := omega) [-Int.not_lt, -Int.not_le, -Nat.not_lt, -Nat.not_le, sx]
 intro h
 refine ab0 ?_; simp; refine aa0 (ml0 v hv) (by simp) ?_
 simp +contextual (maxSteps := 2000000) (disch := omega) [-Int.not_lt, -Int.not_le, -Nat.not_lt, -Nat.not_le, sx]
abbrev refB (m : Mdl) (row : Id) (n : Nat) (fuel e : Int) : Ob := .box [.lst (m.consts.map Val.cells), .lst (m.funcs.map Fnc.cells), .arr row 0 n, vI fuel, vI e]
def am0 (m : Mdl) (sts : List Val) (fuel e : Int) : List Ob := [refB m (.e 1) sts.length fuel e, .row ac0 4 true (sts.map Val.cells)]
theorem bq0 (m : Mdl) (sts : List Val) (fuel e : Int) :
  J prog c40 [.bp (.e 0) 0, vI e] (am0 m sts fuel 0) (· = .ret (.tup []) (am0 m sts fuel e)) := by
 refine az0 fC0 (by simp [am0]) ?_
 simp +contextual (maxSteps := 2000000) (disch := omega) [-Int.not_lt, -Int.not_le, -Nat.not_lt, -Nat.not_le, sx, cW0, am0, hpE]
 refine endN _ _ (Wk.refl _ _) [] (by simp) ?_
 simp +contextual (maxSteps := 2000000) (disch := omega) [-Int.not_lt, -Int.not_le, -Nat.not_lt, -Nat.not_le, sx]
theorem eX0 (m : Mdl) (sts : List Val) (fuel n : Int) (hn : n <= fuel) (h0 : 0 <= n) (h1 : fuel < 2 ^ 40) :
  J prog bn0 [.bp (.e 0) 0, vI n] (am0 m sts fuel 0) (· = .ret (.tup []) (am0 m sts (fuel - n) 0)) := by
 refine az0 bN0 (by simp [am0]) ?_
 simp +contextual (maxSteps := 2000000) (disch := omega) [-Int.not_lt, -Int.not_le, -Nat.not_lt, -Nat.not_le, sx, bj0, am0, hpE]
 refine endN _ _ (Wk.refl _ _) [] (by simp) ?_
 simp +contextual (maxSteps := 2000000) (disch := omega) [-Int.not_lt, -Int.not_le, -Nat.not_lt, -Nat.not_le, sx]
theorem el0 (m : Mdl) (sts : List Val) (fuel n : Int) (hn : fuel < n) :
  J prog bn0 [.bp (.e 0) 0, vI n] (am0 m sts fuel 0) (· = .ret (.tup []) (am0 m sts 0 54)) := by
 refine az0 bN0 (by simp [am0]) ?_
 simp +contextual (maxSteps := 2000000) (disch := omega) [-Int.not_lt, -Int.not_le, -Nat.not_lt, -Nat.not_le, sx, bj0, am0, hpE]
 have hpO := bq0 m sts 0 54
 simp [am0] at hpO
 refine ad0 [.e 0, .e 1] rfl rfl (by simp) ?_
 simp
 refine ae0 21 hpO (by simp) ?_
 clear hpO
 simp +contextual (maxSteps := 2000000) (disch := omega) [-Int.not_lt, -Int.not_le, -Nat.not_lt, -Nat.not_le, sx]
 refine endN _ _ (Wk.refl _ _) [] (by simp) ?_
 simp +contextual (maxSteps := 2000000) (disch := omega) [-Int.not_lt, -Int.not_le, -Nat.not_lt, -Nat.not_le, sx]
theorem kZ0 (m : Mdl) (sts : List Val) (fuel e n : Int) (h : e ≠ 0) :
  J prog bn0 [.bp (.e 0) 0, vI n] (am0 m sts fuel e) (· = .ret (.tup []) (am0 m sts fuel e)) := by
 refine az0 bN0 (by simp [am0]) ?_
 have h2 := eq_false h
 simp +contextual (maxSteps := 2000000) (disch := omega) [-Int.not_lt, -Int.not_le, -Nat.not_lt, -Nat.not_le, sx, bj0, am0, hpE, h2]
 refine endN _ _ (Wk.refl _ _) [] (by simp) ?_
 simp +contextual (maxSteps := 2000000) (disch := omega) [-Int.not_lt, -Int.not_le, -Nat.not_lt, -Nat.not_le, sx]
def MakeOk (m : Mdl) (sts : List Val) (fuel : Int) (i : Ins) (vs : List Val) (r : Val × Int) : Prop :=
 ∃ x : Val, (r.2 = 0 -> x = r.1) /\ J prog aj0 [.bp (.e 0) 0, i.V, ay0 vs] (am0 m sts fuel 0) (· = .ret x.V (am0 m sts fuel r.2))
section
variable {a b c : List V} {l : List (List V)} {K : List V -> Prop}
theorem eK0 : gr0 (a :: l) 0 K = K a := fa0 rfl
theorem eK1 : gr0 (a :: b :: l) 1 K = K b := fa0 rfl
theorem tl1 {x : Val} {K : V -> Prop} : nthK x.cells.tail 0 K = K (.c (.int .i64 x.num)) := by rw [Val.au0, List.tail_cons]; simp
theorem eK2 : gr0 (a :: b :: c :: l) 2 K = K c := fa0 rfl
end
theorem rJ0 (m : Mdl) (sts : List Val) (fuel a : Int) (x y : Val) (r : Val) (e : Int) (hF : Ret prog cp0 [vI a, x.V, y.V] (.tup [r.V, vI e])) :
  J prog aj0 [.bp (.e 0) 0, (Ins.mk 12 a).V, ay0 [x, y]] (am0 m sts fuel 0) (· = .ret r.V (am0 m sts fuel e)) := by
 refine az0 an0 (by simp [am0]) ?_
 simp +contextual (maxSteps := 2000000) (disch := omega) [-Int.not_lt, -Int.not_le, -Nat.not_lt, -Nat.not_le, sx, ak0, am0, hpE, eK0, eK1, eK2, tl1]
 refine al0 ?_; simp; refine aa0 (hF) (by simp) ?_
 simp +contextual (maxSteps := 2000000) (disch := omega) [-Int.not_lt, -Int.not_le, -Nat.not_lt, -Nat.not_le, sx]
 have hpO := bq0 m sts fuel e
 simp [am0] at hpO
 refine ad0 [.e 0, .e 1] rfl rfl (by simp) ?_
 simp
 refine ae0 146 hpO (by simp) ?_
 clear hpO
 simp +contextual (maxSteps := 2000000) (disch := omega) [-Int.not_lt, -Int.not_le, -Nat.not_lt, -Nat.not_le, sx]
 refine endR _ _ (Wk.refl _ _) [] (by simp) ?_
 simp +contextual (maxSteps := 2000000) (disch := omega) [-Int.not_lt, -Int.not_le, -Nat.not_lt, -Nat.not_le, sx]
theorem rK0 (m : Mdl) (sts : List Val) (fuel a : Int) (x : Val) (r : Val) (e : Int) (hF : Ret prog ez0 [x.V] (.tup [r.V, vI e])) :
  J prog aj0 [.bp (.e 0) 0, (Ins.mk 13 a).V, ay0 [x]] (am0 m sts fuel 0) (· = .ret r.V (am0 m sts fuel e)) := by
 refine az0 an0 (by simp [am0]) ?_
 simp +contextual (maxSteps := 2000000) (disch := omega) [-Int.not_lt, -Int.not_le, -Nat.not_lt, -Nat.not_le, sx, ak0, am0, hpE, eK0, eK1, eK2, tl1]
 refine ab0 ?_; simp; refine aa0 (hF) (by simp) ?_
 simp +contextual (maxSteps := 2000000) (disch := omega) [-Int.not_lt, -Int.not_le, -Nat.not_lt, -Nat.not_le, sx]
 have hpO := bq0 m sts fuel e
 simp [am0] at hpO
 refine ad0 [.e 0, .e 1] rfl rfl (by simp) ?_
 simp
 refine ae0 146 hpO (by simp) ?_
 clear hpO
 simp +contextual (maxSteps := 2000000) (disch := omega) [-Int.not_lt, -Int.not_le, -Nat.not_lt, -Nat.not_le, sx]
 refine endR _ _ (Wk.refl _ _) [] (by simp) ?_
 simp +contextual (maxSteps := 2000000) (disch := omega) [-Int.not_lt, -Int.not_le, -Nat.not_lt, -Nat.not_le, sx]
theorem rN0 (m : Mdl) (sts : List Val) (fuel a : Int) (x : Val) (r : Val) (e : Int) (hF : Ret prog eA0 [x.V] (.tup [r.V, vI e])) :
  J prog aj0 [.bp (.e 0) 0, (Ins.mk 16 a).V, ay0 [x]] (am0 m sts fuel 0) (· = .ret r.V (am0 m sts fuel e)) := by
 refine az0 an0 (by simp [am0]) ?_
 simp +contextual (maxSteps := 2000000) (disch := omega) [-Int.not_lt, -Int.not_le, -Nat.not_lt, -Nat.not_le, sx, ak0, am0, hpE, eK0, eK1, eK2, tl1]
 refine ab0 ?_; simp; refine aa0 (hF) (by simp) ?_
 simp +contextual (maxSteps := 2000000) (disch := omega) [-Int.not_lt, -Int.not_le, -Nat.not_lt, -Nat.not_le, sx]
 have hpO := bq0 m sts fuel e
 simp [am0] at hpO
 refine ad0 [.e 0, .e 1] rfl rfl (by simp) ?_
 simp
 refine ae0 146 hpO (by simp) ?_
 clear hpO
 simp +contextual (maxSteps := 2000000) (disch := omega) [-Int.not_lt, -Int.not_le, -Nat.not_lt, -Nat.not_le, sx]
 refine endR _ _ (Wk.refl _ _) [] (by simp) ?_
 simp +contextual (maxSteps := 2000000) (disch := omega) [-Int.not_lt, -Int.not_le, -Nat.not_lt, -Nat.not_le, sx]
theorem rP0 (m : Mdl) (sts : List Val) (fuel a : Int) (x y : Val) (r : Val) (e : Int) (hF : Ret prog cI0 [x.V, y.V] (.tup [r.V, vI e])) :
  J prog aj0 [.bp (.e 0) 0, (Ins.mk 18 a).V, ay0 [x, y]] (am0 m sts fuel 0) (· = .ret r.V (am0 m sts fuel e)) := by
 refine az0 an0 (by simp [am0]) ?_
 simp +contextual (maxSteps := 2000000) (disch := omega) [-Int.not_lt, -Int.not_le, -Nat.not_lt, -Nat.not_le, sx, ak0, am0, hpE, eK0, eK1, eK2, tl1]
 refine al0 ?_; simp; refine aa0 (hF) (by simp) ?_
 simp +contextual (maxSteps := 2000000) (disch := omega) [-Int.not_lt, -Int.not_le, -Nat.not_lt, -Nat.not_le, sx]
 have hpO := bq0 m sts fuel e
 simp [am0] at hpO
 refine ad0 [.e 0, .e 1] rfl rfl (by simp) ?_
 simp
 refine ae0 146 hpO (by simp) ?_
 clear hpO
 simp +contextual (maxSteps := 2000000) (disch := omega) [-Int.not_lt, -Int.not_le, -Nat.not_lt, -Nat.not_le, sx]
 refine endR _ _ (Wk.refl _ _) [] (by simp) ?_
 simp +contextual (maxSteps := 2000000) (disch := omega) [-Int.not_lt, -Int.not_le, -Nat.not_lt, -Nat.not_le, sx]
theorem rQ0 (m : Mdl) (sts : List Val) (fuel a : Int) (x y : Val) (r : Val) (e : Int) (hF : Ret prog d00 [x.V, y.V] (.tup [r.V, vI e])) :
  J prog aj0 [.bp (.e 0) 0, (Ins.mk 19 a).V, ay0 [x, y]] (am0 m sts fuel 0) (· = .ret r.V (am0 m sts fuel e)) := by
 refine az0 an0 (by simp [am0]) ?_
 simp +contextual (maxSteps := 2000000) (disch := omega) [-Int.not_lt, -Int.not_le, -Nat.not_lt, -Nat.not_le, sx, ak0, am0, hpE, eK0, eK1, eK2, tl1]
 refine al0 ?_; simp; refine aa0 (hF) (by simp) ?_
 simp +contextual (maxSteps := 2000000) (disch := omega) [-Int.not_lt, -Int.not_le, -Nat.not_lt, -Nat.not_le, sx]
 have hpO := bq0 m sts fuel e
 simp [am0] at hpO
 refine ad0 [.e 0, .e 1] rfl rfl (by simp) ?_
 simp
 refine ae0 146 hpO (by simp) ?_
 clear hpO
 simp +contextual (maxSteps := 2000000) (disch := omega) [-Int.not_lt, -Int.not_le, -Nat.not_lt, -Nat.not_le, sx]
 refine endR _ _ (Wk.refl _ _) [] (by simp) ?_
 simp +contextual (maxSteps := 2000000) (disch := omega) [-Int.not_lt, -Int.not_le, -Nat.not_lt, -Nat.not_le, sx]
theorem rR0 (m : Mdl) (sts : List Val) (fuel a : Int) (x y z : Val) (r : Val) (e : Int) (hF : Ret prog ex0 [x.V, y.V, z.V] (.tup [r.V, vI e])) :
  J prog aj0 [.bp (.e 0) 0, (Ins.mk 20 a).V, ay0 [x, y, z]] (am0 m sts fuel 0) (· = .ret r.V (am0 m sts fuel e)) := by
 refine az0 an0 (by simp [am0]) ?_
 simp +contextual (maxSteps := 2000000) (disch := omega) [-Int.not_lt, -Int.not_le, -Nat.not_lt, -Nat.not_le, sx, ak0, am0, hpE, eK0, eK1, eK2, tl1]
 refine al0 ?_; simp; refine aa0 (hF) (by simp) ?_
 simp +contextual (maxSteps := 2000000) (disch := omega) [-Int.not_lt, -Int.not_le, -Nat.not_lt, -Nat.not_le, sx]
 have hpO := bq0 m sts fuel e
 simp [am0] at hpO
 refine ad0 [.e 0, .e 1] rfl rfl (by simp) ?_
 simp
 refine ae0 146 hpO (by simp) ?_
 clear hpO
 simp +contextual (maxSteps := 2000000) (disch := omega) [-Int.not_lt, -Int.not_le, -Nat.not_lt, -Nat.not_le, sx]
 refine endR _ _ (Wk.refl _ _) [] (by simp) ?_
 simp +contextual (maxSteps := 2000000) (disch := omega) [-Int.not_lt, -Int.not_le, -Nat.not_lt, -Nat.not_le, sx]
theorem rS0 (m : Mdl) (sts : List Val) (fuel a : Int) (x y : Val) (r : Val) (e : Int) (hF : Ret prog ev0 [x.V, y.V] (.tup [r.V, vI e])) :
  J prog aj0 [.bp (.e 0) 0, (Ins.mk 21 a).V, ay0 [x, y]] (am0 m sts fuel 0) (· = .ret r.V (am0 m sts fuel e)) := by
 refine az0 an0 (by simp [am0]) ?_
 simp +contextual (maxSteps := 2000000) (disch := omega) [-Int.not_lt, -Int.not_le, -Nat.not_lt, -Nat.not_le, sx, ak0, am0, hpE, eK0, eK1, eK2, tl1]
 refine al0 ?_; simp; refine aa0 (hF) (by simp) ?_
 simp +contextual (maxSteps := 2000000) (disch := omega) [-Int.not_lt, -Int.not_le, -Nat.not_lt, -Nat.not_le, sx]
 have hpO := bq0 m sts fuel e
 simp [am0] at hpO
 refine ad0 [.e 0, .e 1] rfl rfl (by simp) ?_
 simp
 refine ae0 146 hpO (by simp) ?_
 clear hpO
 simp +contextual (maxSteps := 2000000) (disch := omega) [-Int.not_lt, -Int.not_le, -Nat.not_lt, -Nat.not_le, sx]
 refine endR _ _ (Wk.refl _ _) [] (by simp) ?_
 simp +contextual (maxSteps := 2000000) (disch := omega) [-Int.not_lt, -Int.not_le, -Nat.not_lt, -Nat.not_le, sx]
theorem rM0 (m : Mdl) (sts : List Val) (fuel a : Int) (x : Val) (n e : Int) (hF : Ret prog ew0 [x.V] (.tup [vI n, vI e])) :
  J prog aj0 [.bp (.e 0) 0, (Ins.mk 15 a).V, ay0 [x]] (am0 m sts fuel 0) (· = .ret (Val.int n).V (am0 m sts fuel e)) := by
 refine az0 an0 (by simp [am0]) ?_
 simp +contextual (maxSteps := 2000000) (disch := omega) [-Int.not_lt, -Int.not_le, -Nat.not_lt, -Nat.not_le, sx, ak0, am0, hpE, eK0, eK1, eK2, tl1]
 refine ab0 ?_; simp; refine aa0 (hF) (by simp) ?_
 simp +contextual (maxSteps := 2000000) (disch := omega) [-Int.not_lt, -Int.not_le, -Nat.not_lt, -Nat.not_le, sx]
 refine ab0 ?_; simp; refine aa0 (cq0 n) (by simp) ?_
 simp +contextual (maxSteps := 2000000) (disch := omega) [-Int.not_lt, -Int.not_le, -Nat.not_lt, -Nat.not_le, sx]
 have hpO := bq0 m sts fuel e
 simp [am0] at hpO
 refine ad0 [.e 0, .e 1] rfl rfl (by simp) ?_
 simp
 refine ae0 146 hpO (by simp) ?_
 clear hpO
 simp +contextual (maxSteps := 2000000) (disch := omega) [-Int.not_lt, -Int.not_le, -Nat.not_lt, -Nat.not_le, sx]
 refine endR _ _ (Wk.refl _ _) [] (by simp) ?_
 simp +contextual (maxSteps := 2000000) (disch := omega) [-Int.not_lt, -Int.not_le, -Nat.not_lt, -Nat.not_le, sx]
theorem rL0 (m : Mdl) (sts : List Val) (fuel a : Int) (x : Val) (hk : x.kind = 2) :
  J prog aj0 [.bp (.e 0) 0, (Ins.mk 14 a).V, ay0 [x]] (am0 m sts fuel 0) (· = .ret (Val.bool (decide (x.num = 0))).V (am0 m sts fuel 0)) := by
 refine az0 an0 (by simp [am0]) ?_
 simp +contextual (maxSteps := 2000000) (disch := omega) [-Int.not_lt, -Int.not_le, -Nat.not_lt, -Nat.not_le, sx, ak0, am0, hpE, eK0, eK1, eK2, tl1, hk]
 refine ab0 ?_; simp; refine aa0 (a10 (decide (x.num = 0))) (by simp) ?_
 simp +contextual (maxSteps := 2000000) (disch := omega) [-Int.not_lt, -Int.not_le, -Nat.not_lt, -Nat.not_le, sx]
 have hpO := bq0 m sts fuel 0
 simp [am0] at hpO
 refine ad0 [.e 0, .e 1] rfl rfl (by simp) ?_
 simp
 refine ae0 146 hpO (by simp) ?_
 clear hpO
 simp +contextual (maxSteps := 2000000) (disch := omega) [-Int.not_lt, -Int.not_le, -Nat.not_lt, -Nat.not_le, sx]
 refine endR _ _ (Wk.refl _ _) [] (by simp) ?_
 simp +contextual (maxSteps := 2000000) (disch := omega) [-Int.not_lt, -Int.not_le, -Nat.not_lt, -Nat.not_le, sx]
theorem q60 (m : Mdl) (sts : List Val) (fuel a : Int) (x : Val) (hk : x.kind ≠ 2) :
  J prog aj0 [.bp (.e 0) 0, (Ins.mk 14 a).V, ay0 [x]] (am0 m sts fuel 0) (· = .ret (Val.bool (decide (x.num = 0))).V (am0 m sts fuel 40)) := by
 refine az0 an0 (by simp [am0]) ?_
 simp +contextual (maxSteps := 2000000) (disch := omega) [-Int.not_lt, -Int.not_le, -Nat.not_lt, -Nat.not_le, sx, ak0, am0, hpE, eK0, eK1, eK2, tl1, hk]
 refine ab0 ?_; simp; refine aa0 (a10 (decide (x.num = 0))) (by simp) ?_
 simp +contextual (maxSteps := 2000000) (disch := omega) [-Int.not_lt, -Int.not_le, -Nat.not_lt, -Nat.not_le, sx]
 have hpO := bq0 m sts fuel 40
 simp [am0] at hpO
 refine ad0 [.e 0, .e 1] rfl rfl (by simp) ?_
 simp
 refine ae0 146 hpO (by simp) ?_
 clear hpO
 simp +contextual (maxSteps := 2000000) (disch := omega) [-Int.not_lt, -Int.not_le, -Nat.not_lt, -Nat.not_le, sx]
 refine endR _ _ (Wk.refl _ _) [] (by simp) ?_
 simp +contextual (maxSteps := 2000000) (disch := omega) [-Int.not_lt, -Int.not_le, -Nat.not_lt, -Nat.not_le, sx]
theorem rO0 (m : Mdl) (sts : List Val) (fuel a : Int) (x y : Val) (r : Val) (e : Int) (hF : Ret prog cI0 [x.V, y.V] (.tup [r.V, vI e])) (hk : x.kind = 5) :
  J prog aj0 [.bp (.e 0) 0, (Ins.mk 17 a).V, ay0 [x, y]] (am0 m sts fuel 0) (· = .ret (Val.bool (decide (e = 0))).V (am0 m sts fuel 0)) := by
 refine az0 an0 (by simp [am0]) ?_
 simp +contextual (maxSteps := 2000000) (disch := omega) [-Int.not_lt, -Int.not_le, -Nat.not_lt, -Nat.not_le, sx, ak0, am0, hpE, eK0, eK1, eK2, tl1, hk]
 refine al0 ?_; simp; refine aa0 (hF) (by simp) ?_
 simp +contextual (maxSteps := 2000000) (disch := omega) [-Int.not_lt, -Int.not_le, -Nat.not_lt, -Nat.not_le, sx]
 refine ab0 ?_; simp; refine aa0 (a10 (decide (e = 0))) (by simp) ?_
 simp +contextual (maxSteps := 2000000) (disch := omega) [-Int.not_lt, -Int.not_le, -Nat.not_lt, -Nat.not_le, sx]
 have hpO := bq0 m sts fuel 0
 simp [am0] at hpO
 refine ad0 [.e 0, .e 1] rfl rfl (by simp) ?_
 simp
 refine ae0 146 hpO (by simp) ?_
 clear hpO
 simp +contextual (maxSteps := 2000000) (disch := omega) [-Int.not_lt, -Int.not_le, -Nat.not_lt, -Nat.not_le, sx]
 refine endR _ _ (Wk.refl _ _) [] (by simp) ?_
 simp +contextual (maxSteps := 2000000) (disch := omega) [-Int.not_lt, -Int.not_le, -Nat.not_lt, -Nat.not_le, sx]
theorem q70 (m : Mdl) (sts : List Val) (fuel a : Int) (x y : Val) (r : Val) (e : Int) (hF : Ret prog cI0 [x.V, y.V] (.tup [r.V, vI e])) (hk : x.kind ≠ 5) :
  J prog aj0 [.bp (.e 0) 0, (Ins.mk 17 a).V, ay0 [x, y]] (am0 m sts fuel 0) (· = .ret (Val.bool (decide (e = 0))).V (am0 m sts fuel 40)) := by
 refine az0 an0 (by simp [am0]) ?_
 simp +contextual (maxSteps := 2000000) (disch := omega) [-Int.not_lt, -Int.not_le, -Nat.not_lt, -Nat.not_le, sx, ak0, am0, hpE, eK0, eK1, eK2, tl1, hk]
 refine al0 ?_; simp; refine aa0 (hF) (by simp) ?_
 simp +contextual (maxSteps := 2000000) (disch := omega) [-Int.not_lt, -Int.not_le, -Nat.not_lt, -Nat.not_le, sx]
 refine ab0 ?_; simp; refine aa0 (a10 (decide (e = 0))) (by simp) ?_
 simp +contextual (maxSteps := 2000000) (disch := omega) [-Int.not_lt, -Int.not_le, -Nat.not_lt, -Nat.not_le, sx]
 have hpO := bq0 m sts fuel 40
 simp [am0] at hpO
 refine ad0 [.e 0, .e 1] rfl rfl (by simp) ?_
 simp
 refine ae0 146 hpO (by simp) ?_
 clear hpO
 simp +contextual (maxSteps := 2000000) (disch := omega) [-Int.not_lt, -Int.not_le, -Nat.not_lt, -Nat.not_le, sx]
 refine endR _ _ (Wk.refl _ _) [] (by simp) ?_
 simp +contextual (maxSteps := 2000000) (disch := omega) [-Int.not_lt, -Int.not_le, -Nat.not_lt, -Nat.not_le, sx]
theorem j40 {v : Val} (h : v.good) : v.wt < 2 ^ 40 := by have := h.1.wt; omega
theorem kQ0 {v : Val} (h : v.good) (hk : v.kind = 5) : rise v.list = true /\ v.list.length % 2 = 0 := by
 obtain ⟨_, _, _, h4, h5, _⟩ := rV0 h.2 hk; exact ⟨h4, h5⟩
theorem qK0 {v : Val} (h : v.good) (hk : v.kind = 2) : v.num = 0 \/ v.num = 1 := by
 have h2 := h.2
 rw [Val.aY0] at h2
 simp [hk] at h2
 exact h2.2
theorem rT0 (m : Mdl) (sts : List Val) (fuel op a : Int) (vs : List Val) (r : Val × Int) (h : mk1 op a vs = some r) (hv : ∀ v ∈ vs, v.good) : MakeOk m sts fuel ⟨op, a⟩ vs r := by
 match vs, h, hv with
 | [], h, _ => cases h
 | [x], h, hv =>
  have hx := hv x (by simp)
  have wx := j40 hx
  have nx := hx.1.num
  unfold mk1 at h; simp only at h
  by_cases c : op = 13
  ·subst c
   rw [if_pos rfl] at h; injection h with h; subst h
   exact ⟨_, fun _ => rfl, rK0 m sts fuel a x _ _ (j80 x nx.1 nx.2)⟩
  rw [if_neg c] at h
  by_cases c : op = 14
  ·subst c
   rw [if_pos rfl] at h; injection h with h; subst h
   by_cases hk : x.kind = 2
   ·simp only [hk, if_true]
    refine ⟨_, fun _ => ?_, rL0 m sts fuel a x hk⟩
    rcases qK0 hx hk with h | h <;> simp [h]
   ·simp only [hk, if_false]
    exact ⟨Val.bool (decide (x.num = 0)), fun h => absurd h (by simp), q60 m sts fuel a x hk⟩
  rw [if_neg c] at h
  by_cases c : op = 15
  ·subst c
   rw [if_pos rfl] at h; injection h with h; subst h
   exact ⟨_, fun _ => rfl, rM0 m sts fuel a x _ _ (j70 x wx)⟩
  rw [if_neg c] at h
  by_cases c : op = 16
  ·subst c
   rw [if_pos rfl] at h; injection h with h; subst h
   exact ⟨_, fun _ => rfl, rN0 m sts fuel a x _ _ (j90 x nx.1 nx.2)⟩
  rw [if_neg c] at h; cases h
 | [x, y], h, hv =>
  have hx := hv x (by simp)
  have hy := hv y (by simp)
  have wx := j40 hx
  have wy := j40 hy
  have nx := hx.1.num
  have ny := hy.1.num
  unfold mk1 at h; simp only at h
  by_cases c : op = 12
  ·subst c
   rw [if_pos rfl] at h; injection h with h; subst h
   exact ⟨_, fun _ => rfl, rJ0 m sts fuel a x y _ _ (id0 a x y wx wy nx.1 nx.2 ny.1 ny.2)⟩
  rw [if_neg c] at h
  by_cases c : op = 17
  ·subst c
   rw [if_pos rfl] at h; injection h with h; subst h
   have hF := kY0 x y wx wy fun hk => (kQ0 hx hk).1
   by_cases hk : x.kind = 5
   ·have e1 : x.has y = ((aD0 y x.list 0).2, 0) := by simp [Val.has, hk]
    rw [e1]
    refine ⟨_, fun _ => ?_, rO0 m sts fuel a x y _ _ hF hk⟩
    have : (x.at y).2 = 0 ↔ (aD0 y x.list 0).2 = true := by
     have h4 : ¬ x.kind = 4 := by omega
     unfold Val.at
     rw [if_neg (fun h => h4 h.1), if_pos hk]
     split <;> simp [*]
    cases hb : (aD0 y x.list 0).2 <;> simp [this, hb]
   ·have e1 : x.has y = (false, 40) := by simp [Val.has, hk]
    rw [e1]
    exact ⟨Val.bool (decide ((x.at y).2 = 0)), fun h => absurd h (by simp), q70 m sts fuel a x y _ _ hF hk⟩
  rw [if_neg c] at h
  by_cases c : op = 18
  ·subst c
   rw [if_pos rfl] at h; injection h with h; subst h
   exact ⟨_, fun _ => rfl, rP0 m sts fuel a x y _ _ (kY0 x y wx wy fun hk => (kQ0 hx hk).1)⟩
  rw [if_neg c] at h
  by_cases c : op = 19
  ·subst c
   rw [if_pos rfl] at h; injection h with h; subst h
   exact ⟨_, fun _ => rfl, rQ0 m sts fuel a x y _ _ (nl0 x y wx wy)⟩
  rw [if_neg c] at h
  by_cases c : op = 21
  ·subst c
   rw [if_pos rfl] at h; injection h with h; subst h
   exact ⟨_, fun _ => rfl, rS0 m sts fuel a x y _ _ (n70 x y wx wy (kQ0 hx))⟩
  rw [if_neg c] at h; cases h
 | [x, y, z], h, hv =>
  have hx := hv x (by simp)
  have hy := hv y (by simp)
  have hz := hv z (by simp)
  unfold mk1 at h; simp only at h
  by_cases c : op = 20
  ·subst c
   rw [if_pos rfl] at h; injection h with h; subst h
   exact ⟨_, fun _ => rfl, rR0 m sts fuel a x y z _ _ (n90 x y z (j40 hx) (j40 hy) (j40 hz) (kQ0 hx))⟩
  rw [if_neg c] at h; cases h
 | _ :: _ :: _ :: _ :: _, h, _ => cases h
def Out.oks (P : Val -> Prop) : Out -> Prop
 | .val v sts _ => P v /\ ∀ x ∈ sts, P x
 | .trap e _ _ => e ≠ 0
theorem prim_ne {m : Mdl} {i : Ins} {S S' : Fr} {e : Int} (h : prim m i S = some (.trap e S')) : e ≠ 0 := by
 have hj : ∀ (S : Fr) (a : Int), S.jump a = .trap e S' -> e ≠ 0 := fun S a h => by
  unfold Fr.jump at h
  repeat' split at h
  all_goals first
   | (injection h with h1 h2; subst h1; decide)
   | cases h
 unfold prim at h
 by_cases c : i.a < 0
 ·rw [if_pos c] at h; cases h
 rw [if_neg c] at h
 by_cases c : i.op = 1
 ·rw [if_pos c] at h; obtain ⟨_, _, h⟩ := Option.map_eq_some_iff.1 h; cases h
 rw [if_neg c] at h
 by_cases c : i.op = 2
 ·rw [if_pos c] at h; obtain ⟨_, _, h⟩ := Option.map_eq_some_iff.1 h; cases h
 rw [if_neg c] at h
 by_cases c : i.op = 4
 ·rw [if_pos c] at h; obtain ⟨_, _, h⟩ := Option.map_eq_some_iff.1 h; cases h
 rw [if_neg c] at h
 by_cases c : i.op = 3
 ·rw [if_pos c] at h
  split at h
  ·obtain ⟨_, _, h⟩ := Option.map_eq_some_iff.1 h; cases h
  ·cases h
 rw [if_neg c] at h
 by_cases c : i.op = 5
 ·rw [if_pos c] at h
  split at h
  ·obtain ⟨_, _, h⟩ := Option.map_eq_some_iff.1 h; cases h
  ·cases h
 rw [if_neg c] at h
 by_cases c : i.op = 6
 ·rw [if_pos c] at h; obtain ⟨_, _, h⟩ := Option.map_eq_some_iff.1 h; cases h
 rw [if_neg c] at h
 by_cases c : i.op = 7
 ·rw [if_pos c] at h; injection h with h; exact hj _ _ h
 rw [if_neg c] at h
 by_cases c : i.op = 8
 ·rw [if_pos c] at h
  obtain ⟨p, _, h⟩ := Option.map_eq_some_iff.1 h
  split at h
  ·split at h
   ·cases h
   ·exact hj _ _ h
  ·injection h with h1 h2; subst h1; decide
 rw [if_neg c] at h
 by_cases c : i.op = 11
 ·rw [if_pos c] at h
  injection h with h
  split at h
  ·injection h with h1 h2; subst h1; decide
  ·cases h
 rw [if_neg c] at h
 obtain ⟨p, _, h⟩ := Option.bind_eq_some_iff.1 h
 obtain ⟨r, _, h⟩ := Option.map_eq_some_iff.1 h
 split at h
 ·cases h
 ·injection h with h1 h2; subst h1; assumption
theorem np0 {P : Val -> Prop} (hP : Keeps P) {m : Mdl} (hc : ∀ v ∈ m.consts, P v) : ∀ (g : Nat) {f : Fnc} {S : Fr} {out : Out}, run m g f S = some out -> S.oks P -> out.oks P
 | 0, f, S, out, h, _ => by cases h
 | g + 1, f, S, out, h, hS => by
  rw [run] at h
  by_cases hfit : S.fit
  case neg => rw [if_neg hfit] at h; cases h
  rw [if_pos hfit] at h
  obtain ⟨i, hi, h⟩ := Option.bind_eq_some_iff.1 h
  by_cases h10 : i.op = 10
  ·rw [if_pos h10] at h
   obtain ⟨⟨s, v⟩, hv, rfl⟩ := Option.map_eq_some_iff.1 h
   exact ⟨hS.stk v (by rw [ef0 hv]; simp), hS.sts⟩
  rw [if_neg h10] at h
  by_cases h9 : i.op = 9
  ·rw [if_pos h9] at h
   by_cases ha : i.a < 0
   ·rw [if_pos ha] at h; cases h
   rw [if_neg ha] at h
   by_cases hfu : S.fuel < 1
   ·rw [if_pos hfu] at h; injection h with h; subst h
    show (54 : Int) ≠ 0; decide
   rw [if_neg hfu] at h
   obtain ⟨h', hq, h⟩ := Option.bind_eq_some_iff.1 h
   by_cases hp : h'.params < 0
   ·rw [if_pos hp] at h; cases h
   rw [if_neg hp] at h
   obtain ⟨p, hs, h⟩ := Option.bind_eq_some_iff.1 h
   have hsp := (er0 (s := p.1) (vs := p.2) hs).1
   have h1 : ∀ v ∈ p.1, P v := fun v hv => hS.stk v (by rw [hsp]; simp [hv])
   have h2 : ∀ v ∈ p.2, P v := fun v hv => hS.stk v (by rw [hsp]; simp [hv])
   cases hr : run m g h' (h'.start p.2 S.sts (S.fuel - 1)) with
   | none => rw [hr] at h; cases h
   | some o =>
    rw [hr] at h
    have ho := np0 hP hc g hr ⟨fun v hv => by simp only [Fnc.start] at hv; simp at hv; rcases hv with hv | ⟨_, rfl⟩; exact h2 v hv; exact hP.int0, fun v hv => by simp [Fnc.start] at hv, hS.sts⟩
    cases o with
    | trap e sts fuel => injection h with h; subst h; exact ho
    | val v sts fuel => exact np0 hP hc g h ⟨hS.loc, fun x hx => by simp at hx; rcases hx with hx | rfl; exact h1 x hx; exact ho.1, ho.2⟩
  ·rw [if_neg h9] at h
   cases hp : prim m i { S with at_ := S.at_ + 1 } with
   | none => rw [hp] at h; cases h
   | some r =>
    rw [hp] at h
    have hoks := pH0 hP hp ⟨hS.loc, hS.stk, hS.sts⟩ hc
    cases r with
    | trap e S' => injection h with h; subst h; exact prim_ne hp
    | on S' => exact np0 hP hc g h hoks
def RefOut (m : Mdl) : Out -> Res -> Prop
 | .val v sts fuel, r => r = .ret v.V (am0 m sts fuel 0)
 | .trap e sts fuel, r => r = .ret (Val.mk 0 0 noS []).V (am0 m sts fuel e)
theorem step_stk {m : Mdl} {k : Nat} {f : Fnc} {S : Fr} {i : Ins} {out : Out} (h : (if i.op = 10 then (popL S.stk).map fun p => Out.val p.2 S.sts S.fuel
    else if i.op = 9 then
     if i.a < 0 then none
     else if S.fuel < 1 then some (.trap 54 S.sts 0)
     else (m.funcs[i.a.toNat]?).bind fun h => if h.params < 0 then none else (g40 S.stk h.params.toNat).bind fun p =>
      match run m k h (h.start p.2 S.sts (S.fuel - 1)) with
      | none => none
      | some (.trap e sts fuel) => some (.trap e sts fuel)
      | some (.val v sts fuel) => run m k f { S with stk := p.1 ++ [v], at_ := S.at_ + 1, sts := sts, fuel := fuel }
    else match prim m i { S with at_ := S.at_ + 1 } with
     | none => none
     | some (.trap e S') => some (.trap e S'.sts S'.fuel)
     | some (.on S') => run m k f S') = some out) (h9 : i.op = 9 -> 0 <= i.a /\ i.a.toNat < m.funcs.length /\ 0 <= m.pops i /\ m.pops i <= S.stk.length) :
  ∃ s vs, S.stk = s ++ vs /\ m.pops i = vs.length /\ (i.op ≠ 9 -> i.op ≠ 10 -> 0 <= i.a /\ 1 <= i.op /\ i.op <= 21) := by
 have split : ∀ p : Int, 0 <= p -> p <= S.stk.length -> ∃ s vs, S.stk = s ++ vs /\ p = ((vs : List Val).length : Int) := fun p p0 p1 =>
  ⟨S.stk.take (S.stk.length - p.toNat), S.stk.drop (S.stk.length - p.toNat), (List.take_append_drop _ _).symm, by simp; omega⟩
 by_cases c10 : i.op = 10
 ·rw [if_pos c10] at h
  obtain ⟨⟨s, v⟩, hv, _⟩ := Option.map_eq_some_iff.1 h
  exact ⟨s, [v], ef0 hv, by simp [Mdl.pops, c10], fun _ h => absurd c10 h⟩
 by_cases c9 : i.op = 9
 ·obtain ⟨_, _, p0, p1⟩ := h9 c9
  obtain ⟨s, vs, e1, e2⟩ := split _ p0 p1
  exact ⟨s, vs, e1, e2, fun h => absurd c9 h⟩
 rw [if_neg c10, if_neg c9] at h
 cases hp : prim m i { S with at_ := S.at_ + 1 } with
 | none => rw [hp] at h; cases h
 | some r =>
 clear h
 unfold prim at hp
 by_cases ca : i.a < 0
 ·rw [if_pos ca] at hp; cases hp
 rw [if_neg ca] at hp
 by_cases c1 : i.op = 1
 ·exact ⟨S.stk, [], by simp, by simp [Mdl.pops, c1], fun _ _ => by omega⟩
 rw [if_neg c1] at hp
 by_cases c2 : i.op = 2
 ·exact ⟨S.stk, [], by simp, by simp [Mdl.pops, c2], fun _ _ => by omega⟩
 rw [if_neg c2] at hp
 by_cases c4 : i.op = 4
 ·exact ⟨S.stk, [], by simp, by simp [Mdl.pops, c4], fun _ _ => by omega⟩
 rw [if_neg c4] at hp
 by_cases c3 : i.op = 3
 ·rw [if_pos c3] at hp
  split at hp
  ·obtain ⟨⟨s, v⟩, hv, _⟩ := Option.map_eq_some_iff.1 hp
   exact ⟨s, [v], ef0 hv, by simp [Mdl.pops, c3], fun _ _ => by omega⟩
  ·cases hp
 rw [if_neg c3] at hp
 by_cases c5 : i.op = 5
 ·rw [if_pos c5] at hp
  split at hp
  ·obtain ⟨⟨s, v⟩, hv, _⟩ := Option.map_eq_some_iff.1 hp
   exact ⟨s, [v], ef0 hv, by simp [Mdl.pops, c5], fun _ _ => by omega⟩
  ·cases hp
 rw [if_neg c5] at hp
 by_cases c6 : i.op = 6
 ·rw [if_pos c6] at hp
  obtain ⟨⟨s, v⟩, hv, _⟩ := Option.map_eq_some_iff.1 hp
  exact ⟨s, [v], ef0 hv, by simp [Mdl.pops, c6], fun _ _ => by omega⟩
 rw [if_neg c6] at hp
 by_cases c7 : i.op = 7
 ·exact ⟨S.stk, [], by simp, by simp [Mdl.pops, c7], fun _ _ => by omega⟩
 rw [if_neg c7] at hp
 by_cases c8 : i.op = 8
 ·rw [if_pos c8] at hp
  obtain ⟨⟨s, v⟩, hv, _⟩ := Option.map_eq_some_iff.1 hp
  exact ⟨s, [v], ef0 hv, by simp [Mdl.pops, c8], fun _ _ => by omega⟩
 rw [if_neg c8] at hp
 by_cases c11 : i.op = 11
 ·exact ⟨S.stk, [], by simp, by simp [Mdl.pops, c11], fun _ _ => by omega⟩
 rw [if_neg c11] at hp
 obtain ⟨⟨s, vs⟩, hsp, hp⟩ := Option.bind_eq_some_iff.1 hp
 obtain ⟨r', hr, _⟩ := Option.map_eq_some_iff.1 hp
 obtain ⟨e1, e2⟩ := er0 hsp
 have hop : 1 <= i.op /\ i.op <= 21 := by
  simp only at hr
  match vs, hr with
  | [], hr => cases hr
  | [x], hr => unfold mk1 at hr; simp only at hr; (repeat' split at hr) <;> first | omega | cases hr
  | [x, y], hr => unfold mk1 at hr; simp only at hr; (repeat' split at hr) <;> first | omega | cases hr
  | [x, y, z], hr => unfold mk1 at hr; simp only at hr; (repeat' split at hr) <;> first | omega | cases hr
  | _ :: _ :: _ :: _ :: _, hr => cases hr
 refine ⟨s, vs, e1, ?_, fun _ _ => by omega⟩
 rw [e2]
 unfold Mdl.pops cnt
 (repeat' split) <;> simp <;> omega
end Go.Am
end

section
namespace Go.Am
def nU0 (m : Mdl) (f : Fnc) (S : Fr) : Prop := S.fuel + 1 < 2 ^ 40 /\ ∃ k o, run m k f (S.more 1) = some o
theorem tc0 {m : Mdl} {f : Fnc} {S S' : Fr} {i : Ins} (h : nU0 m f S) (hi : f.code[S.at_.toNat]? = some i) (h9 : i.op ≠ 9) (h10 : i.op ≠ 10) (hp : prim m i { S with at_ := S.at_ + 1 } = some (.on S')) (h0 : 0 <= S.fuel) : nU0 m f S' := by
 obtain ⟨hb, k, o, hr⟩ := h
 obtain ⟨r', hp', hm1, hm2⟩ := q20 (k := 1) (by omega) hp
 have := hm2 (fun h => h)
 subst this
 have hle := hm1 h0
 cases k with
 | zero => cases hr
 | succ k =>
  rw [run] at hr
  by_cases hfit : (S.more 1).fit
  case neg => rw [if_neg hfit] at hr; cases hr
  rw [if_pos hfit, show (S.more 1).at_ = S.at_ from rfl, hi] at hr
  simp only [Option.bind_some] at hr
  rw [if_neg h10, if_neg h9] at hr
  have e : ({ loc := (S.more 1).loc, stk := (S.more 1).stk, at_ := S.at_ + 1, sts := (S.more 1).sts, fuel := (S.more 1).fuel } : Fr) = ({ S with at_ := S.at_ + 1 } : Fr).more 1 := rfl
  rw [e, hp'] at hr
  exact ⟨by simp only [dT0.fuel] at hle; omega, k, o, hr⟩
theorem tb0 {m : Mdl} {f : Fnc} {S : Fr} {i : Ins} (h : nU0 m f S) (hi : f.code[S.at_.toNat]? = some i) (h9 : i.op = 9) (h0 : 0 <= S.fuel) :
  0 <= i.a /\ ∃ (ha : i.a.toNat < m.funcs.length), 0 <= m.funcs[i.a.toNat].params /\ ∃ s vs, g40 S.stk m.funcs[i.a.toNat].params.toNat = some (s, vs) /\ nU0 m m.funcs[i.a.toNat] (m.funcs[i.a.toNat].start vs S.sts (S.fuel - 1)) /\
   ∀ g v sts fu, run m g m.funcs[i.a.toNat] (m.funcs[i.a.toNat].start vs S.sts (S.fuel - 1)) = some (.val v sts fu) -> nU0 m f { S with stk := s ++ [v], at_ := S.at_ + 1, sts := sts, fuel := fu } := by
 obtain ⟨hb, k, o, hr⟩ := h
 cases k with
 | zero => cases hr
 | succ k =>
  rw [run] at hr
  by_cases hfit : (S.more 1).fit
  case neg => rw [if_neg hfit] at hr; cases hr
  have h10 : i.op ≠ 10 := by omega
  rw [if_pos hfit, show (S.more 1).at_ = S.at_ from rfl, hi] at hr
  simp only [Option.bind_some] at hr
  rw [if_neg h10, if_pos h9] at hr
  by_cases ha : i.a < 0
  ·rw [if_pos ha] at hr; cases hr
  rw [if_neg ha, show (S.more 1).fuel = S.fuel + 1 from rfl, if_neg (by omega)] at hr
  obtain ⟨h, hh, hr⟩ := Option.bind_eq_some_iff.1 hr
  obtain ⟨hal, rfl⟩ := List.getElem?_eq_some_iff.1 hh
  by_cases hp0 : m.funcs[i.a.toNat].params < 0
  ·rw [if_pos hp0] at hr; cases hr
  rw [if_neg hp0] at hr
  obtain ⟨⟨s, vs⟩, hsp, hr⟩ := Option.bind_eq_some_iff.1 hr
  refine ⟨by omega, hal, by omega, s, vs, hsp, ?_⟩
  have e : m.funcs[i.a.toNat].start vs (S.more 1).sts (S.fuel + 1 - 1) = (m.funcs[i.a.toNat].start vs S.sts (S.fuel - 1)).more 1 := by
   simp only [Fnc.start, Fr.more, Fr.mk.injEq, true_and]; omega
  simp only at hr
  rw [e] at hr
  cases hc : run m k m.funcs[i.a.toNat] ((m.funcs[i.a.toNat].start vs S.sts (S.fuel - 1)).more 1) with
  | none => rw [hc] at hr; cases hr
  | some o2 =>
   refine ⟨⟨by simp only [Fnc.start]; omega, k, o2, hc⟩, fun g v sts fu hg => ?_⟩
   obtain ⟨q1, q2⟩ := mu0 (k := 1) (by omega) g hg (by simp only [Fnc.start]; omega)
   have q1' : fu <= S.fuel - 1 := q1
   have := run_det hc (q2 (fun h => h))
   subst this
   rw [hc] at hr
   exact ⟨by show fu + 1 < 2 ^ 40; omega, k, o, hr⟩
end Go.Am
end

section
namespace Go.Am
set_option maxRecDepth 100000
attribute [local irreducible] vc vcIs vcI vcOp vcD vcDp vcDR vcT vcAR bp0 aK0 panD neG ne pv J bm0 bl0 bt0 aS0 evK evsK nthK objK boxK rowK bg0 intK strK aggK fnK ifcK aw0 at0 ldK ldaK iaK srcK stK appK appD bv0 pvK br0 aF0 bk0
def RefDoOk (m : Mdl) (g : Nat) : Prop := ∀ (n : Nat) (f : Fnc) (args sts : List Val) (fuel : Int) (out : Out) (hn : n < m.funcs.length), m.funcs[n] = f -> args.length <= f.locals.toNat -> (∀ v ∈ args, v.good) -> (∀ v ∈ sts, v.good) ->
 nU0 m f (f.start args sts fuel) -> run m g f (f.start args sts fuel) = some out -> J prog dz0 [.bp (.e 0) 0, vI n, ay0 args] (am0 m sts fuel 0) (RefOut m out)
set_option maxHeartbeats 4000000 in
theorem ref_Do_ok {m : Mdl} (hm : ∀ f ∈ m.funcs, f.okc) (hc : ∀ v ∈ m.consts, v.good) : ∀ g, RefDoOk m g := by
 intro g
 induction g using Nat.strongRecOn with
 | _ g IH =>
 intro n f args sts fuel out hn hf hargs hga hgs hsp hr
 have hok := hm f (by rw [<- hf]; exact List.getElem_mem hn)
 have hcode := hok.c1
 have hl2 := hok.l1
 have hl : 0 <= f.locals := by have := hok.p0; have := hok.pl; omega
 have ha := hargs
 obtain ⟨L, hL⟩ : ∃ L : Nat, f.locals = (L : Int) := ⟨f.locals.toNat, by omega⟩
 rw [hL] at hl2 ha
 simp only [Int.toNat_natCast] at ha
 refine az0 gV0 (by simp [am0]) ?_
 simp +contextual (maxSteps := 2000000) (disch := omega) [-Int.not_lt, -Int.not_le, -Nat.not_lt, -Nat.not_le, sx, di0, am0, hpE, hf]
 refine ap0 (fun i : Nat => L - i) (fun i => [(8, .arr (.l 998 0) 0 i), (7, .bp (.l 7 0) 0), (6, .bp (.l 6 0) 0), (0, .bp (.e 0) 0)])
  (fun i => [(.l 998 0, .row ac0 4 true ((args ++ List.replicate (i - args.length) (Val.int 0)).map Val.cells)), (.l 7 0, .box f.cells), (.l 6 0, .box [vI 0, vI 0, vS noS, .nil]),
   (.e 0, refB m (.e 1) sts.length fuel 0), (.e 1, .row ac0 4 true (sts.map Val.cells))])
  (fun i => args.length <= i /\ i <= L) args.length ⟨Nat.le_refl _, ha⟩ (Wk.rens (.l 25 0) (.l 998 0) rfl (by simp) (by simp [renF]) (by simp [renF, bw0])) ?_
 rintro i ⟨hi1, hi2⟩
 simp +contextual (maxSteps := 2000000) (disch := omega) [-Int.not_lt, -Int.not_le, -Nat.not_lt, -Nat.not_le, sx, hL]
 refine ⟨fun hlt => ?_, fun hge => ?_⟩
 ·clear hr
  refine ab0 ?_; simp; refine aa0 (cq0 0) (by simp) ?_
  simp +contextual (maxSteps := 2000000) (disch := omega) [-Int.not_lt, -Int.not_le, -Nat.not_lt, -Nat.not_le, sx]
  have hrow : List.take i (args.map Val.cells ++ List.replicate (i - args.length) (Val.int 0).cells) ++ [(Val.int 0).cells] = args.map Val.cells ++ List.replicate (i + 1 - args.length) (Val.int 0).cells := by
   rw [List.take_of_length_le (by simp; omega), List.append_assoc, show i + 1 - args.length = (i - args.length) + 1 by omega, List.replicate_succ']
  refine .of (i + 1) ⟨by omega, by omega⟩ (by omega) (Wk.rens (.l 34 0) (.l 998 0) rfl (by simp) (by simp [renF, hrow]) (by simp [renF, bw0, hrow]))
 have hiL : i = L := by omega
 subst hiL
 refine ap0 (fun y : Nat × Fr × Int => y.1)
  (fun y => [(9, .arr (.l 999 0) 0 y.2.1.stk.length), (8, .arr (.l 998 0) 0 y.2.1.loc.length), (10, vI y.2.1.at_), (7, .bp (.l 7 0) 0), (6, .bp (.l 6 0) 0), (0, .bp (.e 0) 0)])
  (fun y => [(.l 999 0, .row ac0 4 true (y.2.1.stk.map Val.cells)), (.l 998 0, .row ac0 4 true (y.2.1.loc.map Val.cells)), (.l 7 0, .box f.cells), (.l 6 0, .box [vI 0, vI 0, vS noS, .nil]),
   (.e 0, refB m (.e 1) y.2.1.sts.length y.2.1.fuel y.2.2), (.e 1, .row ac0 4 true (y.2.1.sts.map Val.cells))])
  (fun y => (y.2.2 = 0 /\ run m y.1 f y.2.1 = some out /\ y.2.1.oks Val.good /\ y.1 <= g /\ nU0 m f y.2.1) \/ (y.2.2 ≠ 0 /\ out = .trap y.2.2 y.2.1.sts y.2.1.fuel)) (g, f.start args sts fuel, 0)
  (.inl ⟨rfl, hr, ⟨fun v hv => by simp only [Fnc.start] at hv; simp at hv; rcases hv with hv | ⟨_, rfl⟩; exact hga v hv; exact dl0.int0, fun v hv => by simp [Fnc.start] at hv, hgs⟩, Nat.le_refl _, hsp⟩)
  (Wk.trans (Wk.subs (by simp [Fnc.start, hL]; omega) (by simp [Fnc.start, hL])) (Wk.row (s := 9) (id := .l 999 0) (ty := ac0) (sz := 4) rfl)) ?_
 rintro ⟨k, S, e⟩ hinv
 simp only at hinv
 rcases hinv with ⟨rfl, hrun, hoks, hk, hspare⟩ | ⟨he, rfl⟩
 rotate_left
 ·have he2 := eq_false he
  simp +contextual (maxSteps := 2000000) (disch := omega) [-Int.not_lt, -Int.not_le, -Nat.not_lt, -Nat.not_le, sx, he2]
  refine endR _ _ (Wk.refl _ _) [] (by simp) ?_
  simp +contextual (maxSteps := 2000000) (disch := omega) [-Int.not_lt, -Int.not_le, -Nat.not_lt, -Nat.not_le, sx, RefOut, am0]
 cases k with
 | zero => cases hrun
 | succ k =>
 unfold run at hrun
 have hfit : S.fit := Classical.byContradiction fun h => by rw [if_neg h] at hrun; cases hrun
 rw [if_pos hfit] at hrun
 obtain ⟨ins, hci, hrun⟩ := Option.bind_eq_some_iff.1 hrun
 obtain ⟨hal, hce⟩ := List.getElem?_eq_some_iff.1 hci
 have ha0 := hfit.a0
 have hsl := hfit.len
 clear hr hsp
 obtain ⟨loc, stk, at_, sts', fu⟩ := S
 simp only at *
 have hgood := hoks
 simp +contextual (maxSteps := 2000000) (disch := omega) [-Int.not_lt, -Int.not_le, -Nat.not_lt, -Nat.not_le, sx]
 generalize hge : f.code[at_.toNat] = ins' at *
 subst hce
 have hf0 : 0 <= fu := hfit.f0
 have hf1 : fu < 2 ^ 40 := hfit.f1
 have hcall := fun h : ins'.op = 9 => tb0 hspare hci h hf0
 obtain ⟨s, vs, hst, hpops, hrng⟩ := step_stk (S := ⟨loc, stk, at_, sts', fu⟩) hrun (fun h => by
  obtain ⟨q1, q2, q3, s, vs, q4, _⟩ := hcall h
  have q5 := (er0 q4).2
  have q6 := congrArg List.length (er0 q4).1
  have e : m.pops ins' = m.funcs[ins'.a.toNat].params := by simp [Mdl.pops, h, q2]
  simp at q6
  exact ⟨q1, q2, by omega, by simp only; omega⟩)
 simp only at hst
 subst hst
 have got : ins'.op ≠ 9 -> ins'.op ≠ 10 -> ∃ r, prim m ins' ⟨loc, s ++ vs, at_ + 1, sts', fu⟩ = some r := fun h9 h10 => by
  rw [if_neg h10, if_neg h9] at hrun
  cases hp : prim m ins' ⟨loc, s ++ vs, at_ + 1, sts', fu⟩ with
  | none => rw [hp] at hrun; cases hrun
  | some r => exact ⟨r, rfl⟩
 have on : ins'.op ≠ 9 -> ins'.op ≠ 10 -> ∀ S', prim m ins' ⟨loc, s ++ vs, at_ + 1, sts', fu⟩ = some (.on S') -> run m k f S' = some out /\ S'.oks Val.good /\ k <= g /\ nU0 m f S' := fun h9 h10 S' hp => by
  rw [if_neg h10, if_neg h9, hp] at hrun
  exact ⟨hrun, pH0 dl0 hp ⟨hoks.loc, hoks.stk, hoks.sts⟩ hc, by omega, tc0 hspare hci h9 h10 hp hf0⟩
 have off : ins'.op ≠ 9 -> ins'.op ≠ 10 -> ∀ e S', prim m ins' ⟨loc, s ++ vs, at_ + 1, sts', fu⟩ = some (.trap e S') -> e ≠ 0 /\ out = .trap e S'.sts S'.fuel := fun h9 h10 e S' hp => by
  rw [if_neg h10, if_neg h9, hp] at hrun
  injection hrun with hrun
  exact ⟨prim_ne hp, hrun.symm⟩
 obtain ⟨op, a⟩ := ins'
 simp only at got on off hrng hcall
 have hsl2 : s.length + vs.length < 2 ^ 40 := by simpa using hsl
 have hatl : at_ < 2 ^ 40 := by have h : at_.toNat < f.code.length := hal; omega
 have ha0 : 0 <= at_ := ha0
 by_cases c : op = 1
 ·subst c
  obtain rfl : vs = [] := by
   have : m.pops ⟨1, a⟩ = 0 := by simp [Mdl.pops]
   rw [this] at hpops
   exact List.eq_nil_of_length_eq_zero (by omega)
  have hnat : ((s.length : Int) + 0 - 0).toNat = s.length := by omega
  rw [List.append_nil] at *
  obtain ⟨r, hp⟩ := got (by decide) (by decide)
  have hp0 := hp
  have ha := (hrng (by decide) (by decide)).1
  have ha : 0 <= a := ha
  have han : ¬ a < 0 := by omega
  unfold prim at hp
  simp only [han, ↓reduceIte, Int.reduceEq] at hp
  obtain ⟨v, hv, rfl⟩ := Option.map_eq_some_iff.1 hp
  obtain ⟨g1, g2, g3, g4⟩ := on (by decide) (by decide) _ hp0
  obtain ⟨hv1, rfl⟩ := List.getElem?_eq_some_iff.1 hv
  have hgv := hc _ (List.getElem_mem hv1)
  refine al0 ?_; simp; refine aa0 (av0 m ⟨1, a⟩ (by simp)) (by simp) ?_
  rw [hpops]
  simp +contextual (maxSteps := 2000000) (disch := omega) [-Int.not_lt, -Int.not_le, -Nat.not_lt, -Nat.not_le, sx, hnat]
  refine al0 ?_; simp; refine aa0 (ao0 m.consts[a.toNat] (j40 hgv)) (by simp) ?_
  simp +contextual (maxSteps := 2000000) (disch := omega) [-Int.not_lt, -Int.not_le, -Nat.not_lt, -Nat.not_le, sx]
  exact .of (k, ⟨loc, s ++ [m.consts[a.toNat]], at_ + 1, sts', fu⟩, 0) (.inl ⟨rfl, g1, g2, g3, g4⟩) (Nat.lt_succ_self k) (Wk.rens (.l 89 0) (.l 999 0) rfl (by simp) (by simp [renF]) (by simp [renF, bw0]))
 by_cases c : op = 2
 ·subst c
  obtain rfl : vs = [] := by
   have : m.pops ⟨2, a⟩ = 0 := by simp [Mdl.pops]
   rw [this] at hpops
   exact List.eq_nil_of_length_eq_zero (by omega)
  have hnat : ((s.length : Int) + 0 - 0).toNat = s.length := by omega
  rw [List.append_nil] at *
  obtain ⟨r, hp⟩ := got (by decide) (by decide)
  have hp0 := hp
  have ha := (hrng (by decide) (by decide)).1
  have ha : 0 <= a := ha
  have han : ¬ a < 0 := by omega
  unfold prim at hp
  simp only [han, ↓reduceIte, Int.reduceEq] at hp
  obtain ⟨v, hv, rfl⟩ := Option.map_eq_some_iff.1 hp
  obtain ⟨g1, g2, g3, g4⟩ := on (by decide) (by decide) _ hp0
  obtain ⟨hv1, rfl⟩ := List.getElem?_eq_some_iff.1 hv
  refine al0 ?_; simp; refine aa0 (av0 m ⟨2, a⟩ (by simp)) (by simp) ?_
  rw [hpops]
  simp +contextual (maxSteps := 2000000) (disch := omega) [-Int.not_lt, -Int.not_le, -Nat.not_lt, -Nat.not_le, sx, hnat]
  exact .of (k, ⟨loc, s ++ [loc[a.toNat]], at_ + 1, sts', fu⟩, 0) (.inl ⟨rfl, g1, g2, g3, g4⟩) (Nat.lt_succ_self k) (Wk.rens (.l 99 0) (.l 999 0) rfl (by simp) (by simp [renF]) (by simp [renF, bw0]))
 by_cases c : op = 4
 ·subst c
  obtain rfl : vs = [] := by
   have : m.pops ⟨4, a⟩ = 0 := by simp [Mdl.pops]
   rw [this] at hpops
   exact List.eq_nil_of_length_eq_zero (by omega)
  have hnat : ((s.length : Int) + 0 - 0).toNat = s.length := by omega
  rw [List.append_nil] at *
  obtain ⟨r, hp⟩ := got (by decide) (by decide)
  have hp0 := hp
  have ha := (hrng (by decide) (by decide)).1
  have ha : 0 <= a := ha
  have han : ¬ a < 0 := by omega
  unfold prim at hp
  simp only [han, ↓reduceIte, Int.reduceEq] at hp
  obtain ⟨v, hv, rfl⟩ := Option.map_eq_some_iff.1 hp
  obtain ⟨g1, g2, g3, g4⟩ := on (by decide) (by decide) _ hp0
  obtain ⟨hv1, rfl⟩ := List.getElem?_eq_some_iff.1 hv
  refine al0 ?_; simp; refine aa0 (av0 m ⟨4, a⟩ (by simp)) (by simp) ?_
  rw [hpops]
  simp +contextual (maxSteps := 2000000) (disch := omega) [-Int.not_lt, -Int.not_le, -Nat.not_lt, -Nat.not_le, sx, hnat]
  exact .of (k, ⟨loc, s ++ [sts'[a.toNat]], at_ + 1, sts', fu⟩, 0) (.inl ⟨rfl, g1, g2, g3, g4⟩) (Nat.lt_succ_self k) (Wk.rens (.l 121 0) (.l 999 0) rfl (by simp) (by simp [renF]) (by simp [renF, bw0]))
 by_cases c : op = 3
 ·subst c
  obtain ⟨v, rfl⟩ : ∃ v, vs = [v] := by
   have : m.pops ⟨3, a⟩ = 1 := by simp [Mdl.pops]
   rw [this] at hpops
   match vs, hpops with
   | [v], _ => exact ⟨v, rfl⟩
   | [], h => simp at h
   | _ :: _ :: _, h => simp at h; omega
  have hnat : ((s.length : Int) + 1 - 1).toNat = s.length := by omega
  have hv : v.good := hoks.stk v (by simp)
  have hdr : List.take 1 (List.drop s.length (s.map Val.cells ++ [v.cells])) = [v.cells] := by rw [List.drop_append_of_le_length (by simp), List.drop_of_length_le (by simp)]; rfl
  obtain ⟨r, hp⟩ := got (by decide) (by decide)
  have hp0 := hp
  have ha := (hrng (by decide) (by decide)).1
  have ha : 0 <= a := ha
  have han : ¬ a < 0 := by omega
  unfold prim at hp
  simp only [han, ↓reduceIte, Int.reduceEq] at hp
  by_cases hlt : a.toNat < loc.length
  case neg => rw [if_neg hlt] at hp; cases hp
  rw [if_pos hlt, dg0] at hp
  injection hp with hp; subst hp
  obtain ⟨g1, g2, g3, g4⟩ := on (by decide) (by decide) _ hp0
  refine al0 ?_; simp; refine aa0 (av0 m ⟨3, a⟩ (by simp)) (by simp) ?_
  rw [hpops]
  simp +contextual (maxSteps := 2000000) (disch := omega) [-Int.not_lt, -Int.not_le, -Nat.not_lt, -Nat.not_le, sx, hnat, hdr, eK0]
  exact .of (k, ⟨loc.set a.toNat v, s, at_ + 1, sts', fu⟩, 0) (.inl ⟨rfl, g1, g2, g3, g4⟩) (Nat.lt_succ_self k) (Wk.rens (.l 63 0) (.l 999 0) rfl (by simp) (by simp [renF]) (by simp [renF, bw0]))
 by_cases c : op = 5
 ·subst c
  obtain ⟨v, rfl⟩ : ∃ v, vs = [v] := by
   have : m.pops ⟨5, a⟩ = 1 := by simp [Mdl.pops]
   rw [this] at hpops
   match vs, hpops with
   | [v], _ => exact ⟨v, rfl⟩
   | [], h => simp at h
   | _ :: _ :: _, h => simp at h; omega
  have hnat : ((s.length : Int) + 1 - 1).toNat = s.length := by omega
  have hv : v.good := hoks.stk v (by simp)
  have hdr : List.take 1 (List.drop s.length (s.map Val.cells ++ [v.cells])) = [v.cells] := by rw [List.drop_append_of_le_length (by simp), List.drop_of_length_le (by simp)]; rfl
  obtain ⟨r, hp⟩ := got (by decide) (by decide)
  have hp0 := hp
  have ha := (hrng (by decide) (by decide)).1
  have ha : 0 <= a := ha
  have han : ¬ a < 0 := by omega
  unfold prim at hp
  simp only [han, ↓reduceIte, Int.reduceEq] at hp
  by_cases hlt : a.toNat < sts'.length
  case neg => rw [if_neg hlt] at hp; cases hp
  rw [if_pos hlt, dg0] at hp
  injection hp with hp; subst hp
  obtain ⟨g1, g2, g3, g4⟩ := on (by decide) (by decide) _ hp0
  refine al0 ?_; simp; refine aa0 (av0 m ⟨5, a⟩ (by simp)) (by simp) ?_
  rw [hpops]
  simp +contextual (maxSteps := 2000000) (disch := omega) [-Int.not_lt, -Int.not_le, -Nat.not_lt, -Nat.not_le, sx, hnat, hdr, eK0]
  exact .of (k, ⟨loc, s, at_ + 1, sts'.set a.toNat v, fu⟩, 0) (.inl ⟨rfl, g1, g2, g3, g4⟩) (Nat.lt_succ_self k) (Wk.rens (.l 63 0) (.l 999 0) rfl (by simp) (by simp [renF]) (by simp [renF, bw0]))
 by_cases c : op = 6
 ·subst c
  obtain ⟨v, rfl⟩ : ∃ v, vs = [v] := by
   have : m.pops ⟨6, a⟩ = 1 := by simp [Mdl.pops]
   rw [this] at hpops
   match vs, hpops with
   | [v], _ => exact ⟨v, rfl⟩
   | [], h => simp at h
   | _ :: _ :: _, h => simp at h; omega
  have hnat : ((s.length : Int) + 1 - 1).toNat = s.length := by omega
  have hv : v.good := hoks.stk v (by simp)
  have hdr : List.take 1 (List.drop s.length (s.map Val.cells ++ [v.cells])) = [v.cells] := by rw [List.drop_append_of_le_length (by simp), List.drop_of_length_le (by simp)]; rfl
  obtain ⟨r, hp⟩ := got (by decide) (by decide)
  have hp0 := hp
  have ha := (hrng (by decide) (by decide)).1
  have ha : 0 <= a := ha
  have han : ¬ a < 0 := by omega
  unfold prim at hp
  simp only [han, ↓reduceIte, Int.reduceEq] at hp
  rw [dg0] at hp
  injection hp with hp; subst hp
  obtain ⟨g1, g2, g3, g4⟩ := on (by decide) (by decide) _ hp0
  refine al0 ?_; simp; refine aa0 (av0 m ⟨6, a⟩ (by simp)) (by simp) ?_
  rw [hpops]
  simp +contextual (maxSteps := 2000000) (disch := omega) [-Int.not_lt, -Int.not_le, -Nat.not_lt, -Nat.not_le, sx, hnat, hdr, eK0]
  exact .of (k, ⟨loc, s, at_ + 1, sts', fu⟩, 0) (.inl ⟨rfl, g1, g2, g3, g4⟩) (Nat.lt_succ_self k) (Wk.rens (.l 63 0) (.l 999 0) rfl (by simp) (by simp [renF]) (by simp [renF, bw0]))
 by_cases c : op = 7
 ·subst c
  obtain rfl : vs = [] := by
   have : m.pops ⟨7, a⟩ = 0 := by simp [Mdl.pops]
   rw [this] at hpops
   exact List.eq_nil_of_length_eq_zero (by omega)
  have hnat : ((s.length : Int) + 0 - 0).toNat = s.length := by omega
  rw [List.append_nil] at *
  obtain ⟨r, hp⟩ := got (by decide) (by decide)
  have hp0 := hp
  have ha := (hrng (by decide) (by decide)).1
  have ha : 0 <= a := ha
  have han : ¬ a < 0 := by omega
  unfold prim at hp
  simp only [han, ↓reduceIte, Int.reduceEq] at hp
  injection hp with hp
  unfold Fr.jump at hp
  simp only at hp
  refine al0 ?_; simp; refine aa0 (av0 m ⟨7, a⟩ (by simp)) (by simp) ?_
  rw [hpops]
  simp +contextual (maxSteps := 2000000) (disch := omega) [-Int.not_lt, -Int.not_le, -Nat.not_lt, -Nat.not_le, sx, hnat]
  by_cases hle : a <= at_
  ·rw [if_pos (by omega)] at hp
   by_cases hfu : fu < 1
   ·rw [if_pos hfu] at hp; subst hp
    obtain ⟨o1, o2⟩ := off (by decide) (by decide) _ _ hp0
    simp +contextual (maxSteps := 2000000) (disch := omega) [-Int.not_lt, -Int.not_le, -Nat.not_lt, -Nat.not_le, sx, hle]
    have hpO := el0 m sts' fu 1 hfu
    simp [am0] at hpO
    refine ad0 [.e 0, .e 1] rfl rfl (by simp) ?_
    simp
    refine ae0 166 hpO (by simp) ?_
    clear hpO
    simp +contextual (maxSteps := 2000000) (disch := omega) [-Int.not_lt, -Int.not_le, -Nat.not_lt, -Nat.not_le, sx]
    exact .of (k, ⟨loc, s, a, sts', 0⟩, 54) (.inr ⟨o1, o2⟩) (Nat.lt_succ_self k) (Wk.rens (.l 63 0) (.l 999 0) rfl (by simp) (by simp [renF]) (by simp [renF, bw0]))
   ·rw [if_neg hfu] at hp; subst hp
    obtain ⟨g1, g2, g3, g4⟩ := on (by decide) (by decide) _ hp0
    simp +contextual (maxSteps := 2000000) (disch := omega) [-Int.not_lt, -Int.not_le, -Nat.not_lt, -Nat.not_le, sx, hle]
    have hpO := eX0 m sts' fu 1 (by omega) (by omega) hf1
    simp [am0] at hpO
    refine ad0 [.e 0, .e 1] rfl rfl (by simp) ?_
    simp
    refine ae0 166 hpO (by simp) ?_
    clear hpO
    simp +contextual (maxSteps := 2000000) (disch := omega) [-Int.not_lt, -Int.not_le, -Nat.not_lt, -Nat.not_le, sx]
    exact .of (k, ⟨loc, s, a, sts', fu - 1⟩, 0) (.inl ⟨rfl, g1, g2, g3, g4⟩) (Nat.lt_succ_self k) (Wk.rens (.l 63 0) (.l 999 0) rfl (by simp) (by simp [renF]) (by simp [renF, bw0]))
  ·rw [if_neg (by omega)] at hp; subst hp
   obtain ⟨g1, g2, g3, g4⟩ := on (by decide) (by decide) _ hp0
   simp +contextual (maxSteps := 2000000) (disch := omega) [-Int.not_lt, -Int.not_le, -Nat.not_lt, -Nat.not_le, sx, hle]
   exact .of (k, ⟨loc, s, a, sts', fu⟩, 0) (.inl ⟨rfl, g1, g2, g3, g4⟩) (Nat.lt_succ_self k) (Wk.rens (.l 63 0) (.l 999 0) rfl (by simp) (by simp [renF]) (by simp [renF, bw0]))
 by_cases c : op = 8
 ·subst c
  obtain ⟨v, rfl⟩ : ∃ v, vs = [v] := by
   have : m.pops ⟨8, a⟩ = 1 := by simp [Mdl.pops]
   rw [this] at hpops
   match vs, hpops with
   | [v], _ => exact ⟨v, rfl⟩
   | [], h => simp at h
   | _ :: _ :: _, h => simp at h; omega
  have hnat : ((s.length : Int) + 1 - 1).toNat = s.length := by omega
  have hv : v.good := hoks.stk v (by simp)
  have hdr : List.take 1 (List.drop s.length (s.map Val.cells ++ [v.cells])) = [v.cells] := by rw [List.drop_append_of_le_length (by simp), List.drop_of_length_le (by simp)]; rfl
  obtain ⟨r, hp⟩ := got (by decide) (by decide)
  have hp0 := hp
  have ha := (hrng (by decide) (by decide)).1
  have ha : 0 <= a := ha
  have han : ¬ a < 0 := by omega
  unfold prim at hp
  simp only [han, ↓reduceIte, Int.reduceEq] at hp
  rw [dg0] at hp
  simp only [Option.map_some] at hp
  injection hp with hp
  refine al0 ?_; simp; refine aa0 (av0 m ⟨8, a⟩ (by simp)) (by simp) ?_
  rw [hpops]
  simp +contextual (maxSteps := 2000000) (disch := omega) [-Int.not_lt, -Int.not_le, -Nat.not_lt, -Nat.not_le, sx, hnat, hdr, eK0, tl1]
  by_cases hk2 : v.kind = 2
  ·rw [if_pos hk2] at hp
   by_cases hn1 : v.num = 1
   ·rw [if_pos hn1] at hp; subst hp
    obtain ⟨g1, g2, g3, g4⟩ := on (by decide) (by decide) _ hp0
    simp +contextual (maxSteps := 2000000) (disch := omega) [-Int.not_lt, -Int.not_le, -Nat.not_lt, -Nat.not_le, sx, hk2, hn1, eK0, tl1]
    exact .of (k, ⟨loc, s, at_ + 1, sts', fu⟩, 0) (.inl ⟨rfl, g1, g2, g3, g4⟩) (Nat.lt_succ_self k) (Wk.rens (.l 63 0) (.l 999 0) rfl (by simp) (by simp [renF]) (by simp [renF, bw0]))
   ·have hn0 : v.num = 0 := by rcases qK0 hv hk2 with h | h; exact h; exact absurd h hn1
    rw [if_neg hn1] at hp
    unfold Fr.jump at hp
    simp only at hp
    by_cases hle : a <= at_
    ·rw [if_pos (by omega)] at hp
     by_cases hfu : fu < 1
     ·rw [if_pos hfu] at hp; subst hp
      obtain ⟨o1, o2⟩ := off (by decide) (by decide) _ _ hp0
      simp +contextual (maxSteps := 2000000) (disch := omega) [-Int.not_lt, -Int.not_le, -Nat.not_lt, -Nat.not_le, sx, hk2, hn0, hle, eK0, tl1]
      have hpO := el0 m sts' fu 1 hfu
      simp [am0] at hpO
      refine ad0 [.e 0, .e 1] rfl rfl (by simp) ?_
      simp
      refine ae0 166 hpO (by simp) ?_
      clear hpO
      simp +contextual (maxSteps := 2000000) (disch := omega) [-Int.not_lt, -Int.not_le, -Nat.not_lt, -Nat.not_le, sx]
      exact .of (k, ⟨loc, s, a, sts', 0⟩, 54) (.inr ⟨o1, o2⟩) (Nat.lt_succ_self k) (Wk.rens (.l 63 0) (.l 999 0) rfl (by simp) (by simp [renF]) (by simp [renF, bw0]))
     ·rw [if_neg hfu] at hp; subst hp
      obtain ⟨g1, g2, g3, g4⟩ := on (by decide) (by decide) _ hp0
      simp +contextual (maxSteps := 2000000) (disch := omega) [-Int.not_lt, -Int.not_le, -Nat.not_lt, -Nat.not_le, sx, hk2, hn0, hle, eK0, tl1]
      have hpO := eX0 m sts' fu 1 (by omega) (by omega) hf1
      simp [am0] at hpO
      refine ad0 [.e 0, .e 1] rfl rfl (by simp) ?_
      simp
      refine ae0 166 hpO (by simp) ?_
      clear hpO
      simp +contextual (maxSteps := 2000000) (disch := omega) [-Int.not_lt, -Int.not_le, -Nat.not_lt, -Nat.not_le, sx]
      exact .of (k, ⟨loc, s, a, sts', fu - 1⟩, 0) (.inl ⟨rfl, g1, g2, g3, g4⟩) (Nat.lt_succ_self k) (Wk.rens (.l 63 0) (.l 999 0) rfl (by simp) (by simp [renF]) (by simp [renF, bw0]))
    ·rw [if_neg (by omega)] at hp; subst hp
     obtain ⟨g1, g2, g3, g4⟩ := on (by decide) (by decide) _ hp0
     simp +contextual (maxSteps := 2000000) (disch := omega) [-Int.not_lt, -Int.not_le, -Nat.not_lt, -Nat.not_le, sx, hk2, hn0, hle, eK0, tl1]
     exact .of (k, ⟨loc, s, a, sts', fu⟩, 0) (.inl ⟨rfl, g1, g2, g3, g4⟩) (Nat.lt_succ_self k) (Wk.rens (.l 63 0) (.l 999 0) rfl (by simp) (by simp [renF]) (by simp [renF, bw0]))
  ·rw [if_neg hk2] at hp; subst hp
   obtain ⟨o1, o2⟩ := off (by decide) (by decide) _ _ hp0
   simp +contextual (maxSteps := 2000000) (disch := omega) [-Int.not_lt, -Int.not_le, -Nat.not_lt, -Nat.not_le, sx, hk2, eK0, tl1]
   by_cases hn0 : v.num = 0
   ·by_cases hle : a <= at_
    ·have hpO := bq0 m sts' fu 40
     simp [am0] at hpO
     refine ad0 [.e 0, .e 1] rfl rfl (by simp) ?_
     simp
     refine ae0 150 hpO (by simp) ?_
     clear hpO
     simp +contextual (maxSteps := 2000000) (disch := omega) [-Int.not_lt, -Int.not_le, -Nat.not_lt, -Nat.not_le, sx, hn0, hle, eK0, tl1]
     have hpO := kZ0 m sts' fu 40 1 (by decide)
     simp [am0] at hpO
     refine ad0 [.e 0, .e 1] rfl rfl (by simp) ?_
     simp
     refine ae0 166 hpO (by simp) ?_
     clear hpO
     simp +contextual (maxSteps := 2000000) (disch := omega) [-Int.not_lt, -Int.not_le, -Nat.not_lt, -Nat.not_le, sx]
     exact .of (k, ⟨loc, s, a, sts', fu⟩, 40) (.inr ⟨o1, o2⟩) (Nat.lt_succ_self k) (Wk.rens (.l 63 0) (.l 999 0) rfl (by simp) (by simp [renF]) (by simp [renF, bw0]))
    ·have hpO := bq0 m sts' fu 40
     simp [am0] at hpO
     refine ad0 [.e 0, .e 1] rfl rfl (by simp) ?_
     simp
     refine ae0 150 hpO (by simp) ?_
     clear hpO
     simp +contextual (maxSteps := 2000000) (disch := omega) [-Int.not_lt, -Int.not_le, -Nat.not_lt, -Nat.not_le, sx, hn0, hle, eK0, tl1]
     exact .of (k, ⟨loc, s, a, sts', fu⟩, 40) (.inr ⟨o1, o2⟩) (Nat.lt_succ_self k) (Wk.rens (.l 63 0) (.l 999 0) rfl (by simp) (by simp [renF]) (by simp [renF, bw0]))
   ·have hpO := bq0 m sts' fu 40
    simp [am0] at hpO
    refine ad0 [.e 0, .e 1] rfl rfl (by simp) ?_
    simp
    refine ae0 150 hpO (by simp) ?_
    clear hpO
    simp +contextual (maxSteps := 2000000) (disch := omega) [-Int.not_lt, -Int.not_le, -Nat.not_lt, -Nat.not_le, sx, hn0, eK0, tl1]
    exact .of (k, ⟨loc, s, at_ + 1, sts', fu⟩, 40) (.inr ⟨o1, o2⟩) (Nat.lt_succ_self k) (Wk.rens (.l 63 0) (.l 999 0) rfl (by simp) (by simp [renF]) (by simp [renF, bw0]))
 by_cases c : op = 10
 ·subst c
  obtain ⟨v, rfl⟩ : ∃ v, vs = [v] := by
   have : m.pops ⟨10, a⟩ = 1 := by simp [Mdl.pops]
   rw [this] at hpops
   match vs, hpops with
   | [v], _ => exact ⟨v, rfl⟩
   | [], h => simp at h
   | _ :: _ :: _, h => simp at h; omega
  have hnat : ((s.length : Int) + 1 - 1).toNat = s.length := by omega
  have hdr : List.take 1 (List.drop s.length (s.map Val.cells ++ [v.cells])) = [v.cells] := by rw [List.drop_append_of_le_length (by simp), List.drop_of_length_le (by simp)]; rfl
  rw [if_pos rfl, dg0] at hrun
  injection hrun with hrun
  subst hrun
  refine al0 ?_; simp; refine aa0 (av0 m ⟨10, a⟩ (by simp)) (by simp) ?_
  rw [hpops]
  simp +contextual (maxSteps := 2000000) (disch := omega) [-Int.not_lt, -Int.not_le, -Nat.not_lt, -Nat.not_le, sx, hnat, hdr, eK0]
  refine endR _ _ (Wk.refl _ _) [] (by simp) ?_
  simp +contextual (maxSteps := 2000000) (disch := omega) [-Int.not_lt, -Int.not_le, -Nat.not_lt, -Nat.not_le, sx, RefOut, am0]
 by_cases c : op = 11
 ·subst c
  obtain rfl : vs = [] := by
   have : m.pops ⟨11, a⟩ = 0 := by simp [Mdl.pops]
   rw [this] at hpops
   exact List.eq_nil_of_length_eq_zero (by omega)
  have hnat : ((s.length : Int) + 0 - 0).toNat = s.length := by omega
  rw [List.append_nil] at *
  obtain ⟨r, hp⟩ := got (by decide) (by decide)
  have hp0 := hp
  have ha : 0 <= a := (hrng (by decide) (by decide)).1
  have han : ¬ a < 0 := by omega
  unfold prim at hp
  simp only [han, ↓reduceIte, Int.reduceEq] at hp
  injection hp with hp
  by_cases hfu : fu < a
  ·rw [if_pos hfu] at hp; subst hp
   obtain ⟨o1, o2⟩ := off (by decide) (by decide) _ _ hp0
   refine al0 ?_; simp; refine aa0 (av0 m ⟨11, a⟩ (by simp)) (by simp) ?_
   rw [hpops]
   simp +contextual (maxSteps := 2000000) (disch := omega) [-Int.not_lt, -Int.not_le, -Nat.not_lt, -Nat.not_le, sx, hnat]
   have hpO := el0 m sts' fu a hfu
   simp [am0] at hpO
   refine ad0 [.e 0, .e 1] rfl rfl (by simp) ?_
   simp
   refine ae0 196 hpO (by simp) ?_
   clear hpO
   simp +contextual (maxSteps := 2000000) (disch := omega) [-Int.not_lt, -Int.not_le, -Nat.not_lt, -Nat.not_le, sx]
   exact .of (k, ⟨loc, s, at_ + 1, sts', 0⟩, 54) (.inr ⟨o1, o2⟩) (Nat.lt_succ_self k) (Wk.rens (.l 63 0) (.l 999 0) rfl (by simp) (by simp [renF]) (by simp [renF, bw0]))
  ·rw [if_neg hfu] at hp; subst hp
   obtain ⟨g1, g2, g3, g4⟩ := on (by decide) (by decide) _ hp0
   refine al0 ?_; simp; refine aa0 (av0 m ⟨11, a⟩ (by simp)) (by simp) ?_
   rw [hpops]
   simp +contextual (maxSteps := 2000000) (disch := omega) [-Int.not_lt, -Int.not_le, -Nat.not_lt, -Nat.not_le, sx, hnat]
   have hpO := eX0 m sts' fu a (by omega) ha hf1
   simp [am0] at hpO
   refine ad0 [.e 0, .e 1] rfl rfl (by simp) ?_
   simp
   refine ae0 196 hpO (by simp) ?_
   clear hpO
   simp +contextual (maxSteps := 2000000) (disch := omega) [-Int.not_lt, -Int.not_le, -Nat.not_lt, -Nat.not_le, sx]
   exact .of (k, ⟨loc, s, at_ + 1, sts', fu - a⟩, 0) (.inl ⟨rfl, g1, g2, g3, g4⟩) (Nat.lt_succ_self k) (Wk.rens (.l 63 0) (.l 999 0) rfl (by simp) (by simp [renF]) (by simp [renF, bw0]))
 by_cases c : op = 9
 ·subst c
  obtain ⟨q1, q2, q3, s', vs', q4, q5, q6⟩ := hcall rfl
  try simp only at q1 q2 q3 q4 q5 q6
  have epops : m.pops ⟨9, a⟩ = m.funcs[a.toNat].params := by simp [Mdl.pops, q2]
  have eparam : m.funcs[a.toNat].params.toNat = vs.length := by omega
  rw [eparam, hU0] at q4
  injection q4 with q4
  injection q4 with e1 e2
  subst e1 e2
  have hnat : ((s.length : Int) + vs.length - vs.length).toNat = s.length := by omega
  have hdr : List.take vs.length (List.drop s.length (s.map Val.cells ++ vs.map Val.cells)) = vs.map Val.cells := by
   rw [List.drop_append_of_le_length (by simp), List.drop_of_length_le (by simp), List.nil_append, List.take_of_length_le (by simp)]
  have hnm : ((s.length : Int) + vs.length).toNat - s.length = vs.length := by omega
  have htk : List.take vs.length (vs.map Val.cells) = vs.map Val.cells := List.take_of_length_le (by simp)
  have hvs : ∀ v ∈ vs, v.good := fun v hv => hoks.stk v (by simp [hv])
  have han : ¬ a < 0 := by omega
  simp only [han, ↓reduceIte, Int.reduceEq] at hrun
  by_cases hfu : fu < 1
  ·rw [if_pos hfu] at hrun
   injection hrun with hrun
   refine al0 ?_; simp; refine aa0 (av0 m ⟨9, a⟩ (fun _ => ⟨q1, q2⟩)) (by simp) ?_
   rw [hpops]
   simp +contextual (maxSteps := 2000000) (disch := omega) [-Int.not_lt, -Int.not_le, -Nat.not_lt, -Nat.not_le, sx, hnat, hnm, hdr]
   have hpO := el0 m sts' fu 1 hfu
   simp [am0] at hpO
   refine ad0 [.e 0, .e 1] rfl rfl (by simp) ?_
   simp
   refine ae0 172 hpO (by simp) ?_
   clear hpO
   simp +contextual (maxSteps := 2000000) (disch := omega) [-Int.not_lt, -Int.not_le, -Nat.not_lt, -Nat.not_le, sx]
   exact .of (k, ⟨loc, s, at_ + 1, sts', 0⟩, 54) (.inr ⟨by simp, hrun.symm⟩) (Nat.lt_succ_self k) (Wk.rens (.l 63 0) (.l 999 0) rfl (by simp) (by simp [renF]) (by simp [renF, bw0]))
  rw [if_neg hfu, List.getElem?_eq_getElem q2] at hrun
  simp only [Option.bind_some] at hrun
  rw [if_neg (by omega), eparam, hU0] at hrun
  simp only [Option.bind_some] at hrun
  cases hc2 : run m k m.funcs[a.toNat] (m.funcs[a.toNat].start vs sts' (fu - 1)) with
  | none => rw [hc2] at hrun; cases hrun
  | some o =>
   rw [hc2] at hrun
   have hok2 := hm _ (List.getElem_mem q2)
   have hargs2 : vs.length <= m.funcs[a.toNat].locals.toNat := by have := hok2.pl; have := hok2.p0; omega
   have hJ := IH k (by omega) a.toNat _ vs sts' (fu - 1) o q2 rfl hargs2 hvs hoks.sts q5 hc2
   have ho := np0 dl0 hc k hc2 ⟨fun v hv => by simp only [Fnc.start] at hv; simp at hv; rcases hv with hv | ⟨_, rfl⟩; exact hvs v hv; exact dl0.int0, fun v hv => by simp [Fnc.start] at hv, hoks.sts⟩
   have hta : (max a 0) = a := by omega
   refine al0 ?_; simp; refine aa0 (av0 m ⟨9, a⟩ (fun _ => ⟨q1, q2⟩)) (by simp) ?_
   rw [hpops]
   simp +contextual (maxSteps := 2000000) (disch := omega) [-Int.not_lt, -Int.not_le, -Nat.not_lt, -Nat.not_le, sx, hnat, hnm, hdr]
   have hpO := eX0 m sts' fu 1 (by omega) (by omega) hf1
   simp [am0] at hpO
   refine ad0 [.e 0, .e 1] rfl rfl (by simp) ?_
   simp
   refine ae0 172 hpO (by simp) ?_
   clear hpO
   simp +contextual (maxSteps := 2000000) (disch := omega) [-Int.not_lt, -Int.not_le, -Nat.not_lt, -Nat.not_le, sx]
   cases o with
   | val v sts2 fu2 =>
    have g4 := q6 k v sts2 fu2 hc2
    have hpO : J _ _ _ _ (fun r => r = _) := hJ
    simp [am0, hta] at hpO
    refine ad0 [.e 0, .e 1] rfl rfl (by simp) ?_
    simp [hdr, hnm, htk]
    refine ae0 183 hpO (by simp) ?_
    clear hpO
    simp +contextual (maxSteps := 2000000) (disch := omega) [-Int.not_lt, -Int.not_le, -Nat.not_lt, -Nat.not_le, sx]
    exact .of (k, ⟨loc, s ++ [v], at_ + 1, sts2, fu2⟩, 0) (.inl ⟨rfl, hrun, ⟨hoks.loc, fun x hx => by simp at hx; rcases hx with hx | rfl; exact hoks.stk x (by simp [hx]); exact ho.1, ho.2⟩, by omega, g4⟩) (Nat.lt_succ_self k) (Wk.rens (.l 185 0) (.l 999 0) rfl (by simp) (by simp [renF]) (by simp [renF, bw0]))
   | trap e sts2 fu2 =>
    injection hrun with hrun
    have hpO : J _ _ _ _ (fun r => r = _) := hJ
    simp [am0, hta] at hpO
    refine ad0 [.e 0, .e 1] rfl rfl (by simp) ?_
    simp [hdr, hnm, htk]
    refine ae0 183 hpO (by simp) ?_
    clear hpO
    simp +contextual (maxSteps := 2000000) (disch := omega) [-Int.not_lt, -Int.not_le, -Nat.not_lt, -Nat.not_le, sx]
    exact .of (k, ⟨loc, s ++ [Val.mk 0 0 noS []], at_ + 1, sts2, fu2⟩, e) (.inr ⟨ho, hrun.symm⟩) (Nat.lt_succ_self k) (Wk.rens (.l 185 0) (.l 999 0) rfl (by simp) (by simp [renF]) (by simp [renF, bw0]))
 have hr2 := hrng c (by assumption)
 try simp only at hr2
 obtain ⟨r, hp⟩ := got c (by assumption)
 have hp0 := hp
 have ha : 0 <= a := hr2.1
 have h12 : 12 <= op := by omega
 have han : ¬ a < 0 := by omega
 unfold prim at hp
 simp only at hp
 rw [if_neg han, if_neg (by omega), if_neg (by omega), if_neg (by omega), if_neg (by omega), if_neg (by omega), if_neg (by omega), if_neg (by omega), if_neg (by omega), if_neg (by omega)] at hp
 have hcnt : cnt op = vs.length := by
  have : m.pops ⟨op, a⟩ = cnt op := by
   unfold Mdl.pops cnt
   simp only
   (repeat' split) <;> simp <;> omega
  omega
 rw [hcnt, hU0] at hp
 simp only [Option.bind_some] at hp
 obtain ⟨r', hmk, hp⟩ := Option.map_eq_some_iff.1 hp
 have hnat : ((s.length : Int) + vs.length - vs.length).toNat = s.length := by omega
 have hdr : List.take vs.length (List.drop s.length (s.map Val.cells ++ vs.map Val.cells)) = vs.map Val.cells := by
  rw [List.drop_append_of_le_length (by simp), List.drop_of_length_le (by simp), List.nil_append, List.take_of_length_le (by simp)]
 have hnm : ((s.length : Int) + vs.length).toNat - s.length = vs.length := by omega
 have htk : List.take vs.length (vs.map Val.cells) = vs.map Val.cells := List.take_of_length_le (by simp)
 have hvs : ∀ v ∈ vs, v.good := fun v hv => hoks.stk v (by simp [hv])
 obtain ⟨x, hx, hJ⟩ := rT0 m sts' fu op a vs r' hmk hvs
 have n1 := eq_false (show ¬ op = 1 by omega)
 have n2 := eq_false (show ¬ op = 2 by omega)
 have n3 := eq_false (show ¬ op = 3 by omega)
 have n4 := eq_false (show ¬ op = 4 by omega)
 have n5 := eq_false (show ¬ op = 5 by omega)
 have n6 := eq_false (show ¬ op = 6 by omega)
 have n7 := eq_false (show ¬ op = 7 by omega)
 have n8 := eq_false (show ¬ op = 8 by omega)
 have n9 := eq_false (show ¬ op = 9 by omega)
 have n10 := eq_false (show ¬ op = 10 by omega)
 have n11 := eq_false (show ¬ op = 11 by omega)
 refine al0 ?_; simp; refine aa0 (av0 m ⟨op, a⟩ (fun h => absurd h c)) (by simp) ?_
 rw [hpops]
 simp +contextual (maxSteps := 2000000) (disch := omega) [-Int.not_lt, -Int.not_le, -Nat.not_lt, -Nat.not_le, sx, hnat, hnm, hdr, n1, n2, n3, n4, n5, n6, n7, n8, n9, n10, n11]
 have hpO := hJ
 simp [am0] at hpO
 refine ad0 [.e 0, .e 1] rfl rfl (by simp) ?_
 simp [hdr, hnm, htk]
 refine ae0 72 hpO (by simp) ?_
 clear hpO
 simp +contextual (maxSteps := 2000000) (disch := omega) [-Int.not_lt, -Int.not_le, -Nat.not_lt, -Nat.not_le, sx]
 by_cases h0 : r'.2 = 0
 ·rw [if_pos h0] at hp; subst hp
  have hx := hx h0
  subst hx
  obtain ⟨g1, g2, g3, g4⟩ := on c (by assumption) _ hp0
  rw [h0]
  exact .of (k, ⟨loc, s ++ [r'.1], at_ + 1, sts', fu⟩, 0) (.inl ⟨rfl, g1, g2, g3, g4⟩) (Nat.lt_succ_self k) (Wk.rens (.l 74 0) (.l 999 0) rfl (by simp) (by simp [renF]) (by simp [renF, bw0]))
 ·rw [if_neg h0] at hp; subst hp
  obtain ⟨o1, o2⟩ := off c (by assumption) _ _ hp0
  exact .of (k, ⟨loc, s ++ [x], at_ + 1, sts', fu⟩, r'.2) (.inr ⟨o1, o2⟩) (Nat.lt_succ_self k) (Wk.rens (.l 74 0) (.l 999 0) rfl (by simp) (by simp [renF]) (by simp [renF, bw0]))
theorem cj0 (s : ByteArray) (hs : s = tInt \/ s = tBool \/ s = tText) : Ret prog cE0 [vS s] (vI 1) := by
 refine af0 df0 (by simp) ?_
 rcases hs with rfl | rfl | rfl <;> simp +contextual (maxSteps := 2000000) (disch := omega) [-Int.not_lt, -Int.not_le, -Nat.not_lt, -Nat.not_le, sx, cn0, bM0]
theorem mk0 : Ret prog cE0 [vS tList] (vI 2) := by
 refine af0 df0 (by simp) ?_
 simp +contextual (maxSteps := 2000000) (disch := omega) [-Int.not_lt, -Int.not_le, -Nat.not_lt, -Nat.not_le, sx, cn0, bM0, aX0, bT0]
 try (refine ⟨91, rfl, ?_⟩; simp +contextual (maxSteps := 2000000) (disch := omega) [-Int.not_lt, -Int.not_le, -Nat.not_lt, -Nat.not_le, sx, aX0, bT0])
 try (refine ⟨93, rfl, ?_⟩; simp +contextual (maxSteps := 2000000) (disch := omega) [-Int.not_lt, -Int.not_le, -Nat.not_lt, -Nat.not_le, sx, aX0, bT0])
 refine ab0 ?_; simp; refine aa0 (cj0 tInt (.inl rfl)) (by simp) ?_
 simp +contextual (maxSteps := 2000000) (disch := omega) [-Int.not_lt, -Int.not_le, -Nat.not_lt, -Nat.not_le, sx]
theorem nj0 : Ret prog cE0 [vS tMap] (vI 2) := by
 refine af0 df0 (by simp) ?_
 simp +contextual (maxSteps := 2000000) (disch := omega) [-Int.not_lt, -Int.not_le, -Nat.not_lt, -Nat.not_le, sx, cn0, bM0, aX0, bT0]
 try (refine ⟨123, rfl, ?_⟩; simp +contextual (maxSteps := 2000000) (disch := omega) [-Int.not_lt, -Int.not_le, -Nat.not_lt, -Nat.not_le, sx, aX0, bT0, bM0])
 try (refine ⟨125, rfl, ?_⟩; simp +contextual (maxSteps := 2000000) (disch := omega) [-Int.not_lt, -Int.not_le, -Nat.not_lt, -Nat.not_le, sx, aX0, bT0, bM0])
 refine ab0 ?_; simp; refine aa0 (cj0 tInt (.inl rfl)) (by simp) ?_
 simp +contextual (maxSteps := 2000000) (disch := omega) [-Int.not_lt, -Int.not_le, -Nat.not_lt, -Nat.not_le, sx]
theorem c70 (t : List UInt8) (h : t ∈ tyK) : Ret prog gL0 [vS (litS t)] (vB true) := by
 refine af0 kz0 (by simp) ?_
 simp +contextual (maxSteps := 2000000) (disch := omega) [-Int.not_lt, -Int.not_le, -Nat.not_lt, -Nat.not_le, sx, fF0]
 simp [tyK] at h
 rcases h with rfl | rfl | rfl | rfl | rfl
 ·refine ab0 ?_; simp; refine aa0 (cj0 tInt (.inl rfl)) (by simp) ?_
  simp +contextual (maxSteps := 2000000) (disch := omega) [-Int.not_lt, -Int.not_le, -Nat.not_lt, -Nat.not_le, sx]
 ·refine ab0 ?_; simp; refine aa0 (cj0 tBool (.inr (.inl rfl))) (by simp) ?_
  simp +contextual (maxSteps := 2000000) (disch := omega) [-Int.not_lt, -Int.not_le, -Nat.not_lt, -Nat.not_le, sx]
 ·refine ab0 ?_; simp; refine aa0 (cj0 tText (.inr (.inr rfl))) (by simp) ?_
  simp +contextual (maxSteps := 2000000) (disch := omega) [-Int.not_lt, -Int.not_le, -Nat.not_lt, -Nat.not_le, sx]
 ·refine ab0 ?_; simp; refine aa0 (mk0) (by simp) ?_
  simp +contextual (maxSteps := 2000000) (disch := omega) [-Int.not_lt, -Int.not_le, -Nat.not_lt, -Nat.not_le, sx]
 ·refine ab0 ?_; simp; refine aa0 (nj0) (by simp) ?_
  simp +contextual (maxSteps := 2000000) (disch := omega) [-Int.not_lt, -Int.not_le, -Nat.not_lt, -Nat.not_le, sx]
theorem nk0 : Ret prog dZ0 [vS tList] (vS tInt) := by
 refine af0 gc0 (by simp) ?_
 simp +contextual (maxSteps := 2000000) (disch := omega) [-Int.not_lt, -Int.not_le, -Nat.not_lt, -Nat.not_le, sx, dt0]
 refine ab0 ?_; simp; refine aa0 (c70 [91, 105, 110, 116, 93] (by simp [tyK])) (by simp) ?_
 simp +contextual (maxSteps := 2000000) (disch := omega) [-Int.not_lt, -Int.not_le, -Nat.not_lt, -Nat.not_le, sx, aX0, bT0]
 try (refine ⟨91, rfl, ?_⟩; simp +contextual (maxSteps := 2000000) (disch := omega) [-Int.not_lt, -Int.not_le, -Nat.not_lt, -Nat.not_le, sx, aX0, bT0])
theorem n80 : Ret prog dZ0 [vS tMap] (vS (litS [])) := by
 refine af0 gc0 (by simp) ?_
 simp +contextual (maxSteps := 2000000) (disch := omega) [-Int.not_lt, -Int.not_le, -Nat.not_lt, -Nat.not_le, sx, dt0]
 refine ab0 ?_; simp; refine aa0 (c70 [123, 105, 110, 116, 58, 105, 110, 116, 125] (by simp [tyK])) (by simp) ?_
 simp +contextual (maxSteps := 2000000) (disch := omega) [-Int.not_lt, -Int.not_le, -Nat.not_lt, -Nat.not_le, sx, aX0, bT0]
 try (refine ⟨123, rfl, ?_⟩; simp +contextual (maxSteps := 2000000) (disch := omega) [-Int.not_lt, -Int.not_le, -Nat.not_lt, -Nat.not_le, sx, aX0, bT0])
theorem pK0 : Ret prog h50 [vS tMap] (.tup [vS tInt, vS tInt]) := by
 refine af0 lt0 (by simp) ?_
 simp +contextual (maxSteps := 2000000) (disch := omega) [-Int.not_lt, -Int.not_le, -Nat.not_lt, -Nat.not_le, sx, gE0]
 refine ab0 ?_; simp; refine aa0 (c70 [123, 105, 110, 116, 58, 105, 110, 116, 125] (by simp [tyK])) (by simp) ?_
 simp +contextual (maxSteps := 2000000) (disch := omega) [-Int.not_lt, -Int.not_le, -Nat.not_lt, -Nat.not_le, sx, aX0, bT0]
 try (refine ⟨123, rfl, ?_⟩; simp +contextual (maxSteps := 2000000) (disch := omega) [-Int.not_lt, -Int.not_le, -Nat.not_lt, -Nat.not_le, sx, aX0, bT0])
 try (refine ⟨105, rfl, ?_⟩; simp +contextual (maxSteps := 2000000) (disch := omega) [-Int.not_lt, -Int.not_le, -Nat.not_lt, -Nat.not_le, sx, aX0, bT0])
def nb0 (t : List UInt8) : Int := if t = [105, 110, 116] then 1 else if t = [98, 111, 111, 108] then 2 else if t = [116, 101, 120, 116] then 3 else if t = [91, 105, 110, 116, 93] then 4 else 5
theorem l90 (t : List UInt8) (h : t ∈ tyK) : Ret prog gN0 [vS (litS t)] (Val.mk (nb0 t) 0 noS []).V := by
 refine af0 kD0 (by simp) ?_
 simp [tyK] at h
 rcases h with rfl | rfl | rfl | rfl | rfl
 ·simp +contextual (maxSteps := 2000000) (disch := omega) [-Int.not_lt, -Int.not_le, -Nat.not_lt, -Nat.not_le, sx, bE0, bM0, nb0]
 ·simp +contextual (maxSteps := 2000000) (disch := omega) [-Int.not_lt, -Int.not_le, -Nat.not_lt, -Nat.not_le, sx, bE0, bM0, nb0]
 ·simp +contextual (maxSteps := 2000000) (disch := omega) [-Int.not_lt, -Int.not_le, -Nat.not_lt, -Nat.not_le, sx, bE0, bM0, nb0]
 ·simp +contextual (maxSteps := 2000000) (disch := omega) [-Int.not_lt, -Int.not_le, -Nat.not_lt, -Nat.not_le, sx, bE0, bM0, nb0]
  refine ab0 ?_; simp; refine aa0 (nk0) (by simp) ?_
  simp +contextual (maxSteps := 2000000) (disch := omega) [-Int.not_lt, -Int.not_le, -Nat.not_lt, -Nat.not_le, sx, bM0]
 ·simp +contextual (maxSteps := 2000000) (disch := omega) [-Int.not_lt, -Int.not_le, -Nat.not_lt, -Nat.not_le, sx, bE0, bM0, nb0]
  refine ab0 ?_; simp; refine aa0 (n80) (by simp) ?_
  simp +contextual (maxSteps := 2000000) (disch := omega) [-Int.not_lt, -Int.not_le, -Nat.not_lt, -Nat.not_le, sx, bM0]
  refine ab0 ?_; simp; refine aa0 (c70 [123, 105, 110, 116, 58, 105, 110, 116, 125] (by simp [tyK])) (by simp) ?_
  simp +contextual (maxSteps := 2000000) (disch := omega) [-Int.not_lt, -Int.not_le, -Nat.not_lt, -Nat.not_le, sx]
theorem fitK_kind {v : Val} {t : List UInt8} (ht : t ∈ tyK) (h : v.kind ≠ nb0 t) : v.fitK t = false := by
 simp [tyK] at ht
 rcases ht with rfl | rfl | rfl | rfl | rfl <;> simp [nb0] at h <;> simp [Val.fitK, h]
theorem rI0 (v : Val) (t : List UInt8) (ht : t ∈ tyK) (h : v.kind ≠ nb0 t) : Ret prog fe0 [v.V, vS (litS t)] (vB false) := by
 refine af0 h70 (by simp) ?_
 by_cases h0 : v.kind = 0
 ·simp +contextual (maxSteps := 2000000) (disch := omega) [-Int.not_lt, -Int.not_le, -Nat.not_lt, -Nat.not_le, sx, bu0, h0]
 ·have h0' := eq_false h0
  have h1 := eq_false h
  simp +contextual (maxSteps := 2000000) (disch := omega) [-Int.not_lt, -Int.not_le, -Nat.not_lt, -Nat.not_le, sx, bu0, h0']
  refine al0 ?_; simp; refine aa0 (l90 t ht) (by simp) ?_
  simp +contextual (maxSteps := 2000000) (disch := omega) [-Int.not_lt, -Int.not_le, -Nat.not_lt, -Nat.not_le, sx, h0', h1]
theorem s70 (v : Val) (t : List UInt8) (ht : t ∈ tyK) (hl : v.list = []) (hs : v.text.size < 2 ^ 40) : Ret prog fe0 [v.V, vS (litS t)] (vB (v.fitK t)) := by
 by_cases hk : v.kind = nb0 t
 case neg => rw [fitK_kind ht hk]; exact rI0 v t ht hk
 have hz := l90 t ht
 have ht' := ht
 simp [tyK] at ht
 refine af0 h70 (by simp) ?_
 rcases ht with rfl | rfl | rfl | rfl | rfl <;> simp [nb0] at hk hz
 ·simp +contextual (maxSteps := 2000000) (disch := omega) [-Int.not_lt, -Int.not_le, -Nat.not_lt, -Nat.not_le, sx, bu0, hk]
  refine al0 ?_; simp; refine aa0 (hz) (by simp) ?_
  by_cases hx : v.text = noS
  ·simp +contextual (maxSteps := 2000000) (disch := omega) [-Int.not_lt, -Int.not_le, -Nat.not_lt, -Nat.not_le, sx, hk, hl, hx, Val.fitK]
  ·have hx' := eq_false hx
   simp +contextual (maxSteps := 2000000) (disch := omega) [-Int.not_lt, -Int.not_le, -Nat.not_lt, -Nat.not_le, sx, hk, hl, hx', Val.fitK]
 ·simp +contextual (maxSteps := 2000000) (disch := omega) [-Int.not_lt, -Int.not_le, -Nat.not_lt, -Nat.not_le, sx, bu0, hk]
  refine al0 ?_; simp; refine aa0 (hz) (by simp) ?_
  by_cases hx : v.text = noS
  ·by_cases h0 : v.num = 0
   ·simp +contextual (maxSteps := 2000000) (disch := omega) [-Int.not_lt, -Int.not_le, -Nat.not_lt, -Nat.not_le, sx, hk, hl, hx, h0, Val.fitK]
   ·simp +contextual (maxSteps := 2000000) (disch := omega) [-Int.not_lt, -Int.not_le, -Nat.not_lt, -Nat.not_le, sx, hk, hl, hx, h0, Val.fitK]
    rw [Bool.eq_iff_iff]; simp
  ·have hx' := eq_false hx
   simp +contextual (maxSteps := 2000000) (disch := omega) [-Int.not_lt, -Int.not_le, -Nat.not_lt, -Nat.not_le, sx, hk, hl, hx', Val.fitK]
 ·simp +contextual (maxSteps := 2000000) (disch := omega) [-Int.not_lt, -Int.not_le, -Nat.not_lt, -Nat.not_le, sx, bu0, hk]
  refine al0 ?_; simp; refine aa0 (hz) (by simp) ?_
  by_cases h0 : v.num = 0
  ·simp +contextual (maxSteps := 2000000) (disch := omega) [-Int.not_lt, -Int.not_le, -Nat.not_lt, -Nat.not_le, sx, hk, hl, h0, Val.fitK]
   try omega
  ·have h0' := eq_false h0
   simp +contextual (maxSteps := 2000000) (disch := omega) [-Int.not_lt, -Int.not_le, -Nat.not_lt, -Nat.not_le, sx, hk, hl, h0', Val.fitK]
 ·simp +contextual (maxSteps := 2000000) (disch := omega) [-Int.not_lt, -Int.not_le, -Nat.not_lt, -Nat.not_le, sx, bu0, hk]
  refine al0 ?_; simp; refine aa0 (hz) (by simp) ?_
  by_cases h0 : v.num = 0
  ·by_cases hx : v.text = noS
   ·simp +contextual (maxSteps := 2000000) (disch := omega) [-Int.not_lt, -Int.not_le, -Nat.not_lt, -Nat.not_le, sx, hk, hl, hx, h0, Val.fitK]
    refine aA0 0 (fun _ => [(75, vI 0), (74, vI 0), (2, .bp (.l 2 0) 0)]) (fun _ => [(.l 2 0, .box v.cells)]) (Wk.subs (by simp) (by simp)) ?_
    intro i hi
    simp +contextual (maxSteps := 2000000) (disch := omega) [-Int.not_lt, -Int.not_le, -Nat.not_lt, -Nat.not_le, sx, hl]
   ·have hx' := eq_false hx
    simp +contextual (maxSteps := 2000000) (disch := omega) [-Int.not_lt, -Int.not_le, -Nat.not_lt, -Nat.not_le, sx, hk, hl, hx', h0, Val.fitK]
  ·have h0' := eq_false h0
   simp +contextual (maxSteps := 2000000) (disch := omega) [-Int.not_lt, -Int.not_le, -Nat.not_lt, -Nat.not_le, sx, hk, hl, h0', Val.fitK]
 ·simp +contextual (maxSteps := 2000000) (disch := omega) [-Int.not_lt, -Int.not_le, -Nat.not_lt, -Nat.not_le, sx, bu0, hk]
  refine al0 ?_; simp; refine aa0 (hz) (by simp) ?_
  by_cases h0 : v.num = 0
  ·by_cases hx : v.text = noS
   ·simp +contextual (maxSteps := 2000000) (disch := omega) [-Int.not_lt, -Int.not_le, -Nat.not_lt, -Nat.not_le, sx, hk, hl, hx, h0, Val.fitK]
    refine ab0 ?_; simp; refine aa0 (pK0) (by simp) ?_
    simp +contextual (maxSteps := 2000000) (disch := omega) [-Int.not_lt, -Int.not_le, -Nat.not_lt, -Nat.not_le, sx, hl]
    refine aA0 0 (fun _ => [(110, vI 0), (109, vI 0), (2, .bp (.l 2 0) 0)]) (fun _ => [(.l 2 0, .box v.cells)]) (Wk.subs (by simp) (by simp)) ?_
    intro i hi
    simp +contextual (maxSteps := 2000000) (disch := omega) [-Int.not_lt, -Int.not_le, -Nat.not_lt, -Nat.not_le, sx, hl]
   ·have hx' := eq_false hx
    simp +contextual (maxSteps := 2000000) (disch := omega) [-Int.not_lt, -Int.not_le, -Nat.not_lt, -Nat.not_le, sx, hk, hl, hx', h0, Val.fitK]
  ·have h0' := eq_false h0
   simp +contextual (maxSteps := 2000000) (disch := omega) [-Int.not_lt, -Int.not_le, -Nat.not_lt, -Nat.not_le, sx, hk, hl, h0', Val.fitK]
theorem q40 (v : Val) (t : List UInt8) (ht : t ∈ tyK) (hl : v.list = []) (hs : v.wt < 2 ^ 40) : Ret prog gM0 [v.V, vS (litS t)] (vB (decide (v.wt <= 16384) && v.fitK t)) := by
 have hs2 : v.text.size < 2 ^ 40 := by have := v.cB0; omega
 refine af0 kA0 (by simp) ?_
 simp +contextual (maxSteps := 2000000) (disch := omega) [-Int.not_lt, -Int.not_le, -Nat.not_lt, -Nat.not_le, sx, fG0]
 refine ab0 ?_; simp; refine aa0 (c70 t ht) (by simp) ?_
 simp +contextual (maxSteps := 2000000) (disch := omega) [-Int.not_lt, -Int.not_le, -Nat.not_lt, -Nat.not_le, sx]
 refine ab0 ?_; simp; refine aa0 (ei0 v (by omega)) (by simp) ?_
 simp +contextual (maxSteps := 2000000) (disch := omega) [-Int.not_lt, -Int.not_le, -Nat.not_lt, -Nat.not_le, sx]
 by_cases hw : (v.wt : Int) <= 16384
 ·simp +contextual (maxSteps := 2000000) (disch := omega) [-Int.not_lt, -Int.not_le, -Nat.not_lt, -Nat.not_le, sx, hw]
  refine ab0 ?_; simp; refine aa0 (s70 v t ht hl hs2) (by simp) ?_
  simp +contextual (maxSteps := 2000000) (disch := omega) [-Int.not_lt, -Int.not_le, -Nat.not_lt, -Nat.not_le, sx]
 ·simp +contextual (maxSteps := 2000000) (disch := omega) [-Int.not_lt, -Int.not_le, -Nat.not_lt, -Nat.not_le, sx, hw]
theorem nm0 (v : Val) (hs : v.wt < 2 ^ 40) : Ret prog gQ0 [v.V] (vS (litS v.tyc)) := by
 have hsz := v.gw0 hs
 refine af0 kG0 (by simp) ?_
 by_cases hl : v.list = []
 case neg =>
  have hlen : 0 < v.list.length := by
   have : v.list.length ≠ 0 := fun h => hl (List.length_eq_zero_iff.1 h)
   omega
  have e : v.tyc = [] := by simp [Val.tyc, hl]
  rw [e]
  simp +contextual (maxSteps := 2000000) (disch := omega) [-Int.not_lt, -Int.not_le, -Nat.not_lt, -Nat.not_le, sx, dv0, hlen]
 simp +contextual (maxSteps := 2000000) (disch := omega) [-Int.not_lt, -Int.not_le, -Nat.not_lt, -Nat.not_le, sx, dv0, hl]
 refine ap0 (fun i : Nat => 5 - i) (fun i => [(12, vI i), (11, .agg (tyK.map fun t => vS (litS t))), (1, .bp (.l 1 0) 0)]) (fun _ => [(.l 1 0, .box v.cells)])
  (TyI v) 0 ⟨by simp, by simp⟩ (Wk.subs (by simp [tyK]) (by simp)) ?_
 rintro i hI
 have hi := hI.1
 simp +contextual (maxSteps := 2000000) (disch := omega) [-Int.not_lt, -Int.not_le, -Nat.not_lt, -Nat.not_le, sx]
 refine ⟨fun hlt => ?_, fun hge => hI.none (by omega)⟩
 have hi5 : i < tyK.length := by simp [tyK]; omega
 have hiK : (tyK.map fun t => vS (litS t))[i]? = some (vS (litS tyK[i])) := by simp [hi5]
 rw [lD0]
 refine ⟨_, hiK, ?_⟩
 simp +contextual (maxSteps := 2000000) (disch := omega) [-Int.not_lt, -Int.not_le, -Nat.not_lt, -Nat.not_le, sx]
 refine ab0 ?_; simp; refine aa0 (q40 v tyK[i] (List.getElem_mem hi5) hl hs) (by simp) ?_
 simp +contextual (maxSteps := 2000000) (disch := omega) [-Int.not_lt, -Int.not_le, -Nat.not_lt, -Nat.not_le, sx]
 refine ⟨fun h1 h2 => (hI.at hi5 hl h1 h2).symm, fun h => ?_⟩
 exact .of (i + 1) (hI.next hi5 fun _ => h) (by omega) (Wk.subs (by simp) (by simp))
end Go.Am
end

section
namespace Go.Am
def Ins.ia0 (i : Ins) (p : Int) : List Int := if i.op = 10 then [] else if i.op = 7 then [i.a] else if i.op = 8 then [i.a, p + 1] else [p + 1]
def Mdl.gr2 (m : Mdl) (f : Fnc) : Gr := ⟨f.code.length, fun p => m.pops (f.code.getD p default), fun p => (f.code.getD p default).ax0, f.stack, fun p => (f.code.getD p default).ia0 p⟩
theorem gr2_hB (m : Mdl) (f : Fnc) : (m.gr2 f).hB = (m.gr f).hB := by
 have hmem : ∀ (i : Ins) (p q : Int), q ∈ i.ia0 p ↔ q ∈ i.aN0 p := fun i p q => by
  unfold Ins.ia0 Ins.aN0
  repeat' split
  all_goals first | rfl | (simp; exact Or.comm)
 have hok : ∀ G p, (m.gr2 f).okAt G p ↔ (m.gr f).okAt G p := fun G p => by
  unfold Gr.okAt
  constructor
  ·rintro ⟨a, b, c⟩; exact ⟨a, b, fun q hq => c q ((hmem _ _ q).2 hq)⟩
  ·rintro ⟨a, b, c⟩; exact ⟨a, b, fun q hq => c q ((hmem _ _ q).1 hq)⟩
 have hgood : ∀ G, (m.gr2 f).good G ↔ (m.gr f).good G := fun G => by
  unfold Gr.good
  constructor
  ·rintro ⟨a, b⟩; exact ⟨a, fun p h1 h2 => (hok G p).1 (b p h1 h2)⟩
  ·rintro ⟨a, b⟩; exact ⟨a, fun p h1 h2 => (hok G p).2 (b p h1 h2)⟩
 unfold Gr.hB Gr.hOk
 rw [Bool.eq_iff_iff]
 simp only [decide_eq_true_eq]
 exact ⟨fun ⟨G, h⟩ => ⟨G, (hgood G).1 h⟩, fun ⟨G, h⟩ => ⟨G, (hgood G).2 h⟩⟩
namespace Gr
variable {g : Gr}
def sn (seen : List Bool) (p : Nat) : Bool := seen.getD p false
theorem sn_set {seen : List Bool} {q : Nat} (h : q < seen.length) (p : Nat) : sn (seen.set q true) p = if p = q then true else sn seen p := by
 unfold sn
 by_cases e : p = q
 ·subst e; simp [h]
 ·have : q ≠ p := fun h => e h.symm
  simp [List.getD, List.getElem?_set, this, e]
theorem sn_lt {seen : List Bool} {p : Nat} (h : p < seen.length) : sn seen p = seen[p] := by simp [sn, h]
def usn (seen : List Bool) : Nat := seen.countP (· = false)
theorem usn_set : ∀ {seen : List Bool} {q : Nat} (h : q < seen.length), seen[q] = false -> usn (seen.set q true) + 1 = usn seen
 | y :: l, 0, h, h1 => by
  have h1 : y = false := h1
  simp [usn, List.countP_cons, h1]
 | y :: l, q + 1, h, h1 => by
  have ih := usn_set (seen := l) (q := q) (by simpa using h) (by simpa using h1)
  simp only [usn, List.set_cons_succ, List.countP_cons] at ih ⊢
  omega
structure SI (g : Gr) (known : List Int) (seen : List Bool) : Prop where
 wk : ∃ wk, HI g known wk /\ ∀ x ∈ wk, sn seen x.toNat = false
 kn : ∀ p, p < g.len -> sn seen p = true -> 0 <= kn known p
 len : seen.length = g.len
structure SJ (g : Gr) (at_ j : Nat) (known : List Int) (seen : List Bool) : Prop where
 wk : ∃ wk, HJ g at_ j known wk /\ ∀ x ∈ wk, sn seen x.toNat = false
 kn : ∀ p, p < g.len -> sn seen p = true -> 0 <= kn known p
 len : seen.length = g.len
theorem SI.klen {known : List Int} {seen : List Bool} (h : SI g known seen) : known.length = g.len := by obtain ⟨⟨wk, h1, _⟩, _, _⟩ := h; exact h1.len
theorem SJ.klen {known : List Int} {seen : List Bool} {a j : Nat} (h : SJ g a j known seen) : known.length = g.len := by obtain ⟨⟨wk, h1, _⟩, _, _⟩ := h; exact h1.len
theorem SI.cap {known : List Int} {seen : List Bool} (h : SI g known seen) : ∀ p, p < g.len -> Gr.kn known p <= g.cap := by obtain ⟨⟨wk, h1, _⟩, _, _⟩ := h; exact h1.cap
theorem SI.low {known : List Int} {seen : List Bool} (h : SI g known seen) : ∀ p, p < g.len -> -1 <= Gr.kn known p := by obtain ⟨⟨wk, h1, _⟩, _, _⟩ := h; exact h1.low
theorem SI.start (h0 : 0 < g.len) (hc : 0 <= g.cap) : SI g ((List.replicate g.len (-1)).set 0 0) (List.replicate g.len false) := by
 have hf : ∀ p, sn (List.replicate g.len false) p = false := fun p => by
  simp only [sn, List.getD_eq_getElem?_getD, List.getElem?_replicate]
  split <;> rfl
 exact ⟨⟨[0], HI.start h0 hc, fun x _ => hf _⟩, fun p _ h => (by rw [hf] at h; cases h), by simp⟩
theorem SI.at {known : List Int} {seen : List Bool} (h : SI g known seen) {a : Nat} (ha : a < g.len) (hk : 0 <= Gr.kn known a) :
  ∃ wk, HI g known (wk ++ [(a : Int)]) /\ ∀ x ∈ wk, sn (seen.set a true) x.toNat = false := by
 obtain ⟨⟨wk, h1, h2⟩, _, h4⟩ := h
 refine ⟨wk.filter fun x => decide (x.toNat ≠ a), ⟨h1.len, h1.zero, h1.low, h1.cap, fun x hx => ?_, fun p hp hq => ?_, h1.least⟩, fun x hx => ?_⟩
 ·simp at hx
  rcases hx with hx | rfl
  ·exact h1.work x hx.1
  ·exact ⟨by omega, by simpa using ha, by simpa using hk⟩
 ·rcases h1.done p hp hq with h5 | h5
  ·left
   simp
   by_cases e : p = a
   ·right; rw [e]
   ·left; exact ⟨h5, e⟩
  ·exact .inr h5
 ·simp at hx
  rw [sn_set (by omega), if_neg hx.2]
  exact h2 x hx.1
theorem SI.begin {known : List Int} {seen : List Bool} (h : SI g known seen) {a : Nat} (ha : a < g.len) (hk : 0 <= Gr.kn known a) (h1 : 0 <= Gr.kn known a - g.pops a) (h2 : g.out (Gr.kn known a) a <= g.cap) : SJ g a 0 known (seen.set a true) := by
 obtain ⟨wk, q1, q2⟩ := h.at ha hk
 refine ⟨⟨wk, q1.begin (by simpa using h1) (by simpa using h2), q2⟩, fun p hp hs => ?_, by simpa using h.len⟩
 rw [sn_set (by rw [h.len]; exact ha)] at hs
 split at hs
 ·subst p; exact hk
 ·exact h.kn p hp hs
theorem SI.bad {known : List Int} {seen : List Bool} (h : SI g known seen) {a : Nat} (ha : a < g.len) (hk : 0 <= Gr.kn known a) (hb : Gr.kn known a - g.pops a < 0 \/ g.cap < g.out (Gr.kn known a) a) : g.hB = false := by
 obtain ⟨wk, q1, q2⟩ := h.at ha hk
 exact q1.bad (by simpa using hb)
theorem SI.end {known : List Int} {seen : List Bool} (h : SI g known seen) (hd : ∀ p, p < g.len -> Gr.kn known p < 0 \/ sn seen p = true) : g.hB = true := by
 obtain ⟨⟨wk, h1, h2⟩, _, _⟩ := h
 have : wk = [] := by
  cases wk with
  | nil => rfl
  | cons x l =>
   obtain ⟨q1, q2, q3⟩ := h1.work x (by simp)
   have q4 := h2 x (by simp)
   rcases hd _ q2 with h5 | h5
   ·omega
   ·rw [q4] at h5; cases h5
 subst this
 exact h1.end
theorem SJ.bad {known : List Int} {seen : List Bool} {a j : Nat} (h : SJ g a j known seen) (hj : j < (g.aN0 a).length)
  (hb : g.len <= (g.aN0 a)[j].toNat \/ 0 <= Gr.kn known (g.aN0 a)[j].toNat /\ Gr.kn known (g.aN0 a)[j].toNat ≠ g.out (Gr.kn known a) a) : g.hB = false := by
 obtain ⟨⟨wk, h1, _⟩, _, _⟩ := h
 exact h1.bad hj hb
theorem SJ.same {known : List Int} {seen : List Bool} {a j : Nat} (h : SJ g a j known seen) (hj : j < (g.aN0 a).length) (h1 : (g.aN0 a)[j].toNat < g.len) (h2 : Gr.kn known (g.aN0 a)[j].toNat = g.out (Gr.kn known a) a) : SJ g a (j + 1) known seen := by
 obtain ⟨⟨wk, q1, q2⟩, q3, q4⟩ := h
 exact ⟨⟨wk, q1.same hj h1 h2, q2⟩, q3, q4⟩
theorem SJ.new {known : List Int} {seen : List Bool} {a j : Nat} (h : SJ g a j known seen) (hj : j < (g.aN0 a).length) (h0 : 0 <= (g.aN0 a)[j]) (hpu : ∀ p, p < g.len -> 0 <= g.ax0 p) (h1 : (g.aN0 a)[j].toNat < g.len) (h2 : Gr.kn known (g.aN0 a)[j].toNat < 0) :
  SJ g a (j + 1) (known.set (g.aN0 a)[j].toNat (g.out (Gr.kn known a) a)) seen := by
 obtain ⟨⟨wk, q1, q2⟩, q3, q4⟩ := h
 have ho : 0 <= g.out (Gr.kn known a) a := by have := q1.en; have := hpu a q1.here; unfold out; omega
 have hl := q1.len
 refine ⟨⟨_, q1.new hj h0 hpu h1 h2, fun x hx => ?_⟩, fun p hp hs => ?_, q4⟩
 ·simp at hx
  rcases hx with hx | rfl
  ·exact q2 x hx
  ·cases hb : sn seen (g.aN0 a)[j].toNat with
   | false => rfl
   | true => have := q3 _ h1 hb; omega
 ·rw [kn_set (by omega)]
  split
  ·exact ho
  ·exact q3 p hp hs
theorem SJ.end {known : List Int} {seen : List Bool} {a j : Nat} (h : SJ g a j known seen) (hj : (g.aN0 a).length <= j) : SI g known seen := by
 obtain ⟨⟨wk, q1, q2⟩, q3, q4⟩ := h
 exact ⟨⟨wk, q1.end hj, q2⟩, q3, q4⟩
end Gr
end Go.Am
end
