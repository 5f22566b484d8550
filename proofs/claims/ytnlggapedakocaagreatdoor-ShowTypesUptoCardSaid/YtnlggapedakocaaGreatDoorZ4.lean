/- ShowTypes of the given program, part 4 of 5 of the proof: for all arguments within the bound the law answers true, and each argument reads behind the call as before. Conditions: those of the given card. -/
import Derived.Test.YtnlggapedakocaaGreatDoorZ3
import Derived.Lib.Overlaps
import Derived.Lib.Bytealg
import Derived.Lib.LaidTab
import Derived.Shelf.Strconv.Itoa4
import Derived.Test.YtnlggapedakocaaGreatDoorTie
import Derived.WalkKit
import Derived.OpenShut
import Derived.Deep.DeepHandedRow
import Derived.Test.YtnlggapedakocaaGreatDoorProg
import Derived.Shelf.Strings.Builder1
set_option maxHeartbeats 1600000
set_option linter.all false
set_option linter.unusedVariables false
set_option linter.unusedSimpArgs false
set_option linter.unnecessarySimpa false
section
namespace Go.Am
variable {P : Program} {n : Nat} {H : Imm} {μ : Mu} {env : Env} {hp : Hp} {a : Act} {w : World}
def jv0 (P : Program) (rec : Bool) (g : FuncId) (cs : List V) (pv : Option V) (env : Env) (hp : Hp) (K : Env -> Hp -> Prop) : Prop :=
 ∃ ids : List Id, ids.Nodup /\ V.seeL false ids (Hp.frz (.tup (V.bF0 ids (cs ++ boxes hp ids))) hp) cs fun us => ∃ args, V.eW0 (toE ids 0) us = some args /\
  e10 ids (Hp.frz (.tup (V.bF0 ids (cs ++ boxes hp ids))) hp) ids fun obs => JD P rec g args obs pv fun r => match r with
   | .ret v obs' => ∃ base, fP0 env (Hp.frz (.tup (V.bF0 ids (cs ++ boxes hp ids))) hp) ids base v obs' fun _ env' hp' => K env' hp'
   | .pan _ _ => False
theorem oJ0 {m : Sz} {rec : Bool} {g : FuncId} {cs : List V} {pv : Option V} {K : Env -> Hp -> Prop} {vals : Array Value} {u : FrameMode} (hS : Sat m H μ env hp a w) (hcs : RL H μ cs vals) (hu : PanOf H pv u)
  (h : jv0 P rec g cs pv env hp K) : (callFunc g vals).run P w = .ok (.enter g vals) w /\
   CallsD P g vals u w fun e u' w' => u' = es0 rec u /\ ∃ v, e = .returned v /\ ∃ env' hp' H' μ', K env' hp' /\ Sat m H' μ' env' hp' a w' /\ Nx H μ hp w H' μ' hp' w' := by
 obtain ⟨ids, hnd, h⟩ := h
 obtain ⟨H1, hle, hS1, hx1⟩ := hS.frz (.tup (V.bF0 ids (cs ++ boxes hp ids)))
 obtain ⟨us, ⟨args, hm, hh⟩, hlen, hr⟩ := ib0 hS1.wd (cs := cs) (vals := vals) (off := 0) (by rw [hcs.1]; omega)
  (fun j v hj => by rw [Nat.zero_add]; exact (hcs.2 j v hj).le hle) h
 obtain ⟨obs, hJ, hol, hob⟩ := kS0 hS1.wd hh
 obtain ⟨hWc, hown⟩ := Handed.wd (ids := ids) (obs := obs) ⟨by omega, hob⟩ hS1.wd hnd
 obtain ⟨m1, m2⟩ := dl0 hm
 have hRL : RL H1 (muE ids μ) args vals := ⟨by rw [hcs.1, m1, hlen], fun j u hj => by
  obtain ⟨v, q1, q2⟩ := m2 j u hj
  have := hr j v q1
  rw [Nat.zero_add] at this
  exact this.aI0 (fun i i' h => mJ0 h) q2⟩
 have hu1 : PanOf H1 pv u := by
  cases pv with
  | none => exact hu
  | some p => obtain ⟨x, e1, e2⟩ := hu; exact ⟨x, e1, e2.le hle⟩
 obtain ⟨r1, r2⟩ := hJ H1 (muE ids μ) vals w u hRL hWc hu1
 refine ⟨r1, r2.mono fun e u' w' ⟨hu', r, H', μ', hq, hjp⟩ => ⟨hu', ?_⟩⟩
 cases r with
 | ret v obs' =>
  obtain ⟨⟨x, rfl, hx⟩, q2, q3, q4, q5⟩ := hjp
  obtain ⟨base, hq⟩ := hq
  rw [hol] at q4 q5
  obtain ⟨v', env', hp', μ2, p1, p2, p3, p4, p5⟩ := Sat.join hS1 hnd hown q2 q3 q4 q5 hx hq
  exact ⟨x, rfl, env', hp', H', μ2, p1, p3, hx1.trans p4⟩
 | pan v obs' => exact hq.elim
def WkE (k : Nat) (E : Env) (h : Hp) (cs' : List V) (env : Env) (hp : Hp) (cs : List V) : Prop :=
 ∀ (n : Sz) H μ a w (vals : Array Value), Sat n H μ env hp a w -> RL H μ cs vals -> ∃ μ', Sat n H μ' E h a w /\ Nj H μ hp w H μ' h w /\ (∀ j, j < k -> μ' (.e j) = μ (.e j)) /\ RL H μ' cs' vals
theorem WkE.refl {k : Nat} {cs : List V} : WkE k env hp cs env hp cs := fun n H μ a w vals hS hv => ⟨μ, hS, (Nx.refl H μ hp w).toNj, fun _ _ => rfl, hv⟩
theorem WkE.trans {k : Nat} {E1 E2 : Env} {h1 h2 : Hp} {cs cs1 cs2 : List V} (g1 : WkE k E1 h1 cs1 env hp cs) (g2 : WkE k E2 h2 cs2 E1 h1 cs1) : WkE k E2 h2 cs2 env hp cs := fun n H μ a w vals hS hv => by
 obtain ⟨μ1, q1, q2, q3, q4⟩ := g1 n H μ a w vals hS hv
 obtain ⟨μ2, r1, r2, r3, r4⟩ := g2 n H μ1 a w vals q1 q4
 exact ⟨μ2, r1, q2.trans r2, fun j hj => (r3 j hj).trans (q3 j hj), r4⟩
theorem WkE.ren {k : Nat} {E : Env} {h : Hp} {cs cs' : List V} (i : Id) (j : Nat) (hk : k <= j) (hij : i ≠ .e j) (hE : ∀ p ∈ E, a90 env p.1 fun v => mapK (renF i (.e j)) v (· = p.2))
  (hh : ∀ p ∈ h, p.1 ≠ i /\ objK hp (bC0 i (.e j) p.1) fun o => lS0 (renF i (.e j)) o (· = p.2)) (hc : dM0 (renF i (.e j)) cs (· = cs')) : WkE k E h cs' env hp cs := fun n H μ a w vals hS hv => by
 let μ' : Mu := fun x => if x = .e j then μ i else μ x
 have hμ : ∀ x x', renF i (.e j) x = some x' -> μ' x' = μ x := by
  intro x x' hx
  unfold renF at hx
  by_cases h1 : x = i
  ·subst h1; rw [if_pos rfl] at hx; injection hx with hx; subst hx; simp [μ']
  ·rw [if_neg h1] at hx
   by_cases h2 : x = .e j
   ·rw [if_pos h2] at hx; cases hx
   ·rw [if_neg h2] at hx; injection hx with hx; subst hx; simp [μ', h2]
 have hun : ∀ x, x ≠ i -> renF i (.e j) (bC0 i (.e j) x) = some x := by
  intro x hx
  unfold renF bC0
  by_cases h1 : x = .e j
  ·subst h1; simp
  ·simp [h1, hx]
 have hob : ∀ x o, h.lookup x = some o -> x ≠ i /\ ∃ o', hp.lookup (bC0 i (.e j) x) = some o' /\ o'.aI0 (renF i (.e j)) = some o := by
  intro x o hl
  obtain ⟨h1, h2⟩ := hh (x, o) (bn0 hl)
  rw [ha0] at h2
  obtain ⟨o', h3, q, h4, rfl⟩ := h2
  exact ⟨h1, o', h3, h4⟩
 have hW := hS.wd
 refine ⟨μ', ⟨hS.defers, hS.size, fun s v hs => ?_, ⟨fun x o hl => ?_, fun x y ox oy bx by' hx hox hy hoy hbx hby heq => ?_, hW.imm, hW.glo⟩⟩, ⟨Imm.le_refl H, rfl, rfl, rfl, Nat.le_refl _, fun _ _ _ => rfl, fun b hO hb => ?_, fr0⟩, fun q hq => ?_, ?_⟩
 ·have h1 := hE (s, v) (bn0 hs)
  rw [eg0] at h1
  obtain ⟨u, h2, q, h3, rfl⟩ := h1
  exact R.aI0 hμ (hS.env s u h2) h3
 ·obtain ⟨h1, o', h2, h3⟩ := hob x o hl
  exact ObOk.aI0 hμ (hμ _ _ (hun x h1)) (hW.ob _ o' h2) h3
 ·obtain ⟨h1, o1, h2, h3⟩ := hob x ox hx
  obtain ⟨k1, o2, k2, k3⟩ := hob y oy hy
  have e1 := hμ _ _ (hun x h1)
  have e2 := hμ _ _ (hun y k1)
  have := hW.inj _ _ o1 o2 bx by' h2 (by rw [<- Ob.ct0 h3]; exact hox) k2 (by rw [<- Ob.ct0 k3]; exact hoy) (by rw [<- e1]; exact hbx) (by rw [<- e2]; exact hby) heq
  have r1 := hun x h1
  rw [this, hun y k1] at r1
  injection r1 with r1; exact r1.symm
 ·obtain ⟨x, o, blk, h1, h2, h3, h4⟩ := hO
  obtain ⟨q1, o1, q2, q3⟩ := hob x o h1
  exact ⟨_, o1, blk, q2, by rw [<- Ob.ct0 q3]; exact h2, by rw [<- hμ _ _ (hun x q1)]; exact h3, h4⟩
 ·have : q ≠ j := by omega
  simp [μ', this]
 ·obtain ⟨us, hc, rfl⟩ := hc
  obtain ⟨m1, m2⟩ := dl0 hc
  refine ⟨by rw [hv.1, m1], fun q v hq => ?_⟩
  obtain ⟨u, q1, q2⟩ := m2 q v hq
  exact R.aI0 hμ (hv.2 q u q1) q2
def vcF (P : Program) (k : Nat) : FCd -> Env -> Hp -> Qs -> (FuncId -> List V -> Qs) -> Prop
 | .seq c f, env, hp, Q, QD => vc P c env hp (kN0 (fun e h => vcF P k f e h Q QD) Q)
 | .ite v f g, env, hp, Q, QD => ∃ t, Env.ev env v = some (.c (.bool t)) /\ (t = true -> vcF P k f env hp Q QD) /\ (t = false -> vcF P k g env hp Q QD)
 | .plain c, env, hp, Q, _ => vc P c env hp Q
 | .dfr is t args c, env, hp, Q, QD => vcIs P env hp is (fun e h => ∃ g caps vs, Env.ev e t = some (.fn g caps) /\ args.mapM (Env.ev e) = some vs /\ ∃ E h' cs', WkE k E h' cs' e h (vs ++ caps) /\ V.js0 cs' = true /\ vc P c E h' (QD g cs')) fun v h => Q (.pan v) [] h
def PostF (n k : Nat) (H : Imm) (μ : Mu) (hp : Hp) (w : World) (Q : Qs) (QD : FuncId -> List V -> Qs) : Exit -> Act -> World -> Prop := fun e a' w' =>
 Post ⟨n, []⟩ H μ hp w Q e a' w' \/ ∃ g cv dargs cs ex env' hp' H' μ', (RL H' μ' cs (dargs ++ cv) /\ V.js0 cs = true) /\ QD g cs ex env' hp' /\ ex.ok H' μ' e /\ Nj H μ hp w H' μ' hp' w' /\ (∀ j, j < k -> μ' (.e j) = μ (.e j)) /\
  Sat ⟨n, [{ target := .fn (.func g) cv, args := dargs }]⟩ H' μ' env' hp' a' w'
theorem PostF.trans {k : Nat} {H1 : Imm} {μ1 : Mu} {hp1 : Hp} {w1 : World} {Q : Qs} {QD : FuncId -> List V -> Qs} {e : Exit} {a' : Act} {w' : World} (h : Nx H μ hp w H1 μ1 hp1 w1) (q : PostF n k H1 μ1 hp1 w1 Q QD e a' w') : PostF n k H μ hp w Q QD e a' w' := by
 rcases q with q | ⟨g, cv, dargs, cs, ex, env', hp', H', μ', q1, q2, q3, q4, q5, q6⟩
 ·exact .inl (Post.trans h q)
 ·exact .inr ⟨g, cv, dargs, cs, ex, env', hp', H', μ', q1, q2, q3, h.toNj.trans q4, fun j hj => (q5 j hj).trans (h.ext j), q6⟩
theorem oD0 {nz : Sz} {rest : List Nat} {ops : Array Oper} {Kp : V -> Hp -> Prop} {K : Env -> Hp -> Prop} : ∀ (m j : Nat) (is : List I) (env : Env) (hp : Hp), is.length = m ->
  (∀ (k : Nat) (i : I), is[k]? = some i -> ∃ o, ops[j + k]? = some o /\ eX0 P nz ops o = some i) -> vcIs P env hp is K Kp ->
  ∀ H μ a w (Q : Exit -> Act -> World -> Prop), Sat nz H μ env hp a w ->
   (∀ v x hp' H' μ' a' w', Kp v hp' -> R H' μ' v x -> Nx H μ hp w H' μ' hp' w' -> Wd H' μ' hp' w' -> a'.defers = nz.ds -> a'.tmps.size = nz.n -> Q (.panic [{ v := x, recovered := false }]) a' w') ->
   (∀ env' hp' H' μ' a' w', K env' hp' -> Sat nz H' μ' env' hp' a' w' -> Nx H μ hp w H' μ' hp' w' -> wpOps P ops Q rest a' w') ->
   wpOps P ops Q (List.range' j m ++ rest) a w := by
 intro m
 induction m with
 | zero =>
  intro j is env hp hl hget h H μ a w Q hS hQp hQ
  have : is = [] := List.eq_nil_of_length_eq_zero hl
  subst this
  exact hQ env hp H μ a w h hS (Nx.refl H μ hp w)
 | succ m ih =>
  intro j is env hp hl hget h H μ a w Q hS hQp hQ
  cases is with
  | nil => simp at hl
  | cons i is =>
   simp only [vcIs] at h
   obtain ⟨o, ho, hc⟩ := hget 0 i rfl
   rw [Nat.add_zero] at ho
   rw [List.range'_succ, List.cons_append, wpOps_cons]
   refine wpOp_mono (fun a' w' ⟨env', hp', H', μ', h1, h2, h3, hk⟩ => ?_) (o60 ho hc h H μ a w Q hS fun v x hp' H' μ' w' k1 k2 k3 k4 => hQp v x hp' H' μ' a w' k1 k2 k3 k4 hS.defers hS.size)
   exact ih (j + 1) is env' hp' (by simpa using hl) (fun k i' hk => by
    have := hget (k + 1) i' (by simpa using hk)
    rwa [show j + (k + 1) = j + 1 + k by omega] at this) h1 H' μ' a' w' Q h2
    (fun v x hp'' H'' μ'' a'' w'' k1 k2 k3 k4 k5 k6 => hQp v x hp'' H'' μ'' a'' w'' k1 k2 (h3.trans k3) k4 k5 k6)
    (fun env'' hp'' H'' μ'' a'' w'' k1 k2 k3 => hQ env'' hp'' H'' μ'' a'' w'' k1 k2 (h3.trans k3))
theorem nv0 {ops : Array Oper} {t : Operand} {args : List Operand} (h : mD0 ops = some (t, args)) : ∃ o at1, ops.toList = ops.toList.dropLast ++ [o] /\ o.op = .defer ⟨.value t, args.toArray, at1⟩ /\ o.dst = none /\ o.guard = none := by
 unfold mD0 at h
 split at h
 ·rename_i o ho
  split at h
  ·rename_i t' args' at1 h1 h2 h3
   simp only [Option.some.injEq, Prod.mk.injEq] at h
   obtain ⟨rfl, rfl⟩ := h
   exact ⟨o, at1, by obtain ⟨ys, e⟩ := List.getLast?_eq_some_iff.1 ho; rw [e]; simp, by simpa using h1, h2, h3⟩
  ·cases h
 ·cases h
abbrev Cont := (Exit -> Act -> World -> Prop) -> Act -> World -> Prop
def o80 (W : Cont) : Prop := ∀ Q Q' a w, W Q a w -> (∀ e a w, Q e a w -> Q' e a w) -> W Q' a w
def ContP (P : Program) (n : Nat) (y : Option Cd) (W : Cont) : Prop := ∀ c, y = some c -> ∀ (ds : List Deferred) (env : Env) (hp : Hp) (Q : Qs), vc P c env hp Q -> ∀ H μ a w, Sat ⟨n, ds⟩ H μ env hp a w -> W (Post ⟨n, ds⟩ H μ hp w Q) a w
def n30 (P : Program) (n k : Nat) (f : Option FCd) (W : Cont) : Prop := ∀ c, f = some c -> ∀ (env : Env) (hp : Hp) (Q : Qs) (QD : FuncId -> List V -> Qs), vcF P k c env hp Q QD -> ∀ H μ a w, Sat ⟨n, []⟩ H μ env hp a w -> W (PostF n k H μ hp w Q QD) a w
def Cont.of (P : Program) (c : Code) (W : Cont) : Cont := fun Q a w => c.wp P (Exit.then (W Q) Q) a w
theorem Cont.of_mono {c : Code} {W : Cont} (hm : o80 W) : o80 (Cont.of P c W) := fun Q Q' a w h hq => wp_mono h fun e a' w' h1 => by
 cases e with
 | normal => exact hm _ _ _ _ h1 hq
 | exit id => exact hq _ _ _ h1
 | goto l => exact hq _ _ _ h1
 | ret => exact hq _ _ _ h1
 | panic ch => exact hq _ _ _ h1
 | outgrown => exact hq _ _ _ h1
theorem ea0 {k : Nat} {W : Cont} {x : Code} {cx : Cd} {f : FCd} {fo : Option FCd} (hfo : fo = some f) (hm : o80 W) (hF : n30 P n k fo W) (hx : b10 P n x = some cx) : n30 P n k (some (.seq cx f)) (Cont.of P x W) := by
 intro c hc env hp Q QD h H μ a w hS
 injection hc with hc; subst hc
 refine wp_mono (vc_ok (n := ⟨n, []⟩) hx h H μ a w hS) fun e a' w' hpo => ?_
 obtain ⟨ex, env', hp', H', μ', q1, q2, q3, q4⟩ := hpo
 cases ex with
 | normal =>
  have : e = .normal := (gM0 q2).2 rfl
  subst this
  exact hm _ _ _ _ (hF f hfo _ _ _ _ q1 H' μ' a' w' q4) fun e a'' w'' hh => hh.trans q3
 | exit i => cases e <;> simp only [Ex.ok] at q2; exact .inl ⟨.exit i, env', hp', H', μ', q1, q2, q3, q4⟩
 | ret => cases e <;> simp only [Ex.ok] at q2; exact .inl ⟨.ret, env', hp', H', μ', q1, trivial, q3, q4⟩
 | pan v => cases e <;> simp only [Ex.ok] at q2; exact .inl ⟨.pan v, env', hp', H', μ', q1, q2, q3, q4⟩
theorem fpush_dfr {k : Nat} {W : Cont} {id : Nat} {ops : Array Oper} {t : Operand} {args : List Operand} {is : List I} {cy : Cd} {y : Option Cd} (hy : y = some cy) (hm : o80 W) (hP : ContP P n y W) (hl : mD0 ops = some (t, args))
  (hi : lK0 P n ops ops.toList.dropLast = some is) : n30 P n k (some (.dfr is t args cy)) (Cont.of P (.region id ops false) W) := by
 intro c hc env hp Q QD h H μ a w hS
 injection hc with hc; subst hc
 obtain ⟨o, at1, l1, l2, l3, l4⟩ := nv0 hl
 obtain ⟨r1, r2⟩ := gB0 (n := ⟨n, []⟩) hi
 have hsz : ops.size = is.length + 1 := by
  have := congrArg List.length l1
  rw [r1]; simpa using this
 have hlast : ops[is.length]? = some o := by
  have : ops.toList[is.length]? = some o := by rw [l1, r1]; simp
  simpa using this
 refine wp_region ?_
 rw [List.range_eq_range', hsz, List.range'_1_concat, Nat.zero_add]
 refine oD0 (nz := ⟨n, []⟩) is.length 0 is env hp rfl (fun k i hk => ?_) h H μ a w _ hS (fun v x hp' H' μ' a' w' k1 k2 k3 k4 k5 k6 => ?_) (fun env' hp' H' μ' a' w' k1 k2 k3 => ?_)
 ·have hk' : k < ops.toList.dropLast.length := by rw [<- r1]; exact (List.getElem?_eq_some_iff.1 hk).1
  obtain ⟨i', h1, h2⟩ := r2 k ops.toList.dropLast[k] (List.getElem?_eq_getElem hk')
  rw [hk] at h1; injection h1 with h1; subst h1
  refine ⟨_, ?_, h2⟩
  rw [Nat.zero_add]
  have : ops.toList[k]? = some ops.toList.dropLast[k] := by
   conv => lhs; rw [l1]
   rw [List.getElem?_append_left hk', List.getElem?_eq_getElem hk']
  simp
 ·exact .inl ⟨.pan v, [], hp', H', μ', k1, ⟨x, rfl, k2⟩, k3, Sat.bare k5 k6 k4⟩
 ·obtain ⟨g, caps, vs, g1, g2, E, h', cs', g3, g4, g5⟩ := k1
  obtain ⟨cv, ef, hcv⟩ := k40 (bW0 k2 g1)
  have hargs := ke0 (rho k2) args vs g2
  have hall := hargs.append hcv
  obtain ⟨μ2, s1, s2, s3, s4⟩ := g3 _ H' μ' a' w' _ k2 hall
  rw [wpOps_cons]
  unfold wpOp
  simp only [hlast]
  have hw : Region.wanted o (yielded ops a'.tmps) = true := by simp [Region.wanted, l4]
  rw [if_pos hw]
  refine .inl ?_
  unfold Oper.wp
  have hrun : (execOp a'.eval o).run P w' = .ok (.defer { target := .fn (.func g) cv, args := args.toArray.map a'.eval }) w' := by
   simp [execOp, l2, resolve, ef, Deferred.ofValue]
  rw [hrun]
  simp only [Oper.upon, l3]
  show W _ _ _
  have hd : a'.defers = [] := k2.defers
  have hS2 : Sat ⟨n, [{ target := .fn (.func g) cv, args := args.toArray.map a'.eval }]⟩ H' μ2 E h' { a' with defers := { target := .fn (.func g) cv, args := args.toArray.map a'.eval } :: a'.defers } w' :=
   ⟨by simp [hd], s1.size, s1.env, s1.wd⟩
  refine hm _ _ _ _ (hP _ hy _ _ _ _ g5 H' μ2 _ w' hS2) fun e a'' w'' hpo => ?_
  obtain ⟨ex, env2, hp2, H2, μ3, q1, q2, q3, q4⟩ := hpo
  refine .inr ⟨g, cv, _, cs', ex, env2, hp2, H2, μ3, ⟨?_, g4⟩, q1, q2, (k3.toNj.trans s2).trans q3.toNj, fun j hj => (q3.ext j).trans ((s3 j hj).trans (k3.ext j)), q4⟩
  refine ⟨s4.1, fun q v hq => (s4.2 q v hq).mono q3.imm fun i hi => ?_⟩
  obtain ⟨j, rfl⟩ := V.gv0 g4 (V.g70 hq hi)
  exact q3.ext j
theorem fpush_ok {k : Nat} : ∀ (c : Code) {W : Cont} {y : Option Cd} {f : Option FCd}, o80 W -> ContP P n y W -> n30 P n k f W -> n30 P n k (jE0 P n c y f) (Cont.of P c W) := by
 intro c
 induction c with
 | seq a b iha ihb =>
  intro W y f hm hP hF
  have hb : n30 P n k (jE0 P n b y f) (Cont.of P b W) := ihb hm hP hF
  have hPb : ContP P n (seqO (b10 P n b) y) (Cont.of P b W) := by
   intro c hc ds env hp Q h H μ a w hS
   cases h1 : b10 P n b with
   | none => rw [h1] at hc; simp [seqO] at hc
   | some cb =>
    rw [h1] at hc
    cases y with
    | none => simp [seqO] at hc
    | some cy =>
    simp only [seqO, Option.some.injEq] at hc; subst hc
    refine wp_mono (vc_ok (n := ⟨n, ds⟩) h1 h H μ a w hS) fun e a' w' hpo => ?_
    obtain ⟨ex, env', hp', H', μ', q1, q2, q3, q4⟩ := hpo
    cases ex with
    | normal =>
     have : e = .normal := (gM0 q2).2 rfl
     subst this
     exact hm _ _ _ _ (hP cy rfl ds _ _ _ q1 H' μ' a' w' q4) fun e a'' w'' hh => hh.trans q3
    | exit i => cases e <;> simp only [Ex.ok] at q2; exact ⟨.exit i, env', hp', H', μ', q1, q2, q3, q4⟩
    | ret => cases e <;> simp only [Ex.ok] at q2; exact ⟨.ret, env', hp', H', μ', q1, trivial, q3, q4⟩
    | pan v => cases e <;> simp only [Ex.ok] at q2; exact ⟨.pan v, env', hp', H', μ', q1, q2, q3, q4⟩
  have := iha (Cont.of_mono hm) hPb hb
  intro c hc env hp Q QD h H μ a' w hS
  have h1 := this c hc env hp Q QD h H μ a' w hS
  refine wp_seq (wp_mono h1 fun e a'' w'' h2 => ?_)
  cases e with
  | normal => exact h2
  | exit id => exact h2
  | goto l => exact h2
  | ret => exact h2
  | panic ch => exact h2
  | outgrown => exact h2
 | region id ops d =>
  intro W y f hm hP hF
  cases d with
  | false =>
   intro c hc
   unfold jE0 at hc
   split at hc
   ·rename_i t args hl
    split at hc
    ·rename_i is cy hi
     injection hc with hc; subst hc
     exact fpush_dfr rfl hm hP hl hi _ rfl
    ·cases hc
   ·split at hc
    ·rename_i cx g hx
     injection hc with hc; subst hc
     exact ea0 rfl hm hF hx _ rfl
    ·cases hc
  | true =>
   intro c hc
   unfold jE0 at hc
   split at hc
   ·rename_i cx g hx
    injection hc with hc; subst hc
    exact ea0 rfl hm hF hx _ rfl
   ·cases hc
 | cond v a b iha ihb =>
  intro W y f hm hP hF c hc
  unfold jE0 at hc
  split at hc
  ·rename_i cx g hx
   injection hc with hc; subst hc
   exact ea0 rfl hm hF hx _ rfl
  ·split at hc
   ·rename_i g h hg hh
    injection hc with hc; subst hc
    intro env hp Q QD hv H μ a' w hS
    obtain ⟨t, h1, h2, h3⟩ := hv
    have ev := (bW0 hS h1).bw0
    refine wp_cond ev ?_
    cases t with
    | true => exact iha hm hP hF g hg env hp Q QD (h2 rfl) H μ a' w hS
    | false => exact ihb hm hP hF h hh env hp Q QD (h3 rfl) H μ a' w hS
   ·cases hc
 | block id x _ =>
  intro W y f hm hP hF c hc
  unfold jE0 at hc
  split at hc
  ·rename_i cx g hx
   injection hc with hc; subst hc
   exact ea0 rfl hm hF hx _ rfl
  ·cases hc
 | loop x _ =>
  intro W y f hm hP hF c hc
  unfold jE0 at hc
  split at hc
  ·rename_i cx g hx
   injection hc with hc; subst hc
   exact ea0 rfl hm hF hx _ rfl
  ·cases hc
 | skip =>
  intro W y f hm hP hF c hc env hp Q QD h H μ a w hS
  exact wp_skip (hF c hc env hp Q QD h H μ a w hS)
 | ret =>
  intro W y f hm hP hF c hc
  unfold jE0 at hc
  split at hc
  ·injection hc with hc; subst hc
   exact ea0 rfl hm hF (by rfl) _ rfl
  ·cases hc
 | _ => intro W y f hm hP hF c hc; simp [jE0] at hc
theorem vcF_ok {k : Nat} {c : Code} {fc : FCd} (hc : fcomp P n c = some fc) {env : Env} {hp : Hp} {Q : Qs} {QD : FuncId -> List V -> Qs} (h : vcF P k fc env hp Q QD) :
  ∀ H μ a w, Sat ⟨n, []⟩ H μ env hp a w -> c.wp P (PostF n k H μ hp w Q QD) a w := by
 intro H μ a w hS
 have hm : o80 (fun Q a w => Q .normal a w) := fun Q Q' a w h hq => hq _ _ _ h
 have hP : ContP P n (some .skip) (fun Q a w => Q .normal a w) := fun c hc ds env hp Q h H μ a w hS => by
  injection hc with hc; subst hc
  exact ⟨.normal, env, hp, H, μ, h, trivial, Nx.refl H μ hp w, hS⟩
 have hF : n30 P n k (some (.plain .skip)) (fun Q a w => Q .normal a w) := fun c hc env hp Q QD h H μ a w hS => by
  injection hc with hc; subst hc
  exact .inl ⟨.normal, env, hp, H, μ, h, trivial, Nx.refl H μ hp w, hS⟩
 refine wp_mono (fpush_ok c hm hP hF fc hc env hp Q QD h H μ a w hS) fun e a' w' h2 => ?_
 cases e with
 | normal => exact h2
 | exit id => exact h2
 | goto l => exact h2
 | ret => exact h2
 | panic ch => exact h2
 | outgrown => exact h2
end Go.Am
end

section
namespace Go.Am
variable {P : Program} {n : Nat} {H : Imm} {μ : Mu} {env : Env} {hp : Hp} {a : Act} {w : World}
def dEnd (P : Program) (k : Nat) (rs : List IOp) (Q : Res -> Prop) (rec : Bool) (g : FuncId) (cs : List V) : Qs
 | .normal, env, hp | .ret, env, hp => ∃ E h, Wk E h env hp /\ jv0 P rec g cs none E h fun env' hp' => ∃ E' h', Wk E' h' env' hp' /\ retX k rs Q .ret E' h'
 | .pan p, env, hp => p.pure = true /\ ∃ E h, Wk E h env hp /\ jv0 P rec g cs (some p) E h fun env' hp' => match rec with
  | true => ∃ E' h', Wk E' h' env' hp' /\ retX k rs Q .ret E' h'
  | false => retX k rs Q (.pan p) env' hp'
 | .exit _, _, _ => False
theorem kb0 {m : Sz} {fn : Func} {rs : List IOp} {k : Nat} {Q : Res -> Prop} {H0 : Imm} {μ0 : Mu} {hp0 : Hp} {w0 : World} (k6 : fI0 P fn.results.toList = some rs) (hS : Sat m H μ env hp a w)
  (hN : Nj H0 μ0 hp0 w0 H μ hp w) (hext : ∀ j, j < k -> μ (.e j) = μ0 (.e j)) (h : ∃ E' h', Wk E' h' env hp /\ retX k rs Q .ret E' h') :
  Leaves P fn a.tmps (fun e w' => ∃ r H' μ', Q r /\ JP H0 μ0 k hp0 w0 r e H' μ' w') [] .returning w := by
 obtain ⟨E, h', hwk, h⟩ := h
 obtain ⟨H2, μ2, r1, r2⟩ := hwk m H μ a w hS
 obtain ⟨x, x1, x2⟩ := fin_ret k6 r1 (hN.trans r2.toNj) (fun j hj => (r2.ext j).trans (hext j hj)) h
 exact ⟨x, x1, x2⟩
theorem J_dfr {f : FuncId} {fc : FCd} {rs : List IOp} {args : List V} {obs : List Ob} {Q : Res -> Prop} (rec : Bool) (hf : FnD P f n fc rs) (hlen : args.length <= n)
  (h : vcF P obs.length fc (bq0 0 args) (hpE 0 obs) (wkQ (retX obs.length rs Q)) (dEnd P obs.length rs Q rec)) : J P f args obs Q := by
 intro H μ vs w h1 h2
 obtain ⟨fn, c, k1, k2, k3, k4, k5, k6⟩ := hf.ex
 have hrun : (callFunc f vs).run P w = .ok (.enter f vs) w := by
  have k2' : ¬ fn.name = "runtime.NumGoroutine" := by simpa using k2
  simp [callFunc, k1, k2', k3]
 unfold eH0
 rw [hrun]
 refine calls_of_wp_defers k1 k3 ?_
 rw [k4]
 have hS := lv0 (w := w) (hp := hpE 0 obs) hlen h1 h2
 refine wp_mono (vcF_ok (k := obs.length) k5 h H μ _ w hS) fun e a' w' hpo => ?_
 rcases hpo with hpo | hpo
 ·obtain ⟨ex, env', hp', H', μ', q1, q2, q3, q4⟩ := hpo
  have hd : a'.defers = [] := q4.defers
  have hret : ex = .normal \/ ex = .ret -> Leaves P fn a'.tmps (fun e w' => ∃ r H' μ', Q r /\ JP H μ obs.length (hpE 0 obs) w r e H' μ' w') [] .returning w' := by
   intro q
   refine kb0 k6 q4 q3.toNj (fun j _ => q3.ext j) ?_
   rcases q with rfl | rfl
   ·obtain ⟨E, h, r1, r2⟩ := q1; exact ⟨E, h, r1, r2⟩
   ·exact q1
  cases ex with
  | normal => cases e <;> simp only [Ex.ok] at q2; simp only [bodyPostD, hd]; exact hret (.inl rfl)
  | ret => cases e <;> simp only [Ex.ok] at q2; simp only [bodyPostD, hd]; exact hret (.inr rfl)
  | exit i => exact q1.elim
  | pan v =>
   cases e <;> simp only [Ex.ok] at q2
   obtain ⟨x, rfl, hx⟩ := q2
   simp only [bodyPostD, hd]
   exact oe0 (env := env') (rs := rs) hx q4.wd q3.toNj (fun j _ => q3.ext j) q1
 ·obtain ⟨g, cv, dargs, cs, ex, env', hp', H', μ', ⟨q0, qe⟩, q1, q2, q3, q5, q4⟩ := hpo
  have hd : a'.defers = [{ target := .fn (.func g) cv, args := dargs }] := q4.defers
  have wk : ∀ {E : Env} {h : Hp}, Wk E h env' hp' -> ∃ H2 μ2, Sat ⟨n, [{ target := .fn (.func g) cv, args := dargs }]⟩ H2 μ2 E h a' w' /\ Nx H' μ' hp' w' H2 μ2 h w' /\ RL H2 μ2 cs (dargs ++ cv) := by
   intro E h hwk
   obtain ⟨H2, μ2, r1, r2⟩ := hwk _ H' μ' a' w' q4
   refine ⟨H2, μ2, r1, r2, q0.1, fun q v hq => (q0.2 q v hq).mono r2.imm fun i hi => ?_⟩
   obtain ⟨j, rfl⟩ := V.gv0 qe (V.g70 hq hi)
   exact r2.ext j
  have hinv : (callFunc g (dargs ++ cv)).run P w' = .ok (.enter g (dargs ++ cv)) w' -> (invoke (.fn (.func g) cv) dargs).run P w' = .ok (.enter g (dargs ++ cv)) w' := fun h => h
  have hret : (∃ E h, Wk E h env' hp' /\ jv0 P rec g cs none E h fun env' hp' => ∃ E' h', Wk E' h' env' hp' /\ retX obs.length rs Q .ret E' h') ->
    Leaves P fn a'.tmps (fun e w' => ∃ r H' μ', Q r /\ JP H μ obs.length (hpE 0 obs) w r e H' μ' w') a'.defers .returning w' := by
   rintro ⟨E, h, r1, r2⟩
   obtain ⟨H5, μ2, s1, s2, s3⟩ := wk r1
   obtain ⟨t1, t2⟩ := oJ0 (pv := none) s1 s3 (u := .returning) rfl r2
   rw [hd]
   refine leaves_cons (by simp) (hinv t1) (t2.mono fun e u' w'' hq => ?_)
   obtain ⟨hu, v, rfl, env2, hp2, H2, μ3, p1, p2, p3⟩ := hq
   have : settle u' = .returning := by rw [hu]; cases rec <;> rfl
   simp only [this]
   exact kb0 k6 p2 ((q3.trans s2.toNj).trans p3.toNj) (fun j hj => (p3.ext j).trans ((s2.ext j).trans (q5 j hj))) p1
  cases ex with
  | normal => cases e <;> simp only [Ex.ok] at q2; exact hret q1
  | ret => cases e <;> simp only [Ex.ok] at q2; exact hret q1
  | exit i => exact q1.elim
  | pan p =>
   cases e <;> simp only [Ex.ok] at q2
   obtain ⟨x, rfl, hx⟩ := q2
   obtain ⟨hp, E, h, r1, r2⟩ := q1
   obtain ⟨H5, μ2, s1, s2, s3⟩ := wk r1
   have hx0 : R H5 Mu.bot p x := (hx.pure hp Mu.bot).le s2.imm
   obtain ⟨t1, t2⟩ := oJ0 (pv := some p) s1 s3 (u := .panicking [{ v := x, recovered := false }]) ⟨x, rfl, hx0⟩ r2
   simp only [bodyPostD, hd]
   refine leaves_cons (by simp) (hinv t1) (t2.mono fun e u' w'' hq => ?_)
   obtain ⟨hu, v, rfl, env2, hp2, H2, μ3, p1, p2, p3⟩ := hq
   have hN := (q3.trans s2.toNj).trans p3.toNj
   have hE : ∀ j, j < obs.length -> μ3 (.e j) = μ (.e j) := fun j hj => (p3.ext j).trans ((s2.ext j).trans (q5 j hj))
   cases rec with
   | true =>
    have : settle u' = .returning := by rw [hu]; rfl
    simp only [this]
    exact kb0 k6 p2 hN hE p1
   | false =>
    have : settle u' = .panicking [{ v := x, recovered := false }] := by rw [hu]; rfl
    simp only [this]
    exact oe0 (env := env2) (rs := rs) ((hx0.pure hp μ3).le p3.imm) p2.wd hN hE p1
end Go.Am
end

section
namespace Go.Am
variable {P : Program} {env : Env} {hp : Hp}
@[simp] theorem intO_tmp {t : Nat} {d : Int} {K : Int -> Prop} : intO (some (Env.ev env (.tmp t))) d K = a90 env t (hold fun v => intK v (hold fun _ n => K n)) := by
 simp only [eg0, hold]
 show intO (some (env.lookup t)) d K = _
 cases h : env.lookup t with
 | none => simp [intO]
 | some v => cases v with
  | c x => cases x <;> simp [intO, intK]
  | _ => simp [intO, intK]
@[simp] theorem intO_const {k : IntKind} {i d : Int} {K : Int -> Prop} : intO (some (Env.ev env (.const (.int k i)))) d K = K i := _root_.id rfl
theorem bc0 {xs : List (List V)} {k : Nat} {e : List V} {K : List V -> Prop} (h : xs[k]? = some e) : gW0 xs k K = K e := by simp [gW0, h]
theorem endP {k : Nat} {rs : List IOp} {Q : Res -> Prop} {v : V} (h : outV hp (esL 0 k) v (hold fun u obs => Q (.pan u obs))) : wkQ (retX k rs Q) (.pan v) env hp := h
@[simp high] theorem nth_lit0 {α : Type} {x0 : α} {l : List α} : (x0 :: l)[0]? = some x0 := rfl
@[simp high] theorem nth_lit1 {α : Type} {x0 x1 : α} {l : List α} : (x0 :: x1 :: l)[1]? = some x1 := rfl
@[simp high] theorem nth_lit2 {α : Type} {x0 x1 x2 : α} {l : List α} : (x0 :: x1 :: x2 :: l)[2]? = some x2 := rfl
@[simp high] theorem nth_lit3 {α : Type} {x0 x1 x2 x3 : α} {l : List α} : (x0 :: x1 :: x2 :: x3 :: l)[3]? = some x3 := rfl
@[simp high] theorem nth_lit4 {α : Type} {x0 x1 x2 x3 x4 : α} {l : List α} : (x0 :: x1 :: x2 :: x3 :: x4 :: l)[4]? = some x4 := rfl
@[simp high] theorem nth_lit5 {α : Type} {x0 x1 x2 x3 x4 x5 : α} {l : List α} : (x0 :: x1 :: x2 :: x3 :: x4 :: x5 :: l)[5]? = some x5 := rfl
@[simp high] theorem nth_lit6 {α : Type} {x0 x1 x2 x3 x4 x5 x6 : α} {l : List α} : (x0 :: x1 :: x2 :: x3 :: x4 :: x5 :: x6 :: l)[6]? = some x6 := rfl
@[simp high] theorem nth_lit7 {α : Type} {x0 x1 x2 x3 x4 x5 x6 x7 : α} {l : List α} : (x0 :: x1 :: x2 :: x3 :: x4 :: x5 :: x6 :: x7 :: l)[7]? = some x7 := rfl
@[simp high] theorem nth_lit8 {α : Type} {x0 x1 x2 x3 x4 x5 x6 x7 x8 : α} {l : List α} : (x0 :: x1 :: x2 :: x3 :: x4 :: x5 :: x6 :: x7 :: x8 :: l)[8]? = some x8 := rfl
@[simp high] theorem nth_lit9 {α : Type} {x0 x1 x2 x3 x4 x5 x6 x7 x8 x9 : α} {l : List α} : (x0 :: x1 :: x2 :: x3 :: x4 :: x5 :: x6 :: x7 :: x8 :: x9 :: l)[9]? = some x9 := rfl
end Go.Am
end

section
namespace Go.Am
variable {P : Program}
theorem JP.congr {H : Imm} {μ : Mu} {k : Nat} {hp hq : Hp} {w : World} (ho : ∀ b, Owns hq μ b ↔ Owns hp μ b) {r : Res} {e : Ending} {H' : Imm} {μ' : Mu} {w' : World} (h : JP H μ k hp w r e H' μ' w') : JP H μ k hq w r e H' μ' w' := by
 have nj : ∀ {hp' : Hp}, Nj H μ hp w H' μ' hp' w' -> Nj H μ hq w H' μ' hp' w' := fun n =>
  ⟨n.imm, n.os, n.tape, n.output, n.size, fun b hb hno => n.keep b hb fun h => hno ((ho b).2 h), fun b h hb => (ho b).2 (n.own b h hb), fun b cs h h0 => (n.fresh b cs h h0).imp id (ho b).2⟩
 cases r with
 | ret v obs => exact ⟨h.1, nj h.2.1, h.2.2⟩
 | pan v obs => exact ⟨h.1, nj h.2.1, h.2.2⟩
def rest (vals : Array Value) (sz k m : Nat) : List (List V) := (List.range m).map fun j => (List.range sz).map fun q => V.c (vals.getD ((k + j) * sz + q) undef)
def preO (o' o : Ob) : Prop := o' = o \/ ∃ ty sz own xs t, o = .row ty sz own (xs ++ t) /\ o' = .row ty sz own xs
theorem preO_row {ty sz : Nat} {own : Bool} {xs t ys : List (List V)} (h : ys = xs ++ t) : preO (.row ty sz own xs) (.row ty sz own ys) := .inr ⟨ty, sz, own, xs, t, by rw [h], rfl⟩
theorem ObOk.pre {H : Imm} {μ : Mu} {w : World} {i : Id} {o o' : Ob} (h : ObOk H μ w i o) (hp : preO o' o) : ObOk H μ w i o' /\ o'.own = o.own := by
 rcases hp with rfl | ⟨ty, sz, own, xs, t, rfl, rfl⟩
 ·exact ⟨h, rfl⟩
 ·refine ⟨?_, rfl⟩
  rcases h with ⟨h1, h2⟩ | ⟨blk, vals, h1, h2, h3, h4, h5, h6, h7, h8, h9⟩
  ·exact .inl ⟨(List.append_eq_nil_iff.1 h1).1, h2⟩
  ·have get : ∀ (k : Nat) (e : List V), xs[k]? = some e -> (xs ++ t)[k]? = some e := fun k e he => by
    rw [List.getElem?_append_left (List.getElem?_eq_some_iff.1 he).1]; exact he
   exact .inr ⟨blk, vals, h1, h2, h3, h4, by simp at h5; omega, fun k e he => h6 k e (get k e he), h7, h8, fun k e he => h9 k e (get k e he)⟩
theorem Wk.pre {env E : Env} {hp h : Hp} (hE : ∀ p ∈ E, a90 env p.1 (· = p.2)) (hh : ∀ p ∈ h, objK hp p.1 fun o => preO p.2 o) : Wk E h env hp := fun n H μ a w hS => by
 have hob : ∀ i o, h.lookup i = some o -> ∃ o', hp.lookup i = some o' /\ preO o o' := by
  intro i o hl
  have := hh (i, o) (bn0 hl)
  rw [ha0] at this
  exact this
 have hW := hS.wd
 refine ⟨H, μ, ⟨hS.defers, hS.size, fun s v hs => ?_, ⟨fun i o hl => ?_, fun i j oi oj bi bj hi hoi hj hoj hbi hbj e => ?_, hW.imm, hW.glo⟩⟩, ⟨⟨Imm.le_refl H, rfl, rfl, rfl, Nat.le_refl _, fun _ _ _ => rfl, fun b hO _ => ?_, fr0⟩, fun _ => rfl⟩⟩
 ·have h1 := hE (s, v) (bn0 hs)
  rw [eg0] at h1
  obtain ⟨u, h2, rfl⟩ := h1
  exact hS.env s u h2
 ·obtain ⟨o', h1, h2⟩ := hob i o hl
  exact ((hW.ob i o' h1).pre h2).1
 ·obtain ⟨o1, h1, h2⟩ := hob i oi hi
  obtain ⟨o2, k1, k2⟩ := hob j oj hj
  exact hW.inj i j o1 o2 bi bj h1 (by rw [<- ((hW.ob i o1 h1).pre h2).2]; exact hoi) k1 (by rw [<- ((hW.ob j o2 k1).pre k2).2]; exact hoj) hbi hbj e
 ·obtain ⟨i, o, blk, h1, h2, h3, h4⟩ := hO
  obtain ⟨o', k1, k2⟩ := hob i o h1
  exact ⟨i, o', blk, k1, by rw [<- ((hW.ob i o' k1).pre k2).2]; exact h2, h3, h4⟩
end Go.Am
end

section
namespace Go.Am
variable {P : Program} {env : Env} {hp : Hp}
def dfrS (P : Program) (k : Nat) (t : Operand) (args : List Operand) (c : Cd) (QD : FuncId -> List V -> Qs) (e : Env) (h : Hp) : Prop :=
 ∃ g caps vs, Env.ev e t = some (.fn g caps) /\ args.mapM (Env.ev e) = some vs /\ ∃ E h' cs', WkE k E h' cs' e h (vs ++ caps) /\ V.js0 cs' = true /\ vc P c E h' (QD g cs')
theorem eG0 {k c f Q QD} : vcF P k (.seq c f) env hp Q QD = vc P c env hp (hold (kN0 (fun e h => vcF P k f e h Q QD) Q)) := _root_.id rfl
theorem lD0 {k v f g Q QD} : vcF P k (.ite v f g) env hp Q QD = evK env v (hold fun u => bD0 u (hold fun t => (t = true -> vcF P k f env hp Q QD) /\ (t = false -> vcF P k g env hp Q QD))) := by
 simp only [vcF, hold, b80, mp0]
theorem ij0 {k c Q QD} : vcF P k (.plain c) env hp Q QD = vc P c env hp Q := _root_.id rfl
theorem eF0 {k is t args c Q QD} : vcF P k (.dfr is t args c) env hp Q QD = vcIs P env hp is (hold fun e h => dfrS P k t args c QD e h) (hold fun v h => Q (.pan v) [] h) := _root_.id rfl
theorem mu0 {k t args c QD} {g : FuncId} {caps vs cs' : List V} {E : Env} {h' : Hp} (h1 : Env.ev env t = some (.fn g caps)) (h2 : args.mapM (Env.ev env) = some vs) (hw : WkE k E h' cs' env hp (vs ++ caps)) (ha : V.js0 cs' = true)
  (h : vc P c E h' (QD g cs')) : dfrS P k t args c QD env hp := ⟨g, caps, vs, h1, h2, E, h', cs', hw, ha, h⟩
theorem JD.mono {rec : Bool} {f : FuncId} {args : List V} {obs : List Ob} {pv : Option V} {Q Q' : Res -> Prop} (h : JD P rec f args obs pv Q) (hq : ∀ r, Q r -> Q' r) : JD P rec f args obs pv Q' := fun H μ vs w u h1 h2 h3 => by
 obtain ⟨k1, k2⟩ := h H μ vs w u h1 h2 h3
 refine ⟨k1, k2.mono fun e u' w' ⟨q1, r, H', μ', q2, q3⟩ => ⟨q1, r, H', μ', hq r q2, q3⟩⟩
def dJ (P : Program) (rec : Bool) (g : FuncId) (args : List V) (obs : List Ob) (pv : Option V) (env : Env) (hp : Hp) (ids : List Id) (K : Env -> Hp -> Prop) : Prop :=
 JD P rec g args obs pv fun r => match r with
  | .ret v obs' => ∃ base, fP0 env hp ids base v obs' fun _ env' hp' => K env' hp'
  | .pan _ _ => False
theorem dz0 {rec : Bool} {g : FuncId} {cs : List V} {pv : Option V} {K : Env -> Hp -> Prop} (ids : List Id) (hnd : ids.Nodup)
  (h : V.seeL false ids (Hp.frz (.tup (V.bF0 ids (cs ++ boxes hp ids))) hp) cs (hold fun us => dM0 (toE ids 0) us (hold fun args =>
   e10 ids (Hp.frz (.tup (V.bF0 ids (cs ++ boxes hp ids))) hp) ids (hold fun obs => dJ P rec g args obs pv env (Hp.frz (.tup (V.bF0 ids (cs ++ boxes hp ids))) hp) ids K)))) : jv0 P rec g cs pv env hp K :=
 ⟨ids, hnd, h⟩
theorem kr0 {rec : Bool} {g : FuncId} {args : List V} {obs obs' : List Ob} {pv : Option V} {ids : List Id} {K : Env -> Hp -> Prop} {v : V} (h : JD P rec g args obs pv (· = .ret v obs')) (hl : obs'.length <= ids.length)
  (hK : fP0 env hp ids 0 v obs' (hold fun _ env' hp' => K env' hp')) : dJ P rec g args obs pv env hp ids K := h.mono fun r e => by subst e; exact ⟨0, hK⟩
theorem dJ_retB {rec : Bool} {g : FuncId} {args : List V} {obs obs' : List Ob} {pv : Option V} {ids : List Id} {K : Env -> Hp -> Prop} {v : V} (base : Nat) (h : JD P rec g args obs pv (· = .ret v obs'))
  (hK : fP0 env hp ids base v obs' (hold fun _ env' hp' => K env' hp')) : dJ P rec g args obs pv env hp ids K := h.mono fun r e => by subst e; exact ⟨base, hK⟩
theorem kQ0 {k : Nat} {rs : List IOp} {Q : Res -> Prop} {rec : Bool} {g : FuncId} {cs : List V} (E : Env) (h : Hp) (hw : Wk E h env hp) (hd : jv0 P rec g cs none E h (wkQ (retX k rs Q) .ret)) : dEnd P k rs Q rec g cs .ret env hp := ⟨E, h, hw, hd⟩
theorem dEnd_nrm {k : Nat} {rs : List IOp} {Q : Res -> Prop} {rec : Bool} {g : FuncId} {cs : List V} (E : Env) (h : Hp) (hw : Wk E h env hp) (hd : jv0 P rec g cs none E h (wkQ (retX k rs Q) .ret)) : dEnd P k rs Q rec g cs .normal env hp := ⟨E, h, hw, hd⟩
theorem kP0 {k : Nat} {rs : List IOp} {Q : Res -> Prop} {g : FuncId} {cs : List V} {p : V} (hpu : p.pure = true) (E : Env) (h : Hp) (hw : Wk E h env hp) (hd : jv0 P true g cs (some p) E h (wkQ (retX k rs Q) .ret)) : dEnd P k rs Q true g cs (.pan p) env hp := ⟨hpu, E, h, hw, hd⟩
end Go.Am
end

section
namespace Go.Am
set_option maxRecDepth 100000
attribute [local irreducible] vc vcIs vcI vcOp vcD vcDp vcDR vcT vcAR b30 aU0 panD neG ne pv J bV0 b00 b90 a90 evK evsK nthK objK boxK rowK bD0 intK strK aggK fnK ifcK at0 av0 ldK ldaK iaK srcK stK appK appD ce0 pvK bU0 aX0 bT0 bv0 slAV bH0
abbrev vI (n : Int) : V := .c (.int .i64 n)
abbrev vB (b : Bool) : V := .c (.bool b)
abbrev vS (s : ByteArray) : V := .c (.string s)
abbrev vU (c : UInt8) : V := .c (.int .u8 c.toNat)
theorem iy0 (s : ByteArray) (c : UInt8) : Ret prog dr0 [vS s, vU c] (vI (Lib.indexByte (sB s) c)) :=
 J_ext (fn := Go.Proofs.Tryz.f110) Go.Proofs.Tryz.func110 (by kernel_rfl) (by kernel_rfl) (by kernel_rfl) (e := Extern.BytealgIndexByte.indexByte) (by kernel_rfl) (fun H μ us h => h.two) (fun w => by rw [Lib.run_indexByteString]; simp) (fun H μ => .c _)
theorem fT0 (s : ByteArray) (c : UInt8) : Ret prog bZ0 [vS s, vU c] (vI (Lib.indexByte (sB s) c)) := by
 refine de0 dG0 (by simp) ?_
 simp +contextual (maxSteps := 2000000) (disch := omega) [-Int.not_lt, -Int.not_le, -Nat.not_lt, -Nat.not_le, sx, bK0]
 refine ai0 ?_; simp; refine ah0 (iy0 s c) (by simp) ?_
 simp +contextual (maxSteps := 2000000) (disch := omega) [-Int.not_lt, -Int.not_le, -Nat.not_lt, -Nat.not_le, sx]
theorem aF0 (s : ByteArray) (c : UInt8) : Ret prog fv0 [vS s, vU c] (vI (Lib.indexByte (sB s) c)) := by
 refine de0 iK0 (by simp) ?_
 simp +contextual (maxSteps := 2000000) (disch := omega) [-Int.not_lt, -Int.not_le, -Nat.not_lt, -Nat.not_le, sx, eS0]
 refine ai0 ?_; simp; refine ah0 (fT0 s c) (by simp) ?_
 simp +contextual (maxSteps := 2000000) (disch := omega) [-Int.not_lt, -Int.not_le, -Nat.not_lt, -Nat.not_le, sx]
theorem hY0 (l : List UInt8) (c : UInt8) : Lib.indexByte l c < l.length := by
 induction l with
 | nil => simp [Lib.indexByte]
 | cons b l ih =>
  unfold Lib.indexByte
  simp only [List.length_cons]
  split
  ·omega
  ·split <;> omega
theorem bP0 (l : List UInt8) (c : UInt8) : 0 <= Lib.indexByte l c ↔ l.contains c = true := by
 induction l with
 | nil => simp [Lib.indexByte]
 | cons b l ih =>
  have hge := Lib.indexByte_ge l c
  unfold Lib.indexByte
  rw [List.contains_cons, Bool.or_eq_true, <- ih]
  by_cases h1 : b = c
  ·subst h1; simp
  ·have h2 : ¬ c = b := fun hh => h1 hh.symm
   have h3 : (b == c) = false := by simpa using h1
   have h4 : (c == b) = false := by simpa using h2
   rw [h3, h4]
   by_cases h5 : Lib.indexByte l c = -1
   ·rw [h5]; simp
   ·have h6 : (Lib.indexByte l c == -1) = false := by simpa using h5
    rw [h6]; simp only [Bool.false_eq_true, if_false, false_or]; omega
structure LxS where
 s : ByteArray
 at_ : Int
 out : List Tok
def LxS.obs (x : LxS) : List Ob := [.box [vS x.s, vI x.at_, .arr (.e 1) 0 x.out.length], .row bB0 4 true (x.out.map Tok.cells)]
theorem aL0 (x : LxS) (a e : Int) : J prog hr0 [.bp (.e 0) 0, vI a, vI e] x.obs (· = .pan (.ifc jn0 (.agg [vI a, vI e])) x.obs) := by
 refine aq0 j70 (by simp [LxS.obs]) ?_
 simp +contextual (maxSteps := 2000000) (disch := omega) [-Int.not_lt, -Int.not_le, -Nat.not_lt, -Nat.not_le, sx, gy0, LxS.obs, hpE]
 refine endP ?_
 simp +contextual (maxSteps := 2000000) (disch := omega) [-Int.not_lt, -Int.not_le, -Nat.not_lt, -Nat.not_le, sx]
theorem h20 (x : LxS) (set : ByteArray) (i : Nat) (hx : x.at_ = i) (hs : x.s.size < 2 ^ 40) :
  J prog fh0 [.bp (.e 0) 0, vS set] x.obs (· = .ret (vI (bb0 (sB set) (sB x.s) i)) x.obs) := by
 have hz : x.s.size = (sB x.s).length := rfl
 refine aq0 hy0 (by simp [LxS.obs]) ?_
 simp +contextual (maxSteps := 2000000) (disch := omega) [-Int.not_lt, -Int.not_le, -Nat.not_lt, -Nat.not_le, sx, ew0, LxS.obs, hpE, hx]
 refine aH0 (fun j : Nat => x.s.size - j) (fun j => [(5, vI j), (1, vS set), (0, .bp (.e 0) 0)])
  (fun _ => [(.e 0, .box [vS x.s, vI x.at_, .arr (.e 1) 0 x.out.length]), (.e 1, .row bB0 4 true (x.out.map Tok.cells))])
  (fun j => bb0 (sB set) (sB x.s) j = bb0 (sB set) (sB x.s) i) i rfl (Wk.subs (by simp) (by simp [hx])) ?_
 intro j hj
 simp +contextual (maxSteps := 2000000) (disch := omega) [-Int.not_lt, -Int.not_le, -Nat.not_lt, -Nat.not_le, sx]
 refine ⟨fun hl => ?_, fun hl => ?_⟩
 ·have hl' : j < (sB x.s).length := by rw [<- hz]; exact hl
  refine ⟨(sB x.s)[j], by simp [sB], ?_⟩
  refine ai0 ?_; simp; refine ah0 (aF0 set (sB x.s)[j]) (by simp) ?_
  simp +contextual (maxSteps := 2000000) (disch := omega) [-Int.not_lt, -Int.not_le, -Nat.not_lt, -Nat.not_le, sx]
  refine ⟨fun hc => ?_, fun hc => ?_⟩
  ·have hm := (bP0 _ _).1 hc
   refine .of (j + 1) (by rw [<- hj, mT0 hl' hm]) (by omega) (Wk.subs (by simp) (by simp [hx]))
  ·have hm : (sB set).contains (sB x.s)[j] = false := by
    rw [<- Bool.not_eq_true]; intro h; exact hc ((bP0 _ _).2 h)
   rw [nQ0 hl' hm] at hj
   refine endR _ _ (Wk.refl _ _) [] (by simp) ?_
   simp +contextual (maxSteps := 2000000) (disch := omega) [-Int.not_lt, -Int.not_le, -Nat.not_lt, -Nat.not_le, sx, hj, hx]
 ·rw [nP0 (by omega)] at hj
  refine endR _ _ (Wk.refl _ _) [] (by simp) ?_
  simp +contextual (maxSteps := 2000000) (disch := omega) [-Int.not_lt, -Int.not_le, -Nat.not_lt, -Nat.not_le, sx, hj, hx]
theorem dn0 (s : ByteArray) (i j : Nat) : sB (s.extract i j) = ((sB s).drop i).take (j - i) := by
 obtain ⟨⟨l⟩⟩ := s
 simp [sB, ByteArray.extract, ByteArray.copySlice]
theorem fU0 {s : Bs} {f i : Nat} (h : s[bb0 aZ0 s i]? ≠ some 35) : aJ0 s (f + 1) i = bb0 aZ0 s i := by
 rw [aJ0, if_neg h]
theorem km0 {s : Bs} {f i : Nat} (h : s[bb0 aZ0 s i]? = some 35) : aJ0 s (f + 1) i = aJ0 s f (if Lib.indexByte (s.drop (bb0 aZ0 s i)) 10 < 0 then s.length else bb0 aZ0 s i + (Lib.indexByte (s.drop (bb0 aZ0 s i)) 10).toNat) := by
 rw [aJ0, if_pos h]
theorem lR0 (x : LxS) (i : Nat) (hx : x.at_ = i) (hi : i <= x.s.size) (hs : x.s.size < 2 ^ 40) :
  J prog dX0 [.bp (.e 0) 0] x.obs (· = .ret (.tup []) ({ x with at_ := aJ0 (sB x.s) (x.s.size + 1) i } : LxS).obs) := by
 have hz : x.s.size = (sB x.s).length := rfl
 refine aq0 gc0 (by simp [LxS.obs]) ?_
 simp +contextual (maxSteps := 2000000) (disch := omega) [-Int.not_lt, -Int.not_le, -Nat.not_lt, -Nat.not_le, sx, du0, LxS.obs, hpE]
 refine aH0 (fun y : Nat × Nat => y.1) (fun y => [(0, .bp (.e 0) 0)])
  (fun y => [(.e 0, .box [vS x.s, vI y.2, .arr (.e 1) 0 x.out.length]), (.e 1, .row bB0 4 true (x.out.map Tok.cells))])
  (fun y => y.2 <= x.s.size /\ x.s.size - y.2 < y.1 /\ aJ0 (sB x.s) y.1 y.2 = aJ0 (sB x.s) (x.s.size + 1) i) (x.s.size + 1, i) ⟨hi, by show x.s.size - i < x.s.size + 1; omega, rfl⟩ (Wk.subs (by simp) (by simp [hx])) ?_
 rintro ⟨f, j⟩ ⟨hj, hf, hb⟩
 dsimp only at hj hf hb
 obtain ⟨f, rfl⟩ : ∃ f', f = f' + 1 := ⟨f - 1, by omega⟩
 have hge := is0 aZ0 (sB x.s) j
 have hle : bb0 aZ0 (sB x.s) j <= x.s.size := it0 hj
 simp +contextual (maxSteps := 2000000) (disch := omega) [-Int.not_lt, -Int.not_le, -Nat.not_lt, -Nat.not_le, sx]
 refine aa0 [.e 0, .e 1] rfl rfl (by simp) ?_
 simp
 have hpO := h20 { x with at_ := j } ⟨⟨[32, 10, 9]⟩⟩ j rfl hs
 try simp [LxS.obs] at hpO
 refine ab0 5 hpO (by simp) ?_
 clear hpO
 rw [show sB ⟨⟨[32, 10, 9]⟩⟩ = aZ0 from rfl]
 generalize hp : bb0 aZ0 (sB x.s) j = p at *
 simp +contextual (maxSteps := 2000000) (disch := omega) [-Int.not_lt, -Int.not_le, -Nat.not_lt, -Nat.not_le, sx]
 refine ⟨fun hl => ?_, fun hl => ?_⟩
 ·rw [fU0 (by rw [hp, List.getElem?_eq_none (by omega)]; simp), hp] at hb
  refine endR _ _ (Wk.refl _ _) [] (by simp) ?_
  simp +contextual (maxSteps := 2000000) (disch := omega) [-Int.not_lt, -Int.not_le, -Nat.not_lt, -Nat.not_le, sx, <- hb]
 have hl' : p < (sB x.s).length := by omega
 refine ⟨(sB x.s)[p], by simp [sB], fun hc => ?_, fun hc => ?_⟩
 ·rw [fU0 (by rw [hp, List.getElem?_eq_getElem hl']; intro h; apply hc; injection h with h; rw [h]; rfl), hp] at hb
  refine endR _ _ (Wk.refl _ _) [] (by simp) ?_
  simp +contextual (maxSteps := 2000000) (disch := omega) [-Int.not_lt, -Int.not_le, -Nat.not_lt, -Nat.not_le, sx, <- hb]
 have hc' : (sB x.s)[p] = 35 := by
  apply UInt8.toNat_inj.1; exact_mod_cast hc
 refine ai0 ?_; simp; refine ah0 (aF0 (x.s.extract p x.s.size) 10) (by simp) ?_
 rw [dn0, List.take_of_length_le (by simp)]
 have hlt := hY0 ((sB x.s).drop p) 10
 have h0 : 0 < (Lib.indexByte ((sB x.s).drop p) 10) \/ (Lib.indexByte ((sB x.s).drop p) 10) < 0 := by
  rw [List.drop_eq_getElem_cons hl', hc']
  have hge := Lib.indexByte_ge ((sB x.s).drop (p + 1)) 10
  unfold Lib.indexByte
  by_cases h5 : Lib.indexByte ((sB x.s).drop (p + 1)) 10 = -1
  ·rw [h5]; right; decide
  ·left
   have h6 : (Lib.indexByte ((sB x.s).drop (p + 1)) 10 == -1) = false := by simpa using h5
   rw [h6, show ((35 : UInt8) == 10) = false from rfl]
   simp only [Bool.false_eq_true, if_false]; omega
 rw [km0 (by rw [hp, List.getElem?_eq_getElem hl', hc']), hp] at hb
 generalize hq : Lib.indexByte ((sB x.s).drop p) 10 = q at *
 simp only [List.length_drop] at hlt
 simp +contextual (maxSteps := 2000000) (disch := omega) [-Int.not_lt, -Int.not_le, -Nat.not_lt, -Nat.not_le, sx]
 refine ⟨fun hq0 => ?_, fun hq0 => ?_⟩
 ·obtain ⟨m, rfl⟩ := Int.eq_ofNat_of_zero_le hq0
  rw [if_neg (by omega)] at hb
  refine .of (f, p + m) ⟨by dsimp only; omega, by dsimp only; omega, hb⟩ (by simp) (Wk.subs (by simp) (by simp))
 ·rw [if_pos (by omega)] at hb
  refine .of (f, x.s.size) ⟨by dsimp only; omega, by dsimp only; omega, hb⟩ (by simp) (Wk.subs (by simp) (by simp))
def LxS.obs' (x : LxS) : List Ob := [.box [vS x.s, vI x.at_, .arr (.e 2) 0 x.out.length], .gone, .row bB0 4 true (x.out.map Tok.cells)]
theorem eb0 (x : LxS) (t : Tok) (e : Int) (hn : x.out.length < 4096) :
  J prog fg0 [.bp (.e 0) 0, t.V, vI e] x.obs (· = .ret (.tup []) ({ x with out := x.out ++ [{ t with at_ := x.at_ }], at_ := e } : LxS).obs') := by
 refine aq0 hw0 (by simp [LxS.obs]) ?_
 simp +contextual (maxSteps := 2000000) (disch := omega) [-Int.not_lt, -Int.not_le, -Nat.not_lt, -Nat.not_le, sx, ev0, LxS.obs, hpE]
 refine endN _ _ (Wk.refl _ _) [.l 30 0] (by simp) ?_
 simp +contextual (maxSteps := 2000000) (disch := omega) [-Int.not_lt, -Int.not_le, -Nat.not_lt, -Nat.not_le, sx, LxS.obs', Tok.ac0]
theorem db0 (x : LxS) (t : Tok) (e : Int) (hn : 4096 <= x.out.length) (hl : x.out.length < 2 ^ 40) :
  J prog fg0 [.bp (.e 0) 0, t.V, vI e] x.obs (· = .pan (.ifc jn0 (.agg [vI x.at_, vI 36])) x.obs) := by
 refine aq0 hw0 (by simp [LxS.obs]) ?_
 simp +contextual (maxSteps := 2000000) (disch := omega) [-Int.not_lt, -Int.not_le, -Nat.not_lt, -Nat.not_le, sx, ev0, LxS.obs, hpE]
 refine aa0 [.e 0, .e 1] rfl rfl (by simp) ?_
 simp
 have hpO := aL0 x x.at_ 36
 try simp [LxS.obs] at hpO
 refine af0 hpO ?_
 clear hpO
 simp +contextual (maxSteps := 2000000) (disch := omega) [-Int.not_lt, -Int.not_le, -Nat.not_lt, -Nat.not_le, sx]
 refine endP ?_
 simp +contextual (maxSteps := 2000000) (disch := omega) [-Int.not_lt, -Int.not_le, -Nat.not_lt, -Nat.not_le, sx]
end Go.Am
end

section
namespace Go.Am
open Go
open Go.Proofs.YtnlggapedakocaaGreatDoor (Rows.uptoBulk Rows.uptoBulkAll)
set_option maxRecDepth 100000
section
variable {H : Type} {enc : TypeId × Value -> H} {W : World} {sp : Nat -> Bool} {held : Bool}
theorem c4 : Go.Proofs.Tryz.prog.cellsOf 4 = 1 := by kernel_rfl
theorem bulk_pos (d : DataW H) : 1 <= Rows.uptoBulk d := by
 cases d with
 | lit l => cases l <;> simp [Rows.uptoBulk]
 | _ => simp [Rows.uptoBulk]
theorem oQ0 : ∀ (ds : List (DataW H)), ds.length <= Rows.uptoBulkAll ds
 | [] => by simp
 | d :: ds => by
  have h0 := bulk_pos d
  have ih := oQ0 ds
  simp only [List.length_cons, Rows.uptoBulkAll]
  omega
theorem rd_bools {n : Nat} {cs : List Value} {x : DataW H × List MemPlace} (h : DataW.trod enc Go.Proofs.Tryz.prog W 0 sp held n 50 cs = some x) :
  ∃ (l : List Bool) (v : Value), cs = [v] /\ R (imW W) Mu.bot (.lst (l.map fun b => [vB b])) v /\ l.length <= Rows.uptoBulk x.1 := by
 cases n with
 | zero => simp [DataW.trod] at h
 | succ n =>
 obtain ⟨l, v, e, hR, hq⟩ := rd_slice (α := Bool) (fun b => [vB b]) (fun _ _ => True) Go.Proofs.Tryz.underlying50 c4 (by omega) (fun a => ⟨rfl, by simp [scalars]⟩)
  (fun cs x h => by
   obtain ⟨b, rfl, rfl⟩ := DataW.trod_bool Go.Proofs.Tryz.underlying4 h
   refine ⟨b, trivial, fun j u hj => ?_⟩
   match j, hj with
   | 0, hj => injection hj with hj; subst hj; exact .c _
   | j + 1, hj => simp at hj) h
 refine ⟨l, v, e, hR, ?_⟩
 rcases hq with ⟨_, rfl⟩ | ⟨ds, rest, hy, hlen, hQ⟩
 ·simp
 ·rw [hy]
  have := oQ0 ds
  simp only [Rows.uptoBulk]
  omega
theorem wd_imW (hl : ∀ p ∈ nu0, imW W p.1 = some p.2) : Wd (imW W) Mu.bot (hpE 0 []) W := by
 refine ⟨fun i o h => absurd h (by simp [hpE]), fun i j oi oj bi bj h => absurd h (by simp [hpE]), fun b cs h => ?_, hl⟩
 unfold imW at h
 split at h
 ·rename_i c t f hb
  injection h with h; subst h
  exact ⟨t, f, hb⟩
 ·cases h
end
end Go.Am
end

section
namespace Go.Am
variable {P : Program}
theorem J_calls {f : FuncId} {fn : Func} {c : Code} {args : List V} {vs : Array Value} {v : V} {x : Value} (hf : P.funcs[f]? = some fn) (hn : (fn.name == "runtime.NumGoroutine") = false) (hb : fn.body = some c)
  (hargs : ∀ H μ us, RL H μ args us -> us = vs) (hx : ∀ H μ, R H μ v x)
  (hc : ∀ w, (∀ p ∈ nu0, ∃ ty fz, w.heap[p.1]? = some (.cells p.2 ty fz)) -> Calls P f vs w fun e w' => e = .returned x /\ ∃ k os, w' = Sort.grow (w.drewN k) os) : Ret P f args v := by
 intro H μ us w h3 hW
 have := hargs H μ us h3
 subst this
 have hn' : ¬ fn.name = "runtime.NumGoroutine" := by simpa using hn
 have hrun : (callFunc f us).run P w = .ok (.enter f us) w := by simp [callFunc, hf, hn', hb]
 unfold eH0
 rw [hrun]
 have hl : ∀ p ∈ nu0, ∃ ty fz, w.heap[p.1]? = some (.cells p.2 ty fz) := fun p hp => hW.imm _ _ (hW.glo p hp)
 refine Calls.mono (hc w hl) ?_
 rintro e w' ⟨rfl, k, os, rfl⟩
 have hheap : ∀ b, b < w.heap.size -> (Sort.grow (w.drewN k) os).heap[b]? = w.heap[b]? := by
  intro b hb
  show (w.heap ++ os)[b]? = w.heap[b]?
  rw [Array.getElem?_append_left hb]
 have hno : ∀ b, ¬ Owns (hpE 0 []) μ b := by rintro b ⟨i, o, blk, h, _⟩; simp [hpE] at h
 refine ⟨_, H, μ, rfl, ⟨x, rfl, hx H μ⟩, ⟨Imm.le_refl H, rfl, rfl, rfl, ?_, fun b hb _ => hheap b hb, fun b h _ => h, fr0⟩, ⟨fun i o hl => by simp [hpE] at hl, fun i j oi oj bi bj hi => by simp [hpE] at hi, fun b cs h => ?_, hW.glo⟩, Nat.le_refl _, fun j o hj => by simp at hj⟩
 ·show w.heap.size <= (w.heap ++ os).size
  simp
 ·obtain ⟨ty, fz, h1⟩ := hW.imm b cs h
  exact ⟨ty, fz, by rw [hheap b (Array.getElem?_eq_some_iff.1 h1).1]; exact h1⟩
theorem pz0 {w : World} {name : String} (hg : P.globalNamed name = some laidB) (hl : ∀ p ∈ nu0, ∃ ty fz, w.heap[p.1]? = some (.cells p.2 ty fz)) : Lib.TabIs P w name .u64 Lib.pow10Tab := by
 obtain ⟨ty, fz, h⟩ := hl _ (List.mem_singleton.2 rfl)
 unfold Lib.TabIs World.var?
 rw [hg]
 simp only [Option.bind_some]
 rw [h]
 rfl
end Go.Am
end

section
namespace Go.Proofs.YtnlggapedakocaaGreatDoor
open Go.ChangeShapes Go.WideShapes Go.ChangeAt Go.RowKit
open Go.Am (imW nu0)
set_option maxRecDepth 100000
theorem own : ownKnob Tryz.prog.godebug = none := by kernel_rfl
theorem gTab : Tryz.prog.globalNamed "internal/strconv.uint64pow10" = some 0 := by kernel_rfl
theorem gTabType : (Tryz.prog.globals[0]?).map (·.type) = some 151 := by kernel_rfl
theorem u151 : ∃ e, Tryz.prog.underlying 151 = some (.array 20 e) /\ Tryz.prog.underlying e = some (.int .u64) /\ Tryz.prog.cellsOf e = 1 := ⟨_, Tryz.underlying151, by kernel_rfl, by kernel_rfl⟩
theorem c151 : Tryz.prog.cellsOf 151 = 20 := by kernel_rfl
theorem table {W : World} (h : laidMetH Tryz.prog Rows.showTypesRow.laid W) : ∀ p ∈ nu0, imW W p.1 = some p.2 := by
 have h' : laidMet Tryz.prog Rows.showTypesRow.laid W := h
 obtain ⟨ps, ⟨_, _, _, _, _, _, _, _, _, _, ⟨_, _, _, _, _, _, _, _, _, _, ⟨g, t, cs, fuel, p, q, hg, ht, hv, hd, _⟩, _⟩, _⟩, _⟩ := h'
 obtain rfl := Option.some.inj (gTab.symm.trans hg)
 obtain rfl := Option.some.inj (gTabType.symm.trans ht)
 obtain ⟨e, u1, u2, u3⟩ := u151
 have hd' : DataW.trod (fun _ => ()) Tryz.prog W 0 (fun _ => true) false fuel 151 cs.toList = some (Lib.tabData .u64 Lib.pow10Tab, p) := hd
 have hc := Lib.cells_of_tab u1 u2 u3 c151 hd'
 intro x hx
 obtain rfl := List.mem_singleton.1 hx
 unfold World.var? at hv
 rw [gTab] at hv
 simp only [Option.bind_some] at hv
 show imW W 0 = _
 unfold imW
 split at hv
 ·rename_i c t f hb
  rw [hb]
  injection hv with hv
  subst hv
  have : c = (Lib.pow10Tab.map fun z => Value.int .u64 z).toArray := by
   rw [<- hc]
  rw [this]
  rfl
 ·cases hv
end Go.Proofs.YtnlggapedakocaaGreatDoor
end

section
namespace Go.Am
set_option maxRecDepth 100000
attribute [local irreducible] vc vcIs vcI vcOp vcD vcDp vcDR vcT vcAR b30 aU0 panD neG ne pv J bV0 b00 b90 a90 evK evsK nthK objK boxK rowK bD0 intK strK aggK fnK ifcK at0 av0 ldK ldaK iaK srcK stK appK appD ce0 pvK bU0 aX0 bT0 bv0 slAV bH0
abbrev h40 (ts : List Tok) (n : Int) (e : Int) : V := .ifc jY0 (.agg [vI (tk ts n.toNat).at_, vI e])
def pObs (ts : List Tok) (n : Int) : List Ob := [.box [.lst (ts.map Tok.cells), vI n]]
def pAns {α : Type} (ts : List Tok) (g : α -> V) : PR α -> Res
 | .ok (a, n) => .ret (g a) (pObs ts n)
 | .bad n e => .pan (h40 ts n e) (pObs ts n)
def ar0 (ts : List Tok) : LxR Nat -> Res
 | .ok n => .ret (.tup []) (pObs ts n)
 | .bad n e => .pan (h40 ts n e) (pObs ts n)
theorem tk_get {ts : List Tok} {n : Nat} (h : n < ts.length) : ts[n] = tk ts n := by
 unfold tk; rw [List.getD_eq_getElem?_getD, List.getElem?_eq_getElem h]; rfl
def ih0 (l : List ByteArray) (s : ByteArray) : Int := match l.findIdx? (fun x => decide (s = x)) with | some i => (i : Int) | none => -1
theorem ii0 (l : List ByteArray) (s : ByteArray) (hl : l.length < 2 ^ 40) :
  Ret prog bm0 [.lst (l.map eE0), vS s] (vI (ih0 l s)) := by
 refine de0 ep0 (by simp) ?_
 simp +contextual (maxSteps := 2000000) (disch := omega) [-Int.not_lt, -Int.not_le, -Nat.not_lt, -Nat.not_le, sx, cg0]
 refine aH0 (fun i : Nat => l.length - i) (fun i => [(8, vI i), (7, vI l.length), (0, .lst (l.map eE0)), (1, vS s)]) (fun _ => []) (fun i => i <= l.length /\ ∀ (j : Nat) (h : j < l.length), j < i -> ¬ s = l[j]) 0 (by simp) (Wk.subs (by simp) (by simp)) ?_
 rintro i ⟨hi, ho⟩
 by_cases hlt : i < l.length
 ·have hlt' : (i : Int) < l.length := by omega
  by_cases he : s = l[i]
  ·have : l.findIdx? (fun x => decide (s = x)) = some i := by
    rw [List.findIdx?_eq_some_iff_getElem]
    exact ⟨hlt, by simpa using he, fun j hj => by simpa using ho j (by omega) hj⟩
   have hx : ih0 l s = i := by rw [ih0, this]
   simp +contextual (maxSteps := 2000000) (disch := omega) [-Int.not_lt, -Int.not_le, -Nat.not_lt, -Nat.not_le, sx, hlt', <- he, hx]
  ·simp +contextual (maxSteps := 2000000) (disch := omega) [-Int.not_lt, -Int.not_le, -Nat.not_lt, -Nat.not_le, sx, hlt', he]
   refine .of (i + 1) ⟨by omega, fun j h1 h2 => ?_⟩ (by omega) (Wk.subs (by simp) (by simp))
   by_cases hj : j = i
   ·subst hj; exact he
   ·exact ho j h1 (by omega)
 ·have hge' : ¬ (i : Int) < l.length := by omega
  have : l.findIdx? (fun x => decide (s = x)) = none := by
   rw [List.findIdx?_eq_none_iff]
   intro x hx
   obtain ⟨j, hj, rfl⟩ := List.getElem_of_mem hx
   simpa using ho j hj (by omega)
  have hx : ih0 l s = -1 := by rw [ih0, this]
  simp +contextual (maxSteps := 2000000) (disch := omega) [-Int.not_lt, -Int.not_le, -Nat.not_lt, -Nat.not_le, sx, hge', hx]
theorem strIdx_in (l : List ByteArray) (s : ByteArray) : 0 <= ih0 l s ↔ s ∈ l := by
 unfold ih0
 cases h : l.findIdx? (fun x => decide (s = x)) with
 | none =>
  rw [List.findIdx?_eq_none_iff] at h
  simp only [show ¬ (0 : Int) <= -1 from by omega, false_iff]
  intro hm
  have := h s hm
  simp at this
 | some i =>
  obtain ⟨h1, h2, _⟩ := List.findIdx?_eq_some_iff_getElem.1 h
  have h3 : s = l[i] := by simpa using h2
  simp only [show (0 : Int) <= (i : Int) from by omega, true_iff]
  rw [h3]; exact List.getElem_mem h1
theorem gh0 (l : List ByteArray) (s : ByteArray) (hl : l.length < 2 ^ 40) : Ret prog a60 [.lst (l.map eE0), vS s] (vB (decide (0 <= ih0 l s))) := by
 refine de0 dI0 (by simp) ?_
 simp +contextual (maxSteps := 2000000) (disch := omega) [-Int.not_lt, -Int.not_le, -Nat.not_lt, -Nat.not_le, sx, bL0]
 refine ai0 ?_; simp; refine ah0 (ii0 l s hl) (by simp) ?_
 simp +contextual (maxSteps := 2000000) (disch := omega) [-Int.not_lt, -Int.not_le, -Nat.not_lt, -Nat.not_le, sx]
theorem k10 (l : List Bs) (s : ByteArray) : decide (0 <= ih0 (l.map bS) s) = l.contains (sB s) := by
 rw [Bool.eq_iff_iff, decide_eq_true_eq, strIdx_in, List.contains_iff_mem, List.mem_map]
 constructor
 ·rintro ⟨x, h, rfl⟩; exact h
 ·intro h; exact ⟨_, h, rfl⟩
theorem fF0 (s : ByteArray) : Ret prog hu0 [vS s] (vB (fJ0 s)) := by
 refine de0 j90 (by simp) ?_
 simp +contextual (maxSteps := 2000000) (disch := omega) [-Int.not_lt, -Int.not_le, -Nat.not_lt, -Nat.not_le, sx, gA0]
 have h := gh0 (px0.map bS) s (by decide)
 rw [k10] at h
 refine ai0 ?_; simp; refine ah0 (h) (by simp) ?_
 simp +contextual (maxSteps := 2000000) (disch := omega) [-Int.not_lt, -Int.not_le, -Nat.not_lt, -Nat.not_le, sx, fJ0]
variable {ts : List Tok} {n : Nat}
theorem aT0 (hn : n < ts.length) : J prog fl0 [.bp (.e 0) 0] (pObs ts n) (· = .ret (tk ts n).V (pObs ts n)) := by
 refine aq0 iC0 (by simp [pObs]) ?_
 simp +contextual (maxSteps := 2000000) (disch := omega) [-Int.not_lt, -Int.not_le, -Nat.not_lt, -Nat.not_le, sx, eK0, pObs, hpE]
 refine endR _ _ (Wk.refl _ _) [] (by simp) ?_
 simp +contextual (maxSteps := 2000000) (disch := omega) [-Int.not_lt, -Int.not_le, -Nat.not_lt, -Nat.not_le, sx, tk_get]
theorem aN0 (hn : n < ts.length) (e : Int) : J prog fk0 [.bp (.e 0) 0, vI e] (pObs ts n) (· = .pan (h40 ts n e) (pObs ts n)) := by
 refine aq0 iB0 (by simp [pObs]) ?_
 simp +contextual (maxSteps := 2000000) (disch := omega) [-Int.not_lt, -Int.not_le, -Nat.not_lt, -Nat.not_le, sx, eJ0, pObs, hpE]
 refine aa0 [.e 0] rfl rfl (by simp) ?_
 simp
 have hpO := aT0 hn
 try simp [pObs] at hpO
 refine ab0 5 hpO (by simp) ?_
 clear hpO
 simp +contextual (maxSteps := 2000000) (disch := omega) [-Int.not_lt, -Int.not_le, -Nat.not_lt, -Nat.not_le, sx]
 refine endP ?_
 simp +contextual (maxSteps := 2000000) (disch := omega) [-Int.not_lt, -Int.not_le, -Nat.not_lt, -Nat.not_le, sx]
theorem jS0 (hn : n < ts.length) (k : Int) (t : Bs) : J prog gE0 [.bp (.e 0) 0, vI k, vS (bS t)] (pObs ts n) (· = .ret (vB (isT ts n k t)) (pObs ts n)) := by
 refine aq0 jD0 (by simp [pObs]) ?_
 simp +contextual (maxSteps := 2000000) (disch := omega) [-Int.not_lt, -Int.not_le, -Nat.not_lt, -Nat.not_le, sx, fW0, pObs, hpE]
 refine aa0 [.e 0] rfl rfl (by simp) ?_
 simp
 have hpO := aT0 hn
 try simp [pObs] at hpO
 refine ab0 9 hpO (by simp) ?_
 clear hpO
 by_cases hk : (tk ts n).kind = k
 ·simp +contextual (maxSteps := 2000000) (disch := omega) [-Int.not_lt, -Int.not_le, -Nat.not_lt, -Nat.not_le, sx, hk]
  refine endR _ _ (Wk.refl _ _) [] (by simp) ?_
  simp +contextual (maxSteps := 2000000) (disch := omega) [-Int.not_lt, -Int.not_le, -Nat.not_lt, -Nat.not_le, sx, isT, hk, eqS]
 ·simp +contextual (maxSteps := 2000000) (disch := omega) [-Int.not_lt, -Int.not_le, -Nat.not_lt, -Nat.not_le, sx, hk]
  refine endR _ _ (Wk.refl _ _) [] (by simp) ?_
  simp +contextual (maxSteps := 2000000) (disch := omega) [-Int.not_lt, -Int.not_le, -Nat.not_lt, -Nat.not_le, sx, isT, hk]
theorem ag0 (hn : n < ts.length) (hl : ts.length < 2 ^ 40) (k : Int) (t : Bs) : J prog fp0 [.bp (.e 0) 0, vI k, vS (bS t)] (pObs ts n) (· = .ret (vB (isT ts n k t)) (pObs ts (if isT ts n k t then n + 1 else n : Nat))) := by
 refine aq0 iG0 (by simp [pObs]) ?_
 simp +contextual (maxSteps := 2000000) (disch := omega) [-Int.not_lt, -Int.not_le, -Nat.not_lt, -Nat.not_le, sx, eO0, pObs, hpE]
 refine aa0 [.e 0] rfl rfl (by simp) ?_
 simp
 have hpO := jS0 hn k t
 try simp [pObs] at hpO
 refine ab0 10 hpO (by simp) ?_
 clear hpO
 cases h : isT ts n k t with
 | true =>
  simp +contextual (maxSteps := 2000000) (disch := omega) [-Int.not_lt, -Int.not_le, -Nat.not_lt, -Nat.not_le, sx]
  refine endR _ _ (Wk.refl _ _) [] (by simp) ?_
  simp +contextual (maxSteps := 2000000) (disch := omega) [-Int.not_lt, -Int.not_le, -Nat.not_lt, -Nat.not_le, sx]
 | false =>
  simp +contextual (maxSteps := 2000000) (disch := omega) [-Int.not_lt, -Int.not_le, -Nat.not_lt, -Nat.not_le, sx]
  refine endR _ _ (Wk.refl _ _) [] (by simp) ?_
  simp +contextual (maxSteps := 2000000) (disch := omega) [-Int.not_lt, -Int.not_le, -Nat.not_lt, -Nat.not_le, sx]
theorem am0 (hn : n < ts.length) (hl : ts.length < 2 ^ 40) (t : Bs) : J prog fn0 [.bp (.e 0) 0, vS (bS t)] (pObs ts n) (· = ar0 ts (ba0 ts n t)) := by
 refine aq0 iD0 (by simp [pObs]) ?_
 simp +contextual (maxSteps := 2000000) (disch := omega) [-Int.not_lt, -Int.not_le, -Nat.not_lt, -Nat.not_le, sx, eL0, pObs, hpE]
 refine aa0 [.e 0] rfl rfl (by simp) ?_
 simp
 have hpO := ag0 hn hl 4 t
 try simp [pObs] at hpO
 refine ab0 6 hpO (by simp) ?_
 clear hpO
 cases h : isT ts n 4 t with
 | true =>
  simp +contextual (maxSteps := 2000000) (disch := omega) [-Int.not_lt, -Int.not_le, -Nat.not_lt, -Nat.not_le, sx]
  refine endN _ _ (Wk.refl _ _) [] (by simp) ?_
  simp +contextual (maxSteps := 2000000) (disch := omega) [-Int.not_lt, -Int.not_le, -Nat.not_lt, -Nat.not_le, sx, ba0, h, ar0, pObs]
 | false =>
  simp +contextual (maxSteps := 2000000) (disch := omega) [-Int.not_lt, -Int.not_le, -Nat.not_lt, -Nat.not_le, sx]
  refine aa0 [.e 0] rfl rfl (by simp) ?_
  simp
  have hpO := aN0 hn 31
  try simp [pObs] at hpO
  refine af0 hpO ?_
  clear hpO
  simp +contextual (maxSteps := 2000000) (disch := omega) [-Int.not_lt, -Int.not_le, -Nat.not_lt, -Nat.not_le, sx]
  refine endP ?_
  simp +contextual (maxSteps := 2000000) (disch := omega) [-Int.not_lt, -Int.not_le, -Nat.not_lt, -Nat.not_le, sx, ba0, h, ar0, pObs, e40]
def mM0 (ts : List Tok) (n : Nat) (k : Int) : PR Tok := if (tk ts n).kind = k /\ ¬ (k = 1 /\ fJ0 (tk ts n).text = true) then .ok (tk ts n, n + 1) else e40 ts n 31
theorem pNext_1 : mM0 ts n 1 = ed0 ts n := by
 unfold mM0 ed0
 cases fJ0 (tk ts n).text <;> simp
theorem pNext_2 : mM0 ts n 2 = pInt ts n := by
 unfold mM0 pInt
 simp
theorem h70 (hn : n < ts.length) (hl : ts.length < 2 ^ 40) (k : Int) : J prog ck0 [.bp (.e 0) 0, vI k] (pObs ts n) (· = pAns ts Tok.V (mM0 ts n k)) := by
 refine aq0 iE0 (by simp [pObs]) ?_
 simp +contextual (maxSteps := 2000000) (disch := omega) [-Int.not_lt, -Int.not_le, -Nat.not_lt, -Nat.not_le, sx, eM0, pObs, hpE]
 refine aa0 [.e 0] rfl rfl (by simp) ?_
 simp
 have hpO := aT0 hn
 try simp [pObs] at hpO
 refine ab0 7 hpO (by simp) ?_
 clear hpO
 by_cases hk : (tk ts n).kind = k
 ·by_cases hk1 : k = 1
  ·subst hk1
   simp +contextual (maxSteps := 2000000) (disch := omega) [-Int.not_lt, -Int.not_le, -Nat.not_lt, -Nat.not_le, sx, hk]
   refine ai0 ?_; simp; refine ah0 (fF0 (tk ts n).text) (by simp) ?_
   cases hr : fJ0 (tk ts n).text with
   | true =>
    simp +contextual (maxSteps := 2000000) (disch := omega) [-Int.not_lt, -Int.not_le, -Nat.not_lt, -Nat.not_le, sx]
    refine aa0 [.e 0] rfl rfl (by simp) ?_
    simp
    have hpO := aN0 hn 31
    try simp [pObs] at hpO
    refine af0 hpO ?_
    clear hpO
    simp +contextual (maxSteps := 2000000) (disch := omega) [-Int.not_lt, -Int.not_le, -Nat.not_lt, -Nat.not_le, sx]
    refine endP ?_
    simp +contextual (maxSteps := 2000000) (disch := omega) [-Int.not_lt, -Int.not_le, -Nat.not_lt, -Nat.not_le, sx, mM0, hk, hr, pAns, pObs, e40]
   | false =>
    simp +contextual (maxSteps := 2000000) (disch := omega) [-Int.not_lt, -Int.not_le, -Nat.not_lt, -Nat.not_le, sx]
    refine endR _ _ (Wk.refl _ _) [] (by simp) ?_
    simp +contextual (maxSteps := 2000000) (disch := omega) [-Int.not_lt, -Int.not_le, -Nat.not_lt, -Nat.not_le, sx, mM0, hk, hr, pAns, pObs]
  ·simp +contextual (maxSteps := 2000000) (disch := omega) [-Int.not_lt, -Int.not_le, -Nat.not_lt, -Nat.not_le, sx, hk, hk1]
   refine endR _ _ (Wk.refl _ _) [] (by simp) ?_
   simp +contextual (maxSteps := 2000000) (disch := omega) [-Int.not_lt, -Int.not_le, -Nat.not_lt, -Nat.not_le, sx, mM0, hk, hk1, pAns, pObs]
 ·simp +contextual (maxSteps := 2000000) (disch := omega) [-Int.not_lt, -Int.not_le, -Nat.not_lt, -Nat.not_le, sx, hk]
  refine aa0 [.e 0] rfl rfl (by simp) ?_
  simp
  have hpO := aN0 hn 31
  try simp [pObs] at hpO
  refine af0 hpO ?_
  clear hpO
  simp +contextual (maxSteps := 2000000) (disch := omega) [-Int.not_lt, -Int.not_le, -Nat.not_lt, -Nat.not_le, sx]
  refine endP ?_
  simp +contextual (maxSteps := 2000000) (disch := omega) [-Int.not_lt, -Int.not_le, -Nat.not_lt, -Nat.not_le, sx, mM0, hk, pAns, pObs, e40]
theorem cc0 (hn : n < ts.length) (d : Nat) : J prog fj0 [.bp (.e 0) 0, vI d] (pObs ts n) (· = match lo0 ts n d with | .ok _ => .ret (.tup []) (pObs ts n) | .bad n e => .pan (h40 ts n e) (pObs ts n)) := by
 refine aq0 iz0 (by simp [pObs]) ?_
 by_cases h : 24 < d
 ·have h' : (24 : Int) < d := by omega
  simp +contextual (maxSteps := 2000000) (disch := omega) [-Int.not_lt, -Int.not_le, -Nat.not_lt, -Nat.not_le, sx, c00, pObs, hpE, h']
  refine aa0 [.e 0] rfl rfl (by simp) ?_
  simp
  have hpO := aN0 hn 32
  try simp [pObs] at hpO
  refine af0 hpO ?_
  clear hpO
  simp +contextual (maxSteps := 2000000) (disch := omega) [-Int.not_lt, -Int.not_le, -Nat.not_lt, -Nat.not_le, sx]
  refine endP ?_
  simp +contextual (maxSteps := 2000000) (disch := omega) [-Int.not_lt, -Int.not_le, -Nat.not_lt, -Nat.not_le, sx, lo0, h, e40, pObs]
 ·have h' : ¬ (24 : Int) < d := by omega
  simp +contextual (maxSteps := 2000000) (disch := omega) [-Int.not_lt, -Int.not_le, -Nat.not_lt, -Nat.not_le, sx, c00, pObs, hpE, h']
  refine endN _ _ (Wk.refl _ _) [] (by simp) ?_
  simp +contextual (maxSteps := 2000000) (disch := omega) [-Int.not_lt, -Int.not_le, -Nat.not_lt, -Nat.not_le, sx, lo0, h, pObs]
theorem prefix_eq {s p : ByteArray} (h : p.size <= s.size) : eqS (s.extract 0 p.size) p = (sB p).isPrefixOf (sB s) := by
 unfold eqS
 rw [Bool.eq_iff_iff, decide_eq_true_eq, List.isPrefixOf_iff_prefix, List.prefix_iff_eq_take]
 have h1 : sB (s.extract 0 p.size) = (sB s).take (sB p).length := by rw [dn0]; simp
 constructor
 ·intro h2; rw [<- h1, h2]
 ·intro h2; rw [<- h1] at h2
  obtain ⟨⟨p⟩⟩ := p
  generalize s.extract 0 _ = q at h2
  obtain ⟨⟨q⟩⟩ := q
  simp [sB] at h2; rw [h2]
theorem prefix_no {s p : ByteArray} (h : ¬ p.size <= s.size) : (sB p).isPrefixOf (sB s) = false := by
 rw [<- Bool.not_eq_true, List.isPrefixOf_iff_prefix]
 intro h2
 exact h h2.length_le
theorem cY0 (s p : ByteArray) : Ret prog bY0 [vS s, vS p] (vB ((sB p).isPrefixOf (sB s))) := by
 refine de0 dF0 (by simp) ?_
 by_cases h : p.size <= s.size
 ·have h' : (p.size : Int) <= s.size := by omega
  simp +contextual (maxSteps := 2000000) (disch := omega) [-Int.not_lt, -Int.not_le, -Nat.not_lt, -Nat.not_le, sx, a10, h, h']
  simpa [eqS, sB] using prefix_eq h
 ·have h' : ¬ (p.size : Int) <= s.size := by omega
  simp +contextual (maxSteps := 2000000) (disch := omega) [-Int.not_lt, -Int.not_le, -Nat.not_lt, -Nat.not_le, sx, a10, h, h', prefix_no h]
theorem hG0 (s p : ByteArray) : Ret prog fu0 [vS s, vS p] (vB ((sB p).isPrefixOf (sB s))) := by
 refine de0 iJ0 (by simp) ?_
 simp +contextual (maxSteps := 2000000) (disch := omega) [-Int.not_lt, -Int.not_le, -Nat.not_lt, -Nat.not_le, sx, eR0]
 refine ai0 ?_; simp; refine ah0 (cY0 s p) (by simp) ?_
 simp +contextual (maxSteps := 2000000) (disch := omega) [-Int.not_lt, -Int.not_le, -Nat.not_lt, -Nat.not_le, sx]
end Go.Am
end

section
namespace Go.Proofs
open Go.Shelf
def Tryz.oi0 : Go.Shelf.Ren := ⟨fun | 246 => 70 | 283 => 86 | 284 => 87 | 285 => 88 | 286 => 89 | 129 => 115 | 317 => 114 | 318 => 116 | 319 => 117 | 320 => 118 | 337 => 134 | 338 => 135 | n => n, fun | 2 => 2 | 3 => 3 | 9 => 9 | 4 => 4 | 171 => 127 | 0 => 0 | 53 => 128 | 37 => 65 | 5 => 5 | 173 => 131 | 212 => 151 | 51 => 152 | 20 => 20 | 213 => 153 | 46 => 52 | 232 => 186 | 233 => 187 | n => n, fun | 17 => 0 | 18 => 2 | 19 => 3 | n => n⟩
theorem Tryz.lays246 : Go.Proofs.LaysM.n246 Tryz.prog Tryz.oi0 := {
 mixed := by kernel_rfl
 f129 := Tryz.func115.trans (congrArg some (by kernel_rfl))
 f246 := Tryz.func70.trans (congrArg some (by kernel_rfl))
 f283 := Tryz.func86.trans (congrArg some (by kernel_rfl))
 f284 := Tryz.func87.trans (congrArg some (by kernel_rfl))
 f285 := Tryz.func88.trans (congrArg some (by kernel_rfl))
 f286 := Tryz.func89.trans (congrArg some (by kernel_rfl))
 f317 := Tryz.func114.trans (congrArg some (by kernel_rfl))
 f318 := Tryz.func116.trans (congrArg some (by kernel_rfl))
 f319 := Tryz.func117.trans (congrArg some (by kernel_rfl))
 f320 := Tryz.func118.trans (congrArg some (by kernel_rfl))
 f337 := Tryz.func134.trans (congrArg some (by kernel_rfl))
 f338 := Tryz.func135.trans (congrArg some (by kernel_rfl))
 t0 := Tryz.underlying0
 a0 := Tryz.isAgg0
 z0 := Tryz.sizeOf0
 v0 := Tryz.zeroValue0
 t2 := Tryz.underlying2
 a2 := Tryz.isAgg2
 z2 := Tryz.sizeOf2
 v2 := Tryz.zeroValue2
 t3 := Tryz.underlying3
 a3 := Tryz.isAgg3
 z3 := Tryz.sizeOf3
 v3 := Tryz.zeroValue3
 t4 := Tryz.underlying4
 a4 := Tryz.isAgg4
 z4 := Tryz.sizeOf4
 v4 := Tryz.zeroValue4
 t5 := Tryz.underlying5
 a5 := Tryz.isAgg5
 z5 := Tryz.sizeOf5
 v5 := Tryz.zeroValue5
 t9 := Tryz.underlying9
 a9 := Tryz.isAgg9
 z9 := Tryz.sizeOf9
 v9 := Tryz.zeroValue9
 t20 := Tryz.underlying20
 a20 := Tryz.isAgg20
 z20 := Tryz.sizeOf20
 v20 := Tryz.zeroValue20
 t37 := Tryz.underlying65
 a37 := Tryz.isAgg65
 z37 := Tryz.sizeOf65
 v37 := Tryz.zeroValue65
 t46 := Tryz.underlying52
 a46 := Tryz.isAgg52
 z46 := Tryz.sizeOf52
 v46 := Tryz.zeroValue52
 t51 := Tryz.underlying152
 a51 := Tryz.isAgg152
 z51 := Tryz.sizeOf152
 v51 := Tryz.zeroValue152
 t53 := Tryz.underlying128
 a53 := Tryz.isAgg128
 z53 := Tryz.sizeOf128
 v53 := Tryz.zeroValue128
 t171 := Tryz.underlying127
 a171 := Tryz.isAgg127
 z171 := Tryz.sizeOf127
 v171 := Tryz.zeroValue127
 t173 := Tryz.underlying131
 a173 := Tryz.isAgg131
 z173 := Tryz.sizeOf131
 v173 := Tryz.zeroValue131
 t212 := Tryz.underlying151
 a212 := Tryz.isAgg151
 z212 := Tryz.sizeOf151
 v212 := Tryz.zeroValue151
 t213 := Tryz.underlying153
 a213 := Tryz.isAgg153
 z213 := Tryz.sizeOf153
 t232 := Tryz.underlying186
 a232 := Tryz.isAgg186
 z232 := Tryz.sizeOf186
 v232 := Tryz.zeroValue186
 t233 := Tryz.underlying187
 a233 := Tryz.isAgg187
 z233 := Tryz.sizeOf187
 v233 := Tryz.zeroValue187
 g17 := by kernel_rfl
 g18 := by kernel_rfl
 g19 := by kernel_rfl
 i0 := by kernel_rfl
 i2 := by kernel_rfl
 i3 := by kernel_rfl
 i4 := by kernel_rfl
 i5 := by kernel_rfl
 i9 := by kernel_rfl
 i20 := by kernel_rfl
 i37 := by kernel_rfl
 i46 := by kernel_rfl
 i51 := by kernel_rfl
 i53 := by kernel_rfl
 i171 := by kernel_rfl
 i173 := by kernel_rfl
 i212 := by kernel_rfl
 i232 := by kernel_rfl
 i233 := by kernel_rfl
 m17 := by kernel_rfl
 m18 := by kernel_rfl
 m19 := by kernel_rfl }
end Go.Proofs
end

section
namespace Go.Am
set_option maxRecDepth 100000
attribute [local irreducible] vc vcIs vcI vcOp vcD vcDp vcDR vcT vcAR b30 aU0 panD neG ne pv J bV0 b00 b90 a90 evK evsK nthK objK boxK rowK bD0 intK strK aggK fnK ifcK at0 av0 ldK ldaK iaK srcK stK appK appD ce0 pvK bU0 aX0 bT0 bv0 slAV bH0
def pv0 (n : Int) : ByteArray := ⟨(Lib.itoa n).toArray⟩
theorem lG0 (n : Int) (h0 : -9223372036854775808 <= n) (h1 : n < 9223372036854775808) : Ret prog eY0 [vI n, vI 10] (vS (pv0 n)) := by
 obtain ⟨c, hc⟩ : ∃ c, Go.Proofs.Tryz.f70.body = some c := ⟨_, rfl⟩
 exact J_calls (fn := Go.Proofs.Tryz.f70) (c := c) (vs := #[.int .i64 n, .int .i64 10]) (x := .string (pv0 n)) Go.Proofs.Tryz.func70 (by kernel_rfl) hc (fun H μ us h => h.two) (fun H μ => .c _)
  fun w hl => Go.Proofs.Any.internal_strconv_FormatInt_10 Go.Proofs.Tryz.lays246 n h0 (by omega) w (pz0 (by kernel_rfl) hl)
theorem jH0 (n : Int) (h0 : -9223372036854775808 <= n) (h1 : n < 9223372036854775808) : Ret prog dA0 [vI n] (vS (pv0 n)) := by
 refine de0 gF0 (by simp) ?_
 simp +contextual (maxSteps := 2000000) (disch := omega) [-Int.not_lt, -Int.not_le, -Nat.not_lt, -Nat.not_le, sx, df0]
 refine ai0 ?_; simp; refine ah0 (lG0 n h0 h1) (by simp) ?_
 simp +contextual (maxSteps := 2000000) (disch := omega) [-Int.not_lt, -Int.not_le, -Nat.not_lt, -Nat.not_le, sx]
theorem gO0 (n : Int) (h0 : -9223372036854775808 <= n) (h1 : n < 9223372036854775808) : Ret prog iT0 [vI n] (vS (pv0 n)) := by
 refine de0 la0 (by simp) ?_
 simp +contextual (maxSteps := 2000000) (disch := omega) [-Int.not_lt, -Int.not_le, -Nat.not_lt, -Nat.not_le, sx, hM0]
 refine ai0 ?_; simp; refine ah0 (jH0 n h0 h1) (by simp) ?_
 simp +contextual (maxSteps := 2000000) (disch := omega) [-Int.not_lt, -Int.not_le, -Nat.not_lt, -Nat.not_le, sx]
theorem hI0 (b : Bool) : Ret prog eU0 [vB b] (vS (bS (if b then h10 else fA0))) := by
 have h : Ret prog cq0 [vB b] (vS (bS (if b then h10 else fA0))) := by
  refine de0 en0 (by simp) ?_
  cases b
  ·simp +contextual (maxSteps := 2000000) (disch := omega) [-Int.not_lt, -Int.not_le, -Nat.not_lt, -Nat.not_le, sx, be0, h10, fA0]
  ·simp +contextual (maxSteps := 2000000) (disch := omega) [-Int.not_lt, -Int.not_le, -Nat.not_lt, -Nat.not_le, sx, be0, h10, fA0]
 refine de0 hU0 (by simp) ?_
 simp +contextual (maxSteps := 2000000) (disch := omega) [-Int.not_lt, -Int.not_le, -Nat.not_lt, -Nat.not_le, sx, ej0]
 refine ai0 ?_; simp; refine ah0 (h) (by simp) ?_
 simp +contextual (maxSteps := 2000000) (disch := omega) [-Int.not_lt, -Int.not_le, -Nat.not_lt, -Nat.not_le, sx]
def cutP (s p : ByteArray) : V := if (sB p).isPrefixOf (sB s) then .tup [vS (s.extract p.size s.size), vB true] else .tup [vS s, vB false]
theorem fS0 (s p : ByteArray) : Ret prog bX0 [vS s, vS p] (cutP s p) := by
 refine de0 dE0 (by simp) ?_
 simp +contextual (maxSteps := 2000000) (disch := omega) [-Int.not_lt, -Int.not_le, -Nat.not_lt, -Nat.not_le, sx, bJ0]
 refine ai0 ?_; simp; refine ah0 (cY0 s p) (by simp) ?_
 unfold cutP
 cases h : (sB p).isPrefixOf (sB s) with
 | true =>
  have hle : p.size <= s.size := (List.isPrefixOf_iff_prefix.1 h).length_le
  simp +contextual (maxSteps := 2000000) (disch := omega) [-Int.not_lt, -Int.not_le, -Nat.not_lt, -Nat.not_le, sx]
 | false => simp +contextual (maxSteps := 2000000) (disch := omega) [-Int.not_lt, -Int.not_le, -Nat.not_lt, -Nat.not_le, sx]
@[simp] theorem cutP_pure (s p : ByteArray) : (cutP s p).pure = true := by unfold cutP; split <;> simp
theorem cA0 (s p : ByteArray) : Ret prog ft0 [vS s, vS p] (cutP s p) := by
 refine de0 iI0 (by simp) ?_
 simp +contextual (maxSteps := 2000000) (disch := omega) [-Int.not_lt, -Int.not_le, -Nat.not_lt, -Nat.not_le, sx, eQ0]
 refine ai0 ?_; simp; refine ah0 (fS0 s p) (by simp) ?_
 cases h : (sB p).isPrefixOf (sB s) with
 | true => simp +contextual (maxSteps := 2000000) (disch := omega) [-Int.not_lt, -Int.not_le, -Nat.not_lt, -Nat.not_le, sx, cutP, h]
 | false => simp +contextual (maxSteps := 2000000) (disch := omega) [-Int.not_lt, -Int.not_le, -Nat.not_lt, -Nat.not_le, sx, cutP, h]
def TEnd (ts : List Tok) : Prop := ∀ n, n < ts.length -> (tk ts n).kind ≠ 5 -> n + 1 < ts.length
variable {ts : List Tok} {n : Nat}
theorem aM0 (hE : TEnd ts) (hn : n < ts.length) {k : Int} {t : Bs} (h : isT ts n k t = true) (hk : k ≠ 5) : n + 1 < ts.length := by
 unfold isT at h
 simp only [Bool.and_eq_true, decide_eq_true_eq] at h
 exact hE n hn (by rw [h.1]; exact hk)
theorem aw0 (hE : TEnd ts) (hn : n < ts.length) {t : Bs} {m : Nat} (h : ba0 ts n t = .ok m) : n < m /\ m < ts.length := by
 unfold ba0 at h
 split at h
 ·rename_i hi; injection h with h; subst h; exact ⟨by omega, aM0 hE hn hi (by decide)⟩
 ·cases h
theorem pWord_lt (hE : TEnd ts) (hn : n < ts.length) {t : Bs} {m : Nat} (h : mO0 ts n t = .ok m) : n < m /\ m < ts.length := by
 unfold mO0 at h
 split at h
 ·rename_i hi; injection h with h; subst h; exact ⟨by omega, aM0 hE hn hi (by decide)⟩
 ·cases h
theorem cG0 (hE : TEnd ts) (hn : n < ts.length) {a : Tok} {m : Nat} (h : ed0 ts n = .ok (a, m)) : n < m /\ m < ts.length := by
 unfold ed0 at h
 split at h
 ·rename_i hi; injection h with h; injection h with h1 h2; subst h2; exact ⟨by omega, hE n hn (by rw [hi.1]; decide)⟩
 ·cases h
theorem pInt_lt (hE : TEnd ts) (hn : n < ts.length) {a : Tok} {m : Nat} (h : pInt ts n = .ok (a, m)) : n < m /\ m < ts.length := by
 unfold pInt at h
 split at h
 ·rename_i hi; injection h with h; injection h with h1 h2; subst h2; exact ⟨by omega, hE n hn (by rw [hi]; decide)⟩
 ·cases h
theorem on0 (hE : TEnd ts) (hn : n < ts.length) {a : Bs} {m : Nat} (h : pKey ts n = .ok (a, m)) : n < m /\ m < ts.length /\ a.length <= 4 := by
 unfold pKey at h
 split at h
 ·rename_i hi; injection h with h; injection h with h1 h2; subst h1; subst h2; exact ⟨by omega, aM0 hE hn hi (by decide), by decide⟩
 split at h
 ·rename_i hi; injection h with h; injection h with h1 h2; subst h1; subst h2; exact ⟨by omega, aM0 hE hn hi (by decide), by decide⟩
 ·cases h
theorem an0 {α β : Type} {r : LxR α} {f : α -> LxR β} {b : β} (h : r.bind f = .ok b) : ∃ a, r = .ok a /\ f a = .ok b := by
 cases r with
 | ok a => exact ⟨a, rfl, h⟩
 | bad a e => cases h
theorem gf0 (hE : TEnd ts) : ∀ {r n : Nat}, n < ts.length -> ∀ {a : Bs} {m : Nat}, h50 ts r n = .ok (a, m) -> n < m /\ m < ts.length /\ a.length <= 4 + 7 * r
 | 0, n, hn, a, m, h => by simp [h50, e40] at h
 | r + 1, n, hn, a, m, h => by
  rw [h50] at h
  split at h
  ·rename_i hi; injection h with h; injection h with h1 h2; subst h1; subst h2; exact ⟨by omega, aM0 hE hn hi (by decide), by simp [cN0]⟩
  split at h
  ·rename_i hi
   have h0 := aM0 hE hn hi (by decide)
   obtain ⟨⟨t, n1⟩, e1, h⟩ := an0 h
   obtain ⟨n2, e2, h⟩ := an0 h
   injection h with h; injection h with h1 h2; subst h1; subst h2
   have := gf0 hE h0 e1
   have := aw0 hE this.2.1 e2
   dsimp only at *
   refine ⟨by omega, by omega, by simp; omega⟩
  split at h
  ·rename_i hi
   have h0 := aM0 hE hn hi (by decide)
   obtain ⟨⟨k, n0⟩, e0, h⟩ := an0 h
   obtain ⟨n1, e1, h⟩ := an0 h
   obtain ⟨⟨t, n2⟩, e2, h⟩ := an0 h
   obtain ⟨n3, e3, h⟩ := an0 h
   injection h with h; injection h with h1 h2; subst h1; subst h2
   have q0 := on0 hE h0 e0
   have q1 := aw0 hE q0.2.1 e1
   have q2 := gf0 hE q1.2 e2
   have q3 := aw0 hE q2.2.1 e3
   dsimp only at *
   refine ⟨by omega, by omega, by simp; omega⟩
  ·have := on0 hE hn h; omega
theorem mN0 (hE : TEnd ts) (hn : n < ts.length) {a : Slo} {m : Nat} (h : kI0 ts n = .ok (a, m)) : n < m /\ m < ts.length := by
 unfold kI0 at h
 obtain ⟨⟨t, n1⟩, e1, h⟩ := an0 h
 obtain ⟨n2, e2, h⟩ := an0 h
 obtain ⟨⟨t, n3⟩, e3, h⟩ := an0 h
 injection h with h; injection h with h1 h2; subst h2
 have q1 := cG0 hE hn e1
 have q2 := aw0 hE q1.2 e2
 have q3 := gf0 hE q2.2 e3
 dsimp only at *
 omega
abbrev bsV (b : Bs) : V := vS (bS b)
theorem bI0 (a b : Bs) : bS a ++ bS b = bS (a ++ b) := by
 apply ByteArray.ext; apply Array.ext'; simp
theorem gj0 (l : Bs) : (ByteArray.mk (Array.mk l)).size = l.length := rfl
theorem iZ0 (hE : TEnd ts) (hl : ts.length < 2 ^ 40) (hn : n < ts.length) : J prog fY0 [.bp (.e 0) 0] (pObs ts n) (· = pAns ts bsV (pKey ts n)) := by
 refine aq0 jf0 (by simp [pObs]) ?_
 simp +contextual (maxSteps := 2000000) (disch := omega) [-Int.not_lt, -Int.not_le, -Nat.not_lt, -Nat.not_le, sx, fc0, pObs, hpE]
 refine aH0 (fun y : Nat => 2 - y) (fun y => [(7, vI y), (6, vI 2), (5, .arr (.l 5 0) 0 2), (0, .bp (.e 0) 0)])
  (fun _ => [(.e 0, .box [.lst (ts.map Tok.cells), vI n]), (.l 5 0, .row 9 1 true [[vS (bS eB0)], [vS (bS cs0)]])])
  (fun y => y <= 2 /\ (0 < y -> isT ts n 1 eB0 = false) /\ (1 < y -> isT ts n 1 cs0 = false)) 0 (by simp) (Wk.subs (by simp) (by simp [eB0, cs0])) ?_
 rintro y ⟨hy, h1, h2⟩
 have : y = 0 \/ y = 1 \/ y = 2 := by omega
 rcases this with rfl | rfl | rfl
 ·simp +contextual (maxSteps := 2000000) (disch := omega) [-Int.not_lt, -Int.not_le, -Nat.not_lt, -Nat.not_le, sx]
  rw [bc0 (e := [vS (bS eB0)]) rfl]
  simp +contextual (maxSteps := 2000000) (disch := omega) [-Int.not_lt, -Int.not_le, -Nat.not_lt, -Nat.not_le, sx]
  refine aa0 [.e 0] rfl rfl (by simp) ?_
  simp
  have hpO := ag0 hn hl 1 eB0
  try simp [pObs] at hpO
  refine ab0 13 hpO (by simp) ?_
  clear hpO
  cases h : isT ts n 1 eB0 with
  | true =>
   simp +contextual (maxSteps := 2000000) (disch := omega) [-Int.not_lt, -Int.not_le, -Nat.not_lt, -Nat.not_le, sx]
   refine endR _ _ (Wk.refl _ _) [] (by simp) ?_
   simp +contextual (maxSteps := 2000000) (disch := omega) [-Int.not_lt, -Int.not_le, -Nat.not_lt, -Nat.not_le, sx, pKey, h, pAns, pObs]
  | false =>
   simp +contextual (maxSteps := 2000000) (disch := omega) [-Int.not_lt, -Int.not_le, -Nat.not_lt, -Nat.not_le, sx]
   refine .of 1 ⟨by omega, fun q => absurd q (by omega)⟩ (by omega) (Wk.subs (by simp) (by simp))
 ·have h1 := h1 (by omega)
  simp +contextual (maxSteps := 2000000) (disch := omega) [-Int.not_lt, -Int.not_le, -Nat.not_lt, -Nat.not_le, sx]
  rw [bc0 (e := [vS (bS cs0)]) rfl]
  simp +contextual (maxSteps := 2000000) (disch := omega) [-Int.not_lt, -Int.not_le, -Nat.not_lt, -Nat.not_le, sx]
  refine aa0 [.e 0] rfl rfl (by simp) ?_
  simp
  have hpO := ag0 hn hl 1 cs0
  try simp [pObs] at hpO
  refine ab0 13 hpO (by simp) ?_
  clear hpO
  cases h : isT ts n 1 cs0 with
  | true =>
   simp +contextual (maxSteps := 2000000) (disch := omega) [-Int.not_lt, -Int.not_le, -Nat.not_lt, -Nat.not_le, sx]
   refine endR _ _ (Wk.refl _ _) [] (by simp) ?_
   simp +contextual (maxSteps := 2000000) (disch := omega) [-Int.not_lt, -Int.not_le, -Nat.not_lt, -Nat.not_le, sx, pKey, h, h1, pAns, pObs]
  | false =>
   simp +contextual (maxSteps := 2000000) (disch := omega) [-Int.not_lt, -Int.not_le, -Nat.not_lt, -Nat.not_le, sx]
   refine .of 2 ⟨by omega, fun _ => h1⟩ (by omega) (Wk.subs (by simp) (by simp))
 ·have h1 := h1 (by omega)
  have h2 := h2 (by omega)
  simp +contextual (maxSteps := 2000000) (disch := omega) [-Int.not_lt, -Int.not_le, -Nat.not_lt, -Nat.not_le, sx]
  refine aa0 [.e 0] rfl rfl (by simp) ?_
  simp
  have hpO := aN0 hn 31
  try simp [pObs] at hpO
  refine af0 hpO ?_
  clear hpO
  simp +contextual (maxSteps := 2000000) (disch := omega) [-Int.not_lt, -Int.not_le, -Nat.not_lt, -Nat.not_le, sx]
  refine endP ?_
  simp +contextual (maxSteps := 2000000) (disch := omega) [-Int.not_lt, -Int.not_le, -Nat.not_lt, -Nat.not_le, sx, pKey, h1, h2, pAns, pObs, e40]
theorem cQ0 (hE : TEnd ts) (hl : ts.length < 2 ^ 40) : ∀ (r d n : Nat), d + r = 5 -> n < ts.length -> J prog fm0 [.bp (.e 0) 0, vI d] (pObs ts n) (· = pAns ts bsV (h50 ts r n))
 | 0, d, n, hd, hn => by
  have hd' : (4 : Int) < d := by omega
  refine aq0 eV0 (by simp [pObs]) ?_
  simp +contextual (maxSteps := 2000000) (disch := omega) [-Int.not_lt, -Int.not_le, -Nat.not_lt, -Nat.not_le, sx, c10, pObs, hpE, hd']
  refine aa0 [.e 0] rfl rfl (by simp) ?_
  simp
  have hpO := aN0 hn 32
  try simp [pObs] at hpO
  refine af0 hpO ?_
  clear hpO
  simp +contextual (maxSteps := 2000000) (disch := omega) [-Int.not_lt, -Int.not_le, -Nat.not_lt, -Nat.not_le, sx]
  refine endP ?_
  simp +contextual (maxSteps := 2000000) (disch := omega) [-Int.not_lt, -Int.not_le, -Nat.not_lt, -Nat.not_le, sx, h50, e40, pAns, pObs]
 | r + 1, d, n, hd, hn => by
  have hd' : ¬ (4 : Int) < d := by omega
  have hw : h50 ts (r + 1) n = h50 ts (r + 1) n := rfl
  conv at hw => rhs; rw [h50]
  refine aq0 eV0 (by simp [pObs]) ?_
  simp +contextual (maxSteps := 2000000) (disch := omega) [-Int.not_lt, -Int.not_le, -Nat.not_lt, -Nat.not_le, sx, c10, pObs, hpE, hd']
  refine aa0 [.e 0] rfl rfl (by simp) ?_
  simp
  have hpO := ag0 hn hl 1 cN0
  try simp [pObs] at hpO
  refine ab0 14 hpO (by simp) ?_
  clear hpO
  cases h1 : isT ts n 1 cN0 with
  | true =>
   rw [h1] at hw
   simp only [if_true] at hw
   simp +contextual (maxSteps := 2000000) (disch := omega) [-Int.not_lt, -Int.not_le, -Nat.not_lt, -Nat.not_le, sx]
   refine endR _ _ (Wk.refl _ _) [] (by simp) ?_
   simp +contextual (maxSteps := 2000000) (disch := omega) [-Int.not_lt, -Int.not_le, -Nat.not_lt, -Nat.not_le, sx, hw, pAns, pObs, cN0]
  | false =>
  rw [h1] at hw
  simp +contextual (maxSteps := 2000000) (disch := omega) [-Int.not_lt, -Int.not_le, -Nat.not_lt, -Nat.not_le, sx]
  refine aa0 [.e 0] rfl rfl (by simp) ?_
  simp
  have hpO := ag0 hn hl 4 [91]
  try simp [pObs] at hpO
  refine ab0 17 hpO (by simp) ?_
  clear hpO
  cases h2 : isT ts n 4 [91] with
  | true =>
   have h0 := aM0 hE hn h2 (by decide)
   rw [h2] at hw
   simp only [Bool.false_eq_true, if_false, if_true] at hw
   simp +contextual (maxSteps := 2000000) (disch := omega) [-Int.not_lt, -Int.not_le, -Nat.not_lt, -Nat.not_le, sx]
   have hJ := cQ0 hE hl r (d + 1) (n + 1) (by omega) h0
   rcases hR21 : h50 ts r (n + 1) with ⟨t,n1⟩ | ⟨aa, ae⟩
   rotate_left
   ·rw [hR21] at hJ hw
    try simp only [LxR.bind] at hw
    simp only [pAns, ar0] at hJ
    refine aa0 [.e 0] rfl rfl (by simp) ?_
    simp
    have hpO := hJ
    try simp [pObs] at hpO
    refine af0 hpO ?_
    clear hpO
    simp +contextual (maxSteps := 2000000) (disch := omega) [-Int.not_lt, -Int.not_le, -Nat.not_lt, -Nat.not_le, sx]
    refine endP ?_
    simp +contextual (maxSteps := 2000000) (disch := omega) [-Int.not_lt, -Int.not_le, -Nat.not_lt, -Nat.not_le, sx, hw, pAns, ar0, pObs]
   rw [hR21] at hJ hw
   try simp only [LxR.bind] at hw
   simp only [pAns, ar0] at hJ
   refine aa0 [.e 0] rfl rfl (by simp) ?_
   simp
   have hpO := hJ
   try simp [pObs] at hpO
   refine ab0 21 hpO (by simp) ?_
   clear hpO
   have q1 := gf0 hE h0 hR21
   simp +contextual (maxSteps := 2000000) (disch := omega) [-Int.not_lt, -Int.not_le, -Nat.not_lt, -Nat.not_le, sx]
   have hJ := am0 q1.2.1 hl [93]
   rcases hR23 : ba0 ts n1 [93] with n2 | ⟨aa, ae⟩
   rotate_left
   ·rw [hR23] at hJ hw
    try simp only [LxR.bind] at hw
    simp only [pAns, ar0] at hJ
    refine aa0 [.e 0] rfl rfl (by simp) ?_
    simp
    have hpO := hJ
    try simp [pObs] at hpO
    refine af0 hpO ?_
    clear hpO
    simp +contextual (maxSteps := 2000000) (disch := omega) [-Int.not_lt, -Int.not_le, -Nat.not_lt, -Nat.not_le, sx]
    refine endP ?_
    simp +contextual (maxSteps := 2000000) (disch := omega) [-Int.not_lt, -Int.not_le, -Nat.not_lt, -Nat.not_le, sx, hw, pAns, ar0, pObs]
   rw [hR23] at hJ hw
   try simp only [LxR.bind] at hw
   simp only [pAns, ar0] at hJ
   refine aa0 [.e 0] rfl rfl (by simp) ?_
   simp
   have hpO := hJ
   try simp [pObs] at hpO
   refine ab0 23 hpO (by simp) ?_
   clear hpO
   simp +contextual (maxSteps := 2000000) (disch := omega) [-Int.not_lt, -Int.not_le, -Nat.not_lt, -Nat.not_le, sx, bI0, gj0]
   refine endR _ _ (Wk.refl _ _) [] (by simp) ?_
   simp +contextual (maxSteps := 2000000) (disch := omega) [-Int.not_lt, -Int.not_le, -Nat.not_lt, -Nat.not_le, sx, hw, pAns, pObs]
  | false =>
  rw [h2] at hw
  simp +contextual (maxSteps := 2000000) (disch := omega) [-Int.not_lt, -Int.not_le, -Nat.not_lt, -Nat.not_le, sx]
  refine aa0 [.e 0] rfl rfl (by simp) ?_
  simp
  have hpO := ag0 hn hl 4 [123]
  try simp [pObs] at hpO
  refine ab0 29 hpO (by simp) ?_
  clear hpO
  cases h3 : isT ts n 4 [123] with
  | true =>
   have h0 := aM0 hE hn h3 (by decide)
   rw [h3] at hw
   simp only [Bool.false_eq_true, if_false, if_true] at hw
   simp +contextual (maxSteps := 2000000) (disch := omega) [-Int.not_lt, -Int.not_le, -Nat.not_lt, -Nat.not_le, sx]
   have hJ := iZ0 hE hl h0
   rcases hR31 : pKey ts (n + 1) with ⟨k,n0⟩ | ⟨aa, ae⟩
   rotate_left
   ·rw [hR31] at hJ hw
    try simp only [LxR.bind] at hw
    simp only [pAns, ar0] at hJ
    refine aa0 [.e 0] rfl rfl (by simp) ?_
    simp
    have hpO := hJ
    try simp [pObs] at hpO
    refine af0 hpO ?_
    clear hpO
    simp +contextual (maxSteps := 2000000) (disch := omega) [-Int.not_lt, -Int.not_le, -Nat.not_lt, -Nat.not_le, sx]
    refine endP ?_
    simp +contextual (maxSteps := 2000000) (disch := omega) [-Int.not_lt, -Int.not_le, -Nat.not_lt, -Nat.not_le, sx, hw, pAns, ar0, pObs]
   rw [hR31] at hJ hw
   try simp only [LxR.bind] at hw
   simp only [pAns, ar0] at hJ
   refine aa0 [.e 0] rfl rfl (by simp) ?_
   simp
   have hpO := hJ
   try simp [pObs] at hpO
   refine ab0 31 hpO (by simp) ?_
   clear hpO
   have q0 := on0 hE h0 hR31
   simp +contextual (maxSteps := 2000000) (disch := omega) [-Int.not_lt, -Int.not_le, -Nat.not_lt, -Nat.not_le, sx]
   have hJ := am0 q0.2.1 hl [58]
   rcases hR33 : ba0 ts n0 [58] with n1 | ⟨aa, ae⟩
   rotate_left
   ·rw [hR33] at hJ hw
    try simp only [LxR.bind] at hw
    simp only [pAns, ar0] at hJ
    refine aa0 [.e 0] rfl rfl (by simp) ?_
    simp
    have hpO := hJ
    try simp [pObs] at hpO
    refine af0 hpO ?_
    clear hpO
    simp +contextual (maxSteps := 2000000) (disch := omega) [-Int.not_lt, -Int.not_le, -Nat.not_lt, -Nat.not_le, sx]
    refine endP ?_
    simp +contextual (maxSteps := 2000000) (disch := omega) [-Int.not_lt, -Int.not_le, -Nat.not_lt, -Nat.not_le, sx, hw, pAns, ar0, pObs]
   rw [hR33] at hJ hw
   try simp only [LxR.bind] at hw
   simp only [pAns, ar0] at hJ
   refine aa0 [.e 0] rfl rfl (by simp) ?_
   simp
   have hpO := hJ
   try simp [pObs] at hpO
   refine ab0 33 hpO (by simp) ?_
   clear hpO
   have q1 := aw0 hE q0.2.1 hR33
   simp +contextual (maxSteps := 2000000) (disch := omega) [-Int.not_lt, -Int.not_le, -Nat.not_lt, -Nat.not_le, sx]
   have hJ := cQ0 hE hl r (d + 1) n1 (by omega) q1.2
   rcases hR37 : h50 ts r n1 with ⟨t,n2⟩ | ⟨aa, ae⟩
   rotate_left
   ·rw [hR37] at hJ hw
    try simp only [LxR.bind] at hw
    simp only [pAns, ar0] at hJ
    refine aa0 [.e 0] rfl rfl (by simp) ?_
    simp
    have hpO := hJ
    try simp [pObs] at hpO
    refine af0 hpO ?_
    clear hpO
    simp +contextual (maxSteps := 2000000) (disch := omega) [-Int.not_lt, -Int.not_le, -Nat.not_lt, -Nat.not_le, sx]
    refine endP ?_
    simp +contextual (maxSteps := 2000000) (disch := omega) [-Int.not_lt, -Int.not_le, -Nat.not_lt, -Nat.not_le, sx, hw, pAns, ar0, pObs]
   rw [hR37] at hJ hw
   try simp only [LxR.bind] at hw
   simp only [pAns, ar0] at hJ
   refine aa0 [.e 0] rfl rfl (by simp) ?_
   simp
   have hpO := hJ
   try simp [pObs] at hpO
   refine ab0 37 hpO (by simp) ?_
   clear hpO
   have q2 := gf0 hE q1.2 hR37
   simp +contextual (maxSteps := 2000000) (disch := omega) [-Int.not_lt, -Int.not_le, -Nat.not_lt, -Nat.not_le, sx]
   have hJ := am0 q2.2.1 hl [125]
   rcases hR39 : ba0 ts n2 [125] with n3 | ⟨aa, ae⟩
   rotate_left
   ·rw [hR39] at hJ hw
    try simp only [LxR.bind] at hw
    simp only [pAns, ar0] at hJ
    refine aa0 [.e 0] rfl rfl (by simp) ?_
    simp
    have hpO := hJ
    try simp [pObs] at hpO
    refine af0 hpO ?_
    clear hpO
    simp +contextual (maxSteps := 2000000) (disch := omega) [-Int.not_lt, -Int.not_le, -Nat.not_lt, -Nat.not_le, sx]
    refine endP ?_
    simp +contextual (maxSteps := 2000000) (disch := omega) [-Int.not_lt, -Int.not_le, -Nat.not_lt, -Nat.not_le, sx, hw, pAns, ar0, pObs]
   rw [hR39] at hJ hw
   try simp only [LxR.bind] at hw
   simp only [pAns, ar0] at hJ
   refine aa0 [.e 0] rfl rfl (by simp) ?_
   simp
   have hpO := hJ
   try simp [pObs] at hpO
   refine ab0 39 hpO (by simp) ?_
   clear hpO
   simp +contextual (maxSteps := 2000000) (disch := omega) [-Int.not_lt, -Int.not_le, -Nat.not_lt, -Nat.not_le, sx, bI0, gj0]
   refine endR _ _ (Wk.refl _ _) [] (by simp) ?_
   simp +contextual (maxSteps := 2000000) (disch := omega) [-Int.not_lt, -Int.not_le, -Nat.not_lt, -Nat.not_le, sx, hw, pAns, pObs]
  | false =>
  rw [h3] at hw
  simp only [Bool.false_eq_true, if_false, if_true] at hw
  simp +contextual (maxSteps := 2000000) (disch := omega) [-Int.not_lt, -Int.not_le, -Nat.not_lt, -Nat.not_le, sx]
  have hJ := iZ0 hE hl hn
  rcases hR47 : pKey ts n with ⟨k,n0⟩ | ⟨aa, ae⟩
  rotate_left
  ·rw [hR47] at hJ hw
   try simp only [LxR.bind] at hw
   simp only [pAns, ar0] at hJ
   refine aa0 [.e 0] rfl rfl (by simp) ?_
   simp
   have hpO := hJ
   try simp [pObs] at hpO
   refine af0 hpO ?_
   clear hpO
   simp +contextual (maxSteps := 2000000) (disch := omega) [-Int.not_lt, -Int.not_le, -Nat.not_lt, -Nat.not_le, sx]
   refine endP ?_
   simp +contextual (maxSteps := 2000000) (disch := omega) [-Int.not_lt, -Int.not_le, -Nat.not_lt, -Nat.not_le, sx, hw, pAns, ar0, pObs]
  rw [hR47] at hJ hw
  try simp only [LxR.bind] at hw
  simp only [pAns, ar0] at hJ
  refine aa0 [.e 0] rfl rfl (by simp) ?_
  simp
  have hpO := hJ
  try simp [pObs] at hpO
  refine ab0 47 hpO (by simp) ?_
  clear hpO
  simp +contextual (maxSteps := 2000000) (disch := omega) [-Int.not_lt, -Int.not_le, -Nat.not_lt, -Nat.not_le, sx]
  refine endR _ _ (Wk.refl _ _) [] (by simp) ?_
  simp +contextual (maxSteps := 2000000) (disch := omega) [-Int.not_lt, -Int.not_le, -Nat.not_lt, -Nat.not_le, sx, hw, pAns, pObs]
def hasB (l : Bs) (c : UInt8) : Bool := l.contains c
def asV (l : Bs) : List V := (List.range 256).map fun b => vB (l.contains (UInt8.ofNat b))
@[simp] theorem asV_len (l : Bs) : (asV l).length = 256 := by simp [asV]
theorem mn0 (l : Bs) {j : Nat} (h : j < 256) : (asV l)[j]? = some (vB (l.contains (UInt8.ofNat j))) := by
 unfold asV
 rw [List.getElem?_map, List.getElem?_range h]; rfl
theorem il0 (l : Bs) : jA0 (asV l) = true := by
 unfold asV jA0
 rw [List.all_eq_true]
 intro v hv
 obtain ⟨b, _, rfl⟩ := List.mem_map.1 hv
 rfl
section
variable {l : Bs} {K : V -> Prop} {Ks : List V -> Prop} {hp : Hp}
@[simp] theorem asV_has0 {i : Id} : V.hasL i (asV l) = false := eZ0 (il0 l) i
@[simp] theorem asV_scalars0 : scalars (asV l) = true := bN0 (il0 l)
@[simp] theorem asV_pure0 : V.bo0 (asV l) = true := dD0 (il0 l)
@[simp] theorem asV_see0 {nl : Bool} {ks : List Id} : V.seeL nl ks hp (asV l) Ks = Ks (asV l) := gb0 (il0 l) nl ks Ks
@[simp] theorem asV_map0 {f : Id -> Option Id} : dM0 f (asV l) Ks = Ks (asV l) := ga0 (il0 l) f Ks
@[simp] theorem asV_hide0 {ks : List Id} : V.bF0 ks (asV l) = asV l := em0 (il0 l) ks
@[simp] theorem asV_take : (asV l).take 256 = asV l := List.take_of_length_le (by simp)
@[simp] theorem asV_drop : (asV l).drop 256 = [] := List.drop_of_length_le (by simp)
theorem asV_nth {c : UInt8} : nthK (asV l) c.toNat K = K (vB (hasB l c)) := by
 unfold hasB
 have h := c.toNat_lt
 rw [h30, mn0 l h]
 apply propext
 constructor
 ·rintro ⟨v, e, hk⟩; injection e with e; subst e; simpa using hk
 ·intro hk; exact ⟨_, rfl, by simpa using hk⟩
end
theorem asV_set (l : Bs) (c : UInt8) : setAt (asV l) c.toNat [vB true] = asV (l ++ [c]) := by
 have hc := c.toNat_lt
 unfold setAt
 apply List.ext_getElem?
 intro j
 by_cases hj : j < 256
 ·rw [mn0 _ hj]
  rcases Nat.lt_trichotomy j c.toNat with h | h | h
  ·rw [List.append_assoc, List.getElem?_append_left (by simp; omega), List.getElem?_take, if_pos h, mn0 _ hj]
   have hne : ¬ UInt8.ofNat j = c := fun e => by
    have := congrArg UInt8.toNat e
    simp at this; omega
   have : (l ++ [c]).contains (UInt8.ofNat j) = l.contains (UInt8.ofNat j) := by
    rw [Bool.eq_iff_iff]; simp [hne]
   rw [this]
  ·subst h
   rw [List.append_assoc, List.getElem?_append_right (by simp; omega)]
   simp [Nat.min_eq_left (Nat.le_of_lt hc)]
  ·rw [List.append_assoc, List.getElem?_append_right (by simp; omega), List.getElem?_append_right (by simp; omega), List.getElem?_drop]
   have e : c.toNat + [vB true].length + (j - ((asV l).take c.toNat).length - [vB true].length) = j := by simp; omega
   rw [e, mn0 _ hj]
   have hne : ¬ UInt8.ofNat j = c := fun e => by
    have := congrArg UInt8.toNat e
    simp at this; omega
   have : (l ++ [c]).contains (UInt8.ofNat j) = l.contains (UInt8.ofNat j) := by
    rw [Bool.eq_iff_iff]; simp [hne]
   rw [this]
 ·rw [List.getElem?_eq_none (by simp; omega), List.getElem?_eq_none (by simp; omega)]
theorem asV_set' (l : Bs) (c : UInt8) : (asV l).take c.toNat ++ vB true :: (asV l).drop (c.toNat + 1) = asV (l ++ [c]) := by
 rw [<- asV_set]; simp [setAt]
def gQ0 (l : Bs) : List Ob := [.box (asV l)]
theorem dP0 (l : Bs) (c : UInt8) : J prog cL0 [.bp (.e 0) 0, vU c] (gQ0 l) (· = .ret (vB (hasB l c)) (gQ0 l)) := by
 have hc := c.toNat_lt
 have hc' : (c.toNat : Int) < 256 := by omega
 refine aq0 e00 (by simp [gQ0]) ?_
 simp +contextual (maxSteps := 2000000) (disch := omega) [-Int.not_lt, -Int.not_le, -Nat.not_lt, -Nat.not_le, sx, cB0, gQ0, hpE, hc']
 rw [asV_nth]
 simp +contextual (maxSteps := 2000000) (disch := omega) [-Int.not_lt, -Int.not_le, -Nat.not_lt, -Nat.not_le, sx]
 refine endR _ _ (Wk.refl _ _) [] (by simp) ?_
 simp +contextual (maxSteps := 2000000) (disch := omega) [-Int.not_lt, -Int.not_le, -Nat.not_lt, -Nat.not_le, sx]
theorem cu0 (l : Bs) (i j : Nat) : (bS l).extract i j = bS ((l.drop i).take (j - i)) := by
 have h := dn0 (bS l) i j
 generalize (bS l).extract i j = x at h
 obtain ⟨⟨x⟩⟩ := x
 exact congrArg bS h
def hH0 (set s : Bs) : Bs := (s.reverse.dropWhile set.contains).reverse
def jo0 (set s : Bs) : Bs := s.dropWhile set.contains
theorem trimR_nil (set : Bs) : hH0 set [] = [] := rfl
theorem pM0 (set s : Bs) (c : UInt8) : hH0 set (s ++ [c]) = if hasB set c then hH0 set s else s ++ [c] := by
 unfold hH0 hasB
 rw [List.reverse_append]
 simp only [List.reverse_cons, List.reverse_nil, List.nil_append, List.singleton_append, List.dropWhile_cons]
 split
 ·rfl
 ·simp
theorem pL0 (set s : Bs) (c : UInt8) : jo0 set (c :: s) = if hasB set c then jo0 set s else c :: s := by
 unfold jo0 hasB
 rw [List.dropWhile_cons]
theorem jp0 (l s : Bs) (hs : s.length < 2 ^ 40) : J prog dj0 [vS (bS s), .bp (.e 0) 0] (gQ0 l) (· = .ret (vS (bS (hH0 l s))) (gQ0 l)) := by
 refine aq0 go0 (by simp [gQ0]) ?_
 simp +contextual (maxSteps := 2000000) (disch := omega) [-Int.not_lt, -Int.not_le, -Nat.not_lt, -Nat.not_le, sx, c40, gQ0, hpE]
 refine aH0 (fun r : Bs => r.length) (fun r => [(0, vS (bS r)), (1, .bp (.e 0) 0)]) (fun _ => [(.e 0, .box (asV l))]) (fun r => r.length <= s.length /\ hH0 l r = hH0 l s) s ⟨Nat.le_refl _, rfl⟩ (Wk.subs (by simp) (by simp)) ?_
 rintro r ⟨hr, ht⟩
 rcases List.eq_nil_or_concat r with rfl | ⟨r', c, rfl⟩
 ·rw [<- ht]
  simp +contextual (maxSteps := 2000000) (disch := omega) [-Int.not_lt, -Int.not_le, -Nat.not_lt, -Nat.not_le, sx, gj0]
  refine endR _ _ (Wk.refl _ _) [] (by simp) ?_
  simp +contextual (maxSteps := 2000000) (disch := omega) [-Int.not_lt, -Int.not_le, -Nat.not_lt, -Nat.not_le, sx, trimR_nil]
 ·rw [List.concat_eq_append] at *
  have hsz : (bS (r' ++ [c])).size = r'.length + 1 := by rw [gj0]; simp
  have hpos : (0 : Int) < (r'.length : Int) + 1 := by omega
  have hr' : r'.length + 1 <= s.length := by simpa using hr
  have hget : (r' ++ [c])[r'.length]? = some c := by simp
  simp +contextual (maxSteps := 2000000) (disch := omega) [-Int.not_lt, -Int.not_le, -Nat.not_lt, -Nat.not_le, sx, hsz, hpos, hget]
  refine aa0 [.e 0] rfl rfl (by simp) ?_
  simp
  have hpO := dP0 l c
  try simp [gQ0] at hpO
  refine ab0 14 hpO (by simp) ?_
  clear hpO
  rw [pM0] at ht
  cases h : hasB l c with
  | true =>
   rw [h, if_pos rfl] at ht
   simp +contextual (maxSteps := 2000000) (disch := omega) [-Int.not_lt, -Int.not_le, -Nat.not_lt, -Nat.not_le, sx, hsz, cu0]
   refine .of r' ⟨by omega, ht⟩ (by simp) (Wk.subs (by simp) (by simp))
  | false =>
   rw [h, if_neg (by simp)] at ht
   rw [<- ht]
   simp +contextual (maxSteps := 2000000) (disch := omega) [-Int.not_lt, -Int.not_le, -Nat.not_lt, -Nat.not_le, sx]
   refine endR _ _ (Wk.refl _ _) [] (by simp) ?_
   simp +contextual (maxSteps := 2000000) (disch := omega) [-Int.not_lt, -Int.not_le, -Nat.not_lt, -Nat.not_le, sx]
theorem jZ0 (l s : Bs) (hs : s.length < 2 ^ 40) : J prog dC0 [vS (bS s), .bp (.e 0) 0] (gQ0 l) (· = .ret (vS (bS (jo0 l s))) (gQ0 l)) := by
 refine aq0 gH0 (by simp [gQ0]) ?_
 simp +contextual (maxSteps := 2000000) (disch := omega) [-Int.not_lt, -Int.not_le, -Nat.not_lt, -Nat.not_le, sx, dh0, gQ0, hpE]
 refine aH0 (fun r : Bs => r.length) (fun r => [(0, vS (bS r)), (1, .bp (.e 0) 0)]) (fun _ => [(.e 0, .box (asV l))]) (fun r => r.length <= s.length /\ jo0 l r = jo0 l s) s ⟨Nat.le_refl _, rfl⟩ (Wk.subs (by simp) (by simp)) ?_
 rintro r ⟨hr, ht⟩
 cases r with
 | nil =>
  rw [<- ht]
  simp +contextual (maxSteps := 2000000) (disch := omega) [-Int.not_lt, -Int.not_le, -Nat.not_lt, -Nat.not_le, sx, gj0]
  refine endR _ _ (Wk.refl _ _) [] (by simp) ?_
  simp +contextual (maxSteps := 2000000) (disch := omega) [-Int.not_lt, -Int.not_le, -Nat.not_lt, -Nat.not_le, sx, jo0]
 | cons c r' =>
  have hsz : (bS (c :: r')).size = r'.length + 1 := by rw [gj0]; simp
  have hpos : (0 : Int) < (r'.length : Int) + 1 := by omega
  have hr' : r'.length + 1 <= s.length := by simpa using hr
  simp +contextual (maxSteps := 2000000) (disch := omega) [-Int.not_lt, -Int.not_le, -Nat.not_lt, -Nat.not_le, sx, hsz, hpos]
  refine aa0 [.e 0] rfl rfl (by simp) ?_
  simp
  have hpO := dP0 l c
  try simp [gQ0] at hpO
  refine ab0 11 hpO (by simp) ?_
  clear hpO
  rw [pL0] at ht
  cases h : hasB l c with
  | true =>
   rw [h, if_pos rfl] at ht
   simp +contextual (maxSteps := 2000000) (disch := omega) [-Int.not_lt, -Int.not_le, -Nat.not_lt, -Nat.not_le, sx, hsz, cu0]
   refine .of r' ⟨by omega, ht⟩ (by simp) (Wk.subs (by simp) (by simp))
  | false =>
   rw [h, if_neg (by simp)] at ht
   rw [<- ht]
   simp +contextual (maxSteps := 2000000) (disch := omega) [-Int.not_lt, -Int.not_le, -Nat.not_lt, -Nat.not_le, sx]
   refine endR _ _ (Wk.refl _ _) [] (by simp) ?_
   simp +contextual (maxSteps := 2000000) (disch := omega) [-Int.not_lt, -Int.not_le, -Nat.not_lt, -Nat.not_le, sx]
end Go.Am
end

section
namespace Go.Am
def dp0 (s : Bs) : Bool := decide (s = eB0) || decide (s = cN0) || decide (s = cs0)
def bR0 : Bs := [123, 105, 110, 116, 58]
def aQ0 : Bs := [123, 116, 101, 120, 116, 58]
def tyB : Nat -> Bs -> Bool
 | 0, s => dp0 s
 | r + 1, s =>
  if dp0 s then true
  else if s.length < 2 then false
  else if [91].isPrefixOf s.dropLast then decide (s.getLast? = some 93) && tyB r (s.dropLast.drop 1)
  else if bR0.isPrefixOf s.dropLast then decide (s.getLast? = some 125) && tyB r (s.dropLast.drop 5)
  else if aQ0.isPrefixOf s.dropLast then decide (s.getLast? = some 125) && tyB r (s.dropLast.drop 6)
  else false
inductive IsTy : Nat -> Bs -> Prop
 | base {s : Bs} (h : dp0 s = true) : IsTy 1 s
 | list {d : Nat} {s : Bs} (h : IsTy d s) : IsTy (d + 1) ([91] ++ s ++ [93])
 | mapI {d : Nat} {s : Bs} (h : IsTy d s) : IsTy (d + 1) (bR0 ++ s ++ [125])
 | mapT {d : Nat} {s : Bs} (h : IsTy d s) : IsTy (d + 1) (aQ0 ++ s ++ [125])
theorem gi0 {s : Bs} (h : dp0 s = true) : s = eB0 \/ s = cN0 \/ s = cs0 := by
 simpa [dp0, or_assoc] using h
theorem dd0 {s : Bs} (h : dp0 s = true) : s.head? = some 105 \/ s.head? = some 98 \/ s.head? = some 116 := by
 rcases gi0 h with rfl | rfl | rfl <;> simp [eB0, cN0, cs0]
theorem oy0 (s : Bs) : dp0 ([91] ++ s) = false := by
 rw [<- Bool.not_eq_true]; intro h; have := dd0 h; simp at this
theorem mg0 (s : Bs) : dp0 (123 :: s) = false := by
 rw [<- Bool.not_eq_true]; intro h; have := dd0 h; simp at this
theorem ty_pos {d : Nat} {s : Bs} (h : IsTy d s) : 0 < d := by cases h <;> omega
theorem tyB_list (r : Nat) (s : Bs) : tyB (r + 1) ([91] ++ s ++ [93]) = tyB r s := by
 rw [tyB]
 have h0 : dp0 ([91] ++ s ++ [93]) = false := by rw [List.append_assoc]; exact oy0 _
 have h1 : ([91] ++ s ++ [93] : Bs).dropLast = [91] ++ s := List.dropLast_concat
 have h2 : ([91] ++ s ++ [93] : Bs).getLast? = some 93 := List.getLast?_concat
 rw [h0, h1, h2]
 simp
theorem tyB_mapI (r : Nat) (s : Bs) : tyB (r + 1) (bR0 ++ s ++ [125]) = tyB r s := by
 rw [tyB]
 have h0 : dp0 (bR0 ++ s ++ [125]) = false := mg0 _
 have h1 : (bR0 ++ s ++ [125] : Bs).dropLast = bR0 ++ s := List.dropLast_concat
 have h2 : (bR0 ++ s ++ [125] : Bs).getLast? = some 125 := List.getLast?_concat
 rw [h0, h1, h2]
 simp [bR0]
theorem tyB_mapT (r : Nat) (s : Bs) : tyB (r + 1) (aQ0 ++ s ++ [125]) = tyB r s := by
 rw [tyB]
 have h0 : dp0 (aQ0 ++ s ++ [125]) = false := mg0 _
 have h1 : (aQ0 ++ s ++ [125] : Bs).dropLast = aQ0 ++ s := List.dropLast_concat
 have h2 : (aQ0 ++ s ++ [125] : Bs).getLast? = some 125 := List.getLast?_concat
 rw [h0, h1, h2]
 simp [aQ0, bR0]
theorem tyB_ty {d : Nat} {s : Bs} (h : IsTy d s) : ∀ r, tyB r s = decide (d <= r + 1) := by
 induction h with
 | base h => intro r; cases r <;> simp [tyB, h]
 | list h ih => intro r; cases r with
  | zero => simp [tyB, dp0]; have := ty_pos h; simp [eB0, cN0, cs0]; omega
  | succ r => rw [tyB_list, ih]; simp
 | mapI h ih => intro r; cases r with
  | zero => simp [tyB, dp0]; have := ty_pos h; simp [eB0, cN0, cs0, bR0]; omega
  | succ r => rw [tyB_mapI, ih]; simp
 | mapT h ih => intro r; cases r with
  | zero => simp [tyB, dp0]; have := ty_pos h; simp [eB0, cN0, cs0, aQ0]; omega
  | succ r => rw [tyB_mapT, ih]; simp
theorem gV0 {s : Bs} {c : UInt8} (h : s.getLast? = some c) : s = s.dropLast ++ [c] := by
 have hne : s ≠ [] := by rintro rfl; simp at h
 rw [List.getLast?_eq_some_getLast hne] at h
 injection h with h
 conv => lhs; rw [<- List.dropLast_concat_getLast hne, h]
theorem o40 {r : Nat} {s : Bs} (h : tyB r s = true) : ∃ d, IsTy d s /\ d <= r + 1 := by
 induction r generalizing s with
 | zero => exact ⟨1, .base (by simpa [tyB] using h), by omega⟩
 | succ r ih =>
  rw [tyB] at h
  split at h
  ·exact ⟨1, .base ‹_›, by omega⟩
  split at h
  ·cases h
  split at h
  ·rename_i hp
   obtain ⟨t, ht⟩ := List.isPrefixOf_iff_prefix.1 hp
   simp only [Bool.and_eq_true, decide_eq_true_eq] at h
   rw [<- ht] at h
   change _ /\ tyB r t = true at h
   obtain ⟨d, hd, hle⟩ := ih h.2
   have e := gV0 h.1
   rw [<- ht] at e
   rw [e]; exact ⟨d + 1, .list hd, by omega⟩
  split at h
  ·rename_i hp
   obtain ⟨t, ht⟩ := List.isPrefixOf_iff_prefix.1 hp
   simp only [Bool.and_eq_true, decide_eq_true_eq] at h
   rw [<- ht] at h
   change _ /\ tyB r t = true at h
   obtain ⟨d, hd, hle⟩ := ih h.2
   have e := gV0 h.1
   rw [<- ht] at e
   rw [e]; exact ⟨d + 1, .mapI hd, by omega⟩
  split at h
  ·rename_i hp
   obtain ⟨t, ht⟩ := List.isPrefixOf_iff_prefix.1 hp
   simp only [Bool.and_eq_true, decide_eq_true_eq] at h
   rw [<- ht] at h
   change _ /\ tyB r t = true at h
   obtain ⟨d, hd, hle⟩ := ih h.2
   have e := gV0 h.1
   rw [<- ht] at e
   rw [e]; exact ⟨d + 1, .mapT hd, by omega⟩
  ·cases h
theorem ty_prefix {d : Nat} {s : Bs} (h : IsTy d s) : ∀ {e : Nat} {j : Bs}, IsTy e (s ++ j) -> j = [] := by
 have wrap : ∀ {s t j : Bs} {c : UInt8}, (∀ {e : Nat} {j : Bs}, IsTy e (s ++ j) -> j = []) -> ∀ {e}, IsTy e t -> s ++ [c] ++ j = t ++ [c] -> j = [] := by
  intro s t j c ih e ht he
  by_cases hj : j = []
  ·exact hj
  exfalso
  have hl : s.length <= t.length := by
   have := congrArg List.length he
   simp at this
   have : 0 < j.length := List.length_pos_iff.2 hj
   omega
  have hs : t = s ++ t.drop s.length := by
   have h1 := congrArg (List.take s.length) he
   rw [List.append_assoc, List.take_left' rfl, List.take_append_of_le_length hl] at h1
   conv => lhs; rw [<- List.take_append_drop s.length t, <- h1]
  rw [hs] at ht
  have := ih ht
  rw [this, List.append_nil] at hs
  subst hs
  have := congrArg List.length he
  simp at this
  exact hj this
 induction h with
 | base h =>
  intro e j hj
  rcases gi0 h with rfl | rfl | rfl
  all_goals
   generalize hx : _ ++ j = x at hj
   cases hj with
   | base h' => rcases gi0 h' with rfl | rfl | rfl <;> simp [eB0, cN0, cs0] at hx <;> simp [hx]
   | list h' => simp [eB0, cN0, cs0] at hx
   | mapI h' => simp [eB0, cN0, cs0, bR0] at hx
   | mapT h' => simp [eB0, cN0, cs0, aQ0] at hx
 | list h ih =>
  intro e j hj
  generalize hx : _ ++ j = x at hj
  cases hj with
  | base h' => have := dd0 h'; simp [<- hx] at this
  | list h' => exact wrap ih h' (by simpa using hx)
  | mapI h' => simp [bR0] at hx
  | mapT h' => simp [aQ0] at hx
 | mapI h ih =>
  intro e j hj
  generalize hx : _ ++ j = x at hj
  cases hj with
  | base h' => have := dd0 h'; simp [<- hx, bR0] at this
  | list h' => simp [bR0] at hx
  | mapI h' => exact wrap ih h' (by simpa using hx)
  | mapT h' => simp [aQ0, bR0] at hx
 | mapT h ih =>
  intro e j hj
  generalize hx : _ ++ j = x at hj
  cases hj with
  | base h' => have := dd0 h'; simp [<- hx, aQ0] at this
  | list h' => simp [aQ0] at hx
  | mapI h' => simp [aQ0, bR0] at hx
  | mapT h' => exact wrap ih h' (by simpa using hx)
theorem o50 {d r : Nat} {s j : Bs} (h : IsTy d s) (hj : j ≠ []) : tyB r (s ++ j) = false := by
 rw [<- Bool.not_eq_true]; intro h2
 obtain ⟨e, he, _⟩ := o40 h2
 exact hj (ty_prefix h he)
theorem tyB_blank {r : Nat} {s : Bs} : tyB r (32 :: s) = false := by
 rw [<- Bool.not_eq_true]; intro h2
 obtain ⟨e, he, _⟩ := o40 h2
 generalize hx : (32 :: s : Bs) = x at he
 cases he with
 | base h' => have := dd0 h'; simp [<- hx] at this
 | list h' => simp at hx
 | mapI h' => simp [bR0] at hx
 | mapT h' => simp [aQ0] at hx
theorem tyB_mapB {r : Nat} {s : Bs} : tyB r ([123, 98, 111, 111, 108, 58] ++ s) = false := by
 rw [<- Bool.not_eq_true]; intro h2
 obtain ⟨e, he, _⟩ := o40 h2
 generalize hx : ([123, 98, 111, 111, 108, 58] ++ s : Bs) = x at he
 cases he with
 | base h' => have := dd0 h'; simp [<- hx] at this
 | list h' => simp at hx
 | mapI h' => simp [bR0] at hx
 | mapT h' => simp [aQ0] at hx
end Go.Am
end

section
namespace Go.Am
def fR0 (s : Bs) : Bool := decide (s ≠ []) && decide (s.length <= 16) && !(ak0.contains (s.headD 0)) && s.all (fun c => (ay0 ++ ak0).contains c) && !(px0.contains s)
def oz0 (s : Bs) : Bool := tyB 3 s
def plainB (s : Bs) : Bool := decide (s.length <= 256) && s.all (fun c => decide (32 <= c /\ c <= 126))
def quoteB (s : Bs) : Bs := [34] ++ s.flatMap (fun c => if c = 92 then [92, 92] else if c = 34 then [92, 34] else [c]) ++ [34]
def numB (n : Int) : Bs := Lib.itoa n
def sepB (ts : List Bs) : Bs := (ts.mapIdx fun i t => (if i = 0 then [] else [44, 32]) ++ t).flatten
def opOk (op : Int) : Bool := decide (1 <= op /\ op <= 13)
def lvl (op : Int) : Int := if op <= 2 then op else if op <= 8 then 3 else if op <= 10 then 4 else 5
def opB (op : Int) : Bs := pOps.getD (op.toNat - 1) []
def within (s : Bs) (b : Bool) : Bs := if b then [40] ++ s ++ [41] else s
def e90 (x : Exq) (n : Int) : Bool := decide (x.kind = 15) && decide (lvl x.op < n)
def oh0 (x : Exq) : Bool := decide (x.kind = 15 \/ x.kind = 13 \/ x.kind = 14)
mutual
def shE : Exq -> Option Bs
 | .mk k op num text slot type args at_ =>
  if k = 1 then (if args = [] /\ 0 <= num then some (numB num) else none)
  else if k = 2 then (if args = [] /\ (num = 0 \/ num = 1) then some (if num = 1 then h10 else fA0) else none)
  else if k = 3 then (if args = [] /\ plainB (sB text) = true then some (quoteB (sB text)) else none)
  else if k = 6 then (if args = [] /\ fR0 (sB text) = true then some (sB text) else none)
  else if k = 7 then (if fR0 (sB text) = true then (shL args).map fun l => sB text ++ [40] ++ sepB l ++ [41] else none)
  else if k = 12 then (match args, shL args with
   | [x, y], some [a, b] => some (within a (oh0 x) ++ [91] ++ b ++ [93])
   | _, _ => none)
  else if k = 13 \/ k = 14 then (match args, shL args with
   | [x], some [a] => some ((if k = 13 then [45] else [33]) ++ within a (decide (x.kind = 15)))
   | _, _ => none)
  else if k = 15 then (match args, shL args with
   | [x, y], some [a, b] => if opOk op then some (within a (e90 x (if lvl op = 3 then 4 else lvl op)) ++ [32] ++ opB op ++ [32] ++ within b (e90 y (lvl op + 1))) else none
   | _, _ => none)
  else none
def shL : List Exq -> Option (List Bs)
 | [] => some []
 | x :: l => match shE x, shL l with
  | some a, some b => some (a :: b)
  | _, _ => none
end
mutual
def plE : Exq -> Bool
 | .mk k op num text slot type args at_ => decide (k ≠ 3 /\ num < 9223372036854775808 /\ args.length < 1073741824) && plL args
def plL : List Exq -> Bool
 | [] => true
 | x :: l => plE x && plL l
end
def tabs (n : Nat) : Bs := List.replicate n 9
mutual
def shS (n : Nat) : Stm -> Option Bs
 | .mk k name slot state num e body els at_ =>
  if k = 1 then (match shL e with
   | some [a] => if fR0 (sB name) = true then some (fC0 ++ [32] ++ sB name ++ [32, 61, 32] ++ a ++ [59]) else none
   | _ => none)
  else if k = 2 then (match shL e with
   | some [a] => if fR0 (sB name) = true then some (eC0 ++ [32] ++ sB name ++ [32, 61, 32] ++ a ++ [59]) else none
   | some [a, b] => if fR0 (sB name) = true then some (eC0 ++ [32] ++ sB name ++ [91] ++ a ++ [93] ++ [32, 61, 32] ++ b ++ [59]) else none
   | _ => none)
  else if k = 3 then (match shL e with
   | some [a] => if fR0 (sB name) = true then some (fz0 ++ [32] ++ sB name ++ [91] ++ a ++ [93, 59]) else none
   | _ => none)
  else if k = 4 then (match shL e, shB n body, shB n els with
   | some [a], some b, some c => some (kwIf ++ [32] ++ a ++ [32] ++ b ++ (if els = [] then [] else [32] ++ cO0 ++ [32] ++ c))
   | _, _, _ => none)
  else if k = 5 then (match shL e, shB n body with
   | some [a], some b => if fR0 (sB name) = true then some (fB0 ++ [32] ++ sB name ++ [32] ++ kwTo ++ [32] ++ a ++ [32] ++ b) else none
   | _, _ => none)
  else if k = 6 then (match shL e with
   | some [a] => some (fD0 ++ [32] ++ a ++ [59])
   | _ => none)
  else none
def shB (n : Nat) : List Stm -> Option Bs
 | [] => some [123, 125]
 | x :: l => match shS (n + 1) x, shT n l with
  | some a, some b => some ([123, 10] ++ (tabs (n + 1) ++ a ++ [10] ++ b) ++ tabs n ++ [125])
  | _, _ => none
def shT (n : Nat) : List Stm -> Option Bs
 | [] => some []
 | x :: l => match shS (n + 1) x, shT n l with
  | some a, some b => some (tabs (n + 1) ++ a ++ [10] ++ b)
  | _, _ => none
end
theorem shB_cons (n : Nat) (x : Stm) (l : List Stm) : shB n (x :: l) = (shT n (x :: l)).map fun t => [123, 10] ++ t ++ tabs n ++ [125] := by
 rw [shB.eq_def, shT.eq_def]
 dsimp only
 cases shS (n + 1) x <;> cases shT n l <;> rfl
mutual
def plS : Stm -> Bool
 | .mk k name slot state num e body els at_ => plL e && decide (body.length < 1073741824 /\ els.length < 1073741824) && plB body && plB els
def plB : List Stm -> Bool
 | [] => true
 | x :: l => plS x && plB l
end
def mc0 (s : Slo) : Option Bs := if oz0 (sB s.type) && fR0 (sB s.name) then some (sB s.name ++ [58, 32] ++ sB s.type) else none
def jl0 : List Slo -> Option (List Bs)
 | [] => some []
 | s :: l => match mc0 s, jl0 l with
  | some a, some b => some (a :: b)
  | _, _ => none
def jW0 : List Slo -> Option Bs
 | [] => some []
 | s :: l => match mc0 s, jW0 l with
  | some a, some b => some (gr0 ++ [32] ++ a ++ [59, 10] ++ b)
  | _, _ => none
def shFun (f : Fun) : Option Bs :=
 match jl0 f.params, shB 0 f.body with
 | some ps, some b => if oz0 (sB f.result) && fR0 (sB f.name) then some ((if f.on then kwOn else kwFn) ++ [32] ++ sB f.name ++ [40] ++ sepB ps ++ [41, 58, 32] ++ sB f.result ++ [32] ++ b ++ [10]) else none
 | _, _ => none
def nS0 : List Fun -> Option Bs
 | [] => some []
 | f :: l => match shFun f, nS0 l with
  | some a, some b => some (a ++ b)
  | _, _ => none
def shP (p : Prg) : Option Bs :=
 if 0 <= p.version then match jW0 p.states, nS0 p.fns with
  | some a, some b => some (dK0 ++ [32] ++ numB p.version ++ [59, 10] ++ a ++ b)
  | _, _ => none
 else none
end Go.Am
end

section
namespace Go.Am
set_option maxRecDepth 100000
attribute [local irreducible] vc vcIs vcI vcOp vcD vcDp vcDR vcT vcAR b30 aU0 panD neG ne pv J bV0 b00 b90 a90 evK evsK nthK objK boxK rowK bD0 intK strK aggK fnK ifcK at0 av0 ldK ldaK iaK srcK stK appK appD ce0 pvK bU0 aX0 bT0 bv0 slAV bH0
set_option maxHeartbeats 3200000 in
theorem kd0 (s : Bs) (hs : s.length < 2 ^ 20) (ha : ∀ c ∈ s, c.toNat < 128) : Ret prog dU0 [vS (bS s)] (.tup [.agg (asV s), vB true]) := by
 have hsz : (bS s).size = s.length := rfl
 refine aq0 g50 (by simp) ?_
 simp +contextual (maxSteps := 2000000) (disch := omega) [-Int.not_lt, -Int.not_le, -Nat.not_lt, -Nat.not_le, sx, dy0]
 refine ca0 s.length (fun i => [(4, vI i), (2, .bp (.l 2 0) 0), (0, vS (bS s))]) (fun i => [(.l 2 0, .box (asV (s.take i)))]) (Wk.subs (by simp) (by simp; rfl)) ?_
 intro i hi
 by_cases hlt : i < s.length
 ·have hlt' : (i : Int) < s.length := by omega
  have hc := ha _ (List.getElem_mem hlt)
  have hget : s[i]? = some s[i] := List.getElem?_eq_getElem hlt
  have htk : s.take (i + 1) = s.take i ++ [s[i]] := by rw [List.take_add_one, hget]; rfl
  have hset := asV_set' (s.take i) s[i]
  rw [<- htk] at hset
  have hc' : ¬ (128 : Int) <= (s[i].toNat : Int) := by omega
  have hc2 : (s[i].toNat : Int) < 256 := by omega
  simp +contextual (maxSteps := 2000000) (disch := omega) [-Int.not_lt, -Int.not_le, -Nat.not_lt, -Nat.not_le, sx, hsz, hlt', hget, hc', hc2]
  refine .of hlt (Wk.subs (by simp) (by simp [hset]))
 ·have hge' : ¬ (i : Int) < s.length := by omega
  have : i = s.length := by omega
  subst this
  simp +contextual (maxSteps := 2000000) (disch := omega) [-Int.not_lt, -Int.not_le, -Nat.not_lt, -Nat.not_le, sx, hsz, hge']
  refine endR _ _ (Wk.refl _ _) [] (by simp) ?_
  simp +contextual (maxSteps := 2000000) (disch := omega) [-Int.not_lt, -Int.not_le, -Nat.not_lt, -Nat.not_le, sx]
set_option maxHeartbeats 3200000 in
theorem kk0 (s cut : Bs) (hs : s.length < 2 ^ 40) (h1 : 1 < cut.length) (h2 : cut.length < 2 ^ 20) (ha : ∀ c ∈ cut, c.toNat < 128) : Ret prog iU0 [vS (bS s), vS (bS cut)] (vS (bS (jo0 cut (hH0 cut s)))) := by
 have hsz : (bS cut).size = cut.length := rfl
 have hne : ¬ cut = [] := by rintro rfl; simp at h1
 have h1' : ¬ (cut.length : Int) = 1 := by omega
 refine aq0 lc0 (by simp) ?_
 by_cases he : s = []
 ·subst he
  simp +contextual (maxSteps := 2000000) (disch := omega) [-Int.not_lt, -Int.not_le, -Nat.not_lt, -Nat.not_le, sx, fe0]
  refine endR _ _ (Wk.refl _ _) [] (by simp) ?_
  simp +contextual (maxSteps := 2000000) (disch := omega) [-Int.not_lt, -Int.not_le, -Nat.not_lt, -Nat.not_le, sx, jo0, hH0]
 simp +contextual (maxSteps := 2000000) (disch := omega) [-Int.not_lt, -Int.not_le, -Nat.not_lt, -Nat.not_le, sx, fe0, he, hne, hsz, h1']
 refine ai0 ?_; simp; refine ah0 (kd0 cut h2 ha) (by simp) ?_
 simp +contextual (maxSteps := 2000000) (disch := omega) [-Int.not_lt, -Int.not_le, -Nat.not_lt, -Nat.not_le, sx]
 have hr : (hH0 cut s).length < 2 ^ 40 := by
  unfold hH0
  have := (List.dropWhile_sublist (l := s.reverse) cut.contains).length_le
  rw [List.length_reverse] at this ⊢; omega
 refine aa0 [.l 5 0] rfl rfl (by simp) ?_
 simp
 have hpO := jp0 cut s hs
 try simp [gQ0] at hpO
 refine ab0 36 hpO (by simp) ?_
 clear hpO
 simp +contextual (maxSteps := 2000000) (disch := omega) [-Int.not_lt, -Int.not_le, -Nat.not_lt, -Nat.not_le, sx]
 refine aa0 [.l 5 0] rfl rfl (by simp) ?_
 simp
 have hpO := jZ0 cut (hH0 cut s) hr
 try simp [gQ0] at hpO
 refine ab0 37 hpO (by simp) ?_
 clear hpO
 simp +contextual (maxSteps := 2000000) (disch := omega) [-Int.not_lt, -Int.not_le, -Nat.not_lt, -Nat.not_le, sx]
 refine endR _ _ (Wk.refl _ _) [] (by simp) ?_
 simp +contextual (maxSteps := 2000000) (disch := omega) [-Int.not_lt, -Int.not_le, -Nat.not_lt, -Nat.not_le, sx]
theorem mv0 (p : UInt8 -> Bool) (r : Bs) : (r.dropWhile p).all p = r.all p := by
 induction r with
 | nil => rfl
 | cons a r ih =>
  rw [List.dropWhile_cons]
  split
  ·rename_i h; rw [ih, List.all_cons, h]; rfl
  ·rfl
theorem dropWhile_nil (p : UInt8 -> Bool) (r : Bs) : r.dropWhile p = [] ↔ r.all p = true := by
 induction r with
 | nil => simp
 | cons a r ih =>
  rw [List.dropWhile_cons, List.all_cons]
  cases p a with
  | true => simpa using ih
  | false => simp
theorem trim_nil (set s : Bs) : jo0 set (hH0 set s) = [] ↔ s.all set.contains = true := by
 unfold jo0
 rw [dropWhile_nil]
 unfold hH0
 rw [List.all_reverse, mv0, List.all_reverse]
def m80 (s : Bs) : Bool := decide (s ≠ []) && decide (s.length <= 16) && !(ak0.contains (s.headD 0)) && s.all (fun c => (ay0 ++ ak0).contains c)
theorem nameB_eq (s : Bs) : fR0 s = (m80 s && !(px0.contains s)) := rfl
theorem mE0 (s : Bs) (hs : s.length < 2 ^ 40) : Ret prog lY0 [vS (bS s)] (vB (m80 s)) := by
 have hsz : (bS s).size = s.length := rfl
 refine de0 og0 (by simp) ?_
 cases s with
 | nil => simp +contextual (maxSteps := 2000000) (disch := omega) [-Int.not_lt, -Int.not_le, -Nat.not_lt, -Nat.not_le, sx, gR0, m80]
 | cons c s =>
 by_cases h16 : s.length + 1 <= 16
 rotate_left
 ·have h16' : ¬ (s.length : Int) + 1 <= 16 := by omega
  simp +contextual (maxSteps := 2000000) (disch := omega) [-Int.not_lt, -Int.not_le, -Nat.not_lt, -Nat.not_le, sx, gR0, hsz, h16', m80, h16]
 have h16' : (s.length : Int) + 1 <= 16 := by omega
 simp +contextual (maxSteps := 2000000) (disch := omega) [-Int.not_lt, -Int.not_le, -Nat.not_lt, -Nat.not_le, sx, gR0, hsz, h16']
 refine ai0 ?_; simp; refine ah0 (aF0 ⟨⟨ak0⟩⟩ c) (by simp) ?_
 rw [show sB ⟨⟨ak0⟩⟩ = ak0 from rfl]
 have hm := bP0 ak0 c
 cases hd : ak0.contains c with
 | true =>
  have hI : ¬ Lib.indexByte ak0 c < 0 := by have := hm.2 hd; omega
  have hw : m80 (c :: s) = false := by
   unfold m80
   rw [show List.headD (c :: s) 0 = c from rfl, hd]; simp
  simp +contextual (maxSteps := 2000000) (disch := omega) [-Int.not_lt, -Int.not_le, -Nat.not_lt, -Nat.not_le, sx, hI, hw]
 | false =>
  have hI : Lib.indexByte ak0 c < 0 := by
   have : ¬ 0 <= Lib.indexByte ak0 c := fun h => by rw [hm.1 h] at hd; cases hd
   omega
  simp +contextual (maxSteps := 2000000) (disch := omega) [-Int.not_lt, -Int.not_le, -Nat.not_lt, -Nat.not_le, sx, hI]
  refine ai0 ?_; simp; refine ah0 (kk0 (c :: s) (ay0 ++ ak0) hs (by decide) (by decide) (by decide)) (by simp) ?_
  have ht := trim_nil (ay0 ++ ak0) (c :: s)
  have hb : eqS (bS (jo0 (ay0 ++ ak0) (hH0 (ay0 ++ ak0) (c :: s)))) (bS []) = m80 (c :: s) := by
   unfold eqS m80
   rw [Bool.eq_iff_iff, decide_eq_true_eq]
   have h3 : bS (jo0 (ay0 ++ ak0) (hH0 (ay0 ++ ak0) (c :: s))) = bS [] ↔ jo0 (ay0 ++ ak0) (hH0 (ay0 ++ ak0) (c :: s)) = [] := ⟨fun h => congrArg sB h, fun h => by rw [h]⟩
   rw [h3, ht]
   have h4 : (List.headD (c :: s) 0) = c := rfl
   rw [h4, hd]
   simp [h16]
  generalize jo0 (ay0 ++ ak0) (hH0 (ay0 ++ ak0) (c :: s)) = x at *
  rw [<- hb]
  simp +contextual (maxSteps := 2000000) (disch := omega) [-Int.not_lt, -Int.not_le, -Nat.not_lt, -Nat.not_le, sx, eqS]
abbrev noneV : V := .ifc 61 (.agg [])
def mRes (b : Bool) (v : V) : Res := if b then .ret v [] else .pan noneV []
theorem i00 (b : Bool) : J prog gY0 [vB b] [] (· = mRes b (.tup [])) := by
 refine aq0 nn0 (by simp) ?_
 cases b with
 | true =>
  simp +contextual (maxSteps := 2000000) (disch := omega) [-Int.not_lt, -Int.not_le, -Nat.not_lt, -Nat.not_le, sx, hL0]
  refine endN _ _ (Wk.refl _ _) [] (by simp) ?_
  simp +contextual (maxSteps := 2000000) (disch := omega) [-Int.not_lt, -Int.not_le, -Nat.not_lt, -Nat.not_le, sx, mRes]
 | false =>
  simp +contextual (maxSteps := 2000000) (disch := omega) [-Int.not_lt, -Int.not_le, -Nat.not_lt, -Nat.not_le, sx, hL0]
  refine endP ?_
  simp +contextual (maxSteps := 2000000) (disch := omega) [-Int.not_lt, -Int.not_le, -Nat.not_lt, -Nat.not_le, sx, mRes]
theorem aj0 : J prog gY0 [vB true] [] (· = .ret (.tup []) []) := i00 true
theorem if0 : J prog gY0 [vB false] [] (· = .pan noneV []) := i00 false
theorem lW0 (s : Bs) (hs : s.length < 2 ^ 40) : J prog dY0 [vS (bS s)] [] (· = mRes (fR0 s) (vS (bS s))) := by
 refine aq0 no0 (by simp) ?_
 generalize hn : fR0 s = nb
 rw [nameB_eq] at hn
 simp +contextual (maxSteps := 2000000) (disch := omega) [-Int.not_lt, -Int.not_le, -Nat.not_lt, -Nat.not_le, sx, ko0]
 refine ai0 ?_; simp; refine ah0 (mE0 s hs) (by simp) ?_
 cases h1 : m80 s with
 | false =>
  rw [h1] at hn; subst hn
  simp +contextual (maxSteps := 2000000) (disch := omega) [-Int.not_lt, -Int.not_le, -Nat.not_lt, -Nat.not_le, sx]
  refine aa0 [] rfl rfl (by simp) ?_
  simp
  have hpO := if0
  try simp [gQ0] at hpO
  refine af0 hpO ?_
  clear hpO
  simp +contextual (maxSteps := 2000000) (disch := omega) [-Int.not_lt, -Int.not_le, -Nat.not_lt, -Nat.not_le, sx]
  refine endP ?_
  simp +contextual (maxSteps := 2000000) (disch := omega) [-Int.not_lt, -Int.not_le, -Nat.not_lt, -Nat.not_le, sx, mRes]
 | true =>
  simp +contextual (maxSteps := 2000000) (disch := omega) [-Int.not_lt, -Int.not_le, -Nat.not_lt, -Nat.not_le, sx]
  refine ai0 ?_; simp; refine ah0 (fF0 (bS s)) (by simp) ?_
  have hr : fJ0 (bS s) = px0.contains s := rfl
  rw [hr]
  cases h2 : px0.contains s with
  | true =>
   rw [h1, h2] at hn; subst hn
   simp +contextual (maxSteps := 2000000) (disch := omega) [-Int.not_lt, -Int.not_le, -Nat.not_lt, -Nat.not_le, sx]
   refine aa0 [] rfl rfl (by simp) ?_
   simp
   have hpO := if0
   try simp [gQ0] at hpO
   refine af0 hpO ?_
   clear hpO
   simp +contextual (maxSteps := 2000000) (disch := omega) [-Int.not_lt, -Int.not_le, -Nat.not_lt, -Nat.not_le, sx]
   refine endP ?_
   simp +contextual (maxSteps := 2000000) (disch := omega) [-Int.not_lt, -Int.not_le, -Nat.not_lt, -Nat.not_le, sx, mRes]
  | false =>
   rw [h1, h2] at hn; subst hn
   simp +contextual (maxSteps := 2000000) (disch := omega) [-Int.not_lt, -Int.not_le, -Nat.not_lt, -Nat.not_le, sx]
   refine aa0 [] rfl rfl (by simp) ?_
   simp
   have hpO := aj0
   try simp [gQ0] at hpO
   refine ab0 10 hpO (by simp) ?_
   clear hpO
   simp +contextual (maxSteps := 2000000) (disch := omega) [-Int.not_lt, -Int.not_le, -Nat.not_lt, -Nat.not_le, sx]
   refine endR _ _ (Wk.refl _ _) [] (by simp) ?_
   simp +contextual (maxSteps := 2000000) (disch := omega) [-Int.not_lt, -Int.not_le, -Nat.not_lt, -Nat.not_le, sx, mRes]
theorem tyB_snoc {r : Nat} {l : Bs} {c : UInt8} (hb : dp0 (l ++ [c]) = false) (hl : l ≠ []) : tyB (r + 1) (l ++ [c]) =
  (if [91].isPrefixOf l then decide (c = 93) && tyB r (l.drop 1)
  else if bR0.isPrefixOf l then decide (c = 125) && tyB r (l.drop 5)
  else if aQ0.isPrefixOf l then decide (c = 125) && tyB r (l.drop 6)
  else false) := by
 have h2 : ¬ (l ++ [c]).length < 2 := by
  have := List.length_pos_iff.2 hl
  simp; omega
 rw [tyB, hb, List.dropLast_concat, List.getLast?_concat]
 simp only [Bool.false_eq_true, if_false, if_neg h2, Option.some.injEq]
theorem ix0 {r : Nat} {s : Bs} (h : dp0 s = true) : tyB r s = true := by cases r <;> simp [tyB, h]
theorem lV0 : ∀ (r d : Nat) (s : Bs), d + r = 4 -> s.length < 2 ^ 40 -> Ret prog k60 [vS (bS s), vI d] (vB (tyB r s)) := by
 intro r
 induction r with
 | zero =>
  intro d s hd hs
  have hd4 : d = 4 := by omega
  subst hd4
  refine aq0 ky0 (by simp) ?_
  by_cases h1 : s = eB0
  ·subst h1
   simp +contextual (maxSteps := 2000000) (disch := omega) [-Int.not_lt, -Int.not_le, -Nat.not_lt, -Nat.not_le, sx, bf0, eB0]
   refine endR _ _ (Wk.refl _ _) [] (by simp) ?_
   simp +contextual (maxSteps := 2000000) (disch := omega) [-Int.not_lt, -Int.not_le, -Nat.not_lt, -Nat.not_le, sx, ix0 (s := [105, 110, 116]) (by decide)]
  by_cases h2 : s = cN0
  ·subst h2
   simp +contextual (maxSteps := 2000000) (disch := omega) [-Int.not_lt, -Int.not_le, -Nat.not_lt, -Nat.not_le, sx, bf0, cN0]
   refine endR _ _ (Wk.refl _ _) [] (by simp) ?_
   simp +contextual (maxSteps := 2000000) (disch := omega) [-Int.not_lt, -Int.not_le, -Nat.not_lt, -Nat.not_le, sx, ix0 (s := [98, 111, 111, 108]) (by decide)]
  by_cases h3 : s = cs0
  ·subst h3
   simp +contextual (maxSteps := 2000000) (disch := omega) [-Int.not_lt, -Int.not_le, -Nat.not_lt, -Nat.not_le, sx, bf0, cs0]
   refine endR _ _ (Wk.refl _ _) [] (by simp) ?_
   simp +contextual (maxSteps := 2000000) (disch := omega) [-Int.not_lt, -Int.not_le, -Nat.not_lt, -Nat.not_le, sx, ix0 (s := [116, 101, 120, 116]) (by decide)]
  have hb : tyB 0 s = false := by simp [tyB, dp0, h1, h2, h3]
  rw [hb]
  have h1' : ¬ s = [105, 110, 116] := h1
  have h2' : ¬ s = [98, 111, 111, 108] := h2
  have h3' : ¬ s = [116, 101, 120, 116] := h3
  have hsz : (bS s).size = s.length := rfl
  by_cases hl : s.length < 2
  ·have hl' : (s.length : Int) < 2 := by omega
   simp +contextual (maxSteps := 2000000) (disch := omega) [-Int.not_lt, -Int.not_le, -Nat.not_lt, -Nat.not_le, sx, bf0, h1', h2', h3', hsz, hl']
   refine endR _ _ (Wk.refl _ _) [] (by simp) ?_
   simp +contextual (maxSteps := 2000000) (disch := omega) [-Int.not_lt, -Int.not_le, -Nat.not_lt, -Nat.not_le, sx]
  ·have hl' : ¬ (s.length : Int) < 2 := by omega
   simp +contextual (maxSteps := 2000000) (disch := omega) [-Int.not_lt, -Int.not_le, -Nat.not_lt, -Nat.not_le, sx, bf0, h1', h2', h3', hsz, hl']
   refine endR _ _ (Wk.refl _ _) [] (by simp) ?_
   simp +contextual (maxSteps := 2000000) (disch := omega) [-Int.not_lt, -Int.not_le, -Nat.not_lt, -Nat.not_le, sx]
 | succ r ih =>
  intro d s hd hs
  have hd3 : d <= 3 := by omega
  have hd4 : (d : Int) <= 4 := by omega
  have hd4' : ¬ (4 : Int) <= d := by omega
  refine aq0 ky0 (by simp) ?_
  by_cases h1 : s = eB0
  ·subst h1
   simp +contextual (maxSteps := 2000000) (disch := omega) [-Int.not_lt, -Int.not_le, -Nat.not_lt, -Nat.not_le, sx, bf0, eB0, hd4]
   refine endR _ _ (Wk.refl _ _) [] (by simp) ?_
   simp +contextual (maxSteps := 2000000) (disch := omega) [-Int.not_lt, -Int.not_le, -Nat.not_lt, -Nat.not_le, sx, ix0 (s := [105, 110, 116]) (by decide), hd4]
  by_cases h2 : s = cN0
  ·subst h2
   simp +contextual (maxSteps := 2000000) (disch := omega) [-Int.not_lt, -Int.not_le, -Nat.not_lt, -Nat.not_le, sx, bf0, cN0, hd4]
   refine endR _ _ (Wk.refl _ _) [] (by simp) ?_
   simp +contextual (maxSteps := 2000000) (disch := omega) [-Int.not_lt, -Int.not_le, -Nat.not_lt, -Nat.not_le, sx, ix0 (s := [98, 111, 111, 108]) (by decide), hd4]
  by_cases h3 : s = cs0
  ·subst h3
   simp +contextual (maxSteps := 2000000) (disch := omega) [-Int.not_lt, -Int.not_le, -Nat.not_lt, -Nat.not_le, sx, bf0, cs0, hd4]
   refine endR _ _ (Wk.refl _ _) [] (by simp) ?_
   simp +contextual (maxSteps := 2000000) (disch := omega) [-Int.not_lt, -Int.not_le, -Nat.not_lt, -Nat.not_le, sx, ix0 (s := [116, 101, 120, 116]) (by decide), hd4]
  have hb : dp0 s = false := by simp [dp0, h1, h2, h3]
  have h1' : ¬ s = [105, 110, 116] := h1
  have h2' : ¬ s = [98, 111, 111, 108] := h2
  have h3' : ¬ s = [116, 101, 120, 116] := h3
  have hsz : (bS s).size = s.length := rfl
  generalize hw : tyB (r + 1) s = R
  by_cases hl : s.length < 2
  ·have hl' : (s.length : Int) < 2 := by omega
   rw [tyB, hb, if_neg (by simp), if_pos hl] at hw
   subst hw
   simp +contextual (maxSteps := 2000000) (disch := omega) [-Int.not_lt, -Int.not_le, -Nat.not_lt, -Nat.not_le, sx, bf0, h1', h2', h3', hsz, hl']
   refine endR _ _ (Wk.refl _ _) [] (by simp) ?_
   simp +contextual (maxSteps := 2000000) (disch := omega) [-Int.not_lt, -Int.not_le, -Nat.not_lt, -Nat.not_le, sx]
  have hl' : ¬ (s.length : Int) < 2 := by omega
  rcases List.eq_nil_or_concat s with rfl | ⟨l, c, rfl⟩
  ·exact absurd (by simp) hl
  rw [List.concat_eq_append] at *
  have hne : l ≠ [] := by rintro rfl; simp at hl
  rw [tyB_snoc hb hne] at hw
  have hsz' : (bS (l ++ [c])).size = l.length + 1 := by rw [hsz]; simp
  have hl2 : ¬ ((l.length : Int) + 1 < 2) := by simp at hl'; omega
  have hls : l.length + 1 < 2 ^ 40 := by simpa using hs
  have hx : (bS (l ++ [c])).extract 0 l.length = bS l := by rw [cu0]; simp
  have hgc : (l ++ [c])[l.length]? = some c := by simp
  clear hsz hs hl hl'
  simp +contextual (maxSteps := 2000000) (disch := omega) [-Int.not_lt, -Int.not_le, -Nat.not_lt, -Nat.not_le, sx, bf0, h1', h2', h3', hsz', hl2, hd4', hx]
  refine ai0 ?_; simp; refine ah0 (cA0 (bS l) (bS [91])) (by simp) ?_
  unfold cutP
  rw [show sB (bS l) = l from rfl, show sB (bS [91]) = [91] from rfl]
  cases hp1 : [91].isPrefixOf l with
  | true =>
   have hx1 : (bS l).extract (bS [91]).size (bS l).size = bS (l.drop 1) := by
    rw [cu0, List.take_of_length_le (by rw [List.length_drop]; exact Nat.le_refl _)]; rfl
   rw [hp1, if_pos rfl] at hw
   rw [hx1]
   by_cases hc : c = 93
   ·subst hc
    simp +contextual (maxSteps := 2000000) (disch := omega) [-Int.not_lt, -Int.not_le, -Nat.not_lt, -Nat.not_le, sx, hsz', hgc]
    refine ai0 ?_; simp; refine ah0 (ih (d + 1) l.tail (by omega) (by rw [List.length_tail]; omega)) (by simp) ?_
    rw [List.drop_one] at hw
    simp only [decide_true, Bool.true_and] at hw
    rw [hw]
    simp +contextual (maxSteps := 2000000) (disch := omega) [-Int.not_lt, -Int.not_le, -Nat.not_lt, -Nat.not_le, sx]
    refine endR _ _ (Wk.refl _ _) [] (by simp) ?_
    simp +contextual (maxSteps := 2000000) (disch := omega) [-Int.not_lt, -Int.not_le, -Nat.not_lt, -Nat.not_le, sx]
   ·have hc' : ¬ (c.toNat : Int) = 93 := fun h => hc (UInt8.toNat_inj.1 (by exact_mod_cast h))
    simp only [hc, decide_false, Bool.false_and] at hw
    subst hw
    simp +contextual (maxSteps := 2000000) (disch := omega) [-Int.not_lt, -Int.not_le, -Nat.not_lt, -Nat.not_le, sx, hsz', hgc, hc']
    refine endR _ _ (Wk.refl _ _) [] (by simp) ?_
    simp +contextual (maxSteps := 2000000) (disch := omega) [-Int.not_lt, -Int.not_le, -Nat.not_lt, -Nat.not_le, sx]
  | false =>
  rw [hp1, if_neg (by simp)] at hw
  simp +contextual (maxSteps := 2000000) (disch := omega) [-Int.not_lt, -Int.not_le, -Nat.not_lt, -Nat.not_le, sx]
  refine aH0 (fun y : Nat => 2 - y) (fun y => [(49, vI y), (48, vI 2), (47, .arr (.l 47 0) 0 2), (0, vS (bS (l ++ [c]))), (1, vI d)])
   (fun _ => [(.l 47 0, .row 9 1 true [[vS (bS bR0)], [vS (bS aQ0)]])])
   (fun y => y <= 2 /\ (0 < y -> bR0.isPrefixOf l = false) /\ (1 < y -> aQ0.isPrefixOf l = false)) 0 (by simp) (Wk.subs (by simp) (by simp [bR0, aQ0])) ?_
  rintro y ⟨hy, g1, g2⟩
  have : y = 0 \/ y = 1 \/ y = 2 := by omega
  rcases this with rfl | rfl | rfl
  ·simp +contextual (maxSteps := 2000000) (disch := omega) [-Int.not_lt, -Int.not_le, -Nat.not_lt, -Nat.not_le, sx]
   rw [bc0 (e := [vS (bS bR0)]) rfl]
   simp +contextual (maxSteps := 2000000) (disch := omega) [-Int.not_lt, -Int.not_le, -Nat.not_lt, -Nat.not_le, sx, hsz', hl2, hx]
   refine ai0 ?_; simp; refine ah0 (cA0 (bS l) (bS bR0)) (by simp) ?_
   unfold cutP
   rw [show sB (bS l) = l from rfl, show sB (bS bR0) = bR0 from rfl]
   cases hp2 : bR0.isPrefixOf l with
   | true =>
    have hx1 : (bS l).extract (bS bR0).size (bS l).size = bS (l.drop 5) := by
     rw [cu0, List.take_of_length_le (by rw [List.length_drop]; exact Nat.le_refl _)]; rfl
    rw [hp2, if_pos rfl] at hw
    rw [hx1]
    by_cases hc : c = 125
    ·subst hc
     simp +contextual (maxSteps := 2000000) (disch := omega) [-Int.not_lt, -Int.not_le, -Nat.not_lt, -Nat.not_le, sx, hsz', hgc]
     refine ai0 ?_; simp; refine ah0 (ih (d + 1) (l.drop 5) (by omega) (by simp; omega)) (by simp) ?_
     simp only [decide_true, Bool.true_and] at hw
     rw [hw]
     simp +contextual (maxSteps := 2000000) (disch := omega) [-Int.not_lt, -Int.not_le, -Nat.not_lt, -Nat.not_le, sx]
     refine endR _ _ (Wk.refl _ _) [] (by simp) ?_
     simp +contextual (maxSteps := 2000000) (disch := omega) [-Int.not_lt, -Int.not_le, -Nat.not_lt, -Nat.not_le, sx]
    ·have hc' : ¬ (c.toNat : Int) = 125 := fun h => hc (UInt8.toNat_inj.1 (by exact_mod_cast h))
     simp only [hc, decide_false, Bool.false_and] at hw
     subst hw
     simp +contextual (maxSteps := 2000000) (disch := omega) [-Int.not_lt, -Int.not_le, -Nat.not_lt, -Nat.not_le, sx, hsz', hgc, hc']
     refine endR _ _ (Wk.refl _ _) [] (by simp) ?_
     simp +contextual (maxSteps := 2000000) (disch := omega) [-Int.not_lt, -Int.not_le, -Nat.not_lt, -Nat.not_le, sx]
   | false =>
    simp +contextual (maxSteps := 2000000) (disch := omega) [-Int.not_lt, -Int.not_le, -Nat.not_lt, -Nat.not_le, sx]
    refine .of 1 ⟨by omega, fun q => absurd q (by omega)⟩ (by omega) (Wk.subs (by simp) (by simp))
  ·have g1 := g1 (by omega)
   rw [g1, if_neg (by simp)] at hw
   simp +contextual (maxSteps := 2000000) (disch := omega) [-Int.not_lt, -Int.not_le, -Nat.not_lt, -Nat.not_le, sx]
   rw [bc0 (e := [vS (bS aQ0)]) rfl]
   simp +contextual (maxSteps := 2000000) (disch := omega) [-Int.not_lt, -Int.not_le, -Nat.not_lt, -Nat.not_le, sx, hsz', hl2, hx]
   refine ai0 ?_; simp; refine ah0 (cA0 (bS l) (bS aQ0)) (by simp) ?_
   unfold cutP
   rw [show sB (bS l) = l from rfl, show sB (bS aQ0) = aQ0 from rfl]
   cases hp2 : aQ0.isPrefixOf l with
   | true =>
    have hx1 : (bS l).extract (bS aQ0).size (bS l).size = bS (l.drop 6) := by
     rw [cu0, List.take_of_length_le (by rw [List.length_drop]; exact Nat.le_refl _)]; rfl
    rw [hp2, if_pos rfl] at hw
    rw [hx1]
    by_cases hc : c = 125
    ·subst hc
     simp +contextual (maxSteps := 2000000) (disch := omega) [-Int.not_lt, -Int.not_le, -Nat.not_lt, -Nat.not_le, sx, hsz', hgc]
     refine ai0 ?_; simp; refine ah0 (ih (d + 1) (l.drop 6) (by omega) (by simp; omega)) (by simp) ?_
     simp only [decide_true, Bool.true_and] at hw
     rw [hw]
     simp +contextual (maxSteps := 2000000) (disch := omega) [-Int.not_lt, -Int.not_le, -Nat.not_lt, -Nat.not_le, sx]
     refine endR _ _ (Wk.refl _ _) [] (by simp) ?_
     simp +contextual (maxSteps := 2000000) (disch := omega) [-Int.not_lt, -Int.not_le, -Nat.not_lt, -Nat.not_le, sx]
    ·have hc' : ¬ (c.toNat : Int) = 125 := fun h => hc (UInt8.toNat_inj.1 (by exact_mod_cast h))
     simp only [hc, decide_false, Bool.false_and] at hw
     subst hw
     simp +contextual (maxSteps := 2000000) (disch := omega) [-Int.not_lt, -Int.not_le, -Nat.not_lt, -Nat.not_le, sx, hsz', hgc, hc']
     refine endR _ _ (Wk.refl _ _) [] (by simp) ?_
     simp +contextual (maxSteps := 2000000) (disch := omega) [-Int.not_lt, -Int.not_le, -Nat.not_lt, -Nat.not_le, sx]
   | false =>
    simp +contextual (maxSteps := 2000000) (disch := omega) [-Int.not_lt, -Int.not_le, -Nat.not_lt, -Nat.not_le, sx]
    refine .of 2 ⟨by omega, fun _ => g1⟩ (by omega) (Wk.subs (by simp) (by simp))
  ·have g1 := g1 (by omega)
   have g2 := g2 (by omega)
   rw [g1, g2] at hw
   simp only [Bool.false_eq_true, if_false] at hw
   subst hw
   simp +contextual (maxSteps := 2000000) (disch := omega) [-Int.not_lt, -Int.not_le, -Nat.not_lt, -Nat.not_le, sx]
   refine endR _ _ (Wk.refl _ _) [] (by simp) ?_
   simp +contextual (maxSteps := 2000000) (disch := omega) [-Int.not_lt, -Int.not_le, -Nat.not_lt, -Nat.not_le, sx]
theorem c70 (s : Bs) (hs : s.length < 2 ^ 40) : Ret prog gX0 [vS (bS s)] (vB (oz0 s)) := by
 have h := lV0 3 1 s rfl hs
 refine de0 nm0 (by simp) ?_
 simp +contextual (maxSteps := 2000000) (disch := omega) [-Int.not_lt, -Int.not_le, -Nat.not_lt, -Nat.not_le, sx, kn0]
 refine ai0 ?_; simp; refine ah0 (h) (by simp) ?_
 simp +contextual (maxSteps := 2000000) (disch := omega) [-Int.not_lt, -Int.not_le, -Nat.not_lt, -Nat.not_le, sx, oz0]
abbrev oK0 (a e : Int) : V := .ifc jn0 (.agg [vI a, vI e])
def LxS.after (x : LxS) : LxR (Int × Bs × Int × Nat) -> Res
 | .bad a e => .pan (oK0 a e) x.obs
 | .ok (k, t, n, j) => if 4096 <= x.out.length then .pan (oK0 x.at_ 36) x.obs else .ret (.tup []) ({ x with out := x.out ++ [⟨k, bS t, n, x.at_⟩], at_ := j } : LxS).obs'
theorem UInt8.sub48 {c : UInt8} (h : ak0.contains c = true) : 48 <= c.toNat /\ c.toNat <= 57 := by
 simp [ak0] at h
 rcases h with h | h | h | h | h | h | h | h | h | h <;> subst h <;> decide
def numR (s : Bs) (i : Nat) : LxR (Int × Bs × Int × Nat) :=
 if bb0 ak0 s i - i > 1 /\ s[i]? = some 48 then .bad i 30 else match numV ((s.drop i).take (bb0 ak0 s i - i)) 0 with
  | none => .bad i 3
  | some n => .ok (2, (s.drop i).take (bb0 ak0 s i - i), n, bb0 ak0 s i)
theorem runTo_all (set s : Bs) (i : Nat) : ∀ c ∈ (s.drop i).take (bb0 set s i - i), set.contains c = true := by
 unfold bb0
 rw [Nat.add_sub_cancel_left]
 intro c hc
 rw [<- List.prefix_iff_eq_take.1 (List.takeWhile_prefix _)] at hc
 generalize s.drop i = l at hc
 induction l with
 | nil => simp at hc
 | cons a l ih =>
  rw [List.takeWhile_cons] at hc
  split at hc
  ·rcases List.mem_cons.1 hc with rfl | hc
   ·assumption
   ·exact ih hc
  ·simp at hc
theorem lk0 (x : LxS) (i : Nat) (hx : x.at_ = i) (hi : i < x.s.size) (hs : x.s.size < 2 ^ 40) (ho : x.out.length <= 4096) :
  J prog fX0 [.bp (.e 0) 0] x.obs (· = x.after (numR (sB x.s) i)) := by
 obtain ⟨s, a, out⟩ := x
 dsimp only at hx hi hs ho ⊢
 subst hx
 have hz : s.size = (sB s).length := rfl
 have hge := is0 ak0 (sB s) i
 have hle : bb0 ak0 (sB s) i <= s.size := it0 (by omega)
 have hall := runTo_all ak0 (sB s) i
 have hget : (sB s)[i]? = some (sB s)[i] := List.getElem?_eq_getElem (by omega)
 refine aq0 je0 (by simp [LxS.obs]) ?_
 simp +contextual (maxSteps := 2000000) (disch := omega) [-Int.not_lt, -Int.not_le, -Nat.not_lt, -Nat.not_le, sx, fb0, LxS.obs, hpE]
 refine aa0 [.e 0, .e 1] rfl rfl (by simp) ?_
 simp
 have hpO := h20 ⟨s, i, out⟩ ⟨⟨[48, 49, 50, 51, 52, 53, 54, 55, 56, 57]⟩⟩ i rfl hs
 try simp [LxS.obs, LxS.obs', Tok.ac0] at hpO
 refine ab0 9 hpO (by simp) ?_
 clear hpO
 rw [show sB ⟨⟨[48, 49, 50, 51, 52, 53, 54, 55, 56, 57]⟩⟩ = ak0 from rfl]
 unfold numR
 generalize hp : bb0 ak0 (sB s) i = p at *
 have hlen : (sB (s.extract i p)).length = p - i := by rw [dn0]; simp; omega
 by_cases h0 : 1 < p - i /\ (sB s)[i] = 48
 ·obtain ⟨h1, h2⟩ := h0
  rw [if_pos ⟨h1, by rw [hget, h2]⟩]
  simp +contextual (maxSteps := 2000000) (disch := omega) [-Int.not_lt, -Int.not_le, -Nat.not_lt, -Nat.not_le, sx]
  refine ⟨(sB s)[i], by simp [sB], fun _ => ?_, fun h => absurd (by rw [h2]; rfl) h⟩
  refine aa0 [.e 0, .e 1] rfl rfl (by simp) ?_
  simp
  have hpO := aL0 ⟨s, i, out⟩ i 30
  try simp [LxS.obs, LxS.obs', Tok.ac0] at hpO
  refine af0 hpO ?_
  clear hpO
  simp +contextual (maxSteps := 2000000) (disch := omega) [-Int.not_lt, -Int.not_le, -Nat.not_lt, -Nat.not_le, sx]
  refine endP ?_
  simp +contextual (maxSteps := 2000000) (disch := omega) [-Int.not_lt, -Int.not_le, -Nat.not_lt, -Nat.not_le, sx, LxS.after, LxS.obs]
 rw [if_neg (fun h => h0 ⟨h.1, by rw [hget] at h; exact Option.some.inj h.2⟩)]
 have hll : ((sB s).drop i).take (p - i) = sB (s.extract i p) := (dn0 s i p).symm
 rw [hll] at hall ⊢
 have hsz : (s.extract i p).size = p - i := hlen
 generalize hT : s.extract i p = T at *
 simp +contextual (maxSteps := 2000000) (disch := omega) [-Int.not_lt, -Int.not_le, -Nat.not_lt, -Nat.not_le, sx]
 rw [hT]
 refine ⟨fun h1 => ⟨(sB s)[i], by simp [sB], fun h2 => ?_, fun h2 => ?_⟩, fun h1 => ?_⟩
 ·exact absurd ⟨by omega, UInt8.toNat_inj.1 (by exact_mod_cast h2)⟩ h0
 all_goals
  refine aH0 (fun y : Nat × Int => (sB T).length - y.1) (fun y => [(37, vI y.1), (36, vI (sB T).length), (35, .lst (a50 T)), (4, vI y.2), (3, vS T), (2, vI p), (0, .bp (.e 0) 0)])
   (fun _ => [(.e 0, .box [vS s, vI i, .arr (.e 1) 0 out.length]), (.e 1, .row bB0 4 true (out.map Tok.cells))])
   (fun y => y.1 <= (sB T).length /\ 0 <= y.2 /\ y.2 <= 9223372036854775807 /\ numV ((sB T).drop y.1) y.2 = numV (sB T) 0) (0, 0) ⟨by simp, by simp, by simp, rfl⟩ (Wk.subs (by simp [a50]) (by simp)) ?_
  rintro ⟨j, m⟩ ⟨hj, hm0, hm1, hv⟩
  dsimp only at hj hm0 hm1 hv
  simp +contextual (maxSteps := 2000000) (disch := omega) [-Int.not_lt, -Int.not_le, -Nat.not_lt, -Nat.not_le, sx, a50]
  refine ⟨fun hl => ?_, fun hl => ?_⟩
  ·have hl' : j < (sB T).length := hl
   have hc := hall _ (List.getElem_mem hl')
   obtain ⟨c0, c1⟩ := UInt8.sub48 hc
   have e : (List.map (fun b => [V.c (Value.int IntKind.u8 ↑b.toNat)]) T.data.toList)[j]? = some [vU (sB T)[j]] := by
    rw [List.getElem?_map, show T.data.toList = sB T from rfl, List.getElem?_eq_getElem hl']; rfl
   rw [bc0 e]
   rw [List.drop_eq_getElem_cons hl', numV] at hv
   generalize (sB T)[j] = c at *
   have w1 : IntKind.u8.wrap ((c.toNat : Int) - 48) = c.toNat - 48 := by
    simp [IntKind.wrap, IntKind.signed, IntKind.bits]; omega
   have w2 : IntKind.i64.wrap ((c.toNat : Int) - 48) = c.toNat - 48 := by
    simp [IntKind.wrap, IntKind.signed, IntKind.bits]; omega
   have w3 : IntKind.i64.wrap (9223372036854775807 - ((c.toNat : Int) - 48)) = 9223372036854775807 - ((c.toNat : Int) - 48) := by
    simp [IntKind.wrap, IntKind.signed, IntKind.bits]; omega
   have q1 : (9223372036854775807 - ((c.toNat : Int) - 48)).tdiv 10 = (9223372036854775807 - ((c.toNat : Int) - 48)) / 10 := Int.tdiv_eq_ediv_of_nonneg (by omega)
   rw [q1] at hv
   simp +contextual (maxSteps := 2000000) (disch := omega) [-Int.not_lt, -Int.not_le, -Nat.not_lt, -Nat.not_le, sx, w1, w2, w3, q1]
   refine ⟨fun hb => ?_, fun hb => ?_⟩
   ·rw [if_pos (by omega)] at hv
    rw [<- hv]
    refine aa0 [.e 0, .e 1] rfl rfl (by simp) ?_
    simp
    have hpO := aL0 ⟨s, i, out⟩ i 3
    try simp [LxS.obs, LxS.obs', Tok.ac0] at hpO
    refine af0 hpO ?_
    clear hpO
    simp +contextual (maxSteps := 2000000) (disch := omega) [-Int.not_lt, -Int.not_le, -Nat.not_lt, -Nat.not_le, sx]
    refine endP ?_
    simp +contextual (maxSteps := 2000000) (disch := omega) [-Int.not_lt, -Int.not_le, -Nat.not_lt, -Nat.not_le, sx, LxS.after, LxS.obs]
   ·rw [if_neg (by omega)] at hv
    refine .of (j + 1, m * 10 + ((c.toNat : Int) - 48)) ⟨by dsimp only; omega, by dsimp only; omega, by dsimp only; omega, hv⟩ (by dsimp only; omega) (Wk.subs (by simp [a50]) (by simp))
  ·rw [List.drop_of_length_le (by show T.size <= j; omega), numV] at hv
   rw [<- hv]
   by_cases hfull : 4096 <= out.length
   ·refine aa0 [.e 0, .e 1] rfl rfl (by simp) ?_
    simp
    have hpO := db0 ⟨s, i, out⟩ ⟨2, T, m, 0⟩ p hfull (by dsimp only; omega)
    try simp [LxS.obs, LxS.obs', Tok.ac0] at hpO
    refine af0 hpO ?_
    clear hpO
    simp +contextual (maxSteps := 2000000) (disch := omega) [-Int.not_lt, -Int.not_le, -Nat.not_lt, -Nat.not_le, sx]
    refine endP ?_
    simp +contextual (maxSteps := 2000000) (disch := omega) [-Int.not_lt, -Int.not_le, -Nat.not_lt, -Nat.not_le, sx, LxS.after, LxS.obs, hfull]
   ·refine aa0 [.e 0, .e 1] rfl rfl (by simp) ?_
    simp
    have hpO := eb0 ⟨s, i, out⟩ ⟨2, T, m, 0⟩ p (by dsimp only; omega)
    try simp [LxS.obs, LxS.obs', Tok.ac0] at hpO
    refine ab0 65 hpO (by simp) ?_
    clear hpO
    simp +contextual (maxSteps := 2000000) (disch := omega) [-Int.not_lt, -Int.not_le, -Nat.not_lt, -Nat.not_le, sx]
    refine endN _ _ (Wk.refl _ _) [.l 65 0] (by simp) ?_
    simp +contextual (maxSteps := 2000000) (disch := omega) [-Int.not_lt, -Int.not_le, -Nat.not_lt, -Nat.not_le, sx, LxS.after, LxS.obs', hfull, Tok.ac0]
end Go.Am
end

section
namespace Go.Proofs
open Go.Shelf
def Tryz.li0 : Go.Shelf.Ren := ⟨fun | 240 => 69 | 276 => 85 | n => n, fun | 70 => 64 | 72 => 67 | 37 => 65 | 164 => 125 | n => n, fun | n => n⟩
theorem Tryz.lays240 : Go.Proofs.Lays.n240 Tryz.prog Tryz.li0 := {
 mixed := by kernel_rfl
 f240 := Tryz.func69.trans (congrArg some (by kernel_rfl))
 f276 := Tryz.func85.trans (congrArg some (by kernel_rfl))
 t0 := Tryz.underlying0
 a0 := Tryz.isAgg0
 z0 := Tryz.sizeOf0
 v0 := Tryz.zeroValue0
 t4 := Tryz.underlying4
 a4 := Tryz.isAgg4
 z4 := Tryz.sizeOf4
 v4 := Tryz.zeroValue4
 t9 := Tryz.underlying9
 a9 := Tryz.isAgg9
 z9 := Tryz.sizeOf9
 v9 := Tryz.zeroValue9
 t20 := Tryz.underlying20
 a20 := Tryz.isAgg20
 z20 := Tryz.sizeOf20
 v20 := Tryz.zeroValue20
 t70 := Tryz.underlying64
 a70 := Tryz.isAgg64
 z70 := Tryz.sizeOf64
 v70 := Tryz.zeroValue64
 t72 := Tryz.underlying67
 a72 := Tryz.isAgg67
 z72 := Tryz.sizeOf67
 v72 := Tryz.zeroValue67
 t164 := Tryz.underlying125
 a164 := Tryz.isAgg125
 z164 := Tryz.sizeOf125
 v164 := Tryz.zeroValue125 }
theorem Tryz.bx72 : Builder.X72 Tryz.prog Tryz.li0 := ⟨by kernel_rfl, by kernel_rfl⟩
variable {P : Program} {ρ : Ren}
set_option maxHeartbeats 1000000 in
set_option maxRecDepth 100000 in
theorem k20 (L : Lays.n240 P ρ) (X : Builder.X72 P ρ) (b e cells : Nat) (w : World) (h0 : w.cell? ⟨b, 0, none⟩ = some (.pointer none)) (hsh : w.shape? b = some (e, cells)) (hc : 0 < cells)
  (hlies : liesAt P P.depth e (cells / P.cellsOf e) 0 (ρ.t 72) 1 = true) (hfz : w.frozen? ⟨b, 0, none⟩ = false) :
  Calls P (ρ.f 240) #[.pointer (some ⟨b, 0, none⟩)] w fun e w' => e = .returned (.tuple #[]) /\ w' = w.setCell ⟨b, 0, none⟩ (.pointer (some ⟨b, 0, none⟩)) := by
 obtain ⟨j, hj, hjs⟩ := Option.map_eq_some_iff.1 X.sizeBuilder
 have mixed := L.mixed
 have t72 := L.t72; have a72 := L.a72; have z72 := L.z72; have v72 := L.v72; have u72 := run_underlying L.t72
 have t70 := L.t70; have a70 := L.a70; have z70 := L.z70; have v70 := L.v70; have u70 := run_underlying L.t70
 have t9 := L.t9; have a9 := L.a9; have z9 := L.z9; have v9 := L.v9; have u9 := run_underlying L.t9
 have t4 := L.t4; have a4 := L.a4; have z4 := L.z4; have v4 := L.v4; have u4 := run_underlying L.t4
 have t164 := L.t164; have a164 := L.a164; have z164 := L.z164; have v164 := L.v164; have u164 := run_underlying L.t164
 go_enter L.f240, Body.n240_ntmps ρ
 go_wp2
 rw [Lib.run_to_unsafe w ⟨b, 0, none⟩ L.t70 L.t164 hj (by rw [hjs]; decide) hsh hc]
 simp only [Result.andThen]
 rw [Oper.upon_value]
 go_wp2
 rw [run_callFunc_extern L.f276 (by kernel_rfl) (by kernel_rfl) (by kernel_rfl) (e := Extern.AbiNoEscape.same) (by kernel_rfl)]
 rw [Lib.run_noEscape]
 simp only [Result.andThen]
 rw [Oper.upon_value]
 go_wp2
 rw [Lib.run_from_unsafe w ⟨b, 0, none⟩ L.t164 L.t70 hj hsh hlies]
 simp only [Result.andThen]
 rw [Oper.upon_value]
 go_wp2
 go_end0
 exact ⟨rfl, rfl⟩
end Go.Proofs
end

section
namespace Go.Am
set_option maxRecDepth 100000
theorem hpE_set {o : Ob} : ∀ {l : List Ob} {k : Nat}, 0 < k -> Hp.set (.e 0) o (hpE k l) = hpE k l
 | [], k, h => rfl
 | x :: l, k, h => by
  have := hpE_set (o := o) (l := l) (k := k + 1) (by omega)
  simp only [Hp.set] at this ⊢
  simp only [hpE, List.map_cons, this]
  rw [if_neg (by simp; omega)]
theorem hpE_set0 {o : Ob} {l : List Ob} : Hp.set (.e 0) o (hpE 0 (o :: l)) = hpE 0 (o :: l) := by
 have := hpE_set (o := o) (l := l) (k := 1) (by omega)
 simp only [Hp.set] at this ⊢
 simp only [hpE, List.map_cons, if_true, this]
theorem copyCheck_spec {T : Nat} {x : V} {more : List Ob} (hT : liesAt prog prog.depth T (2 / prog.cellsOf T) 0 67 1 = true) :
  J prog bA0 [.bp (.e 0) 0] (.box [.self (.e 0) T, x] :: more) (· = .ret (.tup []) (.box [.self (.e 0) T, x] :: more)) := by
 intro H μ vs w hv hW
 have r0 := hv.2 0 _ rfl
 have hvs : vs = #[vs.getD 0 undef] := by
  apply Array.ext
  ·have := hv.1; simpa using this
  ·intro i h1 h2
   have h3 : i = 0 := by simp at h2; omega
   have hs : vs.size = 1 := by have := hv.1; simpa using this
   subst h3; simp [Array.getD, hs]
 rw [hvs]
 generalize vs.getD 0 undef = p at r0
 cases r0 with
 | bp _ _ blk hb =>
 have hl0 : (hpE 0 (.box [.self (.e 0) T, x] :: more)).lookup (.e 0) = some (.box [.self (.e 0) T, x]) := rfl
 obtain ⟨blk', vals, ty, k1, k2, k3, ⟨k4, k6⟩, k5⟩ := hW.ob _ _ hl0
 rw [hb] at k1; injection k1 with k1; subst k1
 obtain ⟨c0, q1, q2⟩ := k5 0 _ rfl
 cases q2 with
 | self _ _ a blk2 h2 ht ha =>
 rw [hb] at h2; injection h2 with h2; subst h2
 have hty : ty = T := by rw [k6, ht]
 subst hty
 have hcell : w.cell? ⟨blk.b, 0, none⟩ = some (.pointer a) := by simpa [World.cell?, k2] using q1
 have hshape : w.shape? blk.b = some (ty, 2) := by simp [World.shape?, k2, k3]
 have hfroz : w.frozen? ⟨blk.b, 0, none⟩ = false := by simp [World.frozen?, k2]
 have hgo : (callFunc bA0 #[.pointer (some ⟨blk.b, 0, none⟩)]).run prog w = .ok (.enter bA0 #[.pointer (some ⟨blk.b, 0, none⟩)]) w := by
  have hf := Go.Proofs.Tryz.func69
  obtain ⟨c, hc⟩ : ∃ c, Go.Proofs.Tryz.f69.body = some c := ⟨_, rfl⟩
  have hn : (Go.Proofs.Tryz.f69.name == "runtime.NumGoroutine") = false := by kernel_rfl
  have hn' : ¬ Go.Proofs.Tryz.f69.name = "runtime.NumGoroutine" := by simpa using hn
  simp [callFunc, hf, hn', hc]
 unfold eH0
 rw [hgo]
 rcases ha with rfl | rfl
 ·refine Calls.mono (Go.Proofs.k20 Go.Proofs.Tryz.lays240 Go.Proofs.Tryz.bx72 blk.b ty 2 w hcell hshape (by omega) hT hfroz) ?_
  rintro e w' ⟨rfl, rfl⟩
  rw [setCell_eq_setRow w blk.b 0 vals ty (0, 0) _ k2]
  have hO : ObOk H μ (w.setRow blk.b (vals.setIfInBounds 0 (.pointer (some ⟨blk.b, 0, none⟩)))) (.e 0) (.box [.self (.e 0) ty, x]) := by
   refine ⟨blk, _, ty, hb, setRow_heap w blk.b vals _ ty _ k2, by simpa using k3, ⟨k4, k6⟩, fun j v hj => ?_⟩
   cases j with
   | zero =>
    simp at hj; subst hj
    refine ⟨.pointer (some ⟨blk.b, 0, none⟩), ?_, .self _ _ _ blk hb ht (.inr rfl)⟩
    have : 0 < vals.size := by rw [k3]; simp
    simp [this]
   | succ j =>
    obtain ⟨y, g1, g2⟩ := k5 (j + 1) v hj
    exact ⟨y, by simpa using g1, g2⟩
  obtain ⟨g1, g2⟩ := hW.write hl0 rfl hb k2 rfl hO
  rw [hpE_set0] at g1 g2
  exact ⟨_, H, μ, rfl, ⟨_, rfl, .tup [] #[] rfl (fun j v h => by simp at h)⟩, g2.toNj, g1, Nat.le_refl _, fun _ _ _ _ _ => rfl⟩
 ·refine Calls.mono (Go.Proofs.Any.Builder_copyCheck_used Go.Proofs.Tryz.lays240 Go.Proofs.Tryz.bx72 blk.b _ hcell) ?_
  rintro e w' ⟨rfl, rfl⟩
  exact ⟨_, H, μ, rfl, ⟨_, rfl, .tup [] #[] rfl (fun j v h => by simp at h)⟩, (Nx.refl H μ _ _).toNj, hW, Nat.le_refl _, fun _ _ _ _ _ => rfl⟩
end Go.Am
end

section
namespace Go.Am
set_option maxRecDepth 100000
attribute [local irreducible] vc vcIs vcI vcOp vcD vcDp vcDR vcT vcAR b30 aU0 panD neG ne pv J bV0 b00 b90 a90 evK evsK nthK objK boxK rowK bD0 intK strK aggK fnK ifcK at0 av0 ldK ldaK iaK srcK stK appK appD ce0 pvK bU0 aX0 bT0 bv0 slAV bH0
theorem dm0 : ofConst .nilIface = .c .nilIface := _root_.id rfl
def aR0 (b : UInt8) : List V := [vU b]
def ae0 (T : Nat) (bs : List UInt8) : List Ob := [.box [.self (.e 0) T, .arr (.e 1) 0 bs.length], .row 5 1 true (bs.map aR0)]
def ad0 (T : Nat) (bs : List UInt8) : List Ob := [.box [.self (.e 0) T, .arr (.e 2) 0 bs.length], .gone, .row 5 1 true (bs.map aR0)]
theorem hg0 (T : Nat) (bs : List UInt8) : J prog cK0 [.bp (.e 0) 0] (ae0 T bs) (· = .ret (vI bs.length) (ae0 T bs)) := by
 refine aq0 dW0 (by simp [ae0]) ?_
 simp +contextual (maxSteps := 2000000) (disch := omega) [-Int.not_lt, -Int.not_le, -Nat.not_lt, -Nat.not_le, sx, cz0, ae0, hpE]
 refine endR _ _ (Wk.refl _ _) [] (by simp) ?_
 simp +contextual (maxSteps := 2000000) (disch := omega) [-Int.not_lt, -Int.not_le, -Nat.not_lt, -Nat.not_le, sx]
theorem cy0 (T : Nat) (bs : List UInt8) (c : UInt8) (hT : liesAt prog prog.depth T (2 / prog.cellsOf T) 0 67 1 = true) (hl : bs.length < 2 ^ 40) :
  J prog bz0 [.bp (.e 0) 0, vU c] (ae0 T bs) (· = .ret (.c .nilIface) (ad0 T (bs ++ [c]))) := by
 refine aq0 cE0 (by simp [ae0]) ?_
 simp +contextual (maxSteps := 2000000) (disch := omega) [-Int.not_lt, -Int.not_le, -Nat.not_lt, -Nat.not_le, sx, bs0, ae0, hpE]
 refine aa0 [.e 0, .e 1] rfl rfl (by simp) ?_
 simp
 have hpO := copyCheck_spec (T := T) (x := .arr (.e 1) 0 bs.length) (more := [.row 5 1 true (bs.map aR0)]) hT
 try simp [ae0, ad0] at hpO
 refine ab0 6 hpO (by simp) ?_
 clear hpO
 simp +contextual (maxSteps := 2000000) (disch := omega) [-Int.not_lt, -Int.not_le, -Nat.not_lt, -Nat.not_le, sx, dm0]
 refine endR _ _ (Wk.refl _ _) [.l 14 0] (by simp) ?_
 simp +contextual (maxSteps := 2000000) (disch := omega) [-Int.not_lt, -Int.not_le, -Nat.not_lt, -Nat.not_le, sx, ad0, aR0, dm0]
def au0 (T : Nat) : List Ob := [.box [.self (.e 0) T, .nil]]
theorem kV0 (T : Nat) : J prog cK0 [.bp (.e 0) 0] (au0 T) (· = .ret (vI 0) (au0 T)) := by
 refine aq0 dW0 (by simp [au0]) ?_
 simp +contextual (maxSteps := 2000000) (disch := omega) [-Int.not_lt, -Int.not_le, -Nat.not_lt, -Nat.not_le, sx, cz0, au0, hpE]
 refine endR _ _ (Wk.refl _ _) [] (by simp) ?_
 simp +contextual (maxSteps := 2000000) (disch := omega) [-Int.not_lt, -Int.not_le, -Nat.not_lt, -Nat.not_le, sx]
theorem cH0 (T : Nat) (c : UInt8) (hT : liesAt prog prog.depth T (2 / prog.cellsOf T) 0 67 1 = true) :
  J prog bz0 [.bp (.e 0) 0, vU c] (au0 T) (· = .ret (.c .nilIface) (ae0 T [c])) := by
 refine aq0 cE0 (by simp [au0]) ?_
 simp +contextual (maxSteps := 2000000) (disch := omega) [-Int.not_lt, -Int.not_le, -Nat.not_lt, -Nat.not_le, sx, bs0, au0, hpE]
 refine aa0 [.e 0] rfl rfl (by simp) ?_
 simp
 have hpO := copyCheck_spec (T := T) (x := .nil) (more := []) hT
 try simp [ae0, ad0] at hpO
 refine ab0 6 hpO (by simp) ?_
 clear hpO
 simp +contextual (maxSteps := 2000000) (disch := omega) [-Int.not_lt, -Int.not_le, -Nat.not_lt, -Nat.not_le, sx, dm0]
 refine endR _ _ (Wk.refl _ _) [.l 14 0] (by simp) ?_
 simp +contextual (maxSteps := 2000000) (disch := omega) [-Int.not_lt, -Int.not_le, -Nat.not_lt, -Nat.not_le, sx, ae0, aR0, dm0]
end Go.Am
end

section
namespace Go.Proofs
open Go.Shelf
def Tryz.lh0 : Go.Shelf.Ren := ⟨fun | 169 => 29 | n => n, fun | 70 => 64 | 9 => 9 | 0 => 0 | 72 => 67 | 37 => 65 | 127 => 108 | 3 => 3 | 5 => 5 | n => n, fun | n => n⟩
theorem Tryz.lays169 : Go.Proofs.Lays.n169 Tryz.prog Tryz.lh0 := {
 mixed := by kernel_rfl
 f169 := Tryz.func29.trans (congrArg some (by kernel_rfl))
 t0 := Tryz.underlying0
 a0 := Tryz.isAgg0
 z0 := Tryz.sizeOf0
 v0 := Tryz.zeroValue0
 t3 := Tryz.underlying3
 a3 := Tryz.isAgg3
 z3 := Tryz.sizeOf3
 v3 := Tryz.zeroValue3
 t9 := Tryz.underlying9
 a9 := Tryz.isAgg9
 z9 := Tryz.sizeOf9
 v9 := Tryz.zeroValue9
 t37 := Tryz.underlying65
 a37 := Tryz.isAgg65
 z37 := Tryz.sizeOf65
 v37 := Tryz.zeroValue65
 t70 := Tryz.underlying64
 a70 := Tryz.isAgg64
 z70 := Tryz.sizeOf64
 v70 := Tryz.zeroValue64
 t72 := Tryz.underlying67
 a72 := Tryz.isAgg67
 z72 := Tryz.sizeOf67
 v72 := Tryz.zeroValue67
 t127 := Tryz.underlying108
 a127 := Tryz.isAgg108
 z127 := Tryz.sizeOf108
 v127 := Tryz.zeroValue108 }
theorem Tryz.bx169 : Builder.Extra Tryz.prog Tryz.lh0 := ⟨⟨by kernel_rfl, by kernel_rfl⟩, Tryz.underlying5, Tryz.isAgg5, Tryz.sizeOf5, Tryz.zeroValue5, by kernel_rfl, by kernel_rfl, by kernel_rfl, by decide⟩
variable {P : Program} {ρ : Ren}
set_option maxHeartbeats 1000000 in
set_option maxRecDepth 100000 in
theorem mr0 (L : Lays.n169 P ρ) (X : Builder.Extra P ρ) (T b g cap : Nat) (p : Value) (l : List UInt8) (cur : Array Value) (w : World) (h0 : l ≠ []) (hbk : w.heap[b]? = some (.cells #[p, .slice (some ⟨g, 0, none⟩) l.length cap] T (0, 0)))
  (hg : w.heap[g]? = some (.cells cur (ρ.t 5) (0, 0))) (hnc : l.length <= cap) (hcm : cap <= maxLen) (hcs : cur.size = cap) (hcell : ∀ (j : Nat) (x : UInt8), l[j]? = some x -> w.cell? ⟨g, j, none⟩ = some (.int .u8 x.toNat)) :
  Calls P (ρ.f 169) #[.pointer (some ⟨b, 0, none⟩)] w fun e w' => e = .returned (.string ⟨l.toArray⟩) /\ w' = w.drew.freeze ⟨g, 0, none⟩ l.length := by
 have hl0 : l.length ≠ 0 := by simpa using h0
 have c1 : w.drew.cell? ⟨b, 1, none⟩ = some (.slice (some ⟨g, 0, none⟩) l.length cap) := by
  have : w.drew.heap[b]? = some (.cells #[p, .slice (some ⟨g, 0, none⟩) l.length cap] T (0, 0)) := hbk
  rw [Lib.cell_of_heap this]; rfl
 have hSD : (Builtin.unsafeSliceData_ #[(ρ.t 37)] (ρ.t 127) #[.slice (some ⟨g, 0, none⟩) l.length cap]).run P w.drew = .ok (.pointer (some ⟨g, 0, none⟩)) w.drew :=
  Lib.run_unsafeSliceData_row _ _ _ _ _ _ (by omega)
 have hUS : (Builtin.unsafeString_ #[(ρ.t 127), (ρ.t 3)] (ρ.t 9) #[.pointer (some ⟨g, 0, none⟩), .int .i64 l.length]).run P w.drew = .ok (.string ⟨l.toArray⟩) (w.drew.freeze ⟨g, 0, none⟩ l.length) := by
  refine Lib.run_unsafeString_row w.drew (ρ.t 127) (ρ.t 3) (ρ.t 9) (ρ.t 5) L.t127 X.cellsByte g cur.size (by have hg' : w.drew.heap[g]? = some (.cells cur (ρ.t 5) (0, 0)) := hg; simp [World.shape?, hg']) l h0 (by omega) (by unfold maxLen at hcm; omega) ?_
  intro j x hx
  have h1 := hcell j x hx
  have h2 : Addr.add ⟨g, 0, none⟩ j = ⟨g, j, none⟩ := by simp [Addr.add]; omega
  rw [h2]; exact h1
 have mixed := L.mixed
 have t72 := L.t72; have a72 := L.a72; have z72 := L.z72; have v72 := L.v72; have u72 := run_underlying L.t72
 have t70 := L.t70; have a70 := L.a70; have z70 := L.z70; have v70 := L.v70; have u70 := run_underlying L.t70
 have t37 := L.t37; have a37 := L.a37; have z37 := L.z37; have v37 := L.v37; have u37 := run_underlying L.t37
 have t127 := L.t127; have a127 := L.a127; have z127 := L.z127; have v127 := L.v127; have u127 := run_underlying L.t127
 have t3 := L.t3; have a3 := L.a3; have z3 := L.z3; have v3 := L.v3; have u3 := run_underlying L.t3
 have t9 := L.t9; have a9 := L.a9; have z9 := L.z9; have v9 := L.v9; have u9 := run_underlying L.t9
 have t5 := X.t5; have a5 := X.a5; have z5 := X.z5; have v5 := X.v5; have u5 := run_underlying X.t5
 go_enter L.f169, Body.n169_ntmps ρ
 go_wp2
 go_region_o
 all_goals (go_wp2; go_ret; exact ⟨rfl, rfl⟩)
set_option maxHeartbeats 2000000 in
set_option maxRecDepth 100000 in
theorem j10 (L : Lays.n169 P ρ) (X : Builder.Extra P ρ) (T b : Nat) (p : Value) (w : World) (hbk : w.heap[b]? = some (.cells #[p, .slice none 0 0] T (0, 0))) :
  Calls P (ρ.f 169) #[.pointer (some ⟨b, 0, none⟩)] w fun e w' => e = .returned (.string ⟨#[]⟩) /\ w' = w.drew := by
 have hUS := Any.unsafeString_none L X
 have c1 : w.drew.cell? ⟨b, 1, none⟩ = some (.slice none 0 0) := by
  have : w.drew.heap[b]? = some (.cells #[p, .slice none 0 0] T (0, 0)) := hbk
  rw [Lib.cell_of_heap this]; rfl
 have hSD : (Builtin.unsafeSliceData_ #[(ρ.t 37)] (ρ.t 127) #[.slice none 0 0]).run P w.drew = .ok (.pointer none) w.drew := rfl
 have mixed := L.mixed
 have t72 := L.t72; have a72 := L.a72; have z72 := L.z72; have v72 := L.v72; have u72 := run_underlying L.t72
 have t70 := L.t70; have a70 := L.a70; have z70 := L.z70; have v70 := L.v70; have u70 := run_underlying L.t70
 have t37 := L.t37; have a37 := L.a37; have z37 := L.z37; have v37 := L.v37; have u37 := run_underlying L.t37
 have t127 := L.t127; have a127 := L.a127; have z127 := L.z127; have v127 := L.v127; have u127 := run_underlying L.t127
 have t3 := L.t3; have a3 := L.a3; have z3 := L.z3; have v3 := L.v3; have u3 := run_underlying L.t3
 have t9 := L.t9; have a9 := L.a9; have z9 := L.z9; have v9 := L.v9; have u9 := run_underlying L.t9
 have t5 := X.t5; have a5 := X.a5; have z5 := X.z5; have v5 := X.v5; have u5 := run_underlying X.t5
 go_enter L.f169, Body.n169_ntmps ρ
 go_wp2
 go_region_o
 all_goals (go_wp2; go_ret; exact ⟨rfl, rfl⟩)
end Go.Proofs
end

section
namespace Go.Am
set_option maxRecDepth 100000
theorem one_arg {H : Imm} {μ : Mu} {v : V} {vs : Array Value} (hv : RL H μ [v] vs) : vs = #[vs.getD 0 undef] := by
 apply Array.ext
 ·have := hv.1; simpa using this
 ·intro i h1 h2
  have h3 : i = 0 := by simp at h2; omega
  have hs : vs.size = 1 := by have := hv.1; simpa using this
  subst h3; simp [Array.getD, hs]
theorem String_goes (p : Value) (w : World) : (callFunc bi0 #[p]).run prog w = .ok (.enter bi0 #[p]) w := by
 have hf := Go.Proofs.Tryz.func29
 obtain ⟨c, hc⟩ : ∃ c, Go.Proofs.Tryz.f29.body = some c := ⟨_, rfl⟩
 have hn : (Go.Proofs.Tryz.f29.name == "runtime.NumGoroutine") = false := by kernel_rfl
 have hn' : ¬ Go.Proofs.Tryz.f29.name = "runtime.NumGoroutine" := by simpa using hn
 simp [callFunc, hf, hn', hc]
theorem vals2 {vals : Array Value} {c0 c1 : Value} (hs : vals.size = 2) (h0 : vals[0 + 0]? = some c0) (h1 : vals[0 + 1]? = some c1) : vals = #[c0, c1] := by
 apply Array.ext_getElem?
 intro i
 match i with
 | 0 => simpa using h0
 | 1 => simpa using h1
 | i + 2 => simp [hs]
theorem Builder_String_nil (T : Nat) : J prog bi0 [.bp (.e 0) 0] (au0 T) (· = .ret (vS (bS [])) (au0 T)) := by
 intro H μ vs w hv hW
 have r0 := hv.2 0 _ rfl
 rw [one_arg hv]
 generalize vs.getD 0 undef = p at r0
 cases r0 with
 | bp _ _ blk hb =>
 have hl0 : (hpE 0 (au0 T)).lookup (.e 0) = some (.box [.self (.e 0) T, .nil]) := rfl
 obtain ⟨blk', vals, ty, k1, k2, k3, k4, k5⟩ := hW.ob _ _ hl0
 rw [hb] at k1; injection k1 with k1; subst k1
 obtain ⟨c0, q1, q2⟩ := k5 0 _ rfl
 obtain ⟨c1, p1, p2⟩ := k5 1 _ rfl
 cases p2
 rw [vals2 k3 q1 p1] at k2
 unfold eH0
 rw [String_goes]
 refine Calls.mono (Go.Proofs.j10 Go.Proofs.Tryz.lays169 Go.Proofs.Tryz.bx169 ty blk.b c0 w k2) ?_
 rintro e w' ⟨rfl, rfl⟩
 exact ⟨_, H, μ, rfl, ⟨_, rfl, .c _⟩, (Nx.drew H μ _ w).toNj, hW.drew, Nat.le_refl _, fun _ _ _ _ _ => rfl⟩
def bldObsX (T : Nat) : List Ob := [.box [.self (.e 0) T, .any], .gone]
theorem Builder_String_spec (T : Nat) (bs : List UInt8) (h0 : bs ≠ []) : J prog bi0 [.bp (.e 0) 0] (ae0 T bs) (· = .ret (vS (bS bs)) (bldObsX T)) := by
 intro H μ vs w hv hW
 have r0 := hv.2 0 _ rfl
 rw [one_arg hv]
 generalize vs.getD 0 undef = p at r0
 cases r0 with
 | bp _ _ blk hb =>
 have hl0 : (hpE 0 (ae0 T bs)).lookup (.e 0) = some (.box [.self (.e 0) T, .arr (.e 1) 0 bs.length]) := rfl
 have hl1 : (hpE 0 (ae0 T bs)).lookup (.e 1) = some (.row 5 1 true (bs.map aR0)) := rfl
 obtain ⟨blk', vals, ty, k1, k2, k3, k4, k5⟩ := hW.ob _ _ hl0
 rw [hb] at k1; injection k1 with k1; subst k1
 obtain ⟨c0, q1, q2⟩ := k5 0 _ rfl
 obtain ⟨c1, p1, p2⟩ := k5 1 _ rfl
 have hl : bs.length ≠ 0 := by simpa using h0
 cases p2 with
 | arr _ _ _ a cap hc ha =>
 obtain ⟨bg, g1, g2, g3⟩ := ha.resolve_left (by omega)
 subst g2
 rw [vals2 k3 q1 p1] at k2
 rcases hW.ob _ _ hl1 with ⟨z, _⟩ | ⟨bg', cur, m1, ⟨m2, m3, m4⟩, m5, m6, m7, m8, m9, m10, m11⟩
 ·exact absurd (by simpa using z) h0
 rw [g1] at m1; injection m1 with m1; subst m1
 have hne : blk.b ≠ bg.b := fun e => by
  have := hW.inj _ _ _ _ blk bg hl0 rfl hl1 rfl hb g1 e
  cases this
 unfold eH0
 rw [String_goes]
 refine Calls.mono (Go.Proofs.mr0 Go.Proofs.Tryz.lays169 Go.Proofs.Tryz.bx169 ty blk.b bg.b cap c0 bs cur w h0 (by simpa using k2) m5 hc (by omega) (by rw [m6]; omega) (fun j x hx => ?_)) ?_
 ·obtain ⟨y, y1, y2⟩ := m11 j (aR0 x) (by rw [List.getElem?_map, hx]; rfl) 0 (vU x) rfl
  cases y2
  simpa [World.cell?, m5] using y1
 rintro e w' ⟨rfl, rfl⟩
 have hoth : ∀ b, b ≠ bg.b -> (w.drew.freeze ⟨bg.b, 0, none⟩ bs.length).heap[b]? = w.heap[b]? := by
  intro b h
  simp [World.freeze, World.drew, -World.drew_eq, h0, Array.getElem?_modify, Ne.symm h]
 have hlk : ∀ (i : Id) (o : Ob), (hpE 0 (bldObsX T)).lookup i = some o -> (i = .e 0 /\ o = .box [.self (.e 0) T, .any]) \/ o = .gone := by
  intro i o h
  simp only [hpE, bldObsX, List.lookup_cons] at h
  split at h
  ·rename_i hh; exact .inl ⟨by simpa using hh, by injection h with h; exact h.symm⟩
  ·split at h
   ·injection h with h; exact .inr h.symm
   ·cases h
 refine ⟨_, H, μ, rfl, ⟨_, rfl, .c _⟩, ⟨Imm.le_refl H, by simp [World.freeze, World.drew, -World.drew_eq, h0], by simp [World.freeze, World.drew, -World.drew_eq, h0], by simp [World.freeze, World.drew, -World.drew_eq, h0], ?_, fun b hb' hno => hoth b fun e => hno ⟨.e 1, _, bg, hl1, rfl, g1, e.symm⟩, fun b ho hb' => ?_, fr0⟩, ⟨fun i o h => ?_, fun i j oi oj bi bj hi hio hj hjo _ _ _ => ?_, fun b cs h => ?_, hW.glo⟩, Nat.le_refl _, fun _ _ _ _ _ => rfl⟩
 ·simp [World.freeze, World.drew, -World.drew_eq, h0]
 ·obtain ⟨i, o, bq, o1, o2, o3, o4⟩ := ho
  rcases hlk i o o1 with ⟨rfl, rfl⟩ | rfl
  ·exact ⟨.e 0, _, bq, hl0, rfl, o3, o4⟩
  ·cases o2
 ·rcases hlk i o h with ⟨rfl, rfl⟩ | rfl
  ·refine ⟨blk, _, ty, hb, by rw [hoth _ hne]; exact k2, rfl, k4, fun j v hj => ?_⟩
   match j with
   | 0 => simp at hj; subst hj; exact ⟨c0, rfl, q2⟩
   | 1 => simp at hj; subst hj; exact ⟨_, rfl, .any _⟩
   | j + 2 => simp at hj
  ·trivial
 ·rcases hlk i oi hi with ⟨rfl, rfl⟩ | rfl
  ·rcases hlk j oj hj with ⟨rfl, rfl⟩ | rfl
   ·rfl
   ·cases hjo
  ·cases hio
 ·obtain ⟨ty', fz, hh⟩ := hW.imm b cs h
  exact ⟨ty', fz, by rw [hoth b fun e => by subst e; rw [m9 rfl] at h; cases h]; exact hh⟩
end Go.Am
end

section
namespace Go.Am
set_option maxRecDepth 100000
attribute [local irreducible] vc vcIs vcI vcOp vcD vcDp vcDR vcT vcAR b30 aU0 panD neG ne pv J bV0 b00 b90 a90 evK evsK nthK objK boxK rowK bD0 intK strK aggK fnK ifcK at0 av0 ldK ldaK iaK srcK stK appK appD ce0 pvK bU0 aX0 bT0 bv0 slAV bH0
variable {ts : List Tok} {n : Nat}
theorem dN0 (hn : n < ts.length) (hl : ts.length < 2 ^ 40) : J prog ck0 [.bp (.e 0) 0, vI 1] (pObs ts n) (· = pAns ts Tok.V (ed0 ts n)) := by
 rw [<- pNext_1]; exact h70 hn hl 1
theorem lU0 (hn : n < ts.length) (hl : ts.length < 2 ^ 40) : J prog ck0 [.bp (.e 0) 0, vI 2] (pObs ts n) (· = pAns ts Tok.V (pInt ts n)) := by
 rw [<- pNext_2]; exact h70 hn hl 2
theorem h80 (hE : TEnd ts) (hl : ts.length < 2 ^ 40) (hn : n < ts.length) : J prog fo0 [.bp (.e 0) 0] (pObs ts n) (· = pAns ts Slo.V (kI0 ts n)) := by
 have hw : kI0 ts n = kI0 ts n := rfl
 conv at hw => rhs; rw [kI0]
 refine aq0 iF0 (by simp [pObs]) ?_
 simp +contextual (maxSteps := 2000000) (disch := omega) [-Int.not_lt, -Int.not_le, -Nat.not_lt, -Nat.not_le, sx, eN0, pObs, hpE]
 have hJ := dN0 hn hl
 rcases hR5 : ed0 ts n with ⟨t,n1⟩ | ⟨aa, ae⟩
 rotate_left
 ·rw [hR5] at hJ hw
  try simp only [LxR.bind] at hw
  simp only [pAns, ar0] at hJ
  refine aa0 [.e 0] rfl rfl (by simp) ?_
  simp
  have hpO := hJ
  try simp [pObs] at hpO
  refine af0 hpO ?_
  clear hpO
  simp +contextual (maxSteps := 2000000) (disch := omega) [-Int.not_lt, -Int.not_le, -Nat.not_lt, -Nat.not_le, sx]
  refine endP ?_
  simp +contextual (maxSteps := 2000000) (disch := omega) [-Int.not_lt, -Int.not_le, -Nat.not_lt, -Nat.not_le, sx, hw, pAns, ar0, pObs]
 rw [hR5] at hJ hw
 try simp only [LxR.bind] at hw
 simp only [pAns, ar0] at hJ
 refine aa0 [.e 0] rfl rfl (by simp) ?_
 simp
 have hpO := hJ
 try simp [pObs] at hpO
 refine ab0 5 hpO (by simp) ?_
 clear hpO
 have q1 := cG0 hE hn hR5
 simp +contextual (maxSteps := 2000000) (disch := omega) [-Int.not_lt, -Int.not_le, -Nat.not_lt, -Nat.not_le, sx]
 have hJ := am0 q1.2 hl [58]
 rcases hR7 : ba0 ts n1 [58] with n2 | ⟨aa, ae⟩
 rotate_left
 ·rw [hR7] at hJ hw
  try simp only [LxR.bind] at hw
  simp only [pAns, ar0] at hJ
  refine aa0 [.e 0] rfl rfl (by simp) ?_
  simp
  have hpO := hJ
  try simp [pObs] at hpO
  refine af0 hpO ?_
  clear hpO
  simp +contextual (maxSteps := 2000000) (disch := omega) [-Int.not_lt, -Int.not_le, -Nat.not_lt, -Nat.not_le, sx]
  refine endP ?_
  simp +contextual (maxSteps := 2000000) (disch := omega) [-Int.not_lt, -Int.not_le, -Nat.not_lt, -Nat.not_le, sx, hw, pAns, ar0, pObs]
 rw [hR7] at hJ hw
 try simp only [LxR.bind] at hw
 simp only [pAns, ar0] at hJ
 refine aa0 [.e 0] rfl rfl (by simp) ?_
 simp
 have hpO := hJ
 try simp [pObs] at hpO
 refine ab0 7 hpO (by simp) ?_
 clear hpO
 have q2 := aw0 hE q1.2 hR7
 simp +contextual (maxSteps := 2000000) (disch := omega) [-Int.not_lt, -Int.not_le, -Nat.not_lt, -Nat.not_le, sx]
 have hJ := cQ0 hE hl 4 1 n2 rfl q2.2
 rcases hR11 : h50 ts 4 n2 with ⟨k,n3⟩ | ⟨aa, ae⟩
 rotate_left
 ·rw [hR11] at hJ hw
  try simp only [LxR.bind] at hw
  simp only [pAns, ar0] at hJ
  refine aP0 [.e 0] [.e 0] rfl rfl (by simp) ?_
  simp
  have hpO := hJ
  try simp [pObs] at hpO
  refine cv0 hpO ?_
  clear hpO
  simp +contextual (maxSteps := 2000000) (disch := omega) [-Int.not_lt, -Int.not_le, -Nat.not_lt, -Nat.not_le, sx]
  refine endP ?_
  simp +contextual (maxSteps := 2000000) (disch := omega) [-Int.not_lt, -Int.not_le, -Nat.not_lt, -Nat.not_le, sx, hw, pAns, ar0, pObs]
 rw [hR11] at hJ hw
 try simp only [LxR.bind] at hw
 simp only [pAns, ar0] at hJ
 refine aP0 [.e 0] [.e 0] rfl rfl (by simp) ?_
 simp
 have hpO := hJ
 try simp [pObs] at hpO
 refine bG0 11 hpO (by simp) ?_
 clear hpO
 simp +contextual (maxSteps := 2000000) (disch := omega) [-Int.not_lt, -Int.not_le, -Nat.not_lt, -Nat.not_le, sx]
 refine endR _ _ (Wk.refl _ _) [] (by simp) ?_
 simp +contextual (maxSteps := 2000000) (disch := omega) [-Int.not_lt, -Int.not_le, -Nat.not_lt, -Nat.not_le, sx, hw, pAns, pObs, Slo.ac0]
def gd0 (L : List (List Bs)) : List V := L.map fun l => .lst (l.map fun m => [vS (bS m)])
theorem g80 (L : List (List Bs)) : jA0 (gd0 L) = true := by
 unfold gd0 jA0
 rw [List.all_eq_true]
 intro v hv
 obtain ⟨l, _, rfl⟩ := List.mem_map.1 hv
 rfl
@[simp] theorem lCells_len (L : List (List Bs)) : (gd0 L).length = L.length := by simp [gd0]
section
variable {L : List (List Bs)} {K : V -> Prop} {Ks : List V -> Prop} {hp : Hp}
@[simp] theorem lCells_has0 {i : Id} : V.hasL i (gd0 L) = false := eZ0 (g80 L) i
@[simp] theorem lCells_hasS0 {ss : List Nat} : V.e20 ss (gd0 L) = false := el0 (g80 L) ss
@[simp] theorem lCells_scalars0 : scalars (gd0 L) = true := bN0 (g80 L)
@[simp] theorem lCells_pure0 : V.bo0 (gd0 L) = true := dD0 (g80 L)
end
theorem l50 {L : List (List Bs)} {K : V -> Prop} {i : Nat} (h : i < L.length) : nthK (gd0 L) i K = K (.lst (L[i].map fun m => [vS (bS m)])) := by
 rw [h30]
 apply propext
 constructor
 ·rintro ⟨v, h1, h2⟩
  simp only [gd0, List.getElem?_map, List.getElem?_eq_getElem h, Option.map_some, Option.some.injEq] at h1
  subst h1; exact h2
 ·intro h2
  exact ⟨_, by simp only [gd0, List.getElem?_map, List.getElem?_eq_getElem h, Option.map_some], h2⟩
theorem cV0 : Ret prog iS0 [] (.agg (gd0 dc0)) := by
 refine de0 k90 (by simp) ?_
 simp +contextual (maxSteps := 2000000) (disch := omega) [-Int.not_lt, -Int.not_le, -Nat.not_lt, -Nat.not_le, sx, hK0, gd0, dc0]
theorem mZ0 (k : Nat) (hk : 0 < k) (hk2 : k < 2 ^ 40) : J prog cD0 [.nil, vI k] [] (· = .ret (.arr (.e 0) 0 0) [.row 9 1 true (List.replicate k [vS (bS [])])]) := by
 have hk' : (0 : Int) < k := by omega
 refine aq0 ez0 (by simp) ?_
 simp +contextual (maxSteps := 2000000) (disch := omega) [-Int.not_lt, -Int.not_le, -Nat.not_lt, -Nat.not_le, sx, cp0, hk']
 refine endR _ _ (Wk.refl _ _) [.l 22 0] (by simp) ?_
 simp +contextual (maxSteps := 2000000) (disch := omega) [-Int.not_lt, -Int.not_le, -Nat.not_lt, -Nat.not_le, sx]
abbrev dt0 (m : Bs) : List V := [vS (bS m)]
abbrev py0 (l : List Bs) : List V := [.lst (l.map dt0)]
def sumL (L : List (List Bs)) : Nat := (L.map List.length).sum
theorem nY0 {L : List (List Bs)} {i : Nat} (h : i < L.length) : sumL (L.take (i + 1)) = sumL (L.take i) + L[i].length := by
 unfold sumL
 rw [List.take_add_one, List.getElem?_eq_getElem h]
 simp only [List.map_append, List.sum_append, Option.toList_some, List.map_cons, List.map_nil, List.sum_cons, List.sum_nil, Nat.add_zero]
theorem sumL_flat (L : List (List Bs)) : L.flatten.length = sumL L := by
 unfold sumL; simp [List.length_flatten]
theorem m00 (L : List (List Bs)) (i : Nat) : sumL (L.take i) <= sumL L := by
 have h := List.take_append_drop i L
 unfold sumL
 conv => rhs; rw [<- h]
 simp only [List.map_append, List.sum_append]; omega
def jB0 (L : List (List Bs)) (i : Nat) : List (List V) := (L.take i).flatten.map dt0
@[simp] theorem flatT_zero (L : List (List Bs)) : jB0 L 0 = [] := by simp [jB0]
@[simp] theorem nk0 (L : List (List Bs)) (i : Nat) : (jB0 L i).length = sumL (L.take i) := by rw [jB0, List.length_map, sumL_flat]
theorem pn0 {L : List (List Bs)} {i : Nat} (h : i < L.length) : jB0 L (i + 1) = jB0 L i ++ L[i].map dt0 := by
 unfold jB0
 rw [List.take_add_one, List.getElem?_eq_getElem h]
 simp only [Option.toList_some, List.flatten_append, List.map_append, List.flatten_cons, List.flatten_nil, List.append_nil]
theorem flatT_all (L : List (List Bs)) : jB0 L L.length = L.flatten.map dt0 := by rw [jB0, List.take_length]
@[simp] theorem flatT_take (L : List (List Bs)) (i : Nat) : (jB0 L i).take (sumL (L.take i)) = jB0 L i := List.take_of_length_le (by rw [nk0]; exact Nat.le_refl _)
@[simp ↓] theorem mCell_head {l : List Bs} : (l.map dt0 = [] \/ ∃ e, (l.map dt0)[0]? = some e /\ e.length = 1) = True := head_map fun x => rfl
theorem kM0 (L : List (List Bs)) (h0 : 0 < sumL L) (h1 : sumL L < 2 ^ 20) (h2 : L.length < 2 ^ 20) : Ret prog ci0 [.lst (L.map py0)] (.lst (L.flatten.map dt0)) := by
 rw [<- flatT_all]
 refine aq0 d00 (by simp) ?_
 simp +contextual (maxSteps := 2000000) (disch := omega) [-Int.not_lt, -Int.not_le, -Nat.not_lt, -Nat.not_le, sx, b60]
 refine ca0 L.length (fun i => [(11, vI i), (10, vI L.length), (9, .lst (L.map py0)), (3, vI (sumL (L.take i))), (0, .lst (L.map py0))]) (fun i => []) (Wk.subs (by simp [sumL]) (by simp)) ?_
 intro i hi
 have hle := m00 L i
 by_cases hlt : i < L.length
 ·have hlt' : (i : Int) < L.length := by omega
  have hst := nY0 hlt
  have hle2 := m00 L (i + 1)
  have hnn : ¬ ((sumL (L.take i) : Int) + (L[i].length : Int) < 0) := by omega
  simp +contextual (maxSteps := 2000000) (disch := omega) [-Int.not_lt, -Int.not_le, -Nat.not_lt, -Nat.not_le, sx, hlt', hnn]
  refine .of hlt (Wk.subs (by simp [hst]) (by simp))
 ·have hge' : ¬ (i : Int) < L.length := by omega
  have hi : i = L.length := by omega
  subst hi
  rw [List.take_length] at *
  simp +contextual (maxSteps := 2000000) (disch := omega) [-Int.not_lt, -Int.not_le, -Nat.not_lt, -Nat.not_le, sx, hge']
  refine pg0 [] rfl rfl (by simp) ?_
  simp
  have hpO := mZ0 (sumL L) h0 (by omega)
  try simp [pObs] at hpO
  refine ab0 24 hpO (by simp) ?_
  clear hpO
  simp +contextual (maxSteps := 2000000) (disch := omega) [-Int.not_lt, -Int.not_le, -Nat.not_lt, -Nat.not_le, sx]
  refine ca0 L.length (fun i => [(27, vI i), (26, vI L.length), (25, .lst (L.map py0)), (6, .arr (.l 999 0) 0 (sumL (L.take i)))]) (fun i => [(.l 999 0, .row 9 1 true (jB0 L i))])
   (Wk.trans (Wk.pre (by simp [sumL]) ?_) (Wk.rens (.l 24 0) (.l 999 0) rfl (by simp) (E := [(27, vI 0), (26, vI L.length), (25, .lst (L.map py0)), (6, .arr (.l 999 0) 0 0)]) (h := [(.l 999 0, .row 9 1 true (List.replicate (sumL L) [vS (bS [])]))]) (by simp [renF]) (by simp [renF, bC0]))) ?_
  ·simp
   exact preO_row (t := List.replicate (sumL L) [vS (bS [])]) rfl
  intro i hi
  have hle := m00 L i
  by_cases hlt : i < L.length
  ·have hlt' : (i : Int) < L.length := by omega
   have hst := nY0 hlt
   have hle2 := m00 L (i + 1)
   simp +contextual (maxSteps := 2000000) (disch := omega) [-Int.not_lt, -Int.not_le, -Nat.not_lt, -Nat.not_le, sx, hlt']
   refine .of hlt (Wk.rens (.l 33 0) (.l 999 0) rfl (by simp) (by simp [renF, hst]) (by simp [renF, bC0, pn0 hlt]))
  ·have hge' : ¬ (i : Int) < L.length := by omega
   have hi : i = L.length := by omega
   subst hi
   have hfl : (jB0 L L.length).length = sumL L := by rw [nk0, List.take_length]
   rw [List.take_length] at *
   simp +contextual (maxSteps := 2000000) (disch := omega) [-Int.not_lt, -Int.not_le, -Nat.not_lt, -Nat.not_le, sx, hge', hfl]
   refine endR _ _ (Wk.refl _ _) [] (by simp) ?_
   generalize jB0 L L.length = X at *
   simp +contextual (maxSteps := 2000000) (disch := omega) [-Int.not_lt, -Int.not_le, -Nat.not_lt, -Nat.not_le, sx, <- hfl]
theorem iL0 : Ret prog gD0 [] (.lst (pOps.map dt0)) := by
 have hl5 : dc0.length = 5 := rfl
 have hc : chunk 5 1 (gd0 dc0) = dc0.map py0 := rfl
 refine de0 jC0 (by simp) ?_
 simp +contextual (maxSteps := 2000000) (disch := omega) [-Int.not_lt, -Int.not_le, -Nat.not_lt, -Nat.not_le, sx, fV0]
 refine ai0 ?_; simp; refine ah0 (cV0) (by simp) ?_
 simp +contextual (maxSteps := 2000000) (disch := omega) [-Int.not_lt, -Int.not_le, -Nat.not_lt, -Nat.not_le, sx, hl5, hc]
 refine ai0 ?_; simp; refine ah0 (kM0 dc0 (by decide) (by decide) (by decide)) (by simp) ?_
 simp +contextual (maxSteps := 2000000) (disch := omega) [-Int.not_lt, -Int.not_le, -Nat.not_lt, -Nat.not_le, sx, pOps]
theorem pf0 (s : Bs) : a50 (bS s) = s.map aR0 := rfl
theorem eu0 (T : Nat) (bs s : Bs) (hT : liesAt prog prog.depth T (2 / prog.cellsOf T) 0 67 1 = true) (hl : bs.length + s.length < 2 ^ 40) :
  J prog cr0 [.bp (.e 0) 0, vS (bS s)] (ae0 T bs) (· = .ret (.tup [vI s.length, .c .nilIface]) (ad0 T (bs ++ s))) := by
 have hsz : (bS s).size = s.length := rfl
 refine aq0 eq0 (by simp [ae0]) ?_
 simp +contextual (maxSteps := 2000000) (disch := omega) [-Int.not_lt, -Int.not_le, -Nat.not_lt, -Nat.not_le, sx, ch0, ae0, hpE]
 refine aa0 [.e 0, .e 1] rfl rfl (by simp) ?_
 simp
 have hpO := copyCheck_spec (T := T) (x := .arr (.e 1) 0 bs.length) (more := [.row 5 1 true (bs.map aR0)]) hT
 try simp [ae0, ad0] at hpO
 refine ab0 7 hpO (by simp) ?_
 clear hpO
 simp +contextual (maxSteps := 2000000) (disch := omega) [-Int.not_lt, -Int.not_le, -Nat.not_lt, -Nat.not_le, sx, dm0, pf0, hsz]
 refine endR _ _ (Wk.refl _ _) [.l 14 0] (by simp) ?_
 simp +contextual (maxSteps := 2000000) (disch := omega) [-Int.not_lt, -Int.not_le, -Nat.not_lt, -Nat.not_le, sx, ad0, dm0]
theorem hT69 : liesAt prog prog.depth 69 (2 / prog.cellsOf 69) 0 67 1 = true := by kernel_rfl
def aO0 (L : List Bs) (i : Nat) : Bs := (L.take i).flatten
theorem dZ0 {L : List Bs} {i : Nat} (h : i < L.length) : aO0 L (i + 1) = aO0 L i ++ L[i] := by
 unfold aO0
 rw [List.take_add_one, List.getElem?_eq_getElem h]
 simp only [Option.toList_some, List.flatten_append, List.flatten_cons, List.flatten_nil, List.append_nil]
theorem bM0 (L : List Bs) : aO0 L L.length = L.flatten := by rw [aO0, List.take_length]
theorem a30 (L : List Bs) : aO0 L 0 = [] := by simp [aO0]
theorem g00 (L : List Bs) (i : Nat) : (aO0 L i).length <= L.flatten.length := by
 have h : (L.take i ++ L.drop i).flatten.length = L.flatten.length := by rw [List.take_append_drop]
 rw [List.flatten_append, List.length_append] at h
 unfold aO0; omega
theorem ao0 (bs : Bs) (L : List Bs) (hl : bs.length + L.flatten.length < 2 ^ 40) (hL : L.length < 2 ^ 30) :
  J prog cC0 [.bp (.e 0) 0, .lst (L.map dt0)] (ae0 69 bs) (· = .ret (.tup []) (ad0 69 (bs ++ L.flatten))) := by
 rw [<- bM0] at *
 refine aq0 da0 (by simp [ae0]) ?_
 simp +contextual (maxSteps := 2000000) (disch := omega) [-Int.not_lt, -Int.not_le, -Nat.not_lt, -Nat.not_le, sx, cj0, ae0, hpE]
 refine ca0 L.length (fun i => [(8, vI i), (7, vI L.length), (6, .lst (L.map dt0)), (0, .bp (.e 0) 0)])
  (fun i => [(.e 0, .box [.self (.e 0) 69, .arr (.l 999 0) 0 (bs ++ aO0 L i).length]), (.l 999 0, .row 5 1 true ((bs ++ aO0 L i).map aR0))])
  (Wk.rens (.e 1) (.l 999 0) rfl (by simp) (by simp [renF, a30]) (by simp [renF, bC0, a30])) ?_
 intro i hi
 by_cases hlt : i < L.length
 ·have hlt' : (i : Int) < L.length := by omega
  have hle := g00 L (i + 1)
  rw [<- bM0] at hle
  have hsucc := dZ0 hlt
  have hlen : (aO0 L (i + 1)).length = (aO0 L i).length + L[i].length := by rw [hsucc, List.length_append]
  simp +contextual (maxSteps := 2000000) (disch := omega) [-Int.not_lt, -Int.not_le, -Nat.not_lt, -Nat.not_le, sx, hlt']
  refine aa0 [.e 0, .l 999 0] rfl rfl (by simp) ?_
  simp
  have hpO := eu0 69 (bs ++ aO0 L i) L[i] hT69 (by rw [List.length_append]; omega)
  try simp [ae0, ad0] at hpO
  refine ab0 16 hpO (by simp) ?_
  clear hpO
  simp +contextual (maxSteps := 2000000) (disch := omega) [-Int.not_lt, -Int.not_le, -Nat.not_lt, -Nat.not_le, sx]
  refine .of hlt (Wk.rens (.l 16 0) (.l 999 0) rfl (by simp) (by simp [renF, hsucc]) (by simp [renF, bC0, hsucc]))
 ·have hge' : ¬ (i : Int) < L.length := by omega
  have : i = L.length := by omega
  subst this
  simp +contextual (maxSteps := 2000000) (disch := omega) [-Int.not_lt, -Int.not_le, -Nat.not_lt, -Nat.not_le, sx, hge']
  refine endN _ _ (Wk.refl _ _) [.l 999 0] (by simp) ?_
  simp +contextual (maxSteps := 2000000) (disch := omega) [-Int.not_lt, -Int.not_le, -Nat.not_lt, -Nat.not_le, sx, ad0]
theorem put_JD (bs : Bs) (L : List Bs) (hl : bs.length + L.flatten.length < 2 ^ 40) (hL : L.length < 2 ^ 30) :
  JD prog false cC0 [.bp (.e 0) 0, .lst (L.map dt0)] (ae0 69 bs) none (· = .ret (.tup []) (ad0 69 (bs ++ L.flatten))) := by
 rw [<- bM0] at *
 refine JD_of da0 (by simp [ae0]) ?_
 simp +contextual (maxSteps := 2000000) (disch := omega) [-Int.not_lt, -Int.not_le, -Nat.not_lt, -Nat.not_le, sx, cj0, ae0, hpE]
 refine ca0 L.length (fun i => [(8, vI i), (7, vI L.length), (6, .lst (L.map dt0)), (0, .bp (.e 0) 0)])
  (fun i => [(.e 0, .box [.self (.e 0) 69, .arr (.l 999 0) 0 (bs ++ aO0 L i).length]), (.l 999 0, .row 5 1 true ((bs ++ aO0 L i).map aR0))])
  (Wk.rens (.e 1) (.l 999 0) rfl (by simp) (by simp [renF, a30]) (by simp [renF, bC0, a30])) ?_
 intro i hi
 by_cases hlt : i < L.length
 ·have hlt' : (i : Int) < L.length := by omega
  have hle := g00 L (i + 1)
  rw [<- bM0] at hle
  have hsucc := dZ0 hlt
  have hlen : (aO0 L (i + 1)).length = (aO0 L i).length + L[i].length := by rw [hsucc, List.length_append]
  simp +contextual (maxSteps := 2000000) (disch := omega) [-Int.not_lt, -Int.not_le, -Nat.not_lt, -Nat.not_le, sx, hlt']
  refine aa0 [.e 0, .l 999 0] rfl rfl (by simp) ?_
  simp
  have hpO := eu0 69 (bs ++ aO0 L i) L[i] hT69 (by rw [List.length_append]; omega)
  try simp [ae0, ad0] at hpO
  refine ab0 16 hpO (by simp) ?_
  clear hpO
  simp +contextual (maxSteps := 2000000) (disch := omega) [-Int.not_lt, -Int.not_le, -Nat.not_lt, -Nat.not_le, sx]
  refine .of hlt (Wk.rens (.l 16 0) (.l 999 0) rfl (by simp) (by simp [renF, hsucc]) (by simp [renF, bC0, hsucc]))
 ·have hge' : ¬ (i : Int) < L.length := by omega
  have : i = L.length := by omega
  subst this
  simp +contextual (maxSteps := 2000000) (disch := omega) [-Int.not_lt, -Int.not_le, -Nat.not_lt, -Nat.not_le, sx, hge']
  refine endN _ _ (Wk.refl _ _) [.l 999 0] (by simp) ?_
  simp +contextual (maxSteps := 2000000) (disch := omega) [-Int.not_lt, -Int.not_le, -Nat.not_lt, -Nat.not_le, sx, ad0]
theorem ie0 : Ret prog kv0 [] (.lst (pOps.map dt0)) := by
 refine de0 mB0 (by simp) ?_
 simp +contextual (maxSteps := 2000000) (disch := omega) [-Int.not_lt, -Int.not_le, -Nat.not_lt, -Nat.not_le, sx, ju0, pOps, dc0]
theorem id0 (op : Int) (h : opOk op = true) : Ret prog ku0 [vI op] (vI (lvl op)) := by
 unfold opOk at h
 simp only [decide_eq_true_eq] at h
 obtain ⟨h1, h2⟩ := h
 refine aq0 mA0 (by simp) ?_
 simp +contextual (maxSteps := 2000000) (disch := omega) [-Int.not_lt, -Int.not_le, -Nat.not_lt, -Nat.not_le, sx, jt0]
 refine aa0 [] rfl rfl (by simp) ?_
 simp
 have hpO := aj0
 try simp [ae0, ad0] at hpO
 refine ab0 9 hpO (by simp) ?_
 clear hpO
 by_cases a : op <= 2
 ·simp +contextual (maxSteps := 2000000) (disch := omega) [-Int.not_lt, -Int.not_le, -Nat.not_lt, -Nat.not_le, sx, a]
  refine endR _ _ (Wk.refl _ _) [] (by simp) ?_
  simp +contextual (maxSteps := 2000000) (disch := omega) [-Int.not_lt, -Int.not_le, -Nat.not_lt, -Nat.not_le, sx, lvl, a]
 by_cases b : op <= 8
 ·simp +contextual (maxSteps := 2000000) (disch := omega) [-Int.not_lt, -Int.not_le, -Nat.not_lt, -Nat.not_le, sx, a, b]
  refine endR _ _ (Wk.refl _ _) [] (by simp) ?_
  simp +contextual (maxSteps := 2000000) (disch := omega) [-Int.not_lt, -Int.not_le, -Nat.not_lt, -Nat.not_le, sx, lvl, a, b]
 by_cases c : op <= 10
 ·simp +contextual (maxSteps := 2000000) (disch := omega) [-Int.not_lt, -Int.not_le, -Nat.not_lt, -Nat.not_le, sx, a, b, c]
  refine endR _ _ (Wk.refl _ _) [] (by simp) ?_
  simp +contextual (maxSteps := 2000000) (disch := omega) [-Int.not_lt, -Int.not_le, -Nat.not_lt, -Nat.not_le, sx, lvl, a, b, c]
 ·simp +contextual (maxSteps := 2000000) (disch := omega) [-Int.not_lt, -Int.not_le, -Nat.not_lt, -Nat.not_le, sx, a, b, c]
  refine endR _ _ (Wk.refl _ _) [] (by simp) ?_
  simp +contextual (maxSteps := 2000000) (disch := omega) [-Int.not_lt, -Int.not_le, -Nat.not_lt, -Nat.not_le, sx, lvl, a, b, c]
theorem dO0 (x : Exq) (n : Int) (h : x.kind = 15 -> opOk x.op = true) : Ret prog kt0 [x.V, vI n] (vB (e90 x n)) := by
 refine aq0 mz0 (by simp) ?_
 by_cases hk : x.kind = 15
 ·simp +contextual (maxSteps := 2000000) (disch := omega) [-Int.not_lt, -Int.not_le, -Nat.not_lt, -Nat.not_le, sx, gS0, hk]
  refine ai0 ?_; simp; refine ah0 (id0 x.op (h hk)) (by simp) ?_
  simp +contextual (maxSteps := 2000000) (disch := omega) [-Int.not_lt, -Int.not_le, -Nat.not_lt, -Nat.not_le, sx]
  refine endR _ _ (Wk.refl _ _) [] (by simp) ?_
  simp +contextual (maxSteps := 2000000) (disch := omega) [-Int.not_lt, -Int.not_le, -Nat.not_lt, -Nat.not_le, sx, e90, hk]
 ·simp +contextual (maxSteps := 2000000) (disch := omega) [-Int.not_lt, -Int.not_le, -Nat.not_lt, -Nat.not_le, sx, gS0, hk]
  refine endR _ _ (Wk.refl _ _) [] (by simp) ?_
  simp +contextual (maxSteps := 2000000) (disch := omega) [-Int.not_lt, -Int.not_le, -Nat.not_lt, -Nat.not_le, sx, e90, hk]
attribute [local irreducible] vcF dfrS dEnd jv0 dJ JD
def cZ0 (x : Exq) (t : Bs) : Prop := ∀ bs : Bs, bs.length + t.length < 2 ^ 40 -> J prog fq0 [.bp (.e 0) 0, x.V] (ae0 69 bs) (· = .ret (.tup []) (ad0 69 (bs ++ t)))
theorem bS0 {x : Exq} {t : Bs} (h : cZ0 x t) (b : Bool) (bs : Bs) (hl : bs.length + (within t b).length < 2 ^ 40) :
  J prog ek0 [.bp (.e 0) 0, x.V, vB b] (ae0 69 bs) (· = .ret (.tup []) (ad0 69 (bs ++ within t b))) := by
 refine J_dfr false hF0 (by simp [ae0]) ?_
 simp +contextual (maxSteps := 2000000) (disch := omega) [-Int.not_lt, -Int.not_le, -Nat.not_lt, -Nat.not_le, sx, dV0, eG0, eF0, lD0, ij0, ae0, hpE]
 cases b with
 | false =>
  have hl' : bs.length + t.length < 2 ^ 40 := hl
  simp +contextual (maxSteps := 2000000) (disch := omega) [-Int.not_lt, -Int.not_le, -Nat.not_lt, -Nat.not_le, sx, eG0, eF0, lD0, ij0]
  refine aa0 [.e 0, .e 1] rfl rfl (by simp) ?_
  simp
  have hpO := h bs hl'
  try simp [ae0, ad0] at hpO
  refine ab0 14 hpO (by simp) ?_
  clear hpO
  simp +contextual (maxSteps := 2000000) (disch := omega) [-Int.not_lt, -Int.not_le, -Nat.not_lt, -Nat.not_le, sx, eG0, eF0, lD0, ij0]
  refine endN _ _ (Wk.refl _ _) [.l 14 0] (by simp) ?_
  simp +contextual (maxSteps := 2000000) (disch := omega) [-Int.not_lt, -Int.not_le, -Nat.not_lt, -Nat.not_le, sx, ad0, within]
 | true =>
  have hl' : bs.length + (t.length + 2) < 2 ^ 40 := by simp [within] at hl; omega
  simp +contextual (maxSteps := 2000000) (disch := omega) [-Int.not_lt, -Int.not_le, -Nat.not_lt, -Nat.not_le, sx, eG0, eF0, lD0, ij0]
  refine aa0 [.e 0, .e 1] rfl rfl (by simp) ?_
  simp
  have hpO := ao0 bs [[40]] (by simp; omega) (by simp)
  try simp [ae0, ad0] at hpO
  refine ab0 9 hpO (by simp) ?_
  clear hpO
  simp +contextual (maxSteps := 2000000) (disch := omega) [-Int.not_lt, -Int.not_le, -Nat.not_lt, -Nat.not_le, sx, eG0, eF0, lD0, ij0]
  refine mu0 rfl rfl (.ren (.l 11 0) 2 (by simp) (by simp) (E := [(0, .bp (.e 0) 0), (4, .bp (.l 4 0) 0)])
   (h := [(.e 2, .row 9 1 true [[vS (bS [41])]]), (.e 0, .box [.self (.e 0) 69, .arr (.l 9 0) 0 (bs.length + 1)]), (.l 9 0, .row 5 1 true (bs.map aR0 ++ [aR0 40])), (.l 4 0, .box x.cells)])
   (cs' := [.bp (.e 0) 0, .arr (.e 2) 0 1]) (by simp [renF]) (by simp [renF, bC0]) (by simp [renF])) rfl ?_
  simp +contextual (maxSteps := 2000000) (disch := omega) [-Int.not_lt, -Int.not_le, -Nat.not_lt, -Nat.not_le, sx]
  refine aa0 [.e 0, .l 9 0] rfl rfl (by simp) ?_
  simp
  have hpO := h (bs ++ [40]) (by simp; omega)
  try simp [ae0, ad0] at hpO
  refine ab0 14 hpO (by simp) ?_
  clear hpO
  simp +contextual (maxSteps := 2000000) (disch := omega) [-Int.not_lt, -Int.not_le, -Nat.not_lt, -Nat.not_le, sx]
  refine dEnd_nrm _ _ (Wk.refl _ _) (dz0 [.e 0, .l 14 0] (by simp) ?_)
  simp
  have hp := put_JD (bs ++ [40] ++ t) [[41]] (by simp; omega) (by simp)
  simp [ae0, ad0] at hp
  refine dJ_retB 900 hp ?_
  simp
  refine endR _ _ (Wk.refl _ _) [.l 900 0] (by simp) ?_
  simp +contextual (maxSteps := 2000000) (disch := omega) [-Int.not_lt, -Int.not_le, -Nat.not_lt, -Nat.not_le, sx, ad0, within]
end Go.Am
end

section
namespace Go.Am
variable {ts : List Tok}
structure GoesX (ts : List Tok) (f : Nat) : Prop where
 ex : ∀ {d n : Nat} {a : Exq} {m : Nat}, n < ts.length -> cf0 ts f d n = .ok (a, m) -> n < m /\ m < ts.length
 bin : ∀ {l d n : Nat} {a : Exq} {m : Nat}, n < ts.length -> pBin ts f l d n = .ok (a, m) -> n < m /\ m < ts.length
 loop : ∀ {l d : Nat} {out : Exq} {n : Nat} {a : Exq} {m : Nat}, n < ts.length -> nK0 ts f l d out n = .ok (a, m) -> n <= m /\ m < ts.length
 un : ∀ {d n : Nat} {a : Exq} {m : Nat}, n < ts.length -> pUn ts f d n = .ok (a, m) -> n < m /\ m < ts.length
 post : ∀ {d : Nat} {out : Exq} {n : Nat} {a : Exq} {m : Nat}, n < ts.length -> nL0 ts f d out n = .ok (a, m) -> n <= m /\ m < ts.length
 prim : ∀ {d n : Nat} {a : Exq} {m : Nat}, n < ts.length -> lp0 ts f d n = .ok (a, m) -> n < m /\ m < ts.length
 args : ∀ {d : Nat} {out : List Exq} {n : Nat} {a : List Exq} {m : Nat}, n < ts.length -> kH0 ts f d out n = .ok (a, m) -> n < m /\ m < ts.length
theorem ns0 {l : Nat} {t : Tok} (h : eA0 l t = true) : t.kind = 4 := by
 unfold eA0 at h
 simp only [Bool.and_eq_true, decide_eq_true_eq] at h
 exact h.1
theorem ld0 (hE : TEnd ts) : ∀ f, GoesX ts f
 | 0 => ⟨fun _ h => by simp [cf0] at h, fun _ h => by simp [pBin] at h, fun _ h => by simp [nK0] at h, fun _ h => by simp [pUn] at h, fun _ h => by simp [nL0] at h, fun _ h => by simp [lp0] at h, fun _ h => by simp [kH0] at h⟩
 | f + 1 => by
  have ih := ld0 hE f
  refine ⟨fun hn h => ?_, fun hn h => ?_, fun hn h => ?_, fun hn h => ?_, fun hn h => ?_, fun hn h => ?_, fun hn h => ?_⟩
  ·rw [cf0] at h
   obtain ⟨_, _, h⟩ := an0 h
   exact ih.bin hn h
  ·rw [pBin] at h
   split at h
   ·exact ih.un hn h
   ·obtain ⟨⟨b, n1⟩, e1, h⟩ := an0 h
    have q1 := ih.bin hn e1
    have q2 := ih.loop q1.2 h
    dsimp only at *; omega
  ·rw [nK0] at h
   split at h
   ·rename_i hi
    have h0 := hE _ hn (by rw [ns0 hi]; decide)
    obtain ⟨⟨b, n1⟩, e1, h⟩ := an0 h
    have q1 := ih.bin h0 e1
    dsimp only at *
    split at h
    ·split at h
     ·cases h
     ·injection h with h; injection h with h1 h2; subst h2; omega
    ·have q2 := ih.loop q1.2 h; omega
   ·injection h with h; injection h with h1 h2; subst h2; omega
  ·rw [pUn] at h
   split at h
   ·rename_i hi
    have h0 := aM0 hE hn hi (by decide)
    obtain ⟨_, _, h⟩ := an0 h
    obtain ⟨⟨b, n1⟩, e1, h⟩ := an0 h
    have q1 := ih.un h0 e1
    injection h with h; injection h with h1 h2; subst h2
    dsimp only at *; omega
   split at h
   ·rename_i hi
    have h0 := aM0 hE hn hi (by decide)
    obtain ⟨_, _, h⟩ := an0 h
    obtain ⟨⟨b, n1⟩, e1, h⟩ := an0 h
    have q1 := ih.un h0 e1
    injection h with h; injection h with h1 h2; subst h2
    dsimp only at *; omega
   ·obtain ⟨⟨b, n1⟩, e1, h⟩ := an0 h
    have q1 := ih.prim hn e1
    have q2 := ih.post q1.2 h
    dsimp only at *; omega
  ·rw [nL0] at h
   split at h
   ·rename_i hi
    have h0 := aM0 hE hn hi (by decide)
    obtain ⟨⟨b, n1⟩, e1, h⟩ := an0 h
    obtain ⟨n2, e2, h⟩ := an0 h
    have q1 := ih.ex h0 e1
    have q2 := aw0 hE q1.2 e2
    have q3 := ih.post q2.2 h
    dsimp only at *; omega
   ·injection h with h; injection h with h1 h2; subst h2; omega
  ·rw [lp0] at h
   split at h
   ·rename_i hi; have := hE _ hn (by rw [hi]; decide); injection h with h; injection h with h1 h2; subst h2; omega
   split at h
   ·rename_i hi; have := hE _ hn (by rw [hi]; decide); injection h with h; injection h with h1 h2; subst h2; omega
   split at h
   ·rename_i hi; have := aM0 hE hn hi (by decide); injection h with h; injection h with h1 h2; subst h2; omega
   split at h
   ·rename_i hi; have := aM0 hE hn hi (by decide); injection h with h; injection h with h1 h2; subst h2; omega
   split at h
   ·rename_i hi
    have h0 := aM0 hE hn hi (by decide)
    obtain ⟨⟨b, n1⟩, e1, h⟩ := an0 h
    obtain ⟨n2, e2, h⟩ := an0 h
    have q1 := ih.ex h0 e1
    have q2 := aw0 hE q1.2 e2
    injection h with h; injection h with h1 h2; subst h2
    dsimp only at *; omega
   ·obtain ⟨⟨b, n1⟩, e1, h⟩ := an0 h
    have q1 := cG0 hE hn e1
    have e1' := e1
    unfold ed0 at e1'
    split at e1'
    ·rename_i hk
     injection e1' with e1'; injection e1' with e2 e3; subst e3
     split at h
     ·rename_i hi
      have h0 := aM0 hE q1.2 hi (by decide)
      split at h
      ·rename_i hi2
       have h00 := aM0 hE h0 hi2 (by decide)
       injection h with h; injection h with h1 h2; subst h2; omega
      ·obtain ⟨⟨b, n2⟩, e4, h⟩ := an0 h
       have q2 := ih.args h0 e4
       injection h with h; injection h with h1 h2; subst h2
       dsimp only at *; omega
     ·injection h with h; injection h with h1 h2; subst h2; omega
    ·cases e1'
  ·rw [kH0] at h
   obtain ⟨⟨b, n1⟩, e1, h⟩ := an0 h
   have q1 := ih.ex hn e1
   dsimp only at *
   split at h
   ·rename_i hi
    have h0 := aM0 hE q1.2 hi (by decide)
    injection h with h; injection h with h1 h2; subst h2; omega
   ·obtain ⟨n2, e2, h⟩ := an0 h
    have q2 := aw0 hE q1.2 e2
    have q3 := ih.args q2.2 h
    omega
end Go.Am
end

section
namespace Go.Am
set_option maxRecDepth 100000
attribute [local irreducible] vc vcIs vcI vcOp vcD vcDp vcDR vcT vcAR b30 aU0 panD neG ne pv J bV0 b00 b90 a90 evK evsK nthK objK boxK rowK bD0 intK strK aggK fnK ifcK at0 av0 ldK ldaK iaK srcK stK appK appD ce0 pvK bU0 aX0 bT0 bv0 slAV bH0
variable {ts : List Tok} {n : Nat}
def al0 (text : ByteArray) (args : V) (at_ : Int) : Ob := .box [vI 7, vI 0, vI 0, vS text, vI 0, vS (bS []), args, vI at_]
def gw0 (ts : List Tok) (n : Int) (text : ByteArray) (at_ : Int) (d : Nat) (out : List Exq) : List Ob :=
 [al0 text (.arr (.e 4) 0 out.length) at_, .box [.bp (.e 3) 0], .box [vI d], .box [.lst (ts.map Tok.cells), vI n], .row do0 8 true (out.map Exq.cells)]
def e80 (ts : List Tok) (n : Int) (text : ByteArray) (at_ : Int) (d : Nat) (out : List Exq) : List Ob :=
 [al0 text (.arr (.e 5) 0 out.length) at_, .box [.bp (.e 3) 0], .box [vI d], .box [.lst (ts.map Tok.cells), vI n], .gone, .row do0 8 true (out.map Exq.cells)]
@[simp] theorem elemK_last {α : Type} {g : α -> List V} {l : List α} {e : List V} {K : List V -> Prop} : gW0 (l.map g ++ [e]) l.length K = K e :=
 bc0 (by rw [List.getElem?_append_right (by simp)]; simp)
@[simp] theorem set_last {α : Type} {g : α -> List V} {l : List α} {e e' : List V} : (l.map g ++ [e]).set l.length e' = l.map g ++ [e'] := by
 rw [List.set_append_right _ _ (by simp)]; simp
theorem jk0 {e us : List V} (h : us.length = e.length) : setAt e 0 us = us := by
 unfold setAt
 rw [List.take_zero, Nat.zero_add, h, List.drop_length]; simp
theorem oq0 (f d : Nat) (hd : d <= 24) (text : ByteArray) (at_ : Int) (out : List Exq) (hl : ts.length < 2 ^ 40) (ho : out.length < 2 ^ 40)
  (hx : J prog aV0 [.bp (.e 0) 0, vI (d + 1 : Nat)] (pObs ts n) (· = pAns ts Exq.V (cf0 ts f (d + 1) n))) :
  J prog aY0 [.bp (.e 0) 0, .bp (.e 1) 0, .bp (.e 2) 0] (gw0 ts n text at_ d out) (fun r => r = match cf0 ts f (d + 1) n with
   | .ok (x, m) => .ret (.tup []) (e80 ts m text at_ d (out ++ [x]))
   | .bad a e => .pan (h40 ts a e) (gw0 ts a text at_ d out)) := by
 have hw : cf0 ts f (d + 1) n = cf0 ts f (d + 1) n := rfl
 refine aq0 gm0 (by simp [gw0]) ?_
 simp +contextual (maxSteps := 2000000) (disch := omega) [-Int.not_lt, -Int.not_le, -Nat.not_lt, -Nat.not_le, sx, c20, gw0, al0, hpE]
 have hJ := hx
 rcases hR8 : cf0 ts f (d + 1) n with ⟨x,m⟩ | ⟨aa, ae⟩
 rotate_left
 ·rw [hR8] at hJ hw
  try simp only [LxR.bind] at hw
  simp only [pAns, ar0] at hJ
  refine aP0 [.e 3] [.e 3] rfl rfl (by simp) ?_
  simp
  have hpO := hJ
  try simp [pObs, al0, gw0, e80] at hpO
  refine cv0 hpO ?_
  clear hpO
  simp +contextual (maxSteps := 2000000) (disch := omega) [-Int.not_lt, -Int.not_le, -Nat.not_lt, -Nat.not_le, sx]
  refine endP ?_
  simp +contextual (maxSteps := 2000000) (disch := omega) [-Int.not_lt, -Int.not_le, -Nat.not_lt, -Nat.not_le, sx, hw, pAns, ar0, pObs]
 rw [hR8] at hJ hw
 try simp only [LxR.bind] at hw
 simp only [pAns, ar0] at hJ
 refine aP0 [.e 3] [.e 3] rfl rfl (by simp) ?_
 simp
 have hpO := hJ
 try simp [pObs, al0, gw0, e80] at hpO
 refine bG0 8 hpO (by simp) ?_
 clear hpO
 simp +contextual (maxSteps := 2000000) (disch := omega) [-Int.not_lt, -Int.not_le, -Nat.not_lt, -Nat.not_le, sx, jk0]
 refine endN _ _ (Wk.refl _ _) [.l 11 0] (by simp) ?_
 simp +contextual (maxSteps := 2000000) (disch := omega) [-Int.not_lt, -Int.not_le, -Nat.not_lt, -Nat.not_le, sx, e80, al0]
end Go.Am
end

section
namespace Go.Am
set_option maxRecDepth 100000
theorem cw0 {P : Program} {env : Env} {hp : Hp} {α : Type} {g : Nat} {args : List V} {obs : List Ob} {obs' : α -> List Ob} {ids : List Id} {d : Option Nat} {K : Env -> Hp -> Prop} {Kp : V -> Hp -> Prop} {v : V} (h : J P g args obs (fun r => ∃ y, r = .pan v (obs' y)))
  (hK : ∀ y, fP0 env hp ids 0 v (obs' y) fun v' _ hp' => Kp v' hp') : bU0 P g args obs env hp ids d K Kp := J.mono h fun r e => by obtain ⟨y, e⟩ := e; subst e; exact hK y
attribute [local irreducible] vc vcIs vcI vcOp vcD vcDp vcDR vcT vcAR b30 aU0 panD neG ne pv J bV0 b00 b90 a90 evK evsK nthK objK boxK rowK bD0 intK strK aggK fnK ifcK at0 av0 ldK ldaK iaK srcK stK appK appD ce0 pvK bU0 aX0 bT0 bv0 slAV bH0
variable {ts : List Tok} {n : Nat}
def ap0 (ts : List Tok) (n : Int) (text : ByteArray) (args : V) (at_ : Int) (d : Nat) : List Ob :=
 [.box [.lst (ts.map Tok.cells), vI n], al0 text args at_, .box [.bp (.e 0) 0], .box [vI d]]
theorem lL0 (hl : ts.length < 2 ^ 40) (hn : n < ts.length) (h : isT ts n 4 [41] = true) (text : ByteArray) (at_ : Int) (d : Nat) :
  J prog by0 [.bp (.e 0) 0, vS (bS [41]), .fn aY0 [.bp (.e 1) 0, .bp (.e 2) 0, .bp (.e 3) 0]] (ap0 ts n text .nil at_ d) (· = .ret (.tup []) (ap0 ts (n + 1 : Nat) text .nil at_ d)) := by
 refine aq0 b50 (by simp [ap0]) ?_
 simp +contextual (maxSteps := 2000000) (disch := omega) [-Int.not_lt, -Int.not_le, -Nat.not_lt, -Nat.not_le, sx, bp0, ap0, al0, hpE]
 refine aa0 [.e 0] rfl rfl (by simp) ?_
 simp
 have hpO := ag0 hn hl 4 [41]
 try simp [pObs, al0, gw0, e80, ap0] at hpO
 refine ab0 8 hpO (by simp) ?_
 clear hpO
 simp +contextual (maxSteps := 2000000) (disch := omega) [-Int.not_lt, -Int.not_le, -Nat.not_lt, -Nat.not_le, sx, h]
 refine endR _ _ (Wk.refl _ _) [] (by simp) ?_
 simp +contextual (maxSteps := 2000000) (disch := omega) [-Int.not_lt, -Int.not_le, -Nat.not_lt, -Nat.not_le, sx]
theorem lM0 (hE : TEnd ts) (hl : ts.length < 2 ^ 40) (hn : n < ts.length) (h : isT ts n 4 [41] = false) (text : ByteArray) (at_ : Int) (d : Nat) (hd : d <= 24) (F : Nat)
  (IH : ∀ g, g < F -> ∀ n, n < ts.length -> (cf0 ts g (d + 1) n).live -> J prog aV0 [.bp (.e 0) 0, vI (d + 1 : Nat)] (pObs ts n) (· = pAns ts Exq.V (cf0 ts g (d + 1) n)))
  (hlive : (kH0 ts F (d + 1) [] n).live) :
  J prog by0 [.bp (.e 0) 0, vS (bS [41]), .fn aY0 [.bp (.e 1) 0, .bp (.e 2) 0, .bp (.e 3) 0]] (ap0 ts n text .nil at_ d) (fun r => match kH0 ts F (d + 1) [] n with
   | .ok (xs, m) => r = .ret (.tup []) (ap0 ts m text (.arr (.e 4) 0 xs.length) at_ d ++ [.row do0 8 true (xs.map Exq.cells)])
   | .bad a e => ∃ y : List (List V), r = .pan (h40 ts a e) (ap0 ts a text (.lst y) at_ d)) := by
 generalize hR : kH0 ts F (d + 1) [] n = R at *
 refine aq0 b50 (by simp [ap0]) ?_
 simp +contextual (maxSteps := 2000000) (disch := omega) [-Int.not_lt, -Int.not_le, -Nat.not_lt, -Nat.not_le, sx, bp0, ap0, al0, hpE]
 refine aa0 [.e 0] rfl rfl (by simp) ?_
 simp
 have hpO := ag0 hn hl 4 [41]
 try simp [pObs, al0, gw0, e80, ap0] at hpO
 refine ab0 8 hpO (by simp) ?_
 clear hpO
 simp +contextual (maxSteps := 2000000) (disch := omega) [-Int.not_lt, -Int.not_le, -Nat.not_lt, -Nat.not_le, sx, h]
 refine aH0 (fun y : Nat × Nat × List Exq => y.1) (fun y => [(0, .bp (.e 0) 0), (1, vS (bS [41])), (2, .fn aY0 [.bp (.e 1) 0, .bp (.e 2) 0, .bp (.e 3) 0])])
  (fun y => [(.e 0, .box [.lst (ts.map Tok.cells), vI y.2.1]), (.e 1, al0 text (.arr (.l 999 0) 0 y.2.2.length) at_), (.e 2, .box [.bp (.e 0) 0]), (.e 3, .box [vI d]), (.l 999 0, .row do0 8 true (y.2.2.map Exq.cells))])
  (fun y => y.1 <= F /\ y.2.1 < ts.length /\ y.2.2.length <= y.2.1 /\ kH0 ts y.1 (d + 1) y.2.2 y.2.1 = R) (F, n, []) ⟨Nat.le_refl _, hn, by simp, hR⟩
  (Wk.trans (Wk.subs (by simp) (by simp [al0])) (Wk.rowB (b := .e 1) (id := .l 999 0) (off := 6) (ty := do0) (sz := 8) rfl rfl (by simp) (by simp))) ?_
 rintro ⟨g, n', out⟩ ⟨hg, hn', ho, hw⟩
 dsimp only at hg hn' ho hw
 obtain _ | g := g
 ·rw [kH0] at hw; subst hw; exact absurd rfl hlive
 rw [kH0] at hw
 have hlv := hlive
 rw [<- hw] at hlv
 obtain ⟨hlx, hcont⟩ := LxR.aC0 hlv
 have hJ := oq0 g d hd text at_ out hl (by omega) (IH g (by omega) n' hn' hlx)
 rcases hx : cf0 ts g (d + 1) n' with ⟨x, m⟩ | ⟨a, e⟩
 ·rw [hx] at hJ hw
  simp only [LxR.bind] at hw
  have q1 := (ld0 hE g).ex hn' hx
  simp +contextual (maxSteps := 2000000) (disch := omega) [-Int.not_lt, -Int.not_le, -Nat.not_lt, -Nat.not_le, sx, al0]
  refine aa0 [.e 1, .e 2, .e 3, .e 0, .l 999 0] rfl rfl (by simp) ?_
  simp
  have hpO := hJ
  try simp [pObs, al0, gw0, e80, ap0] at hpO
  refine ab0 10 hpO (by simp) ?_
  clear hpO
  simp +contextual (maxSteps := 2000000) (disch := omega) [-Int.not_lt, -Int.not_le, -Nat.not_lt, -Nat.not_le, sx]
  refine aa0 [.e 0] rfl rfl (by simp) ?_
  simp
  have hpO := ag0 q1.2 hl 4 [41]
  try simp [pObs, al0, gw0, e80, ap0] at hpO
  refine ab0 13 hpO (by simp) ?_
  clear hpO
  cases h2 : isT ts m 4 [41] with
  | true =>
   rw [h2, if_pos rfl] at hw
   subst hw
   simp +contextual (maxSteps := 2000000) (disch := omega) [-Int.not_lt, -Int.not_le, -Nat.not_lt, -Nat.not_le, sx]
   refine endR _ _ (Wk.refl _ _) [.l 10 0] (by simp) ?_
   simp +contextual (maxSteps := 2000000) (disch := omega) [-Int.not_lt, -Int.not_le, -Nat.not_lt, -Nat.not_le, sx]
  | false =>
   rw [h2, if_neg (by simp)] at hw
   simp +contextual (maxSteps := 2000000) (disch := omega) [-Int.not_lt, -Int.not_le, -Nat.not_lt, -Nat.not_le, sx]
   rcases h3 : ba0 ts m [44] with m2 | ⟨a, e⟩
   ·have q2 := aw0 hE q1.2 h3
    have hJ2 := am0 q1.2 hl [44]
    rw [h3] at hJ2 hw
    simp only [LxR.bind] at hw
    simp only [ar0] at hJ2
    refine aa0 [.e 0] rfl rfl (by simp) ?_
    simp
    have hpO := hJ2
    try simp [pObs, al0, gw0, e80, ap0] at hpO
    refine ab0 15 hpO (by simp) ?_
    clear hpO
    simp +contextual (maxSteps := 2000000) (disch := omega) [-Int.not_lt, -Int.not_le, -Nat.not_lt, -Nat.not_le, sx]
    refine .of (g, m2, out ++ [x]) ⟨by dsimp only; omega, q2.2, by simp; omega, hw⟩ (by dsimp only; omega) (Wk.rens (.l 10 0) (.l 999 0) rfl (by simp) (by simp [renF, al0]) (by simp [renF, bC0, al0]))
   ·have hJ2 := am0 q1.2 hl [44]
    rw [h3] at hJ2 hw
    simp only [LxR.bind] at hw
    simp only [ar0] at hJ2
    subst hw
    refine aa0 [.e 0] rfl rfl (by simp) ?_
    simp
    have hpO := hJ2
    try simp [pObs, al0, gw0, e80, ap0] at hpO
    refine af0 hpO ?_
    clear hpO
    simp +contextual (maxSteps := 2000000) (disch := omega) [-Int.not_lt, -Int.not_le, -Nat.not_lt, -Nat.not_le, sx]
    refine endP ?_
    simp +contextual (maxSteps := 2000000) (disch := omega) [-Int.not_lt, -Int.not_le, -Nat.not_lt, -Nat.not_le, sx]
 ·rw [hx] at hJ hw
  simp only [LxR.bind] at hw
  subst hw
  simp +contextual (maxSteps := 2000000) (disch := omega) [-Int.not_lt, -Int.not_le, -Nat.not_lt, -Nat.not_le, sx, al0]
  refine aa0 [.e 1, .e 2, .e 3, .e 0, .l 999 0] rfl rfl (by simp) ?_
  simp
  have hpO := hJ
  try simp [pObs, al0, gw0, e80, ap0] at hpO
  refine af0 hpO ?_
  clear hpO
  simp +contextual (maxSteps := 2000000) (disch := omega) [-Int.not_lt, -Int.not_le, -Nat.not_lt, -Nat.not_le, sx]
  refine endP ?_
  simp +contextual (maxSteps := 2000000) (disch := omega) [-Int.not_lt, -Int.not_le, -Nat.not_lt, -Nat.not_le, sx]
end Go.Am
end

section
namespace Go.Am
set_option maxRecDepth 100000
attribute [local irreducible] vc vcIs vcI vcOp vcD vcDp vcDR vcT vcAR b30 aU0 panD neG ne pv J bV0 b00 b90 a90 evK evsK nthK objK boxK rowK bD0 intK strK aggK fnK ifcK at0 av0 ldK ldaK iaK srcK stK appK appD ce0 pvK bU0 aX0 bT0 bv0 slAV bH0
variable {ts : List Tok} {n : Nat}
theorem jT0 (hE : TEnd ts) (hl : ts.length < 2 ^ 40) (F d : Nat) (hd : d <= 24)
  (IH : ∀ g, g < F -> ∀ n, n < ts.length -> (cf0 ts g (d + 1) n).live -> J prog aV0 [.bp (.e 0) 0, vI (d + 1 : Nat)] (pObs ts n) (· = pAns ts Exq.V (cf0 ts g (d + 1) n)))
  (hn : n < ts.length) (hlive : (lp0 ts F d n).live) : J prog dR0 [.bp (.e 0) 0, vI d] (pObs ts n) (· = pAns ts Exq.V (lp0 ts F d n)) := by
 obtain _ | F := F
 ·rw [lp0] at hlive; exact absurd rfl hlive
 have hw : lp0 ts (F + 1) d n = lp0 ts (F + 1) d n := rfl
 conv at hw => rhs; rw [lp0]
 rw [hw] at hlive ⊢
 clear hw
 refine aq0 g30 (by simp [pObs]) ?_
 simp +contextual (maxSteps := 2000000) (disch := omega) [-Int.not_lt, -Int.not_le, -Nat.not_lt, -Nat.not_le, sx, dv0, pObs, hpE]
 refine aa0 [.e 0] rfl rfl (by simp) ?_
 simp
 have hpO := aT0 hn
 try simp [pObs, al0, ap0] at hpO
 refine ab0 9 hpO (by simp) ?_
 clear hpO
 by_cases k2 : (tk ts n).kind = 2
 ·rw [if_pos k2]
  simp +contextual (maxSteps := 2000000) (disch := omega) [-Int.not_lt, -Int.not_le, -Nat.not_lt, -Nat.not_le, sx, k2]
  refine endR _ _ (Wk.refl _ _) [] (by simp) ?_
  simp +contextual (maxSteps := 2000000) (disch := omega) [-Int.not_lt, -Int.not_le, -Nat.not_lt, -Nat.not_le, sx, pAns, pObs, Exq.ac0, Exq.kind, Exq.op, Exq.num, Exq.text, Exq.slot, Exq.type, Exq.args, Exq.at_]
 rw [if_neg k2] at hlive ⊢
 by_cases k3 : (tk ts n).kind = 3
 ·rw [if_pos k3]
  simp +contextual (maxSteps := 2000000) (disch := omega) [-Int.not_lt, -Int.not_le, -Nat.not_lt, -Nat.not_le, sx, k2, k3]
  refine endR _ _ (Wk.refl _ _) [] (by simp) ?_
  simp +contextual (maxSteps := 2000000) (disch := omega) [-Int.not_lt, -Int.not_le, -Nat.not_lt, -Nat.not_le, sx, pAns, pObs, Exq.ac0, Exq.kind, Exq.op, Exq.num, Exq.text, Exq.slot, Exq.type, Exq.args, Exq.at_]
 rw [if_neg k3] at hlive ⊢
 simp +contextual (maxSteps := 2000000) (disch := omega) [-Int.not_lt, -Int.not_le, -Nat.not_lt, -Nat.not_le, sx, k2, k3]
 refine aa0 [.e 0] rfl rfl (by simp) ?_
 simp
 have hpO := ag0 hn hl 1 h10
 try simp [pObs, al0, ap0] at hpO
 refine ab0 44 hpO (by simp) ?_
 clear hpO
 cases h1 : isT ts n 1 h10 with
 | true =>
  simp +contextual (maxSteps := 2000000) (disch := omega) [-Int.not_lt, -Int.not_le, -Nat.not_lt, -Nat.not_le, sx]
  refine endR _ _ (Wk.refl _ _) [] (by simp) ?_
  simp +contextual (maxSteps := 2000000) (disch := omega) [-Int.not_lt, -Int.not_le, -Nat.not_lt, -Nat.not_le, sx, pAns, pObs, Exq.ac0, Exq.kind, Exq.op, Exq.num, Exq.text, Exq.slot, Exq.type, Exq.args, Exq.at_]
 | false =>
 rw [h1] at hlive
 simp only [Bool.false_eq_true, if_false] at hlive ⊢
 simp +contextual (maxSteps := 2000000) (disch := omega) [-Int.not_lt, -Int.not_le, -Nat.not_lt, -Nat.not_le, sx]
 refine aa0 [.e 0] rfl rfl (by simp) ?_
 simp
 have hpO := ag0 hn hl 1 fA0
 try simp [pObs, al0, ap0] at hpO
 refine ab0 50 hpO (by simp) ?_
 clear hpO
 cases h2 : isT ts n 1 fA0 with
 | true =>
  simp +contextual (maxSteps := 2000000) (disch := omega) [-Int.not_lt, -Int.not_le, -Nat.not_lt, -Nat.not_le, sx]
  refine endR _ _ (Wk.refl _ _) [] (by simp) ?_
  simp +contextual (maxSteps := 2000000) (disch := omega) [-Int.not_lt, -Int.not_le, -Nat.not_lt, -Nat.not_le, sx, pAns, pObs, Exq.ac0, Exq.kind, Exq.op, Exq.num, Exq.text, Exq.slot, Exq.type, Exq.args, Exq.at_]
 | false =>
 rw [h2] at hlive
 simp only [Bool.false_eq_true, if_false] at hlive ⊢
 simp +contextual (maxSteps := 2000000) (disch := omega) [-Int.not_lt, -Int.not_le, -Nat.not_lt, -Nat.not_le, sx]
 refine aa0 [.e 0] rfl rfl (by simp) ?_
 simp
 have hpO := ag0 hn hl 4 [40]
 try simp [pObs, al0, ap0] at hpO
 refine ab0 56 hpO (by simp) ?_
 clear hpO
 cases h3 : isT ts n 4 [40] with
 | true =>
  have h0 := aM0 hE hn h3 (by decide)
  rw [h3] at hlive
  simp only [if_true] at hlive ⊢
  obtain ⟨hlx, _⟩ := LxR.aC0 hlive
  have hJ := IH F (by omega) (n + 1) h0 hlx
  simp +contextual (maxSteps := 2000000) (disch := omega) [-Int.not_lt, -Int.not_le, -Nat.not_lt, -Nat.not_le, sx]
  rcases hx : cf0 ts F (d + 1) (n + 1) with ⟨x, m⟩ | ⟨a, e⟩
  ·rw [hx] at hJ
   have q1 := (ld0 hE F).ex h0 hx
   simp only [pAns, LxR.bind] at hJ ⊢
   refine aa0 [.e 0] rfl rfl (by simp) ?_
   simp
   have hpO := hJ
   try simp [pObs, al0, ap0] at hpO
   refine ab0 60 hpO (by simp) ?_
   clear hpO
   simp +contextual (maxSteps := 2000000) (disch := omega) [-Int.not_lt, -Int.not_le, -Nat.not_lt, -Nat.not_le, sx]
   have hJ2 := am0 q1.2 hl [41]
   rcases h4 : ba0 ts m [41] with m2 | ⟨a, e⟩
   ·rw [h4] at hJ2
    simp only [ar0] at hJ2
    refine aa0 [.e 0] rfl rfl (by simp) ?_
    simp
    have hpO := hJ2
    try simp [pObs, al0, ap0] at hpO
    refine ab0 62 hpO (by simp) ?_
    clear hpO
    simp +contextual (maxSteps := 2000000) (disch := omega) [-Int.not_lt, -Int.not_le, -Nat.not_lt, -Nat.not_le, sx]
    refine endR _ _ (Wk.refl _ _) [] (by simp) ?_
    simp +contextual (maxSteps := 2000000) (disch := omega) [-Int.not_lt, -Int.not_le, -Nat.not_lt, -Nat.not_le, sx, pObs]
   ·rw [h4] at hJ2
    simp only [ar0] at hJ2
    refine aa0 [.e 0] rfl rfl (by simp) ?_
    simp
    have hpO := hJ2
    try simp [pObs, al0, ap0] at hpO
    refine af0 hpO ?_
    clear hpO
    simp +contextual (maxSteps := 2000000) (disch := omega) [-Int.not_lt, -Int.not_le, -Nat.not_lt, -Nat.not_le, sx]
    refine endP ?_
    simp +contextual (maxSteps := 2000000) (disch := omega) [-Int.not_lt, -Int.not_le, -Nat.not_lt, -Nat.not_le, sx, pObs]
  ·rw [hx] at hJ
   simp only [pAns, LxR.bind] at hJ ⊢
   refine aa0 [.e 0] rfl rfl (by simp) ?_
   simp
   have hpO := hJ
   try simp [pObs, al0, ap0] at hpO
   refine af0 hpO ?_
   clear hpO
   simp +contextual (maxSteps := 2000000) (disch := omega) [-Int.not_lt, -Int.not_le, -Nat.not_lt, -Nat.not_le, sx]
   refine endP ?_
   simp +contextual (maxSteps := 2000000) (disch := omega) [-Int.not_lt, -Int.not_le, -Nat.not_lt, -Nat.not_le, sx, pObs]
 | false =>
 rw [h3] at hlive
 simp only [Bool.false_eq_true, if_false] at hlive ⊢
 simp +contextual (maxSteps := 2000000) (disch := omega) [-Int.not_lt, -Int.not_le, -Nat.not_lt, -Nat.not_le, sx]
 have hJ := dN0 hn hl
 rcases hN : ed0 ts n with ⟨t, n1⟩ | ⟨a, e⟩
 rotate_left
 ·rw [hN] at hJ
  simp only [pAns, LxR.bind] at hJ ⊢
  refine aa0 [.e 0] rfl rfl (by simp) ?_
  simp
  have hpO := hJ
  try simp [pObs, al0, ap0] at hpO
  refine af0 hpO ?_
  clear hpO
  simp +contextual (maxSteps := 2000000) (disch := omega) [-Int.not_lt, -Int.not_le, -Nat.not_lt, -Nat.not_le, sx]
  refine endP ?_
  simp +contextual (maxSteps := 2000000) (disch := omega) [-Int.not_lt, -Int.not_le, -Nat.not_lt, -Nat.not_le, sx, pObs]
 have hlt := cG0 hE hn hN
 have hnn : t = tk ts n /\ n1 = n + 1 := by
  unfold ed0 at hN
  split at hN
  ·injection hN with hN; injection hN with h5 h6; exact ⟨h5.symm, h6.symm⟩
  ·cases hN
 obtain ⟨rfl, rfl⟩ := hnn
 rw [hN] at hJ hlive
 simp only [pAns, LxR.bind] at hJ hlive ⊢
 refine aa0 [.e 0] rfl rfl (by simp) ?_
 simp
 have hpO := hJ
 try simp [pObs, al0, ap0] at hpO
 refine ab0 65 hpO (by simp) ?_
 clear hpO
 simp +contextual (maxSteps := 2000000) (disch := omega) [-Int.not_lt, -Int.not_le, -Nat.not_lt, -Nat.not_le, sx]
 refine aa0 [.e 0] rfl rfl (by simp) ?_
 simp
 have hpO := ag0 hlt.2 hl 4 [40]
 try simp [pObs, al0, ap0] at hpO
 refine ab0 67 hpO (by simp) ?_
 clear hpO
 cases h4 : isT ts (n + 1) 4 [40] with
 | false =>
  simp +contextual (maxSteps := 2000000) (disch := omega) [-Int.not_lt, -Int.not_le, -Nat.not_lt, -Nat.not_le, sx]
  refine endR _ _ (Wk.refl _ _) [] (by simp) ?_
  simp +contextual (maxSteps := 2000000) (disch := omega) [-Int.not_lt, -Int.not_le, -Nat.not_lt, -Nat.not_le, sx, pObs, Exq.ac0, Exq.kind, Exq.op, Exq.num, Exq.text, Exq.slot, Exq.type, Exq.args, Exq.at_]
 | true =>
 have h5 := aM0 hE hlt.2 h4 (by decide)
 rw [h4] at hlive
 simp only [if_true] at hlive ⊢
 simp +contextual (maxSteps := 2000000) (disch := omega) [-Int.not_lt, -Int.not_le, -Nat.not_lt, -Nat.not_le, sx]
 cases h6 : isT ts (n + 2) 4 [41] with
 | true =>
  refine aa0 [.e 0, .l 7 0, .l 2 0, .l 3 0] rfl rfl (by simp) ?_
  simp
  have hpO := lL0 hl h5 h6 (tk ts n).text (tk ts n).at_ d
  try simp [pObs, al0, ap0] at hpO
  refine ab0 81 hpO (by simp) ?_
  clear hpO
  simp +contextual (maxSteps := 2000000) (disch := omega) [-Int.not_lt, -Int.not_le, -Nat.not_lt, -Nat.not_le, sx]
  refine endR _ _ (Wk.refl _ _) [] (by simp) ?_
  simp +contextual (maxSteps := 2000000) (disch := omega) [-Int.not_lt, -Int.not_le, -Nat.not_lt, -Nat.not_le, sx, pObs, Exq.ac0, Exq.kind, Exq.op, Exq.num, Exq.text, Exq.slot, Exq.type, Exq.args, Exq.at_]
  omega
 | false =>
  rw [h6] at hlive
  simp only [Bool.false_eq_true, if_false] at hlive ⊢
  have hla := (LxR.aC0 hlive).1
  have hJ2 := lM0 hE hl h5 h6 (tk ts n).text (tk ts n).at_ d hd F (fun g hg => IH g (by omega)) hla
  rcases hA : kH0 ts F (d + 1) [] (n + 2) with ⟨xs, m⟩ | ⟨a, e⟩
  ·rw [hA] at hJ2
   simp only [LxR.bind] at hJ2 ⊢
   refine aa0 [.e 0, .l 7 0, .l 2 0, .l 3 0] rfl rfl (by simp) ?_
   simp
   have hpO := hJ2
   try simp [pObs, al0, ap0] at hpO
   refine ab0 81 hpO (by simp) ?_
   clear hpO
   simp +contextual (maxSteps := 2000000) (disch := omega) [-Int.not_lt, -Int.not_le, -Nat.not_lt, -Nat.not_le, sx]
   refine endR _ _ (Wk.refl _ _) [] (by simp) ?_
   simp +contextual (maxSteps := 2000000) (disch := omega) [-Int.not_lt, -Int.not_le, -Nat.not_lt, -Nat.not_le, sx, pObs, Exq.ac0, Exq.kind, Exq.op, Exq.num, Exq.text, Exq.slot, Exq.type, Exq.args, Exq.at_]
  ·rw [hA] at hJ2
   simp only [LxR.bind] at hJ2 ⊢
   refine aa0 [.e 0, .l 7 0, .l 2 0, .l 3 0] rfl rfl (by simp) ?_
   simp
   have hpO := hJ2
   try simp [pObs, al0, ap0] at hpO
   refine cw0 hpO ?_
   clear hpO
   intro y
   simp +contextual (maxSteps := 2000000) (disch := omega) [-Int.not_lt, -Int.not_le, -Nat.not_lt, -Nat.not_le, sx]
   refine endP ?_
   simp +contextual (maxSteps := 2000000) (disch := omega) [-Int.not_lt, -Int.not_le, -Nat.not_lt, -Nat.not_le, sx, pObs, pAns]
end Go.Am
end

section
namespace Go.Am
variable {P : Program} {n : Sz} {H : Imm} {μ : Mu} {env : Env} {hp : Hp} {a : Act} {w : World}
def V.fz (i : Id) (xs : List (List V)) : V -> V
 | .arr j o m => if j = i then (if o + m <= xs.length then .lst ((xs.drop o).take m) else .any) else .arr j o m
 | v => v
def Ob.fz (i : Id) (xs : List (List V)) : Ob -> Ob
 | .box cs => .box (cs.map (V.fz i xs))
 | o => o
theorem fz_ok {i : Id} {ty sz : Nat} {xs : List (List V)} (hW : Wd H μ hp w) (hl : hp.lookup i = some (.row ty sz false xs)) {v : V} {x : Value} (h : R H μ v x) : R H μ (V.fz i xs v) x := by
 unfold V.fz
 split
 ·rename_i j o m
  split
  ·rename_i e; subst e
   split
   ·rename_i hle; exact kY0 hW hl hle h μ
   ·exact .any x
  ·exact h
 ·exact h
theorem Ob.fz_own {i : Id} {xs : List (List V)} (o : Ob) : (o.fz i xs).own = o.own := by cases o <;> rfl
theorem Wk.frz {E : Env} {h : Hp} (i : Id) {ty sz : Nat} {xs : List (List V)} (hi : hp.lookup i = some (.row ty sz true xs)) (hE : ∀ p ∈ E, a90 env p.1 fun v => V.fz i xs v = p.2)
  (hh : ∀ p ∈ h, p.1 ≠ i /\ objK hp p.1 fun o => Ob.fz i xs o = p.2) : Wk E h env hp := fun n H μ a w hS => by
 obtain ⟨H1, hle, hS1, hx1⟩ := hS.frz (.arr i 0 0)
 have hl1 : (Hp.frz (.arr i 0 0) hp).lookup i = some (.row ty sz false xs) := by rw [gJ0, hi]; simp [V.has, Ob.frz]
 have hoth : ∀ j, j ≠ i -> (Hp.frz (.arr i 0 0) hp).lookup j = hp.lookup j := by
  intro j hj
  rw [gJ0]
  have : V.has j (.arr i 0 0) = false := by simp [V.has, Ne.symm hj]
  rw [this]
  cases hp.lookup j <;> rfl
 have hW := hS1.wd
 have hob : ∀ j o, h.lookup j = some o -> ∃ o', (Hp.frz (.arr i 0 0) hp).lookup j = some o' /\ o = o'.fz i xs := by
  intro j o hl
  obtain ⟨h1, h2⟩ := hh (j, o) (bn0 hl)
  rw [ha0] at h2
  obtain ⟨o', h3, h4⟩ := h2
  exact ⟨o', by rw [hoth j h1]; exact h3, h4.symm⟩
 refine ⟨H1, μ, ⟨hS1.defers, hS1.size, fun s v hs => ?_, ⟨fun j o hl => ?_, fun j k oj ok bj bk hj hoj hk hok hbj hbk heq => ?_, hW.imm, hW.glo⟩⟩, hx1.trans ⟨⟨Imm.le_refl _, rfl, rfl, rfl, Nat.le_refl _, fun _ _ _ => rfl, fun b hO hb => ?_, fr0⟩, fun _ => rfl⟩⟩
 ·have h1 := hE (s, v) (bn0 hs)
  rw [eg0] at h1
  obtain ⟨u, h2, rfl⟩ := h1
  exact fz_ok hW hl1 (hS1.env s u h2)
 ·obtain ⟨o', h1, rfl⟩ := hob j o hl
  have hO := hW.ob j o' h1
  cases o' with
  | box cs =>
   obtain ⟨blk, vals, ty', k1, k2, k3, k4, k5⟩ := hO
   refine ⟨blk, vals, ty', k1, k2, by rw [k3]; simp, k4, fun q v hq => ?_⟩
   rw [List.getElem?_map] at hq
   obtain ⟨u, h3, rfl⟩ := Option.map_eq_some_iff.1 hq
   obtain ⟨x, r1, r2⟩ := k5 q u h3
   exact ⟨x, r1, fz_ok hW hl1 r2⟩
  | gone => exact hO
  | row ty' sz' own ys => exact hO
  | mpo kd kvs => exact hO
 ·obtain ⟨o1, h1, rfl⟩ := hob j oj hj
  obtain ⟨o2, h2, rfl⟩ := hob k ok hk
  exact hW.inj j k o1 o2 bj bk h1 (by rw [<- Ob.fz_own]; exact hoj) h2 (by rw [<- Ob.fz_own]; exact hok) hbj hbk heq
 ·obtain ⟨j, o, blk, h1, h2, h3, h4⟩ := hO
  obtain ⟨o', k1, rfl⟩ := hob j o h1
  exact ⟨j, o', blk, k1, by rw [<- Ob.fz_own]; exact h2, h3, h4⟩
end Go.Am
end

section
namespace Go.Am
set_option maxRecDepth 100000
attribute [local irreducible] vc vcIs vcI vcOp vcD vcDp vcDR vcT vcAR b30 aU0 panD neG ne pv J bV0 b00 b90 a90 evK evsK nthK objK boxK rowK bD0 intK strK aggK fnK ifcK at0 av0 ldK ldaK iaK srcK stK appK appD ce0 pvK bU0 aX0 bT0 bv0 slAV bH0
variable {ts : List Tok} {n : Nat}
abbrev zE : List V := [vI 0, vI 0, vI 0, vS (bS []), vI 0, vS (bS []), .nil, vI 0]
theorem mt0 {d : Nat} (h : d <= 24) : lo0 ts n d = .ok () := by rw [lo0, if_neg (by omega)]
theorem kR0 {d : Nat} (h : ¬ d <= 24) : lo0 ts n d = .bad n 32 := by rw [lo0, if_pos (by omega)]; rfl
set_option maxHeartbeats 1600000 in
theorem kL0 (hE : TEnd ts) (hl : ts.length < 2 ^ 40) (F d : Nat) (hd : d <= 24)
  (IHx : ∀ g, g < F -> ∀ d n, d <= 25 -> n < ts.length -> (cf0 ts g d n).live -> J prog aV0 [.bp (.e 0) 0, vI d] (pObs ts n) (· = pAns ts Exq.V (cf0 ts g d n)))
  (IHu : ∀ g, g < F -> ∀ d n, d <= 24 -> n < ts.length -> (pUn ts g d n).live -> J prog br0 [.bp (.e 0) 0, vI d] (pObs ts n) (· = pAns ts Exq.V (pUn ts g d n)))
  (hn : n < ts.length) (hlive : (pUn ts F d n).live) : J prog br0 [.bp (.e 0) 0, vI d] (pObs ts n) (· = pAns ts Exq.V (pUn ts F d n)) := by
 obtain _ | F := F
 ·rw [pUn] at hlive; exact absurd rfl hlive
 generalize hw : pUn ts (F + 1) d n = R at *
 rw [pUn] at hw
 refine aq0 hS0 (by simp [pObs]) ?_
 simp +contextual (maxSteps := 2000000) (disch := omega) [-Int.not_lt, -Int.not_le, -Nat.not_lt, -Nat.not_le, sx, ei0, pObs, hpE]
 refine aa0 [.e 0] rfl rfl (by simp) ?_
 simp
 have hpO := aT0 hn
 try simp [pObs, al0, ap0] at hpO
 refine ab0 12 hpO (by simp) ?_
 clear hpO
 simp +contextual (maxSteps := 2000000) (disch := omega) [-Int.not_lt, -Int.not_le, -Nat.not_lt, -Nat.not_le, sx]
 refine aH0 (fun y : Nat => 2 - y) (fun y => [(15, vI y), (14, vI 2), (13, .arr (.l 13 0) 0 2), (5, .bp (.l 5 0) 0), (4, .bp (.l 4 0) 0), (0, .bp (.e 0) 0), (1, vI d)])
  (fun _ => [(.e 0, .box [.lst (ts.map Tok.cells), vI n]), (.l 13 0, .row 9 1 true [[vS (bS [45])], [vS (bS [33])]]), (.l 5 0, .box (tk ts n).cells), (.l 4 0, .box zE)])
  (fun y => y <= 2 /\ (0 < y -> isT ts n 4 [45] = false) /\ (1 < y -> isT ts n 4 [33] = false)) 0 (by simp) (Wk.subs (by simp) (by simp)) ?_
 rintro y ⟨hy, h1, h2⟩
 have : y = 0 \/ y = 1 \/ y = 2 := by omega
 rcases this with rfl | rfl | rfl
 ·simp +contextual (maxSteps := 2000000) (disch := omega) [-Int.not_lt, -Int.not_le, -Nat.not_lt, -Nat.not_le, sx]
  rw [bc0 (e := [vS (bS [45])]) rfl]
  simp +contextual (maxSteps := 2000000) (disch := omega) [-Int.not_lt, -Int.not_le, -Nat.not_lt, -Nat.not_le, sx]
  refine aa0 [.e 0] rfl rfl (by simp) ?_
  simp
  have hpO := ag0 hn hl 4 [45]
  try simp [pObs, al0, ap0] at hpO
  refine ab0 22 hpO (by simp) ?_
  clear hpO
  cases h : isT ts n 4 [45] with
  | true =>
   have h0 := aM0 hE hn h (by decide)
   rw [h] at hw
   simp only [if_true] at hw
   simp +contextual (maxSteps := 2000000) (disch := omega) [-Int.not_lt, -Int.not_le, -Nat.not_lt, -Nat.not_le, sx]
   by_cases hd1 : d + 1 <= 24
   ·have hJ := cc0 h0 (d + 1)
    rw [mt0 hd1] at hJ hw
    simp only [LxR.bind] at hJ hw
    refine aa0 [.e 0] rfl rfl (by simp) ?_
    simp
    have hpO := hJ
    try simp [pObs, al0, ap0] at hpO
    refine ab0 26 hpO (by simp) ?_
    clear hpO
    simp +contextual (maxSteps := 2000000) (disch := omega) [-Int.not_lt, -Int.not_le, -Nat.not_lt, -Nat.not_le, sx]
    have hlv := hlive
    rw [<- hw] at hlv
    have hJ2 := IHu F (by omega) (d + 1) (n + 1) hd1 h0 (LxR.aC0 hlv).1
    rcases hx : pUn ts F (d + 1) (n + 1) with ⟨x, m⟩ | ⟨a, e⟩
    ·rw [hx] at hJ2 hw
     simp only [pAns, LxR.bind] at hJ2 hw
     subst hw
     refine aP0 [.e 0] [.e 0] rfl rfl (by simp) ?_
     simp
     have hpO := hJ2
     try simp [pObs, al0, ap0] at hpO
     refine bG0 32 hpO (by simp) ?_
     clear hpO
     simp +contextual (maxSteps := 2000000) (disch := omega) [-Int.not_lt, -Int.not_le, -Nat.not_lt, -Nat.not_le, sx]
     refine endR _ _ (Wk.refl _ _) [] (by simp) ?_
     rw [pAns, Exq.V, Exq.ac0 (.mk _ _ _ _ _ _ _ _)]
     simp +contextual (maxSteps := 2000000) (disch := omega) [-Int.not_lt, -Int.not_le, -Nat.not_lt, -Nat.not_le, sx, pObs, Exq.kind, Exq.op, Exq.num, Exq.text, Exq.slot, Exq.type, Exq.args, Exq.at_]
    ·rw [hx] at hJ2 hw
     simp only [pAns, LxR.bind] at hJ2 hw
     subst hw
     refine aP0 [.e 0] [.e 0] rfl rfl (by simp) ?_
     simp
     have hpO := hJ2
     try simp [pObs, al0, ap0] at hpO
     refine cv0 hpO ?_
     clear hpO
     simp +contextual (maxSteps := 2000000) (disch := omega) [-Int.not_lt, -Int.not_le, -Nat.not_lt, -Nat.not_le, sx]
     refine endP ?_
     simp +contextual (maxSteps := 2000000) (disch := omega) [-Int.not_lt, -Int.not_le, -Nat.not_lt, -Nat.not_le, sx, pObs, pAns]
   ·have hJ := cc0 h0 (d + 1)
    rw [kR0 hd1] at hJ hw
    simp only [LxR.bind] at hJ hw
    subst hw
    refine aa0 [.e 0] rfl rfl (by simp) ?_
    simp
    have hpO := hJ
    try simp [pObs, al0, ap0] at hpO
    refine af0 hpO ?_
    clear hpO
    simp +contextual (maxSteps := 2000000) (disch := omega) [-Int.not_lt, -Int.not_le, -Nat.not_lt, -Nat.not_le, sx]
    refine endP ?_
    simp +contextual (maxSteps := 2000000) (disch := omega) [-Int.not_lt, -Int.not_le, -Nat.not_lt, -Nat.not_le, sx, pObs, pAns]
  | false =>
   simp +contextual (maxSteps := 2000000) (disch := omega) [-Int.not_lt, -Int.not_le, -Nat.not_lt, -Nat.not_le, sx]
   refine .of 1 ⟨by omega, fun q => absurd q (by omega)⟩ (by omega) (Wk.subs (by simp) (by simp))
 ·have h1 := h1 (by omega)
  rw [h1] at hw
  simp only [Bool.false_eq_true, if_false] at hw
  simp +contextual (maxSteps := 2000000) (disch := omega) [-Int.not_lt, -Int.not_le, -Nat.not_lt, -Nat.not_le, sx]
  rw [bc0 (e := [vS (bS [33])]) rfl]
  simp +contextual (maxSteps := 2000000) (disch := omega) [-Int.not_lt, -Int.not_le, -Nat.not_lt, -Nat.not_le, sx]
  refine aa0 [.e 0] rfl rfl (by simp) ?_
  simp
  have hpO := ag0 hn hl 4 [33]
  try simp [pObs, al0, ap0] at hpO
  refine ab0 22 hpO (by simp) ?_
  clear hpO
  cases h : isT ts n 4 [33] with
  | true =>
   have h0 := aM0 hE hn h (by decide)
   rw [h] at hw
   simp only [if_true] at hw
   simp +contextual (maxSteps := 2000000) (disch := omega) [-Int.not_lt, -Int.not_le, -Nat.not_lt, -Nat.not_le, sx]
   by_cases hd1 : d + 1 <= 24
   ·have hJ := cc0 h0 (d + 1)
    rw [mt0 hd1] at hJ hw
    simp only [LxR.bind] at hJ hw
    refine aa0 [.e 0] rfl rfl (by simp) ?_
    simp
    have hpO := hJ
    try simp [pObs, al0, ap0] at hpO
    refine ab0 26 hpO (by simp) ?_
    clear hpO
    simp +contextual (maxSteps := 2000000) (disch := omega) [-Int.not_lt, -Int.not_le, -Nat.not_lt, -Nat.not_le, sx]
    have hlv := hlive
    rw [<- hw] at hlv
    have hJ2 := IHu F (by omega) (d + 1) (n + 1) hd1 h0 (LxR.aC0 hlv).1
    rcases hx : pUn ts F (d + 1) (n + 1) with ⟨x, m⟩ | ⟨a, e⟩
    ·rw [hx] at hJ2 hw
     simp only [pAns, LxR.bind] at hJ2 hw
     subst hw
     refine aP0 [.e 0] [.e 0] rfl rfl (by simp) ?_
     simp
     have hpO := hJ2
     try simp [pObs, al0, ap0] at hpO
     refine bG0 32 hpO (by simp) ?_
     clear hpO
     simp +contextual (maxSteps := 2000000) (disch := omega) [-Int.not_lt, -Int.not_le, -Nat.not_lt, -Nat.not_le, sx]
     refine endR _ _ (Wk.refl _ _) [] (by simp) ?_
     rw [pAns, Exq.V, Exq.ac0 (.mk _ _ _ _ _ _ _ _)]
     simp +contextual (maxSteps := 2000000) (disch := omega) [-Int.not_lt, -Int.not_le, -Nat.not_lt, -Nat.not_le, sx, pObs, Exq.kind, Exq.op, Exq.num, Exq.text, Exq.slot, Exq.type, Exq.args, Exq.at_]
    ·rw [hx] at hJ2 hw
     simp only [pAns, LxR.bind] at hJ2 hw
     subst hw
     refine aP0 [.e 0] [.e 0] rfl rfl (by simp) ?_
     simp
     have hpO := hJ2
     try simp [pObs, al0, ap0] at hpO
     refine cv0 hpO ?_
     clear hpO
     simp +contextual (maxSteps := 2000000) (disch := omega) [-Int.not_lt, -Int.not_le, -Nat.not_lt, -Nat.not_le, sx]
     refine endP ?_
     simp +contextual (maxSteps := 2000000) (disch := omega) [-Int.not_lt, -Int.not_le, -Nat.not_lt, -Nat.not_le, sx, pObs, pAns]
   ·have hJ := cc0 h0 (d + 1)
    rw [kR0 hd1] at hJ hw
    simp only [LxR.bind] at hJ hw
    subst hw
    refine aa0 [.e 0] rfl rfl (by simp) ?_
    simp
    have hpO := hJ
    try simp [pObs, al0, ap0] at hpO
    refine af0 hpO ?_
    clear hpO
    simp +contextual (maxSteps := 2000000) (disch := omega) [-Int.not_lt, -Int.not_le, -Nat.not_lt, -Nat.not_le, sx]
    refine endP ?_
    simp +contextual (maxSteps := 2000000) (disch := omega) [-Int.not_lt, -Int.not_le, -Nat.not_lt, -Nat.not_le, sx, pObs, pAns]
  | false =>
   simp +contextual (maxSteps := 2000000) (disch := omega) [-Int.not_lt, -Int.not_le, -Nat.not_lt, -Nat.not_le, sx]
   refine .of 2 ⟨by omega, fun _ => h1⟩ (by omega) (Wk.subs (by simp) (by simp))
 ·have h1 := h1 (by omega)
  have h2 := h2 (by omega)
  rw [h1, h2] at hw
  simp only [Bool.false_eq_true, if_false] at hw
  have hlv := hlive
  rw [<- hw] at hlv
  simp +contextual (maxSteps := 2000000) (disch := omega) [-Int.not_lt, -Int.not_le, -Nat.not_lt, -Nat.not_le, sx]
  have hJ := jT0 hE hl F d hd (fun g hg n => IHx g (by omega) (d + 1) n (by omega)) hn (LxR.aC0 hlv).1
  rcases hx : lp0 ts F d n with ⟨x, m⟩ | ⟨a, e⟩
  rotate_left
  ·rw [hx] at hJ hw
   simp only [pAns, LxR.bind] at hJ hw
   subst hw
   refine aa0 [.e 0] rfl rfl (by simp) ?_
   simp
   have hpO := hJ
   try simp [pObs, al0, ap0] at hpO
   refine af0 hpO ?_
   clear hpO
   simp +contextual (maxSteps := 2000000) (disch := omega) [-Int.not_lt, -Int.not_le, -Nat.not_lt, -Nat.not_le, sx]
   refine endP ?_
   simp +contextual (maxSteps := 2000000) (disch := omega) [-Int.not_lt, -Int.not_le, -Nat.not_lt, -Nat.not_le, sx, pObs, pAns]
  have q1 := (ld0 hE F).prim hn hx
  rw [hx] at hJ hw
  simp only [pAns, LxR.bind] at hJ hw
  refine aa0 [.e 0] rfl rfl (by simp) ?_
  simp
  have hpO := hJ
  try simp [pObs, al0, ap0] at hpO
  refine ab0 40 hpO (by simp) ?_
  clear hpO
  simp +contextual (maxSteps := 2000000) (disch := omega) [-Int.not_lt, -Int.not_le, -Nat.not_lt, -Nat.not_le, sx]
  refine aH0 (fun y : Nat × Nat × Exq => y.1) (fun y => [(8, .bp (.l 8 0) 0), (4, .bp (.l 4 0) 0), (0, .bp (.e 0) 0), (1, vI d)])
   (fun y => [(.e 0, .box [.lst (ts.map Tok.cells), vI y.2.1]), (.l 8 0, .box y.2.2.cells), (.l 4 0, .box zE)])
   (fun y => y.1 <= F /\ y.2.1 < ts.length /\ nL0 ts y.1 d y.2.2 y.2.1 = R) (F, m, x) ⟨Nat.le_refl _, q1.2, hw⟩ (Wk.subs (by simp) (by simp)) ?_
  rintro ⟨g, n', out⟩ ⟨hg, hn', hw⟩
  dsimp only at hg hn' hw
  obtain _ | g := g
  ·rw [nL0] at hw; subst hw; exact absurd rfl hlive
  rw [nL0] at hw
  simp +contextual (maxSteps := 2000000) (disch := omega) [-Int.not_lt, -Int.not_le, -Nat.not_lt, -Nat.not_le, sx]
  refine aa0 [.e 0] rfl rfl (by simp) ?_
  simp
  have hpO := jS0 hn' 4 [91]
  try simp [pObs, al0, ap0] at hpO
  refine ab0 42 hpO (by simp) ?_
  clear hpO
  cases h3 : isT ts n' 4 [91] with
  | false =>
   rw [h3] at hw
   simp only [Bool.false_eq_true, if_false] at hw
   subst hw
   simp +contextual (maxSteps := 2000000) (disch := omega) [-Int.not_lt, -Int.not_le, -Nat.not_lt, -Nat.not_le, sx]
   refine endR _ _ (Wk.refl _ _) [] (by simp) ?_
   simp +contextual (maxSteps := 2000000) (disch := omega) [-Int.not_lt, -Int.not_le, -Nat.not_lt, -Nat.not_le, sx, pObs, pAns]
  | true =>
   have h0 := aM0 hE hn' h3 (by decide)
   rw [h3] at hw
   simp only [if_true] at hw
   have hlv := hlive
   rw [<- hw] at hlv
   have hJ := IHx g (by omega) (d + 1) (n' + 1) (by omega) h0 (LxR.aC0 hlv).1
   simp +contextual (maxSteps := 2000000) (disch := omega) [-Int.not_lt, -Int.not_le, -Nat.not_lt, -Nat.not_le, sx]
   refine aa0 [.e 0] rfl rfl (by simp) ?_
   simp
   have hpO := aT0 hn'
   try simp [pObs, al0, ap0] at hpO
   refine ab0 44 hpO (by simp) ?_
   clear hpO
   simp +contextual (maxSteps := 2000000) (disch := omega) [-Int.not_lt, -Int.not_le, -Nat.not_lt, -Nat.not_le, sx]
   rcases hx2 : cf0 ts g (d + 1) (n' + 1) with ⟨p, m2⟩ | ⟨a, e⟩
   ·rw [hx2] at hJ hw
    simp only [pAns, LxR.bind] at hJ hw
    have q2 := (ld0 hE g).ex h0 hx2
    refine aa0 [.e 0] rfl rfl (by simp) ?_
    simp
    have hpO := hJ
    try simp [pObs, al0, ap0] at hpO
    refine ab0 56 hpO (by simp) ?_
    clear hpO
    simp +contextual (maxSteps := 2000000) (disch := omega) [-Int.not_lt, -Int.not_le, -Nat.not_lt, -Nat.not_le, sx]
    have hJ2 := am0 q2.2 hl [93]
    rcases hm : ba0 ts m2 [93] with m3 | ⟨a, e⟩
    ·rw [hm] at hJ2 hw
     simp only [ar0] at hJ2 hw
     have q3 := aw0 hE q2.2 hm
     refine aa0 [.e 0] rfl rfl (by simp) ?_
     simp
     have hpO := hJ2
     try simp [pObs, al0, ap0] at hpO
     refine ab0 58 hpO (by simp) ?_
     clear hpO
     simp +contextual (maxSteps := 2000000) (disch := omega) [-Int.not_lt, -Int.not_le, -Nat.not_lt, -Nat.not_le, sx]
     refine .of (g, m3, .mk 12 0 0 (bS []) 0 (bS []) [out, p] (tk ts n').at_) ⟨by dsimp only; omega, q3.2, hw⟩ (by dsimp only; omega) (Wk.frz (.l 61 0) rfl (by simp [V.fz]) ?_)
     rw [Exq.ac0 (.mk _ _ _ _ _ _ _ _)]
     simp [Ob.fz, V.fz, Exq.kind, Exq.op, Exq.num, Exq.text, Exq.slot, Exq.type, Exq.args, Exq.at_]
    ·rw [hm] at hJ2 hw
     simp only [ar0] at hJ2 hw
     subst hw
     refine aa0 [.e 0] rfl rfl (by simp) ?_
     simp
     have hpO := hJ2
     try simp [pObs, al0, ap0] at hpO
     refine af0 hpO ?_
     clear hpO
     simp +contextual (maxSteps := 2000000) (disch := omega) [-Int.not_lt, -Int.not_le, -Nat.not_lt, -Nat.not_le, sx]
     refine endP ?_
     simp +contextual (maxSteps := 2000000) (disch := omega) [-Int.not_lt, -Int.not_le, -Nat.not_lt, -Nat.not_le, sx, pObs, pAns]
   ·rw [hx2] at hJ hw
    simp only [pAns, LxR.bind] at hJ hw
    subst hw
    refine aa0 [.e 0] rfl rfl (by simp) ?_
    simp
    have hpO := hJ
    try simp [pObs, al0, ap0] at hpO
    refine af0 hpO ?_
    clear hpO
    simp +contextual (maxSteps := 2000000) (disch := omega) [-Int.not_lt, -Int.not_le, -Nat.not_lt, -Nat.not_le, sx]
    refine endP ?_
    simp +contextual (maxSteps := 2000000) (disch := omega) [-Int.not_lt, -Int.not_le, -Nat.not_lt, -Nat.not_le, sx, pObs, pAns]
variable {ts : List Tok} {n : Nat}
theorem nX0 (l : List Bs) (s : ByteArray) (h : l.contains (sB s) = true) : ih0 (l.map bS) s = (l.idxOf (sB s) : Nat) := by
 rw [List.contains_iff_mem] at h
 have hlt : l.idxOf (sB s) < l.length := List.idxOf_lt_length_iff.2 h
 have hge : l[l.idxOf (sB s)] = sB s := List.getElem_idxOf hlt
 have : (l.map bS).findIdx? (fun x => decide (s = x)) = some (l.idxOf (sB s)) := by
  rw [List.findIdx?_eq_some_iff_getElem]
  refine ⟨by simpa using hlt, by simp [hge], fun j hj => ?_⟩
  have hne := List.not_of_lt_findIdx (p := (· == sB s)) (xs := l) hj
  simp only [List.getElem_map, decide_eq_true_eq]
  intro e
  have h3 : sB s = l[j] := congrArg sB e
  have h4 : (l[j] == sB s) = true := by rw [beq_iff_eq]; exact h3.symm
  rw [h4] at hne; cases hne
 rw [ih0, this]
theorem level_op {l : Nat} (hl5 : l < 5) {b : Bs} (h : (dc0[l]'hl5).contains b = true) : pOps.contains b = true := by
 rw [List.contains_iff_mem] at h ⊢
 exact List.mem_flatten.2 ⟨_, List.getElem_mem hl5, h⟩
theorem l30 {l : Nat} (hl5 : l < 5) {t : Tok} (hk : t.kind = 4) : eA0 l t = (dc0[l]'hl5).contains (sB t.text) := by
 unfold eA0
 rw [hk, List.getD_eq_getElem?_getD, List.getElem?_eq_getElem hl5]
 simp
theorem l40 {l : Nat} {t : Tok} (hk : ¬ t.kind = 4) : eA0 l t = false := by
 unfold eA0
 simp [hk]
theorem mL0 : ∀ x ∈ dc0, x.length < 2 ^ 40 := by decide
theorem iW0 {l : Nat} (hl5 : l < 5) (s : ByteArray) : Ret prog a60 [.lst ((dc0[l]'hl5).map fun m => [vS (bS m)]), vS s] (vB ((dc0[l]'hl5).contains (sB s))) := by
 have h := gh0 ((dc0[l]'hl5).map bS) s (by rw [List.length_map]; exact mL0 _ (List.getElem_mem _))
 rw [k10, List.map_map] at h
 exact h
theorem ops_Index (s : ByteArray) (h : pOps.contains (sB s) = true) : Ret prog bm0 [.lst (pOps.map dt0), vS s] (vI (pOps.idxOf (sB s) : Nat)) := by
 have h2 := ii0 (pOps.map bS) s (by decide)
 rw [nX0 _ _ h, List.map_map] at h2
 exact h2
set_option maxHeartbeats 1600000 in
theorem kg0 (hE : TEnd ts) (hl : ts.length < 2 ^ 40) (F l d : Nat) (hl5 : l <= 5) (hd : d <= 24)
  (IHb : ∀ g, g < F -> ∀ l n, l <= 5 -> n < ts.length -> (pBin ts g l d n).live -> J prog bg0 [.bp (.e 0) 0, vI l, vI d] (pObs ts n) (· = pAns ts Exq.V (pBin ts g l d n)))
  (IHu : ∀ g, g < F -> ∀ n, n < ts.length -> (pUn ts g d n).live -> J prog br0 [.bp (.e 0) 0, vI d] (pObs ts n) (· = pAns ts Exq.V (pUn ts g d n)))
  (hn : n < ts.length) (hlive : (pBin ts F l d n).live) : J prog bg0 [.bp (.e 0) 0, vI l, vI d] (pObs ts n) (· = pAns ts Exq.V (pBin ts F l d n)) := by
 obtain _ | F := F
 ·rw [pBin] at hlive; exact absurd rfl hlive
 generalize hw : pBin ts (F + 1) l d n = R at *
 rw [pBin] at hw
 refine aq0 hE0 (by simp [pObs]) ?_
 simp +contextual (maxSteps := 2000000) (disch := omega) [-Int.not_lt, -Int.not_le, -Nat.not_lt, -Nat.not_le, sx, dQ0, pObs, hpE]
 refine ai0 ?_; simp; refine ah0 (cV0) (by simp) ?_
 by_cases h5 : l = 5
 ·subst h5
  rw [if_pos rfl] at hw
  subst hw
  have hJ := IHu F (by omega) n hn hlive
  rcases hx : pUn ts F d n with ⟨x, m⟩ | ⟨a, e⟩
  ·rw [hx] at hJ
   simp only [pAns] at hJ
   simp +contextual (maxSteps := 2000000) (disch := omega) [-Int.not_lt, -Int.not_le, -Nat.not_lt, -Nat.not_le, sx]
   refine aa0 [.e 0] rfl rfl (by simp) ?_
   simp
   have hpO := hJ
   try simp [pObs, al0, ap0] at hpO
   refine ab0 17 hpO (by simp) ?_
   clear hpO
   simp +contextual (maxSteps := 2000000) (disch := omega) [-Int.not_lt, -Int.not_le, -Nat.not_lt, -Nat.not_le, sx]
   refine endR _ _ (Wk.refl _ _) [] (by simp) ?_
   simp +contextual (maxSteps := 2000000) (disch := omega) [-Int.not_lt, -Int.not_le, -Nat.not_lt, -Nat.not_le, sx, pObs, pAns]
  ·rw [hx] at hJ
   simp only [pAns] at hJ
   simp +contextual (maxSteps := 2000000) (disch := omega) [-Int.not_lt, -Int.not_le, -Nat.not_lt, -Nat.not_le, sx]
   refine aa0 [.e 0] rfl rfl (by simp) ?_
   simp
   have hpO := hJ
   try simp [pObs, al0, ap0] at hpO
   refine af0 hpO ?_
   clear hpO
   simp +contextual (maxSteps := 2000000) (disch := omega) [-Int.not_lt, -Int.not_le, -Nat.not_lt, -Nat.not_le, sx]
   refine endP ?_
   simp +contextual (maxSteps := 2000000) (disch := omega) [-Int.not_lt, -Int.not_le, -Nat.not_lt, -Nat.not_le, sx, pObs, pAns]
 rw [if_neg h5] at hw
 have hlt5 : l < 5 := by omega
 have h5' : ¬ (l : Int) = 5 := by omega
 have hlv := hlive
 rw [<- hw] at hlv
 have hJ := IHb F (by omega) (l + 1) n (by omega) hn (LxR.aC0 hlv).1
 simp +contextual (maxSteps := 2000000) (disch := omega) [-Int.not_lt, -Int.not_le, -Nat.not_lt, -Nat.not_le, sx, h5']
 rcases hx : pBin ts F (l + 1) d n with ⟨x, m⟩ | ⟨a, e⟩
 rotate_left
 ·rw [hx] at hJ hw
  simp only [pAns, LxR.bind] at hJ hw
  subst hw
  refine aa0 [.e 0] rfl rfl (by simp) ?_
  simp
  have hpO := hJ
  try simp [pObs, al0, ap0] at hpO
  refine af0 hpO ?_
  clear hpO
  simp +contextual (maxSteps := 2000000) (disch := omega) [-Int.not_lt, -Int.not_le, -Nat.not_lt, -Nat.not_le, sx]
  refine endP ?_
  simp +contextual (maxSteps := 2000000) (disch := omega) [-Int.not_lt, -Int.not_le, -Nat.not_lt, -Nat.not_le, sx, pObs, pAns]
 have q1 := (ld0 hE F).bin hn hx
 rw [hx] at hJ hw
 simp only [pAns, LxR.bind] at hJ hw
 refine aa0 [.e 0] rfl rfl (by simp) ?_
 simp
 have hpO := hJ
 try simp [pObs, al0, ap0] at hpO
 refine ab0 22 hpO (by simp) ?_
 clear hpO
 simp +contextual (maxSteps := 2000000) (disch := omega) [-Int.not_lt, -Int.not_le, -Nat.not_lt, -Nat.not_le, sx]
 refine aH0 (fun y : Nat × Nat × Exq => y.1) (fun y => [(7, .bp (.l 7 0) 0), (6, .bp (.l 6 0) 0), (0, .bp (.e 0) 0), (1, vI l), (2, vI d)])
  (fun y => [(.e 0, .box [.lst (ts.map Tok.cells), vI y.2.1]), (.l 7 0, .box y.2.2.cells), (.l 6 0, .box zE)])
  (fun y => y.1 <= F /\ y.2.1 < ts.length /\ nK0 ts y.1 l d y.2.2 y.2.1 = R) (F, m, x) ⟨Nat.le_refl _, q1.2, hw⟩ (Wk.subs (by simp) (by simp)) ?_
 rintro ⟨g, n', out⟩ ⟨hg, hn', hw⟩
 dsimp only at hg hn' hw
 obtain _ | g := g
 ·rw [nK0] at hw; subst hw; exact absurd rfl hlive
 rw [nK0] at hw
 simp +contextual (maxSteps := 2000000) (disch := omega) [-Int.not_lt, -Int.not_le, -Nat.not_lt, -Nat.not_le, sx]
 refine aa0 [.e 0] rfl rfl (by simp) ?_
 simp
 have hpO := aT0 hn'
 try simp [pObs, al0, ap0] at hpO
 refine ab0 24 hpO (by simp) ?_
 clear hpO
 have done : eA0 l (tk ts n') = false -> R = .ok (out, n') := fun h => by rw [h] at hw; simpa using hw.symm
 by_cases hk : (tk ts n').kind = 4
 rotate_left
 ·have hR := done (l40 hk)
  rw [hR]
  simp +contextual (maxSteps := 2000000) (disch := omega) [-Int.not_lt, -Int.not_le, -Nat.not_lt, -Nat.not_le, sx, hk]
  refine endR _ _ (Wk.refl _ _) [] (by simp) ?_
  simp +contextual (maxSteps := 2000000) (disch := omega) [-Int.not_lt, -Int.not_le, -Nat.not_lt, -Nat.not_le, sx, pObs, pAns]
 have hin := l30 hlt5 hk
 simp +contextual (maxSteps := 2000000) (disch := omega) [-Int.not_lt, -Int.not_le, -Nat.not_lt, -Nat.not_le, sx, hk]
 refine cR0 ?_; simp; refine ah0 (cV0) (by simp) ?_
 simp +contextual (maxSteps := 2000000) (disch := omega) [-Int.not_lt, -Int.not_le, -Nat.not_lt, -Nat.not_le, sx]
 rw [l50 hlt5]
 simp +contextual (maxSteps := 2000000) (disch := omega) [-Int.not_lt, -Int.not_le, -Nat.not_lt, -Nat.not_le, sx]
 refine ai0 ?_; simp; refine ah0 (iW0 hlt5 (tk ts n').text) (by simp) ?_
 rw [<- hin]
 cases hi : eA0 l (tk ts n') with
 | false =>
  rw [done hi]
  simp +contextual (maxSteps := 2000000) (disch := omega) [-Int.not_lt, -Int.not_le, -Nat.not_lt, -Nat.not_le, sx]
  refine endR _ _ (Wk.refl _ _) [] (by simp) ?_
  simp +contextual (maxSteps := 2000000) (disch := omega) [-Int.not_lt, -Int.not_le, -Nat.not_lt, -Nat.not_le, sx, pObs, pAns]
 | true =>
 have hop : pOps.contains (sB (tk ts n').text) = true := level_op hlt5 (by rw [<- hin]; exact hi)
 rw [hi] at hw
 simp only [if_true] at hw
 have h0 := hE n' hn' (by rw [hk]; decide)
 have hlv := hlive
 rw [<- hw] at hlv
 have hJ2 := IHb g (by omega) (l + 1) (n' + 1) (by omega) h0 (LxR.aC0 hlv).1
 simp +contextual (maxSteps := 2000000) (disch := omega) [-Int.not_lt, -Int.not_le, -Nat.not_lt, -Nat.not_le, sx]
 rcases hx2 : pBin ts g (l + 1) d (n' + 1) with ⟨p, m2⟩ | ⟨a, e⟩
 rotate_left
 ·rw [hx2] at hJ2 hw
  simp only [pAns, LxR.bind] at hJ2 hw
  subst hw
  refine aa0 [.e 0] rfl rfl (by simp) ?_
  simp
  have hpO := hJ2
  try simp [pObs, al0, ap0] at hpO
  refine af0 hpO ?_
  clear hpO
  simp +contextual (maxSteps := 2000000) (disch := omega) [-Int.not_lt, -Int.not_le, -Nat.not_lt, -Nat.not_le, sx]
  refine endP ?_
  simp +contextual (maxSteps := 2000000) (disch := omega) [-Int.not_lt, -Int.not_le, -Nat.not_lt, -Nat.not_le, sx, pObs, pAns]
 rw [hx2] at hJ2 hw
 simp only [pAns, LxR.bind] at hJ2 hw
 have q2 := (ld0 hE g).bin h0 hx2
 refine aa0 [.e 0] rfl rfl (by simp) ?_
 simp
 have hpO := hJ2
 try simp [pObs, al0, ap0] at hpO
 refine ab0 49 hpO (by simp) ?_
 clear hpO
 simp +contextual (maxSteps := 2000000) (disch := omega) [-Int.not_lt, -Int.not_le, -Nat.not_lt, -Nat.not_le, sx]
 refine cR0 ?_; simp; refine ah0 (iL0) (by simp) ?_
 simp +contextual (maxSteps := 2000000) (disch := omega) [-Int.not_lt, -Int.not_le, -Nat.not_lt, -Nat.not_le, sx]
 refine cR0 ?_; simp; refine ah0 (ops_Index (tk ts n').text hop) (by simp) ?_
 have hq : pOps.idxOf (sB (tk ts n').text) < 13 := List.idxOf_lt_length_iff.2 (List.contains_iff_mem.1 hop)
 generalize pOps.idxOf (sB (tk ts n').text) = q at *
 by_cases h2 : l = 2
 ·subst h2
  rw [if_pos rfl] at hw
  simp +contextual (maxSteps := 2000000) (disch := omega) [-Int.not_lt, -Int.not_le, -Nat.not_lt, -Nat.not_le, sx]
  refine aa0 [.e 0] rfl rfl (by simp) ?_
  simp
  have hpO := aT0 q2.2
  try simp [pObs, al0, ap0] at hpO
  refine ab0 64 hpO (by simp) ?_
  clear hpO
  have ends : eA0 2 (tk ts m2) = false -> R = .ok (.mk 15 ((q : Nat) + 1) 0 (bS []) 0 (bS []) [out, p] (tk ts n').at_, m2) := fun h => by rw [h] at hw; simpa using hw.symm
  by_cases hk2 : (tk ts m2).kind = 4
  rotate_left
  ·rw [ends (l40 hk2)]
   simp +contextual (maxSteps := 2000000) (disch := omega) [-Int.not_lt, -Int.not_le, -Nat.not_lt, -Nat.not_le, sx, hk2]
   refine endR _ _ (Wk.refl _ _) [] (by simp) ?_
   rw [pAns, Exq.V, Exq.ac0 (.mk _ _ _ _ _ _ _ _)]
   simp +contextual (maxSteps := 2000000) (disch := omega) [-Int.not_lt, -Int.not_le, -Nat.not_lt, -Nat.not_le, sx, pObs, Exq.kind, Exq.op, Exq.num, Exq.text, Exq.slot, Exq.type, Exq.args, Exq.at_]
  have hin2 := l30 hlt5 hk2
  simp +contextual (maxSteps := 2000000) (disch := omega) [-Int.not_lt, -Int.not_le, -Nat.not_lt, -Nat.not_le, sx, hk2]
  refine cR0 ?_; simp; refine ah0 (cV0) (by simp) ?_
  simp +contextual (maxSteps := 2000000) (disch := omega) [-Int.not_lt, -Int.not_le, -Nat.not_lt, -Nat.not_le, sx]
  rw [l50 hlt5]
  simp +contextual (maxSteps := 2000000) (disch := omega) [-Int.not_lt, -Int.not_le, -Nat.not_lt, -Nat.not_le, sx]
  refine ai0 ?_; simp; refine ah0 (iW0 hlt5 (tk ts m2).text) (by simp) ?_
  rw [<- hin2]
  cases hi2 : eA0 2 (tk ts m2) with
  | false =>
   rw [ends hi2]
   simp +contextual (maxSteps := 2000000) (disch := omega) [-Int.not_lt, -Int.not_le, -Nat.not_lt, -Nat.not_le, sx]
   refine endR _ _ (Wk.refl _ _) [] (by simp) ?_
   rw [pAns, Exq.V, Exq.ac0 (.mk _ _ _ _ _ _ _ _)]
   simp +contextual (maxSteps := 2000000) (disch := omega) [-Int.not_lt, -Int.not_le, -Nat.not_lt, -Nat.not_le, sx, pObs, Exq.kind, Exq.op, Exq.num, Exq.text, Exq.slot, Exq.type, Exq.args, Exq.at_]
  | true =>
   rw [hi2] at hw
   simp only [if_true, e40] at hw
   subst hw
   simp +contextual (maxSteps := 2000000) (disch := omega) [-Int.not_lt, -Int.not_le, -Nat.not_lt, -Nat.not_le, sx]
   refine aa0 [.e 0] rfl rfl (by simp) ?_
   simp
   have hpO := aN0 q2.2 31
   try simp [pObs, al0, ap0] at hpO
   refine af0 hpO ?_
   clear hpO
   simp +contextual (maxSteps := 2000000) (disch := omega) [-Int.not_lt, -Int.not_le, -Nat.not_lt, -Nat.not_le, sx]
   refine endP ?_
   simp +contextual (maxSteps := 2000000) (disch := omega) [-Int.not_lt, -Int.not_le, -Nat.not_lt, -Nat.not_le, sx, pObs, pAns]
 ·rw [if_neg h2] at hw
  have h2' : ¬ (l : Int) = 2 := by omega
  simp +contextual (maxSteps := 2000000) (disch := omega) [-Int.not_lt, -Int.not_le, -Nat.not_lt, -Nat.not_le, sx, h2']
  refine .of (g, m2, .mk 15 ((q : Nat) + 1) 0 (bS []) 0 (bS []) [out, p] (tk ts n').at_) ⟨by dsimp only; omega, q2.2, hw⟩ (by dsimp only; omega) (Wk.frz (.l 57 0) rfl (by simp [V.fz]) ?_)
  rw [Exq.ac0 (.mk _ _ _ _ _ _ _ _)]
  simp [Ob.fz, V.fz, Exq.kind, Exq.op, Exq.num, Exq.text, Exq.slot, Exq.type, Exq.args, Exq.at_]
variable {ts : List Tok}
structure DoesX (ts : List Tok) (f : Nat) : Prop where
 ex : ∀ d n, d <= 25 -> n < ts.length -> (cf0 ts f d n).live -> J prog aV0 [.bp (.e 0) 0, vI d] (pObs ts n) (· = pAns ts Exq.V (cf0 ts f d n))
 bin : ∀ l d n, l <= 5 -> d <= 24 -> n < ts.length -> (pBin ts f l d n).live -> J prog bg0 [.bp (.e 0) 0, vI l, vI d] (pObs ts n) (· = pAns ts Exq.V (pBin ts f l d n))
 un : ∀ d n, d <= 24 -> n < ts.length -> (pUn ts f d n).live -> J prog br0 [.bp (.e 0) 0, vI d] (pObs ts n) (· = pAns ts Exq.V (pUn ts f d n))
theorem expr_step {F d n : Nat} (hd : d <= 25) (hn : n < ts.length)
  (IHb : ∀ g, g < F -> ∀ l d n, l <= 5 -> d <= 24 -> n < ts.length -> (pBin ts g l d n).live -> J prog bg0 [.bp (.e 0) 0, vI l, vI d] (pObs ts n) (· = pAns ts Exq.V (pBin ts g l d n)))
  (hlive : (cf0 ts F d n).live) : J prog aV0 [.bp (.e 0) 0, vI d] (pObs ts n) (· = pAns ts Exq.V (cf0 ts F d n)) := by
 obtain _ | F := F
 ·rw [cf0] at hlive; exact absurd rfl hlive
 generalize hw : cf0 ts (F + 1) d n = R at *
 rw [cf0] at hw
 have hJ := cc0 hn d
 refine aq0 iA0 (by simp [pObs]) ?_
 simp +contextual (maxSteps := 2000000) (disch := omega) [-Int.not_lt, -Int.not_le, -Nat.not_lt, -Nat.not_le, sx, eI0, pObs, hpE]
 by_cases h : d <= 24
 ·rw [mt0 h] at hJ hw
  simp only [LxR.bind] at hJ hw
  subst hw
  have hJ2 := IHb F (by omega) 0 d n (by omega) h hn hlive
  refine aa0 [.e 0] rfl rfl (by simp) ?_
  simp
  have hpO := hJ
  try simp [pObs, al0, ap0] at hpO
  refine ab0 7 hpO (by simp) ?_
  clear hpO
  simp +contextual (maxSteps := 2000000) (disch := omega) [-Int.not_lt, -Int.not_le, -Nat.not_lt, -Nat.not_le, sx]
  rcases hx : pBin ts F 0 d n with ⟨x, m⟩ | ⟨a, e⟩
  ·rw [hx] at hJ2
   simp only [pAns] at hJ2
   refine aa0 [.e 0] rfl rfl (by simp) ?_
   simp
   have hpO := hJ2
   try simp [pObs, al0, ap0] at hpO
   refine ab0 10 hpO (by simp) ?_
   clear hpO
   simp +contextual (maxSteps := 2000000) (disch := omega) [-Int.not_lt, -Int.not_le, -Nat.not_lt, -Nat.not_le, sx]
   refine endR _ _ (Wk.refl _ _) [] (by simp) ?_
   simp +contextual (maxSteps := 2000000) (disch := omega) [-Int.not_lt, -Int.not_le, -Nat.not_lt, -Nat.not_le, sx, pObs, pAns]
  ·rw [hx] at hJ2
   simp only [pAns] at hJ2
   refine aa0 [.e 0] rfl rfl (by simp) ?_
   simp
   have hpO := hJ2
   try simp [pObs, al0, ap0] at hpO
   refine af0 hpO ?_
   clear hpO
   simp +contextual (maxSteps := 2000000) (disch := omega) [-Int.not_lt, -Int.not_le, -Nat.not_lt, -Nat.not_le, sx]
   refine endP ?_
   simp +contextual (maxSteps := 2000000) (disch := omega) [-Int.not_lt, -Int.not_le, -Nat.not_lt, -Nat.not_le, sx, pObs, pAns]
 ·rw [kR0 h] at hJ hw
  simp only [LxR.bind] at hJ hw
  subst hw
  refine aa0 [.e 0] rfl rfl (by simp) ?_
  simp
  have hpO := hJ
  try simp [pObs, al0, ap0] at hpO
  refine af0 hpO ?_
  clear hpO
  simp +contextual (maxSteps := 2000000) (disch := omega) [-Int.not_lt, -Int.not_le, -Nat.not_lt, -Nat.not_le, sx]
  refine endP ?_
  simp +contextual (maxSteps := 2000000) (disch := omega) [-Int.not_lt, -Int.not_le, -Nat.not_lt, -Nat.not_le, sx, pObs, pAns]
theorem doesX (hE : TEnd ts) (hl : ts.length < 2 ^ 40) (f : Nat) : DoesX ts f := by
 induction f using Nat.strongRecOn with
 | ind f ih =>
  refine ⟨fun d n hd hn h => expr_step hd hn (fun g hg l d n => (ih g hg).bin l d n) h,
   fun l d n hl5 hd hn h => kg0 hE hl f l d hl5 hd (fun g hg l n h1 h2 => (ih g hg).bin l d n h1 hd h2) (fun g hg n h2 => (ih g hg).un d n hd h2) hn h,
   fun d n hd hn h => kL0 hE hl f d hd (fun g hg => (ih g hg).ex) (fun g hg => (ih g hg).un) hn h⟩
variable {ts : List Tok} {n : Nat}
structure GoesS (ts : List Tok) (f : Nat) : Prop where
 block : ∀ {d n : Nat} {a : List Stm} {m : Nat}, n < ts.length -> cF0 ts f d n = .ok (a, m) -> n < m /\ m < ts.length
 stms : ∀ {d : Nat} {out : List Stm} {n : Nat} {a : List Stm} {m : Nat}, n < ts.length -> nN0 ts f d out n = .ok (a, m) -> n < m /\ m < ts.length
 stm : ∀ {d n : Nat} {a : Stm} {m : Nat}, n < ts.length -> pStm ts f d n = .ok (a, m) -> n < m /\ m < ts.length
theorem nr0 (hE : TEnd ts) : ∀ f, GoesS ts f
 | 0 => ⟨fun _ h => by simp [cF0] at h, fun _ h => by simp [nN0] at h, fun _ h => by simp [pStm] at h⟩
 | f + 1 => by
  have ih := nr0 hE f
  have ix := ld0 hE f
  refine ⟨fun hn h => ?_, fun hn h => ?_, fun hn h => ?_⟩
  ·rw [cF0] at h
   obtain ⟨_, _, h⟩ := an0 h
   obtain ⟨n1, e1, h⟩ := an0 h
   have q1 := aw0 hE hn e1
   have q2 := ih.stms q1.2 h
   omega
  ·rw [nN0] at h
   split at h
   ·rename_i hi
    have h0 := aM0 hE hn hi (by decide)
    injection h with h; injection h with h1 h2; subst h2; omega
   ·obtain ⟨⟨s, n1⟩, e1, h⟩ := an0 h
    have q1 := ih.stm hn e1
    have q2 := ih.stms q1.2 h
    dsimp only at *; omega
  ·rw [pStm] at h
   split at h
   ·rename_i hi
    have h0 := aM0 hE hn hi (by decide)
    obtain ⟨⟨t, n1⟩, e1, h⟩ := an0 h
    obtain ⟨n2, e2, h⟩ := an0 h
    obtain ⟨⟨x, n3⟩, e3, h⟩ := an0 h
    obtain ⟨n4, e4, h⟩ := an0 h
    have q1 := cG0 hE h0 e1
    have q2 := aw0 hE q1.2 e2
    have q3 := ix.ex q2.2 e3
    have q4 := aw0 hE q3.2 e4
    injection h with h; injection h with h1 h2; subst h2
    dsimp only at *; omega
   split at h
   ·rename_i hi
    have h0 := aM0 hE hn hi (by decide)
    obtain ⟨⟨t, n1⟩, e1, h⟩ := an0 h
    have q1 := cG0 hE h0 e1
    split at h
    ·rename_i hi2
     have h00 := aM0 hE q1.2 hi2 (by decide)
     obtain ⟨⟨x, n3⟩, e3, h⟩ := an0 h
     obtain ⟨n4, e4, h⟩ := an0 h
     obtain ⟨n5, e5, h⟩ := an0 h
     obtain ⟨⟨y, n6⟩, e6, h⟩ := an0 h
     obtain ⟨n7, e7, h⟩ := an0 h
     have q3 := ix.ex h00 e3
     have q4 := aw0 hE q3.2 e4
     have q5 := aw0 hE q4.2 e5
     have q6 := ix.ex q5.2 e6
     have q7 := aw0 hE q6.2 e7
     injection h with h; injection h with h1 h2; subst h2
     dsimp only at *; omega
    ·obtain ⟨n2, e2, h⟩ := an0 h
     obtain ⟨⟨x, n3⟩, e3, h⟩ := an0 h
     obtain ⟨n4, e4, h⟩ := an0 h
     have q2 := aw0 hE q1.2 e2
     have q3 := ix.ex q2.2 e3
     have q4 := aw0 hE q3.2 e4
     injection h with h; injection h with h1 h2; subst h2
     dsimp only at *; omega
   split at h
   ·rename_i hi
    have h0 := aM0 hE hn hi (by decide)
    obtain ⟨⟨t, n1⟩, e1, h⟩ := an0 h
    obtain ⟨n2, e2, h⟩ := an0 h
    obtain ⟨⟨x, n3⟩, e3, h⟩ := an0 h
    obtain ⟨n4, e4, h⟩ := an0 h
    obtain ⟨n5, e5, h⟩ := an0 h
    have q1 := cG0 hE h0 e1
    have q2 := aw0 hE q1.2 e2
    have q3 := ix.ex q2.2 e3
    have q4 := aw0 hE q3.2 e4
    have q5 := aw0 hE q4.2 e5
    injection h with h; injection h with h1 h2; subst h2
    dsimp only at *; omega
   split at h
   ·rename_i hi
    have h0 := aM0 hE hn hi (by decide)
    obtain ⟨⟨x, n1⟩, e1, h⟩ := an0 h
    obtain ⟨⟨b, n2⟩, e2, h⟩ := an0 h
    have q1 := ix.ex h0 e1
    have q2 := ih.block q1.2 e2
    split at h
    ·rename_i hi2
     have h00 := aM0 hE q2.2 hi2 (by decide)
     obtain ⟨⟨c, n3⟩, e3, h⟩ := an0 h
     have q3 := ih.block h00 e3
     injection h with h; injection h with h1 h2; subst h2
     dsimp only at *; omega
    ·injection h with h; injection h with h1 h2; subst h2
     dsimp only at *; omega
   split at h
   ·rename_i hi
    have h0 := aM0 hE hn hi (by decide)
    obtain ⟨⟨t, n1⟩, e1, h⟩ := an0 h
    obtain ⟨n2, e2, h⟩ := an0 h
    obtain ⟨⟨x, n3⟩, e3, h⟩ := an0 h
    obtain ⟨⟨b, n4⟩, e4, h⟩ := an0 h
    have q1 := cG0 hE h0 e1
    have q2 := pWord_lt hE q1.2 e2
    have q3 := ix.ex q2.2 e3
    have q4 := ih.block q3.2 e4
    injection h with h; injection h with h1 h2; subst h2
    dsimp only at *; omega
   split at h
   ·rename_i hi
    have h0 := aM0 hE hn hi (by decide)
    obtain ⟨⟨x, n3⟩, e3, h⟩ := an0 h
    obtain ⟨n4, e4, h⟩ := an0 h
    have q3 := ix.ex h0 e3
    have q4 := aw0 hE q3.2 e4
    injection h with h; injection h with h1 h2; subst h2
    dsimp only at *; omega
   ·cases h
def aE0 (kind : Int) (name : ByteArray) (e body els : V) (at_ : Int) : Ob := .box [vI kind, vS name, vI 0, vB false, vI 0, e, body, els, vI at_]
def a00 (ts : List Tok) (n : Int) (kind : Int) (name : ByteArray) (at_ : Int) : List Ob :=
 [.box [.bp (.e 2) 0], aE0 kind name .nil .nil .nil at_, .box [.lst (ts.map Tok.cells), vI n]]
theorem e50 (hl : ts.length < 2 ^ 40) (hn : n < ts.length) (k : Int) (at_ : Int) :
  J prog cX0 [vI k, .bp (.e 0) 0, .bp (.e 1) 0] (a00 ts n 0 (bS []) at_) (fun r => r = match ed0 ts n with
   | .ok (t, m) => .ret (.tup []) (a00 ts m k t.text at_)
   | .bad a e => .pan (h40 ts a e) (a00 ts a 0 (bS []) at_)) := by
 have hJ := dN0 hn hl
 refine aq0 fy0 (by simp [a00]) ?_
 simp +contextual (maxSteps := 2000000) (disch := omega) [-Int.not_lt, -Int.not_le, -Nat.not_lt, -Nat.not_le, sx, cI0, a00, aE0, hpE]
 rcases hx : ed0 ts n with ⟨t, m⟩ | ⟨a, e⟩
 ·rw [hx] at hJ
  simp only [pAns] at hJ
  refine aa0 [.e 2] rfl rfl (by simp) ?_
  simp
  have hpO := hJ
  try simp [pObs, a00, aE0] at hpO
  refine ab0 6 hpO (by simp) ?_
  clear hpO
  simp +contextual (maxSteps := 2000000) (disch := omega) [-Int.not_lt, -Int.not_le, -Nat.not_lt, -Nat.not_le, sx]
  refine endN _ _ (Wk.refl _ _) [] (by simp) ?_
  simp +contextual (maxSteps := 2000000) (disch := omega) [-Int.not_lt, -Int.not_le, -Nat.not_lt, -Nat.not_le, sx, a00, aE0]
 ·rw [hx] at hJ
  simp only [pAns] at hJ
  refine aa0 [.e 2] rfl rfl (by simp) ?_
  simp
  have hpO := hJ
  try simp [pObs, a00, aE0] at hpO
  refine af0 hpO ?_
  clear hpO
  simp +contextual (maxSteps := 2000000) (disch := omega) [-Int.not_lt, -Int.not_le, -Nat.not_lt, -Nat.not_le, sx]
  refine endP ?_
  simp +contextual (maxSteps := 2000000) (disch := omega) [-Int.not_lt, -Int.not_le, -Nat.not_lt, -Nat.not_le, sx, a00, aE0]
def optV : Option (List (List V)) -> V
 | none => .nil
 | some l => .lst l
def pVal (ts : List Tok) (f d : Nat) (mark : Bs) (n : Nat) : PR Exq := (cf0 ts f (d + 1) n).bind fun p => if mark = [] then .ok p else (ba0 ts p.2 mark).bind fun m => .ok (p.1, m)
def aD0 (ts : List Tok) (n : Int) (kind : Int) (name : ByteArray) (e : V) (at_ : Int) (d : Nat) : List Ob :=
 [aE0 kind name e .nil .nil at_, .box [.bp (.e 3) 0], .box [vI d], .box [.lst (ts.map Tok.cells), vI n]]
theorem cm0 (hE : TEnd ts) (hl : ts.length < 2 ^ 40) (hn : n < ts.length) (f d : Nat) (hd : d <= 24) (mark : Bs) (kind : Int) (name : ByteArray) (at_ : Int) (hlive : (pVal ts f d mark n).live) :
  J prog bE0 [vS (bS mark), .bp (.e 0) 0, .bp (.e 1) 0, .bp (.e 2) 0] (aD0 ts n kind name .nil at_ d) (fun r => match pVal ts f d mark n with
   | .ok (x, m) => r = .ret (.tup []) (aD0 ts m kind name (.arr (.e 4) 0 1) at_ d ++ [.row do0 8 true [x.cells]])
   | .bad a e => ∃ y, r = .pan (h40 ts a e) (aD0 ts a kind name (optV y) at_ d)) := by
 generalize hw : pVal ts f d mark n = R at *
 unfold pVal at hw
 have hlv := hlive
 rw [<- hw] at hlv
 have hJ := (doesX hE hl f).ex (d + 1) n (by omega) hn (LxR.aC0 hlv).1
 refine aq0 cM0 (by simp [aD0]) ?_
 simp +contextual (maxSteps := 2000000) (disch := omega) [-Int.not_lt, -Int.not_le, -Nat.not_lt, -Nat.not_le, sx, bx0, aD0, aE0, hpE]
 rcases hx : cf0 ts f (d + 1) n with ⟨x, m⟩ | ⟨a, e⟩
 ·rw [hx] at hJ hw
  simp only [pAns, LxR.bind] at hJ hw
  have q1 := (ld0 hE f).ex hn hx
  refine aP0 [.e 3] [.e 3] rfl rfl (by simp) ?_
  simp
  have hpO := hJ
  try simp [pObs, a00, aE0, aD0] at hpO
  refine bG0 10 hpO (by simp) ?_
  clear hpO
  simp +contextual (maxSteps := 2000000) (disch := omega) [-Int.not_lt, -Int.not_le, -Nat.not_lt, -Nat.not_le, sx]
  rw [bc0 (e := [vI 0, vI 0, vI 0, vS (bS []), vI 0, vS (bS []), .lst [], vI 0]) rfl]
  simp +contextual (maxSteps := 2000000) (disch := omega) [-Int.not_lt, -Int.not_le, -Nat.not_lt, -Nat.not_le, sx, jk0]
  by_cases hm : mark = []
  ·subst hm
   rw [if_pos rfl] at hw
   subst hw
   simp +contextual (maxSteps := 2000000) (disch := omega) [-Int.not_lt, -Int.not_le, -Nat.not_lt, -Nat.not_le, sx]
   refine endN _ _ (Wk.refl _ _) [.l 13 0] (by simp) ?_
   simp +contextual (maxSteps := 2000000) (disch := omega) [-Int.not_lt, -Int.not_le, -Nat.not_lt, -Nat.not_le, sx, aD0, aE0]
  ·rw [if_neg hm] at hw
   have hm' : ¬ bS mark = bS [] := fun h => hm (congrArg sB h)
   have hm2 : ¬ bS mark = ⟨⟨[]⟩⟩ := hm'
   simp +contextual (maxSteps := 2000000) (disch := omega) [-Int.not_lt, -Int.not_le, -Nat.not_lt, -Nat.not_le, sx, hm]
   have hJ2 := am0 q1.2 hl mark
   rcases hx2 : ba0 ts m mark with m2 | ⟨a, e⟩
   ·rw [hx2] at hJ2 hw
    simp only [ar0, LxR.bind] at hJ2 hw
    subst hw
    refine aa0 [.e 3] rfl rfl (by simp) ?_
    simp
    have hpO := hJ2
    try simp [pObs, a00, aE0, aD0] at hpO
    refine ab0 20 hpO (by simp) ?_
    clear hpO
    simp +contextual (maxSteps := 2000000) (disch := omega) [-Int.not_lt, -Int.not_le, -Nat.not_lt, -Nat.not_le, sx]
    refine endN _ _ (Wk.refl _ _) [.l 13 0] (by simp) ?_
    simp +contextual (maxSteps := 2000000) (disch := omega) [-Int.not_lt, -Int.not_le, -Nat.not_lt, -Nat.not_le, sx, aD0, aE0]
   ·rw [hx2] at hJ2 hw
    simp only [ar0, LxR.bind] at hJ2 hw
    subst hw
    refine aa0 [.e 3] rfl rfl (by simp) ?_
    simp
    have hpO := hJ2
    try simp [pObs, a00, aE0, aD0] at hpO
    refine af0 hpO ?_
    clear hpO
    simp +contextual (maxSteps := 2000000) (disch := omega) [-Int.not_lt, -Int.not_le, -Nat.not_lt, -Nat.not_le, sx]
    refine endP ?_
    simp +contextual (maxSteps := 2000000) (disch := omega) [-Int.not_lt, -Int.not_le, -Nat.not_lt, -Nat.not_le, sx, aD0, aE0]
    exact ⟨some [x.cells], rfl⟩
 ·rw [hx] at hJ hw
  simp only [pAns, LxR.bind] at hJ hw
  subst hw
  refine aP0 [.e 3] [.e 3] rfl rfl (by simp) ?_
  simp
  have hpO := hJ
  try simp [pObs, a00, aE0, aD0] at hpO
  refine cv0 hpO ?_
  clear hpO
  simp +contextual (maxSteps := 2000000) (disch := omega) [-Int.not_lt, -Int.not_le, -Nat.not_lt, -Nat.not_le, sx]
  refine endP ?_
  simp +contextual (maxSteps := 2000000) (disch := omega) [-Int.not_lt, -Int.not_le, -Nat.not_lt, -Nat.not_le, sx, aD0, aE0]
  exact ⟨none, rfl⟩
variable {ts : List Tok} {n : Nat}
theorem bind_assoc {α β γ : Type} (r : LxR α) (f : α -> LxR β) (g : β -> LxR γ) : (r.bind f).bind g = r.bind fun a => (f a).bind g := by cases r <;> rfl
theorem bind_okk {α β : Type} (a : α) (f : α -> LxR β) : (LxR.ok a).bind f = f a := rfl
theorem bind_ok_r {α : Type} (r : LxR α) : r.bind .ok = r := by cases r <;> rfl
theorem h60 (hE : TEnd ts) (hn : n < ts.length) {f d : Nat} {mark : Bs} {x : Exq} {m : Nat} (h : pVal ts f d mark n = .ok (x, m)) : n < m /\ m < ts.length := by
 unfold pVal at h
 obtain ⟨⟨y, n1⟩, e1, h⟩ := an0 h
 have q1 := (ld0 hE f).ex hn e1
 split at h
 ·injection h with h; injection h with h1 h2; subst h2; exact q1
 ·obtain ⟨n2, e2, h⟩ := an0 h
  have q2 := aw0 hE q1.2 e2
  injection h with h; injection h with h1 h2; subst h2
  dsimp only at *; omega
def pStmV (ts : List Tok) (f d n : Nat) : PR Stm :=
  if isT ts n 1 fC0 then (ed0 ts (n + 1)).bind fun t => (ba0 ts t.2 [61]).bind fun n1 => (pVal ts f d [59] n1).bind fun p => .ok (stm0 1 t.1.text [p.1] [] [] (tk ts n).at_, p.2)
  else if isT ts n 1 eC0 then (ed0 ts (n + 1)).bind fun t =>
   if isT ts t.2 4 [91] then (pVal ts f d [93] (t.2 + 1)).bind fun p => (ba0 ts p.2 [61]).bind fun n2 => (pVal ts f d [59] n2).bind fun q => .ok (stm0 2 t.1.text [p.1, q.1] [] [] (tk ts n).at_, q.2)
   else (ba0 ts t.2 [61]).bind fun n1 => (pVal ts f d [59] n1).bind fun p => .ok (stm0 2 t.1.text [p.1] [] [] (tk ts n).at_, p.2)
  else if isT ts n 1 fz0 then (ed0 ts (n + 1)).bind fun t => (ba0 ts t.2 [91]).bind fun n1 => (pVal ts f d [93] n1).bind fun p => (ba0 ts p.2 [59]).bind fun n3 => .ok (stm0 3 t.1.text [p.1] [] [] (tk ts n).at_, n3)
  else if isT ts n 1 kwIf then (pVal ts f d [] (n + 1)).bind fun p => (cF0 ts f (d + 1) p.2).bind fun b =>
   if isT ts b.2 1 cO0 then (cF0 ts f (d + 1) (b.2 + 1)).bind fun c => .ok (stm0 4 (bS []) [p.1] b.1 c.1 (tk ts n).at_, c.2) else .ok (stm0 4 (bS []) [p.1] b.1 [] (tk ts n).at_, b.2)
  else if isT ts n 1 fB0 then (ed0 ts (n + 1)).bind fun t => (mO0 ts t.2 kwTo).bind fun n1 => (pVal ts f d [] n1).bind fun p => (cF0 ts f (d + 1) p.2).bind fun b => .ok (stm0 5 t.1.text [p.1] b.1 [] (tk ts n).at_, b.2)
  else if isT ts n 1 fD0 then (pVal ts f d [59] (n + 1)).bind fun p => .ok (stm0 6 (bS []) [p.1] [] [] (tk ts n).at_, p.2)
  else e40 ts n 31
theorem pVal_nil (f d : Nat) : pVal ts f d [] n = cf0 ts f (d + 1) n := by
 unfold pVal
 simp only [if_true]
 exact bind_ok_r _
theorem pVal_mark (f d : Nat) (c : UInt8) : pVal ts f d [c] n = (cf0 ts f (d + 1) n).bind fun p => (ba0 ts p.2 [c]).bind fun m => .ok (p.1, m) := by
 unfold pVal
 simp only [List.cons_ne_nil, if_false]
theorem pStm_eq (f d : Nat) : pStm ts (f + 1) d n = pStmV ts f d n := by
 rw [pStm, pStmV]
 simp only [pVal_nil, pVal_mark, bind_assoc, bind_okk]
def az0 (ts : List Tok) (n : Int) (kind : Int) (name : ByteArray) (at_ : Int) (d : Nat) (y : Exq) : List Ob :=
 aD0 ts n kind name (.arr (.e 4) 0 1) at_ d ++ [.row do0 8 true [y.cells]]
def ik0 (ts : List Tok) (n : Int) (kind : Int) (name : ByteArray) (at_ : Int) (d : Nat) (y : Exq) : Option (List (List V)) -> List Ob
 | none => az0 ts n kind name at_ d y
 | some l => aD0 ts n kind name (.lst l) at_ d ++ [.gone]
theorem mY0 (hE : TEnd ts) (hl : ts.length < 2 ^ 40) (hn : n < ts.length) (f d : Nat) (hd : d <= 24) (mark : Bs) (kind : Int) (name : ByteArray) (at_ : Int) (y : Exq) (hlive : (pVal ts f d mark n).live) :
  J prog bE0 [vS (bS mark), .bp (.e 0) 0, .bp (.e 1) 0, .bp (.e 2) 0] (az0 ts n kind name at_ d y) (fun r => match pVal ts f d mark n with
   | .ok (x, m) => r = .ret (.tup []) (aD0 ts m kind name (.arr (.e 5) 0 2) at_ d ++ [.gone, .row do0 8 true [y.cells, x.cells]])
   | .bad a e => ∃ z, r = .pan (h40 ts a e) (ik0 ts a kind name at_ d y z)) := by
 generalize hw : pVal ts f d mark n = R at *
 unfold pVal at hw
 have hlv := hlive
 rw [<- hw] at hlv
 have hJ := (doesX hE hl f).ex (d + 1) n (by omega) hn (LxR.aC0 hlv).1
 refine aq0 cM0 (by simp [aD0, az0]) ?_
 simp +contextual (maxSteps := 2000000) (disch := omega) [-Int.not_lt, -Int.not_le, -Nat.not_lt, -Nat.not_le, sx, bx0, aD0, az0, aE0, hpE]
 rcases hx : cf0 ts f (d + 1) n with ⟨x, m⟩ | ⟨a, e⟩
 ·rw [hx] at hJ hw
  simp only [pAns, LxR.bind] at hJ hw
  have q1 := (ld0 hE f).ex hn hx
  refine aP0 [.e 3] [.e 3] rfl rfl (by simp) ?_
  simp
  have hpO := hJ
  try simp [pObs, a00, aE0, aD0, az0] at hpO
  refine bG0 10 hpO (by simp) ?_
  clear hpO
  simp +contextual (maxSteps := 2000000) (disch := omega) [-Int.not_lt, -Int.not_le, -Nat.not_lt, -Nat.not_le, sx]
  rw [bc0 (e := [vI 0, vI 0, vI 0, vS (bS []), vI 0, vS (bS []), .lst [], vI 0]) rfl]
  simp +contextual (maxSteps := 2000000) (disch := omega) [-Int.not_lt, -Int.not_le, -Nat.not_lt, -Nat.not_le, sx, jk0]
  by_cases hm : mark = []
  ·subst hm
   rw [if_pos rfl] at hw
   subst hw
   simp +contextual (maxSteps := 2000000) (disch := omega) [-Int.not_lt, -Int.not_le, -Nat.not_lt, -Nat.not_le, sx]
   refine endN _ _ (Wk.refl _ _) [.l 13 0] (by simp) ?_
   simp +contextual (maxSteps := 2000000) (disch := omega) [-Int.not_lt, -Int.not_le, -Nat.not_lt, -Nat.not_le, sx, aD0, az0, aE0]
  ·rw [if_neg hm] at hw
   simp +contextual (maxSteps := 2000000) (disch := omega) [-Int.not_lt, -Int.not_le, -Nat.not_lt, -Nat.not_le, sx, hm]
   have hJ2 := am0 q1.2 hl mark
   rcases hx2 : ba0 ts m mark with m2 | ⟨a, e⟩
   ·rw [hx2] at hJ2 hw
    simp only [ar0, LxR.bind] at hJ2 hw
    subst hw
    refine aa0 [.e 3] rfl rfl (by simp) ?_
    simp
    have hpO := hJ2
    try simp [pObs, a00, aE0, aD0, az0] at hpO
    refine ab0 20 hpO (by simp) ?_
    clear hpO
    simp +contextual (maxSteps := 2000000) (disch := omega) [-Int.not_lt, -Int.not_le, -Nat.not_lt, -Nat.not_le, sx]
    refine endN _ _ (Wk.refl _ _) [.l 13 0] (by simp) ?_
    simp +contextual (maxSteps := 2000000) (disch := omega) [-Int.not_lt, -Int.not_le, -Nat.not_lt, -Nat.not_le, sx, aD0, az0, aE0]
   ·rw [hx2] at hJ2 hw
    simp only [ar0, LxR.bind] at hJ2 hw
    subst hw
    refine aa0 [.e 3] rfl rfl (by simp) ?_
    simp
    have hpO := hJ2
    try simp [pObs, a00, aE0, aD0, az0] at hpO
    refine af0 hpO ?_
    clear hpO
    simp +contextual (maxSteps := 2000000) (disch := omega) [-Int.not_lt, -Int.not_le, -Nat.not_lt, -Nat.not_le, sx]
    refine endP ?_
    simp +contextual (maxSteps := 2000000) (disch := omega) [-Int.not_lt, -Int.not_le, -Nat.not_lt, -Nat.not_le, sx, aD0, az0, aE0]
    exact ⟨some [y.cells, x.cells], rfl⟩
 ·rw [hx] at hJ hw
  simp only [pAns, LxR.bind] at hJ hw
  subst hw
  refine aP0 [.e 3] [.e 3] rfl rfl (by simp) ?_
  simp
  have hpO := hJ
  try simp [pObs, a00, aE0, aD0, az0] at hpO
  refine cv0 hpO ?_
  clear hpO
  simp +contextual (maxSteps := 2000000) (disch := omega) [-Int.not_lt, -Int.not_le, -Nat.not_lt, -Nat.not_le, sx]
  refine endP ?_
  simp +contextual (maxSteps := 2000000) (disch := omega) [-Int.not_lt, -Int.not_le, -Nat.not_lt, -Nat.not_le, sx, aD0, az0, aE0]
  exact ⟨none, rfl⟩
end Go.Am
end
